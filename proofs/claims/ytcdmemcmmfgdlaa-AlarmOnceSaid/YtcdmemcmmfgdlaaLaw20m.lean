/-
  What is proved here: the law AlarmMoves on heaps ('alarmMoves_ok'). No condition.
-/
import Derived.Test.YtcdmemcmmfgdlaaLaw20a
namespace Go.Proofs.Ytcdmemcmmfgdlaa
open Go.Den Go.Heapq
namespace Alarm
variable {h h0 : Heap} {a : Nat} {R : Value → Heap → Prop} {S : Nat → Prop} {L : List E}

theorem setL_perm (L : List E) (key t : Int) : (setL L key t).Perm ((key, t) :: dropK L key) := insertS_perm _ _
theorem setL_keys {L : List E} {key t k : Int} (hk : k ∈ keys (setL L key t)) : k = key ∨ k ∈ keys L := by
  rcases List.mem_cons.1 ((keys_perm (setL_perm L key t)).mem_iff.1 hk) with e | e
  · exact .inl e
  · obtain ⟨x, hx, rfl⟩ := List.mem_map.1 e
    exact .inr (List.mem_map_of_mem (List.mem_filter.1 hx).1)
theorem setL_mem (L : List E) (key t : Int) : (key, t) ∈ setL L key t := (setL_perm L key t).mem_iff.2 List.mem_cons_self
/-- set twice: the first is gone -/
theorem setL_twice {L : List E} {key : Int} (t u : Int) (hk : key ∉ keys L) : (setL (setL L key t) key u).Perm ((key, u) :: L) := by
  refine (setL_perm _ _ _).trans (List.Perm.cons _ ?_)
  have := dropK_perm (setL_perm L key t) key
  rw [dropK_none hk] at this
  refine this.trans ?_
  have : dropK ((key, t) :: L) key = dropK L key := by unfold dropK; rw [List.filter_cons]; simp
  rw [this, dropK_none hk]
theorem key_unique {L : List E} (nd : (keys L).Nodup) {x y : E} (hx : x ∈ L) (hy : y ∈ L) (he : x.1 = y.1) : x = y := by
  have h1 := lookK_some nd hx
  have h2 := lookK_some nd hy
  rw [he, h2] at h1
  exact Prod.ext he (Option.some.inj h1).symm
theorem keys_take_succ {L : List E} {j : Nat} (hj : j < L.length) (k : Int) : k ∈ keys (L.take (j + 1)) ↔ k ∈ keys (L.take j) ∨ (at_ L j).1 = k := by
  have : L.take (j + 1) = L.take j ++ [at_ L j] := by rw [at_get hj]; exact (List.take_append_getElem hj).symm
  rw [this]; simp [keys, eq_comm]

def mvI (h0 : Heap) (a : Nat) (i : Int) (h : Heap) : Prop := ∃ k S L, i = ((k : Nat) : Int) ∧ k ≤ 60 ∧ Has h0 h a S L ∧ L.length ≤ k ∧ ∀ x ∈ keys L, 1000 ≤ x ∧ x < 1000 + k

theorem alarmMoves_ok (key a b : Int) (p : Option Addr) (l c : Nat) (_ : (Lit.int .i64 key).wf = true) (wa : (Lit.int .u64 a).wf = true) (wb : (Lit.int .u64 b).wf = true) (hops : RokV Try.prog h T.s_uint16 (.slice p l c)) :
    LawH Try.prog F.law20_AlarmMoves #[.int .i64 key, .int .u64 a, .int .u64 b, .slice p l c] h := by
  obtain ⟨xs, rfl, hrow, hwf⟩ := RokV.ints (k := .u16) (e := T.uint16) (by kernel_rfl) (by kernel_rfl) (by kernel_rfl) hops
  clear hops
  have wa := (wf_u64 wa).1
  have wb := (wf_u64 wb).1
  unfold LawH
  generalize hR : (fun (v : Value) h' => v = .bool true ∧ Fr (fun _ => False) h h') = R
  have hk : ∀ h', Fr (fun _ => False) h h' → R (.bool true) h' := fun h' hf => by rw [← hR]; exact ⟨rfl, hf⟩
  clear hR
  refine law20_AlarmMoves.walk (new_has fun x S1 h1 H1 => ⟨_, rfl, ?_⟩)
  refine ⟨mvI h x, fun i _ => 60 - i.toNat, ⟨0, S1, [], rfl, by omega, H1, by simp, fun k hk => by cases hk⟩, ?_⟩
  rintro i h2 ⟨k, S2, L, rfl, hk2, H2, hL, hkeys⟩
  refine JoinP.of fun J hJ => ?_
  have fin : J false h2 := by
    subst hJ
    simp only [Bool.false_eq_true, if_false]
    refine len_ok H2.al ⟨_, rfl, ?_⟩
    refine JoinP.of fun J1 hJ1 => ?_
    have out : ∀ h', Fr (fun _ => False) h h' → J1 true h' := fun h' f' => by
      subst hJ1
      simp only [if_true]
      exact alive_ok fun h6 f6 => ⟨_, rfl, hk h6 (Fr.tt f' f6)⟩
    refine set_has H2 (by omega) key a wa (fun hm h3 S3 H3 _ _ => ⟨_, rfl, ?_⟩) (fun hm => ⟨_, rfl, ?_⟩)
    · simp only [bne_self_eq_false, Bool.false_eq_true, if_false]
      have main : ¬ (key ≥ 1000 ∧ key < 1060) → J1 false h3 := by
        intro hnot
        clear out
        subst hJ1
        simp only [Bool.false_eq_true, if_false]
        have kn : key ∉ keys L := fun hx => by have := hkeys key hx; omega
        have hl3 := setL_len L key a
        refine set_has H3 (by omega) key b wb (fun hm2 h4 S4 H4 _ _ => ⟨_, rfl, ?_⟩) (fun hm2 => ⟨_, rfl, ?_⟩)
        · simp only [bne_self_eq_false, Bool.false_eq_true, if_false]
          have nd := H4.al.nodup
          have pm := setL_twice a b kn
          have hmem := setL_mem (setL L key a) key b
          have hl4 : (setL (setL L key a) key b).length = L.length + 1 := by rw [pm.length_eq]; simp
          generalize setL (setL L key a) key b = L4 at H4 nd pm hmem hl4
          refine at_ok H4.al key ⟨_, _, rfl, ?_⟩
          rw [lookK_some nd hmem]
          simp only [Option.getD_some, Option.isSome_some, Bool.not_true]
          refine JoinP.of fun J2 hJ2 => len_ok H4.al ⟨_, rfl, ?_⟩
          rw [wrap_id (by omega) (by omega), hl4]
          have e1 : (((L.length + 1 : Nat) : Int) != (L.length : Int) + 1) = false := by simp
          simp only [e1, bne_self_eq_false, Bool.false_eq_true, if_false]
          subst hJ2
          simp only [Bool.false_eq_true, if_false]
          refine ring_has H4 (by omega) a fun h5 p5 c5 H5 o5 g5 f5 => ⟨_, _, _, rfl, ?_⟩
          have dl := due_len L4 a
          have key_due : key ∈ keys (due L4 a) ↔ b ≤ a := by
            constructor
            · intro hx
              obtain ⟨e, he, e1⟩ := List.mem_map.1 hx
              have h2 := (due_mem H4.al.sorted a e).1 he
              have := key_unique nd h2.1 hmem e1
              subst this
              exact h2.2
            · intro hx
              exact List.mem_map_of_mem (f := (·.1)) ((due_mem H4.al.sorted a (key, b)).2 ⟨hmem, hx⟩)
          refine ⟨fun d i h' => ∃ j : Nat, i = j ∧ j ≤ (due L4 a).length ∧ (d = true ↔ key ∈ keys ((due L4 a).take j)) ∧ h' = h5, fun _ i _ => (due L4 a).length - i.toNat, ⟨0, rfl, by omega, by simp [keys], rfl⟩, ?_⟩
          rintro d _ h5 ⟨j, rfl, hj, hd, rfl⟩
          by_cases hjl : j < (due L4 a).length
          · have hjl' : (j : Int) < ((due L4 a).length : Int) := by omega
            simp only [hjl', decide_true, if_true, Int.toNat_natCast]
            rw [wrap_id (n := (j : Int) + 1) (by omega) (by omega)]
            simp only [JoinP]
            have hm : (due L4 a).length - Int.toNat ((j : Int) + 1) < (due L4 a).length - Int.toNat (j : Int) := by omega
            cases d with
            | true =>
              simp only [if_true]
              exact ⟨⟨j + 1, by omega, by omega, ⟨fun _ => (keys_take_succ hjl key).2 (.inl (hd.1 rfl)), fun _ => by trivial⟩, by trivial⟩, hm⟩
            | false =>
              simp only [Bool.false_eq_true, if_false]
              obtain ⟨ad, rfl, cj⟩ := key_at o5 hjl
              refine ⟨⟨by omega, trivial⟩, onSome_some.2 ⟨_, cj, ⟨j + 1, by omega, by omega, ?_, by trivial⟩, hm⟩⟩
              rw [keys_take_succ hjl key, ← hd]
              simp
          · have hjl' : ¬ (j : Int) < ((due L4 a).length : Int) := by omega
            simp only [hjl', decide_false, Bool.false_eq_true, if_false]
            rw [List.take_of_length_le (by omega), key_due] at hd
            have e2 : (!(d == decide (b ≤ a))) = false := by
              by_cases hba : b ≤ a
              · have : d = true := hd.2 hba
                simp [this, hba]
              · have : d = false := by cases d; rfl; exact absurd (hd.1 rfl) hba
                simp [this, hba]
            simp only [e2, Bool.false_eq_true, if_false]
            refine set_has H5 (by omega) key b wb (fun _ h6 S6 H6 _ _ => ⟨_, rfl, ?_⟩) (fun hf => by rw [hf] at hm2; cases hm2)
            have l6 := setL_len (rest L4 a) key b
            have hin : key ∈ keys (setL (rest L4 a) key b) := List.mem_map_of_mem (f := (·.1)) (setL_mem _ key b)
            refine drop_has H6 (by omega) key (fun _ h7 H7 _ => ⟨_, rfl, ?_⟩) (fun hno => absurd hin hno)
            have l7 := dropK_len (setL (rest L4 a) key b) key
            have k7 := dropK_keys (setL (rest L4 a) key b) key
            generalize dropK (setL (rest L4 a) key b) key = L7 at H7 l7 k7
            refine ring_has H7 (by omega) _ fun h8 p8 c8 H8 o8 g8 f8 => ⟨_, _, _, rfl, ?_⟩
            obtain ⟨d1, d2⟩ := due_all H7.al.good
            rw [d1] at o8 ⊢
            rw [d2] at H8
            refine ⟨fun i h' => ∃ j : Nat, i = j ∧ j ≤ L7.length ∧ h' = h8, fun i _ => L7.length - i.toNat, ⟨0, rfl, by omega, rfl⟩, ?_⟩
            rintro _ h8 ⟨j, rfl, hj, rfl⟩
            by_cases hjl : j < L7.length
            · have hjl' : (j : Int) < (L7.length : Int) := by omega
              simp only [hjl', decide_true, if_true, Int.toNat_natCast]
              rw [wrap_id (n := (j : Int) + 1) (by omega) (by omega)]
              obtain ⟨ad, rfl, cj⟩ := key_at o8 hjl
              refine ⟨⟨by omega, trivial⟩, onSome_some.2 ⟨_, cj, ?_⟩⟩
              have : ((at_ L7 j).1 == key) = false := by
                rw [beq_eq_false_iff_ne]
                intro e
                exact k7 (e ▸ List.mem_map_of_mem (at_mem hjl))
              simp only [this, Bool.false_eq_true, if_false]
              exact ⟨⟨j + 1, by omega, by omega, by trivial⟩, by show L7.length - Int.toNat ((j : Int) + 1) < L7.length - Int.toNat (j : Int); omega⟩
            · have hjl' : ¬ (j : Int) < (L7.length : Int) := by omega
              simp only [hjl', decide_false, Bool.false_eq_true, if_false]
              refine alive_ok fun h9 f9 => ⟨_, rfl, ?_⟩
              simp only [if_true]
              exact len_ok (H8.on f9).al ⟨_, rfl, hk h9 (Fr.tt H8.fr f9)⟩
        · simp only [show ((1 : Int) != 0) = true by decide, if_true]
          exact alive_ok fun h6 f6 => ⟨_, rfl, hk h6 (Fr.tt H3.fr f6)⟩
      by_cases h1000 : key ≥ 1000
      · simp only [h1000, decide_true, if_true]
        by_cases h1060 : key < 1060
        · simp only [h1060, decide_true]
          exact out h3 H3.fr
        · simp only [h1060, decide_false]
          exact main fun hc => h1060 hc.2
      · simp only [h1000, decide_false, Bool.false_eq_true, if_false]
        exact main fun hc => h1000 hc.1
    · simp only [show ((1 : Int) != 0) = true by decide, if_true]
      exact out h2 H2.fr
  by_cases hlt : k < xs.length
  · have hlt' : (k : Int) < (xs.length : Int) := by omega
    simp only [hlt', decide_true, if_true]
    by_cases hlt2 : k < 60
    · have hlt2' : (k : Int) < 60 := by omega
      simp only [hlt2', decide_true]
      clear fin
      subst hJ
      simp only [if_true, Int.toNat_natCast, hlt']
      rw [wrap_id (n := (k : Int) + 1) (by omega) (by omega), wrap_id (n := 1000 + (k : Int)) (by omega) (by omega)]
      obtain ⟨ad, rfl, cj⟩ := row_int_at (row_mono hrow H2.fr) hlt
      have hw := wf_u16 (hwf _ (getD_mem hlt))
      refine ⟨⟨by omega, trivial⟩, onSome_some.2 ⟨_, cj, ?_⟩⟩
      rw [wrap_u64 hw.1 (by omega)]
      have mm : may (1000 + (k : Int)) (xs.getD k 0) = true := may_iff.2 ⟨by omega, by omega, by omega⟩
      refine set_has H2 (by omega) _ _ hw.1 (fun _ h' S' H' _ _ => ⟨_, rfl, ⟨k + 1, S', _, by omega, by omega, H', ?_, ?_⟩, ?_⟩) (fun hf => by rw [hf] at mm; cases mm)
      · have := setL_len L (1000 + (k : Int)) (xs.getD k 0); omega
      · intro y hy
        rcases setL_keys hy with rfl | hy
        · omega
        · have := hkeys y hy; omega
      · show 60 - Int.toNat ((k : Int) + 1) < 60 - Int.toNat (k : Int); omega
    · simp only [show ¬ (k : Int) < 60 by omega, decide_false]
      exact fin
  · simp only [show ¬ (k : Int) < (xs.length : Int) by omega, decide_false, Bool.false_eq_true, if_false]
    exact fin
end Alarm
theorem alarmMoves_ok {h : Heap} (key a b : Int) (p : Option Addr) (l c : Nat) (w1 : (Lit.int .i64 key).wf = true) (wa : (Lit.int .u64 a).wf = true) (wb : (Lit.int .u64 b).wf = true) (hops : RokV Try.prog h T.s_uint16 (.slice p l c)) :
    LawH Try.prog F.law20_AlarmMoves #[.int .i64 key, .int .u64 a, .int .u64 b, .slice p l c] h := Alarm.alarmMoves_ok key a b p l c w1 wa wb hops
end Go.Proofs.Ytcdmemcmmfgdlaa
