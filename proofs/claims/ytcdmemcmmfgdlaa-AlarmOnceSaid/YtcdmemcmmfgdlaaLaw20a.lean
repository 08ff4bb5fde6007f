/-
  What is proved here: the laws AlarmAll and AlarmMoves on heaps ('alarmAll_ok', 'alarmMoves_ok'). No condition.
-/
import Derived.Test.YtcdmemcmmfgdlaaRing
namespace Go.Proofs.Ytcdmemcmmfgdlaa
open Go.Den Go.Heapq
namespace Alarm
variable {h h0 : Heap} {a : Nat} {R : Value → Heap → Prop} {S : Nat → Prop} {L : List E}

/-- an alarm that was made behind h0; nothing of h0 is changed -/
structure Has (h0 h : Heap) (a : Nat) (S : Nat → Prop) (L : List E) : Prop where
  al : Al h a S L
  ge : ∀ c, S c → h0.size ≤ c
  fr : Fr (fun _ => False) h0 h
theorem Has.on {h' : Heap} (H : Has h0 h a S L) (f : Fr (fun _ => False) h h') : Has h0 h' a S L := ⟨H.al.frame f fun _ _ => id, H.ge, Fr.tt H.fr f⟩
theorem new_has (hk : ∀ a S h', Has h h' a S [] → R (.pointer (some ⟨a, 0, none⟩)) h') : CallsH Try.prog F.alarm_New #[] h R :=
  new_ok fun a S h' A g f => hk a S h' ⟨A, g, f⟩
theorem set_has (H : Has h0 h a S L) (hn : L.length < 999999) (key t : Int) (ht : 0 ≤ t)
    (k1 : may key t = true → ∀ h' S', Has h0 h' a S' (setL L key t) → Fr S h h' → (∀ c, S' c → S c ∨ h.size ≤ c) → R (.int .i64 0) h')
    (k2 : may key t = false → R (.int .i64 1) h) : CallsH Try.prog F.alarm_Alarm_Set #[.pointer (some ⟨a, 0, none⟩), .int .i64 key, .int .u64 t] h R :=
  set_ok H.al hn key t ht (fun hm h' S' A' g' f' => k1 hm h' S' ⟨A', fun c hc => by
    rcases g' c hc with hx | hx
    · exact H.ge c hx
    · have := H.fr.1; omega, H.fr.step f' fun c hc hx => by have := H.ge c hx; omega⟩ f' g') k2
theorem drop_has (H : Has h0 h a S L) (hn : L.length < 1000000) (key : Int)
    (k1 : key ∈ keys L → ∀ h', Has h0 h' a S (dropK L key) → Fr S h h' → R (.int .i64 0) h')
    (k2 : key ∉ keys L → R (.int .i64 4) h) : CallsH Try.prog F.alarm_Alarm_Drop #[.pointer (some ⟨a, 0, none⟩), .int .i64 key] h R :=
  drop_ok H.al hn key (fun hm h' A' f' => k1 hm h' ⟨A', H.ge, H.fr.step f' fun c hc hx => by have := H.ge c hx; omega⟩ f') k2
theorem ring_has (H : Has h0 h a S L) (hn : L.length < 999999) (now : Int)
    (hk : ∀ h' p' cap', Has h0 h' a S (rest L now) → Own h' p' (due L now).length cap' 1 (kc (due L now)) → (∀ c, inBlk p' c → h.size ≤ c) → Fr S h h' → R (.slice p' (due L now).length cap') h') :
    CallsH Try.prog F.alarm_Alarm_Ring #[.pointer (some ⟨a, 0, none⟩), .int .u64 now] h R :=
  ring_ok H.al hn now fun h' p' cap' A' o' g' f' => hk h' p' cap' ⟨A', H.ge, H.fr.step f' fun c hc hx => by have := H.ge c hx; omega⟩ o' g' f'

theorem due_append (L : List E) (now : Int) : due L now ++ rest L now = L := List.takeWhile_append_dropWhile
theorem due_len (L : List E) (now : Int) : (due L now).length + (rest L now).length = L.length := by
  rw [← List.length_append, due_append]
theorem due_mem (hs : Sorted L) (now : Int) (e : E) : e ∈ due L now ↔ e ∈ L ∧ e.2 ≤ now := by
  induction L with
  | nil => simp [due]
  | cons x L ih =>
    have ih := ih (List.pairwise_cons.1 hs).2
    unfold due at ih ⊢
    rw [List.takeWhile_cons]
    by_cases hx : x.2 ≤ now
    · have e1 : isDue now x = true := decide_eq_true hx
      rw [if_pos e1, List.mem_cons, ih, List.mem_cons]
      constructor
      · rintro (rfl | ⟨h1, h2⟩)
        · exact ⟨.inl rfl, hx⟩
        · exact ⟨.inr h1, h2⟩
      · rintro ⟨rfl | h1, h2⟩
        · exact .inl rfl
        · exact .inr ⟨h1, h2⟩
    · have e1 : ¬ isDue now x = true := by simp [isDue, hx]
      rw [if_neg e1]
      constructor
      · intro hm; cases hm
      · rintro ⟨hm, h2⟩
        rcases List.mem_cons.1 hm with rfl | hm
        · exact absurd h2 hx
        · have := (List.pairwise_cons.1 hs).1 e hm
          unfold lt at this; omega

/-! ### the calls that a law is handed -/
def encO (o : Int × Int × Int) : List Value := [.int .i64 o.1, .int .i64 o.2.1, .int .u64 o.2.2]
theorem ops_read {p : Option Addr} {len cap : Nat} (hv : RokV Try.prog h T.s_law20_Op (.slice p len cap)) : ∃ ops : List (Int × Int × Int), ops.length = len ∧ Row h p (ops.flatMap encO) ∧ ∀ o ∈ ops, 0 ≤ o.2.2 := by
  obtain ⟨xs, h1, _, _, h2, h3⟩ := RokV.slice (e := T.law20_Op) encO 3 (fun o => 0 ≤ o.2.2) (by kernel_rfl) (fun _ => rfl) (fun n cs' hl hr => by
    have hh := tleaves_ok 5 n _ [T.int, T.int, T.uint64] cs' (by kernel_rfl) (by simpa using hl) hr
    match cs', hl with
    | [v0, v1, v2], _ =>
      obtain ⟨z, rfl, wz⟩ := hh.int (k := .i64) 0 rfl rfl (by kernel_rfl)
      obtain ⟨x, rfl, wx⟩ := hh.int (k := .i64) 1 rfl rfl (by kernel_rfl)
      obtain ⟨y, rfl, wy⟩ := hh.int (k := .u64) 2 rfl rfl (by kernel_rfl)
      exact ⟨(z, x, y), rfl, (wf_u64 wy).1⟩) (by kernel_rfl) hv
  exact ⟨xs, h1, h2, h3⟩
theorem op_at {p : Option Addr} {ops : List (Int × Int × Int)} (hr : Row h p (ops.flatMap encO)) {i : Nat} {o : Int × Int × Int} (ho : ops[i]? = some o) :
    ∃ a, p = some a ∧ hcell h (a.add (i * 3)) = some (.int .i64 o.1) ∧ hcell h ((a.add (i * 3)).add 1) = some (.int .i64 o.2.1) ∧ hcell h ((a.add (i * 3)).add 2) = some (.int .u64 o.2.2) := by
  have c0 := flat_at encO 3 (fun _ => rfl) ops i o ho 0 _ rfl
  have c1 := flat_at encO 3 (fun _ => rfl) ops i o ho 1 _ rfl
  have c2 := flat_at encO 3 (fun _ => rfl) ops i o ho 2 _ rfl
  obtain ⟨a, rfl⟩ := hr.some (fun e => by rw [e] at c0; simp at c0)
  refine ⟨a, rfl, hr.cell c0, ?_, ?_⟩
  · rw [add_add]; exact hr.cell c1
  · rw [add_add]; exact hr.cell c2

def stI (h0 : Heap) (a n : Nat) (i : Int) (h : Heap) : Prop := ∃ k S L, i = ((k : Nat) : Int) ∧ k ≤ n ∧ Has h0 h a S L ∧ L.length ≤ k

theorem row_mono {p : Option Addr} {cs : List Value} {h' : Heap} (hr : Row h p cs) (f : Fr (fun _ => False) h h') : Row h' p cs := hr.frame f fun _ _ => id

theorem alarmAll_ok (ops_p : Option Addr) (ops_l ops_c : Nat) (hops : RokV Try.prog h T.s_law20_Op (.slice ops_p ops_l ops_c)) :
    LawH Try.prog F.law20_AlarmAll #[.slice ops_p ops_l ops_c] h := by
  obtain ⟨ops, rfl, hrow, hwf⟩ := ops_read hops
  clear hops
  unfold LawH
  generalize hR : (fun (v : Value) h' => v = .bool true ∧ Fr (fun _ => False) h h') = R
  have hk : ∀ h', Fr (fun _ => False) h h' → R (.bool true) h' := fun h' hf => by rw [← hR]; exact ⟨rfl, hf⟩
  clear hR
  refine law20_AlarmAll.walk (new_has fun a S1 h1 H1 => ⟨_, rfl, ?_⟩)
  refine ⟨stI h a 100, fun i _ => 100 - i.toNat, ⟨0, S1, [], rfl, by omega, H1, by simp⟩, ?_⟩
  rintro i h2 ⟨k, S2, L, rfl, hk2, H2, hL⟩
  refine JoinP.of fun J hJ => ?_
  have fin : J false h2 := by
    subst hJ
    simp only [Bool.false_eq_true, if_false]
    have nd := H2.al.nodup
    have so := H2.al.sorted
    refine all_ok H2.al (by omega) fun h3 p3 c3 o3 g3 f3 => ⟨_, _, _, rfl, ?_⟩
    have H3 := H2.on f3
    refine len_ok H3.al ⟨_, rfl, ?_⟩
    simp only [bne_self_eq_false, Bool.false_eq_true, if_false]
    refine ⟨fun i h' => ∃ j : Nat, i = j ∧ j ≤ L.length ∧ h' = h3, fun i _ => L.length - i.toNat, ⟨0, rfl, by omega, rfl⟩, ?_⟩
    rintro _ h3 ⟨j, rfl, hj, rfl⟩
    by_cases hjl : j < L.length
    · have hjl' : (j : Int) < (L.length : Int) := by omega
      simp only [hjl', decide_true, if_true, Int.toNat_natCast]
      rw [wrap_id (n := (j : Int) + 1) (by omega) (by omega)]
      refine JoinP.of fun J6 hJ6 => ?_
      have go : J6 h3 := by
        subst hJ6
        exact ⟨⟨j + 1, by omega, by omega, by trivial⟩, by show L.length - Int.toNat ((j : Int) + 1) < L.length - Int.toNat (j : Int); omega⟩
      obtain ⟨ad, rfl, cj⟩ := key_at o3 hjl
      refine ⟨⟨by omega, trivial⟩, onSome_some.2 ⟨_, cj, at_ok H3.al _ ⟨_, _, rfl, ?_⟩⟩⟩
      rw [lookK_some nd (at_mem hjl)]
      simp only [Option.isSome_some, Bool.not_true, Bool.false_eq_true, if_false, Option.getD_some]
      by_cases hj0 : j = 0
      · subst hj0
        exact go
      · have hj0' : ((j : Int) == 0) = false := by simp; omega
        simp only [hj0', Bool.false_eq_true, if_false]
        rw [show IntKind.wrap .i64 ((j : Int) - 1) = ((j - 1 : Nat) : Int) by rw [wrap_id (by omega) (by omega)]; omega]
        simp only [Int.toNat_natCast]
        obtain ⟨_, e, cj1⟩ := key_at o3 (i := j - 1) (by omega)
        cases e
        refine ⟨⟨by omega, by omega⟩, onSome_some.2 ⟨_, cj1, at_ok H3.al _ ⟨_, _, rfl, ?_⟩⟩⟩
        rw [lookK_some nd (at_mem (j := j - 1) (by omega))]
        simp only [Option.getD_some]
        refine JoinP.of fun J7 hJ7 => ?_
        have go7 : J7 false h3 := by subst hJ7; exact go
        have hlt : lt (at_ L (j - 1)) (at_ L j) := by
          rw [at_get (by omega), at_get hjl]
          exact List.pairwise_iff_getElem.1 so (j - 1) j (by omega) hjl (by omega)
        have n1 : ¬ (at_ L (j - 1)).2 > (at_ L j).2 := by unfold lt at hlt; omega
        simp only [n1, decide_false, Bool.false_eq_true, if_false]
        by_cases he : (at_ L (j - 1)).2 = (at_ L j).2
        · rw [he]
          simp only [beq_self_eq_true, if_true]
          refine ⟨⟨by omega, by omega⟩, onSome_some.2 ⟨_, cj1, ⟨by omega, trivial⟩, onSome_some.2 ⟨_, cj, ?_⟩⟩⟩
          have n2 : ¬ (at_ L (j - 1)).1 ≥ (at_ L j).1 := by unfold lt at hlt; omega
          simp only [n2, decide_false]
          exact go7
        · simp only [beq_eq_false_iff_ne.2 he, Bool.false_eq_true, if_false]
          exact go7
    · have hjl' : ¬ (j : Int) < (L.length : Int) := by omega
      simp only [hjl', decide_false, Bool.false_eq_true, if_false]
      refine ring_has H3 (by omega) _ fun h5 p5 c5 H5 o5 g5 f5 => ⟨_, _, _, rfl, ?_⟩
      rw [(due_all H3.al.good).1] at o5 ⊢
      simp only [bne_self_eq_false, Bool.false_eq_true, if_false]
      have o3' := o3.frame f5 fun c hc hx => by have := g3 c hc; have := H2.al.lt hx; omega
      refine ⟨fun i h' => ∃ j : Nat, i = j ∧ j ≤ L.length ∧ h' = h5, fun i _ => L.length - i.toNat, ⟨0, rfl, by omega, rfl⟩, ?_⟩
      rintro _ h3 ⟨j, rfl, hj, rfl⟩
      by_cases hjl : j < L.length
      · have hjl' : (j : Int) < (L.length : Int) := by omega
        simp only [hjl', decide_true, if_true, Int.toNat_natCast]
        rw [wrap_id (n := (j : Int) + 1) (by omega) (by omega)]
        obtain ⟨ad, rfl, cj⟩ := key_at o3' hjl
        obtain ⟨ae, rfl, ck⟩ := key_at o5 hjl
        refine ⟨⟨by omega, trivial⟩, onSome_some.2 ⟨_, ck, ⟨by omega, trivial⟩, onSome_some.2 ⟨_, cj, ?_⟩⟩⟩
        simp only [bne_self_eq_false, Bool.false_eq_true, if_false]
        exact ⟨⟨j + 1, by omega, by omega, by trivial⟩, by show L.length - Int.toNat ((j : Int) + 1) < L.length - Int.toNat (j : Int); omega⟩
      · have hjl' : ¬ (j : Int) < (L.length : Int) := by omega
        simp only [hjl', decide_false, Bool.false_eq_true, if_false]
        refine alive_ok fun h6 f6 => ⟨_, rfl, ?_⟩
        simp only [if_true]
        refine all_nil fun h7 p7 c7 f7 => ⟨_, _, _, rfl, hk h7 (Fr.tt (Fr.tt H5.fr f6) f7)⟩
  by_cases hlt : k < ops.length
  · have hlt' : (k : Int) < (ops.length : Int) := by omega
    simp only [hlt', decide_true, if_true]
    by_cases hlt2 : k < 100
    · have hlt2' : (k : Int) < 100 := by omega
      simp only [hlt2', decide_true]
      clear fin
      subst hJ
      simp only [if_true, Int.toNat_natCast, hlt']
      rw [wrap_id (n := (k : Int) + 1) (by omega) (by omega)]
      refine JoinP.of fun J1 hJ1 => ?_
      have go : ∀ h' S' L', Has h h' a S' L' → L'.length ≤ k + 1 → J1 h' := by
        intro h' S' L' H' hl'
        subst hJ1
        exact ⟨⟨k + 1, S', L', by omega, by omega, H', hl'⟩, by show 100 - Int.toNat ((k : Int) + 1) < 100 - Int.toNat (k : Int); omega⟩
      clear hJ1
      obtain ⟨o, ho⟩ : ∃ o, ops[k]? = some o := ⟨_, List.getElem?_eq_getElem hlt⟩
      have hw := hwf o (List.mem_of_getElem? ho)
      obtain ⟨ad, rfl, c0, c1, c2⟩ := op_at (row_mono hrow H2.fr) ho
      refine ⟨⟨by omega, trivial⟩, onSome_some.2 ⟨_, c0, ?_⟩⟩
      simp only [JoinP]
      by_cases e0 : o.1 = 0
      · simp only [e0, beq_self_eq_true, if_true]
        refine ⟨⟨by omega, trivial⟩, onSome_some.2 ⟨_, c1, ⟨by omega, trivial⟩, onSome_some.2 ⟨_, c2, ?_⟩⟩⟩
        refine set_has H2 (by omega) _ _ hw (fun _ h' S' H' _ _ => ⟨_, rfl, go h' S' _ H' ?_⟩) (fun _ => ⟨_, rfl, go h2 S2 L H2 (by omega)⟩)
        have := setL_len L o.2.1 o.2.2; omega
      · simp only [beq_eq_false_iff_ne.2 e0, Bool.false_eq_true, if_false]
        by_cases e1 : o.1 = 1
        · simp only [e1, beq_self_eq_true, if_true]
          refine ⟨⟨by omega, trivial⟩, onSome_some.2 ⟨_, c1, ?_⟩⟩
          refine drop_has H2 (by omega) _ (fun _ h' H' _ => ⟨_, rfl, go h' S2 _ H' ?_⟩) (fun _ => ⟨_, rfl, go h2 S2 L H2 (by omega)⟩)
          have := dropK_len L o.2.1; omega
        · simp only [beq_eq_false_iff_ne.2 e1, Bool.false_eq_true, if_false]
          by_cases e2 : o.1 = 2
          · simp only [e2, beq_self_eq_true, if_true]
            refine ⟨⟨by omega, trivial⟩, onSome_some.2 ⟨_, c2, ?_⟩⟩
            refine ring_has H2 (by omega) _ fun h' p' c' H' _ _ _ => ⟨_, _, _, rfl, go h' S2 _ H' ?_⟩
            have := due_len L o.2.2; omega
          · simp only [beq_eq_false_iff_ne.2 e2, Bool.false_eq_true, if_false]
            exact go h2 S2 L H2 (by omega)
    · simp only [show ¬ (k : Int) < 100 by omega, decide_false]
      exact fin
  · simp only [show ¬ (k : Int) < (ops.length : Int) by omega, decide_false, Bool.false_eq_true, if_false]
    exact fin

end Alarm
theorem alarmAll_ok {h : Heap} (ops_p : Option Addr) (ops_l ops_c : Nat) (hops : RokV Try.prog h T.s_law20_Op (.slice ops_p ops_l ops_c)) :
    LawH Try.prog F.law20_AlarmAll #[.slice ops_p ops_l ops_c] h := Alarm.alarmAll_ok ops_p ops_l ops_c hops
end Go.Proofs.Ytcdmemcmmfgdlaa
