/-
  What is proved here: the law AlarmLives on heaps ('alarmLives_ok'). No condition.
-/
import Derived.Test.YtcdmemcmmfgdlaaRef20
namespace Go.Proofs.Ytcdmemcmmfgdlaa
open Go.Den Go.Heapq
namespace Alarm
open Ref20 (Rf own_some own_c0 own_c1)
variable {h h0 : Heap} {a x : Nat} {R : Value → Heap → Prop} {S S' : Nat → Prop} {L : List E}

/-- both alarms hold L -/
structure Both (h0 h : Heap) (a x : Nat) (S S' : Nat → Prop) (L : List E) : Prop where
  has : Has h0 h a S L
  rf : Rf h x S' L
  dj : ∀ c, S c → ¬ S' c
  ge : ∀ c, S' c → h0.size ≤ c
theorem Both.on {h' : Heap} (B : Both h0 h a x S S' L) (f : Fr (fun _ => False) h h') : Both h0 h' a x S S' L := ⟨B.has.on f, B.rf.frame f fun _ _ => id, B.dj, B.ge⟩
theorem Both.step {h1 h2 : Heap} {S1 S2 : Nat → Prop} {L1 : List E} (B : Both h0 h a x S S' L) (H1 : Has h0 h1 a S1 L1) (f1 : Fr S h h1) (g1 : ∀ c, S1 c → S c ∨ h.size ≤ c)
    (A2 : Rf h2 x S2 L1) (g2 : ∀ c, S2 c → S' c ∨ h1.size ≤ c) (f2 : Fr S' h1 h2) : Both h0 h2 a x S1 S2 L1 := by
  have d1 : ∀ c, S1 c → ¬ S' c := fun c hc hx => by
    rcases g1 c hc with hy | hy
    · exact B.dj c hy hx
    · have := B.rf.lt hx; omega
  refine ⟨⟨H1.al.frame f2 d1, H1.ge, H1.fr.step f2 fun c hc hx => by have := B.ge c hx; omega⟩, A2, fun c hc hx => ?_, fun c hc => ?_⟩
  · rcases g2 c hx with hy | hy
    · exact d1 c hc hy
    · have := H1.al.lt hc; omega
  · rcases g2 c hc with hy | hy
    · exact B.ge c hy
    · have := H1.fr.1; omega
theorem Both.rf1 {h1 : Heap} (B : Both h0 h a x S S' L) (f1 : Fr S h h1) : Rf h1 x S' L := B.rf.frame f1 fun c hc hx => B.dj c hx hc

theorem new_op {K : Nat → Heap → Prop} (z y t : Int) (hk : ∀ b h', h'[b]? = some (.cells #[.int .i64 z, .int .i64 y, .int .u64 t] T.law20_Op (0, 0)) → b = h.size → Fr (fun _ => False) h h' → K b h') :
    NewP h (.cells #[.int .i64 0, .int .i64 0, .int .u64 0] T.law20_Op) fun b h1 => StoreP h1 ⟨b, 0, none⟩ (.int .i64 z) fun h2 => StoreP h2 ⟨b, 1, none⟩ (.int .i64 y) fun h3 => StoreP h3 ⟨b, 2, none⟩ (.int .u64 t) fun h4 => K b h4 := by
  rintro b h1 rfl rfl
  refine storeP_blk push_new (by simp) fun h2 c2 s2 k2 => storeP_blk c2 (by simp) fun h3 c3 s3 k3 => storeP_blk c3 (by simp) fun h4 c4 s4 k4 => hk _ h4 c4 rfl ⟨?_, fun c hc _ => ?_⟩
  · rw [s4, s3, s2]; simp
  · rw [k4 c (by omega), k3 c (by omega), k2 c (by omega)]; exact (Fr.push (S := fun _ => False) h _).2 c hc id

def lvI (h0 : Heap) (a x : Nat) (i : Int) (h : Heap) : Prop := ∃ k S S' L, i = ((k : Nat) : Int) ∧ k ≤ 200 ∧ Both h0 h a x S S' L ∧ L.length ≤ k

theorem alarmLives_ok (p : Option Addr) (l c : Nat) (ask : Int) (hops : RokV Try.prog h T.s_law20_Op (.slice p l c)) :
    LawH Try.prog F.law20_AlarmLives #[.slice p l c, .int .i64 ask] h := by
  obtain ⟨ops, rfl, hrow, hwf⟩ := ops_read hops
  clear hops
  unfold LawH
  generalize hR : (fun (v : Value) h' => v = .bool true ∧ Fr (fun _ => False) h h') = R
  have hk : ∀ h', Fr (fun _ => False) h h' → R (.bool true) h' := fun h' hf => by rw [← hR]; exact ⟨rfl, hf⟩
  clear hR
  refine law20_AlarmLives.walk (new_has fun a S1 h1 H1 => ⟨_, rfl, ?_⟩)
  rintro x h2 hx2 rfl
  have fp : Fr (fun _ => False) h1 (h1.push (.cells #[.slice none 0 0] T.ref20_Alarm)) := Fr.push _ _
  have B2 : Both h (h1.push (.cells #[.slice none 0 0] T.ref20_Alarm)) a x S1 (fun c => c = x) [] := by
    refine ⟨H1.on fp, ⟨none, 0, by rw [hx2]; exact push_new, .nil rfl rfl rfl rfl, ?_, fun c => ⟨.inl, ?_⟩⟩, ?_, ?_⟩
    · rintro ⟨_, e, _⟩; cases e
    · rintro (e | ⟨_, e, _⟩)
      · exact e
      · cases e
    · intro c hc e; have := H1.al.lt hc; omega
    · rintro c rfl; have := H1.fr.1; omega
  generalize h1.push (.cells #[.slice none 0 0] T.ref20_Alarm) = h2 at B2
  clear H1 hx2 fp
  refine ⟨lvI h a x, fun i _ => 200 - i.toNat, ⟨0, S1, _, [], rfl, by omega, B2, by simp⟩, ?_⟩
  clear B2
  rintro i h3 ⟨k, S, S', L, rfl, hk2, B, hL⟩
  refine JoinP.of fun J hJ => ?_
  have fin : J false h3 := by
    subst hJ
    simp only [Bool.false_eq_true, if_false]
    rintro b h4 rfl rfl
    have f4 : Fr (fun _ => False) h (h3.push (.cells #[.slice none 0 0, .map none] T.alarm_Alarm)) := Fr.tt B.has.fr (Fr.push _ _)
    have Z : Zero (h3.push (.cells #[.slice none 0 0, .map none] T.alarm_Alarm)) h3.size := push_new
    generalize h3.push (.cells #[.slice none 0 0, .map none] T.alarm_Alarm) = h4 at f4 Z
    refine next_nil ⟨_, _, _, rfl, at_zero Z 1 ⟨_, _, rfl, alive_ok fun h5 f5 => ⟨_, rfl, ?_⟩⟩⟩
    have Z5 : Zero h5 h3.size := f5.get Z id
    simp only [if_true, Bool.not_false]
    refine set_nil 1 1 ⟨_, rfl, ?_⟩
    simp only [beq_self_eq_true, if_true]
    refine set_zero Z5 1 1 ⟨_, rfl, ?_⟩
    simp only [beq_self_eq_true, if_true]
    refine drop_nil 1 ⟨_, rfl, ?_⟩
    simp only [beq_self_eq_true, if_true]
    refine len_nil ⟨_, rfl, ring_zero Z5 5 ⟨_, _, _, rfl, ?_⟩⟩
    rw [show IntKind.wrap .i64 (0 + ((0 : Nat) : Int)) = 0 by rw [wrap_id (by omega) (by omega)]; rfl]
    exact hk h5 (Fr.tt f4 f5)
  by_cases hlt : k < ops.length
  · have hlt' : (k : Int) < (ops.length : Int) := by omega
    simp only [hlt', decide_true, if_true]
    by_cases hlt2 : k < 200
    · have hlt2' : (k : Int) < 200 := by omega
      simp only [hlt2', decide_true]
      clear fin
      subst hJ
      simp only [if_true, Int.toNat_natCast, hlt']
      rw [wrap_id (n := (k : Int) + 1) (by omega) (by omega)]
      obtain ⟨o, ho⟩ : ∃ o, ops[k]? = some o := ⟨_, List.getElem?_eq_getElem hlt⟩
      have hw := hwf o (List.mem_of_getElem? ho)
      obtain ⟨ad, rfl, c0, c1, c2⟩ := op_at (row_mono hrow B.has.fr) ho
      refine ⟨⟨by omega, trivial⟩, onSome_some.2 ⟨_, c0, _, c1, _, c2, new_op _ _ _ fun b h8 hb8 eb f8 => ?_⟩⟩
      have B8 := B.on f8
      have nS : ¬ S b := fun hc => by have := B.has.al.lt hc; omega
      clear c0 c1 c2
      refine ⟨_, cell_at hb8 rfl, ?_⟩
      refine JoinP.of fun J1 hJ1 => ?_
      -- what is asked behind each call
      have go : ∀ h' S1 S2 L', Both h h' a x S1 S2 L' → L'.length ≤ k + 1 → J1 true h' := by
        intro h' S1 S2 L' B' hl'
        subst hJ1
        have nd := B'.has.al.nodup
        have again : (lvI h a x ((k : Int) + 1) h' ∧ 200 - Int.toNat ((k : Int) + 1) < 200 - Int.toNat (k : Int)) := ⟨⟨k + 1, S1, S2, L', by omega, by omega, B', hl'⟩, by omega⟩
        simp only [Bool.not_true, Bool.false_eq_true, if_false]
        refine next_ok B'.has.al ⟨_, _, _, rfl, at_ok B'.has.al ask ⟨_, _, rfl, ?_⟩⟩
        have hrf := B'.rf
        obtain ⟨p, cap, hb, ow, ne, hS⟩ := B'.rf
        have hlen : (((L'.length : Nat) : Int) != ((L'.length : Nat) : Int)) = false := by simp
        refine Ref20.find_ok hrf (by omega) ask (fun j hj he => ⟨_, rfl, ?_⟩) (fun hno => ⟨_, rfl, ?_⟩)
        · have hlk : lookK L' ask = some (at_ L' j).2 := by rw [← he]; exact lookK_some nd (at_mem hj)
          have hdec : decide ((j : Int) ≥ 0) = true := by simp
          rw [hlk]
          cases L' with
          | nil => simp at hj
          | cons e r =>
            have hpos : decide ((((e :: r).length : Nat) : Int) > 0) = true := by simp
            simp only [hdec, List.isEmpty_cons, Bool.not_false, Bool.not_true, Bool.false_eq_true, if_true, if_false, Option.isSome_some, Option.getD_some]
            refine JoinP.of fun J2 hJ2 => ⟨_, _, _, cell_at hb rfl, len_ok B'.has.al ⟨_, rfl, cell_at hb rfl, ?_⟩⟩
            simp only [hlen, Bool.false_eq_true, if_false]
            refine ⟨_, _, _, cell_at hb rfl, ?_⟩
            simp only [hpos, beq_self_eq_true, Bool.not_true, Bool.false_eq_true, if_false]
            subst hJ2
            simp only [Bool.false_eq_true, if_false]
            obtain ⟨ad', rfl⟩ := own_some ow (by simp)
            refine JoinP.of fun J3 hJ3 => ?_
            refine ⟨_, _, _, cell_at hb rfl, ⟨by omega, by simp⟩, onSome_some.2 ⟨_, own_c0 ow (i := 0) (by simp), ?_⟩⟩
            have q1 : ((hd (e :: r)).1 != (at_ (e :: r) 0).1) = false := by simp [hd, at_]
            have q2 : ((hd (e :: r)).2 != (at_ (e :: r) 0).2) = false := by simp [hd, at_]
            simp only [q1, Bool.false_eq_true, if_false]
            refine ⟨_, _, _, cell_at hb rfl, ⟨by omega, by simp⟩, onSome_some.2 ⟨_, own_c1 ow (i := 0) (by simp), ?_⟩⟩
            simp only [q2, Bool.false_eq_true, if_false, Int.toNat_natCast]
            refine ⟨_, _, _, cell_at hb rfl, ⟨by omega, by omega⟩, onSome_some.2 ⟨_, own_c1 ow hj, ?_⟩⟩
            simp only [bne_self_eq_false, Bool.false_eq_true, if_false]
            subst hJ3
            simp only [Bool.false_eq_true, if_false]
            exact again
        · rw [lookK_none hno]
          have hdec : decide ((-1 : Int) ≥ 0) = false := by decide
          cases L' with
          | nil =>
            have hpos : decide (((([] : List E).length : Nat) : Int) > 0) = false := by decide
            have q1 : ((hd []).1 != 0) = false := by decide
            have q2 : ((hd []).2 != 0) = false := by decide
            simp only [hdec, q1, q2, bne_self_eq_false, List.isEmpty_nil, Bool.not_false, Bool.not_true, Bool.false_eq_true, if_true, if_false, Option.isSome_none, Option.getD_none]
            refine JoinP.of fun J2 hJ2 => ⟨_, _, _, cell_at hb rfl, len_ok B'.has.al ⟨_, rfl, cell_at hb rfl, ?_⟩⟩
            simp only [hlen, Bool.false_eq_true, if_false]
            refine ⟨_, _, _, cell_at hb rfl, ?_⟩
            simp only [hpos, beq_self_eq_true, Bool.not_true, Bool.false_eq_true, if_false]
            subst hJ2
            simp only [Bool.false_eq_true, if_false, JoinP]
            exact again
          | cons e r =>
            have hpos : decide ((((e :: r).length : Nat) : Int) > 0) = true := by simp
            simp only [hdec, bne_self_eq_false, List.isEmpty_cons, Bool.not_false, Bool.not_true, Bool.false_eq_true, if_true, if_false, Option.isSome_none, Option.getD_none]
            refine JoinP.of fun J2 hJ2 => ⟨_, _, _, cell_at hb rfl, len_ok B'.has.al ⟨_, rfl, cell_at hb rfl, ?_⟩⟩
            simp only [hlen, Bool.false_eq_true, if_false]
            refine ⟨_, _, _, cell_at hb rfl, ?_⟩
            simp only [hpos, beq_self_eq_true, Bool.not_true, Bool.false_eq_true, if_false]
            subst hJ2
            simp only [Bool.false_eq_true, if_false]
            obtain ⟨ad', rfl⟩ := own_some ow (by simp)
            refine JoinP.of fun J3 hJ3 => ?_
            refine ⟨_, _, _, cell_at hb rfl, ⟨by omega, by simp⟩, onSome_some.2 ⟨_, own_c0 ow (i := 0) (by simp), ?_⟩⟩
            have q1 : ((hd (e :: r)).1 != (at_ (e :: r) 0).1) = false := by simp [hd, at_]
            have q2 : ((hd (e :: r)).2 != (at_ (e :: r) 0).2) = false := by simp [hd, at_]
            simp only [q1, Bool.false_eq_true, if_false]
            refine ⟨_, _, _, cell_at hb rfl, ⟨by omega, by simp⟩, onSome_some.2 ⟨_, own_c1 ow (i := 0) (by simp), ?_⟩⟩
            simp only [q2, Bool.false_eq_true, if_false]
            subst hJ3
            simp only [Bool.false_eq_true, if_false]
            exact again
      clear hJ1
      simp only [JoinP]
      have nd := B8.has.al.nodup
      have so := B8.has.al.sorted
      by_cases e0 : o.1 = 0
      · simp only [e0, beq_self_eq_true, if_true]
        refine ⟨_, cell_at hb8 rfl, _, cell_at hb8 rfl, _, cell_at hb8 rfl, _, cell_at hb8 rfl, ?_⟩
        refine set_has B8.has (by omega) _ _ hw (fun hm h9 S9 H9 f9 g9 => ⟨_, rfl, ?_⟩) (fun hm => ⟨_, rfl, cell_at hb8 rfl, cell_at hb8 rfl, ?_⟩)
        · have hb9 := f9.get hb8 nS
          refine ⟨cell_at hb9 rfl, cell_at hb9 rfl, ?_⟩
          refine Ref20.set_ok (B8.rf1 f9) (by omega) nd so _ _ (fun _ h10 S10 A10 g10 f10 => ⟨_, rfl, ?_⟩) (fun hf => by rw [hf] at hm; cases hm)
          have := setL_len L o.2.1 o.2.2
          exact go h10 S9 S10 _ (B8.step H9 f9 g9 A10 g10 f10) (by omega)
        · refine Ref20.set_ok B8.rf (by omega) nd so _ _ (fun hf => by rw [hf] at hm; cases hm) (fun _ => ⟨_, rfl, ?_⟩)
          exact go h8 S S' L B8 (by omega)
      · simp only [beq_eq_false_iff_ne.2 e0, Bool.false_eq_true, if_false]
        by_cases e1 : o.1 = 1
        · simp only [e1, beq_self_eq_true, if_true]
          refine ⟨_, cell_at hb8 rfl, _, cell_at hb8 rfl, ?_⟩
          refine drop_has B8.has (by omega) _ (fun hm h9 H9 f9 => ⟨_, rfl, cell_at (f9.get hb8 nS) rfl, ?_⟩) (fun hm => ⟨_, rfl, cell_at hb8 rfl, ?_⟩)
          · refine Ref20.drop_ok (B8.rf1 f9) (by omega) nd _ (fun _ h10 S10 A10 g10 f10 => ⟨_, rfl, ?_⟩) (fun hf => absurd hm hf)
            have := dropK_len L o.2.1
            exact go h10 S S10 _ (B8.step H9 f9 (fun _ => .inl) A10 g10 f10) (by omega)
          · refine Ref20.drop_ok B8.rf (by omega) nd _ (fun hf => absurd hf hm) (fun _ => ⟨_, rfl, ?_⟩)
            exact go h8 S S' L B8 (by omega)
        · simp only [beq_eq_false_iff_ne.2 e1, Bool.false_eq_true, if_false]
          by_cases e2 : o.1 = 2
          · simp only [e2, beq_self_eq_true, if_true]
            refine ⟨_, cell_at hb8 rfl, _, cell_at hb8 rfl, ?_⟩
            refine ring_has B8.has (by omega) _ fun h9 p9 c9 H9 o9 g9 f9 => ⟨_, _, _, rfl, cell_at (f9.get hb8 nS) rfl, ?_⟩
            refine Ref20.ring_ok (B8.rf1 f9) (by omega) _ fun h10 p10 c10 S10 A10 g10 o10 g10' f10 => ⟨_, _, _, rfl, ?_⟩
            have dl := due_len L o.2.2
            have B10 := B8.step H9 f9 (fun _ => .inl) A10 (fun c hc => .inl (g10 c hc)) f10
            have o9' := o9.frame f10 fun c hc hx => by have := g9 c hc; have := B8.rf.lt hx; omega
            generalize due L o.2.2 = D at o9' o10 dl
            generalize rest L o.2.2 = U at B10 dl
            refine ⟨fun fine i h' => fine = true ∧ (∃ j : Nat, i = j ∧ j ≤ D.length) ∧ h' = h10, fun _ i _ => D.length - i.toNat, ⟨by simp, ⟨0, rfl, by omega⟩, rfl⟩, ?_⟩
            rintro _ _ h10 ⟨rfl, ⟨j, rfl, hj⟩, rfl⟩
            by_cases hjl : j < D.length
            · have hjl' : (j : Int) < (D.length : Int) := by omega
              simp only [hjl', decide_true, if_true, JoinP, Int.toNat_natCast]
              rw [wrap_id (n := (j : Int) + 1) (by omega) (by omega)]
              obtain ⟨ad1, rfl, cj⟩ := key_at o9' hjl
              obtain ⟨ad2, rfl, ck⟩ := key_at o10 hjl
              refine ⟨⟨by omega, trivial⟩, onSome_some.2 ⟨_, cj, ⟨by omega, trivial⟩, onSome_some.2 ⟨_, ck, ?_⟩⟩⟩
              rw [beq_self_eq_true]
              refine ⟨⟨by trivial, ⟨j + 1, by omega, by omega⟩, by trivial⟩, ?_⟩
              show D.length - Int.toNat ((j : Int) + 1) < D.length - Int.toNat (j : Int); omega
            · have hjl' : ¬ (j : Int) < (D.length : Int) := by omega
              simp only [hjl', decide_false, Bool.false_eq_true, if_false, JoinP]
              exact go h10 S S10 U B10 (by omega)
          · simp only [beq_eq_false_iff_ne.2 e2, Bool.false_eq_true, if_false]
            exact go h8 S S' L B8 (by omega)
    · simp only [show ¬ (k : Int) < 200 by omega, decide_false]
      exact fin
  · simp only [show ¬ (k : Int) < (ops.length : Int) by omega, decide_false, Bool.false_eq_true, if_false]
    exact fin
end Alarm
theorem alarmLives_ok {h : Heap} (p : Option Addr) (l c : Nat) (ask : Int) (hops : RokV Try.prog h T.s_law20_Op (.slice p l c)) (_ : (Lit.int .i64 ask).wf = true) :
    LawH Try.prog F.law20_AlarmLives #[.slice p l c, .int .i64 ask] h := Alarm.alarmLives_ok p l c ask hops
end Go.Proofs.Ytcdmemcmmfgdlaa
