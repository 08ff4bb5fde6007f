/-
  What is proved here: the parts named below, one behind the other (texts of this work, merged by a program). No condition.
-/
import Derived.Test.YtgccegnmggjkjaaGreatDoorMCope

/-
  What is proved here: the document's table of copies (package ref21) in memory: Pass. No condition.
-/
set_option maxRecDepth 100000
namespace Go.Proofs.YtgccegnmggjkjaaGreatDoor
open Go.Den Go.Fields
namespace Rcp
open Eid Cps Fld
variable {h h' h0 : Heap} {x b : Nat} {X Y : Ft} {R : Value → Heap → Prop} {p q : Option Addr} {c d i : Nat} {Ls : List RC}

/-- it is over -/
def overC (y : RC) : RC := ⟨{ y.c with ses := 0, dl := 0 }, 2⟩
/-- those at these places are over -/
def overL (Ls : List RC) (ms : List Nat) : List RC := Ls.mapIdx (fun i y => if i ∈ ms then overC y else y)
theorem overL_nil : overL Ls [] = Ls := by
  unfold overL
  apply List.ext_getElem?
  intro i
  rw [List.getElem?_mapIdx]
  cases Ls[i]? <;> simp
theorem overL_len (ms : List Nat) : (overL Ls ms).length = Ls.length := by unfold overL; rw [List.length_mapIdx]
theorem overL_at {ms : List Nat} {i : Nat} : (overL Ls ms)[i]? = (Ls[i]?).map (fun y => if i ∈ ms then overC y else y) := by unfold overL; rw [List.getElem?_mapIdx]
theorem overL_set {ms : List Nat} {j : Nat} {y : RC} (hy : (overL Ls ms)[j]? = some y) : (overL Ls ms).set j (overC y) = overL Ls (ms ++ [j]) := by
  apply List.ext_getElem?
  intro i
  rw [List.getElem?_set, overL_at, overL_at]
  rw [overL_at] at hy
  by_cases e : j = i
  · subst e
    cases hL : Ls[j]? with
    | none => rw [hL] at hy; cases hy
    | some z =>
      rw [hL] at hy
      have hy := Option.some.inj hy
      have hlt : j < (overL Ls ms).length := by rw [overL_len]; exact (List.getElem?_eq_some_iff.1 hL).1
      rw [if_pos rfl, if_pos hlt]
      simp only [Option.map_some, List.mem_append, List.mem_singleton, or_true, if_true]
      rw [← hy]
      split <;> rfl
  · rw [if_neg e]
    cases hL : Ls[i]? with
    | none => rfl
    | some z =>
      have : ¬ i = j := fun h => e h.symm
      simp [this]
/-- has it come? -/
def dueR (now : Int) (y : RC) : Prop := y.fate = 0 ∧ (y.c.till : Int) ≤ now
/-- the first of those that have come -/
def least (Ls : List RC) (now : Int) (k : Nat) (m : Nat) : Prop := ∃ y, Ls[m]? = some y ∧ m < k ∧ dueR now y ∧ ∀ j z, j < k → Ls[j]? = some z → dueR now z → y.c.till < z.c.till ∨ (y.c.till = z.c.till ∧ m ≤ j)
theorem pick_ok {now : Int} {K : Int → Heap → Prop} (H : Rb h x X Ls) (hl : Ls.length ≤ 1000000)
    (k1 : ∀ m, least Ls now Ls.length m → K (m : Int) h) (k2 : (∀ z ∈ Ls, ¬ dueR now z) → K (-1) h) :
    ∃ (I_1 : Int → Int → Heap → Prop) (mu_1 : Int → Int → Heap → Nat), I_1 (-1) 0 h ∧ ∀ (best : Int) (i : Int) (h_2 : Heap), I_1 best i h_2 →
      ∃ (t12_p : Option Addr) (t12_l t12_c : Nat), hcell h_2 ⟨x, 0, none⟩ = some (.slice t12_p t12_l t12_c) ∧
      if (decide (i < ((t12_l : Nat) : Int))) = true then
        JoinP (fun (best_1 : Int) (h_3 : Heap) =>
          (I_1 best_1 (IntKind.wrap .i64 (i + 1)) h_3 ∧ mu_1 best_1 (IntKind.wrap .i64 (i + 1)) h_3 < mu_1 best i h_2))
        (fun J =>
          JoinP (fun (t60 : Bool) (h_4 : Heap) =>
            JoinP (fun (best_2 : Int) (h_5 : Heap) =>
              J best_2 h_5)
            (fun J_2 =>
              if t60 = true then
                J_2 i h_4
              else
                J_2 best h_4))
          (fun J_1 =>
            ∃ (t20_p : Option Addr) (t20_l t20_c : Nat), hcell h_2 ⟨x, 0, none⟩ = some (.slice t20_p t20_l t20_c) ∧
            ((0 : Int) ≤ i ∧ i < ((t20_l : Nat) : Int)) ∧
            onSome t20_p fun a =>
            ∃ (t24 : Int), hcell h_2 ((a.add (Int.toNat i * 11)).add 10) = some (.int .i64 t24) ∧
            if (t24 == 0) = true then
              ∃ (t30_p : Option Addr) (t30_l t30_c : Nat), hcell h_2 ⟨x, 0, none⟩ = some (.slice t30_p t30_l t30_c) ∧
              ((0 : Int) ≤ i ∧ i < ((t30_l : Nat) : Int)) ∧
              onSome t30_p fun a_1 =>
              ∃ (t34 : Int), hcell h_2 ((a_1.add (Int.toNat i * 11)).add 7) = some (.int .u64 t34) ∧
              if (decide (t34 ≤ now)) = true then
                if (decide (best < 0)) = true then
                  J_1 true h_2
                else
                  ∃ (t45_p : Option Addr) (t45_l t45_c : Nat), hcell h_2 ⟨x, 0, none⟩ = some (.slice t45_p t45_l t45_c) ∧
                  ((0 : Int) ≤ i ∧ i < ((t45_l : Nat) : Int)) ∧
                  onSome t45_p fun a_2 =>
                  ∃ (t49 : Int), hcell h_2 ((a_2.add (Int.toNat i * 11)).add 7) = some (.int .u64 t49) ∧
                  ∃ (t53_p : Option Addr) (t53_l t53_c : Nat), hcell h_2 ⟨x, 0, none⟩ = some (.slice t53_p t53_l t53_c) ∧
                  ((0 : Int) ≤ best ∧ best < ((t53_l : Nat) : Int)) ∧
                  onSome t53_p fun a_3 =>
                  ∃ (t57 : Int), hcell h_2 ((a_3.add (Int.toNat best * 11)).add 7) = some (.int .u64 t57) ∧
                  J_1 (decide (t49 < t57)) h_2
              else
                J_1 false h_2
            else
              J_1 false h_2))
      else
        K best h_2 := by
  obtain ⟨lp, lc, xs, H⟩ := H
  have hlen := H.len
  refine ⟨fun best i g => g = h ∧ ∃ k : Nat, i = (k : Int) ∧ k ≤ xs.length ∧ ((best = -1 ∧ ∀ j z, j < k → Ls[j]? = some z → ¬ dueR now z) ∨ ∃ m : Nat, best = (m : Int) ∧ least Ls now k m), fun _ i _ => xs.length - i.toNat, ⟨rfl, 0, rfl, by omega, .inl ⟨rfl, fun j z hj => by omega⟩⟩, ?_⟩
  rintro best _ g ⟨rfl, k, rfl, hkn, hbest⟩
  refine ⟨_, _, _, cell_at H.blk rfl, ?_⟩
  by_cases hlt : k < xs.length
  · have q1 : (k : Int) < ((xs.length : Nat) : Int) := by omega
    simp only [q1, decide_true, if_true, Int.toNat_natCast]
    have hx : xs[k]? = some xs[k] := List.getElem?_eq_getElem hlt
    generalize xs[k] = v at hx
    have hLk := H.at hx
    obtain ⟨ab, aoff, rfl⟩ := H.own.addr (by omega)
    have held := H.own.heldAt cenc_len hx
    refine JoinP.of fun J hJ => JoinP.of fun J1 hJ1 => ?_
    have wr : IntKind.wrap .i64 ((k : Int) + 1) = (k : Int) + 1 := wrap_id (by omega) (by omega)
    have go : ∀ best' : Int, ((best' = -1 ∧ ∀ j z, j < k + 1 → Ls[j]? = some z → ¬ dueR now z) ∨ ∃ m : Nat, best' = (m : Int) ∧ least Ls now (k + 1) m) → J best' g := by
      intro best' hb'
      subst hJ
      try dsimp only
      rw [wr]
      exact ⟨⟨by first | trivial | rfl, k + 1, by omega, by omega, hb'⟩, by show xs.length - Int.toNat ((k : Int) + 1) < xs.length - k; omega⟩
    have stay : ¬ dueR now v.abs → J1 false g := by
      intro hnd
      subst hJ1
      refine JoinP.of fun J2 hJ2 => ?_
      subst hJ2
      simp only [Bool.false_eq_true, if_false]
      refine go best ?_
      rcases hbest with ⟨e, hno⟩ | ⟨m, e, y, hy, hm, hd, hmin⟩
      · refine .inl ⟨e, fun j z hj hz => ?_⟩
        by_cases ej : j = k
        · subst ej; rw [hLk] at hz; obtain rfl := Option.some.inj hz; exact hnd
        · exact hno j z (by omega) hz
      · refine .inr ⟨m, e, y, hy, by omega, hd, fun j z hj hz hdz => ?_⟩
        by_cases ej : j = k
        · subst ej; rw [hLk] at hz; obtain rfl := Option.some.inj hz; exact absurd hdz hnd
        · exact hmin j z (by omega) hz hdz
    refine ⟨_, _, _, cell_at H.blk rfl, ⟨by first | trivial | omega, by first | trivial | omega⟩, onSome_some.2 ⟨(v.fate : Int), cel held 10 rfl, ?_⟩⟩
    by_cases hf : v.fate = 0
    · rw [if_pos (by rw [hf]; rfl)]
      refine ⟨_, _, _, cell_at H.blk rfl, ⟨by first | trivial | omega, by first | trivial | omega⟩, onSome_some.2 ⟨(v.till : Int), cel held 7 rfl, ?_⟩⟩
      by_cases ht : (v.till : Int) ≤ now
      · have hdv : dueR now v.abs := ⟨hf, ht⟩
        simp only [ht, decide_true, if_true]
        rcases hbest with ⟨e, hno⟩ | ⟨m, e, y, hy, hm, hd, hmin⟩
        · rw [if_pos (by rw [e]; decide)]
          subst hJ1
          refine JoinP.of fun J2 hJ2 => ?_
          subst hJ2
          simp only [if_true]
          refine go (k : Int) (.inr ⟨k, rfl, v.abs, hLk, by omega, hdv, fun j z hj hz hdz => ?_⟩)
          by_cases ej : j = k
          · subst ej; rw [hLk] at hz; obtain rfl := Option.some.inj hz; exact .inr ⟨rfl, Nat.le_refl _⟩
          · exact absurd hdz (hno j z (by omega) hz)
        · have q2 : ¬ best < 0 := by omega
          simp only [q2, decide_false, Bool.false_eq_true, if_false]
          obtain ⟨w, hw, hwa⟩ := H.get hy
          have heldw := H.own.heldAt cenc_len hw
          refine ⟨_, _, _, cell_at H.blk rfl, ⟨by first | trivial | omega, by first | trivial | omega⟩, onSome_some.2 ⟨(v.till : Int), cel held 7 rfl, _, _, _, cell_at H.blk rfl, ⟨by omega, by omega⟩, onSome_some.2 ⟨(w.till : Int), by rw [e, Int.toNat_natCast]; exact cel heldw 7 rfl, ?_⟩⟩⟩
          have hwt : w.till = y.c.till := congrArg (fun r : RC => r.c.till) hwa
          subst hJ1
          refine JoinP.of fun J2 hJ2 => ?_
          subst hJ2
          by_cases hlt2 : v.till < w.till
          · have : (v.till : Int) < (w.till : Int) := by omega
            simp only [this, decide_true, if_true]
            refine go (k : Int) (.inr ⟨k, rfl, v.abs, hLk, by omega, hdv, fun j z hj hz hdz => ?_⟩)
            have hvt : v.abs.c.till = v.till := rfl
            by_cases ej : j = k
            · subst ej; rw [hLk] at hz; obtain rfl := Option.some.inj hz; exact .inr ⟨rfl, Nat.le_refl _⟩
            · rcases hmin j z (by omega) hz hdz with h1 | h1
              · left; omega
              · left; omega
          · have : ¬ (v.till : Int) < (w.till : Int) := by omega
            simp only [this, decide_false, Bool.false_eq_true, if_false]
            refine go best (.inr ⟨m, e, y, hy, by omega, hd, fun j z hj hz hdz => ?_⟩)
            by_cases ej : j = k
            · subst ej
              rw [hLk] at hz
              obtain rfl := Option.some.inj hz
              have hvt : v.abs.c.till = v.till := rfl
              rcases Nat.lt_or_ge y.c.till v.till with h1 | h1
              · left; omega
              · right; exact ⟨by omega, by omega⟩
            · exact hmin j z (by omega) hz hdz
      · simp only [ht, decide_false, Bool.false_eq_true, if_false]
        exact stay (fun hd => ht hd.2)
    · have hfi : ¬ ((v.fate : Int) == 0) = true := by simp only [beq_iff_eq]; omega
      rw [if_neg hfi]
      exact stay (fun hd => hf hd.1)
  · have q1 : ¬ (k : Int) < ((xs.length : Nat) : Int) := by omega
    simp only [q1, decide_false, Bool.false_eq_true, if_false]
    obtain rfl : k = xs.length := by omega
    rcases hbest with ⟨rfl, hno⟩ | ⟨m, rfl, hm⟩
    · refine k2 fun z hz => ?_
      obtain ⟨j, hj⟩ := List.getElem?_of_mem hz
      exact hno j z (by have := (List.getElem?_eq_some_iff.1 hj).1; omega) hj
    · rw [hlen] at hm
      exact k1 m hm

/-- the key and the time at a place -/
def kvR (Ls : List RC) (i : Nat) : Heapq.E := (((i + 1 : Nat) : Int), (((Ls[i]?).map (fun y => (y.c.till : Int))).getD 0))
theorem nodup_le : ∀ {n : Nat} {ms : List Nat}, ms.Nodup → (∀ i ∈ ms, i < n) → ms.length ≤ n
  | 0, ms, _, hb => by
    cases ms with
    | nil => simp
    | cons a r => have := hb a (by simp); omega
  | n + 1, ms, hn, hb => by
    have h1 := nodup_le (n := n) (ms := ms.erase n) (hn.erase n) (fun i hi => by
      have h2 := (List.Nodup.mem_erase_iff hn).1 hi
      have := hb i h2.2
      omega)
    have h3 : (ms.erase n).length = if n ∈ ms then ms.length - 1 else ms.length := List.length_erase ..
    split at h3 <;> omega
/-- a lease that has ended is free -/
def freeR (now : Nat) (y : RC) : RC := if y.fate = 0 ∧ y.c.ses > 0 ∧ y.c.dl ≤ now then ⟨{ y.c with ses := 0, dl := 0 }, y.fate⟩ else y
theorem rpass_ok {k : Int} (now : Nat) (hk0 : k = (now : Int)) (H : Rb h x X Ls) (hl : Ls.length ≤ 1000000)
    (hk : ∀ h' p' c' (ms : List Nat), Own h' p' ms.length c' 1 (ms.map fun (i : Nat) => .int .i64 ((i : Int) + 1)) → (∀ y, inBlk p' y → h.size ≤ y) → Rb h' x X ((overL Ls ms).map (freeR now)) → StepF X h X h' →
      (ms.map (kvR Ls)).Pairwise Heapq.lt → (∀ i, i ∈ ms ↔ ∃ y, Ls[i]? = some y ∧ dueR (now : Int) y) → R (.slice p' ms.length c') h') :
    CallsH Tryz.prog F.ref21_Table_Pass #[.pointer (some ⟨x, 0, none⟩), .int .u64 k] h R := by
  subst hk0
  refine ref21_Table_Pass.walk ?_
  refine ⟨fun op ol oc g => ∃ ms : List Nat, ol = ms.length ∧ Own g op ol oc 1 (ms.map fun (i : Nat) => .int .i64 ((i : Int) + 1)) ∧ (∀ y, inBlk op y → h.size ≤ y) ∧ Rb g x X (overL Ls ms) ∧ StepF X h X g ∧ (ms.map (kvR Ls)).Pairwise Heapq.lt ∧ ms.Nodup ∧ (∀ i ∈ ms, ∃ y, Ls[i]? = some y ∧ dueR (now : Int) y) ∧ (∀ m ∈ ms, ∀ i y, i ∉ ms → Ls[i]? = some y → dueR (now : Int) y → Heapq.lt (kvR Ls m) (kvR Ls i)), fun _ ol _ _ => Ls.length - ol,
    ⟨[], rfl, .nil rfl rfl rfl rfl, (fun y ⟨a, e, _⟩ => by cases e), by rw [overL_nil]; exact H, StepF.refl _ _, .nil, .nil, (fun i hi => by cases hi), fun m hm => by cases hm⟩, ?_⟩
  rintro op ol oc g ⟨ms, rfl, o, hop, B, st, hs, hnd, hdue, hmin⟩
  have hlen : (overL Ls ms).length = Ls.length := overL_len ms
  have mlt : ∀ i ∈ ms, i < Ls.length := fun i hi => by
    obtain ⟨y, hy, _⟩ := hdue i hi
    exact (List.getElem?_eq_some_iff.1 hy).1
  have hml := nodup_le hnd mlt
  have nop : ∀ y, X.M y ∨ X.D y → ¬ inBlk op y := fun y hy hq => by have := H.lt y hy; have := hop y hq; omega
  refine pick_ok (now := (now : Int)) B (by omega) (fun m hm => ?_) (fun hno => ?_)
  · obtain ⟨y, hy, hmk, hd, hleast⟩ := hm
    have q : ¬ (m : Int) < 0 := by omega
    simp only [q, decide_false, Bool.false_eq_true, if_false, Int.toNat_natCast]
    -- it is one of the old ones, and not over yet
    have hold : m ∉ ms ∧ Ls[m]? = some y := by
      rw [overL_at] at hy
      cases hL : Ls[m]? with
      | none => rw [hL] at hy; cases hy
      | some z =>
        rw [hL] at hy
        have hy := Option.some.inj hy
        dsimp only at hy
        by_cases hmem : m ∈ ms
        · rw [if_pos hmem] at hy
          have := hd.1
          rw [← hy] at this
          cases this
        · rw [if_neg hmem] at hy
          exact ⟨hmem, by rw [hy]⟩
    have hml2 := nodup_le (n := Ls.length) (ms := ms ++ [m]) (List.nodup_append.2 ⟨hnd, by simp, fun a ha b hb e => by simp at hb; subst hb; exact hold.1 (e ▸ ha)⟩) (fun i hi => by
      rcases List.mem_append.1 hi with hi | hi
      · exact mlt i hi
      · obtain rfl := List.mem_singleton.1 hi
        exact (List.getElem?_eq_some_iff.1 hold.2).1)
    rw [List.length_append, List.length_singleton] at hml2
    have wm : IntKind.wrap .i64 ((m : Int) + 1) = (m : Int) + 1 := by rw [hlen] at hmk; exact wrap_id (by omega) (by omega)
    rw [wm]
    refine den_append1 Alarm.tI uSI o rfl (fun v hv => by simp at hv; subst hv; rfl) (by omega) (by omega) fun p7 c7 h7 o7 f7 g7 => ⟨_, _, _, rfl, ?_⟩
    obtain ⟨lp, lc, xs, M⟩ := B
    have zz := st.fr.1
    have M7 := M.frame f7 nop
    have hxl := M7.len
    rw [hlen] at hmk
    obtain ⟨v, hv, hva⟩ := M7.get hy
    obtain ⟨ab, aoff, rfl⟩ := M7.own.addr (by omega)
    refine ⟨_, _, _, cell_at M7.blk rfl, _, _, _, cell_at M7.blk rfl, _, _, _, cell_at M7.blk rfl, ⟨by first | trivial | omega, by first | trivial | omega⟩, onSome_some.2 (M7.upd (y' := { v with fate := 2 }) hv (by decide) rfl rfl fun h8 M8 s8 => ⟨⟨by first | trivial | omega, by first | trivial | omega⟩, onSome_some.2 (M8.upd (y' := { v with fate := 2, ses := 0 }) (List.getElem?_set_self (by omega)) (by decide) rfl rfl fun h9 M9 s9 => ⟨⟨by first | trivial | omega, by first | trivial | omega⟩, onSome_some.2 (M9.upd (y' := { v with fate := 2, ses := 0, dl := 0 }) (List.getElem?_set_self (by rw [List.length_set]; omega)) (by decide) rfl rfl fun h10 M10 s10 => ?_)⟩)⟩)⟩
    rw [List.set_set, List.set_set, List.set_set, List.set_set] at M10
    have S10 := (s8.trans s9).trans s10
    have B8 : Rb h10 x X (overL Ls (ms ++ [m])) := by
      rw [← overL_set hy]
      have e1 : overC y = RW.abs { v with fate := 2, ses := 0, dl := 0 } := by rw [← hva]; rfl
      rw [e1]
      exact ⟨_, _, _, M10⟩
    have hop7 : ∀ y, inBlk p7 y → h.size ≤ y := fun y hy => (g7 y hy).elim (hop y) (fun h2 => by omega)
    have s7 : StepF X h X h7 := by
      refine ⟨⟨Nat.le_trans st.fr.1 f7.1, fun y hy hn => ?_⟩, st.newM, st.newD, st.oldD⟩
      rw [f7.2 y (by omega) (fun hq => by have := hop y hq; omega)]
      exact st.fr.2 y hy hn
    have ltm : ∀ j z, j ∉ ms → j ≠ m → Ls[j]? = some z → dueR (now : Int) z → Heapq.lt (kvR Ls m) (kvR Ls j) := by
      intro j z hj hjm hz hdz
      have h1 : (overL Ls ms)[j]? = some z := by rw [overL_at, hz, Option.map_some, if_neg hj]
      have hjl := (List.getElem?_eq_some_iff.1 hz).1
      have h2 := hleast j z (by omega) h1 hdz
      unfold kvR Heapq.lt
      rw [hold.2, hz]
      simp only [Option.map_some, Option.getD_some]
      rcases h2 with h2 | h2
      · left; omega
      · right; omega
    refine ⟨⟨ms ++ [m], by rw [List.length_append]; rfl, ?_, hop7, B8, s7.trans S10, ?_, ?_, ?_, ?_⟩, by show Ls.length - (ms.length + 1) < Ls.length - ms.length; omega⟩
    · rw [List.map_append]
      exact o7.frame S10.fr (fun y hy hm => by have := H.lt y (.inl hm); have := hop7 y hy; omega)
    · rw [List.map_append, List.pairwise_append]
      refine ⟨hs, by simp, fun a ha b hb => ?_⟩
      simp at hb
      subst hb
      obtain ⟨m', hm', rfl⟩ := List.mem_map.1 ha
      exact hmin m' hm' m y hold.1 hold.2 hd
    · exact List.nodup_append.2 ⟨hnd, by simp, fun a ha b hb e => by simp at hb; subst hb; exact hold.1 (e ▸ ha)⟩
    · intro i hi
      rcases List.mem_append.1 hi with hi | hi
      · exact hdue i hi
      · obtain rfl := List.mem_singleton.1 hi
        exact ⟨y, hold.2, hd⟩
    · intro m' hm' i z hi hz hdz
      have hi1 : i ∉ ms := fun h => hi (List.mem_append_left _ h)
      have hi2 : i ≠ m := fun h => hi (by rw [h]; simp)
      rcases List.mem_append.1 hm' with hm' | hm'
      · exact hmin m' hm' i z hi1 hz hdz
      · obtain rfl := List.mem_singleton.1 hm'
        exact ltm i z hi1 hi2 hz hdz
  · rw [if_pos (by decide)]
    have hmem : ∀ i, i ∈ ms ↔ ∃ y, Ls[i]? = some y ∧ dueR (now : Int) y := fun i => ⟨hdue i, fun ⟨y, hy, hdy⟩ => by
      apply Classical.byContradiction
      intro hni
      have h1 : (overL Ls ms)[i]? = some y := by rw [overL_at, hy, Option.map_some, if_neg hni]
      exact hno y (List.mem_of_getElem? h1) hdy⟩
    have zz := st.fr.1
    generalize hO : overL Ls ms = Os at B hlen hk
    refine ⟨fun t g' => ∃ k : Nat, t = (k : Int) ∧ k ≤ Os.length ∧ Rb g' x X ((Os.take k).map (freeR now) ++ Os.drop k) ∧ StepF X g X g', fun t _ => Os.length - t.toNat, ⟨0, rfl, by omega, by simpa using B, StepF.refl _ _⟩, ?_⟩
    rintro _ g' ⟨k, rfl, hkn, B', st'⟩
    obtain ⟨lp, lc, xs, M⟩ := B'
    have hxl : xs.length = Os.length := by rw [M.len, List.length_append, List.length_map, List.length_take, List.length_drop]; omega
    refine ⟨_, _, _, cell_at M.blk rfl, ?_⟩
    by_cases hlt : k < Os.length
    · have q1 : (k : Int) < ((xs.length : Nat) : Int) := by omega
      simp only [q1, decide_true, if_true, Int.toNat_natCast]
      have hx : xs[k]? = some (xs[k]'(by omega)) := List.getElem?_eq_getElem _
      generalize xs[k]'(by omega) = v at hx
      have e1 : ((Os.take k).map (freeR now)).length = k := by rw [List.length_map, List.length_take]; omega
      have e2 : ((Os.take (k + 1)).map (freeR now)).length = k + 1 := by rw [List.length_map, List.length_take]; omega
      have hOk : Os[k]? = some v.abs := by
        have := M.at hx
        rw [List.getElem?_append_right (by omega), List.getElem?_drop, e1] at this
        rw [← this]; congr 1; omega
      have ll : (Os.take (k + 1)).map (freeR now) ++ Os.drop (k + 1) = ((Os.take k).map (freeR now) ++ Os.drop k).set k (freeR now v.abs) := by
        apply List.ext_getElem?
        intro j
        rw [List.getElem?_set]
        by_cases ej : k = j
        · subst ej
          rw [if_pos rfl, if_pos (by rw [List.length_append, e1, List.length_drop]; omega), List.getElem?_append_left (by omega), List.getElem?_map, List.getElem?_take, if_pos (by omega), hOk]; rfl
        · rw [if_neg ej]
          by_cases hj : j < k
          · rw [List.getElem?_append_left (by omega), List.getElem?_append_left (by omega), List.getElem?_map, List.getElem?_map, List.getElem?_take, List.getElem?_take, if_pos (by omega), if_pos hj]
          · rw [List.getElem?_append_right (by omega), List.getElem?_append_right (by omega), e1, e2, List.getElem?_drop, List.getElem?_drop]; congr 1; omega
      have stay : ¬ (v.fate = 0 ∧ v.ses > 0 ∧ v.dl ≤ now) → (Os.take (k + 1)).map (freeR now) ++ Os.drop (k + 1) = (Os.take k).map (freeR now) ++ Os.drop k := fun hn => by
        rw [ll]
        have e3 : freeR now v.abs = v.abs := if_neg hn
        rw [e3]
        have hk := M.at hx
        apply List.ext_getElem?
        intro j
        rw [List.getElem?_set]
        split
        · rename_i ej
          subst ej
          rw [if_pos (List.getElem?_eq_some_iff.1 hk).1, hk]
        · rfl
      obtain ⟨ab, aoff, rfl⟩ := M.own.addr (by omega)
      have held := M.own.heldAt cenc_len hx
      have wr : IntKind.wrap .i64 ((k : Int) + 1) = (k : Int) + 1 := wrap_id (by omega) (by omega)
      rw [wr]
      refine JoinP.of fun J hJ => JoinP.of fun J1 hJ1 => ?_
      have no : ¬ (v.fate = 0 ∧ v.ses > 0 ∧ v.dl ≤ now) → J1 false g' := fun hn => by
        subst hJ1
        refine JoinP.of fun J2 hJ2 => ?_
        rw [if_neg (by decide)]
        subst hJ2; subst hJ
        exact ⟨⟨k + 1, by omega, by omega, by rw [stay hn]; exact ⟨_, _, _, M⟩, st'⟩, by show Os.length - Int.toNat ((k : Int) + 1) < Os.length - k; omega⟩
      refine ⟨_, _, _, cell_at M.blk rfl, ⟨by first | trivial | omega, by first | trivial | omega⟩, onSome_some.2 ⟨(v.fate : Int), cel held 10 rfl, ?_⟩⟩
      by_cases hf : v.fate = 0
      · rw [if_pos (by rw [hf]; rfl)]
        refine ⟨_, _, _, cell_at M.blk rfl, ⟨by first | trivial | omega, by first | trivial | omega⟩, onSome_some.2 ⟨v.ses, cel held 8 rfl, ?_⟩⟩
        by_cases hse : v.ses > 0
        · rw [if_pos (decide_eq_true hse)]
          refine ⟨_, _, _, cell_at M.blk rfl, ⟨by first | trivial | omega, by first | trivial | omega⟩, onSome_some.2 ⟨(v.dl : Int), cel held 9 rfl, ?_⟩⟩
          by_cases hdl : v.dl ≤ now
          · have : decide ((v.dl : Int) ≤ (now : Int)) = true := decide_eq_true (by omega)
            rw [this]
            clear no
            subst hJ1
            refine JoinP.of fun J2 hJ2 => ?_
            rw [if_pos rfl]
            refine ⟨_, _, _, cell_at M.blk rfl, _, _, _, cell_at M.blk rfl, ⟨by first | trivial | omega, by first | trivial | omega⟩, onSome_some.2 (M.upd (y' := { v with ses := 0 }) hx (by decide) rfl rfl fun h8 M8 s8 => ⟨⟨by first | trivial | omega, by first | trivial | omega⟩, onSome_some.2 (M8.upd (y' := { v with ses := 0, dl := 0 }) (List.getElem?_set_self (by omega)) (by decide) rfl rfl fun h9 M9 s9 => ?_)⟩)⟩
            rw [List.set_set, List.set_set] at M9
            subst hJ2; subst hJ
            refine ⟨⟨k + 1, by omega, by omega, ?_, st'.trans (s8.trans s9)⟩, by show Os.length - Int.toNat ((k : Int) + 1) < Os.length - k; omega⟩
            rw [ll]
            have e3 : freeR now v.abs = RW.abs { v with ses := 0, dl := 0 } := if_pos ⟨hf, hse, hdl⟩
            rw [e3]
            exact ⟨_, _, _, M9⟩
          · have : decide ((v.dl : Int) ≤ (now : Int)) = false := decide_eq_false (by omega)
            rw [this]; exact no (fun hh => hdl hh.2.2)
        · rw [if_neg (by simpa using hse)]; exact no (fun hh => hse hh.2.1)
      · rw [if_neg (by simp only [beq_iff_eq]; omega)]; exact no (fun hh => hf hh.1)
    · have q1 : ¬ (k : Int) < ((xs.length : Nat) : Int) := by omega
      simp only [q1, decide_false, Bool.false_eq_true, if_false]
      obtain rfl : k = Os.length := by omega
      have e1 : (Os.take Os.length).map (freeR now) ++ Os.drop Os.length = Os.map (freeR now) := by simp
      rw [e1] at M
      rw [← hO] at M
      refine hk g' op oc ms (o.frame st'.fr (fun y hy hm => nop y (.inl hm) hy)) hop ⟨_, _, _, M⟩ (st.trans st') hs hmem
end Rcp
end Go.Proofs.YtgccegnmggjkjaaGreatDoor

/-
  What is proved here: plain facts on the tables of copies: what is kept by each call. No condition.
-/
set_option maxRecDepth 100000
namespace Go.Proofs.YtgccegnmggjkjaaGreatDoor
open Go.Den Go.Heapq
namespace Cps
open Eid Alarm Fld
variable {h h' : Heap} {t : Nat} {X X' : Ft} {s s' : CF} {p : Option Addr} {n c : Nat} {now : Int}

structure Ord (s : CF) : Prop where
  nd : (s.L.map Cp.num).Nodup
  o1 : Sorted s.E1
  o2 : Sorted s.E2
  n1 : (keys s.E1).Nodup
  n2 : (keys s.E2).Nodup
theorem Ct.ord (H : Ct h t X s) : Ord s := by
  obtain ⟨m, xs, a1, S1, a2, S2, lab, H⟩ := H
  refine ⟨?_, H.al1.sorted, H.al2.sorted, H.al1.nodup, H.al2.nodup⟩
  rw [← H.abs, List.map_map]
  exact H.so.imp (fun h => Nat.ne_of_lt h)
structure okC (s : CF) : Prop where
  bd : ∀ z ∈ s.L, 1 ≤ z.num ∧ z.num < s.next ∧ z.d.length ≤ 600
  sp : ∀ z ∈ s.L, 0 ≤ z.ses
  e1 : ∀ e, e ∈ s.E1 ↔ ∃ z ∈ s.L, e = ((z.num : Int), (z.till : Int))
  e2 : ∀ e, e ∈ s.E2 ↔ ∃ z ∈ s.L, z.ses ≠ 0 ∧ e = ((z.num : Int), (z.dl : Int))
  cnt : s.next = 1 + s.L.length + s.acked + s.over + s.gone
theorem Ord.inj (O : Ord s) {z y : Cp} (hz : z ∈ s.L) (hy : y ∈ s.L) (e : z.num = y.num) : z = y := by
  obtain ⟨i, hi⟩ := List.getElem?_of_mem hz
  obtain ⟨j, hj⟩ := List.getElem?_of_mem hy
  have li := (List.getElem?_eq_some_iff.1 hi).1
  by_cases hij : i = j
  · subst hij; rw [hi] at hj; exact Option.some.inj hj
  · exfalso
    have h1 : (s.L.map Cp.num)[i]? = some z.num := by rw [List.getElem?_map, hi]; rfl
    have h2 : (s.L.map Cp.num)[j]? = some y.num := by rw [List.getElem?_map, hj]; rfl
    have : i = j := (List.getElem?_inj (by rw [List.length_map]; exact li) O.nd).1 (h1.trans ((congrArg some e).trans h2.symm))
    exact hij this
theorem dropK_mem {L : List E} {k : Int} {e : E} : e ∈ dropK L k ↔ e ∈ L ∧ e.1 ≠ k := by unfold dropK; simp [List.mem_filter]
theorem setL_mem {L : List E} {k v : Int} {e : E} : e ∈ setL L k v ↔ e = (k, v) ∨ (e ∈ L ∧ e.1 ≠ k) := by
  unfold setL
  rw [(insertS_perm _ _).mem_iff, List.mem_cons, dropK_mem]
theorem setL_len (L : List E) (k v : Int) : (setL L k v).length ≤ L.length + 1 := by
  unfold setL
  rw [(insertS_perm _ _).length_eq, List.length_cons]
  have := dropK_len L k
  omega
theorem delL_mem {L : List Cp} {k : Int} {z : Cp} : z ∈ delL L k ↔ z ∈ L ∧ (z.num : Int) ≠ k := by unfold delL; simp [List.mem_filter]
theorem setC_mem {L : List Cp} {n : Nat} {a : Int} {b : Nat} {z : Cp} : z ∈ setC L n a b ↔ ∃ y ∈ L, z = if y.num = n then { y with ses := a, dl := b } else y := by
  unfold setC; rw [List.mem_map]
  exact ⟨fun ⟨y, h1, h2⟩ => ⟨y, h1, h2.symm⟩, fun ⟨y, h1, h2⟩ => ⟨y, h1, h2.symm⟩⟩
theorem setC_len (L : List Cp) (n : Nat) (a : Int) (b : Nat) : (setC L n a b).length = L.length := by unfold setC; rw [List.length_map]
theorem del_len : ∀ {L : List Cp}, (L.map Cp.num).Nodup → ∀ {z : Cp}, z ∈ L → (delL L (z.num : Int)).length + 1 = L.length
  | [], _, z, hz => by cases hz
  | y :: l, nd, z, hz => by
    rw [List.map_cons, List.nodup_cons] at nd
    unfold delL
    rw [List.filter_cons]
    rcases List.mem_cons.1 hz with rfl | hz
    · rw [if_neg (by simp), List.filter_eq_self.2 (fun x hx => ?_), List.length_cons]
      have : x.num ≠ z.num := fun e => nd.1 (by rw [← e]; exact List.mem_map_of_mem hx)
      simp; omega
    · have hne : y.num ≠ z.num := fun e => nd.1 (by rw [e]; exact List.mem_map_of_mem hz)
      rw [if_pos (by simp; omega), List.length_cons, List.length_cons]
      have := del_len nd.2 hz
      unfold delL at this
      omega
/-! ### one call each -/
theorem okC.add (ok : okC s) (x : Ev) (d : List UInt8) (till : Nat) : okC (addF s x d till) := by
  unfold addF
  by_cases he : addE s x d till = 0
  · rw [if_pos he]
    have hd : d.length ≤ 600 := by
      unfold addE at he
      split at he
      · rename_i hm
        unfold mayC at hm
        simp only [Bool.and_eq_true, decide_eq_true_eq] at hm
        exact hm.2.2.2.1
      · cases he
    refine ⟨fun z hz => ?_, fun z hz => ?_, fun e => ?_, fun e => ?_, ?_⟩
    · rcases List.mem_append.1 hz with hz | hz
      · have := ok.bd z hz; exact ⟨this.1, Nat.lt_succ_of_lt this.2.1, this.2.2⟩
      · obtain rfl := List.mem_singleton.1 hz
        exact ⟨by have := ok.cnt; show 1 ≤ s.next; omega, Nat.lt_succ_self _, hd⟩
    · rcases List.mem_append.1 hz with hz | hz
      · exact ok.sp z hz
      · obtain rfl := List.mem_singleton.1 hz
        exact Int.le_refl _
    · show e ∈ setL s.E1 _ _ ↔ ∃ z ∈ s.L ++ [_], _
      rw [setL_mem, ok.e1]
      constructor
      · rintro (rfl | ⟨⟨z, hz, rfl⟩, _⟩)
        · exact ⟨_, List.mem_append.2 (.inr (List.mem_singleton.2 rfl)), rfl⟩
        · exact ⟨z, List.mem_append.2 (.inl hz), rfl⟩
      · rintro ⟨z, hz, rfl⟩
        rcases List.mem_append.1 hz with hz | hz
        · exact .inr ⟨⟨z, hz, rfl⟩, by have := (ok.bd z hz).2.1; show (z.num : Int) ≠ _; omega⟩
        · obtain rfl := List.mem_singleton.1 hz; exact .inl rfl
    · show e ∈ s.E2 ↔ ∃ z ∈ s.L ++ [_], _
      rw [ok.e2]
      constructor
      · rintro ⟨z, hz, h2⟩; exact ⟨z, List.mem_append.2 (.inl hz), h2⟩
      · rintro ⟨z, hz, h2⟩
        rcases List.mem_append.1 hz with hz | hz
        · exact ⟨z, hz, h2⟩
        · obtain rfl := List.mem_singleton.1 hz; exact absurd rfl h2.1
    · have := ok.cnt
      show s.next + 1 = 1 + (s.L ++ [_]).length + s.acked + s.over + s.gone
      rw [List.length_append, List.length_singleton]; omega
  · rw [if_neg he]; exact ok
theorem okC.rem (ok : okC s) (O : Ord s) {z : Cp} (hz : z ∈ s.L) (hL : s'.L = delL s.L (z.num : Int)) (h1 : s'.E1 = dropK s.E1 (z.num : Int)) (h2 : s'.E2 = dropK s.E2 (z.num : Int)) (hn : s'.next = s.next) (hc : s'.acked + s'.over + s'.gone = s.acked + s.over + s.gone + 1) : okC s' := by
  refine ⟨fun y hy => ?_, fun y hy => ?_, fun e => ?_, fun e => ?_, ?_⟩
  · rw [hL, delL_mem] at hy; rw [hn]; exact ok.bd y hy.1
  · rw [hL, delL_mem] at hy; exact ok.sp y hy.1
  · rw [h1, dropK_mem, ok.e1, hL]
    constructor
    · rintro ⟨⟨y, hy, rfl⟩, hne⟩; exact ⟨y, delL_mem.2 ⟨hy, hne⟩, rfl⟩
    · rintro ⟨y, hy, rfl⟩; have := delL_mem.1 hy; exact ⟨⟨y, this.1, rfl⟩, this.2⟩
  · rw [h2, dropK_mem, ok.e2, hL]
    constructor
    · rintro ⟨⟨y, hy, hs, rfl⟩, hne⟩; exact ⟨y, delL_mem.2 ⟨hy, hne⟩, hs, rfl⟩
    · rintro ⟨y, hy, hs, rfl⟩; have := delL_mem.1 hy; exact ⟨⟨y, this.1, hs, rfl⟩, this.2⟩
  · have := del_len O.nd hz
    have := ok.cnt
    rw [hn, hL]; omega
theorem findE_ok {L : List Cp} {k ses : Int} (h : findE L k ses = 0) : ∃ z ∈ L, (z.num : Int) = k ∧ z.ses = ses ∧ ses ≠ 0 := by
  unfold findE at h
  cases hg : getC L k with
  | none => rw [hg] at h; cases h
  | some z =>
    rw [hg] at h
    dsimp only at h
    split at h
    · cases h
    · rename_i hn
      obtain ⟨h1, h2⟩ := getC_some hg
      refine ⟨z, h1, h2, ?_, ?_⟩ <;> (simp only [not_or, Decidable.not_not] at hn)
      · exact hn.2
      · rw [← hn.2]; exact hn.1
theorem findE_of (O : Ord s) {k ses : Int} {z : Cp} (hz : z ∈ s.L) (e : (z.num : Int) = k) (h1 : z.ses = ses) (h2 : ses ≠ 0) : findE s.L k ses = 0 := by
  unfold findE
  cases hg : getC s.L k with
  | none => exact absurd e (getC_none.1 hg z hz)
  | some y =>
    obtain ⟨g1, g2⟩ := getC_some hg
    obtain rfl := O.inj hz g1 (by omega)
    dsimp only
    rw [if_neg]
    rw [h1]; simp [h2]
theorem okC.ack (ok : okC s) (O : Ord s) (k ses : Int) : okC (ackF s k ses) := by
  unfold ackF
  by_cases he : findE s.L k ses = 0
  · rw [if_pos he]
    obtain ⟨z, hz, rfl, _, _⟩ := findE_ok he
    exact ok.rem O hz rfl rfl rfl rfl (by show s.acked + 1 + s.over + s.gone = _; omega)
  · rw [if_neg he]; exact ok
theorem okC.set (ok : okC s) (O : Ord s) {z : Cp} (hz : z ∈ s.L) {a : Int} {b : Nat} (ha : 0 ≤ a) (hL : s'.L = setC s.L z.num a b) (h1 : s'.E1 = s.E1) (h2 : ∀ e, e ∈ s'.E2 ↔ (a ≠ 0 ∧ e = ((z.num : Int), (b : Int))) ∨ (e ∈ s.E2 ∧ e.1 ≠ (z.num : Int))) (hn : s'.next = s.next) (hc : s'.acked + s'.over + s'.gone = s.acked + s.over + s.gone) : okC s' := by
  refine ⟨fun y hy => ?_, fun y hy => ?_, fun e => ?_, fun e => ?_, ?_⟩
  · rw [hL, setC_mem] at hy
    obtain ⟨u, hu, rfl⟩ := hy
    rw [hn]
    have := ok.bd u hu
    split <;> exact this
  · rw [hL, setC_mem] at hy
    obtain ⟨u, hu, rfl⟩ := hy
    split
    · exact ha
    · exact ok.sp u hu
  · rw [h1, ok.e1, hL]
    constructor
    · rintro ⟨y, hy, rfl⟩
      refine ⟨_, setC_mem.2 ⟨y, hy, rfl⟩, ?_⟩
      split <;> rfl
    · rintro ⟨y, hy, rfl⟩
      obtain ⟨u, hu, rfl⟩ := setC_mem.1 hy
      refine ⟨u, hu, ?_⟩
      split <;> rfl
  · rw [h2, ok.e2, hL]
    constructor
    · rintro (⟨h3, rfl⟩ | ⟨⟨y, hy, h4, rfl⟩, h5⟩)
      · refine ⟨_, setC_mem.2 ⟨z, hz, rfl⟩, ?_⟩
        rw [if_pos rfl]; exact ⟨h3, rfl⟩
      · refine ⟨_, setC_mem.2 ⟨y, hy, rfl⟩, ?_⟩
        rw [if_neg (fun e => h5 (by rw [e]))]; exact ⟨h4, rfl⟩
    · rintro ⟨y, hy, h4, rfl⟩
      obtain ⟨u, hu, rfl⟩ := setC_mem.1 hy
      by_cases e : u.num = z.num
      · rw [if_pos e] at h4 ⊢
        exact .inl ⟨h4, by rw [← e]⟩
      · rw [if_neg e] at h4 ⊢
        exact .inr ⟨⟨u, hu, h4, rfl⟩, by show (u.num : Int) ≠ _; omega⟩
  · have := ok.cnt
    rw [hn, hL, setC_len]; omega
theorem okC.rel (ok : okC s) (O : Ord s) (k ses : Int) : okC (relF s k ses) := by
  unfold relF
  by_cases he : findE s.L k ses = 0
  · rw [if_pos he]
    obtain ⟨z, hz, rfl, _, _⟩ := findE_ok he
    rw [Int.toNat_natCast]
    refine ok.set O hz (Int.le_refl 0) rfl rfl (fun e => ?_) rfl rfl
    show e ∈ dropK _ _ ↔ _
    rw [dropK_mem]
    simp
  · rw [if_neg he]; exact ok
theorem leaseC_mem {L : List Cp} {x : Ev} {z : Cp} (h : leaseC L x = some z) : z ∈ L ∧ z.e = x ∧ z.ses = 0 := by
  unfold leaseC ofL at h
  have h1 := List.mem_of_find?_eq_some h
  have h2 := List.find?_some h
  rw [List.mem_filter] at h1
  exact ⟨h1.1, by simpa using h1.2, by simpa using h2⟩
theorem okC.lease (ok : okC s) (O : Ord s) {z : Cp} (hz : z ∈ s.L) {ses : Int} {dl : Nat} (hm : mayS ses dl) : okC (leaseF s z ses dl) := by
  have h1 := hm.1
  refine ok.set O hz (by omega) rfl rfl (fun e => ?_) rfl rfl
  show e ∈ setL _ _ _ ↔ _
  rw [setL_mem]
  have : ses ≠ 0 := by omega
  simp [this]
end Cps
end Go.Proofs.YtgccegnmggjkjaaGreatDoor

/-
  Printed by a program of this work (vc.py): the verification conditions of functions, and that each is enough for the call. No condition.
-/
set_option maxRecDepth 100000
set_option maxHeartbeats 4000000
namespace Go.Proofs.YtgccegnmggjkjaaGreatDoor
open Go.Den
def copies_record.vc (c : Nat) (h : Heap) (R : Value → Heap → Prop) : Prop :=
  eid_Eid.LD h ⟨c, 1, none⟩ fun t9_0 t9_1 t9_2 t9_3 t9_4 =>
  CallsH Tryz.prog F.eid_Text #[.agg #[.bool t9_0, .int .u64 t9_1, .int .u64 t9_2, .string t9_3, .string t9_4]] h fun v h_1 =>
  ∃ (t10_0 : ByteArray), ∃ (t10_1 : Int), v = .tuple #[.string t10_0, .int .i64 t10_1] ∧
  ∃ (t17 : Int), hcell h_1 ⟨c, 0, none⟩ = some (.int .i64 t17) ∧
  ∃ (t25_p : Option Addr) (t25_l t25_c : Nat), hcell h_1 ⟨c, 6, none⟩ = some (.slice t25_p t25_l t25_c) ∧
  ∃ (t30 : Int), hcell h_1 ⟨c, 7, none⟩ = some (.int .u64 t30) ∧
  ∃ (t35 : Int), hcell h_1 ⟨c, 8, none⟩ = some (.int .i64 t35) ∧
  ∃ (t40 : Int), hcell h_1 ⟨c, 9, none⟩ = some (.int .u64 t40) ∧
  (CallsH Tryz.prog F.fields_New #[] h_1 fun v_1 h_2 =>
  ∃ (t13 : Option Addr), v_1 = .pointer t13 ∧
  hcell h_2 ⟨c, 9, none⟩ = some (.int .u64 t40) ∧
  hcell h_2 ⟨c, 8, none⟩ = some (.int .i64 t35) ∧
  hcell h_2 ⟨c, 7, none⟩ = some (.int .u64 t30) ∧
  hcell h_2 ⟨c, 6, none⟩ = some (.slice t25_p t25_l t25_c) ∧
  hcell h_2 ⟨c, 0, none⟩ = some (.int .i64 t17) ∧
  (CallsH Tryz.prog F.fields_Writer_Int #[.pointer t13, .int .i64 t17] h_2 fun v_2 h_3 =>
  ∃ (t18 : Option Addr), v_2 = .pointer t18 ∧
  hcell h_3 ⟨c, 9, none⟩ = some (.int .u64 t40) ∧
  hcell h_3 ⟨c, 8, none⟩ = some (.int .i64 t35) ∧
  hcell h_3 ⟨c, 7, none⟩ = some (.int .u64 t30) ∧
  hcell h_3 ⟨c, 6, none⟩ = some (.slice t25_p t25_l t25_c) ∧
  denSem Tryz.prog (convert T.string T.s_uint8 (.string t10_0)) h_3 fun v_3 h_4 =>
  ∃ (t20_p : Option Addr) (t20_l t20_c : Nat), v_3 = .slice t20_p t20_l t20_c ∧
  hcell h_4 ⟨c, 9, none⟩ = some (.int .u64 t40) ∧
  hcell h_4 ⟨c, 8, none⟩ = some (.int .i64 t35) ∧
  hcell h_4 ⟨c, 7, none⟩ = some (.int .u64 t30) ∧
  hcell h_4 ⟨c, 6, none⟩ = some (.slice t25_p t25_l t25_c) ∧
  CallsH Tryz.prog F.fields_Writer_Text #[.pointer t18, .slice t20_p t20_l t20_c] h_4 fun v_4 h_5 =>
  ∃ (t21 : Option Addr), v_4 = .pointer t21 ∧
  hcell h_5 ⟨c, 9, none⟩ = some (.int .u64 t40) ∧
  hcell h_5 ⟨c, 8, none⟩ = some (.int .i64 t35) ∧
  hcell h_5 ⟨c, 7, none⟩ = some (.int .u64 t30) ∧
  hcell h_5 ⟨c, 6, none⟩ = some (.slice t25_p t25_l t25_c) ∧
  CallsH Tryz.prog F.fields_Writer_Text #[.pointer t21, .slice t25_p t25_l t25_c] h_5 fun v_5 h_6 =>
  ∃ (t26 : Option Addr), v_5 = .pointer t26 ∧
  hcell h_6 ⟨c, 9, none⟩ = some (.int .u64 t40) ∧
  hcell h_6 ⟨c, 8, none⟩ = some (.int .i64 t35) ∧
  hcell h_6 ⟨c, 7, none⟩ = some (.int .u64 t30) ∧
  CallsH Tryz.prog F.fields_Writer_Num #[.pointer t26, .int .u64 t30] h_6 fun v_6 h_7 =>
  ∃ (t31 : Option Addr), v_6 = .pointer t31 ∧
  hcell h_7 ⟨c, 9, none⟩ = some (.int .u64 t40) ∧
  hcell h_7 ⟨c, 8, none⟩ = some (.int .i64 t35) ∧
  CallsH Tryz.prog F.fields_Writer_Int #[.pointer t31, .int .i64 t35] h_7 fun v_7 h_8 =>
  ∃ (t36 : Option Addr), v_7 = .pointer t36 ∧
  hcell h_8 ⟨c, 9, none⟩ = some (.int .u64 t40) ∧
  CallsH Tryz.prog F.fields_Writer_Num #[.pointer t36, .int .u64 t40] h_8 fun v_8 h_9 =>
  ∃ (t41 : Option Addr), v_8 = .pointer t41 ∧
  CallsH Tryz.prog F.fields_Writer_Bytes #[.pointer t41] h_9 fun v_9 h_10 =>
  ∃ (t42_p : Option Addr) (t42_l t42_c : Nat), v_9 = .slice t42_p t42_l t42_c ∧
  R (.slice t42_p t42_l t42_c) h_10) ∧
  (denSem Tryz.prog (convert T.string T.s_uint8 (.string t10_0)) h_2 fun v_10 h_11 =>
  ∃ (t20_p_1 : Option Addr) (t20_l_1 t20_c_1 : Nat), v_10 = .slice t20_p_1 t20_l_1 t20_c_1 ∧
  hcell h_11 ⟨c, 9, none⟩ = some (.int .u64 t40) ∧
  hcell h_11 ⟨c, 8, none⟩ = some (.int .i64 t35) ∧
  hcell h_11 ⟨c, 7, none⟩ = some (.int .u64 t30) ∧
  hcell h_11 ⟨c, 6, none⟩ = some (.slice t25_p t25_l t25_c) ∧
  hcell h_11 ⟨c, 0, none⟩ = some (.int .i64 t17) ∧
  CallsH Tryz.prog F.fields_Writer_Int #[.pointer t13, .int .i64 t17] h_11 fun v_11 h_12 =>
  ∃ (t18_1 : Option Addr), v_11 = .pointer t18_1 ∧
  hcell h_12 ⟨c, 9, none⟩ = some (.int .u64 t40) ∧
  hcell h_12 ⟨c, 8, none⟩ = some (.int .i64 t35) ∧
  hcell h_12 ⟨c, 7, none⟩ = some (.int .u64 t30) ∧
  hcell h_12 ⟨c, 6, none⟩ = some (.slice t25_p t25_l t25_c) ∧
  CallsH Tryz.prog F.fields_Writer_Text #[.pointer t18_1, .slice t20_p_1 t20_l_1 t20_c_1] h_12 fun v_12 h_13 =>
  ∃ (t21_1 : Option Addr), v_12 = .pointer t21_1 ∧
  hcell h_13 ⟨c, 9, none⟩ = some (.int .u64 t40) ∧
  hcell h_13 ⟨c, 8, none⟩ = some (.int .i64 t35) ∧
  hcell h_13 ⟨c, 7, none⟩ = some (.int .u64 t30) ∧
  hcell h_13 ⟨c, 6, none⟩ = some (.slice t25_p t25_l t25_c) ∧
  CallsH Tryz.prog F.fields_Writer_Text #[.pointer t21_1, .slice t25_p t25_l t25_c] h_13 fun v_13 h_14 =>
  ∃ (t26_1 : Option Addr), v_13 = .pointer t26_1 ∧
  hcell h_14 ⟨c, 9, none⟩ = some (.int .u64 t40) ∧
  hcell h_14 ⟨c, 8, none⟩ = some (.int .i64 t35) ∧
  hcell h_14 ⟨c, 7, none⟩ = some (.int .u64 t30) ∧
  CallsH Tryz.prog F.fields_Writer_Num #[.pointer t26_1, .int .u64 t30] h_14 fun v_14 h_15 =>
  ∃ (t31_1 : Option Addr), v_14 = .pointer t31_1 ∧
  hcell h_15 ⟨c, 9, none⟩ = some (.int .u64 t40) ∧
  hcell h_15 ⟨c, 8, none⟩ = some (.int .i64 t35) ∧
  CallsH Tryz.prog F.fields_Writer_Int #[.pointer t31_1, .int .i64 t35] h_15 fun v_15 h_16 =>
  ∃ (t36_1 : Option Addr), v_15 = .pointer t36_1 ∧
  hcell h_16 ⟨c, 9, none⟩ = some (.int .u64 t40) ∧
  CallsH Tryz.prog F.fields_Writer_Num #[.pointer t36_1, .int .u64 t40] h_16 fun v_16 h_17 =>
  ∃ (t41_1 : Option Addr), v_16 = .pointer t41_1 ∧
  CallsH Tryz.prog F.fields_Writer_Bytes #[.pointer t41_1] h_17 fun v_17 h_18 =>
  ∃ (t42_p_1 : Option Addr) (t42_l_1 t42_c_1 : Nat), v_17 = .slice t42_p_1 t42_l_1 t42_c_1 ∧
  R (.slice t42_p_1 t42_l_1 t42_c_1) h_18) ∧
  True) ∧
  (denSem Tryz.prog (convert T.string T.s_uint8 (.string t10_0)) h_1 fun v_18 h_19 =>
  ∃ (t20_p_2 : Option Addr) (t20_l_2 t20_c_2 : Nat), v_18 = .slice t20_p_2 t20_l_2 t20_c_2 ∧
  hcell h_19 ⟨c, 9, none⟩ = some (.int .u64 t40) ∧
  hcell h_19 ⟨c, 8, none⟩ = some (.int .i64 t35) ∧
  hcell h_19 ⟨c, 7, none⟩ = some (.int .u64 t30) ∧
  hcell h_19 ⟨c, 6, none⟩ = some (.slice t25_p t25_l t25_c) ∧
  hcell h_19 ⟨c, 0, none⟩ = some (.int .i64 t17) ∧
  CallsH Tryz.prog F.fields_New #[] h_19 fun v_19 h_20 =>
  ∃ (t13_1 : Option Addr), v_19 = .pointer t13_1 ∧
  hcell h_20 ⟨c, 9, none⟩ = some (.int .u64 t40) ∧
  hcell h_20 ⟨c, 8, none⟩ = some (.int .i64 t35) ∧
  hcell h_20 ⟨c, 7, none⟩ = some (.int .u64 t30) ∧
  hcell h_20 ⟨c, 6, none⟩ = some (.slice t25_p t25_l t25_c) ∧
  hcell h_20 ⟨c, 0, none⟩ = some (.int .i64 t17) ∧
  CallsH Tryz.prog F.fields_Writer_Int #[.pointer t13_1, .int .i64 t17] h_20 fun v_20 h_21 =>
  ∃ (t18_2 : Option Addr), v_20 = .pointer t18_2 ∧
  hcell h_21 ⟨c, 9, none⟩ = some (.int .u64 t40) ∧
  hcell h_21 ⟨c, 8, none⟩ = some (.int .i64 t35) ∧
  hcell h_21 ⟨c, 7, none⟩ = some (.int .u64 t30) ∧
  hcell h_21 ⟨c, 6, none⟩ = some (.slice t25_p t25_l t25_c) ∧
  CallsH Tryz.prog F.fields_Writer_Text #[.pointer t18_2, .slice t20_p_2 t20_l_2 t20_c_2] h_21 fun v_21 h_22 =>
  ∃ (t21_2 : Option Addr), v_21 = .pointer t21_2 ∧
  hcell h_22 ⟨c, 9, none⟩ = some (.int .u64 t40) ∧
  hcell h_22 ⟨c, 8, none⟩ = some (.int .i64 t35) ∧
  hcell h_22 ⟨c, 7, none⟩ = some (.int .u64 t30) ∧
  hcell h_22 ⟨c, 6, none⟩ = some (.slice t25_p t25_l t25_c) ∧
  CallsH Tryz.prog F.fields_Writer_Text #[.pointer t21_2, .slice t25_p t25_l t25_c] h_22 fun v_22 h_23 =>
  ∃ (t26_2 : Option Addr), v_22 = .pointer t26_2 ∧
  hcell h_23 ⟨c, 9, none⟩ = some (.int .u64 t40) ∧
  hcell h_23 ⟨c, 8, none⟩ = some (.int .i64 t35) ∧
  hcell h_23 ⟨c, 7, none⟩ = some (.int .u64 t30) ∧
  CallsH Tryz.prog F.fields_Writer_Num #[.pointer t26_2, .int .u64 t30] h_23 fun v_23 h_24 =>
  ∃ (t31_2 : Option Addr), v_23 = .pointer t31_2 ∧
  hcell h_24 ⟨c, 9, none⟩ = some (.int .u64 t40) ∧
  hcell h_24 ⟨c, 8, none⟩ = some (.int .i64 t35) ∧
  CallsH Tryz.prog F.fields_Writer_Int #[.pointer t31_2, .int .i64 t35] h_24 fun v_24 h_25 =>
  ∃ (t36_2 : Option Addr), v_24 = .pointer t36_2 ∧
  hcell h_25 ⟨c, 9, none⟩ = some (.int .u64 t40) ∧
  CallsH Tryz.prog F.fields_Writer_Num #[.pointer t36_2, .int .u64 t40] h_25 fun v_25 h_26 =>
  ∃ (t41_2 : Option Addr), v_25 = .pointer t41_2 ∧
  CallsH Tryz.prog F.fields_Writer_Bytes #[.pointer t41_2] h_26 fun v_26 h_27 =>
  ∃ (t42_p_2 : Option Addr) (t42_l_2 t42_c_2 : Nat), v_26 = .slice t42_p_2 t42_l_2 t42_c_2 ∧
  R (.slice t42_p_2 t42_l_2 t42_c_2) h_27) ∧
  True
theorem copies_record.den_eq (c : Nat) (h : Heap) (R : Value → Heap → Prop) : copies_record.vc c h R = den Tryz.prog Tryz.f78.ntmps (.seq .leaf (.seq .leaf (.seq (.plan (.op 1 (.op 2 (.op 3 (.op 4 (.op 6 (.op 9 (.op 10 (.op 11 (.op 12 (.op 14 (.op 15 (.op 16 (.op 17 (.op 19 (.op 20 (.op 21 (.op 22 (.op 24 (.op 25 (.op 26 (.op 27 (.alts (.fork 0 (.alts (.fork 5 (.op 7 (.op 8 (.op 13 (.op 18 (.op 23 (.op 28 (.op 29 (.op 30 .done)))))))) (.fork 7 (.op 5 (.op 8 (.op 13 (.op 18 (.op 23 (.op 28 (.op 29 (.op 30 .done)))))))) .noalt))) (.fork 7 (.op 0 (.op 5 (.op 8 (.op 13 (.op 18 (.op 23 (.op 28 (.op 29 (.op 30 .done))))))))) .noalt))))))))))))))))))))))))) .leaf))) none (bodyOf Tryz.f78) (retK Tryz.prog Tryz.f78.results R) (argEnv [.pointer (some ⟨c, 0, none⟩)]) h := by kernel_rfl
theorem copies_record.walk {c : Nat} {h : Heap} {R : Value → Heap → Prop} (hv : copies_record.vc c h R) : CallsH Tryz.prog F.copies_record #[.pointer (some ⟨c, 0, none⟩)] h R :=
  callsH_of_body _ Tryz.func78 rfl rfl (Eq.mp (copies_record.den_eq c h R) hv)

def copies_Table_Save.vc (t : Nat) (h : Heap) (R : Value → Heap → Prop) : Prop :=
  CallsH Tryz.prog F.copies_Table_made #[.pointer (some ⟨t, 0, none⟩)] h fun v h_1 =>
  ∃ (t7 : Bool), v = .bool t7 ∧
  if (!t7) = true then
    R (.slice none 0 0) h_1
  else
    ∃ (t13 : Int), hcell h_1 ⟨t, 1, none⟩ = some (.int .i64 t13) ∧
    ∃ (t18 : Int), hcell h_1 ⟨t, 2, none⟩ = some (.int .i64 t18) ∧
    ∃ (t23 : Int), hcell h_1 ⟨t, 3, none⟩ = some (.int .i64 t23) ∧
    ∃ (t28 : Int), hcell h_1 ⟨t, 4, none⟩ = some (.int .i64 t28) ∧
    ∃ (t33 : Option Nat), hcell h_1 ⟨t, 0, none⟩ = some (.map t33) ∧
    CallsH Tryz.prog F.fields_New #[] h_1 fun v_1 h_2 =>
    ∃ (t9 : Option Addr), v_1 = .pointer t9 ∧
    hcell h_2 ⟨t, 0, none⟩ = some (.map t33) ∧
    hcell h_2 ⟨t, 4, none⟩ = some (.int .i64 t28) ∧
    hcell h_2 ⟨t, 3, none⟩ = some (.int .i64 t23) ∧
    hcell h_2 ⟨t, 2, none⟩ = some (.int .i64 t18) ∧
    hcell h_2 ⟨t, 1, none⟩ = some (.int .i64 t13) ∧
    CallsH Tryz.prog F.fields_Writer_Int #[.pointer t9, .int .i64 t13] h_2 fun v_2 h_3 =>
    ∃ (t14 : Option Addr), v_2 = .pointer t14 ∧
    hcell h_3 ⟨t, 0, none⟩ = some (.map t33) ∧
    hcell h_3 ⟨t, 4, none⟩ = some (.int .i64 t28) ∧
    hcell h_3 ⟨t, 3, none⟩ = some (.int .i64 t23) ∧
    hcell h_3 ⟨t, 2, none⟩ = some (.int .i64 t18) ∧
    CallsH Tryz.prog F.fields_Writer_Int #[.pointer t14, .int .i64 t18] h_3 fun v_3 h_4 =>
    ∃ (t19 : Option Addr), v_3 = .pointer t19 ∧
    hcell h_4 ⟨t, 0, none⟩ = some (.map t33) ∧
    hcell h_4 ⟨t, 4, none⟩ = some (.int .i64 t28) ∧
    hcell h_4 ⟨t, 3, none⟩ = some (.int .i64 t23) ∧
    CallsH Tryz.prog F.fields_Writer_Int #[.pointer t19, .int .i64 t23] h_4 fun v_4 h_5 =>
    ∃ (t24 : Option Addr), v_4 = .pointer t24 ∧
    hcell h_5 ⟨t, 0, none⟩ = some (.map t33) ∧
    hcell h_5 ⟨t, 4, none⟩ = some (.int .i64 t28) ∧
    CallsH Tryz.prog F.fields_Writer_Int #[.pointer t24, .int .i64 t28] h_5 fun v_5 h_6 =>
    ∃ (t29 : Option Addr), v_5 = .pointer t29 ∧
    hcell h_6 ⟨t, 0, none⟩ = some (.map t33) ∧
    ∃ t34 : Int, LenV Tryz.prog #[T.m_int_p_copies_Copy] T.int (.map t33) h_6 (.int .i64 t34) ∧
    CallsH Tryz.prog F.fields_Writer_Int #[.pointer t29, .int .i64 t34] h_6 fun v_6 h_7 =>
    ∃ (t35 : Option Addr), v_6 = .pointer t35 ∧
    hcell h_7 ⟨t, 0, none⟩ = some (.map t33) ∧
    CallsH Tryz.prog F.fields_Writer_Bytes #[.pointer t35] h_7 fun v_7 h_8 =>
    ∃ (t36_p : Option Addr) (t36_l t36_c : Nat), v_7 = .slice t36_p t36_l t36_c ∧
    hcell h_8 ⟨t, 0, none⟩ = some (.map t33) ∧
    NewP h_8 (.cells #[.slice t36_p t36_l t36_c] T.s_uint8) fun b h_9 =>
    hcell h_9 ⟨t, 0, none⟩ = some (.map t33) ∧
    CallsH Tryz.prog F.copies_Table_numbers #[.pointer (some ⟨t, 0, none⟩)] h_9 fun v_8 h_10 =>
    ∃ (t39_p : Option Addr) (t39_l t39_c : Nat), v_8 = .slice t39_p t39_l t39_c ∧
    ∃ (I : Option Addr → Nat → Nat → Int → Heap → Prop) (mu : Option Addr → Nat → Nat → Int → Heap → Nat), I (some ⟨b, 0, none⟩) 1 1 0 h_10 ∧ ∀ (out_p : Option Addr) (out_l out_c : Nat) (t41 : Int) (h_11 : Heap), I out_p out_l out_c t41 h_11 →
      if (decide (t41 < ((t39_l : Nat) : Int))) = true then
        ((0 : Int) ≤ t41 ∧ t41 < ((t39_l : Nat) : Int)) ∧
        onSome t39_p fun a =>
        ∃ (t44 : Int), hcell h_11 (a.add (Int.toNat t41 * 1)) = some (.int .i64 t44) ∧
        ∃ (t49 : Option Nat), hcell h_11 ⟨t, 0, none⟩ = some (.map t49) ∧
        ∃ (t51 : Option Addr), LookV Tryz.prog T.m_int_p_copies_Copy (.map t49) (.int .i64 t44) false h_11 (.pointer t51) ∧
        CallsH Tryz.prog F.copies_record #[.pointer t51] h_11 fun v_9 h_12 =>
        ∃ (t52_p : Option Addr) (t52_l t52_c : Nat), v_9 = .slice t52_p t52_l t52_c ∧
        NewP h_12 (.cells #[.slice t52_p t52_l t52_c] T.s_uint8) fun b_1 h_13 =>
        denSem Tryz.prog (Builtin.append_ #[T.s_s_uint8, T.s_s_uint8] T.s_s_uint8 #[.slice out_p out_l out_c, .slice (some ⟨b_1, 0, none⟩) 1 1]) h_13 fun v_10 h_14 =>
        ∃ (t54_p : Option Addr) (t54_l t54_c : Nat), v_10 = .slice t54_p t54_l t54_c ∧
        (I t54_p t54_l t54_c (IntKind.wrap .i64 (t41 + 1)) h_14 ∧ mu t54_p t54_l t54_c (IntKind.wrap .i64 (t41 + 1)) h_14 < mu out_p out_l out_c t41 h_11)
      else
        R (.slice out_p out_l out_c) h_11
theorem copies_Table_Save.den_eq (t : Nat) (h : Heap) (R : Value → Heap → Prop) : copies_Table_Save.vc t h R = den Tryz.prog Tryz.f21.ntmps (.seq .leaf (.seq (.seq .leaf (.cond (.seq .leaf .leaf) .leaf)) (.seq (.plan (.op 1 (.op 2 (.op 3 (.op 4 (.op 6 (.op 7 (.op 8 (.op 9 (.op 11 (.op 12 (.op 13 (.op 14 (.op 16 (.op 17 (.op 18 (.op 19 (.op 21 (.op 22 (.op 23 (.op 24 (.op 0 (.op 5 (.op 10 (.op 15 (.op 20 (.op 25 (.op 26 (.op 27 (.op 28 (.op 29 .done))))))))))))))))))))))))))))))) (.seq (.seq .leaf (.block (.loop [(3, .one (.slice)), (41, .one (.int .i64))] (.seq .leaf (.seq (.cond .leaf .leaf) (.seq (.block (.seq .leaf .leaf)) .leaf)))))) (.seq .leaf .leaf))))) none (bodyOf Tryz.f21) (retK Tryz.prog Tryz.f21.results R) (argEnv [.pointer (some ⟨t, 0, none⟩)]) h := by kernel_rfl
theorem copies_Table_Save.walk {t : Nat} {h : Heap} {R : Value → Heap → Prop} (hv : copies_Table_Save.vc t h R) : CallsH Tryz.prog F.copies_Table_Save #[.pointer (some ⟨t, 0, none⟩)] h R :=
  callsH_of_body _ Tryz.func21 rfl rfl (Eq.mp (copies_Table_Save.den_eq t h R) hv)

def copies_Table_Save.nil.vc  (h : Heap) (R : Value → Heap → Prop) : Prop :=
  CallsH Tryz.prog F.copies_Table_made #[.pointer none] h fun v h_1 =>
  ∃ (t7 : Bool), v = .bool t7 ∧
  if (!t7) = true then
    R (.slice none 0 0) h_1
  else
    False
theorem copies_Table_Save.nil.den_eq  (h : Heap) (R : Value → Heap → Prop) : copies_Table_Save.nil.vc h R = den Tryz.prog Tryz.f21.ntmps (.seq .leaf (.seq (.seq .leaf (.cond (.seq .leaf .leaf) .leaf)) (.seq (.plan (.op 1 (.op 2 (.op 3 (.op 4 (.op 6 (.op 7 (.op 8 (.op 9 (.op 11 (.op 12 (.op 13 (.op 14 (.op 16 (.op 17 (.op 18 (.op 19 (.op 21 (.op 22 (.op 23 (.op 24 (.op 0 (.op 5 (.op 10 (.op 15 (.op 20 (.op 25 (.op 26 (.op 27 (.op 28 (.op 29 .done))))))))))))))))))))))))))))))) (.seq (.seq .leaf (.block (.loop [(3, .one (.slice)), (41, .one (.int .i64))] (.seq .leaf (.seq (.cond .leaf .leaf) (.seq (.block (.seq .leaf .leaf)) .leaf)))))) (.seq .leaf .leaf))))) none (bodyOf Tryz.f21) (retK Tryz.prog Tryz.f21.results R) (argEnv [.pointer none]) h := by kernel_rfl
theorem copies_Table_Save.nil.walk  {h : Heap} {R : Value → Heap → Prop} (hv : copies_Table_Save.nil.vc h R) : CallsH Tryz.prog F.copies_Table_Save #[.pointer none] h R :=
  callsH_of_body _ Tryz.func21 rfl rfl (Eq.mp (copies_Table_Save.nil.den_eq h R) hv)

end Go.Proofs.YtgccegnmggjkjaaGreatDoor

/-
  What is proved here: a table of copies is saved, and told: copies.record, Save, All, Ready. No condition.
-/
set_option maxRecDepth 100000
namespace Go.Proofs.YtgccegnmggjkjaaGreatDoor
open Go.Den Go.Fields Go.Heapq
namespace Cps
open Eid Alarm Fld
variable {h h' : Heap} {R : Value → Heap → Prop} {t : Nat} {X : Ft} {s s' : CF} {m a1 a2 : Nat} {xs : List CV} {S1 S2 S1' S2' : Nat → Prop} {lab : Nat → Option Nat} {p : Option Addr} {n c : Nat}
/-- a copy's record -/
def recC (z : Cp) : List UInt8 := encNum z.num ++ encText (textE z.e) ++ encText z.d ++ encNum z.till ++ encNum (natOf z.ses) ++ encNum z.dl
structure okZ (z : Cp) : Prop where
  r : rightE z.e = true
  v : 0 ≤ z.e.svc
  d : z.d.length ≤ 600
  n : z.num ≤ 1000000
  t : z.till ≤ 1099511627776
  s0 : 0 ≤ z.ses
  s1 : z.ses ≤ 1099511627776
  l : z.dl ≤ 1099511627776
theorem encText_len (t : List UInt8) : (encText t).length ≤ t.length + 10 := by
  have := (encNum_len t.length).2
  unfold encText
  rw [List.length_append]; omega
theorem recC_len {z : Cp} (k : okZ z) : (recC z).length ≤ 1000 := by
  have l0 := text_len k.r k.v
  have l1 := encText_len (textE z.e)
  have l2 := encText_len z.d
  have l3 := k.d
  have e1 := (encNum_len z.num).2
  have e2 := (encNum_len z.till).2
  have e3 := (encNum_len (natOf z.ses)).2
  have e4 := (encNum_len z.dl).2
  unfold recC
  simp only [List.length_append]; omega
theorem ld_e {g : Heap} {b : Nat} {x : CV} {K : Bool → Int → Int → ByteArray → ByteArray → Prop} (hg : x.at g b) (hk : K x.e.ipn x.e.node x.e.svc x.e.host x.e.dem) : eid_Eid.LD g ⟨b, 1, none⟩ K :=
  ⟨_, cell_at hg rfl, _, cell_at hg rfl, _, cell_at hg rfl, _, cell_at hg rfl, _, cell_at hg rfl, hk⟩
/-- the end of a record's chain -/
theorem rec_tail {z : CV} {b : Nat} {g h1 : Heap} {w : Nat} {S : Nat → Prop} {q : Option Addr} {dq : Nat} (k : okZ z.abs) (hb1 : z.at h1 b) (hrow : Row h1 z.v.p (bc z.v.b)) (fg : Fr (fun _ => False) h1 g) (W : Wr g w S (encNum z.num)) (hS : ∀ y, S y → h1.size ≤ y) (row : Row g q (bc (textE z.e))) (hq : ∀ y, inBlk q y → ¬ S y)
    (hk : ∀ p' c' h', Own h' p' (recC z.abs).length c' 1 (bc (recC z.abs)) → Fr (fun _ => False) h1 h' → (∀ y, inBlk p' y → h1.size ≤ y) → R (.slice p' (recC z.abs).length c') h') :
    hcell g ⟨b, 9, none⟩ = some (.int .u64 (z.dl : Int)) ∧ hcell g ⟨b, 8, none⟩ = some (.int .i64 z.ses) ∧ hcell g ⟨b, 7, none⟩ = some (.int .u64 (z.till : Int)) ∧ hcell g ⟨b, 6, none⟩ = some (.slice z.v.p z.v.b.length z.v.c) ∧
    CallsH Tryz.prog F.fields_Writer_Text #[.pointer (some ⟨w, 0, none⟩), .slice q (str (textE z.e)).size dq] g fun v_4 h_5 =>
    ∃ (t21 : Option Addr), v_4 = .pointer t21 ∧
    hcell h_5 ⟨b, 9, none⟩ = some (.int .u64 (z.dl : Int)) ∧
    hcell h_5 ⟨b, 8, none⟩ = some (.int .i64 z.ses) ∧
    hcell h_5 ⟨b, 7, none⟩ = some (.int .u64 (z.till : Int)) ∧
    hcell h_5 ⟨b, 6, none⟩ = some (.slice z.v.p z.v.b.length z.v.c) ∧
    CallsH Tryz.prog F.fields_Writer_Text #[.pointer t21, .slice z.v.p z.v.b.length z.v.c] h_5 fun v_5 h_6 =>
    ∃ (t26 : Option Addr), v_5 = .pointer t26 ∧
    hcell h_6 ⟨b, 9, none⟩ = some (.int .u64 (z.dl : Int)) ∧
    hcell h_6 ⟨b, 8, none⟩ = some (.int .i64 z.ses) ∧
    hcell h_6 ⟨b, 7, none⟩ = some (.int .u64 (z.till : Int)) ∧
    CallsH Tryz.prog F.fields_Writer_Num #[.pointer t26, .int .u64 (z.till : Int)] h_6 fun v_6 h_7 =>
    ∃ (t31 : Option Addr), v_6 = .pointer t31 ∧
    hcell h_7 ⟨b, 9, none⟩ = some (.int .u64 (z.dl : Int)) ∧
    hcell h_7 ⟨b, 8, none⟩ = some (.int .i64 z.ses) ∧
    CallsH Tryz.prog F.fields_Writer_Int #[.pointer t31, .int .i64 z.ses] h_7 fun v_7 h_8 =>
    ∃ (t36 : Option Addr), v_7 = .pointer t36 ∧
    hcell h_8 ⟨b, 9, none⟩ = some (.int .u64 (z.dl : Int)) ∧
    CallsH Tryz.prog F.fields_Writer_Num #[.pointer t36, .int .u64 (z.dl : Int)] h_8 fun v_8 h_9 =>
    ∃ (t41 : Option Addr), v_8 = .pointer t41 ∧
    CallsH Tryz.prog F.fields_Writer_Bytes #[.pointer t41] h_9 fun v_9 h_10 =>
    ∃ (t42_p : Option Addr) (t42_l t42_c : Nat), v_9 = .slice t42_p t42_l t42_c ∧
    R (.slice t42_p t42_l t42_c) h_10 := by
  have kr : rightE z.e = true := k.r
  have kv : 0 ≤ z.e.svc := k.v
  have kd : z.v.b.length ≤ 600 := k.d
  have kt : z.till ≤ 1099511627776 := k.t
  have k0 : 0 ≤ z.ses := k.s0
  have k1 : z.ses ≤ 1099511627776 := k.s1
  have kl : z.dl ≤ 1099511627776 := k.l
  have lb := lt_of_get hb1
  have bS : ∀ {S' : Nat → Prop}, (∀ y, S' y → h1.size ≤ y) → ¬ S' b := fun hh hn => by have := hh b hn; omega
  have l0 := text_len kr kv
  have lt1 := encText_len (textE z.e)
  have lt2 := encText_len z.v.b
  have e1 := (encNum_len z.num).2
  have e2 := (encNum_len z.till).2
  have e3 := (encNum_len (natOf z.ses)).2
  have hbg : z.at g b := fg.get hb1 id
  have zg := fg.1
  refine ⟨cell_at hbg rfl, cell_at hbg rfl, cell_at hbg rfl, cell_at hbg rfl, Fld.text_ok W (by omega) row (str_size _) (by omega) hq fun g1 S1 W1 st1 => ?_⟩
  have hS1 : ∀ y, S1 y → h1.size ≤ y := fun y hy => (st1.new y hy).elim (hS y) (fun h1 => by omega)
  have F1 := fg.fresh st1.fr hS
  have b1 : z.at g1 b := F1.get hb1 id
  have z1 := F1.1
  refine ⟨_, rfl, cell_at b1 rfl, cell_at b1 rfl, cell_at b1 rfl, cell_at b1 rfl, Fld.text_ok' W1 (by simp only [List.length_append]; omega) (hrow.frame F1 (fun _ _ => id)) rfl (by omega) (fun y hy hne hs => by have := row_lt hrow (by intro e; apply hne; have := congrArg List.length e; rw [bc_len] at this; exact List.length_eq_zero_iff.1 this) hy; have := hS1 y hs; omega) fun g2 S2 W2 st2 => ?_⟩
  have hS2 : ∀ y, S2 y → h1.size ≤ y := fun y hy => (st2.new y hy).elim (hS1 y) (fun h1 => by omega)
  have F2 := F1.fresh st2.fr hS1
  have b2 : z.at g2 b := F2.get hb1 id
  have z2 := F2.1
  refine ⟨_, rfl, cell_at b2 rfl, cell_at b2 rfl, cell_at b2 rfl, Fld.num_ok z.till W2 (by simp only [List.length_append]; omega) rfl (by omega) fun g3 S3 W3 st3 => ?_⟩
  have hS3 : ∀ y, S3 y → h1.size ≤ y := fun y hy => (st3.new y hy).elim (hS2 y) (fun h1 => by omega)
  have F3 := F2.fresh st3.fr hS2
  have b3 : z.at g3 b := F3.get hb1 id
  have z3 := F3.1
  refine ⟨_, rfl, cell_at b3 rfl, cell_at b3 rfl, Fld.int_ok W3 (by simp only [List.length_append]; omega) (by omega) fun g4 S4 W4 st4 => ?_⟩
  have hS4 : ∀ y, S4 y → h1.size ≤ y := fun y hy => (st4.new y hy).elim (hS3 y) (fun h1 => by omega)
  have F4 := F3.fresh st4.fr hS3
  have b4 : z.at g4 b := F4.get hb1 id
  have z4 := F4.1
  refine ⟨_, rfl, cell_at b4 rfl, Fld.num_ok z.dl W4 (by simp only [List.length_append]; omega) rfl (by omega) fun g5 S5 W5 st5 => ?_⟩
  have F5 := F4.fresh st5.fr hS4
  have er : encNum z.num ++ encText (textE z.e) ++ encText z.v.b ++ encNum z.till ++ encNum (natOf z.ses) ++ encNum z.dl = recC z.abs := rfl
  rw [er] at W5
  have lr := recC_len k
  refine ⟨_, rfl, Fld.bytes_ok W5 (by omega) fun p6 c6 g6 o6 f6 n6 => ⟨_, _, _, rfl, ?_⟩⟩
  have z5 := F5.1
  exact hk p6 c6 g6 o6 (F5.tt f6) (fun y hy => by have := n6 y hy; omega)
theorem record_ok {z : CV} {b : Nat} (hb : z.at h b) (hrow : Row h z.v.p (bc z.v.b)) (k : okZ z.abs) (tb : Num.Tab h) (hk : ∀ p' c' h', Own h' p' (recC z.abs).length c' 1 (bc (recC z.abs)) → Fr (fun _ => False) h h' → (∀ y, inBlk p' y → h.size ≤ y) → R (.slice p' (recC z.abs).length c') h') : CallsH Tryz.prog F.copies_record #[.pointer (some ⟨b, 0, none⟩)] h R := by
  have kr : rightE z.e = true := k.r
  have kn : z.num ≤ 1000000 := k.n
  refine copies_record.walk (ld_e hb (Eid.text_ok z.e tb k.v fun h1 f1 => ?_))
  simp only [kr, if_true]
  have hb1 : z.at h1 b := f1.get hb id
  have z0 := f1.1
  have hrow1 := hrow.frame f1 (fun _ _ => id)
  have hk1 : ∀ p' c' h', Own h' p' (recC z.abs).length c' 1 (bc (recC z.abs)) → Fr (fun _ => False) h1 h' → (∀ y, inBlk p' y → h1.size ≤ y) → R (.slice p' (recC z.abs).length c') h' := fun p' c' h' o f g => hk p' c' h' o (f1.tt f) (fun y hy => by have := g y hy; omega)
  clear hk
  have dt : (str (textE z.e)).data.toList = textE z.e := by unfold str; simp
  have tne : bc (textE z.e) ≠ [] := by
    intro e
    have := congrArg List.length e
    rw [bc_len] at this
    revert this
    unfold textE
    split <;> (try split) <;> simp
  have nz : encNum (natOf (z.num : Int)) = encNum z.num := by unfold natOf; rw [Int.toNat_natCast]
  refine ⟨_, _, rfl, _, cell_at hb1 rfl, _, _, _, cell_at hb1 rfl, _, cell_at hb1 rfl, _, cell_at hb1 rfl, _, cell_at hb1 rfl, ?_, ?_, trivial⟩
  · refine Fld.new_ok fun h2 w S W f2 n2 => ?_
    have b2 : z.at h2 b := f2.get hb1 id
    refine ⟨_, rfl, cell_at b2 rfl, cell_at b2 rfl, cell_at b2 rfl, cell_at b2 rfl, cell_at b2 rfl, ?_, ?_, trivial⟩
    · refine Fld.int_ok W (by simp) (by omega) fun h3 S3 W3 st3 => ?_
      rw [nz, List.nil_append] at W3
      have z2 := f2.1
      have F3 := f2.fresh st3.fr n2
      have b3 : z.at h3 b := F3.get hb1 id
      have n3 : ∀ y, S3 y → h1.size ≤ y := fun y hy => (st3.new y hy).elim (n2 y) (fun h1 => by omega)
      refine ⟨_, rfl, cell_at b3 rfl, cell_at b3 rfl, cell_at b3 rfl, cell_at b3 rfl, s2b fun q d h4 row cq f4 n4 => ⟨_, _, _, rfl, ?_⟩⟩
      rw [dt] at row
      exact rec_tail k hb1 hrow1 (F3.tt f4) (W3.frame f4 (fun _ _ => id)) n3 row (fun y hy hs => by have := n4 y hy; have := W3.lt y hs; omega) hk1
    · refine s2b fun q d h3 row cq f3 n3 => ⟨_, _, _, rfl, ?_⟩
      have b3 : z.at h3 b := (f2.tt f3).get hb1 id
      have W3 := W.frame f3 (fun _ _ => id)
      refine ⟨cell_at b3 rfl, cell_at b3 rfl, cell_at b3 rfl, cell_at b3 rfl, cell_at b3 rfl, Fld.int_ok W3 (by simp) (by omega) fun h4 S4 W4 st4 => ⟨_, rfl, ?_⟩⟩
      rw [nz, List.nil_append] at W4
      have z2 := (f2.tt f3).1
      have n4 : ∀ y, S4 y → h1.size ≤ y := fun y hy => (st4.new y hy).elim (n2 y) (fun h1 => by omega)
      rw [dt] at row
      refine rec_tail k hb1 hrow1 ((f2.tt f3).fresh st4.fr n2) W4 n4 (row.frame st4.fr (fun a ea hs => by have := n3 a.block ⟨a, ea, rfl⟩; have := W.lt _ hs; omega)) (fun y hy hs => ?_) hk1
      have h1 := row_lt row tne hy
      have h2 := n3 y hy
      rcases st4.new y hs with h3 | h3
      · have := W.lt y h3; omega
      · omega
  · refine s2b fun q d h2 row cq f2 n2 => ⟨_, _, _, rfl, ?_⟩
    have b2 : z.at h2 b := f2.get hb1 id
    refine ⟨cell_at b2 rfl, cell_at b2 rfl, cell_at b2 rfl, cell_at b2 rfl, cell_at b2 rfl, Fld.new_ok fun h3 w S W f3 n3 => ?_⟩
    have b3 : z.at h3 b := (f2.tt f3).get hb1 id
    have z2 := f2.1
    have z3 := f3.1
    refine ⟨_, rfl, cell_at b3 rfl, cell_at b3 rfl, cell_at b3 rfl, cell_at b3 rfl, cell_at b3 rfl, Fld.int_ok W (by simp) (by omega) fun h4 S4 W4 st4 => ⟨_, rfl, ?_⟩⟩
    rw [nz, List.nil_append] at W4
    rw [dt] at row
    have hrl : ∀ y, inBlk q y → y < h2.size := fun y hy => row_lt row tne hy
    refine rec_tail k hb1 hrow1 ((f2.tt f3).fresh st4.fr (fun y hy => by have := n3 y hy; omega)) W4 (fun y hy => (st4.new y hy).elim (fun h1 => by have := n3 y h1; omega) (fun h1 => by omega)) ((row.frame f3 (fun _ _ => id)).frame st4.fr (fun a ea hs => by have := hrl a.block ⟨a, ea, rfl⟩; have := n3 _ hs; omega)) (fun y hy hs => ?_) hk1
    have h1 := hrl y hy
    rcases st4.new y hs with h3 | h3
    · have := n3 y h3; omega
    · omega
/-! ### the table's -/
def headC (s : CF) : List UInt8 := encNum s.next ++ encNum s.acked ++ encNum s.over ++ encNum s.gone ++ encNum s.L.length
def recsC (s : CF) : List (List UInt8) := headC s :: s.L.map recC
theorem save_ok (H : Ct h t X s) (sm : Small s) (hc : s.acked ≤ 50000 ∧ s.over ≤ 50000 ∧ s.gone ≤ 50000) (ok : ∀ z ∈ s.L, okZ z) (tb : Num.Tab h) (hk : ∀ h' p' l' c', BL h h' p' l' c' (recsC s) → Fr (fun _ => False) h h' → R (.slice p' l' c') h') : CallsH Tryz.prog F.copies_Table_Save #[.pointer (some ⟨t, 0, none⟩)] h R := by
  obtain ⟨m, xs, a1, S1, a2, S2, lab, H⟩ := H
  have sn := sm.n
  have sl := sm.l
  have xl := H.len
  refine copies_Table_Save.walk (made_ok H ⟨_, rfl, ?_⟩)
  rw [if_neg (by decide)]
  refine ⟨_, cell_at H.blk rfl, _, cell_at H.blk rfl, _, cell_at H.blk rfl, _, cell_at H.blk rfl, _, cell_at H.blk rfl, Fld.new_ok fun h1 w S W f1 n1 => ?_⟩
  have nn : ∀ k : Nat, natOf (k : Int) = k := fun k => by unfold natOf; rw [Int.toNat_natCast]
  have l1 := (encNum_len s.next).2
  have l2 := (encNum_len s.acked).2
  have l3 := (encNum_len s.over).2
  have l4 := (encNum_len s.gone).2
  have l5 := (encNum_len s.L.length).2
  have G1 := H.on f1
  refine ⟨_, rfl, cell_at G1.blk rfl, cell_at G1.blk rfl, cell_at G1.blk rfl, cell_at G1.blk rfl, cell_at G1.blk rfl, Fld.int_ok W (by simp) (by omega) fun h2 S2 W2 st2 => ?_⟩
  rw [nn, List.nil_append] at W2
  have z1 := f1.1
  have F2 := f1.fresh st2.fr n1
  have n2 : ∀ y, S2 y → h.size ≤ y := fun y hy => (st2.new y hy).elim (n1 y) (fun h1 => by omega)
  have G2 := H.on F2
  have z2 := F2.1
  refine ⟨_, rfl, cell_at G2.blk rfl, cell_at G2.blk rfl, cell_at G2.blk rfl, cell_at G2.blk rfl, Fld.int_ok W2 (by omega) (by omega) fun h3 S3 W3 st3 => ?_⟩
  rw [nn] at W3
  have F3 := F2.fresh st3.fr n2
  have n3 : ∀ y, S3 y → h.size ≤ y := fun y hy => (st3.new y hy).elim (n2 y) (fun h1 => by omega)
  have G3 := H.on F3
  have z3 := F3.1
  refine ⟨_, rfl, cell_at G3.blk rfl, cell_at G3.blk rfl, cell_at G3.blk rfl, Fld.int_ok W3 (by simp only [List.length_append]; omega) (by omega) fun h4 S4 W4 st4 => ?_⟩
  rw [nn] at W4
  have F4 := F3.fresh st4.fr n3
  have n4 : ∀ y, S4 y → h.size ≤ y := fun y hy => (st4.new y hy).elim (n3 y) (fun h1 => by omega)
  have G4 := H.on F4
  have z4 := F4.1
  refine ⟨_, rfl, cell_at G4.blk rfl, cell_at G4.blk rfl, Fld.int_ok W4 (by simp only [List.length_append]; omega) (by omega) fun h5 S5 W5 st5 => ?_⟩
  rw [nn] at W5
  have F5 := F4.fresh st5.fr n4
  have n5 : ∀ y, S5 y → h.size ≤ y := fun y hy => (st5.new y hy).elim (n4 y) (fun h1 => by omega)
  have G5 := H.on F5
  have z5 := F5.1
  refine ⟨_, rfl, cell_at G5.blk rfl, _, lenV_P mapTy G5.map, ?_⟩
  rw [List.length_map, xl]
  refine Fld.int_ok W5 (by simp only [List.length_append]; omega) (by omega) fun h6 S6 W6 st6 => ?_
  rw [nn] at W6
  have F6 := F5.fresh st6.fr n5
  have G6 := H.on F6
  have z6 := F6.1
  have er : encNum s.next ++ encNum s.acked ++ encNum s.over ++ encNum s.gone ++ encNum s.L.length = headC s := rfl
  rw [er] at W6
  have lh : (headC s).length ≤ 50 := by unfold headC; simp only [List.length_append]; omega
  refine ⟨_, rfl, cell_at G6.blk rfl, Fld.bytes_ok W6 (by omega) fun p7 c7 h7 o7 f7 n7 => ⟨_, _, _, rfl, ?_⟩⟩
  have F7 := F6.tt f7
  have z7 := F7.1
  have B7 : BL h h7 none 0 0 [] := BL.nil
  refine ⟨cell_at (H.on F7).blk rfl, newP_of ?_⟩
  have f8 : Fr (fun _ => False) h7 (h7.push (.cells #[.slice p7 (headC s).length c7] T.s_uint8)) := Fr.push _ _
  have o8 : Own (h7.push (.cells #[.slice p7 (headC s).length c7] T.s_uint8)) (some ⟨h7.size, 0, none⟩) 1 1 1 (nenc ⟨p7, c7, headC s⟩) := .row h7.size 0 _ _ rfl push_new (Nat.le_refl _) (by simp) rfl (fun j v hj => by rw [Nat.zero_add]; simpa using hj)
  have B8 : BL h (h7.push (.cells #[.slice p7 (headC s).length c7] T.s_uint8)) (some ⟨h7.size, 0, none⟩) 1 1 [headC s] := by
    refine ⟨[⟨p7, c7, headC s⟩], inBlk p7, rfl, by simpa using o8, rfl, ?_, ?_, fun y ⟨a, e, e2⟩ => by cases e; rw [← e2]; exact z7⟩
    · intro v hv
      obtain rfl := List.mem_singleton.1 hv
      exact BV.of_own (o7.frame f8 (fun _ _ => id)) (fun _ => id)
    · intro y hy
      have h1 := n7 y hy
      have h2 := o7.blk_lt hy
      exact ⟨by omega, by rw [Array.size_push]; omega, fun ⟨a, e, e2⟩ => by cases e; have e2 : h7.size = y := e2; omega⟩
  generalize h7.push (.cells #[.slice p7 (headC s).length c7] T.s_uint8) = h8 at f8 B8 ⊢
  generalize (some ⟨h7.size, 0, none⟩ : Option Addr) = p8 at B8 ⊢
  clear o8
  have F8 := F7.tt f8
  have G8 := H.on F8
  refine ⟨cell_at G8.blk rfl, numbers_ok G8 (by omega) fun h9 p9 c9 o9 n9 f9 => ⟨_, _, _, rfl, ?_⟩⟩
  have F9 := F8.tt f9
  have z8 := F8.1
  refine ⟨fun op ol oc q g => ∃ k : Nat, q = (k : Int) ∧ k ≤ xs.length ∧ BL h g op ol oc (headC s :: (s.L.take k).map recC) ∧ Fr (fun _ => False) h g ∧ Own g p9 xs.length c9 1 ((nums xs).map ienc) ∧ (∀ y, inBlk op y → ¬ inBlk p9 y), fun _ _ _ q _ => xs.length - q.toNat, ⟨0, rfl, by omega, by simpa using B8.on f9, F9, o9, fun y hy hq => by have := B8.lt hy; have := n9 y hq; omega⟩, ?_⟩
  rintro op ol oc _ g ⟨k, rfl, hkn, B, fg, og, hdis⟩
  by_cases hlt : k < xs.length
  · have q1 : (k : Int) < ((xs.length : Nat) : Int) := by omega
    simp only [q1, decide_true, if_true, Int.toNat_natCast]
    have hx : xs[k]? = some xs[k] := List.getElem?_eq_getElem hlt
    generalize xs[k] = v at hx
    have hLk : s.L[k]? = some v.abs := by rw [← H.abs, List.getElem?_map, hx]; rfl
    have hv := List.mem_of_getElem? hx
    have Gg := H.on fg
    obtain ⟨ab, aoff, rfl⟩ := og.addr (by omega)
    have cn := og.cell (j := k) (v := ienc (v.num : Int)) (by unfold nums; rw [List.map_map, List.getElem?_map, hx]; rfl)
    refine ⟨⟨by first | trivial | omega, by first | trivial | omega⟩, onSome_some.2 ⟨_, by rw [Nat.mul_one]; exact cn, _, cell_at Gg.blk rfl, _, look Gg hv, record_ok (Gg.cps v hv) (Gg.dat v hv).row (ok v.abs (List.mem_of_getElem? hLk)) (tb.on fg) fun p10 c10 h10 o10 f10 n10 => ⟨_, _, _, rfl, ?_⟩⟩⟩
    have zg := fg.1
    have bl := B.len
    rw [List.length_cons, List.length_map, List.length_take] at bl
    have ogl : ∀ y, inBlk (some (⟨ab, aoff, none⟩ : Addr)) y → y < g.size := fun y hy => og.blk_lt hy
    have bbl : ∀ y, inBlk op y → y < g.size := fun y hy => B.lt hy
    have z10 := f10.1
    refine (B.on f10).push (by omega) o10 (fun y hy => ⟨by have := n10 y hy; omega, fun ho => by have := bbl y ho; have := n10 y hy; omega⟩) (by omega) fun p11 c11 h11 B11 f11 g11 => ⟨_, _, _, rfl, ?_⟩
    rw [wrap_id (by omega) (by omega)]
    refine ⟨⟨k + 1, by omega, by omega, ?_, ?_, (og.frame f10 (fun _ _ => id)).frame f11 (fun y hy hq => hdis y hq hy), fun y hy hq => (g11 y hy).elim (fun h1 => hdis y h1 hq) (fun h1 => by have := ogl y hq; omega)⟩, by show xs.length - Int.toNat ((k : Int) + 1) < xs.length - k; omega⟩
    · rw [List.take_add_one, hLk, List.map_append]
      rw [List.cons_append] at B11
      exact B11
    · obtain ⟨_, _, _, _, _, _, _, h6'⟩ := B
      exact (fg.tt f10).fresh f11 h6'
  · have q1 : ¬ (k : Int) < ((xs.length : Nat) : Int) := by omega
    simp only [q1, decide_false, Bool.false_eq_true, if_false]
    rw [List.take_of_length_le (by omega)] at B
    exact hk g op ol oc B fg
/-- a copy as it is told -/
abbrev aenc (y : CV) : List Value := [.int .i64 (y.num : Int), .bool y.e.ipn, .int .u64 y.e.node, .int .u64 y.e.svc, .string y.e.host, .string y.e.dem, y.v.val, .int .u64 (y.till : Int), .int .i64 y.ses, .int .u64 (y.dl : Int)]
theorem aenc_len (y : CV) : (aenc y).length = 10 := rfl
theorem aenc_1 (y : CV) : ∀ v ∈ aenc y, oneCell v = true := by
  intro v hv
  simp only [aenc, List.mem_cons, List.not_mem_nil, or_false] at hv
  rcases hv with rfl | rfl | rfl | rfl | rfl | rfl | rfl | rfl | rfl | rfl <;> rfl
theorem tA : SlTy Tryz.prog T.s_copies_Copy T.copies_Copy 10 112 (.agg #[.int .i64 0, .bool false, .int .u64 0, .int .u64 0, .string ⟨#[]⟩, .string ⟨#[]⟩, .slice none 0 0, .int .u64 0, .int .i64 0, .int .u64 0]) := ⟨by kernel_rfl, by kernel_rfl, rfl⟩
theorem uA : Tryz.prog.underlying T.s_copies_Copy = some (.slice T.copies_Copy) := by kernel_rfl
theorem all_ok (H : Ct h t X s) (sm : Small s) (hd : ∀ z ∈ s.L, z.d.length ≤ 600) (hk : ∀ h' p' c' (ys : List CV), Own h' p' ys.length c' 10 (ys.flatMap aenc) → ys.map CV.abs = s.L → (∀ y ∈ ys, Row h' y.v.p (bc y.v.b)) → Fr (fun _ => False) h h' → R (.slice p' ys.length c') h') : CallsH Tryz.prog F.copies_Table_All #[.pointer (some ⟨t, 0, none⟩)] h R := by
  obtain ⟨m, xs, a1, S1, a2, S2, lab, H⟩ := H
  have sl := sm.l
  have xl := H.len
  refine copies_Table_All.walk (numbers_ok H (by omega) fun h1 p1 c1 o1 n1 f1 => ⟨_, _, _, rfl, ?_⟩)
  refine ⟨fun op ol oc q g => ∃ (k : Nat) (ys : List CV), q = (k : Int) ∧ k ≤ xs.length ∧ ol = ys.length ∧ ys.length = k ∧ Own g op ol oc 10 (ys.flatMap aenc) ∧ (∀ y, inBlk op y → h1.size ≤ y) ∧ ys.map CV.abs = s.L.take k ∧ (∀ y ∈ ys, Row g y.v.p (bc y.v.b)) ∧ (∀ y ∈ ys, ∀ z, inBlk y.v.p z → y.v.b ≠ [] → ¬ inBlk op z) ∧ Fr (fun _ => False) h1 g, fun _ _ _ q _ => xs.length - q.toNat,
    ⟨0, [], rfl, by omega, rfl, rfl, .nil rfl rfl rfl rfl, (fun y ⟨a, e, _⟩ => by cases e), by simp, (fun y hy => by cases hy), (fun y hy => by cases hy), Fr.refl _ _⟩, ?_⟩
  rintro op ol oc _ g ⟨k, ys, rfl, hkn, rfl, hyl, o, hop, hab, hrows, hdis, fg⟩
  have Gg := H.on (f1.tt fg)
  by_cases hlt : k < xs.length
  · have q1 : (k : Int) < ((xs.length : Nat) : Int) := by omega
    simp only [q1, decide_true, if_true, Int.toNat_natCast]
    have hx : xs[k]? = some xs[k] := List.getElem?_eq_getElem hlt
    generalize xs[k] = v at hx
    have hLk : s.L[k]? = some v.abs := by rw [← H.abs, List.getElem?_map, hx]; rfl
    have hv := List.mem_of_getElem? hx
    have hvd : v.v.b.length ≤ 600 := hd v.abs (List.mem_of_getElem? hLk)
    have og := o1.frame fg (fun _ _ => id)
    obtain ⟨ab, aoff, rfl⟩ := og.addr (by omega)
    have cn := og.cell (j := k) (v := ienc (v.num : Int)) (by unfold nums; rw [List.map_map, List.getElem?_map, hx]; rfl)
    have hvat := Gg.cps v hv
    refine ⟨⟨by first | trivial | omega, by first | trivial | omega⟩, onSome_some.2 ⟨_, by rw [Nat.mul_one]; exact cn, _, cell_at Gg.blk rfl, _, look Gg hv, onSome_some.2 (copies_Copy.ld hvat (copies_Copy.new fun b2 h2 e2 hb2 f2 => ⟨_, _, _, cell_at hb2 rfl, clone_ok ((Gg.dat v hv).row.frame f2 (fun _ _ => id)) rfl (by omega) fun p3 c3 h3 o3 f3 n3 => ⟨_, _, _, rfl, ?_⟩⟩))⟩⟩
    have hb3 := f3.get hb2 id
    refine storeP_blk hb3 (by simp) fun h4 a4 s4 o4 => ?_
    have f4 : Fr (fun y => y = b2) h3 h4 := ⟨by omega, fun y _ hn => o4 y hn⟩
    have lb2 := lt_of_get hb2
    have a4' : copies_Copy.at h4 b2 (v.num : Int) v.e.ipn v.e.node v.e.svc v.e.host v.e.dem p3 v.v.b.length c3 (v.till : Int) v.ses (v.dl : Int) := a4
    refine copies_Copy.ld a4' ?_
    have zg := fg.1
    have z2 := f2.1
    have z3 := f3.1
    have F4 : Fr (fun _ => False) g h4 := (f2.tt f3).fresh f4 (fun y e => by omega)
    have oo := o.frame F4 (fun _ _ => id)
    refine den_append1 tA uA oo rfl (fun w hw => aenc_1 ({ v with v := ⟨p3, c3, v.v.b⟩ } : CV) w (by simpa using hw)) (by omega) (by omega) fun p5 c5 h5 o5 f5 g5 => ⟨_, _, _, rfl, ?_⟩
    have z4 := F4.1
    have z5 := f5.1
    rw [wrap_id (by omega) (by omega)]
    have o3' : Own h4 p3 v.v.b.length c3 1 (bc v.v.b) := o3.frame f4 (fun y hy e => by have := n3 y hy; omega)
    have n3' : ∀ y, inBlk p3 y → g.size ≤ y ∧ y < h4.size := fun y hy => ⟨by have := n3 y hy; omega, o3'.blk_lt hy⟩
    have opl : ∀ y, inBlk op y → y < g.size := fun y hy => o.blk_lt hy
    refine ⟨⟨k + 1, ys ++ [{ v with v := ⟨p3, c3, v.v.b⟩ }], by omega, by omega, by rw [List.length_append]; rfl, by rw [List.length_append]; show ys.length + 1 = _; omega, ?_, fun y hy => (g5 y hy).elim (hop y) (fun h1 => by omega), ?_, ?_, ?_, (fg.tt F4).fresh f5 hop⟩, by show xs.length - Int.toNat ((k : Int) + 1) < xs.length - k; omega⟩
    · rw [List.flatMap_append]
      simpa using o5
    · rw [List.map_append, hab, List.take_add_one, hLk]; rfl
    · intro y hy
      rcases List.mem_append.1 hy with hy | hy
      · have r1 := (hrows y hy).frame F4 (fun _ _ => id)
        by_cases hne : y.v.b = []
        · rw [hne]; exact Row.nil
        · exact r1.frame f5 (fun a ea hq => hdis y hy a.block ⟨a, ea, rfl⟩ hne hq)
      · obtain rfl := List.mem_singleton.1 hy
        exact (o3'.frame f5 (fun y hy hq => by have := n3' y hy; have := opl y hq; omega)).row'
    · intro y hy z hz hne hq
      rcases List.mem_append.1 hy with hy | hy
      · rcases g5 z hq with h1 | h1
        · exact hdis y hy z hz hne h1
        · have := row_lt (hrows y hy) (by intro e; apply hne; have := congrArg List.length e; rw [bc_len] at this; exact List.length_eq_zero_iff.1 this) hz
          omega
      · obtain rfl := List.mem_singleton.1 hy
        rcases g5 z hq with h1 | h1
        · have := (n3' z hz).1; have := opl z h1; omega
        · have := (n3' z hz).2; omega
  · have q1 : ¬ (k : Int) < ((xs.length : Nat) : Int) := by omega
    simp only [q1, decide_false, Bool.false_eq_true, if_false]
    rw [List.take_of_length_le (by omega)] at hab
    exact hk g op oc ys o hab hrows (f1.tt fg)
def readyN (L : List Cp) (x : Ev) : Nat := ((ofL L x).filter (fun z => decide (z.ses = 0))).length
theorem ready_ok (H : Ct h t X s) (sm : Small s) (x : Ev) (hk : ∀ h', Fr (fun _ => False) h h' → R (.int .i64 (readyN s.L x : Int)) h') : CallsH Tryz.prog F.copies_Table_Ready #[.pointer (some ⟨t, 0, none⟩), ev5 x] h R := by
  obtain ⟨m, xs, a1, S1, a2, S2, lab, H⟩ := H
  have sl := sm.l
  have xl := H.len
  refine copies_Table_Ready.walk (eid_Eid.box fun b h1 eb hb f1 => eid_Eid.ld hb (of_ok (H.on f1) x (by omega) fun h2 p2 c2 o2 n2 f2 => ⟨_, _, _, rfl, ?_⟩))
  have F2 := f1.tt f2
  generalize hys : xs.filter (fun y => decide (y.e = x)) = ys at o2 ⊢
  have hsub : ∀ y ∈ ys, y ∈ xs := fun y hy => by rw [← hys] at hy; exact (List.mem_filter.1 hy).1
  have hab : ys.map CV.abs = ofL s.L x := by unfold ofL; rw [← H.abs, List.filter_map, ← hys]; rfl
  have yl : ys.length ≤ 50000 := by rw [← hys]; exact Nat.le_trans (List.length_filter_le _ _) (by omega)
  refine ⟨fun n q g => ∃ k : Nat, q = (k : Int) ∧ k ≤ ys.length ∧ n = ((((ys.take k).map CV.abs).filter (fun z => decide (z.ses = 0))).length : Int) ∧ g = h2, fun _ q _ => ys.length - q.toNat, ⟨0, rfl, by omega, by simp, rfl⟩, ?_⟩
  rintro _ _ _ ⟨k, rfl, hkn, rfl, rfl⟩
  have hle : (((ys.take k).map CV.abs).filter (fun z => decide (z.ses = 0))).length ≤ k := Nat.le_trans (List.length_filter_le _ _) (by rw [List.length_map, List.length_take]; omega)
  have Gg := H.on F2
  by_cases hlt : k < ys.length
  · have q1 : (k : Int) < ((ys.length : Nat) : Int) := by omega
    simp only [q1, decide_true, if_true, Int.toNat_natCast]
    have hx : ys[k]? = some ys[k] := List.getElem?_eq_getElem hlt
    generalize ys[k] = v at hx
    have hv := hsub v (List.mem_of_getElem? hx)
    obtain ⟨ab, aoff, rfl⟩ := o2.addr (by omega)
    have cn := o2.cell (j := k) (v := ienc (v.num : Int)) (by unfold nums; rw [List.map_map, List.getElem?_map, hx]; rfl)
    have e1 : (((ys.take (k + 1)).map CV.abs).filter (fun z => decide (z.ses = 0))).length = (((ys.take k).map CV.abs).filter (fun z => decide (z.ses = 0))).length + if v.ses = 0 then 1 else 0 := by
      rw [List.take_add_one, hx, List.map_append, List.filter_append, List.length_append]
      congr 1
      by_cases hs : v.ses = 0
      · have : v.abs.ses = 0 := hs
        simp [hs, this]
      · have : ¬ v.abs.ses = 0 := hs
        simp [hs, this]
    refine JoinP.of fun J hJ => ⟨⟨by first | trivial | omega, by first | trivial | omega⟩, onSome_some.2 ⟨_, by rw [Nat.mul_one]; exact cn, _, cell_at Gg.blk rfl, _, look Gg hv, onSome_some.2 ⟨_, cell_at (Gg.cps v hv) rfl, JoinP.of fun J1 hJ1 => ?_⟩⟩⟩
    subst hJ1; subst hJ
    dsimp only
    rw [wrap_id (n := (k : Int) + 1) (by omega) (by omega)]
    by_cases hs : v.ses = 0
    · rw [if_pos (by simpa using hs), wrap_id (by omega) (by omega)]
      rw [if_pos hs] at e1
      exact ⟨⟨k + 1, by omega, by omega, by omega, rfl⟩, by show ys.length - Int.toNat ((k : Int) + 1) < ys.length - k; omega⟩
    · rw [if_neg (by simpa using hs)]
      rw [if_neg hs] at e1
      exact ⟨⟨k + 1, by omega, by omega, by omega, rfl⟩, by show ys.length - Int.toNat ((k : Int) + 1) < ys.length - k; omega⟩
  · have q1 : ¬ (k : Int) < ((ys.length : Nat) : Int) := by omega
    simp only [q1, decide_false, Bool.false_eq_true, if_false]
    rw [List.take_of_length_le (by omega), hab]
    exact hk _ F2
end Cps
end Go.Proofs.YtgccegnmggjkjaaGreatDoor

/-
  What is proved here: the document's table of copies (package ref21) in memory: numbers, Save. No condition.
-/
set_option maxRecDepth 100000
namespace Go.Proofs.YtgccegnmggjkjaaGreatDoor
open Go.Den Go.Fields
namespace Rcp
open Eid Cps Fld
variable {h h' h0 g g0 g' : Heap} {x : Nat} {X : Ft} {R : Value → Heap → Prop} {p q : Option Addr} {c d i n : Nat} {Ls : List RC} {bs cs : List UInt8}
/-- bytes that grow -/
structure Acc (g0 g : Heap) (p : Option Addr) (c : Nat) (bs : List UInt8) : Prop where
  own : Own g p bs.length c 1 (bc bs)
  new : ∀ y, inBlk p y → g0.size ≤ y
  fr : Fr (fun _ => False) g0 g
theorem Acc.on (A : Acc g0 g p c bs) (f : Fr (fun _ => False) g g') : Acc g0 g' p c bs := ⟨A.own.frame f (fun _ _ => id), A.new, A.fr.tt f⟩
theorem Acc.of_up (o : Own g p bs.length c 1 (bc bs)) (u : Up g0 (inBlk p) g) : Acc g0 g p c bs := ⟨o, u.ge, u.fr⟩
theorem Acc.back {g1 : Heap} (A : Acc g1 g p c bs) (f : Fr (fun _ => False) g0 g1) : Acc g0 g p c bs := ⟨A.own, fun y hy => Nat.le_trans f.1 (A.new y hy), f.tt A.fr⟩
theorem Acc.app {K : Value → Heap → Prop} {cq m k : Nat} (A : Acc g0 g p c bs) (o : Row g q (bc cs)) (hm : m = bs.length) (hk0 : k = cs.length) (hl : bs.length + cs.length ≤ 1000000) (hk : ∀ p' c' g', Acc g0 g' p' c' (bs ++ cs) → K (.slice p' (bs ++ cs).length c') g') :
    denSem Tryz.prog (Builtin.append_ #[T.s_uint8, T.s_uint8] T.s_uint8 #[.slice p m c, .slice q k cq]) g K := by
  subst hm hk0
  refine den_append tU uU A.own o (by rw [bc_len, Nat.mul_one]) (bc_one _) (by omega) (by omega) fun p' c' g' o' _ f' n' => ?_
  have z := A.fr.1
  have := hk p' c' g' ⟨by rw [bc_append, List.length_append]; exact o', fun y hy => (n' y hy).elim (A.new y) (fun h1 => by omega), A.fr.fresh f' A.new⟩
  rw [List.length_append] at this
  exact this
abbrev nats (ns : List Nat) : List Value := ns.map fun (k : Nat) => .int .i64 (k : Int)
theorem numbers_ok {ns : List Nat} {cap : Nat} (hr : Row h p (nats ns)) (hn : n = ns.length) (hb : ∀ k ∈ ns, k < 9223372036854775808) (hl : ns.length ≤ 1000) (hk : ∀ p' c' h', Acc h h' p' c' (ns.flatMap encNum) → R (.slice p' (ns.flatMap encNum).length c') h') : CallsH Tryz.prog F.ref21_numbers #[.slice p n cap] h R := by
  subst hn
  refine ref21_numbers.walk ⟨fun op ol oc t g => ∃ k : Nat, t = (k : Int) ∧ k ≤ ns.length ∧ ol = ((ns.take k).flatMap encNum).length ∧ ol ≤ 10 * k ∧ Acc h g op oc ((ns.take k).flatMap encNum), fun _ _ _ t _ => ns.length - t.toNat, ⟨0, rfl, by omega, rfl, by omega, ⟨.nil rfl rfl rfl rfl, fun y ⟨a, e, _⟩ => (by cases e), Fr.refl _ _⟩⟩, ?_⟩
  rintro op _ oc _ g ⟨k, rfl, hkn, rfl, hlen, A⟩
  by_cases hlt : k < ns.length
  · have q1 : (k : Int) < ((ns.length : Nat) : Int) := by omega
    simp only [q1, decide_true, if_true, Int.toNat_natCast]
    have hx : ns[k]? = some ns[k] := List.getElem?_eq_getElem hlt
    generalize ns[k] = v at hx
    have hv := hb v (List.mem_of_getElem? hx)
    have rg := hr.frame A.fr (fun _ _ => id)
    obtain ⟨a, rfl⟩ := rg.some (by intro e; cases ns with | nil => simp at hlt | cons => simp at e)
    refine ⟨⟨by first | trivial | omega, by first | trivial | omega⟩, onSome_some.2 ⟨(v : Int), by rw [Nat.mul_one]; exact rg.cell (by rw [List.getElem?_map, hx]; rfl), ?_⟩⟩
    refine refNum_ok v (wrap_u64_nat (by omega)) (by omega) fun p2 c2 g2 o2 u2 => ⟨_, _, _, rfl, ?_⟩
    have ln := (encNum_len v).2
    refine (A.on u2.fr).app o2.row' rfl rfl (by omega) fun p3 c3 g3 A3 => ⟨_, _, _, rfl, ?_⟩
    have e1 : (ns.take (k + 1)).flatMap encNum = (ns.take k).flatMap encNum ++ encNum v := by rw [List.take_add_one, hx, List.flatMap_append]; simp
    rw [wrap_id (by omega) (by omega), ← e1]
    rw [← e1] at A3
    exact ⟨⟨k + 1, by omega, by omega, rfl, by rw [e1, List.length_append]; omega, A3⟩, by show ns.length - Int.toNat ((k : Int) + 1) < ns.length - k; omega⟩
  · have q1 : ¬ (k : Int) < ((ns.length : Nat) : Int) := by omega
    simp only [q1, decide_false, Bool.false_eq_true, if_false]
    rw [List.take_of_length_le (by omega)] at A ⊢
    exact hk op oc g A
def headR (Ls : List RC) : List UInt8 := [Ls.length + 1, cntK Ls 3, cntK Ls 4, cntK Ls 5, (Ls.filter (fun y => decide (y.fate = 0))).length].flatMap encNum
def thereL (Ls : List RC) : List Cp := (Ls.filter (fun y => decide (y.fate = 0))).map RC.c
theorem rsave_ok (B : Rb h x X Ls) (hl : Ls.length ≤ 50000) (hf : ∀ y ∈ Ls, y.fate ≤ 3) (ok : ∀ z ∈ thereL Ls, okZ z)
    (hk : ∀ h' p' l' c', BL h h' p' l' c' (headR Ls :: (thereL Ls).map recC) → Fr (fun _ => False) h h' → R (.slice p' l' c') h') :
    CallsH Tryz.prog F.ref21_Table_Save #[.pointer (some ⟨x, 0, none⟩)] h R := by
  refine ref21_Table_Save.walk (counts_ok B (by omega) hf fun h1 f1 => ⟨_, _, _, _, _, _, rfl, a6_int.new fun b2 h2 e2 hb2 f2 => ?_⟩)
  have F2 := f1.tt f2
  refine there_ok (B.on F2) (by omega) fun h3 p3 c3 ys o3 n3 hab hdat f3 => ⟨_, _, _, rfl, ?_⟩
  have F3 := F2.tt f3
  obtain ⟨lp, lc, xs, M⟩ := B
  have hlen := M.len
  have M3 := M.on F3
  have hb3 := f3.get hb2 id
  have cl : ∀ j, cntK Ls j ≤ Ls.length := fun j => by have := cntK_le Ls j Ls.length; rwa [List.take_length] at this
  have hyl : ys.length = (Ls.filter (fun y => decide (y.fate = 0))).length := by rw [← hab, List.length_map]
  have yle : ys.length ≤ Ls.length := by rw [hyl]; exact List.length_filter_le _ _
  have hit : (ys.map RW.abs).map RC.c = thereL Ls := by rw [hab]; rfl
  have c3' := cl 3
  have c4' := cl 4
  have c5' := cl 5
  refine ⟨_, _, _, cell_at M3.blk rfl, ⟨by omega, by omega⟩, _, cell_at hb3 rfl, ⟨by omega, by omega⟩, _, cell_at hb3 rfl, ⟨by omega, by omega⟩, _, cell_at hb3 rfl, newP_of ?_⟩
  have hw : IntKind.wrap .i64 (((xs.length : Nat) : Int) + 1) = ((Ls.length + 1 : Nat) : Int) := by rw [hlen, wrap_id (by omega) (by omega)]; omega
  rw [hw]
  have f4 : Fr (fun _ => False) h3 (h3.push (.cells #[.int .i64 ((Ls.length + 1 : Nat) : Int), .int .i64 (cntK Ls 3 : Int), .int .i64 (cntK Ls 4 : Int), .int .i64 (cntK Ls 5 : Int), .int .i64 ((ys.length : Nat) : Int)] T.int)) := Fr.push _ _
  have r4 : Row (h3.push (.cells #[.int .i64 ((Ls.length + 1 : Nat) : Int), .int .i64 (cntK Ls 3 : Int), .int .i64 (cntK Ls 4 : Int), .int .i64 (cntK Ls 5 : Int), .int .i64 ((ys.length : Nat) : Int)] T.int)) (some ⟨h3.size, 0, none⟩) (nats [Ls.length + 1, cntK Ls 3, cntK Ls 4, cntK Ls 5, ys.length]) := row_new
  generalize h3.push (.cells #[.int .i64 ((Ls.length + 1 : Nat) : Int), .int .i64 (cntK Ls 3 : Int), .int .i64 (cntK Ls 4 : Int), .int .i64 (cntK Ls 5 : Int), .int .i64 ((ys.length : Nat) : Int)] T.int) = h4 at f4 r4 ⊢
  have F4 := F3.tt f4
  refine ⟨cell_at (M.on F4).blk rfl, numbers_ok r4 rfl (fun k hk => by simp at hk; omega) (by simp) fun p5 c5 h5 A5 => ⟨_, _, _, rfl, ?_⟩⟩
  have eh : ([Ls.length + 1, cntK Ls 3, cntK Ls 4, cntK Ls 5, ys.length] : List Nat).flatMap encNum = headR Ls := by unfold headR; rw [hyl]
  rw [eh] at A5 ⊢
  have F5 := F4.tt A5.fr
  have z4 := F4.1
  refine ⟨cell_at (M.on F5).blk rfl, newP_of ?_⟩
  have f6 : Fr (fun _ => False) h5 (h5.push (.cells #[.slice p5 (headR Ls).length c5] T.s_uint8)) := Fr.push _ _
  have o6 : Own (h5.push (.cells #[.slice p5 (headR Ls).length c5] T.s_uint8)) (some ⟨h5.size, 0, none⟩) 1 1 1 (nenc ⟨p5, c5, headR Ls⟩) := .row h5.size 0 _ _ rfl push_new (Nat.le_refl _) (by simp) rfl (fun j v hj => by rw [Nat.zero_add]; simpa using hj)
  have B6 : BL h (h5.push (.cells #[.slice p5 (headR Ls).length c5] T.s_uint8)) (some ⟨h5.size, 0, none⟩) 1 1 [headR Ls] := by
    refine ⟨[⟨p5, c5, headR Ls⟩], inBlk p5, rfl, by simpa using o6, rfl, ?_, ?_, fun y ⟨a, e, e2⟩ => by cases e; rw [← e2]; exact F5.1⟩
    · intro v hv
      obtain rfl := List.mem_singleton.1 hv
      exact BV.of_own (A5.own.frame f6 (fun _ _ => id)) (fun _ => id)
    · intro y hy
      have h1 := A5.new y hy
      have h2 := A5.own.blk_lt hy
      exact ⟨by omega, by rw [Array.size_push]; omega, fun ⟨a, e, e2⟩ => by cases e; have e2 : h5.size = y := e2; omega⟩
  generalize h5.push (.cells #[.slice p5 (headR Ls).length c5] T.s_uint8) = h6 at f6 B6 ⊢
  have hp6 : ∀ y, inBlk (some (⟨h5.size, 0, none⟩ : Addr)) y → h3.size ≤ y := fun y ⟨a, e, e2⟩ => by cases e; rw [← e2]; exact (f4.tt A5.fr).1
  generalize (some ⟨h5.size, 0, none⟩ : Option Addr) = p6 at B6 hp6 ⊢
  clear o6
  have F6 := F5.tt f6
  have F36 := f4.tt (A5.fr.tt f6)
  refine ⟨cell_at (M.on F6).blk rfl, fun op ol oc t g => ∃ k : Nat, t = (k : Int) ∧ k ≤ ys.length ∧ BL h g op ol oc (headR Ls :: ((thereL Ls).take k).map recC) ∧ Fr (fun _ => False) h g ∧ Fr (fun _ => False) h3 g ∧ ∀ y, inBlk op y → h3.size ≤ y, fun _ _ _ t _ => ys.length - t.toNat, ⟨0, rfl, by omega, by simpa using B6, F6, F36, hp6⟩, ?_⟩
  rintro op ol oc _ g ⟨k, rfl, hkn, Bg, Fg, F3g, hop3⟩
  by_cases hlt : k < ys.length
  · have q1 : (k : Int) < ((ys.length : Nat) : Int) := by omega
    simp only [q1, decide_true, if_true, Int.toNat_natCast]
    have hy : ys[k]? = some ys[k] := List.getElem?_eq_getElem hlt
    generalize ys[k] = v at hy
    have hik : (thereL Ls)[k]? = some v.abs.c := by rw [← hit, List.getElem?_map, List.getElem?_map, hy]; rfl
    have kz := ok v.abs.c (List.mem_of_getElem? hik)
    have kr : rightE v.e = true := kz.r
    have kv : 0 ≤ v.e.svc := kz.v
    have kd : v.v.b.length ≤ 600 := kz.d
    have kn : v.num ≤ 1000000 := kz.n
    have kt : v.till ≤ 1099511627776 := kz.t
    have k0 : 0 ≤ v.ses := kz.s0
    have k1 : v.ses ≤ 1099511627776 := kz.s1
    have kl : v.dl ≤ 1099511627776 := kz.l
    have lr := recC_len kz
    have l0 := text_len kr kv
    have lt1 := encText_len (textE v.e)
    have lt2 := encText_len v.v.b
    have e1 := (encNum_len v.num).2
    have e2 := (encNum_len v.till).2
    have e3 := (encNum_len v.ses.toNat).2
    have e4 := (encNum_len v.dl).2
    have oy : ∀ {g' : Heap}, Fr (fun _ => False) g g' → Own g' p3 ys.length c3 11 (ys.flatMap cenc) := fun f => o3.frame (F3g.tt f) (fun _ _ => id)
    obtain ⟨ab, aoff, rfl⟩ := (oy (Fr.refl _ _)).addr (by omega)
    have hel : ∀ {g' : Heap}, Fr (fun _ => False) g g' → heldL ((⟨ab, aoff, none⟩ : Addr).add (k * 11)) (cenc v) 0 g' := fun f => (oy f).heldAt cenc_len hy
    have bnd : ((0 : Int) ≤ (k : Int) ∧ (k : Int) < ((ys.length : Nat) : Int)) := ⟨by omega, by omega⟩
    have dt : (str (textE v.e)).data.toList = textE v.e := by unfold str; simp
    have c0 := cel (hel (Fr.refl _ _)) 0 rfl
    rw [add_zero_addr] at c0
    have fb1 : Fr (fun _ => False) g (g.push (.cells #[.int .i64 (v.num : Int)] T.int)) := Fr.push _ _
    refine ⟨⟨by first | trivial | omega, by first | trivial | omega⟩, onSome_some.2 ⟨(v.num : Int), c0, newP_of (numbers_ok (ns := [v.num]) row_new rfl (fun k hk => by simp at hk; omega) (by simp) fun q1 d1 g1 A1 => ⟨_, _, _, rfl, ⟨by first | trivial | omega, by first | trivial | omega⟩, onSome_some.2 ?_⟩)⟩⟩
    rw [List.flatMap_cons, List.flatMap_nil, List.append_nil] at A1
    have A1 := A1.back fb1
    refine lde (hel A1.fr) (rtext_ok v.e kr kv fun g2 f2 => ⟨_, rfl, s2b fun q3 d3 g3 r3 _ f3 n3' => ⟨_, _, _, rfl, ?_⟩⟩)
    rw [dt] at r3
    have A3 := A1.on (f2.tt f3)
    refine refText_ok r3 (str_size _) (by omega) fun q4 d4 g4 o4 u4 => ⟨_, _, _, rfl, ?_⟩
    refine (A3.on u4.fr).app o4.row' (by simp) rfl (by omega) fun q5 d5 g5 A5 => ⟨_, _, _, rfl, ⟨by first | trivial | omega, by first | trivial | omega⟩, onSome_some.2 ⟨_, _, _, cel (hel A5.fr) 6 rfl, ?_⟩⟩
    have rv : Row g5 v.v.p (bc v.v.b) := ((hdat v (List.mem_of_getElem? hy)).row).frame (F3g.tt A5.fr) (fun _ _ => id)
    refine refText_ok rv rfl (by omega) fun q6 d6 g6 o6 u6 => ⟨_, _, _, rfl, ?_⟩
    refine (A5.on u6.fr).app o6.row' rfl rfl (by simp only [List.length_append]; omega) fun q7 d7 g7 A7 => ⟨_, _, _, rfl, ⟨by first | trivial | omega, by first | trivial | omega⟩, onSome_some.2 ⟨_, cel (hel A7.fr) 7 rfl, ?_⟩⟩
    refine refNum_ok v.till rfl (by omega) fun q8 d8 g8 o8 u8 => ⟨_, _, _, rfl, ?_⟩
    refine (A7.on u8.fr).app o8.row' rfl rfl (by simp only [List.length_append]; omega) fun q9 d9 g9 A9 => ⟨_, _, _, rfl, ⟨by first | trivial | omega, by first | trivial | omega⟩, onSome_some.2 ⟨_, cel (hel A9.fr) 8 rfl, newP_of ?_⟩⟩
    have es : v.ses = ((v.ses.toNat : Nat) : Int) := by omega
    have f10 : Fr (fun _ => False) g9 (g9.push (.cells #[.int .i64 v.ses] T.int)) := Fr.push _ _
    have r10 : Row (g9.push (.cells #[.int .i64 v.ses] T.int)) (some ⟨g9.size, 0, none⟩) (nats [v.ses.toNat]) := by
      have : nats [v.ses.toNat] = [.int .i64 v.ses] := by show [Value.int .i64 ((v.ses.toNat : Nat) : Int)] = _; rw [← es]
      rw [this]; exact row_new
    refine numbers_ok r10 rfl (fun k hk => by simp at hk; omega) (by simp) fun q11 d11 g11 A11 => ⟨_, _, _, rfl, ?_⟩
    rw [List.flatMap_cons, List.flatMap_nil, List.append_nil] at A11
    have x11 : ([v.ses.toNat] : List Nat).flatMap encNum = encNum v.ses.toNat := by simp
    refine (A9.on (f10.tt A11.fr)).app A11.own.row' rfl (by rw [x11]) (by simp only [List.length_append]; omega) fun q12 d12 g12 A12 => ⟨_, _, _, rfl, ⟨by first | trivial | omega, by first | trivial | omega⟩, onSome_some.2 ⟨_, cel (hel A12.fr) 9 rfl, ?_⟩⟩
    refine refNum_ok v.dl rfl (by omega) fun q13 d13 g13 o13 u13 => ⟨_, _, _, rfl, ?_⟩
    refine (A12.on u13.fr).app o13.row' rfl rfl (by simp only [List.length_append]; omega) fun q14 d14 g14 A14 => ⟨_, _, _, rfl, ?_⟩
    have er : encNum v.num ++ encText (textE v.e) ++ encText v.v.b ++ encNum v.till ++ encNum v.ses.toNat ++ encNum v.dl = recC v.abs.c := rfl
    rw [er] at A14 ⊢
    have zg := Fg.1
    have bl := Bg.len
    rw [List.length_cons, List.length_map, List.length_take] at bl
    refine (Bg.on A14.fr).push (by have := A14.fr.1; omega) A14.own (fun y hy => ⟨by have := A14.new y hy; omega, fun ho => by have := Bg.lt ho; have := A14.new y hy; omega⟩) (by omega) fun p15 c15 h15 B15 f15 g15 => ⟨_, _, _, rfl, ?_⟩
    rw [wrap_id (by omega) (by omega)]
    have hge : ∀ y, inBlk op y → h.size ≤ y := by obtain ⟨_, _, _, _, _, _, _, h6'⟩ := Bg; exact h6'
    refine ⟨⟨k + 1, by omega, by omega, ?_, (Fg.tt A14.fr).fresh f15 hge, (F3g.tt A14.fr).fresh f15 hop3, fun y hy => (g15 y hy).elim (hop3 y) (fun h1 => by have := F3g.1; have := A14.fr.1; omega)⟩, by show ys.length - Int.toNat ((k : Int) + 1) < ys.length - k; omega⟩
    rw [List.take_add_one, hik, List.map_append]
    rw [List.cons_append] at B15
    exact B15
  · have q1 : ¬ (k : Int) < ((ys.length : Nat) : Int) := by omega
    simp only [q1, decide_false, Bool.false_eq_true, if_false]
    have htl : (thereL Ls).length = ys.length := by rw [← hit, List.length_map, List.length_map]
    rw [List.take_of_length_le (by omega)] at Bg
    exact hk g op ol oc Bg Fg
end Rcp
end Go.Proofs.YtgccegnmggjkjaaGreatDoor

/-
  What is proved here: plain facts on the tables of copies: Pass and Drop. No condition.
-/
set_option maxRecDepth 100000
namespace Go.Proofs.YtgccegnmggjkjaaGreatDoor
open Go.Den Go.Heapq
namespace Cps
open Eid Alarm Fld
variable {h h' : Heap} {t : Nat} {X X' : Ft} {s s' : CF} {p : Option Addr} {n c : Nat} {now : Int}
theorem sorted_split : ∀ {L : List E}, Sorted L → Alarm.due L now = L.filter (isDue now) ∧ Alarm.rest L now = L.filter (fun e => !isDue now e)
  | [], _ => ⟨rfl, rfl⟩
  | e :: r, hs => by
    have hs' := List.pairwise_cons.1 hs
    obtain ⟨i1, i2⟩ := sorted_split (L := r) hs'.2
    unfold Alarm.due at i1 ⊢
    unfold Alarm.rest at i2 ⊢
    by_cases he : isDue now e = true
    · rw [List.takeWhile_cons, List.dropWhile_cons, List.filter_cons, List.filter_cons, he]
      simp only [if_true, Bool.not_true, Bool.false_eq_true, if_false]
      rw [i1, i2]
      exact ⟨rfl, rfl⟩
    · have he' : isDue now e = false := by simpa using he
      have all : ∀ x ∈ r, isDue now x = false := by
        intro x hx
        have h1 := hs'.1 x hx
        unfold isDue at he' ⊢
        have h2 := of_decide_eq_false he'
        apply decide_eq_false
        rcases h1 with h1 | h1 <;> omega
      rw [List.takeWhile_cons, List.dropWhile_cons, List.filter_cons, List.filter_cons, he']
      simp only [Bool.false_eq_true, if_false, Bool.not_false, if_true]
      refine ⟨?_, ?_⟩
      · symm; rw [List.filter_eq_nil_iff]; intro x hx; rw [all x hx]; simp
      · congr 1; symm; rw [List.filter_eq_self]; intro x hx; rw [all x hx]; rfl
def outC (L : List Cp) (ks : List Int) : List Cp := L.filter (fun z => !decide ((z.num : Int) ∈ ks))
def outE (L : List E) (ks : List Int) : List E := L.filter (fun e => !decide (e.1 ∈ ks))
theorem outC_nil (L : List Cp) : outC L [] = L := by unfold outC; exact List.filter_eq_self.2 (fun _ _ => by simp)
theorem outE_nil (L : List E) : outE L [] = L := by unfold outE; exact List.filter_eq_self.2 (fun _ _ => by simp)
theorem outC_cons (L : List Cp) (k : Int) (ks : List Int) : outC (delL L k) ks = outC L (k :: ks) := by
  unfold outC delL
  rw [List.filter_filter]
  apply List.filter_congr
  intro x _
  by_cases h1 : (x.num : Int) = k
  · simp [h1]
  · by_cases h2 : (x.num : Int) ∈ ks <;> simp [h1, h2]
theorem outE_cons (L : List E) (k : Int) (ks : List Int) : outE (dropK L k) ks = outE L (k :: ks) := by
  unfold outE dropK
  rw [List.filter_filter]
  apply List.filter_congr
  intro x _
  by_cases h1 : x.1 = k
  · simp [h1]
  · by_cases h2 : x.1 ∈ ks <;> simp [h1, h2]
theorem fold_over : ∀ (ks : List Int) (s : CF), ks.foldl remOver s = { s with L := outC s.L ks, E1 := outE s.E1 ks, E2 := outE s.E2 ks, over := s.over + ks.length }
  | [], s => by rw [outC_nil, outE_nil, outE_nil]; rfl
  | k :: ks, s => by
    rw [List.foldl_cons, fold_over ks]
    unfold remOver remF
    dsimp only
    rw [outC_cons, outE_cons, outE_cons, List.length_cons]
    congr 1; omega
theorem fold_gone : ∀ (ks : List Int) (s : CF), ks.foldl remGone s = { s with L := outC s.L ks, E1 := outE s.E1 ks, E2 := outE s.E2 ks, gone := s.gone + ks.length }
  | [], s => by rw [outC_nil, outE_nil, outE_nil]; rfl
  | k :: ks, s => by
    rw [List.foldl_cons, fold_gone ks]
    unfold remGone remF
    dsimp only
    rw [outC_cons, outE_cons, outE_cons, List.length_cons]
    congr 1; omega
def freeC (L : List Cp) (ks : List Int) : List Cp := L.map (fun z => if (z.num : Int) ∈ ks then { z with ses := 0, dl := 0 } else z)
theorem fold_free : ∀ (ks : List Int) (s : CF), (∀ k ∈ ks, 0 ≤ k) → ks.foldl (fun s k => freeF s k.toNat) s = { s with L := freeC s.L ks, E2 := outE s.E2 ks }
  | [], s, _ => by
    rw [outE_nil]
    have : freeC s.L [] = s.L := by unfold freeC; simp
    rw [this]; rfl
  | k :: ks, s, hp => by
    rw [List.foldl_cons, fold_free ks _ (fun j hj => hp j (List.mem_cons_of_mem _ hj))]
    have hk := hp k (by simp)
    unfold freeF
    dsimp only
    have e : ((k.toNat : Nat) : Int) = k := by omega
    rw [e, outE_cons]
    have : freeC (setC s.L k.toNat 0 0) ks = freeC s.L (k :: ks) := by
      unfold freeC setC
      rw [List.map_map]
      apply List.map_congr_left
      intro x _
      show (fun z : Cp => if (z.num : Int) ∈ ks then ({ z with ses := 0, dl := 0 } : Cp) else z) (if x.num = k.toNat then ({ x with ses := 0, dl := 0 } : Cp) else x) = _
      by_cases h1 : x.num = k.toNat
      · have h1' : (x.num : Int) = k := by omega
        rw [if_pos h1, if_pos (show (x.num : Int) ∈ k :: ks by rw [h1']; simp)]
        dsimp only
        split <;> rfl
      · have h1' : (x.num : Int) ≠ k := by omega
        rw [if_neg h1]
        dsimp only
        by_cases h2 : (x.num : Int) ∈ ks
        · rw [if_pos h2, if_pos (List.mem_cons_of_mem _ h2)]
        · rw [if_neg h2, if_neg (by simp [h1', h2])]
    rw [this]
theorem out_len : ∀ (ks : List Int) (L : List Cp), (L.map Cp.num).Nodup → ks.Nodup → (∀ k ∈ ks, ∃ z ∈ L, (z.num : Int) = k) → (outC L ks).length + ks.length = L.length
  | [], L, _, _, _ => by rw [outC_nil]; rfl
  | k :: ks, L, nd, nk, hk => by
    obtain ⟨z, hz, rfl⟩ := hk k (by simp)
    rw [← outC_cons, List.length_cons]
    have h1 := del_len nd hz
    have nk' := List.nodup_cons.1 nk
    have h2 := out_len ks (delL L (z.num : Int)) (List.Pairwise.sublist (List.Sublist.map _ List.filter_sublist) nd) nk'.2 (fun j hj => by
      obtain ⟨y, hy, e⟩ := hk j (List.mem_cons_of_mem _ hj)
      exact ⟨y, delL_mem.2 ⟨hy, fun e2 => nk'.1 (by rw [← e2, e]; exact hj)⟩, e⟩)
    omega
theorem outC_mem {L : List Cp} {ks : List Int} {z : Cp} : z ∈ outC L ks ↔ z ∈ L ∧ (z.num : Int) ∉ ks := by unfold outC; simp [List.mem_filter]
theorem outE_mem {L : List E} {ks : List Int} {e : E} : e ∈ outE L ks ↔ e ∈ L ∧ e.1 ∉ ks := by unfold outE; simp [List.mem_filter]
theorem freeC_mem {L : List Cp} {ks : List Int} {z : Cp} : z ∈ freeC L ks ↔ ∃ y ∈ L, z = if (y.num : Int) ∈ ks then { y with ses := 0, dl := 0 } else y := by
  unfold freeC; rw [List.mem_map]
  exact ⟨fun ⟨y, h1, h2⟩ => ⟨y, h1, h2.symm⟩, fun ⟨y, h1, h2⟩ => ⟨y, h1, h2.symm⟩⟩
/-! ### Drop -/
theorem of_nodup (O : Ord s) (x : Ev) : ((ofL s.L x).map (fun z => (z.num : Int))).Nodup := by
  have : ((ofL s.L x).map Cp.num).Nodup := List.Pairwise.sublist (List.Sublist.map _ List.filter_sublist) O.nd
  have e : (ofL s.L x).map (fun z => (z.num : Int)) = ((ofL s.L x).map Cp.num).map (fun n : Nat => (n : Int)) := by rw [List.map_map]; rfl
  rw [e]
  exact List.Pairwise.map _ (fun a b h => by omega) this
theorem of_mem (O : Ord s) {x : Ev} {z : Cp} (hz : z ∈ s.L) : (z.num : Int) ∈ (ofL s.L x).map (fun z => (z.num : Int)) ↔ z.e = x := by
  rw [List.mem_map]
  unfold ofL
  constructor
  · rintro ⟨y, hy, e⟩
    rw [List.mem_filter] at hy
    obtain rfl := O.inj hz hy.1 (by omega)
    simpa using hy.2
  · intro e; exact ⟨z, List.mem_filter.2 ⟨hz, by simpa using e⟩, rfl⟩
theorem okC.outs (ok : okC s) (O : Ord s) {ks : List Int} (nk : ks.Nodup) (hk : ∀ k ∈ ks, ∃ z ∈ s.L, (z.num : Int) = k) (hL : s'.L = outC s.L ks) (h1 : s'.E1 = outE s.E1 ks) (h2 : s'.E2 = outE s.E2 ks) (hn : s'.next = s.next) (hc : s'.acked + s'.over + s'.gone = s.acked + s.over + s.gone + ks.length) : okC s' := by
  refine ⟨fun y hy => ?_, fun y hy => ?_, fun e => ?_, fun e => ?_, ?_⟩
  · rw [hL, outC_mem] at hy; rw [hn]; exact ok.bd y hy.1
  · rw [hL, outC_mem] at hy; exact ok.sp y hy.1
  · rw [h1, outE_mem, ok.e1, hL]
    constructor
    · rintro ⟨⟨y, hy, rfl⟩, hne⟩; exact ⟨y, outC_mem.2 ⟨hy, hne⟩, rfl⟩
    · rintro ⟨y, hy, rfl⟩; have := outC_mem.1 hy; exact ⟨⟨y, this.1, rfl⟩, this.2⟩
  · rw [h2, outE_mem, ok.e2, hL]
    constructor
    · rintro ⟨⟨y, hy, hs, rfl⟩, hne⟩; exact ⟨y, outC_mem.2 ⟨hy, hne⟩, hs, rfl⟩
    · rintro ⟨y, hy, hs, rfl⟩; have := outC_mem.1 hy; exact ⟨⟨y, this.1, hs, rfl⟩, this.2⟩
  · have := out_len ks s.L O.nd nk hk
    have := ok.cnt
    rw [hn, hL]; omega
theorem okC.drop (ok : okC s) (O : Ord s) (x : Ev) : okC (dropF s x) := by
  unfold dropF
  rw [fold_gone]
  refine ok.outs O (of_nodup O x) (fun k hk => ?_) rfl rfl rfl rfl (by show s.acked + s.over + (s.gone + _) = _; omega)
  obtain ⟨z, hz, e⟩ := List.mem_map.1 hk
  exact ⟨z, (List.mem_filter.1 hz).1, e⟩
theorem drop_mem (O : Ord s) {x : Ev} {z : Cp} : z ∈ (dropF s x).L ↔ z ∈ s.L ∧ z.e ≠ x := by
  unfold dropF
  rw [fold_gone]
  show z ∈ outC _ _ ↔ _
  rw [outC_mem]
  constructor
  · rintro ⟨h1, h2⟩; exact ⟨h1, fun e => h2 ((of_mem O h1).2 e)⟩
  · rintro ⟨h1, h2⟩; exact ⟨h1, fun e => h2 ((of_mem O h1).1 e)⟩
/-! ### Pass -/
theorem due_mem (O : Ord s) {e : E} : e ∈ Alarm.due s.E1 now ↔ e ∈ s.E1 ∧ e.2 ≤ now := by
  rw [(sorted_split O.o1).1, List.mem_filter]
  unfold isDue
  simp
theorem due_nodup (O : Ord s) (now : Int) : (keys (Alarm.due s.E1 now)).Nodup := by
  unfold keys
  exact List.Pairwise.sublist (List.Sublist.map _ (List.takeWhile_sublist _)) O.n1
theorem due_num (ok : okC s) (O : Ord s) {z : Cp} (hz : z ∈ s.L) : (z.num : Int) ∈ keys (Alarm.due s.E1 now) ↔ (z.till : Int) ≤ now := by
  unfold keys
  rw [List.mem_map]
  constructor
  · rintro ⟨e, he, e1⟩
    obtain ⟨h1, h2⟩ := (due_mem O).1 he
    obtain ⟨y, hy, rfl⟩ := (ok.e1 e).1 h1
    obtain rfl := O.inj hy hz (Int.ofNat.inj e1)
    exact h2
  · intro h; exact ⟨(z.num, z.till), (due_mem O).2 ⟨(ok.e1 _).2 ⟨z, hz, rfl⟩, h⟩, rfl⟩
theorem due_in (ok : okC s) (O : Ord s) {k : Int} (hk : k ∈ keys (Alarm.due s.E1 now)) : ∃ z ∈ s.L, (z.num : Int) = k := by
  unfold keys at hk
  obtain ⟨e, he, rfl⟩ := List.mem_map.1 hk
  obtain ⟨z, hz, rfl⟩ := (ok.e1 e).1 ((due_mem O).1 he).1
  exact ⟨z, hz, rfl⟩
theorem outE_rest (O : Ord s) : outE (Alarm.rest s.E1 now) (keys (Alarm.due s.E1 now)) = outE s.E1 (keys (Alarm.due s.E1 now)) := by
  rw [(sorted_split O.o1).1, (sorted_split O.o1).2]
  unfold outE keys
  rw [List.filter_filter]
  apply List.filter_congr
  intro e he
  by_cases hd : isDue now e = true
  · have : e.1 ∈ (s.E1.filter (isDue now)).map (·.1) := List.mem_map_of_mem (List.mem_filter.2 ⟨he, hd⟩)
    simp only [this, decide_true, Bool.not_true, Bool.false_and]
  · simp [hd]
def freeZ (now : Int) (z : Cp) : Cp := if z.ses ≠ 0 ∧ (z.dl : Int) ≤ now then { z with ses := 0, dl := 0 } else z
def overF (s : CF) (now : Int) : CF := { L := outC s.L (keys (Alarm.due s.E1 now)), next := s.next, acked := s.acked, over := s.over + (keys (Alarm.due s.E1 now)).length, gone := s.gone, E1 := outE s.E1 (keys (Alarm.due s.E1 now)), E2 := outE s.E2 (keys (Alarm.due s.E1 now)) }
def freeG (s1 : CF) (now : Int) : CF := (keys (Alarm.due s1.E2 now)).foldl (fun s k => freeF s k.toNat) { s1 with E2 := Alarm.rest s1.E2 now }
theorem passF_eq (O : Ord s) : passF s now = freeG (overF s now) now := by
  unfold passF freeG overF
  dsimp only
  rw [fold_over]
  dsimp only
  rw [outE_rest O]
theorem pass_all2 (ok : okC s) (O : Ord s) (now : Int) : okC (passF s now) ∧ (∀ z, z ∈ (passF s now).L ↔ ∃ y ∈ s.L, now < (y.till : Int) ∧ z = freeZ now y) ∧ (passF s now).next = s.next ∧ (passF s now).E1.length ≤ s.E1.length ∧ (passF s now).E2.length ≤ s.E2.length ∧ (passF s now).L = (s.L.filter (fun y => decide (now < (y.till : Int)))).map (freeZ now) ∧ (passF s now).acked = s.acked ∧ (passF s now).over = s.over + (Alarm.due s.E1 now).length ∧ (passF s now).gone = s.gone := by
  rw [passF_eq O]
  generalize hs1 : overF s now = s1
  have ok1 : okC s1 := by
    subst hs1
    exact ok.outs O (due_nodup O now) (fun k hk => due_in ok O hk) rfl rfl rfl rfl (by show s.acked + (s.over + _) + s.gone = _; omega)
  have O1 : Ord s1 := by
    subst hs1
    exact ⟨List.Pairwise.sublist (List.Sublist.map _ List.filter_sublist) O.nd, List.Pairwise.filter _ O.o1, List.Pairwise.filter _ O.o2, List.Pairwise.sublist (List.Sublist.map _ List.filter_sublist) O.n1, List.Pairwise.sublist (List.Sublist.map _ List.filter_sublist) O.n2⟩
  have m1 : ∀ z, z ∈ s1.L ↔ z ∈ s.L ∧ now < (z.till : Int) := fun z => by
    subst hs1
    show z ∈ outC _ _ ↔ _
    rw [outC_mem]
    constructor
    · rintro ⟨h1, h2⟩; exact ⟨h1, Int.not_le.1 (fun e => h2 ((due_num ok O h1).2 e))⟩
    · rintro ⟨h1, h2⟩; exact ⟨h1, fun e => absurd ((due_num ok O h1).1 e) (Int.not_le.2 h2)⟩
  have n1 : s1.next = s.next := by subst hs1; rfl
  have l1 : s1.E1.length ≤ s.E1.length := by subst hs1; exact List.length_filter_le _ _
  have l2 : s1.E2.length ≤ s.E2.length := by subst hs1; exact List.length_filter_le _ _
  have c1 : s1.acked = s.acked ∧ s1.over = s.over + (Alarm.due s.E1 now).length ∧ s1.gone = s.gone := by subst hs1; exact ⟨rfl, by show s.over + (keys _).length = _; unfold keys; rw [List.length_map], rfl⟩
  have L1 : s1.L = s.L.filter (fun y => decide (now < (y.till : Int))) := by
    subst hs1
    show outC _ _ = _
    unfold outC
    refine List.filter_congr fun z hz => ?_
    have := due_num (now := now) ok O hz
    by_cases hd : (z.till : Int) ≤ now
    · rw [decide_eq_true (this.2 hd), decide_eq_false (Int.not_lt.2 hd)]; rfl
    · rw [decide_eq_false (fun e => hd (this.1 e)), decide_eq_true (Int.not_le.1 hd)]; rfl
  clear hs1
  have dm : ∀ e, e ∈ Alarm.due s1.E2 now ↔ e ∈ s1.E2 ∧ e.2 ≤ now := fun e => by
    rw [(sorted_split O1.o2).1, List.mem_filter]; unfold isDue; simp
  have dn : ∀ z ∈ s1.L, ((z.num : Int) ∈ keys (Alarm.due s1.E2 now) ↔ z.ses ≠ 0 ∧ (z.dl : Int) ≤ now) := fun z hz => by
    unfold keys
    rw [List.mem_map]
    constructor
    · rintro ⟨e, he, e1⟩
      obtain ⟨h1, h2⟩ := (dm e).1 he
      obtain ⟨y, hy, hs, rfl⟩ := (ok1.e2 e).1 h1
      obtain rfl := O1.inj hy hz (Int.ofNat.inj e1)
      exact ⟨hs, h2⟩
    · rintro ⟨h1, h2⟩; exact ⟨(z.num, z.dl), (dm _).2 ⟨(ok1.e2 _).2 ⟨z, hz, h1, rfl⟩, h2⟩, rfl⟩
  have dp : ∀ k ∈ keys (Alarm.due s1.E2 now), 0 ≤ k := fun k hk => by
    unfold keys at hk
    obtain ⟨e, he, rfl⟩ := List.mem_map.1 hk
    obtain ⟨z, hz, _, rfl⟩ := (ok1.e2 e).1 ((dm e).1 he).1
    show (0 : Int) ≤ (z.num : Int); omega
  unfold freeG
  rw [fold_free _ _ dp]
  have fz : ∀ z ∈ s1.L, (if (z.num : Int) ∈ keys (Alarm.due s1.E2 now) then ({ z with ses := 0, dl := 0 } : Cp) else z) = freeZ now z := fun z hz => by
    unfold freeZ
    by_cases hd : z.ses ≠ 0 ∧ (z.dl : Int) ≤ now
    · rw [if_pos hd, if_pos ((dn z hz).2 hd)]
    · rw [if_neg hd, if_neg (fun e => hd ((dn z hz).1 e))]
  have fm : ∀ z, z ∈ freeC s1.L (keys (Alarm.due s1.E2 now)) ↔ ∃ y ∈ s1.L, z = freeZ now y := fun z => by
    rw [freeC_mem]
    constructor
    · rintro ⟨y, hy, rfl⟩; exact ⟨y, hy, fz y hy⟩
    · rintro ⟨y, hy, rfl⟩; exact ⟨y, hy, (fz y hy).symm⟩
  have fnum : ∀ y, (freeZ now y).num = y.num := fun y => by unfold freeZ; split <;> rfl
  have ftill : ∀ y, (freeZ now y).till = y.till := fun y => by unfold freeZ; split <;> rfl
  have fd : ∀ y, (freeZ now y).d = y.d := fun y => by unfold freeZ; split <;> rfl
  refine ⟨⟨fun z hz => ?_, fun z hz => ?_, fun e => ?_, fun e => ?_, ?_⟩, fun z => ?_, n1, l1, ?_, ?_, c1⟩
  · obtain ⟨y, hy, rfl⟩ := (fm z).1 hz
    rw [fnum, fd]; exact ok1.bd y hy
  · obtain ⟨y, hy, rfl⟩ := (fm z).1 hz
    unfold freeZ
    split
    · exact Int.le_refl _
    · exact ok1.sp y hy
  · show e ∈ s1.E1 ↔ ∃ z ∈ freeC _ _, _
    rw [ok1.e1]
    constructor
    · rintro ⟨y, hy, rfl⟩; exact ⟨_, (fm _).2 ⟨y, hy, rfl⟩, by rw [fnum, ftill]⟩
    · rintro ⟨z, hz, rfl⟩
      obtain ⟨y, hy, rfl⟩ := (fm z).1 hz
      exact ⟨y, hy, by rw [fnum, ftill]⟩
  · show e ∈ outE (Alarm.rest s1.E2 now) _ ↔ ∃ z ∈ freeC _ _, _
    rw [outE_mem, (sorted_split O1.o2).2, List.mem_filter]
    constructor
    · rintro ⟨⟨h1, h2⟩, h3⟩
      obtain ⟨y, hy, hs, rfl⟩ := (ok1.e2 e).1 h1
      have hd : ¬ (y.ses ≠ 0 ∧ (y.dl : Int) ≤ now) := fun hd => h3 ((dn y hy).2 hd)
      refine ⟨_, (fm _).2 ⟨y, hy, rfl⟩, ?_⟩
      unfold freeZ
      rw [if_neg hd]
      exact ⟨hs, rfl⟩
    · rintro ⟨z, hz, hs, rfl⟩
      obtain ⟨y, hy, rfl⟩ := (fm z).1 hz
      unfold freeZ at hs ⊢
      by_cases hd : y.ses ≠ 0 ∧ (y.dl : Int) ≤ now
      · rw [if_pos hd] at hs; exact absurd rfl hs
      · rw [if_neg hd] at hs ⊢
        refine ⟨⟨(ok1.e2 _).2 ⟨y, hy, hs, rfl⟩, ?_⟩, fun hk => hd ((dn y hy).1 hk)⟩
        have : ¬ (y.dl : Int) ≤ now := fun e => hd ⟨hs, e⟩
        unfold isDue
        simpa using this
  · have := ok1.cnt
    show s1.next = 1 + (freeC _ _).length + _ + _ + _
    unfold freeC
    rw [List.length_map]; exact this
  · show z ∈ freeC _ _ ↔ _
    rw [fm]
    constructor
    · rintro ⟨y, hy, rfl⟩; have := (m1 y).1 hy; exact ⟨y, this.1, this.2, rfl⟩
    · rintro ⟨y, hy, hn, rfl⟩; exact ⟨y, (m1 y).2 ⟨hy, hn⟩, rfl⟩
  · refine Nat.le_trans (List.length_filter_le _ _) (Nat.le_trans (rest_len _ _) l2)
  · show freeC _ _ = _
    rw [← L1]
    exact List.map_congr_left fz
theorem pass_all (ok : okC s) (O : Ord s) (now : Int) : okC (passF s now) ∧ (∀ z, z ∈ (passF s now).L ↔ ∃ y ∈ s.L, now < (y.till : Int) ∧ z = freeZ now y) ∧ (passF s now).next = s.next ∧ (passF s now).E1.length ≤ s.E1.length ∧ (passF s now).E2.length ≤ s.E2.length := by
  obtain ⟨h1, h2, h3, h4, h5, _⟩ := pass_all2 ok O now
  exact ⟨h1, h2, h3, h4, h5⟩
end Cps
end Go.Proofs.YtgccegnmggjkjaaGreatDoor

/-
  What is proved here: plain: a table of copies and the document's stay alike. No program in sight. No condition.
-/
set_option maxRecDepth 100000
namespace Go.Proofs.YtgccegnmggjkjaaGreatDoor
open Go.Den Go.Fields Go.Heapq
namespace Rcp
open Eid Cps Fld Alarm
variable {Ls : List RC} {s : CF} {i : Nat} {y y' : RC}
def cntF (Ls : List RC) (f : Nat) : Nat := (Ls.filter (fun y => decide (y.fate = f))).length
structure Rel (s : CF) (Ls : List RC) : Prop where
  there : s.L = thereL Ls
  next : s.next = Ls.length + 1
  acked : s.acked = cntF Ls 1
  over : s.over = cntF Ls 2
  gone : s.gone = cntF Ls 3
  fates : ∀ y ∈ Ls, y.fate ≤ 3
  nums : ∀ (i : Nat) y, Ls[i]? = some y → y.c.num = i + 1
theorem Rel.nil : Rel ⟨[], 1, 0, 0, 0, [], []⟩ [] := ⟨rfl, rfl, rfl, rfl, rfl, (fun y hy => by cases hy), fun i y h => by simp at h⟩
theorem Rel.mem (r : Rel s Ls) {z : Cp} : z ∈ s.L ↔ ∃ (i : Nat) (y : RC), Ls[i]? = some y ∧ y.fate = 0 ∧ y.c = z := by
  rw [r.there]
  unfold thereL
  rw [List.mem_map]
  constructor
  · rintro ⟨y, hy, rfl⟩
    obtain ⟨h1, h2⟩ := List.mem_filter.1 hy
    obtain ⟨i, hi⟩ := List.getElem?_of_mem h1
    exact ⟨i, y, hi, of_decide_eq_true h2, rfl⟩
  · rintro ⟨i, y, hi, hf, rfl⟩
    exact ⟨y, List.mem_filter.2 ⟨List.mem_of_getElem? hi, decide_eq_true hf⟩, rfl⟩
/-! ### counts -/
theorem cntK_fate (Ls : List RC) (f : Nat) (hf : 1 ≤ f) : cntK Ls (f + 2) = cntF Ls f := by
  unfold cntK cntF
  congr 1
  refine List.filter_congr fun y _ => ?_
  unfold kx
  by_cases h : y.fate = 0 ∧ y.c.ses = 0
  · rw [if_pos h, decide_eq_false (by omega), decide_eq_false (by have := h.1; omega)]
  · rw [if_neg h]
    exact decide_eq_decide.2 ⟨by omega, by omega⟩
theorem cntK_ready (Ls : List RC) : cntK Ls 1 = ((thereL Ls).filter (fun z => decide (z.ses = 0))).length := by
  unfold cntK thereL
  rw [List.filter_map, List.length_map, List.filter_filter]
  congr 1
  refine List.filter_congr fun y _ => ?_
  unfold kx
  by_cases h : y.fate = 0 ∧ y.c.ses = 0
  · rw [if_pos h]; simp [h.1, h.2]
  · rw [if_neg h, decide_eq_false (by omega)]
    symm
    simp only [Function.comp, Bool.and_eq_false_iff, decide_eq_false_iff_not]
    by_cases q : y.fate = 0
    · exact .inl (fun e => h ⟨q, e⟩)
    · exact .inr q
theorem cntK_leased (Ls : List RC) : cntK Ls 2 = ((thereL Ls).filter (fun z => decide (z.ses ≠ 0))).length := by
  unfold cntK thereL
  rw [List.filter_map, List.length_map, List.filter_filter]
  congr 1
  refine List.filter_congr fun y _ => ?_
  unfold kx
  by_cases h : y.fate = 0 ∧ y.c.ses = 0
  · rw [if_pos h]; simp [h.2]
  · rw [if_neg h]
    by_cases q : y.fate = 0
    · have : y.c.ses ≠ 0 := fun e => h ⟨q, e⟩
      simp [q, this]
    · have : ¬ y.fate + 2 = 2 := by omega
      simp [q, this]
theorem nd_le {α : Type} [DecidableEq α] : ∀ {l1 l2 : List α}, l1.Nodup → (∀ a ∈ l1, a ∈ l2) → l1.length ≤ l2.length
  | [], _, _, _ => Nat.zero_le _
  | a :: l, l2, h, hs => by
    obtain ⟨h1, h2⟩ := List.nodup_cons.1 h
    have := nd_le (l1 := l) (l2 := l2.erase a) h2 (fun b hb => (List.mem_erase_of_ne (fun e => h1 (by rw [← e]; exact hb))).2 (hs b (List.mem_cons_of_mem _ hb)))
    have h3 := List.length_erase_of_mem (hs a (by simp))
    have h4 : 0 < l2.length := List.length_pos_of_mem (hs a (by simp))
    rw [List.length_cons]; omega
theorem nd_len {α : Type} [DecidableEq α] {l1 l2 : List α} (h1 : l1.Nodup) (h2 : l2.Nodup) (hs : ∀ a, a ∈ l1 ↔ a ∈ l2) : l1.length = l2.length :=
  Nat.le_antisymm (nd_le h1 (fun a ha => (hs a).1 ha)) (nd_le h2 (fun a ha => (hs a).2 ha))
theorem leased_len (ok : okC s) (O : Ord s) : s.E2.length = (s.L.filter (fun z => decide (z.ses ≠ 0))).length := by
  have e : ((s.L.filter (fun z => decide (z.ses ≠ 0))).map (fun z => (((z.num : Int), (z.dl : Int)) : E))).length = (s.L.filter (fun z => decide (z.ses ≠ 0))).length := List.length_map ..
  rw [← e]
  refine nd_len ?_ ?_ fun a => ?_
  · have := O.n2
    unfold keys at this
    exact (List.pairwise_map.1 this).imp (fun h e => h (congrArg _ e))
  · have h1 : ((s.L.filter (fun z => decide (z.ses ≠ 0))).map Cp.num).Nodup := List.Pairwise.sublist (List.Sublist.map _ List.filter_sublist) O.nd
    exact List.pairwise_map.2 ((List.pairwise_map.1 h1).imp (fun h e => h (Int.ofNat.inj (congrArg Prod.fst e))))
  · rw [ok.e2, List.mem_map]
    constructor
    · rintro ⟨z, hz, hs, rfl⟩; exact ⟨z, List.mem_filter.2 ⟨hz, decide_eq_true hs⟩, rfl⟩
    · rintro ⟨z, hz, rfl⟩
      obtain ⟨h1, h2⟩ := List.mem_filter.1 hz
      exact ⟨z, h1, of_decide_eq_true h2, rfl⟩
theorem Rel.counts (r : Rel s Ls) (ok : okC s) (O : Ord s) : (s.next : Int) - 1 = ((Ls.length : Nat) : Int) ∧ (s.L.length : Int) - (s.E2.length : Int) = (cntK Ls 1 : Int) ∧ (s.E2.length : Int) = (cntK Ls 2 : Int) ∧ (s.acked : Int) = (cntK Ls 3 : Int) ∧ (s.over : Int) = (cntK Ls 4 : Int) ∧ (s.gone : Int) = (cntK Ls 5 : Int) := by
  have h2 : s.E2.length = cntK Ls 2 := by rw [cntK_leased, ← r.there]; exact leased_len ok O
  have h3 : ∀ L : List Cp, (L.filter (fun z => decide (z.ses = 0))).length + (L.filter (fun z => decide (z.ses ≠ 0))).length = L.length := fun L => by
    induction L with
    | nil => rfl
    | cons a l ih =>
      rw [List.filter_cons, List.filter_cons]
      by_cases q : a.ses = 0
      · rw [if_pos (by simpa using q), if_neg (by simpa using q), List.length_cons, List.length_cons]; omega
      · rw [if_neg (by simpa using q), if_pos (by simpa using q), List.length_cons, List.length_cons]; omega
  have h4 := h3 s.L
  have h5 : cntK Ls 1 = (s.L.filter (fun z => decide (z.ses = 0))).length := by rw [cntK_ready, ← r.there]
  have h6 : cntK Ls 2 = (s.L.filter (fun z => decide (z.ses ≠ 0))).length := by rw [cntK_leased, ← r.there]
  have h7 := r.next
  have h8 : s.acked = cntK Ls 3 := by rw [r.acked]; exact (cntK_fate Ls 1 (by omega)).symm
  have h9 : s.over = cntK Ls 4 := by rw [r.over]; exact (cntK_fate Ls 2 (by omega)).symm
  have h10 : s.gone = cntK Ls 5 := by rw [r.gone]; exact (cntK_fate Ls 3 (by omega)).symm
  exact ⟨by omega, by omega, by omega, by omega, by omega, by omega⟩
theorem Rel.head (r : Rel s Ls) : headR Ls = headC s := by
  unfold headR headC
  have h1 := cntK_fate Ls 1 (by omega)
  have h2 := cntK_fate Ls 2 (by omega)
  have h3 := cntK_fate Ls 3 (by omega)
  have h4 : (Ls.filter (fun y => decide (y.fate = 0))).length = s.L.length := by rw [r.there]; unfold thereL; rw [List.length_map]
  rw [h4, h1, h2, h3, r.next, r.acked, r.over, r.gone]
  simp
theorem Rel.recs (r : Rel s Ls) : headR Ls :: (thereL Ls).map recC = recsC s := by
  unfold recsC
  rw [r.head, r.there]
/-! ### of an endpoint -/
theorem Rel.of (r : Rel s Ls) (e : Ev) : ofL s.L e = (Ls.filter (isE e)).map RC.c := by
  unfold ofL
  rw [r.there]
  unfold thereL
  rw [List.filter_map, List.filter_filter]
  congr 1
  refine List.filter_congr fun y _ => ?_
  unfold isE
  rw [Bool.and_comm]; rfl
theorem Rel.cnt (r : Rel s Ls) (e : Ev) : cntE Ls e false = (ofL s.L e).length := by
  rw [r.of, List.length_map]
  unfold cntE
  congr 1
  refine List.filter_congr fun y _ => ?_
  simp
theorem Rel.ready (r : Rel s Ls) (e : Ev) : cntE Ls e true = readyN s.L e := by
  unfold readyN
  rw [r.of, List.filter_map, List.length_map, List.filter_filter]
  unfold cntE
  congr 1
  refine List.filter_congr fun y _ => ?_
  simp [Bool.and_comm]
theorem may_eq (e : Ev) (n till : Nat) : Cps.mayC e n (till : Int) = Rcp.mayC e n till := by
  unfold Cps.mayC Rcp.mayC
  have h1 : decide (¬ kindE e < 1) = (rightE e && !decide (e = Ev.zero)) := by
    rw [Bool.eq_iff_iff]
    simp only [decide_eq_true_eq, Bool.and_eq_true, Bool.not_eq_true', decide_eq_false_iff_not]
    rw [kind_lt]; simp
  have h2 : decide ((till : Int) ≤ 1099511627776) = decide (till ≤ 1099511627776) := decide_eq_decide.2 ⟨by omega, by omega⟩
  have h3 : decide (1 ≤ n) = decide (0 < n) := decide_eq_decide.2 ⟨by omega, by omega⟩
  rw [h1, h2, h3, Bool.and_assoc]
theorem Rel.addE (r : Rel s Ls) (e : Ev) (d : List UInt8) (till : Nat) : Cps.addE s e d till = Rcp.addE Ls e d.length till := by
  unfold Cps.addE Rcp.addE
  rw [may_eq, r.cnt]
  cases Rcp.mayC e d.length till <;> simp
theorem cntF_app (A B : List RC) (f : Nat) : cntF (A ++ B) f = cntF A f + cntF B f := by unfold cntF; rw [List.filter_append, List.length_append]
theorem there_app (A B : List RC) : thereL (A ++ B) = thereL A ++ thereL B := by unfold thereL; rw [List.filter_append, List.map_append]
theorem Rel.add (r : Rel s Ls) (e : Ev) (d : List UInt8) (till : Nat) (h0 : Cps.addE s e d till = 0) : Rel (addF s e d till) (Ls ++ [⟨⟨Ls.length + 1, e, d, till, 0, 0⟩, 0⟩]) ∧ addN s e d till = (Ls.length : Int) + 1 := by
  have hn := r.next
  refine ⟨?_, by unfold addN; rw [if_pos h0]; omega⟩
  unfold addF
  rw [if_pos h0]
  refine ⟨?_, ?_, ?_, ?_, ?_, ?_, ?_⟩
  · show s.L ++ [_] = _
    rw [there_app, ← r.there, r.next]; rfl
  · show s.next + 1 = _
    rw [List.length_append, r.next]; rfl
  · show s.acked = _
    rw [cntF_app, r.acked]; simp [cntF, List.filter_cons]
  · show s.over = _
    rw [cntF_app, r.over]; simp [cntF, List.filter_cons]
  · show s.gone = _
    rw [cntF_app, r.gone]; simp [cntF, List.filter_cons]
  · intro y hy
    rcases List.mem_append.1 hy with hy | hy
    · exact r.fates y hy
    · obtain rfl := List.mem_singleton.1 hy
      exact Nat.zero_le _
  · intro i y hy
    by_cases hi : i < Ls.length
    · rw [List.getElem?_append_left hi] at hy
      exact r.nums i y hy
    · rw [List.getElem?_append_right (by omega)] at hy
      have : i - Ls.length = 0 := by
        have := (List.getElem?_eq_some_iff.1 hy).1
        simp at this
        omega
      rw [this] at hy
      simp at hy
      subst hy
      show Ls.length + 1 = i + 1
      omega
/-! ### one of them changes -/
theorem set_self (hy : Ls[i]? = some y) : Ls.set i y = Ls := by
  apply List.ext_getElem?
  intro j
  rw [List.getElem?_set]
  split
  · rename_i ej
    subst ej
    rw [if_pos (List.getElem?_eq_some_iff.1 hy).1, hy]
  · rfl
theorem set_split (hy : Ls[i]? = some y) (y' : RC) : Ls.set i y' = Ls.take i ++ (y' :: Ls.drop (i + 1)) := by
  rw [List.set_eq_take_append_cons_drop, if_pos (List.getElem?_eq_some_iff.1 hy).1]
theorem self_split (hy : Ls[i]? = some y) : Ls = Ls.take i ++ (y :: Ls.drop (i + 1)) := by
  have := set_split hy y
  rw [set_self hy] at this
  exact this
theorem Rel.num_take (r : Rel s Ls) {z : Cp} (hz : z ∈ thereL (Ls.take i)) : z.num ≠ i + 1 := by
  unfold thereL at hz
  obtain ⟨y, hy, rfl⟩ := List.mem_map.1 hz
  obtain ⟨j, hj⟩ := List.getElem?_of_mem (List.mem_filter.1 hy).1
  rw [List.getElem?_take] at hj
  split at hj
  · have := r.nums j y hj; omega
  · cases hj
theorem Rel.num_drop (r : Rel s Ls) {z : Cp} (hz : z ∈ thereL (Ls.drop (i + 1))) : z.num ≠ i + 1 := by
  unfold thereL at hz
  obtain ⟨y, hy, rfl⟩ := List.mem_map.1 hz
  obtain ⟨j, hj⟩ := List.getElem?_of_mem (List.mem_filter.1 hy).1
  rw [List.getElem?_drop] at hj
  have := r.nums _ y hj; omega
theorem there_cons (y : RC) (L : List RC) : thereL (y :: L) = (if y.fate = 0 then [y.c] else []) ++ thereL L := by
  unfold thereL
  rw [List.filter_cons]
  by_cases h : y.fate = 0 <;> simp [h]
theorem Rel.there_keep (r : Rel s Ls) (hy : Ls[i]? = some y) (hf : y.fate = 0) (hf' : y'.fate = 0) : thereL (Ls.set i y') = s.L.map (fun z => if z.num = i + 1 then y'.c else z) := by
  rw [r.there, set_split hy, there_app, there_cons, if_pos hf']
  conv => rhs; rw [self_split hy, there_app, there_cons, if_pos hf, List.map_append, List.map_append]
  have h1 : (thereL (Ls.take i)).map (fun z => if z.num = i + 1 then y'.c else z) = thereL (Ls.take i) := by
    conv => rhs; rw [← List.map_id (thereL (Ls.take i))]
    exact List.map_congr_left fun z hz => by rw [if_neg (r.num_take hz)]; rfl
  have h2 : (thereL (Ls.drop (i + 1))).map (fun z => if z.num = i + 1 then y'.c else z) = thereL (Ls.drop (i + 1)) := by
    conv => rhs; rw [← List.map_id (thereL (Ls.drop (i + 1)))]
    exact List.map_congr_left fun z hz => by rw [if_neg (r.num_drop hz)]; rfl
  rw [h1, h2]
  have h3 : [y.c].map (fun z => if z.num = i + 1 then y'.c else z) = [y'.c] := by rw [List.map_cons, if_pos (r.nums i y hy)]; rfl
  rw [h3]
theorem Rel.there_drop (r : Rel s Ls) (hy : Ls[i]? = some y) (hf : y.fate = 0) (hf' : y'.fate ≠ 0) : thereL (Ls.set i y') = delL s.L ((i : Int) + 1) := by
  unfold delL
  rw [r.there, set_split hy, there_app, there_cons, if_neg hf']
  conv => rhs; rw [self_split hy, there_app, there_cons, if_pos hf, List.filter_append, List.filter_append]
  have e : ∀ z : Cp, decide ((z.num : Int) = (i : Int) + 1) = decide (z.num = i + 1) := fun z => decide_eq_decide.2 ⟨by omega, by omega⟩
  simp only [e]
  have h1 : (thereL (Ls.take i)).filter (fun z => !decide (z.num = i + 1)) = thereL (Ls.take i) := List.filter_eq_self.2 fun z hz => by simp [r.num_take hz]
  have h2 : (thereL (Ls.drop (i + 1))).filter (fun z => !decide (z.num = i + 1)) = thereL (Ls.drop (i + 1)) := List.filter_eq_self.2 fun z hz => by simp [r.num_drop hz]
  rw [h1, h2]
  have h3 : [y.c].filter (fun z => !decide (z.num = i + 1)) = [] := by rw [List.filter_cons, if_neg (by simp [r.nums i y hy])]; rfl
  rw [h3]
theorem cntF_set (hy : Ls[i]? = some y) (y' : RC) (f : Nat) : cntF (Ls.set i y') f + (if y.fate = f then 1 else 0) = cntF Ls f + (if y'.fate = f then 1 else 0) := by
  rw [set_split hy]
  conv => rhs; rw [self_split hy]
  rw [cntF_app, cntF_app]
  have e : ∀ (z : RC) (L : List RC), cntF (z :: L) f = (if z.fate = f then 1 else 0) + cntF L f := fun z L => by
    unfold cntF
    rw [List.filter_cons]
    by_cases q : z.fate = f
    · simp [q]; omega
    · simp [q]
  rw [e, e]; omega
theorem Rel.nums_set (r : Rel s Ls) (hy : Ls[i]? = some y) (hn : y'.c.num = y.c.num) (j : Nat) (z : RC) (hz : (Ls.set i y')[j]? = some z) : z.c.num = j + 1 := by
  rw [List.getElem?_set] at hz
  split at hz
  · rename_i e
    subst e
    split at hz
    · obtain rfl := Option.some.inj hz
      rw [hn]; exact r.nums i y hy
    · cases hz
  · exact r.nums j z hz
theorem Rel.fates_set (r : Rel s Ls) (h3 : y'.fate ≤ 3) (z : RC) (hz : z ∈ Ls.set i y') : z.fate ≤ 3 := by
  rcases List.mem_or_eq_of_mem_set hz with hz | rfl
  · exact r.fates z hz
  · exact h3
theorem Rel.keep {s' : CF} (r : Rel s Ls) (hy : Ls[i]? = some y) (hf : y.fate = 0) (hf' : y'.fate = 0) (hn : y'.c.num = y.c.num) (hL : s'.L = s.L.map (fun z => if z.num = i + 1 then y'.c else z)) (h1 : s'.next = s.next) (h2 : s'.acked = s.acked) (h3 : s'.over = s.over) (h4 : s'.gone = s.gone) : Rel s' (Ls.set i y') := by
  have c : ∀ f, cntF (Ls.set i y') f = cntF Ls f := fun f => by have := cntF_set hy y' f; rw [hf, hf'] at this; omega
  exact ⟨by rw [r.there_keep hy hf hf']; exact hL, by rw [h1, List.length_set]; exact r.next, by rw [h2, c]; exact r.acked, by rw [h3, c]; exact r.over, by rw [h4, c]; exact r.gone, r.fates_set (by omega), fun j z => r.nums_set hy hn j z⟩
/-! ### leases -/
theorem find_at {P : RC → Bool} : ∀ {Ls : List RC} {i : Nat} {y : RC}, Ls[i]? = some y → P y = true → (∀ j z, j < i → Ls[j]? = some z → P z = false) → Ls.find? P = some y
  | [], i, y, h, _, _ => by simp at h
  | x :: l, 0, y, h, hp, _ => by simp at h; subst h; rw [List.find?_cons, hp]
  | x :: l, i + 1, y, h, hp, hn => by
    rw [List.find?_cons, hn 0 x (by omega) rfl]
    exact find_at (i := i) (by simpa using h) hp (fun j z hj hz => hn (j + 1) z (by omega) (by simpa using hz))
theorem Rel.leaseC (r : Rel s Ls) (e : Ev) : leaseC s.L e = (Ls.find? (fun y => isE e y && decide (y.c.ses = 0))).map RC.c := by
  unfold Cps.leaseC
  rw [r.of, List.find?_map, List.find?_filter]
  congr 1
  congr 1
  funext y
  rw [Bool.eq_iff_iff]
  simp
theorem Rel.lease0 (r : Rel s Ls) {e : Ev} (hno : ∀ z ∈ Ls, isE e z = true → z.c.ses ≠ 0) : Cps.leaseC s.L e = none := by
  rw [r.leaseC, Option.map_eq_none_iff, List.find?_eq_none]
  intro z hz
  simp only [Bool.and_eq_true, decide_eq_true_eq]
  exact fun ⟨h1, h2⟩ => hno z hz h1 h2
theorem Rel.lease (r : Rel s Ls) {e : Ev} (hy : Ls[i]? = some y) (hi : isE e y = true) (hs : y.c.ses = 0) (hmin : ∀ j z, j < i → Ls[j]? = some z → isE e z = true → z.c.ses ≠ 0) (ses : Int) (dl : Nat) :
    Cps.leaseC s.L e = some y.c ∧ Rel (leaseF s y.c ses dl) (Ls.set i ⟨{ y.c with ses := ses, dl := dl }, y.fate⟩) := by
  have hf : y.fate = 0 := by unfold isE at hi; simp only [Bool.and_eq_true, decide_eq_true_eq] at hi; exact hi.1
  refine ⟨?_, ?_⟩
  · rw [r.leaseC, find_at hy (by rw [hi, decide_eq_true hs]; rfl) (fun j z hj hz => ?_)]
    · rfl
    · cases q : isE e z with
      | false => rfl
      | true => rw [decide_eq_false (hmin j z hj hz q)]; rfl
  · refine r.keep hy hf hf rfl ?_ rfl rfl rfl rfl
    show setC s.L y.c.num ses dl = _
    unfold setC
    refine List.map_congr_left fun z hz => ?_
    rw [r.nums i y hy]
    by_cases q : z.num = i + 1
    · rw [if_pos q, if_pos q]
      obtain ⟨j, w, hj, _, rfl⟩ := r.mem.1 hz
      have := r.nums j w hj
      obtain rfl : j = i := by omega
      rw [hy] at hj
      obtain rfl := Option.some.inj hj
      rfl
    · rw [if_neg q, if_neg q]
theorem Rel.get1 (r : Rel s Ls) {num : Int} (hn : num = (i : Int) + 1) (hy : Ls[i]? = some y) (hf : y.fate = 0) : getC s.L num = some y.c := by
  cases hg : getC s.L num with
  | none => exact absurd (by rw [r.nums i y hy]; omega) (getC_none.1 hg y.c (r.mem.2 ⟨i, y, hy, hf, rfl⟩))
  | some z =>
    obtain ⟨h1, h2⟩ := getC_some hg
    obtain ⟨j, w, hj, _, rfl⟩ := r.mem.1 h1
    have := r.nums j w hj
    obtain rfl : j = i := by omega
    rw [hy] at hj
    obtain rfl := Option.some.inj hj
    rfl
theorem Rel.get0 (r : Rel s Ls) {num : Int} (h : ∀ (i : Nat) y, num = (i : Int) + 1 → Ls[i]? = some y → y.fate ≠ 0) : getC s.L num = none := by
  rw [getC_none]
  intro z hz e
  obtain ⟨j, w, hj, hf, rfl⟩ := r.mem.1 hz
  have := r.nums j w hj
  exact h j w (by omega) hj hf
theorem Rel.find0 (r : Rel s Ls) {num ses : Int} (h : ∀ (i : Nat) y, num = (i : Int) + 1 → Ls[i]? = some y → y.fate ≠ 0) : findE s.L num ses = 4 := by
  unfold findE; rw [r.get0 h]
theorem Rel.find14 (r : Rel s Ls) {num ses : Int} (hn : num = (i : Int) + 1) (hy : Ls[i]? = some y) (hf : y.fate = 0) (hs : y.c.ses = 0 ∨ y.c.ses ≠ ses) : findE s.L num ses = 14 := by
  unfold findE; rw [r.get1 hn hy hf]; exact if_pos hs
theorem Rel.find1 (r : Rel s Ls) {num ses : Int} (hn : num = (i : Int) + 1) (hy : Ls[i]? = some y) (hf : y.fate = 0) (h1 : y.c.ses ≠ 0) (h2 : y.c.ses = ses) : findE s.L num ses = 0 := by
  unfold findE; rw [r.get1 hn hy hf]; exact if_neg (fun hh => hh.elim h1 (fun h3 => h3 h2))
theorem Rel.release (r : Rel s Ls) {num ses : Int} (hn : num = (i : Int) + 1) (hy : Ls[i]? = some y) (hf : y.fate = 0) (h1 : y.c.ses ≠ 0) (h2 : y.c.ses = ses) : Rel (relF s num ses) (Ls.set i ⟨{ y.c with ses := 0, dl := 0 }, 0⟩) := by
  unfold relF
  rw [if_pos (r.find1 hn hy hf h1 h2)]
  refine r.keep hy hf rfl rfl ?_ rfl rfl rfl rfl
  show setC s.L num.toNat 0 0 = _
  unfold setC
  have e : num.toNat = i + 1 := by omega
  rw [e]
  refine List.map_congr_left fun z hz => ?_
  by_cases q : z.num = i + 1
  · rw [if_pos q, if_pos q]
    obtain ⟨j, w, hj, _, rfl⟩ := r.mem.1 hz
    have := r.nums j w hj
    obtain rfl : j = i := by omega
    rw [hy] at hj
    obtain rfl := Option.some.inj hj
    rfl
  · rw [if_neg q, if_neg q]
theorem Rel.ack (r : Rel s Ls) {num ses : Int} (hn : num = (i : Int) + 1) (hy : Ls[i]? = some y) (hf : y.fate = 0) (h1 : y.c.ses ≠ 0) (h2 : y.c.ses = ses) : Rel (ackF s num ses) (Ls.set i ⟨{ y.c with ses := 0, dl := 0 }, 1⟩) := by
  unfold ackF
  rw [if_pos (r.find1 hn hy hf h1 h2)]
  have c : ∀ f, cntF (Ls.set i (⟨{ y.c with ses := 0, dl := 0 }, 1⟩ : RC)) f + (if 0 = f then 1 else 0) = cntF Ls f + (if 1 = f then 1 else 0) := fun f => by have := cntF_set hy (⟨{ y.c with ses := 0, dl := 0 }, 1⟩ : RC) f; rw [hf] at this; exact this
  have c1 := c 1
  have c2 := c 2
  have c3 := c 3
  simp at c1 c2 c3
  refine ⟨?_, by rw [List.length_set]; exact r.next, ?_, ?_, ?_, r.fates_set (by show 1 ≤ 3; omega), fun j z => r.nums_set (y' := ⟨{ y.c with ses := 0, dl := 0 }, 1⟩) hy rfl j z⟩
  · show delL s.L num = _
    rw [r.there_drop hy hf (by show (1 : Nat) ≠ 0; omega), hn]
  · show s.acked + 1 = _
    rw [c1, r.acked]
  · show s.over = _
    rw [c2, r.over]
  · show s.gone = _
    rw [c3, r.gone]
/-! ### many go -/
theorem sorted_ext : ∀ {l l' : List E}, Sorted l → Sorted l' → (∀ e, e ∈ l ↔ e ∈ l') → l = l'
  | [], [], _, _, _ => rfl
  | [], a :: _, _, _, hm => by have := (hm a).2 (by simp); cases this
  | a :: _, [], _, _, hm => by have := (hm a).1 (by simp); cases this
  | a :: l, b :: l', h, h', hm => by
    obtain ⟨h1, h2⟩ := List.pairwise_cons.1 h
    obtain ⟨g1, g2⟩ := List.pairwise_cons.1 h'
    have e : a = b := by
      rcases List.mem_cons.1 ((hm a).1 (by simp)) with e | e
      · exact e
      · rcases List.mem_cons.1 ((hm b).2 (by simp)) with e2 | e2
        · exact e2.symm
        · exact absurd (Heapq.lt_trans (h1 b e2) (g1 a e)) (Heapq.lt_irrefl a)
    subst e
    rw [sorted_ext h2 g2 fun x => ⟨fun hx => ?_, fun hx => ?_⟩]
    · rcases List.mem_cons.1 ((hm x).1 (List.mem_cons_of_mem _ hx)) with e | e
      · subst e; exact absurd (h1 x hx) (Heapq.lt_irrefl x)
      · exact e
    · rcases List.mem_cons.1 ((hm x).2 (List.mem_cons_of_mem _ hx)) with e | e
      · subst e; exact absurd (g1 x hx) (Heapq.lt_irrefl x)
      · exact e
theorem Rel.due (r : Rel s Ls) (ok : okC s) (O : Ord s) {now : Nat} {ms : List Nat} (hm : ∀ i, i ∈ ms ↔ ∃ y, Ls[i]? = some y ∧ dueR (now : Int) y) (hs : (ms.map (kvR Ls)).Pairwise Heapq.lt) : Alarm.due s.E1 (now : Int) = ms.map (kvR Ls) := by
  have so : Sorted (Alarm.due s.E1 (now : Int)) := by rw [(sorted_split O.o1).1]; exact List.Pairwise.filter _ O.o1
  refine sorted_ext so hs fun e => ?_
  rw [due_mem O, List.mem_map, ok.e1]
  constructor
  · rintro ⟨⟨z, hz, rfl⟩, ht⟩
    obtain ⟨i, y, hi, hf, rfl⟩ := r.mem.1 hz
    refine ⟨i, (hm i).2 ⟨y, hi, hf, ht⟩, ?_⟩
    unfold kvR
    rw [hi, r.nums i y hi]; rfl
  · rintro ⟨i, hi, rfl⟩
    obtain ⟨y, hy, hf, ht⟩ := (hm i).1 hi
    unfold kvR
    rw [hy]
    exact ⟨⟨y.c, r.mem.2 ⟨i, y, hy, hf, rfl⟩, by rw [r.nums i y hy]; rfl⟩, ht⟩
theorem Rel.keysEq (r : Rel s Ls) (ok : okC s) (O : Ord s) {now : Nat} {ms : List Nat} (hm : ∀ i, i ∈ ms ↔ ∃ y, Ls[i]? = some y ∧ dueR (now : Int) y) (hs : (ms.map (kvR Ls)).Pairwise Heapq.lt) : keys (Alarm.due s.E1 (now : Int)) = ms.map (fun (i : Nat) => (i : Int) + 1) := by
  rw [r.due ok O hm hs]
  unfold keys
  rw [List.map_map]
  refine List.map_congr_left fun i _ => ?_
  show ((i + 1 : Nat) : Int) = _
  omega
def dueB (now : Nat) (y : RC) : Bool := decide (y.fate = 0) && decide ((y.c.till : Int) ≤ (now : Int))
def overM (now : Nat) (y : RC) : RC := if dueB now y = true then overC y else y
theorem over_map {now : Nat} {ms : List Nat} (hm : ∀ i, i ∈ ms ↔ ∃ y, Ls[i]? = some y ∧ dueR (now : Int) y) : overL Ls ms = Ls.map (overM now) := by
  apply List.ext_getElem?
  intro i
  rw [overL_at, List.getElem?_map]
  cases e : Ls[i]? with
  | none => rfl
  | some y =>
    simp only [Option.map_some, Option.some.injEq]
    unfold overM dueB
    by_cases hd : dueR (now : Int) y
    · rw [if_pos ((hm i).2 ⟨y, e, hd⟩), if_pos (by rw [decide_eq_true hd.1, decide_eq_true hd.2]; rfl)]
    · rw [if_neg, if_neg]
      · intro h
        rw [Bool.and_eq_true, decide_eq_true_eq, decide_eq_true_eq] at h
        exact hd h
      · intro h
        obtain ⟨y', e', hd'⟩ := (hm i).1 h
        rw [e] at e'
        exact hd (Option.some.inj e' ▸ hd')
theorem pass_there (now : Nat) : ∀ (Ls : List RC), (∀ y ∈ Ls, 0 ≤ y.c.ses) → thereL ((Ls.map (overM now)).map (freeR now)) = ((thereL Ls).filter (fun z => decide ((now : Int) < (z.till : Int)))).map (freeZ (now : Int))
  | [], _ => rfl
  | y :: L, hp => by
    have ih := pass_there now L (fun z hz => hp z (List.mem_cons_of_mem _ hz))
    have hy := hp y (by simp)
    rw [List.map_cons, List.map_cons, there_cons, there_cons, ih, List.filter_append, List.map_append]
    congr 1
    unfold overM dueB
    by_cases hf : y.fate = 0
    · rw [if_pos (c := y.fate = 0) hf]
      by_cases ht : (y.c.till : Int) ≤ (now : Int)
      · have h1 : (decide (y.fate = 0) && decide ((y.c.till : Int) ≤ (now : Int))) = true := by rw [decide_eq_true hf, decide_eq_true ht]; rfl
        rw [if_pos h1]
        have h2 : freeR now (overC y) = overC y := by unfold freeR; rw [if_neg (fun hh => by have : (2 : Nat) = 0 := hh.1; omega)]
        rw [h2, if_neg (show ¬ (overC y).fate = 0 by show ¬ (2 : Nat) = 0; omega), List.filter_cons, if_neg (by simpa using ht)]; rfl
      · have h1 : ¬ (decide (y.fate = 0) && decide ((y.c.till : Int) ≤ (now : Int))) = true := by rw [decide_eq_false ht]; simp
        have e1 : [y.c].filter (fun z => decide ((now : Int) < (z.till : Int))) = [y.c] := by rw [List.filter_cons, if_pos (by simp; omega)]; rfl
        rw [if_neg h1, e1]
        by_cases q : y.c.ses ≠ 0 ∧ (y.c.dl : Int) ≤ (now : Int)
        · have e2 : freeR now y = ⟨{ y.c with ses := 0, dl := 0 }, y.fate⟩ := if_pos ⟨hf, by omega, by omega⟩
          have e3 : freeZ (now : Int) y.c = { y.c with ses := 0, dl := 0 } := if_pos q
          rw [e2, if_pos (show (⟨{ y.c with ses := 0, dl := 0 }, y.fate⟩ : RC).fate = 0 from hf), List.map_cons, e3]; rfl
        · have e2 : freeR now y = y := if_neg (fun hh => q ⟨by omega, by omega⟩)
          have e3 : freeZ (now : Int) y.c = y.c := if_neg q
          rw [e2, if_pos hf, List.map_cons, e3]; rfl
    · have h1 : ¬ (decide (y.fate = 0) && decide ((y.c.till : Int) ≤ (now : Int))) = true := by rw [decide_eq_false hf]; simp
      rw [if_neg h1, if_neg (c := y.fate = 0) hf]
      have h2 : freeR now y = y := by unfold freeR; rw [if_neg (fun hh => hf hh.1)]
      rw [h2, if_neg hf]; rfl
theorem free_fate (now : Nat) (y : RC) : (freeR now y).fate = y.fate ∧ (freeR now y).c.num = y.c.num := by unfold freeR; split <;> exact ⟨rfl, rfl⟩
theorem pass_cnt (now f : Nat) (hf : f ≠ 0) : ∀ Ls : List RC, cntF ((Ls.map (overM now)).map (freeR now)) f = cntF Ls f + if f = 2 then (Ls.filter (dueB now)).length else 0
  | [] => by unfold cntF; simp
  | y :: L => by
    have ih := pass_cnt now f hf L
    unfold cntF at ih ⊢
    rw [List.map_cons, List.map_cons, List.filter_cons, List.filter_cons, List.filter_cons, (free_fate now _).1]
    by_cases hd : dueB now y = true
    · have h0 : y.fate = 0 := by unfold dueB at hd; simp only [Bool.and_eq_true, decide_eq_true_eq] at hd; exact hd.1
      have eo : overM now y = overC y := if_pos hd
      rw [eo, if_pos hd, if_neg (c := decide (y.fate = f) = true) (by simp; omega), List.length_cons]
      by_cases h2 : f = 2
      · subst h2
        rw [if_pos (by rfl), List.length_cons, ih]; simp; omega
      · have : ¬ (overC y).fate = f := fun e => h2 e.symm
        rw [if_neg (by simpa using this), ih, if_neg h2, if_neg h2]
    · have eo : overM now y = y := if_neg hd
      rw [eo, if_neg hd]
      split
      · rw [List.length_cons, List.length_cons, ih]; omega
      · exact ih
theorem due_len (now : Nat) (Ls : List RC) : (Ls.filter (dueB now)).length = ((thereL Ls).filter (fun z => decide ((z.till : Int) ≤ (now : Int)))).length := by
  unfold thereL
  rw [List.filter_map, List.length_map, List.filter_filter]
  congr 1
  refine List.filter_congr fun y _ => ?_
  unfold dueB
  rw [Bool.and_comm]; rfl
theorem Rel.pass (r : Rel s Ls) (ok : okC s) (O : Ord s) {now : Nat} {ms : List Nat} (hses : ∀ y ∈ Ls, 0 ≤ y.c.ses) (hm : ∀ i, i ∈ ms ↔ ∃ y, Ls[i]? = some y ∧ dueR (now : Int) y) (hs : (ms.map (kvR Ls)).Pairwise Heapq.lt) : Rel (passF s (now : Int)) ((overL Ls ms).map (freeR now)) := by
  obtain ⟨_, _, h3, _, _, h6, h7, h8, h9⟩ := pass_all2 ok O (now : Int)
  have hl : (Alarm.due s.E1 (now : Int)).length = (Ls.filter (dueB now)).length := by
    rw [r.due ok O hm hs, List.length_map]
    have e : ms.length = ((List.range Ls.length).filter (fun i => match Ls[i]? with | some y => dueB now y | none => false)).length := by
      refine nd_len ?_ (List.Pairwise.filter _ List.nodup_range) fun i => ?_
      · have := hs
        rw [List.pairwise_map] at this
        exact this.imp (fun h e => by subst e; exact Heapq.lt_irrefl _ h)
      · rw [hm, List.mem_filter, List.mem_range]
        constructor
        · rintro ⟨y, hy, h1, h2⟩
          refine ⟨(List.getElem?_eq_some_iff.1 hy).1, ?_⟩
          rw [hy]
          show dueB now y = true
          unfold dueB; rw [decide_eq_true h1, decide_eq_true h2]; rfl
        · rintro ⟨h1, h2⟩
          have hy : Ls[i]? = some Ls[i] := List.getElem?_eq_getElem h1
          rw [hy] at h2
          have h2 : dueB now Ls[i] = true := h2
          unfold dueB at h2
          simp only [Bool.and_eq_true, decide_eq_true_eq] at h2
          exact ⟨_, hy, h2⟩
    rw [e]
    have gen : ∀ (L : List RC) (P : RC → Bool), ((List.range L.length).filter (fun i => match L[i]? with | some y => P y | none => false)).length = (L.filter P).length := fun L P => by
      induction L with
      | nil => rfl
      | cons a l ih =>
        rw [List.length_cons, List.range_succ_eq_map, List.filter_cons, List.filter_map, List.filter_cons]
        have e2 : (l.length |> List.range).filter ((fun i => match (a :: l)[i]? with | some y => P y | none => false) ∘ Nat.succ) = (List.range l.length).filter (fun i => match l[i]? with | some y => P y | none => false) := List.filter_congr fun i _ => by simp
        have e2' : (List.range l.length).filter ((fun i => match (a :: l)[i]? with | some y => P y | none => false) ∘ Nat.succ) = (List.range l.length).filter (fun i => match l[i]? with | some y => P y | none => false) := e2
        rw [e2']
        have e3 : (match (a :: l)[0]? with | some y => P y | none => false) = P a := rfl
        rw [e3]
        cases hp : P a
        · simp only [Bool.false_eq_true, if_false, List.length_map]; exact ih
        · simp only [if_true, List.length_cons, List.length_map]; rw [ih]
    exact gen Ls (dueB now)
  rw [over_map hm]
  refine ⟨?_, ?_, ?_, ?_, ?_, ?_, ?_⟩
  · rw [h6, pass_there now Ls hses, r.there]
  · rw [h3, List.length_map, List.length_map]; exact r.next
  · rw [h7, pass_cnt now 1 (by omega), r.acked]; rfl
  · rw [h8, pass_cnt now 2 (by omega), r.over, hl]; rfl
  · rw [h9, pass_cnt now 3 (by omega), r.gone]; rfl
  · intro y hy
    obtain ⟨z, hz, rfl⟩ := List.mem_map.1 hy
    obtain ⟨w, hw, rfl⟩ := List.mem_map.1 hz
    rw [(free_fate now _).1]
    unfold overM
    split
    · show (2 : Nat) ≤ 3; omega
    · exact r.fates w hw
  · intro i y hy
    rw [List.getElem?_map, List.getElem?_map] at hy
    cases e : Ls[i]? with
    | none => rw [e] at hy; cases hy
    | some z =>
      rw [e] at hy
      obtain rfl := Option.some.inj hy
      rw [(free_fate now _).2]
      unfold overM
      split
      · exact r.nums i z e
      · exact r.nums i z e
/-! ### Drop -/
theorem Rel.places (r : Rel s Ls) (e : Ev) : ∀ k, k ≤ Ls.length → (ofL (thereL (Ls.take k)) e).map (fun z => (z.num : Int)) = (placesE Ls e k).map (fun (i : Nat) => (i : Int) + 1)
  | 0, _ => by simp [placesE, thereL, ofL]
  | k + 1, hk => by
    have ih := r.places e k (by omega)
    have hy : Ls[k]? = some Ls[k] := List.getElem?_eq_getElem (by omega)
    generalize Ls[k] = y at hy
    have pl : placesE Ls e (k + 1) = placesE Ls e k ++ if isE e y = true then [k] else [] := by
      unfold placesE
      rw [List.range_succ, List.filter_append]
      congr 1
      rw [List.filter_cons, hy]; rfl
    rw [pl, List.map_append, ← ih, List.take_add_one, hy, there_app]
    unfold ofL
    rw [List.filter_append, List.map_append]
    congr 1
    have e1 : (some y).toList = [y] := rfl
    rw [e1, there_cons]
    unfold isE
    by_cases h1 : y.fate = 0
    · by_cases h2 : y.c.e = e
      · simp [h1, h2, thereL, r.nums k y hy]
      · simp [h1, h2, thereL]
    · simp [h1, thereL]
theorem Rel.placesAll (r : Rel s Ls) (e : Ev) : (ofL s.L e).map (fun z => (z.num : Int)) = (placesE Ls e Ls.length).map (fun (i : Nat) => (i : Int) + 1) := by
  have := r.places e Ls.length (Nat.le_refl _)
  rw [List.take_length, ← r.there] at this
  exact this
theorem gone_there (e : Ev) : ∀ Ls : List RC, thereL (Ls.map (goneR e)) = (thereL Ls).filter (fun z => !decide (z.e = e))
  | [] => rfl
  | y :: L => by
    rw [List.map_cons, there_cons, there_cons, gone_there e L, List.filter_append]
    congr 1
    unfold goneR isE
    by_cases h1 : y.fate = 0
    · by_cases h2 : y.c.e = e
      · simp [h1, h2]
      · simp [h1, h2]
    · simp [h1]
theorem gone_cnt (e : Ev) (f : Nat) (hf : f ≠ 0) : ∀ Ls : List RC, cntF (Ls.map (goneR e)) f = cntF Ls f + if f = 3 then (Ls.filter (isE e)).length else 0
  | [] => by unfold cntF; simp
  | y :: L => by
    have ih := gone_cnt e f hf L
    unfold cntF at ih ⊢
    rw [List.map_cons, List.filter_cons, List.filter_cons, List.filter_cons]
    by_cases hd : isE e y = true
    · have h0 : y.fate = 0 := by unfold isE at hd; simp only [Bool.and_eq_true, decide_eq_true_eq] at hd; exact hd.1
      have eo : goneR e y = ⟨{ y.c with ses := 0, dl := 0 }, 3⟩ := if_pos hd
      rw [eo, if_pos hd, if_neg (c := decide (y.fate = f) = true) (by simp; omega), List.length_cons]
      by_cases h2 : f = 3
      · subst h2
        simp only [decide_true, if_true, List.length_cons] at ih ⊢
        have ih' : (List.filter (fun y => decide (y.fate = 3)) (List.map (goneR e) L)).length = _ := ih
        rw [ih']; omega
      · have : ¬ (3 : Nat) = f := fun e => h2 e.symm
        rw [if_neg (by simpa using this)]
        rw [if_neg h2] at ih ⊢
        exact ih
    · have eo : goneR e y = y := if_neg hd
      rw [eo, if_neg hd]
      split
      · rw [List.length_cons, List.length_cons]
        have ih' : (List.filter (fun y => decide (y.fate = f)) (List.map (goneR e) L)).length = _ := ih
        rw [ih']; omega
      · exact ih
theorem Rel.drop (r : Rel s Ls) (O : Ord s) (e : Ev) : Rel (dropF s e) (Ls.map (goneR e)) := by
  have hl : ((ofL s.L e).map (fun z => (z.num : Int))).length = (Ls.filter (isE e)).length := by rw [List.length_map, r.of, List.length_map]
  unfold dropF
  rw [fold_gone]
  refine ⟨?_, ?_, ?_, ?_, ?_, ?_, ?_⟩
  · show outC s.L _ = _
    rw [gone_there, ← r.there]
    unfold outC
    refine List.filter_congr fun z hz => ?_
    have := of_mem (x := e) O hz
    by_cases q : z.e = e
    · rw [decide_eq_true (this.2 q), decide_eq_true q]
    · rw [decide_eq_false (fun hh => q (this.1 hh)), decide_eq_false q]
  · show s.next = _
    rw [List.length_map]; exact r.next
  · show s.acked = _
    rw [gone_cnt e 1 (by omega), r.acked]; rfl
  · show s.over = _
    rw [gone_cnt e 2 (by omega), r.over]; rfl
  · show s.gone + _ = _
    rw [gone_cnt e 3 (by omega), r.gone, hl]; rfl
  · intro y hy
    obtain ⟨z, hz, rfl⟩ := List.mem_map.1 hy
    unfold goneR
    split
    · show (3 : Nat) ≤ 3; omega
    · exact r.fates z hz
  · intro i y hy
    rw [List.getElem?_map] at hy
    cases h : Ls[i]? with
    | none => rw [h] at hy; cases hy
    | some z =>
      rw [h] at hy
      obtain rfl := Option.some.inj hy
      unfold goneR
      split
      · exact r.nums i z h
      · exact r.nums i z h
end Rcp
end Go.Proofs.YtgccegnmggjkjaaGreatDoor

/-
  Printed by a program of this work (vc.py): the verification conditions of functions, and that each is enough for the call. No condition.
-/
set_option maxRecDepth 100000
set_option maxHeartbeats 4000000
namespace Go.Proofs.YtgccegnmggjkjaaGreatDoor
open Go.Den
def law21_home.vc  (h : Heap) (R : Value → Heap → Prop) : Prop :=
  NewP h (.cells #[.bool false, .int .u64 0, .int .u64 0, .string (⟨#[]⟩ : ByteArray), .string (⟨#[]⟩ : ByteArray)] T.eid_Eid) fun b h_1 =>
  eid_Eid.ST h_1 ⟨b, 0, none⟩ true 7 1 (⟨#[]⟩ : ByteArray) (⟨#[]⟩ : ByteArray) fun h_2 =>
  eid_Eid.LD h_2 ⟨b, 0, none⟩ fun r_0 r_1 r_2 r_3 r_4 =>
  R (.agg #[.bool r_0, .int .u64 r_1, .int .u64 r_2, .string r_3, .string r_4]) h_2
theorem law21_home.den_eq  (h : Heap) (R : Value → Heap → Prop) : law21_home.vc h R = den Tryz.prog Tryz.f18.ntmps (.seq .leaf (.seq .leaf .leaf)) none (bodyOf Tryz.f18) (retK Tryz.prog Tryz.f18.results R) (argEnv []) h := by kernel_rfl
theorem law21_home.walk  {h : Heap} {R : Value → Heap → Prop} (hv : law21_home.vc h R) : CallsH Tryz.prog F.law21_home #[] h R :=
  callsH_of_body _ Tryz.func18 rfl rfl (Eq.mp (law21_home.den_eq h R) hv)

def law21_Great.vc (o_0 : Int) (o_1 : Int) (o_2 : Int) (o_3 : Bool) (o_4 : Int) (o_5 : Int) (o_6 : ByteArray) (o_7 : ByteArray) (o_8_p : Option Addr) (o_8_l o_8_c : Nat) (o_9 : Int) (h : Heap) (R : Value → Heap → Prop) : Prop :=
  NewP h (.cells #[.int .i64 o_0, .int .i64 o_1, .int .i64 o_2, .bool o_3, .int .u64 o_4, .int .u64 o_5, .string o_6, .string o_7, .slice o_8_p o_8_l o_8_c, .int .u64 o_9] T.law21_Op) fun b h_1 =>
  ∃ (t4_p : Option Addr) (t4_l t4_c : Nat), hcell h_1 ⟨b, 8, none⟩ = some (.slice t4_p t4_l t4_c) ∧
  if (decide (((t4_l : Nat) : Int) > 700)) = true then
    R (.bool true) h_1
  else
    ∃ (t10 : ByteArray), hcell h_1 ⟨b, 6, none⟩ = some (.string t10) ∧
    ∃ (t14 : ByteArray), hcell h_1 ⟨b, 7, none⟩ = some (.string t14) ∧
    R (.bool (decide ((IntKind.wrap .i64 (((t10.size : Nat) : Int) + ((t14.size : Nat) : Int))) > 300))) h_1
theorem law21_Great.den_eq (o_0 : Int) (o_1 : Int) (o_2 : Int) (o_3 : Bool) (o_4 : Int) (o_5 : Int) (o_6 : ByteArray) (o_7 : ByteArray) (o_8_p : Option Addr) (o_8_l o_8_c : Nat) (o_9 : Int) (h : Heap) (R : Value → Heap → Prop) : law21_Great.vc o_0 o_1 o_2 o_3 o_4 o_5 o_6 o_7 o_8_p o_8_l o_8_c o_9 h R = den Tryz.prog Tryz.f11.ntmps (.seq .leaf (.seq .leaf .leaf)) none (bodyOf Tryz.f11) (retK Tryz.prog Tryz.f11.results R) (argEnv [.agg #[.int .i64 o_0, .int .i64 o_1, .int .i64 o_2, .bool o_3, .int .u64 o_4, .int .u64 o_5, .string o_6, .string o_7, .slice o_8_p o_8_l o_8_c, .int .u64 o_9]]) h := by kernel_rfl
theorem law21_Great.walk {o_0 : Int} {o_1 : Int} {o_2 : Int} {o_3 : Bool} {o_4 : Int} {o_5 : Int} {o_6 : ByteArray} {o_7 : ByteArray} {o_8_p : Option Addr} {o_8_l o_8_c : Nat} {o_9 : Int} {h : Heap} {R : Value → Heap → Prop} (hv : law21_Great.vc o_0 o_1 o_2 o_3 o_4 o_5 o_6 o_7 o_8_p o_8_l o_8_c o_9 h R) : CallsH Tryz.prog F.law21_Great #[.agg #[.int .i64 o_0, .int .i64 o_1, .int .i64 o_2, .bool o_3, .int .u64 o_4, .int .u64 o_5, .string o_6, .string o_7, .slice o_8_p o_8_l o_8_c, .int .u64 o_9]] h R :=
  callsH_of_body _ Tryz.func11 rfl rfl (Eq.mp (law21_Great.den_eq o_0 o_1 o_2 o_3 o_4 o_5 o_6 o_7 o_8_p o_8_l o_8_c o_9 h R) hv)

def law21_alive.vc  (h : Heap) (R : Value → Heap → Prop) : Prop :=
  CallsH Tryz.prog F.copies_New #[] h fun v h_1 =>
  ∃ (t12 : Option Addr), v = .pointer t12 ∧
  CallsH Tryz.prog F.law21_home #[] h_1 fun v_1 h_2 =>
  ∃ (t15_0 : Bool), ∃ (t15_1 : Int), ∃ (t15_2 : Int), ∃ (t15_3 : ByteArray), ∃ (t15_4 : ByteArray), v_1 = .agg #[.bool t15_0, .int .u64 t15_1, .int .u64 t15_2, .string t15_3, .string t15_4] ∧
  NewP h_2 (.cells #[.int .u8 97] T.uint8) fun b h_3 =>
  denSem Tryz.prog (convert T.s_uint8 T.s_uint8 (.slice (some ⟨b, 0, none⟩) 1 1)) h_3 fun v_2 h_4 =>
  ∃ (t17_p : Option Addr) (t17_l t17_c : Nat), v_2 = .slice t17_p t17_l t17_c ∧
  CallsH Tryz.prog F.copies_Table_Add #[.pointer t12, .agg #[.bool t15_0, .int .u64 t15_1, .int .u64 t15_2, .string t15_3, .string t15_4], .slice t17_p t17_l t17_c, .int .u64 50] h_4 fun v_3 h_5 =>
  ∃ (t18_0 : Int), ∃ (t18_1 : Int), v_3 = .tuple #[.int .i64 t18_0, .int .i64 t18_1] ∧
  CallsH Tryz.prog F.law21_home #[] h_5 fun v_4 h_6 =>
  ∃ (t22_0 : Bool), ∃ (t22_1 : Int), ∃ (t22_2 : Int), ∃ (t22_3 : ByteArray), ∃ (t22_4 : ByteArray), v_4 = .agg #[.bool t22_0, .int .u64 t22_1, .int .u64 t22_2, .string t22_3, .string t22_4] ∧
  NewP h_6 (.cells #[.int .u8 98] T.uint8) fun b_1 h_7 =>
  denSem Tryz.prog (convert T.s_uint8 T.s_uint8 (.slice (some ⟨b_1, 0, none⟩) 1 1)) h_7 fun v_5 h_8 =>
  ∃ (t24_p : Option Addr) (t24_l t24_c : Nat), v_5 = .slice t24_p t24_l t24_c ∧
  CallsH Tryz.prog F.copies_Table_Add #[.pointer t12, .agg #[.bool t22_0, .int .u64 t22_1, .int .u64 t22_2, .string t22_3, .string t22_4], .slice t24_p t24_l t24_c, .int .u64 9] h_8 fun v_6 h_9 =>
  ∃ (t25_0 : Int), ∃ (t25_1 : Int), v_6 = .tuple #[.int .i64 t25_0, .int .i64 t25_1] ∧
  CallsH Tryz.prog F.law21_home #[] h_9 fun v_7 h_10 =>
  ∃ (t28_0 : Bool), ∃ (t28_1 : Int), ∃ (t28_2 : Int), ∃ (t28_3 : ByteArray), ∃ (t28_4 : ByteArray), v_7 = .agg #[.bool t28_0, .int .u64 t28_1, .int .u64 t28_2, .string t28_3, .string t28_4] ∧
  CallsH Tryz.prog F.copies_Table_Lease #[.pointer t12, .agg #[.bool t28_0, .int .u64 t28_1, .int .u64 t28_2, .string t28_3, .string t28_4], .int .i64 3, .int .u64 20] h_10 fun v_8 h_11 =>
  ∃ (t29_0_0 : Int), ∃ (t29_0_1 : Bool), ∃ (t29_0_2 : Int), ∃ (t29_0_3 : Int), ∃ (t29_0_4 : ByteArray), ∃ (t29_0_5 : ByteArray), ∃ (t29_0_6_p : Option Addr) (t29_0_6_l t29_0_6_c : Nat), ∃ (t29_0_7 : Int), ∃ (t29_0_8 : Int), ∃ (t29_0_9 : Int), ∃ (t29_1 : Int), v_8 = .tuple #[.agg #[.int .i64 t29_0_0, .bool t29_0_1, .int .u64 t29_0_2, .int .u64 t29_0_3, .string t29_0_4, .string t29_0_5, .slice t29_0_6_p t29_0_6_l t29_0_6_c, .int .u64 t29_0_7, .int .i64 t29_0_8, .int .u64 t29_0_9], .int .i64 t29_1] ∧
  NewP h_11 (.cells #[.int .i64 0, .bool false, .int .u64 0, .int .u64 0, .string (⟨#[]⟩ : ByteArray), .string (⟨#[]⟩ : ByteArray), .slice none 0 0, .int .u64 0, .int .i64 0, .int .u64 0] T.copies_Copy) fun b_2 h_12 =>
  copies_Copy.ST h_12 ⟨b_2, 0, none⟩ t29_0_0 t29_0_1 t29_0_2 t29_0_3 t29_0_4 t29_0_5 t29_0_6_p t29_0_6_l t29_0_6_c t29_0_7 t29_0_8 t29_0_9 fun h_13 =>
  CallsH Tryz.prog F.copies_Table_Ack #[.pointer t12, .int .i64 1, .int .i64 4] h_13 fun v_9 h_14 =>
  ∃ (t33 : Int), v_9 = .int .i64 t33 ∧
  CallsH Tryz.prog F.copies_Table_Release #[.pointer t12, .int .i64 1, .int .i64 3] h_14 fun v_10 h_15 =>
  ∃ (t35 : Int), v_10 = .int .i64 t35 ∧
  CallsH Tryz.prog F.law21_home #[] h_15 fun v_11 h_16 =>
  ∃ (t38_0 : Bool), ∃ (t38_1 : Int), ∃ (t38_2 : Int), ∃ (t38_3 : ByteArray), ∃ (t38_4 : ByteArray), v_11 = .agg #[.bool t38_0, .int .u64 t38_1, .int .u64 t38_2, .string t38_3, .string t38_4] ∧
  CallsH Tryz.prog F.copies_Table_Lease #[.pointer t12, .agg #[.bool t38_0, .int .u64 t38_1, .int .u64 t38_2, .string t38_3, .string t38_4], .int .i64 4, .int .u64 5] h_16 fun v_12 h_17 =>
  ∃ (t39_0_0 : Int), ∃ (t39_0_1 : Bool), ∃ (t39_0_2 : Int), ∃ (t39_0_3 : Int), ∃ (t39_0_4 : ByteArray), ∃ (t39_0_5 : ByteArray), ∃ (t39_0_6_p : Option Addr) (t39_0_6_l t39_0_6_c : Nat), ∃ (t39_0_7 : Int), ∃ (t39_0_8 : Int), ∃ (t39_0_9 : Int), ∃ (t39_1 : Int), v_12 = .tuple #[.agg #[.int .i64 t39_0_0, .bool t39_0_1, .int .u64 t39_0_2, .int .u64 t39_0_3, .string t39_0_4, .string t39_0_5, .slice t39_0_6_p t39_0_6_l t39_0_6_c, .int .u64 t39_0_7, .int .i64 t39_0_8, .int .u64 t39_0_9], .int .i64 t39_1] ∧
  NewP h_17 (.cells #[.int .i64 0, .bool false, .int .u64 0, .int .u64 0, .string (⟨#[]⟩ : ByteArray), .string (⟨#[]⟩ : ByteArray), .slice none 0 0, .int .u64 0, .int .i64 0, .int .u64 0] T.copies_Copy) fun b_3 h_18 =>
  copies_Copy.ST h_18 ⟨b_3, 0, none⟩ t39_0_0 t39_0_1 t39_0_2 t39_0_3 t39_0_4 t39_0_5 t39_0_6_p t39_0_6_l t39_0_6_c t39_0_7 t39_0_8 t39_0_9 fun h_19 =>
  CallsH Tryz.prog F.copies_Table_Pass #[.pointer t12, .int .u64 9] h_19 fun v_13 h_20 =>
  ∃ (t43_p : Option Addr) (t43_l t43_c : Nat), v_13 = .slice t43_p t43_l t43_c ∧
  CallsH Tryz.prog F.copies_Table_Ack #[.pointer t12, .int .i64 1, .int .i64 4] h_20 fun v_14 h_21 =>
  ∃ (t45 : Int), v_14 = .int .i64 t45 ∧
  if (t18_0 == 1) = true then
    if (t18_1 == 0) = true then
      ∃ (t54_p : Option Addr) (t54_l t54_c : Nat), hcell h_21 ⟨b_2, 6, none⟩ = some (.slice t54_p t54_l t54_c) ∧
      ∃ (t55 : ByteArray), ConvV Tryz.prog T.s_uint8 T.string (.slice t54_p t54_l t54_c) h_21 t55 ∧
      if (t55.toList == (⟨#[97]⟩ : ByteArray).toList) = true then
        if (t29_1 == 0) = true then
          if (t33 == 14) = true then
            if (t35 == 0) = true then
              ∃ (t72 : Int), hcell h_21 ⟨b_3, 0, none⟩ = some (.int .i64 t72) ∧
              if (t72 == 1) = true then
                if (t39_1 == 0) = true then
                  if (((t43_l : Nat) : Int) == 1) = true then
                    ((0 : Int) ≤ 0 ∧ 0 < ((t43_l : Nat) : Int)) ∧
                    onSome t43_p fun a =>
                    ∃ (t87 : Int), hcell h_21 (a.add (Int.toNat 0 * 1)) = some (.int .i64 t87) ∧
                    if (t87 == 2) = true then
                      if (t45 == 14) = true then
                        CallsH Tryz.prog F.copies_Table_Counts #[.pointer t12] h_21 fun v_15 h_22 =>
                        ∃ (t96_0 : Int), ∃ (t96_1 : Int), ∃ (t96_2 : Int), ∃ (t96_3 : Int), ∃ (t96_4 : Int), ∃ (t96_5 : Int), v_15 = .agg #[.int .i64 t96_0, .int .i64 t96_1, .int .i64 t96_2, .int .i64 t96_3, .int .i64 t96_4, .int .i64 t96_5] ∧
                        ∃ (eq : Bool), EqV Tryz.prog T.a6_int (.agg #[.int .i64 t96_0, .int .i64 t96_1, .int .i64 t96_2, .int .i64 t96_3, .int .i64 t96_4, .int .i64 t96_5]) (.agg #[.int .i64 2, .int .i64 1, .int .i64 0, .int .i64 0, .int .i64 1, .int .i64 0]) eq ∧
                        R (.bool eq) h_22
                      else
                        R (.bool false) h_21
                    else
                      R (.bool false) h_21
                  else
                    R (.bool false) h_21
                else
                  R (.bool false) h_21
              else
                R (.bool false) h_21
            else
              R (.bool false) h_21
          else
            R (.bool false) h_21
        else
          R (.bool false) h_21
      else
        R (.bool false) h_21
    else
      R (.bool false) h_21
  else
    R (.bool false) h_21
theorem law21_alive.den_eq  (h : Heap) (R : Value → Heap → Prop) : law21_alive.vc h R = den Tryz.prog Tryz.f10.ntmps (.seq .leaf (.seq .leaf (.seq .leaf (.seq .leaf (.seq .leaf (.seq .leaf (.seq .leaf (.seq .leaf (.seq .leaf (.seq .leaf (.seq .leaf .leaf))))))))))) none (bodyOf Tryz.f10) (retK Tryz.prog Tryz.f10.results R) (argEnv []) h := by kernel_rfl
theorem law21_alive.walk  {h : Heap} {R : Value → Heap → Prop} (hv : law21_alive.vc h R) : CallsH Tryz.prog F.law21_alive #[] h R :=
  callsH_of_body _ Tryz.func10 rfl rfl (Eq.mp (law21_alive.den_eq h R) hv)

end Go.Proofs.YtgccegnmggjkjaaGreatDoor

/-
  What is proved here: law21's home, Great and alive. No condition.
-/
set_option maxRecDepth 100000
namespace Go.Proofs.YtgccegnmggjkjaaGreatDoor
open Go.Den Go.Heapq
namespace Cps
open Eid Alarm Fld
variable {h h' : Heap} {R : Value → Heap → Prop} {t : Nat} {X X' : Ft} {s s' : CF} {p : Option Addr} {n c : Nat}

/-- blocks that a table's calls leave alone -/
def Out (X : Ft) (h : Heap) (Q : Nat → Prop) : Prop := ∀ c, Q c → c < h.size ∧ ¬ X.M c
theorem Out.step {Q : Nat → Prop} (o : Out X h Q) (st : StepF X h X' h') : Out X' h' Q := fun c hc =>
  ⟨Nat.lt_of_lt_of_le (o c hc).1 st.fr.1, fun hm => by
    rcases st.newM c hm with h1 | h1
    · exact (o c hc).2 h1
    · have := (o c hc).1; omega⟩
theorem Out.on {Q : Nat → Prop} (o : Out X h Q) (f : Fr (fun _ => False) h h') : Out X h' Q := fun c hc => ⟨Nat.lt_of_lt_of_le (o c hc).1 f.1, (o c hc).2⟩
theorem Out.fr {Q : Nat → Prop} (o : Out X h Q) (st : StepF X h X' h') : ∀ c, Q c → ¬ X.M c := fun c hc => (o c hc).2

abbrev hm : Ev := ⟨true, 7, 1, ⟨#[]⟩, ⟨#[]⟩⟩
theorem home_ok (hk : ∀ h', Fr (fun _ => False) h h' → R (ev5 hm) h') : CallsH Tryz.prog F.law21_home #[] h R :=
  law21_home.walk (eid_Eid.new fun b1 h1 e1 hb1 f1 => eid_Eid.ld hb1 (hk h1 f1))

def a0 : CF := ⟨[], 1, 0, 0, 0, [], []⟩
def a1 : CF := ⟨[⟨1, hm, [97], 50, 0, 0⟩], 2, 0, 0, 0, [(1, 50)], []⟩
def a2 : CF := ⟨[⟨1, hm, [97], 50, 0, 0⟩, ⟨2, hm, [98], 9, 0, 0⟩], 3, 0, 0, 0, [(2, 9), (1, 50)], []⟩
def a3 : CF := ⟨[⟨1, hm, [97], 50, 3, 20⟩, ⟨2, hm, [98], 9, 0, 0⟩], 3, 0, 0, 0, [(2, 9), (1, 50)], [(1, 20)]⟩
def a5 : CF := ⟨[⟨1, hm, [97], 50, 4, 5⟩, ⟨2, hm, [98], 9, 0, 0⟩], 3, 0, 0, 0, [(2, 9), (1, 50)], [(1, 5)]⟩
def a6 : CF := ⟨[⟨1, hm, [97], 50, 0, 0⟩], 3, 0, 1, 0, [(1, 50)], []⟩
theorem alive_ok (hk : ∀ h', Fr (fun _ => False) h h' → R (.bool true) h') : CallsH Tryz.prog F.law21_alive #[] h R := by
  have q1 : addF a0 hm [97] 50 = a1 := by kernel_rfl
  have q1e : addE a0 hm [97] 50 = 0 := by kernel_rfl
  have q1n : addN a0 hm [97] 50 = 1 := by kernel_rfl
  have q2 : addF a1 hm [98] 9 = a2 := by kernel_rfl
  have q3 : leaseC a2.L hm = some ⟨1, hm, [97], 50, 0, 0⟩ := by kernel_rfl
  have q3' : leaseF a2 ⟨1, hm, [97], 50, 0, 0⟩ 3 20 = a3 := by kernel_rfl
  have q4 : findE a3.L 1 4 = 14 := by kernel_rfl
  have q4' : ackF a3 1 4 = a3 := by kernel_rfl
  have q5 : findE a3.L 1 3 = 0 := by kernel_rfl
  have q5' : relF a3 1 3 = a2 := by kernel_rfl
  have q6' : leaseF a2 ⟨1, hm, [97], 50, 0, 0⟩ 4 5 = a5 := by kernel_rfl
  have q7 : Alarm.due a5.E1 9 = [(2, 9)] := by kernel_rfl
  have q7' : passF a5 9 = a6 := by kernel_rfl
  have q8 : findE a6.L 1 4 = 14 := by kernel_rfl
  have q8' : ackF a6 1 4 = a6 := by kernel_rfl
  have eqC : eqT Tryz.prog 10000 T.a6_int (.agg #[.int .i64 ((a6.next : Int) - 1), .int .i64 ((a6.L.length : Int) - (a6.E2.length : Int)), .int .i64 (a6.E2.length : Int), .int .i64 (a6.acked : Int), .int .i64 (a6.over : Int), .int .i64 (a6.gone : Int)]) (.agg #[.int .i64 2, .int .i64 1, .int .i64 0, .int .i64 0, .int .i64 1, .int .i64 0]) = some true := by kernel_rfl
  have m1 : Small a0 := ⟨by decide, by decide, by decide, by decide⟩
  have m2 : Small a1 := ⟨by decide, by decide, by decide, by decide⟩
  have m3 : Small a2 := ⟨by decide, by decide, by decide, by decide⟩
  have m4 : Small a3 := ⟨by decide, by decide, by decide, by decide⟩
  have m5 : Small a5 := ⟨by decide, by decide, by decide, by decide⟩
  have m6 : Small a6 := ⟨by decide, by decide, by decide, by decide⟩
  have bz : ∀ z ∈ a2.L, 1 ≤ z.num ∧ z.num < a2.next ∧ z.d.length ≤ 600 := by simp [Cps.a2]
  refine law21_alive.walk (new_ok fun h1 t X1 H1 u1 => ⟨_, rfl, home_ok fun h2 f2 => ⟨_, _, _, _, _, rfl, lit_ok (bs := [97]) rfl fun h3 r3 f3 => ?_⟩⟩)
  have lt1 := (H1.on f2).lt
  refine add_ok (s := a0) ((H1.on f2).on f3) m1 (by simp [a0]) (by decide) hm 50 rfl r3 rfl (fun _ a e hm => by cases e; exact absurd (lt1 _ (.inl hm)) (Nat.lt_irrefl _)) fun h4 X4 H4 s4 => ⟨_, _, rfl, ?_⟩
  rw [q1] at H4
  rw [q1e, q1n]
  have u4 := ((u1.on f2).on f3).step s4
  refine home_ok fun h5 f5 => ⟨_, _, _, _, _, rfl, lit_ok (bs := [98]) rfl fun h6 r6 f6 => ?_⟩
  have lt4 := (H4.on f5).lt
  refine add_ok (s := a1) ((H4.on f5).on f6) m2 (by simp [Cps.a1]) (by decide) hm 9 rfl r6 rfl (fun _ a e hm => by cases e; exact absurd (lt4 _ (.inl hm)) (Nat.lt_irrefl _)) fun h7 X7 H7 s7 => ⟨_, _, rfl, ?_⟩
  rw [q2] at H7
  have u7 := ((u4.on f5).on f6).step s7
  refine home_ok fun h8 f8 => ⟨_, _, _, _, _, rfl, lease_ok (H7.on f8) m3 bz hm 3 20 rfl (fun hn => absurd ⟨by omega, by omega, by omega⟩ hn) (fun _ hn => by rw [q3] at hn; cases hn) fun _ z hz h9 X9 p9 c9 H9 s9 r9 g9 => ?_⟩
  rw [q3] at hz; cases hz
  rw [q3'] at H9
  have u9 := (u7.on f8).step s9
  refine ⟨_, _, _, _, _, _, _, _, _, _, _, _, _, rfl, copies_Copy.new fun b2 h11 e11 hb11 f11 => ?_⟩
  have H11 := H9.on f11
  have o11 : Out X9 h11 (fun c => c = b2 ∨ inBlk p9 c) := fun c hc => by
    rcases hc with rfl | hc
    · exact ⟨lt_of_get hb11, fun hm => by have := H9.lt _ (.inl hm); omega⟩
    · refine ⟨?_, (g9 c hc).2⟩
      have := row_lt r9 (by simp [bc]) hc
      have := f11.1
      omega
  refine ack_ok H11 m4 (by decide) 1 4 fun h13 X13 H13 s13 => ⟨_, rfl, ?_⟩
  rw [q4'] at H13
  rw [q4]
  refine release_ok H13 m4 1 3 fun h14 X14 H14 s14 => ⟨_, rfl, ?_⟩
  rw [q5'] at H14
  rw [q5]
  refine home_ok fun h15 f15 => ⟨_, _, _, _, _, rfl, lease_ok (H14.on f15) m3 bz hm 4 5 rfl (fun hn => absurd ⟨by omega, by omega, by omega⟩ hn) (fun _ hn => by rw [q3] at hn; cases hn) fun _ z hz h16 X16 p16 c16 H16 s16 r16 g16 => ?_⟩
  rw [q3] at hz; cases hz
  rw [q6'] at H16
  refine ⟨_, _, _, _, _, _, _, _, _, _, _, _, _, rfl, copies_Copy.new fun b3 h18 e18 hb18 f18 => ?_⟩
  have S18 : StepF X9 h11 X16 h18 := (((s13.trans s14).on f15).trans s16).on f18
  have o18 : Out X16 h18 (fun c => c = b3) := fun c hc => by
    subst hc
    exact ⟨lt_of_get hb18, fun hm => by have := H16.lt _ (.inl hm); omega⟩
  refine pass_ok (H16.on f18) m5 (by decide) (by unfold Held; simp [a5, keys]) 9 fun h19 X19 p19 c19 H19 s19 N19 g19 => ⟨_, _, _, rfl, ?_⟩
  rw [q7'] at H19
  rw [q7] at N19 ⊢
  refine ack_ok H19 m6 (by decide) 1 4 fun h20 X20 H20 s20 => ⟨_, rfl, ?_⟩
  rw [q8'] at H20
  rw [q8]
  have S20 : StepF X9 h11 X20 h20 := (S18.trans s19).trans s20
  have T20 : StepF X16 h18 X20 h20 := s19.trans s20
  have hb2 := S20.fr.get hb11 (o11 _ (.inl rfl)).2
  have hb3 := T20.fr.get hb18 (o18 _ rfl).2
  have r20 := (r9.frame f11 (fun _ _ => id)).frame S20.fr (fun a e => (o11 _ (.inr ⟨a, e, rfl⟩)).2)
  rw [if_pos (by rfl), if_pos (by rfl)]
  refine ⟨_, _, _, cell_at hb2 rfl, _, conv r20 rfl, ?_⟩
  rw [str_list]
  rw [if_pos (by rw [toList_data]; decide), if_pos (by rfl), if_pos (by rfl), if_pos (by rfl)]
  refine ⟨_, cell_at hb3 rfl, ?_⟩
  rw [if_pos (by rfl), if_pos (by rfl), if_pos (by rfl)]
  refine (N19.step s20).at (i := 0) (k := 2) rfl ?_
  rw [if_pos (by rfl), if_pos (by rfl)]
  refine counts_ok H20 m6 fun h21 f21 => ⟨_, _, _, _, _, _, rfl, true, EqV.of eqC, ?_⟩
  exact hk h21 (((u9.on f11).step S20).fr.tt f21)
end Cps
end Go.Proofs.YtgccegnmggjkjaaGreatDoor

/-
  What is proved here: the steps of law21's scripts. No condition.
-/
set_option maxRecDepth 100000
namespace Go.Proofs.YtgccegnmggjkjaaGreatDoor
open Go.Den Go.Heapq
namespace Cps
open Eid Alarm Fld
variable {h h' : Heap} {R : Value → Heap → Prop} {t : Nat} {X X' : Ft} {s s' : CF} {p : Option Addr} {n c : Nat}
/-! ### a law's steps -/
structure OP where
  kind : Int
  num : Int
  ses : Int
  e : Ev
  p : Option Addr
  c : Nat
  b : List UInt8
  till : Nat
abbrev oenc (f : OP) : List Value := [.int .i64 f.kind, .int .i64 f.num, .int .i64 f.ses, .bool f.e.ipn, .int .u64 f.e.node, .int .u64 f.e.svc, .string f.e.host, .string f.e.dem, .slice f.p f.b.length f.c, .int .u64 (f.till : Int)]
abbrev OP.at (f : OP) (h : Heap) (b : Nat) : Prop := law21_Op.at h b f.kind f.num f.ses f.e.ipn f.e.node f.e.svc f.e.host f.e.dem f.p f.b.length f.c (f.till : Int)
theorem oenc_len (f : OP) : (oenc f).length = 10 := rfl
theorem op_tl : tleaves Tryz.prog 5 T.law21_Op = some [T.int, T.int, T.int, T.bool, T.uint64, T.uint64, T.string, T.string, T.s_uint8, T.uint64] := by kernel_rfl
theorem Rok.str {m : Nat} {v : Value} (hr : Rok Tryz.prog h m T.string [v]) : ∃ s, v = .string s := by
  cases m with
  | zero => exact hr.elim
  | succ m =>
    unfold Rok at hr
    rw [uS] at hr
    obtain ⟨s, e, _⟩ := hr
    exact ⟨s, by simpa using e⟩
theorem op_dec (n : Nat) (cs : List Value) (hl : cs.length = 10) (hr : Rok Tryz.prog h n T.law21_Op cs) : ∃ f : OP, cs = oenc f ∧ Row h f.p (bc f.b) ∧ 0 ≤ f.e.svc := by
  have L := tleaves_ok 5 n _ _ cs op_tl (by rw [hl]; rfl) hr
  match cs, hl with
  | [a, b, c, d, e, f, g, i, j, k], _ =>
    obtain ⟨k0, rfl, _⟩ := L.int 0 rfl rfl (k := .i64) (by kernel_rfl)
    obtain ⟨k1, rfl, _⟩ := L.int 1 rfl rfl (k := .i64) (by kernel_rfl)
    obtain ⟨k2, rfl, _⟩ := L.int 2 rfl rfl (k := .i64) (by kernel_rfl)
    obtain ⟨k3, rfl⟩ := L.bool 3 rfl rfl (by kernel_rfl)
    obtain ⟨k4, rfl, _⟩ := L.int 4 rfl rfl (k := .u64) (by kernel_rfl)
    obtain ⟨k5, rfl, w5⟩ := L.int 5 rfl rfl (k := .u64) (by kernel_rfl)
    obtain ⟨m6, hm6⟩ := L.get 6 rfl rfl
    obtain ⟨k6, rfl⟩ := Rok.str hm6
    obtain ⟨m7, hm7⟩ := L.get 7 rfl rfl
    obtain ⟨k7, rfl⟩ := Rok.str hm7
    obtain ⟨m, hm⟩ := L.get 8 rfl rfl
    obtain ⟨p, q, bs, rfl, hrow⟩ := Rok.bytes (by kernel_rfl) u8 uU hm
    obtain ⟨x, rfl, w1⟩ := L.int 9 rfl rfl (k := .u64) (by kernel_rfl)
    have w1 := wf_u64 w1
    obtain ⟨x, rfl⟩ := Int.eq_ofNat_of_zero_le w1.1
    exact ⟨⟨k0, k1, k2, ⟨k3, k4, k5, k6, k7⟩, p, q, bs, x⟩, rfl, hrow, (wf_u64 w5).1⟩
theorem ops_read2 {l c : Nat} (hv : RokV Tryz.prog h T.s_law21_Op (.slice p l c)) : ∃ fs : List OP, fs.length = l ∧ Row h p (fs.flatMap oenc) ∧ ∀ f ∈ fs, Row h f.p (bc f.b) ∧ 0 ≤ f.e.svc := by
  obtain ⟨xs, h1, _, _, h2, h3⟩ := RokV.slice (e := T.law21_Op) oenc 10 (fun f => Row h f.p (bc f.b) ∧ 0 ≤ f.e.svc) (by kernel_rfl) (fun _ => rfl) (fun n cs hl hr => op_dec n cs hl hr) (by kernel_rfl) hv
  exact ⟨xs, h1, h2, h3⟩
theorem ops_read {l c : Nat} (hv : RokV Tryz.prog h T.s_law21_Op (.slice p l c)) : ∃ fs : List OP, fs.length = l ∧ Row h p (fs.flatMap oenc) ∧ ∀ f ∈ fs, Row h f.p (bc f.b) := by
  obtain ⟨xs, h1, _, _, h2, h3⟩ := RokV.slice (e := T.law21_Op) oenc 10 (fun f => Row h f.p (bc f.b)) (by kernel_rfl) (fun _ => rfl) (fun n cs hl hr => by obtain ⟨f, h1, h2, _⟩ := op_dec n cs hl hr; exact ⟨f, h1, h2⟩) (by kernel_rfl) hv
  exact ⟨xs, h1, h2, h3⟩
theorem great_ok (f : OP) (hk : ∀ b h', Fr (fun _ => False) h h' → R (.bool b) h') : CallsH Tryz.prog F.law21_Great #[.agg (oenc f).toArray] h R := by
  refine law21_Great.walk (law21_Op.box fun b h1 eb hb f1 => ⟨_, _, _, cell_at hb rfl, ?_⟩)
  split
  · exact hk _ h1 f1
  · exact ⟨_, cell_at hb rfl, _, cell_at hb rfl, hk _ h1 f1⟩
theorem op_eid {f : OP} {b : Nat} {K : Bool → Int → Int → ByteArray → ByteArray → Prop} (hb : f.at h b) (hk : K f.e.ipn f.e.node f.e.svc f.e.host f.e.dem) : eid_Eid.LD h ⟨b, 3, none⟩ K :=
  ⟨_, cell_at hb rfl, _, cell_at hb rfl, _, cell_at hb rfl, _, cell_at hb rfl, _, cell_at hb rfl, hk⟩
end Cps
end Go.Proofs.YtgccegnmggjkjaaGreatDoor

/-
  Printed by a program of this work (vc.py): the verification conditions of functions, and that each is enough for the call. No condition.
-/
set_option maxRecDepth 100000
set_option maxHeartbeats 4000000
namespace Go.Proofs.YtgccegnmggjkjaaGreatDoor
open Go.Den
def law21_same.vc (c_0 : Int) (c_1 : Bool) (c_2 : Int) (c_3 : Int) (c_4 : ByteArray) (c_5 : ByteArray) (c_6_p : Option Addr) (c_6_l c_6_c : Nat) (c_7 : Int) (c_8 : Int) (c_9 : Int) (x_0 : Int) (x_1 : Bool) (x_2 : Int) (x_3 : Int) (x_4 : ByteArray) (x_5 : ByteArray) (x_6_p : Option Addr) (x_6_l x_6_c : Nat) (x_7 : Int) (x_8 : Int) (x_9 : Int) (x_10 : Int) (h : Heap) (R : Value → Heap → Prop) : Prop :=
  NewP h (.cells #[.int .i64 c_0, .bool c_1, .int .u64 c_2, .int .u64 c_3, .string c_4, .string c_5, .slice c_6_p c_6_l c_6_c, .int .u64 c_7, .int .i64 c_8, .int .u64 c_9] T.copies_Copy) fun b h_1 =>
  NewP h_1 (.cells #[.int .i64 x_0, .bool x_1, .int .u64 x_2, .int .u64 x_3, .string x_4, .string x_5, .slice x_6_p x_6_l x_6_c, .int .u64 x_7, .int .i64 x_8, .int .u64 x_9, .int .i64 x_10] T.ref21_Copy) fun b_1 h_2 =>
  ∃ (t6 : Int), hcell h_2 ⟨b, 0, none⟩ = some (.int .i64 t6) ∧
  ∃ (t8 : Int), hcell h_2 ⟨b_1, 0, none⟩ = some (.int .i64 t8) ∧
  if (t6 == t8) = true then
    eid_Eid.LD h_2 ⟨b, 1, none⟩ fun t12_0 t12_1 t12_2 t12_3 t12_4 =>
    ref04_Eid.LD h_2 ⟨b_1, 1, none⟩ fun t15_0 t15_1 t15_2 t15_3 t15_4 =>
    CallsH Tryz.prog F.law04_As #[.agg #[.bool t12_0, .int .u64 t12_1, .int .u64 t12_2, .string t12_3, .string t12_4]] h_2 fun v h_3 =>
    ∃ (t13_0 : Bool), ∃ (t13_1 : Int), ∃ (t13_2 : Int), ∃ (t13_3 : ByteArray), ∃ (t13_4 : ByteArray), v = .agg #[.bool t13_0, .int .u64 t13_1, .int .u64 t13_2, .string t13_3, .string t13_4] ∧
    heldL ⟨b_1, 1, none⟩ [.bool t15_0, .int .u64 t15_1, .int .u64 t15_2, .string t15_3, .string t15_4] 0 h_3 ∧
    hcell h_3 ⟨b_1, 0, none⟩ = some (.int .i64 t8) ∧
    hcell h_3 ⟨b, 0, none⟩ = some (.int .i64 t6) ∧
    ∃ (eq : Bool), EqV Tryz.prog T.ref04_Eid (.agg #[.bool t13_0, .int .u64 t13_1, .int .u64 t13_2, .string t13_3, .string t13_4]) (.agg #[.bool t15_0, .int .u64 t15_1, .int .u64 t15_2, .string t15_3, .string t15_4]) eq ∧
    if eq = true then
      ∃ (t20_p : Option Addr) (t20_l t20_c : Nat), hcell h_3 ⟨b, 6, none⟩ = some (.slice t20_p t20_l t20_c) ∧
      ∃ (t21 : ByteArray), ConvV Tryz.prog T.s_uint8 T.string (.slice t20_p t20_l t20_c) h_3 t21 ∧
      ∃ (t23_p : Option Addr) (t23_l t23_c : Nat), hcell h_3 ⟨b_1, 6, none⟩ = some (.slice t23_p t23_l t23_c) ∧
      ∃ (t24 : ByteArray), ConvV Tryz.prog T.s_uint8 T.string (.slice t23_p t23_l t23_c) h_3 t24 ∧
      if (t21.toList == t24.toList) = true then
        ∃ (t29 : Int), hcell h_3 ⟨b, 7, none⟩ = some (.int .u64 t29) ∧
        ∃ (t31 : Int), hcell h_3 ⟨b_1, 7, none⟩ = some (.int .u64 t31) ∧
        if (t29 == t31) = true then
          ∃ (t36 : Int), hcell h_3 ⟨b, 8, none⟩ = some (.int .i64 t36) ∧
          ∃ (t38 : Int), hcell h_3 ⟨b_1, 8, none⟩ = some (.int .i64 t38) ∧
          if (t36 == t38) = true then
            ∃ (t43 : Int), hcell h_3 ⟨b, 9, none⟩ = some (.int .u64 t43) ∧
            ∃ (t45 : Int), hcell h_3 ⟨b_1, 9, none⟩ = some (.int .u64 t45) ∧
            R (.bool (t43 == t45)) h_3
          else
            R (.bool false) h_3
        else
          R (.bool false) h_3
      else
        R (.bool false) h_3
    else
      R (.bool false) h_3
  else
    R (.bool false) h_2
theorem law21_same.den_eq (c_0 : Int) (c_1 : Bool) (c_2 : Int) (c_3 : Int) (c_4 : ByteArray) (c_5 : ByteArray) (c_6_p : Option Addr) (c_6_l c_6_c : Nat) (c_7 : Int) (c_8 : Int) (c_9 : Int) (x_0 : Int) (x_1 : Bool) (x_2 : Int) (x_3 : Int) (x_4 : ByteArray) (x_5 : ByteArray) (x_6_p : Option Addr) (x_6_l x_6_c : Nat) (x_7 : Int) (x_8 : Int) (x_9 : Int) (x_10 : Int) (h : Heap) (R : Value → Heap → Prop) : law21_same.vc c_0 c_1 c_2 c_3 c_4 c_5 c_6_p c_6_l c_6_c c_7 c_8 c_9 x_0 x_1 x_2 x_3 x_4 x_5 x_6_p x_6_l x_6_c x_7 x_8 x_9 x_10 h R = den Tryz.prog Tryz.f60.ntmps (.seq .leaf (.seq (.plan (.op 0 (.op 1 (.op 2 (.op 3 (.op 4 (.op 5 (.op 6 (.op 7 (.op 9 (.op 10 (.op 8 (.op 11 (.op 12 (.op 13 (.op 14 (.op 15 (.op 16 (.op 17 (.op 18 (.op 19 (.op 20 (.op 21 (.op 22 (.op 23 (.op 24 (.op 25 (.op 26 (.op 27 (.op 28 (.op 29 (.op 30 (.op 31 (.op 32 (.op 33 (.op 34 (.op 35 (.op 36 (.op 37 (.op 38 (.op 39 (.op 40 (.op 41 (.op 42 (.op 43 .done))))))))))))))))))))))))))))))))))))))))))))) .leaf)) none (bodyOf Tryz.f60) (retK Tryz.prog Tryz.f60.results R) (argEnv [.agg #[.int .i64 c_0, .bool c_1, .int .u64 c_2, .int .u64 c_3, .string c_4, .string c_5, .slice c_6_p c_6_l c_6_c, .int .u64 c_7, .int .i64 c_8, .int .u64 c_9], .agg #[.int .i64 x_0, .bool x_1, .int .u64 x_2, .int .u64 x_3, .string x_4, .string x_5, .slice x_6_p x_6_l x_6_c, .int .u64 x_7, .int .i64 x_8, .int .u64 x_9, .int .i64 x_10]]) h := by kernel_rfl
theorem law21_same.walk {c_0 : Int} {c_1 : Bool} {c_2 : Int} {c_3 : Int} {c_4 : ByteArray} {c_5 : ByteArray} {c_6_p : Option Addr} {c_6_l c_6_c : Nat} {c_7 : Int} {c_8 : Int} {c_9 : Int} {x_0 : Int} {x_1 : Bool} {x_2 : Int} {x_3 : Int} {x_4 : ByteArray} {x_5 : ByteArray} {x_6_p : Option Addr} {x_6_l x_6_c : Nat} {x_7 : Int} {x_8 : Int} {x_9 : Int} {x_10 : Int} {h : Heap} {R : Value → Heap → Prop} (hv : law21_same.vc c_0 c_1 c_2 c_3 c_4 c_5 c_6_p c_6_l c_6_c c_7 c_8 c_9 x_0 x_1 x_2 x_3 x_4 x_5 x_6_p x_6_l x_6_c x_7 x_8 x_9 x_10 h R) : CallsH Tryz.prog F.law21_same #[.agg #[.int .i64 c_0, .bool c_1, .int .u64 c_2, .int .u64 c_3, .string c_4, .string c_5, .slice c_6_p c_6_l c_6_c, .int .u64 c_7, .int .i64 c_8, .int .u64 c_9], .agg #[.int .i64 x_0, .bool x_1, .int .u64 x_2, .int .u64 x_3, .string x_4, .string x_5, .slice x_6_p x_6_l x_6_c, .int .u64 x_7, .int .i64 x_8, .int .u64 x_9, .int .i64 x_10]] h R :=
  callsH_of_body _ Tryz.func60 rfl rfl (Eq.mp (law21_same.den_eq c_0 c_1 c_2 c_3 c_4 c_5 c_6_p c_6_l c_6_c c_7 c_8 c_9 x_0 x_1 x_2 x_3 x_4 x_5 x_6_p x_6_l x_6_c x_7 x_8 x_9 x_10 h R) hv)

def law21_ints.vc (a_p : Option Addr) (a_l a_c : Nat) (b_p : Option Addr) (b_l b_c : Nat) (h : Heap) (R : Value → Heap → Prop) : Prop :=
  if (((a_l : Nat) : Int) != ((b_l : Nat) : Int)) = true then
    R (.bool false) h
  else
    ∃ (I : Int → Heap → Prop) (mu : Int → Heap → Nat), I 0 h ∧ ∀ (i : Int) (h_1 : Heap), I i h_1 →
      if (decide (i < ((a_l : Nat) : Int))) = true then
        ((0 : Int) ≤ i ∧ i < ((a_l : Nat) : Int)) ∧
        onSome a_p fun a =>
        ∃ (t20 : Int), hcell h_1 (a.add (Int.toNat i * 1)) = some (.int .i64 t20) ∧
        ((0 : Int) ≤ i ∧ i < ((b_l : Nat) : Int)) ∧
        onSome b_p fun a_1 =>
        ∃ (t24 : Int), hcell h_1 (a_1.add (Int.toNat i * 1)) = some (.int .i64 t24) ∧
        if (t20 != t24) = true then
          R (.bool false) h_1
        else
          (I (IntKind.wrap .i64 (i + 1)) h_1 ∧ mu (IntKind.wrap .i64 (i + 1)) h_1 < mu i h_1)
      else
        R (.bool true) h_1
theorem law21_ints.den_eq (a_p : Option Addr) (a_l a_c : Nat) (b_p : Option Addr) (b_l b_c : Nat) (h : Heap) (R : Value → Heap → Prop) : law21_ints.vc a_p a_l a_c b_p b_l b_c h R = den Tryz.prog Tryz.f62.ntmps (.seq .leaf (.seq (.seq .leaf (.cond (.seq .leaf .leaf) .leaf)) (.seq (.seq .leaf (.block (.loop [(5, .one (.int .i64))] (.seq (.seq .leaf (.cond .leaf .leaf)) (.seq (.block (.seq (.plan (.op 0 (.op 1 (.op 2 (.op 3 (.op 4 (.op 5 (.op 6 (.op 7 (.op 8 .done)))))))))) (.cond (.seq .leaf .leaf) .leaf))) .leaf))))) (.seq .leaf .leaf)))) none (bodyOf Tryz.f62) (retK Tryz.prog Tryz.f62.results R) (argEnv [.slice a_p a_l a_c, .slice b_p b_l b_c]) h := by kernel_rfl
theorem law21_ints.walk {a_p : Option Addr} {a_l a_c : Nat} {b_p : Option Addr} {b_l b_c : Nat} {h : Heap} {R : Value → Heap → Prop} (hv : law21_ints.vc a_p a_l a_c b_p b_l b_c h R) : CallsH Tryz.prog F.law21_ints #[.slice a_p a_l a_c, .slice b_p b_l b_c] h R :=
  callsH_of_body _ Tryz.func62 rfl rfl (Eq.mp (law21_ints.den_eq a_p a_l a_c b_p b_l b_c h R) hv)

def law21_Same.vc (t : Nat) (x : Nat) (h : Heap) (R : Value → Heap → Prop) : Prop :=
  CallsH Tryz.prog F.copies_Table_All #[.pointer (some ⟨t, 0, none⟩)] h fun v h_1 =>
  ∃ (t9_p : Option Addr) (t9_l t9_c : Nat), v = .slice t9_p t9_l t9_c ∧
  CallsH Tryz.prog F.ref21_Table_There #[.pointer (some ⟨x, 0, none⟩)] h_1 fun v_1 h_2 =>
  ∃ (t11_p : Option Addr) (t11_l t11_c : Nat), v_1 = .slice t11_p t11_l t11_c ∧
  JoinP (fun (t23 : Bool) (h_3 : Heap) =>
    if t23 = true then
      R (.bool false) h_3
    else
      ∃ (I : Int → Heap → Prop) (mu : Int → Heap → Nat), I 0 h_3 ∧ ∀ (i : Int) (h_4 : Heap), I i h_4 →
        if (decide (i < ((t11_l : Nat) : Int))) = true then
          ((0 : Int) ≤ i ∧ i < ((t9_l : Nat) : Int)) ∧
          onSome t9_p fun a =>
          copies_Copy.LD h_4 (a.add (Int.toNat i * 10)) fun t33_0 t33_1 t33_2 t33_3 t33_4 t33_5 t33_6_p t33_6_l t33_6_c t33_7 t33_8 t33_9 =>
          ((0 : Int) ≤ i ∧ i < ((t11_l : Nat) : Int)) ∧
          onSome t11_p fun a_1 =>
          ref21_Copy.LD h_4 (a_1.add (Int.toNat i * 11)) fun t37_0 t37_1 t37_2 t37_3 t37_4 t37_5 t37_6_p t37_6_l t37_6_c t37_7 t37_8 t37_9 t37_10 =>
          CallsH Tryz.prog F.law21_same #[.agg #[.int .i64 t33_0, .bool t33_1, .int .u64 t33_2, .int .u64 t33_3, .string t33_4, .string t33_5, .slice t33_6_p t33_6_l t33_6_c, .int .u64 t33_7, .int .i64 t33_8, .int .u64 t33_9], .agg #[.int .i64 t37_0, .bool t37_1, .int .u64 t37_2, .int .u64 t37_3, .string t37_4, .string t37_5, .slice t37_6_p t37_6_l t37_6_c, .int .u64 t37_7, .int .i64 t37_8, .int .u64 t37_9, .int .i64 t37_10]] h_4 fun v_2 h_5 =>
          ∃ (t38 : Bool), v_2 = .bool t38 ∧
          if (!t38) = true then
            R (.bool false) h_5
          else
            (I (IntKind.wrap .i64 (i + 1)) h_5 ∧ mu (IntKind.wrap .i64 (i + 1)) h_5 < mu i h_4)
        else
          R (.bool true) h_4)
  (fun J =>
    if (((t9_l : Nat) : Int) != ((t11_l : Nat) : Int)) = true then
      J true h_2
    else
      CallsH Tryz.prog F.copies_Table_Counts #[.pointer (some ⟨t, 0, none⟩)] h_2 fun v_3 h_6 =>
      ∃ (t19_0 : Int), ∃ (t19_1 : Int), ∃ (t19_2 : Int), ∃ (t19_3 : Int), ∃ (t19_4 : Int), ∃ (t19_5 : Int), v_3 = .agg #[.int .i64 t19_0, .int .i64 t19_1, .int .i64 t19_2, .int .i64 t19_3, .int .i64 t19_4, .int .i64 t19_5] ∧
      CallsH Tryz.prog F.ref21_Table_Counts #[.pointer (some ⟨x, 0, none⟩)] h_6 fun v_4 h_7 =>
      ∃ (t21_0 : Int), ∃ (t21_1 : Int), ∃ (t21_2 : Int), ∃ (t21_3 : Int), ∃ (t21_4 : Int), ∃ (t21_5 : Int), v_4 = .agg #[.int .i64 t21_0, .int .i64 t21_1, .int .i64 t21_2, .int .i64 t21_3, .int .i64 t21_4, .int .i64 t21_5] ∧
      ∃ (eq : Bool), EqV Tryz.prog T.a6_int (.agg #[.int .i64 t19_0, .int .i64 t19_1, .int .i64 t19_2, .int .i64 t19_3, .int .i64 t19_4, .int .i64 t19_5]) (.agg #[.int .i64 t21_0, .int .i64 t21_1, .int .i64 t21_2, .int .i64 t21_3, .int .i64 t21_4, .int .i64 t21_5]) eq ∧
      J (!eq) h_7)
theorem law21_Same.den_eq (t : Nat) (x : Nat) (h : Heap) (R : Value → Heap → Prop) : law21_Same.vc t x h R = den Tryz.prog Tryz.f13.ntmps (.seq .leaf (.seq .leaf (.seq (.seq (.join [(23, .one (.bool))] .leaf) (.cond (.seq .leaf .leaf) .leaf)) (.seq (.seq .leaf (.block (.loop [(7, .one (.int .i64))] (.seq (.seq .leaf (.cond .leaf .leaf)) (.seq (.block (.seq (.plan (.op 0 (.op 1 (.op 2 (.op 3 (.op 4 (.op 5 (.op 6 (.op 7 (.op 8 (.op 9 .done))))))))))) (.cond (.seq .leaf .leaf) .leaf))) .leaf))))) (.seq .leaf .leaf))))) none (bodyOf Tryz.f13) (retK Tryz.prog Tryz.f13.results R) (argEnv [.pointer (some ⟨t, 0, none⟩), .pointer (some ⟨x, 0, none⟩)]) h := by kernel_rfl
theorem law21_Same.walk {t : Nat} {x : Nat} {h : Heap} {R : Value → Heap → Prop} (hv : law21_Same.vc t x h R) : CallsH Tryz.prog F.law21_Same #[.pointer (some ⟨t, 0, none⟩), .pointer (some ⟨x, 0, none⟩)] h R :=
  callsH_of_body _ Tryz.func13 rfl rfl (Eq.mp (law21_Same.den_eq t x h R) hv)

def law21_Do.vc (t : Nat) (x : Nat) (o_0 : Int) (o_1 : Int) (o_2 : Int) (o_3 : Bool) (o_4 : Int) (o_5 : Int) (o_6 : ByteArray) (o_7 : ByteArray) (o_8_p : Option Addr) (o_8_l o_8_c : Nat) (o_9 : Int) (h : Heap) (R : Value → Heap → Prop) : Prop :=
  NewP h (.cells #[.int .i64 o_0, .int .i64 o_1, .int .i64 o_2, .bool o_3, .int .u64 o_4, .int .u64 o_5, .string o_6, .string o_7, .slice o_8_p o_8_l o_8_c, .int .u64 o_9] T.law21_Op) fun b h_1 =>
  eid_Eid.LD h_1 ⟨b, 3, none⟩ fun t19_0 t19_1 t19_2 t19_3 t19_4 =>
  CallsH Tryz.prog F.law04_As #[.agg #[.bool t19_0, .int .u64 t19_1, .int .u64 t19_2, .string t19_3, .string t19_4]] h_1 fun v h_2 =>
  ∃ (t20_0 : Bool), ∃ (t20_1 : Int), ∃ (t20_2 : Int), ∃ (t20_3 : ByteArray), ∃ (t20_4 : ByteArray), v = .agg #[.bool t20_0, .int .u64 t20_1, .int .u64 t20_2, .string t20_3, .string t20_4] ∧
  NewP h_2 (.cells #[.bool false, .int .u64 0, .int .u64 0, .string (⟨#[]⟩ : ByteArray), .string (⟨#[]⟩ : ByteArray)] T.ref04_Eid) fun b_1 h_3 =>
  ref04_Eid.ST h_3 ⟨b_1, 0, none⟩ t20_0 t20_1 t20_2 t20_3 t20_4 fun h_4 =>
  ∃ (t22 : Int), hcell h_4 ⟨b, 0, none⟩ = some (.int .i64 t22) ∧
  if (t22 == 0) = true then
    eid_Eid.LD h_4 ⟨b, 3, none⟩ fun t28_0 t28_1 t28_2 t28_3 t28_4 =>
    ∃ (t30_p : Option Addr) (t30_l t30_c : Nat), hcell h_4 ⟨b, 8, none⟩ = some (.slice t30_p t30_l t30_c) ∧
    ∃ (t32 : Int), hcell h_4 ⟨b, 9, none⟩ = some (.int .u64 t32) ∧
    CallsH Tryz.prog F.copies_Table_Add #[.pointer (some ⟨t, 0, none⟩), .agg #[.bool t28_0, .int .u64 t28_1, .int .u64 t28_2, .string t28_3, .string t28_4], .slice t30_p t30_l t30_c, .int .u64 t32] h_4 fun v_1 h_5 =>
    ∃ (t33_0 : Int), ∃ (t33_1 : Int), v_1 = .tuple #[.int .i64 t33_0, .int .i64 t33_1] ∧
    ref04_Eid.LD h_5 ⟨b_1, 0, none⟩ fun t38_0 t38_1 t38_2 t38_3 t38_4 =>
    ∃ (t40_p : Option Addr) (t40_l t40_c : Nat), hcell h_5 ⟨b, 8, none⟩ = some (.slice t40_p t40_l t40_c) ∧
    ∃ (t42 : Int), hcell h_5 ⟨b, 9, none⟩ = some (.int .u64 t42) ∧
    CallsH Tryz.prog F.ref21_Table_Add #[.pointer (some ⟨x, 0, none⟩), .agg #[.bool t38_0, .int .u64 t38_1, .int .u64 t38_2, .string t38_3, .string t38_4], .slice t40_p t40_l t40_c, .int .u64 t42] h_5 fun v_2 h_6 =>
    ∃ (t43_0 : Int), ∃ (t43_1 : Int), v_2 = .tuple #[.int .i64 t43_0, .int .i64 t43_1] ∧
    if (t33_0 == t43_0) = true then
      R (.bool (t33_1 == t43_1)) h_6
    else
      R (.bool false) h_6
  else
    if (t22 == 1) = true then
      eid_Eid.LD h_4 ⟨b, 3, none⟩ fun t59_0 t59_1 t59_2 t59_3 t59_4 =>
      ∃ (t61 : Int), hcell h_4 ⟨b, 2, none⟩ = some (.int .i64 t61) ∧
      ∃ (t63 : Int), hcell h_4 ⟨b, 9, none⟩ = some (.int .u64 t63) ∧
      CallsH Tryz.prog F.copies_Table_Lease #[.pointer (some ⟨t, 0, none⟩), .agg #[.bool t59_0, .int .u64 t59_1, .int .u64 t59_2, .string t59_3, .string t59_4], .int .i64 t61, .int .u64 t63] h_4 fun v_3 h_7 =>
      ∃ (t64_0_0 : Int), ∃ (t64_0_1 : Bool), ∃ (t64_0_2 : Int), ∃ (t64_0_3 : Int), ∃ (t64_0_4 : ByteArray), ∃ (t64_0_5 : ByteArray), ∃ (t64_0_6_p : Option Addr) (t64_0_6_l t64_0_6_c : Nat), ∃ (t64_0_7 : Int), ∃ (t64_0_8 : Int), ∃ (t64_0_9 : Int), ∃ (t64_1 : Int), v_3 = .tuple #[.agg #[.int .i64 t64_0_0, .bool t64_0_1, .int .u64 t64_0_2, .int .u64 t64_0_3, .string t64_0_4, .string t64_0_5, .slice t64_0_6_p t64_0_6_l t64_0_6_c, .int .u64 t64_0_7, .int .i64 t64_0_8, .int .u64 t64_0_9], .int .i64 t64_1] ∧
      NewP h_7 (.cells #[.int .i64 0, .bool false, .int .u64 0, .int .u64 0, .string (⟨#[]⟩ : ByteArray), .string (⟨#[]⟩ : ByteArray), .slice none 0 0, .int .u64 0, .int .i64 0, .int .u64 0] T.copies_Copy) fun b_2 h_8 =>
      copies_Copy.ST h_8 ⟨b_2, 0, none⟩ t64_0_0 t64_0_1 t64_0_2 t64_0_3 t64_0_4 t64_0_5 t64_0_6_p t64_0_6_l t64_0_6_c t64_0_7 t64_0_8 t64_0_9 fun h_9 =>
      ref04_Eid.LD h_9 ⟨b_1, 0, none⟩ fun t69_0 t69_1 t69_2 t69_3 t69_4 =>
      ∃ (t71 : Int), hcell h_9 ⟨b, 2, none⟩ = some (.int .i64 t71) ∧
      ∃ (t73 : Int), hcell h_9 ⟨b, 9, none⟩ = some (.int .u64 t73) ∧
      CallsH Tryz.prog F.ref21_Table_Lease #[.pointer (some ⟨x, 0, none⟩), .agg #[.bool t69_0, .int .u64 t69_1, .int .u64 t69_2, .string t69_3, .string t69_4], .int .i64 t71, .int .u64 t73] h_9 fun v_4 h_10 =>
      ∃ (t74_0 : Int), ∃ (t74_1 : Int), v_4 = .tuple #[.int .i64 t74_0, .int .i64 t74_1] ∧
      NewP h_10 (.cells #[.int .i64 0, .bool false, .int .u64 0, .int .u64 0, .string (⟨#[]⟩ : ByteArray), .string (⟨#[]⟩ : ByteArray), .slice none 0 0, .int .u64 0, .int .i64 0, .int .u64 0, .int .i64 0] T.ref21_Copy) fun b_3 h_11 =>
      ref21_Copy.ST h_11 ⟨b_3, 0, none⟩ 0 false 0 0 (⟨#[]⟩ : ByteArray) (⟨#[]⟩ : ByteArray) none 0 0 0 0 0 0 fun h_12 =>
      JoinP (fun (h_13 : Heap) =>
        copies_Copy.LD h_13 ⟨b_2, 0, none⟩ fun t87_0 t87_1 t87_2 t87_3 t87_4 t87_5 t87_6_p t87_6_l t87_6_c t87_7 t87_8 t87_9 =>
        ref21_Copy.LD h_13 ⟨b_3, 0, none⟩ fun t88_0 t88_1 t88_2 t88_3 t88_4 t88_5 t88_6_p t88_6_l t88_6_c t88_7 t88_8 t88_9 t88_10 =>
        CallsH Tryz.prog F.law21_same #[.agg #[.int .i64 t87_0, .bool t87_1, .int .u64 t87_2, .int .u64 t87_3, .string t87_4, .string t87_5, .slice t87_6_p t87_6_l t87_6_c, .int .u64 t87_7, .int .i64 t87_8, .int .u64 t87_9], .agg #[.int .i64 t88_0, .bool t88_1, .int .u64 t88_2, .int .u64 t88_3, .string t88_4, .string t88_5, .slice t88_6_p t88_6_l t88_6_c, .int .u64 t88_7, .int .i64 t88_8, .int .u64 t88_9, .int .i64 t88_10]] h_13 fun v_5 h_14 =>
        ∃ (t89 : Bool), v_5 = .bool t89 ∧
        if t89 = true then
          R (.bool (t64_1 == t74_1)) h_14
        else
          R (.bool false) h_14)
      (fun J =>
        if (decide (t74_0 ≥ 0)) = true then
          ∃ (t83_p : Option Addr) (t83_l t83_c : Nat), hcell h_12 ⟨x, 0, none⟩ = some (.slice t83_p t83_l t83_c) ∧
          ((0 : Int) ≤ t74_0 ∧ t74_0 < ((t83_l : Nat) : Int)) ∧
          onSome t83_p fun a =>
          ref21_Copy.LD h_12 (a.add (Int.toNat t74_0 * 11)) fun t86_0 t86_1 t86_2 t86_3 t86_4 t86_5 t86_6_p t86_6_l t86_6_c t86_7 t86_8 t86_9 t86_10 =>
          ref21_Copy.ST h_12 ⟨b_3, 0, none⟩ t86_0 t86_1 t86_2 t86_3 t86_4 t86_5 t86_6_p t86_6_l t86_6_c t86_7 t86_8 t86_9 t86_10 fun h_15 =>
          J h_15
        else
          J h_12)
    else
      JoinP (fun (t95 : Bool) (h_16 : Heap) =>
        if t95 = true then
          ∃ (t99 : Int), hcell h_16 ⟨b, 0, none⟩ = some (.int .i64 t99) ∧
          JoinP (fun (e : Int) (h_17 : Heap) =>
            ∃ (t116 : Int), hcell h_17 ⟨b, 1, none⟩ = some (.int .i64 t116) ∧
            ∃ (t118 : Int), hcell h_17 ⟨b, 2, none⟩ = some (.int .i64 t118) ∧
            ∃ (t120 : Int), hcell h_17 ⟨b, 0, none⟩ = some (.int .i64 t120) ∧
            CallsH Tryz.prog F.ref21_Table_End #[.pointer (some ⟨x, 0, none⟩), .int .i64 t116, .int .i64 t118, .bool (t120 == 3)] h_17 fun v_6 h_18 =>
            ∃ (t122 : Int), v_6 = .int .i64 t122 ∧
            R (.bool (e == t122)) h_18)
          (fun J_2 =>
            if (t99 == 2) = true then
              ∃ (t103 : Int), hcell h_16 ⟨b, 1, none⟩ = some (.int .i64 t103) ∧
              ∃ (t105 : Int), hcell h_16 ⟨b, 2, none⟩ = some (.int .i64 t105) ∧
              CallsH Tryz.prog F.copies_Table_Ack #[.pointer (some ⟨t, 0, none⟩), .int .i64 t103, .int .i64 t105] h_16 fun v_7 h_19 =>
              ∃ (t106 : Int), v_7 = .int .i64 t106 ∧
              J_2 t106 h_19
            else
              ∃ (t109 : Int), hcell h_16 ⟨b, 1, none⟩ = some (.int .i64 t109) ∧
              ∃ (t111 : Int), hcell h_16 ⟨b, 2, none⟩ = some (.int .i64 t111) ∧
              CallsH Tryz.prog F.copies_Table_Release #[.pointer (some ⟨t, 0, none⟩), .int .i64 t109, .int .i64 t111] h_16 fun v_8 h_20 =>
              ∃ (t112 : Int), v_8 = .int .i64 t112 ∧
              J_2 t112 h_20)
        else
          if (t22 == 4) = true then
            ∃ (t128 : Int), hcell h_16 ⟨b, 9, none⟩ = some (.int .u64 t128) ∧
            ∃ (t132 : Int), hcell h_16 ⟨b, 9, none⟩ = some (.int .u64 t132) ∧
            CallsH Tryz.prog F.copies_Table_Pass #[.pointer (some ⟨t, 0, none⟩), .int .u64 t128] h_16 fun v_9 h_21 =>
            ∃ (t129_p : Option Addr) (t129_l t129_c : Nat), v_9 = .slice t129_p t129_l t129_c ∧
            hcell h_21 ⟨b, 9, none⟩ = some (.int .u64 t132) ∧
            CallsH Tryz.prog F.ref21_Table_Pass #[.pointer (some ⟨x, 0, none⟩), .int .u64 t132] h_21 fun v_10 h_22 =>
            ∃ (t133_p : Option Addr) (t133_l t133_c : Nat), v_10 = .slice t133_p t133_l t133_c ∧
            CallsH Tryz.prog F.law21_ints #[.slice t129_p t129_l t129_c, .slice t133_p t133_l t133_c] h_22 fun v_11 h_23 =>
            ∃ (t134 : Bool), v_11 = .bool t134 ∧
            R (.bool t134) h_23
          else
            if (t22 == 5) = true then
              eid_Eid.LD h_16 ⟨b, 3, none⟩ fun t139_0 t139_1 t139_2 t139_3 t139_4 =>
              ref04_Eid.LD h_16 ⟨b_1, 0, none⟩ fun t142_0 t142_1 t142_2 t142_3 t142_4 =>
              CallsH Tryz.prog F.copies_Table_Drop #[.pointer (some ⟨t, 0, none⟩), .agg #[.bool t139_0, .int .u64 t139_1, .int .u64 t139_2, .string t139_3, .string t139_4]] h_16 fun v_12 h_24 =>
              ∃ (t140_p : Option Addr) (t140_l t140_c : Nat), v_12 = .slice t140_p t140_l t140_c ∧
              heldL ⟨b_1, 0, none⟩ [.bool t142_0, .int .u64 t142_1, .int .u64 t142_2, .string t142_3, .string t142_4] 0 h_24 ∧
              CallsH Tryz.prog F.ref21_Table_Drop #[.pointer (some ⟨x, 0, none⟩), .agg #[.bool t142_0, .int .u64 t142_1, .int .u64 t142_2, .string t142_3, .string t142_4]] h_24 fun v_13 h_25 =>
              ∃ (t143_p : Option Addr) (t143_l t143_c : Nat), v_13 = .slice t143_p t143_l t143_c ∧
              CallsH Tryz.prog F.law21_ints #[.slice t140_p t140_l t140_c, .slice t143_p t143_l t143_c] h_25 fun v_14 h_26 =>
              ∃ (t144 : Bool), v_14 = .bool t144 ∧
              R (.bool t144) h_26
            else
              R (.bool true) h_16)
      (fun J_1 =>
        if (t22 == 2) = true then
          J_1 (t22 == 2) h_4
        else
          J_1 (t22 == 3) h_4)
theorem law21_Do.den_eq (t : Nat) (x : Nat) (o_0 : Int) (o_1 : Int) (o_2 : Int) (o_3 : Bool) (o_4 : Int) (o_5 : Int) (o_6 : ByteArray) (o_7 : ByteArray) (o_8_p : Option Addr) (o_8_l o_8_c : Nat) (o_9 : Int) (h : Heap) (R : Value → Heap → Prop) : law21_Do.vc t x o_0 o_1 o_2 o_3 o_4 o_5 o_6 o_7 o_8_p o_8_l o_8_c o_9 h R = den Tryz.prog Tryz.f12.ntmps (.seq .leaf (.seq .leaf (.seq (.seq .leaf (.block (.seq .leaf (.cond (.seq .leaf (.seq .leaf (.seq .leaf .leaf))) (.seq .leaf (.cond (.seq .leaf (.seq .leaf (.seq .leaf (.seq (.seq .leaf (.join [] (.cond .leaf .leaf))) (.seq .leaf .leaf))))) (.seq (.seq .leaf (.join [(95, .one (.bool))] (.cond .leaf .leaf))) (.cond (.seq .leaf (.seq (.seq .leaf (.join [(17, .one (.int .i64))] (.cond .leaf .leaf))) (.seq .leaf .leaf))) (.seq .leaf (.cond (.seq (.plan (.op 0 (.op 1 (.op 2 (.op 4 (.op 5 (.op 6 (.op 3 (.op 7 (.op 8 (.op 9 .done))))))))))) .leaf) (.seq .leaf (.cond (.seq (.plan (.op 0 (.op 1 (.op 2 (.op 4 (.op 5 (.op 3 (.op 6 (.op 7 (.op 8 .done)))))))))) .leaf) .leaf)))))))))))) (.seq .leaf .leaf)))) none (bodyOf Tryz.f12) (retK Tryz.prog Tryz.f12.results R) (argEnv [.pointer (some ⟨t, 0, none⟩), .pointer (some ⟨x, 0, none⟩), .agg #[.int .i64 o_0, .int .i64 o_1, .int .i64 o_2, .bool o_3, .int .u64 o_4, .int .u64 o_5, .string o_6, .string o_7, .slice o_8_p o_8_l o_8_c, .int .u64 o_9]]) h := by kernel_rfl
theorem law21_Do.walk {t : Nat} {x : Nat} {o_0 : Int} {o_1 : Int} {o_2 : Int} {o_3 : Bool} {o_4 : Int} {o_5 : Int} {o_6 : ByteArray} {o_7 : ByteArray} {o_8_p : Option Addr} {o_8_l o_8_c : Nat} {o_9 : Int} {h : Heap} {R : Value → Heap → Prop} (hv : law21_Do.vc t x o_0 o_1 o_2 o_3 o_4 o_5 o_6 o_7 o_8_p o_8_l o_8_c o_9 h R) : CallsH Tryz.prog F.law21_Do #[.pointer (some ⟨t, 0, none⟩), .pointer (some ⟨x, 0, none⟩), .agg #[.int .i64 o_0, .int .i64 o_1, .int .i64 o_2, .bool o_3, .int .u64 o_4, .int .u64 o_5, .string o_6, .string o_7, .slice o_8_p o_8_l o_8_c, .int .u64 o_9]] h R :=
  callsH_of_body _ Tryz.func12 rfl rfl (Eq.mp (law21_Do.den_eq t x o_0 o_1 o_2 o_3 o_4 o_5 o_6 o_7 o_8_p o_8_l o_8_c o_9 h R) hv)

def law21_CopiesLives.vc (ops_p : Option Addr) (ops_l ops_c : Nat) (ask_0 : Bool) (ask_1 : Int) (ask_2 : Int) (ask_3 : ByteArray) (ask_4 : ByteArray) (h : Heap) (R : Value → Heap → Prop) : Prop :=
  NewP h (.cells #[.bool ask_0, .int .u64 ask_1, .int .u64 ask_2, .string ask_3, .string ask_4] T.eid_Eid) fun b h_1 =>
  CallsH Tryz.prog F.copies_New #[] h_1 fun v h_2 =>
  ∃ (t14 : Option Addr), v = .pointer t14 ∧
  NewP h_2 (.cells #[.slice none 0 0] T.ref21_Table) fun b_1 h_3 =>
  ∃ (t18 : ByteArray), hcell h_3 ⟨b, 3, none⟩ = some (.string t18) ∧
  ∃ (t21 : ByteArray), hcell h_3 ⟨b, 4, none⟩ = some (.string t21) ∧
  if (decide ((IntKind.wrap .i64 (((t18.size : Nat) : Int) + ((t21.size : Nat) : Int))) > 300)) = true then
    CallsH Tryz.prog F.law21_alive #[] h_3 fun v_1 h_4 =>
    ∃ (t25 : Bool), v_1 = .bool t25 ∧
    R (.bool t25) h_4
  else
    ∃ (I : Int → Heap → Prop) (mu : Int → Heap → Nat), I 0 h_3 ∧ ∀ (i : Int) (h_5 : Heap), I i h_5 →
      JoinP (fun (t33 : Bool) (h_6 : Heap) =>
        if t33 = true then
          ((0 : Int) ≤ i ∧ i < ((ops_l : Nat) : Int)) ∧
          onSome ops_p fun a =>
          law21_Op.LD h_6 (a.add (Int.toNat i * 10)) fun t39_0 t39_1 t39_2 t39_3 t39_4 t39_5 t39_6 t39_7 t39_8_p t39_8_l t39_8_c t39_9 =>
          CallsH Tryz.prog F.law21_Great #[.agg #[.int .i64 t39_0, .int .i64 t39_1, .int .i64 t39_2, .bool t39_3, .int .u64 t39_4, .int .u64 t39_5, .string t39_6, .string t39_7, .slice t39_8_p t39_8_l t39_8_c, .int .u64 t39_9]] h_6 fun v_2 h_7 =>
          ∃ (t40 : Bool), v_2 = .bool t40 ∧
          if t40 = true then
            CallsH Tryz.prog F.law21_alive #[] h_7 fun v_3 h_8 =>
            ∃ (t41 : Bool), v_3 = .bool t41 ∧
            R (.bool t41) h_8
          else
            JoinP (fun (t65 : Bool) (h_9 : Heap) =>
              if t65 = true then
                R (.bool false) h_9
              else
                (I (IntKind.wrap .i64 (i + 1)) h_9 ∧ mu (IntKind.wrap .i64 (i + 1)) h_9 < mu i h_5))
            (fun J_1 =>
              ((0 : Int) ≤ i ∧ i < ((ops_l : Nat) : Int)) ∧
              onSome ops_p fun a_1 =>
              law21_Op.LD h_7 (a_1.add (Int.toNat i * 10)) fun t47_0 t47_1 t47_2 t47_3 t47_4 t47_5 t47_6 t47_7 t47_8_p t47_8_l t47_8_c t47_9 =>
              CallsH Tryz.prog F.law21_Do #[.pointer t14, .pointer (some ⟨b_1, 0, none⟩), .agg #[.int .i64 t47_0, .int .i64 t47_1, .int .i64 t47_2, .bool t47_3, .int .u64 t47_4, .int .u64 t47_5, .string t47_6, .string t47_7, .slice t47_8_p t47_8_l t47_8_c, .int .u64 t47_9]] h_7 fun v_4 h_10 =>
              ∃ (t48 : Bool), v_4 = .bool t48 ∧
              if (!t48) = true then
                J_1 true h_10
              else
                CallsH Tryz.prog F.law21_Same #[.pointer t14, .pointer (some ⟨b_1, 0, none⟩)] h_10 fun v_5 h_11 =>
                ∃ (t53 : Bool), v_5 = .bool t53 ∧
                if (!t53) = true then
                  J_1 true h_11
                else
                  eid_Eid.LD h_11 ⟨b, 0, none⟩ fun t58_0 t58_1 t58_2 t58_3 t58_4 =>
                  eid_Eid.LD h_11 ⟨b, 0, none⟩ fun t61_0 t61_1 t61_2 t61_3 t61_4 =>
                  CallsH Tryz.prog F.copies_Table_Ready #[.pointer t14, .agg #[.bool t58_0, .int .u64 t58_1, .int .u64 t58_2, .string t58_3, .string t58_4]] h_11 fun v_6 h_12 =>
                  ∃ (t59 : Int), v_6 = .int .i64 t59 ∧
                  heldL ⟨b, 0, none⟩ [.bool t61_0, .int .u64 t61_1, .int .u64 t61_2, .string t61_3, .string t61_4] 0 h_12 ∧
                  CallsH Tryz.prog F.law04_As #[.agg #[.bool t61_0, .int .u64 t61_1, .int .u64 t61_2, .string t61_3, .string t61_4]] h_12 fun v_7 h_13 =>
                  ∃ (t62_0 : Bool), ∃ (t62_1 : Int), ∃ (t62_2 : Int), ∃ (t62_3 : ByteArray), ∃ (t62_4 : ByteArray), v_7 = .agg #[.bool t62_0, .int .u64 t62_1, .int .u64 t62_2, .string t62_3, .string t62_4] ∧
                  CallsH Tryz.prog F.ref21_Table_Ready #[.pointer (some ⟨b_1, 0, none⟩), .agg #[.bool t62_0, .int .u64 t62_1, .int .u64 t62_2, .string t62_3, .string t62_4]] h_13 fun v_8 h_14 =>
                  ∃ (t63 : Int), v_8 = .int .i64 t63 ∧
                  J_1 (t59 != t63) h_14)
        else
          NewP h_6 (.cells #[.map none, .int .i64 0, .int .i64 0, .int .i64 0, .int .i64 0, .pointer none, .pointer none] T.copies_Table) fun b_2 h_15 =>
          CallsH Tryz.prog F.law21_home #[] h_15 fun v_9 h_16 =>
          ∃ (t68_0 : Bool), ∃ (t68_1 : Int), ∃ (t68_2 : Int), ∃ (t68_3 : ByteArray), ∃ (t68_4 : ByteArray), v_9 = .agg #[.bool t68_0, .int .u64 t68_1, .int .u64 t68_2, .string t68_3, .string t68_4] ∧
          NewP h_16 (.cells #[.int .u8 97] T.uint8) fun b_3 h_17 =>
          denSem Tryz.prog (convert T.s_uint8 T.s_uint8 (.slice (some ⟨b_3, 0, none⟩) 1 1)) h_17 fun v_10 h_18 =>
          ∃ (t70_p : Option Addr) (t70_l t70_c : Nat), v_10 = .slice t70_p t70_l t70_c ∧
          CallsH Tryz.prog F.copies_Table_Add #[.pointer none, .agg #[.bool t68_0, .int .u64 t68_1, .int .u64 t68_2, .string t68_3, .string t68_4], .slice t70_p t70_l t70_c, .int .u64 1] h_18 fun v_11 h_19 =>
          ∃ (t71_0 : Int), ∃ (t71_1 : Int), v_11 = .tuple #[.int .i64 t71_0, .int .i64 t71_1] ∧
          CallsH Tryz.prog F.law21_home #[] h_19 fun v_12 h_20 =>
          ∃ (t75_0 : Bool), ∃ (t75_1 : Int), ∃ (t75_2 : Int), ∃ (t75_3 : ByteArray), ∃ (t75_4 : ByteArray), v_12 = .agg #[.bool t75_0, .int .u64 t75_1, .int .u64 t75_2, .string t75_3, .string t75_4] ∧
          CallsH Tryz.prog F.copies_Table_Lease #[.pointer (some ⟨b_2, 0, none⟩), .agg #[.bool t75_0, .int .u64 t75_1, .int .u64 t75_2, .string t75_3, .string t75_4], .int .i64 1, .int .u64 1] h_20 fun v_13 h_21 =>
          ∃ (t76_0_0 : Int), ∃ (t76_0_1 : Bool), ∃ (t76_0_2 : Int), ∃ (t76_0_3 : Int), ∃ (t76_0_4 : ByteArray), ∃ (t76_0_5 : ByteArray), ∃ (t76_0_6_p : Option Addr) (t76_0_6_l t76_0_6_c : Nat), ∃ (t76_0_7 : Int), ∃ (t76_0_8 : Int), ∃ (t76_0_9 : Int), ∃ (t76_1 : Int), v_13 = .tuple #[.agg #[.int .i64 t76_0_0, .bool t76_0_1, .int .u64 t76_0_2, .int .u64 t76_0_3, .string t76_0_4, .string t76_0_5, .slice t76_0_6_p t76_0_6_l t76_0_6_c, .int .u64 t76_0_7, .int .i64 t76_0_8, .int .u64 t76_0_9], .int .i64 t76_1] ∧
          NewP h_21 (.cells #[.int .i64 0, .bool false, .int .u64 0, .int .u64 0, .string (⟨#[]⟩ : ByteArray), .string (⟨#[]⟩ : ByteArray), .slice none 0 0, .int .u64 0, .int .i64 0, .int .u64 0] T.copies_Copy) fun b_4 h_22 =>
          copies_Copy.ST h_22 ⟨b_4, 0, none⟩ t76_0_0 t76_0_1 t76_0_2 t76_0_3 t76_0_4 t76_0_5 t76_0_6_p t76_0_6_l t76_0_6_c t76_0_7 t76_0_8 t76_0_9 fun h_23 =>
          CallsH Tryz.prog F.law21_alive #[] h_23 fun v_14 h_24 =>
          ∃ (t79 : Bool), v_14 = .bool t79 ∧
          if t79 = true then
            CallsH Tryz.prog F.copies_Table_Save #[.pointer t14] h_24 fun v_15 h_25 =>
            ∃ (t82_p : Option Addr) (t82_l t82_c : Nat), v_15 = .slice t82_p t82_l t82_c ∧
            CallsH Tryz.prog F.ref21_Table_Save #[.pointer (some ⟨b_1, 0, none⟩)] h_25 fun v_16 h_26 =>
            ∃ (t84_p : Option Addr) (t84_l t84_c : Nat), v_16 = .slice t84_p t84_l t84_c ∧
            CallsH Tryz.prog F.law19_Same #[.slice t82_p t82_l t82_c, .slice t84_p t84_l t84_c] h_26 fun v_17 h_27 =>
            ∃ (t85 : Bool), v_17 = .bool t85 ∧
            if t85 = true then
              if (t71_1 == 6) = true then
                if (t76_1 == 6) = true then
                  CallsH Tryz.prog F.copies_Table_Ack #[.pointer none, .int .i64 1, .int .i64 1] h_27 fun v_18 h_28 =>
                  ∃ (t97 : Int), v_18 = .int .i64 t97 ∧
                  if (t97 == 6) = true then
                    CallsH Tryz.prog F.copies_Table_Release #[.pointer (some ⟨b_2, 0, none⟩), .int .i64 1, .int .i64 1] h_28 fun v_19 h_29 =>
                    ∃ (t101 : Int), v_19 = .int .i64 t101 ∧
                    if (t101 == 6) = true then
                      CallsH Tryz.prog F.copies_Table_Pass #[.pointer none, .int .u64 1] h_29 fun v_20 h_30 =>
                      ∃ (t106_p : Option Addr) (t106_l t106_c : Nat), v_20 = .slice t106_p t106_l t106_c ∧
                      CallsH Tryz.prog F.law21_home #[] h_30 fun v_21 h_31 =>
                      ∃ (t108_0 : Bool), ∃ (t108_1 : Int), ∃ (t108_2 : Int), ∃ (t108_3 : ByteArray), ∃ (t108_4 : ByteArray), v_21 = .agg #[.bool t108_0, .int .u64 t108_1, .int .u64 t108_2, .string t108_3, .string t108_4] ∧
                      CallsH Tryz.prog F.copies_Table_Drop #[.pointer (some ⟨b_2, 0, none⟩), .agg #[.bool t108_0, .int .u64 t108_1, .int .u64 t108_2, .string t108_3, .string t108_4]] h_31 fun v_22 h_32 =>
                      ∃ (t109_p : Option Addr) (t109_l t109_c : Nat), v_22 = .slice t109_p t109_l t109_c ∧
                      CallsH Tryz.prog F.law21_home #[] h_32 fun v_23 h_33 =>
                      ∃ (t113_0 : Bool), ∃ (t113_1 : Int), ∃ (t113_2 : Int), ∃ (t113_3 : ByteArray), ∃ (t113_4 : ByteArray), v_23 = .agg #[.bool t113_0, .int .u64 t113_1, .int .u64 t113_2, .string t113_3, .string t113_4] ∧
                      CallsH Tryz.prog F.copies_Table_Ready #[.pointer none, .agg #[.bool t113_0, .int .u64 t113_1, .int .u64 t113_2, .string t113_3, .string t113_4]] h_33 fun v_24 h_34 =>
                      ∃ (t114 : Int), v_24 = .int .i64 t114 ∧
                      CallsH Tryz.prog F.copies_Table_All #[.pointer (some ⟨b_2, 0, none⟩)] h_34 fun v_25 h_35 =>
                      ∃ (t116_p : Option Addr) (t116_l t116_c : Nat), v_25 = .slice t116_p t116_l t116_c ∧
                      CallsH Tryz.prog F.copies_Table_Save #[.pointer none] h_35 fun v_26 h_36 =>
                      ∃ (t120_p : Option Addr) (t120_l t120_c : Nat), v_26 = .slice t120_p t120_l t120_c ∧
                      if ((IntKind.wrap .i64 ((IntKind.wrap .i64 ((IntKind.wrap .i64 ((IntKind.wrap .i64 (((t106_l : Nat) : Int) + ((t109_l : Nat) : Int))) + t114)) + ((t116_l : Nat) : Int))) + ((t120_l : Nat) : Int))) == 0) = true then
                        CallsH Tryz.prog F.copies_Table_Counts #[.pointer (some ⟨b_2, 0, none⟩)] h_36 fun v_27 h_37 =>
                        ∃ (t126_0 : Int), ∃ (t126_1 : Int), ∃ (t126_2 : Int), ∃ (t126_3 : Int), ∃ (t126_4 : Int), ∃ (t126_5 : Int), v_27 = .agg #[.int .i64 t126_0, .int .i64 t126_1, .int .i64 t126_2, .int .i64 t126_3, .int .i64 t126_4, .int .i64 t126_5] ∧
                        ∃ (eq : Bool), EqV Tryz.prog T.a6_int (.agg #[.int .i64 t126_0, .int .i64 t126_1, .int .i64 t126_2, .int .i64 t126_3, .int .i64 t126_4, .int .i64 t126_5]) (.agg #[.int .i64 0, .int .i64 0, .int .i64 0, .int .i64 0, .int .i64 0, .int .i64 0]) eq ∧
                        R (.bool eq) h_37
                      else
                        R (.bool false) h_36
                    else
                      R (.bool false) h_29
                  else
                    R (.bool false) h_28
                else
                  R (.bool false) h_27
              else
                R (.bool false) h_27
            else
              R (.bool false) h_27
          else
            R (.bool false) h_24)
      (fun J =>
        if (decide (i < ((ops_l : Nat) : Int))) = true then
          J (decide (i < 80)) h_5
        else
          J false h_5)
theorem law21_CopiesLives.den_eq (ops_p : Option Addr) (ops_l ops_c : Nat) (ask_0 : Bool) (ask_1 : Int) (ask_2 : Int) (ask_3 : ByteArray) (ask_4 : ByteArray) (h : Heap) (R : Value → Heap → Prop) : law21_CopiesLives.vc ops_p ops_l ops_c ask_0 ask_1 ask_2 ask_3 ask_4 h R = den Tryz.prog Tryz.f3.ntmps (.seq .leaf (.seq .leaf (.seq (.seq .leaf (.cond (.seq .leaf .leaf) .leaf)) (.seq (.seq .leaf (.block (.loop [(7, .one (.int .i64))] (.seq (.seq (.join [(33, .one (.bool))] .leaf) (.cond .leaf .leaf)) (.seq (.block (.seq (.seq .leaf (.cond (.seq .leaf .leaf) .leaf)) (.seq (.join [(65, .one (.bool))] (.plan (.op 0 (.op 1 (.op 2 (.op 3 (.op 4 (.op 5 (.op 6 (.op 7 (.op 8 (.op 9 (.op 10 (.op 11 (.op 12 (.op 13 (.op 14 (.op 15 (.op 16 (.op 18 (.op 19 (.op 17 (.op 20 (.op 21 (.op 22 (.op 23 .done)))))))))))))))))))))))))) (.cond (.seq .leaf .leaf) .leaf)))) .leaf))))) (.seq .leaf (.seq .leaf (.seq .leaf (.seq .leaf (.seq .leaf .leaf))))))))) none (bodyOf Tryz.f3) (retK Tryz.prog Tryz.f3.results R) (argEnv [.slice ops_p ops_l ops_c, .agg #[.bool ask_0, .int .u64 ask_1, .int .u64 ask_2, .string ask_3, .string ask_4]]) h := by kernel_rfl
theorem law21_CopiesLives.walk {ops_p : Option Addr} {ops_l ops_c : Nat} {ask_0 : Bool} {ask_1 : Int} {ask_2 : Int} {ask_3 : ByteArray} {ask_4 : ByteArray} {h : Heap} {R : Value → Heap → Prop} (hv : law21_CopiesLives.vc ops_p ops_l ops_c ask_0 ask_1 ask_2 ask_3 ask_4 h R) : CallsH Tryz.prog F.law21_CopiesLives #[.slice ops_p ops_l ops_c, .agg #[.bool ask_0, .int .u64 ask_1, .int .u64 ask_2, .string ask_3, .string ask_4]] h R :=
  callsH_of_body _ Tryz.func3 rfl rfl (Eq.mp (law21_CopiesLives.den_eq ops_p ops_l ops_c ask_0 ask_1 ask_2 ask_3 ask_4 h R) hv)

end Go.Proofs.YtgccegnmggjkjaaGreatDoor
