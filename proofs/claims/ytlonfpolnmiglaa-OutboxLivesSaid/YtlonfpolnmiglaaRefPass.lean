/-
  What is proved here: the document's box (package ref23) in memory: Pass. No condition.
-/
import Derived.Test.YtlonfpolnmiglaaSame23
set_option maxRecDepth 100000
namespace Go.Proofs.Ytlonfpolnmiglaa
open Go.Den Go.Fields
namespace Rbx
open Fld Obx
variable {h h' h0 : Heap} {x b : Nat} {X Y : Ft} {R : Value → Heap → Prop} {p q : Option Addr} {c d i : Nat} {Ls : List RI} {s : BS}

/-- those at these places are over -/
def overL (Ls : List RI) (ms : List Nat) : List RI := Ls.mapIdx (fun i y => if i ∈ ms then ⟨y.it, 4⟩ else y)
theorem overL_nil : overL Ls [] = Ls := by
  unfold overL
  apply List.ext_getElem?
  intro i
  rw [List.getElem?_mapIdx]
  cases Ls[i]? <;> simp
theorem overL_len (ms : List Nat) : (overL Ls ms).length = Ls.length := by unfold overL; rw [List.length_mapIdx]
theorem overL_at {ms : List Nat} {i : Nat} : (overL Ls ms)[i]? = (Ls[i]?).map (fun y => if i ∈ ms then ⟨y.it, 4⟩ else y) := by unfold overL; rw [List.getElem?_mapIdx]
theorem overL_set {ms : List Nat} {j : Nat} {y : RI} (hy : (overL Ls ms)[j]? = some y) : (overL Ls ms).set j { y with fate := 4 } = overL Ls (ms ++ [j]) := by
  apply List.ext_getElem?
  intro i
  rw [List.getElem?_set, overL_at, overL_at]
  rw [overL_at] at hy
  by_cases e : j = i
  · subst e
    cases hL : Ls[j]? with
    | none => rw [hL] at hy; cases hy
    | some z =>
      rw [hL] at hy
      have hy := Option.some.inj hy
      have hlt : j < (overL Ls ms).length := by rw [overL_len]; exact (List.getElem?_eq_some_iff.1 hL).1
      rw [if_pos rfl, if_pos hlt]
      simp only [Option.map_some, List.mem_append, List.mem_singleton, or_true, if_true]
      rw [← hy]
      split <;> rfl
  · rw [if_neg e]
    cases hL : Ls[i]? with
    | none => rfl
    | some z =>
      have : ¬ i = j := fun h => e h.symm
      simp [this]
/-- has it come? -/
def dueR (now : Int) (y : RI) : Prop := y.fate = 1 ∧ (y.it.till : Int) ≤ now
/-- the first of those that have come -/
def least (Ls : List RI) (now : Int) (k : Nat) (m : Nat) : Prop := ∃ y, Ls[m]? = some y ∧ m < k ∧ dueR now y ∧ ∀ j z, j < k → Ls[j]? = some z → dueR now z → y.it.till < z.it.till ∨ (y.it.till = z.it.till ∧ m ≤ j)
theorem pick_ok {now : Int} {K : Int → Heap → Prop} (H : Rb h x X Ls) (hl : Ls.length ≤ 1000000)
    (k1 : ∀ m, least Ls now Ls.length m → K (m : Int) h) (k2 : (∀ z ∈ Ls, ¬ dueR now z) → K (-1) h) :
    ∃ (I_1 : Int → Int → Heap → Prop) (mu_1 : Int → Int → Heap → Nat), I_1 (-1) 0 h ∧ ∀ (best : Int) (i : Int) (h_2 : Heap), I_1 best i h_2 →
      ∃ (t12_p : Option Addr) (t12_l t12_c : Nat), hcell h_2 ⟨x, 0, none⟩ = some (.slice t12_p t12_l t12_c) ∧
      if (decide (i < ((t12_l : Nat) : Int))) = true then
        JoinP (fun (best_1 : Int) (h_3 : Heap) =>
          (I_1 best_1 (IntKind.wrap .i64 (i + 1)) h_3 ∧ mu_1 best_1 (IntKind.wrap .i64 (i + 1)) h_3 < mu_1 best i h_2))
        (fun J =>
          JoinP (fun (t60 : Bool) (h_4 : Heap) =>
            JoinP (fun (best_2 : Int) (h_5 : Heap) =>
              J best_2 h_5)
            (fun J_2 =>
              if t60 = true then
                J_2 i h_4
              else
                J_2 best h_4))
          (fun J_1 =>
            ∃ (t20_p : Option Addr) (t20_l t20_c : Nat), hcell h_2 ⟨x, 0, none⟩ = some (.slice t20_p t20_l t20_c) ∧
            ((0 : Int) ≤ i ∧ i < ((t20_l : Nat) : Int)) ∧
            onSome t20_p fun a =>
            ∃ (t24 : Int), hcell h_2 ((a.add (Int.toNat i * 5)).add 4) = some (.int .i64 t24) ∧
            if (t24 == 1) = true then
              ∃ (t30_p : Option Addr) (t30_l t30_c : Nat), hcell h_2 ⟨x, 0, none⟩ = some (.slice t30_p t30_l t30_c) ∧
              ((0 : Int) ≤ i ∧ i < ((t30_l : Nat) : Int)) ∧
              onSome t30_p fun a_1 =>
              ∃ (t34 : Int), hcell h_2 ((a_1.add (Int.toNat i * 5)).add 3) = some (.int .u64 t34) ∧
              if (decide (t34 ≤ now)) = true then
                if (decide (best < 0)) = true then
                  J_1 true h_2
                else
                  ∃ (t45_p : Option Addr) (t45_l t45_c : Nat), hcell h_2 ⟨x, 0, none⟩ = some (.slice t45_p t45_l t45_c) ∧
                  ((0 : Int) ≤ i ∧ i < ((t45_l : Nat) : Int)) ∧
                  onSome t45_p fun a_2 =>
                  ∃ (t49 : Int), hcell h_2 ((a_2.add (Int.toNat i * 5)).add 3) = some (.int .u64 t49) ∧
                  ∃ (t53_p : Option Addr) (t53_l t53_c : Nat), hcell h_2 ⟨x, 0, none⟩ = some (.slice t53_p t53_l t53_c) ∧
                  ((0 : Int) ≤ best ∧ best < ((t53_l : Nat) : Int)) ∧
                  onSome t53_p fun a_3 =>
                  ∃ (t57 : Int), hcell h_2 ((a_3.add (Int.toNat best * 5)).add 3) = some (.int .u64 t57) ∧
                  J_1 (decide (t49 < t57)) h_2
              else
                J_1 false h_2
            else
              J_1 false h_2))
      else
        K best h_2 := by
  obtain ⟨lp, lc, xs, H⟩ := H
  have hlen := H.len
  refine ⟨fun best i g => g = h ∧ ∃ k : Nat, i = (k : Int) ∧ k ≤ xs.length ∧ ((best = -1 ∧ ∀ j z, j < k → Ls[j]? = some z → ¬ dueR now z) ∨ ∃ m : Nat, best = (m : Int) ∧ least Ls now k m), fun _ i _ => xs.length - i.toNat, ⟨rfl, 0, rfl, by omega, .inl ⟨rfl, fun j z hj => by omega⟩⟩, ?_⟩
  rintro best _ g ⟨rfl, k, rfl, hkn, hbest⟩
  refine ⟨_, _, _, cell_at H.blk rfl, ?_⟩
  by_cases hlt : k < xs.length
  · have q1 : (k : Int) < ((xs.length : Nat) : Int) := by omega
    simp only [q1, decide_true, if_true, Int.toNat_natCast]
    have hx : xs[k]? = some xs[k] := List.getElem?_eq_getElem hlt
    generalize xs[k] = v at hx
    have hLk : Ls[k]? = some v.abs := by rw [← H.abs, List.getElem?_map, hx]; rfl
    obtain ⟨ab, aoff, rfl⟩ := H.own.addr (by omega)
    have held := H.own.heldAt renc_len hx
    refine JoinP.of fun J hJ => JoinP.of fun J1 hJ1 => ?_
    have wr : IntKind.wrap .i64 ((k : Int) + 1) = (k : Int) + 1 := wrap_id (by omega) (by omega)
    have go : ∀ best' : Int, ((best' = -1 ∧ ∀ j z, j < k + 1 → Ls[j]? = some z → ¬ dueR now z) ∨ ∃ m : Nat, best' = (m : Int) ∧ least Ls now (k + 1) m) → J best' g := by
      intro best' hb'
      subst hJ
      try dsimp only
      rw [wr]
      exact ⟨⟨by first | trivial | rfl, k + 1, by omega, by omega, hb'⟩, by show xs.length - Int.toNat ((k : Int) + 1) < xs.length - k; omega⟩
    have stay : ¬ dueR now v.abs → J1 false g := by
      intro hnd
      subst hJ1
      refine JoinP.of fun J2 hJ2 => ?_
      subst hJ2
      simp only [Bool.false_eq_true, if_false]
      refine go best ?_
      rcases hbest with ⟨e, hno⟩ | ⟨m, e, y, hy, hm, hd, hmin⟩
      · refine .inl ⟨e, fun j z hj hz => ?_⟩
        by_cases ej : j = k
        · subst ej; rw [hLk] at hz; obtain rfl := Option.some.inj hz; exact hnd
        · exact hno j z (by omega) hz
      · refine .inr ⟨m, e, y, hy, by omega, hd, fun j z hj hz hdz => ?_⟩
        by_cases ej : j = k
        · subst ej; rw [hLk] at hz; obtain rfl := Option.some.inj hz; exact absurd hdz hnd
        · exact hmin j z (by omega) hz hdz
    refine ⟨_, _, _, cell_at H.blk rfl, ⟨by first | trivial | omega, by first | trivial | omega⟩, onSome_some.2 ⟨(v.fate : Int), held.2.2.2.2.1, ?_⟩⟩
    by_cases hf : v.fate = 1
    · rw [if_pos (by rw [hf]; rfl)]
      refine ⟨_, _, _, cell_at H.blk rfl, ⟨by first | trivial | omega, by first | trivial | omega⟩, onSome_some.2 ⟨(v.till : Int), held.2.2.2.1, ?_⟩⟩
      by_cases ht : (v.till : Int) ≤ now
      · have hdv : dueR now v.abs := ⟨hf, ht⟩
        simp only [ht, decide_true, if_true]
        rcases hbest with ⟨e, hno⟩ | ⟨m, e, y, hy, hm, hd, hmin⟩
        · rw [if_pos (by rw [e]; decide)]
          subst hJ1
          refine JoinP.of fun J2 hJ2 => ?_
          subst hJ2
          simp only [if_true]
          refine go (k : Int) (.inr ⟨k, rfl, v.abs, hLk, by omega, hdv, fun j z hj hz hdz => ?_⟩)
          by_cases ej : j = k
          · subst ej; rw [hLk] at hz; obtain rfl := Option.some.inj hz; exact .inr ⟨rfl, Nat.le_refl _⟩
          · exact absurd hdz (hno j z (by omega) hz)
        · have q2 : ¬ best < 0 := by omega
          simp only [q2, decide_false, Bool.false_eq_true, if_false]
          obtain ⟨w, hw, hwa⟩ := H.get hy
          have heldw := H.own.heldAt renc_len hw
          refine ⟨_, _, _, cell_at H.blk rfl, ⟨by first | trivial | omega, by first | trivial | omega⟩, onSome_some.2 ⟨(v.till : Int), held.2.2.2.1, _, _, _, cell_at H.blk rfl, ⟨by omega, by omega⟩, onSome_some.2 ⟨(w.till : Int), by rw [e, Int.toNat_natCast]; exact heldw.2.2.2.1, ?_⟩⟩⟩
          have hwt : w.till = y.it.till := congrArg (fun r : RI => r.it.till) hwa
          subst hJ1
          refine JoinP.of fun J2 hJ2 => ?_
          subst hJ2
          by_cases hlt2 : v.till < w.till
          · have : (v.till : Int) < (w.till : Int) := by omega
            simp only [this, decide_true, if_true]
            refine go (k : Int) (.inr ⟨k, rfl, v.abs, hLk, by omega, hdv, fun j z hj hz hdz => ?_⟩)
            have hvt : v.abs.it.till = v.till := rfl
            by_cases ej : j = k
            · subst ej; rw [hLk] at hz; obtain rfl := Option.some.inj hz; exact .inr ⟨rfl, Nat.le_refl _⟩
            · rcases hmin j z (by omega) hz hdz with h1 | h1
              · left; omega
              · left; omega
          · have : ¬ (v.till : Int) < (w.till : Int) := by omega
            simp only [this, decide_false, Bool.false_eq_true, if_false]
            refine go best (.inr ⟨m, e, y, hy, by omega, hd, fun j z hj hz hdz => ?_⟩)
            by_cases ej : j = k
            · subst ej
              rw [hLk] at hz
              obtain rfl := Option.some.inj hz
              have hvt : v.abs.it.till = v.till := rfl
              rcases Nat.lt_or_ge y.it.till v.till with h1 | h1
              · left; omega
              · right; exact ⟨by omega, by omega⟩
            · exact hmin j z (by omega) hz hdz
      · simp only [ht, decide_false, Bool.false_eq_true, if_false]
        exact stay (fun hd => ht hd.2)
    · have hfi : ¬ ((v.fate : Int) == 1) = true := by simp only [beq_iff_eq]; omega
      rw [if_neg hfi]
      exact stay (fun hd => hf hd.1)
  · have q1 : ¬ (k : Int) < ((xs.length : Nat) : Int) := by omega
    simp only [q1, decide_false, Bool.false_eq_true, if_false]
    obtain rfl : k = xs.length := by omega
    rcases hbest with ⟨rfl, hno⟩ | ⟨m, rfl, hm⟩
    · refine k2 fun z hz => ?_
      obtain ⟨j, hj⟩ := List.getElem?_of_mem hz
      exact hno j z (by have := (List.getElem?_eq_some_iff.1 hj).1; omega) hj
    · rw [hlen] at hm
      exact k1 m hm

/-- the key and the time at a place -/
def kvR (Ls : List RI) (i : Nat) : Heapq.E := (((i + 1 : Nat) : Int), (((Ls[i]?).map (fun y => (y.it.till : Int))).getD 0))
theorem nodup_le : ∀ {n : Nat} {ms : List Nat}, ms.Nodup → (∀ i ∈ ms, i < n) → ms.length ≤ n
  | 0, ms, _, hb => by
    cases ms with
    | nil => simp
    | cons a r => have := hb a (by simp); omega
  | n + 1, ms, hn, hb => by
    have h1 := nodup_le (n := n) (ms := ms.erase n) (hn.erase n) (fun i hi => by
      have h2 := (List.Nodup.mem_erase_iff hn).1 hi
      have := hb i h2.2
      omega)
    have h3 : (ms.erase n).length = if n ∈ ms then ms.length - 1 else ms.length := List.length_erase ..
    split at h3 <;> omega
theorem uSI : Try.prog.underlying T.s_int = some (.slice T.int) := by kernel_rfl
theorem pass_ok {k : Int} (now : Nat) (hk0 : k = (now : Int)) (H : Rb h x X Ls) (hl : Ls.length ≤ 1000000)
    (hk : ∀ h' p' c' (ms : List Nat), Own h' p' ms.length c' 1 (ms.map fun (i : Nat) => .int .i64 (i : Int)) → (∀ y, inBlk p' y → h.size ≤ y) → Rb h' x X (overL Ls ms) → StepF X h X h' →
      (ms.map (kvR Ls)).Pairwise Heapq.lt → (∀ i, i ∈ ms ↔ ∃ y, Ls[i]? = some y ∧ dueR (now : Int) y) → R (.slice p' ms.length c') h') :
    CallsH Try.prog F.ref23_Box_Pass #[.pointer (some ⟨x, 0, none⟩), .int .u64 k] h R := by
  subst hk0
  refine ref23_Box_Pass.walk ?_
  refine ⟨fun op ol oc g => ∃ ms : List Nat, ol = ms.length ∧ Own g op ol oc 1 (ms.map fun (i : Nat) => .int .i64 (i : Int)) ∧ (∀ y, inBlk op y → h.size ≤ y) ∧ Rb g x X (overL Ls ms) ∧ StepF X h X g ∧ (ms.map (kvR Ls)).Pairwise Heapq.lt ∧ ms.Nodup ∧ (∀ i ∈ ms, ∃ y, Ls[i]? = some y ∧ dueR (now : Int) y) ∧ (∀ m ∈ ms, ∀ i y, i ∉ ms → Ls[i]? = some y → dueR (now : Int) y → Heapq.lt (kvR Ls m) (kvR Ls i)), fun _ ol _ _ => Ls.length - ol,
    ⟨[], rfl, .nil rfl rfl rfl rfl, (fun y ⟨a, e, _⟩ => by cases e), by rw [overL_nil]; exact H, StepF.refl _ _, .nil, .nil, (fun i hi => by cases hi), fun m hm => by cases hm⟩, ?_⟩
  rintro op ol oc g ⟨ms, rfl, o, hop, B, st, hs, hnd, hdue, hmin⟩
  have hlen : (overL Ls ms).length = Ls.length := overL_len ms
  have mlt : ∀ i ∈ ms, i < Ls.length := fun i hi => by
    obtain ⟨y, hy, _⟩ := hdue i hi
    exact (List.getElem?_eq_some_iff.1 hy).1
  have hml := nodup_le hnd mlt
  refine pick_ok (now := (now : Int)) B (by omega) (fun m hm => ?_) (fun hno => ?_)
  · obtain ⟨y, hy, hmk, hd, hleast⟩ := hm
    have q : ¬ (m : Int) < 0 := by omega
    simp only [q, decide_false, Bool.false_eq_true, if_false, Int.toNat_natCast]
    -- it is one of the old ones, and not over yet
    have hold : m ∉ ms ∧ Ls[m]? = some y := by
      rw [overL_at] at hy
      cases hL : Ls[m]? with
      | none => rw [hL] at hy; cases hy
      | some z =>
        rw [hL] at hy
        have hy := Option.some.inj hy
        dsimp only at hy
        by_cases hmem : m ∈ ms
        · rw [if_pos hmem] at hy
          have := hd.1
          rw [← hy] at this
          cases this
        · rw [if_neg hmem] at hy
          exact ⟨hmem, by rw [hy]⟩
    have hml2 := nodup_le (n := Ls.length) (ms := ms ++ [m]) (List.nodup_append.2 ⟨hnd, by simp, fun a ha b hb e => by simp at hb; subst hb; exact hold.1 (e ▸ ha)⟩) (fun i hi => by
      rcases List.mem_append.1 hi with hi | hi
      · exact mlt i hi
      · obtain rfl := List.mem_singleton.1 hi
        exact (List.getElem?_eq_some_iff.1 hold.2).1)
    rw [List.length_append, List.length_singleton] at hml2
    refine den_append1 Alarm.tI uSI o rfl (fun v hv => by simp at hv; subst hv; rfl) (by omega) (by omega) fun p7 c7 h7 o7 f7 g7 => ⟨_, _, _, rfl, ?_⟩
    obtain ⟨lp, lc, xs, M⟩ := B
    have zz := st.fr.1
    have nop : ∀ y, X.M y ∨ X.D y → ¬ inBlk op y := fun y hy hq => by have := H.lt y hy; have := hop y hq; omega
    have M7 := M.frame f7 nop
    have hxl := M7.len
    rw [hlen] at hmk
    obtain ⟨ab, aoff, rfl⟩ := M7.own.addr (by omega)
    refine ⟨_, _, _, cell_at M7.blk rfl, ⟨by first | trivial | omega, by first | trivial | omega⟩, onSome_some.2 (M7.fate hy 4 fun h8 B8 s8 => ?_)⟩
    rw [overL_set hy] at B8
    have hop7 : ∀ y, inBlk p7 y → h.size ≤ y := fun y hy => (g7 y hy).elim (hop y) (fun h2 => by omega)
    have s7 : StepF X h X h7 := by
      refine ⟨⟨Nat.le_trans st.fr.1 f7.1, fun y hy hn => ?_⟩, st.newM, st.newD, st.oldD⟩
      rw [f7.2 y (by omega) (fun hq => by have := hop y hq; omega)]
      exact st.fr.2 y hy hn
    have ltm : ∀ j z, j ∉ ms → j ≠ m → Ls[j]? = some z → dueR (now : Int) z → Heapq.lt (kvR Ls m) (kvR Ls j) := by
      intro j z hj hjm hz hdz
      have h1 : (overL Ls ms)[j]? = some z := by rw [overL_at, hz, Option.map_some, if_neg hj]
      have hjl := (List.getElem?_eq_some_iff.1 hz).1
      have h2 := hleast j z (by omega) h1 hdz
      unfold kvR Heapq.lt
      rw [hold.2, hz]
      simp only [Option.map_some, Option.getD_some]
      rcases h2 with h2 | h2
      · left; omega
      · right; omega
    refine ⟨⟨ms ++ [m], by rw [List.length_append]; rfl, ?_, hop7, B8, s7.trans s8, ?_, ?_, ?_, ?_⟩, by show Ls.length - (ms.length + 1) < Ls.length - ms.length; omega⟩
    · rw [List.map_append]
      exact o7.frame s8.fr (fun y hy hm => by have := H.lt y (.inl hm); have := hop7 y hy; omega)
    · rw [List.map_append, List.pairwise_append]
      refine ⟨hs, by simp, fun a ha b hb => ?_⟩
      simp at hb
      subst hb
      obtain ⟨m', hm', rfl⟩ := List.mem_map.1 ha
      exact hmin m' hm' m y hold.1 hold.2 hd
    · exact List.nodup_append.2 ⟨hnd, by simp, fun a ha b hb e => by simp at hb; subst hb; exact hold.1 (e ▸ ha)⟩
    · intro i hi
      rcases List.mem_append.1 hi with hi | hi
      · exact hdue i hi
      · obtain rfl := List.mem_singleton.1 hi
        exact ⟨y, hold.2, hd⟩
    · intro m' hm' i z hi hz hdz
      have hi1 : i ∉ ms := fun h => hi (List.mem_append_left _ h)
      have hi2 : i ≠ m := fun h => hi (by rw [h]; simp)
      rcases List.mem_append.1 hm' with hm' | hm'
      · exact hmin m' hm' i z hi1 hz hdz
      · obtain rfl := List.mem_singleton.1 hm'
        exact ltm i z hi1 hi2 hz hdz
  · rw [if_pos (by decide)]
    refine hk g op oc ms o hop B st hs (fun i => ⟨hdue i, fun ⟨y, hy, hdy⟩ => ?_⟩)
    apply Classical.byContradiction
    intro hni
    have h1 : (overL Ls ms)[i]? = some y := by rw [overL_at, hy, Option.map_some, if_neg hni]
    exact hno y (List.mem_of_getElem? h1) hdy
end Rbx
end Go.Proofs.Ytlonfpolnmiglaa
