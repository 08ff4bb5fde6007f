/-
  What is proved here: plain: a box and the document's stay alike when time goes by, and where one is cancelled. No program in sight. No condition.
-/
import Derived.Test.YtlonfpolnmiglaaRel23
set_option maxRecDepth 100000
namespace Go.Proofs.Ytlonfpolnmiglaa
open Go.Den Go.Fields Go.Heapq
namespace Rbx
open Fld Obx
variable {Ls : List RI} {s : BS}

theorem sorted_ext : ∀ {l l' : List E}, Sorted l → Sorted l' → (∀ e, e ∈ l ↔ e ∈ l') → l = l'
  | [], [], _, _, _ => rfl
  | [], a :: _, _, _, hm => by have := (hm a).2 (by simp); cases this
  | a :: _, [], _, _, hm => by have := (hm a).1 (by simp); cases this
  | a :: l, b :: l', h, h', hm => by
    obtain ⟨h1, h2⟩ := List.pairwise_cons.1 h
    obtain ⟨g1, g2⟩ := List.pairwise_cons.1 h'
    have e : a = b := by
      rcases List.mem_cons.1 ((hm a).1 (by simp)) with e | e
      · exact e
      · rcases List.mem_cons.1 ((hm b).2 (by simp)) with e2 | e2
        · exact e2.symm
        · exact absurd (lt_trans (h1 b e2) (g1 a e)) (lt_irrefl a)
    subst e
    rw [sorted_ext h2 g2 fun x => ⟨fun hx => ?_, fun hx => ?_⟩]
    · rcases List.mem_cons.1 ((hm x).1 (List.mem_cons_of_mem _ hx)) with e | e
      · subst e; exact absurd (h1 x hx) (lt_irrefl x)
      · exact e
    · rcases List.mem_cons.1 ((hm x).2 (List.mem_cons_of_mem _ hx)) with e | e
      · subst e; exact absurd (g1 x hx) (lt_irrefl x)
      · exact e
theorem Rel.mem (R : Rel s Ls) {x : It} : x ∈ s.items ↔ ∃ (i : Nat) (y : RI), Ls[i]? = some y ∧ y.fate = 1 ∧ y.it = x := by
  rw [R.there, List.mem_map]
  constructor
  · rintro ⟨y, hy, rfl⟩
    obtain ⟨h1, h2⟩ := List.mem_filter.1 hy
    obtain ⟨i, hi⟩ := List.getElem?_of_mem h1
    exact ⟨i, y, hi, of_decide_eq_true h2, rfl⟩
  · rintro ⟨i, y, hi, hf, rfl⟩
    exact ⟨y, List.mem_filter.2 ⟨List.mem_of_getElem? hi, decide_eq_true hf⟩, rfl⟩
theorem Rel.cancE1 (R : Rel s Ls) {i : Nat} {y : RI} {owner : Int} (h : Ls[i]? = some y) (hy : y.fate = 1) : cancE s ((i : Int) + 1) owner = if y.it.owner = owner then 0 else 13 := by
  unfold cancE
  have hm : y.it ∈ s.items := R.mem.2 ⟨i, y, h, hy, rfl⟩
  have hn := R.nums i y h
  cases e : idxI s.items ((i : Int) + 1) with
  | none => exact absurd (by rw [hn]; rfl) (idx_none e y.it hm)
  | some j =>
    obtain ⟨x, hx, hxn⟩ := idx_some e
    obtain ⟨i', y', h', _, rfl⟩ := R.mem.1 (List.mem_of_getElem? hx)
    have := R.nums i' y' h'
    obtain rfl : i' = i := by omega
    rw [h] at h'
    obtain rfl := Option.some.inj h'
    dsimp only
    rw [hx]
theorem Rel.cancE0 (R : Rel s Ls) {num owner : Int} (h : ∀ (i : Nat) y, num = (i : Int) + 1 → Ls[i]? = some y → y.fate ≠ 1) : cancE s num owner = 4 := by
  unfold cancE
  cases e : idxI s.items num with
  | none => rfl
  | some j =>
    obtain ⟨x, hx, hxn⟩ := idx_some e
    obtain ⟨i', y', h', hf, rfl⟩ := R.mem.1 (List.mem_of_getElem? hx)
    have := R.nums i' y' h'
    exact absurd hf (h i' y' (by omega) h')

/-! ### time goes by -/
def isDueR (now : Nat) (y : RI) : Bool := decide (y.fate = 1) && decide ((y.it.till : Int) ≤ (now : Int))
def overM (now : Nat) (y : RI) : RI := if isDueR now y = true then ⟨y.it, 4⟩ else y
theorem over_map {now : Nat} {ms : List Nat} (hm : ∀ i, i ∈ ms ↔ ∃ y, Ls[i]? = some y ∧ dueR (now : Int) y) : overL Ls ms = Ls.map (overM now) := by
  apply List.ext_getElem?
  intro i
  rw [overL_at, List.getElem?_map]
  cases e : Ls[i]? with
  | none => rfl
  | some y =>
    simp only [Option.map_some, Option.some.injEq]
    unfold overM isDueR
    by_cases hd : dueR (now : Int) y
    · rw [if_pos ((hm i).2 ⟨y, e, hd⟩), if_pos (by rw [decide_eq_true hd.1, decide_eq_true hd.2]; rfl)]
    · rw [if_neg, if_neg]
      · intro h
        rw [Bool.and_eq_true, decide_eq_true_eq, decide_eq_true_eq] at h
        exact hd h
      · intro h
        obtain ⟨y', e', hd'⟩ := (hm i).1 h
        rw [e] at e'
        exact hd (Option.some.inj e' ▸ hd')
theorem over_there (now : Nat) : ∀ Ls : List RI, ((Ls.map (overM now)).filter (fun y => decide (y.fate = 1))).map RI.it = ((Ls.filter (fun y => decide (y.fate = 1))).map RI.it).filter (fun x => decide ((now : Int) < (x.till : Int)))
  | [] => rfl
  | y :: r => by
    have ih := over_there now r
    rw [List.map_cons, List.filter_cons, List.filter_cons]
    by_cases hf : y.fate = 1
    · rw [if_pos (c := decide (y.fate = 1) = true) (by simpa using hf), List.map_cons, List.filter_cons]
      unfold overM isDueR
      by_cases ht : (y.it.till : Int) ≤ (now : Int)
      · have ht2 : ¬ (now : Int) < (y.it.till : Int) := by omega
        simp only [hf, ht, ht2, decide_true, Bool.and_self, if_true, decide_false, Bool.false_eq_true, if_false]
        exact ih
      · have ht2 : (now : Int) < (y.it.till : Int) := by omega
        simp only [hf, ht, ht2, decide_true, Bool.and_false, decide_false, Bool.false_eq_true, if_false, if_true, List.map_cons]
        rw [← ih]; rfl
    · rw [if_neg (c := decide (y.fate = 1) = true) (by simpa using hf)]
      have : overM now y = y := by unfold overM isDueR; simp [hf]
      rw [this, if_neg (by simpa using hf)]
      exact ih
theorem over_cnt (now f : Nat) (hf : f ≠ 1) : ∀ Ls : List RI, cnt (Ls.map (overM now)) f = cnt Ls f + if f = 4 then (((Ls.filter (fun y => decide (y.fate = 1))).map RI.it).filter (fun x => decide ((x.till : Int) ≤ (now : Int)))).length else 0
  | [] => by unfold cnt; simp
  | y :: r => by
    have ih := over_cnt now f hf r
    unfold cnt at ih ⊢
    rw [List.map_cons, List.filter_cons, List.filter_cons, List.filter_cons]
    by_cases h1 : y.fate = 1
    · rw [if_pos (c := decide (y.fate = 1) = true) (by simpa using h1), List.map_cons, List.filter_cons, if_neg (c := decide (y.fate = f) = true) (by simp; omega)]
      by_cases ht : (y.it.till : Int) ≤ (now : Int)
      · have e : overM now y = ⟨y.it, 4⟩ := by unfold overM isDueR; simp [h1, ht]
        rw [e, if_pos (c := decide ((y.it.till : Int) ≤ (now : Int)) = true) (by simpa using ht), List.length_cons]
        by_cases h4 : f = 4
        · subst h4
          simp only [decide_true, if_true, List.length_cons] at ih ⊢
          omega
        · have : ¬ 4 = f := fun e => h4 e.symm
          simp only [this, decide_false, Bool.false_eq_true, if_false, h4] at ih ⊢
          exact ih
      · have e : overM now y = y := by unfold overM isDueR; simp [ht]
        rw [e, if_neg (c := decide ((y.it.till : Int) ≤ (now : Int)) = true) (by simpa using ht), if_neg (by simp; omega)]
        exact ih
    · rw [if_neg (c := decide (y.fate = 1) = true) (by simpa using h1)]
      have e : overM now y = y := by unfold overM isDueR; simp [h1]
      rw [e]
      split
      · rw [List.length_cons, List.length_cons, ih]; omega
      · exact ih
theorem over_keep (now : Nat) (y : RI) : (overM now y).it = y.it ∧ ((overM now y).fate = y.fate ∨ (overM now y).fate = 4) := by
  unfold overM
  split
  · exact ⟨rfl, .inr rfl⟩
  · exact ⟨rfl, .inl rfl⟩
theorem Rel.pass (R : Rel s Ls) {now : Nat} {ms : List Nat} {ys : List IV} {D : List E} (hm : ∀ i, i ∈ ms ↔ ∃ y, Ls[i]? = some y ∧ dueR (now : Int) y) (hs : (ms.map (kvR Ls)).Pairwise Heapq.lt)
    (kv : (ys.map IV.abs).map It.kv = D) (so : Sorted D) (pm : D.Perm ((s.items.filter (fun x => decide ((x.till : Int) ≤ (now : Int)))).map It.kv)) (sub : ∀ y ∈ ys, y.abs ∈ s.items) :
    ys.length = ms.length ∧ (∀ (k m : Nat) v, ms[k]? = some m → ys[k]? = some v → ∃ y, Ls[m]? = some y ∧ v.abs = y.it) ∧ Rel { s with items := s.items.filter (fun x => decide ((now : Int) < (x.till : Int))), over := s.over + ys.length } (overL Ls ms) := by
  have eD : D = ms.map (kvR Ls) := by
    refine sorted_ext so hs fun e => ?_
    rw [pm.mem_iff, List.mem_map, List.mem_map]
    constructor
    · rintro ⟨x, hx, rfl⟩
      obtain ⟨h1, h2⟩ := List.mem_filter.1 hx
      obtain ⟨i, y, hi, hf, rfl⟩ := R.mem.1 h1
      refine ⟨i, (hm i).2 ⟨y, hi, hf, of_decide_eq_true h2⟩, ?_⟩
      unfold kvR It.kv
      rw [hi, R.nums i y hi]; rfl
    · rintro ⟨i, hi, rfl⟩
      obtain ⟨y, hy, hf, ht⟩ := (hm i).1 hi
      refine ⟨y.it, List.mem_filter.2 ⟨R.mem.2 ⟨i, y, hy, hf, rfl⟩, decide_eq_true ht⟩, ?_⟩
      unfold kvR It.kv
      rw [hy, R.nums i y hy]; rfl
  have ely : ys.length = ms.length := by
    have := congrArg List.length (kv.trans eD)
    simpa using this
  have elp : ys.length = (s.items.filter (fun x => decide ((x.till : Int) ≤ (now : Int)))).length := by
    have h1 := congrArg List.length kv
    have h2 := pm.length_eq
    simp only [List.length_map] at h1 h2
    omega
  refine ⟨ely, fun k m v h1 h2 => ?_, ?_⟩
  · obtain ⟨i, y, hi, hf, he⟩ := R.mem.1 (sub v (List.mem_of_getElem? h2))
    have e1 : ((ys.map IV.abs).map It.kv)[k]? = some v.abs.kv := by rw [List.getElem?_map, List.getElem?_map, h2]; rfl
    rw [kv, eD, List.getElem?_map, h1] at e1
    have e2 := congrArg Prod.fst (Option.some.inj e1)
    have e3 : ((m + 1 : Nat) : Int) = (v.abs.num : Int) := e2
    rw [← he, R.nums i y hi] at e3
    obtain rfl : m = i := by omega
    exact ⟨y, hi, he.symm⟩
  · rw [over_map hm]
    refine ⟨?_, ?_, ?_, ?_, ?_, ?_, ?_⟩
    · show s.items.filter _ = _
      rw [over_there, ← R.there]
    · show s.next = _
      rw [List.length_map]; exact R.next
    · show s.taken = _
      rw [over_cnt now 2 (by omega), R.taken]; rfl
    · show s.canc = _
      rw [over_cnt now 3 (by omega), R.canc]; rfl
    · show s.over + ys.length = _
      rw [over_cnt now 4 (by omega), R.over, if_pos rfl, ← R.there, elp]
    · intro y hy
      obtain ⟨z, hz, rfl⟩ := List.mem_map.1 hy
      have := R.fates z hz
      rcases (over_keep now z).2 with e | e <;> rw [e] <;> omega
    · intro i y hy
      rw [List.getElem?_map] at hy
      cases e : Ls[i]? with
      | none => rw [e] at hy; cases hy
      | some z =>
        rw [e] at hy
        obtain rfl := Option.some.inj hy
        rw [(over_keep now z).1]
        exact R.nums i z e
end Rbx
end Go.Proofs.Ytlonfpolnmiglaa
