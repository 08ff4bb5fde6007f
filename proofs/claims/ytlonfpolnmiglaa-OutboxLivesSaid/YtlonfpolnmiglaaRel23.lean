/-
  What is proved here: plain: a box and the document's stay alike. No program in sight. No condition.
-/
import Derived.Test.YtlonfpolnmiglaaRefSave
set_option maxRecDepth 100000
namespace Go.Proofs.Ytlonfpolnmiglaa
open Go.Den Go.Fields
namespace Rbx
open Fld Obx
variable {Ls : List RI} {s : BS}

theorem Rel.nil : Rel ⟨[], 1, 0, 0, 0⟩ [] := ⟨rfl, rfl, rfl, rfl, rfl, (fun y hy => by cases hy), fun i y h => by simp at h⟩
theorem cnt_append (A B : List RI) (f : Nat) : cnt (A ++ B) f = cnt A f + cnt B f := by unfold cnt; rw [List.filter_append, List.length_append]
theorem Rel.len (r : Rel s Ls) : s.items.length = cnt Ls 1 := by rw [r.there, List.length_map]; rfl
theorem Rel.addE (r : Rel s Ls) (owner : Int) (d : List UInt8) (till : Nat) : Obx.addE s owner d till = Rbx.addE Ls owner d till := by
  unfold Obx.addE Rbx.addE
  rw [r.len]
theorem Rel.add (r : Rel s Ls) (owner : Int) (d : List UInt8) (till : Nat) : Rel { s with items := s.items ++ [⟨s.next, owner, d, till⟩], next := s.next + 1 } (Ls ++ [⟨⟨Ls.length + 1, owner, d, till⟩, 1⟩]) := by
  refine ⟨?_, ?_, ?_, ?_, ?_, ?_, ?_⟩
  · show s.items ++ [_] = _
    rw [List.filter_append, List.map_append, ← r.there, r.next]
    simp [List.filter_cons]
  · show s.next + 1 = _
    rw [r.next, List.length_append]; rfl
  · show s.taken = _
    rw [cnt_append, r.taken]; simp [cnt, List.filter_cons]
  · show s.canc = _
    rw [cnt_append, r.canc]; simp [cnt, List.filter_cons]
  · show s.over = _
    rw [cnt_append, r.over]; simp [cnt, List.filter_cons]
  · intro y hy
    rcases List.mem_append.1 hy with hy | hy
    · exact r.fates y hy
    · obtain rfl := List.mem_singleton.1 hy
      exact ⟨by show 1 ≤ 1; omega, by show 1 ≤ 4; omega⟩
  · intro i y hy
    by_cases hi : i < Ls.length
    · rw [List.getElem?_append_left hi] at hy
      exact r.nums i y hy
    · rw [List.getElem?_append_right (by omega)] at hy
      have : i - Ls.length = 0 := by
        have := (List.getElem?_eq_some_iff.1 hy).1
        simp at this
        omega
      rw [this] at hy
      simp at hy
      subst hy
      show Ls.length + 1 = i + 1
      omega
theorem Rel.head (r : Rel s Ls) : headE Ls 5 = headB s := by
  unfold headE headN headB
  rw [r.next, r.taken, r.canc, r.over, r.len]
  simp
theorem Rel.recs (r : Rel s Ls) : headE Ls 5 :: (thereL Ls).map recI = recsB s := by
  unfold recsB
  rw [r.head, r.there]; rfl

/-! ### one of them changes -/
theorem filter_set {P : RI → Bool} : ∀ {Ls : List RI} {i : Nat} {y y' : RI}, Ls[i]? = some y → P y = true → P y' = false → (Ls.set i y').filter P = (Ls.take i).filter P ++ (Ls.drop (i + 1)).filter P
  | [], i, y, y', h, _, _ => by simp at h
  | z :: r, 0, y, y', h, h1, h2 => by
    rw [List.set_cons_zero, List.filter_cons, h2]
    simp
  | z :: r, i + 1, y, y', h, h1, h2 => by
    rw [List.getElem?_cons_succ] at h
    rw [List.set_cons_succ, List.filter_cons, filter_set h h1 h2, List.take_succ_cons, List.drop_succ_cons, List.filter_cons]
    split <;> simp
theorem filter_split {P : RI → Bool} {Ls : List RI} {i : Nat} {y : RI} (h : Ls[i]? = some y) (h1 : P y = true) : Ls.filter P = (Ls.take i).filter P ++ y :: (Ls.drop (i + 1)).filter P := by
  have hi := (List.getElem?_eq_some_iff.1 h).1
  have e : Ls = Ls.take i ++ y :: Ls.drop (i + 1) := by
    have e2 : Ls[i] = y := (List.getElem?_eq_some_iff.1 h).2
    rw [← e2, ← List.drop_eq_getElem_cons hi, List.take_append_drop]
  conv => lhs; rw [e, List.filter_append, List.filter_cons, h1]
  simp
theorem cnt_set {Ls : List RI} {i : Nat} {y : RI} (h : Ls[i]? = some y) (hy : y.fate = 1) (f g : Nat) (hf : f ≠ 1) : cnt (Ls.set i { y with fate := f }) g = if g = 1 then cnt Ls g - 1 else if g = f then cnt Ls g + 1 else cnt Ls g := by
  induction Ls generalizing i with
  | nil => simp at h
  | cons z r ih =>
    cases i with
    | zero =>
      simp at h
      subst h
      rw [List.set_cons_zero]
      unfold cnt
      rw [List.filter_cons, List.filter_cons]
      simp only [hy]
      by_cases g1 : g = 1
      · subst g1; simp [hf]
      · by_cases gf : g = f
        · subst gf; simp [g1, Ne.symm g1]
        · simp [g1, gf, Ne.symm g1, Ne.symm gf]
    | succ i =>
      rw [List.getElem?_cons_succ] at h
      have := ih h
      have pos : g = 1 → 1 ≤ cnt r g := by
        intro e
        subst e
        unfold cnt
        exact List.length_pos_iff.2 (List.ne_nil_of_mem (List.mem_filter.2 ⟨List.mem_of_getElem? h, decide_eq_true hy⟩))
      rw [List.set_cons_succ]
      unfold cnt at this pos ⊢
      rw [List.filter_cons, List.filter_cons]
      split
      · rw [List.length_cons, List.length_cons, this]
        split
        · rename_i e; have := pos e; omega
        · split <;> omega
      · exact this
theorem Rel.set {i : Nat} {y : RI} {f : Nat} {items' : List It} {t c o : Nat} (r : Rel s Ls) (h : Ls[i]? = some y) (hy : y.fate = 1) (hf : 2 ≤ f ∧ f ≤ 4) (hi : items' = ((Ls.set i { y with fate := f }).filter (fun y => decide (y.fate = 1))).map RI.it)
    (ht : t = s.taken + if f = 2 then 1 else 0) (hc : c = s.canc + if f = 3 then 1 else 0) (ho : o = s.over + if f = 4 then 1 else 0) : Rel ⟨items', s.next, t, c, o⟩ (Ls.set i { y with fate := f }) := by
  refine ⟨hi, ?_, ?_, ?_, ?_, ?_, ?_⟩
  · show s.next = _
    rw [List.length_set]; exact r.next
  · show t = _
    rw [cnt_set h hy f 2 (by omega), ht, r.taken]
    by_cases e : f = 2
    · subst e; simp
    · have e2 : ¬ 2 = f := fun h => e h.symm
      simp [e, e2]
  · show c = _
    rw [cnt_set h hy f 3 (by omega), hc, r.canc]
    by_cases e : f = 3
    · subst e; simp
    · have e2 : ¬ 3 = f := fun h => e h.symm
      simp [e, e2]
  · show o = _
    rw [cnt_set h hy f 4 (by omega), ho, r.over]
    by_cases e : f = 4
    · subst e; simp
    · have e2 : ¬ 4 = f := fun h => e h.symm
      simp [e, e2]
  · intro z hz
    rcases List.mem_or_eq_of_mem_set hz with hz | rfl
    · exact r.fates z hz
    · exact ⟨by show 1 ≤ f; omega, hf.2⟩
  · intro j z hz
    rw [List.getElem?_set] at hz
    split at hz
    · rename_i e
      subst e
      split at hz
      · have := Option.some.inj hz
        subst this
        exact r.nums i y h
      · cases hz
    · exact r.nums j z hz
/-- the first one is taken -/
theorem Rel.take {i : Nat} {y : RI} {x : It} {r : List It} (R : Rel s Ls) (h : Ls[i]? = some y) (hy : y.fate = 1) (hno : ∀ j z, j < i → Ls[j]? = some z → z.fate ≠ 1) (hx : s.items = x :: r) : x = y.it ∧ Rel { s with items := r, taken := s.taken + 1 } (Ls.set i { y with fate := 2 }) := by
  have hpre : (Ls.take i).filter (fun y => decide (y.fate = 1)) = [] := by
    rw [List.filter_eq_nil_iff]
    intro z hz
    obtain ⟨j, hj⟩ := List.getElem?_of_mem hz
    rw [List.getElem?_take] at hj
    split at hj
    · rename_i hji
      simpa using hno j z hji hj
    · cases hj
  have e1 := filter_split (P := fun y => decide (y.fate = 1)) h (decide_eq_true hy)
  rw [hpre, List.nil_append] at e1
  have e2 := R.there
  rw [hx, e1, List.map_cons] at e2
  obtain ⟨rfl, rfl⟩ := List.cons.inj e2
  refine ⟨rfl, R.set h hy ⟨by omega, by omega⟩ ?_ rfl rfl rfl⟩
  rw [filter_set (P := fun y => decide (y.fate = 1)) (y := y) h (decide_eq_true hy) (decide_eq_false (by show ¬ 2 = 1; omega)), hpre, List.nil_append]
theorem Rel.none (R : Rel s Ls) (hno : ∀ z ∈ Ls, z.fate ≠ 1) : s.items = [] := by
  rw [R.there, List.filter_eq_nil_iff.2 (fun z hz => by simpa using hno z hz)]; rfl
/-- one is cancelled -/
theorem Rel.cancel {i : Nat} {y : RI} (R : Rel s Ls) (h : Ls[i]? = some y) (hy : y.fate = 1) : Rel { s with items := delI s.items ((i : Int) + 1), canc := s.canc + 1 } (Ls.set i { y with fate := 3 }) := by
  refine R.set h hy ⟨by omega, by omega⟩ ?_ rfl rfl rfl
  rw [filter_set (P := fun y => decide (y.fate = 1)) (y := y) h (decide_eq_true hy) (decide_eq_false (by show ¬ 3 = 1; omega)), R.there, filter_split (P := fun y => decide (y.fate = 1)) h (decide_eq_true hy)]
  unfold delI
  have hyn := R.nums i y h
  rw [List.map_append, List.map_cons, List.filter_append, List.filter_cons, if_neg (by simp only [hyn]; simp), List.map_append]
  have key : ∀ (A : List RI), (∀ z ∈ A, z.it.num ≠ i + 1) → (A.map RI.it).filter (fun y => !decide ((y.num : Int) = (i : Int) + 1)) = A.map RI.it := by
    intro A hA
    rw [List.filter_eq_self]
    intro z hz
    obtain ⟨a, ha, rfl⟩ := List.mem_map.1 hz
    have := hA a ha
    have : ¬ ((a.it.num : Int) = (i : Int) + 1) := by omega
    simp only [this, decide_false, Bool.not_false]
  rw [key, key]
  · intro z hz
    obtain ⟨j, hj⟩ := List.getElem?_of_mem (List.mem_filter.1 hz).1
    rw [List.getElem?_drop] at hj
    have := R.nums _ z hj
    omega
  · intro z hz
    obtain ⟨j, hj⟩ := List.getElem?_of_mem (List.mem_filter.1 hz).1
    rw [List.getElem?_take] at hj
    split at hj
    · have := R.nums _ z hj
      omega
    · cases hj
end Rbx
end Go.Proofs.Ytlonfpolnmiglaa
