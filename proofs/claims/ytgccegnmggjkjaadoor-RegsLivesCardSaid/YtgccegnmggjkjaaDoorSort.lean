/-
  What is proved here: plain: insertion sort, step by step. No program in sight. No condition.
-/
import Derived.Test.YtgccegnmggjkjaaDoorRow
namespace Go.Den
section
variable {α : Type} {lt : α → α → Prop} {xs ys : List α} {a b i j : Nat}
def SortedOn (lt : α → α → Prop) (xs : List α) (a b : Nat) : Prop := ∀ (p q : Nat) x y, a ≤ p → p < q → q < b → xs[p]? = some x → xs[q]? = some y → lt x y
theorem SortedOn.pair (h : SortedOn lt xs 0 xs.length) : xs.Pairwise lt := by
  rw [List.pairwise_iff_getElem]
  intro i j hi hj hij
  exact h i j _ _ (Nat.zero_le _) hij hj (List.getElem?_eq_getElem hi) (List.getElem?_eq_getElem hj)
theorem SortedOn.small (h : b ≤ a + 1) : SortedOn lt xs a b := fun p q _ _ h1 h2 h3 => by omega
structure InsI (lt : α → α → Prop) (xs ys : List α) (a i j : Nat) : Prop where
  perm : ys.Perm xs
  out : ∀ k, k < a ∨ i < k → ys[k]? = xs[k]?
  so : ∀ (p q : Nat) x y, a ≤ p → p < q → q ≤ i → p ≠ j → q ≠ j → ys[p]? = some x → ys[q]? = some y → lt x y
  up : ∀ (q : Nat) x y, j < q → q ≤ i → ys[j]? = some x → ys[q]? = some y → lt x y
theorem InsI.start (h : SortedOn lt xs a i) : InsI lt xs xs a i i :=
  ⟨.refl _, fun _ _ => rfl, fun p q x y h1 h2 h3 _ h5 => h p q x y h1 h2 (by omega), fun q x y h1 h2 => by omega⟩
theorem InsI.swap {x y : α} (H : InsI lt xs ys a i j) (hj : a < j) (hji : j ≤ i) (hi : i < ys.length) (hx : ys[j]? = some x) (hy : ys[j - 1]? = some y) (hl : lt x y) : InsI lt xs (swp ys j (j - 1)) a i (j - 1) := by
  have at_ : ∀ k : Nat, (swp ys j (j - 1))[k]? = if k = j - 1 then ys[j]? else if k = j then ys[j - 1]? else ys[k]? := swp_at (by omega) (by omega)
  refine ⟨(swp_perm (by omega) (by omega)).trans H.perm, fun k hk => ?_, fun p q u v h1 h2 h3 h4 h5 hu hv => ?_, fun q u v h1 h2 hu hv => ?_⟩
  · rw [at_, if_neg (by omega), if_neg (by omega)]; exact H.out k hk
  · rw [at_, if_neg h4] at hu
    rw [at_, if_neg h5] at hv
    by_cases p0 : p = j
    · rw [if_pos p0] at hu
      rw [if_neg (by omega)] at hv
      exact H.so (j - 1) q u v (by omega) (by omega) h3 (by omega) (by omega) hu hv
    · rw [if_neg p0] at hu
      by_cases q0 : q = j
      · rw [if_pos q0] at hv
        exact H.so p (j - 1) u v h1 (by omega) (by omega) p0 (by omega) hu hv
      · rw [if_neg q0] at hv
        exact H.so p q u v h1 h2 h3 p0 q0 hu hv
  · rw [at_, if_pos rfl] at hu
    rw [at_, if_neg (by omega)] at hv
    by_cases q0 : q = j
    · rw [if_pos q0] at hv
      rw [hx] at hu; rw [hy] at hv
      cases hu; cases hv; exact hl
    · rw [if_neg q0] at hv
      exact H.up q u v (by omega) h2 hu hv
theorem InsI.stop (htr : ∀ {x y z}, lt x y → lt y z → lt x z) (H : InsI lt xs ys a i j) (hj : a ≤ j) (hji : j ≤ i) (hi : i < ys.length) (he : j = a ∨ ∀ x y, ys[j]? = some x → ys[j - 1]? = some y → lt y x) : SortedOn lt ys a (i + 1) := by
  intro p q u v h1 h2 h3 hu hv
  by_cases p0 : p = j
  · subst p0; exact H.up q u v h2 (by omega) hu hv
  · by_cases q0 : q = j
    · subst q0
      rcases he with he | he
      · omega
      · have hw : ys[q - 1]? = some (ys[q - 1]'(by omega)) := List.getElem?_eq_getElem _
        have hl := he _ _ hv hw
        by_cases p1 : p = q - 1
        · subst p1; rw [hw] at hu; cases hu; exact hl
        · exact htr (H.so p (q - 1) _ _ h1 (by omega) (by omega) p0 (by omega) hu hw) hl
    · exact H.so p q u v h1 h2 (by omega) p0 q0 hu hv
end
end Go.Den
