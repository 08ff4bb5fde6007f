/-
  What is proved here: plain facts on binary heaps and sorted lists of entries (key, time). No program in sight. No condition.
-/
import Derived.Test.YtgccegnmggjkjaaHeap
set_option maxRecDepth 100000
namespace Go.Heapq

abbrev E := Int × Int
/-- due ahead -/
def lt (x y : E) : Prop := x.2 < y.2 ∨ (x.2 = y.2 ∧ x.1 < y.1)
def le (x y : E) : Prop := ¬ lt y x
theorem lt_irrefl (x : E) : ¬ lt x x := by unfold lt; omega
theorem lt_trans {x y z : E} (h : lt x y) (h' : lt y z) : lt x z := by unfold lt at *; omega
theorem le_refl (x : E) : le x x := lt_irrefl x
theorem le_trans {x y z : E} (h : le x y) (h' : le y z) : le x z := by unfold le lt at *; omega
theorem le_of_lt {x y : E} (h : lt x y) : le x y := by unfold le lt at *; omega
theorem lt_of_not_le {x y : E} (h : ¬ le x y) : lt y x := by unfold le at h; exact Classical.not_not.1 h
theorem eq_of_le {x y : E} (h : le x y) (h' : le y x) : x = y := by
  obtain ⟨a, b⟩ := x; obtain ⟨c, d⟩ := y
  unfold le lt at *; simp at *; omega
theorem lt_of_le_ne {x y : E} (h : le x y) (h' : x.1 ≠ y.1) : lt x y := by unfold le lt at *; omega
instance (x y : E) : Decidable (lt x y) := inferInstanceAs (Decidable (_ ∨ _))

/-! ### heaps as functions on places below n -/
def HeapO (f : Nat → E) (n : Nat) : Prop := ∀ j, 0 < j → j < n → le (f ((j - 1) / 2)) (f j)
/-- in order but for i -/
def ExBoth (f : Nat → E) (n i : Nat) : Prop :=
  (∀ j, 0 < j → j < n → j ≠ i → (j - 1) / 2 ≠ i → le (f ((j - 1) / 2)) (f j)) ∧ (0 < i → ∀ j, 0 < j → j < n → (j - 1) / 2 = i → le (f ((i - 1) / 2)) (f j))
/-- in order but for i and what is below it -/
def ExDown (f : Nat → E) (n i : Nat) : Prop :=
  (∀ j, 0 < j → j < n → (j - 1) / 2 ≠ i → le (f ((j - 1) / 2)) (f j)) ∧ (0 < i → ∀ j, 0 < j → j < n → (j - 1) / 2 = i → le (f ((i - 1) / 2)) (f j))
def KidsOk (f : Nat → E) (n i : Nat) : Prop := ∀ j, 0 < j → j < n → (j - 1) / 2 = i → le (f i) (f j)
def swapf (f : Nat → E) (i j : Nat) : Nat → E := fun k => if k = i then f j else if k = j then f i else f k

theorem up_stay {f : Nat → E} {n i : Nat} (h : ExBoth f n i) (hi : i = 0 ∨ le (f ((i - 1) / 2)) (f i)) : ExDown f n i := by
  refine ⟨fun j h1 h2 h3 => ?_, h.2⟩
  by_cases hj : j = i
  · subst hj
    rcases hi with h0 | h0
    · omega
    · exact h0
  · exact h.1 j h1 h2 hj h3
theorem heap_of_down {f : Nat → E} {n i : Nat} (h : ExDown f n i) (hk : KidsOk f n i) : HeapO f n := by
  intro j h1 h2
  by_cases hj : (j - 1) / 2 = i
  · have := hk j h1 h2 hj; rw [hj]; exact this
  · exact h.1 j h1 h2 hj
theorem down_of_heap {f : Nat → E} {n i : Nat} (h : HeapO f n) : ExDown f n i := by
  refine ⟨fun j h1 h2 _ => h j h1 h2, fun h0 j h1 h2 h3 => ?_⟩
  by_cases hi : i < n
  · have h4 := h i h0 hi
    have h5 := h j h1 h2
    rw [h3] at h5
    exact le_trans h4 h5
  · omega
theorem up_move {f : Nat → E} {n i p : Nat} (h : ExBoth f n i) (h0 : 0 < i) (hn : i < n) (hp : p = (i - 1) / 2) (hl : lt (f i) (f p)) : ExBoth (swapf f i p) n p ∧ KidsOk (swapf f i p) n p := by
  have hpi : p ≠ i := by omega
  refine ⟨⟨fun j h1 h2 h3 h4 => ?_, fun hp0 j h1 h2 h3 => ?_⟩, fun j h1 h2 h3 => ?_⟩
  · -- j ≠ p, parent j ≠ p; so j ≠ i
    have hji : j ≠ i := by omega
    unfold swapf
    rw [if_neg hji, if_neg h3]
    by_cases hpj : (j - 1) / 2 = i
    · rw [if_pos hpj, hp]
      exact h.2 h0 j h1 h2 hpj
    · rw [if_neg hpj, if_neg h4]
      exact h.1 j h1 h2 hji hpj
  · have hpp := h.1 p hp0 (by omega) hpi (by omega)
    unfold swapf
    rw [if_neg (show (p - 1) / 2 ≠ i by omega), if_neg (show (p - 1) / 2 ≠ p by omega)]
    by_cases hji : j = i
    · rw [if_pos hji]; exact hpp
    · rw [if_neg hji, if_neg (by omega)]
      have := h.1 j h1 h2 hji (by omega)
      rw [h3] at this
      exact le_trans hpp this
  · unfold swapf
    rw [if_neg hpi, if_pos rfl]
    by_cases hji : j = i
    · rw [if_pos hji]; exact le_of_lt hl
    · rw [if_neg hji, if_neg (by omega)]
      have := h.1 j h1 h2 hji (by omega)
      rw [h3] at this
      exact le_trans (le_of_lt hl) this
theorem down_move {f : Nat → E} {n i c : Nat} (h : ExDown f n i) (hc : (c - 1) / 2 = i) (h0 : 0 < c) (hn : c < n) (hl : lt (f c) (f i)) (hm : ∀ j, 0 < j → j < n → (j - 1) / 2 = i → le (f c) (f j)) : ExDown (swapf f i c) n c := by
  have hci : c ≠ i := by omega
  refine ⟨fun j h1 h2 h3 => ?_, fun _ j h1 h2 h3 => ?_⟩
  · unfold swapf
    by_cases hji : j = i
    · subst hji
      rw [if_neg (show (j - 1) / 2 ≠ j by omega), if_neg (show (j - 1) / 2 ≠ c by omega), if_pos rfl]
      exact h.2 h1 c h0 hn hc
    · by_cases hpj : (j - 1) / 2 = i
      · rw [if_pos hpj, if_neg hji]
        by_cases hjc : j = c
        · rw [if_pos hjc]; exact le_of_lt hl
        · rw [if_neg hjc]; exact hm j h1 h2 hpj
      · have hjc : j ≠ c := by intro e; subst e; exact hpj hc
        rw [if_neg hpj, if_neg h3, if_neg hji, if_neg hjc]
        exact h.1 j h1 h2 hpj
  · unfold swapf
    rw [hc, if_pos rfl, if_neg (show j ≠ i by omega), if_neg (show j ≠ c by omega)]
    have := h.1 j h1 h2 (by omega)
    rw [h3] at this
    exact this
theorem root_min {f : Nat → E} {n : Nat} (h : HeapO f n) : ∀ j, j < n → le (f 0) (f j) := by
  intro j
  induction j using Nat.strongRecOn with
  | _ j ih =>
    intro hj
    by_cases h0 : j = 0
    · subst h0; exact le_refl _
    · exact le_trans (ih ((j - 1) / 2) (by omega) (by omega)) (h j (by omega) hj)

/-! ### arrays as lists -/
def at_ (es : List E) (i : Nat) : E := es.getD i (0, 0)
theorem at_get {es : List E} {i : Nat} (h : i < es.length) : at_ es i = es[i] := by simp [at_, h]
theorem at_some {es : List E} {i : Nat} (h : i < es.length) : es[i]? = some (at_ es i) := by simp [at_, h]
theorem at_set {es : List E} {i j : Nat} {x : E} (h : i < es.length) : at_ (es.set i x) j = if j = i then x else at_ es j := by
  unfold at_
  by_cases e : j = i
  · subst e; simp [h]
  · simp [e, Ne.symm e]
def swapL (es : List E) (i j : Nat) : List E := (es.set j (at_ es i)).set i (at_ es j)
theorem swapL_len {es : List E} {i j : Nat} : (swapL es i j).length = es.length := by simp [swapL]
theorem swapL_at {es : List E} {i j : Nat} (hi : i < es.length) (hj : j < es.length) (k : Nat) : at_ (swapL es i j) k = swapf (at_ es) i j k := by
  unfold swapL swapf
  rw [at_set (by simpa using hi), at_set hj]
theorem swapL_fun {es : List E} {i j : Nat} (hi : i < es.length) (hj : j < es.length) : at_ (swapL es i j) = swapf (at_ es) i j := funext (swapL_at hi hj)
theorem swapL_perm {es : List E} {i j : Nat} (hi : i < es.length) (hj : j < es.length) : (swapL es i j).Perm es := by
  unfold swapL
  rw [at_get hi, at_get hj]
  exact List.set_set_perm hj hi

/-- where each key is -/
def PlaceOk (es : List E) (g : Int → Option Value) : Prop :=
  (es.map (·.1)).Nodup ∧ (∀ j, j < es.length → g (at_ es j).1 = some (.int .i64 j)) ∧ ∀ k, k ∉ es.map (·.1) → g k = none
theorem key_inj {es : List E} (h : (es.map (·.1)).Nodup) {i j : Nat} (hi : i < es.length) (hj : j < es.length) (he : (at_ es i).1 = (at_ es j).1) : i = j := by
  rw [at_get hi, at_get hj] at he
  have h1 := List.getElem?_inj (i := i) (j := j) (by simpa using hi) h
  exact h1.1 (by simp [hi, hj, he])
theorem PlaceOk.swap {es : List E} {g : Int → Option Value} (h : PlaceOk es g) {i j : Nat} (hi : i < es.length) (hj : j < es.length) (hne : i ≠ j) :
    PlaceOk (swapL es i j) (fun k => if k = (at_ es j).1 then some (.int .i64 i) else if k = (at_ es i).1 then some (.int .i64 j) else g k) := by
  obtain ⟨h1, h2, h3⟩ := h
  have hp := (swapL_perm hi hj).map (·.1)
  refine ⟨hp.nodup_iff.2 h1, fun k hk => ?_, fun k hk => ?_⟩
  · rw [swapL_len] at hk
    rw [swapL_at hi hj]
    unfold swapf
    by_cases e1 : k = i
    · subst e1; simp
    · by_cases e2 : k = j
      · subst e2
        rw [if_neg e1, if_pos rfl]
        have : (at_ es i).1 ≠ (at_ es k).1 := fun e => hne (key_inj h1 hi hj e)
        simp [this]
      · rw [if_neg e1, if_neg e2]
        have n1 : (at_ es k).1 ≠ (at_ es j).1 := fun e => e2 (key_inj h1 hk hj e)
        have n2 : (at_ es k).1 ≠ (at_ es i).1 := fun e => e1 (key_inj h1 hk hi e)
        simp [n1, n2, h2 k hk]
  · have hk' : k ∉ es.map (·.1) := fun hm => hk (hp.mem_iff.2 hm)
    have m1 : (at_ es j).1 ∈ es.map (·.1) := by rw [at_get hj]; exact List.mem_map_of_mem (List.getElem_mem hj)
    have m2 : (at_ es i).1 ∈ es.map (·.1) := by rw [at_get hi]; exact List.mem_map_of_mem (List.getElem_mem hi)
    simp only []
    rw [if_neg (show k ≠ _ from fun e => hk' (e.symm ▸ m1)), if_neg (show k ≠ _ from fun e => hk' (e.symm ▸ m2))]
    exact h3 k hk'

/-! ### sorted lists -/
def Sorted (l : List E) : Prop := l.Pairwise lt
def keys (l : List E) : List Int := l.map (·.1)
def dropK (l : List E) (k : Int) : List E := l.filter (fun e => !(e.1 == k))
def insertS (l : List E) (x : E) : List E := l.filter (fun e => decide (lt e x)) ++ x :: l.filter (fun e => !decide (lt e x))
theorem insertS_perm (l : List E) (x : E) : (insertS l x).Perm (x :: l) := by
  unfold insertS
  refine (List.perm_middle).trans (List.Perm.cons x ?_)
  exact List.filter_append_perm _ _
theorem Sorted.drop {l : List E} (h : Sorted l) (k : Int) : Sorted (dropK l k) := List.Pairwise.filter _ h
theorem Sorted.insert {l : List E} (h : Sorted l) (x : E) (hk : x.1 ∉ keys l) : Sorted (insertS l x) := by
  unfold Sorted insertS
  rw [List.pairwise_append]
  refine ⟨List.Pairwise.filter _ h, ?_, ?_⟩
  · rw [List.pairwise_cons]
    refine ⟨fun y hy => ?_, List.Pairwise.filter _ h⟩
    obtain ⟨hm, hq⟩ := List.mem_filter.1 hy
    have hn : ¬ lt y x := by simpa using hq
    exact lt_of_le_ne hn (fun e => hk (by rw [e]; exact List.mem_map_of_mem hm))
  · intro y hy z hz
    obtain ⟨_, hq⟩ := List.mem_filter.1 hy
    have hyx : lt y x := by simpa using hq
    rcases List.mem_cons.1 hz with rfl | hz
    · exact hyx
    · obtain ⟨_, hq2⟩ := List.mem_filter.1 hz
      have hn : ¬ lt z x := by simpa using hq2
      unfold lt at *; omega
theorem dropK_keys (l : List E) (k : Int) : k ∉ keys (dropK l k) := by
  intro h
  obtain ⟨e, he, rfl⟩ := List.mem_map.1 h
  have := (List.mem_filter.1 he).2
  simp at this
theorem dropK_none {l : List E} {k : Int} (h : k ∉ keys l) : dropK l k = l := by
  unfold dropK
  rw [List.filter_eq_self]
  intro e he
  have : e.1 ≠ k := fun e' => h (e' ▸ List.mem_map_of_mem he)
  simp [this]
theorem dropK_perm {l l' : List E} (h : l.Perm l') (k : Int) : (dropK l k).Perm (dropK l' k) := h.filter _
/-- the least one of a heap is the first of the list -/
theorem head_min {es l : List E} (hp : es.Perm l) (hs : Sorted l) (hh : HeapO (at_ es) es.length) (h0 : 0 < es.length) : ∃ r, l = at_ es 0 :: r := by
  cases l with
  | nil => have := hp.length_eq; simp only [List.length_nil] at this; omega
  | cons x r =>
    refine ⟨r, ?_⟩
    have hx : x ∈ es := hp.mem_iff.2 List.mem_cons_self
    obtain ⟨j, hj⟩ := List.getElem?_of_mem hx
    have hjl : j < es.length := (List.getElem?_eq_some_iff.1 hj).1
    have hmin := root_min hh j hjl
    rw [at_some hjl] at hj
    have e1 : at_ es j = x := Option.some.inj hj
    rw [e1] at hmin
    have hm : at_ es 0 ∈ x :: r := hp.mem_iff.1 (by rw [at_get h0]; exact List.getElem_mem h0)
    rcases List.mem_cons.1 hm with e | e
    · rw [e]
    · have := (List.pairwise_cons.1 hs).1 _ e
      exact absurd this hmin
theorem perm_sorted {l l' : List E} (hp : l.Perm l') (h : Sorted l) (h' : Sorted l') : l = l' :=
  List.Perm.eq_of_pairwise (le := lt) (fun a b _ _ h1 h2 => absurd (lt_trans h1 h2) (lt_irrefl a)) h h' hp
end Go.Heapq
