/-
  What is proved here: a row of a slice of structs is stored as a whole; lists that change at two places. No condition.
-/
import Derived.Test.YtgccegnmggjkjaaDoorSep
namespace Go.Den
def writeAt : List Value → Nat → List Value → List Value
  | cs, _, [] => cs
  | cs, p, v :: vs => writeAt (cs.set p v) (p + 1) vs
theorem writeAt_len : ∀ (vs cs : List Value) (p : Nat), (writeAt cs p vs).length = cs.length
  | [], cs, p => rfl
  | v :: vs, cs, p => by unfold writeAt; rw [writeAt_len vs, List.length_set]
theorem writeAt_at : ∀ (vs cs : List Value) (p : Nat), p + vs.length ≤ cs.length → ∀ j, (writeAt cs p vs)[j]? = if p ≤ j ∧ j < p + vs.length then vs[j - p]? else cs[j]?
  | [], cs, p, _, j => by unfold writeAt; rw [if_neg (by rw [List.length_nil]; omega)]
  | v :: vs, cs, p, hl, j => by
    unfold writeAt
    rw [List.length_cons] at hl ⊢
    rw [writeAt_at vs _ (p + 1) (by rw [List.length_set]; omega) j, List.getElem?_set]
    by_cases h1 : p + 1 ≤ j ∧ j < p + 1 + vs.length
    · rw [if_pos h1, if_pos (by omega), show j - p = (j - (p + 1)) + 1 by omega, List.getElem?_cons_succ]
    · rw [if_neg h1]
      by_cases h2 : p = j
      · subst h2
        rw [if_pos rfl, if_pos (by omega), if_pos (by omega), Nat.sub_self]; rfl
      · rw [if_neg h2, if_neg (by omega)]
theorem Own.storeL {a : Addr} {len cap sz p : Nat} {K : Heap → Prop} : ∀ (vs : List Value) (k : Nat) (h : Heap) (cs : List Value), Own h (.some a) len cap sz cs → (∀ v ∈ vs, oneCell v = true) → p + k + vs.length ≤ cs.length →
    (∀ h', Own h' (.some a) len cap sz (writeAt cs (p + k) vs) → h'.size = h.size → (∀ x, ¬ inBlk (.some a) x → h'[x]? = h[x]?) → K h') → Den.storeL (a.add p) vs k h K
  | [], k, h, cs, o, _, _, hk => hk h o rfl (fun _ _ => rfl)
  | v :: vs, k, h, cs, o, hv, hl, hk => by
    rw [List.length_cons] at hl
    unfold Den.storeL
    rw [hv v List.mem_cons_self]
    dsimp only
    rw [add_add]
    refine o.store (by omega) fun h1 o1 s1 q1 => ?_
    refine Own.storeL vs (k + 1) h1 _ o1 (fun u hu => hv u (List.mem_cons_of_mem _ hu)) (by rw [List.length_set]; omega) fun h2 o2 s2 q2 => hk h2 ?_ (by omega) (fun x hx => by rw [q2 x hx, q1 x hx])
    unfold writeAt
    rw [show p + k + 1 = p + (k + 1) by omega]
    exact o2
theorem Own.storeRow {h : Heap} {a : Addr} {len cap sz : Nat} {α : Type} {enc : α → List Value} {xs : List α} {i : Nat} {y : α} {K : Heap → Prop} (o : Own h (.some a) len cap sz (xs.flatMap enc)) (henc : ∀ x, (enc x).length = sz) (hone : ∀ v ∈ enc y, oneCell v = true) (hi : i < xs.length)
    (hk : ∀ h', Own h' (.some a) len cap sz ((xs.set i y).flatMap enc) → h'.size = h.size → (∀ x, ¬ inBlk (.some a) x → h'[x]? = h[x]?) → K h') : Den.storeL (a.add (i * sz)) (enc y) 0 h K := by
  have hl := flat_len enc sz henc xs
  have hb : i * sz + sz ≤ xs.length * sz := by
    have := Nat.mul_le_mul_right sz (show i + 1 ≤ xs.length by omega)
    rwa [Nat.add_mul, Nat.one_mul] at this
  refine Own.storeL (enc y) 0 h _ o hone (by rw [henc, hl]; omega) fun h' o' s' q' => hk h' ?_ s' q'
  have e : writeAt (xs.flatMap enc) (i * sz + 0) (enc y) = (xs.set i y).flatMap enc := by
    refine flat_set enc sz henc xs i y hi _ (writeAt_len _ _ _) ?_ ?_
    · intro j hj
      rw [writeAt_at _ _ _ (by rw [henc, hl]; omega), henc]
      rw [if_neg]
      rintro ⟨h1, h2⟩
      rcases hj with hj | hj
      · apply hj
        have hz : 0 < sz := by omega
        rw [Nat.div_eq_iff hz]
        constructor
        · omega
        · omega
      · omega
    · intro j v hj hv
      rw [writeAt_at _ _ _ (by rw [henc, hl]; omega), henc, if_pos (by omega), show i * sz + j - (i * sz + 0) = j by omega]
      exact hv
  rw [e] at o'
  exact o'

/-! two places of a list -/
def swp {α : Type} (xs : List α) (i j : Nat) : List α :=
  match xs[i]?, xs[j]? with
  | some x, some y => (xs.set i y).set j x
  | _, _ => xs
theorem swp_eq {α : Type} {xs : List α} {i j : Nat} {x y : α} (hx : xs[i]? = some x) (hy : xs[j]? = some y) : (xs.set i y).set j x = swp xs i j := by unfold swp; rw [hx, hy]
theorem swp_len {α : Type} (xs : List α) (i j : Nat) : (swp xs i j).length = xs.length := by
  unfold swp; split
  · rw [List.length_set, List.length_set]
  · rfl
theorem swp_at {α : Type} {xs : List α} {i j : Nat} (hi : i < xs.length) (hj : j < xs.length) (k : Nat) : (swp xs i j)[k]? = if k = j then xs[i]? else if k = i then xs[j]? else xs[k]? := by
  have e1 : xs[i]? = some xs[i] := List.getElem?_eq_getElem hi
  have e2 : xs[j]? = some xs[j] := List.getElem?_eq_getElem hj
  unfold swp
  rw [e1, e2]
  dsimp only
  rw [List.getElem?_set, List.getElem?_set, List.length_set]
  by_cases h1 : j = k
  · subst h1; rw [if_pos rfl, if_pos hj, if_pos rfl]
  · rw [if_neg h1, if_neg (Ne.symm h1)]
    by_cases h2 : i = k
    · subst h2; rw [if_pos rfl, if_pos hi, if_pos rfl]
    · rw [if_neg h2, if_neg (Ne.symm h2)]
theorem swp_perm {α : Type} {xs : List α} {i j : Nat} (hi : i < xs.length) (hj : j < xs.length) : (swp xs i j).Perm xs := by
  unfold swp
  rw [List.getElem?_eq_getElem hi, List.getElem?_eq_getElem hj]
  dsimp only
  exact List.set_set_perm hi hj
end Go.Den
