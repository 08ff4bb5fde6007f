/-
  What is proved here: equality of numbers, truths, strings, and structs and arrays of such, is told by types ('eqT'). No condition.
-/
import Derived.Test.YtgccegnmggjkjaaDoorHeap
namespace Go.Den
section
variable {P : Program}
def eqStep (P : Program) (eq : TypeId → Value → Value → Option Bool) (xs ys : Array Value) (t : TypeId) (off : Nat) (acc : Option Bool) : Option Bool :=
  match runPure P (part t xs off), runPure P (part t ys off) with
  | some u, some v => (match eq t u v, acc with | some b, some c => some (b && c) | _, _ => none)
  | _, _ => none
/-- are two values equal? -/
def eqT (P : Program) : Nat → TypeId → Value → Value → Option Bool
  | 0, _, _, _ => none
  | n + 1, t, x, y =>
    match P.underlying t with
    | some .bool => (match x, y with | .bool a, .bool b => some (a == b) | _, _ => none)
    | some (.int _) => (match x, y with | .int k a, .int k' b => (match decide (k = k') with | true => some (a == b) | false => none) | _, _ => none)
    | some .string => (match x, y with | .string a, .string b => some (a == b) | _, _ => none)
    | some (.struct fs) => (match x, y with
      | .agg xs, .agg ys => (match P.stoodInHeld t with
        | true => none
        | false => fs.toList.foldr (fun f acc => match decide (f.name = "_") with | true => acc | false => eqStep P (eqT P n) xs ys f.type f.offset acc) (some true))
      | _, _ => none)
    | some (.array len e) => (match x, y, P.info? e with
      | .agg xs, .agg ys, some i => (List.range len).foldr (fun k acc => eqStep P (eqT P n) xs ys e (k * i.size) acc) (some true)
      | _, _, _ => none)
    | _ => none
theorem rd_forAll {β : Type} {h : Heap} {step : β → Option Bool → Option Bool} {body : β → Option Bool × Unit → Sem (ForInStep (Option Bool × Unit))} : ∀ (l : List β) (b : Bool), l.foldr step (some true) = some b →
    (∀ f acc b, step f acc = some b → (acc = some b ∧ rd P (body f (none, ())) h = some (.yield (none, ()))) ∨ ∃ q c, acc = some c ∧ b = (q && c) ∧ rd P (body f (none, ())) h = some (if q = true then .yield (none, ()) else .done (some false, ()))) →
    rd P (forIn l (none, ()) body) h = some (if b = true then (none, ()) else (some false, ()))
  | [], b, hb, _ => by
    cases Option.some.inj hb; rfl
  | f :: l, b, hb, hs => by
    rw [List.foldr_cons] at hb
    rw [List.forIn_cons]
    rcases hs f _ b hb with ⟨h1, h2⟩ | ⟨q, c, h1, rfl, h2⟩
    · rw [rd_bind _ _ _ _ h2]
      exact rd_forAll l b h1 hs
    · rw [rd_bind _ _ _ _ h2]
      cases q with
      | true => rw [Bool.true_and]; exact rd_forAll l c h1 hs
      | false => rfl
theorem eqStep_ok {eq : TypeId → Value → Value → Option Bool} {n : Nat} (heq : ∀ t x y b, eq t x y = some b → ∀ h, rd P (Op.equalIn n t x y) h = some b) {xs ys : Array Value} {t : TypeId} {off : Nat} {acc : Option Bool} {b : Bool} {h : Heap} (hh : eqStep P eq xs ys t off acc = some b) :
    ∃ q c u v, acc = some c ∧ b = (q && c) ∧ rd P (part t xs off) h = some u ∧ rd P (part t ys off) h = some v ∧ rd P (Op.equalIn n t u v) h = some q := by
  unfold eqStep at hh
  split at hh
  · rename_i u v hu hv
    split at hh
    · rename_i q c hq
      exact ⟨q, c, u, v, rfl, (Option.some.inj hh).symm, runPure_rd _ _ hu h, runPure_rd _ _ hv h, heq _ _ _ _ hq h⟩
    · cases hh
  · cases hh
theorem eqT_ok : ∀ (n : Nat) (t : TypeId) (x y : Value) (b : Bool), eqT P n t x y = some b → ∀ h, rd P (Op.equalIn n t x y) h = some b
  | 0, _, _, _, _, hh => by cases hh
  | n + 1, t, x, y, b, hh => by
    intro h
    unfold eqT at hh
    unfold Op.equalIn
    split at hh
    · rename_i hu
      rw [rd_bind _ _ _ _ (rd_underlying hu)]
      split at hh
      · rw [← hh]; rfl
      · cases hh
    · rename_i d hu
      rw [rd_bind _ _ _ _ (rd_underlying hu)]
      split at hh
      · rename_i k a k' c
        split at hh
        · rename_i hk
          simp only [of_decide_eq_true hk, if_true]
          rw [← hh]; rfl
        · cases hh
      · cases hh
    · rename_i hu
      rw [rd_bind _ _ _ _ (rd_underlying hu)]
      split at hh
      · rw [← hh]; rfl
      · cases hh
    · rename_i fs hu
      rw [rd_bind _ _ _ _ (rd_underlying hu)]
      split at hh
      · rename_i xs ys
        split at hh
        · cases hh
        · rename_i hst
          dsimp only
          rw [rd_bind _ _ _ _ (show rd P program h = some P from rfl), hst]
          simp only [Bool.false_eq_true, if_false]
          rw [← Array.forIn_toList, rd_bind _ _ _ _ (rd_forAll (h := h) fs.toList b hh ?_)]
          · cases b <;> rfl
          · intro f acc b hs
            split at hs
            · rename_i he
              refine .inl ⟨hs, ?_⟩
              rw [if_neg (by simpa using he)]
              rfl
            · rename_i he
              obtain ⟨q, c, u, v, h1, h2, h3, h4, h5⟩ := eqStep_ok (h := h) (fun t x y b hb h => eqT_ok n t x y b hb h) hs
              refine .inr ⟨q, c, h1, h2, ?_⟩
              rw [if_pos (by simpa using he), rd_bind _ _ _ _ h3, rd_bind _ _ _ _ h4, rd_bind _ _ _ _ h5]
              cases q <;> rfl
      · cases hh
    · rename_i len e hu
      rw [rd_bind _ _ _ _ (rd_underlying hu)]
      split at hh
      · rename_i xs ys i hi
        dsimp only
        rw [rd_bind _ _ _ _ (rd_sizeOf hi), Std.Legacy.Range.forIn_eq_forIn_range']
        have hr : List.range' ([:len] : Std.Legacy.Range).start ([:len] : Std.Legacy.Range).size ([:len] : Std.Legacy.Range).step = List.range len := by
          simp [Std.Legacy.Range.size, List.range_eq_range']
        rw [hr, rd_bind _ _ _ _ (rd_forAll (h := h) (List.range len) b hh ?_)]
        · cases b <;> rfl
        · intro k acc b hs
          obtain ⟨q, c, u, v, h1, h2, h3, h4, h5⟩ := eqStep_ok (h := h) (fun t x y b hb h => eqT_ok n t x y b hb h) hs
          refine .inr ⟨q, c, h1, h2, ?_⟩
          rw [rd_bind _ _ _ _ h3, rd_bind _ _ _ _ h4, rd_bind _ _ _ _ h5]
          cases q <;> rfl
      · cases hh
    · cases hh
theorem EqV.of {t : TypeId} {x y : Value} {b : Bool} (hh : eqT P 10000 t x y = some b) : EqV P t x y b := fun h => eqT_ok 10000 t x y b hh h
end
end Go.Den
