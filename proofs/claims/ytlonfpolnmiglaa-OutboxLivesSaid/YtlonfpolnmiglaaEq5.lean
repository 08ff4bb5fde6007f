/-
  What is proved here: arrays of five numbers that are compared. No condition.
-/
import Derived.Test.YtlonfpolnmiglaaBoxOps2
set_option maxRecDepth 100000
namespace Go.Proofs.Ytlonfpolnmiglaa
open Go.Den
namespace Obx
theorem eq_int (g : Heap) (a b : Int) : rd Try.prog (Op.equalIn 9999 T.int (.int .i64 a) (.int .i64 b)) g = some (a == b) := by kernel_rfl
theorem eq_part0 (g : Heap) (x0 x1 x2 x3 x4 : Int) : rd Try.prog (part T.int #[.int .i64 x0, .int .i64 x1, .int .i64 x2, .int .i64 x3, .int .i64 x4] 0) g = some (.int .i64 x0) := by kernel_rfl
theorem eq_part1 (g : Heap) (x0 x1 x2 x3 x4 : Int) : rd Try.prog (part T.int #[.int .i64 x0, .int .i64 x1, .int .i64 x2, .int .i64 x3, .int .i64 x4] 1) g = some (.int .i64 x1) := by kernel_rfl
theorem eq_part2 (g : Heap) (x0 x1 x2 x3 x4 : Int) : rd Try.prog (part T.int #[.int .i64 x0, .int .i64 x1, .int .i64 x2, .int .i64 x3, .int .i64 x4] 2) g = some (.int .i64 x2) := by kernel_rfl
theorem eq_part3 (g : Heap) (x0 x1 x2 x3 x4 : Int) : rd Try.prog (part T.int #[.int .i64 x0, .int .i64 x1, .int .i64 x2, .int .i64 x3, .int .i64 x4] 3) g = some (.int .i64 x3) := by kernel_rfl
theorem eq_part4 (g : Heap) (x0 x1 x2 x3 x4 : Int) : rd Try.prog (part T.int #[.int .i64 x0, .int .i64 x1, .int .i64 x2, .int .i64 x3, .int .i64 x4] 4) g = some (.int .i64 x4) := by kernel_rfl
theorem eq_part (g : Heap) (x0 x1 x2 x3 x4 : Int) (k : Nat) (hk : k < 5) : rd Try.prog (part T.int #[.int .i64 x0, .int .i64 x1, .int .i64 x2, .int .i64 x3, .int .i64 x4] k) g = some (.int .i64 ([x0, x1, x2, x3, x4].getD k 0)) := by
  match k, hk with
  | 0, _ => exact eq_part0 g x0 x1 x2 x3 x4
  | 1, _ => exact eq_part1 g x0 x1 x2 x3 x4
  | 2, _ => exact eq_part2 g x0 x1 x2 x3 x4
  | 3, _ => exact eq_part3 g x0 x1 x2 x3 x4
  | 4, _ => exact eq_part4 g x0 x1 x2 x3 x4
theorem u5 : Try.prog.underlying T.a5_int = some (.array 5 T.int) := by kernel_rfl
theorem i5 : ∃ i, Try.prog.info? T.int = some i ∧ i.size = 1 := by
  have h : (Try.prog.info? T.int).map (fun i => i.size) = some 1 := by kernel_rfl
  cases e : Try.prog.info? T.int with
  | none => rw [e] at h; cases h
  | some i => rw [e] at h; exact ⟨i, rfl, Option.some.inj h⟩
theorem eq_same (x0 x1 x2 x3 x4 : Int) : EqV Try.prog T.a5_int (.agg #[.int .i64 x0, .int .i64 x1, .int .i64 x2, .int .i64 x3, .int .i64 x4]) (.agg #[.int .i64 x0, .int .i64 x1, .int .i64 x2, .int .i64 x3, .int .i64 x4]) true := fun g => by
  obtain ⟨i, hi, hs⟩ := i5
  unfold Op.equal
  show rd Try.prog (Op.equalIn (9999 + 1) T.a5_int _ _) g = _
  unfold Op.equalIn
  rw [rd_bind _ _ _ _ (rd_underlying u5)]
  dsimp only
  rw [rd_bind _ _ _ _ (rd_sizeOf hi), hs]
  have hfor : ∀ (f : Nat → (Option Bool × Unit) → Sem (ForInStep (Option Bool × Unit))), (∀ k, k < 5 → rd Try.prog (f k (none, ())) g = some (.yield (none, ()))) → rd Try.prog (forIn [:5] (none, ()) f) g = some (none, ()) := by
    intro f hf
    simp only [Std.Legacy.Range.forIn_eq_forIn_range', Std.Legacy.Range.size, Nat.sub_zero, Nat.add_sub_cancel, Nat.div_one, List.range'_succ, List.range'_zero, List.forIn_cons, List.forIn_nil, Nat.reduceAdd, Nat.zero_add]
    rw [rd_bind _ _ _ _ (hf 0 (by omega))]
    dsimp only
    rw [rd_bind _ _ _ _ (hf 1 (by omega))]
    dsimp only
    rw [rd_bind _ _ _ _ (hf 2 (by omega))]
    dsimp only
    rw [rd_bind _ _ _ _ (hf 3 (by omega))]
    dsimp only
    rw [rd_bind _ _ _ _ (hf 4 (by omega))]
    rfl
  rw [rd_bind _ _ _ _ (hfor _ ?_)]
  · rfl
  · intro k hk
    simp only [Nat.mul_one]
    rw [rd_bind _ _ _ _ (eq_part g x0 x1 x2 x3 x4 k hk), rd_bind _ _ _ _ (eq_part g x0 x1 x2 x3 x4 k hk), rd_bind _ _ _ _ (eq_int g _ _), beq_self_eq_true]
    rfl
end Obx
end Go.Proofs.Ytlonfpolnmiglaa
