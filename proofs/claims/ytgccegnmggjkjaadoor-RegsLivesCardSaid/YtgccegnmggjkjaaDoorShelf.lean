/-
  What is proved here: the shelf's contracts of internal/strconv, on heaps. No condition.
-/
import Derived.Test.YtgccegnmggjkjaaDoorStep
import Derived.Test.YtgccegnmggjkjaaDoorNames
import Derived.Test.YtgccegnmggjkjaaDoorLay
set_option maxRecDepth 100000
namespace Go.Proofs.YtgccegnmggjkjaaDoor
open Go.Den
namespace Num
variable {h h' : Heap} {R : Value → Heap → Prop}
/-- the table of the powers of ten lies where the program has it -/
def Tab (h : Heap) : Prop := ∃ t f, h[(0 : Nat)]? = some (.cells (Lib.pow10Tab.map fun z => Value.int .u64 z).toArray t f)
theorem Tab.frame {S : Nat → Prop} (T : Tab h) (f : Fr S h h') (hn : ∀ c, c < h.size → ¬ S c) : Tab h' := by
  obtain ⟨t, fr, h2⟩ := T
  exact ⟨t, fr, f.get h2 (hn _ (lt_of_get h2))⟩
theorem Tab.on (T : Tab h) (f : Fr (fun _ => False) h h') : Tab h' := T.frame f (fun _ _ => id)
theorem Tab.is {w : World} {s : String} (hs : Tryd.prog.globalNamed s = some 0) (T : Tab w.heap) : Lib.TabIs Tryd.prog w s .u64 Lib.pow10Tab := by
  obtain ⟨t, fr, h2⟩ := T
  unfold Lib.TabIs World.var?
  rw [hs]
  show (match w.heap[(0 : Nat)]? with | some (.cells cs _ _) => some cs | _ => none) = _
  rw [h2]
theorem small_ok {i : Nat} (hi : i < 100) (hk : R (.string ⟨(Lib.decDigits i).toArray⟩) h) : CallsH Tryd.prog F.internal_strconv_small #[.int .i64 i] h R := fun w hw =>
  (Any.internal_strconv_small Tryd.lays283 i hi w).mono fun e w' ⟨he, hw'⟩ => ⟨_, he, by rw [hw', hw]; exact hk, by rw [hw']; exact Same.refl _⟩
theorem digits_ok {u : Nat} (T : Tab h) (h1 : 1 ≤ u) (h2 : u < 18446744073709551616) (hk : R (.int .i64 (Lib.nDigits u)) h) : CallsH Tryd.prog F.internal_strconv_numDigits #[.int .u64 u] h R := fun w hw =>
  (Any.internal_strconv_numDigits Tryd.lays284 u h1 h2 w (by rw [← hw] at T; exact T.is (by kernel_rfl))).mono fun e w' ⟨he, hw'⟩ => ⟨_, he, by rw [hw', hw]; exact hk, by rw [hw']; exact Same.refl _⟩
end Num
end Go.Proofs.YtgccegnmggjkjaaDoor
