/-
  What is proved here: from a row's listed variables to the table of the powers of ten in the heap. No condition.
-/
import Derived.Test.YtgccegnmggjkjaaDoorShelf
import Derived.Lib.LaidU8
import Derived.Lib.LaidTab
set_option maxRecDepth 100000
namespace Go.Proofs.YtgccegnmggjkjaaDoor
open Go.Den
namespace Num
theorem Tab.of_laid {W : World} {l : List (String × DataW Unit)} {s : String} (hs : Tryd.prog.globalNamed s = some 0) (h : laidMet Tryd.prog l W) (hm : (s, Lib.tabData .u64 Lib.pow10Tab) ∈ l) : Tab W.heap := by
  obtain ⟨g, t, cs, fuel, p, hg, ht, hv, hd⟩ := Lib.laidMet.reads h hm
  have hg : Tryd.prog.globalNamed s = some g := hg
  unfold World.var? at hv
  rw [hg] at hv
  have hv' : (match W.heap[g]? with | some (.cells cs _ _) => some cs | _ => none) = some cs := hv
  cases hh : W.heap[g]? with
  | none => rw [hh] at hv'; cases hv'
  | some o =>
    rw [hh] at hv'
    cases o with
    | cells c ty fz =>
      obtain rfl : c = cs := Option.some.inj hv'
      have eg : g = 0 := Option.some.inj (hg.symm.trans hs)
      subst eg
      refine ⟨ty, fz, ?_⟩
      have htt : t = T.a20_uint64 := by
        have e : (Tryd.prog.globals[(0 : Nat)]?).map (·.type) = some T.a20_uint64 := by kernel_rfl
        exact Option.some.inj (ht.symm.trans e)
      subst htt
      have := Lib.cells_of_tab (n := 20) (e := T.uint64) (by kernel_rfl) (by kernel_rfl) (by kernel_rfl) (by kernel_rfl) hd
      rw [hh, ← this]
    | _ => cases hv'
end Num
end Go.Proofs.YtgccegnmggjkjaaDoor
