/-
  No cell of these rows narrows 'for every input' (looked for: loops, veiled, ifaces, maps, wideKeys, modest, calm, conditions, laid).
  DERIVED. THE GIVEN ROWS OF THIS SEAT. 3 by the template 'for every input the law returns true; each argument reads behind the call as it read before'; 0 by the template 'total and deterministic' (their statements: YtgccegnmggjkjaaTotals.lean).
  GIVEN WITH THE SEED: the statements are not yours to turn. If you find one false, say at which input.
  Laid BY PROGRAM, IN A SANDBOX (cutbox-rows.mjs): the forced cells as the released guide's own fill.sh prints them over the translation 9938d42605ad8f99… (all of the seat's roots in one cut). By AI agents, Wed Nov 11 2026. No macro, syntax, notation, axiom, sorry.
-/
import Derived.Test.YtgccegnmggjkjaaChecked
import GoSem.Claim
import GoSem.ClaimJoined
import GoSem.ClaimMapViews
import Derived.JoinedTies
import Derived.KernelRfl
namespace Go.Proofs.Ytgccegnmggjkjaa
/- THE CELL 'sum', in the pinned program and in every row, IS THE sha256 OF THE DUMP (.gsa) THAT YtgccegnmggjkjaaProg.lean LOADS. Nothing in Lean hashes anything: it is a label: what it is worth is what the hold of that sum in a sandbox is worth. -/
noncomputable def Try.pinned : Pinned := { name := "ytgccegnmggjkjaa", sum := "9938d42605ad8f99f5f2bf971214ccbd6a44cf5bbb44b9bf3966f4aabcd6200c", checked := Try.checked }
namespace Rows
def none {H : Type} : Left H := { results := [], args := [] }

/-- 'pigeonloftlaw22.RegsFull': WHATEVER THE INPUT: true; the input reads as it did. -/
def regsFullSpec : ChangeSpec := { name := "regsFull", fn := fun _ => fun
  | [d1, d2] => { results := [.lit (.bool true)], args := [d1, d2] }
  | _ => none }
def regsFullRow : OpenClaim := { program := "ytgccegnmggjkjaa", sum := "9938d42605ad8f99f5f2bf971214ccbd6a44cf5bbb44b9bf3966f4aabcd6200c", func := "pigeonloft/pigeonloftlaw22.RegsFull", spec := "regsFull", unfollowed := true, recurses := true, plainKeys := false, apart := false }
def RegsFullSaid : Prop := regsFullRow.holds Try.pinned (OpenSpec.ofChange regsFullSpec)

/-- ITS FALSE NEIGHBOUR: 'it returns false'. Refute it at one input. -/
def regsFullWrong : ChangeSpec := { name := "regsFull", fn := fun _ => fun
  | [d1, d2] => { results := [.lit (.bool false)], args := [d1, d2] }
  | _ => none }
def RegsFullWrongFalsely : Prop := regsFullRow.holds Try.pinned (OpenSpec.ofChange regsFullWrong)

/-- 'pigeonloftlaw21.CopiesPlace': WHATEVER THE INPUT: true; the input reads as it did. -/
def copiesPlaceSpec : ChangeSpec := { name := "copiesPlace", fn := fun _ => fun
  | [d1, d2, d3] => { results := [.lit (.bool true)], args := [d1, d2, d3] }
  | _ => none }
def copiesPlaceRow : OpenClaim := { program := "ytgccegnmggjkjaa", sum := "9938d42605ad8f99f5f2bf971214ccbd6a44cf5bbb44b9bf3966f4aabcd6200c", func := "pigeonloft/pigeonloftlaw21.CopiesPlace", spec := "copiesPlace", unfollowed := true, recurses := true, plainKeys := false, apart := false }
def CopiesPlaceSaid : Prop := copiesPlaceRow.holds Try.pinned (OpenSpec.ofChange copiesPlaceSpec)

/-- ITS FALSE NEIGHBOUR: 'it returns false'. Refute it at one input. -/
def copiesPlaceWrong : ChangeSpec := { name := "copiesPlace", fn := fun _ => fun
  | [d1, d2, d3] => { results := [.lit (.bool false)], args := [d1, d2, d3] }
  | _ => none }
def CopiesPlaceWrongFalsely : Prop := copiesPlaceRow.holds Try.pinned (OpenSpec.ofChange copiesPlaceWrong)

/-- 'pigeonloftlaw21.CopiesOnce': WHATEVER THE INPUT: true; the input reads as it did. -/
def copiesOnceSpec : ChangeSpec := { name := "copiesOnce", fn := fun _ => fun
  | [d] => { results := [.lit (.bool true)], args := [d] }
  | _ => none }
def copiesOnceRow : OpenClaim := { program := "ytgccegnmggjkjaa", sum := "9938d42605ad8f99f5f2bf971214ccbd6a44cf5bbb44b9bf3966f4aabcd6200c", func := "pigeonloft/pigeonloftlaw21.CopiesOnce", spec := "copiesOnce", unfollowed := true, recurses := true, plainKeys := false, apart := false }
def CopiesOnceSaid : Prop := copiesOnceRow.holds Try.pinned (OpenSpec.ofChange copiesOnceSpec)

/-- ITS FALSE NEIGHBOUR: 'it returns false'. Refute it at one input. -/
def copiesOnceWrong : ChangeSpec := { name := "copiesOnce", fn := fun _ => fun
  | [d] => { results := [.lit (.bool false)], args := [d] }
  | _ => none }
def CopiesOnceWrongFalsely : Prop := copiesOnceRow.holds Try.pinned (OpenSpec.ofChange copiesOnceWrong)

/- THE SECOND FORM. 'bulk': how many values and letters a reading holds, each counted each time it is reached (what is shared counts as often as it is met; a slice's spare places count too). A statement '..UptoSaid' is the law's where the arguments, and the package variables that the reading takes, are together of bulk at most 1048576: NARROWER than '..Said'. Prove '..Said' where nothing that the law and all that it calls make is longer than what came in: it says more and counts as full. Else prove '..UptoSaid'. A law counts once. -/
mutual
def uptoBulk {H : Type} : DataW H → Nat
  | .lit (.string bytes) => bytes.length + 1
  | .lit _ => 1
  | .nil => 1
  | .ptr d => uptoBulk d + 1
  | .slice elems spare => uptoBulkAll elems + uptoBulkAll spare + 1
  | .agg parts => uptoBulkAll parts + 1
  | .iface _ d => uptoBulk d + 1
  | .map entries => uptoBulkEntries entries + 1
  | .held _ => 1
def uptoBulkAll {H : Type} : List (DataW H) → Nat
  | [] => 0
  | d :: r => uptoBulk d + uptoBulkAll r
def uptoBulkEntries {H : Type} : List (Lit × DataW H) → Nat
  | [] => 0
  | x :: r => uptoBulkEntry x + uptoBulkEntries r
def uptoBulkEntry {H : Type} : Lit × DataW H → Nat
  | (.string bytes, d) => bytes.length + uptoBulk d + 1
  | (_, d) => uptoBulk d + 1
 end
def uptoSmall : (H : Type) → List (DataW H) → Bool := fun _ ds => decide (uptoBulkAll ds ≤ 1048576)
def OpenSpec.upto (s : _root_.Go.ChangeSpec) : _root_.Go.OpenSpec := { _root_.Go.OpenSpec.ofChange s with cond := some uptoSmall }

/-- 'pigeonloftlaw22.RegsFull', WHERE WHAT IT READS IS OF BULK AT MOST 1048576: true; the input reads as it did. -/
def regsFullUptoRow : OpenClaim := { program := "ytgccegnmggjkjaa", sum := "9938d42605ad8f99f5f2bf971214ccbd6a44cf5bbb44b9bf3966f4aabcd6200c", func := "pigeonloft/pigeonloftlaw22.RegsFull", spec := "regsFull", unfollowed := true, recurses := true, plainKeys := false, apart := false, narrowed := true }
def RegsFullUptoSaid : Prop := regsFullUptoRow.holds Try.pinned (OpenSpec.upto regsFullSpec)

/-- 'pigeonloftlaw21.CopiesPlace', WHERE WHAT IT READS IS OF BULK AT MOST 1048576: true; the input reads as it did. -/
def copiesPlaceUptoRow : OpenClaim := { program := "ytgccegnmggjkjaa", sum := "9938d42605ad8f99f5f2bf971214ccbd6a44cf5bbb44b9bf3966f4aabcd6200c", func := "pigeonloft/pigeonloftlaw21.CopiesPlace", spec := "copiesPlace", unfollowed := true, recurses := true, plainKeys := false, apart := false, narrowed := true }
def CopiesPlaceUptoSaid : Prop := copiesPlaceUptoRow.holds Try.pinned (OpenSpec.upto copiesPlaceSpec)

/-- 'pigeonloftlaw21.CopiesOnce', WHERE WHAT IT READS IS OF BULK AT MOST 1048576: true; the input reads as it did. -/
def copiesOnceUptoRow : OpenClaim := { program := "ytgccegnmggjkjaa", sum := "9938d42605ad8f99f5f2bf971214ccbd6a44cf5bbb44b9bf3966f4aabcd6200c", func := "pigeonloft/pigeonloftlaw21.CopiesOnce", spec := "copiesOnce", unfollowed := true, recurses := true, plainKeys := false, apart := false, narrowed := true }
def CopiesOnceUptoSaid : Prop := copiesOnceUptoRow.holds Try.pinned (OpenSpec.upto copiesOnceSpec)

end Rows
end Go.Proofs.Ytgccegnmggjkjaa
