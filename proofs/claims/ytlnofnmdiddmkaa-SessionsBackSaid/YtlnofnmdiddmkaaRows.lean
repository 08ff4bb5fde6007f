/-
  No cell of these rows narrows 'for every input' (looked for: loops, veiled, ifaces, maps, wideKeys, modest, calm, conditions, laid).
  DERIVED. THE GIVEN ROWS OF THIS SEAT. 3 by the template 'for every input the law returns true; each argument reads behind the call as it read before'; 0 by the template 'total and deterministic' (their statements: YtlnofnmdiddmkaaTotals.lean).
  GIVEN WITH THE SEED: the statements are not yours to turn. If you find one false, say at which input.
  Laid BY PROGRAM, IN A SANDBOX (cutbox-rows.mjs): the forced cells as the released guide's own fill.sh prints them over the translation c25209f3508167aa… (all of the seat's roots in one cut). By AI agents, Wed Nov 11 2026. No macro, syntax, notation, axiom, sorry.
-/
import Derived.Test.YtlnofnmdiddmkaaChecked
import GoSem.Claim
import GoSem.ClaimJoined
import GoSem.ClaimMapViews
import Derived.JoinedTies
import Derived.KernelRfl
namespace Go.Proofs.Ytlnofnmdiddmkaa
/- THE CELL 'sum', in the pinned program and in every row, IS THE sha256 OF THE DUMP (.gsa) THAT YtlnofnmdiddmkaaProg.lean LOADS. Nothing in Lean hashes anything: it is a label: what it is worth is what the hold of that sum in a sandbox is worth. -/
noncomputable def Try.pinned : Pinned := { name := "ytlnofnmdiddmkaa", sum := "c25209f3508167aa13196d5b5103b615bd7b7c7748639c811642e43193ca4966", checked := Try.checked }
namespace Rows
def none {H : Type} : Left H := { results := [], args := [] }

/-- 'pigeonloftlaw24.SessionsKeep': WHATEVER THE INPUT: true; the input reads as it did. -/
def sessionsKeepSpec : ChangeSpec := { name := "sessionsKeep", fn := fun _ => fun
  | [d1, d2] => { results := [.lit (.bool true)], args := [d1, d2] }
  | _ => none }
def sessionsKeepRow : OpenClaim := { program := "ytlnofnmdiddmkaa", sum := "c25209f3508167aa13196d5b5103b615bd7b7c7748639c811642e43193ca4966", func := "pigeonloft/pigeonloftlaw24.SessionsKeep", spec := "sessionsKeep", unfollowed := true, recurses := true, apart := false }
def SessionsKeepSaid : Prop := sessionsKeepRow.holds Try.pinned (OpenSpec.ofChange sessionsKeepSpec)

/-- ITS FALSE NEIGHBOUR: 'it returns false'. Refute it at one input. -/
def sessionsKeepWrong : ChangeSpec := { name := "sessionsKeep", fn := fun _ => fun
  | [d1, d2] => { results := [.lit (.bool false)], args := [d1, d2] }
  | _ => none }
def SessionsKeepWrongFalsely : Prop := sessionsKeepRow.holds Try.pinned (OpenSpec.ofChange sessionsKeepWrong)

/-- 'pigeonloftlaw24.SessionsCycle': WHATEVER THE INPUT: true; the input reads as it did. -/
def sessionsCycleSpec : ChangeSpec := { name := "sessionsCycle", fn := fun _ => fun
  | [d1, d2] => { results := [.lit (.bool true)], args := [d1, d2] }
  | _ => none }
def sessionsCycleRow : OpenClaim := { program := "ytlnofnmdiddmkaa", sum := "c25209f3508167aa13196d5b5103b615bd7b7c7748639c811642e43193ca4966", func := "pigeonloft/pigeonloftlaw24.SessionsCycle", spec := "sessionsCycle", unfollowed := true, recurses := true, apart := false }
def SessionsCycleSaid : Prop := sessionsCycleRow.holds Try.pinned (OpenSpec.ofChange sessionsCycleSpec)

/-- ITS FALSE NEIGHBOUR: 'it returns false'. Refute it at one input. -/
def sessionsCycleWrong : ChangeSpec := { name := "sessionsCycle", fn := fun _ => fun
  | [d1, d2] => { results := [.lit (.bool false)], args := [d1, d2] }
  | _ => none }
def SessionsCycleWrongFalsely : Prop := sessionsCycleRow.holds Try.pinned (OpenSpec.ofChange sessionsCycleWrong)

/-- 'pigeonloftlaw24.SessionsBack': WHATEVER THE INPUT: true; the input reads as it did. -/
def sessionsBackSpec : ChangeSpec := { name := "sessionsBack", fn := fun _ => fun
  | [d] => { results := [.lit (.bool true)], args := [d] }
  | _ => none }
def sessionsBackRow : OpenClaim := { program := "ytlnofnmdiddmkaa", sum := "c25209f3508167aa13196d5b5103b615bd7b7c7748639c811642e43193ca4966", func := "pigeonloft/pigeonloftlaw24.SessionsBack", spec := "sessionsBack", unfollowed := true, recurses := true, apart := false }
def SessionsBackSaid : Prop := sessionsBackRow.holds Try.pinned (OpenSpec.ofChange sessionsBackSpec)

/-- ITS FALSE NEIGHBOUR: 'it returns false'. Refute it at one input. -/
def sessionsBackWrong : ChangeSpec := { name := "sessionsBack", fn := fun _ => fun
  | [d] => { results := [.lit (.bool false)], args := [d] }
  | _ => none }
def SessionsBackWrongFalsely : Prop := sessionsBackRow.holds Try.pinned (OpenSpec.ofChange sessionsBackWrong)

/- THE SECOND FORM. 'bulk': how many values and letters a reading holds, each counted each time it is reached (what is shared counts as often as it is met; a slice's spare places count too). A statement '..UptoSaid' is the law's where the arguments, and the package variables that the reading takes, are together of bulk at most 1048576: NARROWER than '..Said'. Prove '..Said' where nothing that the law and all that it calls make is longer than what came in: it says more and counts as full. Else prove '..UptoSaid'. A law counts once. -/
mutual
def uptoBulk {H : Type} : DataW H → Nat
  | .lit (.string bytes) => bytes.length + 1
  | .lit _ => 1
  | .nil => 1
  | .ptr d => uptoBulk d + 1
  | .slice elems spare => uptoBulkAll elems + uptoBulkAll spare + 1
  | .agg parts => uptoBulkAll parts + 1
  | .iface _ d => uptoBulk d + 1
  | .map entries => uptoBulkEntries entries + 1
  | .held _ => 1
def uptoBulkAll {H : Type} : List (DataW H) → Nat
  | [] => 0
  | d :: r => uptoBulk d + uptoBulkAll r
def uptoBulkEntries {H : Type} : List (Lit × DataW H) → Nat
  | [] => 0
  | x :: r => uptoBulkEntry x + uptoBulkEntries r
def uptoBulkEntry {H : Type} : Lit × DataW H → Nat
  | (.string bytes, d) => bytes.length + uptoBulk d + 1
  | (_, d) => uptoBulk d + 1
 end
def uptoSmall : (H : Type) → List (DataW H) → Bool := fun _ ds => decide (uptoBulkAll ds ≤ 1048576)
def OpenSpec.upto (s : _root_.Go.ChangeSpec) : _root_.Go.OpenSpec := { _root_.Go.OpenSpec.ofChange s with cond := some uptoSmall }

/-- 'pigeonloftlaw24.SessionsKeep', WHERE WHAT IT READS IS OF BULK AT MOST 1048576: true; the input reads as it did. -/
def sessionsKeepUptoRow : OpenClaim := { program := "ytlnofnmdiddmkaa", sum := "c25209f3508167aa13196d5b5103b615bd7b7c7748639c811642e43193ca4966", func := "pigeonloft/pigeonloftlaw24.SessionsKeep", spec := "sessionsKeep", unfollowed := true, recurses := true, apart := false, narrowed := true }
def SessionsKeepUptoSaid : Prop := sessionsKeepUptoRow.holds Try.pinned (OpenSpec.upto sessionsKeepSpec)

/-- 'pigeonloftlaw24.SessionsCycle', WHERE WHAT IT READS IS OF BULK AT MOST 1048576: true; the input reads as it did. -/
def sessionsCycleUptoRow : OpenClaim := { program := "ytlnofnmdiddmkaa", sum := "c25209f3508167aa13196d5b5103b615bd7b7c7748639c811642e43193ca4966", func := "pigeonloft/pigeonloftlaw24.SessionsCycle", spec := "sessionsCycle", unfollowed := true, recurses := true, apart := false, narrowed := true }
def SessionsCycleUptoSaid : Prop := sessionsCycleUptoRow.holds Try.pinned (OpenSpec.upto sessionsCycleSpec)

/-- 'pigeonloftlaw24.SessionsBack', WHERE WHAT IT READS IS OF BULK AT MOST 1048576: true; the input reads as it did. -/
def sessionsBackUptoRow : OpenClaim := { program := "ytlnofnmdiddmkaa", sum := "c25209f3508167aa13196d5b5103b615bd7b7c7748639c811642e43193ca4966", func := "pigeonloft/pigeonloftlaw24.SessionsBack", spec := "sessionsBack", unfollowed := true, recurses := true, apart := false, narrowed := true }
def SessionsBackUptoSaid : Prop := sessionsBackUptoRow.holds Try.pinned (OpenSpec.upto sessionsBackSpec)

end Rows
end Go.Proofs.Ytlnofnmdiddmkaa
