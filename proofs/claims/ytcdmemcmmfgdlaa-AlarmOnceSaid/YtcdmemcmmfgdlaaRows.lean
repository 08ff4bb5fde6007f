/-
  No cell of these rows narrows 'for every input' (looked for: loops, veiled, ifaces, maps, wideKeys, modest, calm, conditions, laid).
  DERIVED. THE GIVEN ROWS OF THIS SEAT. 4 by the template 'for every input the law returns true; each argument reads behind the call as it read before'; 0 by the template 'total and deterministic' (their statements: YtcdmemcmmfgdlaaTotals.lean).
  GIVEN WITH THE SEED: the statements are not yours to turn. If you find one false, say at which input.
  Laid BY PROGRAM, IN A SANDBOX (cutbox-rows.mjs): the forced cells as the released guide's own fill.sh prints them over the translation e6e2e90e9b2840df… (all of the seat's roots in one cut). By AI agents, Wed Nov 11 2026. No macro, syntax, notation, axiom, sorry.
-/
import Derived.Test.YtcdmemcmmfgdlaaChecked
import GoSem.Claim
import GoSem.ClaimJoined
import GoSem.ClaimMapViews
import Derived.JoinedTies
import Derived.KernelRfl
namespace Go.Proofs.Ytcdmemcmmfgdlaa
/- THE CELL 'sum', in the pinned program and in every row, IS THE sha256 OF THE DUMP (.gsa) THAT YtcdmemcmmfgdlaaProg.lean LOADS. Nothing in Lean hashes anything: it is a label: what it is worth is what the hold of that sum in a sandbox is worth. -/
noncomputable def Try.pinned : Pinned := { name := "ytcdmemcmmfgdlaa", sum := "e6e2e90e9b2840df8e54b1c3598dac649026197c46cc48fc0013a74da7a092ec", checked := Try.checked }
namespace Rows
def none {H : Type} : Left H := { results := [], args := [] }

/-- 'pigeonloftlaw20.AlarmOnce': WHATEVER THE INPUT: true; the input reads as it did. -/
def alarmOnceSpec : ChangeSpec := { name := "alarmOnce", fn := fun _ => fun
  | [d1, d2] => { results := [.lit (.bool true)], args := [d1, d2] }
  | _ => none }
def alarmOnceRow : OpenClaim := { program := "ytcdmemcmmfgdlaa", sum := "e6e2e90e9b2840df8e54b1c3598dac649026197c46cc48fc0013a74da7a092ec", func := "pigeonloft/pigeonloftlaw20.AlarmOnce", spec := "alarmOnce", apart := false }
def AlarmOnceSaid : Prop := alarmOnceRow.holds Try.pinned (OpenSpec.ofChange alarmOnceSpec)

/-- ITS FALSE NEIGHBOUR: 'it returns false'. Refute it at one input. -/
def alarmOnceWrong : ChangeSpec := { name := "alarmOnce", fn := fun _ => fun
  | [d1, d2] => { results := [.lit (.bool false)], args := [d1, d2] }
  | _ => none }
def AlarmOnceWrongFalsely : Prop := alarmOnceRow.holds Try.pinned (OpenSpec.ofChange alarmOnceWrong)

/-- 'pigeonloftlaw20.AlarmLives': WHATEVER THE INPUT: true; the input reads as it did. -/
def alarmLivesSpec : ChangeSpec := { name := "alarmLives", fn := fun _ => fun
  | [d1, d2] => { results := [.lit (.bool true)], args := [d1, d2] }
  | _ => none }
def alarmLivesRow : OpenClaim := { program := "ytcdmemcmmfgdlaa", sum := "e6e2e90e9b2840df8e54b1c3598dac649026197c46cc48fc0013a74da7a092ec", func := "pigeonloft/pigeonloftlaw20.AlarmLives", spec := "alarmLives", apart := false }
def AlarmLivesSaid : Prop := alarmLivesRow.holds Try.pinned (OpenSpec.ofChange alarmLivesSpec)

/-- ITS FALSE NEIGHBOUR: 'it returns false'. Refute it at one input. -/
def alarmLivesWrong : ChangeSpec := { name := "alarmLives", fn := fun _ => fun
  | [d1, d2] => { results := [.lit (.bool false)], args := [d1, d2] }
  | _ => none }
def AlarmLivesWrongFalsely : Prop := alarmLivesRow.holds Try.pinned (OpenSpec.ofChange alarmLivesWrong)

/-- 'pigeonloftlaw20.AlarmMoves': WHATEVER THE INPUT: true; the input reads as it did. -/
def alarmMovesSpec : ChangeSpec := { name := "alarmMoves", fn := fun _ => fun
  | [d1, d2, d3, d4] => { results := [.lit (.bool true)], args := [d1, d2, d3, d4] }
  | _ => none }
def alarmMovesRow : OpenClaim := { program := "ytcdmemcmmfgdlaa", sum := "e6e2e90e9b2840df8e54b1c3598dac649026197c46cc48fc0013a74da7a092ec", func := "pigeonloft/pigeonloftlaw20.AlarmMoves", spec := "alarmMoves", apart := false }
def AlarmMovesSaid : Prop := alarmMovesRow.holds Try.pinned (OpenSpec.ofChange alarmMovesSpec)

/-- ITS FALSE NEIGHBOUR: 'it returns false'. Refute it at one input. -/
def alarmMovesWrong : ChangeSpec := { name := "alarmMoves", fn := fun _ => fun
  | [d1, d2, d3, d4] => { results := [.lit (.bool false)], args := [d1, d2, d3, d4] }
  | _ => none }
def AlarmMovesWrongFalsely : Prop := alarmMovesRow.holds Try.pinned (OpenSpec.ofChange alarmMovesWrong)

/-- 'pigeonloftlaw20.AlarmAll': WHATEVER THE INPUT: true; the input reads as it did. -/
def alarmAllSpec : ChangeSpec := { name := "alarmAll", fn := fun _ => fun
  | [d] => { results := [.lit (.bool true)], args := [d] }
  | _ => none }
def alarmAllRow : OpenClaim := { program := "ytcdmemcmmfgdlaa", sum := "e6e2e90e9b2840df8e54b1c3598dac649026197c46cc48fc0013a74da7a092ec", func := "pigeonloft/pigeonloftlaw20.AlarmAll", spec := "alarmAll", apart := false }
def AlarmAllSaid : Prop := alarmAllRow.holds Try.pinned (OpenSpec.ofChange alarmAllSpec)

/-- ITS FALSE NEIGHBOUR: 'it returns false'. Refute it at one input. -/
def alarmAllWrong : ChangeSpec := { name := "alarmAll", fn := fun _ => fun
  | [d] => { results := [.lit (.bool false)], args := [d] }
  | _ => none }
def AlarmAllWrongFalsely : Prop := alarmAllRow.holds Try.pinned (OpenSpec.ofChange alarmAllWrong)

/- THE SECOND FORM. 'bulk': how many values and letters a reading holds, each counted each time it is reached (what is shared counts as often as it is met; a slice's spare places count too). A statement '..UptoSaid' is the law's where the arguments, and the package variables that the reading takes, are together of bulk at most 1048576: NARROWER than '..Said'. Prove '..Said' where nothing that the law and all that it calls make is longer than what came in: it says more and counts as full. Else prove '..UptoSaid'. A law counts once. -/
mutual
def uptoBulk {H : Type} : DataW H → Nat
  | .lit (.string bytes) => bytes.length + 1
  | .lit _ => 1
  | .nil => 1
  | .ptr d => uptoBulk d + 1
  | .slice elems spare => uptoBulkAll elems + uptoBulkAll spare + 1
  | .agg parts => uptoBulkAll parts + 1
  | .iface _ d => uptoBulk d + 1
  | .map entries => uptoBulkEntries entries + 1
  | .held _ => 1
def uptoBulkAll {H : Type} : List (DataW H) → Nat
  | [] => 0
  | d :: r => uptoBulk d + uptoBulkAll r
def uptoBulkEntries {H : Type} : List (Lit × DataW H) → Nat
  | [] => 0
  | x :: r => uptoBulkEntry x + uptoBulkEntries r
def uptoBulkEntry {H : Type} : Lit × DataW H → Nat
  | (.string bytes, d) => bytes.length + uptoBulk d + 1
  | (_, d) => uptoBulk d + 1
 end
def uptoSmall : (H : Type) → List (DataW H) → Bool := fun _ ds => decide (uptoBulkAll ds ≤ 1048576)
def OpenSpec.upto (s : _root_.Go.ChangeSpec) : _root_.Go.OpenSpec := { _root_.Go.OpenSpec.ofChange s with cond := some uptoSmall }

/-- 'pigeonloftlaw20.AlarmOnce', WHERE WHAT IT READS IS OF BULK AT MOST 1048576: true; the input reads as it did. -/
def alarmOnceUptoRow : OpenClaim := { program := "ytcdmemcmmfgdlaa", sum := "e6e2e90e9b2840df8e54b1c3598dac649026197c46cc48fc0013a74da7a092ec", func := "pigeonloft/pigeonloftlaw20.AlarmOnce", spec := "alarmOnce", apart := false, narrowed := true }
def AlarmOnceUptoSaid : Prop := alarmOnceUptoRow.holds Try.pinned (OpenSpec.upto alarmOnceSpec)

/-- 'pigeonloftlaw20.AlarmLives', WHERE WHAT IT READS IS OF BULK AT MOST 1048576: true; the input reads as it did. -/
def alarmLivesUptoRow : OpenClaim := { program := "ytcdmemcmmfgdlaa", sum := "e6e2e90e9b2840df8e54b1c3598dac649026197c46cc48fc0013a74da7a092ec", func := "pigeonloft/pigeonloftlaw20.AlarmLives", spec := "alarmLives", apart := false, narrowed := true }
def AlarmLivesUptoSaid : Prop := alarmLivesUptoRow.holds Try.pinned (OpenSpec.upto alarmLivesSpec)

/-- 'pigeonloftlaw20.AlarmMoves', WHERE WHAT IT READS IS OF BULK AT MOST 1048576: true; the input reads as it did. -/
def alarmMovesUptoRow : OpenClaim := { program := "ytcdmemcmmfgdlaa", sum := "e6e2e90e9b2840df8e54b1c3598dac649026197c46cc48fc0013a74da7a092ec", func := "pigeonloft/pigeonloftlaw20.AlarmMoves", spec := "alarmMoves", apart := false, narrowed := true }
def AlarmMovesUptoSaid : Prop := alarmMovesUptoRow.holds Try.pinned (OpenSpec.upto alarmMovesSpec)

/-- 'pigeonloftlaw20.AlarmAll', WHERE WHAT IT READS IS OF BULK AT MOST 1048576: true; the input reads as it did. -/
def alarmAllUptoRow : OpenClaim := { program := "ytcdmemcmmfgdlaa", sum := "e6e2e90e9b2840df8e54b1c3598dac649026197c46cc48fc0013a74da7a092ec", func := "pigeonloft/pigeonloftlaw20.AlarmAll", spec := "alarmAll", apart := false, narrowed := true }
def AlarmAllUptoSaid : Prop := alarmAllUptoRow.holds Try.pinned (OpenSpec.upto alarmAllSpec)

end Rows
end Go.Proofs.Ytcdmemcmmfgdlaa
