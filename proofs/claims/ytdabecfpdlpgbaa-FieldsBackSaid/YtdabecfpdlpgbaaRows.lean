/-
  No cell of these rows narrows 'for every input' (looked for: loops, veiled, ifaces, maps, wideKeys, modest, calm, conditions, laid).
  DERIVED. THE GIVEN ROWS OF THIS SEAT. 3 by the template 'for every input the law returns true; each argument reads behind the call as it read before'; 0 by the template 'total and deterministic' (their statements: YtdabecfpdlpgbaaTotals.lean).
  GIVEN WITH THE SEED: the statements are not yours to turn. If you find one false, say at which input.
  Laid BY PROGRAM, IN A SANDBOX (cutbox-rows.mjs): the forced cells as the released guide's own fill.sh prints them over the translation a591d725541f1a37… (all of the seat's roots in one cut). By AI agents, Wed Nov 11 2026. No macro, syntax, notation, axiom, sorry.
-/
import Derived.Test.YtdabecfpdlpgbaaChecked
import GoSem.Claim
import GoSem.ClaimJoined
import GoSem.ClaimMapViews
import Derived.JoinedTies
import Derived.KernelRfl
namespace Go.Proofs.Ytdabecfpdlpgbaa
/- THE CELL 'sum', in the pinned program and in every row, IS THE sha256 OF THE DUMP (.gsa) THAT YtdabecfpdlpgbaaProg.lean LOADS. Nothing in Lean hashes anything: it is a label: what it is worth is what the hold of that sum in a sandbox is worth. -/
noncomputable def Try.pinned : Pinned := { name := "ytdabecfpdlpgbaa", sum := "a591d725541f1a375b9f61dd2fc68c5d9a97946aa447b7adf4cb4a67f2d02759", checked := Try.checked }
namespace Rows
def none {H : Type} : Left H := { results := [], args := [] }

/-- 'pigeonloftlaw15.FieldsSizes': WHATEVER THE INPUT: true; the input reads as it did. -/
def fieldsSizesSpec : ChangeSpec := { name := "fieldsSizes", fn := fun _ => fun
  | [d1, d2] => { results := [.lit (.bool true)], args := [d1, d2] }
  | _ => none }
def fieldsSizesRow : OpenClaim := { program := "ytdabecfpdlpgbaa", sum := "a591d725541f1a375b9f61dd2fc68c5d9a97946aa447b7adf4cb4a67f2d02759", func := "pigeonloft/pigeonloftlaw15.FieldsSizes", spec := "fieldsSizes", apart := false }
def FieldsSizesSaid : Prop := fieldsSizesRow.holds Try.pinned (OpenSpec.ofChange fieldsSizesSpec)

/-- ITS FALSE NEIGHBOUR: 'it returns false'. Refute it at one input. -/
def fieldsSizesWrong : ChangeSpec := { name := "fieldsSizes", fn := fun _ => fun
  | [d1, d2] => { results := [.lit (.bool false)], args := [d1, d2] }
  | _ => none }
def FieldsSizesWrongFalsely : Prop := fieldsSizesRow.holds Try.pinned (OpenSpec.ofChange fieldsSizesWrong)

/-- 'pigeonloftlaw15.FieldsWrite': WHATEVER THE INPUT: true; the input reads as it did. -/
def fieldsWriteSpec : ChangeSpec := { name := "fieldsWrite", fn := fun _ => fun
  | [d] => { results := [.lit (.bool true)], args := [d] }
  | _ => none }
def fieldsWriteRow : OpenClaim := { program := "ytdabecfpdlpgbaa", sum := "a591d725541f1a375b9f61dd2fc68c5d9a97946aa447b7adf4cb4a67f2d02759", func := "pigeonloft/pigeonloftlaw15.FieldsWrite", spec := "fieldsWrite", apart := false }
def FieldsWriteSaid : Prop := fieldsWriteRow.holds Try.pinned (OpenSpec.ofChange fieldsWriteSpec)

/-- ITS FALSE NEIGHBOUR: 'it returns false'. Refute it at one input. -/
def fieldsWriteWrong : ChangeSpec := { name := "fieldsWrite", fn := fun _ => fun
  | [d] => { results := [.lit (.bool false)], args := [d] }
  | _ => none }
def FieldsWriteWrongFalsely : Prop := fieldsWriteRow.holds Try.pinned (OpenSpec.ofChange fieldsWriteWrong)

/-- 'pigeonloftlaw15.FieldsBack': WHATEVER THE INPUT: true; the input reads as it did. -/
def fieldsBackSpec : ChangeSpec := { name := "fieldsBack", fn := fun _ => fun
  | [d1, d2] => { results := [.lit (.bool true)], args := [d1, d2] }
  | _ => none }
def fieldsBackRow : OpenClaim := { program := "ytdabecfpdlpgbaa", sum := "a591d725541f1a375b9f61dd2fc68c5d9a97946aa447b7adf4cb4a67f2d02759", func := "pigeonloft/pigeonloftlaw15.FieldsBack", spec := "fieldsBack", apart := false }
def FieldsBackSaid : Prop := fieldsBackRow.holds Try.pinned (OpenSpec.ofChange fieldsBackSpec)

/-- ITS FALSE NEIGHBOUR: 'it returns false'. Refute it at one input. -/
def fieldsBackWrong : ChangeSpec := { name := "fieldsBack", fn := fun _ => fun
  | [d1, d2] => { results := [.lit (.bool false)], args := [d1, d2] }
  | _ => none }
def FieldsBackWrongFalsely : Prop := fieldsBackRow.holds Try.pinned (OpenSpec.ofChange fieldsBackWrong)

/- THE SECOND FORM. 'bulk': how many values and letters a reading holds, each counted each time it is reached (what is shared counts as often as it is met; a slice's spare places count too). A statement '..UptoSaid' is the law's where the arguments, and the package variables that the reading takes, are together of bulk at most 1048576: NARROWER than '..Said'. Prove '..Said' where nothing that the law and all that it calls make is longer than what came in: it says more and counts as full. Else prove '..UptoSaid'. A law counts once. -/
mutual
def uptoBulk {H : Type} : DataW H → Nat
  | .lit (.string bytes) => bytes.length + 1
  | .lit _ => 1
  | .nil => 1
  | .ptr d => uptoBulk d + 1
  | .slice elems spare => uptoBulkAll elems + uptoBulkAll spare + 1
  | .agg parts => uptoBulkAll parts + 1
  | .iface _ d => uptoBulk d + 1
  | .map entries => uptoBulkEntries entries + 1
  | .held _ => 1
def uptoBulkAll {H : Type} : List (DataW H) → Nat
  | [] => 0
  | d :: r => uptoBulk d + uptoBulkAll r
def uptoBulkEntries {H : Type} : List (Lit × DataW H) → Nat
  | [] => 0
  | x :: r => uptoBulkEntry x + uptoBulkEntries r
def uptoBulkEntry {H : Type} : Lit × DataW H → Nat
  | (.string bytes, d) => bytes.length + uptoBulk d + 1
  | (_, d) => uptoBulk d + 1
 end
def uptoSmall : (H : Type) → List (DataW H) → Bool := fun _ ds => decide (uptoBulkAll ds ≤ 1048576)
def OpenSpec.upto (s : _root_.Go.ChangeSpec) : _root_.Go.OpenSpec := { _root_.Go.OpenSpec.ofChange s with cond := some uptoSmall }

/-- 'pigeonloftlaw15.FieldsSizes', WHERE WHAT IT READS IS OF BULK AT MOST 1048576: true; the input reads as it did. -/
def fieldsSizesUptoRow : OpenClaim := { program := "ytdabecfpdlpgbaa", sum := "a591d725541f1a375b9f61dd2fc68c5d9a97946aa447b7adf4cb4a67f2d02759", func := "pigeonloft/pigeonloftlaw15.FieldsSizes", spec := "fieldsSizes", apart := false, narrowed := true }
def FieldsSizesUptoSaid : Prop := fieldsSizesUptoRow.holds Try.pinned (OpenSpec.upto fieldsSizesSpec)

/-- 'pigeonloftlaw15.FieldsWrite', WHERE WHAT IT READS IS OF BULK AT MOST 1048576: true; the input reads as it did. -/
def fieldsWriteUptoRow : OpenClaim := { program := "ytdabecfpdlpgbaa", sum := "a591d725541f1a375b9f61dd2fc68c5d9a97946aa447b7adf4cb4a67f2d02759", func := "pigeonloft/pigeonloftlaw15.FieldsWrite", spec := "fieldsWrite", apart := false, narrowed := true }
def FieldsWriteUptoSaid : Prop := fieldsWriteUptoRow.holds Try.pinned (OpenSpec.upto fieldsWriteSpec)

/-- 'pigeonloftlaw15.FieldsBack', WHERE WHAT IT READS IS OF BULK AT MOST 1048576: true; the input reads as it did. -/
def fieldsBackUptoRow : OpenClaim := { program := "ytdabecfpdlpgbaa", sum := "a591d725541f1a375b9f61dd2fc68c5d9a97946aa447b7adf4cb4a67f2d02759", func := "pigeonloft/pigeonloftlaw15.FieldsBack", spec := "fieldsBack", apart := false, narrowed := true }
def FieldsBackUptoSaid : Prop := fieldsBackUptoRow.holds Try.pinned (OpenSpec.upto fieldsBackSpec)

end Rows
end Go.Proofs.Ytdabecfpdlpgbaa
