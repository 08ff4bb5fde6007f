/-
  DERIVED. GIVEN WITH THE SEED: THE CARDS: each row of YtkdgpmeojgokdaaGreatDoorRows.lean that lists a variable, with what it lists TIED to the program's text (the seventh form; the later family's looks); each row that meets fmt, with fmt's text TOLD by the authors' own Lean function (tested against real Go, not proved from fmt's source: count such statements apart). THE CARD IS WHAT COUNTS. Prove the row's statement (the work); the ties are given (YtkdgpmeojgokdaaGreatDoorTie.lean); close each card by the builder's one call (the guide's Derived/Test/ToyasCard.lean, 'card_holds'). Laid BY PROGRAM, IN A SANDBOX (cutbox-door.mjs). By AI agents, Wed Nov 11 2026. No macro, syntax, notation, axiom, sorry.
-/
import Derived.Test.YtkdgpmeojgokdaaGreatDoorRows
import GoSem.ClaimSeven
namespace Go.Proofs.YtkdgpmeojgokdaaGreatDoor
namespace Rows

/-- THE TIED CARD OF 'pigeonloftlaw35.JudgeAgrees'. -/
def judgeAgreesCard : Claim7 := { stood := { row := judgeAgreesRow, standIns := [], harness := (true, "da2f5688acb90bedd775d1176589aa8b4bc1e12caf417ec030963fc731117cd7"), looks := true }, kinds := [], alts := [], laidByText := true, laidKinds := [.data, .pinned], laidTests := true, laidLooks := .later }
def JudgeAgreesCardSaid : Prop := Claim7.holds Tryz.pinned (.plain (OpenSpec.ofChange judgeAgreesSpec)) judgeAgreesCard

/-- THE TIED CARD OF 'pigeonloftlaw35.JudgeLost'. -/
def judgeLostCard : Claim7 := { stood := { row := judgeLostRow, standIns := [], harness := (true, "da2f5688acb90bedd775d1176589aa8b4bc1e12caf417ec030963fc731117cd7"), looks := true }, kinds := [], alts := [], laidByText := true, laidKinds := [.data, .pinned], laidTests := true, laidLooks := .later }
def JudgeLostCardSaid : Prop := Claim7.holds Tryz.pinned (.plain (OpenSpec.ofChange judgeLostSpec)) judgeLostCard

/-- THE SECOND FORM's CARD OF 'pigeonloftlaw35.JudgeAgrees'. -/
def judgeAgreesUptoCard : Claim7 := { stood := { row := judgeAgreesUptoRow, standIns := [], harness := (true, "da2f5688acb90bedd775d1176589aa8b4bc1e12caf417ec030963fc731117cd7"), looks := true }, kinds := [], alts := [], laidByText := true, laidKinds := [.data, .pinned], laidTests := true, laidLooks := .later }
def JudgeAgreesUptoCardSaid : Prop := Claim7.holds Tryz.pinned (.plain (OpenSpec.upto judgeAgreesSpec)) judgeAgreesUptoCard

/-- THE SECOND FORM's CARD OF 'pigeonloftlaw35.JudgeLost'. -/
def judgeLostUptoCard : Claim7 := { stood := { row := judgeLostUptoRow, standIns := [], harness := (true, "da2f5688acb90bedd775d1176589aa8b4bc1e12caf417ec030963fc731117cd7"), looks := true }, kinds := [], alts := [], laidByText := true, laidKinds := [.data, .pinned], laidTests := true, laidLooks := .later }
def JudgeLostUptoCardSaid : Prop := Claim7.holds Tryz.pinned (.plain (OpenSpec.upto judgeLostSpec)) judgeLostUptoCard
end Rows
end Go.Proofs.YtkdgpmeojgokdaaGreatDoor
