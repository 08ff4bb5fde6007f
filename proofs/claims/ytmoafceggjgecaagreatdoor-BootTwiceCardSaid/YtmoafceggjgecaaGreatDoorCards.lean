/-
  DERIVED. GIVEN WITH THE SEED: THE CARDS: each row of YtmoafceggjgecaaGreatDoorRows.lean that lists a variable, with what it lists TIED to the program's text (the seventh form; the later family's looks); each row that meets fmt, with fmt's text TOLD by the authors' own Lean function (tested against real Go, not proved from fmt's source: count such statements apart). THE CARD IS WHAT COUNTS. Prove the row's statement (the work); the ties are given (YtmoafceggjgecaaGreatDoorTie.lean); close each card by the builder's one call (the guide's Derived/Test/ToyasCard.lean, 'card_holds'). Laid BY PROGRAM, IN A SANDBOX (cutbox-door.mjs). By AI agents, Wed Nov 11 2026. No macro, syntax, notation, axiom, sorry.
-/
import Derived.Test.YtmoafceggjgecaaGreatDoorRows
import GoSem.ClaimSeven
namespace Go.Proofs.YtmoafceggjgecaaGreatDoor
namespace Rows

/-- THE TIED CARD OF 'pigeonloftlaw33.BootTwice'. -/
def bootTwiceCard : Claim7 := { stood := { row := bootTwiceRow, standIns := [], harness := (true, "e40c85b2013b2fc96e48b2d09ce740fd0092fc9da93f229dcc48511aaf21864c"), looks := true }, kinds := [], alts := [], laidByText := true, laidKinds := [.data, .data, .data, .data, .sentinel, .sentinel, .pinned], laidTests := true, laidLooks := .later }
def BootTwiceCardSaid : Prop := Claim7.holds Tryz.pinned (.plain (OpenSpec.ofChange bootTwiceSpec)) bootTwiceCard

/-- THE SECOND FORM's CARD OF 'pigeonloftlaw33.BootTwice'. -/
def bootTwiceUptoCard : Claim7 := { stood := { row := bootTwiceUptoRow, standIns := [], harness := (true, "e40c85b2013b2fc96e48b2d09ce740fd0092fc9da93f229dcc48511aaf21864c"), looks := true }, kinds := [], alts := [], laidByText := true, laidKinds := [.data, .data, .data, .data, .sentinel, .sentinel, .pinned], laidTests := true, laidLooks := .later }
def BootTwiceUptoCardSaid : Prop := Claim7.holds Tryz.pinned (.plain (OpenSpec.upto bootTwiceSpec)) bootTwiceUptoCard
end Rows
end Go.Proofs.YtmoafceggjgecaaGreatDoor
