/-
  DERIVED. GIVEN WITH THE SEED: THE CARDS: each row of YtelbcloplcdchaaGreatDoorRows.lean that lists a variable, with what it lists TIED to the program's text (the seventh form; the later family's looks); each row that meets fmt, with fmt's text TOLD by the authors' own Lean function (tested against real Go, not proved from fmt's source: count such statements apart). THE CARD IS WHAT COUNTS. Prove the row's statement (the work); the ties are given (YtelbcloplcdchaaGreatDoorTie.lean); close each card by the builder's one call (the guide's Derived/Test/ToyasCard.lean, 'card_holds'). Laid BY PROGRAM, IN A SANDBOX (cutbox-door.mjs). By AI agents, Wed Nov 11 2026. No macro, syntax, notation, axiom, sorry.
-/
import Derived.Test.YtelbcloplcdchaaGreatDoorRows
import GoSem.ClaimSeven
namespace Go.Proofs.YtelbcloplcdchaaGreatDoor
namespace Rows

/-- THE TIED CARD OF 'pigeonloftlaw28.ArriveAgain'. -/
def arriveAgainCard : Claim7 := { stood := { row := arriveAgainRow, standIns := [], harness := (true, "92cd74d3ad847f65df22a257602932a8ce249cc23f8ed5a0fb6709f94e915a2e"), looks := true }, kinds := [], alts := [], laidByText := true, laidKinds := [.data, .data, .data, .data, .sentinel, .sentinel, .pinned], laidTests := true, laidLooks := .later }
def ArriveAgainCardSaid : Prop := Claim7.holds Tryz.pinned (.plain (OpenSpec.ofChange arriveAgainSpec)) arriveAgainCard

/-- THE SECOND FORM's CARD OF 'pigeonloftlaw28.ArriveAgain'. -/
def arriveAgainUptoCard : Claim7 := { stood := { row := arriveAgainUptoRow, standIns := [], harness := (true, "92cd74d3ad847f65df22a257602932a8ce249cc23f8ed5a0fb6709f94e915a2e"), looks := true }, kinds := [], alts := [], laidByText := true, laidKinds := [.data, .data, .data, .data, .sentinel, .sentinel, .pinned], laidTests := true, laidLooks := .later }
def ArriveAgainUptoCardSaid : Prop := Claim7.holds Tryz.pinned (.plain (OpenSpec.upto arriveAgainSpec)) arriveAgainUptoCard
end Rows
end Go.Proofs.YtelbcloplcdchaaGreatDoor
