/-
  DERIVED. GIVEN WITH THE SEED: THE CARDS: each row of YtimiaphmdidfhaaGreatDoorRows.lean that lists a variable, with what it lists TIED to the program's text (the seventh form; the later family's looks); each row that meets fmt, with fmt's text TOLD by the authors' own Lean function (tested against real Go, not proved from fmt's source: count such statements apart). THE CARD IS WHAT COUNTS. Prove the row's statement (the work); the ties are given (YtimiaphmdidfhaaGreatDoorTie.lean); close each card by the builder's one call (the guide's Derived/Test/ToyasCard.lean, 'card_holds'). Laid BY PROGRAM, IN A SANDBOX (cutbox-door.mjs). By AI agents, Wed Nov 11 2026. No macro, syntax, notation, axiom, sorry.
-/
import Derived.Test.YtimiaphmdidfhaaGreatDoorRows
import GoSem.ClaimSeven
namespace Go.Proofs.YtimiaphmdidfhaaGreatDoor
namespace Rows

/-- THE TIED CARD OF 'pigeonloftlaw28.ArriveDown'. -/
def arriveDownCard : Claim7 := { stood := { row := arriveDownRow, standIns := [], harness := (true, "ca338c955dd013ee9f0d76113afb838bb9c64ddc67efcb63167b392c426accfa"), looks := true }, kinds := [], alts := [], laidByText := true, laidKinds := [.data, .data, .data, .data, .pinned], laidTests := true, laidLooks := .later }
def ArriveDownCardSaid : Prop := Claim7.holds Tryz.pinned (.plain (OpenSpec.ofChange arriveDownSpec)) arriveDownCard

/-- THE SECOND FORM's CARD OF 'pigeonloftlaw28.ArriveDown'. -/
def arriveDownUptoCard : Claim7 := { stood := { row := arriveDownUptoRow, standIns := [], harness := (true, "ca338c955dd013ee9f0d76113afb838bb9c64ddc67efcb63167b392c426accfa"), looks := true }, kinds := [], alts := [], laidByText := true, laidKinds := [.data, .data, .data, .data, .pinned], laidTests := true, laidLooks := .later }
def ArriveDownUptoCardSaid : Prop := Claim7.holds Tryz.pinned (.plain (OpenSpec.upto arriveDownSpec)) arriveDownUptoCard
end Rows
end Go.Proofs.YtimiaphmdidfhaaGreatDoor
