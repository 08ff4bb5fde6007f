/-
  DERIVED. GIVEN WITH THE SEED: THE CARDS: each row of YtgccegnmggjkjaaGreatDoorRows.lean that lists a variable, with what it lists TIED to the program's text (the seventh form; the later family's looks); each row that meets fmt, with fmt's text TOLD by the authors' own Lean function (tested against real Go, not proved from fmt's source: count such statements apart). THE CARD IS WHAT COUNTS. Prove the row's statement (the work); the ties are given (YtgccegnmggjkjaaGreatDoorTie.lean); close each card by the builder's one call (the guide's Derived/Test/ToyasCard.lean, 'card_holds'). Laid BY PROGRAM, IN A SANDBOX (cutbox-door.mjs). By AI agents, Wed Nov 11 2026. No macro, syntax, notation, axiom, sorry.
-/
import Derived.Test.YtgccegnmggjkjaaGreatDoorRows
import GoSem.ClaimSeven
namespace Go.Proofs.YtgccegnmggjkjaaGreatDoor
namespace Rows

/-- THE TIED CARD OF 'pigeonloftlaw21.CopiesLives'. -/
def copiesLivesCard : Claim7 := { stood := { row := copiesLivesRow, standIns := [], harness := (true, "eeefe250627a6d072b8cb8796c107bf4a88a7564db22d940ea97a06d8d1f5c40"), looks := true }, kinds := [], alts := [], laidByText := true, laidKinds := [.data, .data, .data], laidTests := true, laidLooks := .later }
def CopiesLivesCardSaid : Prop := Claim7.holds Tryz.pinned (.plain (OpenSpec.ofChange copiesLivesSpec)) copiesLivesCard

/-- THE TIED CARD OF 'pigeonloftlaw22.RegsBack'. -/
def regsBackCard : Claim7 := { stood := { row := regsBackRow, standIns := [], harness := (true, "eeefe250627a6d072b8cb8796c107bf4a88a7564db22d940ea97a06d8d1f5c40"), looks := true }, kinds := [], alts := [], laidByText := true, laidKinds := [.data, .data, .data, .sentinel, .sentinel], laidTests := true, laidLooks := .later }
def RegsBackCardSaid : Prop := Claim7.holds Tryz.pinned (.plain (OpenSpec.ofChange regsBackSpec)) regsBackCard

/-- THE TIED CARD OF 'pigeonloftlaw21.CopiesBack'. -/
def copiesBackCard : Claim7 := { stood := { row := copiesBackRow, standIns := [], harness := (true, "eeefe250627a6d072b8cb8796c107bf4a88a7564db22d940ea97a06d8d1f5c40"), looks := true }, kinds := [], alts := [], laidByText := true, laidKinds := [.data, .data, .data, .sentinel, .sentinel], laidTests := true, laidLooks := .later }
def CopiesBackCardSaid : Prop := Claim7.holds Tryz.pinned (.plain (OpenSpec.ofChange copiesBackSpec)) copiesBackCard

/-- THE TIED CARD OF 'pigeonloftlaw26.StateLives'. -/
def stateLivesCard : Claim7 := { stood := { row := stateLivesRow, standIns := [], harness := (true, "eeefe250627a6d072b8cb8796c107bf4a88a7564db22d940ea97a06d8d1f5c40"), looks := true }, kinds := [], alts := [], laidByText := true, laidKinds := [.data, .data, .data], laidTests := true, laidLooks := .later }
def StateLivesCardSaid : Prop := Claim7.holds Tryz.pinned (.plain (OpenSpec.ofChange stateLivesSpec)) stateLivesCard

/-- THE TIED CARD OF 'pigeonloftlaw26.StatePasses'. -/
def statePassesCard : Claim7 := { stood := { row := statePassesRow, standIns := [], harness := (true, "eeefe250627a6d072b8cb8796c107bf4a88a7564db22d940ea97a06d8d1f5c40"), looks := true }, kinds := [], alts := [], laidByText := true, laidKinds := [.data, .data, .data], laidTests := true, laidLooks := .later }
def StatePassesCardSaid : Prop := Claim7.holds Tryz.pinned (.plain (OpenSpec.ofChange statePassesSpec)) statePassesCard

/-- THE TIED CARD OF 'pigeonloftlaw26.StateBack'. -/
def stateBackCard : Claim7 := { stood := { row := stateBackRow, standIns := [], harness := (true, "eeefe250627a6d072b8cb8796c107bf4a88a7564db22d940ea97a06d8d1f5c40"), looks := true }, kinds := [], alts := [], laidByText := true, laidKinds := [.data, .data, .data, .sentinel, .sentinel], laidTests := true, laidLooks := .later }
def StateBackCardSaid : Prop := Claim7.holds Tryz.pinned (.plain (OpenSpec.ofChange stateBackSpec)) stateBackCard

/-- THE SECOND FORM's CARD OF 'pigeonloftlaw21.CopiesLives'. -/
def copiesLivesUptoCard : Claim7 := { stood := { row := copiesLivesUptoRow, standIns := [], harness := (true, "eeefe250627a6d072b8cb8796c107bf4a88a7564db22d940ea97a06d8d1f5c40"), looks := true }, kinds := [], alts := [], laidByText := true, laidKinds := [.data, .data, .data], laidTests := true, laidLooks := .later }
def CopiesLivesUptoCardSaid : Prop := Claim7.holds Tryz.pinned (.plain (OpenSpec.upto copiesLivesSpec)) copiesLivesUptoCard

/-- THE SECOND FORM's CARD OF 'pigeonloftlaw22.RegsBack'. -/
def regsBackUptoCard : Claim7 := { stood := { row := regsBackUptoRow, standIns := [], harness := (true, "eeefe250627a6d072b8cb8796c107bf4a88a7564db22d940ea97a06d8d1f5c40"), looks := true }, kinds := [], alts := [], laidByText := true, laidKinds := [.data, .data, .data, .sentinel, .sentinel], laidTests := true, laidLooks := .later }
def RegsBackUptoCardSaid : Prop := Claim7.holds Tryz.pinned (.plain (OpenSpec.upto regsBackSpec)) regsBackUptoCard

/-- THE SECOND FORM's CARD OF 'pigeonloftlaw21.CopiesBack'. -/
def copiesBackUptoCard : Claim7 := { stood := { row := copiesBackUptoRow, standIns := [], harness := (true, "eeefe250627a6d072b8cb8796c107bf4a88a7564db22d940ea97a06d8d1f5c40"), looks := true }, kinds := [], alts := [], laidByText := true, laidKinds := [.data, .data, .data, .sentinel, .sentinel], laidTests := true, laidLooks := .later }
def CopiesBackUptoCardSaid : Prop := Claim7.holds Tryz.pinned (.plain (OpenSpec.upto copiesBackSpec)) copiesBackUptoCard

/-- THE SECOND FORM's CARD OF 'pigeonloftlaw26.StateLives'. -/
def stateLivesUptoCard : Claim7 := { stood := { row := stateLivesUptoRow, standIns := [], harness := (true, "eeefe250627a6d072b8cb8796c107bf4a88a7564db22d940ea97a06d8d1f5c40"), looks := true }, kinds := [], alts := [], laidByText := true, laidKinds := [.data, .data, .data], laidTests := true, laidLooks := .later }
def StateLivesUptoCardSaid : Prop := Claim7.holds Tryz.pinned (.plain (OpenSpec.upto stateLivesSpec)) stateLivesUptoCard

/-- THE SECOND FORM's CARD OF 'pigeonloftlaw26.StatePasses'. -/
def statePassesUptoCard : Claim7 := { stood := { row := statePassesUptoRow, standIns := [], harness := (true, "eeefe250627a6d072b8cb8796c107bf4a88a7564db22d940ea97a06d8d1f5c40"), looks := true }, kinds := [], alts := [], laidByText := true, laidKinds := [.data, .data, .data], laidTests := true, laidLooks := .later }
def StatePassesUptoCardSaid : Prop := Claim7.holds Tryz.pinned (.plain (OpenSpec.upto statePassesSpec)) statePassesUptoCard

/-- THE SECOND FORM's CARD OF 'pigeonloftlaw26.StateBack'. -/
def stateBackUptoCard : Claim7 := { stood := { row := stateBackUptoRow, standIns := [], harness := (true, "eeefe250627a6d072b8cb8796c107bf4a88a7564db22d940ea97a06d8d1f5c40"), looks := true }, kinds := [], alts := [], laidByText := true, laidKinds := [.data, .data, .data, .sentinel, .sentinel], laidTests := true, laidLooks := .later }
def StateBackUptoCardSaid : Prop := Claim7.holds Tryz.pinned (.plain (OpenSpec.upto stateBackSpec)) stateBackUptoCard
end Rows
end Go.Proofs.YtgccegnmggjkjaaGreatDoor
