/-
  DERIVED. GIVEN WITH THE SEED: THE CARDS: each row of YtgccegnmggjkjaaDoorRows.lean that lists a variable, with what it lists TIED to the program's text (the seventh form; the later family's looks); each row that meets fmt, with fmt's text TOLD by the authors' own Lean function (tested against real Go, not proved from fmt's source: count such statements apart). THE CARD IS WHAT COUNTS. Prove the row's statement (the work); the ties are given (YtgccegnmggjkjaaDoorTie.lean); close each card by the builder's one call (the guide's Derived/Test/ToyasCard.lean, 'card_holds'). Laid BY PROGRAM, IN A SANDBOX (cutbox-door.mjs). By AI agents, Wed Nov 11 2026. No macro, syntax, notation, axiom, sorry.
-/
import Derived.Test.YtgccegnmggjkjaaDoorRows
import GoSem.ClaimSeven
namespace Go.Proofs.YtgccegnmggjkjaaDoor
namespace Rows

/-- THE TIED CARD OF 'pigeonloftlaw22.RegsLives'. -/
def regsLivesCard : Claim7 := { stood := { row := regsLivesRow, standIns := [], harness := (true, "c96d2a8976b403f3ac0a05f5cb3cb5a046a0e12f28f4c93d00deaee857ef88fc"), looks := false }, kinds := [], alts := [], laidByText := true, laidKinds := [.data, .data, .data], laidTests := true, laidLooks := .later }
def RegsLivesCardSaid : Prop := Claim7.holds Tryd.pinned (.plain (OpenSpec.ofChange regsLivesSpec)) regsLivesCard

/-- THE SECOND FORM's CARD OF 'pigeonloftlaw22.RegsLives'. -/
def regsLivesUptoCard : Claim7 := { stood := { row := regsLivesUptoRow, standIns := [], harness := (true, "c96d2a8976b403f3ac0a05f5cb3cb5a046a0e12f28f4c93d00deaee857ef88fc"), looks := false }, kinds := [], alts := [], laidByText := true, laidKinds := [.data, .data, .data], laidTests := true, laidLooks := .later }
def RegsLivesUptoCardSaid : Prop := Claim7.holds Tryd.pinned (.plain (OpenSpec.upto regsLivesSpec)) regsLivesUptoCard
end Rows
end Go.Proofs.YtgccegnmggjkjaaDoor
