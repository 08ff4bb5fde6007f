/-
  DERIVED. GIVEN WITH THE SEED: THE CARDS: each row of YtaphjamdblgiiaaGreatDoorRows.lean that lists a variable, with what it lists TIED to the program's text (the seventh form; the later family's looks); each row that meets fmt, with fmt's text TOLD by the authors' own Lean function (tested against real Go, not proved from fmt's source: count such statements apart). THE CARD IS WHAT COUNTS. Prove the row's statement (the work); the ties are given (YtaphjamdblgiiaaGreatDoorTie.lean); close each card by the builder's one call (the guide's Derived/Test/ToyasCard.lean, 'card_holds'). Laid BY PROGRAM, IN A SANDBOX (cutbox-door.mjs). By AI agents, Wed Nov 11 2026. No macro, syntax, notation, axiom, sorry.
-/
import Derived.Test.YtaphjamdblgiiaaGreatDoorRows
import GoSem.ClaimSeven
namespace Go.Proofs.YtaphjamdblgiiaaGreatDoor
namespace Rows

/-- THE TIED CARD OF 'pigeonloftlaw32.DaemonTokens'. -/
def daemonTokensCard : Claim7 := { stood := { row := daemonTokensRow, standIns := [], harness := (true, "994656d1808e9bdf6bc2474b4199d0c2fd73ca3ca86701dd951ac7898b836148"), looks := true }, kinds := [], alts := [], laidByText := true, laidKinds := [.data, .data, .data, .data, .sentinel, .sentinel, .pinned], laidTests := true, laidLooks := .later }
def DaemonTokensCardSaid : Prop := Claim7.holds Tryz.pinned (.plain (OpenSpec.ofChange daemonTokensSpec)) daemonTokensCard

/-- THE SECOND FORM's CARD OF 'pigeonloftlaw32.DaemonTokens'. -/
def daemonTokensUptoCard : Claim7 := { stood := { row := daemonTokensUptoRow, standIns := [], harness := (true, "994656d1808e9bdf6bc2474b4199d0c2fd73ca3ca86701dd951ac7898b836148"), looks := true }, kinds := [], alts := [], laidByText := true, laidKinds := [.data, .data, .data, .data, .sentinel, .sentinel, .pinned], laidTests := true, laidLooks := .later }
def DaemonTokensUptoCardSaid : Prop := Claim7.holds Tryz.pinned (.plain (OpenSpec.upto daemonTokensSpec)) daemonTokensUptoCard
end Rows
end Go.Proofs.YtaphjamdblgiiaaGreatDoor
