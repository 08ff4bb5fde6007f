/-
  DERIVED. GIVEN WITH THE SEED: THE CARDS: each row of YticlajoleibdnaaGreatDoorRows.lean that lists a variable, with what it lists TIED to the program's text (the seventh form; the later family's looks); each row that meets fmt, with fmt's text TOLD by the authors' own Lean function (tested against real Go, not proved from fmt's source: count such statements apart). THE CARD IS WHAT COUNTS. Prove the row's statement (the work); the ties are given (YticlajoleibdnaaGreatDoorTie.lean); close each card by the builder's one call (the guide's Derived/Test/ToyasCard.lean, 'card_holds'). Laid BY PROGRAM, IN A SANDBOX (cutbox-door.mjs). By AI agents, Wed Nov 11 2026. No macro, syntax, notation, axiom, sorry.
-/
import Derived.Test.YticlajoleibdnaaGreatDoorRows
import GoSem.ClaimSeven
namespace Go.Proofs.YticlajoleibdnaaGreatDoor
namespace Rows

/-- THE TIED CARD OF 'pigeonloftlaw38.AuditFirst'. -/
def auditFirstCard : Claim7 := { stood := { row := auditFirstRow, standIns := [], harness := (true, "aeb6a59a3c0bd00df6a60bf4752e91557cbb524bb636ef7d46ff304a925bc71a"), looks := true }, kinds := [], alts := [], laidByText := true, laidKinds := [.sentinel, .sentinel, .data, .data, .data, .pinned, .data], laidTests := true, laidLooks := .later }
def AuditFirstCardSaid : Prop := Claim7.holds Tryz.pinned (.plain (OpenSpec.ofChange auditFirstSpec)) auditFirstCard

/-- THE TIED CARD OF 'pigeonloftlaw38.AuditNobody'. -/
def auditNobodyCard : Claim7 := { stood := { row := auditNobodyRow, standIns := [], harness := (true, "aeb6a59a3c0bd00df6a60bf4752e91557cbb524bb636ef7d46ff304a925bc71a"), looks := true }, kinds := [], alts := [], laidByText := true, laidKinds := [.sentinel, .sentinel, .data, .data, .data, .pinned, .data], laidTests := true, laidLooks := .later }
def AuditNobodyCardSaid : Prop := Claim7.holds Tryz.pinned (.plain (OpenSpec.ofChange auditNobodySpec)) auditNobodyCard

/-- THE SECOND FORM's CARD OF 'pigeonloftlaw38.AuditFirst'. -/
def auditFirstUptoCard : Claim7 := { stood := { row := auditFirstUptoRow, standIns := [], harness := (true, "aeb6a59a3c0bd00df6a60bf4752e91557cbb524bb636ef7d46ff304a925bc71a"), looks := true }, kinds := [], alts := [], laidByText := true, laidKinds := [.sentinel, .sentinel, .data, .data, .data, .pinned, .data], laidTests := true, laidLooks := .later }
def AuditFirstUptoCardSaid : Prop := Claim7.holds Tryz.pinned (.plain (OpenSpec.upto auditFirstSpec)) auditFirstUptoCard

/-- THE SECOND FORM's CARD OF 'pigeonloftlaw38.AuditNobody'. -/
def auditNobodyUptoCard : Claim7 := { stood := { row := auditNobodyUptoRow, standIns := [], harness := (true, "aeb6a59a3c0bd00df6a60bf4752e91557cbb524bb636ef7d46ff304a925bc71a"), looks := true }, kinds := [], alts := [], laidByText := true, laidKinds := [.sentinel, .sentinel, .data, .data, .data, .pinned, .data], laidTests := true, laidLooks := .later }
def AuditNobodyUptoCardSaid : Prop := Claim7.holds Tryz.pinned (.plain (OpenSpec.upto auditNobodySpec)) auditNobodyUptoCard
end Rows
end Go.Proofs.YticlajoleibdnaaGreatDoor
