/-
  DERIVED. GIVEN WITH THE SEED: THE CARDS: each row of YtlenamcfacpheaaGreatDoorRows.lean that lists a variable, with what it lists TIED to the program's text (the seventh form; the later family's looks); each row that meets fmt, with fmt's text TOLD by the authors' own Lean function (tested against real Go, not proved from fmt's source: count such statements apart). THE CARD IS WHAT COUNTS. Prove the row's statement (the work); the ties are given (YtlenamcfacpheaaGreatDoorTie.lean); close each card by the builder's one call (the guide's Derived/Test/ToyasCard.lean, 'card_holds'). Laid BY PROGRAM, IN A SANDBOX (cutbox-door.mjs). By AI agents, Wed Nov 11 2026. No macro, syntax, notation, axiom, sorry.
-/
import Derived.Test.YtlenamcfacpheaaGreatDoorRows
import GoSem.ClaimSeven
namespace Go.Proofs.YtlenamcfacpheaaGreatDoor
namespace Rows

/-- THE TIED CARD OF 'pigeonloftlaw27.AskLeases'. -/
def askLeasesCard : Claim7 := { stood := { row := askLeasesRow, standIns := [], harness := (true, "af0b1e791d933e7fa9c636d6cf3396bb1c2a481cd69c8266eceb295ee59ae719"), looks := true }, kinds := [], alts := [], laidByText := true, laidKinds := [.data, .pinned], laidTests := true, laidLooks := .later }
def AskLeasesCardSaid : Prop := Claim7.holds Tryz.pinned (.plain (OpenSpec.ofChange askLeasesSpec)) askLeasesCard

/-- THE TIED CARD OF 'pigeonloftlaw28.ArriveCounts'. -/
def arriveCountsCard : Claim7 := { stood := { row := arriveCountsRow, standIns := [], harness := (true, "af0b1e791d933e7fa9c636d6cf3396bb1c2a481cd69c8266eceb295ee59ae719"), looks := true }, kinds := [], alts := [], laidByText := true, laidKinds := [.data, .pinned], laidTests := true, laidLooks := .later }
def ArriveCountsCardSaid : Prop := Claim7.holds Tryz.pinned (.plain (OpenSpec.ofChange arriveCountsSpec)) arriveCountsCard

/-- THE TIED CARD OF 'pigeonloftlaw27.AskOwns'. -/
def askOwnsCard : Claim7 := { stood := { row := askOwnsRow, standIns := [], harness := (true, "af0b1e791d933e7fa9c636d6cf3396bb1c2a481cd69c8266eceb295ee59ae719"), looks := true }, kinds := [], alts := [], laidByText := true, laidKinds := [.data, .data, .data, .data, .pinned], laidTests := true, laidLooks := .later }
def AskOwnsCardSaid : Prop := Claim7.holds Tryz.pinned (.plain (OpenSpec.ofChange askOwnsSpec)) askOwnsCard

/-- THE TIED CARD OF 'pigeonloftlaw27.AskOnce'. -/
def askOnceCard : Claim7 := { stood := { row := askOnceRow, standIns := [], harness := (true, "af0b1e791d933e7fa9c636d6cf3396bb1c2a481cd69c8266eceb295ee59ae719"), looks := true }, kinds := [], alts := [], laidByText := true, laidKinds := [.data, .data, .data, .data, .pinned], laidTests := true, laidLooks := .later }
def AskOnceCardSaid : Prop := Claim7.holds Tryz.pinned (.plain (OpenSpec.ofChange askOnceSpec)) askOnceCard

/-- THE TIED CARD OF 'pigeonloftlaw28.ArriveDown'. -/
def arriveDownCard : Claim7 := { stood := { row := arriveDownRow, standIns := [], harness := (true, "af0b1e791d933e7fa9c636d6cf3396bb1c2a481cd69c8266eceb295ee59ae719"), looks := true }, kinds := [], alts := [], laidByText := true, laidKinds := [.data, .data, .data, .data, .pinned], laidTests := true, laidLooks := .later }
def ArriveDownCardSaid : Prop := Claim7.holds Tryz.pinned (.plain (OpenSpec.ofChange arriveDownSpec)) arriveDownCard

/-- THE SECOND FORM's CARD OF 'pigeonloftlaw27.AskLeases'. -/
def askLeasesUptoCard : Claim7 := { stood := { row := askLeasesUptoRow, standIns := [], harness := (true, "af0b1e791d933e7fa9c636d6cf3396bb1c2a481cd69c8266eceb295ee59ae719"), looks := true }, kinds := [], alts := [], laidByText := true, laidKinds := [.data, .pinned], laidTests := true, laidLooks := .later }
def AskLeasesUptoCardSaid : Prop := Claim7.holds Tryz.pinned (.plain (OpenSpec.upto askLeasesSpec)) askLeasesUptoCard

/-- THE SECOND FORM's CARD OF 'pigeonloftlaw28.ArriveCounts'. -/
def arriveCountsUptoCard : Claim7 := { stood := { row := arriveCountsUptoRow, standIns := [], harness := (true, "af0b1e791d933e7fa9c636d6cf3396bb1c2a481cd69c8266eceb295ee59ae719"), looks := true }, kinds := [], alts := [], laidByText := true, laidKinds := [.data, .pinned], laidTests := true, laidLooks := .later }
def ArriveCountsUptoCardSaid : Prop := Claim7.holds Tryz.pinned (.plain (OpenSpec.upto arriveCountsSpec)) arriveCountsUptoCard

/-- THE SECOND FORM's CARD OF 'pigeonloftlaw27.AskOwns'. -/
def askOwnsUptoCard : Claim7 := { stood := { row := askOwnsUptoRow, standIns := [], harness := (true, "af0b1e791d933e7fa9c636d6cf3396bb1c2a481cd69c8266eceb295ee59ae719"), looks := true }, kinds := [], alts := [], laidByText := true, laidKinds := [.data, .data, .data, .data, .pinned], laidTests := true, laidLooks := .later }
def AskOwnsUptoCardSaid : Prop := Claim7.holds Tryz.pinned (.plain (OpenSpec.upto askOwnsSpec)) askOwnsUptoCard

/-- THE SECOND FORM's CARD OF 'pigeonloftlaw27.AskOnce'. -/
def askOnceUptoCard : Claim7 := { stood := { row := askOnceUptoRow, standIns := [], harness := (true, "af0b1e791d933e7fa9c636d6cf3396bb1c2a481cd69c8266eceb295ee59ae719"), looks := true }, kinds := [], alts := [], laidByText := true, laidKinds := [.data, .data, .data, .data, .pinned], laidTests := true, laidLooks := .later }
def AskOnceUptoCardSaid : Prop := Claim7.holds Tryz.pinned (.plain (OpenSpec.upto askOnceSpec)) askOnceUptoCard

/-- THE SECOND FORM's CARD OF 'pigeonloftlaw28.ArriveDown'. -/
def arriveDownUptoCard : Claim7 := { stood := { row := arriveDownUptoRow, standIns := [], harness := (true, "af0b1e791d933e7fa9c636d6cf3396bb1c2a481cd69c8266eceb295ee59ae719"), looks := true }, kinds := [], alts := [], laidByText := true, laidKinds := [.data, .data, .data, .data, .pinned], laidTests := true, laidLooks := .later }
def ArriveDownUptoCardSaid : Prop := Claim7.holds Tryz.pinned (.plain (OpenSpec.upto arriveDownSpec)) arriveDownUptoCard
end Rows
end Go.Proofs.YtlenamcfacpheaaGreatDoor
