/-
  DERIVED. GIVEN WITH THE SEED: THE CARDS: each row of YtggomedoeahdnaaGreatDoorRows.lean that lists a variable, with what it lists TIED to the program's text (the seventh form; the later family's looks); each row that meets fmt, with fmt's text TOLD by the authors' own Lean function (tested against real Go, not proved from fmt's source: count such statements apart). THE CARD IS WHAT COUNTS. Prove the row's statement (the work); the ties are given (YtggomedoeahdnaaGreatDoorTie.lean); close each card by the builder's one call (the guide's Derived/Test/ToyasCard.lean, 'card_holds'). Laid BY PROGRAM, IN A SANDBOX (cutbox-door.mjs). By AI agents, Wed Nov 11 2026. No macro, syntax, notation, axiom, sorry.
-/
import Derived.Test.YtggomedoeahdnaaGreatDoorRows
import GoSem.ClaimSeven
namespace Go.Proofs.YtggomedoeahdnaaGreatDoor
namespace Rows

/-- THE TIED CARD OF 'laws.FnLostStays'. -/
def fnLostStaysCard : Claim7 := { stood := { row := fnLostStaysRow, standIns := [], harness := (true, "a1f77e507d8c9b6aeeebe41816f71ad64e8426f2b9897c16f97bf27c69907495"), looks := false }, kinds := [], alts := [], laidByText := true, laidKinds := [.data, .pinned], laidTests := true, laidLooks := .later }
def FnLostStaysCardSaid : Prop := Claim7.holds Tryz.pinned (.plain (OpenSpec.ofChange fnLostStaysSpec)) fnLostStaysCard

/-- THE TIED CARD OF 'laws.FnExactRunBoth'. -/
def fnExactRunBothCard : Claim7 := { stood := { row := fnExactRunBothRow, standIns := [], harness := (true, "a1f77e507d8c9b6aeeebe41816f71ad64e8426f2b9897c16f97bf27c69907495"), looks := false }, kinds := [], alts := [], laidByText := true, laidKinds := [.data, .pinned], laidTests := true, laidLooks := .later }
def FnExactRunBothCardSaid : Prop := Claim7.holds Tryz.pinned (.plain (OpenSpec.ofChange fnExactRunBothSpec)) fnExactRunBothCard

/-- THE TIED CARD OF 'laws.FnSameLive'. -/
def fnSameLiveCard : Claim7 := { stood := { row := fnSameLiveRow, standIns := [], harness := (true, "a1f77e507d8c9b6aeeebe41816f71ad64e8426f2b9897c16f97bf27c69907495"), looks := false }, kinds := [], alts := [], laidByText := true, laidKinds := [.data, .pinned], laidTests := true, laidLooks := .later }
def FnSameLiveCardSaid : Prop := Claim7.holds Tryz.pinned (.plain (OpenSpec.ofChange fnSameLiveSpec)) fnSameLiveCard

/-- THE TIED CARD OF 'laws.FnEverySchedule'. -/
def fnEveryScheduleCard : Claim7 := { stood := { row := fnEveryScheduleRow, standIns := [], harness := (true, "a1f77e507d8c9b6aeeebe41816f71ad64e8426f2b9897c16f97bf27c69907495"), looks := false }, kinds := [], alts := [], laidByText := true, laidKinds := [.data, .data, .data, .data, .data, .pinned], laidTests := true, laidLooks := .later }
def FnEveryScheduleCardSaid : Prop := Claim7.holds Tryz.pinned (.plain (OpenSpec.ofChange fnEveryScheduleSpec)) fnEveryScheduleCard

/-- THE SECOND FORM's CARD OF 'laws.FnLostStays'. -/
def fnLostStaysUptoCard : Claim7 := { stood := { row := fnLostStaysUptoRow, standIns := [], harness := (true, "a1f77e507d8c9b6aeeebe41816f71ad64e8426f2b9897c16f97bf27c69907495"), looks := false }, kinds := [], alts := [], laidByText := true, laidKinds := [.data, .pinned], laidTests := true, laidLooks := .later }
def FnLostStaysUptoCardSaid : Prop := Claim7.holds Tryz.pinned (.plain (OpenSpec.upto fnLostStaysSpec)) fnLostStaysUptoCard

/-- THE SECOND FORM's CARD OF 'laws.FnExactRunBoth'. -/
def fnExactRunBothUptoCard : Claim7 := { stood := { row := fnExactRunBothUptoRow, standIns := [], harness := (true, "a1f77e507d8c9b6aeeebe41816f71ad64e8426f2b9897c16f97bf27c69907495"), looks := false }, kinds := [], alts := [], laidByText := true, laidKinds := [.data, .pinned], laidTests := true, laidLooks := .later }
def FnExactRunBothUptoCardSaid : Prop := Claim7.holds Tryz.pinned (.plain (OpenSpec.upto fnExactRunBothSpec)) fnExactRunBothUptoCard

/-- THE SECOND FORM's CARD OF 'laws.FnSameLive'. -/
def fnSameLiveUptoCard : Claim7 := { stood := { row := fnSameLiveUptoRow, standIns := [], harness := (true, "a1f77e507d8c9b6aeeebe41816f71ad64e8426f2b9897c16f97bf27c69907495"), looks := false }, kinds := [], alts := [], laidByText := true, laidKinds := [.data, .pinned], laidTests := true, laidLooks := .later }
def FnSameLiveUptoCardSaid : Prop := Claim7.holds Tryz.pinned (.plain (OpenSpec.upto fnSameLiveSpec)) fnSameLiveUptoCard

/-- THE SECOND FORM's CARD OF 'laws.FnEverySchedule'. -/
def fnEveryScheduleUptoCard : Claim7 := { stood := { row := fnEveryScheduleUptoRow, standIns := [], harness := (true, "a1f77e507d8c9b6aeeebe41816f71ad64e8426f2b9897c16f97bf27c69907495"), looks := false }, kinds := [], alts := [], laidByText := true, laidKinds := [.data, .data, .data, .data, .data, .pinned], laidTests := true, laidLooks := .later }
def FnEveryScheduleUptoCardSaid : Prop := Claim7.holds Tryz.pinned (.plain (OpenSpec.upto fnEveryScheduleSpec)) fnEveryScheduleUptoCard
end Rows
end Go.Proofs.YtggomedoeahdnaaGreatDoor
