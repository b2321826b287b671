/-
  DERIVED. GIVEN WITH THE SEED: THE CARDS: each row of YtheldhohhpoloaaGreatDoorRows.lean that lists a variable, with what it lists TIED to the program's text (the seventh form; the later family's looks); each row that meets fmt, with fmt's text TOLD by the authors' own Lean function (tested against real Go, not proved from fmt's source: count such statements apart). THE CARD IS WHAT COUNTS. Prove the row's statement (the work); the ties are given (YtheldhohhpoloaaGreatDoorTie.lean); close each card by the builder's one call (the guide's Derived/Test/ToyasCard.lean, 'card_holds'). Laid BY PROGRAM, IN A SANDBOX (cutbox-door.mjs). By AI agents, Wed Nov 11 2026. No macro, syntax, notation, axiom, sorry.
-/
import Derived.Test.YtheldhohhpoloaaGreatDoorRows
import GoSem.ClaimSeven
namespace Go.Proofs.YtheldhohhpoloaaGreatDoor
namespace Rows

/-- THE TIED CARD OF 'laws.FnShortLoss'. -/
def fnShortLossCard : Claim7 := { stood := { row := fnShortLossRow, standIns := [], harness := (true, "0e3dd5b472c7855fe068fc0293e7581ac6e02c6bbb0cbdd40c4f424ce82e240e"), looks := false }, kinds := [], alts := [], laidByText := true, laidKinds := [.data, .data, .data, .data, .pinned], laidTests := true, laidLooks := .later }
def FnShortLossCardSaid : Prop := Claim7.holds Tryz.pinned (.plain (OpenSpec.ofChange fnShortLossSpec)) fnShortLossCard

/-- THE TIED CARD OF 'laws.FnCanLose'. -/
def fnCanLoseCard : Claim7 := { stood := { row := fnCanLoseRow, standIns := [], harness := (true, "0e3dd5b472c7855fe068fc0293e7581ac6e02c6bbb0cbdd40c4f424ce82e240e"), looks := false }, kinds := [], alts := [], laidByText := true, laidKinds := [.data, .data, .data, .data, .pinned], laidTests := true, laidLooks := .later }
def FnCanLoseCardSaid : Prop := Claim7.holds Tryz.pinned (.plain (OpenSpec.ofChange fnCanLoseSpec)) fnCanLoseCard

/-- THE TIED CARD OF 'laws.FnEndStores'. -/
def fnEndStoresCard : Claim7 := { stood := { row := fnEndStoresRow, standIns := [], harness := (true, "0e3dd5b472c7855fe068fc0293e7581ac6e02c6bbb0cbdd40c4f424ce82e240e"), looks := false }, kinds := [], alts := [], laidByText := true, laidKinds := [.data, .data, .data], laidTests := true, laidLooks := .later }
def FnEndStoresCardSaid : Prop := Claim7.holds Tryz.pinned (.plain (OpenSpec.ofChange fnEndStoresSpec)) fnEndStoresCard

/-- THE TIED CARD OF 'laws.FnExactEndStores'. -/
def fnExactEndStoresCard : Claim7 := { stood := { row := fnExactEndStoresRow, standIns := [], harness := (true, "0e3dd5b472c7855fe068fc0293e7581ac6e02c6bbb0cbdd40c4f424ce82e240e"), looks := false }, kinds := [], alts := [], laidByText := true, laidKinds := [.data, .data, .data], laidTests := true, laidLooks := .later }
def FnExactEndStoresCardSaid : Prop := Claim7.holds Tryz.pinned (.plain (OpenSpec.ofChange fnExactEndStoresSpec)) fnExactEndStoresCard

/-- THE TIED CARD OF 'laws.FnEverySchedule'. -/
def fnEveryScheduleCard : Claim7 := { stood := { row := fnEveryScheduleRow, standIns := [], harness := (true, "0e3dd5b472c7855fe068fc0293e7581ac6e02c6bbb0cbdd40c4f424ce82e240e"), looks := false }, kinds := [], alts := [], laidByText := true, laidKinds := [.data, .data, .data, .data, .data, .pinned], laidTests := true, laidLooks := .later }
def FnEveryScheduleCardSaid : Prop := Claim7.holds Tryz.pinned (.plain (OpenSpec.ofChange fnEveryScheduleSpec)) fnEveryScheduleCard

/-- THE TIED CARD OF 'laws.FnEndBarrier'. -/
def fnEndBarrierCard : Claim7 := { stood := { row := fnEndBarrierRow, standIns := [], harness := (true, "0e3dd5b472c7855fe068fc0293e7581ac6e02c6bbb0cbdd40c4f424ce82e240e"), looks := false }, kinds := [], alts := [], laidByText := true, laidKinds := [.data, .data, .data, .data, .pinned], laidTests := true, laidLooks := .later }
def FnEndBarrierCardSaid : Prop := Claim7.holds Tryz.pinned (.plain (OpenSpec.ofChange fnEndBarrierSpec)) fnEndBarrierCard

/-- THE TIED CARD OF 'laws.FnEndRun'. -/
def fnEndRunCard : Claim7 := { stood := { row := fnEndRunRow, standIns := [], harness := (true, "0e3dd5b472c7855fe068fc0293e7581ac6e02c6bbb0cbdd40c4f424ce82e240e"), looks := false }, kinds := [], alts := [], laidByText := true, laidKinds := [.data, .data, .data, .data, .pinned], laidTests := true, laidLooks := .later }
def FnEndRunCardSaid : Prop := Claim7.holds Tryz.pinned (.plain (OpenSpec.ofChange fnEndRunSpec)) fnEndRunCard

/-- THE SECOND FORM's CARD OF 'laws.FnShortLoss'. -/
def fnShortLossUptoCard : Claim7 := { stood := { row := fnShortLossUptoRow, standIns := [], harness := (true, "0e3dd5b472c7855fe068fc0293e7581ac6e02c6bbb0cbdd40c4f424ce82e240e"), looks := false }, kinds := [], alts := [], laidByText := true, laidKinds := [.data, .data, .data, .data, .pinned], laidTests := true, laidLooks := .later }
def FnShortLossUptoCardSaid : Prop := Claim7.holds Tryz.pinned (.plain (OpenSpec.upto fnShortLossSpec)) fnShortLossUptoCard

/-- THE SECOND FORM's CARD OF 'laws.FnCanLose'. -/
def fnCanLoseUptoCard : Claim7 := { stood := { row := fnCanLoseUptoRow, standIns := [], harness := (true, "0e3dd5b472c7855fe068fc0293e7581ac6e02c6bbb0cbdd40c4f424ce82e240e"), looks := false }, kinds := [], alts := [], laidByText := true, laidKinds := [.data, .data, .data, .data, .pinned], laidTests := true, laidLooks := .later }
def FnCanLoseUptoCardSaid : Prop := Claim7.holds Tryz.pinned (.plain (OpenSpec.upto fnCanLoseSpec)) fnCanLoseUptoCard

/-- THE SECOND FORM's CARD OF 'laws.FnEndStores'. -/
def fnEndStoresUptoCard : Claim7 := { stood := { row := fnEndStoresUptoRow, standIns := [], harness := (true, "0e3dd5b472c7855fe068fc0293e7581ac6e02c6bbb0cbdd40c4f424ce82e240e"), looks := false }, kinds := [], alts := [], laidByText := true, laidKinds := [.data, .data, .data], laidTests := true, laidLooks := .later }
def FnEndStoresUptoCardSaid : Prop := Claim7.holds Tryz.pinned (.plain (OpenSpec.upto fnEndStoresSpec)) fnEndStoresUptoCard

/-- THE SECOND FORM's CARD OF 'laws.FnExactEndStores'. -/
def fnExactEndStoresUptoCard : Claim7 := { stood := { row := fnExactEndStoresUptoRow, standIns := [], harness := (true, "0e3dd5b472c7855fe068fc0293e7581ac6e02c6bbb0cbdd40c4f424ce82e240e"), looks := false }, kinds := [], alts := [], laidByText := true, laidKinds := [.data, .data, .data], laidTests := true, laidLooks := .later }
def FnExactEndStoresUptoCardSaid : Prop := Claim7.holds Tryz.pinned (.plain (OpenSpec.upto fnExactEndStoresSpec)) fnExactEndStoresUptoCard

/-- THE SECOND FORM's CARD OF 'laws.FnEverySchedule'. -/
def fnEveryScheduleUptoCard : Claim7 := { stood := { row := fnEveryScheduleUptoRow, standIns := [], harness := (true, "0e3dd5b472c7855fe068fc0293e7581ac6e02c6bbb0cbdd40c4f424ce82e240e"), looks := false }, kinds := [], alts := [], laidByText := true, laidKinds := [.data, .data, .data, .data, .data, .pinned], laidTests := true, laidLooks := .later }
def FnEveryScheduleUptoCardSaid : Prop := Claim7.holds Tryz.pinned (.plain (OpenSpec.upto fnEveryScheduleSpec)) fnEveryScheduleUptoCard

/-- THE SECOND FORM's CARD OF 'laws.FnEndBarrier'. -/
def fnEndBarrierUptoCard : Claim7 := { stood := { row := fnEndBarrierUptoRow, standIns := [], harness := (true, "0e3dd5b472c7855fe068fc0293e7581ac6e02c6bbb0cbdd40c4f424ce82e240e"), looks := false }, kinds := [], alts := [], laidByText := true, laidKinds := [.data, .data, .data, .data, .pinned], laidTests := true, laidLooks := .later }
def FnEndBarrierUptoCardSaid : Prop := Claim7.holds Tryz.pinned (.plain (OpenSpec.upto fnEndBarrierSpec)) fnEndBarrierUptoCard

/-- THE SECOND FORM's CARD OF 'laws.FnEndRun'. -/
def fnEndRunUptoCard : Claim7 := { stood := { row := fnEndRunUptoRow, standIns := [], harness := (true, "0e3dd5b472c7855fe068fc0293e7581ac6e02c6bbb0cbdd40c4f424ce82e240e"), looks := false }, kinds := [], alts := [], laidByText := true, laidKinds := [.data, .data, .data, .data, .pinned], laidTests := true, laidLooks := .later }
def FnEndRunUptoCardSaid : Prop := Claim7.holds Tryz.pinned (.plain (OpenSpec.upto fnEndRunSpec)) fnEndRunUptoCard
end Rows
end Go.Proofs.YtheldhohhpoloaaGreatDoor
