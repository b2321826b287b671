/-
  DERIVED. GIVEN WITH THE SEED: THE CARDS: each row of YtihenoikdpnonaaGreatDoorRows.lean that lists a variable, with what it lists TIED to the program's text (the seventh form; the later family's looks); each row that meets fmt, with fmt's text TOLD by the authors' own Lean function (tested against real Go, not proved from fmt's source: count such statements apart). THE CARD IS WHAT COUNTS. Prove the row's statement (the work); the ties are given (YtihenoikdpnonaaGreatDoorTie.lean); close each card by the builder's one call (the guide's Derived/Test/ToyasCard.lean, 'card_holds'). Laid BY PROGRAM, IN A SANDBOX (cutbox-door.mjs). By AI agents, Wed Nov 11 2026. No macro, syntax, notation, axiom, sorry.
-/
import Derived.Test.YtihenoikdpnonaaGreatDoorRows
import GoSem.ClaimSeven
namespace Go.Proofs.YtihenoikdpnonaaGreatDoor
namespace Rows

/-- THE TIED CARD OF 'laws.FnEveryScript'. -/
def fnEveryScriptCard : Claim7 := { stood := { row := fnEveryScriptRow, standIns := [], harness := (true, "0d6b113c190ec683bb74c700abbba6cdfd56eec945001f7423ae4681fded4d01"), looks := true }, kinds := [], alts := [], laidByText := true, laidKinds := [.data, .data, .data, .data, .sentinel, .sentinel, .data, .pinned], laidTests := true, laidLooks := .later }
def FnEveryScriptCardSaid : Prop := Claim7.holds Tryz.pinned (.plain (OpenSpec.ofChange fnEveryScriptSpec)) fnEveryScriptCard

/-- THE TIED CARD OF 'laws.FnExactRunScript'. -/
def fnExactRunScriptCard : Claim7 := { stood := { row := fnExactRunScriptRow, standIns := [], harness := (true, "0d6b113c190ec683bb74c700abbba6cdfd56eec945001f7423ae4681fded4d01"), looks := true }, kinds := [], alts := [], laidByText := true, laidKinds := [.data, .data, .data, .data, .sentinel, .sentinel, .data, .pinned], laidTests := true, laidLooks := .later }
def FnExactRunScriptCardSaid : Prop := Claim7.holds Tryz.pinned (.plain (OpenSpec.ofChange fnExactRunScriptSpec)) fnExactRunScriptCard

/-- THE TIED CARD OF 'laws.FnScriptPrefix'. -/
def fnScriptPrefixCard : Claim7 := { stood := { row := fnScriptPrefixRow, standIns := [], harness := (true, "0d6b113c190ec683bb74c700abbba6cdfd56eec945001f7423ae4681fded4d01"), looks := true }, kinds := [], alts := [], laidByText := true, laidKinds := [.data, .data, .data, .data, .sentinel, .sentinel, .data, .pinned], laidTests := true, laidLooks := .later }
def FnScriptPrefixCardSaid : Prop := Claim7.holds Tryz.pinned (.plain (OpenSpec.ofChange fnScriptPrefixSpec)) fnScriptPrefixCard

/-- THE TIED CARD OF 'laws.FnScriptNew'. -/
def fnScriptNewCard : Claim7 := { stood := { row := fnScriptNewRow, standIns := [], harness := (true, "0d6b113c190ec683bb74c700abbba6cdfd56eec945001f7423ae4681fded4d01"), looks := true }, kinds := [], alts := [], laidByText := true, laidKinds := [.data, .data, .data, .data, .sentinel, .sentinel, .data, .pinned], laidTests := true, laidLooks := .later }
def FnScriptNewCardSaid : Prop := Claim7.holds Tryz.pinned (.plain (OpenSpec.ofChange fnScriptNewSpec)) fnScriptNewCard

/-- THE TIED CARD OF 'laws.FnScriptPath'. -/
def fnScriptPathCard : Claim7 := { stood := { row := fnScriptPathRow, standIns := [], harness := (true, "0d6b113c190ec683bb74c700abbba6cdfd56eec945001f7423ae4681fded4d01"), looks := true }, kinds := [], alts := [], laidByText := true, laidKinds := [.data, .data, .data, .data, .sentinel, .sentinel, .data, .pinned], laidTests := true, laidLooks := .later }
def FnScriptPathCardSaid : Prop := Claim7.holds Tryz.pinned (.plain (OpenSpec.ofChange fnScriptPathSpec)) fnScriptPathCard

/-- THE TIED CARD OF 'laws.FnScriptOne'. -/
def fnScriptOneCard : Claim7 := { stood := { row := fnScriptOneRow, standIns := [], harness := (true, "0d6b113c190ec683bb74c700abbba6cdfd56eec945001f7423ae4681fded4d01"), looks := true }, kinds := [], alts := [], laidByText := true, laidKinds := [.data, .data, .data, .data, .sentinel, .sentinel, .data, .pinned], laidTests := true, laidLooks := .later }
def FnScriptOneCardSaid : Prop := Claim7.holds Tryz.pinned (.plain (OpenSpec.ofChange fnScriptOneSpec)) fnScriptOneCard

/-- THE TIED CARD OF 'laws.FnScriptAgain'. -/
def fnScriptAgainCard : Claim7 := { stood := { row := fnScriptAgainRow, standIns := [], harness := (true, "0d6b113c190ec683bb74c700abbba6cdfd56eec945001f7423ae4681fded4d01"), looks := true }, kinds := [], alts := [], laidByText := true, laidKinds := [.data, .data, .data, .data, .sentinel, .sentinel, .data, .pinned], laidTests := true, laidLooks := .later }
def FnScriptAgainCardSaid : Prop := Claim7.holds Tryz.pinned (.plain (OpenSpec.ofChange fnScriptAgainSpec)) fnScriptAgainCard

/-- THE TIED CARD OF 'laws.FnScriptCopy'. -/
def fnScriptCopyCard : Claim7 := { stood := { row := fnScriptCopyRow, standIns := [], harness := (true, "0d6b113c190ec683bb74c700abbba6cdfd56eec945001f7423ae4681fded4d01"), looks := true }, kinds := [], alts := [], laidByText := true, laidKinds := [.data, .data, .data, .data, .sentinel, .sentinel, .data, .pinned], laidTests := true, laidLooks := .later }
def FnScriptCopyCardSaid : Prop := Claim7.holds Tryz.pinned (.plain (OpenSpec.ofChange fnScriptCopySpec)) fnScriptCopyCard

/-- THE TIED CARD OF 'laws.FnScriptFinish'. -/
def fnScriptFinishCard : Claim7 := { stood := { row := fnScriptFinishRow, standIns := [], harness := (true, "0d6b113c190ec683bb74c700abbba6cdfd56eec945001f7423ae4681fded4d01"), looks := true }, kinds := [], alts := [], laidByText := true, laidKinds := [.data, .data, .data, .data, .sentinel, .sentinel, .data, .pinned], laidTests := true, laidLooks := .later }
def FnScriptFinishCardSaid : Prop := Claim7.holds Tryz.pinned (.plain (OpenSpec.ofChange fnScriptFinishSpec)) fnScriptFinishCard

/-- THE TIED CARD OF 'laws.FnScriptLose'. -/
def fnScriptLoseCard : Claim7 := { stood := { row := fnScriptLoseRow, standIns := [], harness := (true, "0d6b113c190ec683bb74c700abbba6cdfd56eec945001f7423ae4681fded4d01"), looks := true }, kinds := [], alts := [], laidByText := true, laidKinds := [.data, .data, .data, .data, .sentinel, .sentinel, .data, .pinned], laidTests := true, laidLooks := .later }
def FnScriptLoseCardSaid : Prop := Claim7.holds Tryz.pinned (.plain (OpenSpec.ofChange fnScriptLoseSpec)) fnScriptLoseCard

/-- THE TIED CARD OF 'laws.FnScriptOps'. -/
def fnScriptOpsCard : Claim7 := { stood := { row := fnScriptOpsRow, standIns := [], harness := (true, "0d6b113c190ec683bb74c700abbba6cdfd56eec945001f7423ae4681fded4d01"), looks := true }, kinds := [], alts := [], laidByText := true, laidKinds := [.data, .data, .data, .data, .sentinel, .sentinel, .data, .pinned], laidTests := true, laidLooks := .later }
def FnScriptOpsCardSaid : Prop := Claim7.holds Tryz.pinned (.plain (OpenSpec.ofChange fnScriptOpsSpec)) fnScriptOpsCard

/-- THE TIED CARD OF 'laws.FnScriptLeaked'. -/
def fnScriptLeakedCard : Claim7 := { stood := { row := fnScriptLeakedRow, standIns := [], harness := (true, "0d6b113c190ec683bb74c700abbba6cdfd56eec945001f7423ae4681fded4d01"), looks := true }, kinds := [], alts := [], laidByText := true, laidKinds := [.data, .data, .data, .data, .sentinel, .sentinel, .data, .pinned], laidTests := true, laidLooks := .later }
def FnScriptLeakedCardSaid : Prop := Claim7.holds Tryz.pinned (.plain (OpenSpec.ofChange fnScriptLeakedSpec)) fnScriptLeakedCard

/-- THE TIED CARD OF 'laws.FnScriptRun'. -/
def fnScriptRunCard : Claim7 := { stood := { row := fnScriptRunRow, standIns := [], harness := (true, "0d6b113c190ec683bb74c700abbba6cdfd56eec945001f7423ae4681fded4d01"), looks := true }, kinds := [], alts := [], laidByText := true, laidKinds := [.data, .data, .data, .data, .sentinel, .sentinel, .data, .pinned], laidTests := true, laidLooks := .later }
def FnScriptRunCardSaid : Prop := Claim7.holds Tryz.pinned (.plain (OpenSpec.ofChange fnScriptRunSpec)) fnScriptRunCard

/-- THE SECOND FORM's CARD OF 'laws.FnEveryScript'. -/
def fnEveryScriptUptoCard : Claim7 := { stood := { row := fnEveryScriptUptoRow, standIns := [], harness := (true, "0d6b113c190ec683bb74c700abbba6cdfd56eec945001f7423ae4681fded4d01"), looks := true }, kinds := [], alts := [], laidByText := true, laidKinds := [.data, .data, .data, .data, .sentinel, .sentinel, .data, .pinned], laidTests := true, laidLooks := .later }
def FnEveryScriptUptoCardSaid : Prop := Claim7.holds Tryz.pinned (.plain (OpenSpec.upto fnEveryScriptSpec)) fnEveryScriptUptoCard

/-- THE SECOND FORM's CARD OF 'laws.FnExactRunScript'. -/
def fnExactRunScriptUptoCard : Claim7 := { stood := { row := fnExactRunScriptUptoRow, standIns := [], harness := (true, "0d6b113c190ec683bb74c700abbba6cdfd56eec945001f7423ae4681fded4d01"), looks := true }, kinds := [], alts := [], laidByText := true, laidKinds := [.data, .data, .data, .data, .sentinel, .sentinel, .data, .pinned], laidTests := true, laidLooks := .later }
def FnExactRunScriptUptoCardSaid : Prop := Claim7.holds Tryz.pinned (.plain (OpenSpec.upto fnExactRunScriptSpec)) fnExactRunScriptUptoCard

/-- THE SECOND FORM's CARD OF 'laws.FnScriptPrefix'. -/
def fnScriptPrefixUptoCard : Claim7 := { stood := { row := fnScriptPrefixUptoRow, standIns := [], harness := (true, "0d6b113c190ec683bb74c700abbba6cdfd56eec945001f7423ae4681fded4d01"), looks := true }, kinds := [], alts := [], laidByText := true, laidKinds := [.data, .data, .data, .data, .sentinel, .sentinel, .data, .pinned], laidTests := true, laidLooks := .later }
def FnScriptPrefixUptoCardSaid : Prop := Claim7.holds Tryz.pinned (.plain (OpenSpec.upto fnScriptPrefixSpec)) fnScriptPrefixUptoCard

/-- THE SECOND FORM's CARD OF 'laws.FnScriptNew'. -/
def fnScriptNewUptoCard : Claim7 := { stood := { row := fnScriptNewUptoRow, standIns := [], harness := (true, "0d6b113c190ec683bb74c700abbba6cdfd56eec945001f7423ae4681fded4d01"), looks := true }, kinds := [], alts := [], laidByText := true, laidKinds := [.data, .data, .data, .data, .sentinel, .sentinel, .data, .pinned], laidTests := true, laidLooks := .later }
def FnScriptNewUptoCardSaid : Prop := Claim7.holds Tryz.pinned (.plain (OpenSpec.upto fnScriptNewSpec)) fnScriptNewUptoCard

/-- THE SECOND FORM's CARD OF 'laws.FnScriptPath'. -/
def fnScriptPathUptoCard : Claim7 := { stood := { row := fnScriptPathUptoRow, standIns := [], harness := (true, "0d6b113c190ec683bb74c700abbba6cdfd56eec945001f7423ae4681fded4d01"), looks := true }, kinds := [], alts := [], laidByText := true, laidKinds := [.data, .data, .data, .data, .sentinel, .sentinel, .data, .pinned], laidTests := true, laidLooks := .later }
def FnScriptPathUptoCardSaid : Prop := Claim7.holds Tryz.pinned (.plain (OpenSpec.upto fnScriptPathSpec)) fnScriptPathUptoCard

/-- THE SECOND FORM's CARD OF 'laws.FnScriptOne'. -/
def fnScriptOneUptoCard : Claim7 := { stood := { row := fnScriptOneUptoRow, standIns := [], harness := (true, "0d6b113c190ec683bb74c700abbba6cdfd56eec945001f7423ae4681fded4d01"), looks := true }, kinds := [], alts := [], laidByText := true, laidKinds := [.data, .data, .data, .data, .sentinel, .sentinel, .data, .pinned], laidTests := true, laidLooks := .later }
def FnScriptOneUptoCardSaid : Prop := Claim7.holds Tryz.pinned (.plain (OpenSpec.upto fnScriptOneSpec)) fnScriptOneUptoCard

/-- THE SECOND FORM's CARD OF 'laws.FnScriptAgain'. -/
def fnScriptAgainUptoCard : Claim7 := { stood := { row := fnScriptAgainUptoRow, standIns := [], harness := (true, "0d6b113c190ec683bb74c700abbba6cdfd56eec945001f7423ae4681fded4d01"), looks := true }, kinds := [], alts := [], laidByText := true, laidKinds := [.data, .data, .data, .data, .sentinel, .sentinel, .data, .pinned], laidTests := true, laidLooks := .later }
def FnScriptAgainUptoCardSaid : Prop := Claim7.holds Tryz.pinned (.plain (OpenSpec.upto fnScriptAgainSpec)) fnScriptAgainUptoCard

/-- THE SECOND FORM's CARD OF 'laws.FnScriptCopy'. -/
def fnScriptCopyUptoCard : Claim7 := { stood := { row := fnScriptCopyUptoRow, standIns := [], harness := (true, "0d6b113c190ec683bb74c700abbba6cdfd56eec945001f7423ae4681fded4d01"), looks := true }, kinds := [], alts := [], laidByText := true, laidKinds := [.data, .data, .data, .data, .sentinel, .sentinel, .data, .pinned], laidTests := true, laidLooks := .later }
def FnScriptCopyUptoCardSaid : Prop := Claim7.holds Tryz.pinned (.plain (OpenSpec.upto fnScriptCopySpec)) fnScriptCopyUptoCard

/-- THE SECOND FORM's CARD OF 'laws.FnScriptFinish'. -/
def fnScriptFinishUptoCard : Claim7 := { stood := { row := fnScriptFinishUptoRow, standIns := [], harness := (true, "0d6b113c190ec683bb74c700abbba6cdfd56eec945001f7423ae4681fded4d01"), looks := true }, kinds := [], alts := [], laidByText := true, laidKinds := [.data, .data, .data, .data, .sentinel, .sentinel, .data, .pinned], laidTests := true, laidLooks := .later }
def FnScriptFinishUptoCardSaid : Prop := Claim7.holds Tryz.pinned (.plain (OpenSpec.upto fnScriptFinishSpec)) fnScriptFinishUptoCard

/-- THE SECOND FORM's CARD OF 'laws.FnScriptLose'. -/
def fnScriptLoseUptoCard : Claim7 := { stood := { row := fnScriptLoseUptoRow, standIns := [], harness := (true, "0d6b113c190ec683bb74c700abbba6cdfd56eec945001f7423ae4681fded4d01"), looks := true }, kinds := [], alts := [], laidByText := true, laidKinds := [.data, .data, .data, .data, .sentinel, .sentinel, .data, .pinned], laidTests := true, laidLooks := .later }
def FnScriptLoseUptoCardSaid : Prop := Claim7.holds Tryz.pinned (.plain (OpenSpec.upto fnScriptLoseSpec)) fnScriptLoseUptoCard

/-- THE SECOND FORM's CARD OF 'laws.FnScriptOps'. -/
def fnScriptOpsUptoCard : Claim7 := { stood := { row := fnScriptOpsUptoRow, standIns := [], harness := (true, "0d6b113c190ec683bb74c700abbba6cdfd56eec945001f7423ae4681fded4d01"), looks := true }, kinds := [], alts := [], laidByText := true, laidKinds := [.data, .data, .data, .data, .sentinel, .sentinel, .data, .pinned], laidTests := true, laidLooks := .later }
def FnScriptOpsUptoCardSaid : Prop := Claim7.holds Tryz.pinned (.plain (OpenSpec.upto fnScriptOpsSpec)) fnScriptOpsUptoCard

/-- THE SECOND FORM's CARD OF 'laws.FnScriptLeaked'. -/
def fnScriptLeakedUptoCard : Claim7 := { stood := { row := fnScriptLeakedUptoRow, standIns := [], harness := (true, "0d6b113c190ec683bb74c700abbba6cdfd56eec945001f7423ae4681fded4d01"), looks := true }, kinds := [], alts := [], laidByText := true, laidKinds := [.data, .data, .data, .data, .sentinel, .sentinel, .data, .pinned], laidTests := true, laidLooks := .later }
def FnScriptLeakedUptoCardSaid : Prop := Claim7.holds Tryz.pinned (.plain (OpenSpec.upto fnScriptLeakedSpec)) fnScriptLeakedUptoCard

/-- THE SECOND FORM's CARD OF 'laws.FnScriptRun'. -/
def fnScriptRunUptoCard : Claim7 := { stood := { row := fnScriptRunUptoRow, standIns := [], harness := (true, "0d6b113c190ec683bb74c700abbba6cdfd56eec945001f7423ae4681fded4d01"), looks := true }, kinds := [], alts := [], laidByText := true, laidKinds := [.data, .data, .data, .data, .sentinel, .sentinel, .data, .pinned], laidTests := true, laidLooks := .later }
def FnScriptRunUptoCardSaid : Prop := Claim7.holds Tryz.pinned (.plain (OpenSpec.upto fnScriptRunSpec)) fnScriptRunUptoCard
end Rows
end Go.Proofs.YtihenoikdpnonaaGreatDoor
