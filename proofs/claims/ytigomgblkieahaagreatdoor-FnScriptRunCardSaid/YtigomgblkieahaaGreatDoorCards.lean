/-
  DERIVED. GIVEN WITH THE SEED: THE CARDS: each row of YtigomgblkieahaaGreatDoorRows.lean that lists a variable, with what it lists TIED to the program's text (the seventh form; the later family's looks); each row that meets fmt, with fmt's text TOLD by the authors' own Lean function (tested against real Go, not proved from fmt's source: count such statements apart). THE CARD IS WHAT COUNTS. Prove the row's statement (the work); the ties are given (YtigomgblkieahaaGreatDoorTie.lean); close each card by the builder's one call (the guide's Derived/Test/ToyasCard.lean, 'card_holds'). Laid BY PROGRAM, IN A SANDBOX (cutbox-door.mjs). By AI agents, Wed Nov 11 2026. No macro, syntax, notation, axiom, sorry.
-/
import Derived.Test.YtigomgblkieahaaGreatDoorRows
import GoSem.ClaimSeven
namespace Go.Proofs.YtigomgblkieahaaGreatDoor
namespace Rows

/-- THE TIED CARD OF 'laws.FnScriptNew'. -/
def fnScriptNewCard : Claim7 := { stood := { row := fnScriptNewRow, standIns := [], harness := (true, "0c678859b765f73a35b7464c2f514ee7d0b2f4ebb13d7185ed09a1cff576b273"), looks := true }, kinds := [], alts := [], laidByText := true, laidKinds := [.data, .data, .data, .data, .sentinel, .sentinel, .data, .pinned], laidTests := true, laidLooks := .later }
def FnScriptNewCardSaid : Prop := Claim7.holds Tryz.pinned (.plain (OpenSpec.ofChange fnScriptNewSpec)) fnScriptNewCard

/-- THE TIED CARD OF 'laws.FnScriptPath'. -/
def fnScriptPathCard : Claim7 := { stood := { row := fnScriptPathRow, standIns := [], harness := (true, "0c678859b765f73a35b7464c2f514ee7d0b2f4ebb13d7185ed09a1cff576b273"), looks := true }, kinds := [], alts := [], laidByText := true, laidKinds := [.data, .data, .data, .data, .sentinel, .sentinel, .data, .pinned], laidTests := true, laidLooks := .later }
def FnScriptPathCardSaid : Prop := Claim7.holds Tryz.pinned (.plain (OpenSpec.ofChange fnScriptPathSpec)) fnScriptPathCard

/-- THE TIED CARD OF 'laws.FnScriptOne'. -/
def fnScriptOneCard : Claim7 := { stood := { row := fnScriptOneRow, standIns := [], harness := (true, "0c678859b765f73a35b7464c2f514ee7d0b2f4ebb13d7185ed09a1cff576b273"), looks := true }, kinds := [], alts := [], laidByText := true, laidKinds := [.data, .data, .data, .data, .sentinel, .sentinel, .data, .pinned], laidTests := true, laidLooks := .later }
def FnScriptOneCardSaid : Prop := Claim7.holds Tryz.pinned (.plain (OpenSpec.ofChange fnScriptOneSpec)) fnScriptOneCard

/-- THE TIED CARD OF 'laws.FnScriptAgain'. -/
def fnScriptAgainCard : Claim7 := { stood := { row := fnScriptAgainRow, standIns := [], harness := (true, "0c678859b765f73a35b7464c2f514ee7d0b2f4ebb13d7185ed09a1cff576b273"), looks := true }, kinds := [], alts := [], laidByText := true, laidKinds := [.data, .data, .data, .data, .sentinel, .sentinel, .data, .pinned], laidTests := true, laidLooks := .later }
def FnScriptAgainCardSaid : Prop := Claim7.holds Tryz.pinned (.plain (OpenSpec.ofChange fnScriptAgainSpec)) fnScriptAgainCard

/-- THE TIED CARD OF 'laws.FnScriptCopy'. -/
def fnScriptCopyCard : Claim7 := { stood := { row := fnScriptCopyRow, standIns := [], harness := (true, "0c678859b765f73a35b7464c2f514ee7d0b2f4ebb13d7185ed09a1cff576b273"), looks := true }, kinds := [], alts := [], laidByText := true, laidKinds := [.data, .data, .data, .data, .sentinel, .sentinel, .data, .pinned], laidTests := true, laidLooks := .later }
def FnScriptCopyCardSaid : Prop := Claim7.holds Tryz.pinned (.plain (OpenSpec.ofChange fnScriptCopySpec)) fnScriptCopyCard

/-- THE TIED CARD OF 'laws.FnScriptFinish'. -/
def fnScriptFinishCard : Claim7 := { stood := { row := fnScriptFinishRow, standIns := [], harness := (true, "0c678859b765f73a35b7464c2f514ee7d0b2f4ebb13d7185ed09a1cff576b273"), looks := true }, kinds := [], alts := [], laidByText := true, laidKinds := [.data, .data, .data, .data, .sentinel, .sentinel, .data, .pinned], laidTests := true, laidLooks := .later }
def FnScriptFinishCardSaid : Prop := Claim7.holds Tryz.pinned (.plain (OpenSpec.ofChange fnScriptFinishSpec)) fnScriptFinishCard

/-- THE TIED CARD OF 'laws.FnScriptLose'. -/
def fnScriptLoseCard : Claim7 := { stood := { row := fnScriptLoseRow, standIns := [], harness := (true, "0c678859b765f73a35b7464c2f514ee7d0b2f4ebb13d7185ed09a1cff576b273"), looks := true }, kinds := [], alts := [], laidByText := true, laidKinds := [.data, .data, .data, .data, .sentinel, .sentinel, .data, .pinned], laidTests := true, laidLooks := .later }
def FnScriptLoseCardSaid : Prop := Claim7.holds Tryz.pinned (.plain (OpenSpec.ofChange fnScriptLoseSpec)) fnScriptLoseCard

/-- THE TIED CARD OF 'laws.FnScriptOps'. -/
def fnScriptOpsCard : Claim7 := { stood := { row := fnScriptOpsRow, standIns := [], harness := (true, "0c678859b765f73a35b7464c2f514ee7d0b2f4ebb13d7185ed09a1cff576b273"), looks := true }, kinds := [], alts := [], laidByText := true, laidKinds := [.data, .data, .data, .data, .sentinel, .sentinel, .data, .pinned], laidTests := true, laidLooks := .later }
def FnScriptOpsCardSaid : Prop := Claim7.holds Tryz.pinned (.plain (OpenSpec.ofChange fnScriptOpsSpec)) fnScriptOpsCard

/-- THE TIED CARD OF 'laws.FnScriptLeaked'. -/
def fnScriptLeakedCard : Claim7 := { stood := { row := fnScriptLeakedRow, standIns := [], harness := (true, "0c678859b765f73a35b7464c2f514ee7d0b2f4ebb13d7185ed09a1cff576b273"), looks := true }, kinds := [], alts := [], laidByText := true, laidKinds := [.data, .data, .data, .data, .sentinel, .sentinel, .data, .pinned], laidTests := true, laidLooks := .later }
def FnScriptLeakedCardSaid : Prop := Claim7.holds Tryz.pinned (.plain (OpenSpec.ofChange fnScriptLeakedSpec)) fnScriptLeakedCard

/-- THE TIED CARD OF 'laws.FnScriptRun'. -/
def fnScriptRunCard : Claim7 := { stood := { row := fnScriptRunRow, standIns := [], harness := (true, "0c678859b765f73a35b7464c2f514ee7d0b2f4ebb13d7185ed09a1cff576b273"), looks := true }, kinds := [], alts := [], laidByText := true, laidKinds := [.data, .data, .data, .data, .sentinel, .sentinel, .data, .pinned], laidTests := true, laidLooks := .later }
def FnScriptRunCardSaid : Prop := Claim7.holds Tryz.pinned (.plain (OpenSpec.ofChange fnScriptRunSpec)) fnScriptRunCard

/-- THE SECOND FORM's CARD OF 'laws.FnScriptNew'. -/
def fnScriptNewUptoCard : Claim7 := { stood := { row := fnScriptNewUptoRow, standIns := [], harness := (true, "0c678859b765f73a35b7464c2f514ee7d0b2f4ebb13d7185ed09a1cff576b273"), looks := true }, kinds := [], alts := [], laidByText := true, laidKinds := [.data, .data, .data, .data, .sentinel, .sentinel, .data, .pinned], laidTests := true, laidLooks := .later }
def FnScriptNewUptoCardSaid : Prop := Claim7.holds Tryz.pinned (.plain (OpenSpec.upto fnScriptNewSpec)) fnScriptNewUptoCard

/-- THE SECOND FORM's CARD OF 'laws.FnScriptPath'. -/
def fnScriptPathUptoCard : Claim7 := { stood := { row := fnScriptPathUptoRow, standIns := [], harness := (true, "0c678859b765f73a35b7464c2f514ee7d0b2f4ebb13d7185ed09a1cff576b273"), looks := true }, kinds := [], alts := [], laidByText := true, laidKinds := [.data, .data, .data, .data, .sentinel, .sentinel, .data, .pinned], laidTests := true, laidLooks := .later }
def FnScriptPathUptoCardSaid : Prop := Claim7.holds Tryz.pinned (.plain (OpenSpec.upto fnScriptPathSpec)) fnScriptPathUptoCard

/-- THE SECOND FORM's CARD OF 'laws.FnScriptOne'. -/
def fnScriptOneUptoCard : Claim7 := { stood := { row := fnScriptOneUptoRow, standIns := [], harness := (true, "0c678859b765f73a35b7464c2f514ee7d0b2f4ebb13d7185ed09a1cff576b273"), looks := true }, kinds := [], alts := [], laidByText := true, laidKinds := [.data, .data, .data, .data, .sentinel, .sentinel, .data, .pinned], laidTests := true, laidLooks := .later }
def FnScriptOneUptoCardSaid : Prop := Claim7.holds Tryz.pinned (.plain (OpenSpec.upto fnScriptOneSpec)) fnScriptOneUptoCard

/-- THE SECOND FORM's CARD OF 'laws.FnScriptAgain'. -/
def fnScriptAgainUptoCard : Claim7 := { stood := { row := fnScriptAgainUptoRow, standIns := [], harness := (true, "0c678859b765f73a35b7464c2f514ee7d0b2f4ebb13d7185ed09a1cff576b273"), looks := true }, kinds := [], alts := [], laidByText := true, laidKinds := [.data, .data, .data, .data, .sentinel, .sentinel, .data, .pinned], laidTests := true, laidLooks := .later }
def FnScriptAgainUptoCardSaid : Prop := Claim7.holds Tryz.pinned (.plain (OpenSpec.upto fnScriptAgainSpec)) fnScriptAgainUptoCard

/-- THE SECOND FORM's CARD OF 'laws.FnScriptCopy'. -/
def fnScriptCopyUptoCard : Claim7 := { stood := { row := fnScriptCopyUptoRow, standIns := [], harness := (true, "0c678859b765f73a35b7464c2f514ee7d0b2f4ebb13d7185ed09a1cff576b273"), looks := true }, kinds := [], alts := [], laidByText := true, laidKinds := [.data, .data, .data, .data, .sentinel, .sentinel, .data, .pinned], laidTests := true, laidLooks := .later }
def FnScriptCopyUptoCardSaid : Prop := Claim7.holds Tryz.pinned (.plain (OpenSpec.upto fnScriptCopySpec)) fnScriptCopyUptoCard

/-- THE SECOND FORM's CARD OF 'laws.FnScriptFinish'. -/
def fnScriptFinishUptoCard : Claim7 := { stood := { row := fnScriptFinishUptoRow, standIns := [], harness := (true, "0c678859b765f73a35b7464c2f514ee7d0b2f4ebb13d7185ed09a1cff576b273"), looks := true }, kinds := [], alts := [], laidByText := true, laidKinds := [.data, .data, .data, .data, .sentinel, .sentinel, .data, .pinned], laidTests := true, laidLooks := .later }
def FnScriptFinishUptoCardSaid : Prop := Claim7.holds Tryz.pinned (.plain (OpenSpec.upto fnScriptFinishSpec)) fnScriptFinishUptoCard

/-- THE SECOND FORM's CARD OF 'laws.FnScriptLose'. -/
def fnScriptLoseUptoCard : Claim7 := { stood := { row := fnScriptLoseUptoRow, standIns := [], harness := (true, "0c678859b765f73a35b7464c2f514ee7d0b2f4ebb13d7185ed09a1cff576b273"), looks := true }, kinds := [], alts := [], laidByText := true, laidKinds := [.data, .data, .data, .data, .sentinel, .sentinel, .data, .pinned], laidTests := true, laidLooks := .later }
def FnScriptLoseUptoCardSaid : Prop := Claim7.holds Tryz.pinned (.plain (OpenSpec.upto fnScriptLoseSpec)) fnScriptLoseUptoCard

/-- THE SECOND FORM's CARD OF 'laws.FnScriptOps'. -/
def fnScriptOpsUptoCard : Claim7 := { stood := { row := fnScriptOpsUptoRow, standIns := [], harness := (true, "0c678859b765f73a35b7464c2f514ee7d0b2f4ebb13d7185ed09a1cff576b273"), looks := true }, kinds := [], alts := [], laidByText := true, laidKinds := [.data, .data, .data, .data, .sentinel, .sentinel, .data, .pinned], laidTests := true, laidLooks := .later }
def FnScriptOpsUptoCardSaid : Prop := Claim7.holds Tryz.pinned (.plain (OpenSpec.upto fnScriptOpsSpec)) fnScriptOpsUptoCard

/-- THE SECOND FORM's CARD OF 'laws.FnScriptLeaked'. -/
def fnScriptLeakedUptoCard : Claim7 := { stood := { row := fnScriptLeakedUptoRow, standIns := [], harness := (true, "0c678859b765f73a35b7464c2f514ee7d0b2f4ebb13d7185ed09a1cff576b273"), looks := true }, kinds := [], alts := [], laidByText := true, laidKinds := [.data, .data, .data, .data, .sentinel, .sentinel, .data, .pinned], laidTests := true, laidLooks := .later }
def FnScriptLeakedUptoCardSaid : Prop := Claim7.holds Tryz.pinned (.plain (OpenSpec.upto fnScriptLeakedSpec)) fnScriptLeakedUptoCard

/-- THE SECOND FORM's CARD OF 'laws.FnScriptRun'. -/
def fnScriptRunUptoCard : Claim7 := { stood := { row := fnScriptRunUptoRow, standIns := [], harness := (true, "0c678859b765f73a35b7464c2f514ee7d0b2f4ebb13d7185ed09a1cff576b273"), looks := true }, kinds := [], alts := [], laidByText := true, laidKinds := [.data, .data, .data, .data, .sentinel, .sentinel, .data, .pinned], laidTests := true, laidLooks := .later }
def FnScriptRunUptoCardSaid : Prop := Claim7.holds Tryz.pinned (.plain (OpenSpec.upto fnScriptRunSpec)) fnScriptRunUptoCard
end Rows
end Go.Proofs.YtigomgblkieahaaGreatDoor
