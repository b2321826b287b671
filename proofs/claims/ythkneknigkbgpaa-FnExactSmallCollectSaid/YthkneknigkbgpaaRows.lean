/-
  No cell of these rows narrows 'for every input' (looked for: loops, veiled, ifaces, maps, wideKeys, modest, calm, conditions, laid).
  DERIVED. THE GIVEN ROWS OF THIS SEAT. 27 by the template 'for every input the law returns true; each argument reads behind the call as it read before'; 0 by the template 'total and deterministic' (their statements: YthkneknigkbgpaaTotals.lean).
  GIVEN WITH THE SEED: the statements are not yours to turn. If you find one false, say at which input.
  Laid BY PROGRAM, IN A SANDBOX (cutbox-rows.mjs): the forced cells as the released guide's own fill.sh prints them over the translation 5b129059d1470104… (all of the seat's roots in one cut). By AI agents, Wed Nov 11 2026. No macro, syntax, notation, axiom, sorry.
-/
import Derived.Test.YthkneknigkbgpaaChecked
import GoSem.Claim
import GoSem.ClaimJoined
import GoSem.ClaimMapViews
import Derived.JoinedTies
import Derived.KernelRfl
namespace Go.Proofs.Ythkneknigkbgpaa
/- THE CELL 'sum', in the pinned program and in every row, IS THE sha256 OF THE DUMP (.gsa) THAT YthkneknigkbgpaaProg.lean LOADS. Nothing in Lean hashes anything: it is a label: what it is worth is what the hold of that sum in a sandbox is worth. -/
noncomputable def Try.pinned : Pinned := { name := "ythkneknigkbgpaa", sum := "5b129059d1470104f7040b6aa3014805b53b7cb47fc80c91f9056ebc81605f22", checked := Try.checked }
namespace Rows
def none {H : Type} : Left H := { results := [], args := [] }

/-- 'laws.FnOrderOf': WHATEVER THE INPUT: true; the input reads as it did. -/
def fnOrderOfSpec : ChangeSpec := { name := "fnOrderOf", fn := fun _ => fun
  | [d] => { results := [.lit (.bool true)], args := [d] }
  | _ => none }
def fnOrderOfRow : OpenClaim := { program := "ythkneknigkbgpaa", sum := "5b129059d1470104f7040b6aa3014805b53b7cb47fc80c91f9056ebc81605f22", func := "loop.example/cellcollector/laws.FnOrderOf", spec := "fnOrderOf", unfollowed := true, recurses := true, apart := false }
def FnOrderOfSaid : Prop := fnOrderOfRow.holds Try.pinned (OpenSpec.ofChange fnOrderOfSpec)

/-- ITS FALSE NEIGHBOUR: 'it returns false'. Refute it at one input. -/
def fnOrderOfWrong : ChangeSpec := { name := "fnOrderOf", fn := fun _ => fun
  | [d] => { results := [.lit (.bool false)], args := [d] }
  | _ => none }
def FnOrderOfWrongFalsely : Prop := fnOrderOfRow.holds Try.pinned (OpenSpec.ofChange fnOrderOfWrong)

/-- 'laws.FnPutYoung': WHATEVER THE INPUT: true; the input reads as it did. -/
def fnPutYoungSpec : ChangeSpec := { name := "fnPutYoung", fn := fun _ => fun
  | [d] => { results := [.lit (.bool true)], args := [d] }
  | _ => none }
def fnPutYoungRow : OpenClaim := { program := "ythkneknigkbgpaa", sum := "5b129059d1470104f7040b6aa3014805b53b7cb47fc80c91f9056ebc81605f22", func := "loop.example/cellcollector/laws.FnPutYoung", spec := "fnPutYoung", unfollowed := true, recurses := true, apart := false }
def FnPutYoungSaid : Prop := fnPutYoungRow.holds Try.pinned (OpenSpec.ofChange fnPutYoungSpec)

/-- ITS FALSE NEIGHBOUR: 'it returns false'. Refute it at one input. -/
def fnPutYoungWrong : ChangeSpec := { name := "fnPutYoung", fn := fun _ => fun
  | [d] => { results := [.lit (.bool false)], args := [d] }
  | _ => none }
def FnPutYoungWrongFalsely : Prop := fnPutYoungRow.holds Try.pinned (OpenSpec.ofChange fnPutYoungWrong)

/-- 'laws.FnKeptClosed': WHATEVER THE INPUT: true; the input reads as it did. -/
def fnKeptClosedSpec : ChangeSpec := { name := "fnKeptClosed", fn := fun _ => fun
  | [d] => { results := [.lit (.bool true)], args := [d] }
  | _ => none }
def fnKeptClosedRow : OpenClaim := { program := "ythkneknigkbgpaa", sum := "5b129059d1470104f7040b6aa3014805b53b7cb47fc80c91f9056ebc81605f22", func := "loop.example/cellcollector/laws.FnKeptClosed", spec := "fnKeptClosed", unfollowed := true, recurses := true, apart := false }
def FnKeptClosedSaid : Prop := fnKeptClosedRow.holds Try.pinned (OpenSpec.ofChange fnKeptClosedSpec)

/-- ITS FALSE NEIGHBOUR: 'it returns false'. Refute it at one input. -/
def fnKeptClosedWrong : ChangeSpec := { name := "fnKeptClosed", fn := fun _ => fun
  | [d] => { results := [.lit (.bool false)], args := [d] }
  | _ => none }
def FnKeptClosedWrongFalsely : Prop := fnKeptClosedRow.holds Try.pinned (OpenSpec.ofChange fnKeptClosedWrong)

/-- 'laws.FnExactMoveCells': WHATEVER THE INPUT: true; the input reads as it did. -/
def fnExactMoveCellsSpec : ChangeSpec := { name := "fnExactMoveCells", fn := fun _ => fun
  | [d1, d2] => { results := [.lit (.bool true)], args := [d1, d2] }
  | _ => none }
def fnExactMoveCellsRow : OpenClaim := { program := "ythkneknigkbgpaa", sum := "5b129059d1470104f7040b6aa3014805b53b7cb47fc80c91f9056ebc81605f22", func := "loop.example/cellcollector/laws.FnExactMoveCells", spec := "fnExactMoveCells", unfollowed := true, recurses := true, apart := false }
def FnExactMoveCellsSaid : Prop := fnExactMoveCellsRow.holds Try.pinned (OpenSpec.ofChange fnExactMoveCellsSpec)

/-- ITS FALSE NEIGHBOUR: 'it returns false'. Refute it at one input. -/
def fnExactMoveCellsWrong : ChangeSpec := { name := "fnExactMoveCells", fn := fun _ => fun
  | [d1, d2] => { results := [.lit (.bool false)], args := [d1, d2] }
  | _ => none }
def FnExactMoveCellsWrongFalsely : Prop := fnExactMoveCellsRow.holds Try.pinned (OpenSpec.ofChange fnExactMoveCellsWrong)

/-- 'laws.FnYoungKept': WHATEVER THE INPUT: true; the input reads as it did. -/
def fnYoungKeptSpec : ChangeSpec := { name := "fnYoungKept", fn := fun _ => fun
  | [d] => { results := [.lit (.bool true)], args := [d] }
  | _ => none }
def fnYoungKeptRow : OpenClaim := { program := "ythkneknigkbgpaa", sum := "5b129059d1470104f7040b6aa3014805b53b7cb47fc80c91f9056ebc81605f22", func := "loop.example/cellcollector/laws.FnYoungKept", spec := "fnYoungKept", unfollowed := true, recurses := true, apart := false }
def FnYoungKeptSaid : Prop := fnYoungKeptRow.holds Try.pinned (OpenSpec.ofChange fnYoungKeptSpec)

/-- ITS FALSE NEIGHBOUR: 'it returns false'. Refute it at one input. -/
def fnYoungKeptWrong : ChangeSpec := { name := "fnYoungKept", fn := fun _ => fun
  | [d] => { results := [.lit (.bool false)], args := [d] }
  | _ => none }
def FnYoungKeptWrongFalsely : Prop := fnYoungKeptRow.holds Try.pinned (OpenSpec.ofChange fnYoungKeptWrong)

/-- 'laws.FnMoveOrder': WHATEVER THE INPUT: true; the input reads as it did. -/
def fnMoveOrderSpec : ChangeSpec := { name := "fnMoveOrder", fn := fun _ => fun
  | [d] => { results := [.lit (.bool true)], args := [d] }
  | _ => none }
def fnMoveOrderRow : OpenClaim := { program := "ythkneknigkbgpaa", sum := "5b129059d1470104f7040b6aa3014805b53b7cb47fc80c91f9056ebc81605f22", func := "loop.example/cellcollector/laws.FnMoveOrder", spec := "fnMoveOrder", unfollowed := true, recurses := true, apart := false }
def FnMoveOrderSaid : Prop := fnMoveOrderRow.holds Try.pinned (OpenSpec.ofChange fnMoveOrderSpec)

/-- ITS FALSE NEIGHBOUR: 'it returns false'. Refute it at one input. -/
def fnMoveOrderWrong : ChangeSpec := { name := "fnMoveOrder", fn := fun _ => fun
  | [d] => { results := [.lit (.bool false)], args := [d] }
  | _ => none }
def FnMoveOrderWrongFalsely : Prop := fnMoveOrderRow.holds Try.pinned (OpenSpec.ofChange fnMoveOrderWrong)

/-- 'laws.FnNewGens': WHATEVER THE INPUT: true; the input reads as it did. -/
def fnNewGensSpec : ChangeSpec := { name := "fnNewGens", fn := fun _ => fun
  | [d] => { results := [.lit (.bool true)], args := [d] }
  | _ => none }
def fnNewGensRow : OpenClaim := { program := "ythkneknigkbgpaa", sum := "5b129059d1470104f7040b6aa3014805b53b7cb47fc80c91f9056ebc81605f22", func := "loop.example/cellcollector/laws.FnNewGens", spec := "fnNewGens", unfollowed := true, recurses := true, apart := false }
def FnNewGensSaid : Prop := fnNewGensRow.holds Try.pinned (OpenSpec.ofChange fnNewGensSpec)

/-- ITS FALSE NEIGHBOUR: 'it returns false'. Refute it at one input. -/
def fnNewGensWrong : ChangeSpec := { name := "fnNewGens", fn := fun _ => fun
  | [d] => { results := [.lit (.bool false)], args := [d] }
  | _ => none }
def FnNewGensWrongFalsely : Prop := fnNewGensRow.holds Try.pinned (OpenSpec.ofChange fnNewGensWrong)

/-- 'laws.FnCopyOrder': WHATEVER THE INPUT: true; the input reads as it did. -/
def fnCopyOrderSpec : ChangeSpec := { name := "fnCopyOrder", fn := fun _ => fun
  | [d] => { results := [.lit (.bool true)], args := [d] }
  | _ => none }
def fnCopyOrderRow : OpenClaim := { program := "ythkneknigkbgpaa", sum := "5b129059d1470104f7040b6aa3014805b53b7cb47fc80c91f9056ebc81605f22", func := "loop.example/cellcollector/laws.FnCopyOrder", spec := "fnCopyOrder", unfollowed := true, recurses := true, apart := false }
def FnCopyOrderSaid : Prop := fnCopyOrderRow.holds Try.pinned (OpenSpec.ofChange fnCopyOrderSpec)

/-- ITS FALSE NEIGHBOUR: 'it returns false'. Refute it at one input. -/
def fnCopyOrderWrong : ChangeSpec := { name := "fnCopyOrder", fn := fun _ => fun
  | [d] => { results := [.lit (.bool false)], args := [d] }
  | _ => none }
def FnCopyOrderWrongFalsely : Prop := fnCopyOrderRow.holds Try.pinned (OpenSpec.ofChange fnCopyOrderWrong)

/-- 'laws.FnMoveLive': WHATEVER THE INPUT: true; the input reads as it did. -/
def fnMoveLiveSpec : ChangeSpec := { name := "fnMoveLive", fn := fun _ => fun
  | [d] => { results := [.lit (.bool true)], args := [d] }
  | _ => none }
def fnMoveLiveRow : OpenClaim := { program := "ythkneknigkbgpaa", sum := "5b129059d1470104f7040b6aa3014805b53b7cb47fc80c91f9056ebc81605f22", func := "loop.example/cellcollector/laws.FnMoveLive", spec := "fnMoveLive", unfollowed := true, recurses := true, apart := false }
def FnMoveLiveSaid : Prop := fnMoveLiveRow.holds Try.pinned (OpenSpec.ofChange fnMoveLiveSpec)

/-- ITS FALSE NEIGHBOUR: 'it returns false'. Refute it at one input. -/
def fnMoveLiveWrong : ChangeSpec := { name := "fnMoveLive", fn := fun _ => fun
  | [d] => { results := [.lit (.bool false)], args := [d] }
  | _ => none }
def FnMoveLiveWrongFalsely : Prop := fnMoveLiveRow.holds Try.pinned (OpenSpec.ofChange fnMoveLiveWrong)

/-- 'laws.FnExactCopyHeap': WHATEVER THE INPUT: true; the input reads as it did. -/
def fnExactCopyHeapSpec : ChangeSpec := { name := "fnExactCopyHeap", fn := fun _ => fun
  | [d] => { results := [.lit (.bool true)], args := [d] }
  | _ => none }
def fnExactCopyHeapRow : OpenClaim := { program := "ythkneknigkbgpaa", sum := "5b129059d1470104f7040b6aa3014805b53b7cb47fc80c91f9056ebc81605f22", func := "loop.example/cellcollector/laws.FnExactCopyHeap", spec := "fnExactCopyHeap", unfollowed := true, recurses := true, apart := false }
def FnExactCopyHeapSaid : Prop := fnExactCopyHeapRow.holds Try.pinned (OpenSpec.ofChange fnExactCopyHeapSpec)

/-- ITS FALSE NEIGHBOUR: 'it returns false'. Refute it at one input. -/
def fnExactCopyHeapWrong : ChangeSpec := { name := "fnExactCopyHeap", fn := fun _ => fun
  | [d] => { results := [.lit (.bool false)], args := [d] }
  | _ => none }
def FnExactCopyHeapWrongFalsely : Prop := fnExactCopyHeapRow.holds Try.pinned (OpenSpec.ofChange fnExactCopyHeapWrong)

/-- 'laws.FnKeptOld': WHATEVER THE INPUT: true; the input reads as it did. -/
def fnKeptOldSpec : ChangeSpec := { name := "fnKeptOld", fn := fun _ => fun
  | [d] => { results := [.lit (.bool true)], args := [d] }
  | _ => none }
def fnKeptOldRow : OpenClaim := { program := "ythkneknigkbgpaa", sum := "5b129059d1470104f7040b6aa3014805b53b7cb47fc80c91f9056ebc81605f22", func := "loop.example/cellcollector/laws.FnKeptOld", spec := "fnKeptOld", unfollowed := true, recurses := true, apart := false }
def FnKeptOldSaid : Prop := fnKeptOldRow.holds Try.pinned (OpenSpec.ofChange fnKeptOldSpec)

/-- ITS FALSE NEIGHBOUR: 'it returns false'. Refute it at one input. -/
def fnKeptOldWrong : ChangeSpec := { name := "fnKeptOld", fn := fun _ => fun
  | [d] => { results := [.lit (.bool false)], args := [d] }
  | _ => none }
def FnKeptOldWrongFalsely : Prop := fnKeptOldRow.holds Try.pinned (OpenSpec.ofChange fnKeptOldWrong)

/-- 'laws.FnOldPointers': WHATEVER THE INPUT: true; the input reads as it did. -/
def fnOldPointersSpec : ChangeSpec := { name := "fnOldPointers", fn := fun _ => fun
  | [d] => { results := [.lit (.bool true)], args := [d] }
  | _ => none }
def fnOldPointersRow : OpenClaim := { program := "ythkneknigkbgpaa", sum := "5b129059d1470104f7040b6aa3014805b53b7cb47fc80c91f9056ebc81605f22", func := "loop.example/cellcollector/laws.FnOldPointers", spec := "fnOldPointers", unfollowed := true, recurses := true, apart := false }
def FnOldPointersSaid : Prop := fnOldPointersRow.holds Try.pinned (OpenSpec.ofChange fnOldPointersSpec)

/-- ITS FALSE NEIGHBOUR: 'it returns false'. Refute it at one input. -/
def fnOldPointersWrong : ChangeSpec := { name := "fnOldPointers", fn := fun _ => fun
  | [d] => { results := [.lit (.bool false)], args := [d] }
  | _ => none }
def FnOldPointersWrongFalsely : Prop := fnOldPointersRow.holds Try.pinned (OpenSpec.ofChange fnOldPointersWrong)

/-- 'laws.FnSmallTwice': WHATEVER THE INPUT: true; the input reads as it did. -/
def fnSmallTwiceSpec : ChangeSpec := { name := "fnSmallTwice", fn := fun _ => fun
  | [d] => { results := [.lit (.bool true)], args := [d] }
  | _ => none }
def fnSmallTwiceRow : OpenClaim := { program := "ythkneknigkbgpaa", sum := "5b129059d1470104f7040b6aa3014805b53b7cb47fc80c91f9056ebc81605f22", func := "loop.example/cellcollector/laws.FnSmallTwice", spec := "fnSmallTwice", unfollowed := true, recurses := true, apart := false }
def FnSmallTwiceSaid : Prop := fnSmallTwiceRow.holds Try.pinned (OpenSpec.ofChange fnSmallTwiceSpec)

/-- ITS FALSE NEIGHBOUR: 'it returns false'. Refute it at one input. -/
def fnSmallTwiceWrong : ChangeSpec := { name := "fnSmallTwice", fn := fun _ => fun
  | [d] => { results := [.lit (.bool false)], args := [d] }
  | _ => none }
def FnSmallTwiceWrongFalsely : Prop := fnSmallTwiceRow.holds Try.pinned (OpenSpec.ofChange fnSmallTwiceWrong)

/-- 'laws.FnExactYoungKept': WHATEVER THE INPUT: true; the input reads as it did. -/
def fnExactYoungKeptSpec : ChangeSpec := { name := "fnExactYoungKept", fn := fun _ => fun
  | [d] => { results := [.lit (.bool true)], args := [d] }
  | _ => none }
def fnExactYoungKeptRow : OpenClaim := { program := "ythkneknigkbgpaa", sum := "5b129059d1470104f7040b6aa3014805b53b7cb47fc80c91f9056ebc81605f22", func := "loop.example/cellcollector/laws.FnExactYoungKept", spec := "fnExactYoungKept", unfollowed := true, recurses := true, apart := false }
def FnExactYoungKeptSaid : Prop := fnExactYoungKeptRow.holds Try.pinned (OpenSpec.ofChange fnExactYoungKeptSpec)

/-- ITS FALSE NEIGHBOUR: 'it returns false'. Refute it at one input. -/
def fnExactYoungKeptWrong : ChangeSpec := { name := "fnExactYoungKept", fn := fun _ => fun
  | [d] => { results := [.lit (.bool false)], args := [d] }
  | _ => none }
def FnExactYoungKeptWrongFalsely : Prop := fnExactYoungKeptRow.holds Try.pinned (OpenSpec.ofChange fnExactYoungKeptWrong)

/-- 'laws.FnExactHeapsAlike': WHATEVER THE INPUT: true; the input reads as it did. -/
def fnExactHeapsAlikeSpec : ChangeSpec := { name := "fnExactHeapsAlike", fn := fun _ => fun
  | [d1, d2] => { results := [.lit (.bool true)], args := [d1, d2] }
  | _ => none }
def fnExactHeapsAlikeRow : OpenClaim := { program := "ythkneknigkbgpaa", sum := "5b129059d1470104f7040b6aa3014805b53b7cb47fc80c91f9056ebc81605f22", func := "loop.example/cellcollector/laws.FnExactHeapsAlike", spec := "fnExactHeapsAlike", unfollowed := true, recurses := true, apart := false }
def FnExactHeapsAlikeSaid : Prop := fnExactHeapsAlikeRow.holds Try.pinned (OpenSpec.ofChange fnExactHeapsAlikeSpec)

/-- ITS FALSE NEIGHBOUR: 'it returns false'. Refute it at one input. -/
def fnExactHeapsAlikeWrong : ChangeSpec := { name := "fnExactHeapsAlike", fn := fun _ => fun
  | [d1, d2] => { results := [.lit (.bool false)], args := [d1, d2] }
  | _ => none }
def FnExactHeapsAlikeWrongFalsely : Prop := fnExactHeapsAlikeRow.holds Try.pinned (OpenSpec.ofChange fnExactHeapsAlikeWrong)

/-- 'laws.FnCopyWhere': WHATEVER THE INPUT: true; the input reads as it did. -/
def fnCopyWhereSpec : ChangeSpec := { name := "fnCopyWhere", fn := fun _ => fun
  | [d] => { results := [.lit (.bool true)], args := [d] }
  | _ => none }
def fnCopyWhereRow : OpenClaim := { program := "ythkneknigkbgpaa", sum := "5b129059d1470104f7040b6aa3014805b53b7cb47fc80c91f9056ebc81605f22", func := "loop.example/cellcollector/laws.FnCopyWhere", spec := "fnCopyWhere", unfollowed := true, recurses := true, apart := false }
def FnCopyWhereSaid : Prop := fnCopyWhereRow.holds Try.pinned (OpenSpec.ofChange fnCopyWhereSpec)

/-- ITS FALSE NEIGHBOUR: 'it returns false'. Refute it at one input. -/
def fnCopyWhereWrong : ChangeSpec := { name := "fnCopyWhere", fn := fun _ => fun
  | [d] => { results := [.lit (.bool false)], args := [d] }
  | _ => none }
def FnCopyWhereWrongFalsely : Prop := fnCopyWhereRow.holds Try.pinned (OpenSpec.ofChange fnCopyWhereWrong)

/-- 'laws.FnExactPutGens': WHATEVER THE INPUT: true; the input reads as it did. -/
def fnExactPutGensSpec : ChangeSpec := { name := "fnExactPutGens", fn := fun _ => fun
  | [d1, d2, d3] => { results := [.lit (.bool true)], args := [d1, d2, d3] }
  | _ => none }
def fnExactPutGensRow : OpenClaim := { program := "ythkneknigkbgpaa", sum := "5b129059d1470104f7040b6aa3014805b53b7cb47fc80c91f9056ebc81605f22", func := "loop.example/cellcollector/laws.FnExactPutGens", spec := "fnExactPutGens", unfollowed := true, recurses := true, apart := false }
def FnExactPutGensSaid : Prop := fnExactPutGensRow.holds Try.pinned (OpenSpec.ofChange fnExactPutGensSpec)

/-- ITS FALSE NEIGHBOUR: 'it returns false'. Refute it at one input. -/
def fnExactPutGensWrong : ChangeSpec := { name := "fnExactPutGens", fn := fun _ => fun
  | [d1, d2, d3] => { results := [.lit (.bool false)], args := [d1, d2, d3] }
  | _ => none }
def FnExactPutGensWrongFalsely : Prop := fnExactPutGensRow.holds Try.pinned (OpenSpec.ofChange fnExactPutGensWrong)

/-- 'laws.FnCopyHeap': WHATEVER THE INPUT: true; the input reads as it did. -/
def fnCopyHeapSpec : ChangeSpec := { name := "fnCopyHeap", fn := fun _ => fun
  | [d] => { results := [.lit (.bool true)], args := [d] }
  | _ => none }
def fnCopyHeapRow : OpenClaim := { program := "ythkneknigkbgpaa", sum := "5b129059d1470104f7040b6aa3014805b53b7cb47fc80c91f9056ebc81605f22", func := "loop.example/cellcollector/laws.FnCopyHeap", spec := "fnCopyHeap", unfollowed := true, recurses := true, apart := false }
def FnCopyHeapSaid : Prop := fnCopyHeapRow.holds Try.pinned (OpenSpec.ofChange fnCopyHeapSpec)

/-- ITS FALSE NEIGHBOUR: 'it returns false'. Refute it at one input. -/
def fnCopyHeapWrong : ChangeSpec := { name := "fnCopyHeap", fn := fun _ => fun
  | [d] => { results := [.lit (.bool false)], args := [d] }
  | _ => none }
def FnCopyHeapWrongFalsely : Prop := fnCopyHeapRow.holds Try.pinned (OpenSpec.ofChange fnCopyHeapWrong)

/-- 'laws.FnFloatOld': WHATEVER THE INPUT: true; the input reads as it did. -/
def fnFloatOldSpec : ChangeSpec := { name := "fnFloatOld", fn := fun _ => fun
  | [d] => { results := [.lit (.bool true)], args := [d] }
  | _ => none }
def fnFloatOldRow : OpenClaim := { program := "ythkneknigkbgpaa", sum := "5b129059d1470104f7040b6aa3014805b53b7cb47fc80c91f9056ebc81605f22", func := "loop.example/cellcollector/laws.FnFloatOld", spec := "fnFloatOld", unfollowed := true, recurses := true, apart := false }
def FnFloatOldSaid : Prop := fnFloatOldRow.holds Try.pinned (OpenSpec.ofChange fnFloatOldSpec)

/-- ITS FALSE NEIGHBOUR: 'it returns false'. Refute it at one input. -/
def fnFloatOldWrong : ChangeSpec := { name := "fnFloatOld", fn := fun _ => fun
  | [d] => { results := [.lit (.bool false)], args := [d] }
  | _ => none }
def FnFloatOldWrongFalsely : Prop := fnFloatOldRow.holds Try.pinned (OpenSpec.ofChange fnFloatOldWrong)

/-- 'laws.FnFloating': WHATEVER THE INPUT: true; the input reads as it did. -/
def fnFloatingSpec : ChangeSpec := { name := "fnFloating", fn := fun _ => fun
  | [d] => { results := [.lit (.bool true)], args := [d] }
  | _ => none }
def fnFloatingRow : OpenClaim := { program := "ythkneknigkbgpaa", sum := "5b129059d1470104f7040b6aa3014805b53b7cb47fc80c91f9056ebc81605f22", func := "loop.example/cellcollector/laws.FnFloating", spec := "fnFloating", unfollowed := true, recurses := true, apart := false }
def FnFloatingSaid : Prop := fnFloatingRow.holds Try.pinned (OpenSpec.ofChange fnFloatingSpec)

/-- ITS FALSE NEIGHBOUR: 'it returns false'. Refute it at one input. -/
def fnFloatingWrong : ChangeSpec := { name := "fnFloating", fn := fun _ => fun
  | [d] => { results := [.lit (.bool false)], args := [d] }
  | _ => none }
def FnFloatingWrongFalsely : Prop := fnFloatingRow.holds Try.pinned (OpenSpec.ofChange fnFloatingWrong)

/-- 'laws.FnMoveCells': WHATEVER THE INPUT: true; the input reads as it did. -/
def fnMoveCellsSpec : ChangeSpec := { name := "fnMoveCells", fn := fun _ => fun
  | [d] => { results := [.lit (.bool true)], args := [d] }
  | _ => none }
def fnMoveCellsRow : OpenClaim := { program := "ythkneknigkbgpaa", sum := "5b129059d1470104f7040b6aa3014805b53b7cb47fc80c91f9056ebc81605f22", func := "loop.example/cellcollector/laws.FnMoveCells", spec := "fnMoveCells", unfollowed := true, recurses := true, apart := false }
def FnMoveCellsSaid : Prop := fnMoveCellsRow.holds Try.pinned (OpenSpec.ofChange fnMoveCellsSpec)

/-- ITS FALSE NEIGHBOUR: 'it returns false'. Refute it at one input. -/
def fnMoveCellsWrong : ChangeSpec := { name := "fnMoveCells", fn := fun _ => fun
  | [d] => { results := [.lit (.bool false)], args := [d] }
  | _ => none }
def FnMoveCellsWrongFalsely : Prop := fnMoveCellsRow.holds Try.pinned (OpenSpec.ofChange fnMoveCellsWrong)

/-- 'laws.FnExactSmallCollect': WHATEVER THE INPUT: true; the input reads as it did. -/
def fnExactSmallCollectSpec : ChangeSpec := { name := "fnExactSmallCollect", fn := fun _ => fun
  | [d] => { results := [.lit (.bool true)], args := [d] }
  | _ => none }
def fnExactSmallCollectRow : OpenClaim := { program := "ythkneknigkbgpaa", sum := "5b129059d1470104f7040b6aa3014805b53b7cb47fc80c91f9056ebc81605f22", func := "loop.example/cellcollector/laws.FnExactSmallCollect", spec := "fnExactSmallCollect", unfollowed := true, recurses := true, apart := false }
def FnExactSmallCollectSaid : Prop := fnExactSmallCollectRow.holds Try.pinned (OpenSpec.ofChange fnExactSmallCollectSpec)

/-- ITS FALSE NEIGHBOUR: 'it returns false'. Refute it at one input. -/
def fnExactSmallCollectWrong : ChangeSpec := { name := "fnExactSmallCollect", fn := fun _ => fun
  | [d] => { results := [.lit (.bool false)], args := [d] }
  | _ => none }
def FnExactSmallCollectWrongFalsely : Prop := fnExactSmallCollectRow.holds Try.pinned (OpenSpec.ofChange fnExactSmallCollectWrong)

/-- 'laws.FnHeapsAlike': WHATEVER THE INPUT: true; the input reads as it did. -/
def fnHeapsAlikeSpec : ChangeSpec := { name := "fnHeapsAlike", fn := fun _ => fun
  | [d] => { results := [.lit (.bool true)], args := [d] }
  | _ => none }
def fnHeapsAlikeRow : OpenClaim := { program := "ythkneknigkbgpaa", sum := "5b129059d1470104f7040b6aa3014805b53b7cb47fc80c91f9056ebc81605f22", func := "loop.example/cellcollector/laws.FnHeapsAlike", spec := "fnHeapsAlike", unfollowed := true, recurses := true, apart := false }
def FnHeapsAlikeSaid : Prop := fnHeapsAlikeRow.holds Try.pinned (OpenSpec.ofChange fnHeapsAlikeSpec)

/-- ITS FALSE NEIGHBOUR: 'it returns false'. Refute it at one input. -/
def fnHeapsAlikeWrong : ChangeSpec := { name := "fnHeapsAlike", fn := fun _ => fun
  | [d] => { results := [.lit (.bool false)], args := [d] }
  | _ => none }
def FnHeapsAlikeWrongFalsely : Prop := fnHeapsAlikeRow.holds Try.pinned (OpenSpec.ofChange fnHeapsAlikeWrong)

/-- 'laws.FnCopyCount': WHATEVER THE INPUT: true; the input reads as it did. -/
def fnCopyCountSpec : ChangeSpec := { name := "fnCopyCount", fn := fun _ => fun
  | [d] => { results := [.lit (.bool true)], args := [d] }
  | _ => none }
def fnCopyCountRow : OpenClaim := { program := "ythkneknigkbgpaa", sum := "5b129059d1470104f7040b6aa3014805b53b7cb47fc80c91f9056ebc81605f22", func := "loop.example/cellcollector/laws.FnCopyCount", spec := "fnCopyCount", unfollowed := true, recurses := true, apart := false }
def FnCopyCountSaid : Prop := fnCopyCountRow.holds Try.pinned (OpenSpec.ofChange fnCopyCountSpec)

/-- ITS FALSE NEIGHBOUR: 'it returns false'. Refute it at one input. -/
def fnCopyCountWrong : ChangeSpec := { name := "fnCopyCount", fn := fun _ => fun
  | [d] => { results := [.lit (.bool false)], args := [d] }
  | _ => none }
def FnCopyCountWrongFalsely : Prop := fnCopyCountRow.holds Try.pinned (OpenSpec.ofChange fnCopyCountWrong)

/-- 'laws.FnAlikeCopy': WHATEVER THE INPUT: true; the input reads as it did. -/
def fnAlikeCopySpec : ChangeSpec := { name := "fnAlikeCopy", fn := fun _ => fun
  | [d] => { results := [.lit (.bool true)], args := [d] }
  | _ => none }
def fnAlikeCopyRow : OpenClaim := { program := "ythkneknigkbgpaa", sum := "5b129059d1470104f7040b6aa3014805b53b7cb47fc80c91f9056ebc81605f22", func := "loop.example/cellcollector/laws.FnAlikeCopy", spec := "fnAlikeCopy", unfollowed := true, recurses := true, apart := false }
def FnAlikeCopySaid : Prop := fnAlikeCopyRow.holds Try.pinned (OpenSpec.ofChange fnAlikeCopySpec)

/-- ITS FALSE NEIGHBOUR: 'it returns false'. Refute it at one input. -/
def fnAlikeCopyWrong : ChangeSpec := { name := "fnAlikeCopy", fn := fun _ => fun
  | [d] => { results := [.lit (.bool false)], args := [d] }
  | _ => none }
def FnAlikeCopyWrongFalsely : Prop := fnAlikeCopyRow.holds Try.pinned (OpenSpec.ofChange fnAlikeCopyWrong)

/-- 'laws.FnExactFloating': WHATEVER THE INPUT: true; the input reads as it did. -/
def fnExactFloatingSpec : ChangeSpec := { name := "fnExactFloating", fn := fun _ => fun
  | [d] => { results := [.lit (.bool true)], args := [d] }
  | _ => none }
def fnExactFloatingRow : OpenClaim := { program := "ythkneknigkbgpaa", sum := "5b129059d1470104f7040b6aa3014805b53b7cb47fc80c91f9056ebc81605f22", func := "loop.example/cellcollector/laws.FnExactFloating", spec := "fnExactFloating", unfollowed := true, recurses := true, apart := false }
def FnExactFloatingSaid : Prop := fnExactFloatingRow.holds Try.pinned (OpenSpec.ofChange fnExactFloatingSpec)

/-- ITS FALSE NEIGHBOUR: 'it returns false'. Refute it at one input. -/
def fnExactFloatingWrong : ChangeSpec := { name := "fnExactFloating", fn := fun _ => fun
  | [d] => { results := [.lit (.bool false)], args := [d] }
  | _ => none }
def FnExactFloatingWrongFalsely : Prop := fnExactFloatingRow.holds Try.pinned (OpenSpec.ofChange fnExactFloatingWrong)

/-- 'laws.FnSmallCollect': WHATEVER THE INPUT: true; the input reads as it did. -/
def fnSmallCollectSpec : ChangeSpec := { name := "fnSmallCollect", fn := fun _ => fun
  | [d] => { results := [.lit (.bool true)], args := [d] }
  | _ => none }
def fnSmallCollectRow : OpenClaim := { program := "ythkneknigkbgpaa", sum := "5b129059d1470104f7040b6aa3014805b53b7cb47fc80c91f9056ebc81605f22", func := "loop.example/cellcollector/laws.FnSmallCollect", spec := "fnSmallCollect", unfollowed := true, recurses := true, apart := false }
def FnSmallCollectSaid : Prop := fnSmallCollectRow.holds Try.pinned (OpenSpec.ofChange fnSmallCollectSpec)

/-- ITS FALSE NEIGHBOUR: 'it returns false'. Refute it at one input. -/
def fnSmallCollectWrong : ChangeSpec := { name := "fnSmallCollect", fn := fun _ => fun
  | [d] => { results := [.lit (.bool false)], args := [d] }
  | _ => none }
def FnSmallCollectWrongFalsely : Prop := fnSmallCollectRow.holds Try.pinned (OpenSpec.ofChange fnSmallCollectWrong)

/- THE SECOND FORM. 'bulk': how many values and letters a reading holds, each counted each time it is reached (what is shared counts as often as it is met; a slice's spare places count too). A statement '..UptoSaid' is the law's where the arguments, and the package variables that the reading takes, are together of bulk at most 1048576: NARROWER than '..Said'. Prove '..Said' where nothing that the law and all that it calls make is longer than what came in: it says more and counts as full. Else prove '..UptoSaid'. A law counts once. -/
mutual
def uptoBulk {H : Type} : DataW H → Nat
  | .lit (.string bytes) => bytes.length + 1
  | .lit _ => 1
  | .nil => 1
  | .ptr d => uptoBulk d + 1
  | .slice elems spare => uptoBulkAll elems + uptoBulkAll spare + 1
  | .agg parts => uptoBulkAll parts + 1
  | .iface _ d => uptoBulk d + 1
  | .map entries => uptoBulkEntries entries + 1
  | .held _ => 1
def uptoBulkAll {H : Type} : List (DataW H) → Nat
  | [] => 0
  | d :: r => uptoBulk d + uptoBulkAll r
def uptoBulkEntries {H : Type} : List (Lit × DataW H) → Nat
  | [] => 0
  | x :: r => uptoBulkEntry x + uptoBulkEntries r
def uptoBulkEntry {H : Type} : Lit × DataW H → Nat
  | (.string bytes, d) => bytes.length + uptoBulk d + 1
  | (_, d) => uptoBulk d + 1
 end
def uptoSmall : (H : Type) → List (DataW H) → Bool := fun _ ds => decide (uptoBulkAll ds ≤ 1048576)
def OpenSpec.upto (s : _root_.Go.ChangeSpec) : _root_.Go.OpenSpec := { _root_.Go.OpenSpec.ofChange s with cond := some uptoSmall }

/-- 'laws.FnOrderOf', WHERE WHAT IT READS IS OF BULK AT MOST 1048576: true; the input reads as it did. -/
def fnOrderOfUptoRow : OpenClaim := { program := "ythkneknigkbgpaa", sum := "5b129059d1470104f7040b6aa3014805b53b7cb47fc80c91f9056ebc81605f22", func := "loop.example/cellcollector/laws.FnOrderOf", spec := "fnOrderOf", unfollowed := true, recurses := true, apart := false, narrowed := true }
def FnOrderOfUptoSaid : Prop := fnOrderOfUptoRow.holds Try.pinned (OpenSpec.upto fnOrderOfSpec)

/-- 'laws.FnPutYoung', WHERE WHAT IT READS IS OF BULK AT MOST 1048576: true; the input reads as it did. -/
def fnPutYoungUptoRow : OpenClaim := { program := "ythkneknigkbgpaa", sum := "5b129059d1470104f7040b6aa3014805b53b7cb47fc80c91f9056ebc81605f22", func := "loop.example/cellcollector/laws.FnPutYoung", spec := "fnPutYoung", unfollowed := true, recurses := true, apart := false, narrowed := true }
def FnPutYoungUptoSaid : Prop := fnPutYoungUptoRow.holds Try.pinned (OpenSpec.upto fnPutYoungSpec)

/-- 'laws.FnKeptClosed', WHERE WHAT IT READS IS OF BULK AT MOST 1048576: true; the input reads as it did. -/
def fnKeptClosedUptoRow : OpenClaim := { program := "ythkneknigkbgpaa", sum := "5b129059d1470104f7040b6aa3014805b53b7cb47fc80c91f9056ebc81605f22", func := "loop.example/cellcollector/laws.FnKeptClosed", spec := "fnKeptClosed", unfollowed := true, recurses := true, apart := false, narrowed := true }
def FnKeptClosedUptoSaid : Prop := fnKeptClosedUptoRow.holds Try.pinned (OpenSpec.upto fnKeptClosedSpec)

/-- 'laws.FnExactMoveCells', WHERE WHAT IT READS IS OF BULK AT MOST 1048576: true; the input reads as it did. -/
def fnExactMoveCellsUptoRow : OpenClaim := { program := "ythkneknigkbgpaa", sum := "5b129059d1470104f7040b6aa3014805b53b7cb47fc80c91f9056ebc81605f22", func := "loop.example/cellcollector/laws.FnExactMoveCells", spec := "fnExactMoveCells", unfollowed := true, recurses := true, apart := false, narrowed := true }
def FnExactMoveCellsUptoSaid : Prop := fnExactMoveCellsUptoRow.holds Try.pinned (OpenSpec.upto fnExactMoveCellsSpec)

/-- 'laws.FnYoungKept', WHERE WHAT IT READS IS OF BULK AT MOST 1048576: true; the input reads as it did. -/
def fnYoungKeptUptoRow : OpenClaim := { program := "ythkneknigkbgpaa", sum := "5b129059d1470104f7040b6aa3014805b53b7cb47fc80c91f9056ebc81605f22", func := "loop.example/cellcollector/laws.FnYoungKept", spec := "fnYoungKept", unfollowed := true, recurses := true, apart := false, narrowed := true }
def FnYoungKeptUptoSaid : Prop := fnYoungKeptUptoRow.holds Try.pinned (OpenSpec.upto fnYoungKeptSpec)

/-- 'laws.FnMoveOrder', WHERE WHAT IT READS IS OF BULK AT MOST 1048576: true; the input reads as it did. -/
def fnMoveOrderUptoRow : OpenClaim := { program := "ythkneknigkbgpaa", sum := "5b129059d1470104f7040b6aa3014805b53b7cb47fc80c91f9056ebc81605f22", func := "loop.example/cellcollector/laws.FnMoveOrder", spec := "fnMoveOrder", unfollowed := true, recurses := true, apart := false, narrowed := true }
def FnMoveOrderUptoSaid : Prop := fnMoveOrderUptoRow.holds Try.pinned (OpenSpec.upto fnMoveOrderSpec)

/-- 'laws.FnNewGens', WHERE WHAT IT READS IS OF BULK AT MOST 1048576: true; the input reads as it did. -/
def fnNewGensUptoRow : OpenClaim := { program := "ythkneknigkbgpaa", sum := "5b129059d1470104f7040b6aa3014805b53b7cb47fc80c91f9056ebc81605f22", func := "loop.example/cellcollector/laws.FnNewGens", spec := "fnNewGens", unfollowed := true, recurses := true, apart := false, narrowed := true }
def FnNewGensUptoSaid : Prop := fnNewGensUptoRow.holds Try.pinned (OpenSpec.upto fnNewGensSpec)

/-- 'laws.FnCopyOrder', WHERE WHAT IT READS IS OF BULK AT MOST 1048576: true; the input reads as it did. -/
def fnCopyOrderUptoRow : OpenClaim := { program := "ythkneknigkbgpaa", sum := "5b129059d1470104f7040b6aa3014805b53b7cb47fc80c91f9056ebc81605f22", func := "loop.example/cellcollector/laws.FnCopyOrder", spec := "fnCopyOrder", unfollowed := true, recurses := true, apart := false, narrowed := true }
def FnCopyOrderUptoSaid : Prop := fnCopyOrderUptoRow.holds Try.pinned (OpenSpec.upto fnCopyOrderSpec)

/-- 'laws.FnMoveLive', WHERE WHAT IT READS IS OF BULK AT MOST 1048576: true; the input reads as it did. -/
def fnMoveLiveUptoRow : OpenClaim := { program := "ythkneknigkbgpaa", sum := "5b129059d1470104f7040b6aa3014805b53b7cb47fc80c91f9056ebc81605f22", func := "loop.example/cellcollector/laws.FnMoveLive", spec := "fnMoveLive", unfollowed := true, recurses := true, apart := false, narrowed := true }
def FnMoveLiveUptoSaid : Prop := fnMoveLiveUptoRow.holds Try.pinned (OpenSpec.upto fnMoveLiveSpec)

/-- 'laws.FnExactCopyHeap', WHERE WHAT IT READS IS OF BULK AT MOST 1048576: true; the input reads as it did. -/
def fnExactCopyHeapUptoRow : OpenClaim := { program := "ythkneknigkbgpaa", sum := "5b129059d1470104f7040b6aa3014805b53b7cb47fc80c91f9056ebc81605f22", func := "loop.example/cellcollector/laws.FnExactCopyHeap", spec := "fnExactCopyHeap", unfollowed := true, recurses := true, apart := false, narrowed := true }
def FnExactCopyHeapUptoSaid : Prop := fnExactCopyHeapUptoRow.holds Try.pinned (OpenSpec.upto fnExactCopyHeapSpec)

/-- 'laws.FnKeptOld', WHERE WHAT IT READS IS OF BULK AT MOST 1048576: true; the input reads as it did. -/
def fnKeptOldUptoRow : OpenClaim := { program := "ythkneknigkbgpaa", sum := "5b129059d1470104f7040b6aa3014805b53b7cb47fc80c91f9056ebc81605f22", func := "loop.example/cellcollector/laws.FnKeptOld", spec := "fnKeptOld", unfollowed := true, recurses := true, apart := false, narrowed := true }
def FnKeptOldUptoSaid : Prop := fnKeptOldUptoRow.holds Try.pinned (OpenSpec.upto fnKeptOldSpec)

/-- 'laws.FnOldPointers', WHERE WHAT IT READS IS OF BULK AT MOST 1048576: true; the input reads as it did. -/
def fnOldPointersUptoRow : OpenClaim := { program := "ythkneknigkbgpaa", sum := "5b129059d1470104f7040b6aa3014805b53b7cb47fc80c91f9056ebc81605f22", func := "loop.example/cellcollector/laws.FnOldPointers", spec := "fnOldPointers", unfollowed := true, recurses := true, apart := false, narrowed := true }
def FnOldPointersUptoSaid : Prop := fnOldPointersUptoRow.holds Try.pinned (OpenSpec.upto fnOldPointersSpec)

/-- 'laws.FnSmallTwice', WHERE WHAT IT READS IS OF BULK AT MOST 1048576: true; the input reads as it did. -/
def fnSmallTwiceUptoRow : OpenClaim := { program := "ythkneknigkbgpaa", sum := "5b129059d1470104f7040b6aa3014805b53b7cb47fc80c91f9056ebc81605f22", func := "loop.example/cellcollector/laws.FnSmallTwice", spec := "fnSmallTwice", unfollowed := true, recurses := true, apart := false, narrowed := true }
def FnSmallTwiceUptoSaid : Prop := fnSmallTwiceUptoRow.holds Try.pinned (OpenSpec.upto fnSmallTwiceSpec)

/-- 'laws.FnExactYoungKept', WHERE WHAT IT READS IS OF BULK AT MOST 1048576: true; the input reads as it did. -/
def fnExactYoungKeptUptoRow : OpenClaim := { program := "ythkneknigkbgpaa", sum := "5b129059d1470104f7040b6aa3014805b53b7cb47fc80c91f9056ebc81605f22", func := "loop.example/cellcollector/laws.FnExactYoungKept", spec := "fnExactYoungKept", unfollowed := true, recurses := true, apart := false, narrowed := true }
def FnExactYoungKeptUptoSaid : Prop := fnExactYoungKeptUptoRow.holds Try.pinned (OpenSpec.upto fnExactYoungKeptSpec)

/-- 'laws.FnExactHeapsAlike', WHERE WHAT IT READS IS OF BULK AT MOST 1048576: true; the input reads as it did. -/
def fnExactHeapsAlikeUptoRow : OpenClaim := { program := "ythkneknigkbgpaa", sum := "5b129059d1470104f7040b6aa3014805b53b7cb47fc80c91f9056ebc81605f22", func := "loop.example/cellcollector/laws.FnExactHeapsAlike", spec := "fnExactHeapsAlike", unfollowed := true, recurses := true, apart := false, narrowed := true }
def FnExactHeapsAlikeUptoSaid : Prop := fnExactHeapsAlikeUptoRow.holds Try.pinned (OpenSpec.upto fnExactHeapsAlikeSpec)

/-- 'laws.FnCopyWhere', WHERE WHAT IT READS IS OF BULK AT MOST 1048576: true; the input reads as it did. -/
def fnCopyWhereUptoRow : OpenClaim := { program := "ythkneknigkbgpaa", sum := "5b129059d1470104f7040b6aa3014805b53b7cb47fc80c91f9056ebc81605f22", func := "loop.example/cellcollector/laws.FnCopyWhere", spec := "fnCopyWhere", unfollowed := true, recurses := true, apart := false, narrowed := true }
def FnCopyWhereUptoSaid : Prop := fnCopyWhereUptoRow.holds Try.pinned (OpenSpec.upto fnCopyWhereSpec)

/-- 'laws.FnExactPutGens', WHERE WHAT IT READS IS OF BULK AT MOST 1048576: true; the input reads as it did. -/
def fnExactPutGensUptoRow : OpenClaim := { program := "ythkneknigkbgpaa", sum := "5b129059d1470104f7040b6aa3014805b53b7cb47fc80c91f9056ebc81605f22", func := "loop.example/cellcollector/laws.FnExactPutGens", spec := "fnExactPutGens", unfollowed := true, recurses := true, apart := false, narrowed := true }
def FnExactPutGensUptoSaid : Prop := fnExactPutGensUptoRow.holds Try.pinned (OpenSpec.upto fnExactPutGensSpec)

/-- 'laws.FnCopyHeap', WHERE WHAT IT READS IS OF BULK AT MOST 1048576: true; the input reads as it did. -/
def fnCopyHeapUptoRow : OpenClaim := { program := "ythkneknigkbgpaa", sum := "5b129059d1470104f7040b6aa3014805b53b7cb47fc80c91f9056ebc81605f22", func := "loop.example/cellcollector/laws.FnCopyHeap", spec := "fnCopyHeap", unfollowed := true, recurses := true, apart := false, narrowed := true }
def FnCopyHeapUptoSaid : Prop := fnCopyHeapUptoRow.holds Try.pinned (OpenSpec.upto fnCopyHeapSpec)

/-- 'laws.FnFloatOld', WHERE WHAT IT READS IS OF BULK AT MOST 1048576: true; the input reads as it did. -/
def fnFloatOldUptoRow : OpenClaim := { program := "ythkneknigkbgpaa", sum := "5b129059d1470104f7040b6aa3014805b53b7cb47fc80c91f9056ebc81605f22", func := "loop.example/cellcollector/laws.FnFloatOld", spec := "fnFloatOld", unfollowed := true, recurses := true, apart := false, narrowed := true }
def FnFloatOldUptoSaid : Prop := fnFloatOldUptoRow.holds Try.pinned (OpenSpec.upto fnFloatOldSpec)

/-- 'laws.FnFloating', WHERE WHAT IT READS IS OF BULK AT MOST 1048576: true; the input reads as it did. -/
def fnFloatingUptoRow : OpenClaim := { program := "ythkneknigkbgpaa", sum := "5b129059d1470104f7040b6aa3014805b53b7cb47fc80c91f9056ebc81605f22", func := "loop.example/cellcollector/laws.FnFloating", spec := "fnFloating", unfollowed := true, recurses := true, apart := false, narrowed := true }
def FnFloatingUptoSaid : Prop := fnFloatingUptoRow.holds Try.pinned (OpenSpec.upto fnFloatingSpec)

/-- 'laws.FnMoveCells', WHERE WHAT IT READS IS OF BULK AT MOST 1048576: true; the input reads as it did. -/
def fnMoveCellsUptoRow : OpenClaim := { program := "ythkneknigkbgpaa", sum := "5b129059d1470104f7040b6aa3014805b53b7cb47fc80c91f9056ebc81605f22", func := "loop.example/cellcollector/laws.FnMoveCells", spec := "fnMoveCells", unfollowed := true, recurses := true, apart := false, narrowed := true }
def FnMoveCellsUptoSaid : Prop := fnMoveCellsUptoRow.holds Try.pinned (OpenSpec.upto fnMoveCellsSpec)

/-- 'laws.FnExactSmallCollect', WHERE WHAT IT READS IS OF BULK AT MOST 1048576: true; the input reads as it did. -/
def fnExactSmallCollectUptoRow : OpenClaim := { program := "ythkneknigkbgpaa", sum := "5b129059d1470104f7040b6aa3014805b53b7cb47fc80c91f9056ebc81605f22", func := "loop.example/cellcollector/laws.FnExactSmallCollect", spec := "fnExactSmallCollect", unfollowed := true, recurses := true, apart := false, narrowed := true }
def FnExactSmallCollectUptoSaid : Prop := fnExactSmallCollectUptoRow.holds Try.pinned (OpenSpec.upto fnExactSmallCollectSpec)

/-- 'laws.FnHeapsAlike', WHERE WHAT IT READS IS OF BULK AT MOST 1048576: true; the input reads as it did. -/
def fnHeapsAlikeUptoRow : OpenClaim := { program := "ythkneknigkbgpaa", sum := "5b129059d1470104f7040b6aa3014805b53b7cb47fc80c91f9056ebc81605f22", func := "loop.example/cellcollector/laws.FnHeapsAlike", spec := "fnHeapsAlike", unfollowed := true, recurses := true, apart := false, narrowed := true }
def FnHeapsAlikeUptoSaid : Prop := fnHeapsAlikeUptoRow.holds Try.pinned (OpenSpec.upto fnHeapsAlikeSpec)

/-- 'laws.FnCopyCount', WHERE WHAT IT READS IS OF BULK AT MOST 1048576: true; the input reads as it did. -/
def fnCopyCountUptoRow : OpenClaim := { program := "ythkneknigkbgpaa", sum := "5b129059d1470104f7040b6aa3014805b53b7cb47fc80c91f9056ebc81605f22", func := "loop.example/cellcollector/laws.FnCopyCount", spec := "fnCopyCount", unfollowed := true, recurses := true, apart := false, narrowed := true }
def FnCopyCountUptoSaid : Prop := fnCopyCountUptoRow.holds Try.pinned (OpenSpec.upto fnCopyCountSpec)

/-- 'laws.FnAlikeCopy', WHERE WHAT IT READS IS OF BULK AT MOST 1048576: true; the input reads as it did. -/
def fnAlikeCopyUptoRow : OpenClaim := { program := "ythkneknigkbgpaa", sum := "5b129059d1470104f7040b6aa3014805b53b7cb47fc80c91f9056ebc81605f22", func := "loop.example/cellcollector/laws.FnAlikeCopy", spec := "fnAlikeCopy", unfollowed := true, recurses := true, apart := false, narrowed := true }
def FnAlikeCopyUptoSaid : Prop := fnAlikeCopyUptoRow.holds Try.pinned (OpenSpec.upto fnAlikeCopySpec)

/-- 'laws.FnExactFloating', WHERE WHAT IT READS IS OF BULK AT MOST 1048576: true; the input reads as it did. -/
def fnExactFloatingUptoRow : OpenClaim := { program := "ythkneknigkbgpaa", sum := "5b129059d1470104f7040b6aa3014805b53b7cb47fc80c91f9056ebc81605f22", func := "loop.example/cellcollector/laws.FnExactFloating", spec := "fnExactFloating", unfollowed := true, recurses := true, apart := false, narrowed := true }
def FnExactFloatingUptoSaid : Prop := fnExactFloatingUptoRow.holds Try.pinned (OpenSpec.upto fnExactFloatingSpec)

/-- 'laws.FnSmallCollect', WHERE WHAT IT READS IS OF BULK AT MOST 1048576: true; the input reads as it did. -/
def fnSmallCollectUptoRow : OpenClaim := { program := "ythkneknigkbgpaa", sum := "5b129059d1470104f7040b6aa3014805b53b7cb47fc80c91f9056ebc81605f22", func := "loop.example/cellcollector/laws.FnSmallCollect", spec := "fnSmallCollect", unfollowed := true, recurses := true, apart := false, narrowed := true }
def FnSmallCollectUptoSaid : Prop := fnSmallCollectUptoRow.holds Try.pinned (OpenSpec.upto fnSmallCollectSpec)

end Rows
end Go.Proofs.Ythkneknigkbgpaa
