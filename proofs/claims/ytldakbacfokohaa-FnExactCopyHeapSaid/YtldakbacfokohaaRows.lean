/-
  No cell of these rows narrows 'for every input' (looked for: loops, veiled, ifaces, maps, wideKeys, modest, calm, conditions, laid).
  DERIVED. THE GIVEN ROWS OF THIS SEAT. 14 by the template 'for every input the law returns true; each argument reads behind the call as it read before'; 0 by the template 'total and deterministic' (their statements: YtldakbacfokohaaTotals.lean).
  GIVEN WITH THE SEED: the statements are not yours to turn. If you find one false, say at which input.
  Laid BY PROGRAM, IN A SANDBOX (cutbox-rows.mjs): the forced cells as the released guide's own fill.sh prints them over the translation 8eaa135f76fc5fad… (all of the seat's roots in one cut). By AI agents, Wed Nov 11 2026. No macro, syntax, notation, axiom, sorry.
-/
import Derived.Test.YtldakbacfokohaaChecked
import GoSem.Claim
import GoSem.ClaimJoined
import GoSem.ClaimMapViews
import Derived.JoinedTies
import Derived.KernelRfl
namespace Go.Proofs.Ytldakbacfokohaa
/- THE CELL 'sum', in the pinned program and in every row, IS THE sha256 OF THE DUMP (.gsa) THAT YtldakbacfokohaaProg.lean LOADS. Nothing in Lean hashes anything: it is a label: what it is worth is what the hold of that sum in a sandbox is worth. -/
noncomputable def Try.pinned : Pinned := { name := "ytldakbacfokohaa", sum := "8eaa135f76fc5fad2acfdbdc2a51f87388a23976401d86d164c414b55c7d8a83", checked := Try.checked }
namespace Rows
def none {H : Type} : Left H := { results := [], args := [] }

/-- 'laws.FnExactMoveCells': WHATEVER THE INPUT: true; the input reads as it did. -/
def fnExactMoveCellsSpec : ChangeSpec := { name := "fnExactMoveCells", fn := fun _ => fun
  | [d1, d2] => { results := [.lit (.bool true)], args := [d1, d2] }
  | _ => none }
def fnExactMoveCellsRow : OpenClaim := { program := "ytldakbacfokohaa", sum := "8eaa135f76fc5fad2acfdbdc2a51f87388a23976401d86d164c414b55c7d8a83", func := "loop.example/cellcollector/laws.FnExactMoveCells", spec := "fnExactMoveCells", unfollowed := true, recurses := true, apart := false }
def FnExactMoveCellsSaid : Prop := fnExactMoveCellsRow.holds Try.pinned (OpenSpec.ofChange fnExactMoveCellsSpec)

/-- ITS FALSE NEIGHBOUR: 'it returns false'. Refute it at one input. -/
def fnExactMoveCellsWrong : ChangeSpec := { name := "fnExactMoveCells", fn := fun _ => fun
  | [d1, d2] => { results := [.lit (.bool false)], args := [d1, d2] }
  | _ => none }
def FnExactMoveCellsWrongFalsely : Prop := fnExactMoveCellsRow.holds Try.pinned (OpenSpec.ofChange fnExactMoveCellsWrong)

/-- 'laws.FnMoveOrder': WHATEVER THE INPUT: true; the input reads as it did. -/
def fnMoveOrderSpec : ChangeSpec := { name := "fnMoveOrder", fn := fun _ => fun
  | [d] => { results := [.lit (.bool true)], args := [d] }
  | _ => none }
def fnMoveOrderRow : OpenClaim := { program := "ytldakbacfokohaa", sum := "8eaa135f76fc5fad2acfdbdc2a51f87388a23976401d86d164c414b55c7d8a83", func := "loop.example/cellcollector/laws.FnMoveOrder", spec := "fnMoveOrder", unfollowed := true, recurses := true, apart := false }
def FnMoveOrderSaid : Prop := fnMoveOrderRow.holds Try.pinned (OpenSpec.ofChange fnMoveOrderSpec)

/-- ITS FALSE NEIGHBOUR: 'it returns false'. Refute it at one input. -/
def fnMoveOrderWrong : ChangeSpec := { name := "fnMoveOrder", fn := fun _ => fun
  | [d] => { results := [.lit (.bool false)], args := [d] }
  | _ => none }
def FnMoveOrderWrongFalsely : Prop := fnMoveOrderRow.holds Try.pinned (OpenSpec.ofChange fnMoveOrderWrong)

/-- 'laws.FnCopyOrder': WHATEVER THE INPUT: true; the input reads as it did. -/
def fnCopyOrderSpec : ChangeSpec := { name := "fnCopyOrder", fn := fun _ => fun
  | [d] => { results := [.lit (.bool true)], args := [d] }
  | _ => none }
def fnCopyOrderRow : OpenClaim := { program := "ytldakbacfokohaa", sum := "8eaa135f76fc5fad2acfdbdc2a51f87388a23976401d86d164c414b55c7d8a83", func := "loop.example/cellcollector/laws.FnCopyOrder", spec := "fnCopyOrder", unfollowed := true, recurses := true, apart := false }
def FnCopyOrderSaid : Prop := fnCopyOrderRow.holds Try.pinned (OpenSpec.ofChange fnCopyOrderSpec)

/-- ITS FALSE NEIGHBOUR: 'it returns false'. Refute it at one input. -/
def fnCopyOrderWrong : ChangeSpec := { name := "fnCopyOrder", fn := fun _ => fun
  | [d] => { results := [.lit (.bool false)], args := [d] }
  | _ => none }
def FnCopyOrderWrongFalsely : Prop := fnCopyOrderRow.holds Try.pinned (OpenSpec.ofChange fnCopyOrderWrong)

/-- 'laws.FnMoveLive': WHATEVER THE INPUT: true; the input reads as it did. -/
def fnMoveLiveSpec : ChangeSpec := { name := "fnMoveLive", fn := fun _ => fun
  | [d] => { results := [.lit (.bool true)], args := [d] }
  | _ => none }
def fnMoveLiveRow : OpenClaim := { program := "ytldakbacfokohaa", sum := "8eaa135f76fc5fad2acfdbdc2a51f87388a23976401d86d164c414b55c7d8a83", func := "loop.example/cellcollector/laws.FnMoveLive", spec := "fnMoveLive", unfollowed := true, recurses := true, apart := false }
def FnMoveLiveSaid : Prop := fnMoveLiveRow.holds Try.pinned (OpenSpec.ofChange fnMoveLiveSpec)

/-- ITS FALSE NEIGHBOUR: 'it returns false'. Refute it at one input. -/
def fnMoveLiveWrong : ChangeSpec := { name := "fnMoveLive", fn := fun _ => fun
  | [d] => { results := [.lit (.bool false)], args := [d] }
  | _ => none }
def FnMoveLiveWrongFalsely : Prop := fnMoveLiveRow.holds Try.pinned (OpenSpec.ofChange fnMoveLiveWrong)

/-- 'laws.FnExactCopyHeap': WHATEVER THE INPUT: true; the input reads as it did. -/
def fnExactCopyHeapSpec : ChangeSpec := { name := "fnExactCopyHeap", fn := fun _ => fun
  | [d] => { results := [.lit (.bool true)], args := [d] }
  | _ => none }
def fnExactCopyHeapRow : OpenClaim := { program := "ytldakbacfokohaa", sum := "8eaa135f76fc5fad2acfdbdc2a51f87388a23976401d86d164c414b55c7d8a83", func := "loop.example/cellcollector/laws.FnExactCopyHeap", spec := "fnExactCopyHeap", unfollowed := true, recurses := true, apart := false }
def FnExactCopyHeapSaid : Prop := fnExactCopyHeapRow.holds Try.pinned (OpenSpec.ofChange fnExactCopyHeapSpec)

/-- ITS FALSE NEIGHBOUR: 'it returns false'. Refute it at one input. -/
def fnExactCopyHeapWrong : ChangeSpec := { name := "fnExactCopyHeap", fn := fun _ => fun
  | [d] => { results := [.lit (.bool false)], args := [d] }
  | _ => none }
def FnExactCopyHeapWrongFalsely : Prop := fnExactCopyHeapRow.holds Try.pinned (OpenSpec.ofChange fnExactCopyHeapWrong)

/-- 'laws.FnExactHeapsAlike': WHATEVER THE INPUT: true; the input reads as it did. -/
def fnExactHeapsAlikeSpec : ChangeSpec := { name := "fnExactHeapsAlike", fn := fun _ => fun
  | [d1, d2] => { results := [.lit (.bool true)], args := [d1, d2] }
  | _ => none }
def fnExactHeapsAlikeRow : OpenClaim := { program := "ytldakbacfokohaa", sum := "8eaa135f76fc5fad2acfdbdc2a51f87388a23976401d86d164c414b55c7d8a83", func := "loop.example/cellcollector/laws.FnExactHeapsAlike", spec := "fnExactHeapsAlike", unfollowed := true, recurses := true, apart := false }
def FnExactHeapsAlikeSaid : Prop := fnExactHeapsAlikeRow.holds Try.pinned (OpenSpec.ofChange fnExactHeapsAlikeSpec)

/-- ITS FALSE NEIGHBOUR: 'it returns false'. Refute it at one input. -/
def fnExactHeapsAlikeWrong : ChangeSpec := { name := "fnExactHeapsAlike", fn := fun _ => fun
  | [d1, d2] => { results := [.lit (.bool false)], args := [d1, d2] }
  | _ => none }
def FnExactHeapsAlikeWrongFalsely : Prop := fnExactHeapsAlikeRow.holds Try.pinned (OpenSpec.ofChange fnExactHeapsAlikeWrong)

/-- 'laws.FnCopyWhere': WHATEVER THE INPUT: true; the input reads as it did. -/
def fnCopyWhereSpec : ChangeSpec := { name := "fnCopyWhere", fn := fun _ => fun
  | [d] => { results := [.lit (.bool true)], args := [d] }
  | _ => none }
def fnCopyWhereRow : OpenClaim := { program := "ytldakbacfokohaa", sum := "8eaa135f76fc5fad2acfdbdc2a51f87388a23976401d86d164c414b55c7d8a83", func := "loop.example/cellcollector/laws.FnCopyWhere", spec := "fnCopyWhere", unfollowed := true, recurses := true, apart := false }
def FnCopyWhereSaid : Prop := fnCopyWhereRow.holds Try.pinned (OpenSpec.ofChange fnCopyWhereSpec)

/-- ITS FALSE NEIGHBOUR: 'it returns false'. Refute it at one input. -/
def fnCopyWhereWrong : ChangeSpec := { name := "fnCopyWhere", fn := fun _ => fun
  | [d] => { results := [.lit (.bool false)], args := [d] }
  | _ => none }
def FnCopyWhereWrongFalsely : Prop := fnCopyWhereRow.holds Try.pinned (OpenSpec.ofChange fnCopyWhereWrong)

/-- 'laws.FnCopyHeap': WHATEVER THE INPUT: true; the input reads as it did. -/
def fnCopyHeapSpec : ChangeSpec := { name := "fnCopyHeap", fn := fun _ => fun
  | [d] => { results := [.lit (.bool true)], args := [d] }
  | _ => none }
def fnCopyHeapRow : OpenClaim := { program := "ytldakbacfokohaa", sum := "8eaa135f76fc5fad2acfdbdc2a51f87388a23976401d86d164c414b55c7d8a83", func := "loop.example/cellcollector/laws.FnCopyHeap", spec := "fnCopyHeap", unfollowed := true, recurses := true, apart := false }
def FnCopyHeapSaid : Prop := fnCopyHeapRow.holds Try.pinned (OpenSpec.ofChange fnCopyHeapSpec)

/-- ITS FALSE NEIGHBOUR: 'it returns false'. Refute it at one input. -/
def fnCopyHeapWrong : ChangeSpec := { name := "fnCopyHeap", fn := fun _ => fun
  | [d] => { results := [.lit (.bool false)], args := [d] }
  | _ => none }
def FnCopyHeapWrongFalsely : Prop := fnCopyHeapRow.holds Try.pinned (OpenSpec.ofChange fnCopyHeapWrong)

/-- 'laws.FnMoveCells': WHATEVER THE INPUT: true; the input reads as it did. -/
def fnMoveCellsSpec : ChangeSpec := { name := "fnMoveCells", fn := fun _ => fun
  | [d] => { results := [.lit (.bool true)], args := [d] }
  | _ => none }
def fnMoveCellsRow : OpenClaim := { program := "ytldakbacfokohaa", sum := "8eaa135f76fc5fad2acfdbdc2a51f87388a23976401d86d164c414b55c7d8a83", func := "loop.example/cellcollector/laws.FnMoveCells", spec := "fnMoveCells", unfollowed := true, recurses := true, apart := false }
def FnMoveCellsSaid : Prop := fnMoveCellsRow.holds Try.pinned (OpenSpec.ofChange fnMoveCellsSpec)

/-- ITS FALSE NEIGHBOUR: 'it returns false'. Refute it at one input. -/
def fnMoveCellsWrong : ChangeSpec := { name := "fnMoveCells", fn := fun _ => fun
  | [d] => { results := [.lit (.bool false)], args := [d] }
  | _ => none }
def FnMoveCellsWrongFalsely : Prop := fnMoveCellsRow.holds Try.pinned (OpenSpec.ofChange fnMoveCellsWrong)

/-- 'laws.FnHeapsAlike': WHATEVER THE INPUT: true; the input reads as it did. -/
def fnHeapsAlikeSpec : ChangeSpec := { name := "fnHeapsAlike", fn := fun _ => fun
  | [d] => { results := [.lit (.bool true)], args := [d] }
  | _ => none }
def fnHeapsAlikeRow : OpenClaim := { program := "ytldakbacfokohaa", sum := "8eaa135f76fc5fad2acfdbdc2a51f87388a23976401d86d164c414b55c7d8a83", func := "loop.example/cellcollector/laws.FnHeapsAlike", spec := "fnHeapsAlike", unfollowed := true, recurses := true, apart := false }
def FnHeapsAlikeSaid : Prop := fnHeapsAlikeRow.holds Try.pinned (OpenSpec.ofChange fnHeapsAlikeSpec)

/-- ITS FALSE NEIGHBOUR: 'it returns false'. Refute it at one input. -/
def fnHeapsAlikeWrong : ChangeSpec := { name := "fnHeapsAlike", fn := fun _ => fun
  | [d] => { results := [.lit (.bool false)], args := [d] }
  | _ => none }
def FnHeapsAlikeWrongFalsely : Prop := fnHeapsAlikeRow.holds Try.pinned (OpenSpec.ofChange fnHeapsAlikeWrong)

/-- 'laws.FnCopyCount': WHATEVER THE INPUT: true; the input reads as it did. -/
def fnCopyCountSpec : ChangeSpec := { name := "fnCopyCount", fn := fun _ => fun
  | [d] => { results := [.lit (.bool true)], args := [d] }
  | _ => none }
def fnCopyCountRow : OpenClaim := { program := "ytldakbacfokohaa", sum := "8eaa135f76fc5fad2acfdbdc2a51f87388a23976401d86d164c414b55c7d8a83", func := "loop.example/cellcollector/laws.FnCopyCount", spec := "fnCopyCount", unfollowed := true, recurses := true, apart := false }
def FnCopyCountSaid : Prop := fnCopyCountRow.holds Try.pinned (OpenSpec.ofChange fnCopyCountSpec)

/-- ITS FALSE NEIGHBOUR: 'it returns false'. Refute it at one input. -/
def fnCopyCountWrong : ChangeSpec := { name := "fnCopyCount", fn := fun _ => fun
  | [d] => { results := [.lit (.bool false)], args := [d] }
  | _ => none }
def FnCopyCountWrongFalsely : Prop := fnCopyCountRow.holds Try.pinned (OpenSpec.ofChange fnCopyCountWrong)

/-- 'laws.FnAlikeCopy': WHATEVER THE INPUT: true; the input reads as it did. -/
def fnAlikeCopySpec : ChangeSpec := { name := "fnAlikeCopy", fn := fun _ => fun
  | [d] => { results := [.lit (.bool true)], args := [d] }
  | _ => none }
def fnAlikeCopyRow : OpenClaim := { program := "ytldakbacfokohaa", sum := "8eaa135f76fc5fad2acfdbdc2a51f87388a23976401d86d164c414b55c7d8a83", func := "loop.example/cellcollector/laws.FnAlikeCopy", spec := "fnAlikeCopy", unfollowed := true, recurses := true, apart := false }
def FnAlikeCopySaid : Prop := fnAlikeCopyRow.holds Try.pinned (OpenSpec.ofChange fnAlikeCopySpec)

/-- ITS FALSE NEIGHBOUR: 'it returns false'. Refute it at one input. -/
def fnAlikeCopyWrong : ChangeSpec := { name := "fnAlikeCopy", fn := fun _ => fun
  | [d] => { results := [.lit (.bool false)], args := [d] }
  | _ => none }
def FnAlikeCopyWrongFalsely : Prop := fnAlikeCopyRow.holds Try.pinned (OpenSpec.ofChange fnAlikeCopyWrong)

/-- 'laws.FnSmallCollect': WHATEVER THE INPUT: true; the input reads as it did. -/
def fnSmallCollectSpec : ChangeSpec := { name := "fnSmallCollect", fn := fun _ => fun
  | [d] => { results := [.lit (.bool true)], args := [d] }
  | _ => none }
def fnSmallCollectRow : OpenClaim := { program := "ytldakbacfokohaa", sum := "8eaa135f76fc5fad2acfdbdc2a51f87388a23976401d86d164c414b55c7d8a83", func := "loop.example/cellcollector/laws.FnSmallCollect", spec := "fnSmallCollect", unfollowed := true, recurses := true, apart := false }
def FnSmallCollectSaid : Prop := fnSmallCollectRow.holds Try.pinned (OpenSpec.ofChange fnSmallCollectSpec)

/-- ITS FALSE NEIGHBOUR: 'it returns false'. Refute it at one input. -/
def fnSmallCollectWrong : ChangeSpec := { name := "fnSmallCollect", fn := fun _ => fun
  | [d] => { results := [.lit (.bool false)], args := [d] }
  | _ => none }
def FnSmallCollectWrongFalsely : Prop := fnSmallCollectRow.holds Try.pinned (OpenSpec.ofChange fnSmallCollectWrong)

/-- 'laws.FnDropLive': WHATEVER THE INPUT: true; the input reads as it did. -/
def fnDropLiveSpec : ChangeSpec := { name := "fnDropLive", fn := fun _ => fun
  | [d] => { results := [.lit (.bool true)], args := [d] }
  | _ => none }
def fnDropLiveRow : OpenClaim := { program := "ytldakbacfokohaa", sum := "8eaa135f76fc5fad2acfdbdc2a51f87388a23976401d86d164c414b55c7d8a83", func := "loop.example/cellcollector/laws.FnDropLive", spec := "fnDropLive", unfollowed := true, recurses := true, apart := false }
def FnDropLiveSaid : Prop := fnDropLiveRow.holds Try.pinned (OpenSpec.ofChange fnDropLiveSpec)

/-- ITS FALSE NEIGHBOUR: 'it returns false'. Refute it at one input. -/
def fnDropLiveWrong : ChangeSpec := { name := "fnDropLive", fn := fun _ => fun
  | [d] => { results := [.lit (.bool false)], args := [d] }
  | _ => none }
def FnDropLiveWrongFalsely : Prop := fnDropLiveRow.holds Try.pinned (OpenSpec.ofChange fnDropLiveWrong)

/- THE SECOND FORM. 'bulk': how many values and letters a reading holds, each counted each time it is reached (what is shared counts as often as it is met; a slice's spare places count too). A statement '..UptoSaid' is the law's where the arguments, and the package variables that the reading takes, are together of bulk at most 1048576: NARROWER than '..Said'. Prove '..Said' where nothing that the law and all that it calls make is longer than what came in: it says more and counts as full. Else prove '..UptoSaid'. A law counts once. -/
mutual
def uptoBulk {H : Type} : DataW H → Nat
  | .lit (.string bytes) => bytes.length + 1
  | .lit _ => 1
  | .nil => 1
  | .ptr d => uptoBulk d + 1
  | .slice elems spare => uptoBulkAll elems + uptoBulkAll spare + 1
  | .agg parts => uptoBulkAll parts + 1
  | .iface _ d => uptoBulk d + 1
  | .map entries => uptoBulkEntries entries + 1
  | .held _ => 1
def uptoBulkAll {H : Type} : List (DataW H) → Nat
  | [] => 0
  | d :: r => uptoBulk d + uptoBulkAll r
def uptoBulkEntries {H : Type} : List (Lit × DataW H) → Nat
  | [] => 0
  | x :: r => uptoBulkEntry x + uptoBulkEntries r
def uptoBulkEntry {H : Type} : Lit × DataW H → Nat
  | (.string bytes, d) => bytes.length + uptoBulk d + 1
  | (_, d) => uptoBulk d + 1
 end
def uptoSmall : (H : Type) → List (DataW H) → Bool := fun _ ds => decide (uptoBulkAll ds ≤ 1048576)
def OpenSpec.upto (s : _root_.Go.ChangeSpec) : _root_.Go.OpenSpec := { _root_.Go.OpenSpec.ofChange s with cond := some uptoSmall }

/-- 'laws.FnExactMoveCells', WHERE WHAT IT READS IS OF BULK AT MOST 1048576: true; the input reads as it did. -/
def fnExactMoveCellsUptoRow : OpenClaim := { program := "ytldakbacfokohaa", sum := "8eaa135f76fc5fad2acfdbdc2a51f87388a23976401d86d164c414b55c7d8a83", func := "loop.example/cellcollector/laws.FnExactMoveCells", spec := "fnExactMoveCells", unfollowed := true, recurses := true, apart := false, narrowed := true }
def FnExactMoveCellsUptoSaid : Prop := fnExactMoveCellsUptoRow.holds Try.pinned (OpenSpec.upto fnExactMoveCellsSpec)

/-- 'laws.FnMoveOrder', WHERE WHAT IT READS IS OF BULK AT MOST 1048576: true; the input reads as it did. -/
def fnMoveOrderUptoRow : OpenClaim := { program := "ytldakbacfokohaa", sum := "8eaa135f76fc5fad2acfdbdc2a51f87388a23976401d86d164c414b55c7d8a83", func := "loop.example/cellcollector/laws.FnMoveOrder", spec := "fnMoveOrder", unfollowed := true, recurses := true, apart := false, narrowed := true }
def FnMoveOrderUptoSaid : Prop := fnMoveOrderUptoRow.holds Try.pinned (OpenSpec.upto fnMoveOrderSpec)

/-- 'laws.FnCopyOrder', WHERE WHAT IT READS IS OF BULK AT MOST 1048576: true; the input reads as it did. -/
def fnCopyOrderUptoRow : OpenClaim := { program := "ytldakbacfokohaa", sum := "8eaa135f76fc5fad2acfdbdc2a51f87388a23976401d86d164c414b55c7d8a83", func := "loop.example/cellcollector/laws.FnCopyOrder", spec := "fnCopyOrder", unfollowed := true, recurses := true, apart := false, narrowed := true }
def FnCopyOrderUptoSaid : Prop := fnCopyOrderUptoRow.holds Try.pinned (OpenSpec.upto fnCopyOrderSpec)

/-- 'laws.FnMoveLive', WHERE WHAT IT READS IS OF BULK AT MOST 1048576: true; the input reads as it did. -/
def fnMoveLiveUptoRow : OpenClaim := { program := "ytldakbacfokohaa", sum := "8eaa135f76fc5fad2acfdbdc2a51f87388a23976401d86d164c414b55c7d8a83", func := "loop.example/cellcollector/laws.FnMoveLive", spec := "fnMoveLive", unfollowed := true, recurses := true, apart := false, narrowed := true }
def FnMoveLiveUptoSaid : Prop := fnMoveLiveUptoRow.holds Try.pinned (OpenSpec.upto fnMoveLiveSpec)

/-- 'laws.FnExactCopyHeap', WHERE WHAT IT READS IS OF BULK AT MOST 1048576: true; the input reads as it did. -/
def fnExactCopyHeapUptoRow : OpenClaim := { program := "ytldakbacfokohaa", sum := "8eaa135f76fc5fad2acfdbdc2a51f87388a23976401d86d164c414b55c7d8a83", func := "loop.example/cellcollector/laws.FnExactCopyHeap", spec := "fnExactCopyHeap", unfollowed := true, recurses := true, apart := false, narrowed := true }
def FnExactCopyHeapUptoSaid : Prop := fnExactCopyHeapUptoRow.holds Try.pinned (OpenSpec.upto fnExactCopyHeapSpec)

/-- 'laws.FnExactHeapsAlike', WHERE WHAT IT READS IS OF BULK AT MOST 1048576: true; the input reads as it did. -/
def fnExactHeapsAlikeUptoRow : OpenClaim := { program := "ytldakbacfokohaa", sum := "8eaa135f76fc5fad2acfdbdc2a51f87388a23976401d86d164c414b55c7d8a83", func := "loop.example/cellcollector/laws.FnExactHeapsAlike", spec := "fnExactHeapsAlike", unfollowed := true, recurses := true, apart := false, narrowed := true }
def FnExactHeapsAlikeUptoSaid : Prop := fnExactHeapsAlikeUptoRow.holds Try.pinned (OpenSpec.upto fnExactHeapsAlikeSpec)

/-- 'laws.FnCopyWhere', WHERE WHAT IT READS IS OF BULK AT MOST 1048576: true; the input reads as it did. -/
def fnCopyWhereUptoRow : OpenClaim := { program := "ytldakbacfokohaa", sum := "8eaa135f76fc5fad2acfdbdc2a51f87388a23976401d86d164c414b55c7d8a83", func := "loop.example/cellcollector/laws.FnCopyWhere", spec := "fnCopyWhere", unfollowed := true, recurses := true, apart := false, narrowed := true }
def FnCopyWhereUptoSaid : Prop := fnCopyWhereUptoRow.holds Try.pinned (OpenSpec.upto fnCopyWhereSpec)

/-- 'laws.FnCopyHeap', WHERE WHAT IT READS IS OF BULK AT MOST 1048576: true; the input reads as it did. -/
def fnCopyHeapUptoRow : OpenClaim := { program := "ytldakbacfokohaa", sum := "8eaa135f76fc5fad2acfdbdc2a51f87388a23976401d86d164c414b55c7d8a83", func := "loop.example/cellcollector/laws.FnCopyHeap", spec := "fnCopyHeap", unfollowed := true, recurses := true, apart := false, narrowed := true }
def FnCopyHeapUptoSaid : Prop := fnCopyHeapUptoRow.holds Try.pinned (OpenSpec.upto fnCopyHeapSpec)

/-- 'laws.FnMoveCells', WHERE WHAT IT READS IS OF BULK AT MOST 1048576: true; the input reads as it did. -/
def fnMoveCellsUptoRow : OpenClaim := { program := "ytldakbacfokohaa", sum := "8eaa135f76fc5fad2acfdbdc2a51f87388a23976401d86d164c414b55c7d8a83", func := "loop.example/cellcollector/laws.FnMoveCells", spec := "fnMoveCells", unfollowed := true, recurses := true, apart := false, narrowed := true }
def FnMoveCellsUptoSaid : Prop := fnMoveCellsUptoRow.holds Try.pinned (OpenSpec.upto fnMoveCellsSpec)

/-- 'laws.FnHeapsAlike', WHERE WHAT IT READS IS OF BULK AT MOST 1048576: true; the input reads as it did. -/
def fnHeapsAlikeUptoRow : OpenClaim := { program := "ytldakbacfokohaa", sum := "8eaa135f76fc5fad2acfdbdc2a51f87388a23976401d86d164c414b55c7d8a83", func := "loop.example/cellcollector/laws.FnHeapsAlike", spec := "fnHeapsAlike", unfollowed := true, recurses := true, apart := false, narrowed := true }
def FnHeapsAlikeUptoSaid : Prop := fnHeapsAlikeUptoRow.holds Try.pinned (OpenSpec.upto fnHeapsAlikeSpec)

/-- 'laws.FnCopyCount', WHERE WHAT IT READS IS OF BULK AT MOST 1048576: true; the input reads as it did. -/
def fnCopyCountUptoRow : OpenClaim := { program := "ytldakbacfokohaa", sum := "8eaa135f76fc5fad2acfdbdc2a51f87388a23976401d86d164c414b55c7d8a83", func := "loop.example/cellcollector/laws.FnCopyCount", spec := "fnCopyCount", unfollowed := true, recurses := true, apart := false, narrowed := true }
def FnCopyCountUptoSaid : Prop := fnCopyCountUptoRow.holds Try.pinned (OpenSpec.upto fnCopyCountSpec)

/-- 'laws.FnAlikeCopy', WHERE WHAT IT READS IS OF BULK AT MOST 1048576: true; the input reads as it did. -/
def fnAlikeCopyUptoRow : OpenClaim := { program := "ytldakbacfokohaa", sum := "8eaa135f76fc5fad2acfdbdc2a51f87388a23976401d86d164c414b55c7d8a83", func := "loop.example/cellcollector/laws.FnAlikeCopy", spec := "fnAlikeCopy", unfollowed := true, recurses := true, apart := false, narrowed := true }
def FnAlikeCopyUptoSaid : Prop := fnAlikeCopyUptoRow.holds Try.pinned (OpenSpec.upto fnAlikeCopySpec)

/-- 'laws.FnSmallCollect', WHERE WHAT IT READS IS OF BULK AT MOST 1048576: true; the input reads as it did. -/
def fnSmallCollectUptoRow : OpenClaim := { program := "ytldakbacfokohaa", sum := "8eaa135f76fc5fad2acfdbdc2a51f87388a23976401d86d164c414b55c7d8a83", func := "loop.example/cellcollector/laws.FnSmallCollect", spec := "fnSmallCollect", unfollowed := true, recurses := true, apart := false, narrowed := true }
def FnSmallCollectUptoSaid : Prop := fnSmallCollectUptoRow.holds Try.pinned (OpenSpec.upto fnSmallCollectSpec)

/-- 'laws.FnDropLive', WHERE WHAT IT READS IS OF BULK AT MOST 1048576: true; the input reads as it did. -/
def fnDropLiveUptoRow : OpenClaim := { program := "ytldakbacfokohaa", sum := "8eaa135f76fc5fad2acfdbdc2a51f87388a23976401d86d164c414b55c7d8a83", func := "loop.example/cellcollector/laws.FnDropLive", spec := "fnDropLive", unfollowed := true, recurses := true, apart := false, narrowed := true }
def FnDropLiveUptoSaid : Prop := fnDropLiveUptoRow.holds Try.pinned (OpenSpec.upto fnDropLiveSpec)

end Rows
end Go.Proofs.Ytldakbacfokohaa
