/-
  No cell of these rows narrows 'for every input' (looked for: loops, veiled, ifaces, maps, wideKeys, modest, calm, conditions, laid).
  DERIVED. THE GIVEN ROWS OF THIS SEAT. 12 by the template 'for every input the law returns true; each argument reads behind the call as it read before'; 0 by the template 'total and deterministic' (their statements: YtmpnapfbgfpllaaTotals.lean).
  GIVEN WITH THE SEED: the statements are not yours to turn. If you find one false, say at which input.
  Laid BY PROGRAM, IN A SANDBOX (cutbox-rows.mjs): the forced cells as the released guide's own fill.sh prints them over the translation 4d3980eee484777b… (all of the seat's roots in one cut). By AI agents, Wed Nov 11 2026. No macro, syntax, notation, axiom, sorry.
-/
import Derived.Test.YtmpnapfbgfpllaaChecked
import GoSem.Claim
import GoSem.ClaimJoined
import GoSem.ClaimMapViews
import Derived.JoinedTies
import Derived.KernelRfl
namespace Go.Proofs.Ytmpnapfbgfpllaa
/- THE CELL 'sum', in the pinned program and in every row, IS THE sha256 OF THE DUMP (.gsa) THAT YtmpnapfbgfpllaaProg.lean LOADS. Nothing in Lean hashes anything: it is a label: what it is worth is what the hold of that sum in a sandbox is worth. -/
noncomputable def Try.pinned : Pinned := { name := "ytmpnapfbgfpllaa", sum := "4d3980eee484777bf45e3cbb9f5bf0647213ffa74409a939a195767697472ab0", checked := Try.checked }
namespace Rows
def none {H : Type} : Left H := { results := [], args := [] }

/-- 'laws.FnExactGensSame': WHATEVER THE INPUT: true; the input reads as it did. -/
def fnExactGensSameSpec : ChangeSpec := { name := "fnExactGensSame", fn := fun _ => fun
  | [d1, d2] => { results := [.lit (.bool true)], args := [d1, d2] }
  | _ => none }
def fnExactGensSameRow : OpenClaim := { program := "ytmpnapfbgfpllaa", sum := "4d3980eee484777bf45e3cbb9f5bf0647213ffa74409a939a195767697472ab0", func := "loop.example/cellcollector/laws.FnExactGensSame", spec := "fnExactGensSame", apart := false }
def FnExactGensSameSaid : Prop := fnExactGensSameRow.holds Try.pinned (OpenSpec.ofChange fnExactGensSameSpec)

/-- ITS FALSE NEIGHBOUR: 'it returns false'. Refute it at one input. -/
def fnExactGensSameWrong : ChangeSpec := { name := "fnExactGensSame", fn := fun _ => fun
  | [d1, d2] => { results := [.lit (.bool false)], args := [d1, d2] }
  | _ => none }
def FnExactGensSameWrongFalsely : Prop := fnExactGensSameRow.holds Try.pinned (OpenSpec.ofChange fnExactGensSameWrong)

/-- 'laws.FnRememberOld': WHATEVER THE INPUT: true; the input reads as it did. -/
def fnRememberOldSpec : ChangeSpec := { name := "fnRememberOld", fn := fun _ => fun
  | [d] => { results := [.lit (.bool true)], args := [d] }
  | _ => none }
def fnRememberOldRow : OpenClaim := { program := "ytmpnapfbgfpllaa", sum := "4d3980eee484777bf45e3cbb9f5bf0647213ffa74409a939a195767697472ab0", func := "loop.example/cellcollector/laws.FnRememberOld", spec := "fnRememberOld", unfollowed := true, recurses := true, apart := false }
def FnRememberOldSaid : Prop := fnRememberOldRow.holds Try.pinned (OpenSpec.ofChange fnRememberOldSpec)

/-- ITS FALSE NEIGHBOUR: 'it returns false'. Refute it at one input. -/
def fnRememberOldWrong : ChangeSpec := { name := "fnRememberOld", fn := fun _ => fun
  | [d] => { results := [.lit (.bool false)], args := [d] }
  | _ => none }
def FnRememberOldWrongFalsely : Prop := fnRememberOldRow.holds Try.pinned (OpenSpec.ofChange fnRememberOldWrong)

/-- 'laws.FnExactOrderOf': WHATEVER THE INPUT: true; the input reads as it did. -/
def fnExactOrderOfSpec : ChangeSpec := { name := "fnExactOrderOf", fn := fun _ => fun
  | [d] => { results := [.lit (.bool true)], args := [d] }
  | _ => none }
def fnExactOrderOfRow : OpenClaim := { program := "ytmpnapfbgfpllaa", sum := "4d3980eee484777bf45e3cbb9f5bf0647213ffa74409a939a195767697472ab0", func := "loop.example/cellcollector/laws.FnExactOrderOf", spec := "fnExactOrderOf", apart := false }
def FnExactOrderOfSaid : Prop := fnExactOrderOfRow.holds Try.pinned (OpenSpec.ofChange fnExactOrderOfSpec)

/-- ITS FALSE NEIGHBOUR: 'it returns false'. Refute it at one input. -/
def fnExactOrderOfWrong : ChangeSpec := { name := "fnExactOrderOf", fn := fun _ => fun
  | [d] => { results := [.lit (.bool false)], args := [d] }
  | _ => none }
def FnExactOrderOfWrongFalsely : Prop := fnExactOrderOfRow.holds Try.pinned (OpenSpec.ofChange fnExactOrderOfWrong)

/-- 'laws.FnOrderRoots': WHATEVER THE INPUT: true; the input reads as it did. -/
def fnOrderRootsSpec : ChangeSpec := { name := "fnOrderRoots", fn := fun _ => fun
  | [d] => { results := [.lit (.bool true)], args := [d] }
  | _ => none }
def fnOrderRootsRow : OpenClaim := { program := "ytmpnapfbgfpllaa", sum := "4d3980eee484777bf45e3cbb9f5bf0647213ffa74409a939a195767697472ab0", func := "loop.example/cellcollector/laws.FnOrderRoots", spec := "fnOrderRoots", apart := false }
def FnOrderRootsSaid : Prop := fnOrderRootsRow.holds Try.pinned (OpenSpec.ofChange fnOrderRootsSpec)

/-- ITS FALSE NEIGHBOUR: 'it returns false'. Refute it at one input. -/
def fnOrderRootsWrong : ChangeSpec := { name := "fnOrderRoots", fn := fun _ => fun
  | [d] => { results := [.lit (.bool false)], args := [d] }
  | _ => none }
def FnOrderRootsWrongFalsely : Prop := fnOrderRootsRow.holds Try.pinned (OpenSpec.ofChange fnOrderRootsWrong)

/-- 'laws.FnExactCopyStep': WHATEVER THE INPUT: true; the input reads as it did. -/
def fnExactCopyStepSpec : ChangeSpec := { name := "fnExactCopyStep", fn := fun _ => fun
  | [d1, d2, d3] => { results := [.lit (.bool true)], args := [d1, d2, d3] }
  | _ => none }
def fnExactCopyStepRow : OpenClaim := { program := "ytmpnapfbgfpllaa", sum := "4d3980eee484777bf45e3cbb9f5bf0647213ffa74409a939a195767697472ab0", func := "loop.example/cellcollector/laws.FnExactCopyStep", spec := "fnExactCopyStep", apart := false }
def FnExactCopyStepSaid : Prop := fnExactCopyStepRow.holds Try.pinned (OpenSpec.ofChange fnExactCopyStepSpec)

/-- ITS FALSE NEIGHBOUR: 'it returns false'. Refute it at one input. -/
def fnExactCopyStepWrong : ChangeSpec := { name := "fnExactCopyStep", fn := fun _ => fun
  | [d1, d2, d3] => { results := [.lit (.bool false)], args := [d1, d2, d3] }
  | _ => none }
def FnExactCopyStepWrongFalsely : Prop := fnExactCopyStepRow.holds Try.pinned (OpenSpec.ofChange fnExactCopyStepWrong)

/-- 'laws.FnGensSame': WHATEVER THE INPUT: true; the input reads as it did. -/
def fnGensSameSpec : ChangeSpec := { name := "fnGensSame", fn := fun _ => fun
  | [d] => { results := [.lit (.bool true)], args := [d] }
  | _ => none }
def fnGensSameRow : OpenClaim := { program := "ytmpnapfbgfpllaa", sum := "4d3980eee484777bf45e3cbb9f5bf0647213ffa74409a939a195767697472ab0", func := "loop.example/cellcollector/laws.FnGensSame", spec := "fnGensSame", unfollowed := true, recurses := true, apart := false }
def FnGensSameSaid : Prop := fnGensSameRow.holds Try.pinned (OpenSpec.ofChange fnGensSameSpec)

/-- ITS FALSE NEIGHBOUR: 'it returns false'. Refute it at one input. -/
def fnGensSameWrong : ChangeSpec := { name := "fnGensSame", fn := fun _ => fun
  | [d] => { results := [.lit (.bool false)], args := [d] }
  | _ => none }
def FnGensSameWrongFalsely : Prop := fnGensSameRow.holds Try.pinned (OpenSpec.ofChange fnGensSameWrong)

/-- 'laws.FnCopyStep': WHATEVER THE INPUT: true; the input reads as it did. -/
def fnCopyStepSpec : ChangeSpec := { name := "fnCopyStep", fn := fun _ => fun
  | [d] => { results := [.lit (.bool true)], args := [d] }
  | _ => none }
def fnCopyStepRow : OpenClaim := { program := "ytmpnapfbgfpllaa", sum := "4d3980eee484777bf45e3cbb9f5bf0647213ffa74409a939a195767697472ab0", func := "loop.example/cellcollector/laws.FnCopyStep", spec := "fnCopyStep", apart := false }
def FnCopyStepSaid : Prop := fnCopyStepRow.holds Try.pinned (OpenSpec.ofChange fnCopyStepSpec)

/-- ITS FALSE NEIGHBOUR: 'it returns false'. Refute it at one input. -/
def fnCopyStepWrong : ChangeSpec := { name := "fnCopyStep", fn := fun _ => fun
  | [d] => { results := [.lit (.bool false)], args := [d] }
  | _ => none }
def FnCopyStepWrongFalsely : Prop := fnCopyStepRow.holds Try.pinned (OpenSpec.ofChange fnCopyStepWrong)

/-- 'laws.FnStepMeets': WHATEVER THE INPUT: true; the input reads as it did. -/
def fnStepMeetsSpec : ChangeSpec := { name := "fnStepMeets", fn := fun _ => fun
  | [d] => { results := [.lit (.bool true)], args := [d] }
  | _ => none }
def fnStepMeetsRow : OpenClaim := { program := "ytmpnapfbgfpllaa", sum := "4d3980eee484777bf45e3cbb9f5bf0647213ffa74409a939a195767697472ab0", func := "loop.example/cellcollector/laws.FnStepMeets", spec := "fnStepMeets", apart := false }
def FnStepMeetsSaid : Prop := fnStepMeetsRow.holds Try.pinned (OpenSpec.ofChange fnStepMeetsSpec)

/-- ITS FALSE NEIGHBOUR: 'it returns false'. Refute it at one input. -/
def fnStepMeetsWrong : ChangeSpec := { name := "fnStepMeets", fn := fun _ => fun
  | [d] => { results := [.lit (.bool false)], args := [d] }
  | _ => none }
def FnStepMeetsWrongFalsely : Prop := fnStepMeetsRow.holds Try.pinned (OpenSpec.ofChange fnStepMeetsWrong)

/-- 'laws.FnExactGensValid': WHATEVER THE INPUT: true; the input reads as it did. -/
def fnExactGensValidSpec : ChangeSpec := { name := "fnExactGensValid", fn := fun _ => fun
  | [d] => { results := [.lit (.bool true)], args := [d] }
  | _ => none }
def fnExactGensValidRow : OpenClaim := { program := "ytmpnapfbgfpllaa", sum := "4d3980eee484777bf45e3cbb9f5bf0647213ffa74409a939a195767697472ab0", func := "loop.example/cellcollector/laws.FnExactGensValid", spec := "fnExactGensValid", unfollowed := true, recurses := true, apart := false }
def FnExactGensValidSaid : Prop := fnExactGensValidRow.holds Try.pinned (OpenSpec.ofChange fnExactGensValidSpec)

/-- ITS FALSE NEIGHBOUR: 'it returns false'. Refute it at one input. -/
def fnExactGensValidWrong : ChangeSpec := { name := "fnExactGensValid", fn := fun _ => fun
  | [d] => { results := [.lit (.bool false)], args := [d] }
  | _ => none }
def FnExactGensValidWrongFalsely : Prop := fnExactGensValidRow.holds Try.pinned (OpenSpec.ofChange fnExactGensValidWrong)

/-- 'laws.FnGensValid': WHATEVER THE INPUT: true; the input reads as it did. -/
def fnGensValidSpec : ChangeSpec := { name := "fnGensValid", fn := fun _ => fun
  | [d] => { results := [.lit (.bool true)], args := [d] }
  | _ => none }
def fnGensValidRow : OpenClaim := { program := "ytmpnapfbgfpllaa", sum := "4d3980eee484777bf45e3cbb9f5bf0647213ffa74409a939a195767697472ab0", func := "loop.example/cellcollector/laws.FnGensValid", spec := "fnGensValid", unfollowed := true, recurses := true, apart := false }
def FnGensValidSaid : Prop := fnGensValidRow.holds Try.pinned (OpenSpec.ofChange fnGensValidSpec)

/-- ITS FALSE NEIGHBOUR: 'it returns false'. Refute it at one input. -/
def fnGensValidWrong : ChangeSpec := { name := "fnGensValid", fn := fun _ => fun
  | [d] => { results := [.lit (.bool false)], args := [d] }
  | _ => none }
def FnGensValidWrongFalsely : Prop := fnGensValidRow.holds Try.pinned (OpenSpec.ofChange fnGensValidWrong)

/-- 'laws.FnExactNewGens': WHATEVER THE INPUT: true; the input reads as it did. -/
def fnExactNewGensSpec : ChangeSpec := { name := "fnExactNewGens", fn := fun _ => fun
  | [d] => { results := [.lit (.bool true)], args := [d] }
  | _ => none }
def fnExactNewGensRow : OpenClaim := { program := "ytmpnapfbgfpllaa", sum := "4d3980eee484777bf45e3cbb9f5bf0647213ffa74409a939a195767697472ab0", func := "loop.example/cellcollector/laws.FnExactNewGens", spec := "fnExactNewGens", apart := false }
def FnExactNewGensSaid : Prop := fnExactNewGensRow.holds Try.pinned (OpenSpec.ofChange fnExactNewGensSpec)

/-- ITS FALSE NEIGHBOUR: 'it returns false'. Refute it at one input. -/
def fnExactNewGensWrong : ChangeSpec := { name := "fnExactNewGens", fn := fun _ => fun
  | [d] => { results := [.lit (.bool false)], args := [d] }
  | _ => none }
def FnExactNewGensWrongFalsely : Prop := fnExactNewGensRow.holds Try.pinned (OpenSpec.ofChange fnExactNewGensWrong)

/-- 'laws.FnPutGens': WHATEVER THE INPUT: true; the input reads as it did. -/
def fnPutGensSpec : ChangeSpec := { name := "fnPutGens", fn := fun _ => fun
  | [d] => { results := [.lit (.bool true)], args := [d] }
  | _ => none }
def fnPutGensRow : OpenClaim := { program := "ytmpnapfbgfpllaa", sum := "4d3980eee484777bf45e3cbb9f5bf0647213ffa74409a939a195767697472ab0", func := "loop.example/cellcollector/laws.FnPutGens", spec := "fnPutGens", unfollowed := true, recurses := true, apart := false }
def FnPutGensSaid : Prop := fnPutGensRow.holds Try.pinned (OpenSpec.ofChange fnPutGensSpec)

/-- ITS FALSE NEIGHBOUR: 'it returns false'. Refute it at one input. -/
def fnPutGensWrong : ChangeSpec := { name := "fnPutGens", fn := fun _ => fun
  | [d] => { results := [.lit (.bool false)], args := [d] }
  | _ => none }
def FnPutGensWrongFalsely : Prop := fnPutGensRow.holds Try.pinned (OpenSpec.ofChange fnPutGensWrong)

/- THE SECOND FORM. 'bulk': how many values and letters a reading holds, each counted each time it is reached (what is shared counts as often as it is met; a slice's spare places count too). A statement '..UptoSaid' is the law's where the arguments, and the package variables that the reading takes, are together of bulk at most 1048576: NARROWER than '..Said'. Prove '..Said' where nothing that the law and all that it calls make is longer than what came in: it says more and counts as full. Else prove '..UptoSaid'. A law counts once. -/
mutual
def uptoBulk {H : Type} : DataW H → Nat
  | .lit (.string bytes) => bytes.length + 1
  | .lit _ => 1
  | .nil => 1
  | .ptr d => uptoBulk d + 1
  | .slice elems spare => uptoBulkAll elems + uptoBulkAll spare + 1
  | .agg parts => uptoBulkAll parts + 1
  | .iface _ d => uptoBulk d + 1
  | .map entries => uptoBulkEntries entries + 1
  | .held _ => 1
def uptoBulkAll {H : Type} : List (DataW H) → Nat
  | [] => 0
  | d :: r => uptoBulk d + uptoBulkAll r
def uptoBulkEntries {H : Type} : List (Lit × DataW H) → Nat
  | [] => 0
  | x :: r => uptoBulkEntry x + uptoBulkEntries r
def uptoBulkEntry {H : Type} : Lit × DataW H → Nat
  | (.string bytes, d) => bytes.length + uptoBulk d + 1
  | (_, d) => uptoBulk d + 1
 end
def uptoSmall : (H : Type) → List (DataW H) → Bool := fun _ ds => decide (uptoBulkAll ds ≤ 1048576)
def OpenSpec.upto (s : _root_.Go.ChangeSpec) : _root_.Go.OpenSpec := { _root_.Go.OpenSpec.ofChange s with cond := some uptoSmall }

/-- 'laws.FnExactGensSame', WHERE WHAT IT READS IS OF BULK AT MOST 1048576: true; the input reads as it did. -/
def fnExactGensSameUptoRow : OpenClaim := { program := "ytmpnapfbgfpllaa", sum := "4d3980eee484777bf45e3cbb9f5bf0647213ffa74409a939a195767697472ab0", func := "loop.example/cellcollector/laws.FnExactGensSame", spec := "fnExactGensSame", apart := false, narrowed := true }
def FnExactGensSameUptoSaid : Prop := fnExactGensSameUptoRow.holds Try.pinned (OpenSpec.upto fnExactGensSameSpec)

/-- 'laws.FnRememberOld', WHERE WHAT IT READS IS OF BULK AT MOST 1048576: true; the input reads as it did. -/
def fnRememberOldUptoRow : OpenClaim := { program := "ytmpnapfbgfpllaa", sum := "4d3980eee484777bf45e3cbb9f5bf0647213ffa74409a939a195767697472ab0", func := "loop.example/cellcollector/laws.FnRememberOld", spec := "fnRememberOld", unfollowed := true, recurses := true, apart := false, narrowed := true }
def FnRememberOldUptoSaid : Prop := fnRememberOldUptoRow.holds Try.pinned (OpenSpec.upto fnRememberOldSpec)

/-- 'laws.FnExactOrderOf', WHERE WHAT IT READS IS OF BULK AT MOST 1048576: true; the input reads as it did. -/
def fnExactOrderOfUptoRow : OpenClaim := { program := "ytmpnapfbgfpllaa", sum := "4d3980eee484777bf45e3cbb9f5bf0647213ffa74409a939a195767697472ab0", func := "loop.example/cellcollector/laws.FnExactOrderOf", spec := "fnExactOrderOf", apart := false, narrowed := true }
def FnExactOrderOfUptoSaid : Prop := fnExactOrderOfUptoRow.holds Try.pinned (OpenSpec.upto fnExactOrderOfSpec)

/-- 'laws.FnOrderRoots', WHERE WHAT IT READS IS OF BULK AT MOST 1048576: true; the input reads as it did. -/
def fnOrderRootsUptoRow : OpenClaim := { program := "ytmpnapfbgfpllaa", sum := "4d3980eee484777bf45e3cbb9f5bf0647213ffa74409a939a195767697472ab0", func := "loop.example/cellcollector/laws.FnOrderRoots", spec := "fnOrderRoots", apart := false, narrowed := true }
def FnOrderRootsUptoSaid : Prop := fnOrderRootsUptoRow.holds Try.pinned (OpenSpec.upto fnOrderRootsSpec)

/-- 'laws.FnExactCopyStep', WHERE WHAT IT READS IS OF BULK AT MOST 1048576: true; the input reads as it did. -/
def fnExactCopyStepUptoRow : OpenClaim := { program := "ytmpnapfbgfpllaa", sum := "4d3980eee484777bf45e3cbb9f5bf0647213ffa74409a939a195767697472ab0", func := "loop.example/cellcollector/laws.FnExactCopyStep", spec := "fnExactCopyStep", apart := false, narrowed := true }
def FnExactCopyStepUptoSaid : Prop := fnExactCopyStepUptoRow.holds Try.pinned (OpenSpec.upto fnExactCopyStepSpec)

/-- 'laws.FnGensSame', WHERE WHAT IT READS IS OF BULK AT MOST 1048576: true; the input reads as it did. -/
def fnGensSameUptoRow : OpenClaim := { program := "ytmpnapfbgfpllaa", sum := "4d3980eee484777bf45e3cbb9f5bf0647213ffa74409a939a195767697472ab0", func := "loop.example/cellcollector/laws.FnGensSame", spec := "fnGensSame", unfollowed := true, recurses := true, apart := false, narrowed := true }
def FnGensSameUptoSaid : Prop := fnGensSameUptoRow.holds Try.pinned (OpenSpec.upto fnGensSameSpec)

/-- 'laws.FnCopyStep', WHERE WHAT IT READS IS OF BULK AT MOST 1048576: true; the input reads as it did. -/
def fnCopyStepUptoRow : OpenClaim := { program := "ytmpnapfbgfpllaa", sum := "4d3980eee484777bf45e3cbb9f5bf0647213ffa74409a939a195767697472ab0", func := "loop.example/cellcollector/laws.FnCopyStep", spec := "fnCopyStep", apart := false, narrowed := true }
def FnCopyStepUptoSaid : Prop := fnCopyStepUptoRow.holds Try.pinned (OpenSpec.upto fnCopyStepSpec)

/-- 'laws.FnStepMeets', WHERE WHAT IT READS IS OF BULK AT MOST 1048576: true; the input reads as it did. -/
def fnStepMeetsUptoRow : OpenClaim := { program := "ytmpnapfbgfpllaa", sum := "4d3980eee484777bf45e3cbb9f5bf0647213ffa74409a939a195767697472ab0", func := "loop.example/cellcollector/laws.FnStepMeets", spec := "fnStepMeets", apart := false, narrowed := true }
def FnStepMeetsUptoSaid : Prop := fnStepMeetsUptoRow.holds Try.pinned (OpenSpec.upto fnStepMeetsSpec)

/-- 'laws.FnExactGensValid', WHERE WHAT IT READS IS OF BULK AT MOST 1048576: true; the input reads as it did. -/
def fnExactGensValidUptoRow : OpenClaim := { program := "ytmpnapfbgfpllaa", sum := "4d3980eee484777bf45e3cbb9f5bf0647213ffa74409a939a195767697472ab0", func := "loop.example/cellcollector/laws.FnExactGensValid", spec := "fnExactGensValid", unfollowed := true, recurses := true, apart := false, narrowed := true }
def FnExactGensValidUptoSaid : Prop := fnExactGensValidUptoRow.holds Try.pinned (OpenSpec.upto fnExactGensValidSpec)

/-- 'laws.FnGensValid', WHERE WHAT IT READS IS OF BULK AT MOST 1048576: true; the input reads as it did. -/
def fnGensValidUptoRow : OpenClaim := { program := "ytmpnapfbgfpllaa", sum := "4d3980eee484777bf45e3cbb9f5bf0647213ffa74409a939a195767697472ab0", func := "loop.example/cellcollector/laws.FnGensValid", spec := "fnGensValid", unfollowed := true, recurses := true, apart := false, narrowed := true }
def FnGensValidUptoSaid : Prop := fnGensValidUptoRow.holds Try.pinned (OpenSpec.upto fnGensValidSpec)

/-- 'laws.FnExactNewGens', WHERE WHAT IT READS IS OF BULK AT MOST 1048576: true; the input reads as it did. -/
def fnExactNewGensUptoRow : OpenClaim := { program := "ytmpnapfbgfpllaa", sum := "4d3980eee484777bf45e3cbb9f5bf0647213ffa74409a939a195767697472ab0", func := "loop.example/cellcollector/laws.FnExactNewGens", spec := "fnExactNewGens", apart := false, narrowed := true }
def FnExactNewGensUptoSaid : Prop := fnExactNewGensUptoRow.holds Try.pinned (OpenSpec.upto fnExactNewGensSpec)

/-- 'laws.FnPutGens', WHERE WHAT IT READS IS OF BULK AT MOST 1048576: true; the input reads as it did. -/
def fnPutGensUptoRow : OpenClaim := { program := "ytmpnapfbgfpllaa", sum := "4d3980eee484777bf45e3cbb9f5bf0647213ffa74409a939a195767697472ab0", func := "loop.example/cellcollector/laws.FnPutGens", spec := "fnPutGens", unfollowed := true, recurses := true, apart := false, narrowed := true }
def FnPutGensUptoSaid : Prop := fnPutGensUptoRow.holds Try.pinned (OpenSpec.upto fnPutGensSpec)

end Rows
end Go.Proofs.Ytmpnapfbgfpllaa
