/-
  NARROWER THAN 'FOR EVERY INPUT', by the rows' own cells (each row's printed sentence says how): FnShortLoss: laid · FnCanLose: laid · FnEndStores: laid · FnExactEndStores: laid · FnEverySchedule: laid · FnEndBarrier: laid · FnEndRun: laid.
  DERIVED. THE GIVEN ROWS OF THIS SEAT. 7 by the template 'for every input the law returns true; each argument reads behind the call as it read before'; 0 by the template 'total and deterministic' (their statements: YtheldhohhpoloaaGreatDoorTotals.lean).
  GIVEN WITH THE SEED: the statements are not yours to turn. If you find one false, say at which input.
  Laid BY PROGRAM, IN A SANDBOX (cutbox-rows.mjs): the forced cells as the released guide's own fill.sh prints them over the translation 173f5439157b14c8… (all of the seat's roots in one cut). By AI agents, Wed Nov 11 2026. No macro, syntax, notation, axiom, sorry.
-/
import Derived.Test.YtheldhohhpoloaaGreatDoorChecked
import GoSem.PinnedTables
import GoSem.Claim
import GoSem.ClaimJoined
import GoSem.ClaimMapViews
import Derived.JoinedTies
import Derived.KernelRfl
namespace Go.Proofs.YtheldhohhpoloaaGreatDoor
/- THE CELL 'sum', in the pinned program and in every row, IS THE sha256 OF THE DUMP (.gsa) THAT YtheldhohhpoloaaGreatDoorProg.lean LOADS. Nothing in Lean hashes anything: it is a label: what it is worth is what the hold of that sum in a sandbox is worth. -/
noncomputable def Tryz.pinned : Pinned := { name := "ytheldhohhpoloaagreatdoor", sum := "173f5439157b14c89a4ae72ed0692af179dc56bb1ba98c7b59a8290d0b3ecd9e", checked := Tryz.checked }
namespace Rows
def none {H : Type} : Left H := { results := [], args := [] }

/- WHAT THE LISTED PACKAGE-LEVEL VARIABLES READ AS WHEN THE CALL BEGINS. Each datum BY PROGRAM (the guide's laid-datum.mjs) off the statement by which the dump's own 'gosem.cut.vars' lays the variable. In a bare row this is a premise. The card (YtheldhohhpoloaaGreatDoorCards.lean) ties it to the program's text. -/
def laid_math_bits_deBruijn32tab {H : Type} : DataW H := .agg [.lit (.int .u8 0), .lit (.int .u8 1), .lit (.int .u8 28), .lit (.int .u8 2), .lit (.int .u8 29), .lit (.int .u8 14), .lit (.int .u8 24), .lit (.int .u8 3), .lit (.int .u8 30), .lit (.int .u8 22), .lit (.int .u8 20), .lit (.int .u8 15), .lit (.int .u8 25), .lit (.int .u8 17), .lit (.int .u8 4), .lit (.int .u8 8), .lit (.int .u8 31), .lit (.int .u8 27), .lit (.int .u8 13), .lit (.int .u8 23), .lit (.int .u8 21), .lit (.int .u8 19), .lit (.int .u8 16), .lit (.int .u8 7), .lit (.int .u8 26), .lit (.int .u8 12), .lit (.int .u8 18), .lit (.int .u8 6), .lit (.int .u8 11), .lit (.int .u8 5), .lit (.int .u8 10), .lit (.int .u8 9)]
def laid_math_bits_deBruijn64tab {H : Type} : DataW H := .agg [.lit (.int .u8 0), .lit (.int .u8 1), .lit (.int .u8 56), .lit (.int .u8 2), .lit (.int .u8 57), .lit (.int .u8 49), .lit (.int .u8 28), .lit (.int .u8 3), .lit (.int .u8 61), .lit (.int .u8 58), .lit (.int .u8 42), .lit (.int .u8 50), .lit (.int .u8 38), .lit (.int .u8 29), .lit (.int .u8 17), .lit (.int .u8 4), .lit (.int .u8 62), .lit (.int .u8 47), .lit (.int .u8 59), .lit (.int .u8 36), .lit (.int .u8 45), .lit (.int .u8 43), .lit (.int .u8 51), .lit (.int .u8 22), .lit (.int .u8 53), .lit (.int .u8 39), .lit (.int .u8 33), .lit (.int .u8 30), .lit (.int .u8 24), .lit (.int .u8 18), .lit (.int .u8 12), .lit (.int .u8 5), .lit (.int .u8 63), .lit (.int .u8 55), .lit (.int .u8 48), .lit (.int .u8 27), .lit (.int .u8 60), .lit (.int .u8 41), .lit (.int .u8 37), .lit (.int .u8 16), .lit (.int .u8 46), .lit (.int .u8 35), .lit (.int .u8 44), .lit (.int .u8 21), .lit (.int .u8 52), .lit (.int .u8 32), .lit (.int .u8 23), .lit (.int .u8 11), .lit (.int .u8 54), .lit (.int .u8 26), .lit (.int .u8 40), .lit (.int .u8 15), .lit (.int .u8 34), .lit (.int .u8 20), .lit (.int .u8 31), .lit (.int .u8 10), .lit (.int .u8 25), .lit (.int .u8 14), .lit (.int .u8 19), .lit (.int .u8 9), .lit (.int .u8 13), .lit (.int .u8 8), .lit (.int .u8 7), .lit (.int .u8 6)]
def laid_internal_strconv_uint64pow10 {H : Type} : DataW H := .agg [.lit (.int .u64 1), .lit (.int .u64 10), .lit (.int .u64 100), .lit (.int .u64 1000), .lit (.int .u64 10000), .lit (.int .u64 100000), .lit (.int .u64 1000000), .lit (.int .u64 10000000), .lit (.int .u64 100000000), .lit (.int .u64 1000000000), .lit (.int .u64 10000000000), .lit (.int .u64 100000000000), .lit (.int .u64 1000000000000), .lit (.int .u64 10000000000000), .lit (.int .u64 100000000000000), .lit (.int .u64 1000000000000000), .lit (.int .u64 10000000000000000), .lit (.int .u64 100000000000000000), .lit (.int .u64 1000000000000000000), .lit (.int .u64 10000000000000000000)]
def laid_unicode_utf8_acceptRanges {H : Type} : DataW H := .agg [.agg [.lit (.int .u8 128), .lit (.int .u8 191)], .agg [.lit (.int .u8 160), .lit (.int .u8 191)], .agg [.lit (.int .u8 128), .lit (.int .u8 159)], .agg [.lit (.int .u8 144), .lit (.int .u8 191)], .agg [.lit (.int .u8 128), .lit (.int .u8 143)], .agg [.lit (.int .u8 0), .lit (.int .u8 0)], .agg [.lit (.int .u8 0), .lit (.int .u8 0)], .agg [.lit (.int .u8 0), .lit (.int .u8 0)], .agg [.lit (.int .u8 0), .lit (.int .u8 0)], .agg [.lit (.int .u8 0), .lit (.int .u8 0)], .agg [.lit (.int .u8 0), .lit (.int .u8 0)], .agg [.lit (.int .u8 0), .lit (.int .u8 0)], .agg [.lit (.int .u8 0), .lit (.int .u8 0)], .agg [.lit (.int .u8 0), .lit (.int .u8 0)], .agg [.lit (.int .u8 0), .lit (.int .u8 0)], .agg [.lit (.int .u8 0), .lit (.int .u8 0)]]
/-- One of Go's own tables, pinned by name: the form's constant. -/
def laid_unicode_utf8_first : DataW Unit := Go.Pinned.utf8First
def laid_loop_example_cellcollector_impl_opWords {H : Type} : DataW H := .agg [.lit (.string []), .lit (.string [110, 101, 119]), .lit (.string [99, 111, 112, 121]), .lit (.string [108, 101, 102, 116]), .lit (.string [114, 105, 103, 104, 116]), .lit (.string [112, 117, 116, 108, 101, 102, 116]), .lit (.string [112, 117, 116, 114, 105, 103, 104, 116]), .lit (.string [99, 108, 101, 97, 114])]

/-- 'laws.FnShortLoss': WHATEVER THE INPUT: true; the input reads as it did. -/
def fnShortLossSpec : ChangeSpec := { name := "fnShortLoss", fn := fun _ => fun
  | [d] => { results := [.lit (.bool true)], args := [d] }
  | _ => none }
def fnShortLossRow : OpenClaim := { program := "ytheldhohhpoloaagreatdoor", sum := "173f5439157b14c89a4ae72ed0692af179dc56bb1ba98c7b59a8290d0b3ecd9e", func := "loop.example/cellcollector/laws.FnShortLoss", spec := "fnShortLoss", inPlace := ["internal/bytealg.IndexByteString", "internal/bytealg.IndexString"], unfollowed := true, recurses := true, named := ["internal/strconv.uint64pow10", "math/bits.deBruijn32tab", "math/bits.deBruijn64tab", "unicode/utf8.first", "unicode/utf8.acceptRanges", "internal/bytealg.MaxLen"], apart := false, laid := [("math/bits.deBruijn32tab", laid_math_bits_deBruijn32tab), ("math/bits.deBruijn64tab", laid_math_bits_deBruijn64tab), ("internal/strconv.uint64pow10", laid_internal_strconv_uint64pow10), ("unicode/utf8.acceptRanges", laid_unicode_utf8_acceptRanges), ("unicode/utf8.first", laid_unicode_utf8_first)] }
def FnShortLossSaid : Prop := fnShortLossRow.holds Tryz.pinned (OpenSpec.ofChange fnShortLossSpec)

/-- ITS FALSE NEIGHBOUR: 'it returns false'. Refute it at one input. -/
def fnShortLossWrong : ChangeSpec := { name := "fnShortLoss", fn := fun _ => fun
  | [d] => { results := [.lit (.bool false)], args := [d] }
  | _ => none }
def FnShortLossWrongFalsely : Prop := fnShortLossRow.holds Tryz.pinned (OpenSpec.ofChange fnShortLossWrong)

/-- 'laws.FnCanLose': WHATEVER THE INPUT: true; the input reads as it did. -/
def fnCanLoseSpec : ChangeSpec := { name := "fnCanLose", fn := fun _ => fun
  | [d] => { results := [.lit (.bool true)], args := [d] }
  | _ => none }
def fnCanLoseRow : OpenClaim := { program := "ytheldhohhpoloaagreatdoor", sum := "173f5439157b14c89a4ae72ed0692af179dc56bb1ba98c7b59a8290d0b3ecd9e", func := "loop.example/cellcollector/laws.FnCanLose", spec := "fnCanLose", inPlace := ["internal/bytealg.IndexByteString", "internal/bytealg.IndexString"], unfollowed := true, recurses := true, named := ["internal/strconv.uint64pow10", "math/bits.deBruijn32tab", "math/bits.deBruijn64tab", "unicode/utf8.first", "unicode/utf8.acceptRanges", "internal/bytealg.MaxLen"], apart := false, laid := [("math/bits.deBruijn32tab", laid_math_bits_deBruijn32tab), ("math/bits.deBruijn64tab", laid_math_bits_deBruijn64tab), ("internal/strconv.uint64pow10", laid_internal_strconv_uint64pow10), ("unicode/utf8.acceptRanges", laid_unicode_utf8_acceptRanges), ("unicode/utf8.first", laid_unicode_utf8_first)] }
def FnCanLoseSaid : Prop := fnCanLoseRow.holds Tryz.pinned (OpenSpec.ofChange fnCanLoseSpec)

/-- ITS FALSE NEIGHBOUR: 'it returns false'. Refute it at one input. -/
def fnCanLoseWrong : ChangeSpec := { name := "fnCanLose", fn := fun _ => fun
  | [d] => { results := [.lit (.bool false)], args := [d] }
  | _ => none }
def FnCanLoseWrongFalsely : Prop := fnCanLoseRow.holds Tryz.pinned (OpenSpec.ofChange fnCanLoseWrong)

/-- 'laws.FnEndStores': WHATEVER THE INPUT: true; the input reads as it did. -/
def fnEndStoresSpec : ChangeSpec := { name := "fnEndStores", fn := fun _ => fun
  | [d] => { results := [.lit (.bool true)], args := [d] }
  | _ => none }
def fnEndStoresRow : OpenClaim := { program := "ytheldhohhpoloaagreatdoor", sum := "173f5439157b14c89a4ae72ed0692af179dc56bb1ba98c7b59a8290d0b3ecd9e", func := "loop.example/cellcollector/laws.FnEndStores", spec := "fnEndStores", unfollowed := true, recurses := true, named := ["internal/strconv.uint64pow10", "math/bits.deBruijn32tab", "math/bits.deBruijn64tab"], apart := false, laid := [("math/bits.deBruijn32tab", laid_math_bits_deBruijn32tab), ("math/bits.deBruijn64tab", laid_math_bits_deBruijn64tab), ("internal/strconv.uint64pow10", laid_internal_strconv_uint64pow10)] }
def FnEndStoresSaid : Prop := fnEndStoresRow.holds Tryz.pinned (OpenSpec.ofChange fnEndStoresSpec)

/-- ITS FALSE NEIGHBOUR: 'it returns false'. Refute it at one input. -/
def fnEndStoresWrong : ChangeSpec := { name := "fnEndStores", fn := fun _ => fun
  | [d] => { results := [.lit (.bool false)], args := [d] }
  | _ => none }
def FnEndStoresWrongFalsely : Prop := fnEndStoresRow.holds Tryz.pinned (OpenSpec.ofChange fnEndStoresWrong)

/-- 'laws.FnExactEndStores': WHATEVER THE INPUT: true; the input reads as it did. -/
def fnExactEndStoresSpec : ChangeSpec := { name := "fnExactEndStores", fn := fun _ => fun
  | [d1, d2] => { results := [.lit (.bool true)], args := [d1, d2] }
  | _ => none }
def fnExactEndStoresRow : OpenClaim := { program := "ytheldhohhpoloaagreatdoor", sum := "173f5439157b14c89a4ae72ed0692af179dc56bb1ba98c7b59a8290d0b3ecd9e", func := "loop.example/cellcollector/laws.FnExactEndStores", spec := "fnExactEndStores", unfollowed := true, recurses := true, named := ["internal/strconv.uint64pow10", "math/bits.deBruijn32tab", "math/bits.deBruijn64tab"], apart := false, laid := [("math/bits.deBruijn32tab", laid_math_bits_deBruijn32tab), ("math/bits.deBruijn64tab", laid_math_bits_deBruijn64tab), ("internal/strconv.uint64pow10", laid_internal_strconv_uint64pow10)] }
def FnExactEndStoresSaid : Prop := fnExactEndStoresRow.holds Tryz.pinned (OpenSpec.ofChange fnExactEndStoresSpec)

/-- ITS FALSE NEIGHBOUR: 'it returns false'. Refute it at one input. -/
def fnExactEndStoresWrong : ChangeSpec := { name := "fnExactEndStores", fn := fun _ => fun
  | [d1, d2] => { results := [.lit (.bool false)], args := [d1, d2] }
  | _ => none }
def FnExactEndStoresWrongFalsely : Prop := fnExactEndStoresRow.holds Tryz.pinned (OpenSpec.ofChange fnExactEndStoresWrong)

/-- 'laws.FnEverySchedule': WHATEVER THE INPUT: true; the input reads as it did. -/
def fnEveryScheduleSpec : ChangeSpec := { name := "fnEverySchedule", vars := ["loop.example/cellcollector/impl.opWords"], fn := fun _ => fun
  | [d1, d2, d3, g1] => { results := [.lit (.bool true)], args := [d1, d2, d3], vars := [g1] }
  | _ => none }
def fnEveryScheduleRow : OpenClaim := { program := "ytheldhohhpoloaagreatdoor", sum := "173f5439157b14c89a4ae72ed0692af179dc56bb1ba98c7b59a8290d0b3ecd9e", func := "loop.example/cellcollector/laws.FnEverySchedule", spec := "fnEverySchedule", inPlace := ["internal/bytealg.CountString", "internal/bytealg.IndexByteString", "internal/bytealg.IndexString", "internal/abi.NoEscape", "internal/bytealg.MakeNoZero"], unfollowed := true, recurses := true, named := ["unicode/utf8.first", "unicode/utf8.acceptRanges", "internal/bytealg.MaxLen", "internal/strconv.uint64pow10", "math/bits.deBruijn32tab", "math/bits.deBruijn64tab", "loop.example/cellcollector/impl.opWords"], apart := false, laid := [("math/bits.deBruijn32tab", laid_math_bits_deBruijn32tab), ("math/bits.deBruijn64tab", laid_math_bits_deBruijn64tab), ("internal/strconv.uint64pow10", laid_internal_strconv_uint64pow10), ("unicode/utf8.acceptRanges", laid_unicode_utf8_acceptRanges), ("loop.example/cellcollector/impl.opWords", laid_loop_example_cellcollector_impl_opWords), ("unicode/utf8.first", laid_unicode_utf8_first)] }
def FnEveryScheduleSaid : Prop := fnEveryScheduleRow.holds Tryz.pinned (OpenSpec.ofChange fnEveryScheduleSpec)

/-- ITS FALSE NEIGHBOUR: 'it returns false'. Refute it at one input. -/
def fnEveryScheduleWrong : ChangeSpec := { name := "fnEverySchedule", vars := ["loop.example/cellcollector/impl.opWords"], fn := fun _ => fun
  | [d1, d2, d3, g1] => { results := [.lit (.bool false)], args := [d1, d2, d3], vars := [g1] }
  | _ => none }
def FnEveryScheduleWrongFalsely : Prop := fnEveryScheduleRow.holds Tryz.pinned (OpenSpec.ofChange fnEveryScheduleWrong)

/-- 'laws.FnEndBarrier': WHATEVER THE INPUT: true; the input reads as it did. -/
def fnEndBarrierSpec : ChangeSpec := { name := "fnEndBarrier", fn := fun _ => fun
  | [d] => { results := [.lit (.bool true)], args := [d] }
  | _ => none }
def fnEndBarrierRow : OpenClaim := { program := "ytheldhohhpoloaagreatdoor", sum := "173f5439157b14c89a4ae72ed0692af179dc56bb1ba98c7b59a8290d0b3ecd9e", func := "loop.example/cellcollector/laws.FnEndBarrier", spec := "fnEndBarrier", inPlace := ["internal/bytealg.CountString", "internal/bytealg.IndexByteString", "internal/bytealg.IndexString"], unfollowed := true, recurses := true, named := ["internal/strconv.uint64pow10", "math/bits.deBruijn32tab", "math/bits.deBruijn64tab", "unicode/utf8.first", "unicode/utf8.acceptRanges", "internal/bytealg.MaxLen"], apart := false, laid := [("math/bits.deBruijn32tab", laid_math_bits_deBruijn32tab), ("math/bits.deBruijn64tab", laid_math_bits_deBruijn64tab), ("internal/strconv.uint64pow10", laid_internal_strconv_uint64pow10), ("unicode/utf8.acceptRanges", laid_unicode_utf8_acceptRanges), ("unicode/utf8.first", laid_unicode_utf8_first)] }
def FnEndBarrierSaid : Prop := fnEndBarrierRow.holds Tryz.pinned (OpenSpec.ofChange fnEndBarrierSpec)

/-- ITS FALSE NEIGHBOUR: 'it returns false'. Refute it at one input. -/
def fnEndBarrierWrong : ChangeSpec := { name := "fnEndBarrier", fn := fun _ => fun
  | [d] => { results := [.lit (.bool false)], args := [d] }
  | _ => none }
def FnEndBarrierWrongFalsely : Prop := fnEndBarrierRow.holds Tryz.pinned (OpenSpec.ofChange fnEndBarrierWrong)

/-- 'laws.FnEndRun': WHATEVER THE INPUT: true; the input reads as it did. -/
def fnEndRunSpec : ChangeSpec := { name := "fnEndRun", fn := fun _ => fun
  | [d] => { results := [.lit (.bool true)], args := [d] }
  | _ => none }
def fnEndRunRow : OpenClaim := { program := "ytheldhohhpoloaagreatdoor", sum := "173f5439157b14c89a4ae72ed0692af179dc56bb1ba98c7b59a8290d0b3ecd9e", func := "loop.example/cellcollector/laws.FnEndRun", spec := "fnEndRun", inPlace := ["internal/bytealg.IndexByteString", "internal/bytealg.IndexString"], unfollowed := true, recurses := true, named := ["internal/strconv.uint64pow10", "math/bits.deBruijn32tab", "math/bits.deBruijn64tab", "unicode/utf8.first", "unicode/utf8.acceptRanges", "internal/bytealg.MaxLen"], apart := false, laid := [("math/bits.deBruijn32tab", laid_math_bits_deBruijn32tab), ("math/bits.deBruijn64tab", laid_math_bits_deBruijn64tab), ("internal/strconv.uint64pow10", laid_internal_strconv_uint64pow10), ("unicode/utf8.acceptRanges", laid_unicode_utf8_acceptRanges), ("unicode/utf8.first", laid_unicode_utf8_first)] }
def FnEndRunSaid : Prop := fnEndRunRow.holds Tryz.pinned (OpenSpec.ofChange fnEndRunSpec)

/-- ITS FALSE NEIGHBOUR: 'it returns false'. Refute it at one input. -/
def fnEndRunWrong : ChangeSpec := { name := "fnEndRun", fn := fun _ => fun
  | [d] => { results := [.lit (.bool false)], args := [d] }
  | _ => none }
def FnEndRunWrongFalsely : Prop := fnEndRunRow.holds Tryz.pinned (OpenSpec.ofChange fnEndRunWrong)

/- THE SECOND FORM. 'bulk': how many values and letters a reading holds, each counted each time it is reached (what is shared counts as often as it is met; a slice's spare places count too). A statement '..UptoSaid' is the law's where the arguments, and the package variables that the reading takes, are together of bulk at most 1048576: NARROWER than '..Said'. Prove '..Said' where nothing that the law and all that it calls make is longer than what came in: it says more and counts as full. Else prove '..UptoSaid'. A law counts once. -/
mutual
def uptoBulk {H : Type} : DataW H → Nat
  | .lit (.string bytes) => bytes.length + 1
  | .lit _ => 1
  | .nil => 1
  | .ptr d => uptoBulk d + 1
  | .slice elems spare => uptoBulkAll elems + uptoBulkAll spare + 1
  | .agg parts => uptoBulkAll parts + 1
  | .iface _ d => uptoBulk d + 1
  | .map entries => uptoBulkEntries entries + 1
  | .held _ => 1
def uptoBulkAll {H : Type} : List (DataW H) → Nat
  | [] => 0
  | d :: r => uptoBulk d + uptoBulkAll r
def uptoBulkEntries {H : Type} : List (Lit × DataW H) → Nat
  | [] => 0
  | x :: r => uptoBulkEntry x + uptoBulkEntries r
def uptoBulkEntry {H : Type} : Lit × DataW H → Nat
  | (.string bytes, d) => bytes.length + uptoBulk d + 1
  | (_, d) => uptoBulk d + 1
 end
def uptoSmall : (H : Type) → List (DataW H) → Bool := fun _ ds => decide (uptoBulkAll ds ≤ 1048576)
def OpenSpec.upto (s : _root_.Go.ChangeSpec) : _root_.Go.OpenSpec := { _root_.Go.OpenSpec.ofChange s with cond := some uptoSmall }

/-- 'laws.FnShortLoss', WHERE WHAT IT READS IS OF BULK AT MOST 1048576: true; the input reads as it did. -/
def fnShortLossUptoRow : OpenClaim := { program := "ytheldhohhpoloaagreatdoor", sum := "173f5439157b14c89a4ae72ed0692af179dc56bb1ba98c7b59a8290d0b3ecd9e", func := "loop.example/cellcollector/laws.FnShortLoss", spec := "fnShortLoss", inPlace := ["internal/bytealg.IndexByteString", "internal/bytealg.IndexString"], unfollowed := true, recurses := true, named := ["internal/strconv.uint64pow10", "math/bits.deBruijn32tab", "math/bits.deBruijn64tab", "unicode/utf8.first", "unicode/utf8.acceptRanges", "internal/bytealg.MaxLen"], apart := false, laid := [("math/bits.deBruijn32tab", laid_math_bits_deBruijn32tab), ("math/bits.deBruijn64tab", laid_math_bits_deBruijn64tab), ("internal/strconv.uint64pow10", laid_internal_strconv_uint64pow10), ("unicode/utf8.acceptRanges", laid_unicode_utf8_acceptRanges), ("unicode/utf8.first", laid_unicode_utf8_first)], narrowed := true }
def FnShortLossUptoSaid : Prop := fnShortLossUptoRow.holds Tryz.pinned (OpenSpec.upto fnShortLossSpec)

/-- 'laws.FnCanLose', WHERE WHAT IT READS IS OF BULK AT MOST 1048576: true; the input reads as it did. -/
def fnCanLoseUptoRow : OpenClaim := { program := "ytheldhohhpoloaagreatdoor", sum := "173f5439157b14c89a4ae72ed0692af179dc56bb1ba98c7b59a8290d0b3ecd9e", func := "loop.example/cellcollector/laws.FnCanLose", spec := "fnCanLose", inPlace := ["internal/bytealg.IndexByteString", "internal/bytealg.IndexString"], unfollowed := true, recurses := true, named := ["internal/strconv.uint64pow10", "math/bits.deBruijn32tab", "math/bits.deBruijn64tab", "unicode/utf8.first", "unicode/utf8.acceptRanges", "internal/bytealg.MaxLen"], apart := false, laid := [("math/bits.deBruijn32tab", laid_math_bits_deBruijn32tab), ("math/bits.deBruijn64tab", laid_math_bits_deBruijn64tab), ("internal/strconv.uint64pow10", laid_internal_strconv_uint64pow10), ("unicode/utf8.acceptRanges", laid_unicode_utf8_acceptRanges), ("unicode/utf8.first", laid_unicode_utf8_first)], narrowed := true }
def FnCanLoseUptoSaid : Prop := fnCanLoseUptoRow.holds Tryz.pinned (OpenSpec.upto fnCanLoseSpec)

/-- 'laws.FnEndStores', WHERE WHAT IT READS IS OF BULK AT MOST 1048576: true; the input reads as it did. -/
def fnEndStoresUptoRow : OpenClaim := { program := "ytheldhohhpoloaagreatdoor", sum := "173f5439157b14c89a4ae72ed0692af179dc56bb1ba98c7b59a8290d0b3ecd9e", func := "loop.example/cellcollector/laws.FnEndStores", spec := "fnEndStores", unfollowed := true, recurses := true, named := ["internal/strconv.uint64pow10", "math/bits.deBruijn32tab", "math/bits.deBruijn64tab"], apart := false, laid := [("math/bits.deBruijn32tab", laid_math_bits_deBruijn32tab), ("math/bits.deBruijn64tab", laid_math_bits_deBruijn64tab), ("internal/strconv.uint64pow10", laid_internal_strconv_uint64pow10)], narrowed := true }
def FnEndStoresUptoSaid : Prop := fnEndStoresUptoRow.holds Tryz.pinned (OpenSpec.upto fnEndStoresSpec)

/-- 'laws.FnExactEndStores', WHERE WHAT IT READS IS OF BULK AT MOST 1048576: true; the input reads as it did. -/
def fnExactEndStoresUptoRow : OpenClaim := { program := "ytheldhohhpoloaagreatdoor", sum := "173f5439157b14c89a4ae72ed0692af179dc56bb1ba98c7b59a8290d0b3ecd9e", func := "loop.example/cellcollector/laws.FnExactEndStores", spec := "fnExactEndStores", unfollowed := true, recurses := true, named := ["internal/strconv.uint64pow10", "math/bits.deBruijn32tab", "math/bits.deBruijn64tab"], apart := false, laid := [("math/bits.deBruijn32tab", laid_math_bits_deBruijn32tab), ("math/bits.deBruijn64tab", laid_math_bits_deBruijn64tab), ("internal/strconv.uint64pow10", laid_internal_strconv_uint64pow10)], narrowed := true }
def FnExactEndStoresUptoSaid : Prop := fnExactEndStoresUptoRow.holds Tryz.pinned (OpenSpec.upto fnExactEndStoresSpec)

/-- 'laws.FnEverySchedule', WHERE WHAT IT READS IS OF BULK AT MOST 1048576: true; the input reads as it did. -/
def fnEveryScheduleUptoRow : OpenClaim := { program := "ytheldhohhpoloaagreatdoor", sum := "173f5439157b14c89a4ae72ed0692af179dc56bb1ba98c7b59a8290d0b3ecd9e", func := "loop.example/cellcollector/laws.FnEverySchedule", spec := "fnEverySchedule", inPlace := ["internal/bytealg.CountString", "internal/bytealg.IndexByteString", "internal/bytealg.IndexString", "internal/abi.NoEscape", "internal/bytealg.MakeNoZero"], unfollowed := true, recurses := true, named := ["unicode/utf8.first", "unicode/utf8.acceptRanges", "internal/bytealg.MaxLen", "internal/strconv.uint64pow10", "math/bits.deBruijn32tab", "math/bits.deBruijn64tab", "loop.example/cellcollector/impl.opWords"], apart := false, laid := [("math/bits.deBruijn32tab", laid_math_bits_deBruijn32tab), ("math/bits.deBruijn64tab", laid_math_bits_deBruijn64tab), ("internal/strconv.uint64pow10", laid_internal_strconv_uint64pow10), ("unicode/utf8.acceptRanges", laid_unicode_utf8_acceptRanges), ("loop.example/cellcollector/impl.opWords", laid_loop_example_cellcollector_impl_opWords), ("unicode/utf8.first", laid_unicode_utf8_first)], narrowed := true }
def FnEveryScheduleUptoSaid : Prop := fnEveryScheduleUptoRow.holds Tryz.pinned (OpenSpec.upto fnEveryScheduleSpec)

/-- 'laws.FnEndBarrier', WHERE WHAT IT READS IS OF BULK AT MOST 1048576: true; the input reads as it did. -/
def fnEndBarrierUptoRow : OpenClaim := { program := "ytheldhohhpoloaagreatdoor", sum := "173f5439157b14c89a4ae72ed0692af179dc56bb1ba98c7b59a8290d0b3ecd9e", func := "loop.example/cellcollector/laws.FnEndBarrier", spec := "fnEndBarrier", inPlace := ["internal/bytealg.CountString", "internal/bytealg.IndexByteString", "internal/bytealg.IndexString"], unfollowed := true, recurses := true, named := ["internal/strconv.uint64pow10", "math/bits.deBruijn32tab", "math/bits.deBruijn64tab", "unicode/utf8.first", "unicode/utf8.acceptRanges", "internal/bytealg.MaxLen"], apart := false, laid := [("math/bits.deBruijn32tab", laid_math_bits_deBruijn32tab), ("math/bits.deBruijn64tab", laid_math_bits_deBruijn64tab), ("internal/strconv.uint64pow10", laid_internal_strconv_uint64pow10), ("unicode/utf8.acceptRanges", laid_unicode_utf8_acceptRanges), ("unicode/utf8.first", laid_unicode_utf8_first)], narrowed := true }
def FnEndBarrierUptoSaid : Prop := fnEndBarrierUptoRow.holds Tryz.pinned (OpenSpec.upto fnEndBarrierSpec)

/-- 'laws.FnEndRun', WHERE WHAT IT READS IS OF BULK AT MOST 1048576: true; the input reads as it did. -/
def fnEndRunUptoRow : OpenClaim := { program := "ytheldhohhpoloaagreatdoor", sum := "173f5439157b14c89a4ae72ed0692af179dc56bb1ba98c7b59a8290d0b3ecd9e", func := "loop.example/cellcollector/laws.FnEndRun", spec := "fnEndRun", inPlace := ["internal/bytealg.IndexByteString", "internal/bytealg.IndexString"], unfollowed := true, recurses := true, named := ["internal/strconv.uint64pow10", "math/bits.deBruijn32tab", "math/bits.deBruijn64tab", "unicode/utf8.first", "unicode/utf8.acceptRanges", "internal/bytealg.MaxLen"], apart := false, laid := [("math/bits.deBruijn32tab", laid_math_bits_deBruijn32tab), ("math/bits.deBruijn64tab", laid_math_bits_deBruijn64tab), ("internal/strconv.uint64pow10", laid_internal_strconv_uint64pow10), ("unicode/utf8.acceptRanges", laid_unicode_utf8_acceptRanges), ("unicode/utf8.first", laid_unicode_utf8_first)], narrowed := true }
def FnEndRunUptoSaid : Prop := fnEndRunUptoRow.holds Tryz.pinned (OpenSpec.upto fnEndRunSpec)

end Rows
end Go.Proofs.YtheldhohhpoloaaGreatDoor
