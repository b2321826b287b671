/-
  NARROWER THAN 'FOR EVERY INPUT', by the rows' own cells (each row's printed sentence says how): FnScriptNew: laid · FnScriptPath: laid · FnScriptOne: laid · FnScriptAgain: laid · FnScriptCopy: laid · FnScriptFinish: laid · FnScriptLose: laid · FnScriptOps: laid · FnScriptLeaked: laid · FnScriptRun: laid.
  DERIVED. THE GIVEN ROWS OF THIS SEAT. 10 by the template 'for every input the law returns true; each argument reads behind the call as it read before'; 0 by the template 'total and deterministic' (their statements: YtigomgblkieahaaGreatDoorTotals.lean).
  GIVEN WITH THE SEED: the statements are not yours to turn. If you find one false, say at which input.
  Laid BY PROGRAM, IN A SANDBOX (cutbox-rows.mjs): the forced cells as the released guide's own fill.sh prints them over the translation a558ff2a410954eb… (all of the seat's roots in one cut). By AI agents, Wed Nov 11 2026. No macro, syntax, notation, axiom, sorry.
-/
import Derived.Test.YtigomgblkieahaaGreatDoorChecked
import GoSem.PinnedTables
import GoSem.Claim
import GoSem.ClaimJoined
import GoSem.ClaimMapViews
import Derived.JoinedTies
import Derived.KernelRfl
namespace Go.Proofs.YtigomgblkieahaaGreatDoor
/- THE CELL 'sum', in the pinned program and in every row, IS THE sha256 OF THE DUMP (.gsa) THAT YtigomgblkieahaaGreatDoorProg.lean LOADS. Nothing in Lean hashes anything: it is a label: what it is worth is what the hold of that sum in a sandbox is worth. -/
noncomputable def Tryz.pinned : Pinned := { name := "ytigomgblkieahaagreatdoor", sum := "a558ff2a410954ebe42a8df4394545b034079db720d607c9ba659d299adaf03b", checked := Tryz.checked }
namespace Rows
def none {H : Type} : Left H := { results := [], args := [] }

/- WHAT THE LISTED PACKAGE-LEVEL VARIABLES READ AS WHEN THE CALL BEGINS. Each datum BY PROGRAM (the guide's laid-datum.mjs) off the statement by which the dump's own 'gosem.cut.vars' lays the variable. In a bare row this is a premise. The card (YtigomgblkieahaaGreatDoorCards.lean) ties it to the program's text. -/
def laid_math_bits_deBruijn32tab {H : Type} : DataW H := .agg [.lit (.int .u8 0), .lit (.int .u8 1), .lit (.int .u8 28), .lit (.int .u8 2), .lit (.int .u8 29), .lit (.int .u8 14), .lit (.int .u8 24), .lit (.int .u8 3), .lit (.int .u8 30), .lit (.int .u8 22), .lit (.int .u8 20), .lit (.int .u8 15), .lit (.int .u8 25), .lit (.int .u8 17), .lit (.int .u8 4), .lit (.int .u8 8), .lit (.int .u8 31), .lit (.int .u8 27), .lit (.int .u8 13), .lit (.int .u8 23), .lit (.int .u8 21), .lit (.int .u8 19), .lit (.int .u8 16), .lit (.int .u8 7), .lit (.int .u8 26), .lit (.int .u8 12), .lit (.int .u8 18), .lit (.int .u8 6), .lit (.int .u8 11), .lit (.int .u8 5), .lit (.int .u8 10), .lit (.int .u8 9)]
def laid_math_bits_deBruijn64tab {H : Type} : DataW H := .agg [.lit (.int .u8 0), .lit (.int .u8 1), .lit (.int .u8 56), .lit (.int .u8 2), .lit (.int .u8 57), .lit (.int .u8 49), .lit (.int .u8 28), .lit (.int .u8 3), .lit (.int .u8 61), .lit (.int .u8 58), .lit (.int .u8 42), .lit (.int .u8 50), .lit (.int .u8 38), .lit (.int .u8 29), .lit (.int .u8 17), .lit (.int .u8 4), .lit (.int .u8 62), .lit (.int .u8 47), .lit (.int .u8 59), .lit (.int .u8 36), .lit (.int .u8 45), .lit (.int .u8 43), .lit (.int .u8 51), .lit (.int .u8 22), .lit (.int .u8 53), .lit (.int .u8 39), .lit (.int .u8 33), .lit (.int .u8 30), .lit (.int .u8 24), .lit (.int .u8 18), .lit (.int .u8 12), .lit (.int .u8 5), .lit (.int .u8 63), .lit (.int .u8 55), .lit (.int .u8 48), .lit (.int .u8 27), .lit (.int .u8 60), .lit (.int .u8 41), .lit (.int .u8 37), .lit (.int .u8 16), .lit (.int .u8 46), .lit (.int .u8 35), .lit (.int .u8 44), .lit (.int .u8 21), .lit (.int .u8 52), .lit (.int .u8 32), .lit (.int .u8 23), .lit (.int .u8 11), .lit (.int .u8 54), .lit (.int .u8 26), .lit (.int .u8 40), .lit (.int .u8 15), .lit (.int .u8 34), .lit (.int .u8 20), .lit (.int .u8 31), .lit (.int .u8 10), .lit (.int .u8 25), .lit (.int .u8 14), .lit (.int .u8 19), .lit (.int .u8 9), .lit (.int .u8 13), .lit (.int .u8 8), .lit (.int .u8 7), .lit (.int .u8 6)]
def laid_internal_strconv_uint64pow10 {H : Type} : DataW H := .agg [.lit (.int .u64 1), .lit (.int .u64 10), .lit (.int .u64 100), .lit (.int .u64 1000), .lit (.int .u64 10000), .lit (.int .u64 100000), .lit (.int .u64 1000000), .lit (.int .u64 10000000), .lit (.int .u64 100000000), .lit (.int .u64 1000000000), .lit (.int .u64 10000000000), .lit (.int .u64 100000000000), .lit (.int .u64 1000000000000), .lit (.int .u64 10000000000000), .lit (.int .u64 100000000000000), .lit (.int .u64 1000000000000000), .lit (.int .u64 10000000000000000), .lit (.int .u64 100000000000000000), .lit (.int .u64 1000000000000000000), .lit (.int .u64 10000000000000000000)]
def laid_unicode_utf8_acceptRanges {H : Type} : DataW H := .agg [.agg [.lit (.int .u8 128), .lit (.int .u8 191)], .agg [.lit (.int .u8 160), .lit (.int .u8 191)], .agg [.lit (.int .u8 128), .lit (.int .u8 159)], .agg [.lit (.int .u8 144), .lit (.int .u8 191)], .agg [.lit (.int .u8 128), .lit (.int .u8 143)], .agg [.lit (.int .u8 0), .lit (.int .u8 0)], .agg [.lit (.int .u8 0), .lit (.int .u8 0)], .agg [.lit (.int .u8 0), .lit (.int .u8 0)], .agg [.lit (.int .u8 0), .lit (.int .u8 0)], .agg [.lit (.int .u8 0), .lit (.int .u8 0)], .agg [.lit (.int .u8 0), .lit (.int .u8 0)], .agg [.lit (.int .u8 0), .lit (.int .u8 0)], .agg [.lit (.int .u8 0), .lit (.int .u8 0)], .agg [.lit (.int .u8 0), .lit (.int .u8 0)], .agg [.lit (.int .u8 0), .lit (.int .u8 0)], .agg [.lit (.int .u8 0), .lit (.int .u8 0)]]
def laid_strconv_ErrRange {H : Type} : DataW H := .iface "*errors.errorString" (.ptr (.agg [.lit (.string [118, 97, 108, 117, 101, 32, 111, 117, 116, 32, 111, 102, 32, 114, 97, 110, 103, 101])]))
def laid_strconv_ErrSyntax {H : Type} : DataW H := .iface "*errors.errorString" (.ptr (.agg [.lit (.string [105, 110, 118, 97, 108, 105, 100, 32, 115, 121, 110, 116, 97, 120])]))
def laid_loop_example_cellcollector_impl_opWords {H : Type} : DataW H := .agg [.lit (.string []), .lit (.string [110, 101, 119]), .lit (.string [99, 111, 112, 121]), .lit (.string [108, 101, 102, 116]), .lit (.string [114, 105, 103, 104, 116]), .lit (.string [112, 117, 116, 108, 101, 102, 116]), .lit (.string [112, 117, 116, 114, 105, 103, 104, 116]), .lit (.string [99, 108, 101, 97, 114])]
/-- One of Go's own tables, pinned by name: the form's constant. -/
def laid_unicode_utf8_first : DataW Unit := Go.Pinned.utf8First

/-- 'laws.FnScriptNew': WHATEVER THE INPUT: true; the input reads as it did. -/
def fnScriptNewSpec : ChangeSpec := { name := "fnScriptNew", vars := ["loop.example/cellcollector/impl.opWords"], fn := fun _ => fun
  | [d, g1] => { results := [.lit (.bool true)], args := [d], vars := [g1] }
  | _ => none }
def fnScriptNewRow : OpenClaim := { program := "ytigomgblkieahaagreatdoor", sum := "a558ff2a410954ebe42a8df4394545b034079db720d607c9ba659d299adaf03b", func := "loop.example/cellcollector/laws.FnScriptNew", spec := "fnScriptNew", inPlace := ["internal/bytealg.CountString", "internal/bytealg.IndexByteString", "internal/bytealg.IndexString", "internal/abi.NoEscape"], unfollowed := true, recurses := true, named := ["unicode/utf8.first", "unicode/utf8.acceptRanges", "internal/bytealg.MaxLen", "strconv.ErrSyntax", "strconv.ErrRange", "internal/strconv.uint64pow10", "math/bits.deBruijn32tab", "math/bits.deBruijn64tab", "loop.example/cellcollector/impl.opWords"], apart := false, laid := [("math/bits.deBruijn32tab", laid_math_bits_deBruijn32tab), ("math/bits.deBruijn64tab", laid_math_bits_deBruijn64tab), ("internal/strconv.uint64pow10", laid_internal_strconv_uint64pow10), ("unicode/utf8.acceptRanges", laid_unicode_utf8_acceptRanges), ("strconv.ErrRange", laid_strconv_ErrRange), ("strconv.ErrSyntax", laid_strconv_ErrSyntax), ("loop.example/cellcollector/impl.opWords", laid_loop_example_cellcollector_impl_opWords), ("unicode/utf8.first", laid_unicode_utf8_first)] }
def FnScriptNewSaid : Prop := fnScriptNewRow.holds Tryz.pinned (OpenSpec.ofChange fnScriptNewSpec)

/-- ITS FALSE NEIGHBOUR: 'it returns false'. Refute it at one input. -/
def fnScriptNewWrong : ChangeSpec := { name := "fnScriptNew", vars := ["loop.example/cellcollector/impl.opWords"], fn := fun _ => fun
  | [d, g1] => { results := [.lit (.bool false)], args := [d], vars := [g1] }
  | _ => none }
def FnScriptNewWrongFalsely : Prop := fnScriptNewRow.holds Tryz.pinned (OpenSpec.ofChange fnScriptNewWrong)

/-- 'laws.FnScriptPath': WHATEVER THE INPUT: true; the input reads as it did. -/
def fnScriptPathSpec : ChangeSpec := { name := "fnScriptPath", vars := ["loop.example/cellcollector/impl.opWords"], fn := fun _ => fun
  | [d, g1] => { results := [.lit (.bool true)], args := [d], vars := [g1] }
  | _ => none }
def fnScriptPathRow : OpenClaim := { program := "ytigomgblkieahaagreatdoor", sum := "a558ff2a410954ebe42a8df4394545b034079db720d607c9ba659d299adaf03b", func := "loop.example/cellcollector/laws.FnScriptPath", spec := "fnScriptPath", inPlace := ["internal/bytealg.CountString", "internal/bytealg.IndexByteString", "internal/bytealg.IndexString", "internal/abi.NoEscape"], unfollowed := true, recurses := true, named := ["unicode/utf8.first", "unicode/utf8.acceptRanges", "internal/bytealg.MaxLen", "strconv.ErrSyntax", "strconv.ErrRange", "internal/strconv.uint64pow10", "math/bits.deBruijn32tab", "math/bits.deBruijn64tab", "loop.example/cellcollector/impl.opWords"], apart := false, laid := [("math/bits.deBruijn32tab", laid_math_bits_deBruijn32tab), ("math/bits.deBruijn64tab", laid_math_bits_deBruijn64tab), ("internal/strconv.uint64pow10", laid_internal_strconv_uint64pow10), ("unicode/utf8.acceptRanges", laid_unicode_utf8_acceptRanges), ("strconv.ErrRange", laid_strconv_ErrRange), ("strconv.ErrSyntax", laid_strconv_ErrSyntax), ("loop.example/cellcollector/impl.opWords", laid_loop_example_cellcollector_impl_opWords), ("unicode/utf8.first", laid_unicode_utf8_first)] }
def FnScriptPathSaid : Prop := fnScriptPathRow.holds Tryz.pinned (OpenSpec.ofChange fnScriptPathSpec)

/-- ITS FALSE NEIGHBOUR: 'it returns false'. Refute it at one input. -/
def fnScriptPathWrong : ChangeSpec := { name := "fnScriptPath", vars := ["loop.example/cellcollector/impl.opWords"], fn := fun _ => fun
  | [d, g1] => { results := [.lit (.bool false)], args := [d], vars := [g1] }
  | _ => none }
def FnScriptPathWrongFalsely : Prop := fnScriptPathRow.holds Tryz.pinned (OpenSpec.ofChange fnScriptPathWrong)

/-- 'laws.FnScriptOne': WHATEVER THE INPUT: true; the input reads as it did. -/
def fnScriptOneSpec : ChangeSpec := { name := "fnScriptOne", vars := ["loop.example/cellcollector/impl.opWords"], fn := fun _ => fun
  | [d, g1] => { results := [.lit (.bool true)], args := [d], vars := [g1] }
  | _ => none }
def fnScriptOneRow : OpenClaim := { program := "ytigomgblkieahaagreatdoor", sum := "a558ff2a410954ebe42a8df4394545b034079db720d607c9ba659d299adaf03b", func := "loop.example/cellcollector/laws.FnScriptOne", spec := "fnScriptOne", inPlace := ["internal/bytealg.CountString", "internal/bytealg.IndexByteString", "internal/bytealg.IndexString", "internal/abi.NoEscape"], unfollowed := true, recurses := true, named := ["loop.example/cellcollector/impl.opWords", "internal/strconv.uint64pow10", "math/bits.deBruijn32tab", "math/bits.deBruijn64tab", "unicode/utf8.first", "unicode/utf8.acceptRanges", "internal/bytealg.MaxLen", "strconv.ErrSyntax", "strconv.ErrRange"], apart := false, laid := [("math/bits.deBruijn32tab", laid_math_bits_deBruijn32tab), ("math/bits.deBruijn64tab", laid_math_bits_deBruijn64tab), ("internal/strconv.uint64pow10", laid_internal_strconv_uint64pow10), ("unicode/utf8.acceptRanges", laid_unicode_utf8_acceptRanges), ("strconv.ErrRange", laid_strconv_ErrRange), ("strconv.ErrSyntax", laid_strconv_ErrSyntax), ("loop.example/cellcollector/impl.opWords", laid_loop_example_cellcollector_impl_opWords), ("unicode/utf8.first", laid_unicode_utf8_first)] }
def FnScriptOneSaid : Prop := fnScriptOneRow.holds Tryz.pinned (OpenSpec.ofChange fnScriptOneSpec)

/-- ITS FALSE NEIGHBOUR: 'it returns false'. Refute it at one input. -/
def fnScriptOneWrong : ChangeSpec := { name := "fnScriptOne", vars := ["loop.example/cellcollector/impl.opWords"], fn := fun _ => fun
  | [d, g1] => { results := [.lit (.bool false)], args := [d], vars := [g1] }
  | _ => none }
def FnScriptOneWrongFalsely : Prop := fnScriptOneRow.holds Tryz.pinned (OpenSpec.ofChange fnScriptOneWrong)

/-- 'laws.FnScriptAgain': WHATEVER THE INPUT: true; the input reads as it did. -/
def fnScriptAgainSpec : ChangeSpec := { name := "fnScriptAgain", vars := ["loop.example/cellcollector/impl.opWords"], fn := fun _ => fun
  | [d, g1] => { results := [.lit (.bool true)], args := [d], vars := [g1] }
  | _ => none }
def fnScriptAgainRow : OpenClaim := { program := "ytigomgblkieahaagreatdoor", sum := "a558ff2a410954ebe42a8df4394545b034079db720d607c9ba659d299adaf03b", func := "loop.example/cellcollector/laws.FnScriptAgain", spec := "fnScriptAgain", inPlace := ["internal/abi.NoEscape", "internal/bytealg.MakeNoZero", "internal/bytealg.CountString", "internal/bytealg.IndexByteString", "internal/bytealg.IndexString"], unfollowed := true, recurses := true, named := ["loop.example/cellcollector/impl.opWords", "internal/strconv.uint64pow10", "math/bits.deBruijn32tab", "math/bits.deBruijn64tab", "unicode/utf8.first", "unicode/utf8.acceptRanges", "internal/bytealg.MaxLen", "strconv.ErrSyntax", "strconv.ErrRange"], apart := false, laid := [("math/bits.deBruijn32tab", laid_math_bits_deBruijn32tab), ("math/bits.deBruijn64tab", laid_math_bits_deBruijn64tab), ("internal/strconv.uint64pow10", laid_internal_strconv_uint64pow10), ("unicode/utf8.acceptRanges", laid_unicode_utf8_acceptRanges), ("strconv.ErrRange", laid_strconv_ErrRange), ("strconv.ErrSyntax", laid_strconv_ErrSyntax), ("loop.example/cellcollector/impl.opWords", laid_loop_example_cellcollector_impl_opWords), ("unicode/utf8.first", laid_unicode_utf8_first)] }
def FnScriptAgainSaid : Prop := fnScriptAgainRow.holds Tryz.pinned (OpenSpec.ofChange fnScriptAgainSpec)

/-- ITS FALSE NEIGHBOUR: 'it returns false'. Refute it at one input. -/
def fnScriptAgainWrong : ChangeSpec := { name := "fnScriptAgain", vars := ["loop.example/cellcollector/impl.opWords"], fn := fun _ => fun
  | [d, g1] => { results := [.lit (.bool false)], args := [d], vars := [g1] }
  | _ => none }
def FnScriptAgainWrongFalsely : Prop := fnScriptAgainRow.holds Tryz.pinned (OpenSpec.ofChange fnScriptAgainWrong)

/-- 'laws.FnScriptCopy': WHATEVER THE INPUT: true; the input reads as it did. -/
def fnScriptCopySpec : ChangeSpec := { name := "fnScriptCopy", vars := ["loop.example/cellcollector/impl.opWords"], fn := fun _ => fun
  | [d, g1] => { results := [.lit (.bool true)], args := [d], vars := [g1] }
  | _ => none }
def fnScriptCopyRow : OpenClaim := { program := "ytigomgblkieahaagreatdoor", sum := "a558ff2a410954ebe42a8df4394545b034079db720d607c9ba659d299adaf03b", func := "loop.example/cellcollector/laws.FnScriptCopy", spec := "fnScriptCopy", inPlace := ["internal/abi.NoEscape", "internal/bytealg.MakeNoZero", "internal/bytealg.CountString", "internal/bytealg.IndexByteString", "internal/bytealg.IndexString"], unfollowed := true, recurses := true, named := ["loop.example/cellcollector/impl.opWords", "internal/strconv.uint64pow10", "math/bits.deBruijn32tab", "math/bits.deBruijn64tab", "unicode/utf8.first", "unicode/utf8.acceptRanges", "internal/bytealg.MaxLen", "strconv.ErrSyntax", "strconv.ErrRange"], apart := false, laid := [("math/bits.deBruijn32tab", laid_math_bits_deBruijn32tab), ("math/bits.deBruijn64tab", laid_math_bits_deBruijn64tab), ("internal/strconv.uint64pow10", laid_internal_strconv_uint64pow10), ("unicode/utf8.acceptRanges", laid_unicode_utf8_acceptRanges), ("strconv.ErrRange", laid_strconv_ErrRange), ("strconv.ErrSyntax", laid_strconv_ErrSyntax), ("loop.example/cellcollector/impl.opWords", laid_loop_example_cellcollector_impl_opWords), ("unicode/utf8.first", laid_unicode_utf8_first)] }
def FnScriptCopySaid : Prop := fnScriptCopyRow.holds Tryz.pinned (OpenSpec.ofChange fnScriptCopySpec)

/-- ITS FALSE NEIGHBOUR: 'it returns false'. Refute it at one input. -/
def fnScriptCopyWrong : ChangeSpec := { name := "fnScriptCopy", vars := ["loop.example/cellcollector/impl.opWords"], fn := fun _ => fun
  | [d, g1] => { results := [.lit (.bool false)], args := [d], vars := [g1] }
  | _ => none }
def FnScriptCopyWrongFalsely : Prop := fnScriptCopyRow.holds Tryz.pinned (OpenSpec.ofChange fnScriptCopyWrong)

/-- 'laws.FnScriptFinish': WHATEVER THE INPUT: true; the input reads as it did. -/
def fnScriptFinishSpec : ChangeSpec := { name := "fnScriptFinish", vars := ["loop.example/cellcollector/impl.opWords"], fn := fun _ => fun
  | [d, g1] => { results := [.lit (.bool true)], args := [d], vars := [g1] }
  | _ => none }
def fnScriptFinishRow : OpenClaim := { program := "ytigomgblkieahaagreatdoor", sum := "a558ff2a410954ebe42a8df4394545b034079db720d607c9ba659d299adaf03b", func := "loop.example/cellcollector/laws.FnScriptFinish", spec := "fnScriptFinish", inPlace := ["internal/abi.NoEscape", "internal/bytealg.MakeNoZero", "internal/bytealg.CountString", "internal/bytealg.IndexByteString", "internal/bytealg.IndexString"], unfollowed := true, recurses := true, named := ["loop.example/cellcollector/impl.opWords", "internal/strconv.uint64pow10", "math/bits.deBruijn32tab", "math/bits.deBruijn64tab", "unicode/utf8.first", "unicode/utf8.acceptRanges", "internal/bytealg.MaxLen", "strconv.ErrSyntax", "strconv.ErrRange"], apart := false, laid := [("math/bits.deBruijn32tab", laid_math_bits_deBruijn32tab), ("math/bits.deBruijn64tab", laid_math_bits_deBruijn64tab), ("internal/strconv.uint64pow10", laid_internal_strconv_uint64pow10), ("unicode/utf8.acceptRanges", laid_unicode_utf8_acceptRanges), ("strconv.ErrRange", laid_strconv_ErrRange), ("strconv.ErrSyntax", laid_strconv_ErrSyntax), ("loop.example/cellcollector/impl.opWords", laid_loop_example_cellcollector_impl_opWords), ("unicode/utf8.first", laid_unicode_utf8_first)] }
def FnScriptFinishSaid : Prop := fnScriptFinishRow.holds Tryz.pinned (OpenSpec.ofChange fnScriptFinishSpec)

/-- ITS FALSE NEIGHBOUR: 'it returns false'. Refute it at one input. -/
def fnScriptFinishWrong : ChangeSpec := { name := "fnScriptFinish", vars := ["loop.example/cellcollector/impl.opWords"], fn := fun _ => fun
  | [d, g1] => { results := [.lit (.bool false)], args := [d], vars := [g1] }
  | _ => none }
def FnScriptFinishWrongFalsely : Prop := fnScriptFinishRow.holds Tryz.pinned (OpenSpec.ofChange fnScriptFinishWrong)

/-- 'laws.FnScriptLose': WHATEVER THE INPUT: true; the input reads as it did. -/
def fnScriptLoseSpec : ChangeSpec := { name := "fnScriptLose", vars := ["loop.example/cellcollector/impl.opWords"], fn := fun _ => fun
  | [d, g1] => { results := [.lit (.bool true)], args := [d], vars := [g1] }
  | _ => none }
def fnScriptLoseRow : OpenClaim := { program := "ytigomgblkieahaagreatdoor", sum := "a558ff2a410954ebe42a8df4394545b034079db720d607c9ba659d299adaf03b", func := "loop.example/cellcollector/laws.FnScriptLose", spec := "fnScriptLose", inPlace := ["internal/abi.NoEscape", "internal/bytealg.MakeNoZero", "internal/bytealg.CountString", "internal/bytealg.IndexByteString", "internal/bytealg.IndexString"], unfollowed := true, recurses := true, named := ["loop.example/cellcollector/impl.opWords", "internal/strconv.uint64pow10", "math/bits.deBruijn32tab", "math/bits.deBruijn64tab", "unicode/utf8.first", "unicode/utf8.acceptRanges", "internal/bytealg.MaxLen", "strconv.ErrSyntax", "strconv.ErrRange"], apart := false, laid := [("math/bits.deBruijn32tab", laid_math_bits_deBruijn32tab), ("math/bits.deBruijn64tab", laid_math_bits_deBruijn64tab), ("internal/strconv.uint64pow10", laid_internal_strconv_uint64pow10), ("unicode/utf8.acceptRanges", laid_unicode_utf8_acceptRanges), ("strconv.ErrRange", laid_strconv_ErrRange), ("strconv.ErrSyntax", laid_strconv_ErrSyntax), ("loop.example/cellcollector/impl.opWords", laid_loop_example_cellcollector_impl_opWords), ("unicode/utf8.first", laid_unicode_utf8_first)] }
def FnScriptLoseSaid : Prop := fnScriptLoseRow.holds Tryz.pinned (OpenSpec.ofChange fnScriptLoseSpec)

/-- ITS FALSE NEIGHBOUR: 'it returns false'. Refute it at one input. -/
def fnScriptLoseWrong : ChangeSpec := { name := "fnScriptLose", vars := ["loop.example/cellcollector/impl.opWords"], fn := fun _ => fun
  | [d, g1] => { results := [.lit (.bool false)], args := [d], vars := [g1] }
  | _ => none }
def FnScriptLoseWrongFalsely : Prop := fnScriptLoseRow.holds Tryz.pinned (OpenSpec.ofChange fnScriptLoseWrong)

/-- 'laws.FnScriptOps': WHATEVER THE INPUT: true; the input reads as it did. -/
def fnScriptOpsSpec : ChangeSpec := { name := "fnScriptOps", vars := ["loop.example/cellcollector/impl.opWords"], fn := fun _ => fun
  | [d, g1] => { results := [.lit (.bool true)], args := [d], vars := [g1] }
  | _ => none }
def fnScriptOpsRow : OpenClaim := { program := "ytigomgblkieahaagreatdoor", sum := "a558ff2a410954ebe42a8df4394545b034079db720d607c9ba659d299adaf03b", func := "loop.example/cellcollector/laws.FnScriptOps", spec := "fnScriptOps", inPlace := ["internal/abi.NoEscape", "internal/bytealg.MakeNoZero", "internal/bytealg.CountString", "internal/bytealg.IndexByteString", "internal/bytealg.IndexString"], unfollowed := true, recurses := true, named := ["loop.example/cellcollector/impl.opWords", "internal/strconv.uint64pow10", "math/bits.deBruijn32tab", "math/bits.deBruijn64tab", "unicode/utf8.first", "unicode/utf8.acceptRanges", "internal/bytealg.MaxLen", "strconv.ErrSyntax", "strconv.ErrRange"], apart := false, laid := [("math/bits.deBruijn32tab", laid_math_bits_deBruijn32tab), ("math/bits.deBruijn64tab", laid_math_bits_deBruijn64tab), ("internal/strconv.uint64pow10", laid_internal_strconv_uint64pow10), ("unicode/utf8.acceptRanges", laid_unicode_utf8_acceptRanges), ("strconv.ErrRange", laid_strconv_ErrRange), ("strconv.ErrSyntax", laid_strconv_ErrSyntax), ("loop.example/cellcollector/impl.opWords", laid_loop_example_cellcollector_impl_opWords), ("unicode/utf8.first", laid_unicode_utf8_first)] }
def FnScriptOpsSaid : Prop := fnScriptOpsRow.holds Tryz.pinned (OpenSpec.ofChange fnScriptOpsSpec)

/-- ITS FALSE NEIGHBOUR: 'it returns false'. Refute it at one input. -/
def fnScriptOpsWrong : ChangeSpec := { name := "fnScriptOps", vars := ["loop.example/cellcollector/impl.opWords"], fn := fun _ => fun
  | [d, g1] => { results := [.lit (.bool false)], args := [d], vars := [g1] }
  | _ => none }
def FnScriptOpsWrongFalsely : Prop := fnScriptOpsRow.holds Tryz.pinned (OpenSpec.ofChange fnScriptOpsWrong)

/-- 'laws.FnScriptLeaked': WHATEVER THE INPUT: true; the input reads as it did. -/
def fnScriptLeakedSpec : ChangeSpec := { name := "fnScriptLeaked", vars := ["loop.example/cellcollector/impl.opWords"], fn := fun _ => fun
  | [d, g1] => { results := [.lit (.bool true)], args := [d], vars := [g1] }
  | _ => none }
def fnScriptLeakedRow : OpenClaim := { program := "ytigomgblkieahaagreatdoor", sum := "a558ff2a410954ebe42a8df4394545b034079db720d607c9ba659d299adaf03b", func := "loop.example/cellcollector/laws.FnScriptLeaked", spec := "fnScriptLeaked", inPlace := ["internal/abi.NoEscape", "internal/bytealg.MakeNoZero", "internal/bytealg.CountString", "internal/bytealg.IndexByteString", "internal/bytealg.IndexString"], unfollowed := true, recurses := true, named := ["loop.example/cellcollector/impl.opWords", "internal/strconv.uint64pow10", "math/bits.deBruijn32tab", "math/bits.deBruijn64tab", "unicode/utf8.first", "unicode/utf8.acceptRanges", "internal/bytealg.MaxLen", "strconv.ErrSyntax", "strconv.ErrRange"], apart := false, laid := [("math/bits.deBruijn32tab", laid_math_bits_deBruijn32tab), ("math/bits.deBruijn64tab", laid_math_bits_deBruijn64tab), ("internal/strconv.uint64pow10", laid_internal_strconv_uint64pow10), ("unicode/utf8.acceptRanges", laid_unicode_utf8_acceptRanges), ("strconv.ErrRange", laid_strconv_ErrRange), ("strconv.ErrSyntax", laid_strconv_ErrSyntax), ("loop.example/cellcollector/impl.opWords", laid_loop_example_cellcollector_impl_opWords), ("unicode/utf8.first", laid_unicode_utf8_first)] }
def FnScriptLeakedSaid : Prop := fnScriptLeakedRow.holds Tryz.pinned (OpenSpec.ofChange fnScriptLeakedSpec)

/-- ITS FALSE NEIGHBOUR: 'it returns false'. Refute it at one input. -/
def fnScriptLeakedWrong : ChangeSpec := { name := "fnScriptLeaked", vars := ["loop.example/cellcollector/impl.opWords"], fn := fun _ => fun
  | [d, g1] => { results := [.lit (.bool false)], args := [d], vars := [g1] }
  | _ => none }
def FnScriptLeakedWrongFalsely : Prop := fnScriptLeakedRow.holds Tryz.pinned (OpenSpec.ofChange fnScriptLeakedWrong)

/-- 'laws.FnScriptRun': WHATEVER THE INPUT: true; the input reads as it did. -/
def fnScriptRunSpec : ChangeSpec := { name := "fnScriptRun", vars := ["loop.example/cellcollector/impl.opWords"], fn := fun _ => fun
  | [d1, d2, g1] => { results := [.lit (.bool true)], args := [d1, d2], vars := [g1] }
  | _ => none }
def fnScriptRunRow : OpenClaim := { program := "ytigomgblkieahaagreatdoor", sum := "a558ff2a410954ebe42a8df4394545b034079db720d607c9ba659d299adaf03b", func := "loop.example/cellcollector/laws.FnScriptRun", spec := "fnScriptRun", inPlace := ["internal/abi.NoEscape", "internal/bytealg.MakeNoZero", "internal/bytealg.IndexByteString", "internal/bytealg.IndexString", "internal/bytealg.CountString"], unfollowed := true, recurses := true, named := ["loop.example/cellcollector/impl.opWords", "internal/strconv.uint64pow10", "math/bits.deBruijn32tab", "math/bits.deBruijn64tab", "unicode/utf8.first", "unicode/utf8.acceptRanges", "internal/bytealg.MaxLen", "strconv.ErrSyntax", "strconv.ErrRange"], apart := false, laid := [("math/bits.deBruijn32tab", laid_math_bits_deBruijn32tab), ("math/bits.deBruijn64tab", laid_math_bits_deBruijn64tab), ("internal/strconv.uint64pow10", laid_internal_strconv_uint64pow10), ("unicode/utf8.acceptRanges", laid_unicode_utf8_acceptRanges), ("strconv.ErrRange", laid_strconv_ErrRange), ("strconv.ErrSyntax", laid_strconv_ErrSyntax), ("loop.example/cellcollector/impl.opWords", laid_loop_example_cellcollector_impl_opWords), ("unicode/utf8.first", laid_unicode_utf8_first)] }
def FnScriptRunSaid : Prop := fnScriptRunRow.holds Tryz.pinned (OpenSpec.ofChange fnScriptRunSpec)

/-- ITS FALSE NEIGHBOUR: 'it returns false'. Refute it at one input. -/
def fnScriptRunWrong : ChangeSpec := { name := "fnScriptRun", vars := ["loop.example/cellcollector/impl.opWords"], fn := fun _ => fun
  | [d1, d2, g1] => { results := [.lit (.bool false)], args := [d1, d2], vars := [g1] }
  | _ => none }
def FnScriptRunWrongFalsely : Prop := fnScriptRunRow.holds Tryz.pinned (OpenSpec.ofChange fnScriptRunWrong)

/- THE SECOND FORM. 'bulk': how many values and letters a reading holds, each counted each time it is reached (what is shared counts as often as it is met; a slice's spare places count too). A statement '..UptoSaid' is the law's where the arguments, and the package variables that the reading takes, are together of bulk at most 1048576: NARROWER than '..Said'. Prove '..Said' where nothing that the law and all that it calls make is longer than what came in: it says more and counts as full. Else prove '..UptoSaid'. A law counts once. -/
mutual
def uptoBulk {H : Type} : DataW H → Nat
  | .lit (.string bytes) => bytes.length + 1
  | .lit _ => 1
  | .nil => 1
  | .ptr d => uptoBulk d + 1
  | .slice elems spare => uptoBulkAll elems + uptoBulkAll spare + 1
  | .agg parts => uptoBulkAll parts + 1
  | .iface _ d => uptoBulk d + 1
  | .map entries => uptoBulkEntries entries + 1
  | .held _ => 1
def uptoBulkAll {H : Type} : List (DataW H) → Nat
  | [] => 0
  | d :: r => uptoBulk d + uptoBulkAll r
def uptoBulkEntries {H : Type} : List (Lit × DataW H) → Nat
  | [] => 0
  | x :: r => uptoBulkEntry x + uptoBulkEntries r
def uptoBulkEntry {H : Type} : Lit × DataW H → Nat
  | (.string bytes, d) => bytes.length + uptoBulk d + 1
  | (_, d) => uptoBulk d + 1
 end
def uptoSmall : (H : Type) → List (DataW H) → Bool := fun _ ds => decide (uptoBulkAll ds ≤ 1048576)
def OpenSpec.upto (s : _root_.Go.ChangeSpec) : _root_.Go.OpenSpec := { _root_.Go.OpenSpec.ofChange s with cond := some uptoSmall }

/-- 'laws.FnScriptNew', WHERE WHAT IT READS IS OF BULK AT MOST 1048576: true; the input reads as it did. -/
def fnScriptNewUptoRow : OpenClaim := { program := "ytigomgblkieahaagreatdoor", sum := "a558ff2a410954ebe42a8df4394545b034079db720d607c9ba659d299adaf03b", func := "loop.example/cellcollector/laws.FnScriptNew", spec := "fnScriptNew", inPlace := ["internal/bytealg.CountString", "internal/bytealg.IndexByteString", "internal/bytealg.IndexString", "internal/abi.NoEscape"], unfollowed := true, recurses := true, named := ["unicode/utf8.first", "unicode/utf8.acceptRanges", "internal/bytealg.MaxLen", "strconv.ErrSyntax", "strconv.ErrRange", "internal/strconv.uint64pow10", "math/bits.deBruijn32tab", "math/bits.deBruijn64tab", "loop.example/cellcollector/impl.opWords"], apart := false, laid := [("math/bits.deBruijn32tab", laid_math_bits_deBruijn32tab), ("math/bits.deBruijn64tab", laid_math_bits_deBruijn64tab), ("internal/strconv.uint64pow10", laid_internal_strconv_uint64pow10), ("unicode/utf8.acceptRanges", laid_unicode_utf8_acceptRanges), ("strconv.ErrRange", laid_strconv_ErrRange), ("strconv.ErrSyntax", laid_strconv_ErrSyntax), ("loop.example/cellcollector/impl.opWords", laid_loop_example_cellcollector_impl_opWords), ("unicode/utf8.first", laid_unicode_utf8_first)], narrowed := true }
def FnScriptNewUptoSaid : Prop := fnScriptNewUptoRow.holds Tryz.pinned (OpenSpec.upto fnScriptNewSpec)

/-- 'laws.FnScriptPath', WHERE WHAT IT READS IS OF BULK AT MOST 1048576: true; the input reads as it did. -/
def fnScriptPathUptoRow : OpenClaim := { program := "ytigomgblkieahaagreatdoor", sum := "a558ff2a410954ebe42a8df4394545b034079db720d607c9ba659d299adaf03b", func := "loop.example/cellcollector/laws.FnScriptPath", spec := "fnScriptPath", inPlace := ["internal/bytealg.CountString", "internal/bytealg.IndexByteString", "internal/bytealg.IndexString", "internal/abi.NoEscape"], unfollowed := true, recurses := true, named := ["unicode/utf8.first", "unicode/utf8.acceptRanges", "internal/bytealg.MaxLen", "strconv.ErrSyntax", "strconv.ErrRange", "internal/strconv.uint64pow10", "math/bits.deBruijn32tab", "math/bits.deBruijn64tab", "loop.example/cellcollector/impl.opWords"], apart := false, laid := [("math/bits.deBruijn32tab", laid_math_bits_deBruijn32tab), ("math/bits.deBruijn64tab", laid_math_bits_deBruijn64tab), ("internal/strconv.uint64pow10", laid_internal_strconv_uint64pow10), ("unicode/utf8.acceptRanges", laid_unicode_utf8_acceptRanges), ("strconv.ErrRange", laid_strconv_ErrRange), ("strconv.ErrSyntax", laid_strconv_ErrSyntax), ("loop.example/cellcollector/impl.opWords", laid_loop_example_cellcollector_impl_opWords), ("unicode/utf8.first", laid_unicode_utf8_first)], narrowed := true }
def FnScriptPathUptoSaid : Prop := fnScriptPathUptoRow.holds Tryz.pinned (OpenSpec.upto fnScriptPathSpec)

/-- 'laws.FnScriptOne', WHERE WHAT IT READS IS OF BULK AT MOST 1048576: true; the input reads as it did. -/
def fnScriptOneUptoRow : OpenClaim := { program := "ytigomgblkieahaagreatdoor", sum := "a558ff2a410954ebe42a8df4394545b034079db720d607c9ba659d299adaf03b", func := "loop.example/cellcollector/laws.FnScriptOne", spec := "fnScriptOne", inPlace := ["internal/bytealg.CountString", "internal/bytealg.IndexByteString", "internal/bytealg.IndexString", "internal/abi.NoEscape"], unfollowed := true, recurses := true, named := ["loop.example/cellcollector/impl.opWords", "internal/strconv.uint64pow10", "math/bits.deBruijn32tab", "math/bits.deBruijn64tab", "unicode/utf8.first", "unicode/utf8.acceptRanges", "internal/bytealg.MaxLen", "strconv.ErrSyntax", "strconv.ErrRange"], apart := false, laid := [("math/bits.deBruijn32tab", laid_math_bits_deBruijn32tab), ("math/bits.deBruijn64tab", laid_math_bits_deBruijn64tab), ("internal/strconv.uint64pow10", laid_internal_strconv_uint64pow10), ("unicode/utf8.acceptRanges", laid_unicode_utf8_acceptRanges), ("strconv.ErrRange", laid_strconv_ErrRange), ("strconv.ErrSyntax", laid_strconv_ErrSyntax), ("loop.example/cellcollector/impl.opWords", laid_loop_example_cellcollector_impl_opWords), ("unicode/utf8.first", laid_unicode_utf8_first)], narrowed := true }
def FnScriptOneUptoSaid : Prop := fnScriptOneUptoRow.holds Tryz.pinned (OpenSpec.upto fnScriptOneSpec)

/-- 'laws.FnScriptAgain', WHERE WHAT IT READS IS OF BULK AT MOST 1048576: true; the input reads as it did. -/
def fnScriptAgainUptoRow : OpenClaim := { program := "ytigomgblkieahaagreatdoor", sum := "a558ff2a410954ebe42a8df4394545b034079db720d607c9ba659d299adaf03b", func := "loop.example/cellcollector/laws.FnScriptAgain", spec := "fnScriptAgain", inPlace := ["internal/abi.NoEscape", "internal/bytealg.MakeNoZero", "internal/bytealg.CountString", "internal/bytealg.IndexByteString", "internal/bytealg.IndexString"], unfollowed := true, recurses := true, named := ["loop.example/cellcollector/impl.opWords", "internal/strconv.uint64pow10", "math/bits.deBruijn32tab", "math/bits.deBruijn64tab", "unicode/utf8.first", "unicode/utf8.acceptRanges", "internal/bytealg.MaxLen", "strconv.ErrSyntax", "strconv.ErrRange"], apart := false, laid := [("math/bits.deBruijn32tab", laid_math_bits_deBruijn32tab), ("math/bits.deBruijn64tab", laid_math_bits_deBruijn64tab), ("internal/strconv.uint64pow10", laid_internal_strconv_uint64pow10), ("unicode/utf8.acceptRanges", laid_unicode_utf8_acceptRanges), ("strconv.ErrRange", laid_strconv_ErrRange), ("strconv.ErrSyntax", laid_strconv_ErrSyntax), ("loop.example/cellcollector/impl.opWords", laid_loop_example_cellcollector_impl_opWords), ("unicode/utf8.first", laid_unicode_utf8_first)], narrowed := true }
def FnScriptAgainUptoSaid : Prop := fnScriptAgainUptoRow.holds Tryz.pinned (OpenSpec.upto fnScriptAgainSpec)

/-- 'laws.FnScriptCopy', WHERE WHAT IT READS IS OF BULK AT MOST 1048576: true; the input reads as it did. -/
def fnScriptCopyUptoRow : OpenClaim := { program := "ytigomgblkieahaagreatdoor", sum := "a558ff2a410954ebe42a8df4394545b034079db720d607c9ba659d299adaf03b", func := "loop.example/cellcollector/laws.FnScriptCopy", spec := "fnScriptCopy", inPlace := ["internal/abi.NoEscape", "internal/bytealg.MakeNoZero", "internal/bytealg.CountString", "internal/bytealg.IndexByteString", "internal/bytealg.IndexString"], unfollowed := true, recurses := true, named := ["loop.example/cellcollector/impl.opWords", "internal/strconv.uint64pow10", "math/bits.deBruijn32tab", "math/bits.deBruijn64tab", "unicode/utf8.first", "unicode/utf8.acceptRanges", "internal/bytealg.MaxLen", "strconv.ErrSyntax", "strconv.ErrRange"], apart := false, laid := [("math/bits.deBruijn32tab", laid_math_bits_deBruijn32tab), ("math/bits.deBruijn64tab", laid_math_bits_deBruijn64tab), ("internal/strconv.uint64pow10", laid_internal_strconv_uint64pow10), ("unicode/utf8.acceptRanges", laid_unicode_utf8_acceptRanges), ("strconv.ErrRange", laid_strconv_ErrRange), ("strconv.ErrSyntax", laid_strconv_ErrSyntax), ("loop.example/cellcollector/impl.opWords", laid_loop_example_cellcollector_impl_opWords), ("unicode/utf8.first", laid_unicode_utf8_first)], narrowed := true }
def FnScriptCopyUptoSaid : Prop := fnScriptCopyUptoRow.holds Tryz.pinned (OpenSpec.upto fnScriptCopySpec)

/-- 'laws.FnScriptFinish', WHERE WHAT IT READS IS OF BULK AT MOST 1048576: true; the input reads as it did. -/
def fnScriptFinishUptoRow : OpenClaim := { program := "ytigomgblkieahaagreatdoor", sum := "a558ff2a410954ebe42a8df4394545b034079db720d607c9ba659d299adaf03b", func := "loop.example/cellcollector/laws.FnScriptFinish", spec := "fnScriptFinish", inPlace := ["internal/abi.NoEscape", "internal/bytealg.MakeNoZero", "internal/bytealg.CountString", "internal/bytealg.IndexByteString", "internal/bytealg.IndexString"], unfollowed := true, recurses := true, named := ["loop.example/cellcollector/impl.opWords", "internal/strconv.uint64pow10", "math/bits.deBruijn32tab", "math/bits.deBruijn64tab", "unicode/utf8.first", "unicode/utf8.acceptRanges", "internal/bytealg.MaxLen", "strconv.ErrSyntax", "strconv.ErrRange"], apart := false, laid := [("math/bits.deBruijn32tab", laid_math_bits_deBruijn32tab), ("math/bits.deBruijn64tab", laid_math_bits_deBruijn64tab), ("internal/strconv.uint64pow10", laid_internal_strconv_uint64pow10), ("unicode/utf8.acceptRanges", laid_unicode_utf8_acceptRanges), ("strconv.ErrRange", laid_strconv_ErrRange), ("strconv.ErrSyntax", laid_strconv_ErrSyntax), ("loop.example/cellcollector/impl.opWords", laid_loop_example_cellcollector_impl_opWords), ("unicode/utf8.first", laid_unicode_utf8_first)], narrowed := true }
def FnScriptFinishUptoSaid : Prop := fnScriptFinishUptoRow.holds Tryz.pinned (OpenSpec.upto fnScriptFinishSpec)

/-- 'laws.FnScriptLose', WHERE WHAT IT READS IS OF BULK AT MOST 1048576: true; the input reads as it did. -/
def fnScriptLoseUptoRow : OpenClaim := { program := "ytigomgblkieahaagreatdoor", sum := "a558ff2a410954ebe42a8df4394545b034079db720d607c9ba659d299adaf03b", func := "loop.example/cellcollector/laws.FnScriptLose", spec := "fnScriptLose", inPlace := ["internal/abi.NoEscape", "internal/bytealg.MakeNoZero", "internal/bytealg.CountString", "internal/bytealg.IndexByteString", "internal/bytealg.IndexString"], unfollowed := true, recurses := true, named := ["loop.example/cellcollector/impl.opWords", "internal/strconv.uint64pow10", "math/bits.deBruijn32tab", "math/bits.deBruijn64tab", "unicode/utf8.first", "unicode/utf8.acceptRanges", "internal/bytealg.MaxLen", "strconv.ErrSyntax", "strconv.ErrRange"], apart := false, laid := [("math/bits.deBruijn32tab", laid_math_bits_deBruijn32tab), ("math/bits.deBruijn64tab", laid_math_bits_deBruijn64tab), ("internal/strconv.uint64pow10", laid_internal_strconv_uint64pow10), ("unicode/utf8.acceptRanges", laid_unicode_utf8_acceptRanges), ("strconv.ErrRange", laid_strconv_ErrRange), ("strconv.ErrSyntax", laid_strconv_ErrSyntax), ("loop.example/cellcollector/impl.opWords", laid_loop_example_cellcollector_impl_opWords), ("unicode/utf8.first", laid_unicode_utf8_first)], narrowed := true }
def FnScriptLoseUptoSaid : Prop := fnScriptLoseUptoRow.holds Tryz.pinned (OpenSpec.upto fnScriptLoseSpec)

/-- 'laws.FnScriptOps', WHERE WHAT IT READS IS OF BULK AT MOST 1048576: true; the input reads as it did. -/
def fnScriptOpsUptoRow : OpenClaim := { program := "ytigomgblkieahaagreatdoor", sum := "a558ff2a410954ebe42a8df4394545b034079db720d607c9ba659d299adaf03b", func := "loop.example/cellcollector/laws.FnScriptOps", spec := "fnScriptOps", inPlace := ["internal/abi.NoEscape", "internal/bytealg.MakeNoZero", "internal/bytealg.CountString", "internal/bytealg.IndexByteString", "internal/bytealg.IndexString"], unfollowed := true, recurses := true, named := ["loop.example/cellcollector/impl.opWords", "internal/strconv.uint64pow10", "math/bits.deBruijn32tab", "math/bits.deBruijn64tab", "unicode/utf8.first", "unicode/utf8.acceptRanges", "internal/bytealg.MaxLen", "strconv.ErrSyntax", "strconv.ErrRange"], apart := false, laid := [("math/bits.deBruijn32tab", laid_math_bits_deBruijn32tab), ("math/bits.deBruijn64tab", laid_math_bits_deBruijn64tab), ("internal/strconv.uint64pow10", laid_internal_strconv_uint64pow10), ("unicode/utf8.acceptRanges", laid_unicode_utf8_acceptRanges), ("strconv.ErrRange", laid_strconv_ErrRange), ("strconv.ErrSyntax", laid_strconv_ErrSyntax), ("loop.example/cellcollector/impl.opWords", laid_loop_example_cellcollector_impl_opWords), ("unicode/utf8.first", laid_unicode_utf8_first)], narrowed := true }
def FnScriptOpsUptoSaid : Prop := fnScriptOpsUptoRow.holds Tryz.pinned (OpenSpec.upto fnScriptOpsSpec)

/-- 'laws.FnScriptLeaked', WHERE WHAT IT READS IS OF BULK AT MOST 1048576: true; the input reads as it did. -/
def fnScriptLeakedUptoRow : OpenClaim := { program := "ytigomgblkieahaagreatdoor", sum := "a558ff2a410954ebe42a8df4394545b034079db720d607c9ba659d299adaf03b", func := "loop.example/cellcollector/laws.FnScriptLeaked", spec := "fnScriptLeaked", inPlace := ["internal/abi.NoEscape", "internal/bytealg.MakeNoZero", "internal/bytealg.CountString", "internal/bytealg.IndexByteString", "internal/bytealg.IndexString"], unfollowed := true, recurses := true, named := ["loop.example/cellcollector/impl.opWords", "internal/strconv.uint64pow10", "math/bits.deBruijn32tab", "math/bits.deBruijn64tab", "unicode/utf8.first", "unicode/utf8.acceptRanges", "internal/bytealg.MaxLen", "strconv.ErrSyntax", "strconv.ErrRange"], apart := false, laid := [("math/bits.deBruijn32tab", laid_math_bits_deBruijn32tab), ("math/bits.deBruijn64tab", laid_math_bits_deBruijn64tab), ("internal/strconv.uint64pow10", laid_internal_strconv_uint64pow10), ("unicode/utf8.acceptRanges", laid_unicode_utf8_acceptRanges), ("strconv.ErrRange", laid_strconv_ErrRange), ("strconv.ErrSyntax", laid_strconv_ErrSyntax), ("loop.example/cellcollector/impl.opWords", laid_loop_example_cellcollector_impl_opWords), ("unicode/utf8.first", laid_unicode_utf8_first)], narrowed := true }
def FnScriptLeakedUptoSaid : Prop := fnScriptLeakedUptoRow.holds Tryz.pinned (OpenSpec.upto fnScriptLeakedSpec)

/-- 'laws.FnScriptRun', WHERE WHAT IT READS IS OF BULK AT MOST 1048576: true; the input reads as it did. -/
def fnScriptRunUptoRow : OpenClaim := { program := "ytigomgblkieahaagreatdoor", sum := "a558ff2a410954ebe42a8df4394545b034079db720d607c9ba659d299adaf03b", func := "loop.example/cellcollector/laws.FnScriptRun", spec := "fnScriptRun", inPlace := ["internal/abi.NoEscape", "internal/bytealg.MakeNoZero", "internal/bytealg.IndexByteString", "internal/bytealg.IndexString", "internal/bytealg.CountString"], unfollowed := true, recurses := true, named := ["loop.example/cellcollector/impl.opWords", "internal/strconv.uint64pow10", "math/bits.deBruijn32tab", "math/bits.deBruijn64tab", "unicode/utf8.first", "unicode/utf8.acceptRanges", "internal/bytealg.MaxLen", "strconv.ErrSyntax", "strconv.ErrRange"], apart := false, laid := [("math/bits.deBruijn32tab", laid_math_bits_deBruijn32tab), ("math/bits.deBruijn64tab", laid_math_bits_deBruijn64tab), ("internal/strconv.uint64pow10", laid_internal_strconv_uint64pow10), ("unicode/utf8.acceptRanges", laid_unicode_utf8_acceptRanges), ("strconv.ErrRange", laid_strconv_ErrRange), ("strconv.ErrSyntax", laid_strconv_ErrSyntax), ("loop.example/cellcollector/impl.opWords", laid_loop_example_cellcollector_impl_opWords), ("unicode/utf8.first", laid_unicode_utf8_first)], narrowed := true }
def FnScriptRunUptoSaid : Prop := fnScriptRunUptoRow.holds Tryz.pinned (OpenSpec.upto fnScriptRunSpec)

end Rows
end Go.Proofs.YtigomgblkieahaaGreatDoor
