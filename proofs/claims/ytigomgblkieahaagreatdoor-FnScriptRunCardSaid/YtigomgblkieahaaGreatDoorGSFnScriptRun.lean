/- What is proved here: that the typed models of functions of the translated program are sound. -/
import Derived.Test.YtigomgblkieahaaGreatDoorGM
import Derived.Test.YtigomgblkieahaaGreatDoorProg
import Derived.KernelRfl
import Derived.Laws.Externs
import Derived.Lib.Builder
import Derived.Lib.UnsafeStr
import Derived.Shelf.Strconv.AtoiAll
import Derived.Shelf.Strconv.Itoa3
import Derived.Shelf.Strings.Cut
import Derived.Shelf.Strings.OnBuilder
import Derived.Shelf.Strings.SlTrimAscii
import Derived.Shelf.Strings.Split
import Derived.Test.YtigomgblkieahaaGreatDoorT21
import Derived.Test.YtigomgblkieahaaGreatDoorT22
import Derived.Test.YtigomgblkieahaaGreatDoorT23
import Derived.WalkKit
import Derived.Test.YtigomgblkieahaaGreatDoorLay
namespace Go.Ab
set_option linter.unusedVariables false
open Go.Proofs
noncomputable abbrev PP:Program:=Tryz.prog
theorem mixed:PP.follows .mixedOrders=true:=by kernel_rfl
def K60:List Tok:=[.p .byte]
def B60:Body K60:=fun x K=>Ms_l13Open x.1 (fun r1 r2=>K (.ptr 0 0) [⟨true, .cells [.pl .byte r1, .int .i64 r2]⟩])
def G60:=rdG K60 B60
def H60:List (Nat×LH):=[]
def W60:List (Nat×List (Nat×List Nat)):=[]
def Γ60:List (Nat×Con):=[]
theorem e60:Eqn PP 11 Γ60 H60 W60 (bodyOf Tryz.f60) [.tmp 2] [.pc [.pure .byte, .x]] [] K60 B60:=fun _ K=>by kernel_rfl
theorem s60:CSound PP 60 G60:=fun_sk mixed Tryz.func60 (by decide) (by kernel_rfl) Tryz.ntmps60 Tryz.results60 (GSound.nil) e60
def Uc60:=useC [.pure .byte] G60
theorem u60:CSound PP 60 Uc60:=useC_ok s60
def K62:List Tok:=[.Q 0, .i .i64, .bC true, .p .byte, .i .i64, .E]
def B62:Body K62:=fun x K=>Ms_l13Rd_pick x.1 x.2.1 x.2.2.1 (fun r1 r2=>K (.int .i64 r1) [⟨true, .cells [.pl .byte x.2.1, .int .i64 r2]⟩])
def G62:=rdG K62 B62
def H62:List (Nat×LH):=[]
def W62:List (Nat×List (Nat×List Nat)):=[]
def Γ62:List (Nat×Con):=[]
theorem e62:Eqn PP 99 Γ62 H62 W62 (bodyOf Tryz.f62) [.tmp 4] [.x] [] K62 B62:=fun _ _ _ K=>by kernel_rfl
theorem s62:CSound PP 62 G62:=fun_sk mixed Tryz.func62 (by decide) (by kernel_rfl) Tryz.ntmps62 Tryz.results62 (GSound.nil) e62
def Uc62:=useC [.pc [.pure .byte, .x], .x] G62
theorem u62:CSound PP 62 Uc62:=useC_ok s62
def K63:List Tok:=[.Q 0, .p .int, .bC true, .p .byte, .i .i64, .E]
def B63:Body K63:=fun x K=>Ms_l13Rd_num x.1 x.2.1 x.2.2.1 (fun r1 r2=>K (.int .i64 r1) [⟨true, .cells [.pl .byte x.2.1, .int .i64 r2]⟩])
def G63:=rdG K63 B63
def H63:List (Nat×LH):=[]
def W63:List (Nat×List (Nat×List Nat)):=[]
def Γ63:List (Nat×Con):=[(62,Uc62)]
theorem e63:Eqn PP 12 Γ63 H63 W63 (bodyOf Tryz.f63) [.tmp 4] [.x] [] K63 B63:=fun _ _ _ K=>by kernel_rfl
theorem s63:CSound PP 63 G63:=fun_sk mixed Tryz.func63 (by decide) (by kernel_rfl) Tryz.ntmps63 Tryz.results63 (.cons u62 (GSound.nil)) e63
def Uc63:=useC [.pc [.pure .byte, .x], .pure .int] G63
theorem u63:CSound PP 63 Uc63:=useC_ok s63
def K157:List Tok:=[.i .u64, .i .u64]
def B157:Body K157:=fun x K=>M_math_bits_Mul64 x.1 x.2.1 (fun r1 r2=>K (.tup [.int .u64 r1, .int .u64 r2]) [])
def G157:=rdG K157 B157
def H157:List (Nat×LH):=[]
def W157:List (Nat×List (Nat×List Nat)):=[]
def Γ157:List (Nat×Con):=[]
theorem e157:Eqn PP 51 Γ157 H157 W157 (bodyOf Tryz.f157) [.tmp 4, .tmp 5] [.x, .x] [] K157 B157:=fun _ _ K=>by kernel_rfl
theorem s157:CSound PP 157 G157:=fun_sk mixed Tryz.func157 (by decide) (by kernel_rfl) Tryz.ntmps157 Tryz.results157 (GSound.nil) e157
def Uc157:=useC [.x, .x] G157
theorem u157:CSound PP 157 Uc157:=useC_ok s157
def K122:List Tok:=[.i .u64, .i .u64]
def B122:Body K122:=fun x K=>M_math_bits_Mul x.1 x.2.1 (fun r1 r2=>K (.tup [.int .u64 r1, .int .u64 r2]) [])
def G122:=rdG K122 B122
def H122:List (Nat×LH):=[]
def W122:List (Nat×List (Nat×List Nat)):=[]
def Γ122:List (Nat×Con):=[(157,Uc157)]
theorem e122:Eqn PP 30 Γ122 H122 W122 (bodyOf Tryz.f122) [.tmp 4, .tmp 5] [.x, .x] [] K122 B122:=fun _ _ K=>by kernel_rfl
theorem s122:CSound PP 122 G122:=fun_sk mixed Tryz.func122 (by decide) (by kernel_rfl) Tryz.ntmps122 Tryz.results122 (.cons u157 (GSound.nil)) e122
def Uc122:=useC [.x, .x] G122
theorem u122:CSound PP 122 Uc122:=useC_ok s122
def K85:List Tok:=[.p .int, .i .i64]
def B85:Body K85:=fun x K=>M_Repeat_int x.1 x.2.1 (fun r1=>K (.sl 0) [⟨true, .list .int r1⟩])
def G85:=rdG K85 B85
noncomputable def H85_0:=mkH [(7, .own .int),(8, .x)] [.L 0, .i .i64, .bL true .int]
noncomputable def H85:List (Nat×LH):=[(0,H85_0)]
def W85:List (Nat×List (Nat×List Nat)):=[(2000009,[(0,[3,6])])]
def Γ85:List (Nat×Con):=[(122,Uc122)]
theorem e85:Eqn PP 48 Γ85 H85 W85 (bodyOf Tryz.f85) [.tmp 4] [.own .int] [] K85 B85:=fun _ _ K=>by kernel_rfl
theorem s85:CSound PP 85 G85:=fun_sk mixed Tryz.func85 (by decide) (by kernel_rfl) Tryz.ntmps85 Tryz.results85 (.cons u122 (GSound.nil)) e85
def Uc85:=useC [.pure .int, .x] G85
theorem u85:CSound PP 85 Uc85:=useC_ok s85
def K37:List Tok:=[.i .i64, .i .i64]
def B37:Body K37:=fun x K=>Mi_NewHeap x.1 x.2.1 (fun r1 r2 r3 r4=>K (.tup [.agg [.sl 0, .sl 1, .sl 2], .bool r1]) [⟨true, .list .int r2⟩,⟨true, .list .int r3⟩,⟨true, .list .int r4⟩])
def G37:=rdG K37 B37
def H37:List (Nat×LH):=[]
def W37:List (Nat×List (Nat×List Nat)):=[]
def Γ37:List (Nat×Con):=[(85,Uc85)]
theorem e37:Eqn PP 31 Γ37 H37 W37 (bodyOf Tryz.f37) [.cell 4 27, .tmp 5] [.ag [.own .int, .own .int, .own .int], .bl] [] K37 B37:=fun _ _ K=>by kernel_rfl
theorem s37:CSound PP 37 G37:=fun_sk mixed Tryz.func37 (by decide) (by kernel_rfl) Tryz.ntmps37 Tryz.results37 (.cons u85 (GSound.nil)) e37
def Uc37:=useC [.x, .x] G37
theorem u37:CSound PP 37 Uc37:=useC_ok s37
def K14:List Tok:=[.i .i64, .i .i64]
def B14:Body K14:=fun x K=>Mi_NewStore x.1 x.2.1 (fun r1 r2 r3 r4 r5=>K (.tup [.agg [.sl 0, .sl 1, .sl 2, .sl 3], .bool r1]) [⟨true, .list .int r2⟩,⟨true, .list .int r3⟩,⟨true, .list .int r4⟩,⟨true, .list .int r5⟩])
def G14:=rdG K14 B14
noncomputable def H14_0:=mkH [(4, .pc [.own .int, .own .int, .own .int, .own .int]),(8, .pc [.own .int, .own .int, .own .int, .own .int]),(21, .x),(22, .x)] [.Q 0, .Q 1, .i .i64, .i .i64, .bC true, .L 2, .L 3, .L 4, .L 5, .E, .bC true, .L 6, .L 7, .L 8, .L 9, .E, .bL true .int, .bL true .int, .bL true .int, .bL true .int, .bL true .int, .bL true .int, .bL true .int, .bL true .int]
noncomputable def H14:List (Nat×LH):=[(0,H14_0)]
def W14:List (Nat×List (Nat×List Nat)):=[]
def Γ14:List (Nat×Con):=[(37,Uc37)]
theorem e14:Eqn PP 33 Γ14 H14 W14 (bodyOf Tryz.f14) [.cell 4 29, .tmp 5] [.ag [.own .int, .own .int, .own .int, .own .int], .bl] [] K14 B14:=fun _ _ K=>by kernel_rfl
theorem s14:CSound PP 14 G14:=fun_sk mixed Tryz.func14 (by decide) (by kernel_rfl) Tryz.ntmps14 Tryz.results14 (.cons u37 (GSound.nil)) e14
def Uc14:=useC [.x, .x] G14
theorem u14:CSound PP 14 Uc14:=useC_ok s14
def K86:List Tok:=[.i .i64]
def B86:Body K86:=fun x K=>Ms_l1Many x.1 (fun r1=>K (.sl 0) [⟨true, .list .int r1⟩])
def G86:=rdG K86 B86
noncomputable def H86_0:=mkH [(0, .x),(3, .own .int),(4, .x)] [.i .i64, .L 0, .i .i64, .bL true .int]
noncomputable def H86:List (Nat×LH):=[(0,H86_0)]
def W86:List (Nat×List (Nat×List Nat)):=[]
def Γ86:List (Nat×Con):=[]
theorem e86:Eqn PP 15 Γ86 H86 W86 (bodyOf Tryz.f86) [.tmp 2] [.own .int] [] K86 B86:=fun _ K=>by kernel_rfl
theorem s86:CSound PP 86 G86:=fun_sk mixed Tryz.func86 (by decide) (by kernel_rfl) Tryz.ntmps86 Tryz.results86 (GSound.nil) e86
def Uc86:=useC [.x] G86
theorem u86:CSound PP 86 Uc86:=useC_ok s86
def K38:List Tok:=[.i .i64, .i .i64]
def B38:Body K38:=fun x K=>Ms_NewHeap x.1 x.2.1 (fun r1 r2 r3 r4=>K (.tup [.agg [.sl 0, .sl 1, .sl 2], .bool r1]) [⟨true, .list .int r2⟩,⟨true, .list .int r3⟩,⟨true, .list .int r4⟩])
def G38:=rdG K38 B38
def H38:List (Nat×LH):=[]
def W38:List (Nat×List (Nat×List Nat)):=[]
def Γ38:List (Nat×Con):=[(86,Uc86)]
theorem e38:Eqn PP 28 Γ38 H38 W38 (bodyOf Tryz.f38) [.cell 4 27, .tmp 5] [.ag [.own .int, .own .int, .own .int], .bl] [] K38 B38:=fun _ _ K=>by kernel_rfl
theorem s38:CSound PP 38 G38:=fun_sk mixed Tryz.func38 (by decide) (by kernel_rfl) Tryz.ntmps38 Tryz.results38 (.cons u86 (GSound.nil)) e38
def Uc38:=useC [.x, .x] G38
theorem u38:CSound PP 38 Uc38:=useC_ok s38
def K15:List Tok:=[.i .i64, .i .i64]
def B15:Body K15:=fun x K=>Ms_NewStore x.1 x.2.1 (fun r1 r2 r3 r4 r5=>K (.tup [.agg [.sl 0, .sl 1, .sl 2, .sl 3], .bool r1]) [⟨true, .list .int r2⟩,⟨true, .list .int r3⟩,⟨true, .list .int r4⟩,⟨true, .list .int r5⟩])
def G15:=rdG K15 B15
noncomputable def H15_0:=mkH [(0, .x),(4, .pc [.own .int, .own .int, .own .int, .own .int]),(8, .pc [.own .int, .own .int, .own .int, .own .int]),(9, .x)] [.i .i64, .Q 0, .Q 1, .i .i64, .bC true, .L 2, .L 3, .L 4, .L 5, .E, .bC true, .L 6, .L 7, .L 8, .L 9, .E, .bL true .int, .bL true .int, .bL true .int, .bL true .int, .bL true .int, .bL true .int, .bL true .int, .bL true .int]
noncomputable def H15:List (Nat×LH):=[(0,H15_0)]
def W15:List (Nat×List (Nat×List Nat)):=[]
def Γ15:List (Nat×Con):=[(38,Uc38)]
theorem e15:Eqn PP 33 Γ15 H15 W15 (bodyOf Tryz.f15) [.cell 4 29, .tmp 5] [.ag [.own .int, .own .int, .own .int, .own .int], .bl] [] K15 B15:=fun _ _ K=>by kernel_rfl
theorem s15:CSound PP 15 G15:=fun_sk mixed Tryz.func15 (by decide) (by kernel_rfl) Tryz.ntmps15 Tryz.results15 (.cons u38 (GSound.nil)) e15
def Uc15:=useC [.x, .x] G15
theorem u15:CSound PP 15 Uc15:=useC_ok s15
def K66:List Tok:=[.A, .p .int, .p .int, .p .int, .E]
def B66:Body K66:=fun x K=>Mi_HeapValid x.1 x.2.1 x.2.2.1 (fun r1=>K (.bool r1) [])
def G66:=rdG K66 B66
noncomputable def H66_0:=mkH [(1, .pc [.pure .int, .pure .int, .pure .int]),(44, .own .ints),(45, .x),(46, .x)] [.Q 0, .L 1, .i .i64, .i .i64, .bC true, .p .int, .p .int, .p .int, .E, .bL true .ints]
noncomputable def H66_2:=mkH [(1, .pc [.pure .int, .pure .int, .pure .int]),(44, .own .ints),(45, .x),(46, .x),(50, .pure .int),(51, .x),(52, .x)] [.Q 0, .L 1, .i .i64, .i .i64, .p .int, .i .i64, .i .i64, .bC true, .p .int, .p .int, .p .int, .E, .bL true .ints]
noncomputable def H66:List (Nat×LH):=[(0,H66_0),(2,H66_2)]
def W66:List (Nat×List (Nat×List Nat)):=[]
def Γ66:List (Nat×Con):=[]
theorem e66:Eqn PP 67 Γ66 H66 W66 (bodyOf Tryz.f66) [.tmp 2] [.bl] [] K66 B66:=fun _ _ _ K=>by kernel_rfl
theorem s66:CSound PP 66 G66:=fun_sk mixed Tryz.func66 (by decide) (by kernel_rfl) Tryz.ntmps66 Tryz.results66 (GSound.nil) e66
def Uc66:=useC [.ag [.pure .int, .pure .int, .pure .int]] G66
theorem u66:CSound PP 66 Uc66:=useC_ok s66
def K168:List Tok:=[.T .nil, .i .i64]
def B168:Body K168:=fun x K=>M_Grow_int x.1 (fun r1=>K (.sl 0) [⟨true, .list .int r1⟩])
def G168:=rdG K168 B168
def H168:List (Nat×LH):=[]
def W168:List (Nat×List (Nat×List Nat)):=[]
def Γ168:List (Nat×Con):=[]
theorem e168:Eqn PP 27 Γ168 H168 W168 (bodyOf Tryz.f168) [.tmp 4] [.own .int] [] K168 B168:=fun _ K=>by kernel_rfl
theorem s168:CSound PP 168 G168:=fun_sk mixed Tryz.func168 (by decide) (by kernel_rfl) Tryz.ntmps168 Tryz.results168 (GSound.nil) e168
def Uc168:=useC [.x, .x] G168
theorem u168:CSound PP 168 Uc168:=useC_ok s168
def K133:List Tok:=[.p .ints]
def B133:Body K133:=fun x K=>M_Concat_int x.1 (fun r1=>K (.sl 0) [⟨true, .list .int r1⟩])
def G133:=rdG K133 B133
noncomputable def H133_0:=mkH [(0, .pure .ints),(3, .x),(9, .pure .ints),(10, .x),(11, .x)] [.p .ints, .i .i64, .p .ints, .i .i64, .i .i64]
noncomputable def H133_2:=mkH [(6, .own .int),(25, .pure .ints),(26, .x),(27, .x)] [.L 0, .p .ints, .i .i64, .i .i64, .bL true .int]
noncomputable def H133:List (Nat×LH):=[(0,H133_0),(2,H133_2)]
def W133:List (Nat×List (Nat×List Nat)):=[]
def Γ133:List (Nat×Con):=[(168,Uc168)]
theorem e133:Eqn PP 36 Γ133 H133 W133 (bodyOf Tryz.f133) [.tmp 2] [.own .int] [] K133 B133:=fun _ K=>by kernel_rfl
theorem s133:CSound PP 133 G133:=fun_sk mixed Tryz.func133 (by decide) (by kernel_rfl) Tryz.ntmps133 Tryz.results133 (.cons u168 (GSound.nil)) e133
def Uc133:=useC [.pure .ints] G133
theorem u133:CSound PP 133 Uc133:=useC_ok s133
def K95:List Tok:=[.A, .p .int, .p .int, .p .int, .E]
def B95:Body K95:=fun x K=>Mi_CountsOf x.1 x.2.1 x.2.2.1 (fun r1=>K (.sl 0) [⟨true, .list .int r1⟩])
def G95:=rdG K95 B95
noncomputable def H95_0:=mkH [(3, .own .int),(20, .own .int),(21, .x),(22, .x)] [.L 0, .L 1, .i .i64, .i .i64, .bL true .int, .bL true .int]
noncomputable def H95:List (Nat×LH):=[(0,H95_0)]
def W95:List (Nat×List (Nat×List Nat)):=[]
def Γ95:List (Nat×Con):=[(66,Uc66),(133,Uc133)]
theorem e95:Eqn PP 36 Γ95 H95 W95 (bodyOf Tryz.f95) [.tmp 2] [.own .int] [] K95 B95:=fun _ _ _ K=>by kernel_rfl
theorem s95:CSound PP 95 G95:=fun_sk mixed Tryz.func95 (by decide) (by kernel_rfl) Tryz.ntmps95 Tryz.results95 (.cons u66 (.cons u133 (GSound.nil))) e95
def Uc95:=useC [.ag [.pure .int, .pure .int, .pure .int]] G95
theorem u95:CSound PP 95 Uc95:=useC_ok s95
def K69:List Tok:=[.p .int, .i .i64]
def B69:Body K69:=fun x K=>M_Index_int x.1 x.2.1 (fun r1=>K (.int .i64 r1) [])
def G69:=rdG K69 B69
noncomputable def H69_0:=mkH [(0, .pure .int),(1, .x),(7, .x),(8, .x)] [.p .int, .i .i64, .i .i64, .i .i64]
noncomputable def H69:List (Nat×LH):=[(0,H69_0)]
def W69:List (Nat×List (Nat×List Nat)):=[]
def Γ69:List (Nat×Con):=[]
theorem e69:Eqn PP 19 Γ69 H69 W69 (bodyOf Tryz.f69) [.tmp 4] [.x] [] K69 B69:=fun _ _ K=>by kernel_rfl
theorem s69:CSound PP 69 G69:=fun_sk mixed Tryz.func69 (by decide) (by kernel_rfl) Tryz.ntmps69 Tryz.results69 (GSound.nil) e69
def Uc69:=useC [.pure .int, .x] G69
theorem u69:CSound PP 69 Uc69:=useC_ok s69
def K77:List Tok:=[.p .int, .i .i64]
def B77:Body K77:=fun x K=>M_Contains_int x.1 x.2.1 (fun r1=>K (.bool r1) [])
def G77:=rdG K77 B77
def H77:List (Nat×LH):=[]
def W77:List (Nat×List (Nat×List Nat)):=[]
def Γ77:List (Nat×Con):=[(69,Uc69)]
theorem e77:Eqn PP 9 Γ77 H77 W77 (bodyOf Tryz.f77) [.tmp 4] [.bl] [] K77 B77:=fun _ _ K=>by kernel_rfl
theorem s77:CSound PP 77 G77:=fun_sk mixed Tryz.func77 (by decide) (by kernel_rfl) Tryz.ntmps77 Tryz.results77 (.cons u69 (GSound.nil)) e77
def Uc77:=useC [.pure .int, .x] G77
theorem u77:CSound PP 77 Uc77:=useC_ok s77
def K49:List Tok:=[.A, .p .int, .p .int, .p .int, .p .int, .E]
def B49:Body K49:=fun x K=>Mi_StoreValid x.1 x.2.1 x.2.2.1 x.2.2.2.1 (fun r1=>K (.bool r1) [])
def G49:=rdG K49 B49
noncomputable def H49_0:=mkH [(1, .pc [.pure .int, .pure .int, .pure .int, .pure .int]),(3, .own .int),(14, .pure .int),(15, .x),(16, .x)] [.Q 0, .L 1, .p .int, .i .i64, .i .i64, .bC true, .p .int, .p .int, .p .int, .p .int, .E, .bL true .int]
noncomputable def H49:List (Nat×LH):=[(0,H49_0)]
def W49:List (Nat×List (Nat×List Nat)):=[]
def Γ49:List (Nat×Con):=[(66,Uc66),(95,Uc95),(77,Uc77)]
theorem e49:Eqn PP 63 Γ49 H49 W49 (bodyOf Tryz.f49) [.tmp 2] [.bl] [] K49 B49:=fun _ _ _ _ K=>by kernel_rfl
theorem s49:CSound PP 49 G49:=fun_sk mixed Tryz.func49 (by decide) (by kernel_rfl) Tryz.ntmps49 Tryz.results49 (.cons u66 (.cons u95 (.cons u77 (GSound.nil)))) e49
def Uc49:=useC [.ag [.pure .int, .pure .int, .pure .int, .pure .int]] G49
theorem u49:CSound PP 49 Uc49:=useC_ok s49
def K71:List Tok:=[.A, .p .int, .p .int, .p .int, .p .int, .E]
def B71:Body K71:=fun x K=>Mi_NewGc x.1 x.2.1 x.2.2.1 x.2.2.2.1 (fun r1 r2 r3 r4=>K (.tup [.agg [.int .i64 r1, .sl 0, .int .i64 r2], .bool r3]) [⟨true, .list .int r4⟩])
def G71:=rdG K71 B71
def H71:List (Nat×LH):=[]
def W71:List (Nat×List (Nat×List Nat)):=[]
def Γ71:List (Nat×Con):=[(49,Uc49)]
theorem e71:Eqn PP 14 Γ71 H71 W71 (bodyOf Tryz.f71) [.cell 2 51, .tmp 3] [.ag [.x, .own .int, .x], .bl] [] K71 B71:=fun _ _ _ _ K=>by kernel_rfl
theorem s71:CSound PP 71 G71:=fun_sk mixed Tryz.func71 (by decide) (by kernel_rfl) Tryz.ntmps71 Tryz.results71 (.cons u49 (GSound.nil)) e71
def Uc71:=useC [.ag [.pure .int, .pure .int, .pure .int, .pure .int]] G71
theorem u71:CSound PP 71 Uc71:=useC_ok s71
def K52:List Tok:=[.A, .i .i64, .i .i64, .i .i64, .E, .i .i64]
def B52:Body K52:=fun x K=>Mi_OpValid x.1 x.2.1 x.2.2.1 x.2.2.2.1 (fun r1=>K (.bool r1) [])
def G52:=rdG K52 B52
def H52:List (Nat×LH):=[]
def W52:List (Nat×List (Nat×List Nat)):=[]
def Γ52:List (Nat×Con):=[]
theorem e52:Eqn PP 54 Γ52 H52 W52 (bodyOf Tryz.f52) [.tmp 4] [.bl] [] K52 B52:=fun _ _ _ _ K=>by kernel_rfl
theorem s52:CSound PP 52 G52:=fun_sk mixed Tryz.func52 (by decide) (by kernel_rfl) Tryz.ntmps52 Tryz.results52 (GSound.nil) e52
def Uc52:=useC [.ag [.x, .x, .x], .x] G52
theorem u52:CSound PP 52 Uc52:=useC_ok s52
def K64:List Tok:=[.p .op, .i .i64]
def B64:Body K64:=fun x K=>Mi_opsOk x.1 x.2.1 (fun r1=>K (.bool r1) [])
def G64:=rdG K64 B64
noncomputable def H64_0:=mkH [(0, .pure .op),(1, .x),(7, .pure .op),(8, .x),(9, .x)] [.p .op, .i .i64, .p .op, .i .i64, .i .i64]
noncomputable def H64:List (Nat×LH):=[(0,H64_0)]
def W64:List (Nat×List (Nat×List Nat)):=[]
def Γ64:List (Nat×Con):=[(52,Uc52)]
theorem e64:Eqn PP 21 Γ64 H64 W64 (bodyOf Tryz.f64) [.tmp 4] [.bl] [] K64 B64:=fun _ _ K=>by kernel_rfl
theorem s64:CSound PP 64 G64:=fun_sk mixed Tryz.func64 (by decide) (by kernel_rfl) Tryz.ntmps64 Tryz.results64 (.cons u52 (GSound.nil)) e64
def Uc64:=useC [.pure .op, .x] G64
theorem u64:CSound PP 64 Uc64:=useC_ok s64
def K99:List Tok:=[.p .int]
def B99:Body K99:=fun x K=>M_Clone_int x.1 (fun r1=>K (.sl 0) [⟨true, .list .int r1⟩])
def G99:=rdG K99 B99
def H99:List (Nat×LH):=[]
def W99:List (Nat×List (Nat×List Nat)):=[]
def Γ99:List (Nat×Con):=[]
theorem e99:Eqn PP 8 Γ99 H99 W99 (bodyOf Tryz.f99) [.tmp 2] [.own .int] [] K99 B99:=fun _ K=>by kernel_rfl
theorem s99:CSound PP 99 G99:=fun_sk mixed Tryz.func99 (by decide) (by kernel_rfl) Tryz.ntmps99 Tryz.results99 (GSound.nil) e99
def Uc99:=useC [.pure .int] G99
theorem u99:CSound PP 99 Uc99:=useC_ok s99
def K98:List Tok:=[.A, .p .int, .p .int, .p .int, .E]
def B98:Body K98:=fun x K=>Mi_copied x.1 x.2.1 x.2.2.1 (fun r1 r2 r3=>K (.agg [.sl 0, .sl 1, .sl 2]) [⟨true, .list .int r1⟩,⟨true, .list .int r2⟩,⟨true, .list .int r3⟩])
def G98:=rdG K98 B98
def H98:List (Nat×LH):=[]
def W98:List (Nat×List (Nat×List Nat)):=[]
def Γ98:List (Nat×Con):=[(99,Uc99)]
theorem e98:Eqn PP 13 Γ98 H98 W98 (bodyOf Tryz.f98) [.cell 2 27] [.ag [.own .int, .own .int, .own .int]] [] K98 B98:=fun _ _ _ K=>by kernel_rfl
theorem s98:CSound PP 98 G98:=fun_sk mixed Tryz.func98 (by decide) (by kernel_rfl) Tryz.ntmps98 Tryz.results98 (.cons u99 (GSound.nil)) e98
def Uc98:=useC [.ag [.pure .int, .pure .int, .pure .int]] G98
theorem u98:CSound PP 98 Uc98:=useC_ok s98
def K58:List Tok:=[.A, .p .int, .p .int, .p .int, .p .int, .E]
def B58:Body K58:=fun x K=>Mi_again x.1 x.2.1 x.2.2.1 x.2.2.2.1 (fun r1 r2 r3 r4=>K (.agg [.sl 0, .sl 1, .sl 2, .sl 3]) [⟨true, .list .int r1⟩,⟨true, .list .int r2⟩,⟨true, .list .int r3⟩,⟨true, .list .int r4⟩])
def G58:=rdG K58 B58
def H58:List (Nat×LH):=[]
def W58:List (Nat×List (Nat×List Nat)):=[]
def Γ58:List (Nat×Con):=[(98,Uc98),(99,Uc99)]
theorem e58:Eqn PP 10 Γ58 H58 W58 (bodyOf Tryz.f58) [.cell 2 29] [.ag [.own .int, .own .int, .own .int, .own .int]] [] K58 B58:=fun _ _ _ _ K=>by kernel_rfl
theorem s58:CSound PP 58 G58:=fun_sk mixed Tryz.func58 (by decide) (by kernel_rfl) Tryz.ntmps58 Tryz.results58 (.cons u98 (.cons u99 (GSound.nil))) e58
def Uc58:=useC [.ag [.pure .int, .pure .int, .pure .int, .pure .int]] G58
theorem u58:CSound PP 58 Uc58:=useC_ok s58
def K72:List Tok:=[.p .op]
def B72:Body K72:=fun x K=>M_Clone_Op x.1 (fun r1=>K (.sl 0) [⟨true, .list .op r1⟩])
def G72:=rdG K72 B72
def H72:List (Nat×LH):=[]
def W72:List (Nat×List (Nat×List Nat)):=[]
def Γ72:List (Nat×Con):=[]
theorem e72:Eqn PP 8 Γ72 H72 W72 (bodyOf Tryz.f72) [.tmp 2] [.own .op] [] K72 B72:=fun _ K=>by kernel_rfl
theorem s72:CSound PP 72 G72:=fun_sk mixed Tryz.func72 (by decide) (by kernel_rfl) Tryz.ntmps72 Tryz.results72 (GSound.nil) e72
def Uc72:=useC [.pure .op] G72
theorem u72:CSound PP 72 Uc72:=useC_ok s72
def K29:List Tok:=[.A, .p .int, .p .int, .p .int, .p .int, .E, .p .op]
def B29:Body K29:=fun x K=>Mi_NewBoth x.1 x.2.1 x.2.2.1 x.2.2.2.1 x.2.2.2.2.1 (fun r1 r2 r3 r4 r5 r6 r7 r8 r9 r10 r11=>K (.tup [.agg [.sl 0, .sl 1, .sl 2, .sl 3, .int .i64 r1, .sl 4, .int .i64 r2, .sl 5, .int .i64 r3, .bool r4], .bool r5]) [⟨true, .list .int r6⟩,⟨true, .list .int r7⟩,⟨true, .list .int r8⟩,⟨true, .list .int r9⟩,⟨true, .list .int r10⟩,⟨true, .list .op r11⟩])
def G29:=rdG K29 B29
def H29:List (Nat×LH):=[]
def W29:List (Nat×List (Nat×List Nat)):=[]
def Γ29:List (Nat×Con):=[(71,Uc71),(64,Uc64),(58,Uc58),(72,Uc72)]
theorem e29:Eqn PP 31 Γ29 H29 W29 (bodyOf Tryz.f29) [.cell 4 53, .tmp 5] [.ag [.own .int, .own .int, .own .int, .own .int, .x, .own .int, .x, .own .op, .x, .bl], .bl] [] K29 B29:=fun _ _ _ _ _ K=>by kernel_rfl
theorem s29:CSound PP 29 G29:=fun_sk mixed Tryz.func29 (by decide) (by kernel_rfl) Tryz.ntmps29 Tryz.results29 (.cons u71 (.cons u64 (.cons u58 (.cons u72 (GSound.nil))))) e29
def Uc29:=useC [.ag [.pure .int, .pure .int, .pure .int, .pure .int], .pure .op] G29
theorem u29:CSound PP 29 Uc29:=useC_ok s29
def K41:List Tok:=[.Q 0, .i .i64, .i .i64, .bC true, .L 1, .L 2, .L 3, .L 4, .i .i64, .L 5, .i .i64, .L 6, .i .i64, .b, .b, .S 0 11 75, .B 7, .E, .bL true .int, .bL true .int, .bL true .int, .bL true .int, .bL true .int, .bL true .op, .bL true .byte]
def B41:Body K41:=fun x K=>Mi_desk_begin x.1 x.2.1 x.2.2.1 x.2.2.2.1 x.2.2.2.2.1 x.2.2.2.2.2.1 x.2.2.2.2.2.2.1 x.2.2.2.2.2.2.2.1 x.2.2.2.2.2.2.2.2.1 x.2.2.2.2.2.2.2.2.2.1 x.2.2.2.2.2.2.2.2.2.2.1 x.2.2.2.2.2.2.2.2.2.2.2.1 x.2.2.2.2.2.2.2.2.2.2.2.2.1 x.2.2.2.2.2.2.2.2.2.2.2.2.2.1 (fun r1 r2 r3 r4 r5 r6 r7 r8 r9 r10 r11 r12=>K (.bool r1) [⟨true, .cells [.sl 8, .sl 9, .sl 10, .sl 11, .int .i64 r2, .sl 12, .int .i64 r3, .sl 13, .int .i64 r4, .bool r5, .bool r6, .slf 0 11 75, .sb 7]⟩,⟨true, .dead⟩,⟨true, .dead⟩,⟨true, .dead⟩,⟨true, .dead⟩,⟨true, .dead⟩,⟨true, .dead⟩,⟨true, .list .byte x.2.2.2.2.2.2.2.2.2.2.2.2.2.1⟩,⟨true, .list .int r7⟩,⟨true, .list .int r8⟩,⟨true, .list .int r9⟩,⟨true, .list .int r10⟩,⟨true, .list .int r11⟩,⟨true, .list .op r12⟩])
def G41:=rdG K41 B41
def H41:List (Nat×LH):=[]
def W41:List (Nat×List (Nat×List Nat)):=[]
def Γ41:List (Nat×Con):=[(14,Uc14),(29,Uc29)]
theorem e41:Eqn PP 28 Γ41 H41 W41 (bodyOf Tryz.f41) [.tmp 6] [.bl] [1,2,3,4,5,6] K41 B41:=fun _ _ _ _ _ _ _ _ _ _ _ _ _ _ K=>by kernel_rfl
theorem s41:CSound PP 41 G41:=fun_sk mixed Tryz.func41 (by decide) (by kernel_rfl) Tryz.ntmps41 Tryz.results41 (.cons u14 (.cons u29 (GSound.nil))) e41
def Uc41:=useC [.pc [.own .int, .own .int, .own .int, .own .int, .x, .own .int, .x, .own .op, .x, .bl, .bl, .x, .x], .x, .x] G41
theorem u41:CSound PP 41 Uc41:=useC_ok s41
theorem enters42:Enters PP 42:=⟨_,Tryz.func42,by decide,rfl⟩
def G42:Con:=conSplit M_strings_Split
theorem s42:CSound PP 42 G42:=conSplit_ok (g:=Tryz.lays146_ren.g 1) (pre:=fun a b=>a.length<4294967281∧1≤b.length) (F:=fun s sep=>Lib.splitB sep 0 (Lib.countB s sep) s) (by decide) enters42 fun s sep m w h hm=>by
 have hc:=Go.Proofs.Any.strings_Split Tryz.lays146 (by kernel_rfl) s sep m w (by simpa using h.1) hm (by simpa using h.2)
 have hlen:=Lib.splitB_all sep (by simpa using h.2) 0 _ s rfl
 change Calls PP 42 _ _ _ at hc
 rw[hlen]
 exact hc
def Uc42:=useC [.x, .x] G42
theorem u42:CSound PP 42 Uc42:=useC_ok s42
def K43:List Tok:=[.P 0 11, .bC true, .L 1, .L 2, .L 3, .L 4, .i .i64, .L 5, .i .i64, .L 6, .i .i64, .b, .b, .S 0 11 75, .B 7, .E, .bL true .int, .bL true .int, .bL true .int, .bL true .int, .bL true .int, .bL true .op, .bL true .byte]
def B43:Body K43:=fun x K=>Ms_Builder_Len x.1 x.2.1 x.2.2.1 x.2.2.2.1 x.2.2.2.2.1 x.2.2.2.2.2.1 x.2.2.2.2.2.2.1 x.2.2.2.2.2.2.2.1 x.2.2.2.2.2.2.2.2.1 x.2.2.2.2.2.2.2.2.2.1 x.2.2.2.2.2.2.2.2.2.2.1 x.2.2.2.2.2.2.2.2.2.2.2.1 (fun r1=>K (.int .i64 r1) [⟨true, .cells [.sl 1, .sl 2, .sl 3, .sl 4, .int .i64 x.1, .sl 5, .int .i64 x.2.1, .sl 6, .int .i64 x.2.2.1, .bool x.2.2.2.1, .bool x.2.2.2.2.1, .slf 0 11 75, .sb 7]⟩,⟨true, .list .int x.2.2.2.2.2.1⟩,⟨true, .list .int x.2.2.2.2.2.2.1⟩,⟨true, .list .int x.2.2.2.2.2.2.2.1⟩,⟨true, .list .int x.2.2.2.2.2.2.2.2.1⟩,⟨true, .list .int x.2.2.2.2.2.2.2.2.2.1⟩,⟨true, .list .op x.2.2.2.2.2.2.2.2.2.2.1⟩,⟨true, .list .byte x.2.2.2.2.2.2.2.2.2.2.2.1⟩])
def G43:=rdG K43 B43
def H43:List (Nat×LH):=[]
def W43:List (Nat×List (Nat×List Nat)):=[]
def Γ43:List (Nat×Con):=[]
theorem e43:Eqn PP 8 Γ43 H43 W43 (bodyOf Tryz.f43) [.tmp 2] [.x] [] K43 B43:=fun _ _ _ _ _ _ _ _ _ _ _ _ K=>by kernel_rfl
theorem s43:CSound PP 43 G43:=fun_sk mixed Tryz.func43 (by decide) (by kernel_rfl) Tryz.ntmps43 Tryz.results43 (GSound.nil) e43
def Uc43:=useC [.x] G43
theorem u43:CSound PP 43 Uc43:=useC_ok s43
theorem enters126:Enters PP 126:=⟨_,Tryz.func126,by decide,rfl⟩
def G126:Con:=conCC 75 11 13
theorem lies126:∀k,liesAt PP PP.depth 75 (k+1) 11 73 1=true:=fun k=>by kernel_rfl
set_option maxHeartbeats 1000000 in
set_option maxRecDepth 100000 in
theorem s126:CSound PP 126 G126:=conCC_ok enters126 fun b n w hsh hS hfz=>by
 obtain⟨j,hj,hjs⟩:=Option.map_eq_some_iff.1 (show(PP.info? 73).map (·.size)=some 2 by kernel_rfl)
 refine⟨fun h0=> ?_,fun h0=> ?_⟩
 ·go_enter Tryz.func126,Tryz.ntmps126
  go_wp2
  rw[Go.Lib.run_to_unsafe w ⟨b,11,none⟩ Tryz.underlying71 Tryz.underlying195 hj (by rw[hjs];decide) hsh (by show 11<n;omega)]
  simp only[Result.andThen]
  rw[Oper.upon_value]
  go_wp2
  rw[run_callFunc_extern Tryz.func160 (by kernel_rfl) (by kernel_rfl) (by kernel_rfl) (e:=Extern.AbiNoEscape.same) (by kernel_rfl)]
  rw[Go.Lib.run_noEscape]
  simp only[Result.andThen]
  rw[Oper.upon_value]
  go_wp2
  rw[Go.Lib.run_from_unsafe w ⟨b,11,none⟩ Tryz.underlying195 Tryz.underlying71 hj hsh (by
   rw[show PP.cellsOf 75=13 by kernel_rfl]
   obtain⟨k,hk⟩:∃k,n/13=k+1:=⟨n/13-1,by omega⟩
   rw[hk];exact lies126 k)]
  simp only[Result.andThen]
  rw[Oper.upon_value]
  go_wp2
  go_end0
  exact⟨rfl,rfl⟩
 ·go_enter Tryz.func126,Tryz.ntmps126
  go_wp2
  rw[Go.Lib.run_neq_ptr_same w _ Tryz.underlying71 hj]
  go_wp2
  go_end0
  exact⟨rfl,rfl⟩
def Uc126:=useC [.x] G126
theorem u126:CSound PP 126 Uc126:=useC_ok s126
def K88:List Tok:=[.P 0 11, .s, .bC true, .L 1, .L 2, .L 3, .L 4, .i .i64, .L 5, .i .i64, .L 6, .i .i64, .b, .b, .S 0 11 75, .B 7, .E, .bL true .int, .bL true .int, .bL true .int, .bL true .int, .bL true .int, .bL true .op, .bL true .byte]
def B88:Body K88:=fun x K=>Ms_Builder_WriteString x.1 x.2.1 x.2.2.1 x.2.2.2.1 x.2.2.2.2.1 x.2.2.2.2.2.1 x.2.2.2.2.2.2.1 x.2.2.2.2.2.2.2.1 x.2.2.2.2.2.2.2.2.1 x.2.2.2.2.2.2.2.2.2.1 x.2.2.2.2.2.2.2.2.2.2.1 x.2.2.2.2.2.2.2.2.2.2.2.1 x.2.2.2.2.2.2.2.2.2.2.2.2.1 (fun r1 r2=>K (.tup [.int .i64 r1, .nili]) [⟨true, .cells [.sl 1, .sl 2, .sl 3, .sl 4, .int .i64 x.2.1, .sl 5, .int .i64 x.2.2.1, .sl 6, .int .i64 x.2.2.2.1, .bool x.2.2.2.2.1, .bool x.2.2.2.2.2.1, .slf 0 11 75, .sb 8]⟩,⟨true, .list .int x.2.2.2.2.2.2.1⟩,⟨true, .list .int x.2.2.2.2.2.2.2.1⟩,⟨true, .list .int x.2.2.2.2.2.2.2.2.1⟩,⟨true, .list .int x.2.2.2.2.2.2.2.2.2.1⟩,⟨true, .list .int x.2.2.2.2.2.2.2.2.2.2.1⟩,⟨true, .list .op x.2.2.2.2.2.2.2.2.2.2.2.1⟩,⟨true, .dead⟩,⟨true, .list .byte r2⟩])
def G88:=rdG K88 B88
def H88:List (Nat×LH):=[]
def W88:List (Nat×List (Nat×List Nat)):=[]
def Γ88:List (Nat×Con):=[(126,Uc126)]
theorem e88:Eqn PP 19 Γ88 H88 W88 (bodyOf Tryz.f88) [.tmp 4, .tmp 5] [.x, .x] [] K88 B88:=fun _ _ _ _ _ _ _ _ _ _ _ _ _ K=>by kernel_rfl
theorem s88:CSound PP 88 G88:=fun_sk mixed Tryz.func88 (by decide) (by kernel_rfl) Tryz.ntmps88 Tryz.results88 (.cons u126 (GSound.nil)) e88
def Uc88:=useC [.x, .x] G88
theorem u88:CSound PP 88 Uc88:=useC_ok s88
def K44:List Tok:=[.Q 0, .s, .bC true, .L 1, .L 2, .L 3, .L 4, .i .i64, .L 5, .i .i64, .L 6, .i .i64, .b, .b, .S 0 11 75, .B 7, .E, .bL true .int, .bL true .int, .bL true .int, .bL true .int, .bL true .int, .bL true .op, .bL true .byte]
def B44:Body K44:=fun x K=>Mi_desk_tell x.1 x.2.1 x.2.2.1 x.2.2.2.1 x.2.2.2.2.1 x.2.2.2.2.2.1 x.2.2.2.2.2.2.1 x.2.2.2.2.2.2.2.1 x.2.2.2.2.2.2.2.2.1 x.2.2.2.2.2.2.2.2.2.1 x.2.2.2.2.2.2.2.2.2.2.1 x.2.2.2.2.2.2.2.2.2.2.2.1 x.2.2.2.2.2.2.2.2.2.2.2.2.1 (fun r1=>K (.tup []) [⟨true, .cells [.sl 1, .sl 2, .sl 3, .sl 4, .int .i64 x.2.1, .sl 5, .int .i64 x.2.2.1, .sl 6, .int .i64 x.2.2.2.1, .bool x.2.2.2.2.1, .bool x.2.2.2.2.2.1, .slf 0 11 75, .sb 8]⟩,⟨true, .list .int x.2.2.2.2.2.2.1⟩,⟨true, .list .int x.2.2.2.2.2.2.2.1⟩,⟨true, .list .int x.2.2.2.2.2.2.2.2.1⟩,⟨true, .list .int x.2.2.2.2.2.2.2.2.2.1⟩,⟨true, .list .int x.2.2.2.2.2.2.2.2.2.2.1⟩,⟨true, .list .op x.2.2.2.2.2.2.2.2.2.2.2.1⟩,⟨true, .dead⟩,⟨true, .list .byte r1⟩])
def G44:=rdG K44 B44
def H44:List (Nat×LH):=[]
def W44:List (Nat×List (Nat×List Nat)):=[]
def Γ44:List (Nat×Con):=[(88,Uc88)]
theorem e44:Eqn PP 10 Γ44 H44 W44 (bodyOf Tryz.f44) [] [] [] K44 B44:=fun _ _ _ _ _ _ _ _ _ _ _ _ _ K=>by kernel_rfl
theorem s44:CSound PP 44 G44:=fun_sk mixed Tryz.func44 (by decide) (by kernel_rfl) Tryz.ntmps44 Tryz.results44 (.cons u88 (GSound.nil)) e44
def Uc44:=useC [.pc [.own .int, .own .int, .own .int, .own .int, .x, .own .int, .x, .own .op, .x, .bl, .bl, .x, .x], .x] G44
theorem u44:CSound PP 44 Uc44:=useC_ok s44
theorem enters45:Enters PP 45:=⟨_,Tryz.func45,by decide,rfl⟩
def G45:Con:=conCut M_strings_Cut
theorem s45:CSound PP 45 G45:=conCut_ok (g:=Tryz.lays145_ren.g 1) (pre:=fun a b=>a.length<4294967281) (F:=Lib.cut) (by decide) enters45 fun s sep m w h hm=>by
 have hc:=Go.Proofs.Any.strings_Cut Tryz.lays145 s sep m w (by simpa using h) hm
 change Calls PP 45 _ _ _ at hc
 refine hc.mono ?_
 rintro e w' ⟨rfl,n,rfl⟩
 exact⟨rfl,drewN_below _ _⟩
def Uc45:=useC [.x, .x] G45
theorem u45:CSound PP 45 Uc45:=useC_ok s45
theorem enters128:Enters PP 128:=⟨_,Tryz.func128,by decide,rfl⟩
def G128:Con:=conAtoi M_strconv_Atoi
theorem s128:CSound PP 128 G128:=conAtoi_ok (g1:=Tryz.lays172_ren.g 15) (g2:=Tryz.lays172_ren.g 16) (te:=Tryz.lays172_ren.t 168) (by decide) (by decide) enters128 fun s w e1 e2 hs h1 k1 h2 k2=>by
 cases ha:Lib.atoiAll s.data.toList with
 |ok v=>
  have hc:=Go.Proofs.Any.strconv_Atoi_ok Tryz.lays172 s (by omega) v ha w
  change Calls PP 128 _ _ _ at hc
  refine hc.mono ?_
  rintro e w' ⟨rfl,hw⟩
  refine⟨_,by simp[atoiF,ha], .inl ⟨by simp[atoiF,ha],rfl⟩, ?_⟩
  rcases hw with rfl|⟨t,rfl⟩
  ·exact Go.RowKit.Below.refl _ _
  ·exact Go.Lib.bytesWorld_below _ _ _
 |range=>
  have hc:=Go.Proofs.Any.strconv_Atoi_range Tryz.lays172 s hs ha e2 w h2 k2
  change Calls PP 128 _ _ _ at hc
  refine hc.mono ?_
  rintro e w' ⟨N,rfl,_,_,hb⟩
  exact⟨_,by simp[atoiF,ha];rfl, .inr ⟨by simp[atoiF,ha],_,rfl⟩,hb⟩
 |_=>
  have hc:=Go.Proofs.Any.strconv_Atoi_syntax Tryz.lays172 s hs ha e1 w h1 k1
  change Calls PP 128 _ _ _ at hc
  refine hc.mono ?_
  rintro e w' ⟨N,rfl,_,_,hb⟩
  exact⟨_,by simp[atoiF,ha];rfl, .inr ⟨by simp[atoiF,ha],_,rfl⟩,hb⟩
def Uc128:=useC [.x] G128
theorem u128:CSound PP 128 Uc128:=useC_ok s128
theorem enters53:Enters PP 53:=⟨_,Tryz.func53,by decide,rfl⟩
def G53:Con:=conIS M_strconv_Itoa
theorem s53:CSound PP 53 G53:=conItoa_ok (F:=Lib.itoa) (g:=2) (l:=Lib.pow10Tab) enters53 (by decide) (by decide) (by decide) (by kernel_rfl) fun n w h htab=>by
 have hc:=Go.Proofs.Any.strconv_Itoa Tryz.lays171 n h.1 h.2 w htab
 change Calls PP 53 _ _ _ at hc
 refine hc.mono ?_
 rintro e w' ⟨rfl,k,os,rfl⟩
 exact⟨rfl,grow_below _ _ _⟩
def Uc53:=useC [.x] G53
theorem u53:CSound PP 53 Uc53:=useC_ok s53
def K90:List Tok:=[.s]
def B90:Body K90:=fun x K=>Mi_decimal x.1 (fun r1 r2=>K (.tup [.int .i64 r1, .bool r2]) [])
def G90:=rdG K90 B90
def H90:List (Nat×LH):=[]
def W90:List (Nat×List (Nat×List Nat)):=[]
def Γ90:List (Nat×Con):=[(128,Uc128),(53,Uc53)]
theorem e90:Eqn PP 29 Γ90 H90 W90 (bodyOf Tryz.f90) [.tmp 2, .tmp 3] [.x, .bl] [] K90 B90:=fun _ K=>by kernel_rfl
theorem s90:CSound PP 90 G90:=fun_sk mixed Tryz.func90 (by decide) (by kernel_rfl) Tryz.ntmps90 Tryz.results90 (.cons u128 (.cons u53 (GSound.nil))) e90
def Uc90:=useC [.x] G90
theorem u90:CSound PP 90 Uc90:=useC_ok s90
def K21:List Tok:=[.A, .i .i64, .i .i64, .i .i64, .E]
def B21:Body K21:=fun x K=>Mi_FormatOp x.1 x.2.1 x.2.2.1 (fun r1=>K (.str r1) [])
def G21:=rdG K21 B21
def H21:List (Nat×LH):=[]
def W21:List (Nat×List (Nat×List Nat)):=[]
def Γ21:List (Nat×Con):=[(52,Uc52),(53,Uc53)]
theorem e21:Eqn PP 31 Γ21 H21 W21 (bodyOf Tryz.f21) [.tmp 2] [.x] [] K21 B21:=fun _ _ _ K=>by kernel_rfl
theorem s21:CSound PP 21 G21:=fun_sk mixed Tryz.func21 (by decide) (by kernel_rfl) Tryz.ntmps21 Tryz.results21 (.cons u52 (.cons u53 (GSound.nil))) e21
def Uc21:=useC [.ag [.x, .x, .x]] G21
theorem u21:CSound PP 21 Uc21:=useC_ok s21
def K129:List Tok:=[.s]
def B129:Body K129:=fun x K=>Mi_ParseOp x.1 (fun r1 r2 r3 r4=>K (.tup [.agg [.int .i64 r1, .int .i64 r2, .int .i64 r3], .bool r4]) [])
def G129:=rdG K129 B129
noncomputable def H129_0:=mkH [(0, .x),(2, .pc [.x, .x, .x]),(4, .x)] [.s, .Q 0, .i .i64, .bC true, .i .i64, .i .i64, .i .i64, .E]
noncomputable def H129_2:=mkH [(0, .x),(2, .pc [.x, .x, .x]),(4, .x),(12, .x)] [.s, .Q 0, .i .i64, .i .i64, .bC true, .i .i64, .i .i64, .i .i64, .E]
noncomputable def H129_4:=mkH [(0, .x),(2, .pc [.x, .x, .x]),(4, .x),(5, .x),(12, .x),(15, .x)] [.s, .Q 0, .i .i64, .i .i64, .i .i64, .i .i64, .bC true, .i .i64, .i .i64, .i .i64, .E]
noncomputable def H129:List (Nat×LH):=[(0,H129_0),(2,H129_2),(4,H129_4)]
def W129:List (Nat×List (Nat×List Nat)):=[]
def Γ129:List (Nat×Con):=[(21,Uc21)]
theorem e129:Eqn PP 34 Γ129 H129 W129 (bodyOf Tryz.f129) [.cell 2 38, .tmp 3] [.ag [.x, .x, .x], .bl] [] K129 B129:=fun _ K=>by kernel_rfl
theorem s129:CSound PP 129 G129:=fun_sk mixed Tryz.func129 (by decide) (by kernel_rfl) Tryz.ntmps129 Tryz.results129 (.cons u21 (GSound.nil)) e129
def Uc129:=useC [.x] G129
theorem u129:CSound PP 129 Uc129:=useC_ok s129
def K143:List Tok:=[.p .int, .i .i64]
def B143:Body K143:=fun x K=>Mi_colorsOk x.1 x.2.1 (fun r1=>K (.bool r1) [])
def G143:=rdG K143 B143
noncomputable def H143_0:=mkH [(0, .pure .int),(1, .x),(7, .pure .int),(8, .x),(9, .x)] [.p .int, .i .i64, .p .int, .i .i64, .i .i64]
noncomputable def H143:List (Nat×LH):=[(0,H143_0)]
def W143:List (Nat×List (Nat×List Nat)):=[]
def Γ143:List (Nat×Con):=[]
theorem e143:Eqn PP 24 Γ143 H143 W143 (bodyOf Tryz.f143) [.tmp 4] [.bl] [] K143 B143:=fun _ _ K=>by kernel_rfl
theorem s143:CSound PP 143 G143:=fun_sk mixed Tryz.func143 (by decide) (by kernel_rfl) Tryz.ntmps143 Tryz.results143 (GSound.nil) e143
def Uc143:=useC [.pure .int, .x] G143
theorem u143:CSound PP 143 Uc143:=useC_ok s143
def K111:List Tok:=[.A, .p .int, .p .int, .p .int, .p .int, .E, .A, .i .i64, .p .int, .i .i64, .E]
def B111:Body K111:=fun x K=>Mi_GcValid x.1 x.2.1 x.2.2.1 x.2.2.2.1 x.2.2.2.2.1 x.2.2.2.2.2.1 x.2.2.2.2.2.2.1 (fun r1=>K (.bool r1) [])
def G111:=rdG K111 B111
def H111:List (Nat×LH):=[]
def W111:List (Nat×List (Nat×List Nat)):=[]
def Γ111:List (Nat×Con):=[(49,Uc49),(143,Uc143)]
theorem e111:Eqn PP 49 Γ111 H111 W111 (bodyOf Tryz.f111) [.tmp 4] [.bl] [] K111 B111:=fun _ _ _ _ _ _ _ K=>by kernel_rfl
theorem s111:CSound PP 111 G111:=fun_sk mixed Tryz.func111 (by decide) (by kernel_rfl) Tryz.ntmps111 Tryz.results111 (.cons u49 (.cons u143 (GSound.nil))) e111
def Uc111:=useC [.ag [.pure .int, .pure .int, .pure .int, .pure .int], .ag [.x, .pure .int, .x]] G111
theorem u111:CSound PP 111 Uc111:=useC_ok s111
def K80:List Tok:=[.A, .p .int, .p .int, .p .int, .p .int, .i .i64, .p .int, .i .i64, .p .op, .i .i64, .b, .E]
def B80:Body K80:=fun x K=>Mi_BothValid x.1 x.2.1 x.2.2.1 x.2.2.2.1 x.2.2.2.2.1 x.2.2.2.2.2.1 x.2.2.2.2.2.2.1 x.2.2.2.2.2.2.2.1 x.2.2.2.2.2.2.2.2.1 x.2.2.2.2.2.2.2.2.2.1 (fun r1=>K (.bool r1) [])
def G80:=rdG K80 B80
def H80:List (Nat×LH):=[]
def W80:List (Nat×List (Nat×List Nat)):=[]
def Γ80:List (Nat×Con):=[(111,Uc111),(64,Uc64)]
theorem e80:Eqn PP 31 Γ80 H80 W80 (bodyOf Tryz.f80) [.tmp 2] [.bl] [] K80 B80:=fun _ _ _ _ _ _ _ _ _ _ K=>by kernel_rfl
theorem s80:CSound PP 80 G80:=fun_sk mixed Tryz.func80 (by decide) (by kernel_rfl) Tryz.ntmps80 Tryz.results80 (.cons u111 (.cons u64 (GSound.nil))) e80
def Uc80:=useC [.ag [.pure .int, .pure .int, .pure .int, .pure .int, .x, .pure .int, .x, .pure .op, .x, .bl]] G80
theorem u80:CSound PP 80 Uc80:=useC_ok s80
def K82:List Tok:=[.A, .p .int, .p .int, .p .int, .p .int, .i .i64, .p .int, .i .i64, .p .op, .i .i64, .b, .E]
def B82:Body K82:=fun x K=>Mi_anew x.1 x.2.1 x.2.2.1 x.2.2.2.1 x.2.2.2.2.1 x.2.2.2.2.2.1 x.2.2.2.2.2.2.1 x.2.2.2.2.2.2.2.1 x.2.2.2.2.2.2.2.2.1 x.2.2.2.2.2.2.2.2.2.1 (fun r1 r2 r3 r4 r5 r6=>K (.agg [.sl 0, .sl 1, .sl 2, .sl 3, .int .i64 x.2.2.2.2.1, .sl 4, .int .i64 x.2.2.2.2.2.2.1, .sl 5, .int .i64 x.2.2.2.2.2.2.2.2.1, .bool x.2.2.2.2.2.2.2.2.2.1]) [⟨true, .list .int r1⟩,⟨true, .list .int r2⟩,⟨true, .list .int r3⟩,⟨true, .list .int r4⟩,⟨true, .list .int r5⟩,⟨true, .list .op r6⟩])
def G82:=rdG K82 B82
def H82:List (Nat×LH):=[]
def W82:List (Nat×List (Nat×List Nat)):=[]
def Γ82:List (Nat×Con):=[(58,Uc58),(99,Uc99),(72,Uc72)]
theorem e82:Eqn PP 18 Γ82 H82 W82 (bodyOf Tryz.f82) [.cell 2 53] [.ag [.own .int, .own .int, .own .int, .own .int, .x, .own .int, .x, .own .op, .x, .bl]] [] K82 B82:=fun _ _ _ _ _ _ _ _ _ _ K=>by kernel_rfl
theorem s82:CSound PP 82 G82:=fun_sk mixed Tryz.func82 (by decide) (by kernel_rfl) Tryz.ntmps82 Tryz.results82 (.cons u58 (.cons u99 (.cons u72 (GSound.nil)))) e82
def Uc82:=useC [.ag [.pure .int, .pure .int, .pure .int, .pure .int, .x, .pure .int, .x, .pure .op, .x, .bl]] G82
theorem u82:CSound PP 82 Uc82:=useC_ok s82
def K148:List Tok:=[.A, .p .int, .p .int, .p .int, .p .int, .E, .A, .i .i64, .i .i64, .i .i64, .E]
def B148:Body K148:=fun x K=>Mi_TargetOf x.1 x.2.1 x.2.2.1 x.2.2.2.1 x.2.2.2.2.1 x.2.2.2.2.2.1 x.2.2.2.2.2.2.1 (fun r1=>K (.int .i64 r1) [])
def G148:=rdG K148 B148
def H148:List (Nat×LH):=[]
def W148:List (Nat×List (Nat×List Nat)):=[]
def Γ148:List (Nat×Con):=[(49,Uc49),(52,Uc52)]
theorem e148:Eqn PP 44 Γ148 H148 W148 (bodyOf Tryz.f148) [.tmp 4] [.x] [] K148 B148:=fun _ _ _ _ _ _ _ K=>by kernel_rfl
theorem s148:CSound PP 148 G148:=fun_sk mixed Tryz.func148 (by decide) (by kernel_rfl) Tryz.ntmps148 Tryz.results148 (.cons u49 (.cons u52 (GSound.nil))) e148
def Uc148:=useC [.ag [.pure .int, .pure .int, .pure .int, .pure .int], .ag [.x, .x, .x]] G148
theorem u148:CSound PP 148 Uc148:=useC_ok s148
def K59:List Tok:=[.A, .p .int, .p .int, .p .int, .p .int, .E, .i .i64]
def B59:Body K59:=fun x K=>Mi_AllocCell x.1 x.2.1 x.2.2.1 x.2.2.2.1 x.2.2.2.2.1 (fun r1 r2 r3 r4 r5 r6=>K (.tup [.agg [.sl 0, .sl 1, .sl 2, .sl 3], .int .i64 r1, .bool r2]) [⟨true, .list .int r3⟩,⟨true, .list .int r4⟩,⟨true, .list .int r5⟩,⟨true, .list .int r6⟩])
def G59:=rdG K59 B59
def H59:List (Nat×LH):=[]
def W59:List (Nat×List (Nat×List Nat)):=[]
def Γ59:List (Nat×Con):=[(49,Uc49),(58,Uc58)]
theorem e59:Eqn PP 48 Γ59 H59 W59 (bodyOf Tryz.f59) [.cell 4 29, .tmp 5, .tmp 6] [.ag [.own .int, .own .int, .own .int, .own .int], .x, .bl] [] K59 B59:=fun _ _ _ _ _ K=>by kernel_rfl
theorem s59:CSound PP 59 G59:=fun_sk mixed Tryz.func59 (by decide) (by kernel_rfl) Tryz.ntmps59 Tryz.results59 (.cons u49 (.cons u58 (GSound.nil))) e59
def Uc59:=useC [.ag [.pure .int, .pure .int, .pure .int, .pure .int], .x] G59
theorem u59:CSound PP 59 Uc59:=useC_ok s59
def K23:List Tok:=[.A, .p .int, .p .int, .p .int, .p .int, .E, .A, .i .i64, .i .i64, .i .i64, .E]
def B23:Body K23:=fun x K=>Mi_RunOp x.1 x.2.1 x.2.2.1 x.2.2.2.1 x.2.2.2.2.1 x.2.2.2.2.2.1 x.2.2.2.2.2.2.1 (fun r1 r2 r3 r4 r5 r6=>K (.tup [.agg [.sl 0, .sl 1, .sl 2, .sl 3], .int .i64 r1, .bool r2]) [⟨true, .list .int r3⟩,⟨true, .list .int r4⟩,⟨true, .list .int r5⟩,⟨true, .list .int r6⟩])
def G23:=rdG K23 B23
def H23:List (Nat×LH):=[]
def W23:List (Nat×List (Nat×List Nat)):=[]
def Γ23:List (Nat×Con):=[(49,Uc49),(52,Uc52),(58,Uc58),(59,Uc59)]
theorem e23:Eqn PP 133 Γ23 H23 W23 (bodyOf Tryz.f23) [.cell 4 29, .tmp 5, .tmp 6] [.ag [.own .int, .own .int, .own .int, .own .int], .x, .bl] [] K23 B23:=fun _ _ _ _ _ _ _ K=>by kernel_rfl
theorem s23:CSound PP 23 G23:=fun_sk mixed Tryz.func23 (by decide) (by kernel_rfl) Tryz.ntmps23 Tryz.results23 (.cons u49 (.cons u52 (.cons u58 (.cons u59 (GSound.nil))))) e23
def Uc23:=useC [.ag [.pure .int, .pure .int, .pure .int, .pure .int], .ag [.x, .x, .x]] G23
theorem u23:CSound PP 23 Uc23:=useC_ok s23
def K130:List Tok:=[.A, .p .int, .p .int, .p .int, .E, .i .i64]
def B130:Body K130:=fun x K=>Mi_has x.1 x.2.1 x.2.2.1 x.2.2.2.1 (fun r1=>K (.bool r1) [])
def G130:=rdG K130 B130
def H130:List (Nat×LH):=[]
def W130:List (Nat×List (Nat×List Nat)):=[]
def Γ130:List (Nat×Con):=[(66,Uc66)]
theorem e130:Eqn PP 18 Γ130 H130 W130 (bodyOf Tryz.f130) [.tmp 4] [.bl] [] K130 B130:=fun _ _ _ _ K=>by kernel_rfl
theorem s130:CSound PP 130 G130:=fun_sk mixed Tryz.func130 (by decide) (by kernel_rfl) Tryz.ntmps130 Tryz.results130 (.cons u66 (GSound.nil)) e130
def Uc130:=useC [.ag [.pure .int, .pure .int, .pure .int], .x] G130
theorem u130:CSound PP 130 Uc130:=useC_ok s130
def K149:List Tok:=[.A, .p .int, .p .int, .p .int, .p .int, .E, .A, .i .i64, .p .int, .i .i64, .E, .i .i64]
def B149:Body K149:=fun x K=>Mi_ColorNew x.1 x.2.1 x.2.2.1 x.2.2.2.1 x.2.2.2.2.1 x.2.2.2.2.2.1 x.2.2.2.2.2.2.1 x.2.2.2.2.2.2.2.1 (fun r1 r2 r3 r4=>K (.tup [.agg [.int .i64 r1, .sl 0, .int .i64 r2], .bool r3]) [⟨true, .list .int r4⟩])
def G149:=rdG K149 B149
def H149:List (Nat×LH):=[]
def W149:List (Nat×List (Nat×List Nat)):=[]
def Γ149:List (Nat×Con):=[(111,Uc111),(130,Uc130),(99,Uc99)]
theorem e149:Eqn PP 52 Γ149 H149 W149 (bodyOf Tryz.f149) [.cell 6 51, .tmp 7] [.ag [.x, .own .int, .x], .bl] [] K149 B149:=fun _ _ _ _ _ _ _ _ K=>by kernel_rfl
theorem s149:CSound PP 149 G149:=fun_sk mixed Tryz.func149 (by decide) (by kernel_rfl) Tryz.ntmps149 Tryz.results149 (.cons u111 (.cons u130 (.cons u99 (GSound.nil)))) e149
def Uc149:=useC [.ag [.pure .int, .pure .int, .pure .int, .pure .int], .ag [.x, .pure .int, .x], .x] G149
theorem u149:CSound PP 149 Uc149:=useC_ok s149
def K151:List Tok:=[.L 0, .i .i64, .bL true .int]
def B151:Body K151:=fun x K=>Mi_shade x.1 x.2.1 (fun r1=>K (.tup []) [⟨true, .list .int r1⟩])
def G151:=rdG K151 B151
def H151:List (Nat×LH):=[]
def W151:List (Nat×List (Nat×List Nat)):=[]
def Γ151:List (Nat×Con):=[]
theorem e151:Eqn PP 16 Γ151 H151 W151 (bodyOf Tryz.f151) [] [] [] K151 B151:=fun _ _ K=>by kernel_rfl
theorem s151:CSound PP 151 G151:=fun_sk mixed Tryz.func151 (by decide) (by kernel_rfl) Tryz.ntmps151 Tryz.results151 (GSound.nil) e151
def Uc151:=useC [.own .int, .x] G151
theorem u151:CSound PP 151 Uc151:=useC_ok s151
def K150:List Tok:=[.A, .p .int, .p .int, .p .int, .p .int, .E, .A, .i .i64, .p .int, .i .i64, .E, .i .i64]
def B150:Body K150:=fun x K=>Mi_ShadeGc x.1 x.2.1 x.2.2.1 x.2.2.2.1 x.2.2.2.2.1 x.2.2.2.2.2.1 x.2.2.2.2.2.2.1 x.2.2.2.2.2.2.2.1 (fun r1 r2 r3 r4=>K (.tup [.agg [.int .i64 r1, .sl 0, .int .i64 r2], .bool r3]) [⟨true, .list .int r4⟩])
def G150:=rdG K150 B150
def H150:List (Nat×LH):=[]
def W150:List (Nat×List (Nat×List Nat)):=[]
def Γ150:List (Nat×Con):=[(111,Uc111),(130,Uc130),(99,Uc99),(151,Uc151)]
theorem e150:Eqn PP 37 Γ150 H150 W150 (bodyOf Tryz.f150) [.cell 6 51, .tmp 7] [.ag [.x, .own .int, .x], .bl] [] K150 B150:=fun _ _ _ _ _ _ _ _ K=>by kernel_rfl
theorem s150:CSound PP 150 G150:=fun_sk mixed Tryz.func150 (by decide) (by kernel_rfl) Tryz.ntmps150 Tryz.results150 (.cons u111 (.cons u130 (.cons u99 (.cons u151 (GSound.nil))))) e150
def Uc150:=useC [.ag [.pure .int, .pure .int, .pure .int, .pure .int], .ag [.x, .pure .int, .x], .x] G150
theorem u150:CSound PP 150 Uc150:=useC_ok s150
def K119:List Tok:=[.A, .p .int, .p .int, .p .int, .p .int, .i .i64, .p .int, .i .i64, .p .op, .i .i64, .b, .E, .b]
def B119:Body K119:=fun x K=>Mi_step x.1 x.2.1 x.2.2.1 x.2.2.2.1 x.2.2.2.2.1 x.2.2.2.2.2.1 x.2.2.2.2.2.2.1 x.2.2.2.2.2.2.2.1 x.2.2.2.2.2.2.2.2.1 x.2.2.2.2.2.2.2.2.2.1 x.2.2.2.2.2.2.2.2.2.2.1 (fun r1 r2 r3 r4 r5 r6 r7 r8 r9 r10 r11 r12=>K (.tup [.agg [.sl 0, .sl 1, .sl 2, .sl 3, .int .i64 r1, .sl 4, .int .i64 r2, .sl 5, .int .i64 r3, .bool r4], .int .i64 r5, .bool r6]) [⟨true, .list .int r7⟩,⟨true, .list .int r8⟩,⟨true, .list .int r9⟩,⟨true, .list .int r10⟩,⟨true, .list .int r11⟩,⟨true, .list .op r12⟩])
def G119:=rdG K119 B119
noncomputable def H119_1000004:=mkH [(1, .bl),(2, .pc [.own .int, .own .int, .own .int, .own .int, .x, .own .int, .x, .own .op, .x, .bl]),(4, .pc [.own .int, .own .int, .own .int, .own .int, .x, .own .int, .x, .own .op, .x, .bl])] [.b, .Q 0, .Q 1, .bC true, .L 2, .L 3, .L 4, .L 5, .i .i64, .L 6, .i .i64, .L 7, .i .i64, .b, .E, .bC true, .L 8, .L 9, .L 10, .L 11, .i .i64, .L 12, .i .i64, .L 13, .i .i64, .b, .E, .bL true .int, .bL true .int, .bL true .int, .bL true .int, .bL true .int, .bL true .op, .bL true .int, .bL true .int, .bL true .int, .bL true .int, .bL true .int, .bL true .op]
noncomputable def H119_1000007:=mkH [(1, .bl),(2, .pc [.own .int, .own .int, .own .int, .own .int, .x, .own .int, .x, .own .op, .x, .bl]),(4, .pc [.own .int, .own .int, .own .int, .own .int, .x, .own .int, .x, .own .op, .x, .bl]),(7, .pc [.x, .x, .x]),(8, .x),(9, .pc [.own .int, .own .int, .own .int, .own .int]),(10, .x)] [.b, .Q 0, .Q 1, .Q 2, .i .i64, .Q 3, .i .i64, .bC true, .L 4, .L 5, .L 6, .L 7, .i .i64, .L 8, .i .i64, .L 9, .i .i64, .b, .E, .bC true, .L 10, .L 11, .L 12, .L 13, .i .i64, .L 14, .i .i64, .L 15, .i .i64, .b, .E, .bC true, .i .i64, .i .i64, .i .i64, .E, .bC true, .L 16, .L 17, .L 18, .L 19, .E, .bL true .int, .bL true .int, .bL true .int, .bL true .int, .bL true .int, .bL true .op, .bL true .int, .bL true .int, .bL true .int, .bL true .int, .bL true .int, .bL true .op, .bL true .int, .bL true .int, .bL true .int, .bL true .int]
noncomputable def H119_1000015:=mkH [(2, .pc [.own .int, .own .int, .own .int, .own .int, .x, .own .int, .x, .own .op, .x, .bl]),(4, .pc [.own .int, .own .int, .own .int, .own .int, .x, .own .int, .x, .own .op, .x, .bl]),(10, .x)] [.Q 0, .Q 1, .i .i64, .bC true, .L 2, .L 3, .L 4, .L 5, .i .i64, .L 6, .i .i64, .L 7, .i .i64, .b, .E, .bC true, .L 8, .L 9, .L 10, .L 11, .i .i64, .L 12, .i .i64, .L 13, .i .i64, .b, .E, .bL true .int, .bL true .int, .bL true .int, .bL true .int, .bL true .int, .bL true .op, .bL true .int, .bL true .int, .bL true .int, .bL true .int, .bL true .int, .bL true .op]
noncomputable def H119:List (Nat×LH):=[(1000004,H119_1000004),(1000007,H119_1000007),(1000015,H119_1000015)]
def W119:List (Nat×List (Nat×List Nat)):=[]
def Γ119:List (Nat×Con):=[(80,Uc80),(82,Uc82),(148,Uc148),(23,Uc23),(149,Uc149),(150,Uc150)]
def S119_15 (s:H119_1000015.S) (K:TV→TMem→Prop):Prop:=Mi_step_c15 s.1 s.2.1 s.2.2.1 s.2.2.2.1 s.2.2.2.2.1 s.2.2.2.2.2.1 s.2.2.2.2.2.2.1 s.2.2.2.2.2.2.2.1 s.2.2.2.2.2.2.2.2.1 s.2.2.2.2.2.2.2.2.2.1 s.2.2.2.2.2.2.2.2.2.2.1 s.2.2.2.2.2.2.2.2.2.2.2.1 s.2.2.2.2.2.2.2.2.2.2.2.2.1 s.2.2.2.2.2.2.2.2.2.2.2.2.2.1 s.2.2.2.2.2.2.2.2.2.2.2.2.2.2.1 s.2.2.2.2.2.2.2.2.2.2.2.2.2.2.2.1 s.2.2.2.2.2.2.2.2.2.2.2.2.2.2.2.2.1 s.2.2.2.2.2.2.2.2.2.2.2.2.2.2.2.2.2.1 s.2.2.2.2.2.2.2.2.2.2.2.2.2.2.2.2.2.2.1 s.2.2.2.2.2.2.2.2.2.2.2.2.2.2.2.2.2.2.2.1 s.2.2.2.2.2.2.2.2.2.2.2.2.2.2.2.2.2.2.2.2 (fun r1 r2 r3 r4 r5 r6 r7 r8 r9 r10 r11 r12=>K (.tup [.agg [.sl 0, .sl 1, .sl 2, .sl 3, .int .i64 r1, .sl 4, .int .i64 r2, .sl 5, .int .i64 r3, .bool r4], .int .i64 r5, .bool r6]) [⟨true, .list .int r7⟩,⟨true, .list .int r8⟩,⟨true, .list .int r9⟩,⟨true, .list .int r10⟩,⟨true, .list .int r11⟩,⟨true, .list .op r12⟩])
def J119_15 (K:TV→TMem→Prop) (ts:TFrm) (tm:TMem):Prop:=headT 0 H119_1000015 ts tm fun s=>S119_15 s K
theorem q119_15 (s:H119_1000015.S) (K:TV→TMem→Prop):segT PP 95 Γ119 H119 W119 0 (sufC 11 (bodyOf Tryz.f119)) (endT PP 95 [.cell 4 53, .tmp 5, .tmp 6] [.ag [.own .int, .own .int, .own .int, .own .int, .x, .own .int, .x, .own .op, .x, .bl], .x, .bl] [] 0 K) (frameOf H119_1000015.keep (H119_1000015.enc s).1) (H119_1000015.enc s).2=S119_15 s K:=by kernel_rfl
theorem j119_15 (K:TV→TMem→Prop) (ts:TFrm) (tm:TMem):J119_15 K ts tm=TW PP 95 Γ119 H119 W119 0 (sufC 11 (bodyOf Tryz.f119)) (endT PP 95 [.cell 4 53, .tmp 5, .tmp 6] [.ag [.own .int, .own .int, .own .int, .own .int, .x, .own .int, .x, .own .op, .x, .bl], .x, .bl] [] 0 K) ts tm:=
 TW_seg (by kernel_rfl:regOf (sufC 11 (bodyOf Tryz.f119))=some 15) (by kernel_rfl) (fun s=>q119_15 s K) ts tm
def S119_7 (s:H119_1000007.S) (K:TV→TMem→Prop):Prop:=Mi_step_c7 s.1 s.2.1 s.2.2.1 s.2.2.2.1 s.2.2.2.2.1 s.2.2.2.2.2.1 s.2.2.2.2.2.2.1 s.2.2.2.2.2.2.2.1 s.2.2.2.2.2.2.2.2.1 s.2.2.2.2.2.2.2.2.2.1 s.2.2.2.2.2.2.2.2.2.2.1 s.2.2.2.2.2.2.2.2.2.2.2.1 s.2.2.2.2.2.2.2.2.2.2.2.2.1 s.2.2.2.2.2.2.2.2.2.2.2.2.2.1 s.2.2.2.2.2.2.2.2.2.2.2.2.2.2.1 s.2.2.2.2.2.2.2.2.2.2.2.2.2.2.2.1 s.2.2.2.2.2.2.2.2.2.2.2.2.2.2.2.2.1 s.2.2.2.2.2.2.2.2.2.2.2.2.2.2.2.2.2.1 s.2.2.2.2.2.2.2.2.2.2.2.2.2.2.2.2.2.2.1 s.2.2.2.2.2.2.2.2.2.2.2.2.2.2.2.2.2.2.2.1 s.2.2.2.2.2.2.2.2.2.2.2.2.2.2.2.2.2.2.2.2.1 s.2.2.2.2.2.2.2.2.2.2.2.2.2.2.2.2.2.2.2.2.2.1 s.2.2.2.2.2.2.2.2.2.2.2.2.2.2.2.2.2.2.2.2.2.2.1 s.2.2.2.2.2.2.2.2.2.2.2.2.2.2.2.2.2.2.2.2.2.2.2.1 s.2.2.2.2.2.2.2.2.2.2.2.2.2.2.2.2.2.2.2.2.2.2.2.2.1 s.2.2.2.2.2.2.2.2.2.2.2.2.2.2.2.2.2.2.2.2.2.2.2.2.2.1 s.2.2.2.2.2.2.2.2.2.2.2.2.2.2.2.2.2.2.2.2.2.2.2.2.2.2.1 s.2.2.2.2.2.2.2.2.2.2.2.2.2.2.2.2.2.2.2.2.2.2.2.2.2.2.2.1 s.2.2.2.2.2.2.2.2.2.2.2.2.2.2.2.2.2.2.2.2.2.2.2.2.2.2.2.2.1 s.2.2.2.2.2.2.2.2.2.2.2.2.2.2.2.2.2.2.2.2.2.2.2.2.2.2.2.2.2 (fun r1 r2 r3 r4 r5 r6 r7 r8 r9 r10 r11 r12=>K (.tup [.agg [.sl 0, .sl 1, .sl 2, .sl 3, .int .i64 r1, .sl 4, .int .i64 r2, .sl 5, .int .i64 r3, .bool r4], .int .i64 r5, .bool r6]) [⟨true, .list .int r7⟩,⟨true, .list .int r8⟩,⟨true, .list .int r9⟩,⟨true, .list .int r10⟩,⟨true, .list .int r11⟩,⟨true, .list .op r12⟩])
def J119_7 (K:TV→TMem→Prop) (ts:TFrm) (tm:TMem):Prop:=headT 0 H119_1000007 ts tm fun s=>S119_7 s K
theorem r119_7 (s:H119_1000007.S) (K:TV→TMem→Prop):segN PP 95 Γ119 H119 W119 0 4 (sufC 6 (bodyOf Tryz.f119)) (J119_15 K) (endT PP 95 [.cell 4 53, .tmp 5, .tmp 6] [.ag [.own .int, .own .int, .own .int, .own .int, .x, .own .int, .x, .own .op, .x, .bl], .x, .bl] [] 0 K) (frameOf H119_1000007.keep (H119_1000007.enc s).1) (H119_1000007.enc s).2=S119_7 s K:=by kernel_rfl
theorem q119_7 (s:H119_1000007.S) (K:TV→TMem→Prop):segT PP 95 Γ119 H119 W119 0 (sufC 6 (bodyOf Tryz.f119)) (endT PP 95 [.cell 4 53, .tmp 5, .tmp 6] [.ag [.own .int, .own .int, .own .int, .own .int, .x, .own .int, .x, .own .op, .x, .bl], .x, .bl] [] 0 K) (frameOf H119_1000007.keep (H119_1000007.enc s).1) (H119_1000007.enc s).2=S119_7 s K:=
 (segN_eq (by kernel_rfl) fun ts tm=>(j119_15 K ts tm).trans (congrArg (fun c=>TW PP 95 Γ119 H119 W119 0 c (endT PP 95 [.cell 4 53, .tmp 5, .tmp 6] [.ag [.own .int, .own .int, .own .int, .own .int, .x, .own .int, .x, .own .op, .x, .bl], .x, .bl] [] 0 K) ts tm) (sufC_split 6 4 11 rfl _))).trans (r119_7 s K)
theorem j119_7 (K:TV→TMem→Prop) (ts:TFrm) (tm:TMem):J119_7 K ts tm=TW PP 95 Γ119 H119 W119 0 (sufC 6 (bodyOf Tryz.f119)) (endT PP 95 [.cell 4 53, .tmp 5, .tmp 6] [.ag [.own .int, .own .int, .own .int, .own .int, .x, .own .int, .x, .own .op, .x, .bl], .x, .bl] [] 0 K) ts tm:=
 TW_seg (by kernel_rfl:regOf (sufC 6 (bodyOf Tryz.f119))=some 7) (by kernel_rfl) (fun s=>q119_7 s K) ts tm
def S119_4 (s:H119_1000004.S) (K:TV→TMem→Prop):Prop:=Mi_step_c4 s.1 s.2.1 s.2.2.1 s.2.2.2.1 s.2.2.2.2.1 s.2.2.2.2.2.1 s.2.2.2.2.2.2.1 s.2.2.2.2.2.2.2.1 s.2.2.2.2.2.2.2.2.1 s.2.2.2.2.2.2.2.2.2.1 s.2.2.2.2.2.2.2.2.2.2.1 s.2.2.2.2.2.2.2.2.2.2.2.1 s.2.2.2.2.2.2.2.2.2.2.2.2.1 s.2.2.2.2.2.2.2.2.2.2.2.2.2.1 s.2.2.2.2.2.2.2.2.2.2.2.2.2.2.1 s.2.2.2.2.2.2.2.2.2.2.2.2.2.2.2.1 s.2.2.2.2.2.2.2.2.2.2.2.2.2.2.2.2.1 s.2.2.2.2.2.2.2.2.2.2.2.2.2.2.2.2.2.1 s.2.2.2.2.2.2.2.2.2.2.2.2.2.2.2.2.2.2.1 s.2.2.2.2.2.2.2.2.2.2.2.2.2.2.2.2.2.2.2.1 s.2.2.2.2.2.2.2.2.2.2.2.2.2.2.2.2.2.2.2.2 (fun r1 r2 r3 r4 r5 r6 r7 r8 r9 r10 r11 r12=>K (.tup [.agg [.sl 0, .sl 1, .sl 2, .sl 3, .int .i64 r1, .sl 4, .int .i64 r2, .sl 5, .int .i64 r3, .bool r4], .int .i64 r5, .bool r6]) [⟨true, .list .int r7⟩,⟨true, .list .int r8⟩,⟨true, .list .int r9⟩,⟨true, .list .int r10⟩,⟨true, .list .int r11⟩,⟨true, .list .op r12⟩])
def J119_4 (K:TV→TMem→Prop) (ts:TFrm) (tm:TMem):Prop:=headT 0 H119_1000004 ts tm fun s=>S119_4 s K
theorem r119_4 (s:H119_1000004.S) (K:TV→TMem→Prop):segN PP 95 Γ119 H119 W119 0 2 (sufC 3 (bodyOf Tryz.f119)) (J119_7 K) (endT PP 95 [.cell 4 53, .tmp 5, .tmp 6] [.ag [.own .int, .own .int, .own .int, .own .int, .x, .own .int, .x, .own .op, .x, .bl], .x, .bl] [] 0 K) (frameOf H119_1000004.keep (H119_1000004.enc s).1) (H119_1000004.enc s).2=S119_4 s K:=by kernel_rfl
theorem q119_4 (s:H119_1000004.S) (K:TV→TMem→Prop):segT PP 95 Γ119 H119 W119 0 (sufC 3 (bodyOf Tryz.f119)) (endT PP 95 [.cell 4 53, .tmp 5, .tmp 6] [.ag [.own .int, .own .int, .own .int, .own .int, .x, .own .int, .x, .own .op, .x, .bl], .x, .bl] [] 0 K) (frameOf H119_1000004.keep (H119_1000004.enc s).1) (H119_1000004.enc s).2=S119_4 s K:=
 (segN_eq (by kernel_rfl) fun ts tm=>(j119_7 K ts tm).trans (congrArg (fun c=>TW PP 95 Γ119 H119 W119 0 c (endT PP 95 [.cell 4 53, .tmp 5, .tmp 6] [.ag [.own .int, .own .int, .own .int, .own .int, .x, .own .int, .x, .own .op, .x, .bl], .x, .bl] [] 0 K) ts tm) (sufC_split 3 2 6 rfl _))).trans (r119_4 s K)
theorem j119_4 (K:TV→TMem→Prop) (ts:TFrm) (tm:TMem):J119_4 K ts tm=TW PP 95 Γ119 H119 W119 0 (sufC 3 (bodyOf Tryz.f119)) (endT PP 95 [.cell 4 53, .tmp 5, .tmp 6] [.ag [.own .int, .own .int, .own .int, .own .int, .x, .own .int, .x, .own .op, .x, .bl], .x, .bl] [] 0 K) ts tm:=
 TW_seg (by kernel_rfl:regOf (sufC 3 (bodyOf Tryz.f119))=some 4) (by kernel_rfl) (fun s=>q119_4 s K) ts tm
theorem ea119:AllL (lvs K119) fun x=>∀K,TWn PP 95 Γ119 H119 W119 0 3 (bodyOf Tryz.f119) (J119_4 K) (endT PP 95 [.cell 4 53, .tmp 5, .tmp 6] [.ag [.own .int, .own .int, .own .int, .own .int, .x, .own .int, .x, .own .op, .x, .bl], .x, .bl] [] 0 K) (argsF (wr K119 x).1) (wr K119 x).2.2=B119 x K:=fun _ _ _ _ _ _ _ _ _ _ _ K=>by kernel_rfl
theorem e119:Eqn PP 95 Γ119 H119 W119 (bodyOf Tryz.f119) [.cell 4 53, .tmp 5, .tmp 6] [.ag [.own .int, .own .int, .own .int, .own .int, .x, .own .int, .x, .own .op, .x, .bl], .x, .bl] [] K119 B119:=fun x0 x1 x2 x3 x4 x5 x6 x7 x8 x9 x10 K=>
 (congrFun (congrFun (TWn_eq 3 _ (by kernel_rfl) fun ts tm=>j119_4 K ts tm) _) _).trans (ea119 x0 x1 x2 x3 x4 x5 x6 x7 x8 x9 x10 K)
theorem s119:CSound PP 119 G119:=fun_sk mixed Tryz.func119 (by decide) (by kernel_rfl) Tryz.ntmps119 Tryz.results119 (.cons u80 (.cons u82 (.cons u148 (.cons u23 (.cons u149 (.cons u150 (GSound.nil))))))) e119
def Uc119:=useC [.ag [.pure .int, .pure .int, .pure .int, .pure .int, .x, .pure .int, .x, .pure .op, .x, .bl], .bl] G119
theorem u119:CSound PP 119 Uc119:=useC_ok s119
def K91:List Tok:=[.Q 0, .s, .bC true, .L 1, .L 2, .L 3, .L 4, .i .i64, .L 5, .i .i64, .L 6, .i .i64, .b, .b, .S 0 11 75, .B 7, .E, .bL true .int, .bL true .int, .bL true .int, .bL true .int, .bL true .int, .bL true .op, .bL true .byte]
def B91:Body K91:=fun x K=>Mi_desk_one x.1 x.2.1 x.2.2.1 x.2.2.2.1 x.2.2.2.2.1 x.2.2.2.2.2.1 x.2.2.2.2.2.2.1 x.2.2.2.2.2.2.2.1 x.2.2.2.2.2.2.2.2.1 x.2.2.2.2.2.2.2.2.2.1 x.2.2.2.2.2.2.2.2.2.2.1 x.2.2.2.2.2.2.2.2.2.2.2.1 x.2.2.2.2.2.2.2.2.2.2.2.2.1 (fun r1 r2 r3 r4 r5 r6 r7 r8 r9 r10=>K (.bool r1) [⟨true, .cells [.sl 8, .sl 9, .sl 10, .sl 11, .int .i64 r2, .sl 12, .int .i64 r3, .sl 13, .int .i64 x.2.2.2.1, .bool r4, .bool x.2.2.2.2.2.1, .slf 0 11 75, .sb 14]⟩,⟨true, .dead⟩,⟨true, .dead⟩,⟨true, .dead⟩,⟨true, .dead⟩,⟨true, .dead⟩,⟨true, .dead⟩,⟨true, .dead⟩,⟨true, .list .int r5⟩,⟨true, .list .int r6⟩,⟨true, .list .int r7⟩,⟨true, .list .int r8⟩,⟨true, .list .int r9⟩,⟨true, .list .op x.2.2.2.2.2.2.2.2.2.2.2.1⟩,⟨true, .list .byte r10⟩])
def G91:=rdG K91 B91
def H91:List (Nat×LH):=[]
def W91:List (Nat×List (Nat×List Nat)):=[(9,[(17,[11])])]
def Γ91:List (Nat×Con):=[(129,Uc129),(119,Uc119),(44,Uc44)]
theorem e91:Eqn PP 59 Γ91 H91 W91 (bodyOf Tryz.f91) [.tmp 4] [.bl] [1,2,3,4,5,6,7] K91 B91:=fun _ _ _ _ _ _ _ _ _ _ _ _ _ K=>by kernel_rfl
theorem s91:CSound PP 91 G91:=fun_sk mixed Tryz.func91 (by decide) (by kernel_rfl) Tryz.ntmps91 Tryz.results91 (.cons u129 (.cons u119 (.cons u44 (GSound.nil)))) e91
def Uc91:=useC [.pc [.own .int, .own .int, .own .int, .own .int, .x, .own .int, .x, .own .op, .x, .bl, .bl, .x, .x], .x] G91
theorem u91:CSound PP 91 Uc91:=useC_ok s91
def K92:List Tok:=[.s]
def B92:Body K92:=fun x K=>Mi_ParseOps x.1 (fun r1 r2=>K (.tup [.sl 0, .bool r1]) [⟨true, .list .op r2⟩])
def G92:=rdG K92 B92
noncomputable def H92_0:=mkH [(4, .own .op),(14, .own .str),(15, .x),(16, .x)] [.L 0, .L 1, .i .i64, .i .i64, .bL true .op, .bL true .str]
noncomputable def H92:List (Nat×LH):=[(0,H92_0)]
def W92:List (Nat×List (Nat×List Nat)):=[]
def Γ92:List (Nat×Con):=[(42,Uc42),(129,Uc129)]
theorem e92:Eqn PP 38 Γ92 H92 W92 (bodyOf Tryz.f92) [.tmp 2, .tmp 3] [.own .op, .bl] [] K92 B92:=fun _ K=>by kernel_rfl
theorem s92:CSound PP 92 G92:=fun_sk mixed Tryz.func92 (by decide) (by kernel_rfl) Tryz.ntmps92 Tryz.results92 (.cons u42 (.cons u129 (GSound.nil))) e92
def Uc92:=useC [.x] G92
theorem u92:CSound PP 92 Uc92:=useC_ok s92
theorem enters81:Enters PP 81:=⟨_,Tryz.func81,by decide,rfl⟩
def G81:Con:=conSS M_strings_Trim
theorem s81:CSound PP 81 G81:=conSS_ok enters81 fun s cut w h=>by
 have hc:=Go.Proofs.Any.strings_Trim_laid Tryz.lays160 (by kernel_rfl) s cut w (by simpa using h.1) (by simpa using h.2.1) (Go.Proofs.ascii_of_all h.2.2)
 change Calls PP 81 _ _ _ at hc
 exact hc
def Uc81:=useC [.x, .x] G81
theorem u81:CSound PP 81 Uc81:=useC_ok s81
def K83:List Tok:=[.A, .p .int, .p .int, .p .int, .p .int, .i .i64, .p .int, .i .i64, .p .op, .i .i64, .b, .E, .b]
def B83:Body K83:=fun x K=>Mi_StepOp x.1 x.2.1 x.2.2.1 x.2.2.2.1 x.2.2.2.2.1 x.2.2.2.2.2.1 x.2.2.2.2.2.2.1 x.2.2.2.2.2.2.2.1 x.2.2.2.2.2.2.2.2.1 x.2.2.2.2.2.2.2.2.2.1 x.2.2.2.2.2.2.2.2.2.2.1 (fun r1 r2 r3 r4 r5 r6 r7 r8 r9 r10 r11=>K (.tup [.agg [.sl 0, .sl 1, .sl 2, .sl 3, .int .i64 r1, .sl 4, .int .i64 r2, .sl 5, .int .i64 r3, .bool r4], .bool r5]) [⟨true, .list .int r6⟩,⟨true, .list .int r7⟩,⟨true, .list .int r8⟩,⟨true, .list .int r9⟩,⟨true, .list .int r10⟩,⟨true, .list .op r11⟩])
def G83:=rdG K83 B83
def H83:List (Nat×LH):=[]
def W83:List (Nat×List (Nat×List Nat)):=[]
def Γ83:List (Nat×Con):=[(119,Uc119)]
theorem e83:Eqn PP 18 Γ83 H83 W83 (bodyOf Tryz.f83) [.cell 4 53, .tmp 5] [.ag [.own .int, .own .int, .own .int, .own .int, .x, .own .int, .x, .own .op, .x, .bl], .bl] [] K83 B83:=fun _ _ _ _ _ _ _ _ _ _ _ K=>by kernel_rfl
theorem s83:CSound PP 83 G83:=fun_sk mixed Tryz.func83 (by decide) (by kernel_rfl) Tryz.ntmps83 Tryz.results83 (.cons u119 (GSound.nil)) e83
def Uc83:=useC [.ag [.pure .int, .pure .int, .pure .int, .pure .int, .x, .pure .int, .x, .pure .op, .x, .bl], .bl] G83
theorem u83:CSound PP 83 Uc83:=useC_ok s83
def K120:List Tok:=[.A, .p .int, .p .int, .p .int, .p .int, .E, .A, .i .i64, .p .int, .i .i64, .E]
def B120:Body K120:=fun x K=>Mi_SweptCell x.1 x.2.1 x.2.2.1 x.2.2.2.1 x.2.2.2.2.1 x.2.2.2.2.2.1 x.2.2.2.2.2.2.1 (fun r1=>K (.int .i64 r1) [])
def G120:=rdG K120 B120
def H120:List (Nat×LH):=[]
def W120:List (Nat×List (Nat×List Nat)):=[]
def Γ120:List (Nat×Con):=[(111,Uc111),(77,Uc77)]
theorem e120:Eqn PP 32 Γ120 H120 W120 (bodyOf Tryz.f120) [.tmp 4] [.x] [] K120 B120:=fun _ _ _ _ _ _ _ K=>by kernel_rfl
theorem s120:CSound PP 120 G120:=fun_sk mixed Tryz.func120 (by decide) (by kernel_rfl) Tryz.ntmps120 Tryz.results120 (.cons u111 (.cons u77 (GSound.nil))) e120
def Uc120:=useC [.ag [.pure .int, .pure .int, .pure .int, .pure .int], .ag [.x, .pure .int, .x]] G120
theorem u120:CSound PP 120 Uc120:=useC_ok s120
def K167:List Tok:=[.i .i64, .i .i64, .Q 0, .Q 1, .bC true, .L 2, .E, .bC true, .L 3, .E, .bL true .int, .bL true .int]
def B167:Body K167:=fun x K=>Mi_distances_1 x.1 x.2.1 x.2.2.1 x.2.2.2.1 (fun r1 r2=>K (.tup []) [⟨true, .cells [.sl 2]⟩,⟨true, .cells [.sl 4]⟩,⟨true, .list .int r1⟩,⟨true, .dead⟩,⟨true, .list .int r2⟩])
def G167:=rdG K167 B167
def H167:List (Nat×LH):=[]
def W167:List (Nat×List (Nat×List Nat)):=[]
def Γ167:List (Nat×Con):=[]
theorem e167:Eqn PP 23 Γ167 H167 W167 (bodyOf Tryz.f167) [] [] [3] K167 B167:=fun _ _ _ _ K=>by kernel_rfl
theorem s167:CSound PP 167 G167:=fun_sk mixed Tryz.func167 (by decide) (by kernel_rfl) Tryz.ntmps167 Tryz.results167 (GSound.nil) e167
def Uc167:=useC [.x, .x, .pc [.own .int], .pc [.own .int]] G167
theorem u167:CSound PP 167 Uc167:=useC_ok s167
def K131:List Tok:=[.A, .p .int, .p .int, .p .int, .E]
def B131:Body K131:=fun x K=>Mi_distances x.1 x.2.1 x.2.2.1 (fun r1=>K (.sl 0) [⟨true, .list .int r1⟩])
def G131:=rdG K131 B131
noncomputable def H131_0:=mkH [(1, .pc [.pure .int, .pure .int, .pure .int]),(3, .pc [.own .int]),(4, .pc [.own .int]),(5, .x),(16, .pure .int),(17, .x),(18, .x)] [.Q 0, .Q 1, .Q 2, .F 167, .N, .Q 1, .Q 2, .E, .p .int, .i .i64, .i .i64, .bC true, .p .int, .p .int, .p .int, .E, .bC true, .L 3, .E, .bC true, .L 4, .E, .bL true .int, .bL true .int]
noncomputable def H131_2:=mkH [(1, .pc [.pure .int, .pure .int, .pure .int]),(3, .pc [.own .int]),(4, .pc [.own .int]),(5, .x),(8, .x)] [.Q 0, .Q 1, .Q 2, .F 167, .N, .Q 1, .Q 2, .E, .i .i64, .bC true, .p .int, .p .int, .p .int, .E, .bC true, .L 3, .E, .bC true, .L 4, .E, .bL true .int, .bL true .int]
noncomputable def H131:List (Nat×LH):=[(0,H131_0),(2,H131_2)]
def W131:List (Nat×List (Nat×List Nat)):=[]
def Γ131:List (Nat×Con):=[(167,Uc167)]
theorem e131:Eqn PP 69 Γ131 H131 W131 (bodyOf Tryz.f131) [.tmp 2] [.own .int] [] K131 B131:=fun _ _ _ K=>by kernel_rfl
theorem s131:CSound PP 131 G131:=fun_sk mixed Tryz.func131 (by decide) (by kernel_rfl) Tryz.ntmps131 Tryz.results131 (.cons u167 (GSound.nil)) e131
def Uc131:=useC [.ag [.pure .int, .pure .int, .pure .int]] G131
theorem u131:CSound PP 131 Uc131:=useC_ok s131
def K105:List Tok:=[.A, .p .int, .p .int, .p .int, .E]
def B105:Body K105:=fun x K=>Mi_Reachable x.1 x.2.1 x.2.2.1 (fun r1=>K (.sl 0) [⟨true, .list .bool r1⟩])
def G105:=rdG K105 B105
noncomputable def H105_0:=mkH [(3, .own .bool),(11, .own .int),(12, .x),(13, .x)] [.L 0, .L 1, .i .i64, .i .i64, .bL true .bool, .bL true .int]
noncomputable def H105:List (Nat×LH):=[(0,H105_0)]
def W105:List (Nat×List (Nat×List Nat)):=[]
def Γ105:List (Nat×Con):=[(66,Uc66),(131,Uc131)]
theorem e105:Eqn PP 24 Γ105 H105 W105 (bodyOf Tryz.f105) [.tmp 2] [.own .bool] [] K105 B105:=fun _ _ _ K=>by kernel_rfl
theorem s105:CSound PP 105 G105:=fun_sk mixed Tryz.func105 (by decide) (by kernel_rfl) Tryz.ntmps105 Tryz.results105 (.cons u66 (.cons u131 (GSound.nil))) e105
def Uc105:=useC [.ag [.pure .int, .pure .int, .pure .int]] G105
theorem u105:CSound PP 105 Uc105:=useC_ok s105
def K152:List Tok:=[.A, .p .int, .p .int, .p .int, .E, .L 0, .bL true .int]
def B152:Body K152:=fun x K=>Mi_look x.1 x.2.1 x.2.2.1 x.2.2.2.1 (fun r1 r2=>K (.bool r1) [⟨true, .list .int r2⟩])
def G152:=rdG K152 B152
def H152:List (Nat×LH):=[]
def W152:List (Nat×List (Nat×List Nat)):=[]
def Γ152:List (Nat×Con):=[(69,Uc69),(151,Uc151)]
theorem e152:Eqn PP 27 Γ152 H152 W152 (bodyOf Tryz.f152) [.tmp 4] [.bl] [] K152 B152:=fun _ _ _ _ K=>by kernel_rfl
theorem s152:CSound PP 152 G152:=fun_sk mixed Tryz.func152 (by decide) (by kernel_rfl) Tryz.ntmps152 Tryz.results152 (.cons u69 (.cons u151 (GSound.nil))) e152
def Uc152:=useC [.ag [.pure .int, .pure .int, .pure .int], .own .int] G152
theorem u152:CSound PP 152 Uc152:=useC_ok s152
def K154:List Tok:=[.i .i64, .Q 0, .bC false, .i .i64, .L 1, .i .i64, .E, .bL false .int]
def B154:Body K154:=fun x K=>Mi_StepGc_1 x.1 x.2.1 x.2.2.1 x.2.2.2.1 (fun r1=>K (.bool r1) [⟨false, .cells [.int .i64 x.2.1, .sl 1, .int .i64 x.2.2.1]⟩,⟨false, .list .int x.2.2.2.1⟩])
def G154:=rdG K154 B154
def H154:List (Nat×LH):=[]
def W154:List (Nat×List (Nat×List Nat)):=[]
def Γ154:List (Nat×Con):=[]
theorem e154:Eqn PP 14 Γ154 H154 W154 (bodyOf Tryz.f154) [.tmp 3] [.bl] [] K154 B154:=fun _ _ _ _ K=>by kernel_rfl
theorem s154:CSound PP 154 G154:=fun_sk mixed Tryz.func154 (by decide) (by kernel_rfl) Tryz.ntmps154 Tryz.results154 (GSound.nil) e154
def Uc154:=useC [.x, .pc [.x, .own .int, .x]] (onlyC [] G154)
theorem u154:CSound PP 154 Uc154:=useC_ok (onlyC_ok s154)
def K153:List Tok:=[.p .int, .F 154, .N, .Q 0, .E, .bC false, .i .i64, .L 1, .i .i64, .E, .bL false .int]
def B153:Body K153:=fun x K=>M_IndexFunc_int x.1 x.2.1 x.2.2.1 x.2.2.2.1 (fun r1 r2 r3 r4=>K (.int .i64 r1) [⟨false, .cells [.int .i64 r2, .sl 1, .int .i64 r3]⟩,⟨false, .list .int r4⟩])
def G153:=rdG K153 B153
noncomputable def H153_0:=mkH [(0, .pure .int),(1, .x),(7, .x),(8, .x)] [.p .int, .F 154, .N, .Q 0, .E, .i .i64, .i .i64, .bC false, .i .i64, .L 1, .i .i64, .E, .bL false .int]
noncomputable def H153:List (Nat×LH):=[(0,H153_0)]
def W153:List (Nat×List (Nat×List Nat)):=[]
def Γ153:List (Nat×Con):=[(154,Uc154)]
theorem e153:Eqn PP 19 Γ153 H153 W153 (bodyOf Tryz.f153) [.tmp 4] [.x] [] K153 B153:=fun _ _ _ _ K=>by kernel_rfl
theorem s153:CSound PP 153 G153:=fun_sk mixed Tryz.func153 (by decide) (by kernel_rfl) Tryz.ntmps153 Tryz.results153 (.cons u154 (GSound.nil)) e153
def Uc153:=useC [.pure .int, .x] (onlyC [] G153)
theorem u153:CSound PP 153 Uc153:=useC_ok (onlyC_ok s153)
def K155:List Tok:=[.Q 0, .p .int, .bC true, .L 1, .L 2, .L 3, .L 4, .E, .bL true .int, .bL true .int, .bL true .int, .bL true .int]
def B155:Body K155:=fun x K=>Mi_Store_clear x.1 x.2.1 x.2.2.1 x.2.2.2.1 x.2.2.2.2.1 (fun r1 r2 r3 r4=>K (.tup []) [⟨true, .cells [.sl 1, .sl 2, .sl 3, .sl 5]⟩,⟨true, .list .int r1⟩,⟨true, .list .int r2⟩,⟨true, .list .int r3⟩,⟨true, .dead⟩,⟨true, .list .int r4⟩])
def G155:=rdG K155 B155
noncomputable def H155_0:=mkH [(0, .pc [.own .int, .own .int, .own .int, .mv .int]),(7, .pure .int),(8, .x),(9, .x)] [.Q 0, .p .int, .i .i64, .i .i64, .bC true, .L 1, .L 2, .L 3, .L 5, .E, .bL true .int, .bL true .int, .bL true .int, .bD true, .bL true .int]
noncomputable def H155_2:=mkH [(0, .pc [.own .int, .own .int, .own .int, .own .int]),(5, .x),(7, .pure .int),(8, .x),(9, .x),(32, .x),(33, .x)] [.Q 0, .i .i64, .p .int, .i .i64, .i .i64, .i .i64, .i .i64, .bC true, .L 1, .L 2, .L 3, .L 5, .E, .bL true .int, .bL true .int, .bL true .int, .bD true, .bL true .int]
noncomputable def H155:List (Nat×LH):=[(0,H155_0),(2,H155_2)]
def W155:List (Nat×List (Nat×List Nat)):=[]
def Γ155:List (Nat×Con):=[]
theorem e155:Eqn PP 82 Γ155 H155 W155 (bodyOf Tryz.f155) [] [] [4] K155 B155:=fun _ _ _ _ _ K=>by kernel_rfl
theorem s155:CSound PP 155 G155:=fun_sk mixed Tryz.func155 (by decide) (by kernel_rfl) Tryz.ntmps155 Tryz.results155 (GSound.nil) e155
def Uc155:=useC [.pc [.own .int, .own .int, .own .int, .own .int], .pure .int] G155
theorem u155:CSound PP 155 Uc155:=useC_ok s155
def K121:List Tok:=[.A, .p .int, .p .int, .p .int, .p .int, .E, .A, .i .i64, .p .int, .i .i64, .E]
def B121:Body K121:=fun x K=>Mi_StepGc x.1 x.2.1 x.2.2.1 x.2.2.2.1 x.2.2.2.2.1 x.2.2.2.2.2.1 x.2.2.2.2.2.2.1 (fun r1 r2 r3 r4 r5 r6 r7 r8=>K (.tup [.agg [.sl 0, .sl 1, .sl 2, .sl 3], .agg [.int .i64 r1, .sl 4, .int .i64 r2], .bool r3]) [⟨true, .list .int r4⟩,⟨true, .list .int r5⟩,⟨true, .list .int r6⟩,⟨true, .list .int r7⟩,⟨true, .list .int r8⟩])
def G121:=rdG K121 B121
noncomputable def H121_1000004:=mkH [(2, .pc [.pure .int, .pure .int, .pure .int, .pure .int]),(3, .pc [.x, .pure .int, .x]),(4, .pc [.own .int, .own .int, .own .int, .own .int]),(5, .pc [.x, .own .int, .x]),(7, .x)] [.Q 0, .Q 1, .Q 2, .Q 3, .i .i64, .bC true, .p .int, .p .int, .p .int, .p .int, .E, .bC true, .i .i64, .p .int, .i .i64, .E, .bC true, .L 4, .L 5, .L 6, .L 7, .E, .bC true, .i .i64, .L 8, .i .i64, .E, .bL true .int, .bL true .int, .bL true .int, .bL true .int, .bL true .int]
noncomputable def H121_1000027:=mkH [(2, .pc [.own .int, .own .int, .own .int, .own .int]),(3, .pc [.x, .own .int, .x]),(4, .pc [.own .int, .own .int, .own .int, .own .int]),(5, .pc [.x, .own .int, .x])] [.Q 0, .Q 1, .Q 2, .Q 3, .bC true, .L 4, .L 5, .L 6, .L 7, .E, .bC true, .i .i64, .L 8, .i .i64, .E, .bC true, .L 9, .L 10, .L 11, .L 12, .E, .bC true, .i .i64, .L 13, .i .i64, .E, .bL true .int, .bL true .int, .bL true .int, .bL true .int, .bL true .int, .bL true .int, .bL true .int, .bL true .int, .bL true .int, .bL true .int]
noncomputable def H121:List (Nat×LH):=[(1000004,H121_1000004),(1000027,H121_1000027)]
def W121:List (Nat×List (Nat×List Nat)):=[(27,[(2,[2])])]
def Γ121:List (Nat×Con):=[(120,Uc120),(111,Uc111),(77,Uc77),(58,Uc58),(99,Uc99),(151,Uc151),(152,Uc152),(153,Uc153),(155,Uc155)]
def S121_27 (s:H121_1000027.S) (K:TV→TMem→Prop):Prop:=Mi_StepGc_c27 s.1 s.2.1 s.2.2.1 s.2.2.2.1 s.2.2.2.2.1 s.2.2.2.2.2.1 s.2.2.2.2.2.2.1 s.2.2.2.2.2.2.2.1 s.2.2.2.2.2.2.2.2.1 s.2.2.2.2.2.2.2.2.2.1 s.2.2.2.2.2.2.2.2.2.2.1 s.2.2.2.2.2.2.2.2.2.2.2.1 s.2.2.2.2.2.2.2.2.2.2.2.2.1 s.2.2.2.2.2.2.2.2.2.2.2.2.2 (fun r1 r2 r3 r4 r5 r6 r7 r8=>K (.tup [.agg [.sl 0, .sl 1, .sl 2, .sl 3], .agg [.int .i64 r1, .sl 4, .int .i64 r2], .bool r3]) [⟨true, .list .int r4⟩,⟨true, .list .int r5⟩,⟨true, .list .int r6⟩,⟨true, .list .int r7⟩,⟨true, .list .int r8⟩])
def J121_27 (K:TV→TMem→Prop) (ts:TFrm) (tm:TMem):Prop:=headT 0 H121_1000027 ts tm fun s=>S121_27 s K
theorem q121_27 (s:H121_1000027.S) (K:TV→TMem→Prop):segT PP 119 Γ121 H121 W121 0 (sufC 6 (bodyOf Tryz.f121)) (endT PP 119 [.cell 4 29, .cell 5 51, .tmp 6] [.ag [.own .int, .own .int, .own .int, .own .int], .ag [.x, .own .int, .x], .bl] [] 0 K) (frameOf H121_1000027.keep (H121_1000027.enc s).1) (H121_1000027.enc s).2=S121_27 s K:=by kernel_rfl
theorem j121_27 (K:TV→TMem→Prop) (ts:TFrm) (tm:TMem):J121_27 K ts tm=TW PP 119 Γ121 H121 W121 0 (sufC 6 (bodyOf Tryz.f121)) (endT PP 119 [.cell 4 29, .cell 5 51, .tmp 6] [.ag [.own .int, .own .int, .own .int, .own .int], .ag [.x, .own .int, .x], .bl] [] 0 K) ts tm:=
 TW_seg (by kernel_rfl:regOf (sufC 6 (bodyOf Tryz.f121))=some 27) (by kernel_rfl) (fun s=>q121_27 s K) ts tm
def S121_4 (s:H121_1000004.S) (K:TV→TMem→Prop):Prop:=Mi_StepGc_c4 s.1 s.2.1 s.2.2.1 s.2.2.2.1 s.2.2.2.2.1 s.2.2.2.2.2.1 s.2.2.2.2.2.2.1 s.2.2.2.2.2.2.2.1 s.2.2.2.2.2.2.2.2.1 s.2.2.2.2.2.2.2.2.2.1 s.2.2.2.2.2.2.2.2.2.2.1 s.2.2.2.2.2.2.2.2.2.2.2.1 s.2.2.2.2.2.2.2.2.2.2.2.2.1 s.2.2.2.2.2.2.2.2.2.2.2.2.2.1 s.2.2.2.2.2.2.2.2.2.2.2.2.2.2 (fun r1 r2 r3 r4 r5 r6 r7 r8=>K (.tup [.agg [.sl 0, .sl 1, .sl 2, .sl 3], .agg [.int .i64 r1, .sl 4, .int .i64 r2], .bool r3]) [⟨true, .list .int r4⟩,⟨true, .list .int r5⟩,⟨true, .list .int r6⟩,⟨true, .list .int r7⟩,⟨true, .list .int r8⟩])
def J121_4 (K:TV→TMem→Prop) (ts:TFrm) (tm:TMem):Prop:=headT 0 H121_1000004 ts tm fun s=>S121_4 s K
theorem r121_4 (s:H121_1000004.S) (K:TV→TMem→Prop):segN PP 119 Γ121 H121 W121 0 2 (sufC 3 (bodyOf Tryz.f121)) (J121_27 K) (endT PP 119 [.cell 4 29, .cell 5 51, .tmp 6] [.ag [.own .int, .own .int, .own .int, .own .int], .ag [.x, .own .int, .x], .bl] [] 0 K) (frameOf H121_1000004.keep (H121_1000004.enc s).1) (H121_1000004.enc s).2=S121_4 s K:=by kernel_rfl
theorem q121_4 (s:H121_1000004.S) (K:TV→TMem→Prop):segT PP 119 Γ121 H121 W121 0 (sufC 3 (bodyOf Tryz.f121)) (endT PP 119 [.cell 4 29, .cell 5 51, .tmp 6] [.ag [.own .int, .own .int, .own .int, .own .int], .ag [.x, .own .int, .x], .bl] [] 0 K) (frameOf H121_1000004.keep (H121_1000004.enc s).1) (H121_1000004.enc s).2=S121_4 s K:=
 (segN_eq (by kernel_rfl) fun ts tm=>(j121_27 K ts tm).trans (congrArg (fun c=>TW PP 119 Γ121 H121 W121 0 c (endT PP 119 [.cell 4 29, .cell 5 51, .tmp 6] [.ag [.own .int, .own .int, .own .int, .own .int], .ag [.x, .own .int, .x], .bl] [] 0 K) ts tm) (sufC_split 3 2 6 rfl _))).trans (r121_4 s K)
theorem j121_4 (K:TV→TMem→Prop) (ts:TFrm) (tm:TMem):J121_4 K ts tm=TW PP 119 Γ121 H121 W121 0 (sufC 3 (bodyOf Tryz.f121)) (endT PP 119 [.cell 4 29, .cell 5 51, .tmp 6] [.ag [.own .int, .own .int, .own .int, .own .int], .ag [.x, .own .int, .x], .bl] [] 0 K) ts tm:=
 TW_seg (by kernel_rfl:regOf (sufC 3 (bodyOf Tryz.f121))=some 4) (by kernel_rfl) (fun s=>q121_4 s K) ts tm
theorem ea121:AllL (lvs K121) fun x=>∀K,TWn PP 119 Γ121 H121 W121 0 3 (bodyOf Tryz.f121) (J121_4 K) (endT PP 119 [.cell 4 29, .cell 5 51, .tmp 6] [.ag [.own .int, .own .int, .own .int, .own .int], .ag [.x, .own .int, .x], .bl] [] 0 K) (argsF (wr K121 x).1) (wr K121 x).2.2=B121 x K:=fun _ _ _ _ _ _ _ K=>by kernel_rfl
theorem e121:Eqn PP 119 Γ121 H121 W121 (bodyOf Tryz.f121) [.cell 4 29, .cell 5 51, .tmp 6] [.ag [.own .int, .own .int, .own .int, .own .int], .ag [.x, .own .int, .x], .bl] [] K121 B121:=fun x0 x1 x2 x3 x4 x5 x6 K=>
 (congrFun (congrFun (TWn_eq 3 _ (by kernel_rfl) fun ts tm=>j121_4 K ts tm) _) _).trans (ea121 x0 x1 x2 x3 x4 x5 x6 K)
theorem s121:CSound PP 121 G121:=fun_sk mixed Tryz.func121 (by decide) (by kernel_rfl) Tryz.ntmps121 Tryz.results121 (.cons u120 (.cons u111 (.cons u77 (.cons u58 (.cons u99 (.cons u151 (.cons u152 (.cons u153 (.cons u155 (GSound.nil)))))))))) e121
def Uc121:=useC [.ag [.pure .int, .pure .int, .pure .int, .pure .int], .ag [.x, .pure .int, .x]] G121
theorem u121:CSound PP 121 Uc121:=useC_ok s121
def K84:List Tok:=[.A, .p .int, .p .int, .p .int, .p .int, .i .i64, .p .int, .i .i64, .p .op, .i .i64, .b, .E]
def B84:Body K84:=fun x K=>Mi_StepBoth x.1 x.2.1 x.2.2.1 x.2.2.2.1 x.2.2.2.2.1 x.2.2.2.2.2.1 x.2.2.2.2.2.2.1 x.2.2.2.2.2.2.2.1 x.2.2.2.2.2.2.2.2.1 x.2.2.2.2.2.2.2.2.2.1 (fun r1 r2 r3 r4 r5 r6 r7 r8 r9 r10 r11=>K (.tup [.agg [.sl 0, .sl 1, .sl 2, .sl 3, .int .i64 r1, .sl 4, .int .i64 r2, .sl 5, .int .i64 r3, .bool r4], .bool r5]) [⟨true, .list .int r6⟩,⟨true, .list .int r7⟩,⟨true, .list .int r8⟩,⟨true, .list .int r9⟩,⟨true, .list .int r10⟩,⟨true, .list .op r11⟩])
def G84:=rdG K84 B84
def H84:List (Nat×LH):=[]
def W84:List (Nat×List (Nat×List Nat)):=[]
def Γ84:List (Nat×Con):=[(80,Uc80),(82,Uc82),(120,Uc120),(105,Uc105),(121,Uc121)]
theorem e84:Eqn PP 45 Γ84 H84 W84 (bodyOf Tryz.f84) [.cell 2 53, .tmp 3] [.ag [.own .int, .own .int, .own .int, .own .int, .x, .own .int, .x, .own .op, .x, .bl], .bl] [] K84 B84:=fun _ _ _ _ _ _ _ _ _ _ K=>by kernel_rfl
theorem s84:CSound PP 84 G84:=fun_sk mixed Tryz.func84 (by decide) (by kernel_rfl) Tryz.ntmps84 Tryz.results84 (.cons u80 (.cons u82 (.cons u120 (.cons u105 (.cons u121 (GSound.nil)))))) e84
def Uc84:=useC [.ag [.pure .int, .pure .int, .pure .int, .pure .int, .x, .pure .int, .x, .pure .op, .x, .bl]] G84
theorem u84:CSound PP 84 Uc84:=useC_ok s84
def K34:List Tok:=[.A, .p .int, .p .int, .p .int, .p .int, .i .i64, .p .int, .i .i64, .p .op, .i .i64, .b, .E, .s, .b]
def B34:Body K34:=fun x K=>Mi_RunBoth x.1 x.2.1 x.2.2.1 x.2.2.2.1 x.2.2.2.2.1 x.2.2.2.2.2.1 x.2.2.2.2.2.2.1 x.2.2.2.2.2.2.2.1 x.2.2.2.2.2.2.2.2.1 x.2.2.2.2.2.2.2.2.2.1 x.2.2.2.2.2.2.2.2.2.2.1 x.2.2.2.2.2.2.2.2.2.2.2.1 (fun r1 r2 r3 r4 r5 r6 r7 r8 r9 r10 r11=>K (.tup [.agg [.sl 0, .sl 1, .sl 2, .sl 3, .int .i64 r1, .sl 4, .int .i64 r2, .sl 5, .int .i64 r3, .bool r4], .bool r5]) [⟨true, .list .int r6⟩,⟨true, .list .int r7⟩,⟨true, .list .int r8⟩,⟨true, .list .int r9⟩,⟨true, .list .int r10⟩,⟨true, .list .op r11⟩])
def G34:=rdG K34 B34
noncomputable def H34_0:=mkH [(1, .x),(2, .bl),(3, .pc [.own .int, .own .int, .own .int, .own .int, .x, .own .int, .x, .own .op, .x, .bl]),(6, .pc [.own .int, .own .int, .own .int, .own .int, .x, .own .int, .x, .own .op, .x, .bl]),(28, .x),(29, .x)] [.s, .b, .Q 0, .Q 1, .i .i64, .i .i64, .bC true, .L 2, .L 3, .L 4, .L 5, .i .i64, .L 6, .i .i64, .L 7, .i .i64, .b, .E, .bC true, .L 8, .L 9, .L 10, .L 11, .i .i64, .L 12, .i .i64, .L 13, .i .i64, .b, .E, .bL true .int, .bL true .int, .bL true .int, .bL true .int, .bL true .int, .bL true .op, .bL true .int, .bL true .int, .bL true .int, .bL true .int, .bL true .int, .bL true .op]
noncomputable def H34:List (Nat×LH):=[(0,H34_0)]
def W34:List (Nat×List (Nat×List Nat)):=[]
def Γ34:List (Nat×Con):=[(80,Uc80),(81,Uc81),(82,Uc82),(83,Uc83),(84,Uc84)]
theorem e34:Eqn PP 52 Γ34 H34 W34 (bodyOf Tryz.f34) [.cell 6 53, .tmp 7] [.ag [.own .int, .own .int, .own .int, .own .int, .x, .own .int, .x, .own .op, .x, .bl], .bl] [] K34 B34:=fun _ _ _ _ _ _ _ _ _ _ _ _ K=>by kernel_rfl
theorem s34:CSound PP 34 G34:=fun_sk mixed Tryz.func34 (by decide) (by kernel_rfl) Tryz.ntmps34 Tryz.results34 (.cons u80 (.cons u81 (.cons u82 (.cons u83 (.cons u84 (GSound.nil)))))) e34
def Uc34:=useC [.ag [.pure .int, .pure .int, .pure .int, .pure .int, .x, .pure .int, .x, .pure .op, .x, .bl], .x, .bl] G34
theorem u34:CSound PP 34 Uc34:=useC_ok s34
def K70:List Tok:=[.i .i64]
def B70:Body K70:=fun x K=>Mi_digit x.1 (fun r1=>K (.str r1) [])
def G70:=rdG K70 B70
def H70:List (Nat×LH):=[]
def W70:List (Nat×List (Nat×List Nat)):=[]
def Γ70:List (Nat×Con):=[(53,Uc53)]
theorem e70:Eqn PP 7 Γ70 H70 W70 (bodyOf Tryz.f70) [.tmp 2] [.x] [] K70 B70:=fun _ K=>by kernel_rfl
theorem s70:CSound PP 70 G70:=fun_sk mixed Tryz.func70 (by decide) (by kernel_rfl) Tryz.ntmps70 Tryz.results70 (.cons u53 (GSound.nil)) e70
def Uc70:=useC [.x] G70
theorem u70:CSound PP 70 Uc70:=useC_ok s70
def K28:List Tok:=[.A, .p .int, .p .int, .p .int, .E]
def B28:Body K28:=fun x K=>Mi_FormatHeap x.1 x.2.1 x.2.2.1 (fun r1=>K (.str r1) [])
def G28:=rdG K28 B28
noncomputable def H28_0:=mkH [(1, .pc [.pure .int, .pure .int, .pure .int]),(3, .x),(12, .x),(13, .x)] [.Q 0, .s, .i .i64, .i .i64, .bC true, .p .int, .p .int, .p .int, .E]
noncomputable def H28_2:=mkH [(3, .x),(36, .pure .int),(37, .x),(38, .x)] [.s, .p .int, .i .i64, .i .i64]
noncomputable def H28:List (Nat×LH):=[(0,H28_0),(2,H28_2)]
def W28:List (Nat×List (Nat×List Nat)):=[]
def Γ28:List (Nat×Con):=[(66,Uc66),(70,Uc70)]
theorem e28:Eqn PP 49 Γ28 H28 W28 (bodyOf Tryz.f28) [.tmp 2] [.x] [] K28 B28:=fun _ _ _ K=>by kernel_rfl
theorem s28:CSound PP 28 G28:=fun_sk mixed Tryz.func28 (by decide) (by kernel_rfl) Tryz.ntmps28 Tryz.results28 (.cons u66 (.cons u70 (GSound.nil))) e28
def Uc28:=useC [.ag [.pure .int, .pure .int, .pure .int]] G28
theorem u28:CSound PP 28 Uc28:=useC_ok s28
def K50:List Tok:=[.p .int]
def B50:Body K50:=fun x K=>Mi_spaced x.1 (fun r1=>K (.str r1) [])
def G50:=rdG K50 B50
noncomputable def H50_0:=mkH [(3, .x),(6, .pure .int),(7, .x),(8, .x)] [.s, .p .int, .i .i64, .i .i64]
noncomputable def H50:List (Nat×LH):=[(0,H50_0)]
def W50:List (Nat×List (Nat×List Nat)):=[]
def Γ50:List (Nat×Con):=[(53,Uc53)]
theorem e50:Eqn PP 19 Γ50 H50 W50 (bodyOf Tryz.f50) [.tmp 2] [.x] [] K50 B50:=fun _ K=>by kernel_rfl
theorem s50:CSound PP 50 G50:=fun_sk mixed Tryz.func50 (by decide) (by kernel_rfl) Tryz.ntmps50 Tryz.results50 (.cons u53 (GSound.nil)) e50
def Uc50:=useC [.pure .int] G50
theorem u50:CSound PP 50 Uc50:=useC_ok s50
def K19:List Tok:=[.A, .p .int, .p .int, .p .int, .p .int, .E]
def B19:Body K19:=fun x K=>Mi_FormatStore x.1 x.2.1 x.2.2.1 x.2.2.2.1 (fun r1=>K (.str r1) [])
def G19:=rdG K19 B19
def H19:List (Nat×LH):=[]
def W19:List (Nat×List (Nat×List Nat)):=[]
def Γ19:List (Nat×Con):=[(49,Uc49),(28,Uc28),(50,Uc50)]
theorem e19:Eqn PP 14 Γ19 H19 W19 (bodyOf Tryz.f19) [.tmp 2] [.x] [] K19 B19:=fun _ _ _ _ K=>by kernel_rfl
theorem s19:CSound PP 19 G19:=fun_sk mixed Tryz.func19 (by decide) (by kernel_rfl) Tryz.ntmps19 Tryz.results19 (.cons u49 (.cons u28 (.cons u50 (GSound.nil)))) e19
def Uc19:=useC [.ag [.pure .int, .pure .int, .pure .int, .pure .int]] G19
theorem u19:CSound PP 19 Uc19:=useC_ok s19
def K35:List Tok:=[.A, .p .int, .p .int, .p .int, .p .int, .i .i64, .p .int, .i .i64, .p .op, .i .i64, .b, .E]
def B35:Body K35:=fun x K=>Mi_FormatBoth x.1 x.2.1 x.2.2.1 x.2.2.2.1 x.2.2.2.2.1 x.2.2.2.2.2.1 x.2.2.2.2.2.2.1 x.2.2.2.2.2.2.2.1 x.2.2.2.2.2.2.2.2.1 x.2.2.2.2.2.2.2.2.2.1 (fun r1=>K (.str r1) [])
def G35:=rdG K35 B35
noncomputable def H35_0:=mkH [(1, .pc [.pure .int, .pure .int, .pure .int, .pure .int, .x, .pure .int, .x, .pure .op, .x, .bl]),(3, .x),(29, .pure .int),(30, .x),(31, .x)] [.Q 0, .s, .p .int, .i .i64, .i .i64, .bC true, .p .int, .p .int, .p .int, .p .int, .i .i64, .p .int, .i .i64, .p .op, .i .i64, .b, .E]
noncomputable def H35:List (Nat×LH):=[(0,H35_0)]
def W35:List (Nat×List (Nat×List Nat)):=[]
def Γ35:List (Nat×Con):=[(80,Uc80),(19,Uc19),(53,Uc53)]
theorem e35:Eqn PP 53 Γ35 H35 W35 (bodyOf Tryz.f35) [.tmp 2] [.x] [] K35 B35:=fun _ _ _ _ _ _ _ _ _ _ K=>by kernel_rfl
theorem s35:CSound PP 35 G35:=fun_sk mixed Tryz.func35 (by decide) (by kernel_rfl) Tryz.ntmps35 Tryz.results35 (.cons u80 (.cons u19 (.cons u53 (GSound.nil)))) e35
def Uc35:=useC [.ag [.pure .int, .pure .int, .pure .int, .pure .int, .x, .pure .int, .x, .pure .op, .x, .bl]] G35
theorem u35:CSound PP 35 Uc35:=useC_ok s35
def K132:List Tok:=[.A, .p .int, .p .int, .p .int, .E, .i .i64]
def B132:Body K132:=fun x K=>Mi_SourcesOf x.1 x.2.1 x.2.2.1 x.2.2.2.1 (fun r1=>K (.sl 0) [⟨true, .list .int r1⟩])
def G132:=rdG K132 B132
noncomputable def H132_0:=mkH [(1, .x),(2, .pc [.pure .int, .pure .int, .pure .int]),(5, .own .int),(14, .x),(15, .x)] [.i .i64, .Q 0, .L 1, .i .i64, .i .i64, .bC true, .p .int, .p .int, .p .int, .E, .bL true .int]
noncomputable def H132:List (Nat×LH):=[(0,H132_0)]
def W132:List (Nat×List (Nat×List Nat)):=[]
def Γ132:List (Nat×Con):=[(130,Uc130)]
theorem e132:Eqn PP 40 Γ132 H132 W132 (bodyOf Tryz.f132) [.tmp 4] [.own .int] [] K132 B132:=fun _ _ _ _ K=>by kernel_rfl
theorem s132:CSound PP 132 G132:=fun_sk mixed Tryz.func132 (by decide) (by kernel_rfl) Tryz.ntmps132 Tryz.results132 (.cons u130 (GSound.nil)) e132
def Uc132:=useC [.ag [.pure .int, .pure .int, .pure .int], .x] G132
theorem u132:CSound PP 132 Uc132:=useC_ok s132
def K93:List Tok:=[.A, .p .int, .p .int, .p .int, .E, .i .i64]
def B93:Body K93:=fun x K=>Mi_PathTo x.1 x.2.1 x.2.2.1 x.2.2.2.1 (fun r1 r2=>K (.tup [.sl 0, .bool r1]) [⟨true, .list .int r2⟩])
def G93:=rdG K93 B93
noncomputable def H93_0:=mkH [(2, .pc [.pure .int, .pure .int, .pure .int]),(6, .own .int),(7, .own .int)] [.Q 0, .L 1, .L 2, .bC true, .p .int, .p .int, .p .int, .E, .bL true .int, .bL true .int]
noncomputable def H93_2:=mkH [(2, .pc [.pure .int, .pure .int, .pure .int]),(6, .own .int),(7, .own .int),(34, .own .int),(35, .x),(36, .x)] [.Q 0, .L 1, .L 2, .L 3, .i .i64, .i .i64, .bC true, .p .int, .p .int, .p .int, .E, .bL true .int, .bL true .int, .bL true .int]
noncomputable def H93:List (Nat×LH):=[(0,H93_0),(2,H93_2)]
def W93:List (Nat×List (Nat×List Nat)):=[]
def Γ93:List (Nat×Con):=[(130,Uc130),(131,Uc131),(132,Uc132)]
theorem e93:Eqn PP 58 Γ93 H93 W93 (bodyOf Tryz.f93) [.tmp 4, .tmp 5] [.own .int, .bl] [] K93 B93:=fun _ _ _ _ K=>by kernel_rfl
theorem s93:CSound PP 93 G93:=fun_sk mixed Tryz.func93 (by decide) (by kernel_rfl) Tryz.ntmps93 Tryz.results93 (.cons u130 (.cons u131 (.cons u132 (GSound.nil)))) e93
def Uc93:=useC [.ag [.pure .int, .pure .int, .pure .int], .x] G93
theorem u93:CSound PP 93 Uc93:=useC_ok s93
def K46:List Tok:=[.Q 0, .s, .s, .bC true, .L 1, .L 2, .L 3, .L 4, .i .i64, .L 5, .i .i64, .L 6, .i .i64, .b, .b, .S 0 11 75, .B 7, .E, .bL true .int, .bL true .int, .bL true .int, .bL true .int, .bL true .int, .bL true .op, .bL true .byte]
def B46:Body K46:=fun x K=>Mi_desk_rest x.1 x.2.1 x.2.2.1 x.2.2.2.1 x.2.2.2.2.1 x.2.2.2.2.2.1 x.2.2.2.2.2.2.1 x.2.2.2.2.2.2.2.1 x.2.2.2.2.2.2.2.2.1 x.2.2.2.2.2.2.2.2.2.1 x.2.2.2.2.2.2.2.2.2.2.1 x.2.2.2.2.2.2.2.2.2.2.2.1 x.2.2.2.2.2.2.2.2.2.2.2.2.1 x.2.2.2.2.2.2.2.2.2.2.2.2.2.1 (fun r1 r2 r3 r4 r5 r6 r7 r8 r9 r10 r11 r12 r13=>K (.bool r1) [⟨true, .cells [.sl 8, .sl 9, .sl 10, .sl 11, .int .i64 r2, .sl 12, .int .i64 r3, .sl 13, .int .i64 r4, .bool r5, .bool r6, .slf 0 11 75, .sb 14]⟩,⟨true, .dead⟩,⟨true, .dead⟩,⟨true, .dead⟩,⟨true, .dead⟩,⟨true, .dead⟩,⟨true, .dead⟩,⟨true, .dead⟩,⟨true, .list .int r7⟩,⟨true, .list .int r8⟩,⟨true, .list .int r9⟩,⟨true, .list .int r10⟩,⟨true, .list .int r11⟩,⟨true, .list .op r12⟩,⟨true, .list .byte r13⟩])
def G46:=rdG K46 B46
def H46:List (Nat×LH):=[]
def W46:List (Nat×List (Nat×List Nat)):=[]
def Γ46:List (Nat×Con):=[(45,Uc45),(90,Uc90),(41,Uc41),(44,Uc44),(91,Uc91),(92,Uc92),(64,Uc64),(34,Uc34),(35,Uc35),(93,Uc93),(50,Uc50)]
theorem e46:Eqn PP 166 Γ46 H46 W46 (bodyOf Tryz.f46) [.tmp 6] [.bl] [1,2,3,4,5,6,7] K46 B46:=fun _ _ _ _ _ _ _ _ _ _ _ _ _ _ K=>by kernel_rfl
theorem s46:CSound PP 46 G46:=fun_sk mixed Tryz.func46 (by decide) (by kernel_rfl) Tryz.ntmps46 Tryz.results46 (.cons u45 (.cons u90 (.cons u41 (.cons u44 (.cons u91 (.cons u92 (.cons u64 (.cons u34 (.cons u35 (.cons u93 (.cons u50 (GSound.nil)))))))))))) e46
def Uc46:=useC [.pc [.own .int, .own .int, .own .int, .own .int, .x, .own .int, .x, .own .op, .x, .bl, .bl, .x, .x], .x, .x] G46
theorem u46:CSound PP 46 Uc46:=useC_ok s46
def K94:List Tok:=[.A, .p .int, .p .int, .p .int, .p .int, .i .i64, .p .int, .i .i64, .p .op, .i .i64, .b, .E, .b]
def B94:Body K94:=fun x K=>Mi_FinishBoth x.1 x.2.1 x.2.2.1 x.2.2.2.1 x.2.2.2.2.1 x.2.2.2.2.2.1 x.2.2.2.2.2.2.1 x.2.2.2.2.2.2.2.1 x.2.2.2.2.2.2.2.2.1 x.2.2.2.2.2.2.2.2.2.1 x.2.2.2.2.2.2.2.2.2.2.1 (fun r1 r2 r3 r4 r5 r6 r7 r8 r9 r10 r11=>K (.tup [.agg [.sl 0, .sl 1, .sl 2, .sl 3, .int .i64 r1, .sl 4, .int .i64 r2, .sl 5, .int .i64 r3, .bool r4], .bool r5]) [⟨true, .list .int r6⟩,⟨true, .list .int r7⟩,⟨true, .list .int r8⟩,⟨true, .list .int r9⟩,⟨true, .list .int r10⟩,⟨true, .list .op r11⟩])
def G94:=rdG K94 B94
noncomputable def H94_0:=mkH [(1, .bl),(2, .pc [.own .int, .own .int, .own .int, .own .int, .x, .own .int, .x, .own .op, .x, .bl]),(4, .pc [.own .int, .own .int, .own .int, .own .int, .x, .own .int, .x, .own .op, .x, .bl])] [.b, .Q 0, .Q 1, .bC true, .L 2, .L 3, .L 4, .L 5, .i .i64, .L 6, .i .i64, .L 7, .i .i64, .b, .E, .bC true, .L 8, .L 9, .L 10, .L 11, .i .i64, .L 12, .i .i64, .L 13, .i .i64, .b, .E, .bL true .int, .bL true .int, .bL true .int, .bL true .int, .bL true .int, .bL true .op, .bL true .int, .bL true .int, .bL true .int, .bL true .int, .bL true .int, .bL true .op]
noncomputable def H94_2:=mkH [(2, .pc [.own .int, .own .int, .own .int, .own .int, .x, .own .int, .x, .own .op, .x, .bl]),(4, .pc [.own .int, .own .int, .own .int, .own .int, .x, .own .int, .x, .own .op, .x, .bl]),(8, .x)] [.Q 0, .Q 1, .i .i64, .bC true, .L 2, .L 3, .L 4, .L 5, .i .i64, .L 6, .i .i64, .L 7, .i .i64, .b, .E, .bC true, .L 8, .L 9, .L 10, .L 11, .i .i64, .L 12, .i .i64, .L 13, .i .i64, .b, .E, .bL true .int, .bL true .int, .bL true .int, .bL true .int, .bL true .int, .bL true .op, .bL true .int, .bL true .int, .bL true .int, .bL true .int, .bL true .int, .bL true .op]
noncomputable def H94:List (Nat×LH):=[(0,H94_0),(2,H94_2)]
def W94:List (Nat×List (Nat×List Nat)):=[]
def Γ94:List (Nat×Con):=[(80,Uc80),(82,Uc82),(83,Uc83),(84,Uc84)]
theorem e94:Eqn PP 48 Γ94 H94 W94 (bodyOf Tryz.f94) [.cell 4 53, .tmp 5] [.ag [.own .int, .own .int, .own .int, .own .int, .x, .own .int, .x, .own .op, .x, .bl], .bl] [] K94 B94:=fun _ _ _ _ _ _ _ _ _ _ _ K=>by kernel_rfl
theorem s94:CSound PP 94 G94:=fun_sk mixed Tryz.func94 (by decide) (by kernel_rfl) Tryz.ntmps94 Tryz.results94 (.cons u80 (.cons u82 (.cons u83 (.cons u84 (GSound.nil))))) e94
def Uc94:=useC [.ag [.pure .int, .pure .int, .pure .int, .pure .int, .x, .pure .int, .x, .pure .op, .x, .bl], .bl] G94
theorem u94:CSound PP 94 Uc94:=useC_ok s94
def K76:List Tok:=[.A, .p .int, .p .int, .p .int, .E]
def B76:Body K76:=fun x K=>Mi_GarbageOf x.1 x.2.1 x.2.2.1 (fun r1=>K (.sl 0) [⟨true, .list .int r1⟩])
def G76:=rdG K76 B76
noncomputable def H76_0:=mkH [(3, .own .int),(8, .own .bool),(9, .x),(10, .x)] [.L 0, .L 1, .i .i64, .i .i64, .bL true .int, .bL true .bool]
noncomputable def H76:List (Nat×LH):=[(0,H76_0)]
def W76:List (Nat×List (Nat×List Nat)):=[]
def Γ76:List (Nat×Con):=[(105,Uc105)]
theorem e76:Eqn PP 23 Γ76 H76 W76 (bodyOf Tryz.f76) [.tmp 2] [.own .int] [] K76 B76:=fun _ _ _ K=>by kernel_rfl
theorem s76:CSound PP 76 G76:=fun_sk mixed Tryz.func76 (by decide) (by kernel_rfl) Tryz.ntmps76 Tryz.results76 (.cons u105 (GSound.nil)) e76
def Uc76:=useC [.ag [.pure .int, .pure .int, .pure .int]] G76
theorem u76:CSound PP 76 Uc76:=useC_ok s76
def K32:List Tok:=[.A, .p .int, .p .int, .p .int, .p .int, .E]
def B32:Body K32:=fun x K=>Mi_LeakedOf x.1 x.2.1 x.2.2.1 x.2.2.2.1 (fun r1=>K (.sl 0) [⟨true, .list .int r1⟩])
def G32:=rdG K32 B32
noncomputable def H32_0:=mkH [(1, .pc [.pure .int, .pure .int, .pure .int, .pure .int]),(3, .own .int),(12, .own .int),(13, .x),(14, .x)] [.Q 0, .L 1, .L 2, .i .i64, .i .i64, .bC true, .p .int, .p .int, .p .int, .p .int, .E, .bL true .int, .bL true .int]
noncomputable def H32:List (Nat×LH):=[(0,H32_0)]
def W32:List (Nat×List (Nat×List Nat)):=[]
def Γ32:List (Nat×Con):=[(49,Uc49),(76,Uc76),(77,Uc77)]
theorem e32:Eqn PP 29 Γ32 H32 W32 (bodyOf Tryz.f32) [.tmp 2] [.own .int] [] K32 B32:=fun _ _ _ _ K=>by kernel_rfl
theorem s32:CSound PP 32 G32:=fun_sk mixed Tryz.func32 (by decide) (by kernel_rfl) Tryz.ntmps32 Tryz.results32 (.cons u49 (.cons u76 (.cons u77 (GSound.nil)))) e32
def Uc32:=useC [.ag [.pure .int, .pure .int, .pure .int, .pure .int]] G32
theorem u32:CSound PP 32 Uc32:=useC_ok s32
def K101:List Tok:=[.L 0, .p .int, .bL true .int]
def B101:Body K101:=fun x K=>Mi_met x.1 x.2.1 (fun r1=>K (.sl 1) [⟨true, .dead⟩,⟨true, .list .int r1⟩])
def G101:=rdG K101 B101
noncomputable def H101_0:=mkH [(0, .mv .int),(7, .pure .int),(8, .x),(9, .x)] [.L 1, .p .int, .i .i64, .i .i64, .bD true, .bL true .int]
noncomputable def H101:List (Nat×LH):=[(0,H101_0)]
def W101:List (Nat×List (Nat×List Nat)):=[]
def Γ101:List (Nat×Con):=[(77,Uc77)]
theorem e101:Eqn PP 27 Γ101 H101 W101 (bodyOf Tryz.f101) [.tmp 4] [.own .int] [0] K101 B101:=fun _ _ K=>by kernel_rfl
theorem s101:CSound PP 101 G101:=fun_sk mixed Tryz.func101 (by decide) (by kernel_rfl) Tryz.ntmps101 Tryz.results101 (.cons u77 (GSound.nil)) e101
def Uc101:=useC [.own .int, .pure .int] G101
theorem u101:CSound PP 101 Uc101:=useC_ok s101
def K102:List Tok:=[.L 0, .bL true .int]
def B102:Body K102:=fun x K=>M_Clip_int x.1 (fun r1=>K (.sl 1) [⟨true, .dead⟩,⟨true, .list .int r1⟩])
def G102:=rdG K102 B102
def H102:List (Nat×LH):=[]
def W102:List (Nat×List (Nat×List Nat)):=[]
def Γ102:List (Nat×Con):=[]
theorem e102:Eqn PP 9 Γ102 H102 W102 (bodyOf Tryz.f102) [.tmp 2] [.own .int] [] K102 B102:=fun _ K=>by kernel_rfl
theorem s102:CSound PP 102 G102:=fun_sk mixed Tryz.func102 (by decide) (by kernel_rfl) Tryz.ntmps102 Tryz.results102 (GSound.nil) e102
def Uc102:=useC [.own .int] G102
theorem u102:CSound PP 102 Uc102:=useC_ok s102
def K67:List Tok:=[.A, .p .int, .p .int, .p .int, .E]
def B67:Body K67:=fun x K=>Mi_OrderOf x.1 x.2.1 x.2.2.1 (fun r1=>K (.sl 0) [⟨true, .list .int r1⟩])
def G67:=rdG K67 B67
noncomputable def H67_0:=mkH [(1, .pc [.pure .int, .pure .int, .pure .int]),(3, .own .int),(4, .x)] [.Q 0, .L 1, .i .i64, .bC true, .p .int, .p .int, .p .int, .E, .bL true .int]
noncomputable def H67:List (Nat×LH):=[(0,H67_0)]
def W67:List (Nat×List (Nat×List Nat)):=[]
def Γ67:List (Nat×Con):=[(66,Uc66),(101,Uc101),(102,Uc102)]
theorem e67:Eqn PP 39 Γ67 H67 W67 (bodyOf Tryz.f67) [.tmp 2] [.own .int] [] K67 B67:=fun _ _ _ K=>by kernel_rfl
theorem s67:CSound PP 67 G67:=fun_sk mixed Tryz.func67 (by decide) (by kernel_rfl) Tryz.ntmps67 Tryz.results67 (.cons u66 (.cons u101 (.cons u102 (GSound.nil)))) e67
def Uc67:=useC [.ag [.pure .int, .pure .int, .pure .int]] G67
theorem u67:CSound PP 67 Uc67:=useC_ok s67
def K68:List Tok:=[.i .i64, .Q 0, .bC false, .L 1, .E, .bL false .int]
def B68:Body K68:=fun x K=>Mi_CopyHeap_1 x.1 x.2.1 (fun r1=>K (.int .i64 r1) [⟨false, .cells [.sl 1]⟩,⟨false, .list .int x.2.1⟩])
def G68:=rdG K68 B68
def H68:List (Nat×LH):=[]
def W68:List (Nat×List (Nat×List Nat)):=[]
def Γ68:List (Nat×Con):=[(69,Uc69)]
theorem e68:Eqn PP 7 Γ68 H68 W68 (bodyOf Tryz.f68) [.tmp 3] [.x] [] K68 B68:=fun _ _ K=>by kernel_rfl
theorem s68:CSound PP 68 G68:=fun_sk mixed Tryz.func68 (by decide) (by kernel_rfl) Tryz.ntmps68 Tryz.results68 (.cons u69 (GSound.nil)) e68
def Uc68:=useC [.x, .pc [.own .int]] (onlyC [] G68)
theorem u68:CSound PP 68 Uc68:=useC_ok (onlyC_ok s68)
def K27:List Tok:=[.A, .p .int, .p .int, .p .int, .E]
def B27:Body K27:=fun x K=>Mi_CopyHeap x.1 x.2.1 x.2.2.1 (fun r1 r2 r3 r4 r5=>K (.tup [.agg [.sl 0, .sl 1, .sl 2], .sl 3, .bool r1]) [⟨true, .list .int r2⟩,⟨true, .list .int r3⟩,⟨true, .list .int r4⟩,⟨true, .list .int r5⟩])
def G27:=rdG K27 B27
noncomputable def H27_0:=mkH [(1, .pc [.pure .int, .pure .int, .pure .int]),(2, .pc [.own .int, .own .int, .own .int]),(5, .pc [.own .int, .own .int, .own .int]),(8, .x),(32, .own .int),(33, .x),(34, .x)] [.Q 0, .Q 1, .Q 2, .F 68, .N, .Q 3, .E, .L 4, .i .i64, .i .i64, .bC true, .p .int, .p .int, .p .int, .E, .bC true, .L 5, .L 6, .L 7, .E, .bC true, .L 8, .L 9, .L 10, .E, .bC true, .L 4, .E, .bL true .int, .bL true .int, .bL true .int, .bL true .int, .bL true .int, .bL true .int, .bL true .int]
noncomputable def H27_2:=mkH [(1, .pc [.pure .int, .pure .int, .pure .int]),(2, .pc [.own .int, .own .int, .own .int]),(5, .pc [.own .int, .own .int, .own .int]),(8, .x),(63, .pure .int),(64, .x),(65, .x)] [.Q 0, .Q 1, .Q 2, .F 68, .N, .Q 3, .E, .p .int, .i .i64, .i .i64, .bC true, .p .int, .p .int, .p .int, .E, .bC true, .L 4, .L 5, .L 6, .E, .bC true, .L 7, .L 8, .L 9, .E, .bC true, .L 10, .E, .bL true .int, .bL true .int, .bL true .int, .bL true .int, .bL true .int, .bL true .int, .bL true .int]
noncomputable def H27_4:=mkH [(2, .pc [.own .int, .own .int, .own .int]),(5, .pc [.own .int, .own .int, .own .int]),(8, .x),(13, .own .int),(81, .x),(82, .x)] [.Q 0, .Q 1, .F 68, .N, .Q 2, .E, .L 3, .i .i64, .i .i64, .bC true, .L 4, .L 5, .L 6, .E, .bC true, .L 7, .L 8, .L 9, .E, .bC true, .L 10, .E, .bL true .int, .bL true .int, .bL true .int, .bL true .int, .bL true .int, .bL true .int, .bL true .int, .bL true .int]
noncomputable def H27:List (Nat×LH):=[(0,H27_0),(2,H27_2),(4,H27_4)]
def W27:List (Nat×List (Nat×List Nat)):=[(9,[(8,[21])])]
def Γ27:List (Nat×Con):=[(66,Uc66),(37,Uc37),(67,Uc67),(68,Uc68)]
theorem e27:Eqn PP 94 Γ27 H27 W27 (bodyOf Tryz.f27) [.cell 2 27, .tmp 3, .tmp 4] [.ag [.own .int, .own .int, .own .int], .own .int, .bl] [] K27 B27:=fun _ _ _ K=>by kernel_rfl
theorem s27:CSound PP 27 G27:=fun_sk mixed Tryz.func27 (by decide) (by kernel_rfl) Tryz.ntmps27 Tryz.results27 (.cons u66 (.cons u37 (.cons u67 (.cons u68 (GSound.nil))))) e27
def Uc27:=useC [.ag [.pure .int, .pure .int, .pure .int]] G27
theorem u27:CSound PP 27 Uc27:=useC_ok s27
def K103:List Tok:=[.A, .p .int, .p .int, .p .int, .p .int, .i .i64, .p .int, .i .i64, .p .op, .i .i64, .b, .E, .b, .s, .Q 0, .Q 1, .Q 2, .bC true, .M 3, .E, .bC true, .L 4, .E, .bC true, .p .int, .p .int, .p .int, .p .int, .i .i64, .p .int, .i .i64, .p .op, .i .i64, .b, .s, .E, .bK, .bL true .node]
def B103:Body K103:=fun x K=>Mi_comes_1 x.1 x.2.1 x.2.2.1 x.2.2.2.1 x.2.2.2.2.1 x.2.2.2.2.2.1 x.2.2.2.2.2.2.1 x.2.2.2.2.2.2.2.1 x.2.2.2.2.2.2.2.2.1 x.2.2.2.2.2.2.2.2.2.1 x.2.2.2.2.2.2.2.2.2.2.1 x.2.2.2.2.2.2.2.2.2.2.2.1 x.2.2.2.2.2.2.2.2.2.2.2.2.1 x.2.2.2.2.2.2.2.2.2.2.2.2.2.1 x.2.2.2.2.2.2.2.2.2.2.2.2.2.2.1 x.2.2.2.2.2.2.2.2.2.2.2.2.2.2.2.1 x.2.2.2.2.2.2.2.2.2.2.2.2.2.2.2.2.1 x.2.2.2.2.2.2.2.2.2.2.2.2.2.2.2.2.2.1 x.2.2.2.2.2.2.2.2.2.2.2.2.2.2.2.2.2.2.1 x.2.2.2.2.2.2.2.2.2.2.2.2.2.2.2.2.2.2.2.1 x.2.2.2.2.2.2.2.2.2.2.2.2.2.2.2.2.2.2.2.2.1 x.2.2.2.2.2.2.2.2.2.2.2.2.2.2.2.2.2.2.2.2.2.1 x.2.2.2.2.2.2.2.2.2.2.2.2.2.2.2.2.2.2.2.2.2.2.1 x.2.2.2.2.2.2.2.2.2.2.2.2.2.2.2.2.2.2.2.2.2.2.2.1 x.2.2.2.2.2.2.2.2.2.2.2.2.2.2.2.2.2.2.2.2.2.2.2.2.1 (fun r1 r2=>K (.tup []) [⟨true, .cells [.mp 3]⟩,⟨true, .cells [.sl 5]⟩,⟨true, .cells [.pl .int x.2.2.2.2.2.2.2.2.2.2.2.2.1, .pl .int x.2.2.2.2.2.2.2.2.2.2.2.2.2.1, .pl .int x.2.2.2.2.2.2.2.2.2.2.2.2.2.2.1, .pl .int x.2.2.2.2.2.2.2.2.2.2.2.2.2.2.2.1, .int .i64 x.2.2.2.2.2.2.2.2.2.2.2.2.2.2.2.2.1, .pl .int x.2.2.2.2.2.2.2.2.2.2.2.2.2.2.2.2.2.1, .int .i64 x.2.2.2.2.2.2.2.2.2.2.2.2.2.2.2.2.2.2.1, .pl .op x.2.2.2.2.2.2.2.2.2.2.2.2.2.2.2.2.2.2.2.1, .int .i64 x.2.2.2.2.2.2.2.2.2.2.2.2.2.2.2.2.2.2.2.2.1, .bool x.2.2.2.2.2.2.2.2.2.2.2.2.2.2.2.2.2.2.2.2.2.1, .str x.2.2.2.2.2.2.2.2.2.2.2.2.2.2.2.2.2.2.2.2.2.2.1]⟩,⟨true, .keys r1⟩,⟨true, .dead⟩,⟨true, .list .node r2⟩])
def G103:=rdG K103 B103
def H103:List (Nat×LH):=[]
def W103:List (Nat×List (Nat×List Nat)):=[]
def Γ103:List (Nat×Con):=[(35,Uc35)]
theorem e103:Eqn PP 30 Γ103 H103 W103 (bodyOf Tryz.f103) [] [] [4] K103 B103:=fun _ _ _ _ _ _ _ _ _ _ _ _ _ _ _ _ _ _ _ _ _ _ _ _ _ K=>by kernel_rfl
theorem s103:CSound PP 103 G103:=fun_sk mixed Tryz.func103 (by decide) (by kernel_rfl) Tryz.ntmps103 Tryz.results103 (.cons u35 (GSound.nil)) e103
def Uc103:=useC [.ag [.pure .int, .pure .int, .pure .int, .pure .int, .x, .pure .int, .x, .pure .op, .x, .bl], .bl, .x, .pc [.x], .pc [.own .node], .pc [.pure .int, .pure .int, .pure .int, .pure .int, .x, .pure .int, .x, .pure .op, .x, .bl, .x]] G103
theorem u103:CSound PP 103 Uc103:=useC_ok s103
def K73:List Tok:=[.A, .p .int, .p .int, .p .int, .p .int, .i .i64, .p .int, .i .i64, .p .op, .i .i64, .b, .E, .b]
def B73:Body K73:=fun x K=>Mi_comes x.1 x.2.1 x.2.2.1 x.2.2.2.1 x.2.2.2.2.1 x.2.2.2.2.2.1 x.2.2.2.2.2.2.1 x.2.2.2.2.2.2.2.1 x.2.2.2.2.2.2.2.2.1 x.2.2.2.2.2.2.2.2.2.1 x.2.2.2.2.2.2.2.2.2.2.1 (fun r1 r2=>K (.tup [.sl 0, .bool r1]) [⟨true, .list .node r2⟩])
def G73:=rdG K73 B73
noncomputable def H73_0:=mkH [(1, .bl),(6, .pc [.own .node]),(7, .pc [.x]),(8, .x)] [.b, .Q 0, .Q 1, .i .i64, .bC true, .L 2, .E, .bC true, .M 3, .E, .bL true .node, .bK]
noncomputable def H73:List (Nat×LH):=[(0,H73_0)]
def W73:List (Nat×List (Nat×List Nat)):=[(2000003,[(0,[1002])]),(2000010,[(0,[1004])]),(2000012,[(0,[1005])])]
def Γ73:List (Nat×Con):=[(80,Uc80),(82,Uc82),(35,Uc35),(84,Uc84),(103,Uc103),(83,Uc83)]
theorem e73:Eqn PP 60 Γ73 H73 W73 (bodyOf Tryz.f73) [.tmp 4, .tmp 5] [.own .node, .bl] [] K73 B73:=fun _ _ _ _ _ _ _ _ _ _ _ K=>by kernel_rfl
theorem s73:CSound PP 73 G73:=fun_sk mixed Tryz.func73 (by decide) (by kernel_rfl) Tryz.ntmps73 Tryz.results73 (.cons u80 (.cons u82 (.cons u35 (.cons u84 (.cons u103 (.cons u83 (GSound.nil))))))) e73
def Uc73:=useC [.ag [.pure .int, .pure .int, .pure .int, .pure .int, .x, .pure .int, .x, .pure .op, .x, .bl], .bl] G73
theorem u73:CSound PP 73 Uc73:=useC_ok s73
def K75:List Tok:=[.A, .p .int, .p .int, .p .int, .p .int, .i .i64, .p .int, .i .i64, .p .op, .i .i64, .b, .s, .E]
def B75:Body K75:=fun x K=>Mi_CanLose_1 x.1 x.2.1 x.2.2.1 x.2.2.2.1 x.2.2.2.2.1 x.2.2.2.2.2.1 x.2.2.2.2.2.2.1 x.2.2.2.2.2.2.2.1 x.2.2.2.2.2.2.2.2.1 x.2.2.2.2.2.2.2.2.2.1 x.2.2.2.2.2.2.2.2.2.2.1 (K (.bool x.2.2.2.2.2.2.2.2.2.1) [])
def G75:=rdG K75 B75
def H75:List (Nat×LH):=[]
def W75:List (Nat×List (Nat×List Nat)):=[]
def Γ75:List (Nat×Con):=[]
theorem e75:Eqn PP 6 Γ75 H75 W75 (bodyOf Tryz.f75) [.tmp 2] [.bl] [] K75 B75:=fun _ _ _ _ _ _ _ _ _ _ _ K=>by kernel_rfl
theorem s75:CSound PP 75 G75:=fun_sk mixed Tryz.func75 (by decide) (by kernel_rfl) Tryz.ntmps75 Tryz.results75 (GSound.nil) e75
def Uc75:=useC [.ag [.pure .int, .pure .int, .pure .int, .pure .int, .x, .pure .int, .x, .pure .op, .x, .bl, .x]] G75
theorem u75:CSound PP 75 Uc75:=useC_ok s75
def K104:List Tok:=[.p .node, .F 75, .N, .E]
def B104:Body K104:=fun x K=>M_IndexFunc_came x.1 (fun r1=>K (.int .i64 r1) [])
def G104:=rdG K104 B104
noncomputable def H104_0:=mkH [(0, .pure .node),(1, .x),(7, .x),(8, .x)] [.p .node, .F 75, .N, .E, .i .i64, .i .i64]
noncomputable def H104:List (Nat×LH):=[(0,H104_0)]
def W104:List (Nat×List (Nat×List Nat)):=[]
def Γ104:List (Nat×Con):=[(75,Uc75)]
theorem e104:Eqn PP 19 Γ104 H104 W104 (bodyOf Tryz.f104) [.tmp 4] [.x] [] K104 B104:=fun _ K=>by kernel_rfl
theorem s104:CSound PP 104 G104:=fun_sk mixed Tryz.func104 (by decide) (by kernel_rfl) Tryz.ntmps104 Tryz.results104 (.cons u75 (GSound.nil)) e104
def Uc104:=useC [.pure .node, .x] G104
theorem u104:CSound PP 104 Uc104:=useC_ok s104
def K74:List Tok:=[.p .node, .F 75, .N, .E]
def B74:Body K74:=fun x K=>M_ContainsFunc_came x.1 (fun r1=>K (.bool r1) [])
def G74:=rdG K74 B74
def H74:List (Nat×LH):=[]
def W74:List (Nat×List (Nat×List Nat)):=[]
def Γ74:List (Nat×Con):=[(104,Uc104)]
theorem e74:Eqn PP 9 Γ74 H74 W74 (bodyOf Tryz.f74) [.tmp 4] [.bl] [] K74 B74:=fun _ K=>by kernel_rfl
theorem s74:CSound PP 74 G74:=fun_sk mixed Tryz.func74 (by decide) (by kernel_rfl) Tryz.ntmps74 Tryz.results74 (.cons u104 (GSound.nil)) e74
def Uc74:=useC [.pure .node, .x] G74
theorem u74:CSound PP 74 Uc74:=useC_ok s74
def K30:List Tok:=[.A, .p .int, .p .int, .p .int, .p .int, .i .i64, .p .int, .i .i64, .p .op, .i .i64, .b, .E, .b]
def B30:Body K30:=fun x K=>Mi_CanLose x.1 x.2.1 x.2.2.1 x.2.2.2.1 x.2.2.2.2.1 x.2.2.2.2.2.1 x.2.2.2.2.2.2.1 x.2.2.2.2.2.2.2.1 x.2.2.2.2.2.2.2.2.1 x.2.2.2.2.2.2.2.2.2.1 x.2.2.2.2.2.2.2.2.2.2.1 (fun r1 r2=>K (.tup [.bool r1, .bool r2]) [])
def G30:=rdG K30 B30
def H30:List (Nat×LH):=[]
def W30:List (Nat×List (Nat×List Nat)):=[]
def Γ30:List (Nat×Con):=[(73,Uc73),(74,Uc74)]
theorem e30:Eqn PP 17 Γ30 H30 W30 (bodyOf Tryz.f30) [.tmp 4, .tmp 5] [.bl, .bl] [] K30 B30:=fun _ _ _ _ _ _ _ _ _ _ _ K=>by kernel_rfl
theorem s30:CSound PP 30 G30:=fun_sk mixed Tryz.func30 (by decide) (by kernel_rfl) Tryz.ntmps30 Tryz.results30 (.cons u73 (.cons u74 (GSound.nil))) e30
def Uc30:=useC [.ag [.pure .int, .pure .int, .pure .int, .pure .int, .x, .pure .int, .x, .pure .op, .x, .bl], .bl] G30
theorem u30:CSound PP 30 Uc30:=useC_ok s30
def K31:List Tok:=[.A, .p .int, .p .int, .p .int, .p .int, .i .i64, .p .int, .i .i64, .p .op, .i .i64, .b, .E, .b]
def B31:Body K31:=fun x K=>Mi_ShortLoss x.1 x.2.1 x.2.2.1 x.2.2.2.1 x.2.2.2.2.1 x.2.2.2.2.2.1 x.2.2.2.2.2.2.1 x.2.2.2.2.2.2.2.1 x.2.2.2.2.2.2.2.2.1 x.2.2.2.2.2.2.2.2.2.1 x.2.2.2.2.2.2.2.2.2.2.1 (fun r1 r2=>K (.tup [.str r1, .bool r2]) [])
def G31:=rdG K31 B31
noncomputable def H31_0:=mkH [(16, .own .node),(17, .x),(18, .x)] [.L 0, .i .i64, .i .i64, .bL true .node]
noncomputable def H31:List (Nat×LH):=[(0,H31_0)]
def W31:List (Nat×List (Nat×List Nat)):=[]
def Γ31:List (Nat×Con):=[(73,Uc73)]
theorem e31:Eqn PP 28 Γ31 H31 W31 (bodyOf Tryz.f31) [.tmp 4, .tmp 5] [.x, .bl] [] K31 B31:=fun _ _ _ _ _ _ _ _ _ _ _ K=>by kernel_rfl
theorem s31:CSound PP 31 G31:=fun_sk mixed Tryz.func31 (by decide) (by kernel_rfl) Tryz.ntmps31 Tryz.results31 (.cons u73 (GSound.nil)) e31
def Uc31:=useC [.ag [.pure .int, .pure .int, .pure .int, .pure .int, .x, .pure .int, .x, .pure .op, .x, .bl], .bl] G31
theorem u31:CSound PP 31 Uc31:=useC_ok s31
def K47:List Tok:=[.Q 0, .s, .bC true, .L 1, .L 2, .L 3, .L 4, .i .i64, .L 5, .i .i64, .L 6, .i .i64, .b, .b, .S 0 11 75, .B 7, .E, .bL true .int, .bL true .int, .bL true .int, .bL true .int, .bL true .int, .bL true .op, .bL true .byte]
def B47:Body K47:=fun x K=>Mi_desk_plain x.1 x.2.1 x.2.2.1 x.2.2.2.1 x.2.2.2.2.1 x.2.2.2.2.2.1 x.2.2.2.2.2.2.1 x.2.2.2.2.2.2.2.1 x.2.2.2.2.2.2.2.2.1 x.2.2.2.2.2.2.2.2.2.1 x.2.2.2.2.2.2.2.2.2.2.1 x.2.2.2.2.2.2.2.2.2.2.2.1 x.2.2.2.2.2.2.2.2.2.2.2.2.1 (fun r1 r2 r3 r4 r5 r6 r7 r8 r9 r10 r11 r12=>K (.bool r1) [⟨true, .cells [.sl 8, .sl 9, .sl 10, .sl 11, .int .i64 r2, .sl 12, .int .i64 r3, .sl 13, .int .i64 r4, .bool r5, .bool x.2.2.2.2.2.1, .slf 0 11 75, .sb 14]⟩,⟨true, .dead⟩,⟨true, .dead⟩,⟨true, .dead⟩,⟨true, .dead⟩,⟨true, .dead⟩,⟨true, .dead⟩,⟨true, .dead⟩,⟨true, .list .int r6⟩,⟨true, .list .int r7⟩,⟨true, .list .int r8⟩,⟨true, .list .int r9⟩,⟨true, .list .int r10⟩,⟨true, .list .op r11⟩,⟨true, .list .byte r12⟩])
def G47:=rdG K47 B47
def H47:List (Nat×LH):=[]
def W47:List (Nat×List (Nat×List Nat)):=[]
def Γ47:List (Nat×Con):=[(94,Uc94),(35,Uc35),(44,Uc44),(19,Uc19),(76,Uc76),(50,Uc50),(32,Uc32),(95,Uc95),(67,Uc67),(27,Uc27),(28,Uc28),(30,Uc30),(31,Uc31)]
theorem e47:Eqn PP 154 Γ47 H47 W47 (bodyOf Tryz.f47) [.tmp 4] [.bl] [1,2,3,4,5,6,7] K47 B47:=fun _ _ _ _ _ _ _ _ _ _ _ _ _ K=>by kernel_rfl
theorem s47:CSound PP 47 G47:=fun_sk mixed Tryz.func47 (by decide) (by kernel_rfl) Tryz.ntmps47 Tryz.results47 (.cons u94 (.cons u35 (.cons u44 (.cons u19 (.cons u76 (.cons u50 (.cons u32 (.cons u95 (.cons u67 (.cons u27 (.cons u28 (.cons u30 (.cons u31 (GSound.nil)))))))))))))) e47
def Uc47:=useC [.pc [.own .int, .own .int, .own .int, .own .int, .x, .own .int, .x, .own .op, .x, .bl, .bl, .x, .x], .x] G47
theorem u47:CSound PP 47 Uc47:=useC_ok s47
theorem enters48:Enters PP 48:=⟨_,Tryz.func48,by decide,rfl⟩
def G48:Con:=conBS 75 11
set_option maxHeartbeats 1000000 in
set_option maxRecDepth 100000 in
theorem s48:CSound PP 48 G48:=conBS_ok enters48 (fun b w h1=>by
 have hUS:=fun(w:World) q=>Go.Lib.run_unsafeString_none (P:=PP) w 135 3 9 q
 have c1:w.drew.cell? ⟨b,12,none⟩=some (.slice none 0 0):=h1
 have hSD:(Builtin.unsafeSliceData_ #[22] 135 #[.slice none 0 0]).run PP w.drew= .ok (.pointer none) w.drew:=rfl
 go_enter Tryz.func48,Tryz.ntmps48
 go_wp2
 go_region
 all_goals (go_wp2;go_ret;exact⟨rfl,rfl⟩)) fun b g cap l cur w h1 h0 hl hcap h63 hg hc=>by
 have hlp:0<l.length:=List.length_pos_iff.2 h0
 have c1:w.drew.cell? ⟨b,12,none⟩=some (.slice (some ⟨g,0,none⟩) l.length cap):=h1
 have hg':w.drew.heap[g]? =some (.cells cur 5 (0,0)):=hg
 have hSD:(Builtin.unsafeSliceData_ #[22] 135 #[.slice (some ⟨g,0,none⟩) l.length cap]).run PP w.drew= .ok (.pointer (some ⟨g,0,none⟩)) w.drew:=
  Go.Lib.run_unsafeSliceData_row _ _ _ _ _ _ (by omega)
 have hUS:(Builtin.unsafeString_ #[135,3] 9 #[.pointer (some ⟨g,0,none⟩), .int .i64 l.length]).run PP w.drew= .ok (.string ⟨l.toArray⟩) (w.drew.freeze ⟨g,0,none⟩ l.length):=by
  refine Go.Lib.run_unsafeString_row w.drew 135 3 9 5 Tryz.underlying135 (by kernel_rfl) g cur.size (by simp[World.shape?,hg']) l h0 (by omega) (by omega) fun j x hx=> ?_
  rw[addr_add _ _ rfl]
  simp[World.cell?,hg',hc j x hx]
 go_enter Tryz.func48,Tryz.ntmps48
 go_wp2
 go_region
 all_goals (go_wp2;go_ret;exact⟨rfl,rfl⟩)
def Uc48:=useC [.x] G48
theorem u48:CSound PP 48 Uc48:=useC_ok s48
def K17:List Tok:=[.s]
def B17:Body K17:=fun x K=>Mi_RunScript x.1 (fun r1=>K (.str r1) [])
def G17:=rdG K17 B17
noncomputable def H17_0:=mkH [(3, .pc [.own .int, .own .int, .own .int, .own .int, .x, .own .int, .x, .own .op, .x, .bl, .bl, .x, .x]),(17, .own .str),(18, .x),(19, .x)] [.Q 0, .L 1, .i .i64, .i .i64, .bC true, .L 2, .L 3, .L 4, .L 5, .i .i64, .L 6, .i .i64, .L 7, .i .i64, .b, .b, .S 0 11 75, .B 8, .E, .bL true .str, .bL true .int, .bL true .int, .bL true .int, .bL true .int, .bL true .int, .bL true .op, .bL true .byte]
noncomputable def H17:List (Nat×LH):=[(0,H17_0)]
def W17:List (Nat×List (Nat×List Nat)):=[]
def Γ17:List (Nat×Con):=[(41,Uc41),(42,Uc42),(44,Uc44),(43,Uc43),(45,Uc45),(46,Uc46),(47,Uc47),(48,Uc48)]
theorem e17:Eqn PP 68 Γ17 H17 W17 (bodyOf Tryz.f17) [.tmp 2] [.x] [] K17 B17:=fun _ K=>by kernel_rfl
theorem s17:CSound PP 17 G17:=fun_sk mixed Tryz.func17 (by decide) (by kernel_rfl) Tryz.ntmps17 Tryz.results17 (.cons u41 (.cons u42 (.cons u44 (.cons u43 (.cons u45 (.cons u46 (.cons u47 (.cons u48 (GSound.nil))))))))) e17
def Uc17:=useC [.x] G17
theorem u17:CSound PP 17 Uc17:=useC_ok s17
def K57:List Tok:=[.i .i64]
def B57:Body K57:=fun x K=>Ms_l5One x.1 (fun r1=>K (.bool r1) [])
def G57:=rdG K57 B57
def H57:List (Nat×LH):=[]
def W57:List (Nat×List (Nat×List Nat)):=[]
def Γ57:List (Nat×Con):=[]
theorem e57:Eqn PP 9 Γ57 H57 W57 (bodyOf Tryz.f57) [.tmp 2] [.bl] [] K57 B57:=fun _ K=>by kernel_rfl
theorem s57:CSound PP 57 G57:=fun_sk mixed Tryz.func57 (by decide) (by kernel_rfl) Tryz.ntmps57 Tryz.results57 (GSound.nil) e57
def Uc57:=useC [.x] G57
theorem u57:CSound PP 57 Uc57:=useC_ok s57
def K96:List Tok:=[.Q 0, .bC true, .p .byte, .i .i64, .E]
def B96:Body K96:=fun x K=>Ms_l5Op x.1 x.2.1 (fun r1 r2 r3 r4=>K (.agg [.int .i64 r1, .int .i64 r2, .int .i64 r3]) [⟨true, .cells [.pl .byte x.1, .int .i64 r4]⟩])
def G96:=rdG K96 B96
def H96:List (Nat×LH):=[]
def W96:List (Nat×List (Nat×List Nat)):=[]
def Γ96:List (Nat×Con):=[(63,Uc63),(57,Uc57)]
theorem e96:Eqn PP 19 Γ96 H96 W96 (bodyOf Tryz.f96) [.cell 2 38] [.ag [.x, .x, .x]] [] K96 B96:=fun _ _ K=>by kernel_rfl
theorem s96:CSound PP 96 G96:=fun_sk mixed Tryz.func96 (by decide) (by kernel_rfl) Tryz.ntmps96 Tryz.results96 (.cons u63 (.cons u57 (GSound.nil))) e96
def Uc96:=useC [.pc [.pure .byte, .x]] G96
theorem u96:CSound PP 96 Uc96:=useC_ok s96
def K55:List Tok:=[.i .i64]
def B55:Body K55:=fun x K=>Ms_l5Word x.1 (fun r1=>K (.str r1) [])
def G55:=rdG K55 B55
def H55:List (Nat×LH):=[]
def W55:List (Nat×List (Nat×List Nat)):=[]
def Γ55:List (Nat×Con):=[]
theorem e55:Eqn PP 15 Γ55 H55 W55 (bodyOf Tryz.f55) [.tmp 2] [.x] [] K55 B55:=fun _ K=>by kernel_rfl
theorem s55:CSound PP 55 G55:=fun_sk mixed Tryz.func55 (by decide) (by kernel_rfl) Tryz.ntmps55 Tryz.results55 (GSound.nil) e55
def Uc55:=useC [.x] G55
theorem u55:CSound PP 55 Uc55:=useC_ok s55
def K54:List Tok:=[.A, .i .i64, .i .i64, .i .i64, .E, .i .i64]
def B54:Body K54:=fun x K=>Ms_OpValid x.1 x.2.1 x.2.2.1 x.2.2.2.1 (fun r1=>K (.bool r1) [])
def G54:=rdG K54 B54
def H54:List (Nat×LH):=[]
def W54:List (Nat×List (Nat×List Nat)):=[]
def Γ54:List (Nat×Con):=[(55,Uc55),(57,Uc57)]
theorem e54:Eqn PP 45 Γ54 H54 W54 (bodyOf Tryz.f54) [.tmp 4] [.bl] [] K54 B54:=fun _ _ _ _ K=>by kernel_rfl
theorem s54:CSound PP 54 G54:=fun_sk mixed Tryz.func54 (by decide) (by kernel_rfl) Tryz.ntmps54 Tryz.results54 (.cons u55 (.cons u57 (GSound.nil))) e54
def Uc54:=useC [.ag [.x, .x, .x], .x] G54
theorem u54:CSound PP 54 Uc54:=useC_ok s54
def K56:List Tok:=[.i .i64]
def B56:Body K56:=fun x K=>Ms_l13Dec x.1 (fun r1=>K (.str r1) [])
def G56:=rdG K56 B56
noncomputable def H56_0:=mkH [(0, .x),(3, .x)] [.i .i64, .s]
noncomputable def H56:List (Nat×LH):=[(0,H56_0)]
def W56:List (Nat×List (Nat×List Nat)):=[]
def Γ56:List (Nat×Con):=[]
theorem e56:Eqn PP 31 Γ56 H56 W56 (bodyOf Tryz.f56) [.tmp 2] [.x] [] K56 B56:=fun _ K=>by kernel_rfl
theorem s56:CSound PP 56 G56:=fun_sk mixed Tryz.func56 (by decide) (by kernel_rfl) Tryz.ntmps56 Tryz.results56 (GSound.nil) e56
def Uc56:=useC [.x] G56
theorem u56:CSound PP 56 Uc56:=useC_ok s56
def K22:List Tok:=[.A, .i .i64, .i .i64, .i .i64, .E]
def B22:Body K22:=fun x K=>Ms_FormatOp x.1 x.2.1 x.2.2.1 (fun r1=>K (.str r1) [])
def G22:=rdG K22 B22
def H22:List (Nat×LH):=[]
def W22:List (Nat×List (Nat×List Nat)):=[]
def Γ22:List (Nat×Con):=[(54,Uc54),(55,Uc55),(56,Uc56),(57,Uc57)]
theorem e22:Eqn PP 25 Γ22 H22 W22 (bodyOf Tryz.f22) [.tmp 2] [.x] [] K22 B22:=fun _ _ _ K=>by kernel_rfl
theorem s22:CSound PP 22 G22:=fun_sk mixed Tryz.func22 (by decide) (by kernel_rfl) Tryz.ntmps22 Tryz.results22 (.cons u54 (.cons u55 (.cons u56 (.cons u57 (GSound.nil))))) e22
def Uc22:=useC [.ag [.x, .x, .x]] G22
theorem u22:CSound PP 22 Uc22:=useC_ok s22
def K61:List Tok:=[.Q 0, .bC true, .p .byte, .i .i64, .E]
def B61:Body K61:=fun x K=>Ms_l5Ops x.1 x.2.1 (fun r1 r2 r3=>K (.sl 1) [⟨true, .cells [.pl .byte r1, .int .i64 r2]⟩,⟨true, .list .op r3⟩])
def G61:=rdG K61 B61
noncomputable def H61_0:=mkH [(0, .pc [.pure .byte, .x]),(3, .own .op),(4, .x)] [.Q 0, .L 1, .i .i64, .bC true, .p .byte, .i .i64, .E, .bL true .op]
noncomputable def H61:List (Nat×LH):=[(0,H61_0)]
def W61:List (Nat×List (Nat×List Nat)):=[]
def Γ61:List (Nat×Con):=[(63,Uc63),(96,Uc96)]
theorem e61:Eqn PP 19 Γ61 H61 W61 (bodyOf Tryz.f61) [.tmp 2] [.own .op] [] K61 B61:=fun _ _ K=>by kernel_rfl
theorem s61:CSound PP 61 G61:=fun_sk mixed Tryz.func61 (by decide) (by kernel_rfl) Tryz.ntmps61 Tryz.results61 (.cons u63 (.cons u96 (GSound.nil))) e61
def Uc61:=useC [.pc [.pure .byte, .x]] G61
theorem u61:CSound PP 61 Uc61:=useC_ok s61
def K24:List Tok:=[.p .byte]
def B24:Body K24:=fun x K=>Ms_DrawFormatOps x.1 (fun r1=>K (.sl 0) [⟨true, .list .op r1⟩])
def G24:=rdG K24 B24
def H24:List (Nat×LH):=[]
def W24:List (Nat×List (Nat×List Nat)):=[]
def Γ24:List (Nat×Con):=[(60,Uc60),(61,Uc61),(62,Uc62),(63,Uc63)]
theorem e24:Eqn PP 20 Γ24 H24 W24 (bodyOf Tryz.f24) [.tmp 2] [.own .op] [] K24 B24:=fun _ K=>by kernel_rfl
theorem s24:CSound PP 24 G24:=fun_sk mixed Tryz.func24 (by decide) (by kernel_rfl) Tryz.ntmps24 Tryz.results24 (.cons u60 (.cons u61 (.cons u62 (.cons u63 (GSound.nil))))) e24
def Uc24:=useC [.pure .byte] G24
theorem u24:CSound PP 24 Uc24:=useC_ok s24
theorem enters65:Enters PP 65:=⟨_,Tryz.func65,by decide,rfl⟩
def G65:Con:=conJoin M_strings_Join
theorem extra65:Go.Proofs.Builder.Extra PP Tryz.lays156_ren where
 sizeBuilder:=by kernel_rfl
 liesBuilder:=by kernel_rfl
 t5:=Tryz.lays146.t5
 a5:=Tryz.lays146.a5
 z5:=Tryz.lays146.z5
 v5:=Tryz.lays146.v5
 infoByte:=by kernel_rfl
 cellsByte:=by kernel_rfl
 sizeByte:=by kernel_rfl
 neB5:=by decide
theorem s65:CSound PP 65 G65:=conJoin_ok (pre:=fun l b=>l.length≤140737488355328∧(Lib.join l b).length≤140737488355328) (F:=Lib.join) enters65 (fun b=>rfl) (fun l b h=>h.1) (fun pp cc sep w=>by
 have hc:=Go.Proofs.Any.strings_Join_none Tryz.lays156 extra65 pp cc sep w
 change Calls PP 65 _ _ _ at hc
 exact hc) fun bk o cc xs sep w h1 h2 h3 h4=>by
 have hc:=Go.Proofs.Any.strings_Join Tryz.lays156 extra65 bk o cc xs sep w h1 h2 (by simpa using h4.1) h3 h4.2
 change Calls PP 65 _ _ _ at hc
 exact hc
def Uc65:=useC [.pure .str, .x] G65
theorem u65:CSound PP 65 Uc65:=useC_ok s65
def K25:List Tok:=[.p .op]
def B25:Body K25:=fun x K=>Mi_FormatOps x.1 (fun r1=>K (.str r1) [])
def G25:=rdG K25 B25
noncomputable def H25_0:=mkH [(3, .own .str),(10, .pure .op),(11, .x),(12, .x)] [.L 0, .p .op, .i .i64, .i .i64, .bL true .str]
noncomputable def H25:List (Nat×LH):=[(0,H25_0)]
def W25:List (Nat×List (Nat×List Nat)):=[]
def Γ25:List (Nat×Con):=[(64,Uc64),(21,Uc21),(65,Uc65)]
theorem e25:Eqn PP 24 Γ25 H25 W25 (bodyOf Tryz.f25) [.tmp 2] [.x] [] K25 B25:=fun _ K=>by kernel_rfl
theorem s25:CSound PP 25 G25:=fun_sk mixed Tryz.func25 (by decide) (by kernel_rfl) Tryz.ntmps25 Tryz.results25 (.cons u64 (.cons u21 (.cons u65 (GSound.nil)))) e25
def Uc25:=useC [.pure .op] G25
theorem u25:CSound PP 25 Uc25:=useC_ok s25
def K26:List Tok:=[.p .op]
def B26:Body K26:=fun x K=>Ms_FormatOps x.1 (fun r1=>K (.str r1) [])
def G26:=rdG K26 B26
noncomputable def H26_0:=mkH [(0, .pure .op),(3, .x),(4, .x)] [.p .op, .s, .i .i64]
noncomputable def H26:List (Nat×LH):=[(0,H26_0)]
def W26:List (Nat×List (Nat×List Nat)):=[]
def Γ26:List (Nat×Con):=[(22,Uc22)]
theorem e26:Eqn PP 34 Γ26 H26 W26 (bodyOf Tryz.f26) [.tmp 2] [.x] [] K26 B26:=fun _ K=>by kernel_rfl
theorem s26:CSound PP 26 G26:=fun_sk mixed Tryz.func26 (by decide) (by kernel_rfl) Tryz.ntmps26 Tryz.results26 (.cons u22 (GSound.nil)) e26
def Uc26:=useC [.pure .op] G26
theorem u26:CSound PP 26 Uc26:=useC_ok s26
def K108:List Tok:=[]
def B108:Body K108:=fun x K=>Ms_l7Samples (fun r1=>K (.pl .str r1) [])
def G108:=rdG K108 B108
def H108:List (Nat×LH):=[]
def W108:List (Nat×List (Nat×List Nat)):=[]
def Γ108:List (Nat×Con):=[]
theorem e108:Eqn PP 2 Γ108 H108 W108 (bodyOf Tryz.f108) [.tmp 0] [.pure .str] [] K108 B108:=fun K=>by kernel_rfl
theorem s108:CSound PP 108 G108:=fun_sk mixed Tryz.func108 (by decide) (by kernel_rfl) Tryz.ntmps108 Tryz.results108 (GSound.nil) e108
def Uc108:=useC [] G108
theorem u108:CSound PP 108 Uc108:=useC_ok s108
def K107:List Tok:=[.Q 0, .p .str, .bC true, .p .byte, .i .i64, .E]
def B107:Body K107:=fun x K=>Ms_l13Rd_of x.1 x.2.1 x.2.2.1 (fun r1 r2=>K (.str r1) [⟨true, .cells [.pl .byte x.2.1, .int .i64 r2]⟩])
def G107:=rdG K107 B107
def H107:List (Nat×LH):=[]
def W107:List (Nat×List (Nat×List Nat)):=[]
def Γ107:List (Nat×Con):=[(62,Uc62)]
theorem e107:Eqn PP 12 Γ107 H107 W107 (bodyOf Tryz.f107) [.tmp 4] [.x] [] K107 B107:=fun _ _ _ K=>by kernel_rfl
theorem s107:CSound PP 107 G107:=fun_sk mixed Tryz.func107 (by decide) (by kernel_rfl) Tryz.ntmps107 Tryz.results107 (.cons u62 (GSound.nil)) e107
def Uc107:=useC [.pc [.pure .byte, .x], .pure .str] G107
theorem u107:CSound PP 107 Uc107:=useC_ok s107
def K136:List Tok:=[.s, .i .u8]
def B136:Body K136:=fun x K=>Ms_l13Cut x.1 x.2.1 (fun r1=>K (.sl 0) [⟨true, .list .str r1⟩])
def G136:=rdG K136 B136
noncomputable def H136_0:=mkH [(0, .x),(1, .x),(5, .own .str),(6, .x),(7, .x)] [.s, .i .u8, .L 0, .i .i64, .i .i64, .bL true .str]
noncomputable def H136:List (Nat×LH):=[(0,H136_0)]
def W136:List (Nat×List (Nat×List Nat)):=[]
def Γ136:List (Nat×Con):=[]
theorem e136:Eqn PP 36 Γ136 H136 W136 (bodyOf Tryz.f136) [.tmp 4] [.own .str] [] K136 B136:=fun _ _ K=>by kernel_rfl
theorem s136:CSound PP 136 G136:=fun_sk mixed Tryz.func136 (by decide) (by kernel_rfl) Tryz.ntmps136 Tryz.results136 (GSound.nil) e136
def Uc136:=useC [.x, .x] G136
theorem u136:CSound PP 136 Uc136:=useC_ok s136
def K137:List Tok:=[.s]
def B137:Body K137:=fun x K=>Ms_ParseOp x.1 (fun r1 r2 r3 r4=>K (.tup [.agg [.int .i64 r1, .int .i64 r2, .int .i64 r3], .bool r4]) [])
def G137:=rdG K137 B137
noncomputable def H137_0:=mkH [(0, .x),(2, .pc [.x, .x, .x]),(4, .x)] [.s, .Q 0, .i .i64, .bC true, .i .i64, .i .i64, .i .i64, .E]
noncomputable def H137_2:=mkH [(0, .x),(2, .pc [.x, .x, .x]),(4, .x),(5, .x)] [.s, .Q 0, .i .i64, .i .i64, .bC true, .i .i64, .i .i64, .i .i64, .E]
noncomputable def H137_4:=mkH [(0, .x),(2, .pc [.x, .x, .x]),(4, .x),(5, .x),(6, .x)] [.s, .Q 0, .i .i64, .i .i64, .i .i64, .bC true, .i .i64, .i .i64, .i .i64, .E]
noncomputable def H137:List (Nat×LH):=[(0,H137_0),(2,H137_2),(4,H137_4)]
def W137:List (Nat×List (Nat×List Nat)):=[]
def Γ137:List (Nat×Con):=[(22,Uc22)]
theorem e137:Eqn PP 34 Γ137 H137 W137 (bodyOf Tryz.f137) [.cell 2 38, .tmp 3] [.ag [.x, .x, .x], .bl] [] K137 B137:=fun _ K=>by kernel_rfl
theorem s137:CSound PP 137 G137:=fun_sk mixed Tryz.func137 (by decide) (by kernel_rfl) Tryz.ntmps137 Tryz.results137 (.cons u22 (GSound.nil)) e137
def Uc137:=useC [.x] G137
theorem u137:CSound PP 137 Uc137:=useC_ok s137
def K106:List Tok:=[.s]
def B106:Body K106:=fun x K=>Ms_ParseOps x.1 (fun r1 r2=>K (.tup [.sl 0, .bool r1]) [⟨true, .list .op r2⟩])
def G106:=rdG K106 B106
noncomputable def H106_0:=mkH [(4, .own .op),(5, .own .str),(6, .x)] [.L 0, .L 1, .i .i64, .bL true .op, .bL true .str]
noncomputable def H106:List (Nat×LH):=[(0,H106_0)]
def W106:List (Nat×List (Nat×List Nat)):=[]
def Γ106:List (Nat×Con):=[(136,Uc136),(137,Uc137)]
theorem e106:Eqn PP 63 Γ106 H106 W106 (bodyOf Tryz.f106) [.tmp 2, .tmp 3] [.own .op, .bl] [] K106 B106:=fun _ K=>by kernel_rfl
theorem s106:CSound PP 106 G106:=fun_sk mixed Tryz.func106 (by decide) (by kernel_rfl) Tryz.ntmps106 Tryz.results106 (.cons u136 (.cons u137 (GSound.nil))) e106
def Uc106:=useC [.x] G106
theorem u106:CSound PP 106 Uc106:=useC_ok s106
def K195:List Tok:=[.i .i64, .i .i64]
def B195:Body K195:=fun x K=>Ms_l1Points x.1 x.2.1 (fun r1=>K (.bool r1) [])
def G195:=rdG K195 B195
def H195:List (Nat×LH):=[]
def W195:List (Nat×List (Nat×List Nat)):=[]
def Γ195:List (Nat×Con):=[]
theorem e195:Eqn PP 12 Γ195 H195 W195 (bodyOf Tryz.f195) [.tmp 4] [.bl] [] K195 B195:=fun _ _ K=>by kernel_rfl
theorem s195:CSound PP 195 G195:=fun_sk mixed Tryz.func195 (by decide) (by kernel_rfl) Tryz.ntmps195 Tryz.results195 (GSound.nil) e195
def Uc195:=useC [.x, .x] G195
theorem u195:CSound PP 195 Uc195:=useC_ok s195
def K174:List Tok:=[.A, .p .int, .p .int, .p .int, .E]
def B174:Body K174:=fun x K=>Ms_HeapValid x.1 x.2.1 x.2.2.1 (fun r1=>K (.bool r1) [])
def G174:=rdG K174 B174
noncomputable def H174_0:=mkH [(1, .pc [.pure .int, .pure .int, .pure .int]),(3, .x),(4, .x)] [.Q 0, .i .i64, .i .i64, .bC true, .p .int, .p .int, .p .int, .E]
noncomputable def H174_2:=mkH [(1, .pc [.pure .int, .pure .int, .pure .int]),(3, .x),(5, .x)] [.Q 0, .i .i64, .i .i64, .bC true, .p .int, .p .int, .p .int, .E]
noncomputable def H174:List (Nat×LH):=[(0,H174_0),(2,H174_2)]
def W174:List (Nat×List (Nat×List Nat)):=[]
def Γ174:List (Nat×Con):=[(195,Uc195)]
theorem e174:Eqn PP 72 Γ174 H174 W174 (bodyOf Tryz.f174) [.tmp 2] [.bl] [] K174 B174:=fun _ _ _ K=>by kernel_rfl
theorem s174:CSound PP 174 G174:=fun_sk mixed Tryz.func174 (by decide) (by kernel_rfl) Tryz.ntmps174 Tryz.results174 (.cons u195 (GSound.nil)) e174
def Uc174:=useC [.ag [.pure .int, .pure .int, .pure .int]] G174
theorem u174:CSound PP 174 Uc174:=useC_ok s174
def K176:List Tok:=[.p .int, .i .i64]
def B176:Body K176:=fun x K=>Ms_l4At x.1 x.2.1 (fun r1=>K (.int .i64 r1) [])
def G176:=rdG K176 B176
noncomputable def H176_0:=mkH [(0, .pure .int),(1, .x),(5, .x)] [.p .int, .i .i64, .i .i64]
noncomputable def H176:List (Nat×LH):=[(0,H176_0)]
def W176:List (Nat×List (Nat×List Nat)):=[]
def Γ176:List (Nat×Con):=[]
theorem e176:Eqn PP 19 Γ176 H176 W176 (bodyOf Tryz.f176) [.tmp 4] [.x] [] K176 B176:=fun _ _ K=>by kernel_rfl
theorem s176:CSound PP 176 G176:=fun_sk mixed Tryz.func176 (by decide) (by kernel_rfl) Tryz.ntmps176 Tryz.results176 (GSound.nil) e176
def Uc176:=useC [.pure .int, .x] G176
theorem u176:CSound PP 176 Uc176:=useC_ok s176
def K175:List Tok:=[.A, .p .int, .p .int, .p .int, .E, .i .i64]
def B175:Body K175:=fun x K=>Ms_l4Free x.1 x.2.1 x.2.2.1 x.2.2.2.1 (fun r1=>K (.bool r1) [])
def G175:=rdG K175 B175
def H175:List (Nat×LH):=[]
def W175:List (Nat×List (Nat×List Nat)):=[]
def Γ175:List (Nat×Con):=[(176,Uc176)]
theorem e175:Eqn PP 51 Γ175 H175 W175 (bodyOf Tryz.f175) [.tmp 4] [.bl] [] K175 B175:=fun _ _ _ _ K=>by kernel_rfl
theorem s175:CSound PP 175 G175:=fun_sk mixed Tryz.func175 (by decide) (by kernel_rfl) Tryz.ntmps175 Tryz.results175 (.cons u176 (GSound.nil)) e175
def Uc175:=useC [.ag [.pure .int, .pure .int, .pure .int], .x] G175
theorem u175:CSound PP 175 Uc175:=useC_ok s175
def K138:List Tok:=[.A, .p .int, .p .int, .p .int, .p .int, .E]
def B138:Body K138:=fun x K=>Ms_StoreValid x.1 x.2.1 x.2.2.1 x.2.2.2.1 (fun r1=>K (.bool r1) [])
def G138:=rdG K138 B138
noncomputable def H138_0:=mkH [(1, .pc [.pure .int, .pure .int, .pure .int, .pure .int]),(3, .x)] [.Q 0, .i .i64, .bC true, .p .int, .p .int, .p .int, .p .int, .E]
noncomputable def H138:List (Nat×LH):=[(0,H138_0)]
def W138:List (Nat×List (Nat×List Nat)):=[]
def Γ138:List (Nat×Con):=[(174,Uc174),(175,Uc175),(176,Uc176)]
theorem e138:Eqn PP 47 Γ138 H138 W138 (bodyOf Tryz.f138) [.tmp 2] [.bl] [] K138 B138:=fun _ _ _ _ K=>by kernel_rfl
theorem s138:CSound PP 138 G138:=fun_sk mixed Tryz.func138 (by decide) (by kernel_rfl) Tryz.ntmps138 Tryz.results138 (.cons u174 (.cons u175 (.cons u176 (GSound.nil)))) e138
def Uc138:=useC [.ag [.pure .int, .pure .int, .pure .int, .pure .int]] G138
theorem u138:CSound PP 138 Uc138:=useC_ok s138
def K177:List Tok:=[.A, .p .int, .p .int, .p .int, .E]
def B177:Body K177:=fun x K=>Ms_l1Copy x.1 x.2.1 x.2.2.1 (K (.agg [.sl 0, .sl 1, .sl 2]) [⟨true, .list .int x.1⟩,⟨true, .list .int x.2.1⟩,⟨true, .list .int x.2.2.1⟩])
def G177:=rdG K177 B177
def H177:List (Nat×LH):=[]
def W177:List (Nat×List (Nat×List Nat)):=[]
def Γ177:List (Nat×Con):=[]
theorem e177:Eqn PP 16 Γ177 H177 W177 (bodyOf Tryz.f177) [.cell 2 27] [.ag [.own .int, .own .int, .own .int]] [] K177 B177:=fun _ _ _ K=>by kernel_rfl
theorem s177:CSound PP 177 G177:=fun_sk mixed Tryz.func177 (by decide) (by kernel_rfl) Tryz.ntmps177 Tryz.results177 (GSound.nil) e177
def Uc177:=useC [.ag [.pure .int, .pure .int, .pure .int]] G177
theorem u177:CSound PP 177 Uc177:=useC_ok s177
def K139:List Tok:=[.A, .p .int, .p .int, .p .int, .p .int, .E]
def B139:Body K139:=fun x K=>Ms_l4Copy x.1 x.2.1 x.2.2.1 x.2.2.2.1 (K (.agg [.sl 0, .sl 1, .sl 2, .sl 3]) [⟨true, .list .int x.1⟩,⟨true, .list .int x.2.1⟩,⟨true, .list .int x.2.2.1⟩,⟨true, .list .int x.2.2.2.1⟩])
def G139:=rdG K139 B139
def H139:List (Nat×LH):=[]
def W139:List (Nat×List (Nat×List Nat)):=[]
def Γ139:List (Nat×Con):=[(177,Uc177)]
theorem e139:Eqn PP 11 Γ139 H139 W139 (bodyOf Tryz.f139) [.cell 2 29] [.ag [.own .int, .own .int, .own .int, .own .int]] [] K139 B139:=fun _ _ _ _ K=>by kernel_rfl
theorem s139:CSound PP 139 G139:=fun_sk mixed Tryz.func139 (by decide) (by kernel_rfl) Tryz.ntmps139 Tryz.results139 (.cons u177 (GSound.nil)) e139
def Uc139:=useC [.ag [.pure .int, .pure .int, .pure .int, .pure .int]] G139
theorem u139:CSound PP 139 Uc139:=useC_ok s139
def K178:List Tok:=[.A, .L 0, .L 1, .L 2, .L 3, .E, .A, .i .i64, .i .i64, .i .i64, .E, .bL true .int, .bL true .int, .bL true .int, .bL true .int]
def B178:Body K178:=fun x K=>Ms_l5Do x.1 x.2.1 x.2.2.1 x.2.2.2.1 x.2.2.2.2.1 x.2.2.2.2.2.1 x.2.2.2.2.2.2.1 (fun r1 r2 r3 r4=>K (.tup [.agg [.sl 0, .sl 1, .sl 2, .sl 3], .int .i64 r1]) [⟨true, .list .int r2⟩,⟨true, .list .int r3⟩,⟨true, .list .int r4⟩,⟨true, .list .int x.2.2.2.2.2.2.1⟩])
def G178:=rdG K178 B178
def H178:List (Nat×LH):=[]
def W178:List (Nat×List (Nat×List Nat)):=[]
def Γ178:List (Nat×Con):=[]
theorem e178:Eqn PP 89 Γ178 H178 W178 (bodyOf Tryz.f178) [.cell 4 29, .tmp 5] [.ag [.own .int, .own .int, .own .int, .own .int], .x] [] K178 B178:=fun _ _ _ _ _ _ _ K=>by kernel_rfl
theorem s178:CSound PP 178 G178:=fun_sk mixed Tryz.func178 (by decide) (by kernel_rfl) Tryz.ntmps178 Tryz.results178 (GSound.nil) e178
def Uc178:=useC [.ag [.own .int, .own .int, .own .int, .own .int], .ag [.x, .x, .x]] G178
theorem u178:CSound PP 178 Uc178:=useC_ok s178
def K179:List Tok:=[.A, .p .int, .p .int, .p .int, .p .int, .E, .i .i64]
def B179:Body K179:=fun x K=>Ms_AllocCell x.1 x.2.1 x.2.2.1 x.2.2.2.1 x.2.2.2.2.1 (fun r1 r2 r3 r4 r5 r6=>K (.tup [.agg [.sl 0, .sl 1, .sl 2, .sl 3], .int .i64 r1, .bool r2]) [⟨true, .list .int r3⟩,⟨true, .list .int r4⟩,⟨true, .list .int r5⟩,⟨true, .list .int r6⟩])
def G179:=rdG K179 B179
def H179:List (Nat×LH):=[]
def W179:List (Nat×List (Nat×List Nat)):=[]
def Γ179:List (Nat×Con):=[(138,Uc138),(139,Uc139)]
theorem e179:Eqn PP 51 Γ179 H179 W179 (bodyOf Tryz.f179) [.cell 4 29, .tmp 5, .tmp 6] [.ag [.own .int, .own .int, .own .int, .own .int], .x, .bl] [] K179 B179:=fun _ _ _ _ _ K=>by kernel_rfl
theorem s179:CSound PP 179 G179:=fun_sk mixed Tryz.func179 (by decide) (by kernel_rfl) Tryz.ntmps179 Tryz.results179 (.cons u138 (.cons u139 (GSound.nil))) e179
def Uc179:=useC [.ag [.pure .int, .pure .int, .pure .int, .pure .int], .x] G179
theorem u179:CSound PP 179 Uc179:=useC_ok s179
def K140:List Tok:=[.A, .p .int, .p .int, .p .int, .p .int, .E, .A, .i .i64, .i .i64, .i .i64, .E]
def B140:Body K140:=fun x K=>Ms_RunOp x.1 x.2.1 x.2.2.1 x.2.2.2.1 x.2.2.2.2.1 x.2.2.2.2.2.1 x.2.2.2.2.2.2.1 (fun r1 r2 r3 r4 r5 r6=>K (.tup [.agg [.sl 0, .sl 1, .sl 2, .sl 3], .int .i64 r1, .bool r2]) [⟨true, .list .int r3⟩,⟨true, .list .int r4⟩,⟨true, .list .int r5⟩,⟨true, .list .int r6⟩])
def G140:=rdG K140 B140
def H140:List (Nat×LH):=[]
def W140:List (Nat×List (Nat×List Nat)):=[]
def Γ140:List (Nat×Con):=[(138,Uc138),(54,Uc54),(139,Uc139),(178,Uc178),(179,Uc179)]
theorem e140:Eqn PP 50 Γ140 H140 W140 (bodyOf Tryz.f140) [.cell 4 29, .tmp 5, .tmp 6] [.ag [.own .int, .own .int, .own .int, .own .int], .x, .bl] [] K140 B140:=fun _ _ _ _ _ _ _ K=>by kernel_rfl
theorem s140:CSound PP 140 G140:=fun_sk mixed Tryz.func140 (by decide) (by kernel_rfl) Tryz.ntmps140 Tryz.results140 (.cons u138 (.cons u54 (.cons u139 (.cons u178 (.cons u179 (GSound.nil)))))) e140
def Uc140:=useC [.ag [.pure .int, .pure .int, .pure .int, .pure .int], .ag [.x, .x, .x]] G140
theorem u140:CSound PP 140 Uc140:=useC_ok s140
def K109:List Tok:=[.A, .p .int, .p .int, .p .int, .p .int, .E, .p .op]
def B109:Body K109:=fun x K=>Ms_RunOps x.1 x.2.1 x.2.2.1 x.2.2.2.1 x.2.2.2.2.1 (fun r1 r2 r3 r4 r5 r6=>K (.tup [.agg [.sl 0, .sl 1, .sl 2, .sl 3], .int .i64 r1, .bool r2]) [⟨true, .list .int r3⟩,⟨true, .list .int r4⟩,⟨true, .list .int r5⟩,⟨true, .list .int r6⟩])
def G109:=rdG K109 B109
noncomputable def H109_0:=mkH [(1, .pure .op),(2, .pc [.pure .int, .pure .int, .pure .int, .pure .int]),(4, .pc [.own .int, .own .int, .own .int, .own .int]),(7, .pc [.own .int, .own .int, .own .int, .own .int]),(8, .x)] [.p .op, .Q 0, .Q 1, .Q 2, .i .i64, .bC true, .p .int, .p .int, .p .int, .p .int, .E, .bC true, .L 3, .L 4, .L 5, .L 6, .E, .bC true, .L 7, .L 8, .L 9, .L 10, .E, .bL true .int, .bL true .int, .bL true .int, .bL true .int, .bL true .int, .bL true .int, .bL true .int, .bL true .int]
noncomputable def H109_2:=mkH [(1, .pure .op),(4, .pc [.own .int, .own .int, .own .int, .own .int]),(7, .pc [.own .int, .own .int, .own .int, .own .int]),(9, .x)] [.p .op, .Q 0, .Q 1, .i .i64, .bC true, .L 2, .L 3, .L 4, .L 5, .E, .bC true, .L 6, .L 7, .L 8, .L 9, .E, .bL true .int, .bL true .int, .bL true .int, .bL true .int, .bL true .int, .bL true .int, .bL true .int, .bL true .int]
noncomputable def H109:List (Nat×LH):=[(0,H109_0),(2,H109_2)]
def W109:List (Nat×List (Nat×List Nat)):=[]
def Γ109:List (Nat×Con):=[(138,Uc138),(139,Uc139),(54,Uc54),(140,Uc140)]
theorem e109:Eqn PP 65 Γ109 H109 W109 (bodyOf Tryz.f109) [.cell 4 29, .tmp 5, .tmp 6] [.ag [.own .int, .own .int, .own .int, .own .int], .x, .bl] [] K109 B109:=fun _ _ _ _ _ K=>by kernel_rfl
theorem s109:CSound PP 109 G109:=fun_sk mixed Tryz.func109 (by decide) (by kernel_rfl) Tryz.ntmps109 Tryz.results109 (.cons u138 (.cons u139 (.cons u54 (.cons u140 (GSound.nil))))) e109
def Uc109:=useC [.ag [.pure .int, .pure .int, .pure .int, .pure .int], .pure .op] G109
theorem u109:CSound PP 109 Uc109:=useC_ok s109
def K141:List Tok:=[.A, .p .int, .p .int, .p .int, .p .int, .E]
def B141:Body K141:=fun x K=>Ms_NewGc x.1 x.2.1 x.2.2.1 x.2.2.2.1 (fun r1 r2 r3 r4=>K (.tup [.agg [.int .i64 r1, .sl 0, .int .i64 r2], .bool r3]) [⟨true, .list .int r4⟩])
def G141:=rdG K141 B141
def H141:List (Nat×LH):=[]
def W141:List (Nat×List (Nat×List Nat)):=[]
def Γ141:List (Nat×Con):=[(138,Uc138)]
theorem e141:Eqn PP 14 Γ141 H141 W141 (bodyOf Tryz.f141) [.cell 2 51, .tmp 3] [.ag [.x, .own .int, .x], .bl] [] K141 B141:=fun _ _ _ _ K=>by kernel_rfl
theorem s141:CSound PP 141 G141:=fun_sk mixed Tryz.func141 (by decide) (by kernel_rfl) Tryz.ntmps141 Tryz.results141 (.cons u138 (GSound.nil)) e141
def Uc141:=useC [.ag [.pure .int, .pure .int, .pure .int, .pure .int]] G141
theorem u141:CSound PP 141 Uc141:=useC_ok s141
def K142:List Tok:=[.p .op, .i .i64]
def B142:Body K142:=fun x K=>Ms_l7Ops x.1 x.2.1 (fun r1=>K (.bool r1) [])
def G142:=rdG K142 B142
noncomputable def H142_0:=mkH [(0, .pure .op),(1, .x),(5, .x)] [.p .op, .i .i64, .i .i64]
noncomputable def H142:List (Nat×LH):=[(0,H142_0)]
def W142:List (Nat×List (Nat×List Nat)):=[]
def Γ142:List (Nat×Con):=[(54,Uc54)]
theorem e142:Eqn PP 26 Γ142 H142 W142 (bodyOf Tryz.f142) [.tmp 4] [.bl] [] K142 B142:=fun _ _ K=>by kernel_rfl
theorem s142:CSound PP 142 G142:=fun_sk mixed Tryz.func142 (by decide) (by kernel_rfl) Tryz.ntmps142 Tryz.results142 (.cons u54 (GSound.nil)) e142
def Uc142:=useC [.pure .op, .x] G142
theorem u142:CSound PP 142 Uc142:=useC_ok s142
def K110:List Tok:=[.A, .p .int, .p .int, .p .int, .p .int, .E, .p .op]
def B110:Body K110:=fun x K=>Ms_NewBoth x.1 x.2.1 x.2.2.1 x.2.2.2.1 x.2.2.2.2.1 (fun r1 r2 r3 r4 r5 r6 r7 r8 r9 r10 r11=>K (.tup [.agg [.sl 0, .sl 1, .sl 2, .sl 3, .int .i64 r1, .sl 4, .int .i64 r2, .sl 5, .int .i64 r3, .bool r4], .bool r5]) [⟨true, .list .int r6⟩,⟨true, .list .int r7⟩,⟨true, .list .int r8⟩,⟨true, .list .int r9⟩,⟨true, .list .int r10⟩,⟨true, .list .op r11⟩])
def G110:=rdG K110 B110
def H110:List (Nat×LH):=[]
def W110:List (Nat×List (Nat×List Nat)):=[]
def Γ110:List (Nat×Con):=[(141,Uc141),(142,Uc142),(139,Uc139)]
theorem e110:Eqn PP 32 Γ110 H110 W110 (bodyOf Tryz.f110) [.cell 4 53, .tmp 5] [.ag [.own .int, .own .int, .own .int, .own .int, .x, .own .int, .x, .own .op, .x, .bl], .bl] [] K110 B110:=fun _ _ _ _ _ K=>by kernel_rfl
theorem s110:CSound PP 110 G110:=fun_sk mixed Tryz.func110 (by decide) (by kernel_rfl) Tryz.ntmps110 Tryz.results110 (.cons u141 (.cons u142 (.cons u139 (GSound.nil)))) e110
def Uc110:=useC [.ag [.pure .int, .pure .int, .pure .int, .pure .int], .pure .op] G110
theorem u110:CSound PP 110 Uc110:=useC_ok s110
def K78:List Tok:=[.Q 0, .bC true, .p .byte, .i .i64, .E]
def B78:Body K78:=fun x K=>Ms_l7Draw x.1 x.2.1 (fun r1 r2 r3 r4 r5 r6 r7 r8 r9 r10 r11 r12=>K (.agg [.sl 1, .sl 2, .sl 3, .sl 4, .int .i64 r1, .sl 5, .int .i64 r2, .sl 6, .int .i64 r3, .bool r4]) [⟨true, .cells [.pl .byte r5, .int .i64 r6]⟩,⟨true, .list .int r7⟩,⟨true, .list .int r8⟩,⟨true, .list .int r9⟩,⟨true, .list .int r10⟩,⟨true, .list .int r11⟩,⟨true, .list .op r12⟩])
def G78:=rdG K78 B78
noncomputable def H78_1000002:=mkH [(0, .pc [.pure .byte, .x]),(2, .pc [.own .int, .own .int, .own .int, .own .int, .x, .own .int, .x, .own .op, .x, .bl]),(3, .pc [.own .int, .own .int, .own .int, .own .int])] [.Q 0, .Q 1, .Q 2, .bC true, .p .byte, .i .i64, .E, .bC true, .L 3, .L 4, .L 5, .L 6, .i .i64, .L 7, .i .i64, .L 8, .i .i64, .b, .E, .bC true, .L 9, .L 10, .L 11, .L 12, .E, .bL true .int, .bL true .int, .bL true .int, .bL true .int, .bL true .int, .bL true .op, .bL true .int, .bL true .int, .bL true .int, .bL true .int]
noncomputable def H78_1000008:=mkH [(2, .pc [.own .int, .own .int, .own .int, .own .int, .x, .own .int, .x, .own .op, .x, .bl]),(3, .pc [.own .int, .own .int, .own .int, .own .int]),(5, .own .op)] [.Q 1, .Q 2, .L 3, .bC true, .p .byte, .i .i64, .E, .bC true, .L 4, .L 5, .L 6, .L 7, .i .i64, .L 8, .i .i64, .L 9, .i .i64, .b, .E, .bC true, .L 10, .L 11, .L 12, .L 13, .E, .bL true .op, .bL true .int, .bL true .int, .bL true .int, .bL true .int, .bL true .int, .bL true .op, .bL true .int, .bL true .int, .bL true .int, .bL true .int]
noncomputable def H78:List (Nat×LH):=[(1000002,H78_1000002),(1000008,H78_1000008)]
def W78:List (Nat×List (Nat×List Nat)):=[]
def Γ78:List (Nat×Con):=[(63,Uc63),(15,Uc15),(62,Uc62),(108,Uc108),(107,Uc107),(106,Uc106),(61,Uc61),(109,Uc109),(110,Uc110)]
def S78_8 (s:H78_1000008.S) (K:TV→TMem→Prop):Prop:=Ms_l7Draw_c8 s.1 s.2.1 s.2.2.1 s.2.2.2.1 s.2.2.2.2.1 s.2.2.2.2.2.1 s.2.2.2.2.2.2.1 s.2.2.2.2.2.2.2.1 s.2.2.2.2.2.2.2.2.1 s.2.2.2.2.2.2.2.2.2.1 s.2.2.2.2.2.2.2.2.2.2.1 s.2.2.2.2.2.2.2.2.2.2.2.1 s.2.2.2.2.2.2.2.2.2.2.2.2.1 s.2.2.2.2.2.2.2.2.2.2.2.2.2.1 s.2.2.2.2.2.2.2.2.2.2.2.2.2.2.1 s.2.2.2.2.2.2.2.2.2.2.2.2.2.2.2.1 s.2.2.2.2.2.2.2.2.2.2.2.2.2.2.2.2 (fun r1 r2 r3 r4 r5 r6 r7 r8 r9 r10 r11 r12=>K (.agg [.sl 1, .sl 2, .sl 3, .sl 4, .int .i64 r1, .sl 5, .int .i64 r2, .sl 6, .int .i64 r3, .bool r4]) [⟨true, .cells [.pl .byte r5, .int .i64 r6]⟩,⟨true, .list .int r7⟩,⟨true, .list .int r8⟩,⟨true, .list .int r9⟩,⟨true, .list .int r10⟩,⟨true, .list .int r11⟩,⟨true, .list .op r12⟩])
def J78_8 (K:TV→TMem→Prop) (ts:TFrm) (tm:TMem):Prop:=headT 1 H78_1000008 ts tm fun s=>S78_8 s K
theorem q78_8 (s:H78_1000008.S) (K:TV→TMem→Prop):segT PP 45 Γ78 H78 W78 1 (sufC 5 (bodyOf Tryz.f78)) (endT PP 45 [.cell 2 53] [.ag [.own .int, .own .int, .own .int, .own .int, .x, .own .int, .x, .own .op, .x, .bl]] [] 1 K) (frameOf H78_1000008.keep (H78_1000008.enc s).1) (H78_1000008.enc s).2=S78_8 s K:=by kernel_rfl
theorem j78_8 (K:TV→TMem→Prop) (ts:TFrm) (tm:TMem):J78_8 K ts tm=TW PP 45 Γ78 H78 W78 1 (sufC 5 (bodyOf Tryz.f78)) (endT PP 45 [.cell 2 53] [.ag [.own .int, .own .int, .own .int, .own .int, .x, .own .int, .x, .own .op, .x, .bl]] [] 1 K) ts tm:=
 TW_seg (by kernel_rfl:regOf (sufC 5 (bodyOf Tryz.f78))=some 8) (by kernel_rfl) (fun s=>q78_8 s K) ts tm
def S78_2 (s:H78_1000002.S) (K:TV→TMem→Prop):Prop:=Ms_l7Draw_c2 s.1 s.2.1 s.2.2.1 s.2.2.2.1 s.2.2.2.2.1 s.2.2.2.2.2.1 s.2.2.2.2.2.2.1 s.2.2.2.2.2.2.2.1 s.2.2.2.2.2.2.2.2.1 s.2.2.2.2.2.2.2.2.2.1 s.2.2.2.2.2.2.2.2.2.2.1 s.2.2.2.2.2.2.2.2.2.2.2.1 s.2.2.2.2.2.2.2.2.2.2.2.2.1 s.2.2.2.2.2.2.2.2.2.2.2.2.2.1 s.2.2.2.2.2.2.2.2.2.2.2.2.2.2.1 s.2.2.2.2.2.2.2.2.2.2.2.2.2.2.2 (fun r1 r2 r3 r4 r5 r6 r7 r8 r9 r10 r11 r12=>K (.agg [.sl 1, .sl 2, .sl 3, .sl 4, .int .i64 r1, .sl 5, .int .i64 r2, .sl 6, .int .i64 r3, .bool r4]) [⟨true, .cells [.pl .byte r5, .int .i64 r6]⟩,⟨true, .list .int r7⟩,⟨true, .list .int r8⟩,⟨true, .list .int r9⟩,⟨true, .list .int r10⟩,⟨true, .list .int r11⟩,⟨true, .list .op r12⟩])
def J78_2 (K:TV→TMem→Prop) (ts:TFrm) (tm:TMem):Prop:=headT 1 H78_1000002 ts tm fun s=>S78_2 s K
theorem r78_2 (s:H78_1000002.S) (K:TV→TMem→Prop):segN PP 45 Γ78 H78 W78 1 2 (sufC 2 (bodyOf Tryz.f78)) (J78_8 K) (endT PP 45 [.cell 2 53] [.ag [.own .int, .own .int, .own .int, .own .int, .x, .own .int, .x, .own .op, .x, .bl]] [] 1 K) (frameOf H78_1000002.keep (H78_1000002.enc s).1) (H78_1000002.enc s).2=S78_2 s K:=by kernel_rfl
theorem q78_2 (s:H78_1000002.S) (K:TV→TMem→Prop):segT PP 45 Γ78 H78 W78 1 (sufC 2 (bodyOf Tryz.f78)) (endT PP 45 [.cell 2 53] [.ag [.own .int, .own .int, .own .int, .own .int, .x, .own .int, .x, .own .op, .x, .bl]] [] 1 K) (frameOf H78_1000002.keep (H78_1000002.enc s).1) (H78_1000002.enc s).2=S78_2 s K:=
 (segN_eq (by kernel_rfl) fun ts tm=>(j78_8 K ts tm).trans (congrArg (fun c=>TW PP 45 Γ78 H78 W78 1 c (endT PP 45 [.cell 2 53] [.ag [.own .int, .own .int, .own .int, .own .int, .x, .own .int, .x, .own .op, .x, .bl]] [] 1 K) ts tm) (sufC_split 2 2 5 rfl _))).trans (r78_2 s K)
theorem j78_2 (K:TV→TMem→Prop) (ts:TFrm) (tm:TMem):J78_2 K ts tm=TW PP 45 Γ78 H78 W78 1 (sufC 2 (bodyOf Tryz.f78)) (endT PP 45 [.cell 2 53] [.ag [.own .int, .own .int, .own .int, .own .int, .x, .own .int, .x, .own .op, .x, .bl]] [] 1 K) ts tm:=
 TW_seg (by kernel_rfl:regOf (sufC 2 (bodyOf Tryz.f78))=some 2) (by kernel_rfl) (fun s=>q78_2 s K) ts tm
theorem ea78:AllL (lvs K78) fun x=>∀K,TWn PP 45 Γ78 H78 W78 1 2 (bodyOf Tryz.f78) (J78_2 K) (endT PP 45 [.cell 2 53] [.ag [.own .int, .own .int, .own .int, .own .int, .x, .own .int, .x, .own .op, .x, .bl]] [] 1 K) (argsF (wr K78 x).1) (wr K78 x).2.2=B78 x K:=fun _ _ K=>by kernel_rfl
theorem e78:Eqn PP 45 Γ78 H78 W78 (bodyOf Tryz.f78) [.cell 2 53] [.ag [.own .int, .own .int, .own .int, .own .int, .x, .own .int, .x, .own .op, .x, .bl]] [] K78 B78:=fun x0 x1 K=>
 (congrFun (congrFun (TWn_eq 2 _ (by kernel_rfl) fun ts tm=>j78_2 K ts tm) _) _).trans (ea78 x0 x1 K)
theorem s78:CSound PP 78 G78:=fun_sk mixed Tryz.func78 (by decide) (by kernel_rfl) Tryz.ntmps78 Tryz.results78 (.cons u63 (.cons u15 (.cons u62 (.cons u108 (.cons u107 (.cons u106 (.cons u61 (.cons u109 (.cons u110 (GSound.nil)))))))))) e78
def Uc78:=useC [.pc [.pure .byte, .x]] G78
theorem u78:CSound PP 78 Uc78:=useC_ok s78
def K79:List Tok:=[.Q 0, .bC true, .p .byte, .i .i64, .E]
def B79:Body K79:=fun x K=>Ms_l7Schedule x.1 x.2.1 (fun r1 r2 r3=>K (.str r1) [⟨true, .cells [.pl .byte r2, .int .i64 r3]⟩])
def G79:=rdG K79 B79
noncomputable def H79_0:=mkH [(0, .pc [.pure .byte, .x]),(3, .x),(4, .x)] [.Q 0, .s, .i .i64, .bC true, .p .byte, .i .i64, .E]
noncomputable def H79:List (Nat×LH):=[(0,H79_0)]
def W79:List (Nat×List (Nat×List Nat)):=[]
def Γ79:List (Nat×Con):=[(63,Uc63),(107,Uc107)]
theorem e79:Eqn PP 18 Γ79 H79 W79 (bodyOf Tryz.f79) [.tmp 2] [.x] [] K79 B79:=fun _ _ K=>by kernel_rfl
theorem s79:CSound PP 79 G79:=fun_sk mixed Tryz.func79 (by decide) (by kernel_rfl) Tryz.ntmps79 Tryz.results79 (.cons u63 (.cons u107 (GSound.nil))) e79
def Uc79:=useC [.pc [.pure .byte, .x]] G79
theorem u79:CSound PP 79 Uc79:=useC_ok s79
def K33:List Tok:=[.p .byte]
def B33:Body K33:=fun x K=>Ms_DrawRunBoth x.1 (fun r1 r2 r3 r4 r5 r6 r7 r8 r9 r10 r11 r12=>K (.tup [.agg [.sl 0, .sl 1, .sl 2, .sl 3, .int .i64 r1, .sl 4, .int .i64 r2, .sl 5, .int .i64 r3, .bool r4], .str r5, .bool r6]) [⟨true, .list .int r7⟩,⟨true, .list .int r8⟩,⟨true, .list .int r9⟩,⟨true, .list .int r10⟩,⟨true, .list .int r11⟩,⟨true, .list .op r12⟩])
def G33:=rdG K33 B33
def H33:List (Nat×LH):=[]
def W33:List (Nat×List (Nat×List Nat)):=[(6,[(1,[3])])]
def Γ33:List (Nat×Con):=[(60,Uc60),(78,Uc78),(79,Uc79),(62,Uc62)]
theorem e33:Eqn PP 24 Γ33 H33 W33 (bodyOf Tryz.f33) [.cell 2 53, .tmp 3, .tmp 4] [.ag [.own .int, .own .int, .own .int, .own .int, .x, .own .int, .x, .own .op, .x, .bl], .x, .bl] [] K33 B33:=fun _ K=>by kernel_rfl
theorem s33:CSound PP 33 G33:=fun_sk mixed Tryz.func33 (by decide) (by kernel_rfl) Tryz.ntmps33 Tryz.results33 (.cons u60 (.cons u78 (.cons u79 (.cons u62 (GSound.nil))))) e33
def Uc33:=useC [.pure .byte] G33
theorem u33:CSound PP 33 Uc33:=useC_ok s33
def K12:List Tok:=[.p .byte, .p .byte]
def B12:Body K12:=fun x K=>Ml_FnScriptRun x.1 x.2.1 (fun r1=>K (.bool r1) [])
def G12:=rdG K12 B12
noncomputable def H12_1000011:=mkH [(6, .x),(9, .x),(13, .bl),(14, .pc [.own .int, .own .int, .own .int, .own .int, .x, .own .int, .x, .own .op, .x, .bl]),(15, .bl)] [.s, .s, .b, .Q 0, .b, .bC true, .L 1, .L 2, .L 3, .L 4, .i .i64, .L 5, .i .i64, .L 6, .i .i64, .b, .E, .bL true .int, .bL true .int, .bL true .int, .bL true .int, .bL true .int, .bL true .op]
noncomputable def H12:List (Nat×LH):=[(1000011,H12_1000011)]
def W12:List (Nat×List (Nat×List Nat)):=[]
def Γ12:List (Nat×Con):=[(33,Uc33),(24,Uc24),(25,Uc25),(26,Uc26),(14,Uc14),(29,Uc29),(34,Uc34),(17,Uc17),(35,Uc35)]
theorem e12:Eqn PP 82 Γ12 H12 W12 (bodyOf Tryz.f12) [.tmp 4] [.bl] [] K12 B12:=fun _ _ K=>by kernel_rfl
theorem s12:CSound PP 12 G12:=fun_sk mixed Tryz.func12 (by decide) (by kernel_rfl) Tryz.ntmps12 Tryz.results12 (.cons u33 (.cons u24 (.cons u25 (.cons u26 (.cons u14 (.cons u29 (.cons u34 (.cons u17 (.cons u35 (GSound.nil)))))))))) e12
def Uc12:=useC [.pure .byte, .pure .byte] G12
theorem u12:CSound PP 12 Uc12:=useC_ok s12
end Go.Ab
