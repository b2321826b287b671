/- What is proved here: that the typed models of functions of the translated program are sound. -/
import Derived.Test.YtihenoikdpnonaaGreatDoorGM
import Derived.Test.YtihenoikdpnonaaGreatDoorProg
import Derived.KernelRfl
import Derived.Laws.Externs
import Derived.Lib.Builder
import Derived.Lib.UnsafeStr
import Derived.Shelf.Strconv.AtoiAll
import Derived.Shelf.Strconv.Itoa3
import Derived.Shelf.Strings.Cut
import Derived.Shelf.Strings.SlTrimAscii
import Derived.Shelf.Strings.Split
import Derived.Test.YtihenoikdpnonaaGreatDoorT21
import Derived.Test.YtihenoikdpnonaaGreatDoorT23
import Derived.WalkKit
import Derived.Test.YtihenoikdpnonaaGreatDoorLay
namespace Go.Ab
set_option linter.unusedVariables false
open Go.Proofs
noncomputable abbrev PP:Program:=Tryz.prog
theorem mixed:PP.follows .mixedOrders=true:=by kernel_rfl
def K224:List Tok:=[.i .u64, .i .u64]
def B224:Body K224:=fun x K=>M_math_bits_Mul64 x.1 x.2.1 (fun r1 r2=>K (.tup [.int .u64 r1, .int .u64 r2]) [])
def G224:=rdG K224 B224
def H224:List (Nat×LH):=[]
def W224:List (Nat×List (Nat×List Nat)):=[]
def Γ224:List (Nat×Con):=[]
theorem e224:Eqn PP 51 Γ224 H224 W224 (bodyOf Tryz.f224) [.tmp 4, .tmp 5] [.x, .x] [] K224 B224:=fun _ _ K=>by kernel_rfl
theorem s224:CSound PP 224 G224:=fun_sk mixed Tryz.func224 (by decide) (by kernel_rfl) Tryz.ntmps224 Tryz.results224 (GSound.nil) e224
def Uc224:=useC [.x, .x] G224
theorem u224:CSound PP 224 Uc224:=useC_ok s224
def K179:List Tok:=[.i .u64, .i .u64]
def B179:Body K179:=fun x K=>M_math_bits_Mul x.1 x.2.1 (fun r1 r2=>K (.tup [.int .u64 r1, .int .u64 r2]) [])
def G179:=rdG K179 B179
def H179:List (Nat×LH):=[]
def W179:List (Nat×List (Nat×List Nat)):=[]
def Γ179:List (Nat×Con):=[(224,Uc224)]
theorem e179:Eqn PP 30 Γ179 H179 W179 (bodyOf Tryz.f179) [.tmp 4, .tmp 5] [.x, .x] [] K179 B179:=fun _ _ K=>by kernel_rfl
theorem s179:CSound PP 179 G179:=fun_sk mixed Tryz.func179 (by decide) (by kernel_rfl) Tryz.ntmps179 Tryz.results179 (.cons u224 (GSound.nil)) e179
def Uc179:=useC [.x, .x] G179
theorem u179:CSound PP 179 Uc179:=useC_ok s179
def K126:List Tok:=[.p .int, .i .i64]
def B126:Body K126:=fun x K=>M_Repeat_int x.1 x.2.1 (fun r1=>K (.sl 0) [⟨true, .list .int r1⟩])
def G126:=rdG K126 B126
noncomputable def H126_0:=mkH [(7, .own .int),(8, .x)] [.L 0, .i .i64, .bL true .int]
noncomputable def H126:List (Nat×LH):=[(0,H126_0)]
def W126:List (Nat×List (Nat×List Nat)):=[(2000009,[(0,[3,6])])]
def Γ126:List (Nat×Con):=[(179,Uc179)]
theorem e126:Eqn PP 48 Γ126 H126 W126 (bodyOf Tryz.f126) [.tmp 4] [.own .int] [] K126 B126:=fun _ _ K=>by kernel_rfl
theorem s126:CSound PP 126 G126:=fun_sk mixed Tryz.func126 (by decide) (by kernel_rfl) Tryz.ntmps126 Tryz.results126 (.cons u179 (GSound.nil)) e126
def Uc126:=useC [.pure .int, .x] G126
theorem u126:CSound PP 126 Uc126:=useC_ok s126
def K61:List Tok:=[.i .i64, .i .i64]
def B61:Body K61:=fun x K=>Mi_NewHeap x.1 x.2.1 (fun r1 r2 r3 r4=>K (.tup [.agg [.sl 0, .sl 1, .sl 2], .bool r1]) [⟨true, .list .int r2⟩,⟨true, .list .int r3⟩,⟨true, .list .int r4⟩])
def G61:=rdG K61 B61
def H61:List (Nat×LH):=[]
def W61:List (Nat×List (Nat×List Nat)):=[]
def Γ61:List (Nat×Con):=[(126,Uc126)]
theorem e61:Eqn PP 31 Γ61 H61 W61 (bodyOf Tryz.f61) [.cell 4 31, .tmp 5] [.ag [.own .int, .own .int, .own .int], .bl] [] K61 B61:=fun _ _ K=>by kernel_rfl
theorem s61:CSound PP 61 G61:=fun_sk mixed Tryz.func61 (by decide) (by kernel_rfl) Tryz.ntmps61 Tryz.results61 (.cons u126 (GSound.nil)) e61
def Uc61:=useC [.x, .x] G61
theorem u61:CSound PP 61 Uc61:=useC_ok s61
def K20:List Tok:=[.i .i64, .i .i64]
def B20:Body K20:=fun x K=>Mi_NewStore x.1 x.2.1 (fun r1 r2 r3 r4 r5=>K (.tup [.agg [.sl 0, .sl 1, .sl 2, .sl 3], .bool r1]) [⟨true, .list .int r2⟩,⟨true, .list .int r3⟩,⟨true, .list .int r4⟩,⟨true, .list .int r5⟩])
def G20:=rdG K20 B20
noncomputable def H20_0:=mkH [(4, .pc [.own .int, .own .int, .own .int, .own .int]),(8, .pc [.own .int, .own .int, .own .int, .own .int]),(21, .x),(22, .x)] [.Q 0, .Q 1, .i .i64, .i .i64, .bC true, .L 2, .L 3, .L 4, .L 5, .E, .bC true, .L 6, .L 7, .L 8, .L 9, .E, .bL true .int, .bL true .int, .bL true .int, .bL true .int, .bL true .int, .bL true .int, .bL true .int, .bL true .int]
noncomputable def H20:List (Nat×LH):=[(0,H20_0)]
def W20:List (Nat×List (Nat×List Nat)):=[]
def Γ20:List (Nat×Con):=[(61,Uc61)]
theorem e20:Eqn PP 33 Γ20 H20 W20 (bodyOf Tryz.f20) [.cell 4 33, .tmp 5] [.ag [.own .int, .own .int, .own .int, .own .int], .bl] [] K20 B20:=fun _ _ K=>by kernel_rfl
theorem s20:CSound PP 20 G20:=fun_sk mixed Tryz.func20 (by decide) (by kernel_rfl) Tryz.ntmps20 Tryz.results20 (.cons u61 (GSound.nil)) e20
def Uc20:=useC [.x, .x] G20
theorem u20:CSound PP 20 Uc20:=useC_ok s20
def K79:List Tok:=[.A, .p .int, .p .int, .p .int, .E]
def B79:Body K79:=fun x K=>Mi_HeapValid x.1 x.2.1 x.2.2.1 (fun r1=>K (.bool r1) [])
def G79:=rdG K79 B79
noncomputable def H79_0:=mkH [(1, .pc [.pure .int, .pure .int, .pure .int]),(44, .own .ints),(45, .x),(46, .x)] [.Q 0, .L 1, .i .i64, .i .i64, .bC true, .p .int, .p .int, .p .int, .E, .bL true .ints]
noncomputable def H79_2:=mkH [(1, .pc [.pure .int, .pure .int, .pure .int]),(44, .own .ints),(45, .x),(46, .x),(50, .pure .int),(51, .x),(52, .x)] [.Q 0, .L 1, .i .i64, .i .i64, .p .int, .i .i64, .i .i64, .bC true, .p .int, .p .int, .p .int, .E, .bL true .ints]
noncomputable def H79:List (Nat×LH):=[(0,H79_0),(2,H79_2)]
def W79:List (Nat×List (Nat×List Nat)):=[]
def Γ79:List (Nat×Con):=[]
theorem e79:Eqn PP 67 Γ79 H79 W79 (bodyOf Tryz.f79) [.tmp 2] [.bl] [] K79 B79:=fun _ _ _ K=>by kernel_rfl
theorem s79:CSound PP 79 G79:=fun_sk mixed Tryz.func79 (by decide) (by kernel_rfl) Tryz.ntmps79 Tryz.results79 (GSound.nil) e79
def Uc79:=useC [.ag [.pure .int, .pure .int, .pure .int]] G79
theorem u79:CSound PP 79 Uc79:=useC_ok s79
def K205:List Tok:=[.T .nil, .i .i64]
def B205:Body K205:=fun x K=>M_Grow_int x.1 (fun r1=>K (.sl 0) [⟨true, .list .int r1⟩])
def G205:=rdG K205 B205
def H205:List (Nat×LH):=[]
def W205:List (Nat×List (Nat×List Nat)):=[]
def Γ205:List (Nat×Con):=[]
theorem e205:Eqn PP 27 Γ205 H205 W205 (bodyOf Tryz.f205) [.tmp 4] [.own .int] [] K205 B205:=fun _ K=>by kernel_rfl
theorem s205:CSound PP 205 G205:=fun_sk mixed Tryz.func205 (by decide) (by kernel_rfl) Tryz.ntmps205 Tryz.results205 (GSound.nil) e205
def Uc205:=useC [.x, .x] G205
theorem u205:CSound PP 205 Uc205:=useC_ok s205
def K159:List Tok:=[.p .ints]
def B159:Body K159:=fun x K=>M_Concat_int x.1 (fun r1=>K (.sl 0) [⟨true, .list .int r1⟩])
def G159:=rdG K159 B159
noncomputable def H159_0:=mkH [(0, .pure .ints),(3, .x),(9, .pure .ints),(10, .x),(11, .x)] [.p .ints, .i .i64, .p .ints, .i .i64, .i .i64]
noncomputable def H159_2:=mkH [(6, .own .int),(25, .pure .ints),(26, .x),(27, .x)] [.L 0, .p .ints, .i .i64, .i .i64, .bL true .int]
noncomputable def H159:List (Nat×LH):=[(0,H159_0),(2,H159_2)]
def W159:List (Nat×List (Nat×List Nat)):=[]
def Γ159:List (Nat×Con):=[(205,Uc205)]
theorem e159:Eqn PP 36 Γ159 H159 W159 (bodyOf Tryz.f159) [.tmp 2] [.own .int] [] K159 B159:=fun _ K=>by kernel_rfl
theorem s159:CSound PP 159 G159:=fun_sk mixed Tryz.func159 (by decide) (by kernel_rfl) Tryz.ntmps159 Tryz.results159 (.cons u205 (GSound.nil)) e159
def Uc159:=useC [.pure .ints] G159
theorem u159:CSound PP 159 Uc159:=useC_ok s159
def K105:List Tok:=[.A, .p .int, .p .int, .p .int, .E]
def B105:Body K105:=fun x K=>Mi_CountsOf x.1 x.2.1 x.2.2.1 (fun r1=>K (.sl 0) [⟨true, .list .int r1⟩])
def G105:=rdG K105 B105
noncomputable def H105_0:=mkH [(3, .own .int),(20, .own .int),(21, .x),(22, .x)] [.L 0, .L 1, .i .i64, .i .i64, .bL true .int, .bL true .int]
noncomputable def H105:List (Nat×LH):=[(0,H105_0)]
def W105:List (Nat×List (Nat×List Nat)):=[]
def Γ105:List (Nat×Con):=[(79,Uc79),(159,Uc159)]
theorem e105:Eqn PP 36 Γ105 H105 W105 (bodyOf Tryz.f105) [.tmp 2] [.own .int] [] K105 B105:=fun _ _ _ K=>by kernel_rfl
theorem s105:CSound PP 105 G105:=fun_sk mixed Tryz.func105 (by decide) (by kernel_rfl) Tryz.ntmps105 Tryz.results105 (.cons u79 (.cons u159 (GSound.nil))) e105
def Uc105:=useC [.ag [.pure .int, .pure .int, .pure .int]] G105
theorem u105:CSound PP 105 Uc105:=useC_ok s105
def K82:List Tok:=[.p .int, .i .i64]
def B82:Body K82:=fun x K=>M_Index_int x.1 x.2.1 (fun r1=>K (.int .i64 r1) [])
def G82:=rdG K82 B82
noncomputable def H82_0:=mkH [(0, .pure .int),(1, .x),(7, .x),(8, .x)] [.p .int, .i .i64, .i .i64, .i .i64]
noncomputable def H82:List (Nat×LH):=[(0,H82_0)]
def W82:List (Nat×List (Nat×List Nat)):=[]
def Γ82:List (Nat×Con):=[]
theorem e82:Eqn PP 19 Γ82 H82 W82 (bodyOf Tryz.f82) [.tmp 4] [.x] [] K82 B82:=fun _ _ K=>by kernel_rfl
theorem s82:CSound PP 82 G82:=fun_sk mixed Tryz.func82 (by decide) (by kernel_rfl) Tryz.ntmps82 Tryz.results82 (GSound.nil) e82
def Uc82:=useC [.pure .int, .x] G82
theorem u82:CSound PP 82 Uc82:=useC_ok s82
def K90:List Tok:=[.p .int, .i .i64]
def B90:Body K90:=fun x K=>M_Contains_int x.1 x.2.1 (fun r1=>K (.bool r1) [])
def G90:=rdG K90 B90
def H90:List (Nat×LH):=[]
def W90:List (Nat×List (Nat×List Nat)):=[]
def Γ90:List (Nat×Con):=[(82,Uc82)]
theorem e90:Eqn PP 9 Γ90 H90 W90 (bodyOf Tryz.f90) [.tmp 4] [.bl] [] K90 B90:=fun _ _ K=>by kernel_rfl
theorem s90:CSound PP 90 G90:=fun_sk mixed Tryz.func90 (by decide) (by kernel_rfl) Tryz.ntmps90 Tryz.results90 (.cons u82 (GSound.nil)) e90
def Uc90:=useC [.pure .int, .x] G90
theorem u90:CSound PP 90 Uc90:=useC_ok s90
def K65:List Tok:=[.A, .p .int, .p .int, .p .int, .p .int, .E]
def B65:Body K65:=fun x K=>Mi_StoreValid x.1 x.2.1 x.2.2.1 x.2.2.2.1 (fun r1=>K (.bool r1) [])
def G65:=rdG K65 B65
noncomputable def H65_0:=mkH [(1, .pc [.pure .int, .pure .int, .pure .int, .pure .int]),(3, .own .int),(14, .pure .int),(15, .x),(16, .x)] [.Q 0, .L 1, .p .int, .i .i64, .i .i64, .bC true, .p .int, .p .int, .p .int, .p .int, .E, .bL true .int]
noncomputable def H65:List (Nat×LH):=[(0,H65_0)]
def W65:List (Nat×List (Nat×List Nat)):=[]
def Γ65:List (Nat×Con):=[(79,Uc79),(105,Uc105),(90,Uc90)]
theorem e65:Eqn PP 63 Γ65 H65 W65 (bodyOf Tryz.f65) [.tmp 2] [.bl] [] K65 B65:=fun _ _ _ _ K=>by kernel_rfl
theorem s65:CSound PP 65 G65:=fun_sk mixed Tryz.func65 (by decide) (by kernel_rfl) Tryz.ntmps65 Tryz.results65 (.cons u79 (.cons u105 (.cons u90 (GSound.nil)))) e65
def Uc65:=useC [.ag [.pure .int, .pure .int, .pure .int, .pure .int]] G65
theorem u65:CSound PP 65 Uc65:=useC_ok s65
def K84:List Tok:=[.A, .p .int, .p .int, .p .int, .p .int, .E]
def B84:Body K84:=fun x K=>Mi_NewGc x.1 x.2.1 x.2.2.1 x.2.2.2.1 (fun r1 r2 r3 r4=>K (.tup [.agg [.int .i64 r1, .sl 0, .int .i64 r2], .bool r3]) [⟨true, .list .int r4⟩])
def G84:=rdG K84 B84
def H84:List (Nat×LH):=[]
def W84:List (Nat×List (Nat×List Nat)):=[]
def Γ84:List (Nat×Con):=[(65,Uc65)]
theorem e84:Eqn PP 14 Γ84 H84 W84 (bodyOf Tryz.f84) [.cell 2 54, .tmp 3] [.ag [.x, .own .int, .x], .bl] [] K84 B84:=fun _ _ _ _ K=>by kernel_rfl
theorem s84:CSound PP 84 G84:=fun_sk mixed Tryz.func84 (by decide) (by kernel_rfl) Tryz.ntmps84 Tryz.results84 (.cons u65 (GSound.nil)) e84
def Uc84:=useC [.ag [.pure .int, .pure .int, .pure .int, .pure .int]] G84
theorem u84:CSound PP 84 Uc84:=useC_ok s84
def K68:List Tok:=[.A, .i .i64, .i .i64, .i .i64, .E, .i .i64]
def B68:Body K68:=fun x K=>Mi_OpValid x.1 x.2.1 x.2.2.1 x.2.2.2.1 (fun r1=>K (.bool r1) [])
def G68:=rdG K68 B68
def H68:List (Nat×LH):=[]
def W68:List (Nat×List (Nat×List Nat)):=[]
def Γ68:List (Nat×Con):=[]
theorem e68:Eqn PP 54 Γ68 H68 W68 (bodyOf Tryz.f68) [.tmp 4] [.bl] [] K68 B68:=fun _ _ _ _ K=>by kernel_rfl
theorem s68:CSound PP 68 G68:=fun_sk mixed Tryz.func68 (by decide) (by kernel_rfl) Tryz.ntmps68 Tryz.results68 (GSound.nil) e68
def Uc68:=useC [.ag [.x, .x, .x], .x] G68
theorem u68:CSound PP 68 Uc68:=useC_ok s68
def K77:List Tok:=[.p .op, .i .i64]
def B77:Body K77:=fun x K=>Mi_opsOk x.1 x.2.1 (fun r1=>K (.bool r1) [])
def G77:=rdG K77 B77
noncomputable def H77_0:=mkH [(0, .pure .op),(1, .x),(7, .pure .op),(8, .x),(9, .x)] [.p .op, .i .i64, .p .op, .i .i64, .i .i64]
noncomputable def H77:List (Nat×LH):=[(0,H77_0)]
def W77:List (Nat×List (Nat×List Nat)):=[]
def Γ77:List (Nat×Con):=[(68,Uc68)]
theorem e77:Eqn PP 21 Γ77 H77 W77 (bodyOf Tryz.f77) [.tmp 4] [.bl] [] K77 B77:=fun _ _ K=>by kernel_rfl
theorem s77:CSound PP 77 G77:=fun_sk mixed Tryz.func77 (by decide) (by kernel_rfl) Tryz.ntmps77 Tryz.results77 (.cons u68 (GSound.nil)) e77
def Uc77:=useC [.pure .op, .x] G77
theorem u77:CSound PP 77 Uc77:=useC_ok s77
def K130:List Tok:=[.p .int]
def B130:Body K130:=fun x K=>M_Clone_int x.1 (fun r1=>K (.sl 0) [⟨true, .list .int r1⟩])
def G130:=rdG K130 B130
def H130:List (Nat×LH):=[]
def W130:List (Nat×List (Nat×List Nat)):=[]
def Γ130:List (Nat×Con):=[]
theorem e130:Eqn PP 8 Γ130 H130 W130 (bodyOf Tryz.f130) [.tmp 2] [.own .int] [] K130 B130:=fun _ K=>by kernel_rfl
theorem s130:CSound PP 130 G130:=fun_sk mixed Tryz.func130 (by decide) (by kernel_rfl) Tryz.ntmps130 Tryz.results130 (GSound.nil) e130
def Uc130:=useC [.pure .int] G130
theorem u130:CSound PP 130 Uc130:=useC_ok s130
def K129:List Tok:=[.A, .p .int, .p .int, .p .int, .E]
def B129:Body K129:=fun x K=>Mi_copied x.1 x.2.1 x.2.2.1 (fun r1 r2 r3=>K (.agg [.sl 0, .sl 1, .sl 2]) [⟨true, .list .int r1⟩,⟨true, .list .int r2⟩,⟨true, .list .int r3⟩])
def G129:=rdG K129 B129
def H129:List (Nat×LH):=[]
def W129:List (Nat×List (Nat×List Nat)):=[]
def Γ129:List (Nat×Con):=[(130,Uc130)]
theorem e129:Eqn PP 13 Γ129 H129 W129 (bodyOf Tryz.f129) [.cell 2 31] [.ag [.own .int, .own .int, .own .int]] [] K129 B129:=fun _ _ _ K=>by kernel_rfl
theorem s129:CSound PP 129 G129:=fun_sk mixed Tryz.func129 (by decide) (by kernel_rfl) Tryz.ntmps129 Tryz.results129 (.cons u130 (GSound.nil)) e129
def Uc129:=useC [.ag [.pure .int, .pure .int, .pure .int]] G129
theorem u129:CSound PP 129 Uc129:=useC_ok s129
def K74:List Tok:=[.A, .p .int, .p .int, .p .int, .p .int, .E]
def B74:Body K74:=fun x K=>Mi_again x.1 x.2.1 x.2.2.1 x.2.2.2.1 (fun r1 r2 r3 r4=>K (.agg [.sl 0, .sl 1, .sl 2, .sl 3]) [⟨true, .list .int r1⟩,⟨true, .list .int r2⟩,⟨true, .list .int r3⟩,⟨true, .list .int r4⟩])
def G74:=rdG K74 B74
def H74:List (Nat×LH):=[]
def W74:List (Nat×List (Nat×List Nat)):=[]
def Γ74:List (Nat×Con):=[(129,Uc129),(130,Uc130)]
theorem e74:Eqn PP 10 Γ74 H74 W74 (bodyOf Tryz.f74) [.cell 2 33] [.ag [.own .int, .own .int, .own .int, .own .int]] [] K74 B74:=fun _ _ _ _ K=>by kernel_rfl
theorem s74:CSound PP 74 G74:=fun_sk mixed Tryz.func74 (by decide) (by kernel_rfl) Tryz.ntmps74 Tryz.results74 (.cons u129 (.cons u130 (GSound.nil))) e74
def Uc74:=useC [.ag [.pure .int, .pure .int, .pure .int, .pure .int]] G74
theorem u74:CSound PP 74 Uc74:=useC_ok s74
def K85:List Tok:=[.p .op]
def B85:Body K85:=fun x K=>M_Clone_Op x.1 (fun r1=>K (.sl 0) [⟨true, .list .op r1⟩])
def G85:=rdG K85 B85
def H85:List (Nat×LH):=[]
def W85:List (Nat×List (Nat×List Nat)):=[]
def Γ85:List (Nat×Con):=[]
theorem e85:Eqn PP 8 Γ85 H85 W85 (bodyOf Tryz.f85) [.tmp 2] [.own .op] [] K85 B85:=fun _ K=>by kernel_rfl
theorem s85:CSound PP 85 G85:=fun_sk mixed Tryz.func85 (by decide) (by kernel_rfl) Tryz.ntmps85 Tryz.results85 (GSound.nil) e85
def Uc85:=useC [.pure .op] G85
theorem u85:CSound PP 85 Uc85:=useC_ok s85
def K34:List Tok:=[.A, .p .int, .p .int, .p .int, .p .int, .E, .p .op]
def B34:Body K34:=fun x K=>Mi_NewBoth x.1 x.2.1 x.2.2.1 x.2.2.2.1 x.2.2.2.2.1 (fun r1 r2 r3 r4 r5 r6 r7 r8 r9 r10 r11=>K (.tup [.agg [.sl 0, .sl 1, .sl 2, .sl 3, .int .i64 r1, .sl 4, .int .i64 r2, .sl 5, .int .i64 r3, .bool r4], .bool r5]) [⟨true, .list .int r6⟩,⟨true, .list .int r7⟩,⟨true, .list .int r8⟩,⟨true, .list .int r9⟩,⟨true, .list .int r10⟩,⟨true, .list .op r11⟩])
def G34:=rdG K34 B34
def H34:List (Nat×LH):=[]
def W34:List (Nat×List (Nat×List Nat)):=[]
def Γ34:List (Nat×Con):=[(84,Uc84),(77,Uc77),(74,Uc74),(85,Uc85)]
theorem e34:Eqn PP 31 Γ34 H34 W34 (bodyOf Tryz.f34) [.cell 4 56, .tmp 5] [.ag [.own .int, .own .int, .own .int, .own .int, .x, .own .int, .x, .own .op, .x, .bl], .bl] [] K34 B34:=fun _ _ _ _ _ K=>by kernel_rfl
theorem s34:CSound PP 34 G34:=fun_sk mixed Tryz.func34 (by decide) (by kernel_rfl) Tryz.ntmps34 Tryz.results34 (.cons u84 (.cons u77 (.cons u74 (.cons u85 (GSound.nil))))) e34
def Uc34:=useC [.ag [.pure .int, .pure .int, .pure .int, .pure .int], .pure .op] G34
theorem u34:CSound PP 34 Uc34:=useC_ok s34
def K41:List Tok:=[.Q 0, .i .i64, .i .i64, .bC true, .L 1, .L 2, .L 3, .L 4, .i .i64, .L 5, .i .i64, .L 6, .i .i64, .b, .b, .S 0 11 73, .B 7, .E, .bL true .int, .bL true .int, .bL true .int, .bL true .int, .bL true .int, .bL true .op, .bL true .byte]
def B41:Body K41:=fun x K=>Mi_desk_begin x.1 x.2.1 x.2.2.1 x.2.2.2.1 x.2.2.2.2.1 x.2.2.2.2.2.1 x.2.2.2.2.2.2.1 x.2.2.2.2.2.2.2.1 x.2.2.2.2.2.2.2.2.1 x.2.2.2.2.2.2.2.2.2.1 x.2.2.2.2.2.2.2.2.2.2.1 x.2.2.2.2.2.2.2.2.2.2.2.1 x.2.2.2.2.2.2.2.2.2.2.2.2.1 x.2.2.2.2.2.2.2.2.2.2.2.2.2.1 (fun r1 r2 r3 r4 r5 r6 r7 r8 r9 r10 r11 r12=>K (.bool r1) [⟨true, .cells [.sl 8, .sl 9, .sl 10, .sl 11, .int .i64 r2, .sl 12, .int .i64 r3, .sl 13, .int .i64 r4, .bool r5, .bool r6, .slf 0 11 73, .sb 7]⟩,⟨true, .dead⟩,⟨true, .dead⟩,⟨true, .dead⟩,⟨true, .dead⟩,⟨true, .dead⟩,⟨true, .dead⟩,⟨true, .list .byte x.2.2.2.2.2.2.2.2.2.2.2.2.2.1⟩,⟨true, .list .int r7⟩,⟨true, .list .int r8⟩,⟨true, .list .int r9⟩,⟨true, .list .int r10⟩,⟨true, .list .int r11⟩,⟨true, .list .op r12⟩])
def G41:=rdG K41 B41
def H41:List (Nat×LH):=[]
def W41:List (Nat×List (Nat×List Nat)):=[]
def Γ41:List (Nat×Con):=[(20,Uc20),(34,Uc34)]
theorem e41:Eqn PP 28 Γ41 H41 W41 (bodyOf Tryz.f41) [.tmp 6] [.bl] [1,2,3,4,5,6] K41 B41:=fun _ _ _ _ _ _ _ _ _ _ _ _ _ _ K=>by kernel_rfl
theorem s41:CSound PP 41 G41:=fun_sk mixed Tryz.func41 (by decide) (by kernel_rfl) Tryz.ntmps41 Tryz.results41 (.cons u20 (.cons u34 (GSound.nil))) e41
def Uc41:=useC [.pc [.own .int, .own .int, .own .int, .own .int, .x, .own .int, .x, .own .op, .x, .bl, .bl, .x, .x], .x, .x] G41
theorem u41:CSound PP 41 Uc41:=useC_ok s41
theorem enters42:Enters PP 42:=⟨_,Tryz.func42,by decide,rfl⟩
def G42:Con:=conSplit M_strings_Split
theorem s42:CSound PP 42 G42:=conSplit_ok (g:=Tryz.lays146_ren.g 1) (pre:=fun a b=>a.length<4294967281∧1≤b.length) (F:=fun s sep=>Lib.splitB sep 0 (Lib.countB s sep) s) (by decide) enters42 fun s sep m w h hm=>by
 have hc:=Go.Proofs.Any.strings_Split Tryz.lays146 (by kernel_rfl) s sep m w (by simpa using h.1) hm (by simpa using h.2)
 have hlen:=Lib.splitB_all sep (by simpa using h.2) 0 _ s rfl
 change Calls PP 42 _ _ _ at hc
 rw[hlen]
 exact hc
def Uc42:=useC [.x, .x] G42
theorem u42:CSound PP 42 Uc42:=useC_ok s42
def K43:List Tok:=[.P 0 11, .bC true, .L 1, .L 2, .L 3, .L 4, .i .i64, .L 5, .i .i64, .L 6, .i .i64, .b, .b, .S 0 11 73, .B 7, .E, .bL true .int, .bL true .int, .bL true .int, .bL true .int, .bL true .int, .bL true .op, .bL true .byte]
def B43:Body K43:=fun x K=>Ms_Builder_Len x.1 x.2.1 x.2.2.1 x.2.2.2.1 x.2.2.2.2.1 x.2.2.2.2.2.1 x.2.2.2.2.2.2.1 x.2.2.2.2.2.2.2.1 x.2.2.2.2.2.2.2.2.1 x.2.2.2.2.2.2.2.2.2.1 x.2.2.2.2.2.2.2.2.2.2.1 x.2.2.2.2.2.2.2.2.2.2.2.1 (fun r1=>K (.int .i64 r1) [⟨true, .cells [.sl 1, .sl 2, .sl 3, .sl 4, .int .i64 x.1, .sl 5, .int .i64 x.2.1, .sl 6, .int .i64 x.2.2.1, .bool x.2.2.2.1, .bool x.2.2.2.2.1, .slf 0 11 73, .sb 7]⟩,⟨true, .list .int x.2.2.2.2.2.1⟩,⟨true, .list .int x.2.2.2.2.2.2.1⟩,⟨true, .list .int x.2.2.2.2.2.2.2.1⟩,⟨true, .list .int x.2.2.2.2.2.2.2.2.1⟩,⟨true, .list .int x.2.2.2.2.2.2.2.2.2.1⟩,⟨true, .list .op x.2.2.2.2.2.2.2.2.2.2.1⟩,⟨true, .list .byte x.2.2.2.2.2.2.2.2.2.2.2.1⟩])
def G43:=rdG K43 B43
def H43:List (Nat×LH):=[]
def W43:List (Nat×List (Nat×List Nat)):=[]
def Γ43:List (Nat×Con):=[]
theorem e43:Eqn PP 8 Γ43 H43 W43 (bodyOf Tryz.f43) [.tmp 2] [.x] [] K43 B43:=fun _ _ _ _ _ _ _ _ _ _ _ _ K=>by kernel_rfl
theorem s43:CSound PP 43 G43:=fun_sk mixed Tryz.func43 (by decide) (by kernel_rfl) Tryz.ntmps43 Tryz.results43 (GSound.nil) e43
def Uc43:=useC [.x] G43
theorem u43:CSound PP 43 Uc43:=useC_ok s43
theorem enters152:Enters PP 152:=⟨_,Tryz.func152,by decide,rfl⟩
def G152:Con:=conCC 73 11 13
theorem lies152:∀k,liesAt PP PP.depth 73 (k+1) 11 71 1=true:=fun k=>by kernel_rfl
set_option maxHeartbeats 1000000 in
set_option maxRecDepth 100000 in
theorem s152:CSound PP 152 G152:=conCC_ok enters152 fun b n w hsh hS hfz=>by
 obtain⟨j,hj,hjs⟩:=Option.map_eq_some_iff.1 (show(PP.info? 71).map (·.size)=some 2 by kernel_rfl)
 refine⟨fun h0=> ?_,fun h0=> ?_⟩
 ·go_enter Tryz.func152,Tryz.ntmps152
  go_wp2
  rw[Go.Lib.run_to_unsafe w ⟨b,11,none⟩ Tryz.underlying69 Tryz.underlying208 hj (by rw[hjs];decide) hsh (by show 11<n;omega)]
  simp only[Result.andThen]
  rw[Oper.upon_value]
  go_wp2
  rw[run_callFunc_extern Tryz.func197 (by kernel_rfl) (by kernel_rfl) (by kernel_rfl) (e:=Extern.AbiNoEscape.same) (by kernel_rfl)]
  rw[Go.Lib.run_noEscape]
  simp only[Result.andThen]
  rw[Oper.upon_value]
  go_wp2
  rw[Go.Lib.run_from_unsafe w ⟨b,11,none⟩ Tryz.underlying208 Tryz.underlying69 hj hsh (by
   rw[show PP.cellsOf 73=13 by kernel_rfl]
   obtain⟨k,hk⟩:∃k,n/13=k+1:=⟨n/13-1,by omega⟩
   rw[hk];exact lies152 k)]
  simp only[Result.andThen]
  rw[Oper.upon_value]
  go_wp2
  go_end0
  exact⟨rfl,rfl⟩
 ·go_enter Tryz.func152,Tryz.ntmps152
  go_wp2
  rw[Go.Lib.run_neq_ptr_same w _ Tryz.underlying69 hj]
  go_wp2
  go_end0
  exact⟨rfl,rfl⟩
def Uc152:=useC [.x] G152
theorem u152:CSound PP 152 Uc152:=useC_ok s152
def K98:List Tok:=[.P 0 11, .s, .bC true, .L 1, .L 2, .L 3, .L 4, .i .i64, .L 5, .i .i64, .L 6, .i .i64, .b, .b, .S 0 11 73, .B 7, .E, .bL true .int, .bL true .int, .bL true .int, .bL true .int, .bL true .int, .bL true .op, .bL true .byte]
def B98:Body K98:=fun x K=>Ms_Builder_WriteString x.1 x.2.1 x.2.2.1 x.2.2.2.1 x.2.2.2.2.1 x.2.2.2.2.2.1 x.2.2.2.2.2.2.1 x.2.2.2.2.2.2.2.1 x.2.2.2.2.2.2.2.2.1 x.2.2.2.2.2.2.2.2.2.1 x.2.2.2.2.2.2.2.2.2.2.1 x.2.2.2.2.2.2.2.2.2.2.2.1 x.2.2.2.2.2.2.2.2.2.2.2.2.1 (fun r1 r2=>K (.tup [.int .i64 r1, .nili]) [⟨true, .cells [.sl 1, .sl 2, .sl 3, .sl 4, .int .i64 x.2.1, .sl 5, .int .i64 x.2.2.1, .sl 6, .int .i64 x.2.2.2.1, .bool x.2.2.2.2.1, .bool x.2.2.2.2.2.1, .slf 0 11 73, .sb 8]⟩,⟨true, .list .int x.2.2.2.2.2.2.1⟩,⟨true, .list .int x.2.2.2.2.2.2.2.1⟩,⟨true, .list .int x.2.2.2.2.2.2.2.2.1⟩,⟨true, .list .int x.2.2.2.2.2.2.2.2.2.1⟩,⟨true, .list .int x.2.2.2.2.2.2.2.2.2.2.1⟩,⟨true, .list .op x.2.2.2.2.2.2.2.2.2.2.2.1⟩,⟨true, .dead⟩,⟨true, .list .byte r2⟩])
def G98:=rdG K98 B98
def H98:List (Nat×LH):=[]
def W98:List (Nat×List (Nat×List Nat)):=[]
def Γ98:List (Nat×Con):=[(152,Uc152)]
theorem e98:Eqn PP 19 Γ98 H98 W98 (bodyOf Tryz.f98) [.tmp 4, .tmp 5] [.x, .x] [] K98 B98:=fun _ _ _ _ _ _ _ _ _ _ _ _ _ K=>by kernel_rfl
theorem s98:CSound PP 98 G98:=fun_sk mixed Tryz.func98 (by decide) (by kernel_rfl) Tryz.ntmps98 Tryz.results98 (.cons u152 (GSound.nil)) e98
def Uc98:=useC [.x, .x] G98
theorem u98:CSound PP 98 Uc98:=useC_ok s98
def K44:List Tok:=[.Q 0, .s, .bC true, .L 1, .L 2, .L 3, .L 4, .i .i64, .L 5, .i .i64, .L 6, .i .i64, .b, .b, .S 0 11 73, .B 7, .E, .bL true .int, .bL true .int, .bL true .int, .bL true .int, .bL true .int, .bL true .op, .bL true .byte]
def B44:Body K44:=fun x K=>Mi_desk_tell x.1 x.2.1 x.2.2.1 x.2.2.2.1 x.2.2.2.2.1 x.2.2.2.2.2.1 x.2.2.2.2.2.2.1 x.2.2.2.2.2.2.2.1 x.2.2.2.2.2.2.2.2.1 x.2.2.2.2.2.2.2.2.2.1 x.2.2.2.2.2.2.2.2.2.2.1 x.2.2.2.2.2.2.2.2.2.2.2.1 x.2.2.2.2.2.2.2.2.2.2.2.2.1 (fun r1=>K (.tup []) [⟨true, .cells [.sl 1, .sl 2, .sl 3, .sl 4, .int .i64 x.2.1, .sl 5, .int .i64 x.2.2.1, .sl 6, .int .i64 x.2.2.2.1, .bool x.2.2.2.2.1, .bool x.2.2.2.2.2.1, .slf 0 11 73, .sb 8]⟩,⟨true, .list .int x.2.2.2.2.2.2.1⟩,⟨true, .list .int x.2.2.2.2.2.2.2.1⟩,⟨true, .list .int x.2.2.2.2.2.2.2.2.1⟩,⟨true, .list .int x.2.2.2.2.2.2.2.2.2.1⟩,⟨true, .list .int x.2.2.2.2.2.2.2.2.2.2.1⟩,⟨true, .list .op x.2.2.2.2.2.2.2.2.2.2.2.1⟩,⟨true, .dead⟩,⟨true, .list .byte r1⟩])
def G44:=rdG K44 B44
def H44:List (Nat×LH):=[]
def W44:List (Nat×List (Nat×List Nat)):=[]
def Γ44:List (Nat×Con):=[(98,Uc98)]
theorem e44:Eqn PP 10 Γ44 H44 W44 (bodyOf Tryz.f44) [] [] [] K44 B44:=fun _ _ _ _ _ _ _ _ _ _ _ _ _ K=>by kernel_rfl
theorem s44:CSound PP 44 G44:=fun_sk mixed Tryz.func44 (by decide) (by kernel_rfl) Tryz.ntmps44 Tryz.results44 (.cons u98 (GSound.nil)) e44
def Uc44:=useC [.pc [.own .int, .own .int, .own .int, .own .int, .x, .own .int, .x, .own .op, .x, .bl, .bl, .x, .x], .x] G44
theorem u44:CSound PP 44 Uc44:=useC_ok s44
theorem enters45:Enters PP 45:=⟨_,Tryz.func45,by decide,rfl⟩
def G45:Con:=conCut M_strings_Cut
theorem s45:CSound PP 45 G45:=conCut_ok (g:=Tryz.lays145_ren.g 1) (pre:=fun a b=>a.length<4294967281) (F:=Lib.cut) (by decide) enters45 fun s sep m w h hm=>by
 have hc:=Go.Proofs.Any.strings_Cut Tryz.lays145 s sep m w (by simpa using h) hm
 change Calls PP 45 _ _ _ at hc
 refine hc.mono ?_
 rintro e w' ⟨rfl,n,rfl⟩
 exact⟨rfl,drewN_below _ _⟩
def Uc45:=useC [.x, .x] G45
theorem u45:CSound PP 45 Uc45:=useC_ok s45
theorem enters154:Enters PP 154:=⟨_,Tryz.func154,by decide,rfl⟩
def G154:Con:=conAtoi M_strconv_Atoi
theorem s154:CSound PP 154 G154:=conAtoi_ok (g1:=Tryz.lays172_ren.g 15) (g2:=Tryz.lays172_ren.g 16) (te:=Tryz.lays172_ren.t 168) (by decide) (by decide) enters154 fun s w e1 e2 hs h1 k1 h2 k2=>by
 cases ha:Lib.atoiAll s.data.toList with
 |ok v=>
  have hc:=Go.Proofs.Any.strconv_Atoi_ok Tryz.lays172 s (by omega) v ha w
  change Calls PP 154 _ _ _ at hc
  refine hc.mono ?_
  rintro e w' ⟨rfl,hw⟩
  refine⟨_,by simp[atoiF,ha], .inl ⟨by simp[atoiF,ha],rfl⟩, ?_⟩
  rcases hw with rfl|⟨t,rfl⟩
  ·exact Go.RowKit.Below.refl _ _
  ·exact Go.Lib.bytesWorld_below _ _ _
 | «syntax»=>
  have hc:=Go.Proofs.Any.strconv_Atoi_syntax Tryz.lays172 s hs ha e1 w h1 k1
  change Calls PP 154 _ _ _ at hc
  refine hc.mono ?_
  rintro e w' ⟨N,rfl,_,_,hb⟩
  exact⟨_,by simp[atoiF,ha];rfl, .inr ⟨by simp[atoiF,ha],_,rfl⟩,hb⟩
 |range=>
  have hc:=Go.Proofs.Any.strconv_Atoi_range Tryz.lays172 s hs ha e2 w h2 k2
  change Calls PP 154 _ _ _ at hc
  refine hc.mono ?_
  rintro e w' ⟨N,rfl,_,_,hb⟩
  exact⟨_,by simp[atoiF,ha];rfl, .inr ⟨by simp[atoiF,ha],_,rfl⟩,hb⟩
def Uc154:=useC [.x] G154
theorem u154:CSound PP 154 Uc154:=useC_ok s154
theorem enters69:Enters PP 69:=⟨_,Tryz.func69,by decide,rfl⟩
def G69:Con:=conIS M_strconv_Itoa
theorem s69:CSound PP 69 G69:=conItoa_ok (F:=Lib.itoa) (g:=2) (l:=Lib.pow10Tab) enters69 (by decide) (by decide) (by decide) (by kernel_rfl) fun n w h htab=>by
 have hc:=Go.Proofs.Any.strconv_Itoa Tryz.lays171 n h.1 h.2 w htab
 change Calls PP 69 _ _ _ at hc
 refine hc.mono ?_
 rintro e w' ⟨rfl,k,os,rfl⟩
 exact⟨rfl,grow_below _ _ _⟩
def Uc69:=useC [.x] G69
theorem u69:CSound PP 69 Uc69:=useC_ok s69
def K100:List Tok:=[.s]
def B100:Body K100:=fun x K=>Mi_decimal x.1 (fun r1 r2=>K (.tup [.int .i64 r1, .bool r2]) [])
def G100:=rdG K100 B100
def H100:List (Nat×LH):=[]
def W100:List (Nat×List (Nat×List Nat)):=[]
def Γ100:List (Nat×Con):=[(154,Uc154),(69,Uc69)]
theorem e100:Eqn PP 29 Γ100 H100 W100 (bodyOf Tryz.f100) [.tmp 2, .tmp 3] [.x, .bl] [] K100 B100:=fun _ K=>by kernel_rfl
theorem s100:CSound PP 100 G100:=fun_sk mixed Tryz.func100 (by decide) (by kernel_rfl) Tryz.ntmps100 Tryz.results100 (.cons u154 (.cons u69 (GSound.nil))) e100
def Uc100:=useC [.x] G100
theorem u100:CSound PP 100 Uc100:=useC_ok s100
def K26:List Tok:=[.A, .i .i64, .i .i64, .i .i64, .E]
def B26:Body K26:=fun x K=>Mi_FormatOp x.1 x.2.1 x.2.2.1 (fun r1=>K (.str r1) [])
def G26:=rdG K26 B26
def H26:List (Nat×LH):=[]
def W26:List (Nat×List (Nat×List Nat)):=[]
def Γ26:List (Nat×Con):=[(68,Uc68),(69,Uc69)]
theorem e26:Eqn PP 31 Γ26 H26 W26 (bodyOf Tryz.f26) [.tmp 2] [.x] [] K26 B26:=fun _ _ _ K=>by kernel_rfl
theorem s26:CSound PP 26 G26:=fun_sk mixed Tryz.func26 (by decide) (by kernel_rfl) Tryz.ntmps26 Tryz.results26 (.cons u68 (.cons u69 (GSound.nil))) e26
def Uc26:=useC [.ag [.x, .x, .x]] G26
theorem u26:CSound PP 26 Uc26:=useC_ok s26
def K155:List Tok:=[.s]
def B155:Body K155:=fun x K=>Mi_ParseOp x.1 (fun r1 r2 r3 r4=>K (.tup [.agg [.int .i64 r1, .int .i64 r2, .int .i64 r3], .bool r4]) [])
def G155:=rdG K155 B155
noncomputable def H155_0:=mkH [(0, .x),(2, .pc [.x, .x, .x]),(4, .x)] [.s, .Q 0, .i .i64, .bC true, .i .i64, .i .i64, .i .i64, .E]
noncomputable def H155_2:=mkH [(0, .x),(2, .pc [.x, .x, .x]),(4, .x),(12, .x)] [.s, .Q 0, .i .i64, .i .i64, .bC true, .i .i64, .i .i64, .i .i64, .E]
noncomputable def H155_4:=mkH [(0, .x),(2, .pc [.x, .x, .x]),(4, .x),(5, .x),(12, .x),(15, .x)] [.s, .Q 0, .i .i64, .i .i64, .i .i64, .i .i64, .bC true, .i .i64, .i .i64, .i .i64, .E]
noncomputable def H155:List (Nat×LH):=[(0,H155_0),(2,H155_2),(4,H155_4)]
def W155:List (Nat×List (Nat×List Nat)):=[]
def Γ155:List (Nat×Con):=[(26,Uc26)]
theorem e155:Eqn PP 34 Γ155 H155 W155 (bodyOf Tryz.f155) [.cell 2 41, .tmp 3] [.ag [.x, .x, .x], .bl] [] K155 B155:=fun _ K=>by kernel_rfl
theorem s155:CSound PP 155 G155:=fun_sk mixed Tryz.func155 (by decide) (by kernel_rfl) Tryz.ntmps155 Tryz.results155 (.cons u26 (GSound.nil)) e155
def Uc155:=useC [.x] G155
theorem u155:CSound PP 155 Uc155:=useC_ok s155
def K182:List Tok:=[.p .int, .i .i64]
def B182:Body K182:=fun x K=>Mi_colorsOk x.1 x.2.1 (fun r1=>K (.bool r1) [])
def G182:=rdG K182 B182
noncomputable def H182_0:=mkH [(0, .pure .int),(1, .x),(7, .pure .int),(8, .x),(9, .x)] [.p .int, .i .i64, .p .int, .i .i64, .i .i64]
noncomputable def H182:List (Nat×LH):=[(0,H182_0)]
def W182:List (Nat×List (Nat×List Nat)):=[]
def Γ182:List (Nat×Con):=[]
theorem e182:Eqn PP 24 Γ182 H182 W182 (bodyOf Tryz.f182) [.tmp 4] [.bl] [] K182 B182:=fun _ _ K=>by kernel_rfl
theorem s182:CSound PP 182 G182:=fun_sk mixed Tryz.func182 (by decide) (by kernel_rfl) Tryz.ntmps182 Tryz.results182 (GSound.nil) e182
def Uc182:=useC [.pure .int, .x] G182
theorem u182:CSound PP 182 Uc182:=useC_ok s182
def K138:List Tok:=[.A, .p .int, .p .int, .p .int, .p .int, .E, .A, .i .i64, .p .int, .i .i64, .E]
def B138:Body K138:=fun x K=>Mi_GcValid x.1 x.2.1 x.2.2.1 x.2.2.2.1 x.2.2.2.2.1 x.2.2.2.2.2.1 x.2.2.2.2.2.2.1 (fun r1=>K (.bool r1) [])
def G138:=rdG K138 B138
def H138:List (Nat×LH):=[]
def W138:List (Nat×List (Nat×List Nat)):=[]
def Γ138:List (Nat×Con):=[(65,Uc65),(182,Uc182)]
theorem e138:Eqn PP 49 Γ138 H138 W138 (bodyOf Tryz.f138) [.tmp 4] [.bl] [] K138 B138:=fun _ _ _ _ _ _ _ K=>by kernel_rfl
theorem s138:CSound PP 138 G138:=fun_sk mixed Tryz.func138 (by decide) (by kernel_rfl) Tryz.ntmps138 Tryz.results138 (.cons u65 (.cons u182 (GSound.nil))) e138
def Uc138:=useC [.ag [.pure .int, .pure .int, .pure .int, .pure .int], .ag [.x, .pure .int, .x]] G138
theorem u138:CSound PP 138 Uc138:=useC_ok s138
def K92:List Tok:=[.A, .p .int, .p .int, .p .int, .p .int, .i .i64, .p .int, .i .i64, .p .op, .i .i64, .b, .E]
def B92:Body K92:=fun x K=>Mi_BothValid x.1 x.2.1 x.2.2.1 x.2.2.2.1 x.2.2.2.2.1 x.2.2.2.2.2.1 x.2.2.2.2.2.2.1 x.2.2.2.2.2.2.2.1 x.2.2.2.2.2.2.2.2.1 x.2.2.2.2.2.2.2.2.2.1 (fun r1=>K (.bool r1) [])
def G92:=rdG K92 B92
def H92:List (Nat×LH):=[]
def W92:List (Nat×List (Nat×List Nat)):=[]
def Γ92:List (Nat×Con):=[(138,Uc138),(77,Uc77)]
theorem e92:Eqn PP 31 Γ92 H92 W92 (bodyOf Tryz.f92) [.tmp 2] [.bl] [] K92 B92:=fun _ _ _ _ _ _ _ _ _ _ K=>by kernel_rfl
theorem s92:CSound PP 92 G92:=fun_sk mixed Tryz.func92 (by decide) (by kernel_rfl) Tryz.ntmps92 Tryz.results92 (.cons u138 (.cons u77 (GSound.nil))) e92
def Uc92:=useC [.ag [.pure .int, .pure .int, .pure .int, .pure .int, .x, .pure .int, .x, .pure .op, .x, .bl]] G92
theorem u92:CSound PP 92 Uc92:=useC_ok s92
def K94:List Tok:=[.A, .p .int, .p .int, .p .int, .p .int, .i .i64, .p .int, .i .i64, .p .op, .i .i64, .b, .E]
def B94:Body K94:=fun x K=>Mi_anew x.1 x.2.1 x.2.2.1 x.2.2.2.1 x.2.2.2.2.1 x.2.2.2.2.2.1 x.2.2.2.2.2.2.1 x.2.2.2.2.2.2.2.1 x.2.2.2.2.2.2.2.2.1 x.2.2.2.2.2.2.2.2.2.1 (fun r1 r2 r3 r4 r5 r6=>K (.agg [.sl 0, .sl 1, .sl 2, .sl 3, .int .i64 x.2.2.2.2.1, .sl 4, .int .i64 x.2.2.2.2.2.2.1, .sl 5, .int .i64 x.2.2.2.2.2.2.2.2.1, .bool x.2.2.2.2.2.2.2.2.2.1]) [⟨true, .list .int r1⟩,⟨true, .list .int r2⟩,⟨true, .list .int r3⟩,⟨true, .list .int r4⟩,⟨true, .list .int r5⟩,⟨true, .list .op r6⟩])
def G94:=rdG K94 B94
def H94:List (Nat×LH):=[]
def W94:List (Nat×List (Nat×List Nat)):=[]
def Γ94:List (Nat×Con):=[(74,Uc74),(130,Uc130),(85,Uc85)]
theorem e94:Eqn PP 18 Γ94 H94 W94 (bodyOf Tryz.f94) [.cell 2 56] [.ag [.own .int, .own .int, .own .int, .own .int, .x, .own .int, .x, .own .op, .x, .bl]] [] K94 B94:=fun _ _ _ _ _ _ _ _ _ _ K=>by kernel_rfl
theorem s94:CSound PP 94 G94:=fun_sk mixed Tryz.func94 (by decide) (by kernel_rfl) Tryz.ntmps94 Tryz.results94 (.cons u74 (.cons u130 (.cons u85 (GSound.nil)))) e94
def Uc94:=useC [.ag [.pure .int, .pure .int, .pure .int, .pure .int, .x, .pure .int, .x, .pure .op, .x, .bl]] G94
theorem u94:CSound PP 94 Uc94:=useC_ok s94
def K187:List Tok:=[.A, .p .int, .p .int, .p .int, .p .int, .E, .A, .i .i64, .i .i64, .i .i64, .E]
def B187:Body K187:=fun x K=>Mi_TargetOf x.1 x.2.1 x.2.2.1 x.2.2.2.1 x.2.2.2.2.1 x.2.2.2.2.2.1 x.2.2.2.2.2.2.1 (fun r1=>K (.int .i64 r1) [])
def G187:=rdG K187 B187
def H187:List (Nat×LH):=[]
def W187:List (Nat×List (Nat×List Nat)):=[]
def Γ187:List (Nat×Con):=[(65,Uc65),(68,Uc68)]
theorem e187:Eqn PP 44 Γ187 H187 W187 (bodyOf Tryz.f187) [.tmp 4] [.x] [] K187 B187:=fun _ _ _ _ _ _ _ K=>by kernel_rfl
theorem s187:CSound PP 187 G187:=fun_sk mixed Tryz.func187 (by decide) (by kernel_rfl) Tryz.ntmps187 Tryz.results187 (.cons u65 (.cons u68 (GSound.nil))) e187
def Uc187:=useC [.ag [.pure .int, .pure .int, .pure .int, .pure .int], .ag [.x, .x, .x]] G187
theorem u187:CSound PP 187 Uc187:=useC_ok s187
def K75:List Tok:=[.A, .p .int, .p .int, .p .int, .p .int, .E, .i .i64]
def B75:Body K75:=fun x K=>Mi_AllocCell x.1 x.2.1 x.2.2.1 x.2.2.2.1 x.2.2.2.2.1 (fun r1 r2 r3 r4 r5 r6=>K (.tup [.agg [.sl 0, .sl 1, .sl 2, .sl 3], .int .i64 r1, .bool r2]) [⟨true, .list .int r3⟩,⟨true, .list .int r4⟩,⟨true, .list .int r5⟩,⟨true, .list .int r6⟩])
def G75:=rdG K75 B75
def H75:List (Nat×LH):=[]
def W75:List (Nat×List (Nat×List Nat)):=[]
def Γ75:List (Nat×Con):=[(65,Uc65),(74,Uc74)]
theorem e75:Eqn PP 48 Γ75 H75 W75 (bodyOf Tryz.f75) [.cell 4 33, .tmp 5, .tmp 6] [.ag [.own .int, .own .int, .own .int, .own .int], .x, .bl] [] K75 B75:=fun _ _ _ _ _ K=>by kernel_rfl
theorem s75:CSound PP 75 G75:=fun_sk mixed Tryz.func75 (by decide) (by kernel_rfl) Tryz.ntmps75 Tryz.results75 (.cons u65 (.cons u74 (GSound.nil))) e75
def Uc75:=useC [.ag [.pure .int, .pure .int, .pure .int, .pure .int], .x] G75
theorem u75:CSound PP 75 Uc75:=useC_ok s75
def K28:List Tok:=[.A, .p .int, .p .int, .p .int, .p .int, .E, .A, .i .i64, .i .i64, .i .i64, .E]
def B28:Body K28:=fun x K=>Mi_RunOp x.1 x.2.1 x.2.2.1 x.2.2.2.1 x.2.2.2.2.1 x.2.2.2.2.2.1 x.2.2.2.2.2.2.1 (fun r1 r2 r3 r4 r5 r6=>K (.tup [.agg [.sl 0, .sl 1, .sl 2, .sl 3], .int .i64 r1, .bool r2]) [⟨true, .list .int r3⟩,⟨true, .list .int r4⟩,⟨true, .list .int r5⟩,⟨true, .list .int r6⟩])
def G28:=rdG K28 B28
def H28:List (Nat×LH):=[]
def W28:List (Nat×List (Nat×List Nat)):=[]
def Γ28:List (Nat×Con):=[(65,Uc65),(68,Uc68),(74,Uc74),(75,Uc75)]
theorem e28:Eqn PP 133 Γ28 H28 W28 (bodyOf Tryz.f28) [.cell 4 33, .tmp 5, .tmp 6] [.ag [.own .int, .own .int, .own .int, .own .int], .x, .bl] [] K28 B28:=fun _ _ _ _ _ _ _ K=>by kernel_rfl
theorem s28:CSound PP 28 G28:=fun_sk mixed Tryz.func28 (by decide) (by kernel_rfl) Tryz.ntmps28 Tryz.results28 (.cons u65 (.cons u68 (.cons u74 (.cons u75 (GSound.nil))))) e28
def Uc28:=useC [.ag [.pure .int, .pure .int, .pure .int, .pure .int], .ag [.x, .x, .x]] G28
theorem u28:CSound PP 28 Uc28:=useC_ok s28
def K156:List Tok:=[.A, .p .int, .p .int, .p .int, .E, .i .i64]
def B156:Body K156:=fun x K=>Mi_has x.1 x.2.1 x.2.2.1 x.2.2.2.1 (fun r1=>K (.bool r1) [])
def G156:=rdG K156 B156
def H156:List (Nat×LH):=[]
def W156:List (Nat×List (Nat×List Nat)):=[]
def Γ156:List (Nat×Con):=[(79,Uc79)]
theorem e156:Eqn PP 18 Γ156 H156 W156 (bodyOf Tryz.f156) [.tmp 4] [.bl] [] K156 B156:=fun _ _ _ _ K=>by kernel_rfl
theorem s156:CSound PP 156 G156:=fun_sk mixed Tryz.func156 (by decide) (by kernel_rfl) Tryz.ntmps156 Tryz.results156 (.cons u79 (GSound.nil)) e156
def Uc156:=useC [.ag [.pure .int, .pure .int, .pure .int], .x] G156
theorem u156:CSound PP 156 Uc156:=useC_ok s156
def K188:List Tok:=[.A, .p .int, .p .int, .p .int, .p .int, .E, .A, .i .i64, .p .int, .i .i64, .E, .i .i64]
def B188:Body K188:=fun x K=>Mi_ColorNew x.1 x.2.1 x.2.2.1 x.2.2.2.1 x.2.2.2.2.1 x.2.2.2.2.2.1 x.2.2.2.2.2.2.1 x.2.2.2.2.2.2.2.1 (fun r1 r2 r3 r4=>K (.tup [.agg [.int .i64 r1, .sl 0, .int .i64 r2], .bool r3]) [⟨true, .list .int r4⟩])
def G188:=rdG K188 B188
def H188:List (Nat×LH):=[]
def W188:List (Nat×List (Nat×List Nat)):=[]
def Γ188:List (Nat×Con):=[(138,Uc138),(156,Uc156),(130,Uc130)]
theorem e188:Eqn PP 52 Γ188 H188 W188 (bodyOf Tryz.f188) [.cell 6 54, .tmp 7] [.ag [.x, .own .int, .x], .bl] [] K188 B188:=fun _ _ _ _ _ _ _ _ K=>by kernel_rfl
theorem s188:CSound PP 188 G188:=fun_sk mixed Tryz.func188 (by decide) (by kernel_rfl) Tryz.ntmps188 Tryz.results188 (.cons u138 (.cons u156 (.cons u130 (GSound.nil)))) e188
def Uc188:=useC [.ag [.pure .int, .pure .int, .pure .int, .pure .int], .ag [.x, .pure .int, .x], .x] G188
theorem u188:CSound PP 188 Uc188:=useC_ok s188
def K190:List Tok:=[.L 0, .i .i64, .bL true .int]
def B190:Body K190:=fun x K=>Mi_shade x.1 x.2.1 (fun r1=>K (.tup []) [⟨true, .list .int r1⟩])
def G190:=rdG K190 B190
def H190:List (Nat×LH):=[]
def W190:List (Nat×List (Nat×List Nat)):=[]
def Γ190:List (Nat×Con):=[]
theorem e190:Eqn PP 16 Γ190 H190 W190 (bodyOf Tryz.f190) [] [] [] K190 B190:=fun _ _ K=>by kernel_rfl
theorem s190:CSound PP 190 G190:=fun_sk mixed Tryz.func190 (by decide) (by kernel_rfl) Tryz.ntmps190 Tryz.results190 (GSound.nil) e190
def Uc190:=useC [.own .int, .x] G190
theorem u190:CSound PP 190 Uc190:=useC_ok s190
def K189:List Tok:=[.A, .p .int, .p .int, .p .int, .p .int, .E, .A, .i .i64, .p .int, .i .i64, .E, .i .i64]
def B189:Body K189:=fun x K=>Mi_ShadeGc x.1 x.2.1 x.2.2.1 x.2.2.2.1 x.2.2.2.2.1 x.2.2.2.2.2.1 x.2.2.2.2.2.2.1 x.2.2.2.2.2.2.2.1 (fun r1 r2 r3 r4=>K (.tup [.agg [.int .i64 r1, .sl 0, .int .i64 r2], .bool r3]) [⟨true, .list .int r4⟩])
def G189:=rdG K189 B189
def H189:List (Nat×LH):=[]
def W189:List (Nat×List (Nat×List Nat)):=[]
def Γ189:List (Nat×Con):=[(138,Uc138),(156,Uc156),(130,Uc130),(190,Uc190)]
theorem e189:Eqn PP 37 Γ189 H189 W189 (bodyOf Tryz.f189) [.cell 6 54, .tmp 7] [.ag [.x, .own .int, .x], .bl] [] K189 B189:=fun _ _ _ _ _ _ _ _ K=>by kernel_rfl
theorem s189:CSound PP 189 G189:=fun_sk mixed Tryz.func189 (by decide) (by kernel_rfl) Tryz.ntmps189 Tryz.results189 (.cons u138 (.cons u156 (.cons u130 (.cons u190 (GSound.nil))))) e189
def Uc189:=useC [.ag [.pure .int, .pure .int, .pure .int, .pure .int], .ag [.x, .pure .int, .x], .x] G189
theorem u189:CSound PP 189 Uc189:=useC_ok s189
def K146:List Tok:=[.A, .p .int, .p .int, .p .int, .p .int, .i .i64, .p .int, .i .i64, .p .op, .i .i64, .b, .E, .b]
def B146:Body K146:=fun x K=>Mi_step x.1 x.2.1 x.2.2.1 x.2.2.2.1 x.2.2.2.2.1 x.2.2.2.2.2.1 x.2.2.2.2.2.2.1 x.2.2.2.2.2.2.2.1 x.2.2.2.2.2.2.2.2.1 x.2.2.2.2.2.2.2.2.2.1 x.2.2.2.2.2.2.2.2.2.2.1 (fun r1 r2 r3 r4 r5 r6 r7 r8 r9 r10 r11 r12=>K (.tup [.agg [.sl 0, .sl 1, .sl 2, .sl 3, .int .i64 r1, .sl 4, .int .i64 r2, .sl 5, .int .i64 r3, .bool r4], .int .i64 r5, .bool r6]) [⟨true, .list .int r7⟩,⟨true, .list .int r8⟩,⟨true, .list .int r9⟩,⟨true, .list .int r10⟩,⟨true, .list .int r11⟩,⟨true, .list .op r12⟩])
def G146:=rdG K146 B146
noncomputable def H146_1000004:=mkH [(1, .bl),(2, .pc [.own .int, .own .int, .own .int, .own .int, .x, .own .int, .x, .own .op, .x, .bl]),(4, .pc [.own .int, .own .int, .own .int, .own .int, .x, .own .int, .x, .own .op, .x, .bl])] [.b, .Q 0, .Q 1, .bC true, .L 2, .L 3, .L 4, .L 5, .i .i64, .L 6, .i .i64, .L 7, .i .i64, .b, .E, .bC true, .L 8, .L 9, .L 10, .L 11, .i .i64, .L 12, .i .i64, .L 13, .i .i64, .b, .E, .bL true .int, .bL true .int, .bL true .int, .bL true .int, .bL true .int, .bL true .op, .bL true .int, .bL true .int, .bL true .int, .bL true .int, .bL true .int, .bL true .op]
noncomputable def H146_1000007:=mkH [(1, .bl),(2, .pc [.own .int, .own .int, .own .int, .own .int, .x, .own .int, .x, .own .op, .x, .bl]),(4, .pc [.own .int, .own .int, .own .int, .own .int, .x, .own .int, .x, .own .op, .x, .bl]),(7, .pc [.x, .x, .x]),(8, .x),(9, .pc [.own .int, .own .int, .own .int, .own .int]),(10, .x)] [.b, .Q 0, .Q 1, .Q 2, .i .i64, .Q 3, .i .i64, .bC true, .L 4, .L 5, .L 6, .L 7, .i .i64, .L 8, .i .i64, .L 9, .i .i64, .b, .E, .bC true, .L 10, .L 11, .L 12, .L 13, .i .i64, .L 14, .i .i64, .L 15, .i .i64, .b, .E, .bC true, .i .i64, .i .i64, .i .i64, .E, .bC true, .L 16, .L 17, .L 18, .L 19, .E, .bL true .int, .bL true .int, .bL true .int, .bL true .int, .bL true .int, .bL true .op, .bL true .int, .bL true .int, .bL true .int, .bL true .int, .bL true .int, .bL true .op, .bL true .int, .bL true .int, .bL true .int, .bL true .int]
noncomputable def H146_1000015:=mkH [(2, .pc [.own .int, .own .int, .own .int, .own .int, .x, .own .int, .x, .own .op, .x, .bl]),(4, .pc [.own .int, .own .int, .own .int, .own .int, .x, .own .int, .x, .own .op, .x, .bl]),(10, .x)] [.Q 0, .Q 1, .i .i64, .bC true, .L 2, .L 3, .L 4, .L 5, .i .i64, .L 6, .i .i64, .L 7, .i .i64, .b, .E, .bC true, .L 8, .L 9, .L 10, .L 11, .i .i64, .L 12, .i .i64, .L 13, .i .i64, .b, .E, .bL true .int, .bL true .int, .bL true .int, .bL true .int, .bL true .int, .bL true .op, .bL true .int, .bL true .int, .bL true .int, .bL true .int, .bL true .int, .bL true .op]
noncomputable def H146:List (Nat×LH):=[(1000004,H146_1000004),(1000007,H146_1000007),(1000015,H146_1000015)]
def W146:List (Nat×List (Nat×List Nat)):=[]
def Γ146:List (Nat×Con):=[(92,Uc92),(94,Uc94),(187,Uc187),(28,Uc28),(188,Uc188),(189,Uc189)]
def S146_15 (s:H146_1000015.S) (K:TV→TMem→Prop):Prop:=Mi_step_c15 s.1 s.2.1 s.2.2.1 s.2.2.2.1 s.2.2.2.2.1 s.2.2.2.2.2.1 s.2.2.2.2.2.2.1 s.2.2.2.2.2.2.2.1 s.2.2.2.2.2.2.2.2.1 s.2.2.2.2.2.2.2.2.2.1 s.2.2.2.2.2.2.2.2.2.2.1 s.2.2.2.2.2.2.2.2.2.2.2.1 s.2.2.2.2.2.2.2.2.2.2.2.2.1 s.2.2.2.2.2.2.2.2.2.2.2.2.2.1 s.2.2.2.2.2.2.2.2.2.2.2.2.2.2.1 s.2.2.2.2.2.2.2.2.2.2.2.2.2.2.2.1 s.2.2.2.2.2.2.2.2.2.2.2.2.2.2.2.2.1 s.2.2.2.2.2.2.2.2.2.2.2.2.2.2.2.2.2.1 s.2.2.2.2.2.2.2.2.2.2.2.2.2.2.2.2.2.2.1 s.2.2.2.2.2.2.2.2.2.2.2.2.2.2.2.2.2.2.2.1 s.2.2.2.2.2.2.2.2.2.2.2.2.2.2.2.2.2.2.2.2 (fun r1 r2 r3 r4 r5 r6 r7 r8 r9 r10 r11 r12=>K (.tup [.agg [.sl 0, .sl 1, .sl 2, .sl 3, .int .i64 r1, .sl 4, .int .i64 r2, .sl 5, .int .i64 r3, .bool r4], .int .i64 r5, .bool r6]) [⟨true, .list .int r7⟩,⟨true, .list .int r8⟩,⟨true, .list .int r9⟩,⟨true, .list .int r10⟩,⟨true, .list .int r11⟩,⟨true, .list .op r12⟩])
def J146_15 (K:TV→TMem→Prop) (ts:TFrm) (tm:TMem):Prop:=headT 0 H146_1000015 ts tm fun s=>S146_15 s K
theorem q146_15 (s:H146_1000015.S) (K:TV→TMem→Prop):segT PP 95 Γ146 H146 W146 0 (sufC 11 (bodyOf Tryz.f146)) (endT PP 95 [.cell 4 56, .tmp 5, .tmp 6] [.ag [.own .int, .own .int, .own .int, .own .int, .x, .own .int, .x, .own .op, .x, .bl], .x, .bl] [] 0 K) (frameOf H146_1000015.keep (H146_1000015.enc s).1) (H146_1000015.enc s).2=S146_15 s K:=by kernel_rfl
theorem j146_15 (K:TV→TMem→Prop) (ts:TFrm) (tm:TMem):J146_15 K ts tm=TW PP 95 Γ146 H146 W146 0 (sufC 11 (bodyOf Tryz.f146)) (endT PP 95 [.cell 4 56, .tmp 5, .tmp 6] [.ag [.own .int, .own .int, .own .int, .own .int, .x, .own .int, .x, .own .op, .x, .bl], .x, .bl] [] 0 K) ts tm:=
 TW_seg (by kernel_rfl:regOf (sufC 11 (bodyOf Tryz.f146))=some 15) (by kernel_rfl) (fun s=>q146_15 s K) ts tm
def S146_7 (s:H146_1000007.S) (K:TV→TMem→Prop):Prop:=Mi_step_c7 s.1 s.2.1 s.2.2.1 s.2.2.2.1 s.2.2.2.2.1 s.2.2.2.2.2.1 s.2.2.2.2.2.2.1 s.2.2.2.2.2.2.2.1 s.2.2.2.2.2.2.2.2.1 s.2.2.2.2.2.2.2.2.2.1 s.2.2.2.2.2.2.2.2.2.2.1 s.2.2.2.2.2.2.2.2.2.2.2.1 s.2.2.2.2.2.2.2.2.2.2.2.2.1 s.2.2.2.2.2.2.2.2.2.2.2.2.2.1 s.2.2.2.2.2.2.2.2.2.2.2.2.2.2.1 s.2.2.2.2.2.2.2.2.2.2.2.2.2.2.2.1 s.2.2.2.2.2.2.2.2.2.2.2.2.2.2.2.2.1 s.2.2.2.2.2.2.2.2.2.2.2.2.2.2.2.2.2.1 s.2.2.2.2.2.2.2.2.2.2.2.2.2.2.2.2.2.2.1 s.2.2.2.2.2.2.2.2.2.2.2.2.2.2.2.2.2.2.2.1 s.2.2.2.2.2.2.2.2.2.2.2.2.2.2.2.2.2.2.2.2.1 s.2.2.2.2.2.2.2.2.2.2.2.2.2.2.2.2.2.2.2.2.2.1 s.2.2.2.2.2.2.2.2.2.2.2.2.2.2.2.2.2.2.2.2.2.2.1 s.2.2.2.2.2.2.2.2.2.2.2.2.2.2.2.2.2.2.2.2.2.2.2.1 s.2.2.2.2.2.2.2.2.2.2.2.2.2.2.2.2.2.2.2.2.2.2.2.2.1 s.2.2.2.2.2.2.2.2.2.2.2.2.2.2.2.2.2.2.2.2.2.2.2.2.2.1 s.2.2.2.2.2.2.2.2.2.2.2.2.2.2.2.2.2.2.2.2.2.2.2.2.2.2.1 s.2.2.2.2.2.2.2.2.2.2.2.2.2.2.2.2.2.2.2.2.2.2.2.2.2.2.2.1 s.2.2.2.2.2.2.2.2.2.2.2.2.2.2.2.2.2.2.2.2.2.2.2.2.2.2.2.2.1 s.2.2.2.2.2.2.2.2.2.2.2.2.2.2.2.2.2.2.2.2.2.2.2.2.2.2.2.2.2 (fun r1 r2 r3 r4 r5 r6 r7 r8 r9 r10 r11 r12=>K (.tup [.agg [.sl 0, .sl 1, .sl 2, .sl 3, .int .i64 r1, .sl 4, .int .i64 r2, .sl 5, .int .i64 r3, .bool r4], .int .i64 r5, .bool r6]) [⟨true, .list .int r7⟩,⟨true, .list .int r8⟩,⟨true, .list .int r9⟩,⟨true, .list .int r10⟩,⟨true, .list .int r11⟩,⟨true, .list .op r12⟩])
def J146_7 (K:TV→TMem→Prop) (ts:TFrm) (tm:TMem):Prop:=headT 0 H146_1000007 ts tm fun s=>S146_7 s K
theorem r146_7 (s:H146_1000007.S) (K:TV→TMem→Prop):segN PP 95 Γ146 H146 W146 0 4 (sufC 6 (bodyOf Tryz.f146)) (J146_15 K) (endT PP 95 [.cell 4 56, .tmp 5, .tmp 6] [.ag [.own .int, .own .int, .own .int, .own .int, .x, .own .int, .x, .own .op, .x, .bl], .x, .bl] [] 0 K) (frameOf H146_1000007.keep (H146_1000007.enc s).1) (H146_1000007.enc s).2=S146_7 s K:=by kernel_rfl
theorem q146_7 (s:H146_1000007.S) (K:TV→TMem→Prop):segT PP 95 Γ146 H146 W146 0 (sufC 6 (bodyOf Tryz.f146)) (endT PP 95 [.cell 4 56, .tmp 5, .tmp 6] [.ag [.own .int, .own .int, .own .int, .own .int, .x, .own .int, .x, .own .op, .x, .bl], .x, .bl] [] 0 K) (frameOf H146_1000007.keep (H146_1000007.enc s).1) (H146_1000007.enc s).2=S146_7 s K:=
 (segN_eq (by kernel_rfl) fun ts tm=>(j146_15 K ts tm).trans (congrArg (fun c=>TW PP 95 Γ146 H146 W146 0 c (endT PP 95 [.cell 4 56, .tmp 5, .tmp 6] [.ag [.own .int, .own .int, .own .int, .own .int, .x, .own .int, .x, .own .op, .x, .bl], .x, .bl] [] 0 K) ts tm) (sufC_split 6 4 11 rfl _))).trans (r146_7 s K)
theorem j146_7 (K:TV→TMem→Prop) (ts:TFrm) (tm:TMem):J146_7 K ts tm=TW PP 95 Γ146 H146 W146 0 (sufC 6 (bodyOf Tryz.f146)) (endT PP 95 [.cell 4 56, .tmp 5, .tmp 6] [.ag [.own .int, .own .int, .own .int, .own .int, .x, .own .int, .x, .own .op, .x, .bl], .x, .bl] [] 0 K) ts tm:=
 TW_seg (by kernel_rfl:regOf (sufC 6 (bodyOf Tryz.f146))=some 7) (by kernel_rfl) (fun s=>q146_7 s K) ts tm
def S146_4 (s:H146_1000004.S) (K:TV→TMem→Prop):Prop:=Mi_step_c4 s.1 s.2.1 s.2.2.1 s.2.2.2.1 s.2.2.2.2.1 s.2.2.2.2.2.1 s.2.2.2.2.2.2.1 s.2.2.2.2.2.2.2.1 s.2.2.2.2.2.2.2.2.1 s.2.2.2.2.2.2.2.2.2.1 s.2.2.2.2.2.2.2.2.2.2.1 s.2.2.2.2.2.2.2.2.2.2.2.1 s.2.2.2.2.2.2.2.2.2.2.2.2.1 s.2.2.2.2.2.2.2.2.2.2.2.2.2.1 s.2.2.2.2.2.2.2.2.2.2.2.2.2.2.1 s.2.2.2.2.2.2.2.2.2.2.2.2.2.2.2.1 s.2.2.2.2.2.2.2.2.2.2.2.2.2.2.2.2.1 s.2.2.2.2.2.2.2.2.2.2.2.2.2.2.2.2.2.1 s.2.2.2.2.2.2.2.2.2.2.2.2.2.2.2.2.2.2.1 s.2.2.2.2.2.2.2.2.2.2.2.2.2.2.2.2.2.2.2.1 s.2.2.2.2.2.2.2.2.2.2.2.2.2.2.2.2.2.2.2.2 (fun r1 r2 r3 r4 r5 r6 r7 r8 r9 r10 r11 r12=>K (.tup [.agg [.sl 0, .sl 1, .sl 2, .sl 3, .int .i64 r1, .sl 4, .int .i64 r2, .sl 5, .int .i64 r3, .bool r4], .int .i64 r5, .bool r6]) [⟨true, .list .int r7⟩,⟨true, .list .int r8⟩,⟨true, .list .int r9⟩,⟨true, .list .int r10⟩,⟨true, .list .int r11⟩,⟨true, .list .op r12⟩])
def J146_4 (K:TV→TMem→Prop) (ts:TFrm) (tm:TMem):Prop:=headT 0 H146_1000004 ts tm fun s=>S146_4 s K
theorem r146_4 (s:H146_1000004.S) (K:TV→TMem→Prop):segN PP 95 Γ146 H146 W146 0 2 (sufC 3 (bodyOf Tryz.f146)) (J146_7 K) (endT PP 95 [.cell 4 56, .tmp 5, .tmp 6] [.ag [.own .int, .own .int, .own .int, .own .int, .x, .own .int, .x, .own .op, .x, .bl], .x, .bl] [] 0 K) (frameOf H146_1000004.keep (H146_1000004.enc s).1) (H146_1000004.enc s).2=S146_4 s K:=by kernel_rfl
theorem q146_4 (s:H146_1000004.S) (K:TV→TMem→Prop):segT PP 95 Γ146 H146 W146 0 (sufC 3 (bodyOf Tryz.f146)) (endT PP 95 [.cell 4 56, .tmp 5, .tmp 6] [.ag [.own .int, .own .int, .own .int, .own .int, .x, .own .int, .x, .own .op, .x, .bl], .x, .bl] [] 0 K) (frameOf H146_1000004.keep (H146_1000004.enc s).1) (H146_1000004.enc s).2=S146_4 s K:=
 (segN_eq (by kernel_rfl) fun ts tm=>(j146_7 K ts tm).trans (congrArg (fun c=>TW PP 95 Γ146 H146 W146 0 c (endT PP 95 [.cell 4 56, .tmp 5, .tmp 6] [.ag [.own .int, .own .int, .own .int, .own .int, .x, .own .int, .x, .own .op, .x, .bl], .x, .bl] [] 0 K) ts tm) (sufC_split 3 2 6 rfl _))).trans (r146_4 s K)
theorem j146_4 (K:TV→TMem→Prop) (ts:TFrm) (tm:TMem):J146_4 K ts tm=TW PP 95 Γ146 H146 W146 0 (sufC 3 (bodyOf Tryz.f146)) (endT PP 95 [.cell 4 56, .tmp 5, .tmp 6] [.ag [.own .int, .own .int, .own .int, .own .int, .x, .own .int, .x, .own .op, .x, .bl], .x, .bl] [] 0 K) ts tm:=
 TW_seg (by kernel_rfl:regOf (sufC 3 (bodyOf Tryz.f146))=some 4) (by kernel_rfl) (fun s=>q146_4 s K) ts tm
theorem ea146:AllL (lvs K146) fun x=>∀K,TWn PP 95 Γ146 H146 W146 0 3 (bodyOf Tryz.f146) (J146_4 K) (endT PP 95 [.cell 4 56, .tmp 5, .tmp 6] [.ag [.own .int, .own .int, .own .int, .own .int, .x, .own .int, .x, .own .op, .x, .bl], .x, .bl] [] 0 K) (argsF (wr K146 x).1) (wr K146 x).2.2=B146 x K:=fun _ _ _ _ _ _ _ _ _ _ _ K=>by kernel_rfl
theorem e146:Eqn PP 95 Γ146 H146 W146 (bodyOf Tryz.f146) [.cell 4 56, .tmp 5, .tmp 6] [.ag [.own .int, .own .int, .own .int, .own .int, .x, .own .int, .x, .own .op, .x, .bl], .x, .bl] [] K146 B146:=fun x0 x1 x2 x3 x4 x5 x6 x7 x8 x9 x10 K=>
 (congrFun (congrFun (TWn_eq 3 _ (by kernel_rfl) fun ts tm=>j146_4 K ts tm) _) _).trans (ea146 x0 x1 x2 x3 x4 x5 x6 x7 x8 x9 x10 K)
theorem s146:CSound PP 146 G146:=fun_sk mixed Tryz.func146 (by decide) (by kernel_rfl) Tryz.ntmps146 Tryz.results146 (.cons u92 (.cons u94 (.cons u187 (.cons u28 (.cons u188 (.cons u189 (GSound.nil))))))) e146
def Uc146:=useC [.ag [.pure .int, .pure .int, .pure .int, .pure .int, .x, .pure .int, .x, .pure .op, .x, .bl], .bl] G146
theorem u146:CSound PP 146 Uc146:=useC_ok s146
def K101:List Tok:=[.Q 0, .s, .bC true, .L 1, .L 2, .L 3, .L 4, .i .i64, .L 5, .i .i64, .L 6, .i .i64, .b, .b, .S 0 11 73, .B 7, .E, .bL true .int, .bL true .int, .bL true .int, .bL true .int, .bL true .int, .bL true .op, .bL true .byte]
def B101:Body K101:=fun x K=>Mi_desk_one x.1 x.2.1 x.2.2.1 x.2.2.2.1 x.2.2.2.2.1 x.2.2.2.2.2.1 x.2.2.2.2.2.2.1 x.2.2.2.2.2.2.2.1 x.2.2.2.2.2.2.2.2.1 x.2.2.2.2.2.2.2.2.2.1 x.2.2.2.2.2.2.2.2.2.2.1 x.2.2.2.2.2.2.2.2.2.2.2.1 x.2.2.2.2.2.2.2.2.2.2.2.2.1 (fun r1 r2 r3 r4 r5 r6 r7 r8 r9 r10=>K (.bool r1) [⟨true, .cells [.sl 8, .sl 9, .sl 10, .sl 11, .int .i64 r2, .sl 12, .int .i64 r3, .sl 13, .int .i64 x.2.2.2.1, .bool r4, .bool x.2.2.2.2.2.1, .slf 0 11 73, .sb 14]⟩,⟨true, .dead⟩,⟨true, .dead⟩,⟨true, .dead⟩,⟨true, .dead⟩,⟨true, .dead⟩,⟨true, .dead⟩,⟨true, .dead⟩,⟨true, .list .int r5⟩,⟨true, .list .int r6⟩,⟨true, .list .int r7⟩,⟨true, .list .int r8⟩,⟨true, .list .int r9⟩,⟨true, .list .op x.2.2.2.2.2.2.2.2.2.2.2.1⟩,⟨true, .list .byte r10⟩])
def G101:=rdG K101 B101
def H101:List (Nat×LH):=[]
def W101:List (Nat×List (Nat×List Nat)):=[(9,[(17,[11])])]
def Γ101:List (Nat×Con):=[(155,Uc155),(146,Uc146),(44,Uc44)]
theorem e101:Eqn PP 59 Γ101 H101 W101 (bodyOf Tryz.f101) [.tmp 4] [.bl] [1,2,3,4,5,6,7] K101 B101:=fun _ _ _ _ _ _ _ _ _ _ _ _ _ K=>by kernel_rfl
theorem s101:CSound PP 101 G101:=fun_sk mixed Tryz.func101 (by decide) (by kernel_rfl) Tryz.ntmps101 Tryz.results101 (.cons u155 (.cons u146 (.cons u44 (GSound.nil)))) e101
def Uc101:=useC [.pc [.own .int, .own .int, .own .int, .own .int, .x, .own .int, .x, .own .op, .x, .bl, .bl, .x, .x], .x] G101
theorem u101:CSound PP 101 Uc101:=useC_ok s101
def K102:List Tok:=[.s]
def B102:Body K102:=fun x K=>Mi_ParseOps x.1 (fun r1 r2=>K (.tup [.sl 0, .bool r1]) [⟨true, .list .op r2⟩])
def G102:=rdG K102 B102
noncomputable def H102_0:=mkH [(4, .own .op),(14, .own .str),(15, .x),(16, .x)] [.L 0, .L 1, .i .i64, .i .i64, .bL true .op, .bL true .str]
noncomputable def H102:List (Nat×LH):=[(0,H102_0)]
def W102:List (Nat×List (Nat×List Nat)):=[]
def Γ102:List (Nat×Con):=[(42,Uc42),(155,Uc155)]
theorem e102:Eqn PP 38 Γ102 H102 W102 (bodyOf Tryz.f102) [.tmp 2, .tmp 3] [.own .op, .bl] [] K102 B102:=fun _ K=>by kernel_rfl
theorem s102:CSound PP 102 G102:=fun_sk mixed Tryz.func102 (by decide) (by kernel_rfl) Tryz.ntmps102 Tryz.results102 (.cons u42 (.cons u155 (GSound.nil))) e102
def Uc102:=useC [.x] G102
theorem u102:CSound PP 102 Uc102:=useC_ok s102
theorem enters93:Enters PP 93:=⟨_,Tryz.func93,by decide,rfl⟩
def G93:Con:=conSS M_strings_Trim
theorem s93:CSound PP 93 G93:=conSS_ok enters93 fun s cut w h=>by
 have hc:=Go.Proofs.Any.strings_Trim_laid Tryz.lays160 (by kernel_rfl) s cut w (by simpa using h.1) (by simpa using h.2.1) (Go.Proofs.ascii_of_all h.2.2)
 change Calls PP 93 _ _ _ at hc
 exact hc
def Uc93:=useC [.x, .x] G93
theorem u93:CSound PP 93 Uc93:=useC_ok s93
def K95:List Tok:=[.A, .p .int, .p .int, .p .int, .p .int, .i .i64, .p .int, .i .i64, .p .op, .i .i64, .b, .E, .b]
def B95:Body K95:=fun x K=>Mi_StepOp x.1 x.2.1 x.2.2.1 x.2.2.2.1 x.2.2.2.2.1 x.2.2.2.2.2.1 x.2.2.2.2.2.2.1 x.2.2.2.2.2.2.2.1 x.2.2.2.2.2.2.2.2.1 x.2.2.2.2.2.2.2.2.2.1 x.2.2.2.2.2.2.2.2.2.2.1 (fun r1 r2 r3 r4 r5 r6 r7 r8 r9 r10 r11=>K (.tup [.agg [.sl 0, .sl 1, .sl 2, .sl 3, .int .i64 r1, .sl 4, .int .i64 r2, .sl 5, .int .i64 r3, .bool r4], .bool r5]) [⟨true, .list .int r6⟩,⟨true, .list .int r7⟩,⟨true, .list .int r8⟩,⟨true, .list .int r9⟩,⟨true, .list .int r10⟩,⟨true, .list .op r11⟩])
def G95:=rdG K95 B95
def H95:List (Nat×LH):=[]
def W95:List (Nat×List (Nat×List Nat)):=[]
def Γ95:List (Nat×Con):=[(146,Uc146)]
theorem e95:Eqn PP 18 Γ95 H95 W95 (bodyOf Tryz.f95) [.cell 4 56, .tmp 5] [.ag [.own .int, .own .int, .own .int, .own .int, .x, .own .int, .x, .own .op, .x, .bl], .bl] [] K95 B95:=fun _ _ _ _ _ _ _ _ _ _ _ K=>by kernel_rfl
theorem s95:CSound PP 95 G95:=fun_sk mixed Tryz.func95 (by decide) (by kernel_rfl) Tryz.ntmps95 Tryz.results95 (.cons u146 (GSound.nil)) e95
def Uc95:=useC [.ag [.pure .int, .pure .int, .pure .int, .pure .int, .x, .pure .int, .x, .pure .op, .x, .bl], .bl] G95
theorem u95:CSound PP 95 Uc95:=useC_ok s95
def K147:List Tok:=[.A, .p .int, .p .int, .p .int, .p .int, .E, .A, .i .i64, .p .int, .i .i64, .E]
def B147:Body K147:=fun x K=>Mi_SweptCell x.1 x.2.1 x.2.2.1 x.2.2.2.1 x.2.2.2.2.1 x.2.2.2.2.2.1 x.2.2.2.2.2.2.1 (fun r1=>K (.int .i64 r1) [])
def G147:=rdG K147 B147
def H147:List (Nat×LH):=[]
def W147:List (Nat×List (Nat×List Nat)):=[]
def Γ147:List (Nat×Con):=[(138,Uc138),(90,Uc90)]
theorem e147:Eqn PP 32 Γ147 H147 W147 (bodyOf Tryz.f147) [.tmp 4] [.x] [] K147 B147:=fun _ _ _ _ _ _ _ K=>by kernel_rfl
theorem s147:CSound PP 147 G147:=fun_sk mixed Tryz.func147 (by decide) (by kernel_rfl) Tryz.ntmps147 Tryz.results147 (.cons u138 (.cons u90 (GSound.nil))) e147
def Uc147:=useC [.ag [.pure .int, .pure .int, .pure .int, .pure .int], .ag [.x, .pure .int, .x]] G147
theorem u147:CSound PP 147 Uc147:=useC_ok s147
def K204:List Tok:=[.i .i64, .i .i64, .Q 0, .Q 1, .bC true, .L 2, .E, .bC true, .L 3, .E, .bL true .int, .bL true .int]
def B204:Body K204:=fun x K=>Mi_distances_1 x.1 x.2.1 x.2.2.1 x.2.2.2.1 (fun r1 r2=>K (.tup []) [⟨true, .cells [.sl 2]⟩,⟨true, .cells [.sl 4]⟩,⟨true, .list .int r1⟩,⟨true, .dead⟩,⟨true, .list .int r2⟩])
def G204:=rdG K204 B204
def H204:List (Nat×LH):=[]
def W204:List (Nat×List (Nat×List Nat)):=[]
def Γ204:List (Nat×Con):=[]
theorem e204:Eqn PP 23 Γ204 H204 W204 (bodyOf Tryz.f204) [] [] [3] K204 B204:=fun _ _ _ _ K=>by kernel_rfl
theorem s204:CSound PP 204 G204:=fun_sk mixed Tryz.func204 (by decide) (by kernel_rfl) Tryz.ntmps204 Tryz.results204 (GSound.nil) e204
def Uc204:=useC [.x, .x, .pc [.own .int], .pc [.own .int]] G204
theorem u204:CSound PP 204 Uc204:=useC_ok s204
def K157:List Tok:=[.A, .p .int, .p .int, .p .int, .E]
def B157:Body K157:=fun x K=>Mi_distances x.1 x.2.1 x.2.2.1 (fun r1=>K (.sl 0) [⟨true, .list .int r1⟩])
def G157:=rdG K157 B157
noncomputable def H157_0:=mkH [(1, .pc [.pure .int, .pure .int, .pure .int]),(3, .pc [.own .int]),(4, .pc [.own .int]),(5, .x),(16, .pure .int),(17, .x),(18, .x)] [.Q 0, .Q 1, .Q 2, .F 204, .N, .Q 1, .Q 2, .E, .p .int, .i .i64, .i .i64, .bC true, .p .int, .p .int, .p .int, .E, .bC true, .L 3, .E, .bC true, .L 4, .E, .bL true .int, .bL true .int]
noncomputable def H157_2:=mkH [(1, .pc [.pure .int, .pure .int, .pure .int]),(3, .pc [.own .int]),(4, .pc [.own .int]),(5, .x),(8, .x)] [.Q 0, .Q 1, .Q 2, .F 204, .N, .Q 1, .Q 2, .E, .i .i64, .bC true, .p .int, .p .int, .p .int, .E, .bC true, .L 3, .E, .bC true, .L 4, .E, .bL true .int, .bL true .int]
noncomputable def H157:List (Nat×LH):=[(0,H157_0),(2,H157_2)]
def W157:List (Nat×List (Nat×List Nat)):=[]
def Γ157:List (Nat×Con):=[(204,Uc204)]
theorem e157:Eqn PP 69 Γ157 H157 W157 (bodyOf Tryz.f157) [.tmp 2] [.own .int] [] K157 B157:=fun _ _ _ K=>by kernel_rfl
theorem s157:CSound PP 157 G157:=fun_sk mixed Tryz.func157 (by decide) (by kernel_rfl) Tryz.ntmps157 Tryz.results157 (.cons u204 (GSound.nil)) e157
def Uc157:=useC [.ag [.pure .int, .pure .int, .pure .int]] G157
theorem u157:CSound PP 157 Uc157:=useC_ok s157
def K136:List Tok:=[.A, .p .int, .p .int, .p .int, .E]
def B136:Body K136:=fun x K=>Mi_Reachable x.1 x.2.1 x.2.2.1 (fun r1=>K (.sl 0) [⟨true, .list .bool r1⟩])
def G136:=rdG K136 B136
noncomputable def H136_0:=mkH [(3, .own .bool),(11, .own .int),(12, .x),(13, .x)] [.L 0, .L 1, .i .i64, .i .i64, .bL true .bool, .bL true .int]
noncomputable def H136:List (Nat×LH):=[(0,H136_0)]
def W136:List (Nat×List (Nat×List Nat)):=[]
def Γ136:List (Nat×Con):=[(79,Uc79),(157,Uc157)]
theorem e136:Eqn PP 24 Γ136 H136 W136 (bodyOf Tryz.f136) [.tmp 2] [.own .bool] [] K136 B136:=fun _ _ _ K=>by kernel_rfl
theorem s136:CSound PP 136 G136:=fun_sk mixed Tryz.func136 (by decide) (by kernel_rfl) Tryz.ntmps136 Tryz.results136 (.cons u79 (.cons u157 (GSound.nil))) e136
def Uc136:=useC [.ag [.pure .int, .pure .int, .pure .int]] G136
theorem u136:CSound PP 136 Uc136:=useC_ok s136
def K191:List Tok:=[.A, .p .int, .p .int, .p .int, .E, .L 0, .bL true .int]
def B191:Body K191:=fun x K=>Mi_look x.1 x.2.1 x.2.2.1 x.2.2.2.1 (fun r1 r2=>K (.bool r1) [⟨true, .list .int r2⟩])
def G191:=rdG K191 B191
def H191:List (Nat×LH):=[]
def W191:List (Nat×List (Nat×List Nat)):=[]
def Γ191:List (Nat×Con):=[(82,Uc82),(190,Uc190)]
theorem e191:Eqn PP 27 Γ191 H191 W191 (bodyOf Tryz.f191) [.tmp 4] [.bl] [] K191 B191:=fun _ _ _ _ K=>by kernel_rfl
theorem s191:CSound PP 191 G191:=fun_sk mixed Tryz.func191 (by decide) (by kernel_rfl) Tryz.ntmps191 Tryz.results191 (.cons u82 (.cons u190 (GSound.nil))) e191
def Uc191:=useC [.ag [.pure .int, .pure .int, .pure .int], .own .int] G191
theorem u191:CSound PP 191 Uc191:=useC_ok s191
def K193:List Tok:=[.i .i64, .Q 0, .bC false, .i .i64, .L 1, .i .i64, .E, .bL false .int]
def B193:Body K193:=fun x K=>Mi_StepGc_1 x.1 x.2.1 x.2.2.1 x.2.2.2.1 (fun r1=>K (.bool r1) [⟨false, .cells [.int .i64 x.2.1, .sl 1, .int .i64 x.2.2.1]⟩,⟨false, .list .int x.2.2.2.1⟩])
def G193:=rdG K193 B193
def H193:List (Nat×LH):=[]
def W193:List (Nat×List (Nat×List Nat)):=[]
def Γ193:List (Nat×Con):=[]
theorem e193:Eqn PP 14 Γ193 H193 W193 (bodyOf Tryz.f193) [.tmp 3] [.bl] [] K193 B193:=fun _ _ _ _ K=>by kernel_rfl
theorem s193:CSound PP 193 G193:=fun_sk mixed Tryz.func193 (by decide) (by kernel_rfl) Tryz.ntmps193 Tryz.results193 (GSound.nil) e193
def Uc193:=useC [.x, .pc [.x, .own .int, .x]] (onlyC [] G193)
theorem u193:CSound PP 193 Uc193:=useC_ok (onlyC_ok s193)
def K192:List Tok:=[.p .int, .F 193, .N, .Q 0, .E, .bC false, .i .i64, .L 1, .i .i64, .E, .bL false .int]
def B192:Body K192:=fun x K=>M_IndexFunc_int x.1 x.2.1 x.2.2.1 x.2.2.2.1 (fun r1 r2 r3 r4=>K (.int .i64 r1) [⟨false, .cells [.int .i64 r2, .sl 1, .int .i64 r3]⟩,⟨false, .list .int r4⟩])
def G192:=rdG K192 B192
noncomputable def H192_0:=mkH [(0, .pure .int),(1, .x),(7, .x),(8, .x)] [.p .int, .F 193, .N, .Q 0, .E, .i .i64, .i .i64, .bC false, .i .i64, .L 1, .i .i64, .E, .bL false .int]
noncomputable def H192:List (Nat×LH):=[(0,H192_0)]
def W192:List (Nat×List (Nat×List Nat)):=[]
def Γ192:List (Nat×Con):=[(193,Uc193)]
theorem e192:Eqn PP 19 Γ192 H192 W192 (bodyOf Tryz.f192) [.tmp 4] [.x] [] K192 B192:=fun _ _ _ _ K=>by kernel_rfl
theorem s192:CSound PP 192 G192:=fun_sk mixed Tryz.func192 (by decide) (by kernel_rfl) Tryz.ntmps192 Tryz.results192 (.cons u193 (GSound.nil)) e192
def Uc192:=useC [.pure .int, .x] (onlyC [] G192)
theorem u192:CSound PP 192 Uc192:=useC_ok (onlyC_ok s192)
def K194:List Tok:=[.Q 0, .p .int, .bC true, .L 1, .L 2, .L 3, .L 4, .E, .bL true .int, .bL true .int, .bL true .int, .bL true .int]
def B194:Body K194:=fun x K=>Mi_Store_clear x.1 x.2.1 x.2.2.1 x.2.2.2.1 x.2.2.2.2.1 (fun r1 r2 r3 r4=>K (.tup []) [⟨true, .cells [.sl 1, .sl 2, .sl 3, .sl 5]⟩,⟨true, .list .int r1⟩,⟨true, .list .int r2⟩,⟨true, .list .int r3⟩,⟨true, .dead⟩,⟨true, .list .int r4⟩])
def G194:=rdG K194 B194
noncomputable def H194_0:=mkH [(0, .pc [.own .int, .own .int, .own .int, .mv .int]),(7, .pure .int),(8, .x),(9, .x)] [.Q 0, .p .int, .i .i64, .i .i64, .bC true, .L 1, .L 2, .L 3, .L 5, .E, .bL true .int, .bL true .int, .bL true .int, .bD true, .bL true .int]
noncomputable def H194_2:=mkH [(0, .pc [.own .int, .own .int, .own .int, .own .int]),(5, .x),(7, .pure .int),(8, .x),(9, .x),(32, .x),(33, .x)] [.Q 0, .i .i64, .p .int, .i .i64, .i .i64, .i .i64, .i .i64, .bC true, .L 1, .L 2, .L 3, .L 5, .E, .bL true .int, .bL true .int, .bL true .int, .bD true, .bL true .int]
noncomputable def H194:List (Nat×LH):=[(0,H194_0),(2,H194_2)]
def W194:List (Nat×List (Nat×List Nat)):=[]
def Γ194:List (Nat×Con):=[]
theorem e194:Eqn PP 82 Γ194 H194 W194 (bodyOf Tryz.f194) [] [] [4] K194 B194:=fun _ _ _ _ _ K=>by kernel_rfl
theorem s194:CSound PP 194 G194:=fun_sk mixed Tryz.func194 (by decide) (by kernel_rfl) Tryz.ntmps194 Tryz.results194 (GSound.nil) e194
def Uc194:=useC [.pc [.own .int, .own .int, .own .int, .own .int], .pure .int] G194
theorem u194:CSound PP 194 Uc194:=useC_ok s194
def K148:List Tok:=[.A, .p .int, .p .int, .p .int, .p .int, .E, .A, .i .i64, .p .int, .i .i64, .E]
def B148:Body K148:=fun x K=>Mi_StepGc x.1 x.2.1 x.2.2.1 x.2.2.2.1 x.2.2.2.2.1 x.2.2.2.2.2.1 x.2.2.2.2.2.2.1 (fun r1 r2 r3 r4 r5 r6 r7 r8=>K (.tup [.agg [.sl 0, .sl 1, .sl 2, .sl 3], .agg [.int .i64 r1, .sl 4, .int .i64 r2], .bool r3]) [⟨true, .list .int r4⟩,⟨true, .list .int r5⟩,⟨true, .list .int r6⟩,⟨true, .list .int r7⟩,⟨true, .list .int r8⟩])
def G148:=rdG K148 B148
noncomputable def H148_1000004:=mkH [(2, .pc [.pure .int, .pure .int, .pure .int, .pure .int]),(3, .pc [.x, .pure .int, .x]),(4, .pc [.own .int, .own .int, .own .int, .own .int]),(5, .pc [.x, .own .int, .x]),(7, .x)] [.Q 0, .Q 1, .Q 2, .Q 3, .i .i64, .bC true, .p .int, .p .int, .p .int, .p .int, .E, .bC true, .i .i64, .p .int, .i .i64, .E, .bC true, .L 4, .L 5, .L 6, .L 7, .E, .bC true, .i .i64, .L 8, .i .i64, .E, .bL true .int, .bL true .int, .bL true .int, .bL true .int, .bL true .int]
noncomputable def H148_1000027:=mkH [(2, .pc [.own .int, .own .int, .own .int, .own .int]),(3, .pc [.x, .own .int, .x]),(4, .pc [.own .int, .own .int, .own .int, .own .int]),(5, .pc [.x, .own .int, .x])] [.Q 0, .Q 1, .Q 2, .Q 3, .bC true, .L 4, .L 5, .L 6, .L 7, .E, .bC true, .i .i64, .L 8, .i .i64, .E, .bC true, .L 9, .L 10, .L 11, .L 12, .E, .bC true, .i .i64, .L 13, .i .i64, .E, .bL true .int, .bL true .int, .bL true .int, .bL true .int, .bL true .int, .bL true .int, .bL true .int, .bL true .int, .bL true .int, .bL true .int]
noncomputable def H148:List (Nat×LH):=[(1000004,H148_1000004),(1000027,H148_1000027)]
def W148:List (Nat×List (Nat×List Nat)):=[(27,[(2,[2])])]
def Γ148:List (Nat×Con):=[(147,Uc147),(138,Uc138),(90,Uc90),(74,Uc74),(130,Uc130),(190,Uc190),(191,Uc191),(192,Uc192),(194,Uc194)]
def S148_27 (s:H148_1000027.S) (K:TV→TMem→Prop):Prop:=Mi_StepGc_c27 s.1 s.2.1 s.2.2.1 s.2.2.2.1 s.2.2.2.2.1 s.2.2.2.2.2.1 s.2.2.2.2.2.2.1 s.2.2.2.2.2.2.2.1 s.2.2.2.2.2.2.2.2.1 s.2.2.2.2.2.2.2.2.2.1 s.2.2.2.2.2.2.2.2.2.2.1 s.2.2.2.2.2.2.2.2.2.2.2.1 s.2.2.2.2.2.2.2.2.2.2.2.2.1 s.2.2.2.2.2.2.2.2.2.2.2.2.2 (fun r1 r2 r3 r4 r5 r6 r7 r8=>K (.tup [.agg [.sl 0, .sl 1, .sl 2, .sl 3], .agg [.int .i64 r1, .sl 4, .int .i64 r2], .bool r3]) [⟨true, .list .int r4⟩,⟨true, .list .int r5⟩,⟨true, .list .int r6⟩,⟨true, .list .int r7⟩,⟨true, .list .int r8⟩])
def J148_27 (K:TV→TMem→Prop) (ts:TFrm) (tm:TMem):Prop:=headT 0 H148_1000027 ts tm fun s=>S148_27 s K
theorem q148_27 (s:H148_1000027.S) (K:TV→TMem→Prop):segT PP 119 Γ148 H148 W148 0 (sufC 6 (bodyOf Tryz.f148)) (endT PP 119 [.cell 4 33, .cell 5 54, .tmp 6] [.ag [.own .int, .own .int, .own .int, .own .int], .ag [.x, .own .int, .x], .bl] [] 0 K) (frameOf H148_1000027.keep (H148_1000027.enc s).1) (H148_1000027.enc s).2=S148_27 s K:=by kernel_rfl
theorem j148_27 (K:TV→TMem→Prop) (ts:TFrm) (tm:TMem):J148_27 K ts tm=TW PP 119 Γ148 H148 W148 0 (sufC 6 (bodyOf Tryz.f148)) (endT PP 119 [.cell 4 33, .cell 5 54, .tmp 6] [.ag [.own .int, .own .int, .own .int, .own .int], .ag [.x, .own .int, .x], .bl] [] 0 K) ts tm:=
 TW_seg (by kernel_rfl:regOf (sufC 6 (bodyOf Tryz.f148))=some 27) (by kernel_rfl) (fun s=>q148_27 s K) ts tm
def S148_4 (s:H148_1000004.S) (K:TV→TMem→Prop):Prop:=Mi_StepGc_c4 s.1 s.2.1 s.2.2.1 s.2.2.2.1 s.2.2.2.2.1 s.2.2.2.2.2.1 s.2.2.2.2.2.2.1 s.2.2.2.2.2.2.2.1 s.2.2.2.2.2.2.2.2.1 s.2.2.2.2.2.2.2.2.2.1 s.2.2.2.2.2.2.2.2.2.2.1 s.2.2.2.2.2.2.2.2.2.2.2.1 s.2.2.2.2.2.2.2.2.2.2.2.2.1 s.2.2.2.2.2.2.2.2.2.2.2.2.2.1 s.2.2.2.2.2.2.2.2.2.2.2.2.2.2 (fun r1 r2 r3 r4 r5 r6 r7 r8=>K (.tup [.agg [.sl 0, .sl 1, .sl 2, .sl 3], .agg [.int .i64 r1, .sl 4, .int .i64 r2], .bool r3]) [⟨true, .list .int r4⟩,⟨true, .list .int r5⟩,⟨true, .list .int r6⟩,⟨true, .list .int r7⟩,⟨true, .list .int r8⟩])
def J148_4 (K:TV→TMem→Prop) (ts:TFrm) (tm:TMem):Prop:=headT 0 H148_1000004 ts tm fun s=>S148_4 s K
theorem r148_4 (s:H148_1000004.S) (K:TV→TMem→Prop):segN PP 119 Γ148 H148 W148 0 2 (sufC 3 (bodyOf Tryz.f148)) (J148_27 K) (endT PP 119 [.cell 4 33, .cell 5 54, .tmp 6] [.ag [.own .int, .own .int, .own .int, .own .int], .ag [.x, .own .int, .x], .bl] [] 0 K) (frameOf H148_1000004.keep (H148_1000004.enc s).1) (H148_1000004.enc s).2=S148_4 s K:=by kernel_rfl
theorem q148_4 (s:H148_1000004.S) (K:TV→TMem→Prop):segT PP 119 Γ148 H148 W148 0 (sufC 3 (bodyOf Tryz.f148)) (endT PP 119 [.cell 4 33, .cell 5 54, .tmp 6] [.ag [.own .int, .own .int, .own .int, .own .int], .ag [.x, .own .int, .x], .bl] [] 0 K) (frameOf H148_1000004.keep (H148_1000004.enc s).1) (H148_1000004.enc s).2=S148_4 s K:=
 (segN_eq (by kernel_rfl) fun ts tm=>(j148_27 K ts tm).trans (congrArg (fun c=>TW PP 119 Γ148 H148 W148 0 c (endT PP 119 [.cell 4 33, .cell 5 54, .tmp 6] [.ag [.own .int, .own .int, .own .int, .own .int], .ag [.x, .own .int, .x], .bl] [] 0 K) ts tm) (sufC_split 3 2 6 rfl _))).trans (r148_4 s K)
theorem j148_4 (K:TV→TMem→Prop) (ts:TFrm) (tm:TMem):J148_4 K ts tm=TW PP 119 Γ148 H148 W148 0 (sufC 3 (bodyOf Tryz.f148)) (endT PP 119 [.cell 4 33, .cell 5 54, .tmp 6] [.ag [.own .int, .own .int, .own .int, .own .int], .ag [.x, .own .int, .x], .bl] [] 0 K) ts tm:=
 TW_seg (by kernel_rfl:regOf (sufC 3 (bodyOf Tryz.f148))=some 4) (by kernel_rfl) (fun s=>q148_4 s K) ts tm
theorem ea148:AllL (lvs K148) fun x=>∀K,TWn PP 119 Γ148 H148 W148 0 3 (bodyOf Tryz.f148) (J148_4 K) (endT PP 119 [.cell 4 33, .cell 5 54, .tmp 6] [.ag [.own .int, .own .int, .own .int, .own .int], .ag [.x, .own .int, .x], .bl] [] 0 K) (argsF (wr K148 x).1) (wr K148 x).2.2=B148 x K:=fun _ _ _ _ _ _ _ K=>by kernel_rfl
theorem e148:Eqn PP 119 Γ148 H148 W148 (bodyOf Tryz.f148) [.cell 4 33, .cell 5 54, .tmp 6] [.ag [.own .int, .own .int, .own .int, .own .int], .ag [.x, .own .int, .x], .bl] [] K148 B148:=fun x0 x1 x2 x3 x4 x5 x6 K=>
 (congrFun (congrFun (TWn_eq 3 _ (by kernel_rfl) fun ts tm=>j148_4 K ts tm) _) _).trans (ea148 x0 x1 x2 x3 x4 x5 x6 K)
theorem s148:CSound PP 148 G148:=fun_sk mixed Tryz.func148 (by decide) (by kernel_rfl) Tryz.ntmps148 Tryz.results148 (.cons u147 (.cons u138 (.cons u90 (.cons u74 (.cons u130 (.cons u190 (.cons u191 (.cons u192 (.cons u194 (GSound.nil)))))))))) e148
def Uc148:=useC [.ag [.pure .int, .pure .int, .pure .int, .pure .int], .ag [.x, .pure .int, .x]] G148
theorem u148:CSound PP 148 Uc148:=useC_ok s148
def K96:List Tok:=[.A, .p .int, .p .int, .p .int, .p .int, .i .i64, .p .int, .i .i64, .p .op, .i .i64, .b, .E]
def B96:Body K96:=fun x K=>Mi_StepBoth x.1 x.2.1 x.2.2.1 x.2.2.2.1 x.2.2.2.2.1 x.2.2.2.2.2.1 x.2.2.2.2.2.2.1 x.2.2.2.2.2.2.2.1 x.2.2.2.2.2.2.2.2.1 x.2.2.2.2.2.2.2.2.2.1 (fun r1 r2 r3 r4 r5 r6 r7 r8 r9 r10 r11=>K (.tup [.agg [.sl 0, .sl 1, .sl 2, .sl 3, .int .i64 r1, .sl 4, .int .i64 r2, .sl 5, .int .i64 r3, .bool r4], .bool r5]) [⟨true, .list .int r6⟩,⟨true, .list .int r7⟩,⟨true, .list .int r8⟩,⟨true, .list .int r9⟩,⟨true, .list .int r10⟩,⟨true, .list .op r11⟩])
def G96:=rdG K96 B96
def H96:List (Nat×LH):=[]
def W96:List (Nat×List (Nat×List Nat)):=[]
def Γ96:List (Nat×Con):=[(92,Uc92),(94,Uc94),(147,Uc147),(136,Uc136),(148,Uc148)]
theorem e96:Eqn PP 45 Γ96 H96 W96 (bodyOf Tryz.f96) [.cell 2 56, .tmp 3] [.ag [.own .int, .own .int, .own .int, .own .int, .x, .own .int, .x, .own .op, .x, .bl], .bl] [] K96 B96:=fun _ _ _ _ _ _ _ _ _ _ K=>by kernel_rfl
theorem s96:CSound PP 96 G96:=fun_sk mixed Tryz.func96 (by decide) (by kernel_rfl) Tryz.ntmps96 Tryz.results96 (.cons u92 (.cons u94 (.cons u147 (.cons u136 (.cons u148 (GSound.nil)))))) e96
def Uc96:=useC [.ag [.pure .int, .pure .int, .pure .int, .pure .int, .x, .pure .int, .x, .pure .op, .x, .bl]] G96
theorem u96:CSound PP 96 Uc96:=useC_ok s96
def K39:List Tok:=[.A, .p .int, .p .int, .p .int, .p .int, .i .i64, .p .int, .i .i64, .p .op, .i .i64, .b, .E, .s, .b]
def B39:Body K39:=fun x K=>Mi_RunBoth x.1 x.2.1 x.2.2.1 x.2.2.2.1 x.2.2.2.2.1 x.2.2.2.2.2.1 x.2.2.2.2.2.2.1 x.2.2.2.2.2.2.2.1 x.2.2.2.2.2.2.2.2.1 x.2.2.2.2.2.2.2.2.2.1 x.2.2.2.2.2.2.2.2.2.2.1 x.2.2.2.2.2.2.2.2.2.2.2.1 (fun r1 r2 r3 r4 r5 r6 r7 r8 r9 r10 r11=>K (.tup [.agg [.sl 0, .sl 1, .sl 2, .sl 3, .int .i64 r1, .sl 4, .int .i64 r2, .sl 5, .int .i64 r3, .bool r4], .bool r5]) [⟨true, .list .int r6⟩,⟨true, .list .int r7⟩,⟨true, .list .int r8⟩,⟨true, .list .int r9⟩,⟨true, .list .int r10⟩,⟨true, .list .op r11⟩])
def G39:=rdG K39 B39
noncomputable def H39_0:=mkH [(1, .x),(2, .bl),(3, .pc [.own .int, .own .int, .own .int, .own .int, .x, .own .int, .x, .own .op, .x, .bl]),(6, .pc [.own .int, .own .int, .own .int, .own .int, .x, .own .int, .x, .own .op, .x, .bl]),(28, .x),(29, .x)] [.s, .b, .Q 0, .Q 1, .i .i64, .i .i64, .bC true, .L 2, .L 3, .L 4, .L 5, .i .i64, .L 6, .i .i64, .L 7, .i .i64, .b, .E, .bC true, .L 8, .L 9, .L 10, .L 11, .i .i64, .L 12, .i .i64, .L 13, .i .i64, .b, .E, .bL true .int, .bL true .int, .bL true .int, .bL true .int, .bL true .int, .bL true .op, .bL true .int, .bL true .int, .bL true .int, .bL true .int, .bL true .int, .bL true .op]
noncomputable def H39:List (Nat×LH):=[(0,H39_0)]
def W39:List (Nat×List (Nat×List Nat)):=[]
def Γ39:List (Nat×Con):=[(92,Uc92),(93,Uc93),(94,Uc94),(95,Uc95),(96,Uc96)]
theorem e39:Eqn PP 52 Γ39 H39 W39 (bodyOf Tryz.f39) [.cell 6 56, .tmp 7] [.ag [.own .int, .own .int, .own .int, .own .int, .x, .own .int, .x, .own .op, .x, .bl], .bl] [] K39 B39:=fun _ _ _ _ _ _ _ _ _ _ _ _ K=>by kernel_rfl
theorem s39:CSound PP 39 G39:=fun_sk mixed Tryz.func39 (by decide) (by kernel_rfl) Tryz.ntmps39 Tryz.results39 (.cons u92 (.cons u93 (.cons u94 (.cons u95 (.cons u96 (GSound.nil)))))) e39
def Uc39:=useC [.ag [.pure .int, .pure .int, .pure .int, .pure .int, .x, .pure .int, .x, .pure .op, .x, .bl], .x, .bl] G39
theorem u39:CSound PP 39 Uc39:=useC_ok s39
def K83:List Tok:=[.i .i64]
def B83:Body K83:=fun x K=>Mi_digit x.1 (fun r1=>K (.str r1) [])
def G83:=rdG K83 B83
def H83:List (Nat×LH):=[]
def W83:List (Nat×List (Nat×List Nat)):=[]
def Γ83:List (Nat×Con):=[(69,Uc69)]
theorem e83:Eqn PP 7 Γ83 H83 W83 (bodyOf Tryz.f83) [.tmp 2] [.x] [] K83 B83:=fun _ K=>by kernel_rfl
theorem s83:CSound PP 83 G83:=fun_sk mixed Tryz.func83 (by decide) (by kernel_rfl) Tryz.ntmps83 Tryz.results83 (.cons u69 (GSound.nil)) e83
def Uc83:=useC [.x] G83
theorem u83:CSound PP 83 Uc83:=useC_ok s83
def K33:List Tok:=[.A, .p .int, .p .int, .p .int, .E]
def B33:Body K33:=fun x K=>Mi_FormatHeap x.1 x.2.1 x.2.2.1 (fun r1=>K (.str r1) [])
def G33:=rdG K33 B33
noncomputable def H33_0:=mkH [(1, .pc [.pure .int, .pure .int, .pure .int]),(3, .x),(12, .x),(13, .x)] [.Q 0, .s, .i .i64, .i .i64, .bC true, .p .int, .p .int, .p .int, .E]
noncomputable def H33_2:=mkH [(3, .x),(36, .pure .int),(37, .x),(38, .x)] [.s, .p .int, .i .i64, .i .i64]
noncomputable def H33:List (Nat×LH):=[(0,H33_0),(2,H33_2)]
def W33:List (Nat×List (Nat×List Nat)):=[]
def Γ33:List (Nat×Con):=[(79,Uc79),(83,Uc83)]
theorem e33:Eqn PP 49 Γ33 H33 W33 (bodyOf Tryz.f33) [.tmp 2] [.x] [] K33 B33:=fun _ _ _ K=>by kernel_rfl
theorem s33:CSound PP 33 G33:=fun_sk mixed Tryz.func33 (by decide) (by kernel_rfl) Tryz.ntmps33 Tryz.results33 (.cons u79 (.cons u83 (GSound.nil))) e33
def Uc33:=useC [.ag [.pure .int, .pure .int, .pure .int]] G33
theorem u33:CSound PP 33 Uc33:=useC_ok s33
def K66:List Tok:=[.p .int]
def B66:Body K66:=fun x K=>Mi_spaced x.1 (fun r1=>K (.str r1) [])
def G66:=rdG K66 B66
noncomputable def H66_0:=mkH [(3, .x),(6, .pure .int),(7, .x),(8, .x)] [.s, .p .int, .i .i64, .i .i64]
noncomputable def H66:List (Nat×LH):=[(0,H66_0)]
def W66:List (Nat×List (Nat×List Nat)):=[]
def Γ66:List (Nat×Con):=[(69,Uc69)]
theorem e66:Eqn PP 19 Γ66 H66 W66 (bodyOf Tryz.f66) [.tmp 2] [.x] [] K66 B66:=fun _ K=>by kernel_rfl
theorem s66:CSound PP 66 G66:=fun_sk mixed Tryz.func66 (by decide) (by kernel_rfl) Tryz.ntmps66 Tryz.results66 (.cons u69 (GSound.nil)) e66
def Uc66:=useC [.pure .int] G66
theorem u66:CSound PP 66 Uc66:=useC_ok s66
def K24:List Tok:=[.A, .p .int, .p .int, .p .int, .p .int, .E]
def B24:Body K24:=fun x K=>Mi_FormatStore x.1 x.2.1 x.2.2.1 x.2.2.2.1 (fun r1=>K (.str r1) [])
def G24:=rdG K24 B24
def H24:List (Nat×LH):=[]
def W24:List (Nat×List (Nat×List Nat)):=[]
def Γ24:List (Nat×Con):=[(65,Uc65),(33,Uc33),(66,Uc66)]
theorem e24:Eqn PP 14 Γ24 H24 W24 (bodyOf Tryz.f24) [.tmp 2] [.x] [] K24 B24:=fun _ _ _ _ K=>by kernel_rfl
theorem s24:CSound PP 24 G24:=fun_sk mixed Tryz.func24 (by decide) (by kernel_rfl) Tryz.ntmps24 Tryz.results24 (.cons u65 (.cons u33 (.cons u66 (GSound.nil)))) e24
def Uc24:=useC [.ag [.pure .int, .pure .int, .pure .int, .pure .int]] G24
theorem u24:CSound PP 24 Uc24:=useC_ok s24
def K40:List Tok:=[.A, .p .int, .p .int, .p .int, .p .int, .i .i64, .p .int, .i .i64, .p .op, .i .i64, .b, .E]
def B40:Body K40:=fun x K=>Mi_FormatBoth x.1 x.2.1 x.2.2.1 x.2.2.2.1 x.2.2.2.2.1 x.2.2.2.2.2.1 x.2.2.2.2.2.2.1 x.2.2.2.2.2.2.2.1 x.2.2.2.2.2.2.2.2.1 x.2.2.2.2.2.2.2.2.2.1 (fun r1=>K (.str r1) [])
def G40:=rdG K40 B40
noncomputable def H40_0:=mkH [(1, .pc [.pure .int, .pure .int, .pure .int, .pure .int, .x, .pure .int, .x, .pure .op, .x, .bl]),(3, .x),(29, .pure .int),(30, .x),(31, .x)] [.Q 0, .s, .p .int, .i .i64, .i .i64, .bC true, .p .int, .p .int, .p .int, .p .int, .i .i64, .p .int, .i .i64, .p .op, .i .i64, .b, .E]
noncomputable def H40:List (Nat×LH):=[(0,H40_0)]
def W40:List (Nat×List (Nat×List Nat)):=[]
def Γ40:List (Nat×Con):=[(92,Uc92),(24,Uc24),(69,Uc69)]
theorem e40:Eqn PP 53 Γ40 H40 W40 (bodyOf Tryz.f40) [.tmp 2] [.x] [] K40 B40:=fun _ _ _ _ _ _ _ _ _ _ K=>by kernel_rfl
theorem s40:CSound PP 40 G40:=fun_sk mixed Tryz.func40 (by decide) (by kernel_rfl) Tryz.ntmps40 Tryz.results40 (.cons u92 (.cons u24 (.cons u69 (GSound.nil)))) e40
def Uc40:=useC [.ag [.pure .int, .pure .int, .pure .int, .pure .int, .x, .pure .int, .x, .pure .op, .x, .bl]] G40
theorem u40:CSound PP 40 Uc40:=useC_ok s40
def K158:List Tok:=[.A, .p .int, .p .int, .p .int, .E, .i .i64]
def B158:Body K158:=fun x K=>Mi_SourcesOf x.1 x.2.1 x.2.2.1 x.2.2.2.1 (fun r1=>K (.sl 0) [⟨true, .list .int r1⟩])
def G158:=rdG K158 B158
noncomputable def H158_0:=mkH [(1, .x),(2, .pc [.pure .int, .pure .int, .pure .int]),(5, .own .int),(14, .x),(15, .x)] [.i .i64, .Q 0, .L 1, .i .i64, .i .i64, .bC true, .p .int, .p .int, .p .int, .E, .bL true .int]
noncomputable def H158:List (Nat×LH):=[(0,H158_0)]
def W158:List (Nat×List (Nat×List Nat)):=[]
def Γ158:List (Nat×Con):=[(156,Uc156)]
theorem e158:Eqn PP 40 Γ158 H158 W158 (bodyOf Tryz.f158) [.tmp 4] [.own .int] [] K158 B158:=fun _ _ _ _ K=>by kernel_rfl
theorem s158:CSound PP 158 G158:=fun_sk mixed Tryz.func158 (by decide) (by kernel_rfl) Tryz.ntmps158 Tryz.results158 (.cons u156 (GSound.nil)) e158
def Uc158:=useC [.ag [.pure .int, .pure .int, .pure .int], .x] G158
theorem u158:CSound PP 158 Uc158:=useC_ok s158
def K103:List Tok:=[.A, .p .int, .p .int, .p .int, .E, .i .i64]
def B103:Body K103:=fun x K=>Mi_PathTo x.1 x.2.1 x.2.2.1 x.2.2.2.1 (fun r1 r2=>K (.tup [.sl 0, .bool r1]) [⟨true, .list .int r2⟩])
def G103:=rdG K103 B103
noncomputable def H103_0:=mkH [(2, .pc [.pure .int, .pure .int, .pure .int]),(6, .own .int),(7, .own .int)] [.Q 0, .L 1, .L 2, .bC true, .p .int, .p .int, .p .int, .E, .bL true .int, .bL true .int]
noncomputable def H103_2:=mkH [(2, .pc [.pure .int, .pure .int, .pure .int]),(6, .own .int),(7, .own .int),(34, .own .int),(35, .x),(36, .x)] [.Q 0, .L 1, .L 2, .L 3, .i .i64, .i .i64, .bC true, .p .int, .p .int, .p .int, .E, .bL true .int, .bL true .int, .bL true .int]
noncomputable def H103:List (Nat×LH):=[(0,H103_0),(2,H103_2)]
def W103:List (Nat×List (Nat×List Nat)):=[]
def Γ103:List (Nat×Con):=[(156,Uc156),(157,Uc157),(158,Uc158)]
theorem e103:Eqn PP 58 Γ103 H103 W103 (bodyOf Tryz.f103) [.tmp 4, .tmp 5] [.own .int, .bl] [] K103 B103:=fun _ _ _ _ K=>by kernel_rfl
theorem s103:CSound PP 103 G103:=fun_sk mixed Tryz.func103 (by decide) (by kernel_rfl) Tryz.ntmps103 Tryz.results103 (.cons u156 (.cons u157 (.cons u158 (GSound.nil)))) e103
def Uc103:=useC [.ag [.pure .int, .pure .int, .pure .int], .x] G103
theorem u103:CSound PP 103 Uc103:=useC_ok s103
def K46:List Tok:=[.Q 0, .s, .s, .bC true, .L 1, .L 2, .L 3, .L 4, .i .i64, .L 5, .i .i64, .L 6, .i .i64, .b, .b, .S 0 11 73, .B 7, .E, .bL true .int, .bL true .int, .bL true .int, .bL true .int, .bL true .int, .bL true .op, .bL true .byte]
def B46:Body K46:=fun x K=>Mi_desk_rest x.1 x.2.1 x.2.2.1 x.2.2.2.1 x.2.2.2.2.1 x.2.2.2.2.2.1 x.2.2.2.2.2.2.1 x.2.2.2.2.2.2.2.1 x.2.2.2.2.2.2.2.2.1 x.2.2.2.2.2.2.2.2.2.1 x.2.2.2.2.2.2.2.2.2.2.1 x.2.2.2.2.2.2.2.2.2.2.2.1 x.2.2.2.2.2.2.2.2.2.2.2.2.1 x.2.2.2.2.2.2.2.2.2.2.2.2.2.1 (fun r1 r2 r3 r4 r5 r6 r7 r8 r9 r10 r11 r12 r13=>K (.bool r1) [⟨true, .cells [.sl 8, .sl 9, .sl 10, .sl 11, .int .i64 r2, .sl 12, .int .i64 r3, .sl 13, .int .i64 r4, .bool r5, .bool r6, .slf 0 11 73, .sb 14]⟩,⟨true, .dead⟩,⟨true, .dead⟩,⟨true, .dead⟩,⟨true, .dead⟩,⟨true, .dead⟩,⟨true, .dead⟩,⟨true, .dead⟩,⟨true, .list .int r7⟩,⟨true, .list .int r8⟩,⟨true, .list .int r9⟩,⟨true, .list .int r10⟩,⟨true, .list .int r11⟩,⟨true, .list .op r12⟩,⟨true, .list .byte r13⟩])
def G46:=rdG K46 B46
def H46:List (Nat×LH):=[]
def W46:List (Nat×List (Nat×List Nat)):=[]
def Γ46:List (Nat×Con):=[(45,Uc45),(100,Uc100),(41,Uc41),(44,Uc44),(101,Uc101),(102,Uc102),(77,Uc77),(39,Uc39),(40,Uc40),(103,Uc103),(66,Uc66)]
theorem e46:Eqn PP 166 Γ46 H46 W46 (bodyOf Tryz.f46) [.tmp 6] [.bl] [1,2,3,4,5,6,7] K46 B46:=fun _ _ _ _ _ _ _ _ _ _ _ _ _ _ K=>by kernel_rfl
theorem s46:CSound PP 46 G46:=fun_sk mixed Tryz.func46 (by decide) (by kernel_rfl) Tryz.ntmps46 Tryz.results46 (.cons u45 (.cons u100 (.cons u41 (.cons u44 (.cons u101 (.cons u102 (.cons u77 (.cons u39 (.cons u40 (.cons u103 (.cons u66 (GSound.nil)))))))))))) e46
def Uc46:=useC [.pc [.own .int, .own .int, .own .int, .own .int, .x, .own .int, .x, .own .op, .x, .bl, .bl, .x, .x], .x, .x] G46
theorem u46:CSound PP 46 Uc46:=useC_ok s46
def K104:List Tok:=[.A, .p .int, .p .int, .p .int, .p .int, .i .i64, .p .int, .i .i64, .p .op, .i .i64, .b, .E, .b]
def B104:Body K104:=fun x K=>Mi_FinishBoth x.1 x.2.1 x.2.2.1 x.2.2.2.1 x.2.2.2.2.1 x.2.2.2.2.2.1 x.2.2.2.2.2.2.1 x.2.2.2.2.2.2.2.1 x.2.2.2.2.2.2.2.2.1 x.2.2.2.2.2.2.2.2.2.1 x.2.2.2.2.2.2.2.2.2.2.1 (fun r1 r2 r3 r4 r5 r6 r7 r8 r9 r10 r11=>K (.tup [.agg [.sl 0, .sl 1, .sl 2, .sl 3, .int .i64 r1, .sl 4, .int .i64 r2, .sl 5, .int .i64 r3, .bool r4], .bool r5]) [⟨true, .list .int r6⟩,⟨true, .list .int r7⟩,⟨true, .list .int r8⟩,⟨true, .list .int r9⟩,⟨true, .list .int r10⟩,⟨true, .list .op r11⟩])
def G104:=rdG K104 B104
noncomputable def H104_0:=mkH [(1, .bl),(2, .pc [.own .int, .own .int, .own .int, .own .int, .x, .own .int, .x, .own .op, .x, .bl]),(4, .pc [.own .int, .own .int, .own .int, .own .int, .x, .own .int, .x, .own .op, .x, .bl])] [.b, .Q 0, .Q 1, .bC true, .L 2, .L 3, .L 4, .L 5, .i .i64, .L 6, .i .i64, .L 7, .i .i64, .b, .E, .bC true, .L 8, .L 9, .L 10, .L 11, .i .i64, .L 12, .i .i64, .L 13, .i .i64, .b, .E, .bL true .int, .bL true .int, .bL true .int, .bL true .int, .bL true .int, .bL true .op, .bL true .int, .bL true .int, .bL true .int, .bL true .int, .bL true .int, .bL true .op]
noncomputable def H104_2:=mkH [(2, .pc [.own .int, .own .int, .own .int, .own .int, .x, .own .int, .x, .own .op, .x, .bl]),(4, .pc [.own .int, .own .int, .own .int, .own .int, .x, .own .int, .x, .own .op, .x, .bl]),(8, .x)] [.Q 0, .Q 1, .i .i64, .bC true, .L 2, .L 3, .L 4, .L 5, .i .i64, .L 6, .i .i64, .L 7, .i .i64, .b, .E, .bC true, .L 8, .L 9, .L 10, .L 11, .i .i64, .L 12, .i .i64, .L 13, .i .i64, .b, .E, .bL true .int, .bL true .int, .bL true .int, .bL true .int, .bL true .int, .bL true .op, .bL true .int, .bL true .int, .bL true .int, .bL true .int, .bL true .int, .bL true .op]
noncomputable def H104:List (Nat×LH):=[(0,H104_0),(2,H104_2)]
def W104:List (Nat×List (Nat×List Nat)):=[]
def Γ104:List (Nat×Con):=[(92,Uc92),(94,Uc94),(95,Uc95),(96,Uc96)]
theorem e104:Eqn PP 48 Γ104 H104 W104 (bodyOf Tryz.f104) [.cell 4 56, .tmp 5] [.ag [.own .int, .own .int, .own .int, .own .int, .x, .own .int, .x, .own .op, .x, .bl], .bl] [] K104 B104:=fun _ _ _ _ _ _ _ _ _ _ _ K=>by kernel_rfl
theorem s104:CSound PP 104 G104:=fun_sk mixed Tryz.func104 (by decide) (by kernel_rfl) Tryz.ntmps104 Tryz.results104 (.cons u92 (.cons u94 (.cons u95 (.cons u96 (GSound.nil))))) e104
def Uc104:=useC [.ag [.pure .int, .pure .int, .pure .int, .pure .int, .x, .pure .int, .x, .pure .op, .x, .bl], .bl] G104
theorem u104:CSound PP 104 Uc104:=useC_ok s104
def K89:List Tok:=[.A, .p .int, .p .int, .p .int, .E]
def B89:Body K89:=fun x K=>Mi_GarbageOf x.1 x.2.1 x.2.2.1 (fun r1=>K (.sl 0) [⟨true, .list .int r1⟩])
def G89:=rdG K89 B89
noncomputable def H89_0:=mkH [(3, .own .int),(8, .own .bool),(9, .x),(10, .x)] [.L 0, .L 1, .i .i64, .i .i64, .bL true .int, .bL true .bool]
noncomputable def H89:List (Nat×LH):=[(0,H89_0)]
def W89:List (Nat×List (Nat×List Nat)):=[]
def Γ89:List (Nat×Con):=[(136,Uc136)]
theorem e89:Eqn PP 23 Γ89 H89 W89 (bodyOf Tryz.f89) [.tmp 2] [.own .int] [] K89 B89:=fun _ _ _ K=>by kernel_rfl
theorem s89:CSound PP 89 G89:=fun_sk mixed Tryz.func89 (by decide) (by kernel_rfl) Tryz.ntmps89 Tryz.results89 (.cons u136 (GSound.nil)) e89
def Uc89:=useC [.ag [.pure .int, .pure .int, .pure .int]] G89
theorem u89:CSound PP 89 Uc89:=useC_ok s89
def K37:List Tok:=[.A, .p .int, .p .int, .p .int, .p .int, .E]
def B37:Body K37:=fun x K=>Mi_LeakedOf x.1 x.2.1 x.2.2.1 x.2.2.2.1 (fun r1=>K (.sl 0) [⟨true, .list .int r1⟩])
def G37:=rdG K37 B37
noncomputable def H37_0:=mkH [(1, .pc [.pure .int, .pure .int, .pure .int, .pure .int]),(3, .own .int),(12, .own .int),(13, .x),(14, .x)] [.Q 0, .L 1, .L 2, .i .i64, .i .i64, .bC true, .p .int, .p .int, .p .int, .p .int, .E, .bL true .int, .bL true .int]
noncomputable def H37:List (Nat×LH):=[(0,H37_0)]
def W37:List (Nat×List (Nat×List Nat)):=[]
def Γ37:List (Nat×Con):=[(65,Uc65),(89,Uc89),(90,Uc90)]
theorem e37:Eqn PP 29 Γ37 H37 W37 (bodyOf Tryz.f37) [.tmp 2] [.own .int] [] K37 B37:=fun _ _ _ _ K=>by kernel_rfl
theorem s37:CSound PP 37 G37:=fun_sk mixed Tryz.func37 (by decide) (by kernel_rfl) Tryz.ntmps37 Tryz.results37 (.cons u65 (.cons u89 (.cons u90 (GSound.nil)))) e37
def Uc37:=useC [.ag [.pure .int, .pure .int, .pure .int, .pure .int]] G37
theorem u37:CSound PP 37 Uc37:=useC_ok s37
def K132:List Tok:=[.L 0, .p .int, .bL true .int]
def B132:Body K132:=fun x K=>Mi_met x.1 x.2.1 (fun r1=>K (.sl 1) [⟨true, .dead⟩,⟨true, .list .int r1⟩])
def G132:=rdG K132 B132
noncomputable def H132_0:=mkH [(0, .mv .int),(7, .pure .int),(8, .x),(9, .x)] [.L 1, .p .int, .i .i64, .i .i64, .bD true, .bL true .int]
noncomputable def H132:List (Nat×LH):=[(0,H132_0)]
def W132:List (Nat×List (Nat×List Nat)):=[]
def Γ132:List (Nat×Con):=[(90,Uc90)]
theorem e132:Eqn PP 27 Γ132 H132 W132 (bodyOf Tryz.f132) [.tmp 4] [.own .int] [0] K132 B132:=fun _ _ K=>by kernel_rfl
theorem s132:CSound PP 132 G132:=fun_sk mixed Tryz.func132 (by decide) (by kernel_rfl) Tryz.ntmps132 Tryz.results132 (.cons u90 (GSound.nil)) e132
def Uc132:=useC [.own .int, .pure .int] G132
theorem u132:CSound PP 132 Uc132:=useC_ok s132
def K133:List Tok:=[.L 0, .bL true .int]
def B133:Body K133:=fun x K=>M_Clip_int x.1 (fun r1=>K (.sl 1) [⟨true, .dead⟩,⟨true, .list .int r1⟩])
def G133:=rdG K133 B133
def H133:List (Nat×LH):=[]
def W133:List (Nat×List (Nat×List Nat)):=[]
def Γ133:List (Nat×Con):=[]
theorem e133:Eqn PP 9 Γ133 H133 W133 (bodyOf Tryz.f133) [.tmp 2] [.own .int] [] K133 B133:=fun _ K=>by kernel_rfl
theorem s133:CSound PP 133 G133:=fun_sk mixed Tryz.func133 (by decide) (by kernel_rfl) Tryz.ntmps133 Tryz.results133 (GSound.nil) e133
def Uc133:=useC [.own .int] G133
theorem u133:CSound PP 133 Uc133:=useC_ok s133
def K80:List Tok:=[.A, .p .int, .p .int, .p .int, .E]
def B80:Body K80:=fun x K=>Mi_OrderOf x.1 x.2.1 x.2.2.1 (fun r1=>K (.sl 0) [⟨true, .list .int r1⟩])
def G80:=rdG K80 B80
noncomputable def H80_0:=mkH [(1, .pc [.pure .int, .pure .int, .pure .int]),(3, .own .int),(4, .x)] [.Q 0, .L 1, .i .i64, .bC true, .p .int, .p .int, .p .int, .E, .bL true .int]
noncomputable def H80:List (Nat×LH):=[(0,H80_0)]
def W80:List (Nat×List (Nat×List Nat)):=[]
def Γ80:List (Nat×Con):=[(79,Uc79),(132,Uc132),(133,Uc133)]
theorem e80:Eqn PP 39 Γ80 H80 W80 (bodyOf Tryz.f80) [.tmp 2] [.own .int] [] K80 B80:=fun _ _ _ K=>by kernel_rfl
theorem s80:CSound PP 80 G80:=fun_sk mixed Tryz.func80 (by decide) (by kernel_rfl) Tryz.ntmps80 Tryz.results80 (.cons u79 (.cons u132 (.cons u133 (GSound.nil)))) e80
def Uc80:=useC [.ag [.pure .int, .pure .int, .pure .int]] G80
theorem u80:CSound PP 80 Uc80:=useC_ok s80
def K81:List Tok:=[.i .i64, .Q 0, .bC false, .L 1, .E, .bL false .int]
def B81:Body K81:=fun x K=>Mi_CopyHeap_1 x.1 x.2.1 (fun r1=>K (.int .i64 r1) [⟨false, .cells [.sl 1]⟩,⟨false, .list .int x.2.1⟩])
def G81:=rdG K81 B81
def H81:List (Nat×LH):=[]
def W81:List (Nat×List (Nat×List Nat)):=[]
def Γ81:List (Nat×Con):=[(82,Uc82)]
theorem e81:Eqn PP 7 Γ81 H81 W81 (bodyOf Tryz.f81) [.tmp 3] [.x] [] K81 B81:=fun _ _ K=>by kernel_rfl
theorem s81:CSound PP 81 G81:=fun_sk mixed Tryz.func81 (by decide) (by kernel_rfl) Tryz.ntmps81 Tryz.results81 (.cons u82 (GSound.nil)) e81
def Uc81:=useC [.x, .pc [.own .int]] (onlyC [] G81)
theorem u81:CSound PP 81 Uc81:=useC_ok (onlyC_ok s81)
def K32:List Tok:=[.A, .p .int, .p .int, .p .int, .E]
def B32:Body K32:=fun x K=>Mi_CopyHeap x.1 x.2.1 x.2.2.1 (fun r1 r2 r3 r4 r5=>K (.tup [.agg [.sl 0, .sl 1, .sl 2], .sl 3, .bool r1]) [⟨true, .list .int r2⟩,⟨true, .list .int r3⟩,⟨true, .list .int r4⟩,⟨true, .list .int r5⟩])
def G32:=rdG K32 B32
noncomputable def H32_0:=mkH [(1, .pc [.pure .int, .pure .int, .pure .int]),(2, .pc [.own .int, .own .int, .own .int]),(5, .pc [.own .int, .own .int, .own .int]),(8, .x),(32, .own .int),(33, .x),(34, .x)] [.Q 0, .Q 1, .Q 2, .F 81, .N, .Q 3, .E, .L 4, .i .i64, .i .i64, .bC true, .p .int, .p .int, .p .int, .E, .bC true, .L 5, .L 6, .L 7, .E, .bC true, .L 8, .L 9, .L 10, .E, .bC true, .L 4, .E, .bL true .int, .bL true .int, .bL true .int, .bL true .int, .bL true .int, .bL true .int, .bL true .int]
noncomputable def H32_2:=mkH [(1, .pc [.pure .int, .pure .int, .pure .int]),(2, .pc [.own .int, .own .int, .own .int]),(5, .pc [.own .int, .own .int, .own .int]),(8, .x),(63, .pure .int),(64, .x),(65, .x)] [.Q 0, .Q 1, .Q 2, .F 81, .N, .Q 3, .E, .p .int, .i .i64, .i .i64, .bC true, .p .int, .p .int, .p .int, .E, .bC true, .L 4, .L 5, .L 6, .E, .bC true, .L 7, .L 8, .L 9, .E, .bC true, .L 10, .E, .bL true .int, .bL true .int, .bL true .int, .bL true .int, .bL true .int, .bL true .int, .bL true .int]
noncomputable def H32_4:=mkH [(2, .pc [.own .int, .own .int, .own .int]),(5, .pc [.own .int, .own .int, .own .int]),(8, .x),(13, .own .int),(81, .x),(82, .x)] [.Q 0, .Q 1, .F 81, .N, .Q 2, .E, .L 3, .i .i64, .i .i64, .bC true, .L 4, .L 5, .L 6, .E, .bC true, .L 7, .L 8, .L 9, .E, .bC true, .L 10, .E, .bL true .int, .bL true .int, .bL true .int, .bL true .int, .bL true .int, .bL true .int, .bL true .int, .bL true .int]
noncomputable def H32:List (Nat×LH):=[(0,H32_0),(2,H32_2),(4,H32_4)]
def W32:List (Nat×List (Nat×List Nat)):=[(9,[(8,[21])])]
def Γ32:List (Nat×Con):=[(79,Uc79),(61,Uc61),(80,Uc80),(81,Uc81)]
theorem e32:Eqn PP 94 Γ32 H32 W32 (bodyOf Tryz.f32) [.cell 2 31, .tmp 3, .tmp 4] [.ag [.own .int, .own .int, .own .int], .own .int, .bl] [] K32 B32:=fun _ _ _ K=>by kernel_rfl
theorem s32:CSound PP 32 G32:=fun_sk mixed Tryz.func32 (by decide) (by kernel_rfl) Tryz.ntmps32 Tryz.results32 (.cons u79 (.cons u61 (.cons u80 (.cons u81 (GSound.nil))))) e32
def Uc32:=useC [.ag [.pure .int, .pure .int, .pure .int]] G32
theorem u32:CSound PP 32 Uc32:=useC_ok s32
def K134:List Tok:=[.A, .p .int, .p .int, .p .int, .p .int, .i .i64, .p .int, .i .i64, .p .op, .i .i64, .b, .E, .b, .s, .Q 0, .Q 1, .Q 2, .bC true, .M 3, .E, .bC true, .L 4, .E, .bC true, .p .int, .p .int, .p .int, .p .int, .i .i64, .p .int, .i .i64, .p .op, .i .i64, .b, .s, .E, .bK, .bL true .node]
def B134:Body K134:=fun x K=>Mi_comes_1 x.1 x.2.1 x.2.2.1 x.2.2.2.1 x.2.2.2.2.1 x.2.2.2.2.2.1 x.2.2.2.2.2.2.1 x.2.2.2.2.2.2.2.1 x.2.2.2.2.2.2.2.2.1 x.2.2.2.2.2.2.2.2.2.1 x.2.2.2.2.2.2.2.2.2.2.1 x.2.2.2.2.2.2.2.2.2.2.2.1 x.2.2.2.2.2.2.2.2.2.2.2.2.1 x.2.2.2.2.2.2.2.2.2.2.2.2.2.1 x.2.2.2.2.2.2.2.2.2.2.2.2.2.2.1 x.2.2.2.2.2.2.2.2.2.2.2.2.2.2.2.1 x.2.2.2.2.2.2.2.2.2.2.2.2.2.2.2.2.1 x.2.2.2.2.2.2.2.2.2.2.2.2.2.2.2.2.2.1 x.2.2.2.2.2.2.2.2.2.2.2.2.2.2.2.2.2.2.1 x.2.2.2.2.2.2.2.2.2.2.2.2.2.2.2.2.2.2.2.1 x.2.2.2.2.2.2.2.2.2.2.2.2.2.2.2.2.2.2.2.2.1 x.2.2.2.2.2.2.2.2.2.2.2.2.2.2.2.2.2.2.2.2.2.1 x.2.2.2.2.2.2.2.2.2.2.2.2.2.2.2.2.2.2.2.2.2.2.1 x.2.2.2.2.2.2.2.2.2.2.2.2.2.2.2.2.2.2.2.2.2.2.2.1 x.2.2.2.2.2.2.2.2.2.2.2.2.2.2.2.2.2.2.2.2.2.2.2.2.1 (fun r1 r2=>K (.tup []) [⟨true, .cells [.mp 3]⟩,⟨true, .cells [.sl 5]⟩,⟨true, .cells [.pl .int x.2.2.2.2.2.2.2.2.2.2.2.2.1, .pl .int x.2.2.2.2.2.2.2.2.2.2.2.2.2.1, .pl .int x.2.2.2.2.2.2.2.2.2.2.2.2.2.2.1, .pl .int x.2.2.2.2.2.2.2.2.2.2.2.2.2.2.2.1, .int .i64 x.2.2.2.2.2.2.2.2.2.2.2.2.2.2.2.2.1, .pl .int x.2.2.2.2.2.2.2.2.2.2.2.2.2.2.2.2.2.1, .int .i64 x.2.2.2.2.2.2.2.2.2.2.2.2.2.2.2.2.2.2.1, .pl .op x.2.2.2.2.2.2.2.2.2.2.2.2.2.2.2.2.2.2.2.1, .int .i64 x.2.2.2.2.2.2.2.2.2.2.2.2.2.2.2.2.2.2.2.2.1, .bool x.2.2.2.2.2.2.2.2.2.2.2.2.2.2.2.2.2.2.2.2.2.1, .str x.2.2.2.2.2.2.2.2.2.2.2.2.2.2.2.2.2.2.2.2.2.2.1]⟩,⟨true, .keys r1⟩,⟨true, .dead⟩,⟨true, .list .node r2⟩])
def G134:=rdG K134 B134
def H134:List (Nat×LH):=[]
def W134:List (Nat×List (Nat×List Nat)):=[]
def Γ134:List (Nat×Con):=[(40,Uc40)]
theorem e134:Eqn PP 30 Γ134 H134 W134 (bodyOf Tryz.f134) [] [] [4] K134 B134:=fun _ _ _ _ _ _ _ _ _ _ _ _ _ _ _ _ _ _ _ _ _ _ _ _ _ K=>by kernel_rfl
theorem s134:CSound PP 134 G134:=fun_sk mixed Tryz.func134 (by decide) (by kernel_rfl) Tryz.ntmps134 Tryz.results134 (.cons u40 (GSound.nil)) e134
def Uc134:=useC [.ag [.pure .int, .pure .int, .pure .int, .pure .int, .x, .pure .int, .x, .pure .op, .x, .bl], .bl, .x, .pc [.x], .pc [.own .node], .pc [.pure .int, .pure .int, .pure .int, .pure .int, .x, .pure .int, .x, .pure .op, .x, .bl, .x]] G134
theorem u134:CSound PP 134 Uc134:=useC_ok s134
def K86:List Tok:=[.A, .p .int, .p .int, .p .int, .p .int, .i .i64, .p .int, .i .i64, .p .op, .i .i64, .b, .E, .b]
def B86:Body K86:=fun x K=>Mi_comes x.1 x.2.1 x.2.2.1 x.2.2.2.1 x.2.2.2.2.1 x.2.2.2.2.2.1 x.2.2.2.2.2.2.1 x.2.2.2.2.2.2.2.1 x.2.2.2.2.2.2.2.2.1 x.2.2.2.2.2.2.2.2.2.1 x.2.2.2.2.2.2.2.2.2.2.1 (fun r1 r2=>K (.tup [.sl 0, .bool r1]) [⟨true, .list .node r2⟩])
def G86:=rdG K86 B86
noncomputable def H86_0:=mkH [(1, .bl),(6, .pc [.own .node]),(7, .pc [.x]),(8, .x)] [.b, .Q 0, .Q 1, .i .i64, .bC true, .L 2, .E, .bC true, .M 3, .E, .bL true .node, .bK]
noncomputable def H86:List (Nat×LH):=[(0,H86_0)]
def W86:List (Nat×List (Nat×List Nat)):=[(2000003,[(0,[1002])]),(2000010,[(0,[1004])]),(2000012,[(0,[1005])])]
def Γ86:List (Nat×Con):=[(92,Uc92),(94,Uc94),(40,Uc40),(96,Uc96),(134,Uc134),(95,Uc95)]
theorem e86:Eqn PP 60 Γ86 H86 W86 (bodyOf Tryz.f86) [.tmp 4, .tmp 5] [.own .node, .bl] [] K86 B86:=fun _ _ _ _ _ _ _ _ _ _ _ K=>by kernel_rfl
theorem s86:CSound PP 86 G86:=fun_sk mixed Tryz.func86 (by decide) (by kernel_rfl) Tryz.ntmps86 Tryz.results86 (.cons u92 (.cons u94 (.cons u40 (.cons u96 (.cons u134 (.cons u95 (GSound.nil))))))) e86
def Uc86:=useC [.ag [.pure .int, .pure .int, .pure .int, .pure .int, .x, .pure .int, .x, .pure .op, .x, .bl], .bl] G86
theorem u86:CSound PP 86 Uc86:=useC_ok s86
def K88:List Tok:=[.A, .p .int, .p .int, .p .int, .p .int, .i .i64, .p .int, .i .i64, .p .op, .i .i64, .b, .s, .E]
def B88:Body K88:=fun x K=>Mi_CanLose_1 x.1 x.2.1 x.2.2.1 x.2.2.2.1 x.2.2.2.2.1 x.2.2.2.2.2.1 x.2.2.2.2.2.2.1 x.2.2.2.2.2.2.2.1 x.2.2.2.2.2.2.2.2.1 x.2.2.2.2.2.2.2.2.2.1 x.2.2.2.2.2.2.2.2.2.2.1 (K (.bool x.2.2.2.2.2.2.2.2.2.1) [])
def G88:=rdG K88 B88
def H88:List (Nat×LH):=[]
def W88:List (Nat×List (Nat×List Nat)):=[]
def Γ88:List (Nat×Con):=[]
theorem e88:Eqn PP 6 Γ88 H88 W88 (bodyOf Tryz.f88) [.tmp 2] [.bl] [] K88 B88:=fun _ _ _ _ _ _ _ _ _ _ _ K=>by kernel_rfl
theorem s88:CSound PP 88 G88:=fun_sk mixed Tryz.func88 (by decide) (by kernel_rfl) Tryz.ntmps88 Tryz.results88 (GSound.nil) e88
def Uc88:=useC [.ag [.pure .int, .pure .int, .pure .int, .pure .int, .x, .pure .int, .x, .pure .op, .x, .bl, .x]] G88
theorem u88:CSound PP 88 Uc88:=useC_ok s88
def K135:List Tok:=[.p .node, .F 88, .N, .E]
def B135:Body K135:=fun x K=>M_IndexFunc_came x.1 (fun r1=>K (.int .i64 r1) [])
def G135:=rdG K135 B135
noncomputable def H135_0:=mkH [(0, .pure .node),(1, .x),(7, .x),(8, .x)] [.p .node, .F 88, .N, .E, .i .i64, .i .i64]
noncomputable def H135:List (Nat×LH):=[(0,H135_0)]
def W135:List (Nat×List (Nat×List Nat)):=[]
def Γ135:List (Nat×Con):=[(88,Uc88)]
theorem e135:Eqn PP 19 Γ135 H135 W135 (bodyOf Tryz.f135) [.tmp 4] [.x] [] K135 B135:=fun _ K=>by kernel_rfl
theorem s135:CSound PP 135 G135:=fun_sk mixed Tryz.func135 (by decide) (by kernel_rfl) Tryz.ntmps135 Tryz.results135 (.cons u88 (GSound.nil)) e135
def Uc135:=useC [.pure .node, .x] G135
theorem u135:CSound PP 135 Uc135:=useC_ok s135
def K87:List Tok:=[.p .node, .F 88, .N, .E]
def B87:Body K87:=fun x K=>M_ContainsFunc_came x.1 (fun r1=>K (.bool r1) [])
def G87:=rdG K87 B87
def H87:List (Nat×LH):=[]
def W87:List (Nat×List (Nat×List Nat)):=[]
def Γ87:List (Nat×Con):=[(135,Uc135)]
theorem e87:Eqn PP 9 Γ87 H87 W87 (bodyOf Tryz.f87) [.tmp 4] [.bl] [] K87 B87:=fun _ K=>by kernel_rfl
theorem s87:CSound PP 87 G87:=fun_sk mixed Tryz.func87 (by decide) (by kernel_rfl) Tryz.ntmps87 Tryz.results87 (.cons u135 (GSound.nil)) e87
def Uc87:=useC [.pure .node, .x] G87
theorem u87:CSound PP 87 Uc87:=useC_ok s87
def K35:List Tok:=[.A, .p .int, .p .int, .p .int, .p .int, .i .i64, .p .int, .i .i64, .p .op, .i .i64, .b, .E, .b]
def B35:Body K35:=fun x K=>Mi_CanLose x.1 x.2.1 x.2.2.1 x.2.2.2.1 x.2.2.2.2.1 x.2.2.2.2.2.1 x.2.2.2.2.2.2.1 x.2.2.2.2.2.2.2.1 x.2.2.2.2.2.2.2.2.1 x.2.2.2.2.2.2.2.2.2.1 x.2.2.2.2.2.2.2.2.2.2.1 (fun r1 r2=>K (.tup [.bool r1, .bool r2]) [])
def G35:=rdG K35 B35
def H35:List (Nat×LH):=[]
def W35:List (Nat×List (Nat×List Nat)):=[]
def Γ35:List (Nat×Con):=[(86,Uc86),(87,Uc87)]
theorem e35:Eqn PP 17 Γ35 H35 W35 (bodyOf Tryz.f35) [.tmp 4, .tmp 5] [.bl, .bl] [] K35 B35:=fun _ _ _ _ _ _ _ _ _ _ _ K=>by kernel_rfl
theorem s35:CSound PP 35 G35:=fun_sk mixed Tryz.func35 (by decide) (by kernel_rfl) Tryz.ntmps35 Tryz.results35 (.cons u86 (.cons u87 (GSound.nil))) e35
def Uc35:=useC [.ag [.pure .int, .pure .int, .pure .int, .pure .int, .x, .pure .int, .x, .pure .op, .x, .bl], .bl] G35
theorem u35:CSound PP 35 Uc35:=useC_ok s35
def K36:List Tok:=[.A, .p .int, .p .int, .p .int, .p .int, .i .i64, .p .int, .i .i64, .p .op, .i .i64, .b, .E, .b]
def B36:Body K36:=fun x K=>Mi_ShortLoss x.1 x.2.1 x.2.2.1 x.2.2.2.1 x.2.2.2.2.1 x.2.2.2.2.2.1 x.2.2.2.2.2.2.1 x.2.2.2.2.2.2.2.1 x.2.2.2.2.2.2.2.2.1 x.2.2.2.2.2.2.2.2.2.1 x.2.2.2.2.2.2.2.2.2.2.1 (fun r1 r2=>K (.tup [.str r1, .bool r2]) [])
def G36:=rdG K36 B36
noncomputable def H36_0:=mkH [(16, .own .node),(17, .x),(18, .x)] [.L 0, .i .i64, .i .i64, .bL true .node]
noncomputable def H36:List (Nat×LH):=[(0,H36_0)]
def W36:List (Nat×List (Nat×List Nat)):=[]
def Γ36:List (Nat×Con):=[(86,Uc86)]
theorem e36:Eqn PP 28 Γ36 H36 W36 (bodyOf Tryz.f36) [.tmp 4, .tmp 5] [.x, .bl] [] K36 B36:=fun _ _ _ _ _ _ _ _ _ _ _ K=>by kernel_rfl
theorem s36:CSound PP 36 G36:=fun_sk mixed Tryz.func36 (by decide) (by kernel_rfl) Tryz.ntmps36 Tryz.results36 (.cons u86 (GSound.nil)) e36
def Uc36:=useC [.ag [.pure .int, .pure .int, .pure .int, .pure .int, .x, .pure .int, .x, .pure .op, .x, .bl], .bl] G36
theorem u36:CSound PP 36 Uc36:=useC_ok s36
def K47:List Tok:=[.Q 0, .s, .bC true, .L 1, .L 2, .L 3, .L 4, .i .i64, .L 5, .i .i64, .L 6, .i .i64, .b, .b, .S 0 11 73, .B 7, .E, .bL true .int, .bL true .int, .bL true .int, .bL true .int, .bL true .int, .bL true .op, .bL true .byte]
def B47:Body K47:=fun x K=>Mi_desk_plain x.1 x.2.1 x.2.2.1 x.2.2.2.1 x.2.2.2.2.1 x.2.2.2.2.2.1 x.2.2.2.2.2.2.1 x.2.2.2.2.2.2.2.1 x.2.2.2.2.2.2.2.2.1 x.2.2.2.2.2.2.2.2.2.1 x.2.2.2.2.2.2.2.2.2.2.1 x.2.2.2.2.2.2.2.2.2.2.2.1 x.2.2.2.2.2.2.2.2.2.2.2.2.1 (fun r1 r2 r3 r4 r5 r6 r7 r8 r9 r10 r11 r12=>K (.bool r1) [⟨true, .cells [.sl 8, .sl 9, .sl 10, .sl 11, .int .i64 r2, .sl 12, .int .i64 r3, .sl 13, .int .i64 r4, .bool r5, .bool x.2.2.2.2.2.1, .slf 0 11 73, .sb 14]⟩,⟨true, .dead⟩,⟨true, .dead⟩,⟨true, .dead⟩,⟨true, .dead⟩,⟨true, .dead⟩,⟨true, .dead⟩,⟨true, .dead⟩,⟨true, .list .int r6⟩,⟨true, .list .int r7⟩,⟨true, .list .int r8⟩,⟨true, .list .int r9⟩,⟨true, .list .int r10⟩,⟨true, .list .op r11⟩,⟨true, .list .byte r12⟩])
def G47:=rdG K47 B47
def H47:List (Nat×LH):=[]
def W47:List (Nat×List (Nat×List Nat)):=[]
def Γ47:List (Nat×Con):=[(104,Uc104),(40,Uc40),(44,Uc44),(24,Uc24),(89,Uc89),(66,Uc66),(37,Uc37),(105,Uc105),(80,Uc80),(32,Uc32),(33,Uc33),(35,Uc35),(36,Uc36)]
theorem e47:Eqn PP 154 Γ47 H47 W47 (bodyOf Tryz.f47) [.tmp 4] [.bl] [1,2,3,4,5,6,7] K47 B47:=fun _ _ _ _ _ _ _ _ _ _ _ _ _ K=>by kernel_rfl
theorem s47:CSound PP 47 G47:=fun_sk mixed Tryz.func47 (by decide) (by kernel_rfl) Tryz.ntmps47 Tryz.results47 (.cons u104 (.cons u40 (.cons u44 (.cons u24 (.cons u89 (.cons u66 (.cons u37 (.cons u105 (.cons u80 (.cons u32 (.cons u33 (.cons u35 (.cons u36 (GSound.nil)))))))))))))) e47
def Uc47:=useC [.pc [.own .int, .own .int, .own .int, .own .int, .x, .own .int, .x, .own .op, .x, .bl, .bl, .x, .x], .x] G47
theorem u47:CSound PP 47 Uc47:=useC_ok s47
theorem enters48:Enters PP 48:=⟨_,Tryz.func48,by decide,rfl⟩
def G48:Con:=conBS 73 11
set_option maxHeartbeats 1000000 in
set_option maxRecDepth 100000 in
theorem s48:CSound PP 48 G48:=conBS_ok enters48 (fun b w h1=>by
 have hUS:=fun(w:World) q=>Go.Lib.run_unsafeString_none (P:=PP) w 145 3 9 q
 have c1:w.drew.cell? ⟨b,12,none⟩=some (.slice none 0 0):=h1
 have hSD:(Builtin.unsafeSliceData_ #[24] 145 #[.slice none 0 0]).run PP w.drew= .ok (.pointer none) w.drew:=rfl
 go_enter Tryz.func48,Tryz.ntmps48
 go_wp2
 go_region
 all_goals (go_wp2;go_ret;exact⟨rfl,rfl⟩)) fun b g cap l cur w h1 h0 hl hcap h63 hg hc=>by
 have hlp:0<l.length:=List.length_pos_iff.2 h0
 have c1:w.drew.cell? ⟨b,12,none⟩=some (.slice (some ⟨g,0,none⟩) l.length cap):=h1
 have hg':w.drew.heap[g]? =some (.cells cur 5 (0,0)):=hg
 have hSD:(Builtin.unsafeSliceData_ #[24] 145 #[.slice (some ⟨g,0,none⟩) l.length cap]).run PP w.drew= .ok (.pointer (some ⟨g,0,none⟩)) w.drew:=
  Go.Lib.run_unsafeSliceData_row _ _ _ _ _ _ (by omega)
 have hUS:(Builtin.unsafeString_ #[145,3] 9 #[.pointer (some ⟨g,0,none⟩), .int .i64 l.length]).run PP w.drew= .ok (.string ⟨l.toArray⟩) (w.drew.freeze ⟨g,0,none⟩ l.length):=by
  refine Go.Lib.run_unsafeString_row w.drew 145 3 9 5 Tryz.underlying145 (by kernel_rfl) g cur.size (by simp[World.shape?,hg']) l h0 (by omega) (by omega) fun j x hx=> ?_
  rw[addr_add _ _ rfl]
  simp[World.cell?,hg',hc j x hx]
 go_enter Tryz.func48,Tryz.ntmps48
 go_wp2
 go_region
 all_goals (go_wp2;go_ret;exact⟨rfl,rfl⟩)
def Uc48:=useC [.x] G48
theorem u48:CSound PP 48 Uc48:=useC_ok s48
def K16:List Tok:=[.s]
def B16:Body K16:=fun x K=>Mi_RunScript x.1 (fun r1=>K (.str r1) [])
def G16:=rdG K16 B16
noncomputable def H16_0:=mkH [(3, .pc [.own .int, .own .int, .own .int, .own .int, .x, .own .int, .x, .own .op, .x, .bl, .bl, .x, .x]),(17, .own .str),(18, .x),(19, .x)] [.Q 0, .L 1, .i .i64, .i .i64, .bC true, .L 2, .L 3, .L 4, .L 5, .i .i64, .L 6, .i .i64, .L 7, .i .i64, .b, .b, .S 0 11 73, .B 8, .E, .bL true .str, .bL true .int, .bL true .int, .bL true .int, .bL true .int, .bL true .int, .bL true .op, .bL true .byte]
noncomputable def H16:List (Nat×LH):=[(0,H16_0)]
def W16:List (Nat×List (Nat×List Nat)):=[]
def Γ16:List (Nat×Con):=[(41,Uc41),(42,Uc42),(44,Uc44),(43,Uc43),(45,Uc45),(46,Uc46),(47,Uc47),(48,Uc48)]
theorem e16:Eqn PP 68 Γ16 H16 W16 (bodyOf Tryz.f16) [.tmp 2] [.x] [] K16 B16:=fun _ K=>by kernel_rfl
theorem s16:CSound PP 16 G16:=fun_sk mixed Tryz.func16 (by decide) (by kernel_rfl) Tryz.ntmps16 Tryz.results16 (.cons u41 (.cons u42 (.cons u44 (.cons u43 (.cons u45 (.cons u46 (.cons u47 (.cons u48 (GSound.nil))))))))) e16
def Uc16:=useC [.x] G16
theorem u16:CSound PP 16 Uc16:=useC_ok s16
def K127:List Tok:=[.i .i64]
def B127:Body K127:=fun x K=>Ms_l1Many x.1 (fun r1=>K (.sl 0) [⟨true, .list .int r1⟩])
def G127:=rdG K127 B127
noncomputable def H127_0:=mkH [(0, .x),(3, .own .int),(4, .x)] [.i .i64, .L 0, .i .i64, .bL true .int]
noncomputable def H127:List (Nat×LH):=[(0,H127_0)]
def W127:List (Nat×List (Nat×List Nat)):=[]
def Γ127:List (Nat×Con):=[]
theorem e127:Eqn PP 15 Γ127 H127 W127 (bodyOf Tryz.f127) [.tmp 2] [.own .int] [] K127 B127:=fun _ K=>by kernel_rfl
theorem s127:CSound PP 127 G127:=fun_sk mixed Tryz.func127 (by decide) (by kernel_rfl) Tryz.ntmps127 Tryz.results127 (GSound.nil) e127
def Uc127:=useC [.x] G127
theorem u127:CSound PP 127 Uc127:=useC_ok s127
def K62:List Tok:=[.i .i64, .i .i64]
def B62:Body K62:=fun x K=>Ms_NewHeap x.1 x.2.1 (fun r1 r2 r3 r4=>K (.tup [.agg [.sl 0, .sl 1, .sl 2], .bool r1]) [⟨true, .list .int r2⟩,⟨true, .list .int r3⟩,⟨true, .list .int r4⟩])
def G62:=rdG K62 B62
def H62:List (Nat×LH):=[]
def W62:List (Nat×List (Nat×List Nat)):=[]
def Γ62:List (Nat×Con):=[(127,Uc127)]
theorem e62:Eqn PP 28 Γ62 H62 W62 (bodyOf Tryz.f62) [.cell 4 31, .tmp 5] [.ag [.own .int, .own .int, .own .int], .bl] [] K62 B62:=fun _ _ K=>by kernel_rfl
theorem s62:CSound PP 62 G62:=fun_sk mixed Tryz.func62 (by decide) (by kernel_rfl) Tryz.ntmps62 Tryz.results62 (.cons u127 (GSound.nil)) e62
def Uc62:=useC [.x, .x] G62
theorem u62:CSound PP 62 Uc62:=useC_ok s62
def K21:List Tok:=[.i .i64, .i .i64]
def B21:Body K21:=fun x K=>Ms_NewStore x.1 x.2.1 (fun r1 r2 r3 r4 r5=>K (.tup [.agg [.sl 0, .sl 1, .sl 2, .sl 3], .bool r1]) [⟨true, .list .int r2⟩,⟨true, .list .int r3⟩,⟨true, .list .int r4⟩,⟨true, .list .int r5⟩])
def G21:=rdG K21 B21
noncomputable def H21_0:=mkH [(0, .x),(4, .pc [.own .int, .own .int, .own .int, .own .int]),(8, .pc [.own .int, .own .int, .own .int, .own .int]),(9, .x)] [.i .i64, .Q 0, .Q 1, .i .i64, .bC true, .L 2, .L 3, .L 4, .L 5, .E, .bC true, .L 6, .L 7, .L 8, .L 9, .E, .bL true .int, .bL true .int, .bL true .int, .bL true .int, .bL true .int, .bL true .int, .bL true .int, .bL true .int]
noncomputable def H21:List (Nat×LH):=[(0,H21_0)]
def W21:List (Nat×List (Nat×List Nat)):=[]
def Γ21:List (Nat×Con):=[(62,Uc62)]
theorem e21:Eqn PP 33 Γ21 H21 W21 (bodyOf Tryz.f21) [.cell 4 33, .tmp 5] [.ag [.own .int, .own .int, .own .int, .own .int], .bl] [] K21 B21:=fun _ _ K=>by kernel_rfl
theorem s21:CSound PP 21 G21:=fun_sk mixed Tryz.func21 (by decide) (by kernel_rfl) Tryz.ntmps21 Tryz.results21 (.cons u62 (GSound.nil)) e21
def Uc21:=useC [.x, .x] G21
theorem u21:CSound PP 21 Uc21:=useC_ok s21
def K53:List Tok:=[.p .byte]
def B53:Body K53:=fun x K=>Ms_l13Open x.1 (fun r1 r2=>K (.ptr 0 0) [⟨true, .cells [.pl .byte r1, .int .i64 r2]⟩])
def G53:=rdG K53 B53
def H53:List (Nat×LH):=[]
def W53:List (Nat×List (Nat×List Nat)):=[]
def Γ53:List (Nat×Con):=[]
theorem e53:Eqn PP 11 Γ53 H53 W53 (bodyOf Tryz.f53) [.tmp 2] [.pc [.pure .byte, .x]] [] K53 B53:=fun _ K=>by kernel_rfl
theorem s53:CSound PP 53 G53:=fun_sk mixed Tryz.func53 (by decide) (by kernel_rfl) Tryz.ntmps53 Tryz.results53 (GSound.nil) e53
def Uc53:=useC [.pure .byte] G53
theorem u53:CSound PP 53 Uc53:=useC_ok s53
def K55:List Tok:=[.Q 0, .i .i64, .bC true, .p .byte, .i .i64, .E]
def B55:Body K55:=fun x K=>Ms_l13Rd_pick x.1 x.2.1 x.2.2.1 (fun r1 r2=>K (.int .i64 r1) [⟨true, .cells [.pl .byte x.2.1, .int .i64 r2]⟩])
def G55:=rdG K55 B55
def H55:List (Nat×LH):=[]
def W55:List (Nat×List (Nat×List Nat)):=[]
def Γ55:List (Nat×Con):=[]
theorem e55:Eqn PP 99 Γ55 H55 W55 (bodyOf Tryz.f55) [.tmp 4] [.x] [] K55 B55:=fun _ _ _ K=>by kernel_rfl
theorem s55:CSound PP 55 G55:=fun_sk mixed Tryz.func55 (by decide) (by kernel_rfl) Tryz.ntmps55 Tryz.results55 (GSound.nil) e55
def Uc55:=useC [.pc [.pure .byte, .x], .x] G55
theorem u55:CSound PP 55 Uc55:=useC_ok s55
def K54:List Tok:=[.Q 0, .p .int, .bC true, .p .byte, .i .i64, .E]
def B54:Body K54:=fun x K=>Ms_l13Rd_num x.1 x.2.1 x.2.2.1 (fun r1 r2=>K (.int .i64 r1) [⟨true, .cells [.pl .byte x.2.1, .int .i64 r2]⟩])
def G54:=rdG K54 B54
def H54:List (Nat×LH):=[]
def W54:List (Nat×List (Nat×List Nat)):=[]
def Γ54:List (Nat×Con):=[(55,Uc55)]
theorem e54:Eqn PP 12 Γ54 H54 W54 (bodyOf Tryz.f54) [.tmp 4] [.x] [] K54 B54:=fun _ _ _ K=>by kernel_rfl
theorem s54:CSound PP 54 G54:=fun_sk mixed Tryz.func54 (by decide) (by kernel_rfl) Tryz.ntmps54 Tryz.results54 (.cons u55 (GSound.nil)) e54
def Uc54:=useC [.pc [.pure .byte, .x], .pure .int] G54
theorem u54:CSound PP 54 Uc54:=useC_ok s54
def K60:List Tok:=[.p .byte]
def B60:Body K60:=fun x K=>Ms_DrawNewHeap x.1 (fun r1 r2=>K (.tup [.int .i64 r1, .int .i64 r2]) [])
def G60:=rdG K60 B60
def H60:List (Nat×LH):=[]
def W60:List (Nat×List (Nat×List Nat)):=[]
def Γ60:List (Nat×Con):=[(53,Uc53),(54,Uc54)]
theorem e60:Eqn PP 13 Γ60 H60 W60 (bodyOf Tryz.f60) [.tmp 2, .tmp 3] [.x, .x] [] K60 B60:=fun _ K=>by kernel_rfl
theorem s60:CSound PP 60 G60:=fun_sk mixed Tryz.func60 (by decide) (by kernel_rfl) Tryz.ntmps60 Tryz.results60 (.cons u53 (.cons u54 (GSound.nil))) e60
def Uc60:=useC [.pure .byte] G60
theorem u60:CSound PP 60 Uc60:=useC_ok s60
def K19:List Tok:=[.p .byte]
def B19:Body K19:=fun x K=>Ms_DrawNewStore x.1 (fun r1 r2=>K (.tup [.int .i64 r1, .int .i64 r2]) [])
def G19:=rdG K19 B19
def H19:List (Nat×LH):=[]
def W19:List (Nat×List (Nat×List Nat)):=[]
def Γ19:List (Nat×Con):=[(60,Uc60)]
theorem e19:Eqn PP 8 Γ19 H19 W19 (bodyOf Tryz.f19) [.tmp 2, .tmp 3] [.x, .x] [] K19 B19:=fun _ K=>by kernel_rfl
theorem s19:CSound PP 19 G19:=fun_sk mixed Tryz.func19 (by decide) (by kernel_rfl) Tryz.ntmps19 Tryz.results19 (.cons u60 (GSound.nil)) e19
def Uc19:=useC [.pure .byte] G19
theorem u19:CSound PP 19 Uc19:=useC_ok s19
def K64:List Tok:=[.p .int, .p .int]
def B64:Body K64:=fun x K=>M_Equal_int x.1 x.2.1 (fun r1=>K (.bool r1) [])
def G64:=rdG K64 B64
noncomputable def H64_0:=mkH [(0, .pure .int),(1, .pure .int),(12, .x),(13, .x)] [.p .int, .p .int, .i .i64, .i .i64]
noncomputable def H64:List (Nat×LH):=[(0,H64_0)]
def W64:List (Nat×List (Nat×List Nat)):=[]
def Γ64:List (Nat×Con):=[]
theorem e64:Eqn PP 26 Γ64 H64 W64 (bodyOf Tryz.f64) [.tmp 4] [.bl] [] K64 B64:=fun _ _ K=>by kernel_rfl
theorem s64:CSound PP 64 G64:=fun_sk mixed Tryz.func64 (by decide) (by kernel_rfl) Tryz.ntmps64 Tryz.results64 (GSound.nil) e64
def Uc64:=useC [.pure .int, .pure .int] G64
theorem u64:CSound PP 64 Uc64:=useC_ok s64
def K63:List Tok:=[.A, .p .int, .p .int, .p .int, .E, .A, .p .int, .p .int, .p .int, .E]
def B63:Body K63:=fun x K=>Mi_HeapSame x.1 x.2.1 x.2.2.1 x.2.2.2.1 x.2.2.2.2.1 x.2.2.2.2.2.1 (fun r1=>K (.bool r1) [])
def G63:=rdG K63 B63
def H63:List (Nat×LH):=[]
def W63:List (Nat×List (Nat×List Nat)):=[]
def Γ63:List (Nat×Con):=[(64,Uc64)]
theorem e63:Eqn PP 24 Γ63 H63 W63 (bodyOf Tryz.f63) [.tmp 4] [.bl] [] K63 B63:=fun _ _ _ _ _ _ K=>by kernel_rfl
theorem s63:CSound PP 63 G63:=fun_sk mixed Tryz.func63 (by decide) (by kernel_rfl) Tryz.ntmps63 Tryz.results63 (.cons u64 (GSound.nil)) e63
def Uc63:=useC [.ag [.pure .int, .pure .int, .pure .int], .ag [.pure .int, .pure .int, .pure .int]] G63
theorem u63:CSound PP 63 Uc63:=useC_ok s63
def K22:List Tok:=[.A, .p .int, .p .int, .p .int, .p .int, .E, .A, .p .int, .p .int, .p .int, .p .int, .E]
def B22:Body K22:=fun x K=>Mi_StoreSame x.1 x.2.1 x.2.2.1 x.2.2.2.1 x.2.2.2.2.1 x.2.2.2.2.2.1 x.2.2.2.2.2.2.1 x.2.2.2.2.2.2.2.1 (fun r1=>K (.bool r1) [])
def G22:=rdG K22 B22
def H22:List (Nat×LH):=[]
def W22:List (Nat×List (Nat×List Nat)):=[]
def Γ22:List (Nat×Con):=[(63,Uc63),(64,Uc64)]
theorem e22:Eqn PP 17 Γ22 H22 W22 (bodyOf Tryz.f22) [.tmp 4] [.bl] [] K22 B22:=fun _ _ _ _ _ _ _ _ K=>by kernel_rfl
theorem s22:CSound PP 22 G22:=fun_sk mixed Tryz.func22 (by decide) (by kernel_rfl) Tryz.ntmps22 Tryz.results22 (.cons u63 (.cons u64 (GSound.nil))) e22
def Uc22:=useC [.ag [.pure .int, .pure .int, .pure .int, .pure .int], .ag [.pure .int, .pure .int, .pure .int, .pure .int]] G22
theorem u22:CSound PP 22 Uc22:=useC_ok s22
def K23:List Tok:=[.i .i64]
def B23:Body K23:=fun x K=>Ml_ccNumber x.1 (fun r1=>K (.str r1) [])
def G23:=rdG K23 B23
noncomputable def H23_0:=mkH [(0, .x),(2, .x),(3, .x)] [.i .i64, .s, .s]
noncomputable def H23:List (Nat×LH):=[(0,H23_0)]
def W23:List (Nat×List (Nat×List Nat)):=[]
def Γ23:List (Nat×Con):=[]
theorem e23:Eqn PP 17 Γ23 H23 W23 (bodyOf Tryz.f23) [.tmp 2] [.x] [] K23 B23:=fun _ K=>by kernel_rfl
theorem s23:CSound PP 23 G23:=fun_sk mixed Tryz.func23 (by decide) (by kernel_rfl) Tryz.ntmps23 Tryz.results23 (GSound.nil) e23
def Uc23:=useC [.x] G23
theorem u23:CSound PP 23 Uc23:=useC_ok s23
def K6:List Tok:=[.p .byte]
def B6:Body K6:=fun x K=>Ml_FnScriptNew x.1 (fun r1=>K (.bool r1) [])
def G6:=rdG K6 B6
def H6:List (Nat×LH):=[]
def W6:List (Nat×List (Nat×List Nat)):=[]
def Γ6:List (Nat×Con):=[(19,Uc19),(20,Uc20),(21,Uc21),(22,Uc22),(23,Uc23),(16,Uc16),(24,Uc24)]
theorem e6:Eqn PP 58 Γ6 H6 W6 (bodyOf Tryz.f6) [.tmp 2] [.bl] [] K6 B6:=fun _ K=>by kernel_rfl
theorem s6:CSound PP 6 G6:=fun_sk mixed Tryz.func6 (by decide) (by kernel_rfl) Tryz.ntmps6 Tryz.results6 (.cons u19 (.cons u20 (.cons u21 (.cons u22 (.cons u23 (.cons u16 (.cons u24 (GSound.nil)))))))) e6
def Uc6:=useC [.pure .byte] G6
theorem u6:CSound PP 6 Uc6:=useC_ok s6
end Go.Ab
