/-
  What is proved here: that the typed models of functions of the translated program are sound.
-/
import Derived.Test.YtljnohoaeecjcaaGM
import Derived.Test.YtljnohoaeecjcaaProg
import Derived.KernelRfl
namespace Go.Ab
set_option linter.unusedVariables false
open Go.Proofs
noncomputable abbrev PP : Program := Try.prog
theorem mixed : PP.follows .mixedOrders = true := by kernel_rfl
/-! spec.l13Open -/
def K42 : List Tok := [.p .byte]
def B42 : Body K42 := fun x K => Ms_l13Open x.1 (fun r1 r2 => K (.ptr 0 0) [⟨true, .cells [.pl .byte r1, .int .i64 r2]⟩])
def G42 := rdG K42 B42
def H42 : List (Nat × LH) := []
def W42 : List (Nat × List (Nat × List Nat)) := []
def Γ42 : List (Nat × Con) := []
theorem e42 : Eqn PP 11 Γ42 H42 W42 (bodyOf Try.f42) [.tmp 2] [.pc [.pure .byte, .x]] [] K42 B42 := fun _ K => by kernel_rfl
theorem s42 : CSound PP 42 G42 := fun_sk mixed Try.func42 (by decide) (by kernel_rfl) Try.ntmps42 Try.results42 (GSound.nil) e42
def Uc42 := useC [.pure .byte] G42
theorem u42 : CSound PP 42 Uc42 := useC_ok s42
/-! (*spec.l13Rd).pick -/
def K54 : List Tok := [.Q 0, .i .i64, .bC true, .p .byte, .i .i64, .E]
def B54 : Body K54 := fun x K => Ms_l13Rd_pick x.1 x.2.1 x.2.2.1 (fun r1 r2 => K (.int .i64 r1) [⟨true, .cells [.pl .byte x.2.1, .int .i64 r2]⟩])
def G54 := rdG K54 B54
def H54 : List (Nat × LH) := []
def W54 : List (Nat × List (Nat × List Nat)) := []
def Γ54 : List (Nat × Con) := []
theorem e54 : Eqn PP 99 Γ54 H54 W54 (bodyOf Try.f54) [.tmp 4] [.x] [] K54 B54 := fun _ _ _ K => by kernel_rfl
theorem s54 : CSound PP 54 G54 := fun_sk mixed Try.func54 (by decide) (by kernel_rfl) Try.ntmps54 Try.results54 (GSound.nil) e54
def Uc54 := useC [.pc [.pure .byte, .x], .x] G54
theorem u54 : CSound PP 54 Uc54 := useC_ok s54
/-! (*spec.l13Rd).num -/
def K45 : List Tok := [.Q 0, .p .int, .bC true, .p .byte, .i .i64, .E]
def B45 : Body K45 := fun x K => Ms_l13Rd_num x.1 x.2.1 x.2.2.1 (fun r1 r2 => K (.int .i64 r1) [⟨true, .cells [.pl .byte x.2.1, .int .i64 r2]⟩])
def G45 := rdG K45 B45
def H45 : List (Nat × LH) := []
def W45 : List (Nat × List (Nat × List Nat)) := []
def Γ45 : List (Nat × Con) := [(54, Uc54)]
theorem e45 : Eqn PP 12 Γ45 H45 W45 (bodyOf Try.f45) [.tmp 4] [.x] [] K45 B45 := fun _ _ _ K => by kernel_rfl
theorem s45 : CSound PP 45 G45 := fun_sk mixed Try.func45 (by decide) (by kernel_rfl) Try.ntmps45 Try.results45 (.cons u54 (GSound.nil)) e45
def Uc45 := useC [.pc [.pure .byte, .x], .pure .int] G45
theorem u45 : CSound PP 45 Uc45 := useC_ok s45
/-! spec.l1Many -/
def K70 : List Tok := [.i .i64]
def B70 : Body K70 := fun x K => Ms_l1Many x.1 (fun r1 => K (.sl 0) [⟨true, .list .int r1⟩])
def G70 := rdG K70 B70
noncomputable def H70_0 := mkH [(0, .x), (3, .own .int), (4, .x)] [.i .i64, .L 0, .i .i64, .bL true .int]
noncomputable def H70 : List (Nat × LH) := [(0, H70_0)]
def W70 : List (Nat × List (Nat × List Nat)) := []
def Γ70 : List (Nat × Con) := []
theorem e70 : Eqn PP 15 Γ70 H70 W70 (bodyOf Try.f70) [.tmp 2] [.own .int] [] K70 B70 := fun _ K => by kernel_rfl
theorem s70 : CSound PP 70 G70 := fun_sk mixed Try.func70 (by decide) (by kernel_rfl) Try.ntmps70 Try.results70 (GSound.nil) e70
def Uc70 := useC [.x] G70
theorem u70 : CSound PP 70 Uc70 := useC_ok s70
/-! spec.NewHeap -/
def K66 : List Tok := [.i .i64, .i .i64]
def B66 : Body K66 := fun x K => Ms_NewHeap x.1 x.2.1 (fun r1 r2 r3 r4 => K (.tup [.agg [.sl 0, .sl 1, .sl 2], .bool r1]) [⟨true, .list .int r2⟩, ⟨true, .list .int r3⟩, ⟨true, .list .int r4⟩])
def G66 := rdG K66 B66
def H66 : List (Nat × LH) := []
def W66 : List (Nat × List (Nat × List Nat)) := []
def Γ66 : List (Nat × Con) := [(70, Uc70)]
theorem e66 : Eqn PP 28 Γ66 H66 W66 (bodyOf Try.f66) [.cell 4 25, .tmp 5] [.ag [.own .int, .own .int, .own .int], .bl] [] K66 B66 := fun _ _ K => by kernel_rfl
theorem s66 : CSound PP 66 G66 := fun_sk mixed Try.func66 (by decide) (by kernel_rfl) Try.ntmps66 Try.results66 (.cons u70 (GSound.nil)) e66
def Uc66 := useC [.x, .x] G66
theorem u66 : CSound PP 66 Uc66 := useC_ok s66
/-! spec.NewStore -/
def K56 : List Tok := [.i .i64, .i .i64]
def B56 : Body K56 := fun x K => Ms_NewStore x.1 x.2.1 (fun r1 r2 r3 r4 r5 => K (.tup [.agg [.sl 0, .sl 1, .sl 2, .sl 3], .bool r1]) [⟨true, .list .int r2⟩, ⟨true, .list .int r3⟩, ⟨true, .list .int r4⟩, ⟨true, .list .int r5⟩])
def G56 := rdG K56 B56
noncomputable def H56_0 := mkH [(0, .x), (4, .pc [.own .int, .own .int, .own .int, .own .int]), (8, .pc [.own .int, .own .int, .own .int, .own .int]), (9, .x)] [.i .i64, .Q 0, .Q 1, .i .i64, .bC true, .L 2, .L 3, .L 4, .L 5, .E, .bC true, .L 6, .L 7, .L 8, .L 9, .E, .bL true .int, .bL true .int, .bL true .int, .bL true .int, .bL true .int, .bL true .int, .bL true .int, .bL true .int]
noncomputable def H56 : List (Nat × LH) := [(0, H56_0)]
def W56 : List (Nat × List (Nat × List Nat)) := []
def Γ56 : List (Nat × Con) := [(66, Uc66)]
theorem e56 : Eqn PP 33 Γ56 H56 W56 (bodyOf Try.f56) [.cell 4 27, .tmp 5] [.ag [.own .int, .own .int, .own .int, .own .int], .bl] [] K56 B56 := fun _ _ K => by kernel_rfl
theorem s56 : CSound PP 56 G56 := fun_sk mixed Try.func56 (by decide) (by kernel_rfl) Try.ntmps56 Try.results56 (.cons u66 (GSound.nil)) e56
def Uc56 := useC [.x, .x] G56
theorem u56 : CSound PP 56 Uc56 := useC_ok s56
/-! spec.l1Points -/
def K67 : List Tok := [.i .i64, .i .i64]
def B67 : Body K67 := fun x K => Ms_l1Points x.1 x.2.1 (fun r1 => K (.bool r1) [])
def G67 := rdG K67 B67
def H67 : List (Nat × LH) := []
def W67 : List (Nat × List (Nat × List Nat)) := []
def Γ67 : List (Nat × Con) := []
theorem e67 : Eqn PP 12 Γ67 H67 W67 (bodyOf Try.f67) [.tmp 4] [.bl] [] K67 B67 := fun _ _ K => by kernel_rfl
theorem s67 : CSound PP 67 G67 := fun_sk mixed Try.func67 (by decide) (by kernel_rfl) Try.ntmps67 Try.results67 (GSound.nil) e67
def Uc67 := useC [.x, .x] G67
theorem u67 : CSound PP 67 Uc67 := useC_ok s67
/-! spec.HeapValid -/
def K60 : List Tok := [.A, .p .int, .p .int, .p .int, .E]
def B60 : Body K60 := fun x K => Ms_HeapValid x.1 x.2.1 x.2.2.1 (fun r1 => K (.bool r1) [])
def G60 := rdG K60 B60
noncomputable def H60_0 := mkH [(1, .pc [.pure .int, .pure .int, .pure .int]), (3, .x), (4, .x)] [.Q 0, .i .i64, .i .i64, .bC true, .p .int, .p .int, .p .int, .E]
noncomputable def H60_2 := mkH [(1, .pc [.pure .int, .pure .int, .pure .int]), (3, .x), (5, .x)] [.Q 0, .i .i64, .i .i64, .bC true, .p .int, .p .int, .p .int, .E]
noncomputable def H60 : List (Nat × LH) := [(0, H60_0), (2, H60_2)]
def W60 : List (Nat × List (Nat × List Nat)) := []
def Γ60 : List (Nat × Con) := [(67, Uc67)]
theorem e60 : Eqn PP 72 Γ60 H60 W60 (bodyOf Try.f60) [.tmp 2] [.bl] [] K60 B60 := fun _ _ _ K => by kernel_rfl
theorem s60 : CSound PP 60 G60 := fun_sk mixed Try.func60 (by decide) (by kernel_rfl) Try.ntmps60 Try.results60 (.cons u67 (GSound.nil)) e60
def Uc60 := useC [.ag [.pure .int, .pure .int, .pure .int]] G60
theorem u60 : CSound PP 60 Uc60 := useC_ok s60
/-! spec.l4At -/
def K62 : List Tok := [.p .int, .i .i64]
def B62 : Body K62 := fun x K => Ms_l4At x.1 x.2.1 (fun r1 => K (.int .i64 r1) [])
def G62 := rdG K62 B62
noncomputable def H62_0 := mkH [(0, .pure .int), (1, .x), (5, .x)] [.p .int, .i .i64, .i .i64]
noncomputable def H62 : List (Nat × LH) := [(0, H62_0)]
def W62 : List (Nat × List (Nat × List Nat)) := []
def Γ62 : List (Nat × Con) := []
theorem e62 : Eqn PP 19 Γ62 H62 W62 (bodyOf Try.f62) [.tmp 4] [.x] [] K62 B62 := fun _ _ K => by kernel_rfl
theorem s62 : CSound PP 62 G62 := fun_sk mixed Try.func62 (by decide) (by kernel_rfl) Try.ntmps62 Try.results62 (GSound.nil) e62
def Uc62 := useC [.pure .int, .x] G62
theorem u62 : CSound PP 62 Uc62 := useC_ok s62
/-! spec.l4Free -/
def K61 : List Tok := [.A, .p .int, .p .int, .p .int, .E, .i .i64]
def B61 : Body K61 := fun x K => Ms_l4Free x.1 x.2.1 x.2.2.1 x.2.2.2.1 (fun r1 => K (.bool r1) [])
def G61 := rdG K61 B61
def H61 : List (Nat × LH) := []
def W61 : List (Nat × List (Nat × List Nat)) := []
def Γ61 : List (Nat × Con) := [(62, Uc62)]
theorem e61 : Eqn PP 51 Γ61 H61 W61 (bodyOf Try.f61) [.tmp 4] [.bl] [] K61 B61 := fun _ _ _ _ K => by kernel_rfl
theorem s61 : CSound PP 61 G61 := fun_sk mixed Try.func61 (by decide) (by kernel_rfl) Try.ntmps61 Try.results61 (.cons u62 (GSound.nil)) e61
def Uc61 := useC [.ag [.pure .int, .pure .int, .pure .int], .x] G61
theorem u61 : CSound PP 61 Uc61 := useC_ok s61
/-! spec.StoreValid -/
def K46 : List Tok := [.A, .p .int, .p .int, .p .int, .p .int, .E]
def B46 : Body K46 := fun x K => Ms_StoreValid x.1 x.2.1 x.2.2.1 x.2.2.2.1 (fun r1 => K (.bool r1) [])
def G46 := rdG K46 B46
noncomputable def H46_0 := mkH [(1, .pc [.pure .int, .pure .int, .pure .int, .pure .int]), (3, .x)] [.Q 0, .i .i64, .bC true, .p .int, .p .int, .p .int, .p .int, .E]
noncomputable def H46 : List (Nat × LH) := [(0, H46_0)]
def W46 : List (Nat × List (Nat × List Nat)) := []
def Γ46 : List (Nat × Con) := [(60, Uc60), (61, Uc61), (62, Uc62)]
theorem e46 : Eqn PP 47 Γ46 H46 W46 (bodyOf Try.f46) [.tmp 2] [.bl] [] K46 B46 := fun _ _ _ _ K => by kernel_rfl
theorem s46 : CSound PP 46 G46 := fun_sk mixed Try.func46 (by decide) (by kernel_rfl) Try.ntmps46 Try.results46 (.cons u60 (.cons u61 (.cons u62 (GSound.nil)))) e46
def Uc46 := useC [.ag [.pure .int, .pure .int, .pure .int, .pure .int]] G46
theorem u46 : CSound PP 46 Uc46 := useC_ok s46
/-! spec.l1Copy -/
def K49 : List Tok := [.A, .p .int, .p .int, .p .int, .E]
def B49 : Body K49 := fun x K => Ms_l1Copy x.1 x.2.1 x.2.2.1 (K (.agg [.sl 0, .sl 1, .sl 2]) [⟨true, .list .int x.1⟩, ⟨true, .list .int x.2.1⟩, ⟨true, .list .int x.2.2.1⟩])
def G49 := rdG K49 B49
def H49 : List (Nat × LH) := []
def W49 : List (Nat × List (Nat × List Nat)) := []
def Γ49 : List (Nat × Con) := []
theorem e49 : Eqn PP 16 Γ49 H49 W49 (bodyOf Try.f49) [.cell 2 25] [.ag [.own .int, .own .int, .own .int]] [] K49 B49 := fun _ _ _ K => by kernel_rfl
theorem s49 : CSound PP 49 G49 := fun_sk mixed Try.func49 (by decide) (by kernel_rfl) Try.ntmps49 Try.results49 (GSound.nil) e49
def Uc49 := useC [.ag [.pure .int, .pure .int, .pure .int]] G49
theorem u49 : CSound PP 49 Uc49 := useC_ok s49
/-! spec.l4Copy -/
def K34 : List Tok := [.A, .p .int, .p .int, .p .int, .p .int, .E]
def B34 : Body K34 := fun x K => Ms_l4Copy x.1 x.2.1 x.2.2.1 x.2.2.2.1 (K (.agg [.sl 0, .sl 1, .sl 2, .sl 3]) [⟨true, .list .int x.1⟩, ⟨true, .list .int x.2.1⟩, ⟨true, .list .int x.2.2.1⟩, ⟨true, .list .int x.2.2.2.1⟩])
def G34 := rdG K34 B34
def H34 : List (Nat × LH) := []
def W34 : List (Nat × List (Nat × List Nat)) := []
def Γ34 : List (Nat × Con) := [(49, Uc49)]
theorem e34 : Eqn PP 11 Γ34 H34 W34 (bodyOf Try.f34) [.cell 2 27] [.ag [.own .int, .own .int, .own .int, .own .int]] [] K34 B34 := fun _ _ _ _ K => by kernel_rfl
theorem s34 : CSound PP 34 G34 := fun_sk mixed Try.func34 (by decide) (by kernel_rfl) Try.ntmps34 Try.results34 (.cons u49 (GSound.nil)) e34
def Uc34 := useC [.ag [.pure .int, .pure .int, .pure .int, .pure .int]] G34
theorem u34 : CSound PP 34 Uc34 := useC_ok s34
/-! spec.CountsOf -/
def K48 : List Tok := [.A, .p .int, .p .int, .p .int, .E]
def B48 : Body K48 := fun x K => Ms_CountsOf x.1 x.2.1 x.2.2.1 (fun r1 => K (.sl 0) [⟨true, .list .int r1⟩])
def G48 := rdG K48 B48
noncomputable def H48_0 := mkH [(3, .own .int), (4, .own .int), (5, .x)] [.L 0, .L 1, .i .i64, .bL true .int, .bL true .int]
noncomputable def H48 : List (Nat × LH) := [(0, H48_0)]
def W48 : List (Nat × List (Nat × List Nat)) := [(5, [(0, [])])]
def Γ48 : List (Nat × Con) := [(60, Uc60)]
theorem e48 : Eqn PP 51 Γ48 H48 W48 (bodyOf Try.f48) [.tmp 2] [.own .int] [] K48 B48 := fun _ _ _ K => by kernel_rfl
theorem s48 : CSound PP 48 G48 := fun_sk mixed Try.func48 (by decide) (by kernel_rfl) Try.ntmps48 Try.results48 (.cons u60 (GSound.nil)) e48
def Uc48 := useC [.ag [.pure .int, .pure .int, .pure .int]] G48
theorem u48 : CSound PP 48 Uc48 := useC_ok s48
/-! spec.NewCounted -/
def K57 : List Tok := [.A, .p .int, .p .int, .p .int, .p .int, .E]
def B57 : Body K57 := fun x K => Ms_NewCounted x.1 x.2.1 x.2.2.1 x.2.2.2.1 (fun r1 r2 r3 r4 r5 r6 => K (.tup [.agg [.sl 0, .sl 1, .sl 2, .sl 3, .sl 4], .bool r1]) [⟨true, .list .int r2⟩, ⟨true, .list .int r3⟩, ⟨true, .list .int r4⟩, ⟨true, .list .int r5⟩, ⟨true, .list .int r6⟩])
def G57 := rdG K57 B57
def H57 : List (Nat × LH) := []
def W57 : List (Nat × List (Nat × List Nat)) := []
def Γ57 : List (Nat × Con) := [(46, Uc46), (34, Uc34), (48, Uc48)]
theorem e57 : Eqn PP 14 Γ57 H57 W57 (bodyOf Try.f57) [.cell 2 29, .tmp 3] [.ag [.own .int, .own .int, .own .int, .own .int, .own .int], .bl] [] K57 B57 := fun _ _ _ _ K => by kernel_rfl
theorem s57 : CSound PP 57 G57 := fun_sk mixed Try.func57 (by decide) (by kernel_rfl) Try.ntmps57 Try.results57 (.cons u46 (.cons u34 (.cons u48 (GSound.nil)))) e57
def Uc57 := useC [.ag [.pure .int, .pure .int, .pure .int, .pure .int]] G57
theorem u57 : CSound PP 57 Uc57 := useC_ok s57
/-! spec.l1Ints -/
def K47 : List Tok := [.p .int, .p .int]
def B47 : Body K47 := fun x K => Ms_l1Ints x.1 x.2.1 (fun r1 => K (.bool r1) [])
def G47 := rdG K47 B47
noncomputable def H47_0 := mkH [(0, .pure .int), (1, .pure .int), (5, .x)] [.p .int, .p .int, .i .i64]
noncomputable def H47 : List (Nat × LH) := [(0, H47_0)]
def W47 : List (Nat × List (Nat × List Nat)) := []
def Γ47 : List (Nat × Con) := []
theorem e47 : Eqn PP 26 Γ47 H47 W47 (bodyOf Try.f47) [.tmp 4] [.bl] [] K47 B47 := fun _ _ K => by kernel_rfl
theorem s47 : CSound PP 47 G47 := fun_sk mixed Try.func47 (by decide) (by kernel_rfl) Try.ntmps47 Try.results47 (GSound.nil) e47
def Uc47 := useC [.pure .int, .pure .int] G47
theorem u47 : CSound PP 47 Uc47 := useC_ok s47
/-! spec.CountedValid -/
def K33 : List Tok := [.A, .p .int, .p .int, .p .int, .p .int, .p .int, .E]
def B33 : Body K33 := fun x K => Ms_CountedValid x.1 x.2.1 x.2.2.1 x.2.2.2.1 x.2.2.2.2.1 (fun r1 => K (.bool r1) [])
def G33 := rdG K33 B33
def H33 : List (Nat × LH) := []
def W33 : List (Nat × List (Nat × List Nat)) := []
def Γ33 : List (Nat × Con) := [(46, Uc46), (48, Uc48), (47, Uc47)]
theorem e33 : Eqn PP 15 Γ33 H33 W33 (bodyOf Try.f33) [.tmp 2] [.bl] [] K33 B33 := fun _ _ _ _ _ K => by kernel_rfl
theorem s33 : CSound PP 33 G33 := fun_sk mixed Try.func33 (by decide) (by kernel_rfl) Try.ntmps33 Try.results33 (.cons u46 (.cons u48 (.cons u47 (GSound.nil)))) e33
def Uc33 := useC [.ag [.pure .int, .pure .int, .pure .int, .pure .int, .pure .int]] G33
theorem u33 : CSound PP 33 Uc33 := useC_ok s33
/-! spec.l9Root -/
def K16 : List Tok := [.A, .p .int, .p .int, .p .int, .p .int, .p .int, .E, .i .i64]
def B16 : Body K16 := fun x K => Ms_l9Root x.1 x.2.1 x.2.2.1 x.2.2.2.1 x.2.2.2.2.1 x.2.2.2.2.2.1 (fun r1 => K (.bool r1) [])
def G16 := rdG K16 B16
def H16 : List (Nat × LH) := []
def W16 : List (Nat × List (Nat × List Nat)) := []
def Γ16 : List (Nat × Con) := [(33, Uc33)]
theorem e16 : Eqn PP 20 Γ16 H16 W16 (bodyOf Try.f16) [.tmp 4] [.bl] [] K16 B16 := fun _ _ _ _ _ _ K => by kernel_rfl
theorem s16 : CSound PP 16 G16 := fun_sk mixed Try.func16 (by decide) (by kernel_rfl) Try.ntmps16 Try.results16 (.cons u33 (GSound.nil)) e16
def Uc16 := useC [.ag [.pure .int, .pure .int, .pure .int, .pure .int, .pure .int], .x] G16
theorem u16 : CSound PP 16 Uc16 := useC_ok s16
/-! spec.l9Copy -/
def K17 : List Tok := [.A, .p .int, .p .int, .p .int, .p .int, .p .int, .E]
def B17 : Body K17 := fun x K => Ms_l9Copy x.1 x.2.1 x.2.2.1 x.2.2.2.1 x.2.2.2.2.1 (K (.agg [.sl 0, .sl 1, .sl 2, .sl 3, .sl 4]) [⟨true, .list .int x.1⟩, ⟨true, .list .int x.2.1⟩, ⟨true, .list .int x.2.2.1⟩, ⟨true, .list .int x.2.2.2.1⟩, ⟨true, .list .int x.2.2.2.2.1⟩])
def G17 := rdG K17 B17
def H17 : List (Nat × LH) := []
def W17 : List (Nat × List (Nat × List Nat)) := []
def Γ17 : List (Nat × Con) := [(34, Uc34)]
theorem e17 : Eqn PP 11 Γ17 H17 W17 (bodyOf Try.f17) [.cell 2 29] [.ag [.own .int, .own .int, .own .int, .own .int, .own .int]] [] K17 B17 := fun _ _ _ _ _ K => by kernel_rfl
theorem s17 : CSound PP 17 G17 := fun_sk mixed Try.func17 (by decide) (by kernel_rfl) Try.ntmps17 Try.results17 (.cons u34 (GSound.nil)) e17
def Uc17 := useC [.ag [.pure .int, .pure .int, .pure .int, .pure .int, .pure .int]] G17
theorem u17 : CSound PP 17 Uc17 := useC_ok s17
/-! spec.l9Down -/
def K18 : List Tok := [.A, .L 0, .L 1, .L 2, .L 3, .L 4, .E, .L 5, .bL true .int, .bL true .int, .bL true .int, .bL true .int, .bL true .int, .bL true .int]
def B18 : Body K18 := fun x K => Ms_l9Down x.1 x.2.1 x.2.2.1 x.2.2.2.1 x.2.2.2.2.1 x.2.2.2.2.2.1 (fun r1 r2 r3 r4 r5 => K (.agg [.sl 0, .sl 1, .sl 2, .sl 6, .sl 4]) [⟨true, .list .int r1⟩, ⟨true, .list .int r2⟩, ⟨true, .list .int r3⟩, ⟨true, .dead⟩, ⟨true, .list .int r4⟩, ⟨true, .dead⟩, ⟨true, .list .int r5⟩])
def G18 := rdG K18 B18
noncomputable def H18_0 := mkH [(1, .mv .int), (2, .pc [.own .int, .own .int, .own .int, .mv .int, .own .int]), (4, .pc [.own .int, .own .int, .own .int, .own .int, .own .int]), (5, .x)] [.L 6, .Q 7, .Q 8, .i .i64, .bL true .int, .bL true .int, .bL true .int, .bD true, .bL true .int, .bD true, .bL true .int, .bC true, .L 0, .L 1, .L 2, .L 9, .L 4, .E, .bC true, .L 10, .L 11, .L 12, .L 13, .L 14, .E, .bL true .int, .bL true .int, .bL true .int, .bL true .int, .bL true .int, .bL true .int]
noncomputable def H18 : List (Nat × LH) := [(0, H18_0)]
def W18 : List (Nat × List (Nat × List Nat)) := []
def Γ18 : List (Nat × Con) := []
theorem e18 : Eqn PP 73 Γ18 H18 W18 (bodyOf Try.f18) [.cell 4 29] [.ag [.own .int, .own .int, .own .int, .own .int, .own .int]] [3, 5] K18 B18 := fun _ _ _ _ _ _ K => by kernel_rfl
theorem s18 : CSound PP 18 G18 := fun_sk mixed Try.func18 (by decide) (by kernel_rfl) Try.ntmps18 Try.results18 (GSound.nil) e18
def Uc18 := useC [.ag [.own .int, .own .int, .own .int, .own .int, .own .int], .own .int] G18
theorem u18 : CSound PP 18 Uc18 := useC_ok s18
/-! spec.TakeCounted -/
def K58 : List Tok := [.A, .p .int, .p .int, .p .int, .p .int, .p .int, .E, .i .i64]
def B58 : Body K58 := fun x K => Ms_TakeCounted x.1 x.2.1 x.2.2.1 x.2.2.2.1 x.2.2.2.2.1 x.2.2.2.2.2.1 (fun r1 r2 r3 r4 r5 r6 => K (.tup [.agg [.sl 0, .sl 1, .sl 2, .sl 3, .sl 4], .bool r1]) [⟨true, .list .int r2⟩, ⟨true, .list .int r3⟩, ⟨true, .list .int r4⟩, ⟨true, .list .int r5⟩, ⟨true, .list .int r6⟩])
def G58 := rdG K58 B58
def H58 : List (Nat × LH) := []
def W58 : List (Nat × List (Nat × List Nat)) := [(2000009, [(0, [2])])]
def Γ58 : List (Nat × Con) := [(16, Uc16), (17, Uc17), (18, Uc18)]
theorem e58 : Eqn PP 58 Γ58 H58 W58 (bodyOf Try.f58) [.cell 4 29, .tmp 5] [.ag [.own .int, .own .int, .own .int, .own .int, .own .int], .bl] [] K58 B58 := fun _ _ _ _ _ _ K => by kernel_rfl
theorem s58 : CSound PP 58 G58 := fun_sk mixed Try.func58 (by decide) (by kernel_rfl) Try.ntmps58 Try.results58 (.cons u16 (.cons u17 (.cons u18 (GSound.nil)))) e58
def Uc58 := useC [.ag [.pure .int, .pure .int, .pure .int, .pure .int, .pure .int], .x] G58
theorem u58 : CSound PP 58 Uc58 := useC_ok s58
/-! spec.DropRoot -/
def K6 : List Tok := [.A, .p .int, .p .int, .p .int, .p .int, .p .int, .E, .i .i64]
def B6 : Body K6 := fun x K => Ms_DropRoot x.1 x.2.1 x.2.2.1 x.2.2.2.1 x.2.2.2.2.1 x.2.2.2.2.2.1 (fun r1 r2 r3 r4 r5 r6 => K (.tup [.agg [.sl 0, .sl 1, .sl 2, .sl 3, .sl 4], .bool r1]) [⟨true, .list .int r2⟩, ⟨true, .list .int r3⟩, ⟨true, .list .int r4⟩, ⟨true, .list .int r5⟩, ⟨true, .list .int r6⟩])
def G6 := rdG K6 B6
def H6 : List (Nat × LH) := []
def W6 : List (Nat × List (Nat × List Nat)) := [(2000006, [(0, [2])])]
def Γ6 : List (Nat × Con) := [(16, Uc16), (17, Uc17), (18, Uc18)]
theorem e6 : Eqn PP 32 Γ6 H6 W6 (bodyOf Try.f6) [.cell 4 29, .tmp 5] [.ag [.own .int, .own .int, .own .int, .own .int, .own .int], .bl] [] K6 B6 := fun _ _ _ _ _ _ K => by kernel_rfl
theorem s6 : CSound PP 6 G6 := fun_sk mixed Try.func6 (by decide) (by kernel_rfl) Try.ntmps6 Try.results6 (.cons u16 (.cons u17 (.cons u18 (GSound.nil)))) e6
def Uc6 := useC [.ag [.pure .int, .pure .int, .pure .int, .pure .int, .pure .int], .x] G6
theorem u6 : CSound PP 6 Uc6 := useC_ok s6
/-! spec.LinkCounted -/
def K59 : List Tok := [.A, .p .int, .p .int, .p .int, .p .int, .p .int, .E, .i .i64, .i .i64]
def B59 : Body K59 := fun x K => Ms_LinkCounted x.1 x.2.1 x.2.2.1 x.2.2.2.1 x.2.2.2.2.1 x.2.2.2.2.2.1 x.2.2.2.2.2.2.1 (fun r1 r2 r3 r4 r5 r6 => K (.tup [.agg [.sl 0, .sl 1, .sl 2, .sl 3, .sl 4], .bool r1]) [⟨true, .list .int r2⟩, ⟨true, .list .int r3⟩, ⟨true, .list .int r4⟩, ⟨true, .list .int r5⟩, ⟨true, .list .int r6⟩])
def G59 := rdG K59 B59
def H59 : List (Nat × LH) := []
def W59 : List (Nat × List (Nat × List Nat)) := [(2000010, [(0, [2])])]
def Γ59 : List (Nat × Con) := [(16, Uc16), (17, Uc17), (18, Uc18)]
theorem e59 : Eqn PP 79 Γ59 H59 W59 (bodyOf Try.f59) [.cell 6 29, .tmp 7] [.ag [.own .int, .own .int, .own .int, .own .int, .own .int], .bl] [] K59 B59 := fun _ _ _ _ _ _ _ K => by kernel_rfl
theorem s59 : CSound PP 59 G59 := fun_sk mixed Try.func59 (by decide) (by kernel_rfl) Try.ntmps59 Try.results59 (.cons u16 (.cons u17 (.cons u18 (GSound.nil)))) e59
def Uc59 := useC [.ag [.pure .int, .pure .int, .pure .int, .pure .int, .pure .int], .x, .x] G59
theorem u59 : CSound PP 59 Uc59 := useC_ok s59
/-! spec.l9Draw -/
def K44 : List Tok := [.Q 0, .bC true, .p .byte, .i .i64, .E]
def B44 : Body K44 := fun x K => Ms_l9Draw x.1 x.2.1 (fun r1 r2 r3 r4 r5 r6 r7 => K (.agg [.sl 1, .sl 2, .sl 3, .sl 4, .sl 5]) [⟨true, .cells [.pl .byte r1, .int .i64 r2]⟩, ⟨true, .list .int r3⟩, ⟨true, .list .int r4⟩, ⟨true, .list .int r5⟩, ⟨true, .list .int r6⟩, ⟨true, .list .int r7⟩])
def G44 := rdG K44 B44
noncomputable def H44_0 := mkH [(0, .pc [.pure .byte, .x]), (2, .pc [.own .int, .own .int, .own .int, .own .int, .own .int]), (3, .pc [.own .int, .own .int, .own .int, .own .int]), (5, .pc [.own .int, .own .int, .own .int, .own .int, .own .int]), (7, .x)] [.Q 0, .Q 1, .Q 2, .Q 3, .i .i64, .bC true, .p .byte, .i .i64, .E, .bC true, .L 4, .L 5, .L 6, .L 7, .L 8, .E, .bC true, .L 9, .L 10, .L 11, .L 12, .E, .bC true, .L 13, .L 14, .L 15, .L 16, .L 17, .E, .bL true .int, .bL true .int, .bL true .int, .bL true .int, .bL true .int, .bL true .int, .bL true .int, .bL true .int, .bL true .int, .bL true .int, .bL true .int, .bL true .int, .bL true .int, .bL true .int]
noncomputable def H44 : List (Nat × LH) := [(0, H44_0)]
def W44 : List (Nat × List (Nat × List Nat)) := []
def Γ44 : List (Nat × Con) := [(45, Uc45), (56, Uc56), (57, Uc57), (54, Uc54), (58, Uc58), (6, Uc6), (59, Uc59)]
theorem e44 : Eqn PP 74 Γ44 H44 W44 (bodyOf Try.f44) [.cell 2 29] [.ag [.own .int, .own .int, .own .int, .own .int, .own .int]] [] K44 B44 := fun _ _ K => by kernel_rfl
theorem s44 : CSound PP 44 G44 := fun_sk mixed Try.func44 (by decide) (by kernel_rfl) Try.ntmps44 Try.results44 (.cons u45 (.cons u56 (.cons u57 (.cons u54 (.cons u58 (.cons u6 (.cons u59 (GSound.nil)))))))) e44
def Uc44 := useC [.pc [.pure .byte, .x]] G44
theorem u44 : CSound PP 44 Uc44 := useC_ok s44
/-! spec.l1Wrong -/
def K65 : List Tok := [.Q 0, .A, .L 1, .L 2, .L 3, .E, .bC true, .p .byte, .i .i64, .E, .bL false .int, .bL false .int, .bL false .int]
def B65 : Body K65 := fun x K => Ms_l1Wrong x.1 x.2.1 x.2.2.1 x.2.2.2.1 x.2.2.2.2.1 (fun r1 r2 r3 r4 => K (.agg [.sl 4, .sl 5, .sl 6]) [⟨true, .cells [.pl .byte x.1, .int .i64 r1]⟩, ⟨false, .list .int x.2.2.1⟩, ⟨false, .list .int x.2.2.2.1⟩, ⟨false, .list .int x.2.2.2.2.1⟩, ⟨true, .list .int r2⟩, ⟨true, .list .int r3⟩, ⟨true, .list .int r4⟩])
def G65 := rdG K65 B65
def H65 : List (Nat × LH) := []
def W65 : List (Nat × List (Nat × List Nat)) := [(4, [(0, [6, 9])]), (8, [(0, [4])])]
def Γ65 : List (Nat × Con) := [(49, Uc49), (54, Uc54), (45, Uc45)]
theorem e65 : Eqn PP 45 Γ65 H65 W65 (bodyOf Try.f65) [.cell 4 25] [.ag [.own .int, .own .int, .own .int]] [] K65 B65 := fun _ _ _ _ _ K => by kernel_rfl
theorem s65 : CSound PP 65 G65 := fun_sk mixed Try.func65 (by decide) (by kernel_rfl) Try.ntmps65 Try.results65 (.cons u49 (.cons u54 (.cons u45 (GSound.nil)))) e65
def Uc65 := useC [.pc [.pure .byte, .x], .ag [.own .int, .own .int, .own .int]] (onlyC [0] G65)
theorem u65 : CSound PP 65 Uc65 := useC_ok (onlyC_ok s65)
/-! spec.l4Wrong -/
def K55 : List Tok := [.Q 0, .A, .L 1, .L 2, .L 3, .L 4, .E, .bC true, .p .byte, .i .i64, .E, .bL false .int, .bL false .int, .bL false .int, .bL false .int]
def B55 : Body K55 := fun x K => Ms_l4Wrong x.1 x.2.1 x.2.2.1 x.2.2.2.1 x.2.2.2.2.1 x.2.2.2.2.2.1 (fun r1 r2 r3 r4 r5 => K (.agg [.sl 5, .sl 6, .sl 7, .sl 8]) [⟨true, .cells [.pl .byte x.1, .int .i64 r1]⟩, ⟨false, .list .int x.2.2.1⟩, ⟨false, .list .int x.2.2.2.1⟩, ⟨false, .list .int x.2.2.2.2.1⟩, ⟨false, .list .int x.2.2.2.2.2.1⟩, ⟨true, .list .int r2⟩, ⟨true, .list .int r3⟩, ⟨true, .list .int r4⟩, ⟨true, .list .int r5⟩])
def G55 := rdG K55 B55
def H55 : List (Nat × LH) := []
def W55 : List (Nat × List (Nat × List Nat)) := [(4, [(0, [4])])]
def Γ55 : List (Nat × Con) := [(34, Uc34), (54, Uc54), (45, Uc45), (65, Uc65)]
theorem e55 : Eqn PP 30 Γ55 H55 W55 (bodyOf Try.f55) [.cell 4 27] [.ag [.own .int, .own .int, .own .int, .own .int]] [] K55 B55 := fun _ _ _ _ _ _ K => by kernel_rfl
theorem s55 : CSound PP 55 G55 := fun_sk mixed Try.func55 (by decide) (by kernel_rfl) Try.ntmps55 Try.results55 (.cons u34 (.cons u54 (.cons u45 (.cons u65 (GSound.nil))))) e55
def Uc55 := useC [.pc [.pure .byte, .x], .ag [.own .int, .own .int, .own .int, .own .int]] (onlyC [0] G55)
theorem u55 : CSound PP 55 Uc55 := useC_ok (onlyC_ok s55)
/-! spec.l9Wrong -/
def K43 : List Tok := [.Q 0, .A, .L 1, .L 2, .L 3, .L 4, .L 5, .E, .bC true, .p .byte, .i .i64, .E, .bL false .int, .bL false .int, .bL false .int, .bL false .int, .bL false .int]
def B43 : Body K43 := fun x K => Ms_l9Wrong x.1 x.2.1 x.2.2.1 x.2.2.2.1 x.2.2.2.2.1 x.2.2.2.2.2.1 x.2.2.2.2.2.2.1 (fun r1 r2 r3 r4 r5 r6 => K (.agg [.sl 6, .sl 7, .sl 8, .sl 9, .sl 10]) [⟨true, .cells [.pl .byte x.1, .int .i64 r1]⟩, ⟨false, .list .int x.2.2.1⟩, ⟨false, .list .int x.2.2.2.1⟩, ⟨false, .list .int x.2.2.2.2.1⟩, ⟨false, .list .int x.2.2.2.2.2.1⟩, ⟨false, .list .int x.2.2.2.2.2.2.1⟩, ⟨true, .list .int r2⟩, ⟨true, .list .int r3⟩, ⟨true, .list .int r4⟩, ⟨true, .list .int r5⟩, ⟨true, .list .int r6⟩])
def G43 := rdG K43 B43
def H43 : List (Nat × LH) := []
def W43 : List (Nat × List (Nat × List Nat)) := [(4, [(0, [6, 9])])]
def Γ43 : List (Nat × Con) := [(17, Uc17), (54, Uc54), (45, Uc45), (55, Uc55)]
theorem e43 : Eqn PP 33 Γ43 H43 W43 (bodyOf Try.f43) [.cell 4 29] [.ag [.own .int, .own .int, .own .int, .own .int, .own .int]] [] K43 B43 := fun _ _ _ _ _ _ _ K => by kernel_rfl
theorem s43 : CSound PP 43 G43 := fun_sk mixed Try.func43 (by decide) (by kernel_rfl) Try.ntmps43 Try.results43 (.cons u17 (.cons u54 (.cons u45 (.cons u55 (GSound.nil))))) e43
def Uc43 := useC [.pc [.pure .byte, .x], .ag [.own .int, .own .int, .own .int, .own .int, .own .int]] (onlyC [0] G43)
theorem u43 : CSound PP 43 Uc43 := useC_ok (onlyC_ok s43)
/-! spec.l9Case -/
def K29 : List Tok := [.p .byte]
def B29 : Body K29 := fun x K => Ms_l9Case x.1 (fun r1 r2 r3 r4 r5 r6 r7 => K (.tup [.agg [.sl 0, .sl 1, .sl 2, .sl 3, .sl 4], .int .i64 r1, .int .i64 r2]) [⟨true, .list .int r3⟩, ⟨true, .list .int r4⟩, ⟨true, .list .int r5⟩, ⟨true, .list .int r6⟩, ⟨true, .list .int r7⟩])
def G29 := rdG K29 B29
def H29 : List (Nat × LH) := []
def W29 : List (Nat × List (Nat × List Nat)) := []
def Γ29 : List (Nat × Con) := [(42, Uc42), (44, Uc44), (43, Uc43), (45, Uc45)]
theorem e29 : Eqn PP 18 Γ29 H29 W29 (bodyOf Try.f29) [.cell 2 29, .tmp 3, .tmp 4] [.ag [.own .int, .own .int, .own .int, .own .int, .own .int], .x, .x] [] K29 B29 := fun _ K => by kernel_rfl
theorem s29 : CSound PP 29 G29 := fun_sk mixed Try.func29 (by decide) (by kernel_rfl) Try.ntmps29 Try.results29 (.cons u42 (.cons u44 (.cons u43 (.cons u45 (GSound.nil))))) e29
def Uc29 := useC [.pure .byte] G29
theorem u29 : CSound PP 29 Uc29 := useC_ok s29
/-! spec.DrawTakeCounted -/
def K12 : List Tok := [.p .byte]
def B12 : Body K12 := fun x K => Ms_DrawTakeCounted x.1 (fun r1 r2 r3 r4 r5 r6 => K (.tup [.agg [.sl 0, .sl 1, .sl 2, .sl 3, .sl 4], .int .i64 r1]) [⟨true, .list .int r2⟩, ⟨true, .list .int r3⟩, ⟨true, .list .int r4⟩, ⟨true, .list .int r5⟩, ⟨true, .list .int r6⟩])
def G12 := rdG K12 B12
def H12 : List (Nat × LH) := []
def W12 : List (Nat × List (Nat × List Nat)) := []
def Γ12 : List (Nat × Con) := [(29, Uc29)]
theorem e12 : Eqn PP 15 Γ12 H12 W12 (bodyOf Try.f12) [.cell 2 29, .tmp 3] [.ag [.own .int, .own .int, .own .int, .own .int, .own .int], .x] [] K12 B12 := fun _ K => by kernel_rfl
theorem s12 : CSound PP 12 G12 := fun_sk mixed Try.func12 (by decide) (by kernel_rfl) Try.ntmps12 Try.results12 (.cons u29 (GSound.nil)) e12
def Uc12 := useC [.pure .byte] G12
theorem u12 : CSound PP 12 Uc12 := useC_ok s12
/-! spec.DrawDropRoot -/
def K4 : List Tok := [.p .byte]
def B4 : Body K4 := fun x K => Ms_DrawDropRoot x.1 (fun r1 r2 r3 r4 r5 r6 => K (.tup [.agg [.sl 0, .sl 1, .sl 2, .sl 3, .sl 4], .int .i64 r1]) [⟨true, .list .int r2⟩, ⟨true, .list .int r3⟩, ⟨true, .list .int r4⟩, ⟨true, .list .int r5⟩, ⟨true, .list .int r6⟩])
def G4 := rdG K4 B4
def H4 : List (Nat × LH) := []
def W4 : List (Nat × List (Nat × List Nat)) := []
def Γ4 : List (Nat × Con) := [(12, Uc12)]
theorem e4 : Eqn PP 8 Γ4 H4 W4 (bodyOf Try.f4) [.cell 2 29, .tmp 3] [.ag [.own .int, .own .int, .own .int, .own .int, .own .int], .x] [] K4 B4 := fun _ K => by kernel_rfl
theorem s4 : CSound PP 4 G4 := fun_sk mixed Try.func4 (by decide) (by kernel_rfl) Try.ntmps4 Try.results4 (.cons u12 (GSound.nil)) e4
def Uc4 := useC [.pure .byte] G4
theorem u4 : CSound PP 4 Uc4 := useC_ok s4
/-! impl.HeapValid -/
def K21 : List Tok := [.A, .p .int, .p .int, .p .int, .E]
def B21 : Body K21 := fun x K => Mi_HeapValid x.1 x.2.1 x.2.2.1 (fun r1 => K (.bool r1) [])
def G21 := rdG K21 B21
noncomputable def H21_0 := mkH [(1, .pc [.pure .int, .pure .int, .pure .int]), (44, .own .ints), (45, .x), (46, .x)] [.Q 0, .L 1, .i .i64, .i .i64, .bC true, .p .int, .p .int, .p .int, .E, .bL true .ints]
noncomputable def H21_2 := mkH [(1, .pc [.pure .int, .pure .int, .pure .int]), (44, .own .ints), (45, .x), (46, .x), (50, .pure .int), (51, .x), (52, .x)] [.Q 0, .L 1, .i .i64, .i .i64, .p .int, .i .i64, .i .i64, .bC true, .p .int, .p .int, .p .int, .E, .bL true .ints]
noncomputable def H21 : List (Nat × LH) := [(0, H21_0), (2, H21_2)]
def W21 : List (Nat × List (Nat × List Nat)) := []
def Γ21 : List (Nat × Con) := []
theorem e21 : Eqn PP 67 Γ21 H21 W21 (bodyOf Try.f21) [.tmp 2] [.bl] [] K21 B21 := fun _ _ _ K => by kernel_rfl
theorem s21 : CSound PP 21 G21 := fun_sk mixed Try.func21 (by decide) (by kernel_rfl) Try.ntmps21 Try.results21 (GSound.nil) e21
def Uc21 := useC [.ag [.pure .int, .pure .int, .pure .int]] G21
theorem u21 : CSound PP 21 Uc21 := useC_ok s21
/-! slices.Grow[[]int,int] -/
def K63 : List Tok := [.T .nil, .i .i64]
def B63 : Body K63 := fun x K => M_Grow_int x.1 (fun r1 => K (.sl 0) [⟨true, .list .int r1⟩])
def G63 := rdG K63 B63
def H63 : List (Nat × LH) := []
def W63 : List (Nat × List (Nat × List Nat)) := []
def Γ63 : List (Nat × Con) := []
theorem e63 : Eqn PP 27 Γ63 H63 W63 (bodyOf Try.f63) [.tmp 4] [.own .int] [] K63 B63 := fun _ K => by kernel_rfl
theorem s63 : CSound PP 63 G63 := fun_sk mixed Try.func63 (by decide) (by kernel_rfl) Try.ntmps63 Try.results63 (GSound.nil) e63
def Uc63 := useC [.x, .x] G63
theorem u63 : CSound PP 63 Uc63 := useC_ok s63
/-! slices.Concat[[]int,int] -/
def K50 : List Tok := [.p .ints]
def B50 : Body K50 := fun x K => M_Concat_int x.1 (fun r1 => K (.sl 0) [⟨true, .list .int r1⟩])
def G50 := rdG K50 B50
noncomputable def H50_0 := mkH [(0, .pure .ints), (3, .x), (9, .pure .ints), (10, .x), (11, .x)] [.p .ints, .i .i64, .p .ints, .i .i64, .i .i64]
noncomputable def H50_2 := mkH [(6, .own .int), (25, .pure .ints), (26, .x), (27, .x)] [.L 0, .p .ints, .i .i64, .i .i64, .bL true .int]
noncomputable def H50 : List (Nat × LH) := [(0, H50_0), (2, H50_2)]
def W50 : List (Nat × List (Nat × List Nat)) := []
def Γ50 : List (Nat × Con) := [(63, Uc63)]
theorem e50 : Eqn PP 36 Γ50 H50 W50 (bodyOf Try.f50) [.tmp 2] [.own .int] [] K50 B50 := fun _ K => by kernel_rfl
theorem s50 : CSound PP 50 G50 := fun_sk mixed Try.func50 (by decide) (by kernel_rfl) Try.ntmps50 Try.results50 (.cons u63 (GSound.nil)) e50
def Uc50 := useC [.pure .ints] G50
theorem u50 : CSound PP 50 Uc50 := useC_ok s50
/-! impl.CountsOf -/
def K37 : List Tok := [.A, .p .int, .p .int, .p .int, .E]
def B37 : Body K37 := fun x K => Mi_CountsOf x.1 x.2.1 x.2.2.1 (fun r1 => K (.sl 0) [⟨true, .list .int r1⟩])
def G37 := rdG K37 B37
noncomputable def H37_0 := mkH [(3, .own .int), (20, .own .int), (21, .x), (22, .x)] [.L 0, .L 1, .i .i64, .i .i64, .bL true .int, .bL true .int]
noncomputable def H37 : List (Nat × LH) := [(0, H37_0)]
def W37 : List (Nat × List (Nat × List Nat)) := []
def Γ37 : List (Nat × Con) := [(21, Uc21), (50, Uc50)]
theorem e37 : Eqn PP 36 Γ37 H37 W37 (bodyOf Try.f37) [.tmp 2] [.own .int] [] K37 B37 := fun _ _ _ K => by kernel_rfl
theorem s37 : CSound PP 37 G37 := fun_sk mixed Try.func37 (by decide) (by kernel_rfl) Try.ntmps37 Try.results37 (.cons u21 (.cons u50 (GSound.nil))) e37
def Uc37 := useC [.ag [.pure .int, .pure .int, .pure .int]] G37
theorem u37 : CSound PP 37 Uc37 := useC_ok s37
/-! slices.Index[[]int,int] -/
def K38 : List Tok := [.p .int, .i .i64]
def B38 : Body K38 := fun x K => M_Index_int x.1 x.2.1 (fun r1 => K (.int .i64 r1) [])
def G38 := rdG K38 B38
noncomputable def H38_0 := mkH [(0, .pure .int), (1, .x), (7, .x), (8, .x)] [.p .int, .i .i64, .i .i64, .i .i64]
noncomputable def H38 : List (Nat × LH) := [(0, H38_0)]
def W38 : List (Nat × List (Nat × List Nat)) := []
def Γ38 : List (Nat × Con) := []
theorem e38 : Eqn PP 19 Γ38 H38 W38 (bodyOf Try.f38) [.tmp 4] [.x] [] K38 B38 := fun _ _ K => by kernel_rfl
theorem s38 : CSound PP 38 G38 := fun_sk mixed Try.func38 (by decide) (by kernel_rfl) Try.ntmps38 Try.results38 (GSound.nil) e38
def Uc38 := useC [.pure .int, .x] G38
theorem u38 : CSound PP 38 Uc38 := useC_ok s38
/-! slices.Contains[[]int,int] -/
def K26 : List Tok := [.p .int, .i .i64]
def B26 : Body K26 := fun x K => M_Contains_int x.1 x.2.1 (fun r1 => K (.bool r1) [])
def G26 := rdG K26 B26
def H26 : List (Nat × LH) := []
def W26 : List (Nat × List (Nat × List Nat)) := []
def Γ26 : List (Nat × Con) := [(38, Uc38)]
theorem e26 : Eqn PP 9 Γ26 H26 W26 (bodyOf Try.f26) [.tmp 4] [.bl] [] K26 B26 := fun _ _ K => by kernel_rfl
theorem s26 : CSound PP 26 G26 := fun_sk mixed Try.func26 (by decide) (by kernel_rfl) Try.ntmps26 Try.results26 (.cons u38 (GSound.nil)) e26
def Uc26 := useC [.pure .int, .x] G26
theorem u26 : CSound PP 26 Uc26 := useC_ok s26
/-! impl.StoreValid -/
def K25 : List Tok := [.A, .p .int, .p .int, .p .int, .p .int, .E]
def B25 : Body K25 := fun x K => Mi_StoreValid x.1 x.2.1 x.2.2.1 x.2.2.2.1 (fun r1 => K (.bool r1) [])
def G25 := rdG K25 B25
noncomputable def H25_0 := mkH [(1, .pc [.pure .int, .pure .int, .pure .int, .pure .int]), (3, .own .int), (14, .pure .int), (15, .x), (16, .x)] [.Q 0, .L 1, .p .int, .i .i64, .i .i64, .bC true, .p .int, .p .int, .p .int, .p .int, .E, .bL true .int]
noncomputable def H25 : List (Nat × LH) := [(0, H25_0)]
def W25 : List (Nat × List (Nat × List Nat)) := []
def Γ25 : List (Nat × Con) := [(21, Uc21), (37, Uc37), (26, Uc26)]
theorem e25 : Eqn PP 63 Γ25 H25 W25 (bodyOf Try.f25) [.tmp 2] [.bl] [] K25 B25 := fun _ _ _ _ K => by kernel_rfl
theorem s25 : CSound PP 25 G25 := fun_sk mixed Try.func25 (by decide) (by kernel_rfl) Try.ntmps25 Try.results25 (.cons u21 (.cons u37 (.cons u26 (GSound.nil)))) e25
def Uc25 := useC [.ag [.pure .int, .pure .int, .pure .int, .pure .int]] G25
theorem u25 : CSound PP 25 Uc25 := useC_ok s25
/-! slices.Equal[[]int,int] -/
def K20 : List Tok := [.p .int, .p .int]
def B20 : Body K20 := fun x K => M_Equal_int x.1 x.2.1 (fun r1 => K (.bool r1) [])
def G20 := rdG K20 B20
noncomputable def H20_0 := mkH [(0, .pure .int), (1, .pure .int), (12, .x), (13, .x)] [.p .int, .p .int, .i .i64, .i .i64]
noncomputable def H20 : List (Nat × LH) := [(0, H20_0)]
def W20 : List (Nat × List (Nat × List Nat)) := []
def Γ20 : List (Nat × Con) := []
theorem e20 : Eqn PP 26 Γ20 H20 W20 (bodyOf Try.f20) [.tmp 4] [.bl] [] K20 B20 := fun _ _ K => by kernel_rfl
theorem s20 : CSound PP 20 G20 := fun_sk mixed Try.func20 (by decide) (by kernel_rfl) Try.ntmps20 Try.results20 (GSound.nil) e20
def Uc20 := useC [.pure .int, .pure .int] G20
theorem u20 : CSound PP 20 Uc20 := useC_ok s20
/-! impl.CountedValid -/
def K30 : List Tok := [.A, .p .int, .p .int, .p .int, .p .int, .p .int, .E]
def B30 : Body K30 := fun x K => Mi_CountedValid x.1 x.2.1 x.2.2.1 x.2.2.2.1 x.2.2.2.2.1 (fun r1 => K (.bool r1) [])
def G30 := rdG K30 B30
def H30 : List (Nat × LH) := []
def W30 : List (Nat × List (Nat × List Nat)) := []
def Γ30 : List (Nat × Con) := [(25, Uc25), (37, Uc37), (20, Uc20)]
theorem e30 : Eqn PP 15 Γ30 H30 W30 (bodyOf Try.f30) [.tmp 2] [.bl] [] K30 B30 := fun _ _ _ _ _ K => by kernel_rfl
theorem s30 : CSound PP 30 G30 := fun_sk mixed Try.func30 (by decide) (by kernel_rfl) Try.ntmps30 Try.results30 (.cons u25 (.cons u37 (.cons u20 (GSound.nil)))) e30
def Uc30 := useC [.ag [.pure .int, .pure .int, .pure .int, .pure .int, .pure .int]] G30
theorem u30 : CSound PP 30 Uc30 := useC_ok s30
/-! impl.rooted -/
def K13 : List Tok := [.A, .p .int, .p .int, .p .int, .p .int, .p .int, .E, .i .i64]
def B13 : Body K13 := fun x K => Mi_rooted x.1 x.2.1 x.2.2.1 x.2.2.2.1 x.2.2.2.2.1 x.2.2.2.2.2.1 (fun r1 => K (.bool r1) [])
def G13 := rdG K13 B13
def H13 : List (Nat × LH) := []
def W13 : List (Nat × List (Nat × List Nat)) := []
def Γ13 : List (Nat × Con) := [(30, Uc30)]
theorem e13 : Eqn PP 20 Γ13 H13 W13 (bodyOf Try.f13) [.tmp 4] [.bl] [] K13 B13 := fun _ _ _ _ _ _ K => by kernel_rfl
theorem s13 : CSound PP 13 G13 := fun_sk mixed Try.func13 (by decide) (by kernel_rfl) Try.ntmps13 Try.results13 (.cons u30 (GSound.nil)) e13
def Uc13 := useC [.ag [.pure .int, .pure .int, .pure .int, .pure .int, .pure .int], .x] G13
theorem u13 : CSound PP 13 Uc13 := useC_ok s13
/-! slices.Clone[[]int,int] -/
def K32 : List Tok := [.p .int]
def B32 : Body K32 := fun x K => M_Clone_int x.1 (fun r1 => K (.sl 0) [⟨true, .list .int r1⟩])
def G32 := rdG K32 B32
def H32 : List (Nat × LH) := []
def W32 : List (Nat × List (Nat × List Nat)) := []
def Γ32 : List (Nat × Con) := []
theorem e32 : Eqn PP 8 Γ32 H32 W32 (bodyOf Try.f32) [.tmp 2] [.own .int] [] K32 B32 := fun _ K => by kernel_rfl
theorem s32 : CSound PP 32 G32 := fun_sk mixed Try.func32 (by decide) (by kernel_rfl) Try.ntmps32 Try.results32 (GSound.nil) e32
def Uc32 := useC [.pure .int] G32
theorem u32 : CSound PP 32 Uc32 := useC_ok s32
/-! impl.copied -/
def K23 : List Tok := [.A, .p .int, .p .int, .p .int, .E]
def B23 : Body K23 := fun x K => Mi_copied x.1 x.2.1 x.2.2.1 (fun r1 r2 r3 => K (.agg [.sl 0, .sl 1, .sl 2]) [⟨true, .list .int r1⟩, ⟨true, .list .int r2⟩, ⟨true, .list .int r3⟩])
def G23 := rdG K23 B23
def H23 : List (Nat × LH) := []
def W23 : List (Nat × List (Nat × List Nat)) := []
def Γ23 : List (Nat × Con) := [(32, Uc32)]
theorem e23 : Eqn PP 13 Γ23 H23 W23 (bodyOf Try.f23) [.cell 2 25] [.ag [.own .int, .own .int, .own .int]] [] K23 B23 := fun _ _ _ K => by kernel_rfl
theorem s23 : CSound PP 23 G23 := fun_sk mixed Try.func23 (by decide) (by kernel_rfl) Try.ntmps23 Try.results23 (.cons u32 (GSound.nil)) e23
def Uc23 := useC [.ag [.pure .int, .pure .int, .pure .int]] G23
theorem u23 : CSound PP 23 Uc23 := useC_ok s23
/-! impl.again -/
def K31 : List Tok := [.A, .p .int, .p .int, .p .int, .p .int, .E]
def B31 : Body K31 := fun x K => Mi_again x.1 x.2.1 x.2.2.1 x.2.2.2.1 (fun r1 r2 r3 r4 => K (.agg [.sl 0, .sl 1, .sl 2, .sl 3]) [⟨true, .list .int r1⟩, ⟨true, .list .int r2⟩, ⟨true, .list .int r3⟩, ⟨true, .list .int r4⟩])
def G31 := rdG K31 B31
def H31 : List (Nat × LH) := []
def W31 : List (Nat × List (Nat × List Nat)) := []
def Γ31 : List (Nat × Con) := [(23, Uc23), (32, Uc32)]
theorem e31 : Eqn PP 10 Γ31 H31 W31 (bodyOf Try.f31) [.cell 2 27] [.ag [.own .int, .own .int, .own .int, .own .int]] [] K31 B31 := fun _ _ _ _ K => by kernel_rfl
theorem s31 : CSound PP 31 G31 := fun_sk mixed Try.func31 (by decide) (by kernel_rfl) Try.ntmps31 Try.results31 (.cons u23 (.cons u32 (GSound.nil))) e31
def Uc31 := useC [.ag [.pure .int, .pure .int, .pure .int, .pure .int]] G31
theorem u31 : CSound PP 31 Uc31 := useC_ok s31
/-! impl.counted -/
def K14 : List Tok := [.A, .p .int, .p .int, .p .int, .p .int, .p .int, .E]
def B14 : Body K14 := fun x K => Mi_counted x.1 x.2.1 x.2.2.1 x.2.2.2.1 x.2.2.2.2.1 (fun r1 r2 r3 r4 r5 => K (.agg [.sl 0, .sl 1, .sl 2, .sl 3, .sl 4]) [⟨true, .list .int r1⟩, ⟨true, .list .int r2⟩, ⟨true, .list .int r3⟩, ⟨true, .list .int r4⟩, ⟨true, .list .int r5⟩])
def G14 := rdG K14 B14
def H14 : List (Nat × LH) := []
def W14 : List (Nat × List (Nat × List Nat)) := []
def Γ14 : List (Nat × Con) := [(31, Uc31), (32, Uc32)]
theorem e14 : Eqn PP 10 Γ14 H14 W14 (bodyOf Try.f14) [.cell 2 29] [.ag [.own .int, .own .int, .own .int, .own .int, .own .int]] [] K14 B14 := fun _ _ _ _ _ K => by kernel_rfl
theorem s14 : CSound PP 14 G14 := fun_sk mixed Try.func14 (by decide) (by kernel_rfl) Try.ntmps14 Try.results14 (.cons u31 (.cons u32 (GSound.nil))) e14
def Uc14 := useC [.ag [.pure .int, .pure .int, .pure .int, .pure .int, .pure .int]] G14
theorem u14 : CSound PP 14 Uc14 := useC_ok s14
/-! (*impl.Counted).giveUp -/
def K15 : List Tok := [.Q 0, .i .i64, .bC true, .L 1, .L 2, .L 3, .L 4, .L 5, .E, .bL true .int, .bL true .int, .bL true .int, .bL true .int, .bL true .int]
def B15 : Body K15 := fun x K => Mi_Counted_giveUp x.1 x.2.1 x.2.2.1 x.2.2.2.1 x.2.2.2.2.1 x.2.2.2.2.2.1 (fun r1 r2 r3 r4 r5 => K (.tup []) [⟨true, .cells [.sl 1, .sl 2, .sl 3, .sl 6, .sl 5]⟩, ⟨true, .list .int r1⟩, ⟨true, .list .int r2⟩, ⟨true, .list .int r3⟩, ⟨true, .dead⟩, ⟨true, .list .int r4⟩, ⟨true, .list .int r5⟩])
def G15 := rdG K15 B15
noncomputable def H15_0 := mkH [(0, .pc [.own .int, .own .int, .own .int, .mv .int, .own .int]), (4, .pc [.own .int, .own .int, .own .int]), (5, .own .int), (6, .x)] [.Q 0, .Q 6, .L 7, .i .i64, .bC true, .L 1, .L 2, .L 3, .L 8, .L 5, .E, .bL true .int, .bL true .int, .bL true .int, .bD true, .bL true .int, .bC true, .L 1, .L 2, .L 3, .E, .bL true .int, .bL true .int]
noncomputable def H15 : List (Nat × LH) := [(0, H15_0)]
def W15 : List (Nat × List (Nat × List Nat)) := [(10, [(1, [7])])]
def Γ15 : List (Nat × Con) := []
theorem e15 : Eqn PP 77 Γ15 H15 W15 (bodyOf Try.f15) [] [] [4] K15 B15 := fun _ _ _ _ _ _ K => by kernel_rfl
theorem s15 : CSound PP 15 G15 := fun_sk mixed Try.func15 (by decide) (by kernel_rfl) Try.ntmps15 Try.results15 (GSound.nil) e15
def Uc15 := useC [.pc [.own .int, .own .int, .own .int, .own .int, .own .int], .x] G15
theorem u15 : CSound PP 15 Uc15 := useC_ok s15
/-! impl.DropRoot -/
def K5 : List Tok := [.A, .p .int, .p .int, .p .int, .p .int, .p .int, .E, .i .i64]
def B5 : Body K5 := fun x K => Mi_DropRoot x.1 x.2.1 x.2.2.1 x.2.2.2.1 x.2.2.2.2.1 x.2.2.2.2.2.1 (fun r1 r2 r3 r4 r5 r6 => K (.tup [.agg [.sl 0, .sl 1, .sl 2, .sl 3, .sl 4], .bool r1]) [⟨true, .list .int r2⟩, ⟨true, .list .int r3⟩, ⟨true, .list .int r4⟩, ⟨true, .list .int r5⟩, ⟨true, .list .int r6⟩])
def G5 := rdG K5 B5
def H5 : List (Nat × LH) := []
def W5 : List (Nat × List (Nat × List Nat)) := []
def Γ5 : List (Nat × Con) := [(13, Uc13), (14, Uc14), (15, Uc15)]
theorem e5 : Eqn PP 30 Γ5 H5 W5 (bodyOf Try.f5) [.cell 4 29, .tmp 5] [.ag [.own .int, .own .int, .own .int, .own .int, .own .int], .bl] [] K5 B5 := fun _ _ _ _ _ _ K => by kernel_rfl
theorem s5 : CSound PP 5 G5 := fun_sk mixed Try.func5 (by decide) (by kernel_rfl) Try.ntmps5 Try.results5 (.cons u13 (.cons u14 (.cons u15 (GSound.nil)))) e5
def Uc5 := useC [.ag [.pure .int, .pure .int, .pure .int, .pure .int, .pure .int], .x] G5
theorem u5 : CSound PP 5 Uc5 := useC_ok s5
/-! impl.HeapSame -/
def K35 : List Tok := [.A, .p .int, .p .int, .p .int, .E, .A, .p .int, .p .int, .p .int, .E]
def B35 : Body K35 := fun x K => Mi_HeapSame x.1 x.2.1 x.2.2.1 x.2.2.2.1 x.2.2.2.2.1 x.2.2.2.2.2.1 (fun r1 => K (.bool r1) [])
def G35 := rdG K35 B35
def H35 : List (Nat × LH) := []
def W35 : List (Nat × List (Nat × List Nat)) := []
def Γ35 : List (Nat × Con) := [(20, Uc20)]
theorem e35 : Eqn PP 24 Γ35 H35 W35 (bodyOf Try.f35) [.tmp 4] [.bl] [] K35 B35 := fun _ _ _ _ _ _ K => by kernel_rfl
theorem s35 : CSound PP 35 G35 := fun_sk mixed Try.func35 (by decide) (by kernel_rfl) Try.ntmps35 Try.results35 (.cons u20 (GSound.nil)) e35
def Uc35 := useC [.ag [.pure .int, .pure .int, .pure .int], .ag [.pure .int, .pure .int, .pure .int]] G35
theorem u35 : CSound PP 35 Uc35 := useC_ok s35
/-! impl.StoreSame -/
def K19 : List Tok := [.A, .p .int, .p .int, .p .int, .p .int, .E, .A, .p .int, .p .int, .p .int, .p .int, .E]
def B19 : Body K19 := fun x K => Mi_StoreSame x.1 x.2.1 x.2.2.1 x.2.2.2.1 x.2.2.2.2.1 x.2.2.2.2.2.1 x.2.2.2.2.2.2.1 x.2.2.2.2.2.2.2.1 (fun r1 => K (.bool r1) [])
def G19 := rdG K19 B19
def H19 : List (Nat × LH) := []
def W19 : List (Nat × List (Nat × List Nat)) := []
def Γ19 : List (Nat × Con) := [(35, Uc35), (20, Uc20)]
theorem e19 : Eqn PP 17 Γ19 H19 W19 (bodyOf Try.f19) [.tmp 4] [.bl] [] K19 B19 := fun _ _ _ _ _ _ _ _ K => by kernel_rfl
theorem s19 : CSound PP 19 G19 := fun_sk mixed Try.func19 (by decide) (by kernel_rfl) Try.ntmps19 Try.results19 (.cons u35 (.cons u20 (GSound.nil))) e19
def Uc19 := useC [.ag [.pure .int, .pure .int, .pure .int, .pure .int], .ag [.pure .int, .pure .int, .pure .int, .pure .int]] G19
theorem u19 : CSound PP 19 Uc19 := useC_ok s19
/-! impl.CountedSame -/
def K7 : List Tok := [.A, .p .int, .p .int, .p .int, .p .int, .p .int, .E, .A, .p .int, .p .int, .p .int, .p .int, .p .int, .E]
def B7 : Body K7 := fun x K => Mi_CountedSame x.1 x.2.1 x.2.2.1 x.2.2.2.1 x.2.2.2.2.1 x.2.2.2.2.2.1 x.2.2.2.2.2.2.1 x.2.2.2.2.2.2.2.1 x.2.2.2.2.2.2.2.2.1 x.2.2.2.2.2.2.2.2.2.1 (fun r1 => K (.bool r1) [])
def G7 := rdG K7 B7
def H7 : List (Nat × LH) := []
def W7 : List (Nat × List (Nat × List Nat)) := []
def Γ7 : List (Nat × Con) := [(19, Uc19), (20, Uc20)]
theorem e7 : Eqn PP 17 Γ7 H7 W7 (bodyOf Try.f7) [.tmp 4] [.bl] [] K7 B7 := fun _ _ _ _ _ _ _ _ _ _ K => by kernel_rfl
theorem s7 : CSound PP 7 G7 := fun_sk mixed Try.func7 (by decide) (by kernel_rfl) Try.ntmps7 Try.results7 (.cons u19 (.cons u20 (GSound.nil))) e7
def Uc7 := useC [.ag [.pure .int, .pure .int, .pure .int, .pure .int, .pure .int], .ag [.pure .int, .pure .int, .pure .int, .pure .int, .pure .int]] G7
theorem u7 : CSound PP 7 Uc7 := useC_ok s7
/-! impl.pointer -/
def K22 : List Tok := [.A, .p .int, .p .int, .p .int, .E, .i .i64]
def B22 : Body K22 := fun x K => Mi_pointer x.1 x.2.1 x.2.2.1 x.2.2.2.1 (fun r1 => K (.bool r1) [])
def G22 := rdG K22 B22
def H22 : List (Nat × LH) := []
def W22 : List (Nat × List (Nat × List Nat)) := []
def Γ22 : List (Nat × Con) := []
theorem e22 : Eqn PP 14 Γ22 H22 W22 (bodyOf Try.f22) [.tmp 4] [.bl] [] K22 B22 := fun _ _ _ _ K => by kernel_rfl
theorem s22 : CSound PP 22 G22 := fun_sk mixed Try.func22 (by decide) (by kernel_rfl) Try.ntmps22 Try.results22 (GSound.nil) e22
def Uc22 := useC [.ag [.pure .int, .pure .int, .pure .int], .x] G22
theorem u22 : CSound PP 22 Uc22 := useC_ok s22
/-! impl.PutRoot -/
def K8 : List Tok := [.A, .p .int, .p .int, .p .int, .E, .i .i64, .i .i64]
def B8 : Body K8 := fun x K => Mi_PutRoot x.1 x.2.1 x.2.2.1 x.2.2.2.1 x.2.2.2.2.1 (fun r1 r2 r3 r4 => K (.tup [.agg [.sl 0, .sl 1, .sl 2], .bool r1]) [⟨true, .list .int r2⟩, ⟨true, .list .int r3⟩, ⟨true, .list .int r4⟩])
def G8 := rdG K8 B8
def H8 : List (Nat × LH) := []
def W8 : List (Nat × List (Nat × List Nat)) := []
def Γ8 : List (Nat × Con) := [(21, Uc21), (22, Uc22), (23, Uc23)]
theorem e8 : Eqn PP 37 Γ8 H8 W8 (bodyOf Try.f8) [.cell 6 25, .tmp 7] [.ag [.own .int, .own .int, .own .int], .bl] [] K8 B8 := fun _ _ _ _ _ K => by kernel_rfl
theorem s8 : CSound PP 8 G8 := fun_sk mixed Try.func8 (by decide) (by kernel_rfl) Try.ntmps8 Try.results8 (.cons u21 (.cons u22 (.cons u23 (GSound.nil)))) e8
def Uc8 := useC [.ag [.pure .int, .pure .int, .pure .int], .x, .x] G8
theorem u8 : CSound PP 8 Uc8 := useC_ok s8
/-! impl.distances$1 -/
def K36 : List Tok := [.i .i64, .i .i64, .Q 0, .Q 1, .bC true, .L 2, .E, .bC true, .L 3, .E, .bL true .int, .bL true .int]
def B36 : Body K36 := fun x K => Mi_distances_1 x.1 x.2.1 x.2.2.1 x.2.2.2.1 (fun r1 r2 => K (.tup []) [⟨true, .cells [.sl 2]⟩, ⟨true, .cells [.sl 4]⟩, ⟨true, .list .int r1⟩, ⟨true, .dead⟩, ⟨true, .list .int r2⟩])
def G36 := rdG K36 B36
def H36 : List (Nat × LH) := []
def W36 : List (Nat × List (Nat × List Nat)) := []
def Γ36 : List (Nat × Con) := []
theorem e36 : Eqn PP 23 Γ36 H36 W36 (bodyOf Try.f36) [] [] [3] K36 B36 := fun _ _ _ _ K => by kernel_rfl
theorem s36 : CSound PP 36 G36 := fun_sk mixed Try.func36 (by decide) (by kernel_rfl) Try.ntmps36 Try.results36 (GSound.nil) e36
def Uc36 := useC [.x, .x, .pc [.own .int], .pc [.own .int]] G36
theorem u36 : CSound PP 36 Uc36 := useC_ok s36
/-! impl.distances -/
def K24 : List Tok := [.A, .p .int, .p .int, .p .int, .E]
def B24 : Body K24 := fun x K => Mi_distances x.1 x.2.1 x.2.2.1 (fun r1 => K (.sl 0) [⟨true, .list .int r1⟩])
def G24 := rdG K24 B24
noncomputable def H24_0 := mkH [(1, .pc [.pure .int, .pure .int, .pure .int]), (3, .pc [.own .int]), (4, .pc [.own .int]), (5, .x), (16, .pure .int), (17, .x), (18, .x)] [.Q 0, .Q 1, .Q 2, .F 36, .N, .Q 1, .Q 2, .E, .p .int, .i .i64, .i .i64, .bC true, .p .int, .p .int, .p .int, .E, .bC true, .L 3, .E, .bC true, .L 4, .E, .bL true .int, .bL true .int]
noncomputable def H24_2 := mkH [(1, .pc [.pure .int, .pure .int, .pure .int]), (3, .pc [.own .int]), (4, .pc [.own .int]), (5, .x), (8, .x)] [.Q 0, .Q 1, .Q 2, .F 36, .N, .Q 1, .Q 2, .E, .i .i64, .bC true, .p .int, .p .int, .p .int, .E, .bC true, .L 3, .E, .bC true, .L 4, .E, .bL true .int, .bL true .int]
noncomputable def H24 : List (Nat × LH) := [(0, H24_0), (2, H24_2)]
def W24 : List (Nat × List (Nat × List Nat)) := []
def Γ24 : List (Nat × Con) := [(36, Uc36)]
theorem e24 : Eqn PP 69 Γ24 H24 W24 (bodyOf Try.f24) [.tmp 2] [.own .int] [] K24 B24 := fun _ _ _ K => by kernel_rfl
theorem s24 : CSound PP 24 G24 := fun_sk mixed Try.func24 (by decide) (by kernel_rfl) Try.ntmps24 Try.results24 (.cons u36 (GSound.nil)) e24
def Uc24 := useC [.ag [.pure .int, .pure .int, .pure .int]] G24
theorem u24 : CSound PP 24 Uc24 := useC_ok s24
/-! impl.Reachable -/
def K9 : List Tok := [.A, .p .int, .p .int, .p .int, .E]
def B9 : Body K9 := fun x K => Mi_Reachable x.1 x.2.1 x.2.2.1 (fun r1 => K (.sl 0) [⟨true, .list .bool r1⟩])
def G9 := rdG K9 B9
noncomputable def H9_0 := mkH [(3, .own .bool), (11, .own .int), (12, .x), (13, .x)] [.L 0, .L 1, .i .i64, .i .i64, .bL true .bool, .bL true .int]
noncomputable def H9 : List (Nat × LH) := [(0, H9_0)]
def W9 : List (Nat × List (Nat × List Nat)) := []
def Γ9 : List (Nat × Con) := [(21, Uc21), (24, Uc24)]
theorem e9 : Eqn PP 24 Γ9 H9 W9 (bodyOf Try.f9) [.tmp 2] [.own .bool] [] K9 B9 := fun _ _ _ K => by kernel_rfl
theorem s9 : CSound PP 9 G9 := fun_sk mixed Try.func9 (by decide) (by kernel_rfl) Try.ntmps9 Try.results9 (.cons u21 (.cons u24 (GSound.nil))) e9
def Uc9 := useC [.ag [.pure .int, .pure .int, .pure .int]] G9
theorem u9 : CSound PP 9 Uc9 := useC_ok s9
/-! impl.IsFree -/
def K10 : List Tok := [.A, .p .int, .p .int, .p .int, .p .int, .E, .i .i64]
def B10 : Body K10 := fun x K => Mi_IsFree x.1 x.2.1 x.2.2.1 x.2.2.2.1 x.2.2.2.2.1 (fun r1 => K (.bool r1) [])
def G10 := rdG K10 B10
def H10 : List (Nat × LH) := []
def W10 : List (Nat × List (Nat × List Nat)) := []
def Γ10 : List (Nat × Con) := [(25, Uc25), (26, Uc26)]
theorem e10 : Eqn PP 13 Γ10 H10 W10 (bodyOf Try.f10) [.tmp 4] [.bl] [] K10 B10 := fun _ _ _ _ _ K => by kernel_rfl
theorem s10 : CSound PP 10 G10 := fun_sk mixed Try.func10 (by decide) (by kernel_rfl) Try.ntmps10 Try.results10 (.cons u25 (.cons u26 (GSound.nil))) e10
def Uc10 := useC [.ag [.pure .int, .pure .int, .pure .int, .pure .int], .x] G10
theorem u10 : CSound PP 10 Uc10 := useC_ok s10
/-! math/bits.Mul64 -/
def K69 : List Tok := [.i .u64, .i .u64]
def B69 : Body K69 := fun x K => M_math_bits_Mul64 x.1 x.2.1 (fun r1 r2 => K (.tup [.int .u64 r1, .int .u64 r2]) [])
def G69 := rdG K69 B69
def H69 : List (Nat × LH) := []
def W69 : List (Nat × List (Nat × List Nat)) := []
def Γ69 : List (Nat × Con) := []
theorem e69 : Eqn PP 51 Γ69 H69 W69 (bodyOf Try.f69) [.tmp 4, .tmp 5] [.x, .x] [] K69 B69 := fun _ _ K => by kernel_rfl
theorem s69 : CSound PP 69 G69 := fun_sk mixed Try.func69 (by decide) (by kernel_rfl) Try.ntmps69 Try.results69 (GSound.nil) e69
def Uc69 := useC [.x, .x] G69
theorem u69 : CSound PP 69 Uc69 := useC_ok s69
/-! math/bits.Mul -/
def K64 : List Tok := [.i .u64, .i .u64]
def B64 : Body K64 := fun x K => M_math_bits_Mul x.1 x.2.1 (fun r1 r2 => K (.tup [.int .u64 r1, .int .u64 r2]) [])
def G64 := rdG K64 B64
def H64 : List (Nat × LH) := []
def W64 : List (Nat × List (Nat × List Nat)) := []
def Γ64 : List (Nat × Con) := [(69, Uc69)]
theorem e64 : Eqn PP 30 Γ64 H64 W64 (bodyOf Try.f64) [.tmp 4, .tmp 5] [.x, .x] [] K64 B64 := fun _ _ K => by kernel_rfl
theorem s64 : CSound PP 64 G64 := fun_sk mixed Try.func64 (by decide) (by kernel_rfl) Try.ntmps64 Try.results64 (.cons u69 (GSound.nil)) e64
def Uc64 := useC [.x, .x] G64
theorem u64 : CSound PP 64 Uc64 := useC_ok s64
/-! slices.Repeat[[]int,int] -/
def K51 : List Tok := [.p .int, .i .i64]
def B51 : Body K51 := fun x K => M_Repeat_int x.1 x.2.1 (fun r1 => K (.sl 0) [⟨true, .list .int r1⟩])
def G51 := rdG K51 B51
noncomputable def H51_0 := mkH [(7, .own .int), (8, .x)] [.L 0, .i .i64, .bL true .int]
noncomputable def H51 : List (Nat × LH) := [(0, H51_0)]
def W51 : List (Nat × List (Nat × List Nat)) := [(2000009, [(0, [3, 6])])]
def Γ51 : List (Nat × Con) := [(64, Uc64)]
theorem e51 : Eqn PP 48 Γ51 H51 W51 (bodyOf Try.f51) [.tmp 4] [.own .int] [] K51 B51 := fun _ _ K => by kernel_rfl
theorem s51 : CSound PP 51 G51 := fun_sk mixed Try.func51 (by decide) (by kernel_rfl) Try.ntmps51 Try.results51 (.cons u64 (GSound.nil)) e51
def Uc51 := useC [.pure .int, .x] G51
theorem u51 : CSound PP 51 Uc51 := useC_ok s51
/-! impl.NewHeap -/
def K39 : List Tok := [.i .i64, .i .i64]
def B39 : Body K39 := fun x K => Mi_NewHeap x.1 x.2.1 (fun r1 r2 r3 r4 => K (.tup [.agg [.sl 0, .sl 1, .sl 2], .bool r1]) [⟨true, .list .int r2⟩, ⟨true, .list .int r3⟩, ⟨true, .list .int r4⟩])
def G39 := rdG K39 B39
def H39 : List (Nat × LH) := []
def W39 : List (Nat × List (Nat × List Nat)) := []
def Γ39 : List (Nat × Con) := [(51, Uc51)]
theorem e39 : Eqn PP 31 Γ39 H39 W39 (bodyOf Try.f39) [.cell 4 25, .tmp 5] [.ag [.own .int, .own .int, .own .int], .bl] [] K39 B39 := fun _ _ K => by kernel_rfl
theorem s39 : CSound PP 39 G39 := fun_sk mixed Try.func39 (by decide) (by kernel_rfl) Try.ntmps39 Try.results39 (.cons u51 (GSound.nil)) e39
def Uc39 := useC [.x, .x] G39
theorem u39 : CSound PP 39 Uc39 := useC_ok s39
/-! impl.met -/
def K52 : List Tok := [.L 0, .p .int, .bL true .int]
def B52 : Body K52 := fun x K => Mi_met x.1 x.2.1 (fun r1 => K (.sl 1) [⟨true, .dead⟩, ⟨true, .list .int r1⟩])
def G52 := rdG K52 B52
noncomputable def H52_0 := mkH [(0, .mv .int), (7, .pure .int), (8, .x), (9, .x)] [.L 1, .p .int, .i .i64, .i .i64, .bD true, .bL true .int]
noncomputable def H52 : List (Nat × LH) := [(0, H52_0)]
def W52 : List (Nat × List (Nat × List Nat)) := []
def Γ52 : List (Nat × Con) := [(26, Uc26)]
theorem e52 : Eqn PP 27 Γ52 H52 W52 (bodyOf Try.f52) [.tmp 4] [.own .int] [0] K52 B52 := fun _ _ K => by kernel_rfl
theorem s52 : CSound PP 52 G52 := fun_sk mixed Try.func52 (by decide) (by kernel_rfl) Try.ntmps52 Try.results52 (.cons u26 (GSound.nil)) e52
def Uc52 := useC [.own .int, .pure .int] G52
theorem u52 : CSound PP 52 Uc52 := useC_ok s52
/-! slices.Clip[[]int,int] -/
def K53 : List Tok := [.L 0, .bL true .int]
def B53 : Body K53 := fun x K => M_Clip_int x.1 (fun r1 => K (.sl 1) [⟨true, .dead⟩, ⟨true, .list .int r1⟩])
def G53 := rdG K53 B53
def H53 : List (Nat × LH) := []
def W53 : List (Nat × List (Nat × List Nat)) := []
def Γ53 : List (Nat × Con) := []
theorem e53 : Eqn PP 9 Γ53 H53 W53 (bodyOf Try.f53) [.tmp 2] [.own .int] [] K53 B53 := fun _ K => by kernel_rfl
theorem s53 : CSound PP 53 G53 := fun_sk mixed Try.func53 (by decide) (by kernel_rfl) Try.ntmps53 Try.results53 (GSound.nil) e53
def Uc53 := useC [.own .int] G53
theorem u53 : CSound PP 53 Uc53 := useC_ok s53
/-! impl.OrderOf -/
def K40 : List Tok := [.A, .p .int, .p .int, .p .int, .E]
def B40 : Body K40 := fun x K => Mi_OrderOf x.1 x.2.1 x.2.2.1 (fun r1 => K (.sl 0) [⟨true, .list .int r1⟩])
def G40 := rdG K40 B40
noncomputable def H40_0 := mkH [(1, .pc [.pure .int, .pure .int, .pure .int]), (3, .own .int), (4, .x)] [.Q 0, .L 1, .i .i64, .bC true, .p .int, .p .int, .p .int, .E, .bL true .int]
noncomputable def H40 : List (Nat × LH) := [(0, H40_0)]
def W40 : List (Nat × List (Nat × List Nat)) := []
def Γ40 : List (Nat × Con) := [(21, Uc21), (52, Uc52), (53, Uc53)]
theorem e40 : Eqn PP 39 Γ40 H40 W40 (bodyOf Try.f40) [.tmp 2] [.own .int] [] K40 B40 := fun _ _ _ K => by kernel_rfl
theorem s40 : CSound PP 40 G40 := fun_sk mixed Try.func40 (by decide) (by kernel_rfl) Try.ntmps40 Try.results40 (.cons u21 (.cons u52 (.cons u53 (GSound.nil)))) e40
def Uc40 := useC [.ag [.pure .int, .pure .int, .pure .int]] G40
theorem u40 : CSound PP 40 Uc40 := useC_ok s40
/-! impl.CopyHeap$1 -/
def K41 : List Tok := [.i .i64, .Q 0, .bC false, .L 1, .E, .bL false .int]
def B41 : Body K41 := fun x K => Mi_CopyHeap_1 x.1 x.2.1 (fun r1 => K (.int .i64 r1) [⟨false, .cells [.sl 1]⟩, ⟨false, .list .int x.2.1⟩])
def G41 := rdG K41 B41
def H41 : List (Nat × LH) := []
def W41 : List (Nat × List (Nat × List Nat)) := []
def Γ41 : List (Nat × Con) := [(38, Uc38)]
theorem e41 : Eqn PP 7 Γ41 H41 W41 (bodyOf Try.f41) [.tmp 3] [.x] [] K41 B41 := fun _ _ K => by kernel_rfl
theorem s41 : CSound PP 41 G41 := fun_sk mixed Try.func41 (by decide) (by kernel_rfl) Try.ntmps41 Try.results41 (.cons u38 (GSound.nil)) e41
def Uc41 := useC [.x, .pc [.own .int]] (onlyC [] G41)
theorem u41 : CSound PP 41 Uc41 := useC_ok (onlyC_ok s41)
/-! impl.CopyHeap -/
def K27 : List Tok := [.A, .p .int, .p .int, .p .int, .E]
def B27 : Body K27 := fun x K => Mi_CopyHeap x.1 x.2.1 x.2.2.1 (fun r1 r2 r3 r4 r5 => K (.tup [.agg [.sl 0, .sl 1, .sl 2], .sl 3, .bool r1]) [⟨true, .list .int r2⟩, ⟨true, .list .int r3⟩, ⟨true, .list .int r4⟩, ⟨true, .list .int r5⟩])
def G27 := rdG K27 B27
noncomputable def H27_0 := mkH [(1, .pc [.pure .int, .pure .int, .pure .int]), (2, .pc [.own .int, .own .int, .own .int]), (5, .pc [.own .int, .own .int, .own .int]), (8, .x), (32, .own .int), (33, .x), (34, .x)] [.Q 0, .Q 1, .Q 2, .F 41, .N, .Q 3, .E, .L 4, .i .i64, .i .i64, .bC true, .p .int, .p .int, .p .int, .E, .bC true, .L 5, .L 6, .L 7, .E, .bC true, .L 8, .L 9, .L 10, .E, .bC true, .L 4, .E, .bL true .int, .bL true .int, .bL true .int, .bL true .int, .bL true .int, .bL true .int, .bL true .int]
noncomputable def H27_2 := mkH [(1, .pc [.pure .int, .pure .int, .pure .int]), (2, .pc [.own .int, .own .int, .own .int]), (5, .pc [.own .int, .own .int, .own .int]), (8, .x), (63, .pure .int), (64, .x), (65, .x)] [.Q 0, .Q 1, .Q 2, .F 41, .N, .Q 3, .E, .p .int, .i .i64, .i .i64, .bC true, .p .int, .p .int, .p .int, .E, .bC true, .L 4, .L 5, .L 6, .E, .bC true, .L 7, .L 8, .L 9, .E, .bC true, .L 10, .E, .bL true .int, .bL true .int, .bL true .int, .bL true .int, .bL true .int, .bL true .int, .bL true .int]
noncomputable def H27_4 := mkH [(2, .pc [.own .int, .own .int, .own .int]), (5, .pc [.own .int, .own .int, .own .int]), (8, .x), (13, .own .int), (81, .x), (82, .x)] [.Q 0, .Q 1, .F 41, .N, .Q 2, .E, .L 3, .i .i64, .i .i64, .bC true, .L 4, .L 5, .L 6, .E, .bC true, .L 7, .L 8, .L 9, .E, .bC true, .L 10, .E, .bL true .int, .bL true .int, .bL true .int, .bL true .int, .bL true .int, .bL true .int, .bL true .int, .bL true .int]
noncomputable def H27 : List (Nat × LH) := [(0, H27_0), (2, H27_2), (4, H27_4)]
def W27 : List (Nat × List (Nat × List Nat)) := [(9, [(8, [21])])]
def Γ27 : List (Nat × Con) := [(21, Uc21), (39, Uc39), (40, Uc40), (41, Uc41)]
theorem e27 : Eqn PP 94 Γ27 H27 W27 (bodyOf Try.f27) [.cell 2 25, .tmp 3, .tmp 4] [.ag [.own .int, .own .int, .own .int], .own .int, .bl] [] K27 B27 := fun _ _ _ K => by kernel_rfl
theorem s27 : CSound PP 27 G27 := fun_sk mixed Try.func27 (by decide) (by kernel_rfl) Try.ntmps27 Try.results27 (.cons u21 (.cons u39 (.cons u40 (.cons u41 (GSound.nil))))) e27
def Uc27 := useC [.ag [.pure .int, .pure .int, .pure .int]] G27
theorem u27 : CSound PP 27 Uc27 := useC_ok s27
/-! impl.CountLive -/
def K28 : List Tok := [.A, .p .int, .p .int, .p .int, .E]
def B28 : Body K28 := fun x K => Mi_CountLive x.1 x.2.1 x.2.2.1 (fun r1 => K (.int .i64 r1) [])
def G28 := rdG K28 B28
noncomputable def H28_0 := mkH [(3, .x), (7, .own .bool), (8, .x), (9, .x)] [.i .i64, .L 0, .i .i64, .i .i64, .bL true .bool]
noncomputable def H28 : List (Nat × LH) := [(0, H28_0)]
def W28 : List (Nat × List (Nat × List Nat)) := []
def Γ28 : List (Nat × Con) := [(9, Uc9)]
theorem e28 : Eqn PP 18 Γ28 H28 W28 (bodyOf Try.f28) [.tmp 2] [.x] [] K28 B28 := fun _ _ _ K => by kernel_rfl
theorem s28 : CSound PP 28 G28 := fun_sk mixed Try.func28 (by decide) (by kernel_rfl) Try.ntmps28 Try.results28 (.cons u9 (GSound.nil)) e28
def Uc28 := useC [.ag [.pure .int, .pure .int, .pure .int]] G28
theorem u28 : CSound PP 28 Uc28 := useC_ok s28
/-! impl.HeapsAlike -/
def K11 : List Tok := [.A, .p .int, .p .int, .p .int, .E, .A, .p .int, .p .int, .p .int, .E]
def B11 : Body K11 := fun x K => Mi_HeapsAlike x.1 x.2.1 x.2.2.1 x.2.2.2.1 x.2.2.2.2.1 x.2.2.2.2.2.1 (fun r1 => K (.bool r1) [])
def G11 := rdG K11 B11
def H11 : List (Nat × LH) := []
def W11 : List (Nat × List (Nat × List Nat)) := [(2000004, [(0, [21, 25, 32, 36])])]
def Γ11 : List (Nat × Con) := [(27, Uc27), (28, Uc28), (20, Uc20)]
theorem e11 : Eqn PP 65 Γ11 H11 W11 (bodyOf Try.f11) [.tmp 4] [.bl] [] K11 B11 := fun _ _ _ _ _ _ K => by kernel_rfl
theorem s11 : CSound PP 11 G11 := fun_sk mixed Try.func11 (by decide) (by kernel_rfl) Try.ntmps11 Try.results11 (.cons u27 (.cons u28 (.cons u20 (GSound.nil)))) e11
def Uc11 := useC [.ag [.pure .int, .pure .int, .pure .int], .ag [.pure .int, .pure .int, .pure .int]] G11
theorem u11 : CSound PP 11 Uc11 := useC_ok s11
/-! laws.FnDropLive -/
def K3 : List Tok := [.p .byte]
def B3 : Body K3 := fun x K => Ml_FnDropLive x.1 (fun r1 => K (.bool r1) [])
def G3 := rdG K3 B3
noncomputable def H3_0 := mkH [(5, .pc [.own .int, .own .int, .own .int, .own .int, .own .int]), (9, .pc [.own .int, .own .int, .own .int]), (10, .bl), (11, .own .bool), (12, .x)] [.Q 0, .Q 1, .b, .L 2, .i .i64, .bC true, .L 3, .L 4, .L 5, .L 6, .L 7, .E, .bC true, .L 8, .L 9, .L 10, .E, .bL true .bool, .bL true .int, .bL true .int, .bL true .int, .bL true .int, .bL true .int, .bL true .int, .bL true .int, .bL true .int]
noncomputable def H3 : List (Nat × LH) := [(0, H3_0)]
def W3 : List (Nat × List (Nat × List Nat)) := []
def Γ3 : List (Nat × Con) := [(4, Uc4), (5, Uc5), (6, Uc6), (7, Uc7), (8, Uc8), (9, Uc9), (10, Uc10), (11, Uc11)]
theorem e3 : Eqn PP 88 Γ3 H3 W3 (bodyOf Try.f3) [.tmp 2] [.bl] [] K3 B3 := fun _ K => by kernel_rfl
theorem s3 : CSound PP 3 G3 := fun_sk mixed Try.func3 (by decide) (by kernel_rfl) Try.ntmps3 Try.results3 (.cons u4 (.cons u5 (.cons u6 (.cons u7 (.cons u8 (.cons u9 (.cons u10 (.cons u11 (GSound.nil))))))))) e3
def Uc3 := useC [.pure .byte] G3
theorem u3 : CSound PP 3 Uc3 := useC_ok s3
end Go.Ab
