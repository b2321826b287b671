/-
  What is proved here: that the typed models of functions of the translated program are sound.
-/
import Derived.Test.YtheldhohhpoloaaGreatDoorGM
import Derived.Test.YtheldhohhpoloaaGreatDoorProg
import Derived.KernelRfl
import Derived.Shelf.Strconv.Itoa3
import Derived.Shelf.Strings.OnBuilder
import Derived.Shelf.Strings.SlTrimAscii
import Derived.Shelf.Strings.Split
import Derived.Test.YtheldhohhpoloaaGreatDoorT21
import Derived.Test.YtheldhohhpoloaaGreatDoorT22
import Derived.Test.YtheldhohhpoloaaGreatDoorLay
namespace Go.Ab
set_option linter.unusedVariables false
open Go.Proofs
noncomputable abbrev PP : Program := Tryz.prog
theorem mixed : PP.follows .mixedOrders = true := by kernel_rfl
/-! impl.ParseHeap$1 -/
def K71 : List Tok := [.i .u8]
def B71 : Body K71 := fun x K => Mi_ParseHeap_1 x.1 (fun r1 => K (.int .i64 r1) [])
def G71 := rdG K71 B71
def H71 : List (Nat × LH) := []
def W71 : List (Nat × List (Nat × List Nat)) := []
def Γ71 : List (Nat × Con) := []
theorem e71 : Eqn PP 8 Γ71 H71 W71 (bodyOf Tryz.f71) [.tmp 2] [.x] [] K71 B71 := fun _ K => by kernel_rfl
theorem s71 : CSound PP 71 G71 := fun_sk mixed Tryz.func71 (by decide) (by kernel_rfl) Tryz.ntmps71 Tryz.results71 (GSound.nil) e71
def Uc71 := useC [.x] G71
theorem u71 : CSound PP 71 Uc71 := useC_ok s71
theorem enters72 : Enters PP 72 := ⟨_, Tryz.func72, by decide, rfl⟩
def G72 : Con := conSplit M_strings_Split
theorem s72 : CSound PP 72 G72 := conSplit_ok (g := Tryz.lays146_ren.g 1) (pre := fun a b => a.length < 4294967281 ∧ 1 ≤ b.length) (F := fun s sep => Lib.splitB sep 0 (Lib.countB s sep) s) (by decide) enters72 fun s sep m w h hm => by
  have hc := Go.Proofs.Any.strings_Split Tryz.lays146 (by kernel_rfl) s sep m w (by simpa using h.1) hm (by simpa using h.2)
  have hlen := Lib.splitB_all sep (by simpa using h.2) 0 _ s rfl
  change Calls PP 72 _ _ _ at hc
  rw [hlen]
  exact hc
def Uc72 := useC [.x, .x] G72
theorem u72 : CSound PP 72 Uc72 := useC_ok s72
/-! impl.HeapValid -/
def K56 : List Tok := [.A, .p .int, .p .int, .p .int, .E]
def B56 : Body K56 := fun x K => Mi_HeapValid x.1 x.2.1 x.2.2.1 (fun r1 => K (.bool r1) [])
def G56 := rdG K56 B56
noncomputable def H56_0 := mkH [(1, .pc [.pure .int, .pure .int, .pure .int]), (44, .own .ints), (45, .x), (46, .x)] [.Q 0, .L 1, .i .i64, .i .i64, .bC true, .p .int, .p .int, .p .int, .E, .bL true .ints]
noncomputable def H56_2 := mkH [(1, .pc [.pure .int, .pure .int, .pure .int]), (44, .own .ints), (45, .x), (46, .x), (50, .pure .int), (51, .x), (52, .x)] [.Q 0, .L 1, .i .i64, .i .i64, .p .int, .i .i64, .i .i64, .bC true, .p .int, .p .int, .p .int, .E, .bL true .ints]
noncomputable def H56 : List (Nat × LH) := [(0, H56_0), (2, H56_2)]
def W56 : List (Nat × List (Nat × List Nat)) := []
def Γ56 : List (Nat × Con) := []
theorem e56 : Eqn PP 67 Γ56 H56 W56 (bodyOf Tryz.f56) [.tmp 2] [.bl] [] K56 B56 := fun _ _ _ K => by kernel_rfl
theorem s56 : CSound PP 56 G56 := fun_sk mixed Tryz.func56 (by decide) (by kernel_rfl) Tryz.ntmps56 Tryz.results56 (GSound.nil) e56
def Uc56 := useC [.ag [.pure .int, .pure .int, .pure .int]] G56
theorem u56 : CSound PP 56 Uc56 := useC_ok s56
theorem enters94 : Enters PP 94 := ⟨_, Tryz.func94, by decide, rfl⟩
def G94 : Con := conIS M_strconv_Itoa
theorem s94 : CSound PP 94 G94 := conIS_ok enters94 fun n w h => by
  have hc := Go.Proofs.Any.strconv_Itoa_small Tryz.lays171 n.toNat (by omega) w
  rw [Int.toNat_of_nonneg h.1] at hc
  change Calls PP 94 _ _ _ at hc
  refine hc.mono ?_
  rintro e w' ⟨rfl, rfl⟩
  exact ⟨rfl, RowKit.Below.refl _ _⟩
def Uc94 := useC [.x] G94
theorem u94 : CSound PP 94 Uc94 := useC_ok s94
/-! impl.digit -/
def K57 : List Tok := [.i .i64]
def B57 : Body K57 := fun x K => Mi_digit x.1 (fun r1 => K (.str r1) [])
def G57 := rdG K57 B57
def H57 : List (Nat × LH) := []
def W57 : List (Nat × List (Nat × List Nat)) := []
def Γ57 : List (Nat × Con) := [(94, Uc94)]
theorem e57 : Eqn PP 7 Γ57 H57 W57 (bodyOf Tryz.f57) [.tmp 2] [.x] [] K57 B57 := fun _ K => by kernel_rfl
theorem s57 : CSound PP 57 G57 := fun_sk mixed Tryz.func57 (by decide) (by kernel_rfl) Tryz.ntmps57 Tryz.results57 (.cons u94 (GSound.nil)) e57
def Uc57 := useC [.x] G57
theorem u57 : CSound PP 57 Uc57 := useC_ok s57
/-! impl.FormatHeap -/
def K23 : List Tok := [.A, .p .int, .p .int, .p .int, .E]
def B23 : Body K23 := fun x K => Mi_FormatHeap x.1 x.2.1 x.2.2.1 (fun r1 => K (.str r1) [])
def G23 := rdG K23 B23
noncomputable def H23_0 := mkH [(1, .pc [.pure .int, .pure .int, .pure .int]), (3, .x), (12, .x), (13, .x)] [.Q 0, .s, .i .i64, .i .i64, .bC true, .p .int, .p .int, .p .int, .E]
noncomputable def H23_2 := mkH [(3, .x), (36, .pure .int), (37, .x), (38, .x)] [.s, .p .int, .i .i64, .i .i64]
noncomputable def H23 : List (Nat × LH) := [(0, H23_0), (2, H23_2)]
def W23 : List (Nat × List (Nat × List Nat)) := []
def Γ23 : List (Nat × Con) := [(56, Uc56), (57, Uc57)]
theorem e23 : Eqn PP 49 Γ23 H23 W23 (bodyOf Tryz.f23) [.tmp 2] [.x] [] K23 B23 := fun _ _ _ K => by kernel_rfl
theorem s23 : CSound PP 23 G23 := fun_sk mixed Tryz.func23 (by decide) (by kernel_rfl) Tryz.ntmps23 Tryz.results23 (.cons u56 (.cons u57 (GSound.nil))) e23
def Uc23 := useC [.ag [.pure .int, .pure .int, .pure .int]] G23
theorem u23 : CSound PP 23 Uc23 := useC_ok s23
/-! impl.ParseHeap -/
def K31 : List Tok := [.s]
def B31 : Body K31 := fun x K => Mi_ParseHeap x.1 (fun r1 r2 r3 r4 => K (.tup [.agg [.sl 0, .sl 1, .sl 2], .bool r1]) [⟨true, .list .int r2⟩, ⟨true, .list .int r3⟩, ⟨true, .list .int r4⟩])
def G31 := rdG K31 B31
noncomputable def H31_0 := mkH [(0, .x), (2, .pc [.own .int, .own .int, .own .int]), (4, .x), (5, .pc [.own .int, .own .int, .own .int]), (6, .bl), (10, .own .str), (11, .x), (12, .x)] [.s, .Q 0, .F 71, .N, .E, .Q 1, .b, .L 2, .i .i64, .i .i64, .bC true, .L 3, .L 4, .L 5, .E, .bC true, .L 6, .L 7, .L 8, .E, .bL true .str, .bL true .int, .bL true .int, .bL true .int, .bL true .int, .bL true .int, .bL true .int]
noncomputable def H31 : List (Nat × LH) := [(0, H31_0)]
def W31 : List (Nat × List (Nat × List Nat)) := []
def Γ31 : List (Nat × Con) := [(72, Uc72), (71, Uc71), (56, Uc56), (23, Uc23)]
theorem e31 : Eqn PP 74 Γ31 H31 W31 (bodyOf Tryz.f31) [.cell 2 25, .tmp 3] [.ag [.own .int, .own .int, .own .int], .bl] [] K31 B31 := fun _ K => by kernel_rfl
theorem s31 : CSound PP 31 G31 := fun_sk mixed Tryz.func31 (by decide) (by kernel_rfl) Tryz.ntmps31 Tryz.results31 (.cons u72 (.cons u71 (.cons u56 (.cons u23 (GSound.nil))))) e31
def Uc31 := useC [.x] G31
theorem u31 : CSound PP 31 Uc31 := useC_ok s31
/-! impl.OpValid -/
def K133 : List Tok := [.A, .i .i64, .i .i64, .i .i64, .E, .i .i64]
def B133 : Body K133 := fun x K => Mi_OpValid x.1 x.2.1 x.2.2.1 x.2.2.2.1 (fun r1 => K (.bool r1) [])
def G133 := rdG K133 B133
def H133 : List (Nat × LH) := []
def W133 : List (Nat × List (Nat × List Nat)) := []
def Γ133 : List (Nat × Con) := []
theorem e133 : Eqn PP 54 Γ133 H133 W133 (bodyOf Tryz.f133) [.tmp 4] [.bl] [] K133 B133 := fun _ _ _ _ K => by kernel_rfl
theorem s133 : CSound PP 133 G133 := fun_sk mixed Tryz.func133 (by decide) (by kernel_rfl) Tryz.ntmps133 Tryz.results133 (GSound.nil) e133
def Uc133 := useC [.ag [.x, .x, .x], .x] G133
theorem u133 : CSound PP 133 Uc133 := useC_ok s133
/-! impl.FormatOp -/
def K79 : List Tok := [.A, .i .i64, .i .i64, .i .i64, .E]
def B79 : Body K79 := fun x K => Mi_FormatOp x.1 x.2.1 x.2.2.1 (fun r1 => K (.str r1) [])
def G79 := rdG K79 B79
def H79 : List (Nat × LH) := []
def W79 : List (Nat × List (Nat × List Nat)) := []
def Γ79 : List (Nat × Con) := [(133, Uc133), (94, Uc94)]
theorem e79 : Eqn PP 31 Γ79 H79 W79 (bodyOf Tryz.f79) [.tmp 2] [.x] [] K79 B79 := fun _ _ _ K => by kernel_rfl
theorem s79 : CSound PP 79 G79 := fun_sk mixed Tryz.func79 (by decide) (by kernel_rfl) Tryz.ntmps79 Tryz.results79 (.cons u133 (.cons u94 (GSound.nil))) e79
def Uc79 := useC [.ag [.x, .x, .x]] G79
theorem u79 : CSound PP 79 Uc79 := useC_ok s79
/-! impl.ParseOp -/
def K73 : List Tok := [.s]
def B73 : Body K73 := fun x K => Mi_ParseOp x.1 (fun r1 r2 r3 r4 => K (.tup [.agg [.int .i64 r1, .int .i64 r2, .int .i64 r3], .bool r4]) [])
def G73 := rdG K73 B73
noncomputable def H73_0 := mkH [(0, .x), (2, .pc [.x, .x, .x]), (4, .x)] [.s, .Q 0, .i .i64, .bC true, .i .i64, .i .i64, .i .i64, .E]
noncomputable def H73_2 := mkH [(0, .x), (2, .pc [.x, .x, .x]), (4, .x), (12, .x)] [.s, .Q 0, .i .i64, .i .i64, .bC true, .i .i64, .i .i64, .i .i64, .E]
noncomputable def H73_4 := mkH [(0, .x), (2, .pc [.x, .x, .x]), (4, .x), (5, .x), (12, .x), (15, .x)] [.s, .Q 0, .i .i64, .i .i64, .i .i64, .i .i64, .bC true, .i .i64, .i .i64, .i .i64, .E]
noncomputable def H73 : List (Nat × LH) := [(0, H73_0), (2, H73_2), (4, H73_4)]
def W73 : List (Nat × List (Nat × List Nat)) := []
def Γ73 : List (Nat × Con) := [(79, Uc79)]
theorem e73 : Eqn PP 34 Γ73 H73 W73 (bodyOf Tryz.f73) [.cell 2 107, .tmp 3] [.ag [.x, .x, .x], .bl] [] K73 B73 := fun _ K => by kernel_rfl
theorem s73 : CSound PP 73 G73 := fun_sk mixed Tryz.func73 (by decide) (by kernel_rfl) Tryz.ntmps73 Tryz.results73 (.cons u79 (GSound.nil)) e73
def Uc73 := useC [.x] G73
theorem u73 : CSound PP 73 Uc73 := useC_ok s73
/-! impl.ParseOps -/
def K32 : List Tok := [.s]
def B32 : Body K32 := fun x K => Mi_ParseOps x.1 (fun r1 r2 => K (.tup [.sl 0, .bool r1]) [⟨true, .list .op r2⟩])
def G32 := rdG K32 B32
noncomputable def H32_0 := mkH [(4, .own .op), (14, .own .str), (15, .x), (16, .x)] [.L 0, .L 1, .i .i64, .i .i64, .bL true .op, .bL true .str]
noncomputable def H32 : List (Nat × LH) := [(0, H32_0)]
def W32 : List (Nat × List (Nat × List Nat)) := []
def Γ32 : List (Nat × Con) := [(72, Uc72), (73, Uc73)]
theorem e32 : Eqn PP 38 Γ32 H32 W32 (bodyOf Tryz.f32) [.tmp 2, .tmp 3] [.own .op, .bl] [] K32 B32 := fun _ K => by kernel_rfl
theorem s32 : CSound PP 32 G32 := fun_sk mixed Tryz.func32 (by decide) (by kernel_rfl) Tryz.ntmps32 Tryz.results32 (.cons u72 (.cons u73 (GSound.nil))) e32
def Uc32 := useC [.x] G32
theorem u32 : CSound PP 32 Uc32 := useC_ok s32
/-! spec.l13Cut -/
def K74 : List Tok := [.s, .i .u8]
def B74 : Body K74 := fun x K => Ms_l13Cut x.1 x.2.1 (fun r1 => K (.sl 0) [⟨true, .list .str r1⟩])
def G74 := rdG K74 B74
noncomputable def H74_0 := mkH [(0, .x), (1, .x), (5, .own .str), (6, .x), (7, .x)] [.s, .i .u8, .L 0, .i .i64, .i .i64, .bL true .str]
noncomputable def H74 : List (Nat × LH) := [(0, H74_0)]
def W74 : List (Nat × List (Nat × List Nat)) := []
def Γ74 : List (Nat × Con) := []
theorem e74 : Eqn PP 36 Γ74 H74 W74 (bodyOf Tryz.f74) [.tmp 4] [.own .str] [] K74 B74 := fun _ _ K => by kernel_rfl
theorem s74 : CSound PP 74 G74 := fun_sk mixed Tryz.func74 (by decide) (by kernel_rfl) Tryz.ntmps74 Tryz.results74 (GSound.nil) e74
def Uc74 := useC [.x, .x] G74
theorem u74 : CSound PP 74 Uc74 := useC_ok s74
/-! spec.l1Read -/
def K75 : List Tok := [.i .u8]
def B75 : Body K75 := fun x K => Ms_l1Read x.1 (fun r1 r2 => K (.tup [.int .i64 r1, .bool r2]) [])
def G75 := rdG K75 B75
def H75 : List (Nat × LH) := []
def W75 : List (Nat × List (Nat × List Nat)) := []
def Γ75 : List (Nat × Con) := []
theorem e75 : Eqn PP 15 Γ75 H75 W75 (bodyOf Tryz.f75) [.tmp 2, .tmp 3] [.x, .bl] [] K75 B75 := fun _ K => by kernel_rfl
theorem s75 : CSound PP 75 G75 := fun_sk mixed Tryz.func75 (by decide) (by kernel_rfl) Tryz.ntmps75 Tryz.results75 (GSound.nil) e75
def Uc75 := useC [.x] G75
theorem u75 : CSound PP 75 Uc75 := useC_ok s75
/-! spec.l1Points -/
def K131 : List Tok := [.i .i64, .i .i64]
def B131 : Body K131 := fun x K => Ms_l1Points x.1 x.2.1 (fun r1 => K (.bool r1) [])
def G131 := rdG K131 B131
def H131 : List (Nat × LH) := []
def W131 : List (Nat × List (Nat × List Nat)) := []
def Γ131 : List (Nat × Con) := []
theorem e131 : Eqn PP 12 Γ131 H131 W131 (bodyOf Tryz.f131) [.tmp 4] [.bl] [] K131 B131 := fun _ _ K => by kernel_rfl
theorem s131 : CSound PP 131 G131 := fun_sk mixed Tryz.func131 (by decide) (by kernel_rfl) Tryz.ntmps131 Tryz.results131 (GSound.nil) e131
def Uc131 := useC [.x, .x] G131
theorem u131 : CSound PP 131 Uc131 := useC_ok s131
/-! spec.HeapValid -/
def K76 : List Tok := [.A, .p .int, .p .int, .p .int, .E]
def B76 : Body K76 := fun x K => Ms_HeapValid x.1 x.2.1 x.2.2.1 (fun r1 => K (.bool r1) [])
def G76 := rdG K76 B76
noncomputable def H76_0 := mkH [(1, .pc [.pure .int, .pure .int, .pure .int]), (3, .x), (4, .x)] [.Q 0, .i .i64, .i .i64, .bC true, .p .int, .p .int, .p .int, .E]
noncomputable def H76_2 := mkH [(1, .pc [.pure .int, .pure .int, .pure .int]), (3, .x), (5, .x)] [.Q 0, .i .i64, .i .i64, .bC true, .p .int, .p .int, .p .int, .E]
noncomputable def H76 : List (Nat × LH) := [(0, H76_0), (2, H76_2)]
def W76 : List (Nat × List (Nat × List Nat)) := []
def Γ76 : List (Nat × Con) := [(131, Uc131)]
theorem e76 : Eqn PP 72 Γ76 H76 W76 (bodyOf Tryz.f76) [.tmp 2] [.bl] [] K76 B76 := fun _ _ _ K => by kernel_rfl
theorem s76 : CSound PP 76 G76 := fun_sk mixed Tryz.func76 (by decide) (by kernel_rfl) Tryz.ntmps76 Tryz.results76 (.cons u131 (GSound.nil)) e76
def Uc76 := useC [.ag [.pure .int, .pure .int, .pure .int]] G76
theorem u76 : CSound PP 76 Uc76 := useC_ok s76
/-! spec.l13Dec -/
def K187 : List Tok := [.i .i64]
def B187 : Body K187 := fun x K => Ms_l13Dec x.1 (fun r1 => K (.str r1) [])
def G187 := rdG K187 B187
noncomputable def H187_0 := mkH [(0, .x), (3, .x)] [.i .i64, .s]
noncomputable def H187 : List (Nat × LH) := [(0, H187_0)]
def W187 : List (Nat × List (Nat × List Nat)) := []
def Γ187 : List (Nat × Con) := []
theorem e187 : Eqn PP 31 Γ187 H187 W187 (bodyOf Tryz.f187) [.tmp 2] [.x] [] K187 B187 := fun _ K => by kernel_rfl
theorem s187 : CSound PP 187 G187 := fun_sk mixed Tryz.func187 (by decide) (by kernel_rfl) Tryz.ntmps187 Tryz.results187 (GSound.nil) e187
def Uc187 := useC [.x] G187
theorem u187 : CSound PP 187 Uc187 := useC_ok s187
/-! spec.l1Sign -/
def K119 : List Tok := [.i .i64]
def B119 : Body K119 := fun x K => Ms_l1Sign x.1 (fun r1 => K (.str r1) [])
def G119 := rdG K119 B119
def H119 : List (Nat × LH) := []
def W119 : List (Nat × List (Nat × List Nat)) := []
def Γ119 : List (Nat × Con) := [(187, Uc187)]
theorem e119 : Eqn PP 7 Γ119 H119 W119 (bodyOf Tryz.f119) [.tmp 2] [.x] [] K119 B119 := fun _ K => by kernel_rfl
theorem s119 : CSound PP 119 G119 := fun_sk mixed Tryz.func119 (by decide) (by kernel_rfl) Tryz.ntmps119 Tryz.results119 (.cons u187 (GSound.nil)) e119
def Uc119 := useC [.x] G119
theorem u119 : CSound PP 119 Uc119 := useC_ok s119
/-! spec.FormatHeap -/
def K55 : List Tok := [.A, .p .int, .p .int, .p .int, .E]
def B55 : Body K55 := fun x K => Ms_FormatHeap x.1 x.2.1 x.2.2.1 (fun r1 => K (.str r1) [])
def G55 := rdG K55 B55
noncomputable def H55_0 := mkH [(1, .pc [.pure .int, .pure .int, .pure .int]), (3, .x), (4, .x)] [.Q 0, .s, .i .i64, .bC true, .p .int, .p .int, .p .int, .E]
noncomputable def H55_2 := mkH [(1, .pc [.pure .int, .pure .int, .pure .int]), (3, .x), (5, .x)] [.Q 0, .s, .i .i64, .bC true, .p .int, .p .int, .p .int, .E]
noncomputable def H55 : List (Nat × LH) := [(0, H55_0), (2, H55_2)]
def W55 : List (Nat × List (Nat × List Nat)) := []
def Γ55 : List (Nat × Con) := [(76, Uc76), (119, Uc119)]
theorem e55 : Eqn PP 51 Γ55 H55 W55 (bodyOf Tryz.f55) [.tmp 2] [.x] [] K55 B55 := fun _ _ _ K => by kernel_rfl
theorem s55 : CSound PP 55 G55 := fun_sk mixed Tryz.func55 (by decide) (by kernel_rfl) Tryz.ntmps55 Tryz.results55 (.cons u76 (.cons u119 (GSound.nil))) e55
def Uc55 := useC [.ag [.pure .int, .pure .int, .pure .int]] G55
theorem u55 : CSound PP 55 Uc55 := useC_ok s55
/-! spec.ParseHeap -/
def K33 : List Tok := [.s]
def B33 : Body K33 := fun x K => Ms_ParseHeap x.1 (fun r1 r2 r3 r4 => K (.tup [.agg [.sl 0, .sl 1, .sl 2], .bool r1]) [⟨true, .list .int r2⟩, ⟨true, .list .int r3⟩, ⟨true, .list .int r4⟩])
def G33 := rdG K33 B33
noncomputable def H33_0 := mkH [(0, .x), (2, .pc [.own .int, .own .int, .own .int]), (4, .pc [.own .int, .own .int, .own .int]), (5, .own .str), (6, .bl), (7, .x)] [.s, .Q 0, .Q 1, .L 2, .b, .i .i64, .bC true, .L 3, .L 4, .L 5, .E, .bC true, .L 6, .L 7, .L 8, .E, .bL true .str, .bL true .int, .bL true .int, .bL true .int, .bL true .int, .bL true .int, .bL true .int]
noncomputable def H33 : List (Nat × LH) := [(0, H33_0)]
def W33 : List (Nat × List (Nat × List Nat)) := []
def Γ33 : List (Nat × Con) := [(74, Uc74), (75, Uc75), (76, Uc76), (55, Uc55)]
theorem e33 : Eqn PP 112 Γ33 H33 W33 (bodyOf Tryz.f33) [.cell 2 25, .tmp 3] [.ag [.own .int, .own .int, .own .int], .bl] [] K33 B33 := fun _ K => by kernel_rfl
theorem s33 : CSound PP 33 G33 := fun_sk mixed Tryz.func33 (by decide) (by kernel_rfl) Tryz.ntmps33 Tryz.results33 (.cons u74 (.cons u75 (.cons u76 (.cons u55 (GSound.nil))))) e33
def Uc33 := useC [.x] G33
theorem u33 : CSound PP 33 Uc33 := useC_ok s33
/-! spec.l5Word -/
def K192 : List Tok := [.i .i64]
def B192 : Body K192 := fun x K => Ms_l5Word x.1 (fun r1 => K (.str r1) [])
def G192 := rdG K192 B192
def H192 : List (Nat × LH) := []
def W192 : List (Nat × List (Nat × List Nat)) := []
def Γ192 : List (Nat × Con) := []
theorem e192 : Eqn PP 15 Γ192 H192 W192 (bodyOf Tryz.f192) [.tmp 2] [.x] [] K192 B192 := fun _ K => by kernel_rfl
theorem s192 : CSound PP 192 G192 := fun_sk mixed Tryz.func192 (by decide) (by kernel_rfl) Tryz.ntmps192 Tryz.results192 (GSound.nil) e192
def Uc192 := useC [.x] G192
theorem u192 : CSound PP 192 Uc192 := useC_ok s192
/-! spec.l5One -/
def K193 : List Tok := [.i .i64]
def B193 : Body K193 := fun x K => Ms_l5One x.1 (fun r1 => K (.bool r1) [])
def G193 := rdG K193 B193
def H193 : List (Nat × LH) := []
def W193 : List (Nat × List (Nat × List Nat)) := []
def Γ193 : List (Nat × Con) := []
theorem e193 : Eqn PP 9 Γ193 H193 W193 (bodyOf Tryz.f193) [.tmp 2] [.bl] [] K193 B193 := fun _ K => by kernel_rfl
theorem s193 : CSound PP 193 G193 := fun_sk mixed Tryz.func193 (by decide) (by kernel_rfl) Tryz.ntmps193 Tryz.results193 (GSound.nil) e193
def Uc193 := useC [.x] G193
theorem u193 : CSound PP 193 Uc193 := useC_ok s193
/-! spec.OpValid -/
def K191 : List Tok := [.A, .i .i64, .i .i64, .i .i64, .E, .i .i64]
def B191 : Body K191 := fun x K => Ms_OpValid x.1 x.2.1 x.2.2.1 x.2.2.2.1 (fun r1 => K (.bool r1) [])
def G191 := rdG K191 B191
def H191 : List (Nat × LH) := []
def W191 : List (Nat × List (Nat × List Nat)) := []
def Γ191 : List (Nat × Con) := [(192, Uc192), (193, Uc193)]
theorem e191 : Eqn PP 45 Γ191 H191 W191 (bodyOf Tryz.f191) [.tmp 4] [.bl] [] K191 B191 := fun _ _ _ _ K => by kernel_rfl
theorem s191 : CSound PP 191 G191 := fun_sk mixed Tryz.func191 (by decide) (by kernel_rfl) Tryz.ntmps191 Tryz.results191 (.cons u192 (.cons u193 (GSound.nil))) e191
def Uc191 := useC [.ag [.x, .x, .x], .x] G191
theorem u191 : CSound PP 191 Uc191 := useC_ok s191
/-! spec.FormatOp -/
def K132 : List Tok := [.A, .i .i64, .i .i64, .i .i64, .E]
def B132 : Body K132 := fun x K => Ms_FormatOp x.1 x.2.1 x.2.2.1 (fun r1 => K (.str r1) [])
def G132 := rdG K132 B132
def H132 : List (Nat × LH) := []
def W132 : List (Nat × List (Nat × List Nat)) := []
def Γ132 : List (Nat × Con) := [(191, Uc191), (192, Uc192), (187, Uc187), (193, Uc193)]
theorem e132 : Eqn PP 25 Γ132 H132 W132 (bodyOf Tryz.f132) [.tmp 2] [.x] [] K132 B132 := fun _ _ _ K => by kernel_rfl
theorem s132 : CSound PP 132 G132 := fun_sk mixed Tryz.func132 (by decide) (by kernel_rfl) Tryz.ntmps132 Tryz.results132 (.cons u191 (.cons u192 (.cons u187 (.cons u193 (GSound.nil))))) e132
def Uc132 := useC [.ag [.x, .x, .x]] G132
theorem u132 : CSound PP 132 Uc132 := useC_ok s132
/-! spec.ParseOp -/
def K77 : List Tok := [.s]
def B77 : Body K77 := fun x K => Ms_ParseOp x.1 (fun r1 r2 r3 r4 => K (.tup [.agg [.int .i64 r1, .int .i64 r2, .int .i64 r3], .bool r4]) [])
def G77 := rdG K77 B77
noncomputable def H77_0 := mkH [(0, .x), (2, .pc [.x, .x, .x]), (4, .x)] [.s, .Q 0, .i .i64, .bC true, .i .i64, .i .i64, .i .i64, .E]
noncomputable def H77_2 := mkH [(0, .x), (2, .pc [.x, .x, .x]), (4, .x), (5, .x)] [.s, .Q 0, .i .i64, .i .i64, .bC true, .i .i64, .i .i64, .i .i64, .E]
noncomputable def H77_4 := mkH [(0, .x), (2, .pc [.x, .x, .x]), (4, .x), (5, .x), (6, .x)] [.s, .Q 0, .i .i64, .i .i64, .i .i64, .bC true, .i .i64, .i .i64, .i .i64, .E]
noncomputable def H77 : List (Nat × LH) := [(0, H77_0), (2, H77_2), (4, H77_4)]
def W77 : List (Nat × List (Nat × List Nat)) := []
def Γ77 : List (Nat × Con) := [(132, Uc132)]
theorem e77 : Eqn PP 34 Γ77 H77 W77 (bodyOf Tryz.f77) [.cell 2 107, .tmp 3] [.ag [.x, .x, .x], .bl] [] K77 B77 := fun _ K => by kernel_rfl
theorem s77 : CSound PP 77 G77 := fun_sk mixed Tryz.func77 (by decide) (by kernel_rfl) Tryz.ntmps77 Tryz.results77 (.cons u132 (GSound.nil)) e77
def Uc77 := useC [.x] G77
theorem u77 : CSound PP 77 Uc77 := useC_ok s77
/-! spec.ParseOps -/
def K34 : List Tok := [.s]
def B34 : Body K34 := fun x K => Ms_ParseOps x.1 (fun r1 r2 => K (.tup [.sl 0, .bool r1]) [⟨true, .list .op r2⟩])
def G34 := rdG K34 B34
noncomputable def H34_0 := mkH [(4, .own .op), (5, .own .str), (6, .x)] [.L 0, .L 1, .i .i64, .bL true .op, .bL true .str]
noncomputable def H34 : List (Nat × LH) := [(0, H34_0)]
def W34 : List (Nat × List (Nat × List Nat)) := []
def Γ34 : List (Nat × Con) := [(74, Uc74), (77, Uc77)]
theorem e34 : Eqn PP 63 Γ34 H34 W34 (bodyOf Tryz.f34) [.tmp 2, .tmp 3] [.own .op, .bl] [] K34 B34 := fun _ K => by kernel_rfl
theorem s34 : CSound PP 34 G34 := fun_sk mixed Tryz.func34 (by decide) (by kernel_rfl) Tryz.ntmps34 Tryz.results34 (.cons u74 (.cons u77 (GSound.nil))) e34
def Uc34 := useC [.x] G34
theorem u34 : CSound PP 34 Uc34 := useC_ok s34
/-! impl.opsOk -/
def K78 : List Tok := [.p .op, .i .i64]
def B78 : Body K78 := fun x K => Mi_opsOk x.1 x.2.1 (fun r1 => K (.bool r1) [])
def G78 := rdG K78 B78
noncomputable def H78_0 := mkH [(0, .pure .op), (1, .x), (7, .pure .op), (8, .x), (9, .x)] [.p .op, .i .i64, .p .op, .i .i64, .i .i64]
noncomputable def H78 : List (Nat × LH) := [(0, H78_0)]
def W78 : List (Nat × List (Nat × List Nat)) := []
def Γ78 : List (Nat × Con) := [(133, Uc133)]
theorem e78 : Eqn PP 21 Γ78 H78 W78 (bodyOf Tryz.f78) [.tmp 4] [.bl] [] K78 B78 := fun _ _ K => by kernel_rfl
theorem s78 : CSound PP 78 G78 := fun_sk mixed Tryz.func78 (by decide) (by kernel_rfl) Tryz.ntmps78 Tryz.results78 (.cons u133 (GSound.nil)) e78
def Uc78 := useC [.pure .op, .x] G78
theorem u78 : CSound PP 78 Uc78 := useC_ok s78
theorem enters80 : Enters PP 80 := ⟨_, Tryz.func80, by decide, rfl⟩
def G80 : Con := conJoin M_strings_Join
theorem extra80 : Go.Proofs.Builder.Extra PP Tryz.lays156_ren where
  sizeBuilder := by kernel_rfl
  liesBuilder := by kernel_rfl
  t5 := Tryz.lays146.t5
  a5 := Tryz.lays146.a5
  z5 := Tryz.lays146.z5
  v5 := Tryz.lays146.v5
  infoByte := by kernel_rfl
  cellsByte := by kernel_rfl
  sizeByte := by kernel_rfl
  neB5 := by decide
theorem s80 : CSound PP 80 G80 := conJoin_ok (pre := fun l b => l.length ≤ 140737488355328 ∧ (Lib.join l b).length ≤ 140737488355328) (F := Lib.join) enters80 (fun b => rfl) (fun l b h => h.1) (fun pp cc sep w => by
  have hc := Go.Proofs.Any.strings_Join_none Tryz.lays156 extra80 pp cc sep w
  change Calls PP 80 _ _ _ at hc
  exact hc) fun bk o cc xs sep w h1 h2 h3 h4 => by
  have hc := Go.Proofs.Any.strings_Join Tryz.lays156 extra80 bk o cc xs sep w h1 h2 (by simpa using h4.1) h3 h4.2
  change Calls PP 80 _ _ _ at hc
  exact hc
def Uc80 := useC [.pure .str, .x] G80
theorem u80 : CSound PP 80 Uc80 := useC_ok s80
/-! impl.FormatOps -/
def K35 : List Tok := [.p .op]
def B35 : Body K35 := fun x K => Mi_FormatOps x.1 (fun r1 => K (.str r1) [])
def G35 := rdG K35 B35
noncomputable def H35_0 := mkH [(3, .own .str), (10, .pure .op), (11, .x), (12, .x)] [.L 0, .p .op, .i .i64, .i .i64, .bL true .str]
noncomputable def H35 : List (Nat × LH) := [(0, H35_0)]
def W35 : List (Nat × List (Nat × List Nat)) := []
def Γ35 : List (Nat × Con) := [(78, Uc78), (79, Uc79), (80, Uc80)]
theorem e35 : Eqn PP 24 Γ35 H35 W35 (bodyOf Tryz.f35) [.tmp 2] [.x] [] K35 B35 := fun _ K => by kernel_rfl
theorem s35 : CSound PP 35 G35 := fun_sk mixed Tryz.func35 (by decide) (by kernel_rfl) Tryz.ntmps35 Tryz.results35 (.cons u78 (.cons u79 (.cons u80 (GSound.nil)))) e35
def Uc35 := useC [.pure .op] G35
theorem u35 : CSound PP 35 Uc35 := useC_ok s35
/-! slices.Grow[[]int,int] -/
def K232 : List Tok := [.T .nil, .i .i64]
def B232 : Body K232 := fun x K => M_Grow_int x.1 (fun r1 => K (.sl 0) [⟨true, .list .int r1⟩])
def G232 := rdG K232 B232
def H232 : List (Nat × LH) := []
def W232 : List (Nat × List (Nat × List Nat)) := []
def Γ232 : List (Nat × Con) := []
theorem e232 : Eqn PP 27 Γ232 H232 W232 (bodyOf Tryz.f232) [.tmp 4] [.own .int] [] K232 B232 := fun _ K => by kernel_rfl
theorem s232 : CSound PP 232 G232 := fun_sk mixed Tryz.func232 (by decide) (by kernel_rfl) Tryz.ntmps232 Tryz.results232 (GSound.nil) e232
def Uc232 := useC [.x, .x] G232
theorem u232 : CSound PP 232 Uc232 := useC_ok s232
/-! slices.Concat[[]int,int] -/
def K196 : List Tok := [.p .ints]
def B196 : Body K196 := fun x K => M_Concat_int x.1 (fun r1 => K (.sl 0) [⟨true, .list .int r1⟩])
def G196 := rdG K196 B196
noncomputable def H196_0 := mkH [(0, .pure .ints), (3, .x), (9, .pure .ints), (10, .x), (11, .x)] [.p .ints, .i .i64, .p .ints, .i .i64, .i .i64]
noncomputable def H196_2 := mkH [(6, .own .int), (25, .pure .ints), (26, .x), (27, .x)] [.L 0, .p .ints, .i .i64, .i .i64, .bL true .int]
noncomputable def H196 : List (Nat × LH) := [(0, H196_0), (2, H196_2)]
def W196 : List (Nat × List (Nat × List Nat)) := []
def Γ196 : List (Nat × Con) := [(232, Uc232)]
theorem e196 : Eqn PP 36 Γ196 H196 W196 (bodyOf Tryz.f196) [.tmp 2] [.own .int] [] K196 B196 := fun _ K => by kernel_rfl
theorem s196 : CSound PP 196 G196 := fun_sk mixed Tryz.func196 (by decide) (by kernel_rfl) Tryz.ntmps196 Tryz.results196 (.cons u232 (GSound.nil)) e196
def Uc196 := useC [.pure .ints] G196
theorem u196 : CSound PP 196 Uc196 := useC_ok s196
/-! impl.CountsOf -/
def K137 : List Tok := [.A, .p .int, .p .int, .p .int, .E]
def B137 : Body K137 := fun x K => Mi_CountsOf x.1 x.2.1 x.2.2.1 (fun r1 => K (.sl 0) [⟨true, .list .int r1⟩])
def G137 := rdG K137 B137
noncomputable def H137_0 := mkH [(3, .own .int), (20, .own .int), (21, .x), (22, .x)] [.L 0, .L 1, .i .i64, .i .i64, .bL true .int, .bL true .int]
noncomputable def H137 : List (Nat × LH) := [(0, H137_0)]
def W137 : List (Nat × List (Nat × List Nat)) := []
def Γ137 : List (Nat × Con) := [(56, Uc56), (196, Uc196)]
theorem e137 : Eqn PP 36 Γ137 H137 W137 (bodyOf Tryz.f137) [.tmp 2] [.own .int] [] K137 B137 := fun _ _ _ K => by kernel_rfl
theorem s137 : CSound PP 137 G137 := fun_sk mixed Tryz.func137 (by decide) (by kernel_rfl) Tryz.ntmps137 Tryz.results137 (.cons u56 (.cons u196 (GSound.nil))) e137
def Uc137 := useC [.ag [.pure .int, .pure .int, .pure .int]] G137
theorem u137 : CSound PP 137 Uc137 := useC_ok s137
/-! slices.Index[[]int,int] -/
def K154 : List Tok := [.p .int, .i .i64]
def B154 : Body K154 := fun x K => M_Index_int x.1 x.2.1 (fun r1 => K (.int .i64 r1) [])
def G154 := rdG K154 B154
noncomputable def H154_0 := mkH [(0, .pure .int), (1, .x), (7, .x), (8, .x)] [.p .int, .i .i64, .i .i64, .i .i64]
noncomputable def H154 : List (Nat × LH) := [(0, H154_0)]
def W154 : List (Nat × List (Nat × List Nat)) := []
def Γ154 : List (Nat × Con) := []
theorem e154 : Eqn PP 19 Γ154 H154 W154 (bodyOf Tryz.f154) [.tmp 4] [.x] [] K154 B154 := fun _ _ K => by kernel_rfl
theorem s154 : CSound PP 154 G154 := fun_sk mixed Tryz.func154 (by decide) (by kernel_rfl) Tryz.ntmps154 Tryz.results154 (GSound.nil) e154
def Uc154 := useC [.pure .int, .x] G154
theorem u154 : CSound PP 154 Uc154 := useC_ok s154
/-! slices.Contains[[]int,int] -/
def K96 : List Tok := [.p .int, .i .i64]
def B96 : Body K96 := fun x K => M_Contains_int x.1 x.2.1 (fun r1 => K (.bool r1) [])
def G96 := rdG K96 B96
def H96 : List (Nat × LH) := []
def W96 : List (Nat × List (Nat × List Nat)) := []
def Γ96 : List (Nat × Con) := [(154, Uc154)]
theorem e96 : Eqn PP 9 Γ96 H96 W96 (bodyOf Tryz.f96) [.tmp 4] [.bl] [] K96 B96 := fun _ _ K => by kernel_rfl
theorem s96 : CSound PP 96 G96 := fun_sk mixed Tryz.func96 (by decide) (by kernel_rfl) Tryz.ntmps96 Tryz.results96 (.cons u154 (GSound.nil)) e96
def Uc96 := useC [.pure .int, .x] G96
theorem u96 : CSound PP 96 Uc96 := useC_ok s96
/-! impl.StoreValid -/
def K81 : List Tok := [.A, .p .int, .p .int, .p .int, .p .int, .E]
def B81 : Body K81 := fun x K => Mi_StoreValid x.1 x.2.1 x.2.2.1 x.2.2.2.1 (fun r1 => K (.bool r1) [])
def G81 := rdG K81 B81
noncomputable def H81_0 := mkH [(1, .pc [.pure .int, .pure .int, .pure .int, .pure .int]), (3, .own .int), (14, .pure .int), (15, .x), (16, .x)] [.Q 0, .L 1, .p .int, .i .i64, .i .i64, .bC true, .p .int, .p .int, .p .int, .p .int, .E, .bL true .int]
noncomputable def H81 : List (Nat × LH) := [(0, H81_0)]
def W81 : List (Nat × List (Nat × List Nat)) := []
def Γ81 : List (Nat × Con) := [(56, Uc56), (137, Uc137), (96, Uc96)]
theorem e81 : Eqn PP 63 Γ81 H81 W81 (bodyOf Tryz.f81) [.tmp 2] [.bl] [] K81 B81 := fun _ _ _ _ K => by kernel_rfl
theorem s81 : CSound PP 81 G81 := fun_sk mixed Tryz.func81 (by decide) (by kernel_rfl) Tryz.ntmps81 Tryz.results81 (.cons u56 (.cons u137 (.cons u96 (GSound.nil)))) e81
def Uc81 := useC [.ag [.pure .int, .pure .int, .pure .int, .pure .int]] G81
theorem u81 : CSound PP 81 Uc81 := useC_ok s81
/-! impl.distances$1 -/
def K220 : List Tok := [.i .i64, .i .i64, .Q 0, .Q 1, .bC true, .L 2, .E, .bC true, .L 3, .E, .bL true .int, .bL true .int]
def B220 : Body K220 := fun x K => Mi_distances_1 x.1 x.2.1 x.2.2.1 x.2.2.2.1 (fun r1 r2 => K (.tup []) [⟨true, .cells [.sl 2]⟩, ⟨true, .cells [.sl 4]⟩, ⟨true, .list .int r1⟩, ⟨true, .dead⟩, ⟨true, .list .int r2⟩])
def G220 := rdG K220 B220
def H220 : List (Nat × LH) := []
def W220 : List (Nat × List (Nat × List Nat)) := []
def Γ220 : List (Nat × Con) := []
theorem e220 : Eqn PP 23 Γ220 H220 W220 (bodyOf Tryz.f220) [] [] [3] K220 B220 := fun _ _ _ _ K => by kernel_rfl
theorem s220 : CSound PP 220 G220 := fun_sk mixed Tryz.func220 (by decide) (by kernel_rfl) Tryz.ntmps220 Tryz.results220 (GSound.nil) e220
def Uc220 := useC [.x, .x, .pc [.own .int], .pc [.own .int]] G220
theorem u220 : CSound PP 220 Uc220 := useC_ok s220
/-! impl.distances -/
def K171 : List Tok := [.A, .p .int, .p .int, .p .int, .E]
def B171 : Body K171 := fun x K => Mi_distances x.1 x.2.1 x.2.2.1 (fun r1 => K (.sl 0) [⟨true, .list .int r1⟩])
def G171 := rdG K171 B171
noncomputable def H171_0 := mkH [(1, .pc [.pure .int, .pure .int, .pure .int]), (3, .pc [.own .int]), (4, .pc [.own .int]), (5, .x), (16, .pure .int), (17, .x), (18, .x)] [.Q 0, .Q 1, .Q 2, .F 220, .N, .Q 1, .Q 2, .E, .p .int, .i .i64, .i .i64, .bC true, .p .int, .p .int, .p .int, .E, .bC true, .L 3, .E, .bC true, .L 4, .E, .bL true .int, .bL true .int]
noncomputable def H171_2 := mkH [(1, .pc [.pure .int, .pure .int, .pure .int]), (3, .pc [.own .int]), (4, .pc [.own .int]), (5, .x), (8, .x)] [.Q 0, .Q 1, .Q 2, .F 220, .N, .Q 1, .Q 2, .E, .i .i64, .bC true, .p .int, .p .int, .p .int, .E, .bC true, .L 3, .E, .bC true, .L 4, .E, .bL true .int, .bL true .int]
noncomputable def H171 : List (Nat × LH) := [(0, H171_0), (2, H171_2)]
def W171 : List (Nat × List (Nat × List Nat)) := []
def Γ171 : List (Nat × Con) := [(220, Uc220)]
theorem e171 : Eqn PP 69 Γ171 H171 W171 (bodyOf Tryz.f171) [.tmp 2] [.own .int] [] K171 B171 := fun _ _ _ K => by kernel_rfl
theorem s171 : CSound PP 171 G171 := fun_sk mixed Tryz.func171 (by decide) (by kernel_rfl) Tryz.ntmps171 Tryz.results171 (.cons u220 (GSound.nil)) e171
def Uc171 := useC [.ag [.pure .int, .pure .int, .pure .int]] G171
theorem u171 : CSound PP 171 Uc171 := useC_ok s171
/-! impl.Reachable -/
def K114 : List Tok := [.A, .p .int, .p .int, .p .int, .E]
def B114 : Body K114 := fun x K => Mi_Reachable x.1 x.2.1 x.2.2.1 (fun r1 => K (.sl 0) [⟨true, .list .bool r1⟩])
def G114 := rdG K114 B114
noncomputable def H114_0 := mkH [(3, .own .bool), (11, .own .int), (12, .x), (13, .x)] [.L 0, .L 1, .i .i64, .i .i64, .bL true .bool, .bL true .int]
noncomputable def H114 : List (Nat × LH) := [(0, H114_0)]
def W114 : List (Nat × List (Nat × List Nat)) := []
def Γ114 : List (Nat × Con) := [(56, Uc56), (171, Uc171)]
theorem e114 : Eqn PP 24 Γ114 H114 W114 (bodyOf Tryz.f114) [.tmp 2] [.own .bool] [] K114 B114 := fun _ _ _ K => by kernel_rfl
theorem s114 : CSound PP 114 G114 := fun_sk mixed Tryz.func114 (by decide) (by kernel_rfl) Tryz.ntmps114 Tryz.results114 (.cons u56 (.cons u171 (GSound.nil))) e114
def Uc114 := useC [.ag [.pure .int, .pure .int, .pure .int]] G114
theorem u114 : CSound PP 114 Uc114 := useC_ok s114
/-! impl.GarbageOf -/
def K95 : List Tok := [.A, .p .int, .p .int, .p .int, .E]
def B95 : Body K95 := fun x K => Mi_GarbageOf x.1 x.2.1 x.2.2.1 (fun r1 => K (.sl 0) [⟨true, .list .int r1⟩])
def G95 := rdG K95 B95
noncomputable def H95_0 := mkH [(3, .own .int), (8, .own .bool), (9, .x), (10, .x)] [.L 0, .L 1, .i .i64, .i .i64, .bL true .int, .bL true .bool]
noncomputable def H95 : List (Nat × LH) := [(0, H95_0)]
def W95 : List (Nat × List (Nat × List Nat)) := []
def Γ95 : List (Nat × Con) := [(114, Uc114)]
theorem e95 : Eqn PP 23 Γ95 H95 W95 (bodyOf Tryz.f95) [.tmp 2] [.own .int] [] K95 B95 := fun _ _ _ K => by kernel_rfl
theorem s95 : CSound PP 95 G95 := fun_sk mixed Tryz.func95 (by decide) (by kernel_rfl) Tryz.ntmps95 Tryz.results95 (.cons u114 (GSound.nil)) e95
def Uc95 := useC [.ag [.pure .int, .pure .int, .pure .int]] G95
theorem u95 : CSound PP 95 Uc95 := useC_ok s95
/-! impl.LeakedOf -/
def K41 : List Tok := [.A, .p .int, .p .int, .p .int, .p .int, .E]
def B41 : Body K41 := fun x K => Mi_LeakedOf x.1 x.2.1 x.2.2.1 x.2.2.2.1 (fun r1 => K (.sl 0) [⟨true, .list .int r1⟩])
def G41 := rdG K41 B41
noncomputable def H41_0 := mkH [(1, .pc [.pure .int, .pure .int, .pure .int, .pure .int]), (3, .own .int), (12, .own .int), (13, .x), (14, .x)] [.Q 0, .L 1, .L 2, .i .i64, .i .i64, .bC true, .p .int, .p .int, .p .int, .p .int, .E, .bL true .int, .bL true .int]
noncomputable def H41 : List (Nat × LH) := [(0, H41_0)]
def W41 : List (Nat × List (Nat × List Nat)) := []
def Γ41 : List (Nat × Con) := [(81, Uc81), (95, Uc95), (96, Uc96)]
theorem e41 : Eqn PP 29 Γ41 H41 W41 (bodyOf Tryz.f41) [.tmp 2] [.own .int] [] K41 B41 := fun _ _ _ _ K => by kernel_rfl
theorem s41 : CSound PP 41 G41 := fun_sk mixed Tryz.func41 (by decide) (by kernel_rfl) Tryz.ntmps41 Tryz.results41 (.cons u81 (.cons u95 (.cons u96 (GSound.nil)))) e41
def Uc41 := useC [.ag [.pure .int, .pure .int, .pure .int, .pure .int]] G41
theorem u41 : CSound PP 41 Uc41 := useC_ok s41
/-! slices.Clone[[]int,int] -/
def K111 : List Tok := [.p .int]
def B111 : Body K111 := fun x K => M_Clone_int x.1 (fun r1 => K (.sl 0) [⟨true, .list .int r1⟩])
def G111 := rdG K111 B111
def H111 : List (Nat × LH) := []
def W111 : List (Nat × List (Nat × List Nat)) := []
def Γ111 : List (Nat × Con) := []
theorem e111 : Eqn PP 8 Γ111 H111 W111 (bodyOf Tryz.f111) [.tmp 2] [.own .int] [] K111 B111 := fun _ K => by kernel_rfl
theorem s111 : CSound PP 111 G111 := fun_sk mixed Tryz.func111 (by decide) (by kernel_rfl) Tryz.ntmps111 Tryz.results111 (GSound.nil) e111
def Uc111 := useC [.pure .int] G111
theorem u111 : CSound PP 111 Uc111 := useC_ok s111
/-! impl.copied -/
def K138 : List Tok := [.A, .p .int, .p .int, .p .int, .E]
def B138 : Body K138 := fun x K => Mi_copied x.1 x.2.1 x.2.2.1 (fun r1 r2 r3 => K (.agg [.sl 0, .sl 1, .sl 2]) [⟨true, .list .int r1⟩, ⟨true, .list .int r2⟩, ⟨true, .list .int r3⟩])
def G138 := rdG K138 B138
def H138 : List (Nat × LH) := []
def W138 : List (Nat × List (Nat × List Nat)) := []
def Γ138 : List (Nat × Con) := [(111, Uc111)]
theorem e138 : Eqn PP 13 Γ138 H138 W138 (bodyOf Tryz.f138) [.cell 2 25] [.ag [.own .int, .own .int, .own .int]] [] K138 B138 := fun _ _ _ K => by kernel_rfl
theorem s138 : CSound PP 138 G138 := fun_sk mixed Tryz.func138 (by decide) (by kernel_rfl) Tryz.ntmps138 Tryz.results138 (.cons u111 (GSound.nil)) e138
def Uc138 := useC [.ag [.pure .int, .pure .int, .pure .int]] G138
theorem u138 : CSound PP 138 Uc138 := useC_ok s138
/-! impl.again -/
def K82 : List Tok := [.A, .p .int, .p .int, .p .int, .p .int, .E]
def B82 : Body K82 := fun x K => Mi_again x.1 x.2.1 x.2.2.1 x.2.2.2.1 (fun r1 r2 r3 r4 => K (.agg [.sl 0, .sl 1, .sl 2, .sl 3]) [⟨true, .list .int r1⟩, ⟨true, .list .int r2⟩, ⟨true, .list .int r3⟩, ⟨true, .list .int r4⟩])
def G82 := rdG K82 B82
def H82 : List (Nat × LH) := []
def W82 : List (Nat × List (Nat × List Nat)) := []
def Γ82 : List (Nat × Con) := [(138, Uc138), (111, Uc111)]
theorem e82 : Eqn PP 10 Γ82 H82 W82 (bodyOf Tryz.f82) [.cell 2 27] [.ag [.own .int, .own .int, .own .int, .own .int]] [] K82 B82 := fun _ _ _ _ K => by kernel_rfl
theorem s82 : CSound PP 82 G82 := fun_sk mixed Tryz.func82 (by decide) (by kernel_rfl) Tryz.ntmps82 Tryz.results82 (.cons u138 (.cons u111 (GSound.nil))) e82
def Uc82 := useC [.ag [.pure .int, .pure .int, .pure .int, .pure .int]] G82
theorem u82 : CSound PP 82 Uc82 := useC_ok s82
/-! (*impl.Store).clear -/
def K83 : List Tok := [.Q 0, .p .int, .bC true, .L 1, .L 2, .L 3, .L 4, .E, .bL true .int, .bL true .int, .bL true .int, .bL true .int]
def B83 : Body K83 := fun x K => Mi_Store_clear x.1 x.2.1 x.2.2.1 x.2.2.2.1 x.2.2.2.2.1 (fun r1 r2 r3 r4 => K (.tup []) [⟨true, .cells [.sl 1, .sl 2, .sl 3, .sl 5]⟩, ⟨true, .list .int r1⟩, ⟨true, .list .int r2⟩, ⟨true, .list .int r3⟩, ⟨true, .dead⟩, ⟨true, .list .int r4⟩])
def G83 := rdG K83 B83
noncomputable def H83_0 := mkH [(0, .pc [.own .int, .own .int, .own .int, .mv .int]), (7, .pure .int), (8, .x), (9, .x)] [.Q 0, .p .int, .i .i64, .i .i64, .bC true, .L 1, .L 2, .L 3, .L 5, .E, .bL true .int, .bL true .int, .bL true .int, .bD true, .bL true .int]
noncomputable def H83_2 := mkH [(0, .pc [.own .int, .own .int, .own .int, .own .int]), (5, .x), (7, .pure .int), (8, .x), (9, .x), (32, .x), (33, .x)] [.Q 0, .i .i64, .p .int, .i .i64, .i .i64, .i .i64, .i .i64, .bC true, .L 1, .L 2, .L 3, .L 5, .E, .bL true .int, .bL true .int, .bL true .int, .bD true, .bL true .int]
noncomputable def H83 : List (Nat × LH) := [(0, H83_0), (2, H83_2)]
def W83 : List (Nat × List (Nat × List Nat)) := []
def Γ83 : List (Nat × Con) := []
theorem e83 : Eqn PP 82 Γ83 H83 W83 (bodyOf Tryz.f83) [] [] [4] K83 B83 := fun _ _ _ _ _ K => by kernel_rfl
theorem s83 : CSound PP 83 G83 := fun_sk mixed Tryz.func83 (by decide) (by kernel_rfl) Tryz.ntmps83 Tryz.results83 (GSound.nil) e83
def Uc83 := useC [.pc [.own .int, .own .int, .own .int, .own .int], .pure .int] G83
theorem u83 : CSound PP 83 Uc83 := useC_ok s83
/-! impl.CollectStore -/
def K36 : List Tok := [.A, .p .int, .p .int, .p .int, .p .int, .E]
def B36 : Body K36 := fun x K => Mi_CollectStore x.1 x.2.1 x.2.2.1 x.2.2.2.1 (fun r1 r2 r3 r4 r5 => K (.tup [.agg [.sl 0, .sl 1, .sl 2, .sl 3], .bool r1]) [⟨true, .list .int r2⟩, ⟨true, .list .int r3⟩, ⟨true, .list .int r4⟩, ⟨true, .list .int r5⟩])
def G36 := rdG K36 B36
def H36 : List (Nat × LH) := []
def W36 : List (Nat × List (Nat × List Nat)) := []
def Γ36 : List (Nat × Con) := [(81, Uc81), (41, Uc41), (82, Uc82), (83, Uc83)]
theorem e36 : Eqn PP 16 Γ36 H36 W36 (bodyOf Tryz.f36) [.cell 2 27, .tmp 3] [.ag [.own .int, .own .int, .own .int, .own .int], .bl] [] K36 B36 := fun _ _ _ _ K => by kernel_rfl
theorem s36 : CSound PP 36 G36 := fun_sk mixed Tryz.func36 (by decide) (by kernel_rfl) Tryz.ntmps36 Tryz.results36 (.cons u81 (.cons u41 (.cons u82 (.cons u83 (GSound.nil))))) e36
def Uc36 := useC [.ag [.pure .int, .pure .int, .pure .int, .pure .int]] G36
theorem u36 : CSound PP 36 Uc36 := useC_ok s36
/-! impl.NewGc -/
def K84 : List Tok := [.A, .p .int, .p .int, .p .int, .p .int, .E]
def B84 : Body K84 := fun x K => Mi_NewGc x.1 x.2.1 x.2.2.1 x.2.2.2.1 (fun r1 r2 r3 r4 => K (.tup [.agg [.int .i64 r1, .sl 0, .int .i64 r2], .bool r3]) [⟨true, .list .int r4⟩])
def G84 := rdG K84 B84
def H84 : List (Nat × LH) := []
def W84 : List (Nat × List (Nat × List Nat)) := []
def Γ84 : List (Nat × Con) := [(81, Uc81)]
theorem e84 : Eqn PP 14 Γ84 H84 W84 (bodyOf Tryz.f84) [.cell 2 29, .tmp 3] [.ag [.x, .own .int, .x], .bl] [] K84 B84 := fun _ _ _ _ K => by kernel_rfl
theorem s84 : CSound PP 84 G84 := fun_sk mixed Tryz.func84 (by decide) (by kernel_rfl) Tryz.ntmps84 Tryz.results84 (.cons u81 (GSound.nil)) e84
def Uc84 := useC [.ag [.pure .int, .pure .int, .pure .int, .pure .int]] G84
theorem u84 : CSound PP 84 Uc84 := useC_ok s84
/-! slices.Clone[[]impl.Op,impl.Op] -/
def K85 : List Tok := [.p .op]
def B85 : Body K85 := fun x K => M_Clone_Op x.1 (fun r1 => K (.sl 0) [⟨true, .list .op r1⟩])
def G85 := rdG K85 B85
def H85 : List (Nat × LH) := []
def W85 : List (Nat × List (Nat × List Nat)) := []
def Γ85 : List (Nat × Con) := []
theorem e85 : Eqn PP 8 Γ85 H85 W85 (bodyOf Tryz.f85) [.tmp 2] [.own .op] [] K85 B85 := fun _ K => by kernel_rfl
theorem s85 : CSound PP 85 G85 := fun_sk mixed Tryz.func85 (by decide) (by kernel_rfl) Tryz.ntmps85 Tryz.results85 (GSound.nil) e85
def Uc85 := useC [.pure .op] G85
theorem u85 : CSound PP 85 Uc85 := useC_ok s85
/-! impl.NewBoth -/
def K37 : List Tok := [.A, .p .int, .p .int, .p .int, .p .int, .E, .p .op]
def B37 : Body K37 := fun x K => Mi_NewBoth x.1 x.2.1 x.2.2.1 x.2.2.2.1 x.2.2.2.2.1 (fun r1 r2 r3 r4 r5 r6 r7 r8 r9 r10 r11 => K (.tup [.agg [.sl 0, .sl 1, .sl 2, .sl 3, .int .i64 r1, .sl 4, .int .i64 r2, .sl 5, .int .i64 r3, .bool r4], .bool r5]) [⟨true, .list .int r6⟩, ⟨true, .list .int r7⟩, ⟨true, .list .int r8⟩, ⟨true, .list .int r9⟩, ⟨true, .list .int r10⟩, ⟨true, .list .op r11⟩])
def G37 := rdG K37 B37
def H37 : List (Nat × LH) := []
def W37 : List (Nat × List (Nat × List Nat)) := []
def Γ37 : List (Nat × Con) := [(84, Uc84), (78, Uc78), (82, Uc82), (85, Uc85)]
theorem e37 : Eqn PP 31 Γ37 H37 W37 (bodyOf Tryz.f37) [.cell 4 32, .tmp 5] [.ag [.own .int, .own .int, .own .int, .own .int, .x, .own .int, .x, .own .op, .x, .bl], .bl] [] K37 B37 := fun _ _ _ _ _ K => by kernel_rfl
theorem s37 : CSound PP 37 G37 := fun_sk mixed Tryz.func37 (by decide) (by kernel_rfl) Tryz.ntmps37 Tryz.results37 (.cons u84 (.cons u78 (.cons u82 (.cons u85 (GSound.nil))))) e37
def Uc37 := useC [.ag [.pure .int, .pure .int, .pure .int, .pure .int], .pure .op] G37
theorem u37 : CSound PP 37 Uc37 := useC_ok s37
/-! impl.colorsOk -/
def K162 : List Tok := [.p .int, .i .i64]
def B162 : Body K162 := fun x K => Mi_colorsOk x.1 x.2.1 (fun r1 => K (.bool r1) [])
def G162 := rdG K162 B162
noncomputable def H162_0 := mkH [(0, .pure .int), (1, .x), (7, .pure .int), (8, .x), (9, .x)] [.p .int, .i .i64, .p .int, .i .i64, .i .i64]
noncomputable def H162 : List (Nat × LH) := [(0, H162_0)]
def W162 : List (Nat × List (Nat × List Nat)) := []
def Γ162 : List (Nat × Con) := []
theorem e162 : Eqn PP 24 Γ162 H162 W162 (bodyOf Tryz.f162) [.tmp 4] [.bl] [] K162 B162 := fun _ _ K => by kernel_rfl
theorem s162 : CSound PP 162 G162 := fun_sk mixed Tryz.func162 (by decide) (by kernel_rfl) Tryz.ntmps162 Tryz.results162 (GSound.nil) e162
def Uc162 := useC [.pure .int, .x] G162
theorem u162 : CSound PP 162 Uc162 := useC_ok s162
/-! impl.GcValid -/
def K103 : List Tok := [.A, .p .int, .p .int, .p .int, .p .int, .E, .A, .i .i64, .p .int, .i .i64, .E]
def B103 : Body K103 := fun x K => Mi_GcValid x.1 x.2.1 x.2.2.1 x.2.2.2.1 x.2.2.2.2.1 x.2.2.2.2.2.1 x.2.2.2.2.2.2.1 (fun r1 => K (.bool r1) [])
def G103 := rdG K103 B103
def H103 : List (Nat × LH) := []
def W103 : List (Nat × List (Nat × List Nat)) := []
def Γ103 : List (Nat × Con) := [(81, Uc81), (162, Uc162)]
theorem e103 : Eqn PP 49 Γ103 H103 W103 (bodyOf Tryz.f103) [.tmp 4] [.bl] [] K103 B103 := fun _ _ _ _ _ _ _ K => by kernel_rfl
theorem s103 : CSound PP 103 G103 := fun_sk mixed Tryz.func103 (by decide) (by kernel_rfl) Tryz.ntmps103 Tryz.results103 (.cons u81 (.cons u162 (GSound.nil))) e103
def Uc103 := useC [.ag [.pure .int, .pure .int, .pure .int, .pure .int], .ag [.x, .pure .int, .x]] G103
theorem u103 : CSound PP 103 Uc103 := useC_ok s103
/-! impl.BothValid -/
def K45 : List Tok := [.A, .p .int, .p .int, .p .int, .p .int, .i .i64, .p .int, .i .i64, .p .op, .i .i64, .b, .E]
def B45 : Body K45 := fun x K => Mi_BothValid x.1 x.2.1 x.2.2.1 x.2.2.2.1 x.2.2.2.2.1 x.2.2.2.2.2.1 x.2.2.2.2.2.2.1 x.2.2.2.2.2.2.2.1 x.2.2.2.2.2.2.2.2.1 x.2.2.2.2.2.2.2.2.2.1 (fun r1 => K (.bool r1) [])
def G45 := rdG K45 B45
def H45 : List (Nat × LH) := []
def W45 : List (Nat × List (Nat × List Nat)) := []
def Γ45 : List (Nat × Con) := [(103, Uc103), (78, Uc78)]
theorem e45 : Eqn PP 31 Γ45 H45 W45 (bodyOf Tryz.f45) [.tmp 2] [.bl] [] K45 B45 := fun _ _ _ _ _ _ _ _ _ _ K => by kernel_rfl
theorem s45 : CSound PP 45 G45 := fun_sk mixed Tryz.func45 (by decide) (by kernel_rfl) Tryz.ntmps45 Tryz.results45 (.cons u103 (.cons u78 (GSound.nil))) e45
def Uc45 := useC [.ag [.pure .int, .pure .int, .pure .int, .pure .int, .x, .pure .int, .x, .pure .op, .x, .bl]] G45
theorem u45 : CSound PP 45 Uc45 := useC_ok s45
theorem enters46 : Enters PP 46 := ⟨_, Tryz.func46, by decide, rfl⟩
def G46 : Con := conSS M_strings_Trim
theorem s46 : CSound PP 46 G46 := conSS_ok enters46 fun s cut w h => by
  have hc := Go.Proofs.Any.strings_Trim_laid Tryz.lays160 (by kernel_rfl) s cut w (by simpa using h.1) (by simpa using h.2.1) (Go.Proofs.ascii_of_all h.2.2)
  change Calls PP 46 _ _ _ at hc
  exact hc
def Uc46 := useC [.x, .x] G46
theorem u46 : CSound PP 46 Uc46 := useC_ok s46
/-! impl.anew -/
def K47 : List Tok := [.A, .p .int, .p .int, .p .int, .p .int, .i .i64, .p .int, .i .i64, .p .op, .i .i64, .b, .E]
def B47 : Body K47 := fun x K => Mi_anew x.1 x.2.1 x.2.2.1 x.2.2.2.1 x.2.2.2.2.1 x.2.2.2.2.2.1 x.2.2.2.2.2.2.1 x.2.2.2.2.2.2.2.1 x.2.2.2.2.2.2.2.2.1 x.2.2.2.2.2.2.2.2.2.1 (fun r1 r2 r3 r4 r5 r6 => K (.agg [.sl 0, .sl 1, .sl 2, .sl 3, .int .i64 x.2.2.2.2.1, .sl 4, .int .i64 x.2.2.2.2.2.2.1, .sl 5, .int .i64 x.2.2.2.2.2.2.2.2.1, .bool x.2.2.2.2.2.2.2.2.2.1]) [⟨true, .list .int r1⟩, ⟨true, .list .int r2⟩, ⟨true, .list .int r3⟩, ⟨true, .list .int r4⟩, ⟨true, .list .int r5⟩, ⟨true, .list .op r6⟩])
def G47 := rdG K47 B47
def H47 : List (Nat × LH) := []
def W47 : List (Nat × List (Nat × List Nat)) := []
def Γ47 : List (Nat × Con) := [(82, Uc82), (111, Uc111), (85, Uc85)]
theorem e47 : Eqn PP 18 Γ47 H47 W47 (bodyOf Tryz.f47) [.cell 2 32] [.ag [.own .int, .own .int, .own .int, .own .int, .x, .own .int, .x, .own .op, .x, .bl]] [] K47 B47 := fun _ _ _ _ _ _ _ _ _ _ K => by kernel_rfl
theorem s47 : CSound PP 47 G47 := fun_sk mixed Tryz.func47 (by decide) (by kernel_rfl) Tryz.ntmps47 Tryz.results47 (.cons u82 (.cons u111 (.cons u85 (GSound.nil)))) e47
def Uc47 := useC [.ag [.pure .int, .pure .int, .pure .int, .pure .int, .x, .pure .int, .x, .pure .op, .x, .bl]] G47
theorem u47 : CSound PP 47 Uc47 := useC_ok s47
/-! impl.TargetOf -/
def K167 : List Tok := [.A, .p .int, .p .int, .p .int, .p .int, .E, .A, .i .i64, .i .i64, .i .i64, .E]
def B167 : Body K167 := fun x K => Mi_TargetOf x.1 x.2.1 x.2.2.1 x.2.2.2.1 x.2.2.2.2.1 x.2.2.2.2.2.1 x.2.2.2.2.2.2.1 (fun r1 => K (.int .i64 r1) [])
def G167 := rdG K167 B167
def H167 : List (Nat × LH) := []
def W167 : List (Nat × List (Nat × List Nat)) := []
def Γ167 : List (Nat × Con) := [(81, Uc81), (133, Uc133)]
theorem e167 : Eqn PP 44 Γ167 H167 W167 (bodyOf Tryz.f167) [.tmp 4] [.x] [] K167 B167 := fun _ _ _ _ _ _ _ K => by kernel_rfl
theorem s167 : CSound PP 167 G167 := fun_sk mixed Tryz.func167 (by decide) (by kernel_rfl) Tryz.ntmps167 Tryz.results167 (.cons u81 (.cons u133 (GSound.nil))) e167
def Uc167 := useC [.ag [.pure .int, .pure .int, .pure .int, .pure .int], .ag [.x, .x, .x]] G167
theorem u167 : CSound PP 167 Uc167 := useC_ok s167
/-! impl.AllocCell -/
def K218 : List Tok := [.A, .p .int, .p .int, .p .int, .p .int, .E, .i .i64]
def B218 : Body K218 := fun x K => Mi_AllocCell x.1 x.2.1 x.2.2.1 x.2.2.2.1 x.2.2.2.2.1 (fun r1 r2 r3 r4 r5 r6 => K (.tup [.agg [.sl 0, .sl 1, .sl 2, .sl 3], .int .i64 r1, .bool r2]) [⟨true, .list .int r3⟩, ⟨true, .list .int r4⟩, ⟨true, .list .int r5⟩, ⟨true, .list .int r6⟩])
def G218 := rdG K218 B218
def H218 : List (Nat × LH) := []
def W218 : List (Nat × List (Nat × List Nat)) := []
def Γ218 : List (Nat × Con) := [(81, Uc81), (82, Uc82)]
theorem e218 : Eqn PP 48 Γ218 H218 W218 (bodyOf Tryz.f218) [.cell 4 27, .tmp 5, .tmp 6] [.ag [.own .int, .own .int, .own .int, .own .int], .x, .bl] [] K218 B218 := fun _ _ _ _ _ K => by kernel_rfl
theorem s218 : CSound PP 218 G218 := fun_sk mixed Tryz.func218 (by decide) (by kernel_rfl) Tryz.ntmps218 Tryz.results218 (.cons u81 (.cons u82 (GSound.nil))) e218
def Uc218 := useC [.ag [.pure .int, .pure .int, .pure .int, .pure .int], .x] G218
theorem u218 : CSound PP 218 Uc218 := useC_ok s218
/-! impl.RunOp -/
def K168 : List Tok := [.A, .p .int, .p .int, .p .int, .p .int, .E, .A, .i .i64, .i .i64, .i .i64, .E]
def B168 : Body K168 := fun x K => Mi_RunOp x.1 x.2.1 x.2.2.1 x.2.2.2.1 x.2.2.2.2.1 x.2.2.2.2.2.1 x.2.2.2.2.2.2.1 (fun r1 r2 r3 r4 r5 r6 => K (.tup [.agg [.sl 0, .sl 1, .sl 2, .sl 3], .int .i64 r1, .bool r2]) [⟨true, .list .int r3⟩, ⟨true, .list .int r4⟩, ⟨true, .list .int r5⟩, ⟨true, .list .int r6⟩])
def G168 := rdG K168 B168
def H168 : List (Nat × LH) := []
def W168 : List (Nat × List (Nat × List Nat)) := []
def Γ168 : List (Nat × Con) := [(81, Uc81), (133, Uc133), (82, Uc82), (218, Uc218)]
theorem e168 : Eqn PP 133 Γ168 H168 W168 (bodyOf Tryz.f168) [.cell 4 27, .tmp 5, .tmp 6] [.ag [.own .int, .own .int, .own .int, .own .int], .x, .bl] [] K168 B168 := fun _ _ _ _ _ _ _ K => by kernel_rfl
theorem s168 : CSound PP 168 G168 := fun_sk mixed Tryz.func168 (by decide) (by kernel_rfl) Tryz.ntmps168 Tryz.results168 (.cons u81 (.cons u133 (.cons u82 (.cons u218 (GSound.nil))))) e168
def Uc168 := useC [.ag [.pure .int, .pure .int, .pure .int, .pure .int], .ag [.x, .x, .x]] G168
theorem u168 : CSound PP 168 Uc168 := useC_ok s168
/-! impl.has -/
def K219 : List Tok := [.A, .p .int, .p .int, .p .int, .E, .i .i64]
def B219 : Body K219 := fun x K => Mi_has x.1 x.2.1 x.2.2.1 x.2.2.2.1 (fun r1 => K (.bool r1) [])
def G219 := rdG K219 B219
def H219 : List (Nat × LH) := []
def W219 : List (Nat × List (Nat × List Nat)) := []
def Γ219 : List (Nat × Con) := [(56, Uc56)]
theorem e219 : Eqn PP 18 Γ219 H219 W219 (bodyOf Tryz.f219) [.tmp 4] [.bl] [] K219 B219 := fun _ _ _ _ K => by kernel_rfl
theorem s219 : CSound PP 219 G219 := fun_sk mixed Tryz.func219 (by decide) (by kernel_rfl) Tryz.ntmps219 Tryz.results219 (.cons u56 (GSound.nil)) e219
def Uc219 := useC [.ag [.pure .int, .pure .int, .pure .int], .x] G219
theorem u219 : CSound PP 219 Uc219 := useC_ok s219
/-! impl.ColorNew -/
def K169 : List Tok := [.A, .p .int, .p .int, .p .int, .p .int, .E, .A, .i .i64, .p .int, .i .i64, .E, .i .i64]
def B169 : Body K169 := fun x K => Mi_ColorNew x.1 x.2.1 x.2.2.1 x.2.2.2.1 x.2.2.2.2.1 x.2.2.2.2.2.1 x.2.2.2.2.2.2.1 x.2.2.2.2.2.2.2.1 (fun r1 r2 r3 r4 => K (.tup [.agg [.int .i64 r1, .sl 0, .int .i64 r2], .bool r3]) [⟨true, .list .int r4⟩])
def G169 := rdG K169 B169
def H169 : List (Nat × LH) := []
def W169 : List (Nat × List (Nat × List Nat)) := []
def Γ169 : List (Nat × Con) := [(103, Uc103), (219, Uc219), (111, Uc111)]
theorem e169 : Eqn PP 52 Γ169 H169 W169 (bodyOf Tryz.f169) [.cell 6 29, .tmp 7] [.ag [.x, .own .int, .x], .bl] [] K169 B169 := fun _ _ _ _ _ _ _ _ K => by kernel_rfl
theorem s169 : CSound PP 169 G169 := fun_sk mixed Tryz.func169 (by decide) (by kernel_rfl) Tryz.ntmps169 Tryz.results169 (.cons u103 (.cons u219 (.cons u111 (GSound.nil)))) e169
def Uc169 := useC [.ag [.pure .int, .pure .int, .pure .int, .pure .int], .ag [.x, .pure .int, .x], .x] G169
theorem u169 : CSound PP 169 Uc169 := useC_ok s169
/-! impl.shade -/
def K172 : List Tok := [.L 0, .i .i64, .bL true .int]
def B172 : Body K172 := fun x K => Mi_shade x.1 x.2.1 (fun r1 => K (.tup []) [⟨true, .list .int r1⟩])
def G172 := rdG K172 B172
def H172 : List (Nat × LH) := []
def W172 : List (Nat × List (Nat × List Nat)) := []
def Γ172 : List (Nat × Con) := []
theorem e172 : Eqn PP 16 Γ172 H172 W172 (bodyOf Tryz.f172) [] [] [] K172 B172 := fun _ _ K => by kernel_rfl
theorem s172 : CSound PP 172 G172 := fun_sk mixed Tryz.func172 (by decide) (by kernel_rfl) Tryz.ntmps172 Tryz.results172 (GSound.nil) e172
def Uc172 := useC [.own .int, .x] G172
theorem u172 : CSound PP 172 Uc172 := useC_ok s172
/-! impl.ShadeGc -/
def K170 : List Tok := [.A, .p .int, .p .int, .p .int, .p .int, .E, .A, .i .i64, .p .int, .i .i64, .E, .i .i64]
def B170 : Body K170 := fun x K => Mi_ShadeGc x.1 x.2.1 x.2.2.1 x.2.2.2.1 x.2.2.2.2.1 x.2.2.2.2.2.1 x.2.2.2.2.2.2.1 x.2.2.2.2.2.2.2.1 (fun r1 r2 r3 r4 => K (.tup [.agg [.int .i64 r1, .sl 0, .int .i64 r2], .bool r3]) [⟨true, .list .int r4⟩])
def G170 := rdG K170 B170
def H170 : List (Nat × LH) := []
def W170 : List (Nat × List (Nat × List Nat)) := []
def Γ170 : List (Nat × Con) := [(103, Uc103), (219, Uc219), (111, Uc111), (172, Uc172)]
theorem e170 : Eqn PP 37 Γ170 H170 W170 (bodyOf Tryz.f170) [.cell 6 29, .tmp 7] [.ag [.x, .own .int, .x], .bl] [] K170 B170 := fun _ _ _ _ _ _ _ _ K => by kernel_rfl
theorem s170 : CSound PP 170 G170 := fun_sk mixed Tryz.func170 (by decide) (by kernel_rfl) Tryz.ntmps170 Tryz.results170 (.cons u103 (.cons u219 (.cons u111 (.cons u172 (GSound.nil))))) e170
def Uc170 := useC [.ag [.pure .int, .pure .int, .pure .int, .pure .int], .ag [.x, .pure .int, .x], .x] G170
theorem u170 : CSound PP 170 Uc170 := useC_ok s170
/-! impl.step -/
def K112 : List Tok := [.A, .p .int, .p .int, .p .int, .p .int, .i .i64, .p .int, .i .i64, .p .op, .i .i64, .b, .E, .b]
def B112 : Body K112 := fun x K => Mi_step x.1 x.2.1 x.2.2.1 x.2.2.2.1 x.2.2.2.2.1 x.2.2.2.2.2.1 x.2.2.2.2.2.2.1 x.2.2.2.2.2.2.2.1 x.2.2.2.2.2.2.2.2.1 x.2.2.2.2.2.2.2.2.2.1 x.2.2.2.2.2.2.2.2.2.2.1 (fun r1 r2 r3 r4 r5 r6 r7 r8 r9 r10 r11 r12 => K (.tup [.agg [.sl 0, .sl 1, .sl 2, .sl 3, .int .i64 r1, .sl 4, .int .i64 r2, .sl 5, .int .i64 r3, .bool r4], .int .i64 r5, .bool r6]) [⟨true, .list .int r7⟩, ⟨true, .list .int r8⟩, ⟨true, .list .int r9⟩, ⟨true, .list .int r10⟩, ⟨true, .list .int r11⟩, ⟨true, .list .op r12⟩])
def G112 := rdG K112 B112
noncomputable def H112_1000004 := mkH [(1, .bl), (2, .pc [.own .int, .own .int, .own .int, .own .int, .x, .own .int, .x, .own .op, .x, .bl]), (4, .pc [.own .int, .own .int, .own .int, .own .int, .x, .own .int, .x, .own .op, .x, .bl])] [.b, .Q 0, .Q 1, .bC true, .L 2, .L 3, .L 4, .L 5, .i .i64, .L 6, .i .i64, .L 7, .i .i64, .b, .E, .bC true, .L 8, .L 9, .L 10, .L 11, .i .i64, .L 12, .i .i64, .L 13, .i .i64, .b, .E, .bL true .int, .bL true .int, .bL true .int, .bL true .int, .bL true .int, .bL true .op, .bL true .int, .bL true .int, .bL true .int, .bL true .int, .bL true .int, .bL true .op]
noncomputable def H112_1000007 := mkH [(1, .bl), (2, .pc [.own .int, .own .int, .own .int, .own .int, .x, .own .int, .x, .own .op, .x, .bl]), (4, .pc [.own .int, .own .int, .own .int, .own .int, .x, .own .int, .x, .own .op, .x, .bl]), (7, .pc [.x, .x, .x]), (8, .x), (9, .pc [.own .int, .own .int, .own .int, .own .int]), (10, .x)] [.b, .Q 0, .Q 1, .Q 2, .i .i64, .Q 3, .i .i64, .bC true, .L 4, .L 5, .L 6, .L 7, .i .i64, .L 8, .i .i64, .L 9, .i .i64, .b, .E, .bC true, .L 10, .L 11, .L 12, .L 13, .i .i64, .L 14, .i .i64, .L 15, .i .i64, .b, .E, .bC true, .i .i64, .i .i64, .i .i64, .E, .bC true, .L 16, .L 17, .L 18, .L 19, .E, .bL true .int, .bL true .int, .bL true .int, .bL true .int, .bL true .int, .bL true .op, .bL true .int, .bL true .int, .bL true .int, .bL true .int, .bL true .int, .bL true .op, .bL true .int, .bL true .int, .bL true .int, .bL true .int]
noncomputable def H112_1000015 := mkH [(2, .pc [.own .int, .own .int, .own .int, .own .int, .x, .own .int, .x, .own .op, .x, .bl]), (4, .pc [.own .int, .own .int, .own .int, .own .int, .x, .own .int, .x, .own .op, .x, .bl]), (10, .x)] [.Q 0, .Q 1, .i .i64, .bC true, .L 2, .L 3, .L 4, .L 5, .i .i64, .L 6, .i .i64, .L 7, .i .i64, .b, .E, .bC true, .L 8, .L 9, .L 10, .L 11, .i .i64, .L 12, .i .i64, .L 13, .i .i64, .b, .E, .bL true .int, .bL true .int, .bL true .int, .bL true .int, .bL true .int, .bL true .op, .bL true .int, .bL true .int, .bL true .int, .bL true .int, .bL true .int, .bL true .op]
noncomputable def H112 : List (Nat × LH) := [(1000004, H112_1000004), (1000007, H112_1000007), (1000015, H112_1000015)]
def W112 : List (Nat × List (Nat × List Nat)) := []
def Γ112 : List (Nat × Con) := [(45, Uc45), (47, Uc47), (167, Uc167), (168, Uc168), (169, Uc169), (170, Uc170)]
def S112_15 (s : H112_1000015.S) (K : TV → TMem → Prop) : Prop := Mi_step_c15 s.1 s.2.1 s.2.2.1 s.2.2.2.1 s.2.2.2.2.1 s.2.2.2.2.2.1 s.2.2.2.2.2.2.1 s.2.2.2.2.2.2.2.1 s.2.2.2.2.2.2.2.2.1 s.2.2.2.2.2.2.2.2.2.1 s.2.2.2.2.2.2.2.2.2.2.1 s.2.2.2.2.2.2.2.2.2.2.2.1 s.2.2.2.2.2.2.2.2.2.2.2.2.1 s.2.2.2.2.2.2.2.2.2.2.2.2.2.1 s.2.2.2.2.2.2.2.2.2.2.2.2.2.2.1 s.2.2.2.2.2.2.2.2.2.2.2.2.2.2.2.1 s.2.2.2.2.2.2.2.2.2.2.2.2.2.2.2.2.1 s.2.2.2.2.2.2.2.2.2.2.2.2.2.2.2.2.2.1 s.2.2.2.2.2.2.2.2.2.2.2.2.2.2.2.2.2.2.1 s.2.2.2.2.2.2.2.2.2.2.2.2.2.2.2.2.2.2.2.1 s.2.2.2.2.2.2.2.2.2.2.2.2.2.2.2.2.2.2.2.2 (fun r1 r2 r3 r4 r5 r6 r7 r8 r9 r10 r11 r12 => K (.tup [.agg [.sl 0, .sl 1, .sl 2, .sl 3, .int .i64 r1, .sl 4, .int .i64 r2, .sl 5, .int .i64 r3, .bool r4], .int .i64 r5, .bool r6]) [⟨true, .list .int r7⟩, ⟨true, .list .int r8⟩, ⟨true, .list .int r9⟩, ⟨true, .list .int r10⟩, ⟨true, .list .int r11⟩, ⟨true, .list .op r12⟩])
def J112_15 (K : TV → TMem → Prop) (ts : TFrm) (tm : TMem) : Prop := headT 0 H112_1000015 ts tm fun s => S112_15 s K
theorem q112_15 (s : H112_1000015.S) (K : TV → TMem → Prop) : segT PP 95 Γ112 H112 W112 0 (sufC 11 (bodyOf Tryz.f112)) (endT PP 95 [.cell 4 32, .tmp 5, .tmp 6] [.ag [.own .int, .own .int, .own .int, .own .int, .x, .own .int, .x, .own .op, .x, .bl], .x, .bl] [] 0 K) (frameOf H112_1000015.keep (H112_1000015.enc s).1) (H112_1000015.enc s).2 = S112_15 s K := by kernel_rfl
theorem j112_15 (K : TV → TMem → Prop) (ts : TFrm) (tm : TMem) : J112_15 K ts tm = TW PP 95 Γ112 H112 W112 0 (sufC 11 (bodyOf Tryz.f112)) (endT PP 95 [.cell 4 32, .tmp 5, .tmp 6] [.ag [.own .int, .own .int, .own .int, .own .int, .x, .own .int, .x, .own .op, .x, .bl], .x, .bl] [] 0 K) ts tm :=
  TW_seg (by kernel_rfl : regOf (sufC 11 (bodyOf Tryz.f112)) = some 15) (by kernel_rfl) (fun s => q112_15 s K) ts tm
def S112_7 (s : H112_1000007.S) (K : TV → TMem → Prop) : Prop := Mi_step_c7 s.1 s.2.1 s.2.2.1 s.2.2.2.1 s.2.2.2.2.1 s.2.2.2.2.2.1 s.2.2.2.2.2.2.1 s.2.2.2.2.2.2.2.1 s.2.2.2.2.2.2.2.2.1 s.2.2.2.2.2.2.2.2.2.1 s.2.2.2.2.2.2.2.2.2.2.1 s.2.2.2.2.2.2.2.2.2.2.2.1 s.2.2.2.2.2.2.2.2.2.2.2.2.1 s.2.2.2.2.2.2.2.2.2.2.2.2.2.1 s.2.2.2.2.2.2.2.2.2.2.2.2.2.2.1 s.2.2.2.2.2.2.2.2.2.2.2.2.2.2.2.1 s.2.2.2.2.2.2.2.2.2.2.2.2.2.2.2.2.1 s.2.2.2.2.2.2.2.2.2.2.2.2.2.2.2.2.2.1 s.2.2.2.2.2.2.2.2.2.2.2.2.2.2.2.2.2.2.1 s.2.2.2.2.2.2.2.2.2.2.2.2.2.2.2.2.2.2.2.1 s.2.2.2.2.2.2.2.2.2.2.2.2.2.2.2.2.2.2.2.2.1 s.2.2.2.2.2.2.2.2.2.2.2.2.2.2.2.2.2.2.2.2.2.1 s.2.2.2.2.2.2.2.2.2.2.2.2.2.2.2.2.2.2.2.2.2.2.1 s.2.2.2.2.2.2.2.2.2.2.2.2.2.2.2.2.2.2.2.2.2.2.2.1 s.2.2.2.2.2.2.2.2.2.2.2.2.2.2.2.2.2.2.2.2.2.2.2.2.1 s.2.2.2.2.2.2.2.2.2.2.2.2.2.2.2.2.2.2.2.2.2.2.2.2.2.1 s.2.2.2.2.2.2.2.2.2.2.2.2.2.2.2.2.2.2.2.2.2.2.2.2.2.2.1 s.2.2.2.2.2.2.2.2.2.2.2.2.2.2.2.2.2.2.2.2.2.2.2.2.2.2.2.1 s.2.2.2.2.2.2.2.2.2.2.2.2.2.2.2.2.2.2.2.2.2.2.2.2.2.2.2.2.1 s.2.2.2.2.2.2.2.2.2.2.2.2.2.2.2.2.2.2.2.2.2.2.2.2.2.2.2.2.2 (fun r1 r2 r3 r4 r5 r6 r7 r8 r9 r10 r11 r12 => K (.tup [.agg [.sl 0, .sl 1, .sl 2, .sl 3, .int .i64 r1, .sl 4, .int .i64 r2, .sl 5, .int .i64 r3, .bool r4], .int .i64 r5, .bool r6]) [⟨true, .list .int r7⟩, ⟨true, .list .int r8⟩, ⟨true, .list .int r9⟩, ⟨true, .list .int r10⟩, ⟨true, .list .int r11⟩, ⟨true, .list .op r12⟩])
def J112_7 (K : TV → TMem → Prop) (ts : TFrm) (tm : TMem) : Prop := headT 0 H112_1000007 ts tm fun s => S112_7 s K
theorem r112_7 (s : H112_1000007.S) (K : TV → TMem → Prop) : segN PP 95 Γ112 H112 W112 0 4 (sufC 6 (bodyOf Tryz.f112)) (J112_15 K) (endT PP 95 [.cell 4 32, .tmp 5, .tmp 6] [.ag [.own .int, .own .int, .own .int, .own .int, .x, .own .int, .x, .own .op, .x, .bl], .x, .bl] [] 0 K) (frameOf H112_1000007.keep (H112_1000007.enc s).1) (H112_1000007.enc s).2 = S112_7 s K := by kernel_rfl
theorem q112_7 (s : H112_1000007.S) (K : TV → TMem → Prop) : segT PP 95 Γ112 H112 W112 0 (sufC 6 (bodyOf Tryz.f112)) (endT PP 95 [.cell 4 32, .tmp 5, .tmp 6] [.ag [.own .int, .own .int, .own .int, .own .int, .x, .own .int, .x, .own .op, .x, .bl], .x, .bl] [] 0 K) (frameOf H112_1000007.keep (H112_1000007.enc s).1) (H112_1000007.enc s).2 = S112_7 s K :=
  (segN_eq (by kernel_rfl) fun ts tm => (j112_15 K ts tm).trans (congrArg (fun c => TW PP 95 Γ112 H112 W112 0 c (endT PP 95 [.cell 4 32, .tmp 5, .tmp 6] [.ag [.own .int, .own .int, .own .int, .own .int, .x, .own .int, .x, .own .op, .x, .bl], .x, .bl] [] 0 K) ts tm) (sufC_split 6 4 11 rfl _))).trans (r112_7 s K)
theorem j112_7 (K : TV → TMem → Prop) (ts : TFrm) (tm : TMem) : J112_7 K ts tm = TW PP 95 Γ112 H112 W112 0 (sufC 6 (bodyOf Tryz.f112)) (endT PP 95 [.cell 4 32, .tmp 5, .tmp 6] [.ag [.own .int, .own .int, .own .int, .own .int, .x, .own .int, .x, .own .op, .x, .bl], .x, .bl] [] 0 K) ts tm :=
  TW_seg (by kernel_rfl : regOf (sufC 6 (bodyOf Tryz.f112)) = some 7) (by kernel_rfl) (fun s => q112_7 s K) ts tm
def S112_4 (s : H112_1000004.S) (K : TV → TMem → Prop) : Prop := Mi_step_c4 s.1 s.2.1 s.2.2.1 s.2.2.2.1 s.2.2.2.2.1 s.2.2.2.2.2.1 s.2.2.2.2.2.2.1 s.2.2.2.2.2.2.2.1 s.2.2.2.2.2.2.2.2.1 s.2.2.2.2.2.2.2.2.2.1 s.2.2.2.2.2.2.2.2.2.2.1 s.2.2.2.2.2.2.2.2.2.2.2.1 s.2.2.2.2.2.2.2.2.2.2.2.2.1 s.2.2.2.2.2.2.2.2.2.2.2.2.2.1 s.2.2.2.2.2.2.2.2.2.2.2.2.2.2.1 s.2.2.2.2.2.2.2.2.2.2.2.2.2.2.2.1 s.2.2.2.2.2.2.2.2.2.2.2.2.2.2.2.2.1 s.2.2.2.2.2.2.2.2.2.2.2.2.2.2.2.2.2.1 s.2.2.2.2.2.2.2.2.2.2.2.2.2.2.2.2.2.2.1 s.2.2.2.2.2.2.2.2.2.2.2.2.2.2.2.2.2.2.2.1 s.2.2.2.2.2.2.2.2.2.2.2.2.2.2.2.2.2.2.2.2 (fun r1 r2 r3 r4 r5 r6 r7 r8 r9 r10 r11 r12 => K (.tup [.agg [.sl 0, .sl 1, .sl 2, .sl 3, .int .i64 r1, .sl 4, .int .i64 r2, .sl 5, .int .i64 r3, .bool r4], .int .i64 r5, .bool r6]) [⟨true, .list .int r7⟩, ⟨true, .list .int r8⟩, ⟨true, .list .int r9⟩, ⟨true, .list .int r10⟩, ⟨true, .list .int r11⟩, ⟨true, .list .op r12⟩])
def J112_4 (K : TV → TMem → Prop) (ts : TFrm) (tm : TMem) : Prop := headT 0 H112_1000004 ts tm fun s => S112_4 s K
theorem r112_4 (s : H112_1000004.S) (K : TV → TMem → Prop) : segN PP 95 Γ112 H112 W112 0 2 (sufC 3 (bodyOf Tryz.f112)) (J112_7 K) (endT PP 95 [.cell 4 32, .tmp 5, .tmp 6] [.ag [.own .int, .own .int, .own .int, .own .int, .x, .own .int, .x, .own .op, .x, .bl], .x, .bl] [] 0 K) (frameOf H112_1000004.keep (H112_1000004.enc s).1) (H112_1000004.enc s).2 = S112_4 s K := by kernel_rfl
theorem q112_4 (s : H112_1000004.S) (K : TV → TMem → Prop) : segT PP 95 Γ112 H112 W112 0 (sufC 3 (bodyOf Tryz.f112)) (endT PP 95 [.cell 4 32, .tmp 5, .tmp 6] [.ag [.own .int, .own .int, .own .int, .own .int, .x, .own .int, .x, .own .op, .x, .bl], .x, .bl] [] 0 K) (frameOf H112_1000004.keep (H112_1000004.enc s).1) (H112_1000004.enc s).2 = S112_4 s K :=
  (segN_eq (by kernel_rfl) fun ts tm => (j112_7 K ts tm).trans (congrArg (fun c => TW PP 95 Γ112 H112 W112 0 c (endT PP 95 [.cell 4 32, .tmp 5, .tmp 6] [.ag [.own .int, .own .int, .own .int, .own .int, .x, .own .int, .x, .own .op, .x, .bl], .x, .bl] [] 0 K) ts tm) (sufC_split 3 2 6 rfl _))).trans (r112_4 s K)
theorem j112_4 (K : TV → TMem → Prop) (ts : TFrm) (tm : TMem) : J112_4 K ts tm = TW PP 95 Γ112 H112 W112 0 (sufC 3 (bodyOf Tryz.f112)) (endT PP 95 [.cell 4 32, .tmp 5, .tmp 6] [.ag [.own .int, .own .int, .own .int, .own .int, .x, .own .int, .x, .own .op, .x, .bl], .x, .bl] [] 0 K) ts tm :=
  TW_seg (by kernel_rfl : regOf (sufC 3 (bodyOf Tryz.f112)) = some 4) (by kernel_rfl) (fun s => q112_4 s K) ts tm
theorem ea112 : AllL (lvs K112) fun x => ∀ K, TWn PP 95 Γ112 H112 W112 0 3 (bodyOf Tryz.f112) (J112_4 K) (endT PP 95 [.cell 4 32, .tmp 5, .tmp 6] [.ag [.own .int, .own .int, .own .int, .own .int, .x, .own .int, .x, .own .op, .x, .bl], .x, .bl] [] 0 K) (argsF (wr K112 x).1) (wr K112 x).2.2 = B112 x K := fun _ _ _ _ _ _ _ _ _ _ _ K => by kernel_rfl
theorem e112 : Eqn PP 95 Γ112 H112 W112 (bodyOf Tryz.f112) [.cell 4 32, .tmp 5, .tmp 6] [.ag [.own .int, .own .int, .own .int, .own .int, .x, .own .int, .x, .own .op, .x, .bl], .x, .bl] [] K112 B112 := fun x0 x1 x2 x3 x4 x5 x6 x7 x8 x9 x10 K =>
  (congrFun (congrFun (TWn_eq 3 _ (by kernel_rfl) fun ts tm => j112_4 K ts tm) _) _).trans (ea112 x0 x1 x2 x3 x4 x5 x6 x7 x8 x9 x10 K)
theorem s112 : CSound PP 112 G112 := fun_sk mixed Tryz.func112 (by decide) (by kernel_rfl) Tryz.ntmps112 Tryz.results112 (.cons u45 (.cons u47 (.cons u167 (.cons u168 (.cons u169 (.cons u170 (GSound.nil))))))) e112
def Uc112 := useC [.ag [.pure .int, .pure .int, .pure .int, .pure .int, .x, .pure .int, .x, .pure .op, .x, .bl], .bl] G112
theorem u112 : CSound PP 112 Uc112 := useC_ok s112
/-! impl.StepOp -/
def K48 : List Tok := [.A, .p .int, .p .int, .p .int, .p .int, .i .i64, .p .int, .i .i64, .p .op, .i .i64, .b, .E, .b]
def B48 : Body K48 := fun x K => Mi_StepOp x.1 x.2.1 x.2.2.1 x.2.2.2.1 x.2.2.2.2.1 x.2.2.2.2.2.1 x.2.2.2.2.2.2.1 x.2.2.2.2.2.2.2.1 x.2.2.2.2.2.2.2.2.1 x.2.2.2.2.2.2.2.2.2.1 x.2.2.2.2.2.2.2.2.2.2.1 (fun r1 r2 r3 r4 r5 r6 r7 r8 r9 r10 r11 => K (.tup [.agg [.sl 0, .sl 1, .sl 2, .sl 3, .int .i64 r1, .sl 4, .int .i64 r2, .sl 5, .int .i64 r3, .bool r4], .bool r5]) [⟨true, .list .int r6⟩, ⟨true, .list .int r7⟩, ⟨true, .list .int r8⟩, ⟨true, .list .int r9⟩, ⟨true, .list .int r10⟩, ⟨true, .list .op r11⟩])
def G48 := rdG K48 B48
def H48 : List (Nat × LH) := []
def W48 : List (Nat × List (Nat × List Nat)) := []
def Γ48 : List (Nat × Con) := [(112, Uc112)]
theorem e48 : Eqn PP 18 Γ48 H48 W48 (bodyOf Tryz.f48) [.cell 4 32, .tmp 5] [.ag [.own .int, .own .int, .own .int, .own .int, .x, .own .int, .x, .own .op, .x, .bl], .bl] [] K48 B48 := fun _ _ _ _ _ _ _ _ _ _ _ K => by kernel_rfl
theorem s48 : CSound PP 48 G48 := fun_sk mixed Tryz.func48 (by decide) (by kernel_rfl) Tryz.ntmps48 Tryz.results48 (.cons u112 (GSound.nil)) e48
def Uc48 := useC [.ag [.pure .int, .pure .int, .pure .int, .pure .int, .x, .pure .int, .x, .pure .op, .x, .bl], .bl] G48
theorem u48 : CSound PP 48 Uc48 := useC_ok s48
/-! impl.SweptCell -/
def K113 : List Tok := [.A, .p .int, .p .int, .p .int, .p .int, .E, .A, .i .i64, .p .int, .i .i64, .E]
def B113 : Body K113 := fun x K => Mi_SweptCell x.1 x.2.1 x.2.2.1 x.2.2.2.1 x.2.2.2.2.1 x.2.2.2.2.2.1 x.2.2.2.2.2.2.1 (fun r1 => K (.int .i64 r1) [])
def G113 := rdG K113 B113
def H113 : List (Nat × LH) := []
def W113 : List (Nat × List (Nat × List Nat)) := []
def Γ113 : List (Nat × Con) := [(103, Uc103), (96, Uc96)]
theorem e113 : Eqn PP 32 Γ113 H113 W113 (bodyOf Tryz.f113) [.tmp 4] [.x] [] K113 B113 := fun _ _ _ _ _ _ _ K => by kernel_rfl
theorem s113 : CSound PP 113 G113 := fun_sk mixed Tryz.func113 (by decide) (by kernel_rfl) Tryz.ntmps113 Tryz.results113 (.cons u103 (.cons u96 (GSound.nil))) e113
def Uc113 := useC [.ag [.pure .int, .pure .int, .pure .int, .pure .int], .ag [.x, .pure .int, .x]] G113
theorem u113 : CSound PP 113 Uc113 := useC_ok s113
/-! impl.look -/
def K173 : List Tok := [.A, .p .int, .p .int, .p .int, .E, .L 0, .bL true .int]
def B173 : Body K173 := fun x K => Mi_look x.1 x.2.1 x.2.2.1 x.2.2.2.1 (fun r1 r2 => K (.bool r1) [⟨true, .list .int r2⟩])
def G173 := rdG K173 B173
def H173 : List (Nat × LH) := []
def W173 : List (Nat × List (Nat × List Nat)) := []
def Γ173 : List (Nat × Con) := [(154, Uc154), (172, Uc172)]
theorem e173 : Eqn PP 27 Γ173 H173 W173 (bodyOf Tryz.f173) [.tmp 4] [.bl] [] K173 B173 := fun _ _ _ _ K => by kernel_rfl
theorem s173 : CSound PP 173 G173 := fun_sk mixed Tryz.func173 (by decide) (by kernel_rfl) Tryz.ntmps173 Tryz.results173 (.cons u154 (.cons u172 (GSound.nil))) e173
def Uc173 := useC [.ag [.pure .int, .pure .int, .pure .int], .own .int] G173
theorem u173 : CSound PP 173 Uc173 := useC_ok s173
/-! impl.StepGc$1 -/
def K175 : List Tok := [.i .i64, .Q 0, .bC false, .i .i64, .L 1, .i .i64, .E, .bL false .int]
def B175 : Body K175 := fun x K => Mi_StepGc_1 x.1 x.2.1 x.2.2.1 x.2.2.2.1 (fun r1 => K (.bool r1) [⟨false, .cells [.int .i64 x.2.1, .sl 1, .int .i64 x.2.2.1]⟩, ⟨false, .list .int x.2.2.2.1⟩])
def G175 := rdG K175 B175
def H175 : List (Nat × LH) := []
def W175 : List (Nat × List (Nat × List Nat)) := []
def Γ175 : List (Nat × Con) := []
theorem e175 : Eqn PP 14 Γ175 H175 W175 (bodyOf Tryz.f175) [.tmp 3] [.bl] [] K175 B175 := fun _ _ _ _ K => by kernel_rfl
theorem s175 : CSound PP 175 G175 := fun_sk mixed Tryz.func175 (by decide) (by kernel_rfl) Tryz.ntmps175 Tryz.results175 (GSound.nil) e175
def Uc175 := useC [.x, .pc [.x, .own .int, .x]] (onlyC [] G175)
theorem u175 : CSound PP 175 Uc175 := useC_ok (onlyC_ok s175)
/-! slices.IndexFunc[[]int,int] -/
def K174 : List Tok := [.p .int, .F 175, .N, .Q 0, .E, .bC false, .i .i64, .L 1, .i .i64, .E, .bL false .int]
def B174 : Body K174 := fun x K => M_IndexFunc_int x.1 x.2.1 x.2.2.1 x.2.2.2.1 (fun r1 r2 r3 r4 => K (.int .i64 r1) [⟨false, .cells [.int .i64 r2, .sl 1, .int .i64 r3]⟩, ⟨false, .list .int r4⟩])
def G174 := rdG K174 B174
noncomputable def H174_0 := mkH [(0, .pure .int), (1, .x), (7, .x), (8, .x)] [.p .int, .F 175, .N, .Q 0, .E, .i .i64, .i .i64, .bC false, .i .i64, .L 1, .i .i64, .E, .bL false .int]
noncomputable def H174 : List (Nat × LH) := [(0, H174_0)]
def W174 : List (Nat × List (Nat × List Nat)) := []
def Γ174 : List (Nat × Con) := [(175, Uc175)]
theorem e174 : Eqn PP 19 Γ174 H174 W174 (bodyOf Tryz.f174) [.tmp 4] [.x] [] K174 B174 := fun _ _ _ _ K => by kernel_rfl
theorem s174 : CSound PP 174 G174 := fun_sk mixed Tryz.func174 (by decide) (by kernel_rfl) Tryz.ntmps174 Tryz.results174 (.cons u175 (GSound.nil)) e174
def Uc174 := useC [.pure .int, .x] (onlyC [] G174)
theorem u174 : CSound PP 174 Uc174 := useC_ok (onlyC_ok s174)
/-! impl.StepGc -/
def K115 : List Tok := [.A, .p .int, .p .int, .p .int, .p .int, .E, .A, .i .i64, .p .int, .i .i64, .E]
def B115 : Body K115 := fun x K => Mi_StepGc x.1 x.2.1 x.2.2.1 x.2.2.2.1 x.2.2.2.2.1 x.2.2.2.2.2.1 x.2.2.2.2.2.2.1 (fun r1 r2 r3 r4 r5 r6 r7 r8 => K (.tup [.agg [.sl 0, .sl 1, .sl 2, .sl 3], .agg [.int .i64 r1, .sl 4, .int .i64 r2], .bool r3]) [⟨true, .list .int r4⟩, ⟨true, .list .int r5⟩, ⟨true, .list .int r6⟩, ⟨true, .list .int r7⟩, ⟨true, .list .int r8⟩])
def G115 := rdG K115 B115
noncomputable def H115_1000004 := mkH [(2, .pc [.pure .int, .pure .int, .pure .int, .pure .int]), (3, .pc [.x, .pure .int, .x]), (4, .pc [.own .int, .own .int, .own .int, .own .int]), (5, .pc [.x, .own .int, .x]), (7, .x)] [.Q 0, .Q 1, .Q 2, .Q 3, .i .i64, .bC true, .p .int, .p .int, .p .int, .p .int, .E, .bC true, .i .i64, .p .int, .i .i64, .E, .bC true, .L 4, .L 5, .L 6, .L 7, .E, .bC true, .i .i64, .L 8, .i .i64, .E, .bL true .int, .bL true .int, .bL true .int, .bL true .int, .bL true .int]
noncomputable def H115_1000027 := mkH [(2, .pc [.own .int, .own .int, .own .int, .own .int]), (3, .pc [.x, .own .int, .x]), (4, .pc [.own .int, .own .int, .own .int, .own .int]), (5, .pc [.x, .own .int, .x])] [.Q 0, .Q 1, .Q 2, .Q 3, .bC true, .L 4, .L 5, .L 6, .L 7, .E, .bC true, .i .i64, .L 8, .i .i64, .E, .bC true, .L 9, .L 10, .L 11, .L 12, .E, .bC true, .i .i64, .L 13, .i .i64, .E, .bL true .int, .bL true .int, .bL true .int, .bL true .int, .bL true .int, .bL true .int, .bL true .int, .bL true .int, .bL true .int, .bL true .int]
noncomputable def H115 : List (Nat × LH) := [(1000004, H115_1000004), (1000027, H115_1000027)]
def W115 : List (Nat × List (Nat × List Nat)) := [(27, [(2, [2])])]
def Γ115 : List (Nat × Con) := [(113, Uc113), (103, Uc103), (96, Uc96), (82, Uc82), (111, Uc111), (172, Uc172), (173, Uc173), (174, Uc174), (83, Uc83)]
def S115_27 (s : H115_1000027.S) (K : TV → TMem → Prop) : Prop := Mi_StepGc_c27 s.1 s.2.1 s.2.2.1 s.2.2.2.1 s.2.2.2.2.1 s.2.2.2.2.2.1 s.2.2.2.2.2.2.1 s.2.2.2.2.2.2.2.1 s.2.2.2.2.2.2.2.2.1 s.2.2.2.2.2.2.2.2.2.1 s.2.2.2.2.2.2.2.2.2.2.1 s.2.2.2.2.2.2.2.2.2.2.2.1 s.2.2.2.2.2.2.2.2.2.2.2.2.1 s.2.2.2.2.2.2.2.2.2.2.2.2.2 (fun r1 r2 r3 r4 r5 r6 r7 r8 => K (.tup [.agg [.sl 0, .sl 1, .sl 2, .sl 3], .agg [.int .i64 r1, .sl 4, .int .i64 r2], .bool r3]) [⟨true, .list .int r4⟩, ⟨true, .list .int r5⟩, ⟨true, .list .int r6⟩, ⟨true, .list .int r7⟩, ⟨true, .list .int r8⟩])
def J115_27 (K : TV → TMem → Prop) (ts : TFrm) (tm : TMem) : Prop := headT 0 H115_1000027 ts tm fun s => S115_27 s K
theorem q115_27 (s : H115_1000027.S) (K : TV → TMem → Prop) : segT PP 119 Γ115 H115 W115 0 (sufC 6 (bodyOf Tryz.f115)) (endT PP 119 [.cell 4 27, .cell 5 29, .tmp 6] [.ag [.own .int, .own .int, .own .int, .own .int], .ag [.x, .own .int, .x], .bl] [] 0 K) (frameOf H115_1000027.keep (H115_1000027.enc s).1) (H115_1000027.enc s).2 = S115_27 s K := by kernel_rfl
theorem j115_27 (K : TV → TMem → Prop) (ts : TFrm) (tm : TMem) : J115_27 K ts tm = TW PP 119 Γ115 H115 W115 0 (sufC 6 (bodyOf Tryz.f115)) (endT PP 119 [.cell 4 27, .cell 5 29, .tmp 6] [.ag [.own .int, .own .int, .own .int, .own .int], .ag [.x, .own .int, .x], .bl] [] 0 K) ts tm :=
  TW_seg (by kernel_rfl : regOf (sufC 6 (bodyOf Tryz.f115)) = some 27) (by kernel_rfl) (fun s => q115_27 s K) ts tm
def S115_4 (s : H115_1000004.S) (K : TV → TMem → Prop) : Prop := Mi_StepGc_c4 s.1 s.2.1 s.2.2.1 s.2.2.2.1 s.2.2.2.2.1 s.2.2.2.2.2.1 s.2.2.2.2.2.2.1 s.2.2.2.2.2.2.2.1 s.2.2.2.2.2.2.2.2.1 s.2.2.2.2.2.2.2.2.2.1 s.2.2.2.2.2.2.2.2.2.2.1 s.2.2.2.2.2.2.2.2.2.2.2.1 s.2.2.2.2.2.2.2.2.2.2.2.2.1 s.2.2.2.2.2.2.2.2.2.2.2.2.2.1 s.2.2.2.2.2.2.2.2.2.2.2.2.2.2 (fun r1 r2 r3 r4 r5 r6 r7 r8 => K (.tup [.agg [.sl 0, .sl 1, .sl 2, .sl 3], .agg [.int .i64 r1, .sl 4, .int .i64 r2], .bool r3]) [⟨true, .list .int r4⟩, ⟨true, .list .int r5⟩, ⟨true, .list .int r6⟩, ⟨true, .list .int r7⟩, ⟨true, .list .int r8⟩])
def J115_4 (K : TV → TMem → Prop) (ts : TFrm) (tm : TMem) : Prop := headT 0 H115_1000004 ts tm fun s => S115_4 s K
theorem r115_4 (s : H115_1000004.S) (K : TV → TMem → Prop) : segN PP 119 Γ115 H115 W115 0 2 (sufC 3 (bodyOf Tryz.f115)) (J115_27 K) (endT PP 119 [.cell 4 27, .cell 5 29, .tmp 6] [.ag [.own .int, .own .int, .own .int, .own .int], .ag [.x, .own .int, .x], .bl] [] 0 K) (frameOf H115_1000004.keep (H115_1000004.enc s).1) (H115_1000004.enc s).2 = S115_4 s K := by kernel_rfl
theorem q115_4 (s : H115_1000004.S) (K : TV → TMem → Prop) : segT PP 119 Γ115 H115 W115 0 (sufC 3 (bodyOf Tryz.f115)) (endT PP 119 [.cell 4 27, .cell 5 29, .tmp 6] [.ag [.own .int, .own .int, .own .int, .own .int], .ag [.x, .own .int, .x], .bl] [] 0 K) (frameOf H115_1000004.keep (H115_1000004.enc s).1) (H115_1000004.enc s).2 = S115_4 s K :=
  (segN_eq (by kernel_rfl) fun ts tm => (j115_27 K ts tm).trans (congrArg (fun c => TW PP 119 Γ115 H115 W115 0 c (endT PP 119 [.cell 4 27, .cell 5 29, .tmp 6] [.ag [.own .int, .own .int, .own .int, .own .int], .ag [.x, .own .int, .x], .bl] [] 0 K) ts tm) (sufC_split 3 2 6 rfl _))).trans (r115_4 s K)
theorem j115_4 (K : TV → TMem → Prop) (ts : TFrm) (tm : TMem) : J115_4 K ts tm = TW PP 119 Γ115 H115 W115 0 (sufC 3 (bodyOf Tryz.f115)) (endT PP 119 [.cell 4 27, .cell 5 29, .tmp 6] [.ag [.own .int, .own .int, .own .int, .own .int], .ag [.x, .own .int, .x], .bl] [] 0 K) ts tm :=
  TW_seg (by kernel_rfl : regOf (sufC 3 (bodyOf Tryz.f115)) = some 4) (by kernel_rfl) (fun s => q115_4 s K) ts tm
theorem ea115 : AllL (lvs K115) fun x => ∀ K, TWn PP 119 Γ115 H115 W115 0 3 (bodyOf Tryz.f115) (J115_4 K) (endT PP 119 [.cell 4 27, .cell 5 29, .tmp 6] [.ag [.own .int, .own .int, .own .int, .own .int], .ag [.x, .own .int, .x], .bl] [] 0 K) (argsF (wr K115 x).1) (wr K115 x).2.2 = B115 x K := fun _ _ _ _ _ _ _ K => by kernel_rfl
theorem e115 : Eqn PP 119 Γ115 H115 W115 (bodyOf Tryz.f115) [.cell 4 27, .cell 5 29, .tmp 6] [.ag [.own .int, .own .int, .own .int, .own .int], .ag [.x, .own .int, .x], .bl] [] K115 B115 := fun x0 x1 x2 x3 x4 x5 x6 K =>
  (congrFun (congrFun (TWn_eq 3 _ (by kernel_rfl) fun ts tm => j115_4 K ts tm) _) _).trans (ea115 x0 x1 x2 x3 x4 x5 x6 K)
theorem s115 : CSound PP 115 G115 := fun_sk mixed Tryz.func115 (by decide) (by kernel_rfl) Tryz.ntmps115 Tryz.results115 (.cons u113 (.cons u103 (.cons u96 (.cons u82 (.cons u111 (.cons u172 (.cons u173 (.cons u174 (.cons u83 (GSound.nil)))))))))) e115
def Uc115 := useC [.ag [.pure .int, .pure .int, .pure .int, .pure .int], .ag [.x, .pure .int, .x]] G115
theorem u115 : CSound PP 115 Uc115 := useC_ok s115
/-! impl.StepBoth -/
def K49 : List Tok := [.A, .p .int, .p .int, .p .int, .p .int, .i .i64, .p .int, .i .i64, .p .op, .i .i64, .b, .E]
def B49 : Body K49 := fun x K => Mi_StepBoth x.1 x.2.1 x.2.2.1 x.2.2.2.1 x.2.2.2.2.1 x.2.2.2.2.2.1 x.2.2.2.2.2.2.1 x.2.2.2.2.2.2.2.1 x.2.2.2.2.2.2.2.2.1 x.2.2.2.2.2.2.2.2.2.1 (fun r1 r2 r3 r4 r5 r6 r7 r8 r9 r10 r11 => K (.tup [.agg [.sl 0, .sl 1, .sl 2, .sl 3, .int .i64 r1, .sl 4, .int .i64 r2, .sl 5, .int .i64 r3, .bool r4], .bool r5]) [⟨true, .list .int r6⟩, ⟨true, .list .int r7⟩, ⟨true, .list .int r8⟩, ⟨true, .list .int r9⟩, ⟨true, .list .int r10⟩, ⟨true, .list .op r11⟩])
def G49 := rdG K49 B49
def H49 : List (Nat × LH) := []
def W49 : List (Nat × List (Nat × List Nat)) := []
def Γ49 : List (Nat × Con) := [(45, Uc45), (47, Uc47), (113, Uc113), (114, Uc114), (115, Uc115)]
theorem e49 : Eqn PP 45 Γ49 H49 W49 (bodyOf Tryz.f49) [.cell 2 32, .tmp 3] [.ag [.own .int, .own .int, .own .int, .own .int, .x, .own .int, .x, .own .op, .x, .bl], .bl] [] K49 B49 := fun _ _ _ _ _ _ _ _ _ _ K => by kernel_rfl
theorem s49 : CSound PP 49 G49 := fun_sk mixed Tryz.func49 (by decide) (by kernel_rfl) Tryz.ntmps49 Tryz.results49 (.cons u45 (.cons u47 (.cons u113 (.cons u114 (.cons u115 (GSound.nil)))))) e49
def Uc49 := useC [.ag [.pure .int, .pure .int, .pure .int, .pure .int, .x, .pure .int, .x, .pure .op, .x, .bl]] G49
theorem u49 : CSound PP 49 Uc49 := useC_ok s49
/-! impl.RunBoth -/
def K13 : List Tok := [.A, .p .int, .p .int, .p .int, .p .int, .i .i64, .p .int, .i .i64, .p .op, .i .i64, .b, .E, .s, .b]
def B13 : Body K13 := fun x K => Mi_RunBoth x.1 x.2.1 x.2.2.1 x.2.2.2.1 x.2.2.2.2.1 x.2.2.2.2.2.1 x.2.2.2.2.2.2.1 x.2.2.2.2.2.2.2.1 x.2.2.2.2.2.2.2.2.1 x.2.2.2.2.2.2.2.2.2.1 x.2.2.2.2.2.2.2.2.2.2.1 x.2.2.2.2.2.2.2.2.2.2.2.1 (fun r1 r2 r3 r4 r5 r6 r7 r8 r9 r10 r11 => K (.tup [.agg [.sl 0, .sl 1, .sl 2, .sl 3, .int .i64 r1, .sl 4, .int .i64 r2, .sl 5, .int .i64 r3, .bool r4], .bool r5]) [⟨true, .list .int r6⟩, ⟨true, .list .int r7⟩, ⟨true, .list .int r8⟩, ⟨true, .list .int r9⟩, ⟨true, .list .int r10⟩, ⟨true, .list .op r11⟩])
def G13 := rdG K13 B13
noncomputable def H13_0 := mkH [(1, .x), (2, .bl), (3, .pc [.own .int, .own .int, .own .int, .own .int, .x, .own .int, .x, .own .op, .x, .bl]), (6, .pc [.own .int, .own .int, .own .int, .own .int, .x, .own .int, .x, .own .op, .x, .bl]), (28, .x), (29, .x)] [.s, .b, .Q 0, .Q 1, .i .i64, .i .i64, .bC true, .L 2, .L 3, .L 4, .L 5, .i .i64, .L 6, .i .i64, .L 7, .i .i64, .b, .E, .bC true, .L 8, .L 9, .L 10, .L 11, .i .i64, .L 12, .i .i64, .L 13, .i .i64, .b, .E, .bL true .int, .bL true .int, .bL true .int, .bL true .int, .bL true .int, .bL true .op, .bL true .int, .bL true .int, .bL true .int, .bL true .int, .bL true .int, .bL true .op]
noncomputable def H13 : List (Nat × LH) := [(0, H13_0)]
def W13 : List (Nat × List (Nat × List Nat)) := []
def Γ13 : List (Nat × Con) := [(45, Uc45), (46, Uc46), (47, Uc47), (48, Uc48), (49, Uc49)]
theorem e13 : Eqn PP 52 Γ13 H13 W13 (bodyOf Tryz.f13) [.cell 6 32, .tmp 7] [.ag [.own .int, .own .int, .own .int, .own .int, .x, .own .int, .x, .own .op, .x, .bl], .bl] [] K13 B13 := fun _ _ _ _ _ _ _ _ _ _ _ _ K => by kernel_rfl
theorem s13 : CSound PP 13 G13 := fun_sk mixed Tryz.func13 (by decide) (by kernel_rfl) Tryz.ntmps13 Tryz.results13 (.cons u45 (.cons u46 (.cons u47 (.cons u48 (.cons u49 (GSound.nil)))))) e13
def Uc13 := useC [.ag [.pure .int, .pure .int, .pure .int, .pure .int, .x, .pure .int, .x, .pure .op, .x, .bl], .x, .bl] G13
theorem u13 : CSound PP 13 Uc13 := useC_ok s13
/-! spec.l4At -/
def K201 : List Tok := [.p .int, .i .i64]
def B201 : Body K201 := fun x K => Ms_l4At x.1 x.2.1 (fun r1 => K (.int .i64 r1) [])
def G201 := rdG K201 B201
noncomputable def H201_0 := mkH [(0, .pure .int), (1, .x), (5, .x)] [.p .int, .i .i64, .i .i64]
noncomputable def H201 : List (Nat × LH) := [(0, H201_0)]
def W201 : List (Nat × List (Nat × List Nat)) := []
def Γ201 : List (Nat × Con) := []
theorem e201 : Eqn PP 19 Γ201 H201 W201 (bodyOf Tryz.f201) [.tmp 4] [.x] [] K201 B201 := fun _ _ K => by kernel_rfl
theorem s201 : CSound PP 201 G201 := fun_sk mixed Tryz.func201 (by decide) (by kernel_rfl) Tryz.ntmps201 Tryz.results201 (GSound.nil) e201
def Uc201 := useC [.pure .int, .x] G201
theorem u201 : CSound PP 201 Uc201 := useC_ok s201
/-! spec.l4Free -/
def K233 : List Tok := [.A, .p .int, .p .int, .p .int, .E, .i .i64]
def B233 : Body K233 := fun x K => Ms_l4Free x.1 x.2.1 x.2.2.1 x.2.2.2.1 (fun r1 => K (.bool r1) [])
def G233 := rdG K233 B233
def H233 : List (Nat × LH) := []
def W233 : List (Nat × List (Nat × List Nat)) := []
def Γ233 : List (Nat × Con) := [(201, Uc201)]
theorem e233 : Eqn PP 51 Γ233 H233 W233 (bodyOf Tryz.f233) [.tmp 4] [.bl] [] K233 B233 := fun _ _ _ _ K => by kernel_rfl
theorem s233 : CSound PP 233 G233 := fun_sk mixed Tryz.func233 (by decide) (by kernel_rfl) Tryz.ntmps233 Tryz.results233 (.cons u201 (GSound.nil)) e233
def Uc233 := useC [.ag [.pure .int, .pure .int, .pure .int], .x] G233
theorem u233 : CSound PP 233 Uc233 := useC_ok s233
/-! spec.StoreValid -/
def K197 : List Tok := [.A, .p .int, .p .int, .p .int, .p .int, .E]
def B197 : Body K197 := fun x K => Ms_StoreValid x.1 x.2.1 x.2.2.1 x.2.2.2.1 (fun r1 => K (.bool r1) [])
def G197 := rdG K197 B197
noncomputable def H197_0 := mkH [(1, .pc [.pure .int, .pure .int, .pure .int, .pure .int]), (3, .x)] [.Q 0, .i .i64, .bC true, .p .int, .p .int, .p .int, .p .int, .E]
noncomputable def H197 : List (Nat × LH) := [(0, H197_0)]
def W197 : List (Nat × List (Nat × List Nat)) := []
def Γ197 : List (Nat × Con) := [(76, Uc76), (233, Uc233), (201, Uc201)]
theorem e197 : Eqn PP 47 Γ197 H197 W197 (bodyOf Tryz.f197) [.tmp 2] [.bl] [] K197 B197 := fun _ _ _ _ K => by kernel_rfl
theorem s197 : CSound PP 197 G197 := fun_sk mixed Tryz.func197 (by decide) (by kernel_rfl) Tryz.ntmps197 Tryz.results197 (.cons u76 (.cons u233 (.cons u201 (GSound.nil)))) e197
def Uc197 := useC [.ag [.pure .int, .pure .int, .pure .int, .pure .int]] G197
theorem u197 : CSound PP 197 Uc197 := useC_ok s197
/-! spec.ColoredValid -/
def K198 : List Tok := [.A, .p .int, .p .int, .p .int, .p .int, .E]
def B198 : Body K198 := fun x K => Ms_ColoredValid x.1 x.2.1 x.2.2.1 x.2.2.2.1 (fun r1 => K (.bool r1) [])
def G198 := rdG K198 B198
noncomputable def H198_0 := mkH [(1, .pc [.pure .int, .pure .int, .pure .int, .pure .int]), (3, .x)] [.Q 0, .i .i64, .bC true, .p .int, .p .int, .p .int, .p .int, .E]
noncomputable def H198 : List (Nat × LH) := [(0, H198_0)]
def W198 : List (Nat × List (Nat × List Nat)) := []
def Γ198 : List (Nat × Con) := [(76, Uc76)]
theorem e198 : Eqn PP 39 Γ198 H198 W198 (bodyOf Tryz.f198) [.tmp 2] [.bl] [] K198 B198 := fun _ _ _ _ K => by kernel_rfl
theorem s198 : CSound PP 198 G198 := fun_sk mixed Tryz.func198 (by decide) (by kernel_rfl) Tryz.ntmps198 Tryz.results198 (.cons u76 (GSound.nil)) e198
def Uc198 := useC [.ag [.pure .int, .pure .int, .pure .int, .pure .int]] G198
theorem u198 : CSound PP 198 Uc198 := useC_ok s198
/-! spec.GcValid -/
def K139 : List Tok := [.A, .p .int, .p .int, .p .int, .p .int, .E, .A, .i .i64, .p .int, .i .i64, .E]
def B139 : Body K139 := fun x K => Ms_GcValid x.1 x.2.1 x.2.2.1 x.2.2.2.1 x.2.2.2.2.1 x.2.2.2.2.2.1 x.2.2.2.2.2.2.1 (fun r1 => K (.bool r1) [])
def G139 := rdG K139 B139
def H139 : List (Nat × LH) := []
def W139 : List (Nat × List (Nat × List Nat)) := []
def Γ139 : List (Nat × Con) := [(197, Uc197), (198, Uc198)]
theorem e139 : Eqn PP 48 Γ139 H139 W139 (bodyOf Tryz.f139) [.tmp 4] [.bl] [] K139 B139 := fun _ _ _ _ _ _ _ K => by kernel_rfl
theorem s139 : CSound PP 139 G139 := fun_sk mixed Tryz.func139 (by decide) (by kernel_rfl) Tryz.ntmps139 Tryz.results139 (.cons u197 (.cons u198 (GSound.nil))) e139
def Uc139 := useC [.ag [.pure .int, .pure .int, .pure .int, .pure .int], .ag [.x, .pure .int, .x]] G139
theorem u139 : CSound PP 139 Uc139 := useC_ok s139
/-! spec.l7Ops -/
def K140 : List Tok := [.p .op, .i .i64]
def B140 : Body K140 := fun x K => Ms_l7Ops x.1 x.2.1 (fun r1 => K (.bool r1) [])
def G140 := rdG K140 B140
noncomputable def H140_0 := mkH [(0, .pure .op), (1, .x), (5, .x)] [.p .op, .i .i64, .i .i64]
noncomputable def H140 : List (Nat × LH) := [(0, H140_0)]
def W140 : List (Nat × List (Nat × List Nat)) := []
def Γ140 : List (Nat × Con) := [(191, Uc191)]
theorem e140 : Eqn PP 26 Γ140 H140 W140 (bodyOf Tryz.f140) [.tmp 4] [.bl] [] K140 B140 := fun _ _ K => by kernel_rfl
theorem s140 : CSound PP 140 G140 := fun_sk mixed Tryz.func140 (by decide) (by kernel_rfl) Tryz.ntmps140 Tryz.results140 (.cons u191 (GSound.nil)) e140
def Uc140 := useC [.pure .op, .x] G140
theorem u140 : CSound PP 140 Uc140 := useC_ok s140
/-! spec.BothValid -/
def K86 : List Tok := [.A, .p .int, .p .int, .p .int, .p .int, .i .i64, .p .int, .i .i64, .p .op, .i .i64, .b, .E]
def B86 : Body K86 := fun x K => Ms_BothValid x.1 x.2.1 x.2.2.1 x.2.2.2.1 x.2.2.2.2.1 x.2.2.2.2.2.1 x.2.2.2.2.2.2.1 x.2.2.2.2.2.2.2.1 x.2.2.2.2.2.2.2.2.1 x.2.2.2.2.2.2.2.2.2.1 (fun r1 => K (.bool r1) [])
def G86 := rdG K86 B86
def H86 : List (Nat × LH) := []
def W86 : List (Nat × List (Nat × List Nat)) := []
def Γ86 : List (Nat × Con) := [(139, Uc139), (140, Uc140)]
theorem e86 : Eqn PP 31 Γ86 H86 W86 (bodyOf Tryz.f86) [.tmp 2] [.bl] [] K86 B86 := fun _ _ _ _ _ _ _ _ _ _ K => by kernel_rfl
theorem s86 : CSound PP 86 G86 := fun_sk mixed Tryz.func86 (by decide) (by kernel_rfl) Tryz.ntmps86 Tryz.results86 (.cons u139 (.cons u140 (GSound.nil))) e86
def Uc86 := useC [.ag [.pure .int, .pure .int, .pure .int, .pure .int, .x, .pure .int, .x, .pure .op, .x, .bl]] G86
theorem u86 : CSound PP 86 Uc86 := useC_ok s86
/-! spec.l1Copy -/
def K199 : List Tok := [.A, .p .int, .p .int, .p .int, .E]
def B199 : Body K199 := fun x K => Ms_l1Copy x.1 x.2.1 x.2.2.1 (K (.agg [.sl 0, .sl 1, .sl 2]) [⟨true, .list .int x.1⟩, ⟨true, .list .int x.2.1⟩, ⟨true, .list .int x.2.2.1⟩])
def G199 := rdG K199 B199
def H199 : List (Nat × LH) := []
def W199 : List (Nat × List (Nat × List Nat)) := []
def Γ199 : List (Nat × Con) := []
theorem e199 : Eqn PP 16 Γ199 H199 W199 (bodyOf Tryz.f199) [.cell 2 25] [.ag [.own .int, .own .int, .own .int]] [] K199 B199 := fun _ _ _ K => by kernel_rfl
theorem s199 : CSound PP 199 G199 := fun_sk mixed Tryz.func199 (by decide) (by kernel_rfl) Tryz.ntmps199 Tryz.results199 (GSound.nil) e199
def Uc199 := useC [.ag [.pure .int, .pure .int, .pure .int]] G199
theorem u199 : CSound PP 199 Uc199 := useC_ok s199
/-! spec.l4Copy -/
def K141 : List Tok := [.A, .p .int, .p .int, .p .int, .p .int, .E]
def B141 : Body K141 := fun x K => Ms_l4Copy x.1 x.2.1 x.2.2.1 x.2.2.2.1 (K (.agg [.sl 0, .sl 1, .sl 2, .sl 3]) [⟨true, .list .int x.1⟩, ⟨true, .list .int x.2.1⟩, ⟨true, .list .int x.2.2.1⟩, ⟨true, .list .int x.2.2.2.1⟩])
def G141 := rdG K141 B141
def H141 : List (Nat × LH) := []
def W141 : List (Nat × List (Nat × List Nat)) := []
def Γ141 : List (Nat × Con) := [(199, Uc199)]
theorem e141 : Eqn PP 11 Γ141 H141 W141 (bodyOf Tryz.f141) [.cell 2 27] [.ag [.own .int, .own .int, .own .int, .own .int]] [] K141 B141 := fun _ _ _ _ K => by kernel_rfl
theorem s141 : CSound PP 141 G141 := fun_sk mixed Tryz.func141 (by decide) (by kernel_rfl) Tryz.ntmps141 Tryz.results141 (.cons u199 (GSound.nil)) e141
def Uc141 := useC [.ag [.pure .int, .pure .int, .pure .int, .pure .int]] G141
theorem u141 : CSound PP 141 Uc141 := useC_ok s141
/-! spec.l6Copy -/
def K142 : List Tok := [.A, .i .i64, .p .int, .i .i64, .E]
def B142 : Body K142 := fun x K => Ms_l6Copy x.1 x.2.1 x.2.2.1 (K (.agg [.int .i64 x.1, .sl 0, .int .i64 x.2.2.1]) [⟨true, .list .int x.2.1⟩])
def G142 := rdG K142 B142
def H142 : List (Nat × LH) := []
def W142 : List (Nat × List (Nat × List Nat)) := []
def Γ142 : List (Nat × Con) := []
theorem e142 : Eqn PP 12 Γ142 H142 W142 (bodyOf Tryz.f142) [.cell 2 29] [.ag [.x, .own .int, .x]] [] K142 B142 := fun _ _ _ K => by kernel_rfl
theorem s142 : CSound PP 142 G142 := fun_sk mixed Tryz.func142 (by decide) (by kernel_rfl) Tryz.ntmps142 Tryz.results142 (GSound.nil) e142
def Uc142 := useC [.ag [.x, .pure .int, .x]] G142
theorem u142 : CSound PP 142 Uc142 := useC_ok s142
/-! spec.l7Copy -/
def K87 : List Tok := [.A, .p .int, .p .int, .p .int, .p .int, .i .i64, .p .int, .i .i64, .p .op, .i .i64, .b, .E]
def B87 : Body K87 := fun x K => Ms_l7Copy x.1 x.2.1 x.2.2.1 x.2.2.2.1 x.2.2.2.2.1 x.2.2.2.2.2.1 x.2.2.2.2.2.2.1 x.2.2.2.2.2.2.2.1 x.2.2.2.2.2.2.2.2.1 x.2.2.2.2.2.2.2.2.2.1 (K (.agg [.sl 0, .sl 1, .sl 2, .sl 3, .int .i64 x.2.2.2.2.1, .sl 4, .int .i64 x.2.2.2.2.2.2.1, .sl 5, .int .i64 x.2.2.2.2.2.2.2.2.1, .bool x.2.2.2.2.2.2.2.2.2.1]) [⟨true, .list .int x.1⟩, ⟨true, .list .int x.2.1⟩, ⟨true, .list .int x.2.2.1⟩, ⟨true, .list .int x.2.2.2.1⟩, ⟨true, .list .int x.2.2.2.2.2.1⟩, ⟨true, .list .op x.2.2.2.2.2.2.2.1⟩])
def G87 := rdG K87 B87
def H87 : List (Nat × LH) := []
def W87 : List (Nat × List (Nat × List Nat)) := []
def Γ87 : List (Nat × Con) := [(141, Uc141), (142, Uc142)]
theorem e87 : Eqn PP 18 Γ87 H87 W87 (bodyOf Tryz.f87) [.cell 2 32] [.ag [.own .int, .own .int, .own .int, .own .int, .x, .own .int, .x, .own .op, .x, .bl]] [] K87 B87 := fun _ _ _ _ _ _ _ _ _ _ K => by kernel_rfl
theorem s87 : CSound PP 87 G87 := fun_sk mixed Tryz.func87 (by decide) (by kernel_rfl) Tryz.ntmps87 Tryz.results87 (.cons u141 (.cons u142 (GSound.nil))) e87
def Uc87 := useC [.ag [.pure .int, .pure .int, .pure .int, .pure .int, .x, .pure .int, .x, .pure .op, .x, .bl]] G87
theorem u87 : CSound PP 87 Uc87 := useC_ok s87
/-! spec.l6Swept -/
def K144 : List Tok := [.A, .p .int, .p .int, .p .int, .p .int, .E, .A, .i .i64, .p .int, .i .i64, .E]
def B144 : Body K144 := fun x K => Ms_l6Swept x.1 x.2.1 x.2.2.1 x.2.2.2.1 x.2.2.2.2.1 x.2.2.2.2.2.1 x.2.2.2.2.2.2.1 (fun r1 => K (.int .i64 r1) [])
def G144 := rdG K144 B144
def H144 : List (Nat × LH) := []
def W144 : List (Nat × List (Nat × List Nat)) := []
def Γ144 : List (Nat × Con) := [(201, Uc201)]
theorem e144 : Eqn PP 27 Γ144 H144 W144 (bodyOf Tryz.f144) [.tmp 4] [.x] [] K144 B144 := fun _ _ _ _ _ _ _ K => by kernel_rfl
theorem s144 : CSound PP 144 G144 := fun_sk mixed Tryz.func144 (by decide) (by kernel_rfl) Tryz.ntmps144 Tryz.results144 (.cons u201 (GSound.nil)) e144
def Uc144 := useC [.ag [.pure .int, .pure .int, .pure .int, .pure .int], .ag [.x, .pure .int, .x]] G144
theorem u144 : CSound PP 144 Uc144 := useC_ok s144
/-! spec.l1Many -/
def K242 : List Tok := [.i .i64]
def B242 : Body K242 := fun x K => Ms_l1Many x.1 (fun r1 => K (.sl 0) [⟨true, .list .int r1⟩])
def G242 := rdG K242 B242
noncomputable def H242_0 := mkH [(0, .x), (3, .own .int), (4, .x)] [.i .i64, .L 0, .i .i64, .bL true .int]
noncomputable def H242 : List (Nat × LH) := [(0, H242_0)]
def W242 : List (Nat × List (Nat × List Nat)) := []
def Γ242 : List (Nat × Con) := []
theorem e242 : Eqn PP 15 Γ242 H242 W242 (bodyOf Tryz.f242) [.tmp 2] [.own .int] [] K242 B242 := fun _ K => by kernel_rfl
theorem s242 : CSound PP 242 G242 := fun_sk mixed Tryz.func242 (by decide) (by kernel_rfl) Tryz.ntmps242 Tryz.results242 (GSound.nil) e242
def Uc242 := useC [.x] G242
theorem u242 : CSound PP 242 Uc242 := useC_ok s242
/-! spec.l2Distances -/
def K234 : List Tok := [.A, .p .int, .p .int, .p .int, .E, .p .int]
def B234 : Body K234 := fun x K => Ms_l2Distances x.1 x.2.1 x.2.2.1 x.2.2.2.1 (fun r1 => K (.sl 0) [⟨true, .list .int r1⟩])
def G234 := rdG K234 B234
noncomputable def H234_0 := mkH [(1, .pure .int), (2, .pc [.pure .int, .pure .int, .pure .int]), (5, .own .int), (6, .own .int), (7, .x)] [.p .int, .Q 0, .L 1, .L 2, .i .i64, .bC true, .p .int, .p .int, .p .int, .E, .bL true .int, .bL true .int]
noncomputable def H234_2 := mkH [(2, .pc [.pure .int, .pure .int, .pure .int]), (5, .own .int), (6, .own .int), (8, .x)] [.Q 0, .L 1, .L 2, .i .i64, .bC true, .p .int, .p .int, .p .int, .E, .bL true .int, .bL true .int]
noncomputable def H234_4 := mkH [(2, .pc [.pure .int, .pure .int, .pure .int]), (5, .own .int), (6, .own .int), (8, .x), (9, .x), (10, .own .int), (11, .x)] [.Q 0, .L 1, .L 2, .i .i64, .i .i64, .L 3, .i .i64, .bC true, .p .int, .p .int, .p .int, .E, .bL true .int, .bL true .int, .bL true .int]
noncomputable def H234 : List (Nat × LH) := [(0, H234_0), (2, H234_2), (4, H234_4)]
def W234 : List (Nat × List (Nat × List Nat)) := []
def Γ234 : List (Nat × Con) := [(242, Uc242)]
theorem e234 : Eqn PP 110 Γ234 H234 W234 (bodyOf Tryz.f234) [.tmp 4] [.own .int] [] K234 B234 := fun _ _ _ _ K => by kernel_rfl
theorem s234 : CSound PP 234 G234 := fun_sk mixed Tryz.func234 (by decide) (by kernel_rfl) Tryz.ntmps234 Tryz.results234 (.cons u242 (GSound.nil)) e234
def Uc234 := useC [.ag [.pure .int, .pure .int, .pure .int], .pure .int] G234
theorem u234 : CSound PP 234 Uc234 := useC_ok s234
/-! spec.Reachable -/
def K200 : List Tok := [.A, .p .int, .p .int, .p .int, .E]
def B200 : Body K200 := fun x K => Ms_Reachable x.1 x.2.1 x.2.2.1 (fun r1 => K (.sl 0) [⟨true, .list .bool r1⟩])
def G200 := rdG K200 B200
noncomputable def H200_0 := mkH [(3, .own .bool), (4, .own .int), (5, .x)] [.L 0, .L 1, .i .i64, .bL true .bool, .bL true .int]
noncomputable def H200 : List (Nat × LH) := [(0, H200_0)]
def W200 : List (Nat × List (Nat × List Nat)) := []
def Γ200 : List (Nat × Con) := [(76, Uc76), (234, Uc234)]
theorem e200 : Eqn PP 30 Γ200 H200 W200 (bodyOf Tryz.f200) [.tmp 2] [.own .bool] [] K200 B200 := fun _ _ _ K => by kernel_rfl
theorem s200 : CSound PP 200 G200 := fun_sk mixed Tryz.func200 (by decide) (by kernel_rfl) Tryz.ntmps200 Tryz.results200 (.cons u76 (.cons u234 (GSound.nil))) e200
def Uc200 := useC [.ag [.pure .int, .pure .int, .pure .int]] G200
theorem u200 : CSound PP 200 Uc200 := useC_ok s200
/-! spec.l7Live -/
def K143 : List Tok := [.A, .p .int, .p .int, .p .int, .p .int, .E, .i .i64]
def B143 : Body K143 := fun x K => Ms_l7Live x.1 x.2.1 x.2.2.1 x.2.2.2.1 x.2.2.2.2.1 (fun r1 => K (.bool r1) [])
def G143 := rdG K143 B143
def H143 : List (Nat × LH) := []
def W143 : List (Nat × List (Nat × List Nat)) := []
def Γ143 : List (Nat × Con) := [(200, Uc200)]
theorem e143 : Eqn PP 15 Γ143 H143 W143 (bodyOf Tryz.f143) [.tmp 4] [.bl] [] K143 B143 := fun _ _ _ _ _ K => by kernel_rfl
theorem s143 : CSound PP 143 G143 := fun_sk mixed Tryz.func143 (by decide) (by kernel_rfl) Tryz.ntmps143 Tryz.results143 (.cons u200 (GSound.nil)) e143
def Uc143 := useC [.ag [.pure .int, .pure .int, .pure .int, .pure .int], .x] G143
theorem u143 : CSound PP 143 Uc143 := useC_ok s143
/-! spec.l3Shade -/
def K202 : List Tok := [.L 0, .i .i64, .bL true .int]
def B202 : Body K202 := fun x K => Ms_l3Shade x.1 x.2.1 (fun r1 => K (.sl 0) [⟨true, .list .int r1⟩])
def G202 := rdG K202 B202
def H202 : List (Nat × LH) := []
def W202 : List (Nat × List (Nat × List Nat)) := []
def Γ202 : List (Nat × Con) := []
theorem e202 : Eqn PP 18 Γ202 H202 W202 (bodyOf Tryz.f202) [.tmp 4] [.own .int] [] K202 B202 := fun _ _ K => by kernel_rfl
theorem s202 : CSound PP 202 G202 := fun_sk mixed Tryz.func202 (by decide) (by kernel_rfl) Tryz.ntmps202 Tryz.results202 (GSound.nil) e202
def Uc202 := useC [.own .int, .x] G202
theorem u202 : CSound PP 202 Uc202 := useC_ok s202
/-! spec.l6Next -/
def K203 : List Tok := [.A, .i .i64, .L 0, .i .i64, .E, .i .i64, .i .i64, .bL false .int]
def B203 : Body K203 := fun x K => Ms_l6Next x.1 x.2.1 x.2.2.1 x.2.2.2.1 x.2.2.2.2.1 (fun r1 r2 => K (.agg [.int .i64 r1, .sl 0, .int .i64 r2]) [⟨false, .list .int x.2.2.2.2.1⟩])
def G203 := rdG K203 B203
def H203 : List (Nat × LH) := []
def W203 : List (Nat × List (Nat × List Nat)) := []
def Γ203 : List (Nat × Con) := []
theorem e203 : Eqn PP 19 Γ203 H203 W203 (bodyOf Tryz.f203) [.cell 6 29] [.ag [.x, .x, .x]] [] K203 B203 := fun _ _ _ _ _ K => by kernel_rfl
theorem s203 : CSound PP 203 G203 := fun_sk mixed Tryz.func203 (by decide) (by kernel_rfl) Tryz.ntmps203 Tryz.results203 (GSound.nil) e203
def Uc203 := useC [.ag [.x, .own .int, .x], .x, .x] (onlyC [] G203)
theorem u203 : CSound PP 203 Uc203 := useC_ok (onlyC_ok s203)
/-! spec.l3First -/
def K235 : List Tok := [.A, .p .int, .p .int, .p .int, .p .int, .E, .i .i64]
def B235 : Body K235 := fun x K => Ms_l3First x.1 x.2.1 x.2.2.1 x.2.2.2.1 x.2.2.2.2.1 (fun r1 => K (.int .i64 r1) [])
def G235 := rdG K235 B235
noncomputable def H235_0 := mkH [(1, .x), (2, .pc [.pure .int, .pure .int, .pure .int, .pure .int]), (5, .x)] [.i .i64, .Q 0, .i .i64, .bC true, .p .int, .p .int, .p .int, .p .int, .E]
noncomputable def H235 : List (Nat × LH) := [(0, H235_0)]
def W235 : List (Nat × List (Nat × List Nat)) := []
def Γ235 : List (Nat × Con) := []
theorem e235 : Eqn PP 21 Γ235 H235 W235 (bodyOf Tryz.f235) [.tmp 4] [.x] [] K235 B235 := fun _ _ _ _ _ K => by kernel_rfl
theorem s235 : CSound PP 235 G235 := fun_sk mixed Tryz.func235 (by decide) (by kernel_rfl) Tryz.ntmps235 Tryz.results235 (GSound.nil) e235
def Uc235 := useC [.ag [.pure .int, .pure .int, .pure .int, .pure .int], .x] G235
theorem u235 : CSound PP 235 Uc235 := useC_ok s235
/-! spec.l3Black -/
def K236 : List Tok := [.A, .p .int, .p .int, .p .int, .L 0, .E, .i .i64, .bL true .int]
def B236 : Body K236 := fun x K => Ms_l3Black x.1 x.2.1 x.2.2.1 x.2.2.2.1 x.2.2.2.2.1 (fun r1 => K (.agg [.pl .int x.1, .pl .int x.2.1, .pl .int x.2.2.1, .sl 0]) [⟨true, .list .int r1⟩])
def G236 := rdG K236 B236
def H236 : List (Nat × LH) := []
def W236 : List (Nat × List (Nat × List Nat)) := []
def Γ236 : List (Nat × Con) := [(202, Uc202)]
theorem e236 : Eqn PP 30 Γ236 H236 W236 (bodyOf Tryz.f236) [.cell 4 220] [.ag [.pure .int, .pure .int, .pure .int, .own .int]] [] K236 B236 := fun _ _ _ _ _ K => by kernel_rfl
theorem s236 : CSound PP 236 G236 := fun_sk mixed Tryz.func236 (by decide) (by kernel_rfl) Tryz.ntmps236 Tryz.results236 (.cons u202 (GSound.nil)) e236
def Uc236 := useC [.ag [.pure .int, .pure .int, .pure .int, .own .int], .x] G236
theorem u236 : CSound PP 236 Uc236 := useC_ok s236
/-! spec.l6Root -/
def K237 : List Tok := [.A, .p .int, .p .int, .p .int, .p .int, .E, .A, .i .i64, .p .int, .i .i64, .E]
def B237 : Body K237 := fun x K => Ms_l6Root x.1 x.2.1 x.2.2.1 x.2.2.2.1 x.2.2.2.2.1 x.2.2.2.2.2.1 x.2.2.2.2.2.2.1 (fun r1 => K (.int .i64 r1) [])
def G237 := rdG K237 B237
noncomputable def H237_0 := mkH [(2, .pc [.pure .int, .pure .int, .pure .int, .pure .int]), (3, .pc [.x, .pure .int, .x]), (5, .x)] [.Q 0, .Q 1, .i .i64, .bC true, .p .int, .p .int, .p .int, .p .int, .E, .bC true, .i .i64, .p .int, .i .i64, .E]
noncomputable def H237 : List (Nat × LH) := [(0, H237_0)]
def W237 : List (Nat × List (Nat × List Nat)) := []
def Γ237 : List (Nat × Con) := []
theorem e237 : Eqn PP 32 Γ237 H237 W237 (bodyOf Tryz.f237) [.tmp 4] [.x] [] K237 B237 := fun _ _ _ _ _ _ _ K => by kernel_rfl
theorem s237 : CSound PP 237 G237 := fun_sk mixed Tryz.func237 (by decide) (by kernel_rfl) Tryz.ntmps237 Tryz.results237 (GSound.nil) e237
def Uc237 := useC [.ag [.pure .int, .pure .int, .pure .int, .pure .int], .ag [.x, .pure .int, .x]] G237
theorem u237 : CSound PP 237 Uc237 := useC_ok s237
/-! spec.l6Mark -/
def K204 : List Tok := [.A, .p .int, .p .int, .p .int, .p .int, .E, .A, .i .i64, .L 0, .i .i64, .E, .bL true .int]
def B204 : Body K204 := fun x K => Ms_l6Mark x.1 x.2.1 x.2.2.1 x.2.2.2.1 x.2.2.2.2.1 x.2.2.2.2.2.1 x.2.2.2.2.2.2.1 (fun r1 r2 => K (.agg [.int .i64 r1, .sl 0, .int .i64 x.2.2.2.2.2.1]) [⟨true, .list .int r2⟩])
def G204 := rdG K204 B204
def H204 : List (Nat × LH) := []
def W204 : List (Nat × List (Nat × List Nat)) := []
def Γ204 : List (Nat × Con) := [(235, Uc235), (236, Uc236), (237, Uc237), (202, Uc202)]
theorem e204 : Eqn PP 41 Γ204 H204 W204 (bodyOf Tryz.f204) [.cell 4 29] [.ag [.x, .own .int, .x]] [] K204 B204 := fun _ _ _ _ _ _ _ K => by kernel_rfl
theorem s204 : CSound PP 204 G204 := fun_sk mixed Tryz.func204 (by decide) (by kernel_rfl) Tryz.ntmps204 Tryz.results204 (.cons u235 (.cons u236 (.cons u237 (.cons u202 (GSound.nil))))) e204
def Uc204 := useC [.ag [.pure .int, .pure .int, .pure .int, .pure .int], .ag [.x, .own .int, .x]] G204
theorem u204 : CSound PP 204 Uc204 := useC_ok s204
/-! spec.l4Clear -/
def K205 : List Tok := [.A, .p .int, .p .int, .p .int, .p .int, .E, .p .int]
def B205 : Body K205 := fun x K => Ms_l4Clear x.1 x.2.1 x.2.2.1 x.2.2.2.1 x.2.2.2.2.1 (fun r1 r2 r3 r4 => K (.agg [.sl 0, .sl 1, .sl 2, .sl 3]) [⟨true, .list .int r1⟩, ⟨true, .list .int r2⟩, ⟨true, .list .int r3⟩, ⟨true, .list .int r4⟩])
def G205 := rdG K205 B205
noncomputable def H205_0 := mkH [(1, .pure .int), (4, .pc [.own .int, .own .int, .own .int, .own .int]), (5, .pc [.own .int, .own .int, .own .int, .own .int]), (6, .x)] [.p .int, .Q 0, .Q 1, .i .i64, .bC true, .L 2, .L 3, .L 4, .L 5, .E, .bC true, .L 6, .L 7, .L 8, .L 9, .E, .bL true .int, .bL true .int, .bL true .int, .bL true .int, .bL true .int, .bL true .int, .bL true .int, .bL true .int]
noncomputable def H205 : List (Nat × LH) := [(0, H205_0)]
def W205 : List (Nat × List (Nat × List Nat)) := []
def Γ205 : List (Nat × Con) := [(141, Uc141), (201, Uc201)]
theorem e205 : Eqn PP 63 Γ205 H205 W205 (bodyOf Tryz.f205) [.cell 4 27] [.ag [.own .int, .own .int, .own .int, .own .int]] [] K205 B205 := fun _ _ _ _ _ K => by kernel_rfl
theorem s205 : CSound PP 205 G205 := fun_sk mixed Tryz.func205 (by decide) (by kernel_rfl) Tryz.ntmps205 Tryz.results205 (.cons u141 (.cons u201 (GSound.nil))) e205
def Uc205 := useC [.ag [.pure .int, .pure .int, .pure .int, .pure .int], .pure .int] G205
theorem u205 : CSound PP 205 Uc205 := useC_ok s205
/-! spec.l6Step -/
def K145 : List Tok := [.A, .p .int, .p .int, .p .int, .p .int, .E, .A, .i .i64, .p .int, .i .i64, .E]
def B145 : Body K145 := fun x K => Ms_l6Step x.1 x.2.1 x.2.2.1 x.2.2.2.1 x.2.2.2.2.1 x.2.2.2.2.2.1 x.2.2.2.2.2.2.1 (fun r1 r2 r3 r4 r5 r6 r7 => K (.tup [.agg [.sl 0, .sl 1, .sl 2, .sl 3], .agg [.int .i64 r1, .sl 4, .int .i64 r2]]) [⟨true, .list .int r3⟩, ⟨true, .list .int r4⟩, ⟨true, .list .int r5⟩, ⟨true, .list .int r6⟩, ⟨true, .list .int r7⟩])
def G145 := rdG K145 B145
def H145 : List (Nat × LH) := []
def W145 : List (Nat × List (Nat × List Nat)) := [(4, [(2, [7])])]
def Γ145 : List (Nat × Con) := [(142, Uc142), (141, Uc141), (202, Uc202), (203, Uc203), (204, Uc204), (144, Uc144), (205, Uc205)]
theorem e145 : Eqn PP 72 Γ145 H145 W145 (bodyOf Tryz.f145) [.cell 4 27, .cell 5 29] [.ag [.own .int, .own .int, .own .int, .own .int], .ag [.x, .own .int, .x]] [] K145 B145 := fun _ _ _ _ _ _ _ K => by kernel_rfl
theorem s145 : CSound PP 145 G145 := fun_sk mixed Tryz.func145 (by decide) (by kernel_rfl) Tryz.ntmps145 Tryz.results145 (.cons u142 (.cons u141 (.cons u202 (.cons u203 (.cons u204 (.cons u144 (.cons u205 (GSound.nil)))))))) e145
def Uc145 := useC [.ag [.pure .int, .pure .int, .pure .int, .pure .int], .ag [.x, .pure .int, .x]] G145
theorem u145 : CSound PP 145 Uc145 := useC_ok s145
/-! spec.l7Gc -/
def K88 : List Tok := [.A, .p .int, .p .int, .p .int, .p .int, .i .i64, .p .int, .i .i64, .p .op, .i .i64, .b, .E]
def B88 : Body K88 := fun x K => Ms_l7Gc x.1 x.2.1 x.2.2.1 x.2.2.2.1 x.2.2.2.2.1 x.2.2.2.2.2.1 x.2.2.2.2.2.2.1 x.2.2.2.2.2.2.2.1 x.2.2.2.2.2.2.2.2.1 x.2.2.2.2.2.2.2.2.2.1 (fun r1 r2 r3 r4 r5 r6 r7 r8 => K (.agg [.sl 0, .sl 1, .sl 2, .sl 3, .int .i64 r1, .sl 4, .int .i64 r2, .sl 5, .int .i64 x.2.2.2.2.2.2.2.2.1, .bool r3]) [⟨true, .list .int r4⟩, ⟨true, .list .int r5⟩, ⟨true, .list .int r6⟩, ⟨true, .list .int r7⟩, ⟨true, .list .int r8⟩, ⟨true, .list .op x.2.2.2.2.2.2.2.1⟩])
def G88 := rdG K88 B88
def H88 : List (Nat × LH) := []
def W88 : List (Nat × List (Nat × List Nat)) := []
def Γ88 : List (Nat × Con) := [(87, Uc87), (144, Uc144), (143, Uc143), (145, Uc145)]
theorem e88 : Eqn PP 31 Γ88 H88 W88 (bodyOf Tryz.f88) [.cell 2 32] [.ag [.own .int, .own .int, .own .int, .own .int, .x, .own .int, .x, .own .op, .x, .bl]] [] K88 B88 := fun _ _ _ _ _ _ _ _ _ _ K => by kernel_rfl
theorem s88 : CSound PP 88 G88 := fun_sk mixed Tryz.func88 (by decide) (by kernel_rfl) Tryz.ntmps88 Tryz.results88 (.cons u87 (.cons u144 (.cons u143 (.cons u145 (GSound.nil))))) e88
def Uc88 := useC [.ag [.pure .int, .pure .int, .pure .int, .pure .int, .x, .pure .int, .x, .pure .op, .x, .bl]] G88
theorem u88 : CSound PP 88 Uc88 := useC_ok s88
/-! spec.TargetOf -/
def K146 : List Tok := [.A, .p .int, .p .int, .p .int, .p .int, .E, .A, .i .i64, .i .i64, .i .i64, .E]
def B146 : Body K146 := fun x K => Ms_TargetOf x.1 x.2.1 x.2.2.1 x.2.2.2.1 x.2.2.2.2.1 x.2.2.2.2.2.1 x.2.2.2.2.2.2.1 (fun r1 => K (.int .i64 r1) [])
def G146 := rdG K146 B146
def H146 : List (Nat × LH) := []
def W146 : List (Nat × List (Nat × List Nat)) := []
def Γ146 : List (Nat × Con) := [(197, Uc197), (191, Uc191)]
theorem e146 : Eqn PP 44 Γ146 H146 W146 (bodyOf Tryz.f146) [.tmp 4] [.x] [] K146 B146 := fun _ _ _ _ _ _ _ K => by kernel_rfl
theorem s146 : CSound PP 146 G146 := fun_sk mixed Tryz.func146 (by decide) (by kernel_rfl) Tryz.ntmps146 Tryz.results146 (.cons u197 (.cons u191 (GSound.nil))) e146
def Uc146 := useC [.ag [.pure .int, .pure .int, .pure .int, .pure .int], .ag [.x, .x, .x]] G146
theorem u146 : CSound PP 146 Uc146 := useC_ok s146
/-! spec.l5Do -/
def K206 : List Tok := [.A, .L 0, .L 1, .L 2, .L 3, .E, .A, .i .i64, .i .i64, .i .i64, .E, .bL true .int, .bL true .int, .bL true .int, .bL true .int]
def B206 : Body K206 := fun x K => Ms_l5Do x.1 x.2.1 x.2.2.1 x.2.2.2.1 x.2.2.2.2.1 x.2.2.2.2.2.1 x.2.2.2.2.2.2.1 (fun r1 r2 r3 r4 => K (.tup [.agg [.sl 0, .sl 1, .sl 2, .sl 3], .int .i64 r1]) [⟨true, .list .int r2⟩, ⟨true, .list .int r3⟩, ⟨true, .list .int r4⟩, ⟨true, .list .int x.2.2.2.2.2.2.1⟩])
def G206 := rdG K206 B206
def H206 : List (Nat × LH) := []
def W206 : List (Nat × List (Nat × List Nat)) := []
def Γ206 : List (Nat × Con) := []
theorem e206 : Eqn PP 89 Γ206 H206 W206 (bodyOf Tryz.f206) [.cell 4 27, .tmp 5] [.ag [.own .int, .own .int, .own .int, .own .int], .x] [] K206 B206 := fun _ _ _ _ _ _ _ K => by kernel_rfl
theorem s206 : CSound PP 206 G206 := fun_sk mixed Tryz.func206 (by decide) (by kernel_rfl) Tryz.ntmps206 Tryz.results206 (GSound.nil) e206
def Uc206 := useC [.ag [.own .int, .own .int, .own .int, .own .int], .ag [.x, .x, .x]] G206
theorem u206 : CSound PP 206 Uc206 := useC_ok s206
/-! spec.AllocCell -/
def K207 : List Tok := [.A, .p .int, .p .int, .p .int, .p .int, .E, .i .i64]
def B207 : Body K207 := fun x K => Ms_AllocCell x.1 x.2.1 x.2.2.1 x.2.2.2.1 x.2.2.2.2.1 (fun r1 r2 r3 r4 r5 r6 => K (.tup [.agg [.sl 0, .sl 1, .sl 2, .sl 3], .int .i64 r1, .bool r2]) [⟨true, .list .int r3⟩, ⟨true, .list .int r4⟩, ⟨true, .list .int r5⟩, ⟨true, .list .int r6⟩])
def G207 := rdG K207 B207
def H207 : List (Nat × LH) := []
def W207 : List (Nat × List (Nat × List Nat)) := []
def Γ207 : List (Nat × Con) := [(197, Uc197), (141, Uc141)]
theorem e207 : Eqn PP 51 Γ207 H207 W207 (bodyOf Tryz.f207) [.cell 4 27, .tmp 5, .tmp 6] [.ag [.own .int, .own .int, .own .int, .own .int], .x, .bl] [] K207 B207 := fun _ _ _ _ _ K => by kernel_rfl
theorem s207 : CSound PP 207 G207 := fun_sk mixed Tryz.func207 (by decide) (by kernel_rfl) Tryz.ntmps207 Tryz.results207 (.cons u197 (.cons u141 (GSound.nil))) e207
def Uc207 := useC [.ag [.pure .int, .pure .int, .pure .int, .pure .int], .x] G207
theorem u207 : CSound PP 207 Uc207 := useC_ok s207
/-! spec.RunOp -/
def K147 : List Tok := [.A, .p .int, .p .int, .p .int, .p .int, .E, .A, .i .i64, .i .i64, .i .i64, .E]
def B147 : Body K147 := fun x K => Ms_RunOp x.1 x.2.1 x.2.2.1 x.2.2.2.1 x.2.2.2.2.1 x.2.2.2.2.2.1 x.2.2.2.2.2.2.1 (fun r1 r2 r3 r4 r5 r6 => K (.tup [.agg [.sl 0, .sl 1, .sl 2, .sl 3], .int .i64 r1, .bool r2]) [⟨true, .list .int r3⟩, ⟨true, .list .int r4⟩, ⟨true, .list .int r5⟩, ⟨true, .list .int r6⟩])
def G147 := rdG K147 B147
def H147 : List (Nat × LH) := []
def W147 : List (Nat × List (Nat × List Nat)) := []
def Γ147 : List (Nat × Con) := [(197, Uc197), (191, Uc191), (141, Uc141), (206, Uc206), (207, Uc207)]
theorem e147 : Eqn PP 50 Γ147 H147 W147 (bodyOf Tryz.f147) [.cell 4 27, .tmp 5, .tmp 6] [.ag [.own .int, .own .int, .own .int, .own .int], .x, .bl] [] K147 B147 := fun _ _ _ _ _ _ _ K => by kernel_rfl
theorem s147 : CSound PP 147 G147 := fun_sk mixed Tryz.func147 (by decide) (by kernel_rfl) Tryz.ntmps147 Tryz.results147 (.cons u197 (.cons u191 (.cons u141 (.cons u206 (.cons u207 (GSound.nil)))))) e147
def Uc147 := useC [.ag [.pure .int, .pure .int, .pure .int, .pure .int], .ag [.x, .x, .x]] G147
theorem u147 : CSound PP 147 Uc147 := useC_ok s147
/-! spec.l1Cell -/
def K208 : List Tok := [.A, .p .int, .p .int, .p .int, .E, .i .i64]
def B208 : Body K208 := fun x K => Ms_l1Cell x.1 x.2.1 x.2.2.1 x.2.2.2.1 (fun r1 => K (.bool r1) [])
def G208 := rdG K208 B208
def H208 : List (Nat × LH) := []
def W208 : List (Nat × List (Nat × List Nat)) := []
def Γ208 : List (Nat × Con) := [(76, Uc76)]
theorem e208 : Eqn PP 18 Γ208 H208 W208 (bodyOf Tryz.f208) [.tmp 4] [.bl] [] K208 B208 := fun _ _ _ _ K => by kernel_rfl
theorem s208 : CSound PP 208 G208 := fun_sk mixed Tryz.func208 (by decide) (by kernel_rfl) Tryz.ntmps208 Tryz.results208 (.cons u76 (GSound.nil)) e208
def Uc208 := useC [.ag [.pure .int, .pure .int, .pure .int], .x] G208
theorem u208 : CSound PP 208 Uc208 := useC_ok s208
/-! spec.ColorNew -/
def K148 : List Tok := [.A, .p .int, .p .int, .p .int, .p .int, .E, .A, .i .i64, .p .int, .i .i64, .E, .i .i64]
def B148 : Body K148 := fun x K => Ms_ColorNew x.1 x.2.1 x.2.2.1 x.2.2.2.1 x.2.2.2.2.1 x.2.2.2.2.2.1 x.2.2.2.2.2.2.1 x.2.2.2.2.2.2.2.1 (fun r1 r2 r3 r4 => K (.tup [.agg [.int .i64 r1, .sl 0, .int .i64 r2], .bool r3]) [⟨true, .list .int r4⟩])
def G148 := rdG K148 B148
def H148 : List (Nat × LH) := []
def W148 : List (Nat × List (Nat × List Nat)) := []
def Γ148 : List (Nat × Con) := [(139, Uc139), (208, Uc208), (142, Uc142)]
theorem e148 : Eqn PP 51 Γ148 H148 W148 (bodyOf Tryz.f148) [.cell 6 29, .tmp 7] [.ag [.x, .own .int, .x], .bl] [] K148 B148 := fun _ _ _ _ _ _ _ _ K => by kernel_rfl
theorem s148 : CSound PP 148 G148 := fun_sk mixed Tryz.func148 (by decide) (by kernel_rfl) Tryz.ntmps148 Tryz.results148 (.cons u139 (.cons u208 (.cons u142 (GSound.nil)))) e148
def Uc148 := useC [.ag [.pure .int, .pure .int, .pure .int, .pure .int], .ag [.x, .pure .int, .x], .x] G148
theorem u148 : CSound PP 148 Uc148 := useC_ok s148
/-! spec.ShadeGc -/
def K149 : List Tok := [.A, .p .int, .p .int, .p .int, .p .int, .E, .A, .i .i64, .p .int, .i .i64, .E, .i .i64]
def B149 : Body K149 := fun x K => Ms_ShadeGc x.1 x.2.1 x.2.2.1 x.2.2.2.1 x.2.2.2.2.1 x.2.2.2.2.2.1 x.2.2.2.2.2.2.1 x.2.2.2.2.2.2.2.1 (fun r1 r2 r3 r4 => K (.tup [.agg [.int .i64 r1, .sl 0, .int .i64 r2], .bool r3]) [⟨true, .list .int r4⟩])
def G149 := rdG K149 B149
def H149 : List (Nat × LH) := []
def W149 : List (Nat × List (Nat × List Nat)) := []
def Γ149 : List (Nat × Con) := [(139, Uc139), (208, Uc208), (142, Uc142), (202, Uc202)]
theorem e149 : Eqn PP 37 Γ149 H149 W149 (bodyOf Tryz.f149) [.cell 6 29, .tmp 7] [.ag [.x, .own .int, .x], .bl] [] K149 B149 := fun _ _ _ _ _ _ _ _ K => by kernel_rfl
theorem s149 : CSound PP 149 G149 := fun_sk mixed Tryz.func149 (by decide) (by kernel_rfl) Tryz.ntmps149 Tryz.results149 (.cons u139 (.cons u208 (.cons u142 (.cons u202 (GSound.nil))))) e149
def Uc149 := useC [.ag [.pure .int, .pure .int, .pure .int, .pure .int], .ag [.x, .pure .int, .x], .x] G149
theorem u149 : CSound PP 149 Uc149 := useC_ok s149
/-! spec.l7Op -/
def K89 : List Tok := [.A, .p .int, .p .int, .p .int, .p .int, .i .i64, .p .int, .i .i64, .p .op, .i .i64, .b, .E, .b]
def B89 : Body K89 := fun x K => Ms_l7Op x.1 x.2.1 x.2.2.1 x.2.2.2.1 x.2.2.2.2.1 x.2.2.2.2.2.1 x.2.2.2.2.2.2.1 x.2.2.2.2.2.2.2.1 x.2.2.2.2.2.2.2.2.1 x.2.2.2.2.2.2.2.2.2.1 x.2.2.2.2.2.2.2.2.2.2.1 (fun r1 r2 r3 r4 r5 r6 r7 r8 => K (.agg [.sl 0, .sl 1, .sl 2, .sl 3, .int .i64 r1, .sl 4, .int .i64 r2, .sl 5, .int .i64 r3, .bool x.2.2.2.2.2.2.2.2.2.1]) [⟨true, .list .int r4⟩, ⟨true, .list .int r5⟩, ⟨true, .list .int r6⟩, ⟨true, .list .int r7⟩, ⟨true, .list .int r8⟩, ⟨true, .list .op x.2.2.2.2.2.2.2.1⟩])
def G89 := rdG K89 B89
def H89 : List (Nat × LH) := []
def W89 : List (Nat × List (Nat × List Nat)) := []
def Γ89 : List (Nat × Con) := [(87, Uc87), (146, Uc146), (147, Uc147), (148, Uc148), (149, Uc149)]
theorem e89 : Eqn PP 79 Γ89 H89 W89 (bodyOf Tryz.f89) [.cell 4 32] [.ag [.own .int, .own .int, .own .int, .own .int, .x, .own .int, .x, .own .op, .x, .bl]] [] K89 B89 := fun _ _ _ _ _ _ _ _ _ _ _ K => by kernel_rfl
theorem s89 : CSound PP 89 G89 := fun_sk mixed Tryz.func89 (by decide) (by kernel_rfl) Tryz.ntmps89 Tryz.results89 (.cons u87 (.cons u146 (.cons u147 (.cons u148 (.cons u149 (GSound.nil)))))) e89
def Uc89 := useC [.ag [.pure .int, .pure .int, .pure .int, .pure .int, .x, .pure .int, .x, .pure .op, .x, .bl], .bl] G89
theorem u89 : CSound PP 89 Uc89 := useC_ok s89
/-! spec.RunBoth -/
def K38 : List Tok := [.A, .p .int, .p .int, .p .int, .p .int, .i .i64, .p .int, .i .i64, .p .op, .i .i64, .b, .E, .s, .b]
def B38 : Body K38 := fun x K => Ms_RunBoth x.1 x.2.1 x.2.2.1 x.2.2.2.1 x.2.2.2.2.1 x.2.2.2.2.2.1 x.2.2.2.2.2.2.1 x.2.2.2.2.2.2.2.1 x.2.2.2.2.2.2.2.2.1 x.2.2.2.2.2.2.2.2.2.1 x.2.2.2.2.2.2.2.2.2.2.1 x.2.2.2.2.2.2.2.2.2.2.2.1 (fun r1 r2 r3 r4 r5 r6 r7 r8 r9 r10 r11 => K (.tup [.agg [.sl 0, .sl 1, .sl 2, .sl 3, .int .i64 r1, .sl 4, .int .i64 r2, .sl 5, .int .i64 r3, .bool r4], .bool r5]) [⟨true, .list .int r6⟩, ⟨true, .list .int r7⟩, ⟨true, .list .int r8⟩, ⟨true, .list .int r9⟩, ⟨true, .list .int r10⟩, ⟨true, .list .op r11⟩])
def G38 := rdG K38 B38
noncomputable def H38_0 := mkH [(1, .x), (2, .bl), (6, .pc [.own .int, .own .int, .own .int, .own .int, .x, .own .int, .x, .own .op, .x, .bl]), (8, .pc [.own .int, .own .int, .own .int, .own .int, .x, .own .int, .x, .own .op, .x, .bl]), (9, .x)] [.s, .b, .Q 0, .Q 1, .i .i64, .bC true, .L 2, .L 3, .L 4, .L 5, .i .i64, .L 6, .i .i64, .L 7, .i .i64, .b, .E, .bC true, .L 8, .L 9, .L 10, .L 11, .i .i64, .L 12, .i .i64, .L 13, .i .i64, .b, .E, .bL true .int, .bL true .int, .bL true .int, .bL true .int, .bL true .int, .bL true .op, .bL true .int, .bL true .int, .bL true .int, .bL true .int, .bL true .int, .bL true .op]
noncomputable def H38 : List (Nat × LH) := [(0, H38_0)]
def W38 : List (Nat × List (Nat × List Nat)) := []
def Γ38 : List (Nat × Con) := [(86, Uc86), (87, Uc87), (88, Uc88), (89, Uc89)]
theorem e38 : Eqn PP 56 Γ38 H38 W38 (bodyOf Tryz.f38) [.cell 6 32, .tmp 7] [.ag [.own .int, .own .int, .own .int, .own .int, .x, .own .int, .x, .own .op, .x, .bl], .bl] [] K38 B38 := fun _ _ _ _ _ _ _ _ _ _ _ _ K => by kernel_rfl
theorem s38 : CSound PP 38 G38 := fun_sk mixed Tryz.func38 (by decide) (by kernel_rfl) Tryz.ntmps38 Tryz.results38 (.cons u86 (.cons u87 (.cons u88 (.cons u89 (GSound.nil))))) e38
def Uc38 := useC [.ag [.pure .int, .pure .int, .pure .int, .pure .int, .x, .pure .int, .x, .pure .op, .x, .bl], .x, .bl] G38
theorem u38 : CSound PP 38 Uc38 := useC_ok s38
/-! slices.Equal[[]int,int] -/
def K151 : List Tok := [.p .int, .p .int]
def B151 : Body K151 := fun x K => M_Equal_int x.1 x.2.1 (fun r1 => K (.bool r1) [])
def G151 := rdG K151 B151
noncomputable def H151_0 := mkH [(0, .pure .int), (1, .pure .int), (12, .x), (13, .x)] [.p .int, .p .int, .i .i64, .i .i64]
noncomputable def H151 : List (Nat × LH) := [(0, H151_0)]
def W151 : List (Nat × List (Nat × List Nat)) := []
def Γ151 : List (Nat × Con) := []
theorem e151 : Eqn PP 26 Γ151 H151 W151 (bodyOf Tryz.f151) [.tmp 4] [.bl] [] K151 B151 := fun _ _ K => by kernel_rfl
theorem s151 : CSound PP 151 G151 := fun_sk mixed Tryz.func151 (by decide) (by kernel_rfl) Tryz.ntmps151 Tryz.results151 (GSound.nil) e151
def Uc151 := useC [.pure .int, .pure .int] G151
theorem u151 : CSound PP 151 Uc151 := useC_ok s151
/-! impl.HeapSame -/
def K150 : List Tok := [.A, .p .int, .p .int, .p .int, .E, .A, .p .int, .p .int, .p .int, .E]
def B150 : Body K150 := fun x K => Mi_HeapSame x.1 x.2.1 x.2.2.1 x.2.2.2.1 x.2.2.2.2.1 x.2.2.2.2.2.1 (fun r1 => K (.bool r1) [])
def G150 := rdG K150 B150
def H150 : List (Nat × LH) := []
def W150 : List (Nat × List (Nat × List Nat)) := []
def Γ150 : List (Nat × Con) := [(151, Uc151)]
theorem e150 : Eqn PP 24 Γ150 H150 W150 (bodyOf Tryz.f150) [.tmp 4] [.bl] [] K150 B150 := fun _ _ _ _ _ _ K => by kernel_rfl
theorem s150 : CSound PP 150 G150 := fun_sk mixed Tryz.func150 (by decide) (by kernel_rfl) Tryz.ntmps150 Tryz.results150 (.cons u151 (GSound.nil)) e150
def Uc150 := useC [.ag [.pure .int, .pure .int, .pure .int], .ag [.pure .int, .pure .int, .pure .int]] G150
theorem u150 : CSound PP 150 Uc150 := useC_ok s150
/-! impl.StoreSame -/
def K90 : List Tok := [.A, .p .int, .p .int, .p .int, .p .int, .E, .A, .p .int, .p .int, .p .int, .p .int, .E]
def B90 : Body K90 := fun x K => Mi_StoreSame x.1 x.2.1 x.2.2.1 x.2.2.2.1 x.2.2.2.2.1 x.2.2.2.2.2.1 x.2.2.2.2.2.2.1 x.2.2.2.2.2.2.2.1 (fun r1 => K (.bool r1) [])
def G90 := rdG K90 B90
def H90 : List (Nat × LH) := []
def W90 : List (Nat × List (Nat × List Nat)) := []
def Γ90 : List (Nat × Con) := [(150, Uc150), (151, Uc151)]
theorem e90 : Eqn PP 17 Γ90 H90 W90 (bodyOf Tryz.f90) [.tmp 4] [.bl] [] K90 B90 := fun _ _ _ _ _ _ _ _ K => by kernel_rfl
theorem s90 : CSound PP 90 G90 := fun_sk mixed Tryz.func90 (by decide) (by kernel_rfl) Tryz.ntmps90 Tryz.results90 (.cons u150 (.cons u151 (GSound.nil))) e90
def Uc90 := useC [.ag [.pure .int, .pure .int, .pure .int, .pure .int], .ag [.pure .int, .pure .int, .pure .int, .pure .int]] G90
theorem u90 : CSound PP 90 Uc90 := useC_ok s90
/-! impl.GcSame -/
def K91 : List Tok := [.A, .i .i64, .p .int, .i .i64, .E, .A, .i .i64, .p .int, .i .i64, .E]
def B91 : Body K91 := fun x K => Mi_GcSame x.1 x.2.1 x.2.2.1 x.2.2.2.1 x.2.2.2.2.1 x.2.2.2.2.2.1 (fun r1 => K (.bool r1) [])
def G91 := rdG K91 B91
def H91 : List (Nat × LH) := []
def W91 : List (Nat × List (Nat × List Nat)) := []
def Γ91 : List (Nat × Con) := [(151, Uc151)]
theorem e91 : Eqn PP 24 Γ91 H91 W91 (bodyOf Tryz.f91) [.tmp 4] [.bl] [] K91 B91 := fun _ _ _ _ _ _ K => by kernel_rfl
theorem s91 : CSound PP 91 G91 := fun_sk mixed Tryz.func91 (by decide) (by kernel_rfl) Tryz.ntmps91 Tryz.results91 (.cons u151 (GSound.nil)) e91
def Uc91 := useC [.ag [.x, .pure .int, .x], .ag [.x, .pure .int, .x]] G91
theorem u91 : CSound PP 91 Uc91 := useC_ok s91
/-! slices.Equal[[]impl.Op,impl.Op] -/
def K92 : List Tok := [.p .op, .p .op]
def B92 : Body K92 := fun x K => M_Equal_Op x.1 x.2.1 (fun r1 => K (.bool r1) [])
def G92 := rdG K92 B92
noncomputable def H92_0 := mkH [(0, .pure .op), (1, .pure .op), (12, .x), (13, .x)] [.p .op, .p .op, .i .i64, .i .i64]
noncomputable def H92 : List (Nat × LH) := [(0, H92_0)]
def W92 : List (Nat × List (Nat × List Nat)) := []
def Γ92 : List (Nat × Con) := []
theorem e92 : Eqn PP 26 Γ92 H92 W92 (bodyOf Tryz.f92) [.tmp 4] [.bl] [] K92 B92 := fun _ _ K => by kernel_rfl
theorem s92 : CSound PP 92 G92 := fun_sk mixed Tryz.func92 (by decide) (by kernel_rfl) Tryz.ntmps92 Tryz.results92 (GSound.nil) e92
def Uc92 := useC [.pure .op, .pure .op] G92
theorem u92 : CSound PP 92 Uc92 := useC_ok s92
/-! impl.BothSame -/
def K39 : List Tok := [.A, .p .int, .p .int, .p .int, .p .int, .i .i64, .p .int, .i .i64, .p .op, .i .i64, .b, .E, .A, .p .int, .p .int, .p .int, .p .int, .i .i64, .p .int, .i .i64, .p .op, .i .i64, .b, .E]
def B39 : Body K39 := fun x K => Mi_BothSame x.1 x.2.1 x.2.2.1 x.2.2.2.1 x.2.2.2.2.1 x.2.2.2.2.2.1 x.2.2.2.2.2.2.1 x.2.2.2.2.2.2.2.1 x.2.2.2.2.2.2.2.2.1 x.2.2.2.2.2.2.2.2.2.1 x.2.2.2.2.2.2.2.2.2.2.1 x.2.2.2.2.2.2.2.2.2.2.2.1 x.2.2.2.2.2.2.2.2.2.2.2.2.1 x.2.2.2.2.2.2.2.2.2.2.2.2.2.1 x.2.2.2.2.2.2.2.2.2.2.2.2.2.2.1 x.2.2.2.2.2.2.2.2.2.2.2.2.2.2.2.1 x.2.2.2.2.2.2.2.2.2.2.2.2.2.2.2.2.1 x.2.2.2.2.2.2.2.2.2.2.2.2.2.2.2.2.2.1 x.2.2.2.2.2.2.2.2.2.2.2.2.2.2.2.2.2.2.1 x.2.2.2.2.2.2.2.2.2.2.2.2.2.2.2.2.2.2.2.1 (fun r1 => K (.bool r1) [])
def G39 := rdG K39 B39
def H39 : List (Nat × LH) := []
def W39 : List (Nat × List (Nat × List Nat)) := []
def Γ39 : List (Nat × Con) := [(90, Uc90), (91, Uc91), (92, Uc92)]
theorem e39 : Eqn PP 38 Γ39 H39 W39 (bodyOf Tryz.f39) [.tmp 4] [.bl] [] K39 B39 := fun _ _ _ _ _ _ _ _ _ _ _ _ _ _ _ _ _ _ _ _ K => by kernel_rfl
theorem s39 : CSound PP 39 G39 := fun_sk mixed Tryz.func39 (by decide) (by kernel_rfl) Tryz.ntmps39 Tryz.results39 (.cons u90 (.cons u91 (.cons u92 (GSound.nil)))) e39
def Uc39 := useC [.ag [.pure .int, .pure .int, .pure .int, .pure .int, .x, .pure .int, .x, .pure .op, .x, .bl], .ag [.pure .int, .pure .int, .pure .int, .pure .int, .x, .pure .int, .x, .pure .op, .x, .bl]] G39
theorem u39 : CSound PP 39 Uc39 := useC_ok s39
/-! impl.spaced -/
def K152 : List Tok := [.p .int]
def B152 : Body K152 := fun x K => Mi_spaced x.1 (fun r1 => K (.str r1) [])
def G152 := rdG K152 B152
noncomputable def H152_0 := mkH [(3, .x), (6, .pure .int), (7, .x), (8, .x)] [.s, .p .int, .i .i64, .i .i64]
noncomputable def H152 : List (Nat × LH) := [(0, H152_0)]
def W152 : List (Nat × List (Nat × List Nat)) := []
def Γ152 : List (Nat × Con) := [(94, Uc94)]
theorem e152 : Eqn PP 19 Γ152 H152 W152 (bodyOf Tryz.f152) [.tmp 2] [.x] [] K152 B152 := fun _ K => by kernel_rfl
theorem s152 : CSound PP 152 G152 := fun_sk mixed Tryz.func152 (by decide) (by kernel_rfl) Tryz.ntmps152 Tryz.results152 (.cons u94 (GSound.nil)) e152
def Uc152 := useC [.pure .int] G152
theorem u152 : CSound PP 152 Uc152 := useC_ok s152
/-! impl.FormatStore -/
def K93 : List Tok := [.A, .p .int, .p .int, .p .int, .p .int, .E]
def B93 : Body K93 := fun x K => Mi_FormatStore x.1 x.2.1 x.2.2.1 x.2.2.2.1 (fun r1 => K (.str r1) [])
def G93 := rdG K93 B93
def H93 : List (Nat × LH) := []
def W93 : List (Nat × List (Nat × List Nat)) := []
def Γ93 : List (Nat × Con) := [(81, Uc81), (23, Uc23), (152, Uc152)]
theorem e93 : Eqn PP 14 Γ93 H93 W93 (bodyOf Tryz.f93) [.tmp 2] [.x] [] K93 B93 := fun _ _ _ _ K => by kernel_rfl
theorem s93 : CSound PP 93 G93 := fun_sk mixed Tryz.func93 (by decide) (by kernel_rfl) Tryz.ntmps93 Tryz.results93 (.cons u81 (.cons u23 (.cons u152 (GSound.nil)))) e93
def Uc93 := useC [.ag [.pure .int, .pure .int, .pure .int, .pure .int]] G93
theorem u93 : CSound PP 93 Uc93 := useC_ok s93
/-! impl.FormatBoth -/
def K40 : List Tok := [.A, .p .int, .p .int, .p .int, .p .int, .i .i64, .p .int, .i .i64, .p .op, .i .i64, .b, .E]
def B40 : Body K40 := fun x K => Mi_FormatBoth x.1 x.2.1 x.2.2.1 x.2.2.2.1 x.2.2.2.2.1 x.2.2.2.2.2.1 x.2.2.2.2.2.2.1 x.2.2.2.2.2.2.2.1 x.2.2.2.2.2.2.2.2.1 x.2.2.2.2.2.2.2.2.2.1 (fun r1 => K (.str r1) [])
def G40 := rdG K40 B40
noncomputable def H40_0 := mkH [(1, .pc [.pure .int, .pure .int, .pure .int, .pure .int, .x, .pure .int, .x, .pure .op, .x, .bl]), (3, .x), (29, .pure .int), (30, .x), (31, .x)] [.Q 0, .s, .p .int, .i .i64, .i .i64, .bC true, .p .int, .p .int, .p .int, .p .int, .i .i64, .p .int, .i .i64, .p .op, .i .i64, .b, .E]
noncomputable def H40 : List (Nat × LH) := [(0, H40_0)]
def W40 : List (Nat × List (Nat × List Nat)) := []
def Γ40 : List (Nat × Con) := [(45, Uc45), (93, Uc93), (94, Uc94)]
theorem e40 : Eqn PP 53 Γ40 H40 W40 (bodyOf Tryz.f40) [.tmp 2] [.x] [] K40 B40 := fun _ _ _ _ _ _ _ _ _ _ K => by kernel_rfl
theorem s40 : CSound PP 40 G40 := fun_sk mixed Tryz.func40 (by decide) (by kernel_rfl) Tryz.ntmps40 Tryz.results40 (.cons u45 (.cons u93 (.cons u94 (GSound.nil)))) e40
def Uc40 := useC [.ag [.pure .int, .pure .int, .pure .int, .pure .int, .x, .pure .int, .x, .pure .op, .x, .bl]] G40
theorem u40 : CSound PP 40 Uc40 := useC_ok s40
/-! impl.FinishBoth -/
def K21 : List Tok := [.A, .p .int, .p .int, .p .int, .p .int, .i .i64, .p .int, .i .i64, .p .op, .i .i64, .b, .E, .b]
def B21 : Body K21 := fun x K => Mi_FinishBoth x.1 x.2.1 x.2.2.1 x.2.2.2.1 x.2.2.2.2.1 x.2.2.2.2.2.1 x.2.2.2.2.2.2.1 x.2.2.2.2.2.2.2.1 x.2.2.2.2.2.2.2.2.1 x.2.2.2.2.2.2.2.2.2.1 x.2.2.2.2.2.2.2.2.2.2.1 (fun r1 r2 r3 r4 r5 r6 r7 r8 r9 r10 r11 => K (.tup [.agg [.sl 0, .sl 1, .sl 2, .sl 3, .int .i64 r1, .sl 4, .int .i64 r2, .sl 5, .int .i64 r3, .bool r4], .bool r5]) [⟨true, .list .int r6⟩, ⟨true, .list .int r7⟩, ⟨true, .list .int r8⟩, ⟨true, .list .int r9⟩, ⟨true, .list .int r10⟩, ⟨true, .list .op r11⟩])
def G21 := rdG K21 B21
noncomputable def H21_0 := mkH [(1, .bl), (2, .pc [.own .int, .own .int, .own .int, .own .int, .x, .own .int, .x, .own .op, .x, .bl]), (4, .pc [.own .int, .own .int, .own .int, .own .int, .x, .own .int, .x, .own .op, .x, .bl])] [.b, .Q 0, .Q 1, .bC true, .L 2, .L 3, .L 4, .L 5, .i .i64, .L 6, .i .i64, .L 7, .i .i64, .b, .E, .bC true, .L 8, .L 9, .L 10, .L 11, .i .i64, .L 12, .i .i64, .L 13, .i .i64, .b, .E, .bL true .int, .bL true .int, .bL true .int, .bL true .int, .bL true .int, .bL true .op, .bL true .int, .bL true .int, .bL true .int, .bL true .int, .bL true .int, .bL true .op]
noncomputable def H21_2 := mkH [(2, .pc [.own .int, .own .int, .own .int, .own .int, .x, .own .int, .x, .own .op, .x, .bl]), (4, .pc [.own .int, .own .int, .own .int, .own .int, .x, .own .int, .x, .own .op, .x, .bl]), (8, .x)] [.Q 0, .Q 1, .i .i64, .bC true, .L 2, .L 3, .L 4, .L 5, .i .i64, .L 6, .i .i64, .L 7, .i .i64, .b, .E, .bC true, .L 8, .L 9, .L 10, .L 11, .i .i64, .L 12, .i .i64, .L 13, .i .i64, .b, .E, .bL true .int, .bL true .int, .bL true .int, .bL true .int, .bL true .int, .bL true .op, .bL true .int, .bL true .int, .bL true .int, .bL true .int, .bL true .int, .bL true .op]
noncomputable def H21 : List (Nat × LH) := [(0, H21_0), (2, H21_2)]
def W21 : List (Nat × List (Nat × List Nat)) := []
def Γ21 : List (Nat × Con) := [(45, Uc45), (47, Uc47), (48, Uc48), (49, Uc49)]
theorem e21 : Eqn PP 48 Γ21 H21 W21 (bodyOf Tryz.f21) [.cell 4 32, .tmp 5] [.ag [.own .int, .own .int, .own .int, .own .int, .x, .own .int, .x, .own .op, .x, .bl], .bl] [] K21 B21 := fun _ _ _ _ _ _ _ _ _ _ _ K => by kernel_rfl
theorem s21 : CSound PP 21 G21 := fun_sk mixed Tryz.func21 (by decide) (by kernel_rfl) Tryz.ntmps21 Tryz.results21 (.cons u45 (.cons u47 (.cons u48 (.cons u49 (GSound.nil))))) e21
def Uc21 := useC [.ag [.pure .int, .pure .int, .pure .int, .pure .int, .x, .pure .int, .x, .pure .op, .x, .bl], .bl] G21
theorem u21 : CSound PP 21 Uc21 := useC_ok s21
/-! laws.FnEverySchedule -/
def K7 : List Tok := [.s, .s, .s]
def B7 : Body K7 := fun x K => Ml_FnEverySchedule x.1 x.2.1 x.2.2.1 (fun r1 => K (.bool r1) [])
def G7 := rdG K7 B7
noncomputable def H7_1000004 := mkH [(0, .x), (1, .x), (2, .x), (7, .pc [.own .int, .own .int, .own .int]), (8, .bl), (9, .own .op), (10, .bl), (12, .bl)] [.s, .s, .s, .Q 0, .b, .L 1, .b, .b, .bC true, .L 2, .L 3, .L 4, .E, .bL true .op, .bL true .int, .bL true .int, .bL true .int]
noncomputable def H7_1000007 := mkH [(2, .x), (7, .pc [.own .int, .own .int, .own .int]), (8, .bl), (9, .own .op)] [.s, .Q 0, .b, .L 1, .bC true, .L 2, .L 3, .L 4, .E, .bL true .op, .bL true .int, .bL true .int, .bL true .int]
noncomputable def H7_1000010 := mkH [(2, .x), (8, .bl), (9, .own .op), (16, .bl), (17, .pc [.own .int, .own .int, .own .int, .own .int, .x, .own .int, .x, .own .op, .x, .bl]), (18, .bl), (19, .pc [.own .int, .own .int, .own .int, .own .int, .x, .own .int, .x, .own .op, .x, .bl]), (20, .bl)] [.s, .b, .L 0, .b, .Q 1, .b, .Q 2, .b, .bL true .op, .bC true, .L 3, .L 4, .L 5, .L 6, .i .i64, .L 7, .i .i64, .L 8, .i .i64, .b, .E, .bC true, .L 9, .L 10, .L 11, .L 12, .i .i64, .L 13, .i .i64, .L 14, .i .i64, .b, .E, .bL true .int, .bL true .int, .bL true .int, .bL true .int, .bL true .int, .bL true .op, .bL true .int, .bL true .int, .bL true .int, .bL true .int, .bL true .int, .bL true .op]
noncomputable def H7_1000015 := mkH [(9, .own .op), (19, .pc [.own .int, .own .int, .own .int, .own .int, .x, .own .int, .x, .own .op, .x, .bl])] [.L 0, .Q 1, .bL true .op, .bC true, .L 2, .L 3, .L 4, .L 5, .i .i64, .L 6, .i .i64, .L 7, .i .i64, .b, .E, .bL true .int, .bL true .int, .bL true .int, .bL true .int, .bL true .int, .bL true .op]
noncomputable def H7 : List (Nat × LH) := [(1000004, H7_1000004), (1000007, H7_1000007), (1000010, H7_1000010), (1000015, H7_1000015)]
def W7 : List (Nat × List (Nat × List Nat)) := []
def Γ7 : List (Nat × Con) := [(31, Uc31), (32, Uc32), (33, Uc33), (34, Uc34), (23, Uc23), (35, Uc35), (36, Uc36), (37, Uc37), (13, Uc13), (38, Uc38), (39, Uc39), (40, Uc40), (21, Uc21), (41, Uc41)]
def S7_15 (s : H7_1000015.S) (K : TV → TMem → Prop) : Prop := Ml_FnEverySchedule_c15 s.1 s.2.1 s.2.2.1 s.2.2.2.1 s.2.2.2.2.1 s.2.2.2.2.2.1 s.2.2.2.2.2.2.1 s.2.2.2.2.2.2.2.1 s.2.2.2.2.2.2.2.2.1 s.2.2.2.2.2.2.2.2.2.1 s.2.2.2.2.2.2.2.2.2.2 (fun r1 => K (.bool r1) [])
def J7_15 (K : TV → TMem → Prop) (ts : TFrm) (tm : TMem) : Prop := headT 0 H7_1000015 ts tm fun s => S7_15 s K
theorem q7_15 (s : H7_1000015.S) (K : TV → TMem → Prop) : segT PP 157 Γ7 H7 W7 0 (sufC 12 (bodyOf Tryz.f7)) (endT PP 157 [.tmp 6] [.bl] [] 0 K) (frameOf H7_1000015.keep (H7_1000015.enc s).1) (H7_1000015.enc s).2 = S7_15 s K := by kernel_rfl
theorem j7_15 (K : TV → TMem → Prop) (ts : TFrm) (tm : TMem) : J7_15 K ts tm = TW PP 157 Γ7 H7 W7 0 (sufC 12 (bodyOf Tryz.f7)) (endT PP 157 [.tmp 6] [.bl] [] 0 K) ts tm :=
  TW_seg (by kernel_rfl : regOf (sufC 12 (bodyOf Tryz.f7)) = some 15) (by kernel_rfl) (fun s => q7_15 s K) ts tm
def S7_10 (s : H7_1000010.S) (K : TV → TMem → Prop) : Prop := Ml_FnEverySchedule_c10 s.1 s.2.1 s.2.2.1 s.2.2.2.1 s.2.2.2.2.1 s.2.2.2.2.2.1 s.2.2.2.2.2.2.1 s.2.2.2.2.2.2.2.1 s.2.2.2.2.2.2.2.2.1 s.2.2.2.2.2.2.2.2.2.1 s.2.2.2.2.2.2.2.2.2.2.1 s.2.2.2.2.2.2.2.2.2.2.2.1 s.2.2.2.2.2.2.2.2.2.2.2.2.1 s.2.2.2.2.2.2.2.2.2.2.2.2.2.1 s.2.2.2.2.2.2.2.2.2.2.2.2.2.2.1 s.2.2.2.2.2.2.2.2.2.2.2.2.2.2.2.1 s.2.2.2.2.2.2.2.2.2.2.2.2.2.2.2.2.1 s.2.2.2.2.2.2.2.2.2.2.2.2.2.2.2.2.2.1 s.2.2.2.2.2.2.2.2.2.2.2.2.2.2.2.2.2.2.1 s.2.2.2.2.2.2.2.2.2.2.2.2.2.2.2.2.2.2.2.1 s.2.2.2.2.2.2.2.2.2.2.2.2.2.2.2.2.2.2.2.2.1 s.2.2.2.2.2.2.2.2.2.2.2.2.2.2.2.2.2.2.2.2.2.1 s.2.2.2.2.2.2.2.2.2.2.2.2.2.2.2.2.2.2.2.2.2.2.1 s.2.2.2.2.2.2.2.2.2.2.2.2.2.2.2.2.2.2.2.2.2.2.2.1 s.2.2.2.2.2.2.2.2.2.2.2.2.2.2.2.2.2.2.2.2.2.2.2.2.1 s.2.2.2.2.2.2.2.2.2.2.2.2.2.2.2.2.2.2.2.2.2.2.2.2.2 (fun r1 => K (.bool r1) [])
def J7_10 (K : TV → TMem → Prop) (ts : TFrm) (tm : TMem) : Prop := headT 0 H7_1000010 ts tm fun s => S7_10 s K
theorem r7_10 (s : H7_1000010.S) (K : TV → TMem → Prop) : segN PP 157 Γ7 H7 W7 0 2 (sufC 9 (bodyOf Tryz.f7)) (J7_15 K) (endT PP 157 [.tmp 6] [.bl] [] 0 K) (frameOf H7_1000010.keep (H7_1000010.enc s).1) (H7_1000010.enc s).2 = S7_10 s K := by kernel_rfl
theorem q7_10 (s : H7_1000010.S) (K : TV → TMem → Prop) : segT PP 157 Γ7 H7 W7 0 (sufC 9 (bodyOf Tryz.f7)) (endT PP 157 [.tmp 6] [.bl] [] 0 K) (frameOf H7_1000010.keep (H7_1000010.enc s).1) (H7_1000010.enc s).2 = S7_10 s K :=
  (segN_eq (by kernel_rfl) fun ts tm => (j7_15 K ts tm).trans (congrArg (fun c => TW PP 157 Γ7 H7 W7 0 c (endT PP 157 [.tmp 6] [.bl] [] 0 K) ts tm) (sufC_split 9 2 12 rfl _))).trans (r7_10 s K)
theorem j7_10 (K : TV → TMem → Prop) (ts : TFrm) (tm : TMem) : J7_10 K ts tm = TW PP 157 Γ7 H7 W7 0 (sufC 9 (bodyOf Tryz.f7)) (endT PP 157 [.tmp 6] [.bl] [] 0 K) ts tm :=
  TW_seg (by kernel_rfl : regOf (sufC 9 (bodyOf Tryz.f7)) = some 10) (by kernel_rfl) (fun s => q7_10 s K) ts tm
def S7_7 (s : H7_1000007.S) (K : TV → TMem → Prop) : Prop := Ml_FnEverySchedule_c7 s.1 s.2.1 s.2.2.1 s.2.2.2.1 s.2.2.2.2.1 s.2.2.2.2.2 (fun r1 => K (.bool r1) [])
def J7_7 (K : TV → TMem → Prop) (ts : TFrm) (tm : TMem) : Prop := headT 0 H7_1000007 ts tm fun s => S7_7 s K
theorem r7_7 (s : H7_1000007.S) (K : TV → TMem → Prop) : segN PP 157 Γ7 H7 W7 0 2 (sufC 6 (bodyOf Tryz.f7)) (J7_10 K) (endT PP 157 [.tmp 6] [.bl] [] 0 K) (frameOf H7_1000007.keep (H7_1000007.enc s).1) (H7_1000007.enc s).2 = S7_7 s K := by kernel_rfl
theorem q7_7 (s : H7_1000007.S) (K : TV → TMem → Prop) : segT PP 157 Γ7 H7 W7 0 (sufC 6 (bodyOf Tryz.f7)) (endT PP 157 [.tmp 6] [.bl] [] 0 K) (frameOf H7_1000007.keep (H7_1000007.enc s).1) (H7_1000007.enc s).2 = S7_7 s K :=
  (segN_eq (by kernel_rfl) fun ts tm => (j7_10 K ts tm).trans (congrArg (fun c => TW PP 157 Γ7 H7 W7 0 c (endT PP 157 [.tmp 6] [.bl] [] 0 K) ts tm) (sufC_split 6 2 9 rfl _))).trans (r7_7 s K)
theorem j7_7 (K : TV → TMem → Prop) (ts : TFrm) (tm : TMem) : J7_7 K ts tm = TW PP 157 Γ7 H7 W7 0 (sufC 6 (bodyOf Tryz.f7)) (endT PP 157 [.tmp 6] [.bl] [] 0 K) ts tm :=
  TW_seg (by kernel_rfl : regOf (sufC 6 (bodyOf Tryz.f7)) = some 7) (by kernel_rfl) (fun s => q7_7 s K) ts tm
def S7_4 (s : H7_1000004.S) (K : TV → TMem → Prop) : Prop := Ml_FnEverySchedule_c4 s.1 s.2.1 s.2.2.1 s.2.2.2.1 s.2.2.2.2.1 s.2.2.2.2.2.1 s.2.2.2.2.2.2.1 s.2.2.2.2.2.2.2.1 s.2.2.2.2.2.2.2.2.1 s.2.2.2.2.2.2.2.2.2 (fun r1 => K (.bool r1) [])
def J7_4 (K : TV → TMem → Prop) (ts : TFrm) (tm : TMem) : Prop := headT 0 H7_1000004 ts tm fun s => S7_4 s K
theorem r7_4 (s : H7_1000004.S) (K : TV → TMem → Prop) : segN PP 157 Γ7 H7 W7 0 1 (sufC 4 (bodyOf Tryz.f7)) (J7_7 K) (endT PP 157 [.tmp 6] [.bl] [] 0 K) (frameOf H7_1000004.keep (H7_1000004.enc s).1) (H7_1000004.enc s).2 = S7_4 s K := by kernel_rfl
theorem q7_4 (s : H7_1000004.S) (K : TV → TMem → Prop) : segT PP 157 Γ7 H7 W7 0 (sufC 4 (bodyOf Tryz.f7)) (endT PP 157 [.tmp 6] [.bl] [] 0 K) (frameOf H7_1000004.keep (H7_1000004.enc s).1) (H7_1000004.enc s).2 = S7_4 s K :=
  (segN_eq (by kernel_rfl) fun ts tm => (j7_7 K ts tm).trans (congrArg (fun c => TW PP 157 Γ7 H7 W7 0 c (endT PP 157 [.tmp 6] [.bl] [] 0 K) ts tm) (sufC_split 4 1 6 rfl _))).trans (r7_4 s K)
theorem j7_4 (K : TV → TMem → Prop) (ts : TFrm) (tm : TMem) : J7_4 K ts tm = TW PP 157 Γ7 H7 W7 0 (sufC 4 (bodyOf Tryz.f7)) (endT PP 157 [.tmp 6] [.bl] [] 0 K) ts tm :=
  TW_seg (by kernel_rfl : regOf (sufC 4 (bodyOf Tryz.f7)) = some 4) (by kernel_rfl) (fun s => q7_4 s K) ts tm
theorem ea7 : AllL (lvs K7) fun x => ∀ K, TWn PP 157 Γ7 H7 W7 0 4 (bodyOf Tryz.f7) (J7_4 K) (endT PP 157 [.tmp 6] [.bl] [] 0 K) (argsF (wr K7 x).1) (wr K7 x).2.2 = B7 x K := fun _ _ _ K => by kernel_rfl
theorem e7 : Eqn PP 157 Γ7 H7 W7 (bodyOf Tryz.f7) [.tmp 6] [.bl] [] K7 B7 := fun x0 x1 x2 K =>
  (congrFun (congrFun (TWn_eq 4 _ (by kernel_rfl) fun ts tm => j7_4 K ts tm) _) _).trans (ea7 x0 x1 x2 K)
theorem s7 : CSound PP 7 G7 := fun_sk mixed Tryz.func7 (by decide) (by kernel_rfl) Tryz.ntmps7 Tryz.results7 (.cons u31 (.cons u32 (.cons u33 (.cons u34 (.cons u23 (.cons u35 (.cons u36 (.cons u37 (.cons u13 (.cons u38 (.cons u39 (.cons u40 (.cons u21 (.cons u41 (GSound.nil))))))))))))))) e7
def Uc7 := useC [.x, .x, .x] G7
theorem u7 : CSound PP 7 Uc7 := useC_ok s7
end Go.Ab
