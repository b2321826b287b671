/-
  What is proved here: that the typed models of functions of the translated program are sound.
-/
import Derived.Test.YtmpnapfbgfpllaaGM
import Derived.Test.YtmpnapfbgfpllaaProg
import Derived.KernelRfl
namespace Go.Ab
set_option linter.unusedVariables false
open Go.Proofs
noncomputable abbrev PP : Program := Try.prog
theorem mixed : PP.follows .mixedOrders = true := by kernel_rfl
/-! spec.l1Ints -/
def G51 : Con := fun args tm K => dCons args fun a1_ r2_ => dPl .int a1_ fun p1 => dCons r2_ fun a3_ r4_ => dPl .int a3_ fun p2 => dNil r4_ <| dEnd tm <| Ms_l1Ints p1 p2 (fun r1 => K (.bool r1) [])
def H51_0 : LH where
  keep := [(0, .pure .int), (1, .pure .int), (5, .x)]
  S := List Int × List Int × Int
  enc := fun s => ([.pl .int s.1, .pl .int s.2.1, .int .i64 s.2.2], [])
  dec := fun vs tm K => dCons vs fun a1_ r2_ => dPl .int a1_ fun q0 => dCons r2_ fun a3_ r4_ => dPl .int a3_ fun q1 => dCons r4_ fun a5_ r6_ => dInt .i64 a5_ fun q2 => dNil r6_ <| dEnd tm <| K (q0, q1, q2)
  law := by
    intro vs tm K h
    replace h := dCons_ok h; obtain ⟨a1_, r2_, rfl, h⟩ := h
    replace h := dPl_ok h; obtain ⟨q0, rfl, h⟩ := h
    replace h := dCons_ok h; obtain ⟨a3_, r4_, rfl, h⟩ := h
    replace h := dPl_ok h; obtain ⟨q1, rfl, h⟩ := h
    replace h := dCons_ok h; obtain ⟨a5_, r6_, rfl, h⟩ := h
    replace h := dInt_ok h; obtain ⟨q2, rfl, h⟩ := h
    replace h := dNil_ok h; obtain ⟨rfl, h⟩ := h
    replace h := dEnd_ok h; obtain ⟨rfl, h⟩ := h
    exact ⟨(q0, q1, q2), rfl, h⟩
def H51 : List (Nat × LH) := [(0, H51_0)]
def W51 : List (Nat × List (Nat × List Nat)) := []
def Γ51 : List (Nat × Con) := []
theorem e51 (p1 : List Int) (p2 : List Int) (K : TV → TMem → Prop) : TW PP 26 Γ51 H51 W51 (List.length ([] : TMem)) (bodyOf Try.f51) (endT PP 26 [.tmp 4] [.bl] [] (List.length ([] : TMem)) K) (argsF [.pl .int p1, .pl .int p2]) [] =
    Ms_l1Ints p1 p2 (fun r1 => K (.bool r1) []) := by kernel_rfl
theorem s51 : CSound PP 51 G51 := by
  intro args K c h fl A aargs hA hN R hl
  unfold G51 at h
  generalize ht : c.tm = tm at h
  replace h := dCons_ok h; obtain ⟨a1_, r2_, rfl, h⟩ := h
  replace h := dPl_ok h; obtain ⟨p1, rfl, h⟩ := h
  replace h := dCons_ok h; obtain ⟨a3_, r4_, rfl, h⟩ := h
  replace h := dPl_ok h; obtain ⟨p2, rfl, h⟩ := h
  replace h := dNil_ok h; obtain ⟨rfl, h⟩ := h
  replace h := dEnd_ok h; obtain ⟨rfl, h⟩ := h
  refine fun_ok (nt := 26) (x := bodyOf Try.f51) (Γ := Γ51) (H := H51) (WW := W51) (rs := [.tmp 4]) (shs := [.bl]) (cons := []) mixed Try.func51 (by decide) (by kernel_rfl) Try.ntmps51 Try.results51 (GSound.nil) ?_ hA hN R hl
  rw [ht, e51 p1 p2 K]
  exact h
/-! slices.Equal[[]int,int] -/
def G55 : Con := fun args tm K => dCons args fun a1_ r2_ => dPl .int a1_ fun p1 => dCons r2_ fun a3_ r4_ => dPl .int a3_ fun p2 => dNil r4_ <| dEnd tm <| M_Equal_int p1 p2 (fun r1 => K (.bool r1) [])
def H55_0 : LH where
  keep := [(0, .pure .int), (1, .pure .int), (12, .x), (13, .x)]
  S := List Int × List Int × Int × Int
  enc := fun s => ([.pl .int s.1, .pl .int s.2.1, .int .i64 s.2.2.1, .int .i64 s.2.2.2], [])
  dec := fun vs tm K => dCons vs fun a1_ r2_ => dPl .int a1_ fun q0 => dCons r2_ fun a3_ r4_ => dPl .int a3_ fun q1 => dCons r4_ fun a5_ r6_ => dInt .i64 a5_ fun q2 => dCons r6_ fun a7_ r8_ => dInt .i64 a7_ fun q3 => dNil r8_ <| dEnd tm <| K (q0, q1, q2, q3)
  law := by
    intro vs tm K h
    replace h := dCons_ok h; obtain ⟨a1_, r2_, rfl, h⟩ := h
    replace h := dPl_ok h; obtain ⟨q0, rfl, h⟩ := h
    replace h := dCons_ok h; obtain ⟨a3_, r4_, rfl, h⟩ := h
    replace h := dPl_ok h; obtain ⟨q1, rfl, h⟩ := h
    replace h := dCons_ok h; obtain ⟨a5_, r6_, rfl, h⟩ := h
    replace h := dInt_ok h; obtain ⟨q2, rfl, h⟩ := h
    replace h := dCons_ok h; obtain ⟨a7_, r8_, rfl, h⟩ := h
    replace h := dInt_ok h; obtain ⟨q3, rfl, h⟩ := h
    replace h := dNil_ok h; obtain ⟨rfl, h⟩ := h
    replace h := dEnd_ok h; obtain ⟨rfl, h⟩ := h
    exact ⟨(q0, q1, q2, q3), rfl, h⟩
def H55 : List (Nat × LH) := [(0, H55_0)]
def W55 : List (Nat × List (Nat × List Nat)) := []
def Γ55 : List (Nat × Con) := []
theorem e55 (p1 : List Int) (p2 : List Int) (K : TV → TMem → Prop) : TW PP 26 Γ55 H55 W55 (List.length ([] : TMem)) (bodyOf Try.f55) (endT PP 26 [.tmp 4] [.bl] [] (List.length ([] : TMem)) K) (argsF [.pl .int p1, .pl .int p2]) [] =
    M_Equal_int p1 p2 (fun r1 => K (.bool r1) []) := by kernel_rfl
theorem s55 : CSound PP 55 G55 := by
  intro args K c h fl A aargs hA hN R hl
  unfold G55 at h
  generalize ht : c.tm = tm at h
  replace h := dCons_ok h; obtain ⟨a1_, r2_, rfl, h⟩ := h
  replace h := dPl_ok h; obtain ⟨p1, rfl, h⟩ := h
  replace h := dCons_ok h; obtain ⟨a3_, r4_, rfl, h⟩ := h
  replace h := dPl_ok h; obtain ⟨p2, rfl, h⟩ := h
  replace h := dNil_ok h; obtain ⟨rfl, h⟩ := h
  replace h := dEnd_ok h; obtain ⟨rfl, h⟩ := h
  refine fun_ok (nt := 26) (x := bodyOf Try.f55) (Γ := Γ55) (H := H55) (WW := W55) (rs := [.tmp 4]) (shs := [.bl]) (cons := []) mixed Try.func55 (by decide) (by kernel_rfl) Try.ntmps55 Try.results55 (GSound.nil) ?_ hA hN R hl
  rw [ht, e55 p1 p2 K]
  exact h
/-! impl.HeapSame -/
def G53 : Con := fun args tm K => dCons args fun a1_ r2_ => dAgg a1_ fun l3_ => dCons l3_ fun a4_ r5_ => dPl .int a4_ fun p1 => dCons r5_ fun a6_ r7_ => dPl .int a6_ fun p2 => dCons r7_ fun a8_ r9_ => dPl .int a8_ fun p3 => dNil r9_ <| dCons r2_ fun a10_ r11_ => dAgg a10_ fun l12_ => dCons l12_ fun a13_ r14_ => dPl .int a13_ fun p4 => dCons r14_ fun a15_ r16_ => dPl .int a15_ fun p5 => dCons r16_ fun a17_ r18_ => dPl .int a17_ fun p6 => dNil r18_ <| dNil r11_ <| dEnd tm <| Mi_HeapSame p1 p2 p3 p4 p5 p6 (fun r1 => K (.bool r1) [])
def H53 : List (Nat × LH) := []
def W53 : List (Nat × List (Nat × List Nat)) := []
def Γ53 : List (Nat × Con) := [(55, useC [.pure .int, .pure .int] G55)]
theorem e53 (p1 : List Int) (p2 : List Int) (p3 : List Int) (p4 : List Int) (p5 : List Int) (p6 : List Int) (K : TV → TMem → Prop) : TW PP 24 Γ53 H53 W53 (List.length ([] : TMem)) (bodyOf Try.f53) (endT PP 24 [.tmp 4] [.bl] [] (List.length ([] : TMem)) K) (argsF [.agg [.pl .int p1, .pl .int p2, .pl .int p3], .agg [.pl .int p4, .pl .int p5, .pl .int p6]]) [] =
    Mi_HeapSame p1 p2 p3 p4 p5 p6 (fun r1 => K (.bool r1) []) := by kernel_rfl
theorem s53 : CSound PP 53 G53 := by
  intro args K c h fl A aargs hA hN R hl
  unfold G53 at h
  generalize ht : c.tm = tm at h
  replace h := dCons_ok h; obtain ⟨a1_, r2_, rfl, h⟩ := h
  replace h := dAgg_ok h; obtain ⟨l3_, rfl, h⟩ := h
  replace h := dCons_ok h; obtain ⟨a4_, r5_, rfl, h⟩ := h
  replace h := dPl_ok h; obtain ⟨p1, rfl, h⟩ := h
  replace h := dCons_ok h; obtain ⟨a6_, r7_, rfl, h⟩ := h
  replace h := dPl_ok h; obtain ⟨p2, rfl, h⟩ := h
  replace h := dCons_ok h; obtain ⟨a8_, r9_, rfl, h⟩ := h
  replace h := dPl_ok h; obtain ⟨p3, rfl, h⟩ := h
  replace h := dNil_ok h; obtain ⟨rfl, h⟩ := h
  replace h := dCons_ok h; obtain ⟨a10_, r11_, rfl, h⟩ := h
  replace h := dAgg_ok h; obtain ⟨l12_, rfl, h⟩ := h
  replace h := dCons_ok h; obtain ⟨a13_, r14_, rfl, h⟩ := h
  replace h := dPl_ok h; obtain ⟨p4, rfl, h⟩ := h
  replace h := dCons_ok h; obtain ⟨a15_, r16_, rfl, h⟩ := h
  replace h := dPl_ok h; obtain ⟨p5, rfl, h⟩ := h
  replace h := dCons_ok h; obtain ⟨a17_, r18_, rfl, h⟩ := h
  replace h := dPl_ok h; obtain ⟨p6, rfl, h⟩ := h
  replace h := dNil_ok h; obtain ⟨rfl, h⟩ := h
  replace h := dNil_ok h; obtain ⟨rfl, h⟩ := h
  replace h := dEnd_ok h; obtain ⟨rfl, h⟩ := h
  refine fun_ok (nt := 24) (x := bodyOf Try.f53) (Γ := Γ53) (H := H53) (WW := W53) (rs := [.tmp 4]) (shs := [.bl]) (cons := []) mixed Try.func53 (by decide) (by kernel_rfl) Try.ntmps53 Try.results53 (.cons (useC_ok s55) (GSound.nil)) ?_ hA hN R hl
  rw [ht, e53 p1 p2 p3 p4 p5 p6 K]
  exact h
/-! slices.Equal[[]bool,bool] -/
def G54 : Con := fun args tm K => dCons args fun a1_ r2_ => dPl .bool a1_ fun p1 => dCons r2_ fun a3_ r4_ => dPl .bool a3_ fun p2 => dNil r4_ <| dEnd tm <| M_Equal_bool p1 p2 (fun r1 => K (.bool r1) [])
def H54_0 : LH where
  keep := [(0, .pure .bool), (1, .pure .bool), (12, .x), (13, .x)]
  S := List Bool × List Bool × Int × Int
  enc := fun s => ([.pl .bool s.1, .pl .bool s.2.1, .int .i64 s.2.2.1, .int .i64 s.2.2.2], [])
  dec := fun vs tm K => dCons vs fun a1_ r2_ => dPl .bool a1_ fun q0 => dCons r2_ fun a3_ r4_ => dPl .bool a3_ fun q1 => dCons r4_ fun a5_ r6_ => dInt .i64 a5_ fun q2 => dCons r6_ fun a7_ r8_ => dInt .i64 a7_ fun q3 => dNil r8_ <| dEnd tm <| K (q0, q1, q2, q3)
  law := by
    intro vs tm K h
    replace h := dCons_ok h; obtain ⟨a1_, r2_, rfl, h⟩ := h
    replace h := dPl_ok h; obtain ⟨q0, rfl, h⟩ := h
    replace h := dCons_ok h; obtain ⟨a3_, r4_, rfl, h⟩ := h
    replace h := dPl_ok h; obtain ⟨q1, rfl, h⟩ := h
    replace h := dCons_ok h; obtain ⟨a5_, r6_, rfl, h⟩ := h
    replace h := dInt_ok h; obtain ⟨q2, rfl, h⟩ := h
    replace h := dCons_ok h; obtain ⟨a7_, r8_, rfl, h⟩ := h
    replace h := dInt_ok h; obtain ⟨q3, rfl, h⟩ := h
    replace h := dNil_ok h; obtain ⟨rfl, h⟩ := h
    replace h := dEnd_ok h; obtain ⟨rfl, h⟩ := h
    exact ⟨(q0, q1, q2, q3), rfl, h⟩
def H54 : List (Nat × LH) := [(0, H54_0)]
def W54 : List (Nat × List (Nat × List Nat)) := []
def Γ54 : List (Nat × Con) := []
theorem e54 (p1 : List Bool) (p2 : List Bool) (K : TV → TMem → Prop) : TW PP 26 Γ54 H54 W54 (List.length ([] : TMem)) (bodyOf Try.f54) (endT PP 26 [.tmp 4] [.bl] [] (List.length ([] : TMem)) K) (argsF [.pl .bool p1, .pl .bool p2]) [] =
    M_Equal_bool p1 p2 (fun r1 => K (.bool r1) []) := by kernel_rfl
theorem s54 : CSound PP 54 G54 := by
  intro args K c h fl A aargs hA hN R hl
  unfold G54 at h
  generalize ht : c.tm = tm at h
  replace h := dCons_ok h; obtain ⟨a1_, r2_, rfl, h⟩ := h
  replace h := dPl_ok h; obtain ⟨p1, rfl, h⟩ := h
  replace h := dCons_ok h; obtain ⟨a3_, r4_, rfl, h⟩ := h
  replace h := dPl_ok h; obtain ⟨p2, rfl, h⟩ := h
  replace h := dNil_ok h; obtain ⟨rfl, h⟩ := h
  replace h := dEnd_ok h; obtain ⟨rfl, h⟩ := h
  refine fun_ok (nt := 26) (x := bodyOf Try.f54) (Γ := Γ54) (H := H54) (WW := W54) (rs := [.tmp 4]) (shs := [.bl]) (cons := []) mixed Try.func54 (by decide) (by kernel_rfl) Try.ntmps54 Try.results54 (GSound.nil) ?_ hA hN R hl
  rw [ht, e54 p1 p2 K]
  exact h
/-! impl.GensSame -/
def G18 : Con := fun args tm K => dCons args fun a1_ r2_ => dAgg a1_ fun l3_ => dCons l3_ fun a4_ r5_ => dPl .int a4_ fun p1 => dCons r5_ fun a6_ r7_ => dPl .int a6_ fun p2 => dCons r7_ fun a8_ r9_ => dPl .int a8_ fun p3 => dCons r9_ fun a10_ r11_ => dPl .bool a10_ fun p4 => dCons r11_ fun a12_ r13_ => dPl .int a12_ fun p5 => dNil r13_ <| dCons r2_ fun a14_ r15_ => dAgg a14_ fun l16_ => dCons l16_ fun a17_ r18_ => dPl .int a17_ fun p6 => dCons r18_ fun a19_ r20_ => dPl .int a19_ fun p7 => dCons r20_ fun a21_ r22_ => dPl .int a21_ fun p8 => dCons r22_ fun a23_ r24_ => dPl .bool a23_ fun p9 => dCons r24_ fun a25_ r26_ => dPl .int a25_ fun p10 => dNil r26_ <| dNil r15_ <| dEnd tm <| Mi_GensSame p1 p2 p3 p4 p5 p6 p7 p8 p9 p10 (fun r1 => K (.bool r1) [])
def H18 : List (Nat × LH) := []
def W18 : List (Nat × List (Nat × List Nat)) := []
def Γ18 : List (Nat × Con) := [(53, useC [.ag [.pure .int, .pure .int, .pure .int], .ag [.pure .int, .pure .int, .pure .int]] G53), (54, useC [.pure .bool, .pure .bool] G54), (55, useC [.pure .int, .pure .int] G55)]
theorem e18 (p1 : List Int) (p2 : List Int) (p3 : List Int) (p4 : List Bool) (p5 : List Int) (p6 : List Int) (p7 : List Int) (p8 : List Int) (p9 : List Bool) (p10 : List Int) (K : TV → TMem → Prop) : TW PP 24 Γ18 H18 W18 (List.length ([] : TMem)) (bodyOf Try.f18) (endT PP 24 [.tmp 4] [.bl] [] (List.length ([] : TMem)) K) (argsF [.agg [.pl .int p1, .pl .int p2, .pl .int p3, .pl .bool p4, .pl .int p5], .agg [.pl .int p6, .pl .int p7, .pl .int p8, .pl .bool p9, .pl .int p10]]) [] =
    Mi_GensSame p1 p2 p3 p4 p5 p6 p7 p8 p9 p10 (fun r1 => K (.bool r1) []) := by kernel_rfl
theorem s18 : CSound PP 18 G18 := by
  intro args K c h fl A aargs hA hN R hl
  unfold G18 at h
  generalize ht : c.tm = tm at h
  replace h := dCons_ok h; obtain ⟨a1_, r2_, rfl, h⟩ := h
  replace h := dAgg_ok h; obtain ⟨l3_, rfl, h⟩ := h
  replace h := dCons_ok h; obtain ⟨a4_, r5_, rfl, h⟩ := h
  replace h := dPl_ok h; obtain ⟨p1, rfl, h⟩ := h
  replace h := dCons_ok h; obtain ⟨a6_, r7_, rfl, h⟩ := h
  replace h := dPl_ok h; obtain ⟨p2, rfl, h⟩ := h
  replace h := dCons_ok h; obtain ⟨a8_, r9_, rfl, h⟩ := h
  replace h := dPl_ok h; obtain ⟨p3, rfl, h⟩ := h
  replace h := dCons_ok h; obtain ⟨a10_, r11_, rfl, h⟩ := h
  replace h := dPl_ok h; obtain ⟨p4, rfl, h⟩ := h
  replace h := dCons_ok h; obtain ⟨a12_, r13_, rfl, h⟩ := h
  replace h := dPl_ok h; obtain ⟨p5, rfl, h⟩ := h
  replace h := dNil_ok h; obtain ⟨rfl, h⟩ := h
  replace h := dCons_ok h; obtain ⟨a14_, r15_, rfl, h⟩ := h
  replace h := dAgg_ok h; obtain ⟨l16_, rfl, h⟩ := h
  replace h := dCons_ok h; obtain ⟨a17_, r18_, rfl, h⟩ := h
  replace h := dPl_ok h; obtain ⟨p6, rfl, h⟩ := h
  replace h := dCons_ok h; obtain ⟨a19_, r20_, rfl, h⟩ := h
  replace h := dPl_ok h; obtain ⟨p7, rfl, h⟩ := h
  replace h := dCons_ok h; obtain ⟨a21_, r22_, rfl, h⟩ := h
  replace h := dPl_ok h; obtain ⟨p8, rfl, h⟩ := h
  replace h := dCons_ok h; obtain ⟨a23_, r24_, rfl, h⟩ := h
  replace h := dPl_ok h; obtain ⟨p9, rfl, h⟩ := h
  replace h := dCons_ok h; obtain ⟨a25_, r26_, rfl, h⟩ := h
  replace h := dPl_ok h; obtain ⟨p10, rfl, h⟩ := h
  replace h := dNil_ok h; obtain ⟨rfl, h⟩ := h
  replace h := dNil_ok h; obtain ⟨rfl, h⟩ := h
  replace h := dEnd_ok h; obtain ⟨rfl, h⟩ := h
  refine fun_ok (nt := 24) (x := bodyOf Try.f18) (Γ := Γ18) (H := H18) (WW := W18) (rs := [.tmp 4]) (shs := [.bl]) (cons := []) mixed Try.func18 (by decide) (by kernel_rfl) Try.ntmps18 Try.results18 (.cons (useC_ok s53) (.cons (useC_ok s54) (.cons (useC_ok s55) (GSound.nil)))) ?_ hA hN R hl
  rw [ht, e18 p1 p2 p3 p4 p5 p6 p7 p8 p9 p10 K]
  exact h
/-! spec.l13Open -/
def G57 : Con := fun args tm K => dCons args fun a1_ r2_ => dPl .byte a1_ fun p1 => dNil r2_ <| dEnd tm <| Ms_l13Open p1 (fun r1 r2 => K (.ptr 0 0) [⟨true, .cells [.pl .byte r1, .int .i64 r2]⟩])
def H57 : List (Nat × LH) := []
def W57 : List (Nat × List (Nat × List Nat)) := []
def Γ57 : List (Nat × Con) := []
theorem e57 (p1 : List Int) (K : TV → TMem → Prop) : TW PP 11 Γ57 H57 W57 (List.length ([] : TMem)) (bodyOf Try.f57) (endT PP 11 [.tmp 2] [.pc [.pure .byte, .x]] [] (List.length ([] : TMem)) K) (argsF [.pl .byte p1]) [] =
    Ms_l13Open p1 (fun r1 r2 => K (.ptr 0 0) [⟨true, .cells [.pl .byte r1, .int .i64 r2]⟩]) := by kernel_rfl
theorem s57 : CSound PP 57 G57 := by
  intro args K c h fl A aargs hA hN R hl
  unfold G57 at h
  generalize ht : c.tm = tm at h
  replace h := dCons_ok h; obtain ⟨a1_, r2_, rfl, h⟩ := h
  replace h := dPl_ok h; obtain ⟨p1, rfl, h⟩ := h
  replace h := dNil_ok h; obtain ⟨rfl, h⟩ := h
  replace h := dEnd_ok h; obtain ⟨rfl, h⟩ := h
  refine fun_ok (nt := 11) (x := bodyOf Try.f57) (Γ := Γ57) (H := H57) (WW := W57) (rs := [.tmp 2]) (shs := [.pc [.pure .byte, .x]]) (cons := []) mixed Try.func57 (by decide) (by kernel_rfl) Try.ntmps57 Try.results57 (GSound.nil) ?_ hA hN R hl
  rw [ht, e57 p1 K]
  exact h
/-! (*spec.l13Rd).pick -/
def G73 : Con := fun args tm K => dCons args fun a1_ r2_ => dPtr 0 a1_ <| dCons r2_ fun a3_ r4_ => dInt .i64 a3_ fun p1 => dNil r4_ <| dBlk true tm fun b5_ m6_ => dCells b5_ fun c7_ => dCons c7_ fun a8_ r9_ => dPl .byte a8_ fun p2 => dCons r9_ fun a10_ r11_ => dInt .i64 a10_ fun p3 => dNil r11_ <| dEnd m6_ <| Ms_l13Rd_pick p1 p2 p3 (fun r1 r2 => K (.int .i64 r1) [⟨true, .cells [.pl .byte p2, .int .i64 r2]⟩])
def H73 : List (Nat × LH) := []
def W73 : List (Nat × List (Nat × List Nat)) := []
def Γ73 : List (Nat × Con) := []
theorem e73 (p1 : Int) (p2 : List Int) (p3 : Int) (K : TV → TMem → Prop) : TW PP 99 Γ73 H73 W73 (List.length ([⟨true, .cells [.pl .byte p2, .int .i64 p3]⟩] : TMem)) (bodyOf Try.f73) (endT PP 99 [.tmp 4] [.x] [] (List.length ([⟨true, .cells [.pl .byte p2, .int .i64 p3]⟩] : TMem)) K) (argsF [.ptr 0 0, .int .i64 p1]) [⟨true, .cells [.pl .byte p2, .int .i64 p3]⟩] =
    Ms_l13Rd_pick p1 p2 p3 (fun r1 r2 => K (.int .i64 r1) [⟨true, .cells [.pl .byte p2, .int .i64 r2]⟩]) := by kernel_rfl
theorem s73 : CSound PP 73 G73 := by
  intro args K c h fl A aargs hA hN R hl
  unfold G73 at h
  generalize ht : c.tm = tm at h
  replace h := dCons_ok h; obtain ⟨a1_, r2_, rfl, h⟩ := h
  replace h := dPtr_ok h; obtain ⟨rfl, h⟩ := h
  replace h := dCons_ok h; obtain ⟨a3_, r4_, rfl, h⟩ := h
  replace h := dInt_ok h; obtain ⟨p1, rfl, h⟩ := h
  replace h := dNil_ok h; obtain ⟨rfl, h⟩ := h
  replace h := dBlk_ok h; obtain ⟨b5_, m6_, rfl, h⟩ := h
  replace h := dCells_ok h; obtain ⟨c7_, rfl, h⟩ := h
  replace h := dCons_ok h; obtain ⟨a8_, r9_, rfl, h⟩ := h
  replace h := dPl_ok h; obtain ⟨p2, rfl, h⟩ := h
  replace h := dCons_ok h; obtain ⟨a10_, r11_, rfl, h⟩ := h
  replace h := dInt_ok h; obtain ⟨p3, rfl, h⟩ := h
  replace h := dNil_ok h; obtain ⟨rfl, h⟩ := h
  replace h := dEnd_ok h; obtain ⟨rfl, h⟩ := h
  refine fun_ok (nt := 99) (x := bodyOf Try.f73) (Γ := Γ73) (H := H73) (WW := W73) (rs := [.tmp 4]) (shs := [.x]) (cons := []) mixed Try.func73 (by decide) (by kernel_rfl) Try.ntmps73 Try.results73 (GSound.nil) ?_ hA hN R hl
  rw [ht, e73 p1 p2 p3 K]
  exact h
/-! (*spec.l13Rd).num -/
def G74 : Con := fun args tm K => dCons args fun a1_ r2_ => dPtr 0 a1_ <| dCons r2_ fun a3_ r4_ => dPl .int a3_ fun p1 => dNil r4_ <| dBlk true tm fun b5_ m6_ => dCells b5_ fun c7_ => dCons c7_ fun a8_ r9_ => dPl .byte a8_ fun p2 => dCons r9_ fun a10_ r11_ => dInt .i64 a10_ fun p3 => dNil r11_ <| dEnd m6_ <| Ms_l13Rd_num p1 p2 p3 (fun r1 r2 => K (.int .i64 r1) [⟨true, .cells [.pl .byte p2, .int .i64 r2]⟩])
def H74 : List (Nat × LH) := []
def W74 : List (Nat × List (Nat × List Nat)) := []
def Γ74 : List (Nat × Con) := [(73, useC [.pc [.pure .byte, .x], .x] G73)]
theorem e74 (p1 : List Int) (p2 : List Int) (p3 : Int) (K : TV → TMem → Prop) : TW PP 12 Γ74 H74 W74 (List.length ([⟨true, .cells [.pl .byte p2, .int .i64 p3]⟩] : TMem)) (bodyOf Try.f74) (endT PP 12 [.tmp 4] [.x] [] (List.length ([⟨true, .cells [.pl .byte p2, .int .i64 p3]⟩] : TMem)) K) (argsF [.ptr 0 0, .pl .int p1]) [⟨true, .cells [.pl .byte p2, .int .i64 p3]⟩] =
    Ms_l13Rd_num p1 p2 p3 (fun r1 r2 => K (.int .i64 r1) [⟨true, .cells [.pl .byte p2, .int .i64 r2]⟩]) := by kernel_rfl
theorem s74 : CSound PP 74 G74 := by
  intro args K c h fl A aargs hA hN R hl
  unfold G74 at h
  generalize ht : c.tm = tm at h
  replace h := dCons_ok h; obtain ⟨a1_, r2_, rfl, h⟩ := h
  replace h := dPtr_ok h; obtain ⟨rfl, h⟩ := h
  replace h := dCons_ok h; obtain ⟨a3_, r4_, rfl, h⟩ := h
  replace h := dPl_ok h; obtain ⟨p1, rfl, h⟩ := h
  replace h := dNil_ok h; obtain ⟨rfl, h⟩ := h
  replace h := dBlk_ok h; obtain ⟨b5_, m6_, rfl, h⟩ := h
  replace h := dCells_ok h; obtain ⟨c7_, rfl, h⟩ := h
  replace h := dCons_ok h; obtain ⟨a8_, r9_, rfl, h⟩ := h
  replace h := dPl_ok h; obtain ⟨p2, rfl, h⟩ := h
  replace h := dCons_ok h; obtain ⟨a10_, r11_, rfl, h⟩ := h
  replace h := dInt_ok h; obtain ⟨p3, rfl, h⟩ := h
  replace h := dNil_ok h; obtain ⟨rfl, h⟩ := h
  replace h := dEnd_ok h; obtain ⟨rfl, h⟩ := h
  refine fun_ok (nt := 12) (x := bodyOf Try.f74) (Γ := Γ74) (H := H74) (WW := W74) (rs := [.tmp 4]) (shs := [.x]) (cons := []) mixed Try.func74 (by decide) (by kernel_rfl) Try.ntmps74 Try.results74 (.cons (useC_ok s73) (GSound.nil)) ?_ hA hN R hl
  rw [ht, e74 p1 p2 p3 K]
  exact h
/-! spec.l1Many -/
def G93 : Con := fun args tm K => dCons args fun a1_ r2_ => dInt .i64 a1_ fun p1 => dNil r2_ <| dEnd tm <| Ms_l1Many p1 (fun r1 => K (.sl 0) [⟨true, .list .int r1⟩])
def H93_0 : LH where
  keep := [(0, .x), (3, .own .int), (4, .x)]
  S := Int × Int × List Int
  enc := fun s => ([.int .i64 s.1, .sl 0, .int .i64 s.2.1], [⟨true, .list .int s.2.2⟩])
  dec := fun vs tm K => dCons vs fun a1_ r2_ => dInt .i64 a1_ fun q0 => dCons r2_ fun a3_ r4_ => dSl 0 a3_ <| dCons r4_ fun a5_ r6_ => dInt .i64 a5_ fun q1 => dNil r6_ <| dBlk true tm fun b7_ m8_ => dList .int b7_ fun q2 => dEnd m8_ <| K (q0, q1, q2)
  law := by
    intro vs tm K h
    replace h := dCons_ok h; obtain ⟨a1_, r2_, rfl, h⟩ := h
    replace h := dInt_ok h; obtain ⟨q0, rfl, h⟩ := h
    replace h := dCons_ok h; obtain ⟨a3_, r4_, rfl, h⟩ := h
    replace h := dSl_ok h; obtain ⟨rfl, h⟩ := h
    replace h := dCons_ok h; obtain ⟨a5_, r6_, rfl, h⟩ := h
    replace h := dInt_ok h; obtain ⟨q1, rfl, h⟩ := h
    replace h := dNil_ok h; obtain ⟨rfl, h⟩ := h
    replace h := dBlk_ok h; obtain ⟨b7_, m8_, rfl, h⟩ := h
    replace h := dList_ok h; obtain ⟨q2, rfl, h⟩ := h
    replace h := dEnd_ok h; obtain ⟨rfl, h⟩ := h
    exact ⟨(q0, q1, q2), rfl, h⟩
def H93 : List (Nat × LH) := [(0, H93_0)]
def W93 : List (Nat × List (Nat × List Nat)) := []
def Γ93 : List (Nat × Con) := []
theorem e93 (p1 : Int) (K : TV → TMem → Prop) : TW PP 15 Γ93 H93 W93 (List.length ([] : TMem)) (bodyOf Try.f93) (endT PP 15 [.tmp 2] [.own .int] [] (List.length ([] : TMem)) K) (argsF [.int .i64 p1]) [] =
    Ms_l1Many p1 (fun r1 => K (.sl 0) [⟨true, .list .int r1⟩]) := by kernel_rfl
theorem s93 : CSound PP 93 G93 := by
  intro args K c h fl A aargs hA hN R hl
  unfold G93 at h
  generalize ht : c.tm = tm at h
  replace h := dCons_ok h; obtain ⟨a1_, r2_, rfl, h⟩ := h
  replace h := dInt_ok h; obtain ⟨p1, rfl, h⟩ := h
  replace h := dNil_ok h; obtain ⟨rfl, h⟩ := h
  replace h := dEnd_ok h; obtain ⟨rfl, h⟩ := h
  refine fun_ok (nt := 15) (x := bodyOf Try.f93) (Γ := Γ93) (H := H93) (WW := W93) (rs := [.tmp 2]) (shs := [.own .int]) (cons := []) mixed Try.func93 (by decide) (by kernel_rfl) Try.ntmps93 Try.results93 (GSound.nil) ?_ hA hN R hl
  rw [ht, e93 p1 K]
  exact h
/-! spec.NewHeap -/
def G90 : Con := fun args tm K => dCons args fun a1_ r2_ => dInt .i64 a1_ fun p1 => dCons r2_ fun a3_ r4_ => dInt .i64 a3_ fun p2 => dNil r4_ <| dEnd tm <| Ms_NewHeap p1 p2 (fun r1 r2 r3 r4 => K (.tup [.agg [.sl 0, .sl 1, .sl 2], .bool r1]) [⟨true, .list .int r2⟩, ⟨true, .list .int r3⟩, ⟨true, .list .int r4⟩])
def H90 : List (Nat × LH) := []
def W90 : List (Nat × List (Nat × List Nat)) := []
def Γ90 : List (Nat × Con) := [(93, useC [.x] G93)]
theorem e90 (p1 : Int) (p2 : Int) (K : TV → TMem → Prop) : TW PP 28 Γ90 H90 W90 (List.length ([] : TMem)) (bodyOf Try.f90) (endT PP 28 [.cell 4 30, .tmp 5] [.ag [.own .int, .own .int, .own .int], .bl] [] (List.length ([] : TMem)) K) (argsF [.int .i64 p1, .int .i64 p2]) [] =
    Ms_NewHeap p1 p2 (fun r1 r2 r3 r4 => K (.tup [.agg [.sl 0, .sl 1, .sl 2], .bool r1]) [⟨true, .list .int r2⟩, ⟨true, .list .int r3⟩, ⟨true, .list .int r4⟩]) := by kernel_rfl
theorem s90 : CSound PP 90 G90 := by
  intro args K c h fl A aargs hA hN R hl
  unfold G90 at h
  generalize ht : c.tm = tm at h
  replace h := dCons_ok h; obtain ⟨a1_, r2_, rfl, h⟩ := h
  replace h := dInt_ok h; obtain ⟨p1, rfl, h⟩ := h
  replace h := dCons_ok h; obtain ⟨a3_, r4_, rfl, h⟩ := h
  replace h := dInt_ok h; obtain ⟨p2, rfl, h⟩ := h
  replace h := dNil_ok h; obtain ⟨rfl, h⟩ := h
  replace h := dEnd_ok h; obtain ⟨rfl, h⟩ := h
  refine fun_ok (nt := 28) (x := bodyOf Try.f90) (Γ := Γ90) (H := H90) (WW := W90) (rs := [.cell 4 30, .tmp 5]) (shs := [.ag [.own .int, .own .int, .own .int], .bl]) (cons := []) mixed Try.func90 (by decide) (by kernel_rfl) Try.ntmps90 Try.results90 (.cons (useC_ok s93) (GSound.nil)) ?_ hA hN R hl
  rw [ht, e90 p1 p2 K]
  exact h
/-! spec.l1Draw -/
def G72 : Con := fun args tm K => dCons args fun a1_ r2_ => dPtr 0 a1_ <| dNil r2_ <| dBlk true tm fun b3_ m4_ => dCells b3_ fun c5_ => dCons c5_ fun a6_ r7_ => dPl .byte a6_ fun p1 => dCons r7_ fun a8_ r9_ => dInt .i64 a8_ fun p2 => dNil r9_ <| dEnd m4_ <| Ms_l1Draw p1 p2 (fun r1 r2 r3 r4 r5 => K (.agg [.sl 1, .sl 2, .sl 3]) [⟨true, .cells [.pl .byte r1, .int .i64 r2]⟩, ⟨true, .list .int r3⟩, ⟨true, .list .int r4⟩, ⟨true, .list .int r5⟩])
def H72_0 : LH where
  keep := [(0, .pc [.pure .byte, .x]), (2, .pc [.own .int, .own .int, .own .int]), (3, .x), (4, .pc [.own .int, .own .int, .own .int]), (6, .x)]
  S := Int × Int × List Int × Int × List Int × List Int × List Int × List Int × List Int × List Int
  enc := fun s => ([.ptr 0 0, .ptr 1 0, .int .i64 s.1, .ptr 2 0, .int .i64 s.2.1], [⟨true, .cells [.pl .byte s.2.2.1, .int .i64 s.2.2.2.1]⟩, ⟨true, .cells [.sl 3, .sl 4, .sl 5]⟩, ⟨true, .cells [.sl 6, .sl 7, .sl 8]⟩, ⟨true, .list .int s.2.2.2.2.1⟩, ⟨true, .list .int s.2.2.2.2.2.1⟩, ⟨true, .list .int s.2.2.2.2.2.2.1⟩, ⟨true, .list .int s.2.2.2.2.2.2.2.1⟩, ⟨true, .list .int s.2.2.2.2.2.2.2.2.1⟩, ⟨true, .list .int s.2.2.2.2.2.2.2.2.2⟩])
  dec := fun vs tm K => dCons vs fun a1_ r2_ => dPtr 0 a1_ <| dCons r2_ fun a3_ r4_ => dPtr 1 a3_ <| dCons r4_ fun a5_ r6_ => dInt .i64 a5_ fun q0 => dCons r6_ fun a7_ r8_ => dPtr 2 a7_ <| dCons r8_ fun a9_ r10_ => dInt .i64 a9_ fun q1 => dNil r10_ <| dBlk true tm fun b11_ m12_ => dCells b11_ fun c13_ => dCons c13_ fun a14_ r15_ => dPl .byte a14_ fun q2 => dCons r15_ fun a16_ r17_ => dInt .i64 a16_ fun q3 => dNil r17_ <| dBlk true m12_ fun b18_ m19_ => dCells b18_ fun c20_ => dCons c20_ fun a21_ r22_ => dSl 3 a21_ <| dCons r22_ fun a23_ r24_ => dSl 4 a23_ <| dCons r24_ fun a25_ r26_ => dSl 5 a25_ <| dNil r26_ <| dBlk true m19_ fun b27_ m28_ => dCells b27_ fun c29_ => dCons c29_ fun a30_ r31_ => dSl 6 a30_ <| dCons r31_ fun a32_ r33_ => dSl 7 a32_ <| dCons r33_ fun a34_ r35_ => dSl 8 a34_ <| dNil r35_ <| dBlk true m28_ fun b36_ m37_ => dList .int b36_ fun q4 => dBlk true m37_ fun b38_ m39_ => dList .int b38_ fun q5 => dBlk true m39_ fun b40_ m41_ => dList .int b40_ fun q6 => dBlk true m41_ fun b42_ m43_ => dList .int b42_ fun q7 => dBlk true m43_ fun b44_ m45_ => dList .int b44_ fun q8 => dBlk true m45_ fun b46_ m47_ => dList .int b46_ fun q9 => dEnd m47_ <| K (q0, q1, q2, q3, q4, q5, q6, q7, q8, q9)
  law := by
    intro vs tm K h
    replace h := dCons_ok h; obtain ⟨a1_, r2_, rfl, h⟩ := h
    replace h := dPtr_ok h; obtain ⟨rfl, h⟩ := h
    replace h := dCons_ok h; obtain ⟨a3_, r4_, rfl, h⟩ := h
    replace h := dPtr_ok h; obtain ⟨rfl, h⟩ := h
    replace h := dCons_ok h; obtain ⟨a5_, r6_, rfl, h⟩ := h
    replace h := dInt_ok h; obtain ⟨q0, rfl, h⟩ := h
    replace h := dCons_ok h; obtain ⟨a7_, r8_, rfl, h⟩ := h
    replace h := dPtr_ok h; obtain ⟨rfl, h⟩ := h
    replace h := dCons_ok h; obtain ⟨a9_, r10_, rfl, h⟩ := h
    replace h := dInt_ok h; obtain ⟨q1, rfl, h⟩ := h
    replace h := dNil_ok h; obtain ⟨rfl, h⟩ := h
    replace h := dBlk_ok h; obtain ⟨b11_, m12_, rfl, h⟩ := h
    replace h := dCells_ok h; obtain ⟨c13_, rfl, h⟩ := h
    replace h := dCons_ok h; obtain ⟨a14_, r15_, rfl, h⟩ := h
    replace h := dPl_ok h; obtain ⟨q2, rfl, h⟩ := h
    replace h := dCons_ok h; obtain ⟨a16_, r17_, rfl, h⟩ := h
    replace h := dInt_ok h; obtain ⟨q3, rfl, h⟩ := h
    replace h := dNil_ok h; obtain ⟨rfl, h⟩ := h
    replace h := dBlk_ok h; obtain ⟨b18_, m19_, rfl, h⟩ := h
    replace h := dCells_ok h; obtain ⟨c20_, rfl, h⟩ := h
    replace h := dCons_ok h; obtain ⟨a21_, r22_, rfl, h⟩ := h
    replace h := dSl_ok h; obtain ⟨rfl, h⟩ := h
    replace h := dCons_ok h; obtain ⟨a23_, r24_, rfl, h⟩ := h
    replace h := dSl_ok h; obtain ⟨rfl, h⟩ := h
    replace h := dCons_ok h; obtain ⟨a25_, r26_, rfl, h⟩ := h
    replace h := dSl_ok h; obtain ⟨rfl, h⟩ := h
    replace h := dNil_ok h; obtain ⟨rfl, h⟩ := h
    replace h := dBlk_ok h; obtain ⟨b27_, m28_, rfl, h⟩ := h
    replace h := dCells_ok h; obtain ⟨c29_, rfl, h⟩ := h
    replace h := dCons_ok h; obtain ⟨a30_, r31_, rfl, h⟩ := h
    replace h := dSl_ok h; obtain ⟨rfl, h⟩ := h
    replace h := dCons_ok h; obtain ⟨a32_, r33_, rfl, h⟩ := h
    replace h := dSl_ok h; obtain ⟨rfl, h⟩ := h
    replace h := dCons_ok h; obtain ⟨a34_, r35_, rfl, h⟩ := h
    replace h := dSl_ok h; obtain ⟨rfl, h⟩ := h
    replace h := dNil_ok h; obtain ⟨rfl, h⟩ := h
    replace h := dBlk_ok h; obtain ⟨b36_, m37_, rfl, h⟩ := h
    replace h := dList_ok h; obtain ⟨q4, rfl, h⟩ := h
    replace h := dBlk_ok h; obtain ⟨b38_, m39_, rfl, h⟩ := h
    replace h := dList_ok h; obtain ⟨q5, rfl, h⟩ := h
    replace h := dBlk_ok h; obtain ⟨b40_, m41_, rfl, h⟩ := h
    replace h := dList_ok h; obtain ⟨q6, rfl, h⟩ := h
    replace h := dBlk_ok h; obtain ⟨b42_, m43_, rfl, h⟩ := h
    replace h := dList_ok h; obtain ⟨q7, rfl, h⟩ := h
    replace h := dBlk_ok h; obtain ⟨b44_, m45_, rfl, h⟩ := h
    replace h := dList_ok h; obtain ⟨q8, rfl, h⟩ := h
    replace h := dBlk_ok h; obtain ⟨b46_, m47_, rfl, h⟩ := h
    replace h := dList_ok h; obtain ⟨q9, rfl, h⟩ := h
    replace h := dEnd_ok h; obtain ⟨rfl, h⟩ := h
    exact ⟨(q0, q1, q2, q3, q4, q5, q6, q7, q8, q9), rfl, h⟩
def H72_2 : LH where
  keep := [(0, .pc [.pure .byte, .x]), (2, .pc [.own .int, .own .int, .own .int]), (3, .x), (4, .pc [.own .int, .own .int, .own .int]), (7, .x)]
  S := Int × Int × List Int × Int × List Int × List Int × List Int × List Int × List Int × List Int
  enc := fun s => ([.ptr 0 0, .ptr 1 0, .int .i64 s.1, .ptr 2 0, .int .i64 s.2.1], [⟨true, .cells [.pl .byte s.2.2.1, .int .i64 s.2.2.2.1]⟩, ⟨true, .cells [.sl 3, .sl 4, .sl 5]⟩, ⟨true, .cells [.sl 6, .sl 7, .sl 8]⟩, ⟨true, .list .int s.2.2.2.2.1⟩, ⟨true, .list .int s.2.2.2.2.2.1⟩, ⟨true, .list .int s.2.2.2.2.2.2.1⟩, ⟨true, .list .int s.2.2.2.2.2.2.2.1⟩, ⟨true, .list .int s.2.2.2.2.2.2.2.2.1⟩, ⟨true, .list .int s.2.2.2.2.2.2.2.2.2⟩])
  dec := fun vs tm K => dCons vs fun a1_ r2_ => dPtr 0 a1_ <| dCons r2_ fun a3_ r4_ => dPtr 1 a3_ <| dCons r4_ fun a5_ r6_ => dInt .i64 a5_ fun q0 => dCons r6_ fun a7_ r8_ => dPtr 2 a7_ <| dCons r8_ fun a9_ r10_ => dInt .i64 a9_ fun q1 => dNil r10_ <| dBlk true tm fun b11_ m12_ => dCells b11_ fun c13_ => dCons c13_ fun a14_ r15_ => dPl .byte a14_ fun q2 => dCons r15_ fun a16_ r17_ => dInt .i64 a16_ fun q3 => dNil r17_ <| dBlk true m12_ fun b18_ m19_ => dCells b18_ fun c20_ => dCons c20_ fun a21_ r22_ => dSl 3 a21_ <| dCons r22_ fun a23_ r24_ => dSl 4 a23_ <| dCons r24_ fun a25_ r26_ => dSl 5 a25_ <| dNil r26_ <| dBlk true m19_ fun b27_ m28_ => dCells b27_ fun c29_ => dCons c29_ fun a30_ r31_ => dSl 6 a30_ <| dCons r31_ fun a32_ r33_ => dSl 7 a32_ <| dCons r33_ fun a34_ r35_ => dSl 8 a34_ <| dNil r35_ <| dBlk true m28_ fun b36_ m37_ => dList .int b36_ fun q4 => dBlk true m37_ fun b38_ m39_ => dList .int b38_ fun q5 => dBlk true m39_ fun b40_ m41_ => dList .int b40_ fun q6 => dBlk true m41_ fun b42_ m43_ => dList .int b42_ fun q7 => dBlk true m43_ fun b44_ m45_ => dList .int b44_ fun q8 => dBlk true m45_ fun b46_ m47_ => dList .int b46_ fun q9 => dEnd m47_ <| K (q0, q1, q2, q3, q4, q5, q6, q7, q8, q9)
  law := by
    intro vs tm K h
    replace h := dCons_ok h; obtain ⟨a1_, r2_, rfl, h⟩ := h
    replace h := dPtr_ok h; obtain ⟨rfl, h⟩ := h
    replace h := dCons_ok h; obtain ⟨a3_, r4_, rfl, h⟩ := h
    replace h := dPtr_ok h; obtain ⟨rfl, h⟩ := h
    replace h := dCons_ok h; obtain ⟨a5_, r6_, rfl, h⟩ := h
    replace h := dInt_ok h; obtain ⟨q0, rfl, h⟩ := h
    replace h := dCons_ok h; obtain ⟨a7_, r8_, rfl, h⟩ := h
    replace h := dPtr_ok h; obtain ⟨rfl, h⟩ := h
    replace h := dCons_ok h; obtain ⟨a9_, r10_, rfl, h⟩ := h
    replace h := dInt_ok h; obtain ⟨q1, rfl, h⟩ := h
    replace h := dNil_ok h; obtain ⟨rfl, h⟩ := h
    replace h := dBlk_ok h; obtain ⟨b11_, m12_, rfl, h⟩ := h
    replace h := dCells_ok h; obtain ⟨c13_, rfl, h⟩ := h
    replace h := dCons_ok h; obtain ⟨a14_, r15_, rfl, h⟩ := h
    replace h := dPl_ok h; obtain ⟨q2, rfl, h⟩ := h
    replace h := dCons_ok h; obtain ⟨a16_, r17_, rfl, h⟩ := h
    replace h := dInt_ok h; obtain ⟨q3, rfl, h⟩ := h
    replace h := dNil_ok h; obtain ⟨rfl, h⟩ := h
    replace h := dBlk_ok h; obtain ⟨b18_, m19_, rfl, h⟩ := h
    replace h := dCells_ok h; obtain ⟨c20_, rfl, h⟩ := h
    replace h := dCons_ok h; obtain ⟨a21_, r22_, rfl, h⟩ := h
    replace h := dSl_ok h; obtain ⟨rfl, h⟩ := h
    replace h := dCons_ok h; obtain ⟨a23_, r24_, rfl, h⟩ := h
    replace h := dSl_ok h; obtain ⟨rfl, h⟩ := h
    replace h := dCons_ok h; obtain ⟨a25_, r26_, rfl, h⟩ := h
    replace h := dSl_ok h; obtain ⟨rfl, h⟩ := h
    replace h := dNil_ok h; obtain ⟨rfl, h⟩ := h
    replace h := dBlk_ok h; obtain ⟨b27_, m28_, rfl, h⟩ := h
    replace h := dCells_ok h; obtain ⟨c29_, rfl, h⟩ := h
    replace h := dCons_ok h; obtain ⟨a30_, r31_, rfl, h⟩ := h
    replace h := dSl_ok h; obtain ⟨rfl, h⟩ := h
    replace h := dCons_ok h; obtain ⟨a32_, r33_, rfl, h⟩ := h
    replace h := dSl_ok h; obtain ⟨rfl, h⟩ := h
    replace h := dCons_ok h; obtain ⟨a34_, r35_, rfl, h⟩ := h
    replace h := dSl_ok h; obtain ⟨rfl, h⟩ := h
    replace h := dNil_ok h; obtain ⟨rfl, h⟩ := h
    replace h := dBlk_ok h; obtain ⟨b36_, m37_, rfl, h⟩ := h
    replace h := dList_ok h; obtain ⟨q4, rfl, h⟩ := h
    replace h := dBlk_ok h; obtain ⟨b38_, m39_, rfl, h⟩ := h
    replace h := dList_ok h; obtain ⟨q5, rfl, h⟩ := h
    replace h := dBlk_ok h; obtain ⟨b40_, m41_, rfl, h⟩ := h
    replace h := dList_ok h; obtain ⟨q6, rfl, h⟩ := h
    replace h := dBlk_ok h; obtain ⟨b42_, m43_, rfl, h⟩ := h
    replace h := dList_ok h; obtain ⟨q7, rfl, h⟩ := h
    replace h := dBlk_ok h; obtain ⟨b44_, m45_, rfl, h⟩ := h
    replace h := dList_ok h; obtain ⟨q8, rfl, h⟩ := h
    replace h := dBlk_ok h; obtain ⟨b46_, m47_, rfl, h⟩ := h
    replace h := dList_ok h; obtain ⟨q9, rfl, h⟩ := h
    replace h := dEnd_ok h; obtain ⟨rfl, h⟩ := h
    exact ⟨(q0, q1, q2, q3, q4, q5, q6, q7, q8, q9), rfl, h⟩
def H72 : List (Nat × LH) := [(0, H72_0), (2, H72_2)]
def W72 : List (Nat × List (Nat × List Nat)) := [(6, [(0, [6])]), (7, [(0, [6])]), (15, [(0, [6])])]
def Γ72 : List (Nat × Con) := [(74, useC [.pc [.pure .byte, .x], .pure .int] G74), (90, useC [.x, .x] G90), (73, useC [.pc [.pure .byte, .x], .x] G73)]
theorem e72 (p1 : List Int) (p2 : Int) (K : TV → TMem → Prop) : TW PP 80 Γ72 H72 W72 (List.length ([⟨true, .cells [.pl .byte p1, .int .i64 p2]⟩] : TMem)) (bodyOf Try.f72) (endT PP 80 [.cell 2 30] [.ag [.own .int, .own .int, .own .int]] [] (List.length ([⟨true, .cells [.pl .byte p1, .int .i64 p2]⟩] : TMem)) K) (argsF [.ptr 0 0]) [⟨true, .cells [.pl .byte p1, .int .i64 p2]⟩] =
    Ms_l1Draw p1 p2 (fun r1 r2 r3 r4 r5 => K (.agg [.sl 1, .sl 2, .sl 3]) [⟨true, .cells [.pl .byte r1, .int .i64 r2]⟩, ⟨true, .list .int r3⟩, ⟨true, .list .int r4⟩, ⟨true, .list .int r5⟩]) := by kernel_rfl
theorem s72 : CSound PP 72 G72 := by
  intro args K c h fl A aargs hA hN R hl
  unfold G72 at h
  generalize ht : c.tm = tm at h
  replace h := dCons_ok h; obtain ⟨a1_, r2_, rfl, h⟩ := h
  replace h := dPtr_ok h; obtain ⟨rfl, h⟩ := h
  replace h := dNil_ok h; obtain ⟨rfl, h⟩ := h
  replace h := dBlk_ok h; obtain ⟨b3_, m4_, rfl, h⟩ := h
  replace h := dCells_ok h; obtain ⟨c5_, rfl, h⟩ := h
  replace h := dCons_ok h; obtain ⟨a6_, r7_, rfl, h⟩ := h
  replace h := dPl_ok h; obtain ⟨p1, rfl, h⟩ := h
  replace h := dCons_ok h; obtain ⟨a8_, r9_, rfl, h⟩ := h
  replace h := dInt_ok h; obtain ⟨p2, rfl, h⟩ := h
  replace h := dNil_ok h; obtain ⟨rfl, h⟩ := h
  replace h := dEnd_ok h; obtain ⟨rfl, h⟩ := h
  refine fun_ok (nt := 80) (x := bodyOf Try.f72) (Γ := Γ72) (H := H72) (WW := W72) (rs := [.cell 2 30]) (shs := [.ag [.own .int, .own .int, .own .int]]) (cons := []) mixed Try.func72 (by decide) (by kernel_rfl) Try.ntmps72 Try.results72 (.cons (useC_ok s74) (.cons (useC_ok s90) (.cons (useC_ok s73) (GSound.nil)))) ?_ hA hN R hl
  rw [ht, e72 p1 p2 K]
  exact h
/-! spec.l1Points -/
def G85 : Con := fun args tm K => dCons args fun a1_ r2_ => dInt .i64 a1_ fun p1 => dCons r2_ fun a3_ r4_ => dInt .i64 a3_ fun p2 => dNil r4_ <| dEnd tm <| Ms_l1Points p1 p2 (fun r1 => K (.bool r1) [])
def H85 : List (Nat × LH) := []
def W85 : List (Nat × List (Nat × List Nat)) := []
def Γ85 : List (Nat × Con) := []
theorem e85 (p1 : Int) (p2 : Int) (K : TV → TMem → Prop) : TW PP 12 Γ85 H85 W85 (List.length ([] : TMem)) (bodyOf Try.f85) (endT PP 12 [.tmp 4] [.bl] [] (List.length ([] : TMem)) K) (argsF [.int .i64 p1, .int .i64 p2]) [] =
    Ms_l1Points p1 p2 (fun r1 => K (.bool r1) []) := by kernel_rfl
theorem s85 : CSound PP 85 G85 := by
  intro args K c h fl A aargs hA hN R hl
  unfold G85 at h
  generalize ht : c.tm = tm at h
  replace h := dCons_ok h; obtain ⟨a1_, r2_, rfl, h⟩ := h
  replace h := dInt_ok h; obtain ⟨p1, rfl, h⟩ := h
  replace h := dCons_ok h; obtain ⟨a3_, r4_, rfl, h⟩ := h
  replace h := dInt_ok h; obtain ⟨p2, rfl, h⟩ := h
  replace h := dNil_ok h; obtain ⟨rfl, h⟩ := h
  replace h := dEnd_ok h; obtain ⟨rfl, h⟩ := h
  refine fun_ok (nt := 12) (x := bodyOf Try.f85) (Γ := Γ85) (H := H85) (WW := W85) (rs := [.tmp 4]) (shs := [.bl]) (cons := []) mixed Try.func85 (by decide) (by kernel_rfl) Try.ntmps85 Try.results85 (GSound.nil) ?_ hA hN R hl
  rw [ht, e85 p1 p2 K]
  exact h
/-! spec.HeapValid -/
def G61 : Con := fun args tm K => dCons args fun a1_ r2_ => dAgg a1_ fun l3_ => dCons l3_ fun a4_ r5_ => dPl .int a4_ fun p1 => dCons r5_ fun a6_ r7_ => dPl .int a6_ fun p2 => dCons r7_ fun a8_ r9_ => dPl .int a8_ fun p3 => dNil r9_ <| dNil r2_ <| dEnd tm <| Ms_HeapValid p1 p2 p3 (fun r1 => K (.bool r1) [])
def H61_0 : LH where
  keep := [(1, .pc [.pure .int, .pure .int, .pure .int]), (3, .x), (4, .x)]
  S := Int × Int × List Int × List Int × List Int
  enc := fun s => ([.ptr 0 0, .int .i64 s.1, .int .i64 s.2.1], [⟨true, .cells [.pl .int s.2.2.1, .pl .int s.2.2.2.1, .pl .int s.2.2.2.2]⟩])
  dec := fun vs tm K => dCons vs fun a1_ r2_ => dPtr 0 a1_ <| dCons r2_ fun a3_ r4_ => dInt .i64 a3_ fun q0 => dCons r4_ fun a5_ r6_ => dInt .i64 a5_ fun q1 => dNil r6_ <| dBlk true tm fun b7_ m8_ => dCells b7_ fun c9_ => dCons c9_ fun a10_ r11_ => dPl .int a10_ fun q2 => dCons r11_ fun a12_ r13_ => dPl .int a12_ fun q3 => dCons r13_ fun a14_ r15_ => dPl .int a14_ fun q4 => dNil r15_ <| dEnd m8_ <| K (q0, q1, q2, q3, q4)
  law := by
    intro vs tm K h
    replace h := dCons_ok h; obtain ⟨a1_, r2_, rfl, h⟩ := h
    replace h := dPtr_ok h; obtain ⟨rfl, h⟩ := h
    replace h := dCons_ok h; obtain ⟨a3_, r4_, rfl, h⟩ := h
    replace h := dInt_ok h; obtain ⟨q0, rfl, h⟩ := h
    replace h := dCons_ok h; obtain ⟨a5_, r6_, rfl, h⟩ := h
    replace h := dInt_ok h; obtain ⟨q1, rfl, h⟩ := h
    replace h := dNil_ok h; obtain ⟨rfl, h⟩ := h
    replace h := dBlk_ok h; obtain ⟨b7_, m8_, rfl, h⟩ := h
    replace h := dCells_ok h; obtain ⟨c9_, rfl, h⟩ := h
    replace h := dCons_ok h; obtain ⟨a10_, r11_, rfl, h⟩ := h
    replace h := dPl_ok h; obtain ⟨q2, rfl, h⟩ := h
    replace h := dCons_ok h; obtain ⟨a12_, r13_, rfl, h⟩ := h
    replace h := dPl_ok h; obtain ⟨q3, rfl, h⟩ := h
    replace h := dCons_ok h; obtain ⟨a14_, r15_, rfl, h⟩ := h
    replace h := dPl_ok h; obtain ⟨q4, rfl, h⟩ := h
    replace h := dNil_ok h; obtain ⟨rfl, h⟩ := h
    replace h := dEnd_ok h; obtain ⟨rfl, h⟩ := h
    exact ⟨(q0, q1, q2, q3, q4), rfl, h⟩
def H61_2 : LH where
  keep := [(1, .pc [.pure .int, .pure .int, .pure .int]), (3, .x), (5, .x)]
  S := Int × Int × List Int × List Int × List Int
  enc := fun s => ([.ptr 0 0, .int .i64 s.1, .int .i64 s.2.1], [⟨true, .cells [.pl .int s.2.2.1, .pl .int s.2.2.2.1, .pl .int s.2.2.2.2]⟩])
  dec := fun vs tm K => dCons vs fun a1_ r2_ => dPtr 0 a1_ <| dCons r2_ fun a3_ r4_ => dInt .i64 a3_ fun q0 => dCons r4_ fun a5_ r6_ => dInt .i64 a5_ fun q1 => dNil r6_ <| dBlk true tm fun b7_ m8_ => dCells b7_ fun c9_ => dCons c9_ fun a10_ r11_ => dPl .int a10_ fun q2 => dCons r11_ fun a12_ r13_ => dPl .int a12_ fun q3 => dCons r13_ fun a14_ r15_ => dPl .int a14_ fun q4 => dNil r15_ <| dEnd m8_ <| K (q0, q1, q2, q3, q4)
  law := by
    intro vs tm K h
    replace h := dCons_ok h; obtain ⟨a1_, r2_, rfl, h⟩ := h
    replace h := dPtr_ok h; obtain ⟨rfl, h⟩ := h
    replace h := dCons_ok h; obtain ⟨a3_, r4_, rfl, h⟩ := h
    replace h := dInt_ok h; obtain ⟨q0, rfl, h⟩ := h
    replace h := dCons_ok h; obtain ⟨a5_, r6_, rfl, h⟩ := h
    replace h := dInt_ok h; obtain ⟨q1, rfl, h⟩ := h
    replace h := dNil_ok h; obtain ⟨rfl, h⟩ := h
    replace h := dBlk_ok h; obtain ⟨b7_, m8_, rfl, h⟩ := h
    replace h := dCells_ok h; obtain ⟨c9_, rfl, h⟩ := h
    replace h := dCons_ok h; obtain ⟨a10_, r11_, rfl, h⟩ := h
    replace h := dPl_ok h; obtain ⟨q2, rfl, h⟩ := h
    replace h := dCons_ok h; obtain ⟨a12_, r13_, rfl, h⟩ := h
    replace h := dPl_ok h; obtain ⟨q3, rfl, h⟩ := h
    replace h := dCons_ok h; obtain ⟨a14_, r15_, rfl, h⟩ := h
    replace h := dPl_ok h; obtain ⟨q4, rfl, h⟩ := h
    replace h := dNil_ok h; obtain ⟨rfl, h⟩ := h
    replace h := dEnd_ok h; obtain ⟨rfl, h⟩ := h
    exact ⟨(q0, q1, q2, q3, q4), rfl, h⟩
def H61 : List (Nat × LH) := [(0, H61_0), (2, H61_2)]
def W61 : List (Nat × List (Nat × List Nat)) := []
def Γ61 : List (Nat × Con) := [(85, useC [.x, .x] G85)]
theorem e61 (p1 : List Int) (p2 : List Int) (p3 : List Int) (K : TV → TMem → Prop) : TW PP 72 Γ61 H61 W61 (List.length ([] : TMem)) (bodyOf Try.f61) (endT PP 72 [.tmp 2] [.bl] [] (List.length ([] : TMem)) K) (argsF [.agg [.pl .int p1, .pl .int p2, .pl .int p3]]) [] =
    Ms_HeapValid p1 p2 p3 (fun r1 => K (.bool r1) []) := by kernel_rfl
theorem s61 : CSound PP 61 G61 := by
  intro args K c h fl A aargs hA hN R hl
  unfold G61 at h
  generalize ht : c.tm = tm at h
  replace h := dCons_ok h; obtain ⟨a1_, r2_, rfl, h⟩ := h
  replace h := dAgg_ok h; obtain ⟨l3_, rfl, h⟩ := h
  replace h := dCons_ok h; obtain ⟨a4_, r5_, rfl, h⟩ := h
  replace h := dPl_ok h; obtain ⟨p1, rfl, h⟩ := h
  replace h := dCons_ok h; obtain ⟨a6_, r7_, rfl, h⟩ := h
  replace h := dPl_ok h; obtain ⟨p2, rfl, h⟩ := h
  replace h := dCons_ok h; obtain ⟨a8_, r9_, rfl, h⟩ := h
  replace h := dPl_ok h; obtain ⟨p3, rfl, h⟩ := h
  replace h := dNil_ok h; obtain ⟨rfl, h⟩ := h
  replace h := dNil_ok h; obtain ⟨rfl, h⟩ := h
  replace h := dEnd_ok h; obtain ⟨rfl, h⟩ := h
  refine fun_ok (nt := 72) (x := bodyOf Try.f61) (Γ := Γ61) (H := H61) (WW := W61) (rs := [.tmp 2]) (shs := [.bl]) (cons := []) mixed Try.func61 (by decide) (by kernel_rfl) Try.ntmps61 Try.results61 (.cons (useC_ok s85) (GSound.nil)) ?_ hA hN R hl
  rw [ht, e61 p1 p2 p3 K]
  exact h
/-! spec.l1Copy -/
def G75 : Con := fun args tm K => dCons args fun a1_ r2_ => dAgg a1_ fun l3_ => dCons l3_ fun a4_ r5_ => dPl .int a4_ fun p1 => dCons r5_ fun a6_ r7_ => dPl .int a6_ fun p2 => dCons r7_ fun a8_ r9_ => dPl .int a8_ fun p3 => dNil r9_ <| dNil r2_ <| dEnd tm <| Ms_l1Copy p1 p2 p3 (K (.agg [.sl 0, .sl 1, .sl 2]) [⟨true, .list .int p1⟩, ⟨true, .list .int p2⟩, ⟨true, .list .int p3⟩])
def H75 : List (Nat × LH) := []
def W75 : List (Nat × List (Nat × List Nat)) := []
def Γ75 : List (Nat × Con) := []
theorem e75 (p1 : List Int) (p2 : List Int) (p3 : List Int) (K : TV → TMem → Prop) : TW PP 16 Γ75 H75 W75 (List.length ([] : TMem)) (bodyOf Try.f75) (endT PP 16 [.cell 2 30] [.ag [.own .int, .own .int, .own .int]] [] (List.length ([] : TMem)) K) (argsF [.agg [.pl .int p1, .pl .int p2, .pl .int p3]]) [] =
    Ms_l1Copy p1 p2 p3 (K (.agg [.sl 0, .sl 1, .sl 2]) [⟨true, .list .int p1⟩, ⟨true, .list .int p2⟩, ⟨true, .list .int p3⟩]) := by kernel_rfl
theorem s75 : CSound PP 75 G75 := by
  intro args K c h fl A aargs hA hN R hl
  unfold G75 at h
  generalize ht : c.tm = tm at h
  replace h := dCons_ok h; obtain ⟨a1_, r2_, rfl, h⟩ := h
  replace h := dAgg_ok h; obtain ⟨l3_, rfl, h⟩ := h
  replace h := dCons_ok h; obtain ⟨a4_, r5_, rfl, h⟩ := h
  replace h := dPl_ok h; obtain ⟨p1, rfl, h⟩ := h
  replace h := dCons_ok h; obtain ⟨a6_, r7_, rfl, h⟩ := h
  replace h := dPl_ok h; obtain ⟨p2, rfl, h⟩ := h
  replace h := dCons_ok h; obtain ⟨a8_, r9_, rfl, h⟩ := h
  replace h := dPl_ok h; obtain ⟨p3, rfl, h⟩ := h
  replace h := dNil_ok h; obtain ⟨rfl, h⟩ := h
  replace h := dNil_ok h; obtain ⟨rfl, h⟩ := h
  replace h := dEnd_ok h; obtain ⟨rfl, h⟩ := h
  refine fun_ok (nt := 16) (x := bodyOf Try.f75) (Γ := Γ75) (H := H75) (WW := W75) (rs := [.cell 2 30]) (shs := [.ag [.own .int, .own .int, .own .int]]) (cons := []) mixed Try.func75 (by decide) (by kernel_rfl) Try.ntmps75 Try.results75 (GSound.nil) ?_ hA hN R hl
  rw [ht, e75 p1 p2 p3 K]
  exact h
/-! spec.NewGens -/
def G41 : Con := fun args tm K => dCons args fun a1_ r2_ => dAgg a1_ fun l3_ => dCons l3_ fun a4_ r5_ => dPl .int a4_ fun p1 => dCons r5_ fun a6_ r7_ => dPl .int a6_ fun p2 => dCons r7_ fun a8_ r9_ => dPl .int a8_ fun p3 => dNil r9_ <| dNil r2_ <| dEnd tm <| Ms_NewGens p1 p2 p3 (fun r1 r2 r3 r4 r5 r6 => K (.tup [.agg [.sl 0, .sl 1, .sl 2, .sl 3, .sl 4], .bool r1]) [⟨true, .list .int r2⟩, ⟨true, .list .int r3⟩, ⟨true, .list .int r4⟩, ⟨true, .list .bool r5⟩, ⟨true, .list .int r6⟩])
def H41 : List (Nat × LH) := []
def W41 : List (Nat × List (Nat × List Nat)) := []
def Γ41 : List (Nat × Con) := [(61, useC [.ag [.pure .int, .pure .int, .pure .int]] G61), (75, useC [.ag [.pure .int, .pure .int, .pure .int]] G75)]
theorem e41 (p1 : List Int) (p2 : List Int) (p3 : List Int) (K : TV → TMem → Prop) : TW PP 16 Γ41 H41 W41 (List.length ([] : TMem)) (bodyOf Try.f41) (endT PP 16 [.cell 2 32, .tmp 3] [.ag [.own .int, .own .int, .own .int, .own .bool, .own .int], .bl] [] (List.length ([] : TMem)) K) (argsF [.agg [.pl .int p1, .pl .int p2, .pl .int p3]]) [] =
    Ms_NewGens p1 p2 p3 (fun r1 r2 r3 r4 r5 r6 => K (.tup [.agg [.sl 0, .sl 1, .sl 2, .sl 3, .sl 4], .bool r1]) [⟨true, .list .int r2⟩, ⟨true, .list .int r3⟩, ⟨true, .list .int r4⟩, ⟨true, .list .bool r5⟩, ⟨true, .list .int r6⟩]) := by kernel_rfl
theorem s41 : CSound PP 41 G41 := by
  intro args K c h fl A aargs hA hN R hl
  unfold G41 at h
  generalize ht : c.tm = tm at h
  replace h := dCons_ok h; obtain ⟨a1_, r2_, rfl, h⟩ := h
  replace h := dAgg_ok h; obtain ⟨l3_, rfl, h⟩ := h
  replace h := dCons_ok h; obtain ⟨a4_, r5_, rfl, h⟩ := h
  replace h := dPl_ok h; obtain ⟨p1, rfl, h⟩ := h
  replace h := dCons_ok h; obtain ⟨a6_, r7_, rfl, h⟩ := h
  replace h := dPl_ok h; obtain ⟨p2, rfl, h⟩ := h
  replace h := dCons_ok h; obtain ⟨a8_, r9_, rfl, h⟩ := h
  replace h := dPl_ok h; obtain ⟨p3, rfl, h⟩ := h
  replace h := dNil_ok h; obtain ⟨rfl, h⟩ := h
  replace h := dNil_ok h; obtain ⟨rfl, h⟩ := h
  replace h := dEnd_ok h; obtain ⟨rfl, h⟩ := h
  refine fun_ok (nt := 16) (x := bodyOf Try.f41) (Γ := Γ41) (H := H41) (WW := W41) (rs := [.cell 2 32, .tmp 3]) (shs := [.ag [.own .int, .own .int, .own .int, .own .bool, .own .int], .bl]) (cons := []) mixed Try.func41 (by decide) (by kernel_rfl) Try.ntmps41 Try.results41 (.cons (useC_ok s61) (.cons (useC_ok s75) (GSound.nil))) ?_ hA hN R hl
  rw [ht, e41 p1 p2 p3 K]
  exact h
/-! spec.l11Young -/
def G86 : Con := fun args tm K => dCons args fun a1_ r2_ => dPl .bool a1_ fun p1 => dCons r2_ fun a3_ r4_ => dInt .i64 a3_ fun p2 => dNil r4_ <| dEnd tm <| Ms_l11Young p1 p2 (fun r1 => K (.bool r1) [])
def H86 : List (Nat × LH) := []
def W86 : List (Nat × List (Nat × List Nat)) := []
def Γ86 : List (Nat × Con) := []
theorem e86 (p1 : List Bool) (p2 : Int) (K : TV → TMem → Prop) : TW PP 14 Γ86 H86 W86 (List.length ([] : TMem)) (bodyOf Try.f86) (endT PP 14 [.tmp 4] [.bl] [] (List.length ([] : TMem)) K) (argsF [.pl .bool p1, .int .i64 p2]) [] =
    Ms_l11Young p1 p2 (fun r1 => K (.bool r1) []) := by kernel_rfl
theorem s86 : CSound PP 86 G86 := by
  intro args K c h fl A aargs hA hN R hl
  unfold G86 at h
  generalize ht : c.tm = tm at h
  replace h := dCons_ok h; obtain ⟨a1_, r2_, rfl, h⟩ := h
  replace h := dPl_ok h; obtain ⟨p1, rfl, h⟩ := h
  replace h := dCons_ok h; obtain ⟨a3_, r4_, rfl, h⟩ := h
  replace h := dInt_ok h; obtain ⟨p2, rfl, h⟩ := h
  replace h := dNil_ok h; obtain ⟨rfl, h⟩ := h
  replace h := dEnd_ok h; obtain ⟨rfl, h⟩ := h
  refine fun_ok (nt := 14) (x := bodyOf Try.f86) (Γ := Γ86) (H := H86) (WW := W86) (rs := [.tmp 4]) (shs := [.bl]) (cons := []) mixed Try.func86 (by decide) (by kernel_rfl) Try.ntmps86 Try.results86 (GSound.nil) ?_ hA hN R hl
  rw [ht, e86 p1 p2 K]
  exact h
/-! spec.l11Remember -/
def G62 : Con := fun args tm K => dCons args fun a1_ r2_ => dAgg a1_ fun l3_ => dCons l3_ fun a4_ r5_ => dPl .int a4_ fun p1 => dCons r5_ fun a6_ r7_ => dPl .int a6_ fun p2 => dCons r7_ fun a8_ r9_ => dPl .int a8_ fun p3 => dNil r9_ <| dCons r2_ fun a10_ r11_ => dPl .bool a10_ fun p4 => dNil r11_ <| dEnd tm <| Ms_l11Remember p1 p2 p3 p4 (fun r1 => K (.sl 0) [⟨true, .list .int r1⟩])
def H62_0 : LH where
  keep := [(1, .pure .bool), (2, .pc [.pure .int, .pure .int, .pure .int]), (5, .own .int), (6, .x)]
  S := List Bool × Int × List Int × List Int × List Int × List Int
  enc := fun s => ([.pl .bool s.1, .ptr 0 0, .sl 1, .int .i64 s.2.1], [⟨true, .cells [.pl .int s.2.2.1, .pl .int s.2.2.2.1, .pl .int s.2.2.2.2.1]⟩, ⟨true, .list .int s.2.2.2.2.2⟩])
  dec := fun vs tm K => dCons vs fun a1_ r2_ => dPl .bool a1_ fun q0 => dCons r2_ fun a3_ r4_ => dPtr 0 a3_ <| dCons r4_ fun a5_ r6_ => dSl 1 a5_ <| dCons r6_ fun a7_ r8_ => dInt .i64 a7_ fun q1 => dNil r8_ <| dBlk true tm fun b9_ m10_ => dCells b9_ fun c11_ => dCons c11_ fun a12_ r13_ => dPl .int a12_ fun q2 => dCons r13_ fun a14_ r15_ => dPl .int a14_ fun q3 => dCons r15_ fun a16_ r17_ => dPl .int a16_ fun q4 => dNil r17_ <| dBlk true m10_ fun b18_ m19_ => dList .int b18_ fun q5 => dEnd m19_ <| K (q0, q1, q2, q3, q4, q5)
  law := by
    intro vs tm K h
    replace h := dCons_ok h; obtain ⟨a1_, r2_, rfl, h⟩ := h
    replace h := dPl_ok h; obtain ⟨q0, rfl, h⟩ := h
    replace h := dCons_ok h; obtain ⟨a3_, r4_, rfl, h⟩ := h
    replace h := dPtr_ok h; obtain ⟨rfl, h⟩ := h
    replace h := dCons_ok h; obtain ⟨a5_, r6_, rfl, h⟩ := h
    replace h := dSl_ok h; obtain ⟨rfl, h⟩ := h
    replace h := dCons_ok h; obtain ⟨a7_, r8_, rfl, h⟩ := h
    replace h := dInt_ok h; obtain ⟨q1, rfl, h⟩ := h
    replace h := dNil_ok h; obtain ⟨rfl, h⟩ := h
    replace h := dBlk_ok h; obtain ⟨b9_, m10_, rfl, h⟩ := h
    replace h := dCells_ok h; obtain ⟨c11_, rfl, h⟩ := h
    replace h := dCons_ok h; obtain ⟨a12_, r13_, rfl, h⟩ := h
    replace h := dPl_ok h; obtain ⟨q2, rfl, h⟩ := h
    replace h := dCons_ok h; obtain ⟨a14_, r15_, rfl, h⟩ := h
    replace h := dPl_ok h; obtain ⟨q3, rfl, h⟩ := h
    replace h := dCons_ok h; obtain ⟨a16_, r17_, rfl, h⟩ := h
    replace h := dPl_ok h; obtain ⟨q4, rfl, h⟩ := h
    replace h := dNil_ok h; obtain ⟨rfl, h⟩ := h
    replace h := dBlk_ok h; obtain ⟨b18_, m19_, rfl, h⟩ := h
    replace h := dList_ok h; obtain ⟨q5, rfl, h⟩ := h
    replace h := dEnd_ok h; obtain ⟨rfl, h⟩ := h
    exact ⟨(q0, q1, q2, q3, q4, q5), rfl, h⟩
def H62 : List (Nat × LH) := [(0, H62_0)]
def W62 : List (Nat × List (Nat × List Nat)) := []
def Γ62 : List (Nat × Con) := [(86, useC [.pure .bool, .x] G86)]
theorem e62 (p1 : List Int) (p2 : List Int) (p3 : List Int) (p4 : List Bool) (K : TV → TMem → Prop) : TW PP 41 Γ62 H62 W62 (List.length ([] : TMem)) (bodyOf Try.f62) (endT PP 41 [.tmp 4] [.own .int] [] (List.length ([] : TMem)) K) (argsF [.agg [.pl .int p1, .pl .int p2, .pl .int p3], .pl .bool p4]) [] =
    Ms_l11Remember p1 p2 p3 p4 (fun r1 => K (.sl 0) [⟨true, .list .int r1⟩]) := by kernel_rfl
theorem s62 : CSound PP 62 G62 := by
  intro args K c h fl A aargs hA hN R hl
  unfold G62 at h
  generalize ht : c.tm = tm at h
  replace h := dCons_ok h; obtain ⟨a1_, r2_, rfl, h⟩ := h
  replace h := dAgg_ok h; obtain ⟨l3_, rfl, h⟩ := h
  replace h := dCons_ok h; obtain ⟨a4_, r5_, rfl, h⟩ := h
  replace h := dPl_ok h; obtain ⟨p1, rfl, h⟩ := h
  replace h := dCons_ok h; obtain ⟨a6_, r7_, rfl, h⟩ := h
  replace h := dPl_ok h; obtain ⟨p2, rfl, h⟩ := h
  replace h := dCons_ok h; obtain ⟨a8_, r9_, rfl, h⟩ := h
  replace h := dPl_ok h; obtain ⟨p3, rfl, h⟩ := h
  replace h := dNil_ok h; obtain ⟨rfl, h⟩ := h
  replace h := dCons_ok h; obtain ⟨a10_, r11_, rfl, h⟩ := h
  replace h := dPl_ok h; obtain ⟨p4, rfl, h⟩ := h
  replace h := dNil_ok h; obtain ⟨rfl, h⟩ := h
  replace h := dEnd_ok h; obtain ⟨rfl, h⟩ := h
  refine fun_ok (nt := 41) (x := bodyOf Try.f62) (Γ := Γ62) (H := H62) (WW := W62) (rs := [.tmp 4]) (shs := [.own .int]) (cons := []) mixed Try.func62 (by decide) (by kernel_rfl) Try.ntmps62 Try.results62 (.cons (useC_ok s86) (GSound.nil)) ?_ hA hN R hl
  rw [ht, e62 p1 p2 p3 p4 K]
  exact h
/-! spec.l11Draw -/
def G59 : Con := fun args tm K => dCons args fun a1_ r2_ => dPtr 0 a1_ <| dNil r2_ <| dBlk true tm fun b3_ m4_ => dCells b3_ fun c5_ => dCons c5_ fun a6_ r7_ => dPl .byte a6_ fun p1 => dCons r7_ fun a8_ r9_ => dInt .i64 a8_ fun p2 => dNil r9_ <| dEnd m4_ <| Ms_l11Draw p1 p2 (fun r1 r2 r3 r4 r5 r6 r7 => K (.agg [.sl 1, .sl 2, .sl 3, .sl 4, .sl 5]) [⟨true, .cells [.pl .byte r1, .int .i64 r2]⟩, ⟨true, .list .int r3⟩, ⟨true, .list .int r4⟩, ⟨true, .list .int r5⟩, ⟨true, .list .bool r6⟩, ⟨true, .list .int r7⟩])
def H59_0 : LH where
  keep := [(0, .pc [.pure .byte, .x]), (2, .pc [.own .int, .own .int, .own .int, .own .bool, .own .int]), (3, .pc [.own .int, .own .int, .own .int]), (4, .pc [.own .int, .own .int, .own .int, .own .bool, .own .int]), (6, .x)]
  S := Int × List Int × Int × List Int × List Int × List Int × List Bool × List Int × List Int × List Int × List Int × List Int × List Int × List Int × List Bool × List Int
  enc := fun s => ([.ptr 0 0, .ptr 1 0, .ptr 2 0, .ptr 3 0, .int .i64 s.1], [⟨true, .cells [.pl .byte s.2.1, .int .i64 s.2.2.1]⟩, ⟨true, .cells [.sl 4, .sl 5, .sl 6, .sl 7, .sl 8]⟩, ⟨true, .cells [.sl 9, .sl 10, .sl 11]⟩, ⟨true, .cells [.sl 12, .sl 13, .sl 14, .sl 15, .sl 16]⟩, ⟨true, .list .int s.2.2.2.1⟩, ⟨true, .list .int s.2.2.2.2.1⟩, ⟨true, .list .int s.2.2.2.2.2.1⟩, ⟨true, .list .bool s.2.2.2.2.2.2.1⟩, ⟨true, .list .int s.2.2.2.2.2.2.2.1⟩, ⟨true, .list .int s.2.2.2.2.2.2.2.2.1⟩, ⟨true, .list .int s.2.2.2.2.2.2.2.2.2.1⟩, ⟨true, .list .int s.2.2.2.2.2.2.2.2.2.2.1⟩, ⟨true, .list .int s.2.2.2.2.2.2.2.2.2.2.2.1⟩, ⟨true, .list .int s.2.2.2.2.2.2.2.2.2.2.2.2.1⟩, ⟨true, .list .int s.2.2.2.2.2.2.2.2.2.2.2.2.2.1⟩, ⟨true, .list .bool s.2.2.2.2.2.2.2.2.2.2.2.2.2.2.1⟩, ⟨true, .list .int s.2.2.2.2.2.2.2.2.2.2.2.2.2.2.2⟩])
  dec := fun vs tm K => dCons vs fun a1_ r2_ => dPtr 0 a1_ <| dCons r2_ fun a3_ r4_ => dPtr 1 a3_ <| dCons r4_ fun a5_ r6_ => dPtr 2 a5_ <| dCons r6_ fun a7_ r8_ => dPtr 3 a7_ <| dCons r8_ fun a9_ r10_ => dInt .i64 a9_ fun q0 => dNil r10_ <| dBlk true tm fun b11_ m12_ => dCells b11_ fun c13_ => dCons c13_ fun a14_ r15_ => dPl .byte a14_ fun q1 => dCons r15_ fun a16_ r17_ => dInt .i64 a16_ fun q2 => dNil r17_ <| dBlk true m12_ fun b18_ m19_ => dCells b18_ fun c20_ => dCons c20_ fun a21_ r22_ => dSl 4 a21_ <| dCons r22_ fun a23_ r24_ => dSl 5 a23_ <| dCons r24_ fun a25_ r26_ => dSl 6 a25_ <| dCons r26_ fun a27_ r28_ => dSl 7 a27_ <| dCons r28_ fun a29_ r30_ => dSl 8 a29_ <| dNil r30_ <| dBlk true m19_ fun b31_ m32_ => dCells b31_ fun c33_ => dCons c33_ fun a34_ r35_ => dSl 9 a34_ <| dCons r35_ fun a36_ r37_ => dSl 10 a36_ <| dCons r37_ fun a38_ r39_ => dSl 11 a38_ <| dNil r39_ <| dBlk true m32_ fun b40_ m41_ => dCells b40_ fun c42_ => dCons c42_ fun a43_ r44_ => dSl 12 a43_ <| dCons r44_ fun a45_ r46_ => dSl 13 a45_ <| dCons r46_ fun a47_ r48_ => dSl 14 a47_ <| dCons r48_ fun a49_ r50_ => dSl 15 a49_ <| dCons r50_ fun a51_ r52_ => dSl 16 a51_ <| dNil r52_ <| dBlk true m41_ fun b53_ m54_ => dList .int b53_ fun q3 => dBlk true m54_ fun b55_ m56_ => dList .int b55_ fun q4 => dBlk true m56_ fun b57_ m58_ => dList .int b57_ fun q5 => dBlk true m58_ fun b59_ m60_ => dList .bool b59_ fun q6 => dBlk true m60_ fun b61_ m62_ => dList .int b61_ fun q7 => dBlk true m62_ fun b63_ m64_ => dList .int b63_ fun q8 => dBlk true m64_ fun b65_ m66_ => dList .int b65_ fun q9 => dBlk true m66_ fun b67_ m68_ => dList .int b67_ fun q10 => dBlk true m68_ fun b69_ m70_ => dList .int b69_ fun q11 => dBlk true m70_ fun b71_ m72_ => dList .int b71_ fun q12 => dBlk true m72_ fun b73_ m74_ => dList .int b73_ fun q13 => dBlk true m74_ fun b75_ m76_ => dList .bool b75_ fun q14 => dBlk true m76_ fun b77_ m78_ => dList .int b77_ fun q15 => dEnd m78_ <| K (q0, q1, q2, q3, q4, q5, q6, q7, q8, q9, q10, q11, q12, q13, q14, q15)
  law := by
    intro vs tm K h
    replace h := dCons_ok h; obtain ⟨a1_, r2_, rfl, h⟩ := h
    replace h := dPtr_ok h; obtain ⟨rfl, h⟩ := h
    replace h := dCons_ok h; obtain ⟨a3_, r4_, rfl, h⟩ := h
    replace h := dPtr_ok h; obtain ⟨rfl, h⟩ := h
    replace h := dCons_ok h; obtain ⟨a5_, r6_, rfl, h⟩ := h
    replace h := dPtr_ok h; obtain ⟨rfl, h⟩ := h
    replace h := dCons_ok h; obtain ⟨a7_, r8_, rfl, h⟩ := h
    replace h := dPtr_ok h; obtain ⟨rfl, h⟩ := h
    replace h := dCons_ok h; obtain ⟨a9_, r10_, rfl, h⟩ := h
    replace h := dInt_ok h; obtain ⟨q0, rfl, h⟩ := h
    replace h := dNil_ok h; obtain ⟨rfl, h⟩ := h
    replace h := dBlk_ok h; obtain ⟨b11_, m12_, rfl, h⟩ := h
    replace h := dCells_ok h; obtain ⟨c13_, rfl, h⟩ := h
    replace h := dCons_ok h; obtain ⟨a14_, r15_, rfl, h⟩ := h
    replace h := dPl_ok h; obtain ⟨q1, rfl, h⟩ := h
    replace h := dCons_ok h; obtain ⟨a16_, r17_, rfl, h⟩ := h
    replace h := dInt_ok h; obtain ⟨q2, rfl, h⟩ := h
    replace h := dNil_ok h; obtain ⟨rfl, h⟩ := h
    replace h := dBlk_ok h; obtain ⟨b18_, m19_, rfl, h⟩ := h
    replace h := dCells_ok h; obtain ⟨c20_, rfl, h⟩ := h
    replace h := dCons_ok h; obtain ⟨a21_, r22_, rfl, h⟩ := h
    replace h := dSl_ok h; obtain ⟨rfl, h⟩ := h
    replace h := dCons_ok h; obtain ⟨a23_, r24_, rfl, h⟩ := h
    replace h := dSl_ok h; obtain ⟨rfl, h⟩ := h
    replace h := dCons_ok h; obtain ⟨a25_, r26_, rfl, h⟩ := h
    replace h := dSl_ok h; obtain ⟨rfl, h⟩ := h
    replace h := dCons_ok h; obtain ⟨a27_, r28_, rfl, h⟩ := h
    replace h := dSl_ok h; obtain ⟨rfl, h⟩ := h
    replace h := dCons_ok h; obtain ⟨a29_, r30_, rfl, h⟩ := h
    replace h := dSl_ok h; obtain ⟨rfl, h⟩ := h
    replace h := dNil_ok h; obtain ⟨rfl, h⟩ := h
    replace h := dBlk_ok h; obtain ⟨b31_, m32_, rfl, h⟩ := h
    replace h := dCells_ok h; obtain ⟨c33_, rfl, h⟩ := h
    replace h := dCons_ok h; obtain ⟨a34_, r35_, rfl, h⟩ := h
    replace h := dSl_ok h; obtain ⟨rfl, h⟩ := h
    replace h := dCons_ok h; obtain ⟨a36_, r37_, rfl, h⟩ := h
    replace h := dSl_ok h; obtain ⟨rfl, h⟩ := h
    replace h := dCons_ok h; obtain ⟨a38_, r39_, rfl, h⟩ := h
    replace h := dSl_ok h; obtain ⟨rfl, h⟩ := h
    replace h := dNil_ok h; obtain ⟨rfl, h⟩ := h
    replace h := dBlk_ok h; obtain ⟨b40_, m41_, rfl, h⟩ := h
    replace h := dCells_ok h; obtain ⟨c42_, rfl, h⟩ := h
    replace h := dCons_ok h; obtain ⟨a43_, r44_, rfl, h⟩ := h
    replace h := dSl_ok h; obtain ⟨rfl, h⟩ := h
    replace h := dCons_ok h; obtain ⟨a45_, r46_, rfl, h⟩ := h
    replace h := dSl_ok h; obtain ⟨rfl, h⟩ := h
    replace h := dCons_ok h; obtain ⟨a47_, r48_, rfl, h⟩ := h
    replace h := dSl_ok h; obtain ⟨rfl, h⟩ := h
    replace h := dCons_ok h; obtain ⟨a49_, r50_, rfl, h⟩ := h
    replace h := dSl_ok h; obtain ⟨rfl, h⟩ := h
    replace h := dCons_ok h; obtain ⟨a51_, r52_, rfl, h⟩ := h
    replace h := dSl_ok h; obtain ⟨rfl, h⟩ := h
    replace h := dNil_ok h; obtain ⟨rfl, h⟩ := h
    replace h := dBlk_ok h; obtain ⟨b53_, m54_, rfl, h⟩ := h
    replace h := dList_ok h; obtain ⟨q3, rfl, h⟩ := h
    replace h := dBlk_ok h; obtain ⟨b55_, m56_, rfl, h⟩ := h
    replace h := dList_ok h; obtain ⟨q4, rfl, h⟩ := h
    replace h := dBlk_ok h; obtain ⟨b57_, m58_, rfl, h⟩ := h
    replace h := dList_ok h; obtain ⟨q5, rfl, h⟩ := h
    replace h := dBlk_ok h; obtain ⟨b59_, m60_, rfl, h⟩ := h
    replace h := dList_ok h; obtain ⟨q6, rfl, h⟩ := h
    replace h := dBlk_ok h; obtain ⟨b61_, m62_, rfl, h⟩ := h
    replace h := dList_ok h; obtain ⟨q7, rfl, h⟩ := h
    replace h := dBlk_ok h; obtain ⟨b63_, m64_, rfl, h⟩ := h
    replace h := dList_ok h; obtain ⟨q8, rfl, h⟩ := h
    replace h := dBlk_ok h; obtain ⟨b65_, m66_, rfl, h⟩ := h
    replace h := dList_ok h; obtain ⟨q9, rfl, h⟩ := h
    replace h := dBlk_ok h; obtain ⟨b67_, m68_, rfl, h⟩ := h
    replace h := dList_ok h; obtain ⟨q10, rfl, h⟩ := h
    replace h := dBlk_ok h; obtain ⟨b69_, m70_, rfl, h⟩ := h
    replace h := dList_ok h; obtain ⟨q11, rfl, h⟩ := h
    replace h := dBlk_ok h; obtain ⟨b71_, m72_, rfl, h⟩ := h
    replace h := dList_ok h; obtain ⟨q12, rfl, h⟩ := h
    replace h := dBlk_ok h; obtain ⟨b73_, m74_, rfl, h⟩ := h
    replace h := dList_ok h; obtain ⟨q13, rfl, h⟩ := h
    replace h := dBlk_ok h; obtain ⟨b75_, m76_, rfl, h⟩ := h
    replace h := dList_ok h; obtain ⟨q14, rfl, h⟩ := h
    replace h := dBlk_ok h; obtain ⟨b77_, m78_, rfl, h⟩ := h
    replace h := dList_ok h; obtain ⟨q15, rfl, h⟩ := h
    replace h := dEnd_ok h; obtain ⟨rfl, h⟩ := h
    exact ⟨(q0, q1, q2, q3, q4, q5, q6, q7, q8, q9, q10, q11, q12, q13, q14, q15), rfl, h⟩
def H59 : List (Nat × LH) := [(0, H59_0)]
def W59 : List (Nat × List (Nat × List Nat)) := [(6, [(0, [4])])]
def Γ59 : List (Nat × Con) := [(72, useC [.pc [.pure .byte, .x]] G72), (41, useC [.ag [.pure .int, .pure .int, .pure .int]] G41), (73, useC [.pc [.pure .byte, .x], .x] G73), (62, useC [.ag [.pure .int, .pure .int, .pure .int], .pure .bool] G62)]
theorem e59 (p1 : List Int) (p2 : Int) (K : TV → TMem → Prop) : TW PP 34 Γ59 H59 W59 (List.length ([⟨true, .cells [.pl .byte p1, .int .i64 p2]⟩] : TMem)) (bodyOf Try.f59) (endT PP 34 [.cell 2 32] [.ag [.own .int, .own .int, .own .int, .own .bool, .own .int]] [] (List.length ([⟨true, .cells [.pl .byte p1, .int .i64 p2]⟩] : TMem)) K) (argsF [.ptr 0 0]) [⟨true, .cells [.pl .byte p1, .int .i64 p2]⟩] =
    Ms_l11Draw p1 p2 (fun r1 r2 r3 r4 r5 r6 r7 => K (.agg [.sl 1, .sl 2, .sl 3, .sl 4, .sl 5]) [⟨true, .cells [.pl .byte r1, .int .i64 r2]⟩, ⟨true, .list .int r3⟩, ⟨true, .list .int r4⟩, ⟨true, .list .int r5⟩, ⟨true, .list .bool r6⟩, ⟨true, .list .int r7⟩]) := by kernel_rfl
theorem s59 : CSound PP 59 G59 := by
  intro args K c h fl A aargs hA hN R hl
  unfold G59 at h
  generalize ht : c.tm = tm at h
  replace h := dCons_ok h; obtain ⟨a1_, r2_, rfl, h⟩ := h
  replace h := dPtr_ok h; obtain ⟨rfl, h⟩ := h
  replace h := dNil_ok h; obtain ⟨rfl, h⟩ := h
  replace h := dBlk_ok h; obtain ⟨b3_, m4_, rfl, h⟩ := h
  replace h := dCells_ok h; obtain ⟨c5_, rfl, h⟩ := h
  replace h := dCons_ok h; obtain ⟨a6_, r7_, rfl, h⟩ := h
  replace h := dPl_ok h; obtain ⟨p1, rfl, h⟩ := h
  replace h := dCons_ok h; obtain ⟨a8_, r9_, rfl, h⟩ := h
  replace h := dInt_ok h; obtain ⟨p2, rfl, h⟩ := h
  replace h := dNil_ok h; obtain ⟨rfl, h⟩ := h
  replace h := dEnd_ok h; obtain ⟨rfl, h⟩ := h
  refine fun_ok (nt := 34) (x := bodyOf Try.f59) (Γ := Γ59) (H := H59) (WW := W59) (rs := [.cell 2 32]) (shs := [.ag [.own .int, .own .int, .own .int, .own .bool, .own .int]]) (cons := []) mixed Try.func59 (by decide) (by kernel_rfl) Try.ntmps59 Try.results59 (.cons (useC_ok s72) (.cons (useC_ok s41) (.cons (useC_ok s73) (.cons (useC_ok s62) (GSound.nil))))) ?_ hA hN R hl
  rw [ht, e59 p1 p2 K]
  exact h
/-! spec.l11Wrong -/
def G58 : Con := fun args tm K => dCons args fun a1_ r2_ => dPtr 0 a1_ <| dCons r2_ fun a3_ r4_ => dAgg a3_ fun l5_ => dCons l5_ fun a6_ r7_ => dSl 1 a6_ <| dCons r7_ fun a8_ r9_ => dSl 2 a8_ <| dCons r9_ fun a10_ r11_ => dSl 3 a10_ <| dCons r11_ fun a12_ r13_ => dSl 4 a12_ <| dCons r13_ fun a14_ r15_ => dSl 5 a14_ <| dNil r15_ <| dNil r4_ <| dBlk true tm fun b16_ m17_ => dCells b16_ fun c18_ => dCons c18_ fun a19_ r20_ => dPl .byte a19_ fun p1 => dCons r20_ fun a21_ r22_ => dInt .i64 a21_ fun p2 => dNil r22_ <| dBlk false m17_ fun b23_ m24_ => dList .int b23_ fun p3 => dBlk false m24_ fun b25_ m26_ => dList .int b25_ fun p4 => dBlk false m26_ fun b27_ m28_ => dList .int b27_ fun p5 => dBlk false m28_ fun b29_ m30_ => dList .bool b29_ fun p6 => dBlk false m30_ fun b31_ m32_ => dList .int b31_ fun p7 => dEnd m32_ <| Ms_l11Wrong p1 p2 p3 p4 p5 p6 p7 (fun r1 r2 r3 => K (.agg [.sl 6, .sl 7, .sl 8, .sl 9, .sl 10]) [⟨true, .cells [.pl .byte p1, .int .i64 r1]⟩, ⟨false, .list .int p3⟩, ⟨false, .list .int p4⟩, ⟨false, .list .int p5⟩, ⟨false, .list .bool p6⟩, ⟨false, .list .int p7⟩, ⟨true, .list .int p3⟩, ⟨true, .list .int p4⟩, ⟨true, .list .int p5⟩, ⟨true, .list .bool r2⟩, ⟨true, .list .int r3⟩])
def H58 : List (Nat × LH) := []
def W58 : List (Nat × List (Nat × List Nat)) := [(7, [(0, [4])])]
def Γ58 : List (Nat × Con) := [(75, useC [.ag [.pure .int, .pure .int, .pure .int]] G75), (73, useC [.pc [.pure .byte, .x], .x] G73), (74, useC [.pc [.pure .byte, .x], .pure .int] G74)]
theorem e58 (p1 : List Int) (p2 : Int) (p3 : List Int) (p4 : List Int) (p5 : List Int) (p6 : List Bool) (p7 : List Int) (K : TV → TMem → Prop) : TW PP 56 Γ58 H58 W58 (List.length ([⟨true, .cells [.pl .byte p1, .int .i64 p2]⟩, ⟨false, .list .int p3⟩, ⟨false, .list .int p4⟩, ⟨false, .list .int p5⟩, ⟨false, .list .bool p6⟩, ⟨false, .list .int p7⟩] : TMem)) (bodyOf Try.f58) (endT PP 56 [.cell 4 32] [.ag [.own .int, .own .int, .own .int, .own .bool, .own .int]] [] (List.length ([⟨true, .cells [.pl .byte p1, .int .i64 p2]⟩, ⟨false, .list .int p3⟩, ⟨false, .list .int p4⟩, ⟨false, .list .int p5⟩, ⟨false, .list .bool p6⟩, ⟨false, .list .int p7⟩] : TMem)) K) (argsF [.ptr 0 0, .agg [.sl 1, .sl 2, .sl 3, .sl 4, .sl 5]]) [⟨true, .cells [.pl .byte p1, .int .i64 p2]⟩, ⟨false, .list .int p3⟩, ⟨false, .list .int p4⟩, ⟨false, .list .int p5⟩, ⟨false, .list .bool p6⟩, ⟨false, .list .int p7⟩] =
    Ms_l11Wrong p1 p2 p3 p4 p5 p6 p7 (fun r1 r2 r3 => K (.agg [.sl 6, .sl 7, .sl 8, .sl 9, .sl 10]) [⟨true, .cells [.pl .byte p1, .int .i64 r1]⟩, ⟨false, .list .int p3⟩, ⟨false, .list .int p4⟩, ⟨false, .list .int p5⟩, ⟨false, .list .bool p6⟩, ⟨false, .list .int p7⟩, ⟨true, .list .int p3⟩, ⟨true, .list .int p4⟩, ⟨true, .list .int p5⟩, ⟨true, .list .bool r2⟩, ⟨true, .list .int r3⟩]) := by kernel_rfl
theorem s58 : CSound PP 58 G58 := by
  intro args K c h fl A aargs hA hN R hl
  unfold G58 at h
  generalize ht : c.tm = tm at h
  replace h := dCons_ok h; obtain ⟨a1_, r2_, rfl, h⟩ := h
  replace h := dPtr_ok h; obtain ⟨rfl, h⟩ := h
  replace h := dCons_ok h; obtain ⟨a3_, r4_, rfl, h⟩ := h
  replace h := dAgg_ok h; obtain ⟨l5_, rfl, h⟩ := h
  replace h := dCons_ok h; obtain ⟨a6_, r7_, rfl, h⟩ := h
  replace h := dSl_ok h; obtain ⟨rfl, h⟩ := h
  replace h := dCons_ok h; obtain ⟨a8_, r9_, rfl, h⟩ := h
  replace h := dSl_ok h; obtain ⟨rfl, h⟩ := h
  replace h := dCons_ok h; obtain ⟨a10_, r11_, rfl, h⟩ := h
  replace h := dSl_ok h; obtain ⟨rfl, h⟩ := h
  replace h := dCons_ok h; obtain ⟨a12_, r13_, rfl, h⟩ := h
  replace h := dSl_ok h; obtain ⟨rfl, h⟩ := h
  replace h := dCons_ok h; obtain ⟨a14_, r15_, rfl, h⟩ := h
  replace h := dSl_ok h; obtain ⟨rfl, h⟩ := h
  replace h := dNil_ok h; obtain ⟨rfl, h⟩ := h
  replace h := dNil_ok h; obtain ⟨rfl, h⟩ := h
  replace h := dBlk_ok h; obtain ⟨b16_, m17_, rfl, h⟩ := h
  replace h := dCells_ok h; obtain ⟨c18_, rfl, h⟩ := h
  replace h := dCons_ok h; obtain ⟨a19_, r20_, rfl, h⟩ := h
  replace h := dPl_ok h; obtain ⟨p1, rfl, h⟩ := h
  replace h := dCons_ok h; obtain ⟨a21_, r22_, rfl, h⟩ := h
  replace h := dInt_ok h; obtain ⟨p2, rfl, h⟩ := h
  replace h := dNil_ok h; obtain ⟨rfl, h⟩ := h
  replace h := dBlk_ok h; obtain ⟨b23_, m24_, rfl, h⟩ := h
  replace h := dList_ok h; obtain ⟨p3, rfl, h⟩ := h
  replace h := dBlk_ok h; obtain ⟨b25_, m26_, rfl, h⟩ := h
  replace h := dList_ok h; obtain ⟨p4, rfl, h⟩ := h
  replace h := dBlk_ok h; obtain ⟨b27_, m28_, rfl, h⟩ := h
  replace h := dList_ok h; obtain ⟨p5, rfl, h⟩ := h
  replace h := dBlk_ok h; obtain ⟨b29_, m30_, rfl, h⟩ := h
  replace h := dList_ok h; obtain ⟨p6, rfl, h⟩ := h
  replace h := dBlk_ok h; obtain ⟨b31_, m32_, rfl, h⟩ := h
  replace h := dList_ok h; obtain ⟨p7, rfl, h⟩ := h
  replace h := dEnd_ok h; obtain ⟨rfl, h⟩ := h
  refine fun_ok (nt := 56) (x := bodyOf Try.f58) (Γ := Γ58) (H := H58) (WW := W58) (rs := [.cell 4 32]) (shs := [.ag [.own .int, .own .int, .own .int, .own .bool, .own .int]]) (cons := []) mixed Try.func58 (by decide) (by kernel_rfl) Try.ntmps58 Try.results58 (.cons (useC_ok s75) (.cons (useC_ok s73) (.cons (useC_ok s74) (GSound.nil)))) ?_ hA hN R hl
  rw [ht, e58 p1 p2 p3 p4 p5 p6 p7 K]
  exact h
/-! impl.HeapValid -/
def G34 : Con := fun args tm K => dCons args fun a1_ r2_ => dAgg a1_ fun l3_ => dCons l3_ fun a4_ r5_ => dPl .int a4_ fun p1 => dCons r5_ fun a6_ r7_ => dPl .int a6_ fun p2 => dCons r7_ fun a8_ r9_ => dPl .int a8_ fun p3 => dNil r9_ <| dNil r2_ <| dEnd tm <| Mi_HeapValid p1 p2 p3 (fun r1 => K (.bool r1) [])
def H34_0 : LH where
  keep := [(1, .pc [.pure .int, .pure .int, .pure .int]), (44, .own .ints), (45, .x), (46, .x)]
  S := Int × Int × List Int × List Int × List Int × List (List Int)
  enc := fun s => ([.ptr 0 0, .sl 1, .int .i64 s.1, .int .i64 s.2.1], [⟨true, .cells [.pl .int s.2.2.1, .pl .int s.2.2.2.1, .pl .int s.2.2.2.2.1]⟩, ⟨true, .list .ints s.2.2.2.2.2⟩])
  dec := fun vs tm K => dCons vs fun a1_ r2_ => dPtr 0 a1_ <| dCons r2_ fun a3_ r4_ => dSl 1 a3_ <| dCons r4_ fun a5_ r6_ => dInt .i64 a5_ fun q0 => dCons r6_ fun a7_ r8_ => dInt .i64 a7_ fun q1 => dNil r8_ <| dBlk true tm fun b9_ m10_ => dCells b9_ fun c11_ => dCons c11_ fun a12_ r13_ => dPl .int a12_ fun q2 => dCons r13_ fun a14_ r15_ => dPl .int a14_ fun q3 => dCons r15_ fun a16_ r17_ => dPl .int a16_ fun q4 => dNil r17_ <| dBlk true m10_ fun b18_ m19_ => dList .ints b18_ fun q5 => dEnd m19_ <| K (q0, q1, q2, q3, q4, q5)
  law := by
    intro vs tm K h
    replace h := dCons_ok h; obtain ⟨a1_, r2_, rfl, h⟩ := h
    replace h := dPtr_ok h; obtain ⟨rfl, h⟩ := h
    replace h := dCons_ok h; obtain ⟨a3_, r4_, rfl, h⟩ := h
    replace h := dSl_ok h; obtain ⟨rfl, h⟩ := h
    replace h := dCons_ok h; obtain ⟨a5_, r6_, rfl, h⟩ := h
    replace h := dInt_ok h; obtain ⟨q0, rfl, h⟩ := h
    replace h := dCons_ok h; obtain ⟨a7_, r8_, rfl, h⟩ := h
    replace h := dInt_ok h; obtain ⟨q1, rfl, h⟩ := h
    replace h := dNil_ok h; obtain ⟨rfl, h⟩ := h
    replace h := dBlk_ok h; obtain ⟨b9_, m10_, rfl, h⟩ := h
    replace h := dCells_ok h; obtain ⟨c11_, rfl, h⟩ := h
    replace h := dCons_ok h; obtain ⟨a12_, r13_, rfl, h⟩ := h
    replace h := dPl_ok h; obtain ⟨q2, rfl, h⟩ := h
    replace h := dCons_ok h; obtain ⟨a14_, r15_, rfl, h⟩ := h
    replace h := dPl_ok h; obtain ⟨q3, rfl, h⟩ := h
    replace h := dCons_ok h; obtain ⟨a16_, r17_, rfl, h⟩ := h
    replace h := dPl_ok h; obtain ⟨q4, rfl, h⟩ := h
    replace h := dNil_ok h; obtain ⟨rfl, h⟩ := h
    replace h := dBlk_ok h; obtain ⟨b18_, m19_, rfl, h⟩ := h
    replace h := dList_ok h; obtain ⟨q5, rfl, h⟩ := h
    replace h := dEnd_ok h; obtain ⟨rfl, h⟩ := h
    exact ⟨(q0, q1, q2, q3, q4, q5), rfl, h⟩
def H34_2 : LH where
  keep := [(1, .pc [.pure .int, .pure .int, .pure .int]), (44, .own .ints), (45, .x), (46, .x), (50, .pure .int), (51, .x), (52, .x)]
  S := Int × Int × List Int × Int × Int × List Int × List Int × List Int × List (List Int)
  enc := fun s => ([.ptr 0 0, .sl 1, .int .i64 s.1, .int .i64 s.2.1, .pl .int s.2.2.1, .int .i64 s.2.2.2.1, .int .i64 s.2.2.2.2.1], [⟨true, .cells [.pl .int s.2.2.2.2.2.1, .pl .int s.2.2.2.2.2.2.1, .pl .int s.2.2.2.2.2.2.2.1]⟩, ⟨true, .list .ints s.2.2.2.2.2.2.2.2⟩])
  dec := fun vs tm K => dCons vs fun a1_ r2_ => dPtr 0 a1_ <| dCons r2_ fun a3_ r4_ => dSl 1 a3_ <| dCons r4_ fun a5_ r6_ => dInt .i64 a5_ fun q0 => dCons r6_ fun a7_ r8_ => dInt .i64 a7_ fun q1 => dCons r8_ fun a9_ r10_ => dPl .int a9_ fun q2 => dCons r10_ fun a11_ r12_ => dInt .i64 a11_ fun q3 => dCons r12_ fun a13_ r14_ => dInt .i64 a13_ fun q4 => dNil r14_ <| dBlk true tm fun b15_ m16_ => dCells b15_ fun c17_ => dCons c17_ fun a18_ r19_ => dPl .int a18_ fun q5 => dCons r19_ fun a20_ r21_ => dPl .int a20_ fun q6 => dCons r21_ fun a22_ r23_ => dPl .int a22_ fun q7 => dNil r23_ <| dBlk true m16_ fun b24_ m25_ => dList .ints b24_ fun q8 => dEnd m25_ <| K (q0, q1, q2, q3, q4, q5, q6, q7, q8)
  law := by
    intro vs tm K h
    replace h := dCons_ok h; obtain ⟨a1_, r2_, rfl, h⟩ := h
    replace h := dPtr_ok h; obtain ⟨rfl, h⟩ := h
    replace h := dCons_ok h; obtain ⟨a3_, r4_, rfl, h⟩ := h
    replace h := dSl_ok h; obtain ⟨rfl, h⟩ := h
    replace h := dCons_ok h; obtain ⟨a5_, r6_, rfl, h⟩ := h
    replace h := dInt_ok h; obtain ⟨q0, rfl, h⟩ := h
    replace h := dCons_ok h; obtain ⟨a7_, r8_, rfl, h⟩ := h
    replace h := dInt_ok h; obtain ⟨q1, rfl, h⟩ := h
    replace h := dCons_ok h; obtain ⟨a9_, r10_, rfl, h⟩ := h
    replace h := dPl_ok h; obtain ⟨q2, rfl, h⟩ := h
    replace h := dCons_ok h; obtain ⟨a11_, r12_, rfl, h⟩ := h
    replace h := dInt_ok h; obtain ⟨q3, rfl, h⟩ := h
    replace h := dCons_ok h; obtain ⟨a13_, r14_, rfl, h⟩ := h
    replace h := dInt_ok h; obtain ⟨q4, rfl, h⟩ := h
    replace h := dNil_ok h; obtain ⟨rfl, h⟩ := h
    replace h := dBlk_ok h; obtain ⟨b15_, m16_, rfl, h⟩ := h
    replace h := dCells_ok h; obtain ⟨c17_, rfl, h⟩ := h
    replace h := dCons_ok h; obtain ⟨a18_, r19_, rfl, h⟩ := h
    replace h := dPl_ok h; obtain ⟨q5, rfl, h⟩ := h
    replace h := dCons_ok h; obtain ⟨a20_, r21_, rfl, h⟩ := h
    replace h := dPl_ok h; obtain ⟨q6, rfl, h⟩ := h
    replace h := dCons_ok h; obtain ⟨a22_, r23_, rfl, h⟩ := h
    replace h := dPl_ok h; obtain ⟨q7, rfl, h⟩ := h
    replace h := dNil_ok h; obtain ⟨rfl, h⟩ := h
    replace h := dBlk_ok h; obtain ⟨b24_, m25_, rfl, h⟩ := h
    replace h := dList_ok h; obtain ⟨q8, rfl, h⟩ := h
    replace h := dEnd_ok h; obtain ⟨rfl, h⟩ := h
    exact ⟨(q0, q1, q2, q3, q4, q5, q6, q7, q8), rfl, h⟩
def H34 : List (Nat × LH) := [(0, H34_0), (2, H34_2)]
def W34 : List (Nat × List (Nat × List Nat)) := []
def Γ34 : List (Nat × Con) := []
theorem e34 (p1 : List Int) (p2 : List Int) (p3 : List Int) (K : TV → TMem → Prop) : TW PP 67 Γ34 H34 W34 (List.length ([] : TMem)) (bodyOf Try.f34) (endT PP 67 [.tmp 2] [.bl] [] (List.length ([] : TMem)) K) (argsF [.agg [.pl .int p1, .pl .int p2, .pl .int p3]]) [] =
    Mi_HeapValid p1 p2 p3 (fun r1 => K (.bool r1) []) := by kernel_rfl
theorem s34 : CSound PP 34 G34 := by
  intro args K c h fl A aargs hA hN R hl
  unfold G34 at h
  generalize ht : c.tm = tm at h
  replace h := dCons_ok h; obtain ⟨a1_, r2_, rfl, h⟩ := h
  replace h := dAgg_ok h; obtain ⟨l3_, rfl, h⟩ := h
  replace h := dCons_ok h; obtain ⟨a4_, r5_, rfl, h⟩ := h
  replace h := dPl_ok h; obtain ⟨p1, rfl, h⟩ := h
  replace h := dCons_ok h; obtain ⟨a6_, r7_, rfl, h⟩ := h
  replace h := dPl_ok h; obtain ⟨p2, rfl, h⟩ := h
  replace h := dCons_ok h; obtain ⟨a8_, r9_, rfl, h⟩ := h
  replace h := dPl_ok h; obtain ⟨p3, rfl, h⟩ := h
  replace h := dNil_ok h; obtain ⟨rfl, h⟩ := h
  replace h := dNil_ok h; obtain ⟨rfl, h⟩ := h
  replace h := dEnd_ok h; obtain ⟨rfl, h⟩ := h
  refine fun_ok (nt := 67) (x := bodyOf Try.f34) (Γ := Γ34) (H := H34) (WW := W34) (rs := [.tmp 2]) (shs := [.bl]) (cons := []) mixed Try.func34 (by decide) (by kernel_rfl) Try.ntmps34 Try.results34 (GSound.nil) ?_ hA hN R hl
  rw [ht, e34 p1 p2 p3 K]
  exact h
/-! impl.remembered$1 -/
def G84 : Con := fun args tm K => dCons args fun a1_ r2_ => dInt .i64 a1_ fun p1 => dCons r2_ fun a3_ r4_ => dPtr 0 a3_ <| dNil r4_ <| dBlk true tm fun b5_ m6_ => dCells b5_ fun c7_ => dCons c7_ fun a8_ r9_ => dPl .bool a8_ fun p2 => dNil r9_ <| dEnd m6_ <| Mi_remembered_1 p1 p2 (fun r1 => K (.bool r1) [⟨true, .cells [.pl .bool p2]⟩])
def H84 : List (Nat × LH) := []
def W84 : List (Nat × List (Nat × List Nat)) := []
def Γ84 : List (Nat × Con) := []
theorem e84 (p1 : Int) (p2 : List Bool) (K : TV → TMem → Prop) : TW PP 13 Γ84 H84 W84 (List.length ([⟨true, .cells [.pl .bool p2]⟩] : TMem)) (bodyOf Try.f84) (endT PP 13 [.tmp 3] [.bl] [] (List.length ([⟨true, .cells [.pl .bool p2]⟩] : TMem)) K) (argsF [.int .i64 p1, .ptr 0 0]) [⟨true, .cells [.pl .bool p2]⟩] =
    Mi_remembered_1 p1 p2 (fun r1 => K (.bool r1) [⟨true, .cells [.pl .bool p2]⟩]) := by kernel_rfl
theorem s84 : CSound PP 84 G84 := by
  intro args K c h fl A aargs hA hN R hl
  unfold G84 at h
  generalize ht : c.tm = tm at h
  replace h := dCons_ok h; obtain ⟨a1_, r2_, rfl, h⟩ := h
  replace h := dInt_ok h; obtain ⟨p1, rfl, h⟩ := h
  replace h := dCons_ok h; obtain ⟨a3_, r4_, rfl, h⟩ := h
  replace h := dPtr_ok h; obtain ⟨rfl, h⟩ := h
  replace h := dNil_ok h; obtain ⟨rfl, h⟩ := h
  replace h := dBlk_ok h; obtain ⟨b5_, m6_, rfl, h⟩ := h
  replace h := dCells_ok h; obtain ⟨c7_, rfl, h⟩ := h
  replace h := dCons_ok h; obtain ⟨a8_, r9_, rfl, h⟩ := h
  replace h := dPl_ok h; obtain ⟨p2, rfl, h⟩ := h
  replace h := dNil_ok h; obtain ⟨rfl, h⟩ := h
  replace h := dEnd_ok h; obtain ⟨rfl, h⟩ := h
  refine fun_ok (nt := 13) (x := bodyOf Try.f84) (Γ := Γ84) (H := H84) (WW := W84) (rs := [.tmp 3]) (shs := [.bl]) (cons := []) mixed Try.func84 (by decide) (by kernel_rfl) Try.ntmps84 Try.results84 (GSound.nil) ?_ hA hN R hl
  rw [ht, e84 p1 p2 K]
  exact h
/-! impl.remembered -/
def G60 : Con := fun args tm K => dCons args fun a1_ r2_ => dAgg a1_ fun l3_ => dCons l3_ fun a4_ r5_ => dPl .int a4_ fun p1 => dCons r5_ fun a6_ r7_ => dPl .int a6_ fun p2 => dCons r7_ fun a8_ r9_ => dPl .int a8_ fun p3 => dNil r9_ <| dCons r2_ fun a10_ r11_ => dPl .bool a10_ fun p4 => dNil r11_ <| dEnd tm <| Mi_remembered p1 p2 p3 p4 (fun r1 => K (.sl 0) [⟨true, .list .int r1⟩])
def H60_0 : LH where
  keep := [(2, .pc [.pure .int, .pure .int, .pure .int]), (5, .x), (6, .own .int), (11, .pure .bool), (12, .x), (13, .x)]
  S := List Bool × Int × Int × List Int × List Int × List Int × List Bool × List Int
  enc := fun s => ([.ptr 0 0, .fn 84 [] [.ptr 1 0], .sl 2, .pl .bool s.1, .int .i64 s.2.1, .int .i64 s.2.2.1], [⟨true, .cells [.pl .int s.2.2.2.1, .pl .int s.2.2.2.2.1, .pl .int s.2.2.2.2.2.1]⟩, ⟨true, .cells [.pl .bool s.2.2.2.2.2.2.1]⟩, ⟨true, .list .int s.2.2.2.2.2.2.2⟩])
  dec := fun vs tm K => dCons vs fun a1_ r2_ => dPtr 0 a1_ <| dCons r2_ fun a3_ r4_ => dFn 84 a3_ fun x5_ y6_ => dNil x5_ <| dCons y6_ fun a7_ r8_ => dPtr 1 a7_ <| dNil r8_ <| dCons r4_ fun a9_ r10_ => dSl 2 a9_ <| dCons r10_ fun a11_ r12_ => dPl .bool a11_ fun q0 => dCons r12_ fun a13_ r14_ => dInt .i64 a13_ fun q1 => dCons r14_ fun a15_ r16_ => dInt .i64 a15_ fun q2 => dNil r16_ <| dBlk true tm fun b17_ m18_ => dCells b17_ fun c19_ => dCons c19_ fun a20_ r21_ => dPl .int a20_ fun q3 => dCons r21_ fun a22_ r23_ => dPl .int a22_ fun q4 => dCons r23_ fun a24_ r25_ => dPl .int a24_ fun q5 => dNil r25_ <| dBlk true m18_ fun b26_ m27_ => dCells b26_ fun c28_ => dCons c28_ fun a29_ r30_ => dPl .bool a29_ fun q6 => dNil r30_ <| dBlk true m27_ fun b31_ m32_ => dList .int b31_ fun q7 => dEnd m32_ <| K (q0, q1, q2, q3, q4, q5, q6, q7)
  law := by
    intro vs tm K h
    replace h := dCons_ok h; obtain ⟨a1_, r2_, rfl, h⟩ := h
    replace h := dPtr_ok h; obtain ⟨rfl, h⟩ := h
    replace h := dCons_ok h; obtain ⟨a3_, r4_, rfl, h⟩ := h
    replace h := dFn_ok h; obtain ⟨x5_, y6_, rfl, h⟩ := h
    replace h := dNil_ok h; obtain ⟨rfl, h⟩ := h
    replace h := dCons_ok h; obtain ⟨a7_, r8_, rfl, h⟩ := h
    replace h := dPtr_ok h; obtain ⟨rfl, h⟩ := h
    replace h := dNil_ok h; obtain ⟨rfl, h⟩ := h
    replace h := dCons_ok h; obtain ⟨a9_, r10_, rfl, h⟩ := h
    replace h := dSl_ok h; obtain ⟨rfl, h⟩ := h
    replace h := dCons_ok h; obtain ⟨a11_, r12_, rfl, h⟩ := h
    replace h := dPl_ok h; obtain ⟨q0, rfl, h⟩ := h
    replace h := dCons_ok h; obtain ⟨a13_, r14_, rfl, h⟩ := h
    replace h := dInt_ok h; obtain ⟨q1, rfl, h⟩ := h
    replace h := dCons_ok h; obtain ⟨a15_, r16_, rfl, h⟩ := h
    replace h := dInt_ok h; obtain ⟨q2, rfl, h⟩ := h
    replace h := dNil_ok h; obtain ⟨rfl, h⟩ := h
    replace h := dBlk_ok h; obtain ⟨b17_, m18_, rfl, h⟩ := h
    replace h := dCells_ok h; obtain ⟨c19_, rfl, h⟩ := h
    replace h := dCons_ok h; obtain ⟨a20_, r21_, rfl, h⟩ := h
    replace h := dPl_ok h; obtain ⟨q3, rfl, h⟩ := h
    replace h := dCons_ok h; obtain ⟨a22_, r23_, rfl, h⟩ := h
    replace h := dPl_ok h; obtain ⟨q4, rfl, h⟩ := h
    replace h := dCons_ok h; obtain ⟨a24_, r25_, rfl, h⟩ := h
    replace h := dPl_ok h; obtain ⟨q5, rfl, h⟩ := h
    replace h := dNil_ok h; obtain ⟨rfl, h⟩ := h
    replace h := dBlk_ok h; obtain ⟨b26_, m27_, rfl, h⟩ := h
    replace h := dCells_ok h; obtain ⟨c28_, rfl, h⟩ := h
    replace h := dCons_ok h; obtain ⟨a29_, r30_, rfl, h⟩ := h
    replace h := dPl_ok h; obtain ⟨q6, rfl, h⟩ := h
    replace h := dNil_ok h; obtain ⟨rfl, h⟩ := h
    replace h := dBlk_ok h; obtain ⟨b31_, m32_, rfl, h⟩ := h
    replace h := dList_ok h; obtain ⟨q7, rfl, h⟩ := h
    replace h := dEnd_ok h; obtain ⟨rfl, h⟩ := h
    exact ⟨(q0, q1, q2, q3, q4, q5, q6, q7), rfl, h⟩
def H60 : List (Nat × LH) := [(0, H60_0)]
def W60 : List (Nat × List (Nat × List Nat)) := []
def Γ60 : List (Nat × Con) := [(84, useC [.x, .pc [.pure .bool]] G84)]
theorem e60 (p1 : List Int) (p2 : List Int) (p3 : List Int) (p4 : List Bool) (K : TV → TMem → Prop) : TW PP 43 Γ60 H60 W60 (List.length ([] : TMem)) (bodyOf Try.f60) (endT PP 43 [.tmp 4] [.own .int] [] (List.length ([] : TMem)) K) (argsF [.agg [.pl .int p1, .pl .int p2, .pl .int p3], .pl .bool p4]) [] =
    Mi_remembered p1 p2 p3 p4 (fun r1 => K (.sl 0) [⟨true, .list .int r1⟩]) := by kernel_rfl
theorem s60 : CSound PP 60 G60 := by
  intro args K c h fl A aargs hA hN R hl
  unfold G60 at h
  generalize ht : c.tm = tm at h
  replace h := dCons_ok h; obtain ⟨a1_, r2_, rfl, h⟩ := h
  replace h := dAgg_ok h; obtain ⟨l3_, rfl, h⟩ := h
  replace h := dCons_ok h; obtain ⟨a4_, r5_, rfl, h⟩ := h
  replace h := dPl_ok h; obtain ⟨p1, rfl, h⟩ := h
  replace h := dCons_ok h; obtain ⟨a6_, r7_, rfl, h⟩ := h
  replace h := dPl_ok h; obtain ⟨p2, rfl, h⟩ := h
  replace h := dCons_ok h; obtain ⟨a8_, r9_, rfl, h⟩ := h
  replace h := dPl_ok h; obtain ⟨p3, rfl, h⟩ := h
  replace h := dNil_ok h; obtain ⟨rfl, h⟩ := h
  replace h := dCons_ok h; obtain ⟨a10_, r11_, rfl, h⟩ := h
  replace h := dPl_ok h; obtain ⟨p4, rfl, h⟩ := h
  replace h := dNil_ok h; obtain ⟨rfl, h⟩ := h
  replace h := dEnd_ok h; obtain ⟨rfl, h⟩ := h
  refine fun_ok (nt := 43) (x := bodyOf Try.f60) (Γ := Γ60) (H := H60) (WW := W60) (rs := [.tmp 4]) (shs := [.own .int]) (cons := []) mixed Try.func60 (by decide) (by kernel_rfl) Try.ntmps60 Try.results60 (.cons (useC_ok s84) (GSound.nil)) ?_ hA hN R hl
  rw [ht, e60 p1 p2 p3 p4 K]
  exact h
/-! impl.GensValid -/
def G21 : Con := fun args tm K => dCons args fun a1_ r2_ => dAgg a1_ fun l3_ => dCons l3_ fun a4_ r5_ => dPl .int a4_ fun p1 => dCons r5_ fun a6_ r7_ => dPl .int a6_ fun p2 => dCons r7_ fun a8_ r9_ => dPl .int a8_ fun p3 => dCons r9_ fun a10_ r11_ => dPl .bool a10_ fun p4 => dCons r11_ fun a12_ r13_ => dPl .int a12_ fun p5 => dNil r13_ <| dNil r2_ <| dEnd tm <| Mi_GensValid p1 p2 p3 p4 p5 (fun r1 => K (.bool r1) [])
def H21 : List (Nat × LH) := []
def W21 : List (Nat × List (Nat × List Nat)) := []
def Γ21 : List (Nat × Con) := [(34, useC [.ag [.pure .int, .pure .int, .pure .int]] G34), (60, useC [.ag [.pure .int, .pure .int, .pure .int], .pure .bool] G60), (55, useC [.pure .int, .pure .int] G55)]
theorem e21 (p1 : List Int) (p2 : List Int) (p3 : List Int) (p4 : List Bool) (p5 : List Int) (K : TV → TMem → Prop) : TW PP 26 Γ21 H21 W21 (List.length ([] : TMem)) (bodyOf Try.f21) (endT PP 26 [.tmp 2] [.bl] [] (List.length ([] : TMem)) K) (argsF [.agg [.pl .int p1, .pl .int p2, .pl .int p3, .pl .bool p4, .pl .int p5]]) [] =
    Mi_GensValid p1 p2 p3 p4 p5 (fun r1 => K (.bool r1) []) := by kernel_rfl
theorem s21 : CSound PP 21 G21 := by
  intro args K c h fl A aargs hA hN R hl
  unfold G21 at h
  generalize ht : c.tm = tm at h
  replace h := dCons_ok h; obtain ⟨a1_, r2_, rfl, h⟩ := h
  replace h := dAgg_ok h; obtain ⟨l3_, rfl, h⟩ := h
  replace h := dCons_ok h; obtain ⟨a4_, r5_, rfl, h⟩ := h
  replace h := dPl_ok h; obtain ⟨p1, rfl, h⟩ := h
  replace h := dCons_ok h; obtain ⟨a6_, r7_, rfl, h⟩ := h
  replace h := dPl_ok h; obtain ⟨p2, rfl, h⟩ := h
  replace h := dCons_ok h; obtain ⟨a8_, r9_, rfl, h⟩ := h
  replace h := dPl_ok h; obtain ⟨p3, rfl, h⟩ := h
  replace h := dCons_ok h; obtain ⟨a10_, r11_, rfl, h⟩ := h
  replace h := dPl_ok h; obtain ⟨p4, rfl, h⟩ := h
  replace h := dCons_ok h; obtain ⟨a12_, r13_, rfl, h⟩ := h
  replace h := dPl_ok h; obtain ⟨p5, rfl, h⟩ := h
  replace h := dNil_ok h; obtain ⟨rfl, h⟩ := h
  replace h := dNil_ok h; obtain ⟨rfl, h⟩ := h
  replace h := dEnd_ok h; obtain ⟨rfl, h⟩ := h
  refine fun_ok (nt := 26) (x := bodyOf Try.f21) (Γ := Γ21) (H := H21) (WW := W21) (rs := [.tmp 2]) (shs := [.bl]) (cons := []) mixed Try.func21 (by decide) (by kernel_rfl) Try.ntmps21 Try.results21 (.cons (useC_ok s34) (.cons (useC_ok s60) (.cons (useC_ok s55) (GSound.nil)))) ?_ hA hN R hl
  rw [ht, e21 p1 p2 p3 p4 p5 K]
  exact h
/-! spec.GensValid -/
def G22 : Con := fun args tm K => dCons args fun a1_ r2_ => dAgg a1_ fun l3_ => dCons l3_ fun a4_ r5_ => dPl .int a4_ fun p1 => dCons r5_ fun a6_ r7_ => dPl .int a6_ fun p2 => dCons r7_ fun a8_ r9_ => dPl .int a8_ fun p3 => dCons r9_ fun a10_ r11_ => dPl .bool a10_ fun p4 => dCons r11_ fun a12_ r13_ => dPl .int a12_ fun p5 => dNil r13_ <| dNil r2_ <| dEnd tm <| Ms_GensValid p1 p2 p3 p4 p5 (fun r1 => K (.bool r1) [])
def H22 : List (Nat × LH) := []
def W22 : List (Nat × List (Nat × List Nat)) := []
def Γ22 : List (Nat × Con) := [(61, useC [.ag [.pure .int, .pure .int, .pure .int]] G61), (62, useC [.ag [.pure .int, .pure .int, .pure .int], .pure .bool] G62), (51, useC [.pure .int, .pure .int] G51)]
theorem e22 (p1 : List Int) (p2 : List Int) (p3 : List Int) (p4 : List Bool) (p5 : List Int) (K : TV → TMem → Prop) : TW PP 26 Γ22 H22 W22 (List.length ([] : TMem)) (bodyOf Try.f22) (endT PP 26 [.tmp 2] [.bl] [] (List.length ([] : TMem)) K) (argsF [.agg [.pl .int p1, .pl .int p2, .pl .int p3, .pl .bool p4, .pl .int p5]]) [] =
    Ms_GensValid p1 p2 p3 p4 p5 (fun r1 => K (.bool r1) []) := by kernel_rfl
theorem s22 : CSound PP 22 G22 := by
  intro args K c h fl A aargs hA hN R hl
  unfold G22 at h
  generalize ht : c.tm = tm at h
  replace h := dCons_ok h; obtain ⟨a1_, r2_, rfl, h⟩ := h
  replace h := dAgg_ok h; obtain ⟨l3_, rfl, h⟩ := h
  replace h := dCons_ok h; obtain ⟨a4_, r5_, rfl, h⟩ := h
  replace h := dPl_ok h; obtain ⟨p1, rfl, h⟩ := h
  replace h := dCons_ok h; obtain ⟨a6_, r7_, rfl, h⟩ := h
  replace h := dPl_ok h; obtain ⟨p2, rfl, h⟩ := h
  replace h := dCons_ok h; obtain ⟨a8_, r9_, rfl, h⟩ := h
  replace h := dPl_ok h; obtain ⟨p3, rfl, h⟩ := h
  replace h := dCons_ok h; obtain ⟨a10_, r11_, rfl, h⟩ := h
  replace h := dPl_ok h; obtain ⟨p4, rfl, h⟩ := h
  replace h := dCons_ok h; obtain ⟨a12_, r13_, rfl, h⟩ := h
  replace h := dPl_ok h; obtain ⟨p5, rfl, h⟩ := h
  replace h := dNil_ok h; obtain ⟨rfl, h⟩ := h
  replace h := dNil_ok h; obtain ⟨rfl, h⟩ := h
  replace h := dEnd_ok h; obtain ⟨rfl, h⟩ := h
  refine fun_ok (nt := 26) (x := bodyOf Try.f22) (Γ := Γ22) (H := H22) (WW := W22) (rs := [.tmp 2]) (shs := [.bl]) (cons := []) mixed Try.func22 (by decide) (by kernel_rfl) Try.ntmps22 Try.results22 (.cons (useC_ok s61) (.cons (useC_ok s62) (.cons (useC_ok s51) (GSound.nil)))) ?_ hA hN R hl
  rw [ht, e22 p1 p2 p3 p4 p5 K]
  exact h
/-! impl.has -/
def G69 : Con := fun args tm K => dCons args fun a1_ r2_ => dAgg a1_ fun l3_ => dCons l3_ fun a4_ r5_ => dPl .int a4_ fun p1 => dCons r5_ fun a6_ r7_ => dPl .int a6_ fun p2 => dCons r7_ fun a8_ r9_ => dPl .int a8_ fun p3 => dNil r9_ <| dCons r2_ fun a10_ r11_ => dInt .i64 a10_ fun p4 => dNil r11_ <| dEnd tm <| Mi_has p1 p2 p3 p4 (fun r1 => K (.bool r1) [])
def H69 : List (Nat × LH) := []
def W69 : List (Nat × List (Nat × List Nat)) := []
def Γ69 : List (Nat × Con) := [(34, useC [.ag [.pure .int, .pure .int, .pure .int]] G34)]
theorem e69 (p1 : List Int) (p2 : List Int) (p3 : List Int) (p4 : Int) (K : TV → TMem → Prop) : TW PP 18 Γ69 H69 W69 (List.length ([] : TMem)) (bodyOf Try.f69) (endT PP 18 [.tmp 4] [.bl] [] (List.length ([] : TMem)) K) (argsF [.agg [.pl .int p1, .pl .int p2, .pl .int p3], .int .i64 p4]) [] =
    Mi_has p1 p2 p3 p4 (fun r1 => K (.bool r1) []) := by kernel_rfl
theorem s69 : CSound PP 69 G69 := by
  intro args K c h fl A aargs hA hN R hl
  unfold G69 at h
  generalize ht : c.tm = tm at h
  replace h := dCons_ok h; obtain ⟨a1_, r2_, rfl, h⟩ := h
  replace h := dAgg_ok h; obtain ⟨l3_, rfl, h⟩ := h
  replace h := dCons_ok h; obtain ⟨a4_, r5_, rfl, h⟩ := h
  replace h := dPl_ok h; obtain ⟨p1, rfl, h⟩ := h
  replace h := dCons_ok h; obtain ⟨a6_, r7_, rfl, h⟩ := h
  replace h := dPl_ok h; obtain ⟨p2, rfl, h⟩ := h
  replace h := dCons_ok h; obtain ⟨a8_, r9_, rfl, h⟩ := h
  replace h := dPl_ok h; obtain ⟨p3, rfl, h⟩ := h
  replace h := dNil_ok h; obtain ⟨rfl, h⟩ := h
  replace h := dCons_ok h; obtain ⟨a10_, r11_, rfl, h⟩ := h
  replace h := dInt_ok h; obtain ⟨p4, rfl, h⟩ := h
  replace h := dNil_ok h; obtain ⟨rfl, h⟩ := h
  replace h := dEnd_ok h; obtain ⟨rfl, h⟩ := h
  refine fun_ok (nt := 18) (x := bodyOf Try.f69) (Γ := Γ69) (H := H69) (WW := W69) (rs := [.tmp 4]) (shs := [.bl]) (cons := []) mixed Try.func69 (by decide) (by kernel_rfl) Try.ntmps69 Try.results69 (.cons (useC_ok s34) (GSound.nil)) ?_ hA hN R hl
  rw [ht, e69 p1 p2 p3 p4 K]
  exact h
/-! slices.Clone[[]int,int] -/
def G71 : Con := fun args tm K => dCons args fun a1_ r2_ => dPl .int a1_ fun p1 => dNil r2_ <| dEnd tm <| M_Clone_int p1 (fun r1 => K (.sl 0) [⟨true, .list .int r1⟩])
def H71 : List (Nat × LH) := []
def W71 : List (Nat × List (Nat × List Nat)) := []
def Γ71 : List (Nat × Con) := []
theorem e71 (p1 : List Int) (K : TV → TMem → Prop) : TW PP 8 Γ71 H71 W71 (List.length ([] : TMem)) (bodyOf Try.f71) (endT PP 8 [.tmp 2] [.own .int] [] (List.length ([] : TMem)) K) (argsF [.pl .int p1]) [] =
    M_Clone_int p1 (fun r1 => K (.sl 0) [⟨true, .list .int r1⟩]) := by kernel_rfl
theorem s71 : CSound PP 71 G71 := by
  intro args K c h fl A aargs hA hN R hl
  unfold G71 at h
  generalize ht : c.tm = tm at h
  replace h := dCons_ok h; obtain ⟨a1_, r2_, rfl, h⟩ := h
  replace h := dPl_ok h; obtain ⟨p1, rfl, h⟩ := h
  replace h := dNil_ok h; obtain ⟨rfl, h⟩ := h
  replace h := dEnd_ok h; obtain ⟨rfl, h⟩ := h
  refine fun_ok (nt := 8) (x := bodyOf Try.f71) (Γ := Γ71) (H := H71) (WW := W71) (rs := [.tmp 2]) (shs := [.own .int]) (cons := []) mixed Try.func71 (by decide) (by kernel_rfl) Try.ntmps71 Try.results71 (GSound.nil) ?_ hA hN R hl
  rw [ht, e71 p1 K]
  exact h
/-! impl.copied -/
def G76 : Con := fun args tm K => dCons args fun a1_ r2_ => dAgg a1_ fun l3_ => dCons l3_ fun a4_ r5_ => dPl .int a4_ fun p1 => dCons r5_ fun a6_ r7_ => dPl .int a6_ fun p2 => dCons r7_ fun a8_ r9_ => dPl .int a8_ fun p3 => dNil r9_ <| dNil r2_ <| dEnd tm <| Mi_copied p1 p2 p3 (fun r1 r2 r3 => K (.agg [.sl 0, .sl 1, .sl 2]) [⟨true, .list .int r1⟩, ⟨true, .list .int r2⟩, ⟨true, .list .int r3⟩])
def H76 : List (Nat × LH) := []
def W76 : List (Nat × List (Nat × List Nat)) := []
def Γ76 : List (Nat × Con) := [(71, useC [.pure .int] G71)]
theorem e76 (p1 : List Int) (p2 : List Int) (p3 : List Int) (K : TV → TMem → Prop) : TW PP 13 Γ76 H76 W76 (List.length ([] : TMem)) (bodyOf Try.f76) (endT PP 13 [.cell 2 30] [.ag [.own .int, .own .int, .own .int]] [] (List.length ([] : TMem)) K) (argsF [.agg [.pl .int p1, .pl .int p2, .pl .int p3]]) [] =
    Mi_copied p1 p2 p3 (fun r1 r2 r3 => K (.agg [.sl 0, .sl 1, .sl 2]) [⟨true, .list .int r1⟩, ⟨true, .list .int r2⟩, ⟨true, .list .int r3⟩]) := by kernel_rfl
theorem s76 : CSound PP 76 G76 := by
  intro args K c h fl A aargs hA hN R hl
  unfold G76 at h
  generalize ht : c.tm = tm at h
  replace h := dCons_ok h; obtain ⟨a1_, r2_, rfl, h⟩ := h
  replace h := dAgg_ok h; obtain ⟨l3_, rfl, h⟩ := h
  replace h := dCons_ok h; obtain ⟨a4_, r5_, rfl, h⟩ := h
  replace h := dPl_ok h; obtain ⟨p1, rfl, h⟩ := h
  replace h := dCons_ok h; obtain ⟨a6_, r7_, rfl, h⟩ := h
  replace h := dPl_ok h; obtain ⟨p2, rfl, h⟩ := h
  replace h := dCons_ok h; obtain ⟨a8_, r9_, rfl, h⟩ := h
  replace h := dPl_ok h; obtain ⟨p3, rfl, h⟩ := h
  replace h := dNil_ok h; obtain ⟨rfl, h⟩ := h
  replace h := dNil_ok h; obtain ⟨rfl, h⟩ := h
  replace h := dEnd_ok h; obtain ⟨rfl, h⟩ := h
  refine fun_ok (nt := 13) (x := bodyOf Try.f76) (Γ := Γ76) (H := H76) (WW := W76) (rs := [.cell 2 30]) (shs := [.ag [.own .int, .own .int, .own .int]]) (cons := []) mixed Try.func76 (by decide) (by kernel_rfl) Try.ntmps76 Try.results76 (.cons (useC_ok s71) (GSound.nil)) ?_ hA hN R hl
  rw [ht, e76 p1 p2 p3 K]
  exact h
/-! spec.l11Case -/
def G80 : Con := fun args tm K => dCons args fun a1_ r2_ => dPl .byte a1_ fun p1 => dNil r2_ <| dEnd tm <| Ms_l11Case p1 (fun r1 r2 r3 r4 r5 => K (.agg [.sl 0, .sl 1, .sl 2, .sl 3, .sl 4]) [⟨true, .list .int r1⟩, ⟨true, .list .int r2⟩, ⟨true, .list .int r3⟩, ⟨true, .list .bool r4⟩, ⟨true, .list .int r5⟩])
def H80 : List (Nat × LH) := []
def W80 : List (Nat × List (Nat × List Nat)) := []
def Γ80 : List (Nat × Con) := [(57, useC [.pure .byte] G57), (59, useC [.pc [.pure .byte, .x]] G59), (58, useC [.pc [.pure .byte, .x], .ag [.own .int, .own .int, .own .int, .own .bool, .own .int]] (onlyC [0] G58))]
theorem e80 (p1 : List Int) (K : TV → TMem → Prop) : TW PP 10 Γ80 H80 W80 (List.length ([] : TMem)) (bodyOf Try.f80) (endT PP 10 [.cell 2 32] [.ag [.own .int, .own .int, .own .int, .own .bool, .own .int]] [] (List.length ([] : TMem)) K) (argsF [.pl .byte p1]) [] =
    Ms_l11Case p1 (fun r1 r2 r3 r4 r5 => K (.agg [.sl 0, .sl 1, .sl 2, .sl 3, .sl 4]) [⟨true, .list .int r1⟩, ⟨true, .list .int r2⟩, ⟨true, .list .int r3⟩, ⟨true, .list .bool r4⟩, ⟨true, .list .int r5⟩]) := by kernel_rfl
theorem s80 : CSound PP 80 G80 := by
  intro args K c h fl A aargs hA hN R hl
  unfold G80 at h
  generalize ht : c.tm = tm at h
  replace h := dCons_ok h; obtain ⟨a1_, r2_, rfl, h⟩ := h
  replace h := dPl_ok h; obtain ⟨p1, rfl, h⟩ := h
  replace h := dNil_ok h; obtain ⟨rfl, h⟩ := h
  replace h := dEnd_ok h; obtain ⟨rfl, h⟩ := h
  refine fun_ok (nt := 10) (x := bodyOf Try.f80) (Γ := Γ80) (H := H80) (WW := W80) (rs := [.cell 2 32]) (shs := [.ag [.own .int, .own .int, .own .int, .own .bool, .own .int]]) (cons := []) mixed Try.func80 (by decide) (by kernel_rfl) Try.ntmps80 Try.results80 (.cons (useC_ok s57) (.cons (useC_ok s59) (.cons (useC_ok (onlyC_ok s58)) (GSound.nil)))) ?_ hA hN R hl
  rw [ht, e80 p1 K]
  exact h
/-! spec.DrawPutGens -/
def G45 : Con := fun args tm K => dCons args fun a1_ r2_ => dPl .byte a1_ fun p1 => dNil r2_ <| dEnd tm <| Ms_DrawPutGens p1 (fun r1 r2 r3 r4 r5 r6 r7 => K (.tup [.agg [.sl 0, .sl 1, .sl 2, .sl 3, .sl 4], .int .i64 r1, .int .i64 r2]) [⟨true, .list .int r3⟩, ⟨true, .list .int r4⟩, ⟨true, .list .int r5⟩, ⟨true, .list .bool r6⟩, ⟨true, .list .int r7⟩])
def H45 : List (Nat × LH) := []
def W45 : List (Nat × List (Nat × List Nat)) := [(3, [(7, [3, 6])])]
def Γ45 : List (Nat × Con) := [(80, useC [.pure .byte] G80), (57, useC [.pure .byte] G57), (74, useC [.pc [.pure .byte, .x], .pure .int] G74)]
theorem e45 (p1 : List Int) (K : TV → TMem → Prop) : TW PP 18 Γ45 H45 W45 (List.length ([] : TMem)) (bodyOf Try.f45) (endT PP 18 [.cell 2 32, .tmp 3, .tmp 4] [.ag [.own .int, .own .int, .own .int, .own .bool, .own .int], .x, .x] [] (List.length ([] : TMem)) K) (argsF [.pl .byte p1]) [] =
    Ms_DrawPutGens p1 (fun r1 r2 r3 r4 r5 r6 r7 => K (.tup [.agg [.sl 0, .sl 1, .sl 2, .sl 3, .sl 4], .int .i64 r1, .int .i64 r2]) [⟨true, .list .int r3⟩, ⟨true, .list .int r4⟩, ⟨true, .list .int r5⟩, ⟨true, .list .bool r6⟩, ⟨true, .list .int r7⟩]) := by kernel_rfl
theorem s45 : CSound PP 45 G45 := by
  intro args K c h fl A aargs hA hN R hl
  unfold G45 at h
  generalize ht : c.tm = tm at h
  replace h := dCons_ok h; obtain ⟨a1_, r2_, rfl, h⟩ := h
  replace h := dPl_ok h; obtain ⟨p1, rfl, h⟩ := h
  replace h := dNil_ok h; obtain ⟨rfl, h⟩ := h
  replace h := dEnd_ok h; obtain ⟨rfl, h⟩ := h
  refine fun_ok (nt := 18) (x := bodyOf Try.f45) (Γ := Γ45) (H := H45) (WW := W45) (rs := [.cell 2 32, .tmp 3, .tmp 4]) (shs := [.ag [.own .int, .own .int, .own .int, .own .bool, .own .int], .x, .x]) (cons := []) mixed Try.func45 (by decide) (by kernel_rfl) Try.ntmps45 Try.results45 (.cons (useC_ok s80) (.cons (useC_ok s57) (.cons (useC_ok s74) (GSound.nil)))) ?_ hA hN R hl
  rw [ht, e45 p1 K]
  exact h
/-! impl.pointer -/
def G91 : Con := fun args tm K => dCons args fun a1_ r2_ => dAgg a1_ fun l3_ => dCons l3_ fun a4_ r5_ => dPl .int a4_ fun p1 => dCons r5_ fun a6_ r7_ => dPl .int a6_ fun p2 => dCons r7_ fun a8_ r9_ => dPl .int a8_ fun p3 => dNil r9_ <| dCons r2_ fun a10_ r11_ => dInt .i64 a10_ fun p4 => dNil r11_ <| dEnd tm <| Mi_pointer p1 p2 p3 p4 (fun r1 => K (.bool r1) [])
def H91 : List (Nat × LH) := []
def W91 : List (Nat × List (Nat × List Nat)) := []
def Γ91 : List (Nat × Con) := []
theorem e91 (p1 : List Int) (p2 : List Int) (p3 : List Int) (p4 : Int) (K : TV → TMem → Prop) : TW PP 14 Γ91 H91 W91 (List.length ([] : TMem)) (bodyOf Try.f91) (endT PP 14 [.tmp 4] [.bl] [] (List.length ([] : TMem)) K) (argsF [.agg [.pl .int p1, .pl .int p2, .pl .int p3], .int .i64 p4]) [] =
    Mi_pointer p1 p2 p3 p4 (fun r1 => K (.bool r1) []) := by kernel_rfl
theorem s91 : CSound PP 91 G91 := by
  intro args K c h fl A aargs hA hN R hl
  unfold G91 at h
  generalize ht : c.tm = tm at h
  replace h := dCons_ok h; obtain ⟨a1_, r2_, rfl, h⟩ := h
  replace h := dAgg_ok h; obtain ⟨l3_, rfl, h⟩ := h
  replace h := dCons_ok h; obtain ⟨a4_, r5_, rfl, h⟩ := h
  replace h := dPl_ok h; obtain ⟨p1, rfl, h⟩ := h
  replace h := dCons_ok h; obtain ⟨a6_, r7_, rfl, h⟩ := h
  replace h := dPl_ok h; obtain ⟨p2, rfl, h⟩ := h
  replace h := dCons_ok h; obtain ⟨a8_, r9_, rfl, h⟩ := h
  replace h := dPl_ok h; obtain ⟨p3, rfl, h⟩ := h
  replace h := dNil_ok h; obtain ⟨rfl, h⟩ := h
  replace h := dCons_ok h; obtain ⟨a10_, r11_, rfl, h⟩ := h
  replace h := dInt_ok h; obtain ⟨p4, rfl, h⟩ := h
  replace h := dNil_ok h; obtain ⟨rfl, h⟩ := h
  replace h := dEnd_ok h; obtain ⟨rfl, h⟩ := h
  refine fun_ok (nt := 14) (x := bodyOf Try.f91) (Γ := Γ91) (H := H91) (WW := W91) (rs := [.tmp 4]) (shs := [.bl]) (cons := []) mixed Try.func91 (by decide) (by kernel_rfl) Try.ntmps91 Try.results91 (GSound.nil) ?_ hA hN R hl
  rw [ht, e91 p1 p2 p3 p4 K]
  exact h
/-! impl.PutLeft -/
def G81 : Con := fun args tm K => dCons args fun a1_ r2_ => dAgg a1_ fun l3_ => dCons l3_ fun a4_ r5_ => dPl .int a4_ fun p1 => dCons r5_ fun a6_ r7_ => dPl .int a6_ fun p2 => dCons r7_ fun a8_ r9_ => dPl .int a8_ fun p3 => dNil r9_ <| dCons r2_ fun a10_ r11_ => dInt .i64 a10_ fun p4 => dCons r11_ fun a12_ r13_ => dInt .i64 a12_ fun p5 => dNil r13_ <| dEnd tm <| Mi_PutLeft p1 p2 p3 p4 p5 (fun r1 r2 r3 r4 => K (.tup [.agg [.sl 0, .sl 1, .sl 2], .bool r1]) [⟨true, .list .int r2⟩, ⟨true, .list .int r3⟩, ⟨true, .list .int r4⟩])
def H81 : List (Nat × LH) := []
def W81 : List (Nat × List (Nat × List Nat)) := []
def Γ81 : List (Nat × Con) := [(69, useC [.ag [.pure .int, .pure .int, .pure .int], .x] G69), (91, useC [.ag [.pure .int, .pure .int, .pure .int], .x] G91), (76, useC [.ag [.pure .int, .pure .int, .pure .int]] G76)]
theorem e81 (p1 : List Int) (p2 : List Int) (p3 : List Int) (p4 : Int) (p5 : Int) (K : TV → TMem → Prop) : TW PP 27 Γ81 H81 W81 (List.length ([] : TMem)) (bodyOf Try.f81) (endT PP 27 [.cell 6 30, .tmp 7] [.ag [.own .int, .own .int, .own .int], .bl] [] (List.length ([] : TMem)) K) (argsF [.agg [.pl .int p1, .pl .int p2, .pl .int p3], .int .i64 p4, .int .i64 p5]) [] =
    Mi_PutLeft p1 p2 p3 p4 p5 (fun r1 r2 r3 r4 => K (.tup [.agg [.sl 0, .sl 1, .sl 2], .bool r1]) [⟨true, .list .int r2⟩, ⟨true, .list .int r3⟩, ⟨true, .list .int r4⟩]) := by kernel_rfl
theorem s81 : CSound PP 81 G81 := by
  intro args K c h fl A aargs hA hN R hl
  unfold G81 at h
  generalize ht : c.tm = tm at h
  replace h := dCons_ok h; obtain ⟨a1_, r2_, rfl, h⟩ := h
  replace h := dAgg_ok h; obtain ⟨l3_, rfl, h⟩ := h
  replace h := dCons_ok h; obtain ⟨a4_, r5_, rfl, h⟩ := h
  replace h := dPl_ok h; obtain ⟨p1, rfl, h⟩ := h
  replace h := dCons_ok h; obtain ⟨a6_, r7_, rfl, h⟩ := h
  replace h := dPl_ok h; obtain ⟨p2, rfl, h⟩ := h
  replace h := dCons_ok h; obtain ⟨a8_, r9_, rfl, h⟩ := h
  replace h := dPl_ok h; obtain ⟨p3, rfl, h⟩ := h
  replace h := dNil_ok h; obtain ⟨rfl, h⟩ := h
  replace h := dCons_ok h; obtain ⟨a10_, r11_, rfl, h⟩ := h
  replace h := dInt_ok h; obtain ⟨p4, rfl, h⟩ := h
  replace h := dCons_ok h; obtain ⟨a12_, r13_, rfl, h⟩ := h
  replace h := dInt_ok h; obtain ⟨p5, rfl, h⟩ := h
  replace h := dNil_ok h; obtain ⟨rfl, h⟩ := h
  replace h := dEnd_ok h; obtain ⟨rfl, h⟩ := h
  refine fun_ok (nt := 27) (x := bodyOf Try.f81) (Γ := Γ81) (H := H81) (WW := W81) (rs := [.cell 6 30, .tmp 7]) (shs := [.ag [.own .int, .own .int, .own .int], .bl]) (cons := []) mixed Try.func81 (by decide) (by kernel_rfl) Try.ntmps81 Try.results81 (.cons (useC_ok s69) (.cons (useC_ok s91) (.cons (useC_ok s76) (GSound.nil)))) ?_ hA hN R hl
  rw [ht, e81 p1 p2 p3 p4 p5 K]
  exact h
/-! slices.Clone[[]bool,bool] -/
def G82 : Con := fun args tm K => dCons args fun a1_ r2_ => dPl .bool a1_ fun p1 => dNil r2_ <| dEnd tm <| M_Clone_bool p1 (fun r1 => K (.sl 0) [⟨true, .list .bool r1⟩])
def H82 : List (Nat × LH) := []
def W82 : List (Nat × List (Nat × List Nat)) := []
def Γ82 : List (Nat × Con) := []
theorem e82 (p1 : List Bool) (K : TV → TMem → Prop) : TW PP 8 Γ82 H82 W82 (List.length ([] : TMem)) (bodyOf Try.f82) (endT PP 8 [.tmp 2] [.own .bool] [] (List.length ([] : TMem)) K) (argsF [.pl .bool p1]) [] =
    M_Clone_bool p1 (fun r1 => K (.sl 0) [⟨true, .list .bool r1⟩]) := by kernel_rfl
theorem s82 : CSound PP 82 G82 := by
  intro args K c h fl A aargs hA hN R hl
  unfold G82 at h
  generalize ht : c.tm = tm at h
  replace h := dCons_ok h; obtain ⟨a1_, r2_, rfl, h⟩ := h
  replace h := dPl_ok h; obtain ⟨p1, rfl, h⟩ := h
  replace h := dNil_ok h; obtain ⟨rfl, h⟩ := h
  replace h := dEnd_ok h; obtain ⟨rfl, h⟩ := h
  refine fun_ok (nt := 8) (x := bodyOf Try.f82) (Γ := Γ82) (H := H82) (WW := W82) (rs := [.tmp 2]) (shs := [.own .bool]) (cons := []) mixed Try.func82 (by decide) (by kernel_rfl) Try.ntmps82 Try.results82 (GSound.nil) ?_ hA hN R hl
  rw [ht, e82 p1 K]
  exact h
/-! impl.PutGens -/
def G46 : Con := fun args tm K => dCons args fun a1_ r2_ => dAgg a1_ fun l3_ => dCons l3_ fun a4_ r5_ => dPl .int a4_ fun p1 => dCons r5_ fun a6_ r7_ => dPl .int a6_ fun p2 => dCons r7_ fun a8_ r9_ => dPl .int a8_ fun p3 => dCons r9_ fun a10_ r11_ => dPl .bool a10_ fun p4 => dCons r11_ fun a12_ r13_ => dPl .int a12_ fun p5 => dNil r13_ <| dCons r2_ fun a14_ r15_ => dInt .i64 a14_ fun p6 => dCons r15_ fun a16_ r17_ => dInt .i64 a16_ fun p7 => dNil r17_ <| dEnd tm <| Mi_PutGens p1 p2 p3 p4 p5 p6 p7 (fun r1 r2 r3 r4 r5 r6 => K (.tup [.agg [.sl 0, .sl 1, .sl 2, .sl 3, .sl 4], .bool r1]) [⟨true, .list .int r2⟩, ⟨true, .list .int r3⟩, ⟨true, .list .int r4⟩, ⟨true, .list .bool r5⟩, ⟨true, .list .int r6⟩])
def H46 : List (Nat × LH) := []
def W46 : List (Nat × List (Nat × List Nat)) := []
def Γ46 : List (Nat × Con) := [(81, useC [.ag [.pure .int, .pure .int, .pure .int], .x, .x] G81), (21, useC [.ag [.pure .int, .pure .int, .pure .int, .pure .bool, .pure .int]] G21), (82, useC [.pure .bool] G82), (60, useC [.ag [.pure .int, .pure .int, .pure .int], .pure .bool] G60)]
theorem e46 (p1 : List Int) (p2 : List Int) (p3 : List Int) (p4 : List Bool) (p5 : List Int) (p6 : Int) (p7 : Int) (K : TV → TMem → Prop) : TW PP 35 Γ46 H46 W46 (List.length ([] : TMem)) (bodyOf Try.f46) (endT PP 35 [.cell 6 32, .tmp 7] [.ag [.own .int, .own .int, .own .int, .own .bool, .own .int], .bl] [] (List.length ([] : TMem)) K) (argsF [.agg [.pl .int p1, .pl .int p2, .pl .int p3, .pl .bool p4, .pl .int p5], .int .i64 p6, .int .i64 p7]) [] =
    Mi_PutGens p1 p2 p3 p4 p5 p6 p7 (fun r1 r2 r3 r4 r5 r6 => K (.tup [.agg [.sl 0, .sl 1, .sl 2, .sl 3, .sl 4], .bool r1]) [⟨true, .list .int r2⟩, ⟨true, .list .int r3⟩, ⟨true, .list .int r4⟩, ⟨true, .list .bool r5⟩, ⟨true, .list .int r6⟩]) := by kernel_rfl
theorem s46 : CSound PP 46 G46 := by
  intro args K c h fl A aargs hA hN R hl
  unfold G46 at h
  generalize ht : c.tm = tm at h
  replace h := dCons_ok h; obtain ⟨a1_, r2_, rfl, h⟩ := h
  replace h := dAgg_ok h; obtain ⟨l3_, rfl, h⟩ := h
  replace h := dCons_ok h; obtain ⟨a4_, r5_, rfl, h⟩ := h
  replace h := dPl_ok h; obtain ⟨p1, rfl, h⟩ := h
  replace h := dCons_ok h; obtain ⟨a6_, r7_, rfl, h⟩ := h
  replace h := dPl_ok h; obtain ⟨p2, rfl, h⟩ := h
  replace h := dCons_ok h; obtain ⟨a8_, r9_, rfl, h⟩ := h
  replace h := dPl_ok h; obtain ⟨p3, rfl, h⟩ := h
  replace h := dCons_ok h; obtain ⟨a10_, r11_, rfl, h⟩ := h
  replace h := dPl_ok h; obtain ⟨p4, rfl, h⟩ := h
  replace h := dCons_ok h; obtain ⟨a12_, r13_, rfl, h⟩ := h
  replace h := dPl_ok h; obtain ⟨p5, rfl, h⟩ := h
  replace h := dNil_ok h; obtain ⟨rfl, h⟩ := h
  replace h := dCons_ok h; obtain ⟨a14_, r15_, rfl, h⟩ := h
  replace h := dInt_ok h; obtain ⟨p6, rfl, h⟩ := h
  replace h := dCons_ok h; obtain ⟨a16_, r17_, rfl, h⟩ := h
  replace h := dInt_ok h; obtain ⟨p7, rfl, h⟩ := h
  replace h := dNil_ok h; obtain ⟨rfl, h⟩ := h
  replace h := dEnd_ok h; obtain ⟨rfl, h⟩ := h
  refine fun_ok (nt := 35) (x := bodyOf Try.f46) (Γ := Γ46) (H := H46) (WW := W46) (rs := [.cell 6 32, .tmp 7]) (shs := [.ag [.own .int, .own .int, .own .int, .own .bool, .own .int], .bl]) (cons := []) mixed Try.func46 (by decide) (by kernel_rfl) Try.ntmps46 Try.results46 (.cons (useC_ok s81) (.cons (useC_ok s21) (.cons (useC_ok s82) (.cons (useC_ok s60) (GSound.nil))))) ?_ hA hN R hl
  rw [ht, e46 p1 p2 p3 p4 p5 p6 p7 K]
  exact h
/-! spec.l1Cell -/
def G92 : Con := fun args tm K => dCons args fun a1_ r2_ => dAgg a1_ fun l3_ => dCons l3_ fun a4_ r5_ => dPl .int a4_ fun p1 => dCons r5_ fun a6_ r7_ => dPl .int a6_ fun p2 => dCons r7_ fun a8_ r9_ => dPl .int a8_ fun p3 => dNil r9_ <| dCons r2_ fun a10_ r11_ => dInt .i64 a10_ fun p4 => dNil r11_ <| dEnd tm <| Ms_l1Cell p1 p2 p3 p4 (fun r1 => K (.bool r1) [])
def H92 : List (Nat × LH) := []
def W92 : List (Nat × List (Nat × List Nat)) := []
def Γ92 : List (Nat × Con) := [(61, useC [.ag [.pure .int, .pure .int, .pure .int]] G61)]
theorem e92 (p1 : List Int) (p2 : List Int) (p3 : List Int) (p4 : Int) (K : TV → TMem → Prop) : TW PP 18 Γ92 H92 W92 (List.length ([] : TMem)) (bodyOf Try.f92) (endT PP 18 [.tmp 4] [.bl] [] (List.length ([] : TMem)) K) (argsF [.agg [.pl .int p1, .pl .int p2, .pl .int p3], .int .i64 p4]) [] =
    Ms_l1Cell p1 p2 p3 p4 (fun r1 => K (.bool r1) []) := by kernel_rfl
theorem s92 : CSound PP 92 G92 := by
  intro args K c h fl A aargs hA hN R hl
  unfold G92 at h
  generalize ht : c.tm = tm at h
  replace h := dCons_ok h; obtain ⟨a1_, r2_, rfl, h⟩ := h
  replace h := dAgg_ok h; obtain ⟨l3_, rfl, h⟩ := h
  replace h := dCons_ok h; obtain ⟨a4_, r5_, rfl, h⟩ := h
  replace h := dPl_ok h; obtain ⟨p1, rfl, h⟩ := h
  replace h := dCons_ok h; obtain ⟨a6_, r7_, rfl, h⟩ := h
  replace h := dPl_ok h; obtain ⟨p2, rfl, h⟩ := h
  replace h := dCons_ok h; obtain ⟨a8_, r9_, rfl, h⟩ := h
  replace h := dPl_ok h; obtain ⟨p3, rfl, h⟩ := h
  replace h := dNil_ok h; obtain ⟨rfl, h⟩ := h
  replace h := dCons_ok h; obtain ⟨a10_, r11_, rfl, h⟩ := h
  replace h := dInt_ok h; obtain ⟨p4, rfl, h⟩ := h
  replace h := dNil_ok h; obtain ⟨rfl, h⟩ := h
  replace h := dEnd_ok h; obtain ⟨rfl, h⟩ := h
  refine fun_ok (nt := 18) (x := bodyOf Try.f92) (Γ := Γ92) (H := H92) (WW := W92) (rs := [.tmp 4]) (shs := [.bl]) (cons := []) mixed Try.func92 (by decide) (by kernel_rfl) Try.ntmps92 Try.results92 (.cons (useC_ok s61) (GSound.nil)) ?_ hA hN R hl
  rw [ht, e92 p1 p2 p3 p4 K]
  exact h
/-! spec.PutLeft -/
def G83 : Con := fun args tm K => dCons args fun a1_ r2_ => dAgg a1_ fun l3_ => dCons l3_ fun a4_ r5_ => dPl .int a4_ fun p1 => dCons r5_ fun a6_ r7_ => dPl .int a6_ fun p2 => dCons r7_ fun a8_ r9_ => dPl .int a8_ fun p3 => dNil r9_ <| dCons r2_ fun a10_ r11_ => dInt .i64 a10_ fun p4 => dCons r11_ fun a12_ r13_ => dInt .i64 a12_ fun p5 => dNil r13_ <| dEnd tm <| Ms_PutLeft p1 p2 p3 p4 p5 (fun r1 r2 r3 r4 => K (.tup [.agg [.sl 0, .sl 1, .sl 2], .bool r1]) [⟨true, .list .int r2⟩, ⟨true, .list .int r3⟩, ⟨true, .list .int r4⟩])
def H83 : List (Nat × LH) := []
def W83 : List (Nat × List (Nat × List Nat)) := []
def Γ83 : List (Nat × Con) := [(92, useC [.ag [.pure .int, .pure .int, .pure .int], .x] G92), (85, useC [.x, .x] G85), (75, useC [.ag [.pure .int, .pure .int, .pure .int]] G75)]
theorem e83 (p1 : List Int) (p2 : List Int) (p3 : List Int) (p4 : Int) (p5 : Int) (K : TV → TMem → Prop) : TW PP 30 Γ83 H83 W83 (List.length ([] : TMem)) (bodyOf Try.f83) (endT PP 30 [.cell 6 30, .tmp 7] [.ag [.own .int, .own .int, .own .int], .bl] [] (List.length ([] : TMem)) K) (argsF [.agg [.pl .int p1, .pl .int p2, .pl .int p3], .int .i64 p4, .int .i64 p5]) [] =
    Ms_PutLeft p1 p2 p3 p4 p5 (fun r1 r2 r3 r4 => K (.tup [.agg [.sl 0, .sl 1, .sl 2], .bool r1]) [⟨true, .list .int r2⟩, ⟨true, .list .int r3⟩, ⟨true, .list .int r4⟩]) := by kernel_rfl
theorem s83 : CSound PP 83 G83 := by
  intro args K c h fl A aargs hA hN R hl
  unfold G83 at h
  generalize ht : c.tm = tm at h
  replace h := dCons_ok h; obtain ⟨a1_, r2_, rfl, h⟩ := h
  replace h := dAgg_ok h; obtain ⟨l3_, rfl, h⟩ := h
  replace h := dCons_ok h; obtain ⟨a4_, r5_, rfl, h⟩ := h
  replace h := dPl_ok h; obtain ⟨p1, rfl, h⟩ := h
  replace h := dCons_ok h; obtain ⟨a6_, r7_, rfl, h⟩ := h
  replace h := dPl_ok h; obtain ⟨p2, rfl, h⟩ := h
  replace h := dCons_ok h; obtain ⟨a8_, r9_, rfl, h⟩ := h
  replace h := dPl_ok h; obtain ⟨p3, rfl, h⟩ := h
  replace h := dNil_ok h; obtain ⟨rfl, h⟩ := h
  replace h := dCons_ok h; obtain ⟨a10_, r11_, rfl, h⟩ := h
  replace h := dInt_ok h; obtain ⟨p4, rfl, h⟩ := h
  replace h := dCons_ok h; obtain ⟨a12_, r13_, rfl, h⟩ := h
  replace h := dInt_ok h; obtain ⟨p5, rfl, h⟩ := h
  replace h := dNil_ok h; obtain ⟨rfl, h⟩ := h
  replace h := dEnd_ok h; obtain ⟨rfl, h⟩ := h
  refine fun_ok (nt := 30) (x := bodyOf Try.f83) (Γ := Γ83) (H := H83) (WW := W83) (rs := [.cell 6 30, .tmp 7]) (shs := [.ag [.own .int, .own .int, .own .int], .bl]) (cons := []) mixed Try.func83 (by decide) (by kernel_rfl) Try.ntmps83 Try.results83 (.cons (useC_ok s92) (.cons (useC_ok s85) (.cons (useC_ok s75) (GSound.nil)))) ?_ hA hN R hl
  rw [ht, e83 p1 p2 p3 p4 p5 K]
  exact h
/-! spec.PutGens -/
def G47 : Con := fun args tm K => dCons args fun a1_ r2_ => dAgg a1_ fun l3_ => dCons l3_ fun a4_ r5_ => dPl .int a4_ fun p1 => dCons r5_ fun a6_ r7_ => dPl .int a6_ fun p2 => dCons r7_ fun a8_ r9_ => dPl .int a8_ fun p3 => dCons r9_ fun a10_ r11_ => dPl .bool a10_ fun p4 => dCons r11_ fun a12_ r13_ => dPl .int a12_ fun p5 => dNil r13_ <| dCons r2_ fun a14_ r15_ => dInt .i64 a14_ fun p6 => dCons r15_ fun a16_ r17_ => dInt .i64 a16_ fun p7 => dNil r17_ <| dEnd tm <| Ms_PutGens p1 p2 p3 p4 p5 p6 p7 (fun r1 r2 r3 r4 r5 r6 => K (.tup [.agg [.sl 0, .sl 1, .sl 2, .sl 3, .sl 4], .bool r1]) [⟨true, .list .int r2⟩, ⟨true, .list .int r3⟩, ⟨true, .list .int r4⟩, ⟨true, .list .bool r5⟩, ⟨true, .list .int r6⟩])
def H47 : List (Nat × LH) := []
def W47 : List (Nat × List (Nat × List Nat)) := []
def Γ47 : List (Nat × Con) := [(83, useC [.ag [.pure .int, .pure .int, .pure .int], .x, .x] G83), (22, useC [.ag [.pure .int, .pure .int, .pure .int, .pure .bool, .pure .int]] G22), (62, useC [.ag [.pure .int, .pure .int, .pure .int], .pure .bool] G62)]
theorem e47 (p1 : List Int) (p2 : List Int) (p3 : List Int) (p4 : List Bool) (p5 : List Int) (p6 : Int) (p7 : Int) (K : TV → TMem → Prop) : TW PP 36 Γ47 H47 W47 (List.length ([] : TMem)) (bodyOf Try.f47) (endT PP 36 [.cell 6 32, .tmp 7] [.ag [.own .int, .own .int, .own .int, .own .bool, .own .int], .bl] [] (List.length ([] : TMem)) K) (argsF [.agg [.pl .int p1, .pl .int p2, .pl .int p3, .pl .bool p4, .pl .int p5], .int .i64 p6, .int .i64 p7]) [] =
    Ms_PutGens p1 p2 p3 p4 p5 p6 p7 (fun r1 r2 r3 r4 r5 r6 => K (.tup [.agg [.sl 0, .sl 1, .sl 2, .sl 3, .sl 4], .bool r1]) [⟨true, .list .int r2⟩, ⟨true, .list .int r3⟩, ⟨true, .list .int r4⟩, ⟨true, .list .bool r5⟩, ⟨true, .list .int r6⟩]) := by kernel_rfl
theorem s47 : CSound PP 47 G47 := by
  intro args K c h fl A aargs hA hN R hl
  unfold G47 at h
  generalize ht : c.tm = tm at h
  replace h := dCons_ok h; obtain ⟨a1_, r2_, rfl, h⟩ := h
  replace h := dAgg_ok h; obtain ⟨l3_, rfl, h⟩ := h
  replace h := dCons_ok h; obtain ⟨a4_, r5_, rfl, h⟩ := h
  replace h := dPl_ok h; obtain ⟨p1, rfl, h⟩ := h
  replace h := dCons_ok h; obtain ⟨a6_, r7_, rfl, h⟩ := h
  replace h := dPl_ok h; obtain ⟨p2, rfl, h⟩ := h
  replace h := dCons_ok h; obtain ⟨a8_, r9_, rfl, h⟩ := h
  replace h := dPl_ok h; obtain ⟨p3, rfl, h⟩ := h
  replace h := dCons_ok h; obtain ⟨a10_, r11_, rfl, h⟩ := h
  replace h := dPl_ok h; obtain ⟨p4, rfl, h⟩ := h
  replace h := dCons_ok h; obtain ⟨a12_, r13_, rfl, h⟩ := h
  replace h := dPl_ok h; obtain ⟨p5, rfl, h⟩ := h
  replace h := dNil_ok h; obtain ⟨rfl, h⟩ := h
  replace h := dCons_ok h; obtain ⟨a14_, r15_, rfl, h⟩ := h
  replace h := dInt_ok h; obtain ⟨p6, rfl, h⟩ := h
  replace h := dCons_ok h; obtain ⟨a16_, r17_, rfl, h⟩ := h
  replace h := dInt_ok h; obtain ⟨p7, rfl, h⟩ := h
  replace h := dNil_ok h; obtain ⟨rfl, h⟩ := h
  replace h := dEnd_ok h; obtain ⟨rfl, h⟩ := h
  refine fun_ok (nt := 36) (x := bodyOf Try.f47) (Γ := Γ47) (H := H47) (WW := W47) (rs := [.cell 6 32, .tmp 7]) (shs := [.ag [.own .int, .own .int, .own .int, .own .bool, .own .int], .bl]) (cons := []) mixed Try.func47 (by decide) (by kernel_rfl) Try.ntmps47 Try.results47 (.cons (useC_ok s83) (.cons (useC_ok s22) (.cons (useC_ok s62) (GSound.nil)))) ?_ hA hN R hl
  rw [ht, e47 p1 p2 p3 p4 p5 p6 p7 K]
  exact h
/-! laws.FnPutGens -/
def G14 : Con := fun args tm K => dCons args fun a1_ r2_ => dPl .byte a1_ fun p1 => dNil r2_ <| dEnd tm <| Ml_FnPutGens p1 (fun r1 => K (.bool r1) [])
def H14_0 : LH where
  keep := [(3, .pc [.own .int, .own .int, .own .int, .own .bool, .own .int]), (4, .x), (5, .x), (6, .pc [.own .int, .own .int, .own .int, .own .bool, .own .int]), (10, .bl), (11, .x)]
  S := Int × Int × Bool × Int × List Int × List Int × List Int × List Bool × List Int × List Int × List Int × List Int × List Bool × List Int
  enc := fun s => ([.ptr 0 0, .int .i64 s.1, .int .i64 s.2.1, .ptr 1 0, .bool s.2.2.1, .int .i64 s.2.2.2.1], [⟨true, .cells [.sl 2, .sl 3, .sl 4, .sl 5, .sl 6]⟩, ⟨true, .cells [.sl 7, .sl 8, .sl 9, .sl 10, .sl 11]⟩, ⟨true, .list .int s.2.2.2.2.1⟩, ⟨true, .list .int s.2.2.2.2.2.1⟩, ⟨true, .list .int s.2.2.2.2.2.2.1⟩, ⟨true, .list .bool s.2.2.2.2.2.2.2.1⟩, ⟨true, .list .int s.2.2.2.2.2.2.2.2.1⟩, ⟨true, .list .int s.2.2.2.2.2.2.2.2.2.1⟩, ⟨true, .list .int s.2.2.2.2.2.2.2.2.2.2.1⟩, ⟨true, .list .int s.2.2.2.2.2.2.2.2.2.2.2.1⟩, ⟨true, .list .bool s.2.2.2.2.2.2.2.2.2.2.2.2.1⟩, ⟨true, .list .int s.2.2.2.2.2.2.2.2.2.2.2.2.2⟩])
  dec := fun vs tm K => dCons vs fun a1_ r2_ => dPtr 0 a1_ <| dCons r2_ fun a3_ r4_ => dInt .i64 a3_ fun q0 => dCons r4_ fun a5_ r6_ => dInt .i64 a5_ fun q1 => dCons r6_ fun a7_ r8_ => dPtr 1 a7_ <| dCons r8_ fun a9_ r10_ => dBool a9_ fun q2 => dCons r10_ fun a11_ r12_ => dInt .i64 a11_ fun q3 => dNil r12_ <| dBlk true tm fun b13_ m14_ => dCells b13_ fun c15_ => dCons c15_ fun a16_ r17_ => dSl 2 a16_ <| dCons r17_ fun a18_ r19_ => dSl 3 a18_ <| dCons r19_ fun a20_ r21_ => dSl 4 a20_ <| dCons r21_ fun a22_ r23_ => dSl 5 a22_ <| dCons r23_ fun a24_ r25_ => dSl 6 a24_ <| dNil r25_ <| dBlk true m14_ fun b26_ m27_ => dCells b26_ fun c28_ => dCons c28_ fun a29_ r30_ => dSl 7 a29_ <| dCons r30_ fun a31_ r32_ => dSl 8 a31_ <| dCons r32_ fun a33_ r34_ => dSl 9 a33_ <| dCons r34_ fun a35_ r36_ => dSl 10 a35_ <| dCons r36_ fun a37_ r38_ => dSl 11 a37_ <| dNil r38_ <| dBlk true m27_ fun b39_ m40_ => dList .int b39_ fun q4 => dBlk true m40_ fun b41_ m42_ => dList .int b41_ fun q5 => dBlk true m42_ fun b43_ m44_ => dList .int b43_ fun q6 => dBlk true m44_ fun b45_ m46_ => dList .bool b45_ fun q7 => dBlk true m46_ fun b47_ m48_ => dList .int b47_ fun q8 => dBlk true m48_ fun b49_ m50_ => dList .int b49_ fun q9 => dBlk true m50_ fun b51_ m52_ => dList .int b51_ fun q10 => dBlk true m52_ fun b53_ m54_ => dList .int b53_ fun q11 => dBlk true m54_ fun b55_ m56_ => dList .bool b55_ fun q12 => dBlk true m56_ fun b57_ m58_ => dList .int b57_ fun q13 => dEnd m58_ <| K (q0, q1, q2, q3, q4, q5, q6, q7, q8, q9, q10, q11, q12, q13)
  law := by
    intro vs tm K h
    replace h := dCons_ok h; obtain ⟨a1_, r2_, rfl, h⟩ := h
    replace h := dPtr_ok h; obtain ⟨rfl, h⟩ := h
    replace h := dCons_ok h; obtain ⟨a3_, r4_, rfl, h⟩ := h
    replace h := dInt_ok h; obtain ⟨q0, rfl, h⟩ := h
    replace h := dCons_ok h; obtain ⟨a5_, r6_, rfl, h⟩ := h
    replace h := dInt_ok h; obtain ⟨q1, rfl, h⟩ := h
    replace h := dCons_ok h; obtain ⟨a7_, r8_, rfl, h⟩ := h
    replace h := dPtr_ok h; obtain ⟨rfl, h⟩ := h
    replace h := dCons_ok h; obtain ⟨a9_, r10_, rfl, h⟩ := h
    replace h := dBool_ok h; obtain ⟨q2, rfl, h⟩ := h
    replace h := dCons_ok h; obtain ⟨a11_, r12_, rfl, h⟩ := h
    replace h := dInt_ok h; obtain ⟨q3, rfl, h⟩ := h
    replace h := dNil_ok h; obtain ⟨rfl, h⟩ := h
    replace h := dBlk_ok h; obtain ⟨b13_, m14_, rfl, h⟩ := h
    replace h := dCells_ok h; obtain ⟨c15_, rfl, h⟩ := h
    replace h := dCons_ok h; obtain ⟨a16_, r17_, rfl, h⟩ := h
    replace h := dSl_ok h; obtain ⟨rfl, h⟩ := h
    replace h := dCons_ok h; obtain ⟨a18_, r19_, rfl, h⟩ := h
    replace h := dSl_ok h; obtain ⟨rfl, h⟩ := h
    replace h := dCons_ok h; obtain ⟨a20_, r21_, rfl, h⟩ := h
    replace h := dSl_ok h; obtain ⟨rfl, h⟩ := h
    replace h := dCons_ok h; obtain ⟨a22_, r23_, rfl, h⟩ := h
    replace h := dSl_ok h; obtain ⟨rfl, h⟩ := h
    replace h := dCons_ok h; obtain ⟨a24_, r25_, rfl, h⟩ := h
    replace h := dSl_ok h; obtain ⟨rfl, h⟩ := h
    replace h := dNil_ok h; obtain ⟨rfl, h⟩ := h
    replace h := dBlk_ok h; obtain ⟨b26_, m27_, rfl, h⟩ := h
    replace h := dCells_ok h; obtain ⟨c28_, rfl, h⟩ := h
    replace h := dCons_ok h; obtain ⟨a29_, r30_, rfl, h⟩ := h
    replace h := dSl_ok h; obtain ⟨rfl, h⟩ := h
    replace h := dCons_ok h; obtain ⟨a31_, r32_, rfl, h⟩ := h
    replace h := dSl_ok h; obtain ⟨rfl, h⟩ := h
    replace h := dCons_ok h; obtain ⟨a33_, r34_, rfl, h⟩ := h
    replace h := dSl_ok h; obtain ⟨rfl, h⟩ := h
    replace h := dCons_ok h; obtain ⟨a35_, r36_, rfl, h⟩ := h
    replace h := dSl_ok h; obtain ⟨rfl, h⟩ := h
    replace h := dCons_ok h; obtain ⟨a37_, r38_, rfl, h⟩ := h
    replace h := dSl_ok h; obtain ⟨rfl, h⟩ := h
    replace h := dNil_ok h; obtain ⟨rfl, h⟩ := h
    replace h := dBlk_ok h; obtain ⟨b39_, m40_, rfl, h⟩ := h
    replace h := dList_ok h; obtain ⟨q4, rfl, h⟩ := h
    replace h := dBlk_ok h; obtain ⟨b41_, m42_, rfl, h⟩ := h
    replace h := dList_ok h; obtain ⟨q5, rfl, h⟩ := h
    replace h := dBlk_ok h; obtain ⟨b43_, m44_, rfl, h⟩ := h
    replace h := dList_ok h; obtain ⟨q6, rfl, h⟩ := h
    replace h := dBlk_ok h; obtain ⟨b45_, m46_, rfl, h⟩ := h
    replace h := dList_ok h; obtain ⟨q7, rfl, h⟩ := h
    replace h := dBlk_ok h; obtain ⟨b47_, m48_, rfl, h⟩ := h
    replace h := dList_ok h; obtain ⟨q8, rfl, h⟩ := h
    replace h := dBlk_ok h; obtain ⟨b49_, m50_, rfl, h⟩ := h
    replace h := dList_ok h; obtain ⟨q9, rfl, h⟩ := h
    replace h := dBlk_ok h; obtain ⟨b51_, m52_, rfl, h⟩ := h
    replace h := dList_ok h; obtain ⟨q10, rfl, h⟩ := h
    replace h := dBlk_ok h; obtain ⟨b53_, m54_, rfl, h⟩ := h
    replace h := dList_ok h; obtain ⟨q11, rfl, h⟩ := h
    replace h := dBlk_ok h; obtain ⟨b55_, m56_, rfl, h⟩ := h
    replace h := dList_ok h; obtain ⟨q12, rfl, h⟩ := h
    replace h := dBlk_ok h; obtain ⟨b57_, m58_, rfl, h⟩ := h
    replace h := dList_ok h; obtain ⟨q13, rfl, h⟩ := h
    replace h := dEnd_ok h; obtain ⟨rfl, h⟩ := h
    exact ⟨(q0, q1, q2, q3, q4, q5, q6, q7, q8, q9, q10, q11, q12, q13), rfl, h⟩
def H14 : List (Nat × LH) := [(0, H14_0)]
def W14 : List (Nat × List (Nat × List Nat)) := []
def Γ14 : List (Nat × Con) := [(45, useC [.pure .byte] G45), (46, useC [.ag [.pure .int, .pure .int, .pure .int, .pure .bool, .pure .int], .x, .x] G46), (47, useC [.ag [.pure .int, .pure .int, .pure .int, .pure .bool, .pure .int], .x, .x] G47), (18, useC [.ag [.pure .int, .pure .int, .pure .int, .pure .bool, .pure .int], .ag [.pure .int, .pure .int, .pure .int, .pure .bool, .pure .int]] G18), (21, useC [.ag [.pure .int, .pure .int, .pure .int, .pure .bool, .pure .int]] G21)]
theorem e14 (p1 : List Int) (K : TV → TMem → Prop) : TW PP 129 Γ14 H14 W14 (List.length ([] : TMem)) (bodyOf Try.f14) (endT PP 129 [.tmp 2] [.bl] [] (List.length ([] : TMem)) K) (argsF [.pl .byte p1]) [] =
    Ml_FnPutGens p1 (fun r1 => K (.bool r1) []) := by kernel_rfl
theorem s14 : CSound PP 14 G14 := by
  intro args K c h fl A aargs hA hN R hl
  unfold G14 at h
  generalize ht : c.tm = tm at h
  replace h := dCons_ok h; obtain ⟨a1_, r2_, rfl, h⟩ := h
  replace h := dPl_ok h; obtain ⟨p1, rfl, h⟩ := h
  replace h := dNil_ok h; obtain ⟨rfl, h⟩ := h
  replace h := dEnd_ok h; obtain ⟨rfl, h⟩ := h
  refine fun_ok (nt := 129) (x := bodyOf Try.f14) (Γ := Γ14) (H := H14) (WW := W14) (rs := [.tmp 2]) (shs := [.bl]) (cons := []) mixed Try.func14 (by decide) (by kernel_rfl) Try.ntmps14 Try.results14 (.cons (useC_ok s45) (.cons (useC_ok s46) (.cons (useC_ok s47) (.cons (useC_ok s18) (.cons (useC_ok s21) (GSound.nil)))))) ?_ hA hN R hl
  rw [ht, e14 p1 K]
  exact h
end Go.Ab
