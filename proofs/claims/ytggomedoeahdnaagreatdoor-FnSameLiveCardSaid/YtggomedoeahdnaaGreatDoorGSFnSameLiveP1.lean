/-
  What is proved here: that the typed models of functions of the translated program are sound.
-/
import Derived.Test.YtggomedoeahdnaaGreatDoorGSFnSameLive
import Derived.Test.YtggomedoeahdnaaGreatDoorProg
import Derived.KernelRfl
import Derived.Shelf.Strings.SlTrimAscii
import Derived.Test.YtggomedoeahdnaaGreatDoorLay
namespace Go.Ab
set_option linter.unusedVariables false
open Go.Proofs
/-! slices.IndexFunc[[]int,int] -/
def G158 : Con := fun args tm K => cP .int args fun p1 r1_ => dCons r1_ fun a3_ r2_ => dFn 159 a3_ fun x4_ y5_ => dNil x4_ <| cQ 0 y5_ fun r6_ => dNil r6_ <| dNil r2_ <| bC false tm fun c8_ m7_ => cI .i64 c8_ fun p2 r9_ => cL 1 r9_ fun r10_ => cI .i64 r10_ fun p3 r11_ => dNil r11_ <| bL false .int m7_ fun p4 m12_ => dEnd m12_ <| M_IndexFunc_int p1 p2 p3 p4 (fun r1 r2 r3 r4 => K (.int .i64 r1) [⟨false, .cells [.int .i64 r2, .sl 1, .int .i64 r3]⟩, ⟨false, .list .int r4⟩])
def H158_0 : LH where
  keep := [(0, .pure .int), (1, .x), (7, .x), (8, .x)]
  S := List Int × Int × Int × Int × Int × List Int
  enc := fun s => ([.pl .int s.1, .fn 159 [] [.ptr 0 0], .int .i64 s.2.1, .int .i64 s.2.2.1], [⟨false, .cells [.int .i64 s.2.2.2.1, .sl 1, .int .i64 s.2.2.2.2.1]⟩, ⟨false, .list .int s.2.2.2.2.2⟩])
  dec := fun vs tm K => cP .int vs fun q0 r1_ => dCons r1_ fun a3_ r2_ => dFn 159 a3_ fun x4_ y5_ => dNil x4_ <| cQ 0 y5_ fun r6_ => dNil r6_ <| cI .i64 r2_ fun q1 r7_ => cI .i64 r7_ fun q2 r8_ => dNil r8_ <| bC false tm fun c10_ m9_ => cI .i64 c10_ fun q3 r11_ => cL 1 r11_ fun r12_ => cI .i64 r12_ fun q4 r13_ => dNil r13_ <| bL false .int m9_ fun q5 m14_ => dEnd m14_ <| K (q0, q1, q2, q3, q4, q5)
  law := by
    intro vs tm K
    refine cP_in ?_; rintro q0 r1_ rfl
    refine dCons_in ?_; rintro a3_ r2_ rfl
    refine dFn_in ?_; rintro x4_ y5_ rfl
    refine dN_in ?_; rintro rfl
    refine cQ_in ?_; rintro r6_ rfl
    refine dN_in ?_; rintro rfl
    refine cI_in ?_; rintro q1 r7_ rfl
    refine cI_in ?_; rintro q2 r8_ rfl
    refine dN_in ?_; rintro rfl
    refine bC_in ?_; rintro c10_ m9_ rfl
    refine cI_in ?_; rintro q3 r11_ rfl
    refine cL_in ?_; rintro r12_ rfl
    refine cI_in ?_; rintro q4 r13_ rfl
    refine dN_in ?_; rintro rfl
    refine bL_in ?_; rintro q5 m14_ rfl
    refine dE_in ?_; rintro rfl
    exact fun h => ⟨(q0, q1, q2, q3, q4, q5), rfl, h⟩
def H158 : List (Nat × LH) := [(0, H158_0)]
def W158 : List (Nat × List (Nat × List Nat)) := []
def Γ158 : List (Nat × Con) := [(159, useC [.x, .pc [.x, .own .int, .x]] (onlyC [] G159))]
theorem e158 (p1 : List Int) (p2 : Int) (p3 : Int) (p4 : List Int) (K : TV → TMem → Prop) : TW PP 19 Γ158 H158 W158 (List.length ([⟨false, .cells [.int .i64 p2, .sl 1, .int .i64 p3]⟩, ⟨false, .list .int p4⟩] : TMem)) (bodyOf Tryz.f158) (endT PP 19 [.tmp 4] [.x] [] (List.length ([⟨false, .cells [.int .i64 p2, .sl 1, .int .i64 p3]⟩, ⟨false, .list .int p4⟩] : TMem)) K) (argsF [.pl .int p1, .fn 159 [] [.ptr 0 0]]) [⟨false, .cells [.int .i64 p2, .sl 1, .int .i64 p3]⟩, ⟨false, .list .int p4⟩] =
    M_IndexFunc_int p1 p2 p3 p4 (fun r1 r2 r3 r4 => K (.int .i64 r1) [⟨false, .cells [.int .i64 r2, .sl 1, .int .i64 r3]⟩, ⟨false, .list .int r4⟩]) := by kernel_rfl
theorem s158 : CSound PP 158 G158 := by
  intro args K c h fl A aargs hA hN R hl
  unfold G158 at h
  generalize ht : c.tm = tm at h
  revert h
  refine cP_in ?_; rintro p1 r1_ rfl
  refine dCons_in ?_; rintro a3_ r2_ rfl
  refine dFn_in ?_; rintro x4_ y5_ rfl
  refine dN_in ?_; rintro rfl
  refine cQ_in ?_; rintro r6_ rfl
  refine dN_in ?_; rintro rfl
  refine dN_in ?_; rintro rfl
  refine bC_in ?_; rintro c8_ m7_ rfl
  refine cI_in ?_; rintro p2 r9_ rfl
  refine cL_in ?_; rintro r10_ rfl
  refine cI_in ?_; rintro p3 r11_ rfl
  refine dN_in ?_; rintro rfl
  refine bL_in ?_; rintro p4 m12_ rfl
  refine dE_in ?_; rintro rfl
  intro h
  refine fun_ok (nt := 19) (x := bodyOf Tryz.f158) (Γ := Γ158) (H := H158) (WW := W158) (rs := [.tmp 4]) (shs := [.x]) (cons := []) mixed Tryz.func158 (by decide) (by kernel_rfl) Tryz.ntmps158 Tryz.results158 (.cons (useC_ok (onlyC_ok s159)) (GSound.nil)) ?_ hA hN R hl
  rw [ht, e158 p1 p2 p3 p4 K]
  exact h
/-! (*impl.Store).clear -/
def G84 : Con := fun args tm K => cQ 0 args fun r1_ => cP .int r1_ fun p1 r2_ => dNil r2_ <| bC true tm fun c4_ m3_ => cL 1 c4_ fun r5_ => cL 2 r5_ fun r6_ => cL 3 r6_ fun r7_ => cL 4 r7_ fun r8_ => dNil r8_ <| bL true .int m3_ fun p2 m9_ => bL true .int m9_ fun p3 m10_ => bL true .int m10_ fun p4 m11_ => bL true .int m11_ fun p5 m12_ => dEnd m12_ <| Mi_Store_clear p1 p2 p3 p4 p5 (fun r1 r2 r3 r4 => K (.tup []) [⟨true, .cells [.sl 1, .sl 2, .sl 3, .sl 5]⟩, ⟨true, .list .int r1⟩, ⟨true, .list .int r2⟩, ⟨true, .list .int r3⟩, ⟨true, .dead⟩, ⟨true, .list .int r4⟩])
def H84_0 : LH where
  keep := [(0, .pc [.own .int, .own .int, .own .int, .mv .int]), (7, .pure .int), (8, .x), (9, .x)]
  S := List Int × Int × Int × List Int × List Int × List Int × List Int
  enc := fun s => ([.ptr 0 0, .pl .int s.1, .int .i64 s.2.1, .int .i64 s.2.2.1], [⟨true, .cells [.sl 1, .sl 2, .sl 3, .sl 5]⟩, ⟨true, .list .int s.2.2.2.1⟩, ⟨true, .list .int s.2.2.2.2.1⟩, ⟨true, .list .int s.2.2.2.2.2.1⟩, ⟨true, .dead⟩, ⟨true, .list .int s.2.2.2.2.2.2⟩])
  dec := fun vs tm K => cQ 0 vs fun r1_ => cP .int r1_ fun q0 r2_ => cI .i64 r2_ fun q1 r3_ => cI .i64 r3_ fun q2 r4_ => dNil r4_ <| bC true tm fun c6_ m5_ => cL 1 c6_ fun r7_ => cL 2 r7_ fun r8_ => cL 3 r8_ fun r9_ => cL 5 r9_ fun r10_ => dNil r10_ <| bL true .int m5_ fun q3 m11_ => bL true .int m11_ fun q4 m12_ => bL true .int m12_ fun q5 m13_ => bD true m13_ fun m14_ => bL true .int m14_ fun q6 m15_ => dEnd m15_ <| K (q0, q1, q2, q3, q4, q5, q6)
  law := by
    intro vs tm K
    refine cQ_in ?_; rintro r1_ rfl
    refine cP_in ?_; rintro q0 r2_ rfl
    refine cI_in ?_; rintro q1 r3_ rfl
    refine cI_in ?_; rintro q2 r4_ rfl
    refine dN_in ?_; rintro rfl
    refine bC_in ?_; rintro c6_ m5_ rfl
    refine cL_in ?_; rintro r7_ rfl
    refine cL_in ?_; rintro r8_ rfl
    refine cL_in ?_; rintro r9_ rfl
    refine cL_in ?_; rintro r10_ rfl
    refine dN_in ?_; rintro rfl
    refine bL_in ?_; rintro q3 m11_ rfl
    refine bL_in ?_; rintro q4 m12_ rfl
    refine bL_in ?_; rintro q5 m13_ rfl
    refine bD_in ?_; rintro m14_ rfl
    refine bL_in ?_; rintro q6 m15_ rfl
    refine dE_in ?_; rintro rfl
    exact fun h => ⟨(q0, q1, q2, q3, q4, q5, q6), rfl, h⟩
def H84_2 : LH where
  keep := [(0, .pc [.own .int, .own .int, .own .int, .own .int]), (5, .x), (7, .pure .int), (8, .x), (9, .x), (32, .x), (33, .x)]
  S := Int × List Int × Int × Int × Int × Int × List Int × List Int × List Int × List Int
  enc := fun s => ([.ptr 0 0, .int .i64 s.1, .pl .int s.2.1, .int .i64 s.2.2.1, .int .i64 s.2.2.2.1, .int .i64 s.2.2.2.2.1, .int .i64 s.2.2.2.2.2.1], [⟨true, .cells [.sl 1, .sl 2, .sl 3, .sl 5]⟩, ⟨true, .list .int s.2.2.2.2.2.2.1⟩, ⟨true, .list .int s.2.2.2.2.2.2.2.1⟩, ⟨true, .list .int s.2.2.2.2.2.2.2.2.1⟩, ⟨true, .dead⟩, ⟨true, .list .int s.2.2.2.2.2.2.2.2.2⟩])
  dec := fun vs tm K => cQ 0 vs fun r1_ => cI .i64 r1_ fun q0 r2_ => cP .int r2_ fun q1 r3_ => cI .i64 r3_ fun q2 r4_ => cI .i64 r4_ fun q3 r5_ => cI .i64 r5_ fun q4 r6_ => cI .i64 r6_ fun q5 r7_ => dNil r7_ <| bC true tm fun c9_ m8_ => cL 1 c9_ fun r10_ => cL 2 r10_ fun r11_ => cL 3 r11_ fun r12_ => cL 5 r12_ fun r13_ => dNil r13_ <| bL true .int m8_ fun q6 m14_ => bL true .int m14_ fun q7 m15_ => bL true .int m15_ fun q8 m16_ => bD true m16_ fun m17_ => bL true .int m17_ fun q9 m18_ => dEnd m18_ <| K (q0, q1, q2, q3, q4, q5, q6, q7, q8, q9)
  law := by
    intro vs tm K
    refine cQ_in ?_; rintro r1_ rfl
    refine cI_in ?_; rintro q0 r2_ rfl
    refine cP_in ?_; rintro q1 r3_ rfl
    refine cI_in ?_; rintro q2 r4_ rfl
    refine cI_in ?_; rintro q3 r5_ rfl
    refine cI_in ?_; rintro q4 r6_ rfl
    refine cI_in ?_; rintro q5 r7_ rfl
    refine dN_in ?_; rintro rfl
    refine bC_in ?_; rintro c9_ m8_ rfl
    refine cL_in ?_; rintro r10_ rfl
    refine cL_in ?_; rintro r11_ rfl
    refine cL_in ?_; rintro r12_ rfl
    refine cL_in ?_; rintro r13_ rfl
    refine dN_in ?_; rintro rfl
    refine bL_in ?_; rintro q6 m14_ rfl
    refine bL_in ?_; rintro q7 m15_ rfl
    refine bL_in ?_; rintro q8 m16_ rfl
    refine bD_in ?_; rintro m17_ rfl
    refine bL_in ?_; rintro q9 m18_ rfl
    refine dE_in ?_; rintro rfl
    exact fun h => ⟨(q0, q1, q2, q3, q4, q5, q6, q7, q8, q9), rfl, h⟩
def H84 : List (Nat × LH) := [(0, H84_0), (2, H84_2)]
def W84 : List (Nat × List (Nat × List Nat)) := []
def Γ84 : List (Nat × Con) := []
theorem e84 (p1 : List Int) (p2 : List Int) (p3 : List Int) (p4 : List Int) (p5 : List Int) (K : TV → TMem → Prop) : TW PP 82 Γ84 H84 W84 (List.length ([⟨true, .cells [.sl 1, .sl 2, .sl 3, .sl 4]⟩, ⟨true, .list .int p2⟩, ⟨true, .list .int p3⟩, ⟨true, .list .int p4⟩, ⟨true, .list .int p5⟩] : TMem)) (bodyOf Tryz.f84) (endT PP 82 [] [] [4] (List.length ([⟨true, .cells [.sl 1, .sl 2, .sl 3, .sl 4]⟩, ⟨true, .list .int p2⟩, ⟨true, .list .int p3⟩, ⟨true, .list .int p4⟩, ⟨true, .list .int p5⟩] : TMem)) K) (argsF [.ptr 0 0, .pl .int p1]) [⟨true, .cells [.sl 1, .sl 2, .sl 3, .sl 4]⟩, ⟨true, .list .int p2⟩, ⟨true, .list .int p3⟩, ⟨true, .list .int p4⟩, ⟨true, .list .int p5⟩] =
    Mi_Store_clear p1 p2 p3 p4 p5 (fun r1 r2 r3 r4 => K (.tup []) [⟨true, .cells [.sl 1, .sl 2, .sl 3, .sl 5]⟩, ⟨true, .list .int r1⟩, ⟨true, .list .int r2⟩, ⟨true, .list .int r3⟩, ⟨true, .dead⟩, ⟨true, .list .int r4⟩]) := by kernel_rfl
theorem s84 : CSound PP 84 G84 := by
  intro args K c h fl A aargs hA hN R hl
  unfold G84 at h
  generalize ht : c.tm = tm at h
  revert h
  refine cQ_in ?_; rintro r1_ rfl
  refine cP_in ?_; rintro p1 r2_ rfl
  refine dN_in ?_; rintro rfl
  refine bC_in ?_; rintro c4_ m3_ rfl
  refine cL_in ?_; rintro r5_ rfl
  refine cL_in ?_; rintro r6_ rfl
  refine cL_in ?_; rintro r7_ rfl
  refine cL_in ?_; rintro r8_ rfl
  refine dN_in ?_; rintro rfl
  refine bL_in ?_; rintro p2 m9_ rfl
  refine bL_in ?_; rintro p3 m10_ rfl
  refine bL_in ?_; rintro p4 m11_ rfl
  refine bL_in ?_; rintro p5 m12_ rfl
  refine dE_in ?_; rintro rfl
  intro h
  refine fun_ok (nt := 82) (x := bodyOf Tryz.f84) (Γ := Γ84) (H := H84) (WW := W84) (rs := []) (shs := []) (cons := [4]) mixed Tryz.func84 (by decide) (by kernel_rfl) Tryz.ntmps84 Tryz.results84 (GSound.nil) ?_ hA hN R hl
  rw [ht, e84 p1 p2 p3 p4 p5 K]
  exact h
/-! impl.StepGc -/
def G96 : Con := fun args tm K => cA args fun l2_ r1_ => cP .int l2_ fun p1 r3_ => cP .int r3_ fun p2 r4_ => cP .int r4_ fun p3 r5_ => cP .int r5_ fun p4 r6_ => dNil r6_ <| cA r1_ fun l8_ r7_ => cI .i64 l8_ fun p5 r9_ => cP .int r9_ fun p6 r10_ => cI .i64 r10_ fun p7 r11_ => dNil r11_ <| dNil r7_ <| dEnd tm <| Mi_StepGc p1 p2 p3 p4 p5 p6 p7 (fun r1 r2 r3 r4 r5 r6 r7 r8 => K (.tup [.agg [.sl 0, .sl 1, .sl 2, .sl 3], .agg [.int .i64 r1, .sl 4, .int .i64 r2], .bool r3]) [⟨true, .list .int r4⟩, ⟨true, .list .int r5⟩, ⟨true, .list .int r6⟩, ⟨true, .list .int r7⟩, ⟨true, .list .int r8⟩])
def H96_1000004 : LH where
  keep := [(2, .pc [.pure .int, .pure .int, .pure .int, .pure .int]), (3, .pc [.x, .pure .int, .x]), (4, .pc [.own .int, .own .int, .own .int, .own .int]), (5, .pc [.x, .own .int, .x]), (7, .x)]
  S := Int × List Int × List Int × List Int × List Int × Int × List Int × Int × Int × Int × List Int × List Int × List Int × List Int × List Int
  enc := fun s => ([.ptr 0 0, .ptr 1 0, .ptr 2 0, .ptr 3 0, .int .i64 s.1], [⟨true, .cells [.pl .int s.2.1, .pl .int s.2.2.1, .pl .int s.2.2.2.1, .pl .int s.2.2.2.2.1]⟩, ⟨true, .cells [.int .i64 s.2.2.2.2.2.1, .pl .int s.2.2.2.2.2.2.1, .int .i64 s.2.2.2.2.2.2.2.1]⟩, ⟨true, .cells [.sl 4, .sl 5, .sl 6, .sl 7]⟩, ⟨true, .cells [.int .i64 s.2.2.2.2.2.2.2.2.1, .sl 8, .int .i64 s.2.2.2.2.2.2.2.2.2.1]⟩, ⟨true, .list .int s.2.2.2.2.2.2.2.2.2.2.1⟩, ⟨true, .list .int s.2.2.2.2.2.2.2.2.2.2.2.1⟩, ⟨true, .list .int s.2.2.2.2.2.2.2.2.2.2.2.2.1⟩, ⟨true, .list .int s.2.2.2.2.2.2.2.2.2.2.2.2.2.1⟩, ⟨true, .list .int s.2.2.2.2.2.2.2.2.2.2.2.2.2.2⟩])
  dec := fun vs tm K => cQ 0 vs fun r1_ => cQ 1 r1_ fun r2_ => cQ 2 r2_ fun r3_ => cQ 3 r3_ fun r4_ => cI .i64 r4_ fun q0 r5_ => dNil r5_ <| bC true tm fun c7_ m6_ => cP .int c7_ fun q1 r8_ => cP .int r8_ fun q2 r9_ => cP .int r9_ fun q3 r10_ => cP .int r10_ fun q4 r11_ => dNil r11_ <| bC true m6_ fun c13_ m12_ => cI .i64 c13_ fun q5 r14_ => cP .int r14_ fun q6 r15_ => cI .i64 r15_ fun q7 r16_ => dNil r16_ <| bC true m12_ fun c18_ m17_ => cL 4 c18_ fun r19_ => cL 5 r19_ fun r20_ => cL 6 r20_ fun r21_ => cL 7 r21_ fun r22_ => dNil r22_ <| bC true m17_ fun c24_ m23_ => cI .i64 c24_ fun q8 r25_ => cL 8 r25_ fun r26_ => cI .i64 r26_ fun q9 r27_ => dNil r27_ <| bL true .int m23_ fun q10 m28_ => bL true .int m28_ fun q11 m29_ => bL true .int m29_ fun q12 m30_ => bL true .int m30_ fun q13 m31_ => bL true .int m31_ fun q14 m32_ => dEnd m32_ <| K (q0, q1, q2, q3, q4, q5, q6, q7, q8, q9, q10, q11, q12, q13, q14)
  law := by
    intro vs tm K
    refine cQ_in ?_; rintro r1_ rfl
    refine cQ_in ?_; rintro r2_ rfl
    refine cQ_in ?_; rintro r3_ rfl
    refine cQ_in ?_; rintro r4_ rfl
    refine cI_in ?_; rintro q0 r5_ rfl
    refine dN_in ?_; rintro rfl
    refine bC_in ?_; rintro c7_ m6_ rfl
    refine cP_in ?_; rintro q1 r8_ rfl
    refine cP_in ?_; rintro q2 r9_ rfl
    refine cP_in ?_; rintro q3 r10_ rfl
    refine cP_in ?_; rintro q4 r11_ rfl
    refine dN_in ?_; rintro rfl
    refine bC_in ?_; rintro c13_ m12_ rfl
    refine cI_in ?_; rintro q5 r14_ rfl
    refine cP_in ?_; rintro q6 r15_ rfl
    refine cI_in ?_; rintro q7 r16_ rfl
    refine dN_in ?_; rintro rfl
    refine bC_in ?_; rintro c18_ m17_ rfl
    refine cL_in ?_; rintro r19_ rfl
    refine cL_in ?_; rintro r20_ rfl
    refine cL_in ?_; rintro r21_ rfl
    refine cL_in ?_; rintro r22_ rfl
    refine dN_in ?_; rintro rfl
    refine bC_in ?_; rintro c24_ m23_ rfl
    refine cI_in ?_; rintro q8 r25_ rfl
    refine cL_in ?_; rintro r26_ rfl
    refine cI_in ?_; rintro q9 r27_ rfl
    refine dN_in ?_; rintro rfl
    refine bL_in ?_; rintro q10 m28_ rfl
    refine bL_in ?_; rintro q11 m29_ rfl
    refine bL_in ?_; rintro q12 m30_ rfl
    refine bL_in ?_; rintro q13 m31_ rfl
    refine bL_in ?_; rintro q14 m32_ rfl
    refine dE_in ?_; rintro rfl
    exact fun h => ⟨(q0, q1, q2, q3, q4, q5, q6, q7, q8, q9, q10, q11, q12, q13, q14), rfl, h⟩
def H96_1000027 : LH where
  keep := [(2, .pc [.own .int, .own .int, .own .int, .own .int]), (3, .pc [.x, .own .int, .x]), (4, .pc [.own .int, .own .int, .own .int, .own .int]), (5, .pc [.x, .own .int, .x])]
  S := Int × Int × Int × Int × List Int × List Int × List Int × List Int × List Int × List Int × List Int × List Int × List Int × List Int
  enc := fun s => ([.ptr 0 0, .ptr 1 0, .ptr 2 0, .ptr 3 0], [⟨true, .cells [.sl 4, .sl 5, .sl 6, .sl 7]⟩, ⟨true, .cells [.int .i64 s.1, .sl 8, .int .i64 s.2.1]⟩, ⟨true, .cells [.sl 9, .sl 10, .sl 11, .sl 12]⟩, ⟨true, .cells [.int .i64 s.2.2.1, .sl 13, .int .i64 s.2.2.2.1]⟩, ⟨true, .list .int s.2.2.2.2.1⟩, ⟨true, .list .int s.2.2.2.2.2.1⟩, ⟨true, .list .int s.2.2.2.2.2.2.1⟩, ⟨true, .list .int s.2.2.2.2.2.2.2.1⟩, ⟨true, .list .int s.2.2.2.2.2.2.2.2.1⟩, ⟨true, .list .int s.2.2.2.2.2.2.2.2.2.1⟩, ⟨true, .list .int s.2.2.2.2.2.2.2.2.2.2.1⟩, ⟨true, .list .int s.2.2.2.2.2.2.2.2.2.2.2.1⟩, ⟨true, .list .int s.2.2.2.2.2.2.2.2.2.2.2.2.1⟩, ⟨true, .list .int s.2.2.2.2.2.2.2.2.2.2.2.2.2⟩])
  dec := fun vs tm K => cQ 0 vs fun r1_ => cQ 1 r1_ fun r2_ => cQ 2 r2_ fun r3_ => cQ 3 r3_ fun r4_ => dNil r4_ <| bC true tm fun c6_ m5_ => cL 4 c6_ fun r7_ => cL 5 r7_ fun r8_ => cL 6 r8_ fun r9_ => cL 7 r9_ fun r10_ => dNil r10_ <| bC true m5_ fun c12_ m11_ => cI .i64 c12_ fun q0 r13_ => cL 8 r13_ fun r14_ => cI .i64 r14_ fun q1 r15_ => dNil r15_ <| bC true m11_ fun c17_ m16_ => cL 9 c17_ fun r18_ => cL 10 r18_ fun r19_ => cL 11 r19_ fun r20_ => cL 12 r20_ fun r21_ => dNil r21_ <| bC true m16_ fun c23_ m22_ => cI .i64 c23_ fun q2 r24_ => cL 13 r24_ fun r25_ => cI .i64 r25_ fun q3 r26_ => dNil r26_ <| bL true .int m22_ fun q4 m27_ => bL true .int m27_ fun q5 m28_ => bL true .int m28_ fun q6 m29_ => bL true .int m29_ fun q7 m30_ => bL true .int m30_ fun q8 m31_ => bL true .int m31_ fun q9 m32_ => bL true .int m32_ fun q10 m33_ => bL true .int m33_ fun q11 m34_ => bL true .int m34_ fun q12 m35_ => bL true .int m35_ fun q13 m36_ => dEnd m36_ <| K (q0, q1, q2, q3, q4, q5, q6, q7, q8, q9, q10, q11, q12, q13)
  law := by
    intro vs tm K
    refine cQ_in ?_; rintro r1_ rfl
    refine cQ_in ?_; rintro r2_ rfl
    refine cQ_in ?_; rintro r3_ rfl
    refine cQ_in ?_; rintro r4_ rfl
    refine dN_in ?_; rintro rfl
    refine bC_in ?_; rintro c6_ m5_ rfl
    refine cL_in ?_; rintro r7_ rfl
    refine cL_in ?_; rintro r8_ rfl
    refine cL_in ?_; rintro r9_ rfl
    refine cL_in ?_; rintro r10_ rfl
    refine dN_in ?_; rintro rfl
    refine bC_in ?_; rintro c12_ m11_ rfl
    refine cI_in ?_; rintro q0 r13_ rfl
    refine cL_in ?_; rintro r14_ rfl
    refine cI_in ?_; rintro q1 r15_ rfl
    refine dN_in ?_; rintro rfl
    refine bC_in ?_; rintro c17_ m16_ rfl
    refine cL_in ?_; rintro r18_ rfl
    refine cL_in ?_; rintro r19_ rfl
    refine cL_in ?_; rintro r20_ rfl
    refine cL_in ?_; rintro r21_ rfl
    refine dN_in ?_; rintro rfl
    refine bC_in ?_; rintro c23_ m22_ rfl
    refine cI_in ?_; rintro q2 r24_ rfl
    refine cL_in ?_; rintro r25_ rfl
    refine cI_in ?_; rintro q3 r26_ rfl
    refine dN_in ?_; rintro rfl
    refine bL_in ?_; rintro q4 m27_ rfl
    refine bL_in ?_; rintro q5 m28_ rfl
    refine bL_in ?_; rintro q6 m29_ rfl
    refine bL_in ?_; rintro q7 m30_ rfl
    refine bL_in ?_; rintro q8 m31_ rfl
    refine bL_in ?_; rintro q9 m32_ rfl
    refine bL_in ?_; rintro q10 m33_ rfl
    refine bL_in ?_; rintro q11 m34_ rfl
    refine bL_in ?_; rintro q12 m35_ rfl
    refine bL_in ?_; rintro q13 m36_ rfl
    refine dE_in ?_; rintro rfl
    exact fun h => ⟨(q0, q1, q2, q3, q4, q5, q6, q7, q8, q9, q10, q11, q12, q13), rfl, h⟩
def H96 : List (Nat × LH) := [(1000004, H96_1000004), (1000027, H96_1000027)]
def W96 : List (Nat × List (Nat × List Nat)) := [(27, [(2, [2])])]
def Γ96 : List (Nat × Con) := [(94, useC [.ag [.pure .int, .pure .int, .pure .int, .pure .int], .ag [.x, .pure .int, .x]] G94), (91, useC [.ag [.pure .int, .pure .int, .pure .int, .pure .int], .ag [.x, .pure .int, .x]] G91), (47, useC [.pure .int, .x] G47), (67, useC [.ag [.pure .int, .pure .int, .pure .int, .pure .int]] G67), (92, useC [.pure .int] G92), (156, useC [.own .int, .x] G156), (157, useC [.ag [.pure .int, .pure .int, .pure .int], .own .int] G157), (158, useC [.pure .int, .x] (onlyC [] G158)), (84, useC [.pc [.own .int, .own .int, .own .int, .own .int], .pure .int] G84)]
theorem q96_27 (s : H96_1000027.S) (K : TV → TMem → Prop) : segT PP 119 Γ96 H96 W96 0 (sufC 6 (bodyOf Tryz.f96)) (endT PP 119 [.cell 4 27, .cell 5 29, .tmp 6] [.ag [.own .int, .own .int, .own .int, .own .int], .ag [.x, .own .int, .x], .bl] [] 0 K) (frameOf H96_1000027.keep (H96_1000027.enc s).1) (H96_1000027.enc s).2 =
    Mi_StepGc_c27 s.1 s.2.1 s.2.2.1 s.2.2.2.1 s.2.2.2.2.1 s.2.2.2.2.2.1 s.2.2.2.2.2.2.1 s.2.2.2.2.2.2.2.1 s.2.2.2.2.2.2.2.2.1 s.2.2.2.2.2.2.2.2.2.1 s.2.2.2.2.2.2.2.2.2.2.1 s.2.2.2.2.2.2.2.2.2.2.2.1 s.2.2.2.2.2.2.2.2.2.2.2.2.1 s.2.2.2.2.2.2.2.2.2.2.2.2.2 (fun r1 r2 r3 r4 r5 r6 r7 r8 => K (.tup [.agg [.sl 0, .sl 1, .sl 2, .sl 3], .agg [.int .i64 r1, .sl 4, .int .i64 r2], .bool r3]) [⟨true, .list .int r4⟩, ⟨true, .list .int r5⟩, ⟨true, .list .int r6⟩, ⟨true, .list .int r7⟩, ⟨true, .list .int r8⟩]) := by kernel_rfl
theorem j96_27 (K : TV → TMem → Prop) (ts : TFrm) (tm : TMem) : (headT 0 H96_1000027 ts tm fun s => Mi_StepGc_c27 s.1 s.2.1 s.2.2.1 s.2.2.2.1 s.2.2.2.2.1 s.2.2.2.2.2.1 s.2.2.2.2.2.2.1 s.2.2.2.2.2.2.2.1 s.2.2.2.2.2.2.2.2.1 s.2.2.2.2.2.2.2.2.2.1 s.2.2.2.2.2.2.2.2.2.2.1 s.2.2.2.2.2.2.2.2.2.2.2.1 s.2.2.2.2.2.2.2.2.2.2.2.2.1 s.2.2.2.2.2.2.2.2.2.2.2.2.2 (fun r1 r2 r3 r4 r5 r6 r7 r8 => K (.tup [.agg [.sl 0, .sl 1, .sl 2, .sl 3], .agg [.int .i64 r1, .sl 4, .int .i64 r2], .bool r3]) [⟨true, .list .int r4⟩, ⟨true, .list .int r5⟩, ⟨true, .list .int r6⟩, ⟨true, .list .int r7⟩, ⟨true, .list .int r8⟩])) = TW PP 119 Γ96 H96 W96 0 (sufC 6 (bodyOf Tryz.f96)) (endT PP 119 [.cell 4 27, .cell 5 29, .tmp 6] [.ag [.own .int, .own .int, .own .int, .own .int], .ag [.x, .own .int, .x], .bl] [] 0 K) ts tm :=
  TW_seg (by kernel_rfl : regOf (sufC 6 (bodyOf Tryz.f96)) = some 27) (by kernel_rfl) (fun s => q96_27 s K) ts tm
theorem r96_4 (s : H96_1000004.S) (K : TV → TMem → Prop) : segN PP 119 Γ96 H96 W96 0 2 (sufC 3 (bodyOf Tryz.f96)) (fun ts tm => headT 0 H96_1000027 ts tm fun s => Mi_StepGc_c27 s.1 s.2.1 s.2.2.1 s.2.2.2.1 s.2.2.2.2.1 s.2.2.2.2.2.1 s.2.2.2.2.2.2.1 s.2.2.2.2.2.2.2.1 s.2.2.2.2.2.2.2.2.1 s.2.2.2.2.2.2.2.2.2.1 s.2.2.2.2.2.2.2.2.2.2.1 s.2.2.2.2.2.2.2.2.2.2.2.1 s.2.2.2.2.2.2.2.2.2.2.2.2.1 s.2.2.2.2.2.2.2.2.2.2.2.2.2 (fun r1 r2 r3 r4 r5 r6 r7 r8 => K (.tup [.agg [.sl 0, .sl 1, .sl 2, .sl 3], .agg [.int .i64 r1, .sl 4, .int .i64 r2], .bool r3]) [⟨true, .list .int r4⟩, ⟨true, .list .int r5⟩, ⟨true, .list .int r6⟩, ⟨true, .list .int r7⟩, ⟨true, .list .int r8⟩])) (endT PP 119 [.cell 4 27, .cell 5 29, .tmp 6] [.ag [.own .int, .own .int, .own .int, .own .int], .ag [.x, .own .int, .x], .bl] [] 0 K) (frameOf H96_1000004.keep (H96_1000004.enc s).1) (H96_1000004.enc s).2 =
    Mi_StepGc_c4 s.1 s.2.1 s.2.2.1 s.2.2.2.1 s.2.2.2.2.1 s.2.2.2.2.2.1 s.2.2.2.2.2.2.1 s.2.2.2.2.2.2.2.1 s.2.2.2.2.2.2.2.2.1 s.2.2.2.2.2.2.2.2.2.1 s.2.2.2.2.2.2.2.2.2.2.1 s.2.2.2.2.2.2.2.2.2.2.2.1 s.2.2.2.2.2.2.2.2.2.2.2.2.1 s.2.2.2.2.2.2.2.2.2.2.2.2.2.1 s.2.2.2.2.2.2.2.2.2.2.2.2.2.2 (fun r1 r2 r3 r4 r5 r6 r7 r8 => K (.tup [.agg [.sl 0, .sl 1, .sl 2, .sl 3], .agg [.int .i64 r1, .sl 4, .int .i64 r2], .bool r3]) [⟨true, .list .int r4⟩, ⟨true, .list .int r5⟩, ⟨true, .list .int r6⟩, ⟨true, .list .int r7⟩, ⟨true, .list .int r8⟩]) := by kernel_rfl
theorem q96_4 (s : H96_1000004.S) (K : TV → TMem → Prop) : segT PP 119 Γ96 H96 W96 0 (sufC 3 (bodyOf Tryz.f96)) (endT PP 119 [.cell 4 27, .cell 5 29, .tmp 6] [.ag [.own .int, .own .int, .own .int, .own .int], .ag [.x, .own .int, .x], .bl] [] 0 K) (frameOf H96_1000004.keep (H96_1000004.enc s).1) (H96_1000004.enc s).2 =
    Mi_StepGc_c4 s.1 s.2.1 s.2.2.1 s.2.2.2.1 s.2.2.2.2.1 s.2.2.2.2.2.1 s.2.2.2.2.2.2.1 s.2.2.2.2.2.2.2.1 s.2.2.2.2.2.2.2.2.1 s.2.2.2.2.2.2.2.2.2.1 s.2.2.2.2.2.2.2.2.2.2.1 s.2.2.2.2.2.2.2.2.2.2.2.1 s.2.2.2.2.2.2.2.2.2.2.2.2.1 s.2.2.2.2.2.2.2.2.2.2.2.2.2.1 s.2.2.2.2.2.2.2.2.2.2.2.2.2.2 (fun r1 r2 r3 r4 r5 r6 r7 r8 => K (.tup [.agg [.sl 0, .sl 1, .sl 2, .sl 3], .agg [.int .i64 r1, .sl 4, .int .i64 r2], .bool r3]) [⟨true, .list .int r4⟩, ⟨true, .list .int r5⟩, ⟨true, .list .int r6⟩, ⟨true, .list .int r7⟩, ⟨true, .list .int r8⟩]) :=
  (segN_eq (by kernel_rfl) fun ts tm => (j96_27 K ts tm).trans (congrArg (fun c => TW PP 119 Γ96 H96 W96 0 c (endT PP 119 [.cell 4 27, .cell 5 29, .tmp 6] [.ag [.own .int, .own .int, .own .int, .own .int], .ag [.x, .own .int, .x], .bl] [] 0 K) ts tm) (sufC_split 3 2 6 rfl _))).trans (r96_4 s K)
theorem j96_4 (K : TV → TMem → Prop) (ts : TFrm) (tm : TMem) : (headT 0 H96_1000004 ts tm fun s => Mi_StepGc_c4 s.1 s.2.1 s.2.2.1 s.2.2.2.1 s.2.2.2.2.1 s.2.2.2.2.2.1 s.2.2.2.2.2.2.1 s.2.2.2.2.2.2.2.1 s.2.2.2.2.2.2.2.2.1 s.2.2.2.2.2.2.2.2.2.1 s.2.2.2.2.2.2.2.2.2.2.1 s.2.2.2.2.2.2.2.2.2.2.2.1 s.2.2.2.2.2.2.2.2.2.2.2.2.1 s.2.2.2.2.2.2.2.2.2.2.2.2.2.1 s.2.2.2.2.2.2.2.2.2.2.2.2.2.2 (fun r1 r2 r3 r4 r5 r6 r7 r8 => K (.tup [.agg [.sl 0, .sl 1, .sl 2, .sl 3], .agg [.int .i64 r1, .sl 4, .int .i64 r2], .bool r3]) [⟨true, .list .int r4⟩, ⟨true, .list .int r5⟩, ⟨true, .list .int r6⟩, ⟨true, .list .int r7⟩, ⟨true, .list .int r8⟩])) = TW PP 119 Γ96 H96 W96 0 (sufC 3 (bodyOf Tryz.f96)) (endT PP 119 [.cell 4 27, .cell 5 29, .tmp 6] [.ag [.own .int, .own .int, .own .int, .own .int], .ag [.x, .own .int, .x], .bl] [] 0 K) ts tm :=
  TW_seg (by kernel_rfl : regOf (sufC 3 (bodyOf Tryz.f96)) = some 4) (by kernel_rfl) (fun s => q96_4 s K) ts tm
theorem ea96 (p1 : List Int) (p2 : List Int) (p3 : List Int) (p4 : List Int) (p5 : Int) (p6 : List Int) (p7 : Int) (K : TV → TMem → Prop) : TWn PP 119 Γ96 H96 W96 0 3 (bodyOf Tryz.f96) (fun ts tm => headT 0 H96_1000004 ts tm fun s => Mi_StepGc_c4 s.1 s.2.1 s.2.2.1 s.2.2.2.1 s.2.2.2.2.1 s.2.2.2.2.2.1 s.2.2.2.2.2.2.1 s.2.2.2.2.2.2.2.1 s.2.2.2.2.2.2.2.2.1 s.2.2.2.2.2.2.2.2.2.1 s.2.2.2.2.2.2.2.2.2.2.1 s.2.2.2.2.2.2.2.2.2.2.2.1 s.2.2.2.2.2.2.2.2.2.2.2.2.1 s.2.2.2.2.2.2.2.2.2.2.2.2.2.1 s.2.2.2.2.2.2.2.2.2.2.2.2.2.2 (fun r1 r2 r3 r4 r5 r6 r7 r8 => K (.tup [.agg [.sl 0, .sl 1, .sl 2, .sl 3], .agg [.int .i64 r1, .sl 4, .int .i64 r2], .bool r3]) [⟨true, .list .int r4⟩, ⟨true, .list .int r5⟩, ⟨true, .list .int r6⟩, ⟨true, .list .int r7⟩, ⟨true, .list .int r8⟩])) (endT PP 119 [.cell 4 27, .cell 5 29, .tmp 6] [.ag [.own .int, .own .int, .own .int, .own .int], .ag [.x, .own .int, .x], .bl] [] 0 K) (argsF [.agg [.pl .int p1, .pl .int p2, .pl .int p3, .pl .int p4], .agg [.int .i64 p5, .pl .int p6, .int .i64 p7]]) [] =
    Mi_StepGc p1 p2 p3 p4 p5 p6 p7 (fun r1 r2 r3 r4 r5 r6 r7 r8 => K (.tup [.agg [.sl 0, .sl 1, .sl 2, .sl 3], .agg [.int .i64 r1, .sl 4, .int .i64 r2], .bool r3]) [⟨true, .list .int r4⟩, ⟨true, .list .int r5⟩, ⟨true, .list .int r6⟩, ⟨true, .list .int r7⟩, ⟨true, .list .int r8⟩]) := by kernel_rfl
theorem e96 (p1 : List Int) (p2 : List Int) (p3 : List Int) (p4 : List Int) (p5 : Int) (p6 : List Int) (p7 : Int) (K : TV → TMem → Prop) : TW PP 119 Γ96 H96 W96 (List.length ([] : TMem)) (bodyOf Tryz.f96) (endT PP 119 [.cell 4 27, .cell 5 29, .tmp 6] [.ag [.own .int, .own .int, .own .int, .own .int], .ag [.x, .own .int, .x], .bl] [] (List.length ([] : TMem)) K) (argsF [.agg [.pl .int p1, .pl .int p2, .pl .int p3, .pl .int p4], .agg [.int .i64 p5, .pl .int p6, .int .i64 p7]]) [] =
    Mi_StepGc p1 p2 p3 p4 p5 p6 p7 (fun r1 r2 r3 r4 r5 r6 r7 r8 => K (.tup [.agg [.sl 0, .sl 1, .sl 2, .sl 3], .agg [.int .i64 r1, .sl 4, .int .i64 r2], .bool r3]) [⟨true, .list .int r4⟩, ⟨true, .list .int r5⟩, ⟨true, .list .int r6⟩, ⟨true, .list .int r7⟩, ⟨true, .list .int r8⟩]) :=
  (congrFun (congrFun (TWn_eq 3 _ (by kernel_rfl) fun ts tm => j96_4 K ts tm) _) _).trans (ea96 p1 p2 p3 p4 p5 p6 p7 K)
theorem s96 : CSound PP 96 G96 := by
  intro args K c h fl A aargs hA hN R hl
  unfold G96 at h
  generalize ht : c.tm = tm at h
  revert h
  refine cA_in ?_; rintro l2_ r1_ rfl
  refine cP_in ?_; rintro p1 r3_ rfl
  refine cP_in ?_; rintro p2 r4_ rfl
  refine cP_in ?_; rintro p3 r5_ rfl
  refine cP_in ?_; rintro p4 r6_ rfl
  refine dN_in ?_; rintro rfl
  refine cA_in ?_; rintro l8_ r7_ rfl
  refine cI_in ?_; rintro p5 r9_ rfl
  refine cP_in ?_; rintro p6 r10_ rfl
  refine cI_in ?_; rintro p7 r11_ rfl
  refine dN_in ?_; rintro rfl
  refine dN_in ?_; rintro rfl
  refine dE_in ?_; rintro rfl
  intro h
  refine fun_ok (nt := 119) (x := bodyOf Tryz.f96) (Γ := Γ96) (H := H96) (WW := W96) (rs := [.cell 4 27, .cell 5 29, .tmp 6]) (shs := [.ag [.own .int, .own .int, .own .int, .own .int], .ag [.x, .own .int, .x], .bl]) (cons := []) mixed Tryz.func96 (by decide) (by kernel_rfl) Tryz.ntmps96 Tryz.results96 (.cons (useC_ok s94) (.cons (useC_ok s91) (.cons (useC_ok s47) (.cons (useC_ok s67) (.cons (useC_ok s92) (.cons (useC_ok s156) (.cons (useC_ok s157) (.cons (useC_ok (onlyC_ok s158)) (.cons (useC_ok s84) (GSound.nil)))))))))) ?_ hA hN R hl
  rw [ht, e96 p1 p2 p3 p4 p5 p6 p7 K]
  exact h
/-! impl.StepBoth -/
def G37 : Con := fun args tm K => cA args fun l2_ r1_ => cP .int l2_ fun p1 r3_ => cP .int r3_ fun p2 r4_ => cP .int r4_ fun p3 r5_ => cP .int r5_ fun p4 r6_ => cI .i64 r6_ fun p5 r7_ => cP .int r7_ fun p6 r8_ => cI .i64 r8_ fun p7 r9_ => cP .op r9_ fun p8 r10_ => cI .i64 r10_ fun p9 r11_ => cB r11_ fun p10 r12_ => dNil r12_ <| dNil r1_ <| dEnd tm <| Mi_StepBoth p1 p2 p3 p4 p5 p6 p7 p8 p9 p10 (fun r1 r2 r3 r4 r5 r6 r7 r8 r9 r10 r11 => K (.tup [.agg [.sl 0, .sl 1, .sl 2, .sl 3, .int .i64 r1, .sl 4, .int .i64 r2, .sl 5, .int .i64 r3, .bool r4], .bool r5]) [⟨true, .list .int r6⟩, ⟨true, .list .int r7⟩, ⟨true, .list .int r8⟩, ⟨true, .list .int r9⟩, ⟨true, .list .int r10⟩, ⟨true, .list .op r11⟩])
def H37 : List (Nat × LH) := []
def W37 : List (Nat × List (Nat × List Nat)) := []
def Γ37 : List (Nat × Con) := [(34, useC [.ag [.pure .int, .pure .int, .pure .int, .pure .int, .x, .pure .int, .x, .pure .op, .x, .bl]] G34), (35, useC [.ag [.pure .int, .pure .int, .pure .int, .pure .int, .x, .pure .int, .x, .pure .op, .x, .bl]] G35), (94, useC [.ag [.pure .int, .pure .int, .pure .int, .pure .int], .ag [.x, .pure .int, .x]] G94), (95, useC [.ag [.pure .int, .pure .int, .pure .int]] G95), (96, useC [.ag [.pure .int, .pure .int, .pure .int, .pure .int], .ag [.x, .pure .int, .x]] G96)]
theorem e37 (p1 : List Int) (p2 : List Int) (p3 : List Int) (p4 : List Int) (p5 : Int) (p6 : List Int) (p7 : Int) (p8 : List OpV) (p9 : Int) (p10 : Bool) (K : TV → TMem → Prop) : TW PP 45 Γ37 H37 W37 (List.length ([] : TMem)) (bodyOf Tryz.f37) (endT PP 45 [.cell 2 32, .tmp 3] [.ag [.own .int, .own .int, .own .int, .own .int, .x, .own .int, .x, .own .op, .x, .bl], .bl] [] (List.length ([] : TMem)) K) (argsF [.agg [.pl .int p1, .pl .int p2, .pl .int p3, .pl .int p4, .int .i64 p5, .pl .int p6, .int .i64 p7, .pl .op p8, .int .i64 p9, .bool p10]]) [] =
    Mi_StepBoth p1 p2 p3 p4 p5 p6 p7 p8 p9 p10 (fun r1 r2 r3 r4 r5 r6 r7 r8 r9 r10 r11 => K (.tup [.agg [.sl 0, .sl 1, .sl 2, .sl 3, .int .i64 r1, .sl 4, .int .i64 r2, .sl 5, .int .i64 r3, .bool r4], .bool r5]) [⟨true, .list .int r6⟩, ⟨true, .list .int r7⟩, ⟨true, .list .int r8⟩, ⟨true, .list .int r9⟩, ⟨true, .list .int r10⟩, ⟨true, .list .op r11⟩]) := by kernel_rfl
theorem s37 : CSound PP 37 G37 := by
  intro args K c h fl A aargs hA hN R hl
  unfold G37 at h
  generalize ht : c.tm = tm at h
  revert h
  refine cA_in ?_; rintro l2_ r1_ rfl
  refine cP_in ?_; rintro p1 r3_ rfl
  refine cP_in ?_; rintro p2 r4_ rfl
  refine cP_in ?_; rintro p3 r5_ rfl
  refine cP_in ?_; rintro p4 r6_ rfl
  refine cI_in ?_; rintro p5 r7_ rfl
  refine cP_in ?_; rintro p6 r8_ rfl
  refine cI_in ?_; rintro p7 r9_ rfl
  refine cP_in ?_; rintro p8 r10_ rfl
  refine cI_in ?_; rintro p9 r11_ rfl
  refine cB_in ?_; rintro p10 r12_ rfl
  refine dN_in ?_; rintro rfl
  refine dN_in ?_; rintro rfl
  refine dE_in ?_; rintro rfl
  intro h
  refine fun_ok (nt := 45) (x := bodyOf Tryz.f37) (Γ := Γ37) (H := H37) (WW := W37) (rs := [.cell 2 32, .tmp 3]) (shs := [.ag [.own .int, .own .int, .own .int, .own .int, .x, .own .int, .x, .own .op, .x, .bl], .bl]) (cons := []) mixed Tryz.func37 (by decide) (by kernel_rfl) Tryz.ntmps37 Tryz.results37 (.cons (useC_ok s34) (.cons (useC_ok s35) (.cons (useC_ok s94) (.cons (useC_ok s95) (.cons (useC_ok s96) (GSound.nil)))))) ?_ hA hN R hl
  rw [ht, e37 p1 p2 p3 p4 p5 p6 p7 p8 p9 p10 K]
  exact h
/-! slices.Equal[[]int,int] -/
def G71 : Con := fun args tm K => cP .int args fun p1 r1_ => cP .int r1_ fun p2 r2_ => dNil r2_ <| dEnd tm <| M_Equal_int p1 p2 (fun r1 => K (.bool r1) [])
def H71_0 : LH where
  keep := [(0, .pure .int), (1, .pure .int), (12, .x), (13, .x)]
  S := List Int × List Int × Int × Int
  enc := fun s => ([.pl .int s.1, .pl .int s.2.1, .int .i64 s.2.2.1, .int .i64 s.2.2.2], [])
  dec := fun vs tm K => cP .int vs fun q0 r1_ => cP .int r1_ fun q1 r2_ => cI .i64 r2_ fun q2 r3_ => cI .i64 r3_ fun q3 r4_ => dNil r4_ <| dEnd tm <| K (q0, q1, q2, q3)
  law := by
    intro vs tm K
    refine cP_in ?_; rintro q0 r1_ rfl
    refine cP_in ?_; rintro q1 r2_ rfl
    refine cI_in ?_; rintro q2 r3_ rfl
    refine cI_in ?_; rintro q3 r4_ rfl
    refine dN_in ?_; rintro rfl
    refine dE_in ?_; rintro rfl
    exact fun h => ⟨(q0, q1, q2, q3), rfl, h⟩
def H71 : List (Nat × LH) := [(0, H71_0)]
def W71 : List (Nat × List (Nat × List Nat)) := []
def Γ71 : List (Nat × Con) := []
theorem e71 (p1 : List Int) (p2 : List Int) (K : TV → TMem → Prop) : TW PP 26 Γ71 H71 W71 (List.length ([] : TMem)) (bodyOf Tryz.f71) (endT PP 26 [.tmp 4] [.bl] [] (List.length ([] : TMem)) K) (argsF [.pl .int p1, .pl .int p2]) [] =
    M_Equal_int p1 p2 (fun r1 => K (.bool r1) []) := by kernel_rfl
theorem s71 : CSound PP 71 G71 := by
  intro args K c h fl A aargs hA hN R hl
  unfold G71 at h
  generalize ht : c.tm = tm at h
  revert h
  refine cP_in ?_; rintro p1 r1_ rfl
  refine cP_in ?_; rintro p2 r2_ rfl
  refine dN_in ?_; rintro rfl
  refine dE_in ?_; rintro rfl
  intro h
  refine fun_ok (nt := 26) (x := bodyOf Tryz.f71) (Γ := Γ71) (H := H71) (WW := W71) (rs := [.tmp 4]) (shs := [.bl]) (cons := []) mixed Tryz.func71 (by decide) (by kernel_rfl) Tryz.ntmps71 Tryz.results71 (GSound.nil) ?_ hA hN R hl
  rw [ht, e71 p1 p2 K]
  exact h
/-! impl.HeapSame -/
def G108 : Con := fun args tm K => cA args fun l2_ r1_ => cP .int l2_ fun p1 r3_ => cP .int r3_ fun p2 r4_ => cP .int r4_ fun p3 r5_ => dNil r5_ <| cA r1_ fun l7_ r6_ => cP .int l7_ fun p4 r8_ => cP .int r8_ fun p5 r9_ => cP .int r9_ fun p6 r10_ => dNil r10_ <| dNil r6_ <| dEnd tm <| Mi_HeapSame p1 p2 p3 p4 p5 p6 (fun r1 => K (.bool r1) [])
def H108 : List (Nat × LH) := []
def W108 : List (Nat × List (Nat × List Nat)) := []
def Γ108 : List (Nat × Con) := [(71, useC [.pure .int, .pure .int] G71)]
theorem e108 (p1 : List Int) (p2 : List Int) (p3 : List Int) (p4 : List Int) (p5 : List Int) (p6 : List Int) (K : TV → TMem → Prop) : TW PP 24 Γ108 H108 W108 (List.length ([] : TMem)) (bodyOf Tryz.f108) (endT PP 24 [.tmp 4] [.bl] [] (List.length ([] : TMem)) K) (argsF [.agg [.pl .int p1, .pl .int p2, .pl .int p3], .agg [.pl .int p4, .pl .int p5, .pl .int p6]]) [] =
    Mi_HeapSame p1 p2 p3 p4 p5 p6 (fun r1 => K (.bool r1) []) := by kernel_rfl
theorem s108 : CSound PP 108 G108 := by
  intro args K c h fl A aargs hA hN R hl
  unfold G108 at h
  generalize ht : c.tm = tm at h
  revert h
  refine cA_in ?_; rintro l2_ r1_ rfl
  refine cP_in ?_; rintro p1 r3_ rfl
  refine cP_in ?_; rintro p2 r4_ rfl
  refine cP_in ?_; rintro p3 r5_ rfl
  refine dN_in ?_; rintro rfl
  refine cA_in ?_; rintro l7_ r6_ rfl
  refine cP_in ?_; rintro p4 r8_ rfl
  refine cP_in ?_; rintro p5 r9_ rfl
  refine cP_in ?_; rintro p6 r10_ rfl
  refine dN_in ?_; rintro rfl
  refine dN_in ?_; rintro rfl
  refine dE_in ?_; rintro rfl
  intro h
  refine fun_ok (nt := 24) (x := bodyOf Tryz.f108) (Γ := Γ108) (H := H108) (WW := W108) (rs := [.tmp 4]) (shs := [.bl]) (cons := []) mixed Tryz.func108 (by decide) (by kernel_rfl) Tryz.ntmps108 Tryz.results108 (.cons (useC_ok s71) (GSound.nil)) ?_ hA hN R hl
  rw [ht, e108 p1 p2 p3 p4 p5 p6 K]
  exact h
/-! impl.StoreSame -/
def G42 : Con := fun args tm K => cA args fun l2_ r1_ => cP .int l2_ fun p1 r3_ => cP .int r3_ fun p2 r4_ => cP .int r4_ fun p3 r5_ => cP .int r5_ fun p4 r6_ => dNil r6_ <| cA r1_ fun l8_ r7_ => cP .int l8_ fun p5 r9_ => cP .int r9_ fun p6 r10_ => cP .int r10_ fun p7 r11_ => cP .int r11_ fun p8 r12_ => dNil r12_ <| dNil r7_ <| dEnd tm <| Mi_StoreSame p1 p2 p3 p4 p5 p6 p7 p8 (fun r1 => K (.bool r1) [])
def H42 : List (Nat × LH) := []
def W42 : List (Nat × List (Nat × List Nat)) := []
def Γ42 : List (Nat × Con) := [(108, useC [.ag [.pure .int, .pure .int, .pure .int], .ag [.pure .int, .pure .int, .pure .int]] G108), (71, useC [.pure .int, .pure .int] G71)]
theorem e42 (p1 : List Int) (p2 : List Int) (p3 : List Int) (p4 : List Int) (p5 : List Int) (p6 : List Int) (p7 : List Int) (p8 : List Int) (K : TV → TMem → Prop) : TW PP 17 Γ42 H42 W42 (List.length ([] : TMem)) (bodyOf Tryz.f42) (endT PP 17 [.tmp 4] [.bl] [] (List.length ([] : TMem)) K) (argsF [.agg [.pl .int p1, .pl .int p2, .pl .int p3, .pl .int p4], .agg [.pl .int p5, .pl .int p6, .pl .int p7, .pl .int p8]]) [] =
    Mi_StoreSame p1 p2 p3 p4 p5 p6 p7 p8 (fun r1 => K (.bool r1) []) := by kernel_rfl
theorem s42 : CSound PP 42 G42 := by
  intro args K c h fl A aargs hA hN R hl
  unfold G42 at h
  generalize ht : c.tm = tm at h
  revert h
  refine cA_in ?_; rintro l2_ r1_ rfl
  refine cP_in ?_; rintro p1 r3_ rfl
  refine cP_in ?_; rintro p2 r4_ rfl
  refine cP_in ?_; rintro p3 r5_ rfl
  refine cP_in ?_; rintro p4 r6_ rfl
  refine dN_in ?_; rintro rfl
  refine cA_in ?_; rintro l8_ r7_ rfl
  refine cP_in ?_; rintro p5 r9_ rfl
  refine cP_in ?_; rintro p6 r10_ rfl
  refine cP_in ?_; rintro p7 r11_ rfl
  refine cP_in ?_; rintro p8 r12_ rfl
  refine dN_in ?_; rintro rfl
  refine dN_in ?_; rintro rfl
  refine dE_in ?_; rintro rfl
  intro h
  refine fun_ok (nt := 17) (x := bodyOf Tryz.f42) (Γ := Γ42) (H := H42) (WW := W42) (rs := [.tmp 4]) (shs := [.bl]) (cons := []) mixed Tryz.func42 (by decide) (by kernel_rfl) Tryz.ntmps42 Tryz.results42 (.cons (useC_ok s108) (.cons (useC_ok s71) (GSound.nil))) ?_ hA hN R hl
  rw [ht, e42 p1 p2 p3 p4 p5 p6 p7 p8 K]
  exact h
/-! impl.GcSame -/
def G43 : Con := fun args tm K => cA args fun l2_ r1_ => cI .i64 l2_ fun p1 r3_ => cP .int r3_ fun p2 r4_ => cI .i64 r4_ fun p3 r5_ => dNil r5_ <| cA r1_ fun l7_ r6_ => cI .i64 l7_ fun p4 r8_ => cP .int r8_ fun p5 r9_ => cI .i64 r9_ fun p6 r10_ => dNil r10_ <| dNil r6_ <| dEnd tm <| Mi_GcSame p1 p2 p3 p4 p5 p6 (fun r1 => K (.bool r1) [])
def H43 : List (Nat × LH) := []
def W43 : List (Nat × List (Nat × List Nat)) := []
def Γ43 : List (Nat × Con) := [(71, useC [.pure .int, .pure .int] G71)]
theorem e43 (p1 : Int) (p2 : List Int) (p3 : Int) (p4 : Int) (p5 : List Int) (p6 : Int) (K : TV → TMem → Prop) : TW PP 24 Γ43 H43 W43 (List.length ([] : TMem)) (bodyOf Tryz.f43) (endT PP 24 [.tmp 4] [.bl] [] (List.length ([] : TMem)) K) (argsF [.agg [.int .i64 p1, .pl .int p2, .int .i64 p3], .agg [.int .i64 p4, .pl .int p5, .int .i64 p6]]) [] =
    Mi_GcSame p1 p2 p3 p4 p5 p6 (fun r1 => K (.bool r1) []) := by kernel_rfl
theorem s43 : CSound PP 43 G43 := by
  intro args K c h fl A aargs hA hN R hl
  unfold G43 at h
  generalize ht : c.tm = tm at h
  revert h
  refine cA_in ?_; rintro l2_ r1_ rfl
  refine cI_in ?_; rintro p1 r3_ rfl
  refine cP_in ?_; rintro p2 r4_ rfl
  refine cI_in ?_; rintro p3 r5_ rfl
  refine dN_in ?_; rintro rfl
  refine cA_in ?_; rintro l7_ r6_ rfl
  refine cI_in ?_; rintro p4 r8_ rfl
  refine cP_in ?_; rintro p5 r9_ rfl
  refine cI_in ?_; rintro p6 r10_ rfl
  refine dN_in ?_; rintro rfl
  refine dN_in ?_; rintro rfl
  refine dE_in ?_; rintro rfl
  intro h
  refine fun_ok (nt := 24) (x := bodyOf Tryz.f43) (Γ := Γ43) (H := H43) (WW := W43) (rs := [.tmp 4]) (shs := [.bl]) (cons := []) mixed Tryz.func43 (by decide) (by kernel_rfl) Tryz.ntmps43 Tryz.results43 (.cons (useC_ok s71) (GSound.nil)) ?_ hA hN R hl
  rw [ht, e43 p1 p2 p3 p4 p5 p6 K]
  exact h
/-! slices.Equal[[]impl.Op,impl.Op] -/
def G44 : Con := fun args tm K => cP .op args fun p1 r1_ => cP .op r1_ fun p2 r2_ => dNil r2_ <| dEnd tm <| M_Equal_Op p1 p2 (fun r1 => K (.bool r1) [])
def H44_0 : LH where
  keep := [(0, .pure .op), (1, .pure .op), (12, .x), (13, .x)]
  S := List OpV × List OpV × Int × Int
  enc := fun s => ([.pl .op s.1, .pl .op s.2.1, .int .i64 s.2.2.1, .int .i64 s.2.2.2], [])
  dec := fun vs tm K => cP .op vs fun q0 r1_ => cP .op r1_ fun q1 r2_ => cI .i64 r2_ fun q2 r3_ => cI .i64 r3_ fun q3 r4_ => dNil r4_ <| dEnd tm <| K (q0, q1, q2, q3)
  law := by
    intro vs tm K
    refine cP_in ?_; rintro q0 r1_ rfl
    refine cP_in ?_; rintro q1 r2_ rfl
    refine cI_in ?_; rintro q2 r3_ rfl
    refine cI_in ?_; rintro q3 r4_ rfl
    refine dN_in ?_; rintro rfl
    refine dE_in ?_; rintro rfl
    exact fun h => ⟨(q0, q1, q2, q3), rfl, h⟩
def H44 : List (Nat × LH) := [(0, H44_0)]
def W44 : List (Nat × List (Nat × List Nat)) := []
def Γ44 : List (Nat × Con) := []
theorem e44 (p1 : List OpV) (p2 : List OpV) (K : TV → TMem → Prop) : TW PP 26 Γ44 H44 W44 (List.length ([] : TMem)) (bodyOf Tryz.f44) (endT PP 26 [.tmp 4] [.bl] [] (List.length ([] : TMem)) K) (argsF [.pl .op p1, .pl .op p2]) [] =
    M_Equal_Op p1 p2 (fun r1 => K (.bool r1) []) := by kernel_rfl
theorem s44 : CSound PP 44 G44 := by
  intro args K c h fl A aargs hA hN R hl
  unfold G44 at h
  generalize ht : c.tm = tm at h
  revert h
  refine cP_in ?_; rintro p1 r1_ rfl
  refine cP_in ?_; rintro p2 r2_ rfl
  refine dN_in ?_; rintro rfl
  refine dE_in ?_; rintro rfl
  intro h
  refine fun_ok (nt := 26) (x := bodyOf Tryz.f44) (Γ := Γ44) (H := H44) (WW := W44) (rs := [.tmp 4]) (shs := [.bl]) (cons := []) mixed Tryz.func44 (by decide) (by kernel_rfl) Tryz.ntmps44 Tryz.results44 (GSound.nil) ?_ hA hN R hl
  rw [ht, e44 p1 p2 K]
  exact h
/-! impl.BothSame -/
def G10 : Con := fun args tm K => cA args fun l2_ r1_ => cP .int l2_ fun p1 r3_ => cP .int r3_ fun p2 r4_ => cP .int r4_ fun p3 r5_ => cP .int r5_ fun p4 r6_ => cI .i64 r6_ fun p5 r7_ => cP .int r7_ fun p6 r8_ => cI .i64 r8_ fun p7 r9_ => cP .op r9_ fun p8 r10_ => cI .i64 r10_ fun p9 r11_ => cB r11_ fun p10 r12_ => dNil r12_ <| cA r1_ fun l14_ r13_ => cP .int l14_ fun p11 r15_ => cP .int r15_ fun p12 r16_ => cP .int r16_ fun p13 r17_ => cP .int r17_ fun p14 r18_ => cI .i64 r18_ fun p15 r19_ => cP .int r19_ fun p16 r20_ => cI .i64 r20_ fun p17 r21_ => cP .op r21_ fun p18 r22_ => cI .i64 r22_ fun p19 r23_ => cB r23_ fun p20 r24_ => dNil r24_ <| dNil r13_ <| dEnd tm <| Mi_BothSame p1 p2 p3 p4 p5 p6 p7 p8 p9 p10 p11 p12 p13 p14 p15 p16 p17 p18 p19 p20 (fun r1 => K (.bool r1) [])
def H10 : List (Nat × LH) := []
def W10 : List (Nat × List (Nat × List Nat)) := []
def Γ10 : List (Nat × Con) := [(42, useC [.ag [.pure .int, .pure .int, .pure .int, .pure .int], .ag [.pure .int, .pure .int, .pure .int, .pure .int]] G42), (43, useC [.ag [.x, .pure .int, .x], .ag [.x, .pure .int, .x]] G43), (44, useC [.pure .op, .pure .op] G44)]
theorem e10 (p1 : List Int) (p2 : List Int) (p3 : List Int) (p4 : List Int) (p5 : Int) (p6 : List Int) (p7 : Int) (p8 : List OpV) (p9 : Int) (p10 : Bool) (p11 : List Int) (p12 : List Int) (p13 : List Int) (p14 : List Int) (p15 : Int) (p16 : List Int) (p17 : Int) (p18 : List OpV) (p19 : Int) (p20 : Bool) (K : TV → TMem → Prop) : TW PP 38 Γ10 H10 W10 (List.length ([] : TMem)) (bodyOf Tryz.f10) (endT PP 38 [.tmp 4] [.bl] [] (List.length ([] : TMem)) K) (argsF [.agg [.pl .int p1, .pl .int p2, .pl .int p3, .pl .int p4, .int .i64 p5, .pl .int p6, .int .i64 p7, .pl .op p8, .int .i64 p9, .bool p10], .agg [.pl .int p11, .pl .int p12, .pl .int p13, .pl .int p14, .int .i64 p15, .pl .int p16, .int .i64 p17, .pl .op p18, .int .i64 p19, .bool p20]]) [] =
    Mi_BothSame p1 p2 p3 p4 p5 p6 p7 p8 p9 p10 p11 p12 p13 p14 p15 p16 p17 p18 p19 p20 (fun r1 => K (.bool r1) []) := by kernel_rfl
theorem s10 : CSound PP 10 G10 := by
  intro args K c h fl A aargs hA hN R hl
  unfold G10 at h
  generalize ht : c.tm = tm at h
  revert h
  refine cA_in ?_; rintro l2_ r1_ rfl
  refine cP_in ?_; rintro p1 r3_ rfl
  refine cP_in ?_; rintro p2 r4_ rfl
  refine cP_in ?_; rintro p3 r5_ rfl
  refine cP_in ?_; rintro p4 r6_ rfl
  refine cI_in ?_; rintro p5 r7_ rfl
  refine cP_in ?_; rintro p6 r8_ rfl
  refine cI_in ?_; rintro p7 r9_ rfl
  refine cP_in ?_; rintro p8 r10_ rfl
  refine cI_in ?_; rintro p9 r11_ rfl
  refine cB_in ?_; rintro p10 r12_ rfl
  refine dN_in ?_; rintro rfl
  refine cA_in ?_; rintro l14_ r13_ rfl
  refine cP_in ?_; rintro p11 r15_ rfl
  refine cP_in ?_; rintro p12 r16_ rfl
  refine cP_in ?_; rintro p13 r17_ rfl
  refine cP_in ?_; rintro p14 r18_ rfl
  refine cI_in ?_; rintro p15 r19_ rfl
  refine cP_in ?_; rintro p16 r20_ rfl
  refine cI_in ?_; rintro p17 r21_ rfl
  refine cP_in ?_; rintro p18 r22_ rfl
  refine cI_in ?_; rintro p19 r23_ rfl
  refine cB_in ?_; rintro p20 r24_ rfl
  refine dN_in ?_; rintro rfl
  refine dN_in ?_; rintro rfl
  refine dE_in ?_; rintro rfl
  intro h
  refine fun_ok (nt := 38) (x := bodyOf Tryz.f10) (Γ := Γ10) (H := H10) (WW := W10) (rs := [.tmp 4]) (shs := [.bl]) (cons := []) mixed Tryz.func10 (by decide) (by kernel_rfl) Tryz.ntmps10 Tryz.results10 (.cons (useC_ok s42) (.cons (useC_ok s43) (.cons (useC_ok s44) (GSound.nil)))) ?_ hA hN R hl
  rw [ht, e10 p1 p2 p3 p4 p5 p6 p7 p8 p9 p10 p11 p12 p13 p14 p15 p16 p17 p18 p19 p20 K]
  exact h
theorem enters48 : Enters PP 48 := ⟨_, Tryz.func48, by decide, rfl⟩
def G48 : Con := conSS M_strings_Trim
theorem s48 : CSound PP 48 G48 := conSS_ok enters48 fun s cut w h => by
  have hc := Go.Proofs.Any.strings_Trim_laid Tryz.lays160 (by kernel_rfl) s cut w (by simpa using h.1) (by simpa using h.2.1) (Go.Proofs.ascii_of_all h.2.2)
  change Calls PP 48 _ _ _ at hc
  exact hc
/-! impl.RunBoth -/
def G12 : Con := fun args tm K => cA args fun l2_ r1_ => cP .int l2_ fun p1 r3_ => cP .int r3_ fun p2 r4_ => cP .int r4_ fun p3 r5_ => cP .int r5_ fun p4 r6_ => cI .i64 r6_ fun p5 r7_ => cP .int r7_ fun p6 r8_ => cI .i64 r8_ fun p7 r9_ => cP .op r9_ fun p8 r10_ => cI .i64 r10_ fun p9 r11_ => cB r11_ fun p10 r12_ => dNil r12_ <| cS r1_ fun p11 r13_ => cB r13_ fun p12 r14_ => dNil r14_ <| dEnd tm <| Mi_RunBoth p1 p2 p3 p4 p5 p6 p7 p8 p9 p10 p11 p12 (fun r1 r2 r3 r4 r5 r6 r7 r8 r9 r10 r11 => K (.tup [.agg [.sl 0, .sl 1, .sl 2, .sl 3, .int .i64 r1, .sl 4, .int .i64 r2, .sl 5, .int .i64 r3, .bool r4], .bool r5]) [⟨true, .list .int r6⟩, ⟨true, .list .int r7⟩, ⟨true, .list .int r8⟩, ⟨true, .list .int r9⟩, ⟨true, .list .int r10⟩, ⟨true, .list .op r11⟩])
def H12_0 : LH where
  keep := [(1, .x), (2, .bl), (3, .pc [.own .int, .own .int, .own .int, .own .int, .x, .own .int, .x, .own .op, .x, .bl]), (6, .pc [.own .int, .own .int, .own .int, .own .int, .x, .own .int, .x, .own .op, .x, .bl]), (28, .x), (29, .x)]
  S := List UInt8 × Bool × Int × Int × Int × Int × Int × Bool × Int × Int × Int × Bool × List Int × List Int × List Int × List Int × List Int × List OpV × List Int × List Int × List Int × List Int × List Int × List OpV
  enc := fun s => ([.str s.1, .bool s.2.1, .ptr 0 0, .ptr 1 0, .int .i64 s.2.2.1, .int .i64 s.2.2.2.1], [⟨true, .cells [.sl 2, .sl 3, .sl 4, .sl 5, .int .i64 s.2.2.2.2.1, .sl 6, .int .i64 s.2.2.2.2.2.1, .sl 7, .int .i64 s.2.2.2.2.2.2.1, .bool s.2.2.2.2.2.2.2.1]⟩, ⟨true, .cells [.sl 8, .sl 9, .sl 10, .sl 11, .int .i64 s.2.2.2.2.2.2.2.2.1, .sl 12, .int .i64 s.2.2.2.2.2.2.2.2.2.1, .sl 13, .int .i64 s.2.2.2.2.2.2.2.2.2.2.1, .bool s.2.2.2.2.2.2.2.2.2.2.2.1]⟩, ⟨true, .list .int s.2.2.2.2.2.2.2.2.2.2.2.2.1⟩, ⟨true, .list .int s.2.2.2.2.2.2.2.2.2.2.2.2.2.1⟩, ⟨true, .list .int s.2.2.2.2.2.2.2.2.2.2.2.2.2.2.1⟩, ⟨true, .list .int s.2.2.2.2.2.2.2.2.2.2.2.2.2.2.2.1⟩, ⟨true, .list .int s.2.2.2.2.2.2.2.2.2.2.2.2.2.2.2.2.1⟩, ⟨true, .list .op s.2.2.2.2.2.2.2.2.2.2.2.2.2.2.2.2.2.1⟩, ⟨true, .list .int s.2.2.2.2.2.2.2.2.2.2.2.2.2.2.2.2.2.2.1⟩, ⟨true, .list .int s.2.2.2.2.2.2.2.2.2.2.2.2.2.2.2.2.2.2.2.1⟩, ⟨true, .list .int s.2.2.2.2.2.2.2.2.2.2.2.2.2.2.2.2.2.2.2.2.1⟩, ⟨true, .list .int s.2.2.2.2.2.2.2.2.2.2.2.2.2.2.2.2.2.2.2.2.2.1⟩, ⟨true, .list .int s.2.2.2.2.2.2.2.2.2.2.2.2.2.2.2.2.2.2.2.2.2.2.1⟩, ⟨true, .list .op s.2.2.2.2.2.2.2.2.2.2.2.2.2.2.2.2.2.2.2.2.2.2.2⟩])
  dec := fun vs tm K => cS vs fun q0 r1_ => cB r1_ fun q1 r2_ => cQ 0 r2_ fun r3_ => cQ 1 r3_ fun r4_ => cI .i64 r4_ fun q2 r5_ => cI .i64 r5_ fun q3 r6_ => dNil r6_ <| bC true tm fun c8_ m7_ => cL 2 c8_ fun r9_ => cL 3 r9_ fun r10_ => cL 4 r10_ fun r11_ => cL 5 r11_ fun r12_ => cI .i64 r12_ fun q4 r13_ => cL 6 r13_ fun r14_ => cI .i64 r14_ fun q5 r15_ => cL 7 r15_ fun r16_ => cI .i64 r16_ fun q6 r17_ => cB r17_ fun q7 r18_ => dNil r18_ <| bC true m7_ fun c20_ m19_ => cL 8 c20_ fun r21_ => cL 9 r21_ fun r22_ => cL 10 r22_ fun r23_ => cL 11 r23_ fun r24_ => cI .i64 r24_ fun q8 r25_ => cL 12 r25_ fun r26_ => cI .i64 r26_ fun q9 r27_ => cL 13 r27_ fun r28_ => cI .i64 r28_ fun q10 r29_ => cB r29_ fun q11 r30_ => dNil r30_ <| bL true .int m19_ fun q12 m31_ => bL true .int m31_ fun q13 m32_ => bL true .int m32_ fun q14 m33_ => bL true .int m33_ fun q15 m34_ => bL true .int m34_ fun q16 m35_ => bL true .op m35_ fun q17 m36_ => bL true .int m36_ fun q18 m37_ => bL true .int m37_ fun q19 m38_ => bL true .int m38_ fun q20 m39_ => bL true .int m39_ fun q21 m40_ => bL true .int m40_ fun q22 m41_ => bL true .op m41_ fun q23 m42_ => dEnd m42_ <| K (q0, q1, q2, q3, q4, q5, q6, q7, q8, q9, q10, q11, q12, q13, q14, q15, q16, q17, q18, q19, q20, q21, q22, q23)
  law := by
    intro vs tm K
    refine cS_in ?_; rintro q0 r1_ rfl
    refine cB_in ?_; rintro q1 r2_ rfl
    refine cQ_in ?_; rintro r3_ rfl
    refine cQ_in ?_; rintro r4_ rfl
    refine cI_in ?_; rintro q2 r5_ rfl
    refine cI_in ?_; rintro q3 r6_ rfl
    refine dN_in ?_; rintro rfl
    refine bC_in ?_; rintro c8_ m7_ rfl
    refine cL_in ?_; rintro r9_ rfl
    refine cL_in ?_; rintro r10_ rfl
    refine cL_in ?_; rintro r11_ rfl
    refine cL_in ?_; rintro r12_ rfl
    refine cI_in ?_; rintro q4 r13_ rfl
    refine cL_in ?_; rintro r14_ rfl
    refine cI_in ?_; rintro q5 r15_ rfl
    refine cL_in ?_; rintro r16_ rfl
    refine cI_in ?_; rintro q6 r17_ rfl
    refine cB_in ?_; rintro q7 r18_ rfl
    refine dN_in ?_; rintro rfl
    refine bC_in ?_; rintro c20_ m19_ rfl
    refine cL_in ?_; rintro r21_ rfl
    refine cL_in ?_; rintro r22_ rfl
    refine cL_in ?_; rintro r23_ rfl
    refine cL_in ?_; rintro r24_ rfl
    refine cI_in ?_; rintro q8 r25_ rfl
    refine cL_in ?_; rintro r26_ rfl
    refine cI_in ?_; rintro q9 r27_ rfl
    refine cL_in ?_; rintro r28_ rfl
    refine cI_in ?_; rintro q10 r29_ rfl
    refine cB_in ?_; rintro q11 r30_ rfl
    refine dN_in ?_; rintro rfl
    refine bL_in ?_; rintro q12 m31_ rfl
    refine bL_in ?_; rintro q13 m32_ rfl
    refine bL_in ?_; rintro q14 m33_ rfl
    refine bL_in ?_; rintro q15 m34_ rfl
    refine bL_in ?_; rintro q16 m35_ rfl
    refine bL_in ?_; rintro q17 m36_ rfl
    refine bL_in ?_; rintro q18 m37_ rfl
    refine bL_in ?_; rintro q19 m38_ rfl
    refine bL_in ?_; rintro q20 m39_ rfl
    refine bL_in ?_; rintro q21 m40_ rfl
    refine bL_in ?_; rintro q22 m41_ rfl
    refine bL_in ?_; rintro q23 m42_ rfl
    refine dE_in ?_; rintro rfl
    exact fun h => ⟨(q0, q1, q2, q3, q4, q5, q6, q7, q8, q9, q10, q11, q12, q13, q14, q15, q16, q17, q18, q19, q20, q21, q22, q23), rfl, h⟩
def H12 : List (Nat × LH) := [(0, H12_0)]
def W12 : List (Nat × List (Nat × List Nat)) := []
def Γ12 : List (Nat × Con) := [(34, useC [.ag [.pure .int, .pure .int, .pure .int, .pure .int, .x, .pure .int, .x, .pure .op, .x, .bl]] G34), (48, useC [.x, .x] G48), (35, useC [.ag [.pure .int, .pure .int, .pure .int, .pure .int, .x, .pure .int, .x, .pure .op, .x, .bl]] G35), (36, useC [.ag [.pure .int, .pure .int, .pure .int, .pure .int, .x, .pure .int, .x, .pure .op, .x, .bl], .bl] G36), (37, useC [.ag [.pure .int, .pure .int, .pure .int, .pure .int, .x, .pure .int, .x, .pure .op, .x, .bl]] G37)]
theorem e12 (p1 : List Int) (p2 : List Int) (p3 : List Int) (p4 : List Int) (p5 : Int) (p6 : List Int) (p7 : Int) (p8 : List OpV) (p9 : Int) (p10 : Bool) (p11 : List UInt8) (p12 : Bool) (K : TV → TMem → Prop) : TW PP 52 Γ12 H12 W12 (List.length ([] : TMem)) (bodyOf Tryz.f12) (endT PP 52 [.cell 6 32, .tmp 7] [.ag [.own .int, .own .int, .own .int, .own .int, .x, .own .int, .x, .own .op, .x, .bl], .bl] [] (List.length ([] : TMem)) K) (argsF [.agg [.pl .int p1, .pl .int p2, .pl .int p3, .pl .int p4, .int .i64 p5, .pl .int p6, .int .i64 p7, .pl .op p8, .int .i64 p9, .bool p10], .str p11, .bool p12]) [] =
    Mi_RunBoth p1 p2 p3 p4 p5 p6 p7 p8 p9 p10 p11 p12 (fun r1 r2 r3 r4 r5 r6 r7 r8 r9 r10 r11 => K (.tup [.agg [.sl 0, .sl 1, .sl 2, .sl 3, .int .i64 r1, .sl 4, .int .i64 r2, .sl 5, .int .i64 r3, .bool r4], .bool r5]) [⟨true, .list .int r6⟩, ⟨true, .list .int r7⟩, ⟨true, .list .int r8⟩, ⟨true, .list .int r9⟩, ⟨true, .list .int r10⟩, ⟨true, .list .op r11⟩]) := by kernel_rfl
theorem s12 : CSound PP 12 G12 := by
  intro args K c h fl A aargs hA hN R hl
  unfold G12 at h
  generalize ht : c.tm = tm at h
  revert h
  refine cA_in ?_; rintro l2_ r1_ rfl
  refine cP_in ?_; rintro p1 r3_ rfl
  refine cP_in ?_; rintro p2 r4_ rfl
  refine cP_in ?_; rintro p3 r5_ rfl
  refine cP_in ?_; rintro p4 r6_ rfl
  refine cI_in ?_; rintro p5 r7_ rfl
  refine cP_in ?_; rintro p6 r8_ rfl
  refine cI_in ?_; rintro p7 r9_ rfl
  refine cP_in ?_; rintro p8 r10_ rfl
  refine cI_in ?_; rintro p9 r11_ rfl
  refine cB_in ?_; rintro p10 r12_ rfl
  refine dN_in ?_; rintro rfl
  refine cS_in ?_; rintro p11 r13_ rfl
  refine cB_in ?_; rintro p12 r14_ rfl
  refine dN_in ?_; rintro rfl
  refine dE_in ?_; rintro rfl
  intro h
  refine fun_ok (nt := 52) (x := bodyOf Tryz.f12) (Γ := Γ12) (H := H12) (WW := W12) (rs := [.cell 6 32, .tmp 7]) (shs := [.ag [.own .int, .own .int, .own .int, .own .int, .x, .own .int, .x, .own .op, .x, .bl], .bl]) (cons := []) mixed Tryz.func12 (by decide) (by kernel_rfl) Tryz.ntmps12 Tryz.results12 (.cons (useC_ok s34) (.cons (useC_ok s48) (.cons (useC_ok s35) (.cons (useC_ok s36) (.cons (useC_ok s37) (GSound.nil)))))) ?_ hA hN R hl
  rw [ht, e12 p1 p2 p3 p4 p5 p6 p7 p8 p9 p10 p11 p12 K]
  exact h
/-! spec.DrawRunBoth -/
def G19 : Con := fun args tm K => cP .byte args fun p1 r1_ => dNil r1_ <| dEnd tm <| Ms_DrawRunBoth p1 (fun r1 r2 r3 r4 r5 r6 r7 r8 r9 r10 r11 r12 => K (.tup [.agg [.sl 0, .sl 1, .sl 2, .sl 3, .int .i64 r1, .sl 4, .int .i64 r2, .sl 5, .int .i64 r3, .bool r4], .str r5, .bool r6]) [⟨true, .list .int r7⟩, ⟨true, .list .int r8⟩, ⟨true, .list .int r9⟩, ⟨true, .list .int r10⟩, ⟨true, .list .int r11⟩, ⟨true, .list .op r12⟩])
def H19 : List (Nat × LH) := []
def W19 : List (Nat × List (Nat × List Nat)) := [(6, [(1, [3])])]
def Γ19 : List (Nat × Con) := [(31, useC [.pure .byte] G31), (64, useC [.pc [.pure .byte, .x]] G64), (65, useC [.pc [.pure .byte, .x]] G65), (33, useC [.pc [.pure .byte, .x], .x] G33)]
theorem e19 (p1 : List Int) (K : TV → TMem → Prop) : TW PP 24 Γ19 H19 W19 (List.length ([] : TMem)) (bodyOf Tryz.f19) (endT PP 24 [.cell 2 32, .tmp 3, .tmp 4] [.ag [.own .int, .own .int, .own .int, .own .int, .x, .own .int, .x, .own .op, .x, .bl], .x, .bl] [] (List.length ([] : TMem)) K) (argsF [.pl .byte p1]) [] =
    Ms_DrawRunBoth p1 (fun r1 r2 r3 r4 r5 r6 r7 r8 r9 r10 r11 r12 => K (.tup [.agg [.sl 0, .sl 1, .sl 2, .sl 3, .int .i64 r1, .sl 4, .int .i64 r2, .sl 5, .int .i64 r3, .bool r4], .str r5, .bool r6]) [⟨true, .list .int r7⟩, ⟨true, .list .int r8⟩, ⟨true, .list .int r9⟩, ⟨true, .list .int r10⟩, ⟨true, .list .int r11⟩, ⟨true, .list .op r12⟩]) := by kernel_rfl
theorem s19 : CSound PP 19 G19 := by
  intro args K c h fl A aargs hA hN R hl
  unfold G19 at h
  generalize ht : c.tm = tm at h
  revert h
  refine cP_in ?_; rintro p1 r1_ rfl
  refine dN_in ?_; rintro rfl
  refine dE_in ?_; rintro rfl
  intro h
  refine fun_ok (nt := 24) (x := bodyOf Tryz.f19) (Γ := Γ19) (H := H19) (WW := W19) (rs := [.cell 2 32, .tmp 3, .tmp 4]) (shs := [.ag [.own .int, .own .int, .own .int, .own .int, .x, .own .int, .x, .own .op, .x, .bl], .x, .bl]) (cons := []) mixed Tryz.func19 (by decide) (by kernel_rfl) Tryz.ntmps19 Tryz.results19 (.cons (useC_ok s31) (.cons (useC_ok s64) (.cons (useC_ok s65) (.cons (useC_ok s33) (GSound.nil))))) ?_ hA hN R hl
  rw [ht, e19 p1 K]
  exact h
/-! impl.RunOps -/
def G20 : Con := fun args tm K => cA args fun l2_ r1_ => cP .int l2_ fun p1 r3_ => cP .int r3_ fun p2 r4_ => cP .int r4_ fun p3 r5_ => cP .int r5_ fun p4 r6_ => dNil r6_ <| cP .op r1_ fun p5 r7_ => dNil r7_ <| dEnd tm <| Mi_RunOps p1 p2 p3 p4 p5 (fun r1 r2 r3 r4 r5 r6 => K (.tup [.agg [.sl 0, .sl 1, .sl 2, .sl 3], .int .i64 r1, .bool r2]) [⟨true, .list .int r3⟩, ⟨true, .list .int r4⟩, ⟨true, .list .int r5⟩, ⟨true, .list .int r6⟩])
def H20_0 : LH where
  keep := [(1, .pure .op), (2, .pc [.own .int, .own .int, .own .int, .own .int]), (4, .pc [.own .int, .own .int, .own .int, .own .int]), (27, .pure .op), (28, .x), (29, .x)]
  S := List OpV × List OpV × Int × Int × List Int × List Int × List Int × List Int × List Int × List Int × List Int × List Int
  enc := fun s => ([.pl .op s.1, .ptr 0 0, .ptr 1 0, .pl .op s.2.1, .int .i64 s.2.2.1, .int .i64 s.2.2.2.1], [⟨true, .cells [.sl 2, .sl 3, .sl 4, .sl 5]⟩, ⟨true, .cells [.sl 6, .sl 7, .sl 8, .sl 9]⟩, ⟨true, .list .int s.2.2.2.2.1⟩, ⟨true, .list .int s.2.2.2.2.2.1⟩, ⟨true, .list .int s.2.2.2.2.2.2.1⟩, ⟨true, .list .int s.2.2.2.2.2.2.2.1⟩, ⟨true, .list .int s.2.2.2.2.2.2.2.2.1⟩, ⟨true, .list .int s.2.2.2.2.2.2.2.2.2.1⟩, ⟨true, .list .int s.2.2.2.2.2.2.2.2.2.2.1⟩, ⟨true, .list .int s.2.2.2.2.2.2.2.2.2.2.2⟩])
  dec := fun vs tm K => cP .op vs fun q0 r1_ => cQ 0 r1_ fun r2_ => cQ 1 r2_ fun r3_ => cP .op r3_ fun q1 r4_ => cI .i64 r4_ fun q2 r5_ => cI .i64 r5_ fun q3 r6_ => dNil r6_ <| bC true tm fun c8_ m7_ => cL 2 c8_ fun r9_ => cL 3 r9_ fun r10_ => cL 4 r10_ fun r11_ => cL 5 r11_ fun r12_ => dNil r12_ <| bC true m7_ fun c14_ m13_ => cL 6 c14_ fun r15_ => cL 7 r15_ fun r16_ => cL 8 r16_ fun r17_ => cL 9 r17_ fun r18_ => dNil r18_ <| bL true .int m13_ fun q4 m19_ => bL true .int m19_ fun q5 m20_ => bL true .int m20_ fun q6 m21_ => bL true .int m21_ fun q7 m22_ => bL true .int m22_ fun q8 m23_ => bL true .int m23_ fun q9 m24_ => bL true .int m24_ fun q10 m25_ => bL true .int m25_ fun q11 m26_ => dEnd m26_ <| K (q0, q1, q2, q3, q4, q5, q6, q7, q8, q9, q10, q11)
  law := by
    intro vs tm K
    refine cP_in ?_; rintro q0 r1_ rfl
    refine cQ_in ?_; rintro r2_ rfl
    refine cQ_in ?_; rintro r3_ rfl
    refine cP_in ?_; rintro q1 r4_ rfl
    refine cI_in ?_; rintro q2 r5_ rfl
    refine cI_in ?_; rintro q3 r6_ rfl
    refine dN_in ?_; rintro rfl
    refine bC_in ?_; rintro c8_ m7_ rfl
    refine cL_in ?_; rintro r9_ rfl
    refine cL_in ?_; rintro r10_ rfl
    refine cL_in ?_; rintro r11_ rfl
    refine cL_in ?_; rintro r12_ rfl
    refine dN_in ?_; rintro rfl
    refine bC_in ?_; rintro c14_ m13_ rfl
    refine cL_in ?_; rintro r15_ rfl
    refine cL_in ?_; rintro r16_ rfl
    refine cL_in ?_; rintro r17_ rfl
    refine cL_in ?_; rintro r18_ rfl
    refine dN_in ?_; rintro rfl
    refine bL_in ?_; rintro q4 m19_ rfl
    refine bL_in ?_; rintro q5 m20_ rfl
    refine bL_in ?_; rintro q6 m21_ rfl
    refine bL_in ?_; rintro q7 m22_ rfl
    refine bL_in ?_; rintro q8 m23_ rfl
    refine bL_in ?_; rintro q9 m24_ rfl
    refine bL_in ?_; rintro q10 m25_ rfl
    refine bL_in ?_; rintro q11 m26_ rfl
    refine dE_in ?_; rintro rfl
    exact fun h => ⟨(q0, q1, q2, q3, q4, q5, q6, q7, q8, q9, q10, q11), rfl, h⟩
def H20 : List (Nat × LH) := [(0, H20_0)]
def W20 : List (Nat × List (Nat × List Nat)) := []
def Γ20 : List (Nat × Con) := [(45, useC [.ag [.pure .int, .pure .int, .pure .int, .pure .int]] G45), (66, useC [.pure .op, .x] G66), (67, useC [.ag [.pure .int, .pure .int, .pure .int, .pure .int]] G67), (68, useC [.ag [.pure .int, .pure .int, .pure .int, .pure .int], .ag [.x, .x, .x]] G68)]
theorem e20 (p1 : List Int) (p2 : List Int) (p3 : List Int) (p4 : List Int) (p5 : List OpV) (K : TV → TMem → Prop) : TW PP 50 Γ20 H20 W20 (List.length ([] : TMem)) (bodyOf Tryz.f20) (endT PP 50 [.cell 4 27, .tmp 5, .tmp 6] [.ag [.own .int, .own .int, .own .int, .own .int], .x, .bl] [] (List.length ([] : TMem)) K) (argsF [.agg [.pl .int p1, .pl .int p2, .pl .int p3, .pl .int p4], .pl .op p5]) [] =
    Mi_RunOps p1 p2 p3 p4 p5 (fun r1 r2 r3 r4 r5 r6 => K (.tup [.agg [.sl 0, .sl 1, .sl 2, .sl 3], .int .i64 r1, .bool r2]) [⟨true, .list .int r3⟩, ⟨true, .list .int r4⟩, ⟨true, .list .int r5⟩, ⟨true, .list .int r6⟩]) := by kernel_rfl
theorem s20 : CSound PP 20 G20 := by
  intro args K c h fl A aargs hA hN R hl
  unfold G20 at h
  generalize ht : c.tm = tm at h
  revert h
  refine cA_in ?_; rintro l2_ r1_ rfl
  refine cP_in ?_; rintro p1 r3_ rfl
  refine cP_in ?_; rintro p2 r4_ rfl
  refine cP_in ?_; rintro p3 r5_ rfl
  refine cP_in ?_; rintro p4 r6_ rfl
  refine dN_in ?_; rintro rfl
  refine cP_in ?_; rintro p5 r7_ rfl
  refine dN_in ?_; rintro rfl
  refine dE_in ?_; rintro rfl
  intro h
  refine fun_ok (nt := 50) (x := bodyOf Tryz.f20) (Γ := Γ20) (H := H20) (WW := W20) (rs := [.cell 4 27, .tmp 5, .tmp 6]) (shs := [.ag [.own .int, .own .int, .own .int, .own .int], .x, .bl]) (cons := []) mixed Tryz.func20 (by decide) (by kernel_rfl) Tryz.ntmps20 Tryz.results20 (.cons (useC_ok s45) (.cons (useC_ok s66) (.cons (useC_ok s67) (.cons (useC_ok s68) (GSound.nil))))) ?_ hA hN R hl
  rw [ht, e20 p1 p2 p3 p4 p5 K]
  exact h
/-! math/bits.Mul64 -/
def G220 : Con := fun args tm K => cI .u64 args fun p1 r1_ => cI .u64 r1_ fun p2 r2_ => dNil r2_ <| dEnd tm <| M_math_bits_Mul64 p1 p2 (fun r1 r2 => K (.tup [.int .u64 r1, .int .u64 r2]) [])
def H220 : List (Nat × LH) := []
def W220 : List (Nat × List (Nat × List Nat)) := []
def Γ220 : List (Nat × Con) := []
theorem e220 (p1 : Int) (p2 : Int) (K : TV → TMem → Prop) : TW PP 51 Γ220 H220 W220 (List.length ([] : TMem)) (bodyOf Tryz.f220) (endT PP 51 [.tmp 4, .tmp 5] [.x, .x] [] (List.length ([] : TMem)) K) (argsF [.int .u64 p1, .int .u64 p2]) [] =
    M_math_bits_Mul64 p1 p2 (fun r1 r2 => K (.tup [.int .u64 r1, .int .u64 r2]) []) := by kernel_rfl
theorem s220 : CSound PP 220 G220 := by
  intro args K c h fl A aargs hA hN R hl
  unfold G220 at h
  generalize ht : c.tm = tm at h
  revert h
  refine cI_in ?_; rintro p1 r1_ rfl
  refine cI_in ?_; rintro p2 r2_ rfl
  refine dN_in ?_; rintro rfl
  refine dE_in ?_; rintro rfl
  intro h
  refine fun_ok (nt := 51) (x := bodyOf Tryz.f220) (Γ := Γ220) (H := H220) (WW := W220) (rs := [.tmp 4, .tmp 5]) (shs := [.x, .x]) (cons := []) mixed Tryz.func220 (by decide) (by kernel_rfl) Tryz.ntmps220 Tryz.results220 (GSound.nil) ?_ hA hN R hl
  rw [ht, e220 p1 p2 K]
  exact h
/-! math/bits.Mul -/
def G205 : Con := fun args tm K => cI .u64 args fun p1 r1_ => cI .u64 r1_ fun p2 r2_ => dNil r2_ <| dEnd tm <| M_math_bits_Mul p1 p2 (fun r1 r2 => K (.tup [.int .u64 r1, .int .u64 r2]) [])
def H205 : List (Nat × LH) := []
def W205 : List (Nat × List (Nat × List Nat)) := []
def Γ205 : List (Nat × Con) := [(220, useC [.x, .x] G220)]
theorem e205 (p1 : Int) (p2 : Int) (K : TV → TMem → Prop) : TW PP 30 Γ205 H205 W205 (List.length ([] : TMem)) (bodyOf Tryz.f205) (endT PP 30 [.tmp 4, .tmp 5] [.x, .x] [] (List.length ([] : TMem)) K) (argsF [.int .u64 p1, .int .u64 p2]) [] =
    M_math_bits_Mul p1 p2 (fun r1 r2 => K (.tup [.int .u64 r1, .int .u64 r2]) []) := by kernel_rfl
theorem s205 : CSound PP 205 G205 := by
  intro args K c h fl A aargs hA hN R hl
  unfold G205 at h
  generalize ht : c.tm = tm at h
  revert h
  refine cI_in ?_; rintro p1 r1_ rfl
  refine cI_in ?_; rintro p2 r2_ rfl
  refine dN_in ?_; rintro rfl
  refine dE_in ?_; rintro rfl
  intro h
  refine fun_ok (nt := 30) (x := bodyOf Tryz.f205) (Γ := Γ205) (H := H205) (WW := W205) (rs := [.tmp 4, .tmp 5]) (shs := [.x, .x]) (cons := []) mixed Tryz.func205 (by decide) (by kernel_rfl) Tryz.ntmps205 Tryz.results205 (.cons (useC_ok s220) (GSound.nil)) ?_ hA hN R hl
  rw [ht, e205 p1 p2 K]
  exact h
/-! slices.Repeat[[]int,int] -/
def G181 : Con := fun args tm K => cP .int args fun p1 r1_ => cI .i64 r1_ fun p2 r2_ => dNil r2_ <| dEnd tm <| M_Repeat_int p1 p2 (fun r1 => K (.sl 0) [⟨true, .list .int r1⟩])
def H181_0 : LH where
  keep := [(7, .own .int), (8, .x)]
  S := Int × List Int
  enc := fun s => ([.sl 0, .int .i64 s.1], [⟨true, .list .int s.2⟩])
  dec := fun vs tm K => cL 0 vs fun r1_ => cI .i64 r1_ fun q0 r2_ => dNil r2_ <| bL true .int tm fun q1 m3_ => dEnd m3_ <| K (q0, q1)
  law := by
    intro vs tm K
    refine cL_in ?_; rintro r1_ rfl
    refine cI_in ?_; rintro q0 r2_ rfl
    refine dN_in ?_; rintro rfl
    refine bL_in ?_; rintro q1 m3_ rfl
    refine dE_in ?_; rintro rfl
    exact fun h => ⟨(q0, q1), rfl, h⟩
def H181 : List (Nat × LH) := [(0, H181_0)]
def W181 : List (Nat × List (Nat × List Nat)) := [(2000009, [(0, [3, 6])])]
def Γ181 : List (Nat × Con) := [(205, useC [.x, .x] G205)]
theorem e181 (p1 : List Int) (p2 : Int) (K : TV → TMem → Prop) : TW PP 48 Γ181 H181 W181 (List.length ([] : TMem)) (bodyOf Tryz.f181) (endT PP 48 [.tmp 4] [.own .int] [] (List.length ([] : TMem)) K) (argsF [.pl .int p1, .int .i64 p2]) [] =
    M_Repeat_int p1 p2 (fun r1 => K (.sl 0) [⟨true, .list .int r1⟩]) := by kernel_rfl
theorem s181 : CSound PP 181 G181 := by
  intro args K c h fl A aargs hA hN R hl
  unfold G181 at h
  generalize ht : c.tm = tm at h
  revert h
  refine cP_in ?_; rintro p1 r1_ rfl
  refine cI_in ?_; rintro p2 r2_ rfl
  refine dN_in ?_; rintro rfl
  refine dE_in ?_; rintro rfl
  intro h
  refine fun_ok (nt := 48) (x := bodyOf Tryz.f181) (Γ := Γ181) (H := H181) (WW := W181) (rs := [.tmp 4]) (shs := [.own .int]) (cons := []) mixed Tryz.func181 (by decide) (by kernel_rfl) Tryz.ntmps181 Tryz.results181 (.cons (useC_ok s205) (GSound.nil)) ?_ hA hN R hl
  rw [ht, e181 p1 p2 K]
  exact h
/-! impl.NewHeap -/
def G139 : Con := fun args tm K => cI .i64 args fun p1 r1_ => cI .i64 r1_ fun p2 r2_ => dNil r2_ <| dEnd tm <| Mi_NewHeap p1 p2 (fun r1 r2 r3 r4 => K (.tup [.agg [.sl 0, .sl 1, .sl 2], .bool r1]) [⟨true, .list .int r2⟩, ⟨true, .list .int r3⟩, ⟨true, .list .int r4⟩])
def H139 : List (Nat × LH) := []
def W139 : List (Nat × List (Nat × List Nat)) := []
def Γ139 : List (Nat × Con) := [(181, useC [.pure .int, .x] G181)]
theorem e139 (p1 : Int) (p2 : Int) (K : TV → TMem → Prop) : TW PP 31 Γ139 H139 W139 (List.length ([] : TMem)) (bodyOf Tryz.f139) (endT PP 31 [.cell 4 25, .tmp 5] [.ag [.own .int, .own .int, .own .int], .bl] [] (List.length ([] : TMem)) K) (argsF [.int .i64 p1, .int .i64 p2]) [] =
    Mi_NewHeap p1 p2 (fun r1 r2 r3 r4 => K (.tup [.agg [.sl 0, .sl 1, .sl 2], .bool r1]) [⟨true, .list .int r2⟩, ⟨true, .list .int r3⟩, ⟨true, .list .int r4⟩]) := by kernel_rfl
theorem s139 : CSound PP 139 G139 := by
  intro args K c h fl A aargs hA hN R hl
  unfold G139 at h
  generalize ht : c.tm = tm at h
  revert h
  refine cI_in ?_; rintro p1 r1_ rfl
  refine cI_in ?_; rintro p2 r2_ rfl
  refine dN_in ?_; rintro rfl
  refine dE_in ?_; rintro rfl
  intro h
  refine fun_ok (nt := 31) (x := bodyOf Tryz.f139) (Γ := Γ139) (H := H139) (WW := W139) (rs := [.cell 4 25, .tmp 5]) (shs := [.ag [.own .int, .own .int, .own .int], .bl]) (cons := []) mixed Tryz.func139 (by decide) (by kernel_rfl) Tryz.ntmps139 Tryz.results139 (.cons (useC_ok s181) (GSound.nil)) ?_ hA hN R hl
  rw [ht, e139 p1 p2 K]
  exact h
/-! impl.met -/
def G182 : Con := fun args tm K => cL 0 args fun r1_ => cP .int r1_ fun p1 r2_ => dNil r2_ <| bL true .int tm fun p2 m3_ => dEnd m3_ <| Mi_met p1 p2 (fun r1 => K (.sl 1) [⟨true, .dead⟩, ⟨true, .list .int r1⟩])
def H182_0 : LH where
  keep := [(0, .mv .int), (7, .pure .int), (8, .x), (9, .x)]
  S := List Int × Int × Int × List Int
  enc := fun s => ([.sl 1, .pl .int s.1, .int .i64 s.2.1, .int .i64 s.2.2.1], [⟨true, .dead⟩, ⟨true, .list .int s.2.2.2⟩])
  dec := fun vs tm K => cL 1 vs fun r1_ => cP .int r1_ fun q0 r2_ => cI .i64 r2_ fun q1 r3_ => cI .i64 r3_ fun q2 r4_ => dNil r4_ <| bD true tm fun m5_ => bL true .int m5_ fun q3 m6_ => dEnd m6_ <| K (q0, q1, q2, q3)
  law := by
    intro vs tm K
    refine cL_in ?_; rintro r1_ rfl
    refine cP_in ?_; rintro q0 r2_ rfl
    refine cI_in ?_; rintro q1 r3_ rfl
    refine cI_in ?_; rintro q2 r4_ rfl
    refine dN_in ?_; rintro rfl
    refine bD_in ?_; rintro m5_ rfl
    refine bL_in ?_; rintro q3 m6_ rfl
    refine dE_in ?_; rintro rfl
    exact fun h => ⟨(q0, q1, q2, q3), rfl, h⟩
def H182 : List (Nat × LH) := [(0, H182_0)]
def W182 : List (Nat × List (Nat × List Nat)) := []
def Γ182 : List (Nat × Con) := [(47, useC [.pure .int, .x] G47)]
theorem e182 (p1 : List Int) (p2 : List Int) (K : TV → TMem → Prop) : TW PP 27 Γ182 H182 W182 (List.length ([⟨true, .list .int p2⟩] : TMem)) (bodyOf Tryz.f182) (endT PP 27 [.tmp 4] [.own .int] [0] (List.length ([⟨true, .list .int p2⟩] : TMem)) K) (argsF [.sl 0, .pl .int p1]) [⟨true, .list .int p2⟩] =
    Mi_met p1 p2 (fun r1 => K (.sl 1) [⟨true, .dead⟩, ⟨true, .list .int r1⟩]) := by kernel_rfl
theorem s182 : CSound PP 182 G182 := by
  intro args K c h fl A aargs hA hN R hl
  unfold G182 at h
  generalize ht : c.tm = tm at h
  revert h
  refine cL_in ?_; rintro r1_ rfl
  refine cP_in ?_; rintro p1 r2_ rfl
  refine dN_in ?_; rintro rfl
  refine bL_in ?_; rintro p2 m3_ rfl
  refine dE_in ?_; rintro rfl
  intro h
  refine fun_ok (nt := 27) (x := bodyOf Tryz.f182) (Γ := Γ182) (H := H182) (WW := W182) (rs := [.tmp 4]) (shs := [.own .int]) (cons := [0]) mixed Tryz.func182 (by decide) (by kernel_rfl) Tryz.ntmps182 Tryz.results182 (.cons (useC_ok s47) (GSound.nil)) ?_ hA hN R hl
  rw [ht, e182 p1 p2 K]
  exact h
/-! slices.Clip[[]int,int] -/
def G183 : Con := fun args tm K => cL 0 args fun r1_ => dNil r1_ <| bL true .int tm fun p1 m2_ => dEnd m2_ <| M_Clip_int p1 (fun r1 => K (.sl 1) [⟨true, .dead⟩, ⟨true, .list .int r1⟩])
def H183 : List (Nat × LH) := []
def W183 : List (Nat × List (Nat × List Nat)) := []
def Γ183 : List (Nat × Con) := []
theorem e183 (p1 : List Int) (K : TV → TMem → Prop) : TW PP 9 Γ183 H183 W183 (List.length ([⟨true, .list .int p1⟩] : TMem)) (bodyOf Tryz.f183) (endT PP 9 [.tmp 2] [.own .int] [] (List.length ([⟨true, .list .int p1⟩] : TMem)) K) (argsF [.sl 0]) [⟨true, .list .int p1⟩] =
    M_Clip_int p1 (fun r1 => K (.sl 1) [⟨true, .dead⟩, ⟨true, .list .int r1⟩]) := by kernel_rfl
theorem s183 : CSound PP 183 G183 := by
  intro args K c h fl A aargs hA hN R hl
  unfold G183 at h
  generalize ht : c.tm = tm at h
  revert h
  refine cL_in ?_; rintro r1_ rfl
  refine dN_in ?_; rintro rfl
  refine bL_in ?_; rintro p1 m2_ rfl
  refine dE_in ?_; rintro rfl
  intro h
  refine fun_ok (nt := 9) (x := bodyOf Tryz.f183) (Γ := Γ183) (H := H183) (WW := W183) (rs := [.tmp 2]) (shs := [.own .int]) (cons := []) mixed Tryz.func183 (by decide) (by kernel_rfl) Tryz.ntmps183 Tryz.results183 (GSound.nil) ?_ hA hN R hl
  rw [ht, e183 p1 K]
  exact h
/-! impl.OrderOf -/
def G140 : Con := fun args tm K => cA args fun l2_ r1_ => cP .int l2_ fun p1 r3_ => cP .int r3_ fun p2 r4_ => cP .int r4_ fun p3 r5_ => dNil r5_ <| dNil r1_ <| dEnd tm <| Mi_OrderOf p1 p2 p3 (fun r1 => K (.sl 0) [⟨true, .list .int r1⟩])
def H140_0 : LH where
  keep := [(1, .pc [.pure .int, .pure .int, .pure .int]), (3, .own .int), (4, .x)]
  S := Int × List Int × List Int × List Int × List Int
  enc := fun s => ([.ptr 0 0, .sl 1, .int .i64 s.1], [⟨true, .cells [.pl .int s.2.1, .pl .int s.2.2.1, .pl .int s.2.2.2.1]⟩, ⟨true, .list .int s.2.2.2.2⟩])
  dec := fun vs tm K => cQ 0 vs fun r1_ => cL 1 r1_ fun r2_ => cI .i64 r2_ fun q0 r3_ => dNil r3_ <| bC true tm fun c5_ m4_ => cP .int c5_ fun q1 r6_ => cP .int r6_ fun q2 r7_ => cP .int r7_ fun q3 r8_ => dNil r8_ <| bL true .int m4_ fun q4 m9_ => dEnd m9_ <| K (q0, q1, q2, q3, q4)
  law := by
    intro vs tm K
    refine cQ_in ?_; rintro r1_ rfl
    refine cL_in ?_; rintro r2_ rfl
    refine cI_in ?_; rintro q0 r3_ rfl
    refine dN_in ?_; rintro rfl
    refine bC_in ?_; rintro c5_ m4_ rfl
    refine cP_in ?_; rintro q1 r6_ rfl
    refine cP_in ?_; rintro q2 r7_ rfl
    refine cP_in ?_; rintro q3 r8_ rfl
    refine dN_in ?_; rintro rfl
    refine bL_in ?_; rintro q4 m9_ rfl
    refine dE_in ?_; rintro rfl
    exact fun h => ⟨(q0, q1, q2, q3, q4), rfl, h⟩
def H140 : List (Nat × LH) := [(0, H140_0)]
def W140 : List (Nat × List (Nat × List Nat)) := []
def Γ140 : List (Nat × Con) := [(74, useC [.ag [.pure .int, .pure .int, .pure .int]] G74), (182, useC [.own .int, .pure .int] G182), (183, useC [.own .int] G183)]
theorem e140 (p1 : List Int) (p2 : List Int) (p3 : List Int) (K : TV → TMem → Prop) : TW PP 39 Γ140 H140 W140 (List.length ([] : TMem)) (bodyOf Tryz.f140) (endT PP 39 [.tmp 2] [.own .int] [] (List.length ([] : TMem)) K) (argsF [.agg [.pl .int p1, .pl .int p2, .pl .int p3]]) [] =
    Mi_OrderOf p1 p2 p3 (fun r1 => K (.sl 0) [⟨true, .list .int r1⟩]) := by kernel_rfl
theorem s140 : CSound PP 140 G140 := by
  intro args K c h fl A aargs hA hN R hl
  unfold G140 at h
  generalize ht : c.tm = tm at h
  revert h
  refine cA_in ?_; rintro l2_ r1_ rfl
  refine cP_in ?_; rintro p1 r3_ rfl
  refine cP_in ?_; rintro p2 r4_ rfl
  refine cP_in ?_; rintro p3 r5_ rfl
  refine dN_in ?_; rintro rfl
  refine dN_in ?_; rintro rfl
  refine dE_in ?_; rintro rfl
  intro h
  refine fun_ok (nt := 39) (x := bodyOf Tryz.f140) (Γ := Γ140) (H := H140) (WW := W140) (rs := [.tmp 2]) (shs := [.own .int]) (cons := []) mixed Tryz.func140 (by decide) (by kernel_rfl) Tryz.ntmps140 Tryz.results140 (.cons (useC_ok s74) (.cons (useC_ok s182) (.cons (useC_ok s183) (GSound.nil)))) ?_ hA hN R hl
  rw [ht, e140 p1 p2 p3 K]
  exact h
/-! impl.CopyHeap$1 -/
def G141 : Con := fun args tm K => cI .i64 args fun p1 r1_ => cQ 0 r1_ fun r2_ => dNil r2_ <| bC false tm fun c4_ m3_ => cL 1 c4_ fun r5_ => dNil r5_ <| bL false .int m3_ fun p2 m6_ => dEnd m6_ <| Mi_CopyHeap_1 p1 p2 (fun r1 => K (.int .i64 r1) [⟨false, .cells [.sl 1]⟩, ⟨false, .list .int p2⟩])
def H141 : List (Nat × LH) := []
def W141 : List (Nat × List (Nat × List Nat)) := []
def Γ141 : List (Nat × Con) := [(110, useC [.pure .int, .x] G110)]
theorem e141 (p1 : Int) (p2 : List Int) (K : TV → TMem → Prop) : TW PP 7 Γ141 H141 W141 (List.length ([⟨false, .cells [.sl 1]⟩, ⟨false, .list .int p2⟩] : TMem)) (bodyOf Tryz.f141) (endT PP 7 [.tmp 3] [.x] [] (List.length ([⟨false, .cells [.sl 1]⟩, ⟨false, .list .int p2⟩] : TMem)) K) (argsF [.int .i64 p1, .ptr 0 0]) [⟨false, .cells [.sl 1]⟩, ⟨false, .list .int p2⟩] =
    Mi_CopyHeap_1 p1 p2 (fun r1 => K (.int .i64 r1) [⟨false, .cells [.sl 1]⟩, ⟨false, .list .int p2⟩]) := by kernel_rfl
theorem s141 : CSound PP 141 G141 := by
  intro args K c h fl A aargs hA hN R hl
  unfold G141 at h
  generalize ht : c.tm = tm at h
  revert h
  refine cI_in ?_; rintro p1 r1_ rfl
  refine cQ_in ?_; rintro r2_ rfl
  refine dN_in ?_; rintro rfl
  refine bC_in ?_; rintro c4_ m3_ rfl
  refine cL_in ?_; rintro r5_ rfl
  refine dN_in ?_; rintro rfl
  refine bL_in ?_; rintro p2 m6_ rfl
  refine dE_in ?_; rintro rfl
  intro h
  refine fun_ok (nt := 7) (x := bodyOf Tryz.f141) (Γ := Γ141) (H := H141) (WW := W141) (rs := [.tmp 3]) (shs := [.x]) (cons := []) mixed Tryz.func141 (by decide) (by kernel_rfl) Tryz.ntmps141 Tryz.results141 (.cons (useC_ok s110) (GSound.nil)) ?_ hA hN R hl
  rw [ht, e141 p1 p2 K]
  exact h
/-! impl.CopyHeap -/
def G69 : Con := fun args tm K => cA args fun l2_ r1_ => cP .int l2_ fun p1 r3_ => cP .int r3_ fun p2 r4_ => cP .int r4_ fun p3 r5_ => dNil r5_ <| dNil r1_ <| dEnd tm <| Mi_CopyHeap p1 p2 p3 (fun r1 r2 r3 r4 r5 => K (.tup [.agg [.sl 0, .sl 1, .sl 2], .sl 3, .bool r1]) [⟨true, .list .int r2⟩, ⟨true, .list .int r3⟩, ⟨true, .list .int r4⟩, ⟨true, .list .int r5⟩])
def H69_0 : LH where
  keep := [(1, .pc [.pure .int, .pure .int, .pure .int]), (2, .pc [.own .int, .own .int, .own .int]), (5, .pc [.own .int, .own .int, .own .int]), (8, .x), (32, .own .int), (33, .x), (34, .x)]
  S := Int × Int × List Int × List Int × List Int × List Int × List Int × List Int × List Int × List Int × List Int × List Int
  enc := fun s => ([.ptr 0 0, .ptr 1 0, .ptr 2 0, .fn 141 [] [.ptr 3 0], .sl 4, .int .i64 s.1, .int .i64 s.2.1], [⟨true, .cells [.pl .int s.2.2.1, .pl .int s.2.2.2.1, .pl .int s.2.2.2.2.1]⟩, ⟨true, .cells [.sl 5, .sl 6, .sl 7]⟩, ⟨true, .cells [.sl 8, .sl 9, .sl 10]⟩, ⟨true, .cells [.sl 4]⟩, ⟨true, .list .int s.2.2.2.2.2.1⟩, ⟨true, .list .int s.2.2.2.2.2.2.1⟩, ⟨true, .list .int s.2.2.2.2.2.2.2.1⟩, ⟨true, .list .int s.2.2.2.2.2.2.2.2.1⟩, ⟨true, .list .int s.2.2.2.2.2.2.2.2.2.1⟩, ⟨true, .list .int s.2.2.2.2.2.2.2.2.2.2.1⟩, ⟨true, .list .int s.2.2.2.2.2.2.2.2.2.2.2⟩])
  dec := fun vs tm K => cQ 0 vs fun r1_ => cQ 1 r1_ fun r2_ => cQ 2 r2_ fun r3_ => dCons r3_ fun a5_ r4_ => dFn 141 a5_ fun x6_ y7_ => dNil x6_ <| cQ 3 y7_ fun r8_ => dNil r8_ <| cL 4 r4_ fun r9_ => cI .i64 r9_ fun q0 r10_ => cI .i64 r10_ fun q1 r11_ => dNil r11_ <| bC true tm fun c13_ m12_ => cP .int c13_ fun q2 r14_ => cP .int r14_ fun q3 r15_ => cP .int r15_ fun q4 r16_ => dNil r16_ <| bC true m12_ fun c18_ m17_ => cL 5 c18_ fun r19_ => cL 6 r19_ fun r20_ => cL 7 r20_ fun r21_ => dNil r21_ <| bC true m17_ fun c23_ m22_ => cL 8 c23_ fun r24_ => cL 9 r24_ fun r25_ => cL 10 r25_ fun r26_ => dNil r26_ <| bC true m22_ fun c28_ m27_ => cL 4 c28_ fun r29_ => dNil r29_ <| bL true .int m27_ fun q5 m30_ => bL true .int m30_ fun q6 m31_ => bL true .int m31_ fun q7 m32_ => bL true .int m32_ fun q8 m33_ => bL true .int m33_ fun q9 m34_ => bL true .int m34_ fun q10 m35_ => bL true .int m35_ fun q11 m36_ => dEnd m36_ <| K (q0, q1, q2, q3, q4, q5, q6, q7, q8, q9, q10, q11)
  law := by
    intro vs tm K
    refine cQ_in ?_; rintro r1_ rfl
    refine cQ_in ?_; rintro r2_ rfl
    refine cQ_in ?_; rintro r3_ rfl
    refine dCons_in ?_; rintro a5_ r4_ rfl
    refine dFn_in ?_; rintro x6_ y7_ rfl
    refine dN_in ?_; rintro rfl
    refine cQ_in ?_; rintro r8_ rfl
    refine dN_in ?_; rintro rfl
    refine cL_in ?_; rintro r9_ rfl
    refine cI_in ?_; rintro q0 r10_ rfl
    refine cI_in ?_; rintro q1 r11_ rfl
    refine dN_in ?_; rintro rfl
    refine bC_in ?_; rintro c13_ m12_ rfl
    refine cP_in ?_; rintro q2 r14_ rfl
    refine cP_in ?_; rintro q3 r15_ rfl
    refine cP_in ?_; rintro q4 r16_ rfl
    refine dN_in ?_; rintro rfl
    refine bC_in ?_; rintro c18_ m17_ rfl
    refine cL_in ?_; rintro r19_ rfl
    refine cL_in ?_; rintro r20_ rfl
    refine cL_in ?_; rintro r21_ rfl
    refine dN_in ?_; rintro rfl
    refine bC_in ?_; rintro c23_ m22_ rfl
    refine cL_in ?_; rintro r24_ rfl
    refine cL_in ?_; rintro r25_ rfl
    refine cL_in ?_; rintro r26_ rfl
    refine dN_in ?_; rintro rfl
    refine bC_in ?_; rintro c28_ m27_ rfl
    refine cL_in ?_; rintro r29_ rfl
    refine dN_in ?_; rintro rfl
    refine bL_in ?_; rintro q5 m30_ rfl
    refine bL_in ?_; rintro q6 m31_ rfl
    refine bL_in ?_; rintro q7 m32_ rfl
    refine bL_in ?_; rintro q8 m33_ rfl
    refine bL_in ?_; rintro q9 m34_ rfl
    refine bL_in ?_; rintro q10 m35_ rfl
    refine bL_in ?_; rintro q11 m36_ rfl
    refine dE_in ?_; rintro rfl
    exact fun h => ⟨(q0, q1, q2, q3, q4, q5, q6, q7, q8, q9, q10, q11), rfl, h⟩
def H69_2 : LH where
  keep := [(1, .pc [.pure .int, .pure .int, .pure .int]), (2, .pc [.own .int, .own .int, .own .int]), (5, .pc [.own .int, .own .int, .own .int]), (8, .x), (63, .pure .int), (64, .x), (65, .x)]
  S := List Int × Int × Int × List Int × List Int × List Int × List Int × List Int × List Int × List Int × List Int × List Int × List Int
  enc := fun s => ([.ptr 0 0, .ptr 1 0, .ptr 2 0, .fn 141 [] [.ptr 3 0], .pl .int s.1, .int .i64 s.2.1, .int .i64 s.2.2.1], [⟨true, .cells [.pl .int s.2.2.2.1, .pl .int s.2.2.2.2.1, .pl .int s.2.2.2.2.2.1]⟩, ⟨true, .cells [.sl 4, .sl 5, .sl 6]⟩, ⟨true, .cells [.sl 7, .sl 8, .sl 9]⟩, ⟨true, .cells [.sl 10]⟩, ⟨true, .list .int s.2.2.2.2.2.2.1⟩, ⟨true, .list .int s.2.2.2.2.2.2.2.1⟩, ⟨true, .list .int s.2.2.2.2.2.2.2.2.1⟩, ⟨true, .list .int s.2.2.2.2.2.2.2.2.2.1⟩, ⟨true, .list .int s.2.2.2.2.2.2.2.2.2.2.1⟩, ⟨true, .list .int s.2.2.2.2.2.2.2.2.2.2.2.1⟩, ⟨true, .list .int s.2.2.2.2.2.2.2.2.2.2.2.2⟩])
  dec := fun vs tm K => cQ 0 vs fun r1_ => cQ 1 r1_ fun r2_ => cQ 2 r2_ fun r3_ => dCons r3_ fun a5_ r4_ => dFn 141 a5_ fun x6_ y7_ => dNil x6_ <| cQ 3 y7_ fun r8_ => dNil r8_ <| cP .int r4_ fun q0 r9_ => cI .i64 r9_ fun q1 r10_ => cI .i64 r10_ fun q2 r11_ => dNil r11_ <| bC true tm fun c13_ m12_ => cP .int c13_ fun q3 r14_ => cP .int r14_ fun q4 r15_ => cP .int r15_ fun q5 r16_ => dNil r16_ <| bC true m12_ fun c18_ m17_ => cL 4 c18_ fun r19_ => cL 5 r19_ fun r20_ => cL 6 r20_ fun r21_ => dNil r21_ <| bC true m17_ fun c23_ m22_ => cL 7 c23_ fun r24_ => cL 8 r24_ fun r25_ => cL 9 r25_ fun r26_ => dNil r26_ <| bC true m22_ fun c28_ m27_ => cL 10 c28_ fun r29_ => dNil r29_ <| bL true .int m27_ fun q6 m30_ => bL true .int m30_ fun q7 m31_ => bL true .int m31_ fun q8 m32_ => bL true .int m32_ fun q9 m33_ => bL true .int m33_ fun q10 m34_ => bL true .int m34_ fun q11 m35_ => bL true .int m35_ fun q12 m36_ => dEnd m36_ <| K (q0, q1, q2, q3, q4, q5, q6, q7, q8, q9, q10, q11, q12)
  law := by
    intro vs tm K
    refine cQ_in ?_; rintro r1_ rfl
    refine cQ_in ?_; rintro r2_ rfl
    refine cQ_in ?_; rintro r3_ rfl
    refine dCons_in ?_; rintro a5_ r4_ rfl
    refine dFn_in ?_; rintro x6_ y7_ rfl
    refine dN_in ?_; rintro rfl
    refine cQ_in ?_; rintro r8_ rfl
    refine dN_in ?_; rintro rfl
    refine cP_in ?_; rintro q0 r9_ rfl
    refine cI_in ?_; rintro q1 r10_ rfl
    refine cI_in ?_; rintro q2 r11_ rfl
    refine dN_in ?_; rintro rfl
    refine bC_in ?_; rintro c13_ m12_ rfl
    refine cP_in ?_; rintro q3 r14_ rfl
    refine cP_in ?_; rintro q4 r15_ rfl
    refine cP_in ?_; rintro q5 r16_ rfl
    refine dN_in ?_; rintro rfl
    refine bC_in ?_; rintro c18_ m17_ rfl
    refine cL_in ?_; rintro r19_ rfl
    refine cL_in ?_; rintro r20_ rfl
    refine cL_in ?_; rintro r21_ rfl
    refine dN_in ?_; rintro rfl
    refine bC_in ?_; rintro c23_ m22_ rfl
    refine cL_in ?_; rintro r24_ rfl
    refine cL_in ?_; rintro r25_ rfl
    refine cL_in ?_; rintro r26_ rfl
    refine dN_in ?_; rintro rfl
    refine bC_in ?_; rintro c28_ m27_ rfl
    refine cL_in ?_; rintro r29_ rfl
    refine dN_in ?_; rintro rfl
    refine bL_in ?_; rintro q6 m30_ rfl
    refine bL_in ?_; rintro q7 m31_ rfl
    refine bL_in ?_; rintro q8 m32_ rfl
    refine bL_in ?_; rintro q9 m33_ rfl
    refine bL_in ?_; rintro q10 m34_ rfl
    refine bL_in ?_; rintro q11 m35_ rfl
    refine bL_in ?_; rintro q12 m36_ rfl
    refine dE_in ?_; rintro rfl
    exact fun h => ⟨(q0, q1, q2, q3, q4, q5, q6, q7, q8, q9, q10, q11, q12), rfl, h⟩
def H69_4 : LH where
  keep := [(2, .pc [.own .int, .own .int, .own .int]), (5, .pc [.own .int, .own .int, .own .int]), (8, .x), (13, .own .int), (81, .x), (82, .x)]
  S := Int × Int × List Int × List Int × List Int × List Int × List Int × List Int × List Int × List Int
  enc := fun s => ([.ptr 0 0, .ptr 1 0, .fn 141 [] [.ptr 2 0], .sl 3, .int .i64 s.1, .int .i64 s.2.1], [⟨true, .cells [.sl 4, .sl 5, .sl 6]⟩, ⟨true, .cells [.sl 7, .sl 8, .sl 9]⟩, ⟨true, .cells [.sl 10]⟩, ⟨true, .list .int s.2.2.1⟩, ⟨true, .list .int s.2.2.2.1⟩, ⟨true, .list .int s.2.2.2.2.1⟩, ⟨true, .list .int s.2.2.2.2.2.1⟩, ⟨true, .list .int s.2.2.2.2.2.2.1⟩, ⟨true, .list .int s.2.2.2.2.2.2.2.1⟩, ⟨true, .list .int s.2.2.2.2.2.2.2.2.1⟩, ⟨true, .list .int s.2.2.2.2.2.2.2.2.2⟩])
  dec := fun vs tm K => cQ 0 vs fun r1_ => cQ 1 r1_ fun r2_ => dCons r2_ fun a4_ r3_ => dFn 141 a4_ fun x5_ y6_ => dNil x5_ <| cQ 2 y6_ fun r7_ => dNil r7_ <| cL 3 r3_ fun r8_ => cI .i64 r8_ fun q0 r9_ => cI .i64 r9_ fun q1 r10_ => dNil r10_ <| bC true tm fun c12_ m11_ => cL 4 c12_ fun r13_ => cL 5 r13_ fun r14_ => cL 6 r14_ fun r15_ => dNil r15_ <| bC true m11_ fun c17_ m16_ => cL 7 c17_ fun r18_ => cL 8 r18_ fun r19_ => cL 9 r19_ fun r20_ => dNil r20_ <| bC true m16_ fun c22_ m21_ => cL 10 c22_ fun r23_ => dNil r23_ <| bL true .int m21_ fun q2 m24_ => bL true .int m24_ fun q3 m25_ => bL true .int m25_ fun q4 m26_ => bL true .int m26_ fun q5 m27_ => bL true .int m27_ fun q6 m28_ => bL true .int m28_ fun q7 m29_ => bL true .int m29_ fun q8 m30_ => bL true .int m30_ fun q9 m31_ => dEnd m31_ <| K (q0, q1, q2, q3, q4, q5, q6, q7, q8, q9)
  law := by
    intro vs tm K
    refine cQ_in ?_; rintro r1_ rfl
    refine cQ_in ?_; rintro r2_ rfl
    refine dCons_in ?_; rintro a4_ r3_ rfl
    refine dFn_in ?_; rintro x5_ y6_ rfl
    refine dN_in ?_; rintro rfl
    refine cQ_in ?_; rintro r7_ rfl
    refine dN_in ?_; rintro rfl
    refine cL_in ?_; rintro r8_ rfl
    refine cI_in ?_; rintro q0 r9_ rfl
    refine cI_in ?_; rintro q1 r10_ rfl
    refine dN_in ?_; rintro rfl
    refine bC_in ?_; rintro c12_ m11_ rfl
    refine cL_in ?_; rintro r13_ rfl
    refine cL_in ?_; rintro r14_ rfl
    refine cL_in ?_; rintro r15_ rfl
    refine dN_in ?_; rintro rfl
    refine bC_in ?_; rintro c17_ m16_ rfl
    refine cL_in ?_; rintro r18_ rfl
    refine cL_in ?_; rintro r19_ rfl
    refine cL_in ?_; rintro r20_ rfl
    refine dN_in ?_; rintro rfl
    refine bC_in ?_; rintro c22_ m21_ rfl
    refine cL_in ?_; rintro r23_ rfl
    refine dN_in ?_; rintro rfl
    refine bL_in ?_; rintro q2 m24_ rfl
    refine bL_in ?_; rintro q3 m25_ rfl
    refine bL_in ?_; rintro q4 m26_ rfl
    refine bL_in ?_; rintro q5 m27_ rfl
    refine bL_in ?_; rintro q6 m28_ rfl
    refine bL_in ?_; rintro q7 m29_ rfl
    refine bL_in ?_; rintro q8 m30_ rfl
    refine bL_in ?_; rintro q9 m31_ rfl
    refine dE_in ?_; rintro rfl
    exact fun h => ⟨(q0, q1, q2, q3, q4, q5, q6, q7, q8, q9), rfl, h⟩
def H69 : List (Nat × LH) := [(0, H69_0), (2, H69_2), (4, H69_4)]
def W69 : List (Nat × List (Nat × List Nat)) := [(9, [(8, [21])])]
def Γ69 : List (Nat × Con) := [(74, useC [.ag [.pure .int, .pure .int, .pure .int]] G74), (139, useC [.x, .x] G139), (140, useC [.ag [.pure .int, .pure .int, .pure .int]] G140), (141, useC [.x, .pc [.own .int]] (onlyC [] G141))]
theorem e69 (p1 : List Int) (p2 : List Int) (p3 : List Int) (K : TV → TMem → Prop) : TW PP 94 Γ69 H69 W69 (List.length ([] : TMem)) (bodyOf Tryz.f69) (endT PP 94 [.cell 2 25, .tmp 3, .tmp 4] [.ag [.own .int, .own .int, .own .int], .own .int, .bl] [] (List.length ([] : TMem)) K) (argsF [.agg [.pl .int p1, .pl .int p2, .pl .int p3]]) [] =
    Mi_CopyHeap p1 p2 p3 (fun r1 r2 r3 r4 r5 => K (.tup [.agg [.sl 0, .sl 1, .sl 2], .sl 3, .bool r1]) [⟨true, .list .int r2⟩, ⟨true, .list .int r3⟩, ⟨true, .list .int r4⟩, ⟨true, .list .int r5⟩]) := by kernel_rfl
theorem s69 : CSound PP 69 G69 := by
  intro args K c h fl A aargs hA hN R hl
  unfold G69 at h
  generalize ht : c.tm = tm at h
  revert h
  refine cA_in ?_; rintro l2_ r1_ rfl
  refine cP_in ?_; rintro p1 r3_ rfl
  refine cP_in ?_; rintro p2 r4_ rfl
  refine cP_in ?_; rintro p3 r5_ rfl
  refine dN_in ?_; rintro rfl
  refine dN_in ?_; rintro rfl
  refine dE_in ?_; rintro rfl
  intro h
  refine fun_ok (nt := 94) (x := bodyOf Tryz.f69) (Γ := Γ69) (H := H69) (WW := W69) (rs := [.cell 2 25, .tmp 3, .tmp 4]) (shs := [.ag [.own .int, .own .int, .own .int], .own .int, .bl]) (cons := []) mixed Tryz.func69 (by decide) (by kernel_rfl) Tryz.ntmps69 Tryz.results69 (.cons (useC_ok s74) (.cons (useC_ok s139) (.cons (useC_ok s140) (.cons (useC_ok (onlyC_ok s141)) (GSound.nil))))) ?_ hA hN R hl
  rw [ht, e69 p1 p2 p3 K]
  exact h
/-! impl.CountLive -/
def G70 : Con := fun args tm K => cA args fun l2_ r1_ => cP .int l2_ fun p1 r3_ => cP .int r3_ fun p2 r4_ => cP .int r4_ fun p3 r5_ => dNil r5_ <| dNil r1_ <| dEnd tm <| Mi_CountLive p1 p2 p3 (fun r1 => K (.int .i64 r1) [])
def H70_0 : LH where
  keep := [(3, .x), (7, .own .bool), (8, .x), (9, .x)]
  S := Int × Int × Int × List Bool
  enc := fun s => ([.int .i64 s.1, .sl 0, .int .i64 s.2.1, .int .i64 s.2.2.1], [⟨true, .list .bool s.2.2.2⟩])
  dec := fun vs tm K => cI .i64 vs fun q0 r1_ => cL 0 r1_ fun r2_ => cI .i64 r2_ fun q1 r3_ => cI .i64 r3_ fun q2 r4_ => dNil r4_ <| bL true .bool tm fun q3 m5_ => dEnd m5_ <| K (q0, q1, q2, q3)
  law := by
    intro vs tm K
    refine cI_in ?_; rintro q0 r1_ rfl
    refine cL_in ?_; rintro r2_ rfl
    refine cI_in ?_; rintro q1 r3_ rfl
    refine cI_in ?_; rintro q2 r4_ rfl
    refine dN_in ?_; rintro rfl
    refine bL_in ?_; rintro q3 m5_ rfl
    refine dE_in ?_; rintro rfl
    exact fun h => ⟨(q0, q1, q2, q3), rfl, h⟩
def H70 : List (Nat × LH) := [(0, H70_0)]
def W70 : List (Nat × List (Nat × List Nat)) := []
def Γ70 : List (Nat × Con) := [(95, useC [.ag [.pure .int, .pure .int, .pure .int]] G95)]
theorem e70 (p1 : List Int) (p2 : List Int) (p3 : List Int) (K : TV → TMem → Prop) : TW PP 18 Γ70 H70 W70 (List.length ([] : TMem)) (bodyOf Tryz.f70) (endT PP 18 [.tmp 2] [.x] [] (List.length ([] : TMem)) K) (argsF [.agg [.pl .int p1, .pl .int p2, .pl .int p3]]) [] =
    Mi_CountLive p1 p2 p3 (fun r1 => K (.int .i64 r1) []) := by kernel_rfl
theorem s70 : CSound PP 70 G70 := by
  intro args K c h fl A aargs hA hN R hl
  unfold G70 at h
  generalize ht : c.tm = tm at h
  revert h
  refine cA_in ?_; rintro l2_ r1_ rfl
  refine cP_in ?_; rintro p1 r3_ rfl
  refine cP_in ?_; rintro p2 r4_ rfl
  refine cP_in ?_; rintro p3 r5_ rfl
  refine dN_in ?_; rintro rfl
  refine dN_in ?_; rintro rfl
  refine dE_in ?_; rintro rfl
  intro h
  refine fun_ok (nt := 18) (x := bodyOf Tryz.f70) (Γ := Γ70) (H := H70) (WW := W70) (rs := [.tmp 2]) (shs := [.x]) (cons := []) mixed Tryz.func70 (by decide) (by kernel_rfl) Tryz.ntmps70 Tryz.results70 (.cons (useC_ok s95) (GSound.nil)) ?_ hA hN R hl
  rw [ht, e70 p1 p2 p3 K]
  exact h
/-! impl.HeapsAlike -/
def G21 : Con := fun args tm K => cA args fun l2_ r1_ => cP .int l2_ fun p1 r3_ => cP .int r3_ fun p2 r4_ => cP .int r4_ fun p3 r5_ => dNil r5_ <| cA r1_ fun l7_ r6_ => cP .int l7_ fun p4 r8_ => cP .int r8_ fun p5 r9_ => cP .int r9_ fun p6 r10_ => dNil r10_ <| dNil r6_ <| dEnd tm <| Mi_HeapsAlike p1 p2 p3 p4 p5 p6 (fun r1 => K (.bool r1) [])
def H21 : List (Nat × LH) := []
def W21 : List (Nat × List (Nat × List Nat)) := [(2000004, [(0, [21, 25, 32, 36])])]
def Γ21 : List (Nat × Con) := [(69, useC [.ag [.pure .int, .pure .int, .pure .int]] G69), (70, useC [.ag [.pure .int, .pure .int, .pure .int]] G70), (71, useC [.pure .int, .pure .int] G71)]
theorem e21 (p1 : List Int) (p2 : List Int) (p3 : List Int) (p4 : List Int) (p5 : List Int) (p6 : List Int) (K : TV → TMem → Prop) : TW PP 65 Γ21 H21 W21 (List.length ([] : TMem)) (bodyOf Tryz.f21) (endT PP 65 [.tmp 4] [.bl] [] (List.length ([] : TMem)) K) (argsF [.agg [.pl .int p1, .pl .int p2, .pl .int p3], .agg [.pl .int p4, .pl .int p5, .pl .int p6]]) [] =
    Mi_HeapsAlike p1 p2 p3 p4 p5 p6 (fun r1 => K (.bool r1) []) := by kernel_rfl
theorem s21 : CSound PP 21 G21 := by
  intro args K c h fl A aargs hA hN R hl
  unfold G21 at h
  generalize ht : c.tm = tm at h
  revert h
  refine cA_in ?_; rintro l2_ r1_ rfl
  refine cP_in ?_; rintro p1 r3_ rfl
  refine cP_in ?_; rintro p2 r4_ rfl
  refine cP_in ?_; rintro p3 r5_ rfl
  refine dN_in ?_; rintro rfl
  refine cA_in ?_; rintro l7_ r6_ rfl
  refine cP_in ?_; rintro p4 r8_ rfl
  refine cP_in ?_; rintro p5 r9_ rfl
  refine cP_in ?_; rintro p6 r10_ rfl
  refine dN_in ?_; rintro rfl
  refine dN_in ?_; rintro rfl
  refine dE_in ?_; rintro rfl
  intro h
  refine fun_ok (nt := 65) (x := bodyOf Tryz.f21) (Γ := Γ21) (H := H21) (WW := W21) (rs := [.tmp 4]) (shs := [.bl]) (cons := []) mixed Tryz.func21 (by decide) (by kernel_rfl) Tryz.ntmps21 Tryz.results21 (.cons (useC_ok s69) (.cons (useC_ok s70) (.cons (useC_ok s71) (GSound.nil)))) ?_ hA hN R hl
  rw [ht, e21 p1 p2 p3 p4 p5 p6 K]
  exact h
/-! laws.FnSameLive -/
def G5 : Con := fun args tm K => cP .byte args fun p1 r1_ => dNil r1_ <| dEnd tm <| Ml_FnSameLive p1 (fun r1 => K (.bool r1) [])
def H5_1000009 : LH where
  keep := [(3, .pc [.own .int, .own .int, .own .int, .own .int, .x, .own .int, .x, .own .op, .x, .bl]), (10, .pc [.own .int, .own .int, .own .int, .own .int, .x, .own .int, .x, .own .op, .x, .bl])]
  S := Int × Int × Int × Bool × Int × Int × Int × Bool × List Int × List Int × List Int × List Int × List Int × List OpV × List Int × List Int × List Int × List Int × List Int × List OpV
  enc := fun s => ([.ptr 0 0, .ptr 1 0], [⟨true, .cells [.sl 2, .sl 3, .sl 4, .sl 5, .int .i64 s.1, .sl 6, .int .i64 s.2.1, .sl 7, .int .i64 s.2.2.1, .bool s.2.2.2.1]⟩, ⟨true, .cells [.sl 8, .sl 9, .sl 10, .sl 11, .int .i64 s.2.2.2.2.1, .sl 12, .int .i64 s.2.2.2.2.2.1, .sl 13, .int .i64 s.2.2.2.2.2.2.1, .bool s.2.2.2.2.2.2.2.1]⟩, ⟨true, .list .int s.2.2.2.2.2.2.2.2.1⟩, ⟨true, .list .int s.2.2.2.2.2.2.2.2.2.1⟩, ⟨true, .list .int s.2.2.2.2.2.2.2.2.2.2.1⟩, ⟨true, .list .int s.2.2.2.2.2.2.2.2.2.2.2.1⟩, ⟨true, .list .int s.2.2.2.2.2.2.2.2.2.2.2.2.1⟩, ⟨true, .list .op s.2.2.2.2.2.2.2.2.2.2.2.2.2.1⟩, ⟨true, .list .int s.2.2.2.2.2.2.2.2.2.2.2.2.2.2.1⟩, ⟨true, .list .int s.2.2.2.2.2.2.2.2.2.2.2.2.2.2.2.1⟩, ⟨true, .list .int s.2.2.2.2.2.2.2.2.2.2.2.2.2.2.2.2.1⟩, ⟨true, .list .int s.2.2.2.2.2.2.2.2.2.2.2.2.2.2.2.2.2.1⟩, ⟨true, .list .int s.2.2.2.2.2.2.2.2.2.2.2.2.2.2.2.2.2.2.1⟩, ⟨true, .list .op s.2.2.2.2.2.2.2.2.2.2.2.2.2.2.2.2.2.2.2⟩])
  dec := fun vs tm K => cQ 0 vs fun r1_ => cQ 1 r1_ fun r2_ => dNil r2_ <| bC true tm fun c4_ m3_ => cL 2 c4_ fun r5_ => cL 3 r5_ fun r6_ => cL 4 r6_ fun r7_ => cL 5 r7_ fun r8_ => cI .i64 r8_ fun q0 r9_ => cL 6 r9_ fun r10_ => cI .i64 r10_ fun q1 r11_ => cL 7 r11_ fun r12_ => cI .i64 r12_ fun q2 r13_ => cB r13_ fun q3 r14_ => dNil r14_ <| bC true m3_ fun c16_ m15_ => cL 8 c16_ fun r17_ => cL 9 r17_ fun r18_ => cL 10 r18_ fun r19_ => cL 11 r19_ fun r20_ => cI .i64 r20_ fun q4 r21_ => cL 12 r21_ fun r22_ => cI .i64 r22_ fun q5 r23_ => cL 13 r23_ fun r24_ => cI .i64 r24_ fun q6 r25_ => cB r25_ fun q7 r26_ => dNil r26_ <| bL true .int m15_ fun q8 m27_ => bL true .int m27_ fun q9 m28_ => bL true .int m28_ fun q10 m29_ => bL true .int m29_ fun q11 m30_ => bL true .int m30_ fun q12 m31_ => bL true .op m31_ fun q13 m32_ => bL true .int m32_ fun q14 m33_ => bL true .int m33_ fun q15 m34_ => bL true .int m34_ fun q16 m35_ => bL true .int m35_ fun q17 m36_ => bL true .int m36_ fun q18 m37_ => bL true .op m37_ fun q19 m38_ => dEnd m38_ <| K (q0, q1, q2, q3, q4, q5, q6, q7, q8, q9, q10, q11, q12, q13, q14, q15, q16, q17, q18, q19)
  law := by
    intro vs tm K
    refine cQ_in ?_; rintro r1_ rfl
    refine cQ_in ?_; rintro r2_ rfl
    refine dN_in ?_; rintro rfl
    refine bC_in ?_; rintro c4_ m3_ rfl
    refine cL_in ?_; rintro r5_ rfl
    refine cL_in ?_; rintro r6_ rfl
    refine cL_in ?_; rintro r7_ rfl
    refine cL_in ?_; rintro r8_ rfl
    refine cI_in ?_; rintro q0 r9_ rfl
    refine cL_in ?_; rintro r10_ rfl
    refine cI_in ?_; rintro q1 r11_ rfl
    refine cL_in ?_; rintro r12_ rfl
    refine cI_in ?_; rintro q2 r13_ rfl
    refine cB_in ?_; rintro q3 r14_ rfl
    refine dN_in ?_; rintro rfl
    refine bC_in ?_; rintro c16_ m15_ rfl
    refine cL_in ?_; rintro r17_ rfl
    refine cL_in ?_; rintro r18_ rfl
    refine cL_in ?_; rintro r19_ rfl
    refine cL_in ?_; rintro r20_ rfl
    refine cI_in ?_; rintro q4 r21_ rfl
    refine cL_in ?_; rintro r22_ rfl
    refine cI_in ?_; rintro q5 r23_ rfl
    refine cL_in ?_; rintro r24_ rfl
    refine cI_in ?_; rintro q6 r25_ rfl
    refine cB_in ?_; rintro q7 r26_ rfl
    refine dN_in ?_; rintro rfl
    refine bL_in ?_; rintro q8 m27_ rfl
    refine bL_in ?_; rintro q9 m28_ rfl
    refine bL_in ?_; rintro q10 m29_ rfl
    refine bL_in ?_; rintro q11 m30_ rfl
    refine bL_in ?_; rintro q12 m31_ rfl
    refine bL_in ?_; rintro q13 m32_ rfl
    refine bL_in ?_; rintro q14 m33_ rfl
    refine bL_in ?_; rintro q15 m34_ rfl
    refine bL_in ?_; rintro q16 m35_ rfl
    refine bL_in ?_; rintro q17 m36_ rfl
    refine bL_in ?_; rintro q18 m37_ rfl
    refine bL_in ?_; rintro q19 m38_ rfl
    refine dE_in ?_; rintro rfl
    exact fun h => ⟨(q0, q1, q2, q3, q4, q5, q6, q7, q8, q9, q10, q11, q12, q13, q14, q15, q16, q17, q18, q19), rfl, h⟩
def H5 : List (Nat × LH) := [(1000009, H5_1000009)]
def W5 : List (Nat × List (Nat × List Nat)) := [(2000009, [(0, [6])])]
def Γ5 : List (Nat × Con) := [(19, useC [.pure .byte] G19), (12, useC [.ag [.pure .int, .pure .int, .pure .int, .pure .int, .x, .pure .int, .x, .pure .op, .x, .bl], .x, .bl] G12), (14, useC [.ag [.pure .int, .pure .int, .pure .int, .pure .int, .x, .pure .int, .x, .pure .op, .x, .bl], .x, .bl] G14), (10, useC [.ag [.pure .int, .pure .int, .pure .int, .pure .int, .x, .pure .int, .x, .pure .op, .x, .bl], .ag [.pure .int, .pure .int, .pure .int, .pure .int, .x, .pure .int, .x, .pure .op, .x, .bl]] G10), (20, useC [.ag [.pure .int, .pure .int, .pure .int, .pure .int], .pure .op] G20), (21, useC [.ag [.pure .int, .pure .int, .pure .int], .ag [.pure .int, .pure .int, .pure .int]] G21)]
theorem e5 (p1 : List Int) (K : TV → TMem → Prop) : TW PP 91 Γ5 H5 W5 (List.length ([] : TMem)) (bodyOf Tryz.f5) (endT PP 91 [.tmp 2] [.bl] [] (List.length ([] : TMem)) K) (argsF [.pl .byte p1]) [] =
    Ml_FnSameLive p1 (fun r1 => K (.bool r1) []) := by kernel_rfl
theorem s5 : CSound PP 5 G5 := by
  intro args K c h fl A aargs hA hN R hl
  unfold G5 at h
  generalize ht : c.tm = tm at h
  revert h
  refine cP_in ?_; rintro p1 r1_ rfl
  refine dN_in ?_; rintro rfl
  refine dE_in ?_; rintro rfl
  intro h
  refine fun_ok (nt := 91) (x := bodyOf Tryz.f5) (Γ := Γ5) (H := H5) (WW := W5) (rs := [.tmp 2]) (shs := [.bl]) (cons := []) mixed Tryz.func5 (by decide) (by kernel_rfl) Tryz.ntmps5 Tryz.results5 (.cons (useC_ok s19) (.cons (useC_ok s12) (.cons (useC_ok s14) (.cons (useC_ok s10) (.cons (useC_ok s20) (.cons (useC_ok s21) (GSound.nil))))))) ?_ hA hN R hl
  rw [ht, e5 p1 K]
  exact h
end Go.Ab
