/-
  What is proved here: that the typed models of functions of the translated program are sound.
-/
import Derived.Test.YtggomedoeahdnaaGreatDoorGSFnExactRunBoth
import Derived.Test.YtggomedoeahdnaaGreatDoorProg
import Derived.KernelRfl
namespace Go.Ab
set_option linter.unusedVariables false
open Go.Proofs
/-! laws.eqHeap -/
def G123 : Con := fun args tm K => cA args fun l2_ r1_ => cP .int l2_ fun p1 r3_ => cP .int r3_ fun p2 r4_ => cP .int r4_ fun p3 r5_ => dNil r5_ <| cA r1_ fun l7_ r6_ => cP .int l7_ fun p4 r8_ => cP .int r8_ fun p5 r9_ => cP .int r9_ fun p6 r10_ => dNil r10_ <| dNil r6_ <| dEnd tm <| Ml_eqHeap p1 p2 p3 p4 p5 p6 (fun r1 => K (.bool r1) [])
def H123 : List (Nat × LH) := []
def W123 : List (Nat × List (Nat × List Nat)) := []
def Γ123 : List (Nat × Con) := [(124, useC [.pure .int, .pure .int] G124)]
theorem e123 (p1 : List Int) (p2 : List Int) (p3 : List Int) (p4 : List Int) (p5 : List Int) (p6 : List Int) (K : TV → TMem → Prop) : TW PP 23 Γ123 H123 W123 (List.length ([] : TMem)) (bodyOf Tryz.f123) (endT PP 23 [.tmp 4] [.bl] [] (List.length ([] : TMem)) K) (argsF [.agg [.pl .int p1, .pl .int p2, .pl .int p3], .agg [.pl .int p4, .pl .int p5, .pl .int p6]]) [] =
    Ml_eqHeap p1 p2 p3 p4 p5 p6 (fun r1 => K (.bool r1) []) := by kernel_rfl
theorem s123 : CSound PP 123 G123 := by
  intro args K c h fl A aargs hA hN R hl
  unfold G123 at h
  generalize ht : c.tm = tm at h
  revert h
  refine cA_in ?_; rintro l2_ r1_ rfl
  refine cP_in ?_; rintro p1 r3_ rfl
  refine cP_in ?_; rintro p2 r4_ rfl
  refine cP_in ?_; rintro p3 r5_ rfl
  refine dN_in ?_; rintro rfl
  refine cA_in ?_; rintro l7_ r6_ rfl
  refine cP_in ?_; rintro p4 r8_ rfl
  refine cP_in ?_; rintro p5 r9_ rfl
  refine cP_in ?_; rintro p6 r10_ rfl
  refine dN_in ?_; rintro rfl
  refine dN_in ?_; rintro rfl
  refine dE_in ?_; rintro rfl
  intro h
  refine fun_ok (nt := 23) (x := bodyOf Tryz.f123) (Γ := Γ123) (H := H123) (WW := W123) (rs := [.tmp 4]) (shs := [.bl]) (cons := []) mixed Tryz.func123 (by decide) (by kernel_rfl) Tryz.ntmps123 Tryz.results123 (.cons (useC_ok s124) (GSound.nil)) ?_ hA hN R hl
  rw [ht, e123 p1 p2 p3 p4 p5 p6 K]
  exact h
/-! laws.eqStore -/
def G55 : Con := fun args tm K => cA args fun l2_ r1_ => cP .int l2_ fun p1 r3_ => cP .int r3_ fun p2 r4_ => cP .int r4_ fun p3 r5_ => cP .int r5_ fun p4 r6_ => dNil r6_ <| cA r1_ fun l8_ r7_ => cP .int l8_ fun p5 r9_ => cP .int r9_ fun p6 r10_ => cP .int r10_ fun p7 r11_ => cP .int r11_ fun p8 r12_ => dNil r12_ <| dNil r7_ <| dEnd tm <| Ml_eqStore p1 p2 p3 p4 p5 p6 p7 p8 (fun r1 => K (.bool r1) [])
def H55 : List (Nat × LH) := []
def W55 : List (Nat × List (Nat × List Nat)) := []
def Γ55 : List (Nat × Con) := [(123, useC [.ag [.pure .int, .pure .int, .pure .int], .ag [.pure .int, .pure .int, .pure .int]] G123), (124, useC [.pure .int, .pure .int] G124)]
theorem e55 (p1 : List Int) (p2 : List Int) (p3 : List Int) (p4 : List Int) (p5 : List Int) (p6 : List Int) (p7 : List Int) (p8 : List Int) (K : TV → TMem → Prop) : TW PP 17 Γ55 H55 W55 (List.length ([] : TMem)) (bodyOf Tryz.f55) (endT PP 17 [.tmp 4] [.bl] [] (List.length ([] : TMem)) K) (argsF [.agg [.pl .int p1, .pl .int p2, .pl .int p3, .pl .int p4], .agg [.pl .int p5, .pl .int p6, .pl .int p7, .pl .int p8]]) [] =
    Ml_eqStore p1 p2 p3 p4 p5 p6 p7 p8 (fun r1 => K (.bool r1) []) := by kernel_rfl
theorem s55 : CSound PP 55 G55 := by
  intro args K c h fl A aargs hA hN R hl
  unfold G55 at h
  generalize ht : c.tm = tm at h
  revert h
  refine cA_in ?_; rintro l2_ r1_ rfl
  refine cP_in ?_; rintro p1 r3_ rfl
  refine cP_in ?_; rintro p2 r4_ rfl
  refine cP_in ?_; rintro p3 r5_ rfl
  refine cP_in ?_; rintro p4 r6_ rfl
  refine dN_in ?_; rintro rfl
  refine cA_in ?_; rintro l8_ r7_ rfl
  refine cP_in ?_; rintro p5 r9_ rfl
  refine cP_in ?_; rintro p6 r10_ rfl
  refine cP_in ?_; rintro p7 r11_ rfl
  refine cP_in ?_; rintro p8 r12_ rfl
  refine dN_in ?_; rintro rfl
  refine dN_in ?_; rintro rfl
  refine dE_in ?_; rintro rfl
  intro h
  refine fun_ok (nt := 17) (x := bodyOf Tryz.f55) (Γ := Γ55) (H := H55) (WW := W55) (rs := [.tmp 4]) (shs := [.bl]) (cons := []) mixed Tryz.func55 (by decide) (by kernel_rfl) Tryz.ntmps55 Tryz.results55 (.cons (useC_ok s123) (.cons (useC_ok s124) (GSound.nil))) ?_ hA hN R hl
  rw [ht, e55 p1 p2 p3 p4 p5 p6 p7 p8 K]
  exact h
/-! laws.eqGc -/
def G56 : Con := fun args tm K => cA args fun l2_ r1_ => cI .i64 l2_ fun p1 r3_ => cP .int r3_ fun p2 r4_ => cI .i64 r4_ fun p3 r5_ => dNil r5_ <| cA r1_ fun l7_ r6_ => cI .i64 l7_ fun p4 r8_ => cP .int r8_ fun p5 r9_ => cI .i64 r9_ fun p6 r10_ => dNil r10_ <| dNil r6_ <| dEnd tm <| Ml_eqGc p1 p2 p3 p4 p5 p6 (fun r1 => K (.bool r1) [])
def H56 : List (Nat × LH) := []
def W56 : List (Nat × List (Nat × List Nat)) := []
def Γ56 : List (Nat × Con) := [(124, useC [.pure .int, .pure .int] G124)]
theorem e56 (p1 : Int) (p2 : List Int) (p3 : Int) (p4 : Int) (p5 : List Int) (p6 : Int) (K : TV → TMem → Prop) : TW PP 21 Γ56 H56 W56 (List.length ([] : TMem)) (bodyOf Tryz.f56) (endT PP 21 [.tmp 4] [.bl] [] (List.length ([] : TMem)) K) (argsF [.agg [.int .i64 p1, .pl .int p2, .int .i64 p3], .agg [.int .i64 p4, .pl .int p5, .int .i64 p6]]) [] =
    Ml_eqGc p1 p2 p3 p4 p5 p6 (fun r1 => K (.bool r1) []) := by kernel_rfl
theorem s56 : CSound PP 56 G56 := by
  intro args K c h fl A aargs hA hN R hl
  unfold G56 at h
  generalize ht : c.tm = tm at h
  revert h
  refine cA_in ?_; rintro l2_ r1_ rfl
  refine cI_in ?_; rintro p1 r3_ rfl
  refine cP_in ?_; rintro p2 r4_ rfl
  refine cI_in ?_; rintro p3 r5_ rfl
  refine dN_in ?_; rintro rfl
  refine cA_in ?_; rintro l7_ r6_ rfl
  refine cI_in ?_; rintro p4 r8_ rfl
  refine cP_in ?_; rintro p5 r9_ rfl
  refine cI_in ?_; rintro p6 r10_ rfl
  refine dN_in ?_; rintro rfl
  refine dN_in ?_; rintro rfl
  refine dE_in ?_; rintro rfl
  intro h
  refine fun_ok (nt := 21) (x := bodyOf Tryz.f56) (Γ := Γ56) (H := H56) (WW := W56) (rs := [.tmp 4]) (shs := [.bl]) (cons := []) mixed Tryz.func56 (by decide) (by kernel_rfl) Tryz.ntmps56 Tryz.results56 (.cons (useC_ok s124) (GSound.nil)) ?_ hA hN R hl
  rw [ht, e56 p1 p2 p3 p4 p5 p6 K]
  exact h
/-! laws.eqOp -/
def G125 : Con := fun args tm K => cA args fun l2_ r1_ => cI .i64 l2_ fun p1 r3_ => cI .i64 r3_ fun p2 r4_ => cI .i64 r4_ fun p3 r5_ => dNil r5_ <| cA r1_ fun l7_ r6_ => cI .i64 l7_ fun p4 r8_ => cI .i64 r8_ fun p5 r9_ => cI .i64 r9_ fun p6 r10_ => dNil r10_ <| dNil r6_ <| dEnd tm <| Ml_eqOp p1 p2 p3 p4 p5 p6 (fun r1 => K (.bool r1) [])
def H125 : List (Nat × LH) := []
def W125 : List (Nat × List (Nat × List Nat)) := []
def Γ125 : List (Nat × Con) := []
theorem e125 (p1 : Int) (p2 : Int) (p3 : Int) (p4 : Int) (p5 : Int) (p6 : Int) (K : TV → TMem → Prop) : TW PP 20 Γ125 H125 W125 (List.length ([] : TMem)) (bodyOf Tryz.f125) (endT PP 20 [.tmp 4] [.bl] [] (List.length ([] : TMem)) K) (argsF [.agg [.int .i64 p1, .int .i64 p2, .int .i64 p3], .agg [.int .i64 p4, .int .i64 p5, .int .i64 p6]]) [] =
    Ml_eqOp p1 p2 p3 p4 p5 p6 (fun r1 => K (.bool r1) []) := by kernel_rfl
theorem s125 : CSound PP 125 G125 := by
  intro args K c h fl A aargs hA hN R hl
  unfold G125 at h
  generalize ht : c.tm = tm at h
  revert h
  refine cA_in ?_; rintro l2_ r1_ rfl
  refine cI_in ?_; rintro p1 r3_ rfl
  refine cI_in ?_; rintro p2 r4_ rfl
  refine cI_in ?_; rintro p3 r5_ rfl
  refine dN_in ?_; rintro rfl
  refine cA_in ?_; rintro l7_ r6_ rfl
  refine cI_in ?_; rintro p4 r8_ rfl
  refine cI_in ?_; rintro p5 r9_ rfl
  refine cI_in ?_; rintro p6 r10_ rfl
  refine dN_in ?_; rintro rfl
  refine dN_in ?_; rintro rfl
  refine dE_in ?_; rintro rfl
  intro h
  refine fun_ok (nt := 20) (x := bodyOf Tryz.f125) (Γ := Γ125) (H := H125) (WW := W125) (rs := [.tmp 4]) (shs := [.bl]) (cons := []) mixed Tryz.func125 (by decide) (by kernel_rfl) Tryz.ntmps125 Tryz.results125 (GSound.nil) ?_ hA hN R hl
  rw [ht, e125 p1 p2 p3 p4 p5 p6 K]
  exact h
/-! laws.eqOpS -/
def G57 : Con := fun args tm K => cP .op args fun p1 r1_ => cP .op r1_ fun p2 r2_ => dNil r2_ <| dEnd tm <| Ml_eqOpS p1 p2 (fun r1 => K (.bool r1) [])
def H57_0 : LH where
  keep := [(0, .pure .op), (1, .pure .op), (5, .x)]
  S := List OpV × List OpV × Int
  enc := fun s => ([.pl .op s.1, .pl .op s.2.1, .int .i64 s.2.2], [])
  dec := fun vs tm K => cP .op vs fun q0 r1_ => cP .op r1_ fun q1 r2_ => cI .i64 r2_ fun q2 r3_ => dNil r3_ <| dEnd tm <| K (q0, q1, q2)
  law := by
    intro vs tm K
    refine cP_in ?_; rintro q0 r1_ rfl
    refine cP_in ?_; rintro q1 r2_ rfl
    refine cI_in ?_; rintro q2 r3_ rfl
    refine dN_in ?_; rintro rfl
    refine dE_in ?_; rintro rfl
    exact fun h => ⟨(q0, q1, q2), rfl, h⟩
def H57 : List (Nat × LH) := [(0, H57_0)]
def W57 : List (Nat × List (Nat × List Nat)) := []
def Γ57 : List (Nat × Con) := [(125, useC [.ag [.x, .x, .x], .ag [.x, .x, .x]] G125)]
theorem e57 (p1 : List OpV) (p2 : List OpV) (K : TV → TMem → Prop) : TW PP 27 Γ57 H57 W57 (List.length ([] : TMem)) (bodyOf Tryz.f57) (endT PP 27 [.tmp 4] [.bl] [] (List.length ([] : TMem)) K) (argsF [.pl .op p1, .pl .op p2]) [] =
    Ml_eqOpS p1 p2 (fun r1 => K (.bool r1) []) := by kernel_rfl
theorem s57 : CSound PP 57 G57 := by
  intro args K c h fl A aargs hA hN R hl
  unfold G57 at h
  generalize ht : c.tm = tm at h
  revert h
  refine cP_in ?_; rintro p1 r1_ rfl
  refine cP_in ?_; rintro p2 r2_ rfl
  refine dN_in ?_; rintro rfl
  refine dE_in ?_; rintro rfl
  intro h
  refine fun_ok (nt := 27) (x := bodyOf Tryz.f57) (Γ := Γ57) (H := H57) (WW := W57) (rs := [.tmp 4]) (shs := [.bl]) (cons := []) mixed Tryz.func57 (by decide) (by kernel_rfl) Tryz.ntmps57 Tryz.results57 (.cons (useC_ok s125) (GSound.nil)) ?_ hA hN R hl
  rw [ht, e57 p1 p2 K]
  exact h
/-! laws.eqBoth -/
def G16 : Con := fun args tm K => cA args fun l2_ r1_ => cP .int l2_ fun p1 r3_ => cP .int r3_ fun p2 r4_ => cP .int r4_ fun p3 r5_ => cP .int r5_ fun p4 r6_ => cI .i64 r6_ fun p5 r7_ => cP .int r7_ fun p6 r8_ => cI .i64 r8_ fun p7 r9_ => cP .op r9_ fun p8 r10_ => cI .i64 r10_ fun p9 r11_ => cB r11_ fun p10 r12_ => dNil r12_ <| cA r1_ fun l14_ r13_ => cP .int l14_ fun p11 r15_ => cP .int r15_ fun p12 r16_ => cP .int r16_ fun p13 r17_ => cP .int r17_ fun p14 r18_ => cI .i64 r18_ fun p15 r19_ => cP .int r19_ fun p16 r20_ => cI .i64 r20_ fun p17 r21_ => cP .op r21_ fun p18 r22_ => cI .i64 r22_ fun p19 r23_ => cB r23_ fun p20 r24_ => dNil r24_ <| dNil r13_ <| dEnd tm <| Ml_eqBoth p1 p2 p3 p4 p5 p6 p7 p8 p9 p10 p11 p12 p13 p14 p15 p16 p17 p18 p19 p20 (fun r1 => K (.bool r1) [])
def H16 : List (Nat × LH) := []
def W16 : List (Nat × List (Nat × List Nat)) := []
def Γ16 : List (Nat × Con) := [(55, useC [.ag [.pure .int, .pure .int, .pure .int, .pure .int], .ag [.pure .int, .pure .int, .pure .int, .pure .int]] G55), (56, useC [.ag [.x, .pure .int, .x], .ag [.x, .pure .int, .x]] G56), (57, useC [.pure .op, .pure .op] G57)]
theorem e16 (p1 : List Int) (p2 : List Int) (p3 : List Int) (p4 : List Int) (p5 : Int) (p6 : List Int) (p7 : Int) (p8 : List OpV) (p9 : Int) (p10 : Bool) (p11 : List Int) (p12 : List Int) (p13 : List Int) (p14 : List Int) (p15 : Int) (p16 : List Int) (p17 : Int) (p18 : List OpV) (p19 : Int) (p20 : Bool) (K : TV → TMem → Prop) : TW PP 33 Γ16 H16 W16 (List.length ([] : TMem)) (bodyOf Tryz.f16) (endT PP 33 [.tmp 4] [.bl] [] (List.length ([] : TMem)) K) (argsF [.agg [.pl .int p1, .pl .int p2, .pl .int p3, .pl .int p4, .int .i64 p5, .pl .int p6, .int .i64 p7, .pl .op p8, .int .i64 p9, .bool p10], .agg [.pl .int p11, .pl .int p12, .pl .int p13, .pl .int p14, .int .i64 p15, .pl .int p16, .int .i64 p17, .pl .op p18, .int .i64 p19, .bool p20]]) [] =
    Ml_eqBoth p1 p2 p3 p4 p5 p6 p7 p8 p9 p10 p11 p12 p13 p14 p15 p16 p17 p18 p19 p20 (fun r1 => K (.bool r1) []) := by kernel_rfl
theorem s16 : CSound PP 16 G16 := by
  intro args K c h fl A aargs hA hN R hl
  unfold G16 at h
  generalize ht : c.tm = tm at h
  revert h
  refine cA_in ?_; rintro l2_ r1_ rfl
  refine cP_in ?_; rintro p1 r3_ rfl
  refine cP_in ?_; rintro p2 r4_ rfl
  refine cP_in ?_; rintro p3 r5_ rfl
  refine cP_in ?_; rintro p4 r6_ rfl
  refine cI_in ?_; rintro p5 r7_ rfl
  refine cP_in ?_; rintro p6 r8_ rfl
  refine cI_in ?_; rintro p7 r9_ rfl
  refine cP_in ?_; rintro p8 r10_ rfl
  refine cI_in ?_; rintro p9 r11_ rfl
  refine cB_in ?_; rintro p10 r12_ rfl
  refine dN_in ?_; rintro rfl
  refine cA_in ?_; rintro l14_ r13_ rfl
  refine cP_in ?_; rintro p11 r15_ rfl
  refine cP_in ?_; rintro p12 r16_ rfl
  refine cP_in ?_; rintro p13 r17_ rfl
  refine cP_in ?_; rintro p14 r18_ rfl
  refine cI_in ?_; rintro p15 r19_ rfl
  refine cP_in ?_; rintro p16 r20_ rfl
  refine cI_in ?_; rintro p17 r21_ rfl
  refine cP_in ?_; rintro p18 r22_ rfl
  refine cI_in ?_; rintro p19 r23_ rfl
  refine cB_in ?_; rintro p20 r24_ rfl
  refine dN_in ?_; rintro rfl
  refine dN_in ?_; rintro rfl
  refine dE_in ?_; rintro rfl
  intro h
  refine fun_ok (nt := 33) (x := bodyOf Tryz.f16) (Γ := Γ16) (H := H16) (WW := W16) (rs := [.tmp 4]) (shs := [.bl]) (cons := []) mixed Tryz.func16 (by decide) (by kernel_rfl) Tryz.ntmps16 Tryz.results16 (.cons (useC_ok s55) (.cons (useC_ok s56) (.cons (useC_ok s57) (GSound.nil)))) ?_ hA hN R hl
  rw [ht, e16 p1 p2 p3 p4 p5 p6 p7 p8 p9 p10 p11 p12 p13 p14 p15 p16 p17 p18 p19 p20 K]
  exact h
/-! laws.markIntS -/
def G127 : Con := fun args tm K => cL 0 args fun r1_ => cI .i64 r1_ fun p1 r2_ => dNil r2_ <| bL true .int tm fun p2 m3_ => dEnd m3_ <| Ml_markIntS p1 p2 (fun r1 r2 => K (.int .i64 r1) [⟨true, .list .int r2⟩])
def H127_0 : LH where
  keep := [(0, .own .int), (1, .x), (5, .x)]
  S := Int × Int × List Int
  enc := fun s => ([.sl 0, .int .i64 s.1, .int .i64 s.2.1], [⟨true, .list .int s.2.2⟩])
  dec := fun vs tm K => cL 0 vs fun r1_ => cI .i64 r1_ fun q0 r2_ => cI .i64 r2_ fun q1 r3_ => dNil r3_ <| bL true .int tm fun q2 m4_ => dEnd m4_ <| K (q0, q1, q2)
  law := by
    intro vs tm K
    refine cL_in ?_; rintro r1_ rfl
    refine cI_in ?_; rintro q0 r2_ rfl
    refine cI_in ?_; rintro q1 r3_ rfl
    refine dN_in ?_; rintro rfl
    refine bL_in ?_; rintro q2 m4_ rfl
    refine dE_in ?_; rintro rfl
    exact fun h => ⟨(q0, q1, q2), rfl, h⟩
def H127 : List (Nat × LH) := [(0, H127_0)]
def W127 : List (Nat × List (Nat × List Nat)) := []
def Γ127 : List (Nat × Con) := []
theorem e127 (p1 : Int) (p2 : List Int) (K : TV → TMem → Prop) : TW PP 19 Γ127 H127 W127 (List.length ([⟨true, .list .int p2⟩] : TMem)) (bodyOf Tryz.f127) (endT PP 19 [.tmp 4] [.x] [] (List.length ([⟨true, .list .int p2⟩] : TMem)) K) (argsF [.sl 0, .int .i64 p1]) [⟨true, .list .int p2⟩] =
    Ml_markIntS p1 p2 (fun r1 r2 => K (.int .i64 r1) [⟨true, .list .int r2⟩]) := by kernel_rfl
theorem s127 : CSound PP 127 G127 := by
  intro args K c h fl A aargs hA hN R hl
  unfold G127 at h
  generalize ht : c.tm = tm at h
  revert h
  refine cL_in ?_; rintro r1_ rfl
  refine cI_in ?_; rintro p1 r2_ rfl
  refine dN_in ?_; rintro rfl
  refine bL_in ?_; rintro p2 m3_ rfl
  refine dE_in ?_; rintro rfl
  intro h
  refine fun_ok (nt := 19) (x := bodyOf Tryz.f127) (Γ := Γ127) (H := H127) (WW := W127) (rs := [.tmp 4]) (shs := [.x]) (cons := []) mixed Tryz.func127 (by decide) (by kernel_rfl) Tryz.ntmps127 Tryz.results127 (GSound.nil) ?_ hA hN R hl
  rw [ht, e127 p1 p2 K]
  exact h
/-! laws.markHeap -/
def G126 : Con := fun args tm K => cA args fun l2_ r1_ => cL 0 l2_ fun r3_ => cL 1 r3_ fun r4_ => cL 2 r4_ fun r5_ => dNil r5_ <| cI .i64 r1_ fun p1 r6_ => dNil r6_ <| bL true .int tm fun p2 m7_ => bL true .int m7_ fun p3 m8_ => bL true .int m8_ fun p4 m9_ => dEnd m9_ <| Ml_markHeap p1 p2 p3 p4 (fun r1 r2 r3 r4 => K (.int .i64 r1) [⟨true, .list .int r2⟩, ⟨true, .list .int r3⟩, ⟨true, .list .int r4⟩])
def H126 : List (Nat × LH) := []
def W126 : List (Nat × List (Nat × List Nat)) := []
def Γ126 : List (Nat × Con) := [(127, useC [.own .int, .x] G127)]
theorem e126 (p1 : Int) (p2 : List Int) (p3 : List Int) (p4 : List Int) (K : TV → TMem → Prop) : TW PP 18 Γ126 H126 W126 (List.length ([⟨true, .list .int p2⟩, ⟨true, .list .int p3⟩, ⟨true, .list .int p4⟩] : TMem)) (bodyOf Tryz.f126) (endT PP 18 [.tmp 4] [.x] [] (List.length ([⟨true, .list .int p2⟩, ⟨true, .list .int p3⟩, ⟨true, .list .int p4⟩] : TMem)) K) (argsF [.agg [.sl 0, .sl 1, .sl 2], .int .i64 p1]) [⟨true, .list .int p2⟩, ⟨true, .list .int p3⟩, ⟨true, .list .int p4⟩] =
    Ml_markHeap p1 p2 p3 p4 (fun r1 r2 r3 r4 => K (.int .i64 r1) [⟨true, .list .int r2⟩, ⟨true, .list .int r3⟩, ⟨true, .list .int r4⟩]) := by kernel_rfl
theorem s126 : CSound PP 126 G126 := by
  intro args K c h fl A aargs hA hN R hl
  unfold G126 at h
  generalize ht : c.tm = tm at h
  revert h
  refine cA_in ?_; rintro l2_ r1_ rfl
  refine cL_in ?_; rintro r3_ rfl
  refine cL_in ?_; rintro r4_ rfl
  refine cL_in ?_; rintro r5_ rfl
  refine dN_in ?_; rintro rfl
  refine cI_in ?_; rintro p1 r6_ rfl
  refine dN_in ?_; rintro rfl
  refine bL_in ?_; rintro p2 m7_ rfl
  refine bL_in ?_; rintro p3 m8_ rfl
  refine bL_in ?_; rintro p4 m9_ rfl
  refine dE_in ?_; rintro rfl
  intro h
  refine fun_ok (nt := 18) (x := bodyOf Tryz.f126) (Γ := Γ126) (H := H126) (WW := W126) (rs := [.tmp 4]) (shs := [.x]) (cons := []) mixed Tryz.func126 (by decide) (by kernel_rfl) Tryz.ntmps126 Tryz.results126 (.cons (useC_ok s127) (GSound.nil)) ?_ hA hN R hl
  rw [ht, e126 p1 p2 p3 p4 K]
  exact h
/-! laws.markStore -/
def G58 : Con := fun args tm K => cA args fun l2_ r1_ => cL 0 l2_ fun r3_ => cL 1 r3_ fun r4_ => cL 2 r4_ fun r5_ => cL 3 r5_ fun r6_ => dNil r6_ <| cI .i64 r1_ fun p1 r7_ => dNil r7_ <| bL true .int tm fun p2 m8_ => bL true .int m8_ fun p3 m9_ => bL true .int m9_ fun p4 m10_ => bL true .int m10_ fun p5 m11_ => dEnd m11_ <| Ml_markStore p1 p2 p3 p4 p5 (fun r1 r2 r3 r4 r5 => K (.int .i64 r1) [⟨true, .list .int r2⟩, ⟨true, .list .int r3⟩, ⟨true, .list .int r4⟩, ⟨true, .list .int r5⟩])
def H58 : List (Nat × LH) := []
def W58 : List (Nat × List (Nat × List Nat)) := []
def Γ58 : List (Nat × Con) := [(126, useC [.ag [.own .int, .own .int, .own .int], .x] G126), (127, useC [.own .int, .x] G127)]
theorem e58 (p1 : Int) (p2 : List Int) (p3 : List Int) (p4 : List Int) (p5 : List Int) (K : TV → TMem → Prop) : TW PP 14 Γ58 H58 W58 (List.length ([⟨true, .list .int p2⟩, ⟨true, .list .int p3⟩, ⟨true, .list .int p4⟩, ⟨true, .list .int p5⟩] : TMem)) (bodyOf Tryz.f58) (endT PP 14 [.tmp 4] [.x] [] (List.length ([⟨true, .list .int p2⟩, ⟨true, .list .int p3⟩, ⟨true, .list .int p4⟩, ⟨true, .list .int p5⟩] : TMem)) K) (argsF [.agg [.sl 0, .sl 1, .sl 2, .sl 3], .int .i64 p1]) [⟨true, .list .int p2⟩, ⟨true, .list .int p3⟩, ⟨true, .list .int p4⟩, ⟨true, .list .int p5⟩] =
    Ml_markStore p1 p2 p3 p4 p5 (fun r1 r2 r3 r4 r5 => K (.int .i64 r1) [⟨true, .list .int r2⟩, ⟨true, .list .int r3⟩, ⟨true, .list .int r4⟩, ⟨true, .list .int r5⟩]) := by kernel_rfl
theorem s58 : CSound PP 58 G58 := by
  intro args K c h fl A aargs hA hN R hl
  unfold G58 at h
  generalize ht : c.tm = tm at h
  revert h
  refine cA_in ?_; rintro l2_ r1_ rfl
  refine cL_in ?_; rintro r3_ rfl
  refine cL_in ?_; rintro r4_ rfl
  refine cL_in ?_; rintro r5_ rfl
  refine cL_in ?_; rintro r6_ rfl
  refine dN_in ?_; rintro rfl
  refine cI_in ?_; rintro p1 r7_ rfl
  refine dN_in ?_; rintro rfl
  refine bL_in ?_; rintro p2 m8_ rfl
  refine bL_in ?_; rintro p3 m9_ rfl
  refine bL_in ?_; rintro p4 m10_ rfl
  refine bL_in ?_; rintro p5 m11_ rfl
  refine dE_in ?_; rintro rfl
  intro h
  refine fun_ok (nt := 14) (x := bodyOf Tryz.f58) (Γ := Γ58) (H := H58) (WW := W58) (rs := [.tmp 4]) (shs := [.x]) (cons := []) mixed Tryz.func58 (by decide) (by kernel_rfl) Tryz.ntmps58 Tryz.results58 (.cons (useC_ok s126) (.cons (useC_ok s127) (GSound.nil))) ?_ hA hN R hl
  rw [ht, e58 p1 p2 p3 p4 p5 K]
  exact h
/-! laws.markGc -/
def G59 : Con := fun args tm K => cA args fun l2_ r1_ => cI .i64 l2_ fun p1 r3_ => cL 0 r3_ fun r4_ => cI .i64 r4_ fun p2 r5_ => dNil r5_ <| cI .i64 r1_ fun p3 r6_ => dNil r6_ <| bL true .int tm fun p4 m7_ => dEnd m7_ <| Ml_markGc p1 p2 p3 p4 (fun r1 r2 => K (.int .i64 r1) [⟨true, .list .int r2⟩])
def H59 : List (Nat × LH) := []
def W59 : List (Nat × List (Nat × List Nat)) := []
def Γ59 : List (Nat × Con) := [(127, useC [.own .int, .x] G127)]
theorem e59 (p1 : Int) (p2 : Int) (p3 : Int) (p4 : List Int) (K : TV → TMem → Prop) : TW PP 10 Γ59 H59 W59 (List.length ([⟨true, .list .int p4⟩] : TMem)) (bodyOf Tryz.f59) (endT PP 10 [.tmp 4] [.x] [] (List.length ([⟨true, .list .int p4⟩] : TMem)) K) (argsF [.agg [.int .i64 p1, .sl 0, .int .i64 p2], .int .i64 p3]) [⟨true, .list .int p4⟩] =
    Ml_markGc p1 p2 p3 p4 (fun r1 r2 => K (.int .i64 r1) [⟨true, .list .int r2⟩]) := by kernel_rfl
theorem s59 : CSound PP 59 G59 := by
  intro args K c h fl A aargs hA hN R hl
  unfold G59 at h
  generalize ht : c.tm = tm at h
  revert h
  refine cA_in ?_; rintro l2_ r1_ rfl
  refine cI_in ?_; rintro p1 r3_ rfl
  refine cL_in ?_; rintro r4_ rfl
  refine cI_in ?_; rintro p2 r5_ rfl
  refine dN_in ?_; rintro rfl
  refine cI_in ?_; rintro p3 r6_ rfl
  refine dN_in ?_; rintro rfl
  refine bL_in ?_; rintro p4 m7_ rfl
  refine dE_in ?_; rintro rfl
  intro h
  refine fun_ok (nt := 10) (x := bodyOf Tryz.f59) (Γ := Γ59) (H := H59) (WW := W59) (rs := [.tmp 4]) (shs := [.x]) (cons := []) mixed Tryz.func59 (by decide) (by kernel_rfl) Tryz.ntmps59 Tryz.results59 (.cons (useC_ok s127) (GSound.nil)) ?_ hA hN R hl
  rw [ht, e59 p1 p2 p3 p4 K]
  exact h
/-! laws.markOpS -/
def G60 : Con := fun args tm K => cL 0 args fun r1_ => cI .i64 r1_ fun p1 r2_ => dNil r2_ <| bL true .op tm fun p2 m3_ => dEnd m3_ <| Ml_markOpS p1 p2 (fun r1 r2 => K (.int .i64 r1) [⟨true, .list .op r2⟩])
def H60_0 : LH where
  keep := [(0, .own .op), (1, .x), (5, .x)]
  S := Int × Int × List OpV
  enc := fun s => ([.sl 0, .int .i64 s.1, .int .i64 s.2.1], [⟨true, .list .op s.2.2⟩])
  dec := fun vs tm K => cL 0 vs fun r1_ => cI .i64 r1_ fun q0 r2_ => cI .i64 r2_ fun q1 r3_ => dNil r3_ <| bL true .op tm fun q2 m4_ => dEnd m4_ <| K (q0, q1, q2)
  law := by
    intro vs tm K
    refine cL_in ?_; rintro r1_ rfl
    refine cI_in ?_; rintro q0 r2_ rfl
    refine cI_in ?_; rintro q1 r3_ rfl
    refine dN_in ?_; rintro rfl
    refine bL_in ?_; rintro q2 m4_ rfl
    refine dE_in ?_; rintro rfl
    exact fun h => ⟨(q0, q1, q2), rfl, h⟩
def H60 : List (Nat × LH) := [(0, H60_0)]
def W60 : List (Nat × List (Nat × List Nat)) := []
def Γ60 : List (Nat × Con) := []
theorem e60 (p1 : Int) (p2 : List OpV) (K : TV → TMem → Prop) : TW PP 34 Γ60 H60 W60 (List.length ([⟨true, .list .op p2⟩] : TMem)) (bodyOf Tryz.f60) (endT PP 34 [.tmp 4] [.x] [] (List.length ([⟨true, .list .op p2⟩] : TMem)) K) (argsF [.sl 0, .int .i64 p1]) [⟨true, .list .op p2⟩] =
    Ml_markOpS p1 p2 (fun r1 r2 => K (.int .i64 r1) [⟨true, .list .op r2⟩]) := by kernel_rfl
theorem s60 : CSound PP 60 G60 := by
  intro args K c h fl A aargs hA hN R hl
  unfold G60 at h
  generalize ht : c.tm = tm at h
  revert h
  refine cL_in ?_; rintro r1_ rfl
  refine cI_in ?_; rintro p1 r2_ rfl
  refine dN_in ?_; rintro rfl
  refine bL_in ?_; rintro p2 m3_ rfl
  refine dE_in ?_; rintro rfl
  intro h
  refine fun_ok (nt := 34) (x := bodyOf Tryz.f60) (Γ := Γ60) (H := H60) (WW := W60) (rs := [.tmp 4]) (shs := [.x]) (cons := []) mixed Tryz.func60 (by decide) (by kernel_rfl) Tryz.ntmps60 Tryz.results60 (GSound.nil) ?_ hA hN R hl
  rw [ht, e60 p1 p2 K]
  exact h
/-! laws.markBoth -/
def G17 : Con := fun args tm K => cA args fun l2_ r1_ => cL 0 l2_ fun r3_ => cL 1 r3_ fun r4_ => cL 2 r4_ fun r5_ => cL 3 r5_ fun r6_ => cI .i64 r6_ fun p1 r7_ => cL 4 r7_ fun r8_ => cI .i64 r8_ fun p2 r9_ => cL 5 r9_ fun r10_ => cI .i64 r10_ fun p3 r11_ => cB r11_ fun p4 r12_ => dNil r12_ <| cI .i64 r1_ fun p5 r13_ => dNil r13_ <| bL true .int tm fun p6 m14_ => bL true .int m14_ fun p7 m15_ => bL true .int m15_ fun p8 m16_ => bL true .int m16_ fun p9 m17_ => bL true .int m17_ fun p10 m18_ => bL true .op m18_ fun p11 m19_ => dEnd m19_ <| Ml_markBoth p1 p2 p3 p4 p5 p6 p7 p8 p9 p10 p11 (fun r1 r2 r3 r4 r5 r6 r7 => K (.int .i64 r1) [⟨true, .list .int r2⟩, ⟨true, .list .int r3⟩, ⟨true, .list .int r4⟩, ⟨true, .list .int r5⟩, ⟨true, .list .int r6⟩, ⟨true, .list .op r7⟩])
def H17 : List (Nat × LH) := []
def W17 : List (Nat × List (Nat × List Nat)) := []
def Γ17 : List (Nat × Con) := [(58, useC [.ag [.own .int, .own .int, .own .int, .own .int], .x] G58), (59, useC [.ag [.x, .own .int, .x], .x] G59), (60, useC [.own .op, .x] G60)]
theorem e17 (p1 : Int) (p2 : Int) (p3 : Int) (p4 : Bool) (p5 : Int) (p6 : List Int) (p7 : List Int) (p8 : List Int) (p9 : List Int) (p10 : List Int) (p11 : List OpV) (K : TV → TMem → Prop) : TW PP 18 Γ17 H17 W17 (List.length ([⟨true, .list .int p6⟩, ⟨true, .list .int p7⟩, ⟨true, .list .int p8⟩, ⟨true, .list .int p9⟩, ⟨true, .list .int p10⟩, ⟨true, .list .op p11⟩] : TMem)) (bodyOf Tryz.f17) (endT PP 18 [.tmp 4] [.x] [] (List.length ([⟨true, .list .int p6⟩, ⟨true, .list .int p7⟩, ⟨true, .list .int p8⟩, ⟨true, .list .int p9⟩, ⟨true, .list .int p10⟩, ⟨true, .list .op p11⟩] : TMem)) K) (argsF [.agg [.sl 0, .sl 1, .sl 2, .sl 3, .int .i64 p1, .sl 4, .int .i64 p2, .sl 5, .int .i64 p3, .bool p4], .int .i64 p5]) [⟨true, .list .int p6⟩, ⟨true, .list .int p7⟩, ⟨true, .list .int p8⟩, ⟨true, .list .int p9⟩, ⟨true, .list .int p10⟩, ⟨true, .list .op p11⟩] =
    Ml_markBoth p1 p2 p3 p4 p5 p6 p7 p8 p9 p10 p11 (fun r1 r2 r3 r4 r5 r6 r7 => K (.int .i64 r1) [⟨true, .list .int r2⟩, ⟨true, .list .int r3⟩, ⟨true, .list .int r4⟩, ⟨true, .list .int r5⟩, ⟨true, .list .int r6⟩, ⟨true, .list .op r7⟩]) := by kernel_rfl
theorem s17 : CSound PP 17 G17 := by
  intro args K c h fl A aargs hA hN R hl
  unfold G17 at h
  generalize ht : c.tm = tm at h
  revert h
  refine cA_in ?_; rintro l2_ r1_ rfl
  refine cL_in ?_; rintro r3_ rfl
  refine cL_in ?_; rintro r4_ rfl
  refine cL_in ?_; rintro r5_ rfl
  refine cL_in ?_; rintro r6_ rfl
  refine cI_in ?_; rintro p1 r7_ rfl
  refine cL_in ?_; rintro r8_ rfl
  refine cI_in ?_; rintro p2 r9_ rfl
  refine cL_in ?_; rintro r10_ rfl
  refine cI_in ?_; rintro p3 r11_ rfl
  refine cB_in ?_; rintro p4 r12_ rfl
  refine dN_in ?_; rintro rfl
  refine cI_in ?_; rintro p5 r13_ rfl
  refine dN_in ?_; rintro rfl
  refine bL_in ?_; rintro p6 m14_ rfl
  refine bL_in ?_; rintro p7 m15_ rfl
  refine bL_in ?_; rintro p8 m16_ rfl
  refine bL_in ?_; rintro p9 m17_ rfl
  refine bL_in ?_; rintro p10 m18_ rfl
  refine bL_in ?_; rintro p11 m19_ rfl
  refine dE_in ?_; rintro rfl
  intro h
  refine fun_ok (nt := 18) (x := bodyOf Tryz.f17) (Γ := Γ17) (H := H17) (WW := W17) (rs := [.tmp 4]) (shs := [.x]) (cons := []) mixed Tryz.func17 (by decide) (by kernel_rfl) Tryz.ntmps17 Tryz.results17 (.cons (useC_ok s58) (.cons (useC_ok s59) (.cons (useC_ok s60) (GSound.nil)))) ?_ hA hN R hl
  rw [ht, e17 p1 p2 p3 p4 p5 p6 p7 p8 p9 p10 p11 K]
  exact h
/-! laws.heldIntS -/
def G129 : Con := fun args tm K => cP .int args fun p1 r1_ => cI .i64 r1_ fun p2 r2_ => dNil r2_ <| dEnd tm <| Ml_heldIntS p1 p2 (fun r1 => K (.int .i64 r1) [])
def H129_0 : LH where
  keep := [(0, .pure .int), (1, .x), (5, .x)]
  S := List Int × Int × Int
  enc := fun s => ([.pl .int s.1, .int .i64 s.2.1, .int .i64 s.2.2], [])
  dec := fun vs tm K => cP .int vs fun q0 r1_ => cI .i64 r1_ fun q1 r2_ => cI .i64 r2_ fun q2 r3_ => dNil r3_ <| dEnd tm <| K (q0, q1, q2)
  law := by
    intro vs tm K
    refine cP_in ?_; rintro q0 r1_ rfl
    refine cI_in ?_; rintro q1 r2_ rfl
    refine cI_in ?_; rintro q2 r3_ rfl
    refine dN_in ?_; rintro rfl
    refine dE_in ?_; rintro rfl
    exact fun h => ⟨(q0, q1, q2), rfl, h⟩
def H129 : List (Nat × LH) := [(0, H129_0)]
def W129 : List (Nat × List (Nat × List Nat)) := []
def Γ129 : List (Nat × Con) := []
theorem e129 (p1 : List Int) (p2 : Int) (K : TV → TMem → Prop) : TW PP 21 Γ129 H129 W129 (List.length ([] : TMem)) (bodyOf Tryz.f129) (endT PP 21 [.tmp 4] [.x] [] (List.length ([] : TMem)) K) (argsF [.pl .int p1, .int .i64 p2]) [] =
    Ml_heldIntS p1 p2 (fun r1 => K (.int .i64 r1) []) := by kernel_rfl
theorem s129 : CSound PP 129 G129 := by
  intro args K c h fl A aargs hA hN R hl
  unfold G129 at h
  generalize ht : c.tm = tm at h
  revert h
  refine cP_in ?_; rintro p1 r1_ rfl
  refine cI_in ?_; rintro p2 r2_ rfl
  refine dN_in ?_; rintro rfl
  refine dE_in ?_; rintro rfl
  intro h
  refine fun_ok (nt := 21) (x := bodyOf Tryz.f129) (Γ := Γ129) (H := H129) (WW := W129) (rs := [.tmp 4]) (shs := [.x]) (cons := []) mixed Tryz.func129 (by decide) (by kernel_rfl) Tryz.ntmps129 Tryz.results129 (GSound.nil) ?_ hA hN R hl
  rw [ht, e129 p1 p2 K]
  exact h
/-! laws.heldHeap -/
def G128 : Con := fun args tm K => cA args fun l2_ r1_ => cP .int l2_ fun p1 r3_ => cP .int r3_ fun p2 r4_ => cP .int r4_ fun p3 r5_ => dNil r5_ <| cI .i64 r1_ fun p4 r6_ => dNil r6_ <| dEnd tm <| Ml_heldHeap p1 p2 p3 p4 (fun r1 => K (.int .i64 r1) [])
def H128 : List (Nat × LH) := []
def W128 : List (Nat × List (Nat × List Nat)) := []
def Γ128 : List (Nat × Con) := [(129, useC [.pure .int, .x] G129)]
theorem e128 (p1 : List Int) (p2 : List Int) (p3 : List Int) (p4 : Int) (K : TV → TMem → Prop) : TW PP 24 Γ128 H128 W128 (List.length ([] : TMem)) (bodyOf Tryz.f128) (endT PP 24 [.tmp 4] [.x] [] (List.length ([] : TMem)) K) (argsF [.agg [.pl .int p1, .pl .int p2, .pl .int p3], .int .i64 p4]) [] =
    Ml_heldHeap p1 p2 p3 p4 (fun r1 => K (.int .i64 r1) []) := by kernel_rfl
theorem s128 : CSound PP 128 G128 := by
  intro args K c h fl A aargs hA hN R hl
  unfold G128 at h
  generalize ht : c.tm = tm at h
  revert h
  refine cA_in ?_; rintro l2_ r1_ rfl
  refine cP_in ?_; rintro p1 r3_ rfl
  refine cP_in ?_; rintro p2 r4_ rfl
  refine cP_in ?_; rintro p3 r5_ rfl
  refine dN_in ?_; rintro rfl
  refine cI_in ?_; rintro p4 r6_ rfl
  refine dN_in ?_; rintro rfl
  refine dE_in ?_; rintro rfl
  intro h
  refine fun_ok (nt := 24) (x := bodyOf Tryz.f128) (Γ := Γ128) (H := H128) (WW := W128) (rs := [.tmp 4]) (shs := [.x]) (cons := []) mixed Tryz.func128 (by decide) (by kernel_rfl) Tryz.ntmps128 Tryz.results128 (.cons (useC_ok s129) (GSound.nil)) ?_ hA hN R hl
  rw [ht, e128 p1 p2 p3 p4 K]
  exact h
/-! laws.heldStore -/
def G61 : Con := fun args tm K => cA args fun l2_ r1_ => cP .int l2_ fun p1 r3_ => cP .int r3_ fun p2 r4_ => cP .int r4_ fun p3 r5_ => cP .int r5_ fun p4 r6_ => dNil r6_ <| cI .i64 r1_ fun p5 r7_ => dNil r7_ <| dEnd tm <| Ml_heldStore p1 p2 p3 p4 p5 (fun r1 => K (.int .i64 r1) [])
def H61 : List (Nat × LH) := []
def W61 : List (Nat × List (Nat × List Nat)) := []
def Γ61 : List (Nat × Con) := [(128, useC [.ag [.pure .int, .pure .int, .pure .int], .x] G128), (129, useC [.pure .int, .x] G129)]
theorem e61 (p1 : List Int) (p2 : List Int) (p3 : List Int) (p4 : List Int) (p5 : Int) (K : TV → TMem → Prop) : TW PP 18 Γ61 H61 W61 (List.length ([] : TMem)) (bodyOf Tryz.f61) (endT PP 18 [.tmp 4] [.x] [] (List.length ([] : TMem)) K) (argsF [.agg [.pl .int p1, .pl .int p2, .pl .int p3, .pl .int p4], .int .i64 p5]) [] =
    Ml_heldStore p1 p2 p3 p4 p5 (fun r1 => K (.int .i64 r1) []) := by kernel_rfl
theorem s61 : CSound PP 61 G61 := by
  intro args K c h fl A aargs hA hN R hl
  unfold G61 at h
  generalize ht : c.tm = tm at h
  revert h
  refine cA_in ?_; rintro l2_ r1_ rfl
  refine cP_in ?_; rintro p1 r3_ rfl
  refine cP_in ?_; rintro p2 r4_ rfl
  refine cP_in ?_; rintro p3 r5_ rfl
  refine cP_in ?_; rintro p4 r6_ rfl
  refine dN_in ?_; rintro rfl
  refine cI_in ?_; rintro p5 r7_ rfl
  refine dN_in ?_; rintro rfl
  refine dE_in ?_; rintro rfl
  intro h
  refine fun_ok (nt := 18) (x := bodyOf Tryz.f61) (Γ := Γ61) (H := H61) (WW := W61) (rs := [.tmp 4]) (shs := [.x]) (cons := []) mixed Tryz.func61 (by decide) (by kernel_rfl) Tryz.ntmps61 Tryz.results61 (.cons (useC_ok s128) (.cons (useC_ok s129) (GSound.nil))) ?_ hA hN R hl
  rw [ht, e61 p1 p2 p3 p4 p5 K]
  exact h
/-! laws.heldGc -/
def G62 : Con := fun args tm K => cA args fun l2_ r1_ => cI .i64 l2_ fun p1 r3_ => cP .int r3_ fun p2 r4_ => cI .i64 r4_ fun p3 r5_ => dNil r5_ <| cI .i64 r1_ fun p4 r6_ => dNil r6_ <| dEnd tm <| Ml_heldGc p1 p2 p3 p4 (fun r1 => K (.int .i64 r1) [])
def H62 : List (Nat × LH) := []
def W62 : List (Nat × List (Nat × List Nat)) := []
def Γ62 : List (Nat × Con) := [(129, useC [.pure .int, .x] G129)]
theorem e62 (p1 : Int) (p2 : List Int) (p3 : Int) (p4 : Int) (K : TV → TMem → Prop) : TW PP 12 Γ62 H62 W62 (List.length ([] : TMem)) (bodyOf Tryz.f62) (endT PP 12 [.tmp 4] [.x] [] (List.length ([] : TMem)) K) (argsF [.agg [.int .i64 p1, .pl .int p2, .int .i64 p3], .int .i64 p4]) [] =
    Ml_heldGc p1 p2 p3 p4 (fun r1 => K (.int .i64 r1) []) := by kernel_rfl
theorem s62 : CSound PP 62 G62 := by
  intro args K c h fl A aargs hA hN R hl
  unfold G62 at h
  generalize ht : c.tm = tm at h
  revert h
  refine cA_in ?_; rintro l2_ r1_ rfl
  refine cI_in ?_; rintro p1 r3_ rfl
  refine cP_in ?_; rintro p2 r4_ rfl
  refine cI_in ?_; rintro p3 r5_ rfl
  refine dN_in ?_; rintro rfl
  refine cI_in ?_; rintro p4 r6_ rfl
  refine dN_in ?_; rintro rfl
  refine dE_in ?_; rintro rfl
  intro h
  refine fun_ok (nt := 12) (x := bodyOf Tryz.f62) (Γ := Γ62) (H := H62) (WW := W62) (rs := [.tmp 4]) (shs := [.x]) (cons := []) mixed Tryz.func62 (by decide) (by kernel_rfl) Tryz.ntmps62 Tryz.results62 (.cons (useC_ok s129) (GSound.nil)) ?_ hA hN R hl
  rw [ht, e62 p1 p2 p3 p4 K]
  exact h
/-! laws.heldOpS -/
def G63 : Con := fun args tm K => cP .op args fun p1 r1_ => cI .i64 r1_ fun p2 r2_ => dNil r2_ <| dEnd tm <| Ml_heldOpS p1 p2 (fun r1 => K (.int .i64 r1) [])
def H63_0 : LH where
  keep := [(0, .pure .op), (1, .x), (5, .x)]
  S := List OpV × Int × Int
  enc := fun s => ([.pl .op s.1, .int .i64 s.2.1, .int .i64 s.2.2], [])
  dec := fun vs tm K => cP .op vs fun q0 r1_ => cI .i64 r1_ fun q1 r2_ => cI .i64 r2_ fun q2 r3_ => dNil r3_ <| dEnd tm <| K (q0, q1, q2)
  law := by
    intro vs tm K
    refine cP_in ?_; rintro q0 r1_ rfl
    refine cI_in ?_; rintro q1 r2_ rfl
    refine cI_in ?_; rintro q2 r3_ rfl
    refine dN_in ?_; rintro rfl
    refine dE_in ?_; rintro rfl
    exact fun h => ⟨(q0, q1, q2), rfl, h⟩
def H63 : List (Nat × LH) := [(0, H63_0)]
def W63 : List (Nat × List (Nat × List Nat)) := []
def Γ63 : List (Nat × Con) := []
theorem e63 (p1 : List OpV) (p2 : Int) (K : TV → TMem → Prop) : TW PP 40 Γ63 H63 W63 (List.length ([] : TMem)) (bodyOf Tryz.f63) (endT PP 40 [.tmp 4] [.x] [] (List.length ([] : TMem)) K) (argsF [.pl .op p1, .int .i64 p2]) [] =
    Ml_heldOpS p1 p2 (fun r1 => K (.int .i64 r1) []) := by kernel_rfl
theorem s63 : CSound PP 63 G63 := by
  intro args K c h fl A aargs hA hN R hl
  unfold G63 at h
  generalize ht : c.tm = tm at h
  revert h
  refine cP_in ?_; rintro p1 r1_ rfl
  refine cI_in ?_; rintro p2 r2_ rfl
  refine dN_in ?_; rintro rfl
  refine dE_in ?_; rintro rfl
  intro h
  refine fun_ok (nt := 40) (x := bodyOf Tryz.f63) (Γ := Γ63) (H := H63) (WW := W63) (rs := [.tmp 4]) (shs := [.x]) (cons := []) mixed Tryz.func63 (by decide) (by kernel_rfl) Tryz.ntmps63 Tryz.results63 (GSound.nil) ?_ hA hN R hl
  rw [ht, e63 p1 p2 K]
  exact h
/-! laws.heldBoth -/
def G18 : Con := fun args tm K => cA args fun l2_ r1_ => cP .int l2_ fun p1 r3_ => cP .int r3_ fun p2 r4_ => cP .int r4_ fun p3 r5_ => cP .int r5_ fun p4 r6_ => cI .i64 r6_ fun p5 r7_ => cP .int r7_ fun p6 r8_ => cI .i64 r8_ fun p7 r9_ => cP .op r9_ fun p8 r10_ => cI .i64 r10_ fun p9 r11_ => cB r11_ fun p10 r12_ => dNil r12_ <| cI .i64 r1_ fun p11 r13_ => dNil r13_ <| dEnd tm <| Ml_heldBoth p1 p2 p3 p4 p5 p6 p7 p8 p9 p10 p11 (fun r1 => K (.int .i64 r1) [])
def H18 : List (Nat × LH) := []
def W18 : List (Nat × List (Nat × List Nat)) := []
def Γ18 : List (Nat × Con) := [(61, useC [.ag [.pure .int, .pure .int, .pure .int, .pure .int], .x] G61), (62, useC [.ag [.x, .pure .int, .x], .x] G62), (63, useC [.pure .op, .x] G63)]
theorem e18 (p1 : List Int) (p2 : List Int) (p3 : List Int) (p4 : List Int) (p5 : Int) (p6 : List Int) (p7 : Int) (p8 : List OpV) (p9 : Int) (p10 : Bool) (p11 : Int) (K : TV → TMem → Prop) : TW PP 24 Γ18 H18 W18 (List.length ([] : TMem)) (bodyOf Tryz.f18) (endT PP 24 [.tmp 4] [.x] [] (List.length ([] : TMem)) K) (argsF [.agg [.pl .int p1, .pl .int p2, .pl .int p3, .pl .int p4, .int .i64 p5, .pl .int p6, .int .i64 p7, .pl .op p8, .int .i64 p9, .bool p10], .int .i64 p11]) [] =
    Ml_heldBoth p1 p2 p3 p4 p5 p6 p7 p8 p9 p10 p11 (fun r1 => K (.int .i64 r1) []) := by kernel_rfl
theorem s18 : CSound PP 18 G18 := by
  intro args K c h fl A aargs hA hN R hl
  unfold G18 at h
  generalize ht : c.tm = tm at h
  revert h
  refine cA_in ?_; rintro l2_ r1_ rfl
  refine cP_in ?_; rintro p1 r3_ rfl
  refine cP_in ?_; rintro p2 r4_ rfl
  refine cP_in ?_; rintro p3 r5_ rfl
  refine cP_in ?_; rintro p4 r6_ rfl
  refine cI_in ?_; rintro p5 r7_ rfl
  refine cP_in ?_; rintro p6 r8_ rfl
  refine cI_in ?_; rintro p7 r9_ rfl
  refine cP_in ?_; rintro p8 r10_ rfl
  refine cI_in ?_; rintro p9 r11_ rfl
  refine cB_in ?_; rintro p10 r12_ rfl
  refine dN_in ?_; rintro rfl
  refine cI_in ?_; rintro p11 r13_ rfl
  refine dN_in ?_; rintro rfl
  refine dE_in ?_; rintro rfl
  intro h
  refine fun_ok (nt := 24) (x := bodyOf Tryz.f18) (Γ := Γ18) (H := H18) (WW := W18) (rs := [.tmp 4]) (shs := [.x]) (cons := []) mixed Tryz.func18 (by decide) (by kernel_rfl) Tryz.ntmps18 Tryz.results18 (.cons (useC_ok s61) (.cons (useC_ok s62) (.cons (useC_ok s63) (GSound.nil)))) ?_ hA hN R hl
  rw [ht, e18 p1 p2 p3 p4 p5 p6 p7 p8 p9 p10 p11 K]
  exact h
/-! laws.FnExactRunBoth -/
def G4 : Con := fun args tm K => cA args fun l2_ r1_ => cP .int l2_ fun p1 r3_ => cP .int r3_ fun p2 r4_ => cP .int r4_ fun p3 r5_ => cP .int r5_ fun p4 r6_ => cI .i64 r6_ fun p5 r7_ => cP .int r7_ fun p6 r8_ => cI .i64 r8_ fun p7 r9_ => cP .op r9_ fun p8 r10_ => cI .i64 r10_ fun p9 r11_ => cB r11_ fun p10 r12_ => dNil r12_ <| cS r1_ fun p11 r13_ => cB r13_ fun p12 r14_ => dNil r14_ <| dEnd tm <| Ml_FnExactRunBoth p1 p2 p3 p4 p5 p6 p7 p8 p9 p10 p11 p12 (fun r1 => K (.bool r1) [])
def H4_1000011 : LH where
  keep := []
  S := Unit
  enc := fun s => ([], [])
  dec := fun vs tm K => dNil vs <| dEnd tm <| K ()
  law := by
    intro vs tm K
    refine dN_in ?_; rintro rfl
    refine dE_in ?_; rintro rfl
    exact fun h => ⟨(), rfl, h⟩
def H4_1000013 : LH where
  keep := []
  S := Unit
  enc := fun s => ([], [])
  dec := fun vs tm K => dNil vs <| dEnd tm <| K ()
  law := by
    intro vs tm K
    refine dN_in ?_; rintro rfl
    refine dE_in ?_; rintro rfl
    exact fun h => ⟨(), rfl, h⟩
def H4_1000014 : LH where
  keep := [(1, .x), (2, .bl), (3, .pc [.pure .int, .pure .int, .pure .int, .pure .int, .x, .pure .int, .x, .pure .op, .x, .bl]), (8, .pc [.own .int, .own .int, .own .int, .own .int, .x, .own .int, .x, .own .op, .x, .bl]), (9, .bl), (10, .pc [.own .int, .own .int, .own .int, .own .int, .x, .own .int, .x, .own .op, .x, .bl]), (11, .pc [.own .int, .own .int, .own .int, .own .int, .x, .own .int, .x, .own .op, .x, .bl]), (12, .bl)]
  S := List UInt8 × Bool × Bool × Bool × List Int × List Int × List Int × List Int × Int × List Int × Int × List OpV × Int × Bool × Int × Int × Int × Bool × Int × Int × Int × Bool × Int × Int × Int × Bool × List Int × List Int × List Int × List Int × List Int × List OpV × List Int × List Int × List Int × List Int × List Int × List OpV × List Int × List Int × List Int × List Int × List Int × List OpV
  enc := fun s => ([.str s.1, .bool s.2.1, .ptr 0 0, .ptr 1 0, .bool s.2.2.1, .ptr 2 0, .ptr 3 0, .bool s.2.2.2.1], [⟨true, .cells [.pl .int s.2.2.2.2.1, .pl .int s.2.2.2.2.2.1, .pl .int s.2.2.2.2.2.2.1, .pl .int s.2.2.2.2.2.2.2.1, .int .i64 s.2.2.2.2.2.2.2.2.1, .pl .int s.2.2.2.2.2.2.2.2.2.1, .int .i64 s.2.2.2.2.2.2.2.2.2.2.1, .pl .op s.2.2.2.2.2.2.2.2.2.2.2.1, .int .i64 s.2.2.2.2.2.2.2.2.2.2.2.2.1, .bool s.2.2.2.2.2.2.2.2.2.2.2.2.2.1]⟩, ⟨true, .cells [.sl 4, .sl 5, .sl 6, .sl 7, .int .i64 s.2.2.2.2.2.2.2.2.2.2.2.2.2.2.1, .sl 8, .int .i64 s.2.2.2.2.2.2.2.2.2.2.2.2.2.2.2.1, .sl 9, .int .i64 s.2.2.2.2.2.2.2.2.2.2.2.2.2.2.2.2.1, .bool s.2.2.2.2.2.2.2.2.2.2.2.2.2.2.2.2.2.1]⟩, ⟨true, .cells [.sl 10, .sl 11, .sl 12, .sl 13, .int .i64 s.2.2.2.2.2.2.2.2.2.2.2.2.2.2.2.2.2.2.1, .sl 14, .int .i64 s.2.2.2.2.2.2.2.2.2.2.2.2.2.2.2.2.2.2.2.1, .sl 15, .int .i64 s.2.2.2.2.2.2.2.2.2.2.2.2.2.2.2.2.2.2.2.2.1, .bool s.2.2.2.2.2.2.2.2.2.2.2.2.2.2.2.2.2.2.2.2.2.1]⟩, ⟨true, .cells [.sl 16, .sl 17, .sl 18, .sl 19, .int .i64 s.2.2.2.2.2.2.2.2.2.2.2.2.2.2.2.2.2.2.2.2.2.2.1, .sl 20, .int .i64 s.2.2.2.2.2.2.2.2.2.2.2.2.2.2.2.2.2.2.2.2.2.2.2.1, .sl 21, .int .i64 s.2.2.2.2.2.2.2.2.2.2.2.2.2.2.2.2.2.2.2.2.2.2.2.2.1, .bool s.2.2.2.2.2.2.2.2.2.2.2.2.2.2.2.2.2.2.2.2.2.2.2.2.2.1]⟩, ⟨true, .list .int s.2.2.2.2.2.2.2.2.2.2.2.2.2.2.2.2.2.2.2.2.2.2.2.2.2.2.1⟩, ⟨true, .list .int s.2.2.2.2.2.2.2.2.2.2.2.2.2.2.2.2.2.2.2.2.2.2.2.2.2.2.2.1⟩, ⟨true, .list .int s.2.2.2.2.2.2.2.2.2.2.2.2.2.2.2.2.2.2.2.2.2.2.2.2.2.2.2.2.1⟩, ⟨true, .list .int s.2.2.2.2.2.2.2.2.2.2.2.2.2.2.2.2.2.2.2.2.2.2.2.2.2.2.2.2.2.1⟩, ⟨true, .list .int s.2.2.2.2.2.2.2.2.2.2.2.2.2.2.2.2.2.2.2.2.2.2.2.2.2.2.2.2.2.2.1⟩, ⟨true, .list .op s.2.2.2.2.2.2.2.2.2.2.2.2.2.2.2.2.2.2.2.2.2.2.2.2.2.2.2.2.2.2.2.1⟩, ⟨true, .list .int s.2.2.2.2.2.2.2.2.2.2.2.2.2.2.2.2.2.2.2.2.2.2.2.2.2.2.2.2.2.2.2.2.1⟩, ⟨true, .list .int s.2.2.2.2.2.2.2.2.2.2.2.2.2.2.2.2.2.2.2.2.2.2.2.2.2.2.2.2.2.2.2.2.2.1⟩, ⟨true, .list .int s.2.2.2.2.2.2.2.2.2.2.2.2.2.2.2.2.2.2.2.2.2.2.2.2.2.2.2.2.2.2.2.2.2.2.1⟩, ⟨true, .list .int s.2.2.2.2.2.2.2.2.2.2.2.2.2.2.2.2.2.2.2.2.2.2.2.2.2.2.2.2.2.2.2.2.2.2.2.1⟩, ⟨true, .list .int s.2.2.2.2.2.2.2.2.2.2.2.2.2.2.2.2.2.2.2.2.2.2.2.2.2.2.2.2.2.2.2.2.2.2.2.2.1⟩, ⟨true, .list .op s.2.2.2.2.2.2.2.2.2.2.2.2.2.2.2.2.2.2.2.2.2.2.2.2.2.2.2.2.2.2.2.2.2.2.2.2.2.1⟩, ⟨true, .list .int s.2.2.2.2.2.2.2.2.2.2.2.2.2.2.2.2.2.2.2.2.2.2.2.2.2.2.2.2.2.2.2.2.2.2.2.2.2.2.1⟩, ⟨true, .list .int s.2.2.2.2.2.2.2.2.2.2.2.2.2.2.2.2.2.2.2.2.2.2.2.2.2.2.2.2.2.2.2.2.2.2.2.2.2.2.2.1⟩, ⟨true, .list .int s.2.2.2.2.2.2.2.2.2.2.2.2.2.2.2.2.2.2.2.2.2.2.2.2.2.2.2.2.2.2.2.2.2.2.2.2.2.2.2.2.1⟩, ⟨true, .list .int s.2.2.2.2.2.2.2.2.2.2.2.2.2.2.2.2.2.2.2.2.2.2.2.2.2.2.2.2.2.2.2.2.2.2.2.2.2.2.2.2.2.1⟩, ⟨true, .list .int s.2.2.2.2.2.2.2.2.2.2.2.2.2.2.2.2.2.2.2.2.2.2.2.2.2.2.2.2.2.2.2.2.2.2.2.2.2.2.2.2.2.2.1⟩, ⟨true, .list .op s.2.2.2.2.2.2.2.2.2.2.2.2.2.2.2.2.2.2.2.2.2.2.2.2.2.2.2.2.2.2.2.2.2.2.2.2.2.2.2.2.2.2.2⟩])
  dec := fun vs tm K => cS vs fun q0 r1_ => cB r1_ fun q1 r2_ => cQ 0 r2_ fun r3_ => cQ 1 r3_ fun r4_ => cB r4_ fun q2 r5_ => cQ 2 r5_ fun r6_ => cQ 3 r6_ fun r7_ => cB r7_ fun q3 r8_ => dNil r8_ <| bC true tm fun c10_ m9_ => cP .int c10_ fun q4 r11_ => cP .int r11_ fun q5 r12_ => cP .int r12_ fun q6 r13_ => cP .int r13_ fun q7 r14_ => cI .i64 r14_ fun q8 r15_ => cP .int r15_ fun q9 r16_ => cI .i64 r16_ fun q10 r17_ => cP .op r17_ fun q11 r18_ => cI .i64 r18_ fun q12 r19_ => cB r19_ fun q13 r20_ => dNil r20_ <| bC true m9_ fun c22_ m21_ => cL 4 c22_ fun r23_ => cL 5 r23_ fun r24_ => cL 6 r24_ fun r25_ => cL 7 r25_ fun r26_ => cI .i64 r26_ fun q14 r27_ => cL 8 r27_ fun r28_ => cI .i64 r28_ fun q15 r29_ => cL 9 r29_ fun r30_ => cI .i64 r30_ fun q16 r31_ => cB r31_ fun q17 r32_ => dNil r32_ <| bC true m21_ fun c34_ m33_ => cL 10 c34_ fun r35_ => cL 11 r35_ fun r36_ => cL 12 r36_ fun r37_ => cL 13 r37_ fun r38_ => cI .i64 r38_ fun q18 r39_ => cL 14 r39_ fun r40_ => cI .i64 r40_ fun q19 r41_ => cL 15 r41_ fun r42_ => cI .i64 r42_ fun q20 r43_ => cB r43_ fun q21 r44_ => dNil r44_ <| bC true m33_ fun c46_ m45_ => cL 16 c46_ fun r47_ => cL 17 r47_ fun r48_ => cL 18 r48_ fun r49_ => cL 19 r49_ fun r50_ => cI .i64 r50_ fun q22 r51_ => cL 20 r51_ fun r52_ => cI .i64 r52_ fun q23 r53_ => cL 21 r53_ fun r54_ => cI .i64 r54_ fun q24 r55_ => cB r55_ fun q25 r56_ => dNil r56_ <| bL true .int m45_ fun q26 m57_ => bL true .int m57_ fun q27 m58_ => bL true .int m58_ fun q28 m59_ => bL true .int m59_ fun q29 m60_ => bL true .int m60_ fun q30 m61_ => bL true .op m61_ fun q31 m62_ => bL true .int m62_ fun q32 m63_ => bL true .int m63_ fun q33 m64_ => bL true .int m64_ fun q34 m65_ => bL true .int m65_ fun q35 m66_ => bL true .int m66_ fun q36 m67_ => bL true .op m67_ fun q37 m68_ => bL true .int m68_ fun q38 m69_ => bL true .int m69_ fun q39 m70_ => bL true .int m70_ fun q40 m71_ => bL true .int m71_ fun q41 m72_ => bL true .int m72_ fun q42 m73_ => bL true .op m73_ fun q43 m74_ => dEnd m74_ <| K (q0, q1, q2, q3, q4, q5, q6, q7, q8, q9, q10, q11, q12, q13, q14, q15, q16, q17, q18, q19, q20, q21, q22, q23, q24, q25, q26, q27, q28, q29, q30, q31, q32, q33, q34, q35, q36, q37, q38, q39, q40, q41, q42, q43)
  law := by
    intro vs tm K
    refine cS_in ?_; rintro q0 r1_ rfl
    refine cB_in ?_; rintro q1 r2_ rfl
    refine cQ_in ?_; rintro r3_ rfl
    refine cQ_in ?_; rintro r4_ rfl
    refine cB_in ?_; rintro q2 r5_ rfl
    refine cQ_in ?_; rintro r6_ rfl
    refine cQ_in ?_; rintro r7_ rfl
    refine cB_in ?_; rintro q3 r8_ rfl
    refine dN_in ?_; rintro rfl
    refine bC_in ?_; rintro c10_ m9_ rfl
    refine cP_in ?_; rintro q4 r11_ rfl
    refine cP_in ?_; rintro q5 r12_ rfl
    refine cP_in ?_; rintro q6 r13_ rfl
    refine cP_in ?_; rintro q7 r14_ rfl
    refine cI_in ?_; rintro q8 r15_ rfl
    refine cP_in ?_; rintro q9 r16_ rfl
    refine cI_in ?_; rintro q10 r17_ rfl
    refine cP_in ?_; rintro q11 r18_ rfl
    refine cI_in ?_; rintro q12 r19_ rfl
    refine cB_in ?_; rintro q13 r20_ rfl
    refine dN_in ?_; rintro rfl
    refine bC_in ?_; rintro c22_ m21_ rfl
    refine cL_in ?_; rintro r23_ rfl
    refine cL_in ?_; rintro r24_ rfl
    refine cL_in ?_; rintro r25_ rfl
    refine cL_in ?_; rintro r26_ rfl
    refine cI_in ?_; rintro q14 r27_ rfl
    refine cL_in ?_; rintro r28_ rfl
    refine cI_in ?_; rintro q15 r29_ rfl
    refine cL_in ?_; rintro r30_ rfl
    refine cI_in ?_; rintro q16 r31_ rfl
    refine cB_in ?_; rintro q17 r32_ rfl
    refine dN_in ?_; rintro rfl
    refine bC_in ?_; rintro c34_ m33_ rfl
    refine cL_in ?_; rintro r35_ rfl
    refine cL_in ?_; rintro r36_ rfl
    refine cL_in ?_; rintro r37_ rfl
    refine cL_in ?_; rintro r38_ rfl
    refine cI_in ?_; rintro q18 r39_ rfl
    refine cL_in ?_; rintro r40_ rfl
    refine cI_in ?_; rintro q19 r41_ rfl
    refine cL_in ?_; rintro r42_ rfl
    refine cI_in ?_; rintro q20 r43_ rfl
    refine cB_in ?_; rintro q21 r44_ rfl
    refine dN_in ?_; rintro rfl
    refine bC_in ?_; rintro c46_ m45_ rfl
    refine cL_in ?_; rintro r47_ rfl
    refine cL_in ?_; rintro r48_ rfl
    refine cL_in ?_; rintro r49_ rfl
    refine cL_in ?_; rintro r50_ rfl
    refine cI_in ?_; rintro q22 r51_ rfl
    refine cL_in ?_; rintro r52_ rfl
    refine cI_in ?_; rintro q23 r53_ rfl
    refine cL_in ?_; rintro r54_ rfl
    refine cI_in ?_; rintro q24 r55_ rfl
    refine cB_in ?_; rintro q25 r56_ rfl
    refine dN_in ?_; rintro rfl
    refine bL_in ?_; rintro q26 m57_ rfl
    refine bL_in ?_; rintro q27 m58_ rfl
    refine bL_in ?_; rintro q28 m59_ rfl
    refine bL_in ?_; rintro q29 m60_ rfl
    refine bL_in ?_; rintro q30 m61_ rfl
    refine bL_in ?_; rintro q31 m62_ rfl
    refine bL_in ?_; rintro q32 m63_ rfl
    refine bL_in ?_; rintro q33 m64_ rfl
    refine bL_in ?_; rintro q34 m65_ rfl
    refine bL_in ?_; rintro q35 m66_ rfl
    refine bL_in ?_; rintro q36 m67_ rfl
    refine bL_in ?_; rintro q37 m68_ rfl
    refine bL_in ?_; rintro q38 m69_ rfl
    refine bL_in ?_; rintro q39 m70_ rfl
    refine bL_in ?_; rintro q40 m71_ rfl
    refine bL_in ?_; rintro q41 m72_ rfl
    refine bL_in ?_; rintro q42 m73_ rfl
    refine bL_in ?_; rintro q43 m74_ rfl
    refine dE_in ?_; rintro rfl
    exact fun h => ⟨(q0, q1, q2, q3, q4, q5, q6, q7, q8, q9, q10, q11, q12, q13, q14, q15, q16, q17, q18, q19, q20, q21, q22, q23, q24, q25, q26, q27, q28, q29, q30, q31, q32, q33, q34, q35, q36, q37, q38, q39, q40, q41, q42, q43), rfl, h⟩
def H4_1000027 : LH where
  keep := [(8, .pc [.own .int, .own .int, .own .int, .own .int, .x, .own .int, .x, .own .op, .x, .bl]), (9, .bl), (11, .pc [.own .int, .own .int, .own .int, .own .int, .x, .own .int, .x, .own .op, .x, .bl]), (14, .x), (16, .pc [.own .int, .own .int, .own .int, .own .int, .x, .own .int, .x, .own .op, .x, .bl]), (17, .bl)]
  S := Bool × Int × Bool × Int × Int × Int × Bool × Int × Int × Int × Bool × Int × Int × Int × Bool × List Int × List Int × List Int × List Int × List Int × List OpV × List Int × List Int × List Int × List Int × List Int × List OpV × List Int × List Int × List Int × List Int × List Int × List OpV
  enc := fun s => ([.ptr 0 0, .bool s.1, .ptr 1 0, .int .i64 s.2.1, .ptr 2 0, .bool s.2.2.1], [⟨true, .cells [.sl 3, .sl 4, .sl 5, .sl 6, .int .i64 s.2.2.2.1, .sl 7, .int .i64 s.2.2.2.2.1, .sl 8, .int .i64 s.2.2.2.2.2.1, .bool s.2.2.2.2.2.2.1]⟩, ⟨true, .cells [.sl 9, .sl 10, .sl 11, .sl 12, .int .i64 s.2.2.2.2.2.2.2.1, .sl 13, .int .i64 s.2.2.2.2.2.2.2.2.1, .sl 14, .int .i64 s.2.2.2.2.2.2.2.2.2.1, .bool s.2.2.2.2.2.2.2.2.2.2.1]⟩, ⟨true, .cells [.sl 15, .sl 16, .sl 17, .sl 18, .int .i64 s.2.2.2.2.2.2.2.2.2.2.2.1, .sl 19, .int .i64 s.2.2.2.2.2.2.2.2.2.2.2.2.1, .sl 20, .int .i64 s.2.2.2.2.2.2.2.2.2.2.2.2.2.1, .bool s.2.2.2.2.2.2.2.2.2.2.2.2.2.2.1]⟩, ⟨true, .list .int s.2.2.2.2.2.2.2.2.2.2.2.2.2.2.2.1⟩, ⟨true, .list .int s.2.2.2.2.2.2.2.2.2.2.2.2.2.2.2.2.1⟩, ⟨true, .list .int s.2.2.2.2.2.2.2.2.2.2.2.2.2.2.2.2.2.1⟩, ⟨true, .list .int s.2.2.2.2.2.2.2.2.2.2.2.2.2.2.2.2.2.2.1⟩, ⟨true, .list .int s.2.2.2.2.2.2.2.2.2.2.2.2.2.2.2.2.2.2.2.1⟩, ⟨true, .list .op s.2.2.2.2.2.2.2.2.2.2.2.2.2.2.2.2.2.2.2.2.1⟩, ⟨true, .list .int s.2.2.2.2.2.2.2.2.2.2.2.2.2.2.2.2.2.2.2.2.2.1⟩, ⟨true, .list .int s.2.2.2.2.2.2.2.2.2.2.2.2.2.2.2.2.2.2.2.2.2.2.1⟩, ⟨true, .list .int s.2.2.2.2.2.2.2.2.2.2.2.2.2.2.2.2.2.2.2.2.2.2.2.1⟩, ⟨true, .list .int s.2.2.2.2.2.2.2.2.2.2.2.2.2.2.2.2.2.2.2.2.2.2.2.2.1⟩, ⟨true, .list .int s.2.2.2.2.2.2.2.2.2.2.2.2.2.2.2.2.2.2.2.2.2.2.2.2.2.1⟩, ⟨true, .list .op s.2.2.2.2.2.2.2.2.2.2.2.2.2.2.2.2.2.2.2.2.2.2.2.2.2.2.1⟩, ⟨true, .list .int s.2.2.2.2.2.2.2.2.2.2.2.2.2.2.2.2.2.2.2.2.2.2.2.2.2.2.2.1⟩, ⟨true, .list .int s.2.2.2.2.2.2.2.2.2.2.2.2.2.2.2.2.2.2.2.2.2.2.2.2.2.2.2.2.1⟩, ⟨true, .list .int s.2.2.2.2.2.2.2.2.2.2.2.2.2.2.2.2.2.2.2.2.2.2.2.2.2.2.2.2.2.1⟩, ⟨true, .list .int s.2.2.2.2.2.2.2.2.2.2.2.2.2.2.2.2.2.2.2.2.2.2.2.2.2.2.2.2.2.2.1⟩, ⟨true, .list .int s.2.2.2.2.2.2.2.2.2.2.2.2.2.2.2.2.2.2.2.2.2.2.2.2.2.2.2.2.2.2.2.1⟩, ⟨true, .list .op s.2.2.2.2.2.2.2.2.2.2.2.2.2.2.2.2.2.2.2.2.2.2.2.2.2.2.2.2.2.2.2.2⟩])
  dec := fun vs tm K => cQ 0 vs fun r1_ => cB r1_ fun q0 r2_ => cQ 1 r2_ fun r3_ => cI .i64 r3_ fun q1 r4_ => cQ 2 r4_ fun r5_ => cB r5_ fun q2 r6_ => dNil r6_ <| bC true tm fun c8_ m7_ => cL 3 c8_ fun r9_ => cL 4 r9_ fun r10_ => cL 5 r10_ fun r11_ => cL 6 r11_ fun r12_ => cI .i64 r12_ fun q3 r13_ => cL 7 r13_ fun r14_ => cI .i64 r14_ fun q4 r15_ => cL 8 r15_ fun r16_ => cI .i64 r16_ fun q5 r17_ => cB r17_ fun q6 r18_ => dNil r18_ <| bC true m7_ fun c20_ m19_ => cL 9 c20_ fun r21_ => cL 10 r21_ fun r22_ => cL 11 r22_ fun r23_ => cL 12 r23_ fun r24_ => cI .i64 r24_ fun q7 r25_ => cL 13 r25_ fun r26_ => cI .i64 r26_ fun q8 r27_ => cL 14 r27_ fun r28_ => cI .i64 r28_ fun q9 r29_ => cB r29_ fun q10 r30_ => dNil r30_ <| bC true m19_ fun c32_ m31_ => cL 15 c32_ fun r33_ => cL 16 r33_ fun r34_ => cL 17 r34_ fun r35_ => cL 18 r35_ fun r36_ => cI .i64 r36_ fun q11 r37_ => cL 19 r37_ fun r38_ => cI .i64 r38_ fun q12 r39_ => cL 20 r39_ fun r40_ => cI .i64 r40_ fun q13 r41_ => cB r41_ fun q14 r42_ => dNil r42_ <| bL true .int m31_ fun q15 m43_ => bL true .int m43_ fun q16 m44_ => bL true .int m44_ fun q17 m45_ => bL true .int m45_ fun q18 m46_ => bL true .int m46_ fun q19 m47_ => bL true .op m47_ fun q20 m48_ => bL true .int m48_ fun q21 m49_ => bL true .int m49_ fun q22 m50_ => bL true .int m50_ fun q23 m51_ => bL true .int m51_ fun q24 m52_ => bL true .int m52_ fun q25 m53_ => bL true .op m53_ fun q26 m54_ => bL true .int m54_ fun q27 m55_ => bL true .int m55_ fun q28 m56_ => bL true .int m56_ fun q29 m57_ => bL true .int m57_ fun q30 m58_ => bL true .int m58_ fun q31 m59_ => bL true .op m59_ fun q32 m60_ => dEnd m60_ <| K (q0, q1, q2, q3, q4, q5, q6, q7, q8, q9, q10, q11, q12, q13, q14, q15, q16, q17, q18, q19, q20, q21, q22, q23, q24, q25, q26, q27, q28, q29, q30, q31, q32)
  law := by
    intro vs tm K
    refine cQ_in ?_; rintro r1_ rfl
    refine cB_in ?_; rintro q0 r2_ rfl
    refine cQ_in ?_; rintro r3_ rfl
    refine cI_in ?_; rintro q1 r4_ rfl
    refine cQ_in ?_; rintro r5_ rfl
    refine cB_in ?_; rintro q2 r6_ rfl
    refine dN_in ?_; rintro rfl
    refine bC_in ?_; rintro c8_ m7_ rfl
    refine cL_in ?_; rintro r9_ rfl
    refine cL_in ?_; rintro r10_ rfl
    refine cL_in ?_; rintro r11_ rfl
    refine cL_in ?_; rintro r12_ rfl
    refine cI_in ?_; rintro q3 r13_ rfl
    refine cL_in ?_; rintro r14_ rfl
    refine cI_in ?_; rintro q4 r15_ rfl
    refine cL_in ?_; rintro r16_ rfl
    refine cI_in ?_; rintro q5 r17_ rfl
    refine cB_in ?_; rintro q6 r18_ rfl
    refine dN_in ?_; rintro rfl
    refine bC_in ?_; rintro c20_ m19_ rfl
    refine cL_in ?_; rintro r21_ rfl
    refine cL_in ?_; rintro r22_ rfl
    refine cL_in ?_; rintro r23_ rfl
    refine cL_in ?_; rintro r24_ rfl
    refine cI_in ?_; rintro q7 r25_ rfl
    refine cL_in ?_; rintro r26_ rfl
    refine cI_in ?_; rintro q8 r27_ rfl
    refine cL_in ?_; rintro r28_ rfl
    refine cI_in ?_; rintro q9 r29_ rfl
    refine cB_in ?_; rintro q10 r30_ rfl
    refine dN_in ?_; rintro rfl
    refine bC_in ?_; rintro c32_ m31_ rfl
    refine cL_in ?_; rintro r33_ rfl
    refine cL_in ?_; rintro r34_ rfl
    refine cL_in ?_; rintro r35_ rfl
    refine cL_in ?_; rintro r36_ rfl
    refine cI_in ?_; rintro q11 r37_ rfl
    refine cL_in ?_; rintro r38_ rfl
    refine cI_in ?_; rintro q12 r39_ rfl
    refine cL_in ?_; rintro r40_ rfl
    refine cI_in ?_; rintro q13 r41_ rfl
    refine cB_in ?_; rintro q14 r42_ rfl
    refine dN_in ?_; rintro rfl
    refine bL_in ?_; rintro q15 m43_ rfl
    refine bL_in ?_; rintro q16 m44_ rfl
    refine bL_in ?_; rintro q17 m45_ rfl
    refine bL_in ?_; rintro q18 m46_ rfl
    refine bL_in ?_; rintro q19 m47_ rfl
    refine bL_in ?_; rintro q20 m48_ rfl
    refine bL_in ?_; rintro q21 m49_ rfl
    refine bL_in ?_; rintro q22 m50_ rfl
    refine bL_in ?_; rintro q23 m51_ rfl
    refine bL_in ?_; rintro q24 m52_ rfl
    refine bL_in ?_; rintro q25 m53_ rfl
    refine bL_in ?_; rintro q26 m54_ rfl
    refine bL_in ?_; rintro q27 m55_ rfl
    refine bL_in ?_; rintro q28 m56_ rfl
    refine bL_in ?_; rintro q29 m57_ rfl
    refine bL_in ?_; rintro q30 m58_ rfl
    refine bL_in ?_; rintro q31 m59_ rfl
    refine bL_in ?_; rintro q32 m60_ rfl
    refine dE_in ?_; rintro rfl
    exact fun h => ⟨(q0, q1, q2, q3, q4, q5, q6, q7, q8, q9, q10, q11, q12, q13, q14, q15, q16, q17, q18, q19, q20, q21, q22, q23, q24, q25, q26, q27, q28, q29, q30, q31, q32), rfl, h⟩
def H4 : List (Nat × LH) := [(1000011, H4_1000011), (1000013, H4_1000013), (1000014, H4_1000014), (1000027, H4_1000027)]
def W4 : List (Nat × List (Nat × List Nat)) := []
def Γ4 : List (Nat × Con) := [(13, useC [.ag [.pure .int, .pure .int, .pure .int, .pure .int, .x, .pure .int, .x, .pure .op, .x, .bl], .x] G13), (15, useC [.ag [.pure .int, .pure .int, .pure .int, .pure .int, .x, .pure .int, .x, .pure .op, .x, .bl]] G15), (14, useC [.ag [.pure .int, .pure .int, .pure .int, .pure .int, .x, .pure .int, .x, .pure .op, .x, .bl], .x, .bl] G14), (12, useC [.ag [.pure .int, .pure .int, .pure .int, .pure .int, .x, .pure .int, .x, .pure .op, .x, .bl], .x, .bl] G12), (16, useC [.ag [.pure .int, .pure .int, .pure .int, .pure .int, .x, .pure .int, .x, .pure .op, .x, .bl], .ag [.pure .int, .pure .int, .pure .int, .pure .int, .x, .pure .int, .x, .pure .op, .x, .bl]] G16), (17, useC [.ag [.own .int, .own .int, .own .int, .own .int, .x, .own .int, .x, .own .op, .x, .bl], .x] G17), (18, useC [.ag [.pure .int, .pure .int, .pure .int, .pure .int, .x, .pure .int, .x, .pure .op, .x, .bl], .x] G18)]
theorem e4 (p1 : List Int) (p2 : List Int) (p3 : List Int) (p4 : List Int) (p5 : Int) (p6 : List Int) (p7 : Int) (p8 : List OpV) (p9 : Int) (p10 : Bool) (p11 : List UInt8) (p12 : Bool) (K : TV → TMem → Prop) : TW PP 109 Γ4 H4 W4 (List.length ([] : TMem)) (bodyOf Tryz.f4) (endT PP 109 [.tmp 6] [.bl] [] (List.length ([] : TMem)) K) (argsF [.agg [.pl .int p1, .pl .int p2, .pl .int p3, .pl .int p4, .int .i64 p5, .pl .int p6, .int .i64 p7, .pl .op p8, .int .i64 p9, .bool p10], .str p11, .bool p12]) [] =
    Ml_FnExactRunBoth p1 p2 p3 p4 p5 p6 p7 p8 p9 p10 p11 p12 (fun r1 => K (.bool r1) []) := by kernel_rfl
theorem s4 : CSound PP 4 G4 := by
  intro args K c h fl A aargs hA hN R hl
  unfold G4 at h
  generalize ht : c.tm = tm at h
  revert h
  refine cA_in ?_; rintro l2_ r1_ rfl
  refine cP_in ?_; rintro p1 r3_ rfl
  refine cP_in ?_; rintro p2 r4_ rfl
  refine cP_in ?_; rintro p3 r5_ rfl
  refine cP_in ?_; rintro p4 r6_ rfl
  refine cI_in ?_; rintro p5 r7_ rfl
  refine cP_in ?_; rintro p6 r8_ rfl
  refine cI_in ?_; rintro p7 r9_ rfl
  refine cP_in ?_; rintro p8 r10_ rfl
  refine cI_in ?_; rintro p9 r11_ rfl
  refine cB_in ?_; rintro p10 r12_ rfl
  refine dN_in ?_; rintro rfl
  refine cS_in ?_; rintro p11 r13_ rfl
  refine cB_in ?_; rintro p12 r14_ rfl
  refine dN_in ?_; rintro rfl
  refine dE_in ?_; rintro rfl
  intro h
  refine fun_ok (nt := 109) (x := bodyOf Tryz.f4) (Γ := Γ4) (H := H4) (WW := W4) (rs := [.tmp 6]) (shs := [.bl]) (cons := []) mixed Tryz.func4 (by decide) (by kernel_rfl) Tryz.ntmps4 Tryz.results4 (.cons (useC_ok s13) (.cons (useC_ok s15) (.cons (useC_ok s14) (.cons (useC_ok s12) (.cons (useC_ok s16) (.cons (useC_ok s17) (.cons (useC_ok s18) (GSound.nil)))))))) ?_ hA hN R hl
  rw [ht, e4 p1 p2 p3 p4 p5 p6 p7 p8 p9 p10 p11 p12 K]
  exact h
end Go.Ab
