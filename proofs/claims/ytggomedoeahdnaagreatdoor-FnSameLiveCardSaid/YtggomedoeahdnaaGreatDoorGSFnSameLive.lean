/-
  What is proved here: that the typed models of functions of the translated program are sound.
-/
import Derived.Test.YtggomedoeahdnaaGreatDoorGM
import Derived.Test.YtggomedoeahdnaaGreatDoorProg
import Derived.KernelRfl
namespace Go.Ab
set_option linter.unusedVariables false
open Go.Proofs
noncomputable abbrev PP : Program := Tryz.prog
theorem mixed : PP.follows .mixedOrders = true := by kernel_rfl
/-! spec.l13Open -/
def G31 : Con := fun args tm K => cP .byte args fun p1 r1_ => dNil r1_ <| dEnd tm <| Ms_l13Open p1 (fun r1 r2 => K (.ptr 0 0) [⟨true, .cells [.pl .byte r1, .int .i64 r2]⟩])
def H31 : List (Nat × LH) := []
def W31 : List (Nat × List (Nat × List Nat)) := []
def Γ31 : List (Nat × Con) := []
theorem e31 (p1 : List Int) (K : TV → TMem → Prop) : TW PP 11 Γ31 H31 W31 (List.length ([] : TMem)) (bodyOf Tryz.f31) (endT PP 11 [.tmp 2] [.pc [.pure .byte, .x]] [] (List.length ([] : TMem)) K) (argsF [.pl .byte p1]) [] =
    Ms_l13Open p1 (fun r1 r2 => K (.ptr 0 0) [⟨true, .cells [.pl .byte r1, .int .i64 r2]⟩]) := by kernel_rfl
theorem s31 : CSound PP 31 G31 := by
  intro args K c h fl A aargs hA hN R hl
  unfold G31 at h
  generalize ht : c.tm = tm at h
  revert h
  refine cP_in ?_; rintro p1 r1_ rfl
  refine dN_in ?_; rintro rfl
  refine dE_in ?_; rintro rfl
  intro h
  refine fun_ok (nt := 11) (x := bodyOf Tryz.f31) (Γ := Γ31) (H := H31) (WW := W31) (rs := [.tmp 2]) (shs := [.pc [.pure .byte, .x]]) (cons := []) mixed Tryz.func31 (by decide) (by kernel_rfl) Tryz.ntmps31 Tryz.results31 (GSound.nil) ?_ hA hN R hl
  rw [ht, e31 p1 K]
  exact h
/-! (*spec.l13Rd).pick -/
def G33 : Con := fun args tm K => cQ 0 args fun r1_ => cI .i64 r1_ fun p1 r2_ => dNil r2_ <| bC true tm fun c4_ m3_ => cP .byte c4_ fun p2 r5_ => cI .i64 r5_ fun p3 r6_ => dNil r6_ <| dEnd m3_ <| Ms_l13Rd_pick p1 p2 p3 (fun r1 r2 => K (.int .i64 r1) [⟨true, .cells [.pl .byte p2, .int .i64 r2]⟩])
def H33 : List (Nat × LH) := []
def W33 : List (Nat × List (Nat × List Nat)) := []
def Γ33 : List (Nat × Con) := []
theorem e33 (p1 : Int) (p2 : List Int) (p3 : Int) (K : TV → TMem → Prop) : TW PP 99 Γ33 H33 W33 (List.length ([⟨true, .cells [.pl .byte p2, .int .i64 p3]⟩] : TMem)) (bodyOf Tryz.f33) (endT PP 99 [.tmp 4] [.x] [] (List.length ([⟨true, .cells [.pl .byte p2, .int .i64 p3]⟩] : TMem)) K) (argsF [.ptr 0 0, .int .i64 p1]) [⟨true, .cells [.pl .byte p2, .int .i64 p3]⟩] =
    Ms_l13Rd_pick p1 p2 p3 (fun r1 r2 => K (.int .i64 r1) [⟨true, .cells [.pl .byte p2, .int .i64 r2]⟩]) := by kernel_rfl
theorem s33 : CSound PP 33 G33 := by
  intro args K c h fl A aargs hA hN R hl
  unfold G33 at h
  generalize ht : c.tm = tm at h
  revert h
  refine cQ_in ?_; rintro r1_ rfl
  refine cI_in ?_; rintro p1 r2_ rfl
  refine dN_in ?_; rintro rfl
  refine bC_in ?_; rintro c4_ m3_ rfl
  refine cP_in ?_; rintro p2 r5_ rfl
  refine cI_in ?_; rintro p3 r6_ rfl
  refine dN_in ?_; rintro rfl
  refine dE_in ?_; rintro rfl
  intro h
  refine fun_ok (nt := 99) (x := bodyOf Tryz.f33) (Γ := Γ33) (H := H33) (WW := W33) (rs := [.tmp 4]) (shs := [.x]) (cons := []) mixed Tryz.func33 (by decide) (by kernel_rfl) Tryz.ntmps33 Tryz.results33 (GSound.nil) ?_ hA hN R hl
  rw [ht, e33 p1 p2 p3 K]
  exact h
/-! (*spec.l13Rd).num -/
def G89 : Con := fun args tm K => cQ 0 args fun r1_ => cP .int r1_ fun p1 r2_ => dNil r2_ <| bC true tm fun c4_ m3_ => cP .byte c4_ fun p2 r5_ => cI .i64 r5_ fun p3 r6_ => dNil r6_ <| dEnd m3_ <| Ms_l13Rd_num p1 p2 p3 (fun r1 r2 => K (.int .i64 r1) [⟨true, .cells [.pl .byte p2, .int .i64 r2]⟩])
def H89 : List (Nat × LH) := []
def W89 : List (Nat × List (Nat × List Nat)) := []
def Γ89 : List (Nat × Con) := [(33, useC [.pc [.pure .byte, .x], .x] G33)]
theorem e89 (p1 : List Int) (p2 : List Int) (p3 : Int) (K : TV → TMem → Prop) : TW PP 12 Γ89 H89 W89 (List.length ([⟨true, .cells [.pl .byte p2, .int .i64 p3]⟩] : TMem)) (bodyOf Tryz.f89) (endT PP 12 [.tmp 4] [.x] [] (List.length ([⟨true, .cells [.pl .byte p2, .int .i64 p3]⟩] : TMem)) K) (argsF [.ptr 0 0, .pl .int p1]) [⟨true, .cells [.pl .byte p2, .int .i64 p3]⟩] =
    Ms_l13Rd_num p1 p2 p3 (fun r1 r2 => K (.int .i64 r1) [⟨true, .cells [.pl .byte p2, .int .i64 r2]⟩]) := by kernel_rfl
theorem s89 : CSound PP 89 G89 := by
  intro args K c h fl A aargs hA hN R hl
  unfold G89 at h
  generalize ht : c.tm = tm at h
  revert h
  refine cQ_in ?_; rintro r1_ rfl
  refine cP_in ?_; rintro p1 r2_ rfl
  refine dN_in ?_; rintro rfl
  refine bC_in ?_; rintro c4_ m3_ rfl
  refine cP_in ?_; rintro p2 r5_ rfl
  refine cI_in ?_; rintro p3 r6_ rfl
  refine dN_in ?_; rintro rfl
  refine dE_in ?_; rintro rfl
  intro h
  refine fun_ok (nt := 12) (x := bodyOf Tryz.f89) (Γ := Γ89) (H := H89) (WW := W89) (rs := [.tmp 4]) (shs := [.x]) (cons := []) mixed Tryz.func89 (by decide) (by kernel_rfl) Tryz.ntmps89 Tryz.results89 (.cons (useC_ok s33) (GSound.nil)) ?_ hA hN R hl
  rw [ht, e89 p1 p2 p3 K]
  exact h
/-! spec.l1Many -/
def G204 : Con := fun args tm K => cI .i64 args fun p1 r1_ => dNil r1_ <| dEnd tm <| Ms_l1Many p1 (fun r1 => K (.sl 0) [⟨true, .list .int r1⟩])
def H204_0 : LH where
  keep := [(0, .x), (3, .own .int), (4, .x)]
  S := Int × Int × List Int
  enc := fun s => ([.int .i64 s.1, .sl 0, .int .i64 s.2.1], [⟨true, .list .int s.2.2⟩])
  dec := fun vs tm K => cI .i64 vs fun q0 r1_ => cL 0 r1_ fun r2_ => cI .i64 r2_ fun q1 r3_ => dNil r3_ <| bL true .int tm fun q2 m4_ => dEnd m4_ <| K (q0, q1, q2)
  law := by
    intro vs tm K
    refine cI_in ?_; rintro q0 r1_ rfl
    refine cL_in ?_; rintro r2_ rfl
    refine cI_in ?_; rintro q1 r3_ rfl
    refine dN_in ?_; rintro rfl
    refine bL_in ?_; rintro q2 m4_ rfl
    refine dE_in ?_; rintro rfl
    exact fun h => ⟨(q0, q1, q2), rfl, h⟩
def H204 : List (Nat × LH) := [(0, H204_0)]
def W204 : List (Nat × List (Nat × List Nat)) := []
def Γ204 : List (Nat × Con) := []
theorem e204 (p1 : Int) (K : TV → TMem → Prop) : TW PP 15 Γ204 H204 W204 (List.length ([] : TMem)) (bodyOf Tryz.f204) (endT PP 15 [.tmp 2] [.own .int] [] (List.length ([] : TMem)) K) (argsF [.int .i64 p1]) [] =
    Ms_l1Many p1 (fun r1 => K (.sl 0) [⟨true, .list .int r1⟩]) := by kernel_rfl
theorem s204 : CSound PP 204 G204 := by
  intro args K c h fl A aargs hA hN R hl
  unfold G204 at h
  generalize ht : c.tm = tm at h
  revert h
  refine cI_in ?_; rintro p1 r1_ rfl
  refine dN_in ?_; rintro rfl
  refine dE_in ?_; rintro rfl
  intro h
  refine fun_ok (nt := 15) (x := bodyOf Tryz.f204) (Γ := Γ204) (H := H204) (WW := W204) (rs := [.tmp 2]) (shs := [.own .int]) (cons := []) mixed Tryz.func204 (by decide) (by kernel_rfl) Tryz.ntmps204 Tryz.results204 (GSound.nil) ?_ hA hN R hl
  rw [ht, e204 p1 K]
  exact h
/-! spec.NewHeap -/
def G178 : Con := fun args tm K => cI .i64 args fun p1 r1_ => cI .i64 r1_ fun p2 r2_ => dNil r2_ <| dEnd tm <| Ms_NewHeap p1 p2 (fun r1 r2 r3 r4 => K (.tup [.agg [.sl 0, .sl 1, .sl 2], .bool r1]) [⟨true, .list .int r2⟩, ⟨true, .list .int r3⟩, ⟨true, .list .int r4⟩])
def H178 : List (Nat × LH) := []
def W178 : List (Nat × List (Nat × List Nat)) := []
def Γ178 : List (Nat × Con) := [(204, useC [.x] G204)]
theorem e178 (p1 : Int) (p2 : Int) (K : TV → TMem → Prop) : TW PP 28 Γ178 H178 W178 (List.length ([] : TMem)) (bodyOf Tryz.f178) (endT PP 28 [.cell 4 25, .tmp 5] [.ag [.own .int, .own .int, .own .int], .bl] [] (List.length ([] : TMem)) K) (argsF [.int .i64 p1, .int .i64 p2]) [] =
    Ms_NewHeap p1 p2 (fun r1 r2 r3 r4 => K (.tup [.agg [.sl 0, .sl 1, .sl 2], .bool r1]) [⟨true, .list .int r2⟩, ⟨true, .list .int r3⟩, ⟨true, .list .int r4⟩]) := by kernel_rfl
theorem s178 : CSound PP 178 G178 := by
  intro args K c h fl A aargs hA hN R hl
  unfold G178 at h
  generalize ht : c.tm = tm at h
  revert h
  refine cI_in ?_; rintro p1 r1_ rfl
  refine cI_in ?_; rintro p2 r2_ rfl
  refine dN_in ?_; rintro rfl
  refine dE_in ?_; rintro rfl
  intro h
  refine fun_ok (nt := 28) (x := bodyOf Tryz.f178) (Γ := Γ178) (H := H178) (WW := W178) (rs := [.cell 4 25, .tmp 5]) (shs := [.ag [.own .int, .own .int, .own .int], .bl]) (cons := []) mixed Tryz.func178 (by decide) (by kernel_rfl) Tryz.ntmps178 Tryz.results178 (.cons (useC_ok s204) (GSound.nil)) ?_ hA hN R hl
  rw [ht, e178 p1 p2 K]
  exact h
/-! spec.NewStore -/
def G130 : Con := fun args tm K => cI .i64 args fun p1 r1_ => cI .i64 r1_ fun p2 r2_ => dNil r2_ <| dEnd tm <| Ms_NewStore p1 p2 (fun r1 r2 r3 r4 r5 => K (.tup [.agg [.sl 0, .sl 1, .sl 2, .sl 3], .bool r1]) [⟨true, .list .int r2⟩, ⟨true, .list .int r3⟩, ⟨true, .list .int r4⟩, ⟨true, .list .int r5⟩])
def H130_0 : LH where
  keep := [(0, .x), (4, .pc [.own .int, .own .int, .own .int, .own .int]), (8, .pc [.own .int, .own .int, .own .int, .own .int]), (9, .x)]
  S := Int × Int × List Int × List Int × List Int × List Int × List Int × List Int × List Int × List Int
  enc := fun s => ([.int .i64 s.1, .ptr 0 0, .ptr 1 0, .int .i64 s.2.1], [⟨true, .cells [.sl 2, .sl 3, .sl 4, .sl 5]⟩, ⟨true, .cells [.sl 6, .sl 7, .sl 8, .sl 9]⟩, ⟨true, .list .int s.2.2.1⟩, ⟨true, .list .int s.2.2.2.1⟩, ⟨true, .list .int s.2.2.2.2.1⟩, ⟨true, .list .int s.2.2.2.2.2.1⟩, ⟨true, .list .int s.2.2.2.2.2.2.1⟩, ⟨true, .list .int s.2.2.2.2.2.2.2.1⟩, ⟨true, .list .int s.2.2.2.2.2.2.2.2.1⟩, ⟨true, .list .int s.2.2.2.2.2.2.2.2.2⟩])
  dec := fun vs tm K => cI .i64 vs fun q0 r1_ => cQ 0 r1_ fun r2_ => cQ 1 r2_ fun r3_ => cI .i64 r3_ fun q1 r4_ => dNil r4_ <| bC true tm fun c6_ m5_ => cL 2 c6_ fun r7_ => cL 3 r7_ fun r8_ => cL 4 r8_ fun r9_ => cL 5 r9_ fun r10_ => dNil r10_ <| bC true m5_ fun c12_ m11_ => cL 6 c12_ fun r13_ => cL 7 r13_ fun r14_ => cL 8 r14_ fun r15_ => cL 9 r15_ fun r16_ => dNil r16_ <| bL true .int m11_ fun q2 m17_ => bL true .int m17_ fun q3 m18_ => bL true .int m18_ fun q4 m19_ => bL true .int m19_ fun q5 m20_ => bL true .int m20_ fun q6 m21_ => bL true .int m21_ fun q7 m22_ => bL true .int m22_ fun q8 m23_ => bL true .int m23_ fun q9 m24_ => dEnd m24_ <| K (q0, q1, q2, q3, q4, q5, q6, q7, q8, q9)
  law := by
    intro vs tm K
    refine cI_in ?_; rintro q0 r1_ rfl
    refine cQ_in ?_; rintro r2_ rfl
    refine cQ_in ?_; rintro r3_ rfl
    refine cI_in ?_; rintro q1 r4_ rfl
    refine dN_in ?_; rintro rfl
    refine bC_in ?_; rintro c6_ m5_ rfl
    refine cL_in ?_; rintro r7_ rfl
    refine cL_in ?_; rintro r8_ rfl
    refine cL_in ?_; rintro r9_ rfl
    refine cL_in ?_; rintro r10_ rfl
    refine dN_in ?_; rintro rfl
    refine bC_in ?_; rintro c12_ m11_ rfl
    refine cL_in ?_; rintro r13_ rfl
    refine cL_in ?_; rintro r14_ rfl
    refine cL_in ?_; rintro r15_ rfl
    refine cL_in ?_; rintro r16_ rfl
    refine dN_in ?_; rintro rfl
    refine bL_in ?_; rintro q2 m17_ rfl
    refine bL_in ?_; rintro q3 m18_ rfl
    refine bL_in ?_; rintro q4 m19_ rfl
    refine bL_in ?_; rintro q5 m20_ rfl
    refine bL_in ?_; rintro q6 m21_ rfl
    refine bL_in ?_; rintro q7 m22_ rfl
    refine bL_in ?_; rintro q8 m23_ rfl
    refine bL_in ?_; rintro q9 m24_ rfl
    refine dE_in ?_; rintro rfl
    exact fun h => ⟨(q0, q1, q2, q3, q4, q5, q6, q7, q8, q9), rfl, h⟩
def H130 : List (Nat × LH) := [(0, H130_0)]
def W130 : List (Nat × List (Nat × List Nat)) := []
def Γ130 : List (Nat × Con) := [(178, useC [.x, .x] G178)]
theorem e130 (p1 : Int) (p2 : Int) (K : TV → TMem → Prop) : TW PP 33 Γ130 H130 W130 (List.length ([] : TMem)) (bodyOf Tryz.f130) (endT PP 33 [.cell 4 27, .tmp 5] [.ag [.own .int, .own .int, .own .int, .own .int], .bl] [] (List.length ([] : TMem)) K) (argsF [.int .i64 p1, .int .i64 p2]) [] =
    Ms_NewStore p1 p2 (fun r1 r2 r3 r4 r5 => K (.tup [.agg [.sl 0, .sl 1, .sl 2, .sl 3], .bool r1]) [⟨true, .list .int r2⟩, ⟨true, .list .int r3⟩, ⟨true, .list .int r4⟩, ⟨true, .list .int r5⟩]) := by kernel_rfl
theorem s130 : CSound PP 130 G130 := by
  intro args K c h fl A aargs hA hN R hl
  unfold G130 at h
  generalize ht : c.tm = tm at h
  revert h
  refine cI_in ?_; rintro p1 r1_ rfl
  refine cI_in ?_; rintro p2 r2_ rfl
  refine dN_in ?_; rintro rfl
  refine dE_in ?_; rintro rfl
  intro h
  refine fun_ok (nt := 33) (x := bodyOf Tryz.f130) (Γ := Γ130) (H := H130) (WW := W130) (rs := [.cell 4 27, .tmp 5]) (shs := [.ag [.own .int, .own .int, .own .int, .own .int], .bl]) (cons := []) mixed Tryz.func130 (by decide) (by kernel_rfl) Tryz.ntmps130 Tryz.results130 (.cons (useC_ok s178) (GSound.nil)) ?_ hA hN R hl
  rw [ht, e130 p1 p2 K]
  exact h
/-! spec.l7Samples -/
def G132 : Con := fun args tm K => dNil args <| dEnd tm <| Ms_l7Samples  (fun r1 => K (.pl .str r1) [])
def H132 : List (Nat × LH) := []
def W132 : List (Nat × List (Nat × List Nat)) := []
def Γ132 : List (Nat × Con) := []
theorem e132  (K : TV → TMem → Prop) : TW PP 2 Γ132 H132 W132 (List.length ([] : TMem)) (bodyOf Tryz.f132) (endT PP 2 [.tmp 0] [.pure .str] [] (List.length ([] : TMem)) K) (argsF []) [] =
    Ms_l7Samples  (fun r1 => K (.pl .str r1) []) := by kernel_rfl
theorem s132 : CSound PP 132 G132 := by
  intro args K c h fl A aargs hA hN R hl
  unfold G132 at h
  generalize ht : c.tm = tm at h
  revert h
  refine dN_in ?_; rintro rfl
  refine dE_in ?_; rintro rfl
  intro h
  refine fun_ok (nt := 2) (x := bodyOf Tryz.f132) (Γ := Γ132) (H := H132) (WW := W132) (rs := [.tmp 0]) (shs := [.pure .str]) (cons := []) mixed Tryz.func132 (by decide) (by kernel_rfl) Tryz.ntmps132 Tryz.results132 (GSound.nil) ?_ hA hN R hl
  rw [ht, e132  K]
  exact h
/-! (*spec.l13Rd).of -/
def G131 : Con := fun args tm K => cQ 0 args fun r1_ => cP .str r1_ fun p1 r2_ => dNil r2_ <| bC true tm fun c4_ m3_ => cP .byte c4_ fun p2 r5_ => cI .i64 r5_ fun p3 r6_ => dNil r6_ <| dEnd m3_ <| Ms_l13Rd_of p1 p2 p3 (fun r1 r2 => K (.str r1) [⟨true, .cells [.pl .byte p2, .int .i64 r2]⟩])
def H131 : List (Nat × LH) := []
def W131 : List (Nat × List (Nat × List Nat)) := []
def Γ131 : List (Nat × Con) := [(33, useC [.pc [.pure .byte, .x], .x] G33)]
theorem e131 (p1 : List (List UInt8)) (p2 : List Int) (p3 : Int) (K : TV → TMem → Prop) : TW PP 12 Γ131 H131 W131 (List.length ([⟨true, .cells [.pl .byte p2, .int .i64 p3]⟩] : TMem)) (bodyOf Tryz.f131) (endT PP 12 [.tmp 4] [.x] [] (List.length ([⟨true, .cells [.pl .byte p2, .int .i64 p3]⟩] : TMem)) K) (argsF [.ptr 0 0, .pl .str p1]) [⟨true, .cells [.pl .byte p2, .int .i64 p3]⟩] =
    Ms_l13Rd_of p1 p2 p3 (fun r1 r2 => K (.str r1) [⟨true, .cells [.pl .byte p2, .int .i64 r2]⟩]) := by kernel_rfl
theorem s131 : CSound PP 131 G131 := by
  intro args K c h fl A aargs hA hN R hl
  unfold G131 at h
  generalize ht : c.tm = tm at h
  revert h
  refine cQ_in ?_; rintro r1_ rfl
  refine cP_in ?_; rintro p1 r2_ rfl
  refine dN_in ?_; rintro rfl
  refine bC_in ?_; rintro c4_ m3_ rfl
  refine cP_in ?_; rintro p2 r5_ rfl
  refine cI_in ?_; rintro p3 r6_ rfl
  refine dN_in ?_; rintro rfl
  refine dE_in ?_; rintro rfl
  intro h
  refine fun_ok (nt := 12) (x := bodyOf Tryz.f131) (Γ := Γ131) (H := H131) (WW := W131) (rs := [.tmp 4]) (shs := [.x]) (cons := []) mixed Tryz.func131 (by decide) (by kernel_rfl) Tryz.ntmps131 Tryz.results131 (.cons (useC_ok s33) (GSound.nil)) ?_ hA hN R hl
  rw [ht, e131 p1 p2 p3 K]
  exact h
/-! spec.l13Cut -/
def G76 : Con := fun args tm K => cS args fun p1 r1_ => cI .u8 r1_ fun p2 r2_ => dNil r2_ <| dEnd tm <| Ms_l13Cut p1 p2 (fun r1 => K (.sl 0) [⟨true, .list .str r1⟩])
def H76_0 : LH where
  keep := [(0, .x), (1, .x), (5, .own .str), (6, .x), (7, .x)]
  S := List UInt8 × Int × Int × Int × List (List UInt8)
  enc := fun s => ([.str s.1, .int .u8 s.2.1, .sl 0, .int .i64 s.2.2.1, .int .i64 s.2.2.2.1], [⟨true, .list .str s.2.2.2.2⟩])
  dec := fun vs tm K => cS vs fun q0 r1_ => cI .u8 r1_ fun q1 r2_ => cL 0 r2_ fun r3_ => cI .i64 r3_ fun q2 r4_ => cI .i64 r4_ fun q3 r5_ => dNil r5_ <| bL true .str tm fun q4 m6_ => dEnd m6_ <| K (q0, q1, q2, q3, q4)
  law := by
    intro vs tm K
    refine cS_in ?_; rintro q0 r1_ rfl
    refine cI_in ?_; rintro q1 r2_ rfl
    refine cL_in ?_; rintro r3_ rfl
    refine cI_in ?_; rintro q2 r4_ rfl
    refine cI_in ?_; rintro q3 r5_ rfl
    refine dN_in ?_; rintro rfl
    refine bL_in ?_; rintro q4 m6_ rfl
    refine dE_in ?_; rintro rfl
    exact fun h => ⟨(q0, q1, q2, q3, q4), rfl, h⟩
def H76 : List (Nat × LH) := [(0, H76_0)]
def W76 : List (Nat × List (Nat × List Nat)) := []
def Γ76 : List (Nat × Con) := []
theorem e76 (p1 : List UInt8) (p2 : Int) (K : TV → TMem → Prop) : TW PP 36 Γ76 H76 W76 (List.length ([] : TMem)) (bodyOf Tryz.f76) (endT PP 36 [.tmp 4] [.own .str] [] (List.length ([] : TMem)) K) (argsF [.str p1, .int .u8 p2]) [] =
    Ms_l13Cut p1 p2 (fun r1 => K (.sl 0) [⟨true, .list .str r1⟩]) := by kernel_rfl
theorem s76 : CSound PP 76 G76 := by
  intro args K c h fl A aargs hA hN R hl
  unfold G76 at h
  generalize ht : c.tm = tm at h
  revert h
  refine cS_in ?_; rintro p1 r1_ rfl
  refine cI_in ?_; rintro p2 r2_ rfl
  refine dN_in ?_; rintro rfl
  refine dE_in ?_; rintro rfl
  intro h
  refine fun_ok (nt := 36) (x := bodyOf Tryz.f76) (Γ := Γ76) (H := H76) (WW := W76) (rs := [.tmp 4]) (shs := [.own .str]) (cons := []) mixed Tryz.func76 (by decide) (by kernel_rfl) Tryz.ntmps76 Tryz.results76 (GSound.nil) ?_ hA hN R hl
  rw [ht, e76 p1 p2 K]
  exact h
/-! spec.l5Word -/
def G188 : Con := fun args tm K => cI .i64 args fun p1 r1_ => dNil r1_ <| dEnd tm <| Ms_l5Word p1 (fun r1 => K (.str r1) [])
def H188 : List (Nat × LH) := []
def W188 : List (Nat × List (Nat × List Nat)) := []
def Γ188 : List (Nat × Con) := []
theorem e188 (p1 : Int) (K : TV → TMem → Prop) : TW PP 15 Γ188 H188 W188 (List.length ([] : TMem)) (bodyOf Tryz.f188) (endT PP 15 [.tmp 2] [.x] [] (List.length ([] : TMem)) K) (argsF [.int .i64 p1]) [] =
    Ms_l5Word p1 (fun r1 => K (.str r1) []) := by kernel_rfl
theorem s188 : CSound PP 188 G188 := by
  intro args K c h fl A aargs hA hN R hl
  unfold G188 at h
  generalize ht : c.tm = tm at h
  revert h
  refine cI_in ?_; rintro p1 r1_ rfl
  refine dN_in ?_; rintro rfl
  refine dE_in ?_; rintro rfl
  intro h
  refine fun_ok (nt := 15) (x := bodyOf Tryz.f188) (Γ := Γ188) (H := H188) (WW := W188) (rs := [.tmp 2]) (shs := [.x]) (cons := []) mixed Tryz.func188 (by decide) (by kernel_rfl) Tryz.ntmps188 Tryz.results188 (GSound.nil) ?_ hA hN R hl
  rw [ht, e188 p1 K]
  exact h
/-! spec.l5One -/
def G189 : Con := fun args tm K => cI .i64 args fun p1 r1_ => dNil r1_ <| dEnd tm <| Ms_l5One p1 (fun r1 => K (.bool r1) [])
def H189 : List (Nat × LH) := []
def W189 : List (Nat × List (Nat × List Nat)) := []
def Γ189 : List (Nat × Con) := []
theorem e189 (p1 : Int) (K : TV → TMem → Prop) : TW PP 9 Γ189 H189 W189 (List.length ([] : TMem)) (bodyOf Tryz.f189) (endT PP 9 [.tmp 2] [.bl] [] (List.length ([] : TMem)) K) (argsF [.int .i64 p1]) [] =
    Ms_l5One p1 (fun r1 => K (.bool r1) []) := by kernel_rfl
theorem s189 : CSound PP 189 G189 := by
  intro args K c h fl A aargs hA hN R hl
  unfold G189 at h
  generalize ht : c.tm = tm at h
  revert h
  refine cI_in ?_; rintro p1 r1_ rfl
  refine dN_in ?_; rintro rfl
  refine dE_in ?_; rintro rfl
  intro h
  refine fun_ok (nt := 9) (x := bodyOf Tryz.f189) (Γ := Γ189) (H := H189) (WW := W189) (rs := [.tmp 2]) (shs := [.bl]) (cons := []) mixed Tryz.func189 (by decide) (by kernel_rfl) Tryz.ntmps189 Tryz.results189 (GSound.nil) ?_ hA hN R hl
  rw [ht, e189 p1 K]
  exact h
/-! spec.OpValid -/
def G162 : Con := fun args tm K => cA args fun l2_ r1_ => cI .i64 l2_ fun p1 r3_ => cI .i64 r3_ fun p2 r4_ => cI .i64 r4_ fun p3 r5_ => dNil r5_ <| cI .i64 r1_ fun p4 r6_ => dNil r6_ <| dEnd tm <| Ms_OpValid p1 p2 p3 p4 (fun r1 => K (.bool r1) [])
def H162 : List (Nat × LH) := []
def W162 : List (Nat × List (Nat × List Nat)) := []
def Γ162 : List (Nat × Con) := [(188, useC [.x] G188), (189, useC [.x] G189)]
theorem e162 (p1 : Int) (p2 : Int) (p3 : Int) (p4 : Int) (K : TV → TMem → Prop) : TW PP 45 Γ162 H162 W162 (List.length ([] : TMem)) (bodyOf Tryz.f162) (endT PP 45 [.tmp 4] [.bl] [] (List.length ([] : TMem)) K) (argsF [.agg [.int .i64 p1, .int .i64 p2, .int .i64 p3], .int .i64 p4]) [] =
    Ms_OpValid p1 p2 p3 p4 (fun r1 => K (.bool r1) []) := by kernel_rfl
theorem s162 : CSound PP 162 G162 := by
  intro args K c h fl A aargs hA hN R hl
  unfold G162 at h
  generalize ht : c.tm = tm at h
  revert h
  refine cA_in ?_; rintro l2_ r1_ rfl
  refine cI_in ?_; rintro p1 r3_ rfl
  refine cI_in ?_; rintro p2 r4_ rfl
  refine cI_in ?_; rintro p3 r5_ rfl
  refine dN_in ?_; rintro rfl
  refine cI_in ?_; rintro p4 r6_ rfl
  refine dN_in ?_; rintro rfl
  refine dE_in ?_; rintro rfl
  intro h
  refine fun_ok (nt := 45) (x := bodyOf Tryz.f162) (Γ := Γ162) (H := H162) (WW := W162) (rs := [.tmp 4]) (shs := [.bl]) (cons := []) mixed Tryz.func162 (by decide) (by kernel_rfl) Tryz.ntmps162 Tryz.results162 (.cons (useC_ok s188) (.cons (useC_ok s189) (GSound.nil))) ?_ hA hN R hl
  rw [ht, e162 p1 p2 p3 p4 K]
  exact h
/-! spec.l13Dec -/
def G187 : Con := fun args tm K => cI .i64 args fun p1 r1_ => dNil r1_ <| dEnd tm <| Ms_l13Dec p1 (fun r1 => K (.str r1) [])
def H187_0 : LH where
  keep := [(0, .x), (3, .x)]
  S := Int × List UInt8
  enc := fun s => ([.int .i64 s.1, .str s.2], [])
  dec := fun vs tm K => cI .i64 vs fun q0 r1_ => cS r1_ fun q1 r2_ => dNil r2_ <| dEnd tm <| K (q0, q1)
  law := by
    intro vs tm K
    refine cI_in ?_; rintro q0 r1_ rfl
    refine cS_in ?_; rintro q1 r2_ rfl
    refine dN_in ?_; rintro rfl
    refine dE_in ?_; rintro rfl
    exact fun h => ⟨(q0, q1), rfl, h⟩
def H187 : List (Nat × LH) := [(0, H187_0)]
def W187 : List (Nat × List (Nat × List Nat)) := []
def Γ187 : List (Nat × Con) := []
theorem e187 (p1 : Int) (K : TV → TMem → Prop) : TW PP 31 Γ187 H187 W187 (List.length ([] : TMem)) (bodyOf Tryz.f187) (endT PP 31 [.tmp 2] [.x] [] (List.length ([] : TMem)) K) (argsF [.int .i64 p1]) [] =
    Ms_l13Dec p1 (fun r1 => K (.str r1) []) := by kernel_rfl
theorem s187 : CSound PP 187 G187 := by
  intro args K c h fl A aargs hA hN R hl
  unfold G187 at h
  generalize ht : c.tm = tm at h
  revert h
  refine cI_in ?_; rintro p1 r1_ rfl
  refine dN_in ?_; rintro rfl
  refine dE_in ?_; rintro rfl
  intro h
  refine fun_ok (nt := 31) (x := bodyOf Tryz.f187) (Γ := Γ187) (H := H187) (WW := W187) (rs := [.tmp 2]) (shs := [.x]) (cons := []) mixed Tryz.func187 (by decide) (by kernel_rfl) Tryz.ntmps187 Tryz.results187 (GSound.nil) ?_ hA hN R hl
  rw [ht, e187 p1 K]
  exact h
/-! spec.FormatOp -/
def G145 : Con := fun args tm K => cA args fun l2_ r1_ => cI .i64 l2_ fun p1 r3_ => cI .i64 r3_ fun p2 r4_ => cI .i64 r4_ fun p3 r5_ => dNil r5_ <| dNil r1_ <| dEnd tm <| Ms_FormatOp p1 p2 p3 (fun r1 => K (.str r1) [])
def H145 : List (Nat × LH) := []
def W145 : List (Nat × List (Nat × List Nat)) := []
def Γ145 : List (Nat × Con) := [(162, useC [.ag [.x, .x, .x], .x] G162), (188, useC [.x] G188), (187, useC [.x] G187), (189, useC [.x] G189)]
theorem e145 (p1 : Int) (p2 : Int) (p3 : Int) (K : TV → TMem → Prop) : TW PP 25 Γ145 H145 W145 (List.length ([] : TMem)) (bodyOf Tryz.f145) (endT PP 25 [.tmp 2] [.x] [] (List.length ([] : TMem)) K) (argsF [.agg [.int .i64 p1, .int .i64 p2, .int .i64 p3]]) [] =
    Ms_FormatOp p1 p2 p3 (fun r1 => K (.str r1) []) := by kernel_rfl
theorem s145 : CSound PP 145 G145 := by
  intro args K c h fl A aargs hA hN R hl
  unfold G145 at h
  generalize ht : c.tm = tm at h
  revert h
  refine cA_in ?_; rintro l2_ r1_ rfl
  refine cI_in ?_; rintro p1 r3_ rfl
  refine cI_in ?_; rintro p2 r4_ rfl
  refine cI_in ?_; rintro p3 r5_ rfl
  refine dN_in ?_; rintro rfl
  refine dN_in ?_; rintro rfl
  refine dE_in ?_; rintro rfl
  intro h
  refine fun_ok (nt := 25) (x := bodyOf Tryz.f145) (Γ := Γ145) (H := H145) (WW := W145) (rs := [.tmp 2]) (shs := [.x]) (cons := []) mixed Tryz.func145 (by decide) (by kernel_rfl) Tryz.ntmps145 Tryz.results145 (.cons (useC_ok s162) (.cons (useC_ok s188) (.cons (useC_ok s187) (.cons (useC_ok s189) (GSound.nil))))) ?_ hA hN R hl
  rw [ht, e145 p1 p2 p3 K]
  exact h
/-! spec.ParseOp -/
def G80 : Con := fun args tm K => cS args fun p1 r1_ => dNil r1_ <| dEnd tm <| Ms_ParseOp p1 (fun r1 r2 r3 r4 => K (.tup [.agg [.int .i64 r1, .int .i64 r2, .int .i64 r3], .bool r4]) [])
def H80_0 : LH where
  keep := [(0, .x), (2, .pc [.x, .x, .x]), (4, .x)]
  S := List UInt8 × Int × Int × Int × Int
  enc := fun s => ([.str s.1, .ptr 0 0, .int .i64 s.2.1], [⟨true, .cells [.int .i64 s.2.2.1, .int .i64 s.2.2.2.1, .int .i64 s.2.2.2.2]⟩])
  dec := fun vs tm K => cS vs fun q0 r1_ => cQ 0 r1_ fun r2_ => cI .i64 r2_ fun q1 r3_ => dNil r3_ <| bC true tm fun c5_ m4_ => cI .i64 c5_ fun q2 r6_ => cI .i64 r6_ fun q3 r7_ => cI .i64 r7_ fun q4 r8_ => dNil r8_ <| dEnd m4_ <| K (q0, q1, q2, q3, q4)
  law := by
    intro vs tm K
    refine cS_in ?_; rintro q0 r1_ rfl
    refine cQ_in ?_; rintro r2_ rfl
    refine cI_in ?_; rintro q1 r3_ rfl
    refine dN_in ?_; rintro rfl
    refine bC_in ?_; rintro c5_ m4_ rfl
    refine cI_in ?_; rintro q2 r6_ rfl
    refine cI_in ?_; rintro q3 r7_ rfl
    refine cI_in ?_; rintro q4 r8_ rfl
    refine dN_in ?_; rintro rfl
    refine dE_in ?_; rintro rfl
    exact fun h => ⟨(q0, q1, q2, q3, q4), rfl, h⟩
def H80_2 : LH where
  keep := [(0, .x), (2, .pc [.x, .x, .x]), (4, .x), (5, .x)]
  S := List UInt8 × Int × Int × Int × Int × Int
  enc := fun s => ([.str s.1, .ptr 0 0, .int .i64 s.2.1, .int .i64 s.2.2.1], [⟨true, .cells [.int .i64 s.2.2.2.1, .int .i64 s.2.2.2.2.1, .int .i64 s.2.2.2.2.2]⟩])
  dec := fun vs tm K => cS vs fun q0 r1_ => cQ 0 r1_ fun r2_ => cI .i64 r2_ fun q1 r3_ => cI .i64 r3_ fun q2 r4_ => dNil r4_ <| bC true tm fun c6_ m5_ => cI .i64 c6_ fun q3 r7_ => cI .i64 r7_ fun q4 r8_ => cI .i64 r8_ fun q5 r9_ => dNil r9_ <| dEnd m5_ <| K (q0, q1, q2, q3, q4, q5)
  law := by
    intro vs tm K
    refine cS_in ?_; rintro q0 r1_ rfl
    refine cQ_in ?_; rintro r2_ rfl
    refine cI_in ?_; rintro q1 r3_ rfl
    refine cI_in ?_; rintro q2 r4_ rfl
    refine dN_in ?_; rintro rfl
    refine bC_in ?_; rintro c6_ m5_ rfl
    refine cI_in ?_; rintro q3 r7_ rfl
    refine cI_in ?_; rintro q4 r8_ rfl
    refine cI_in ?_; rintro q5 r9_ rfl
    refine dN_in ?_; rintro rfl
    refine dE_in ?_; rintro rfl
    exact fun h => ⟨(q0, q1, q2, q3, q4, q5), rfl, h⟩
def H80_4 : LH where
  keep := [(0, .x), (2, .pc [.x, .x, .x]), (4, .x), (5, .x), (6, .x)]
  S := List UInt8 × Int × Int × Int × Int × Int × Int
  enc := fun s => ([.str s.1, .ptr 0 0, .int .i64 s.2.1, .int .i64 s.2.2.1, .int .i64 s.2.2.2.1], [⟨true, .cells [.int .i64 s.2.2.2.2.1, .int .i64 s.2.2.2.2.2.1, .int .i64 s.2.2.2.2.2.2]⟩])
  dec := fun vs tm K => cS vs fun q0 r1_ => cQ 0 r1_ fun r2_ => cI .i64 r2_ fun q1 r3_ => cI .i64 r3_ fun q2 r4_ => cI .i64 r4_ fun q3 r5_ => dNil r5_ <| bC true tm fun c7_ m6_ => cI .i64 c7_ fun q4 r8_ => cI .i64 r8_ fun q5 r9_ => cI .i64 r9_ fun q6 r10_ => dNil r10_ <| dEnd m6_ <| K (q0, q1, q2, q3, q4, q5, q6)
  law := by
    intro vs tm K
    refine cS_in ?_; rintro q0 r1_ rfl
    refine cQ_in ?_; rintro r2_ rfl
    refine cI_in ?_; rintro q1 r3_ rfl
    refine cI_in ?_; rintro q2 r4_ rfl
    refine cI_in ?_; rintro q3 r5_ rfl
    refine dN_in ?_; rintro rfl
    refine bC_in ?_; rintro c7_ m6_ rfl
    refine cI_in ?_; rintro q4 r8_ rfl
    refine cI_in ?_; rintro q5 r9_ rfl
    refine cI_in ?_; rintro q6 r10_ rfl
    refine dN_in ?_; rintro rfl
    refine dE_in ?_; rintro rfl
    exact fun h => ⟨(q0, q1, q2, q3, q4, q5, q6), rfl, h⟩
def H80 : List (Nat × LH) := [(0, H80_0), (2, H80_2), (4, H80_4)]
def W80 : List (Nat × List (Nat × List Nat)) := []
def Γ80 : List (Nat × Con) := [(145, useC [.ag [.x, .x, .x]] G145)]
theorem e80 (p1 : List UInt8) (K : TV → TMem → Prop) : TW PP 34 Γ80 H80 W80 (List.length ([] : TMem)) (bodyOf Tryz.f80) (endT PP 34 [.cell 2 79, .tmp 3] [.ag [.x, .x, .x], .bl] [] (List.length ([] : TMem)) K) (argsF [.str p1]) [] =
    Ms_ParseOp p1 (fun r1 r2 r3 r4 => K (.tup [.agg [.int .i64 r1, .int .i64 r2, .int .i64 r3], .bool r4]) []) := by kernel_rfl
theorem s80 : CSound PP 80 G80 := by
  intro args K c h fl A aargs hA hN R hl
  unfold G80 at h
  generalize ht : c.tm = tm at h
  revert h
  refine cS_in ?_; rintro p1 r1_ rfl
  refine dN_in ?_; rintro rfl
  refine dE_in ?_; rintro rfl
  intro h
  refine fun_ok (nt := 34) (x := bodyOf Tryz.f80) (Γ := Γ80) (H := H80) (WW := W80) (rs := [.cell 2 79, .tmp 3]) (shs := [.ag [.x, .x, .x], .bl]) (cons := []) mixed Tryz.func80 (by decide) (by kernel_rfl) Tryz.ntmps80 Tryz.results80 (.cons (useC_ok s145) (GSound.nil)) ?_ hA hN R hl
  rw [ht, e80 p1 K]
  exact h
/-! spec.ParseOps -/
def G25 : Con := fun args tm K => cS args fun p1 r1_ => dNil r1_ <| dEnd tm <| Ms_ParseOps p1 (fun r1 r2 => K (.tup [.sl 0, .bool r1]) [⟨true, .list .op r2⟩])
def H25_0 : LH where
  keep := [(4, .own .op), (5, .own .str), (6, .x)]
  S := Int × List OpV × List (List UInt8)
  enc := fun s => ([.sl 0, .sl 1, .int .i64 s.1], [⟨true, .list .op s.2.1⟩, ⟨true, .list .str s.2.2⟩])
  dec := fun vs tm K => cL 0 vs fun r1_ => cL 1 r1_ fun r2_ => cI .i64 r2_ fun q0 r3_ => dNil r3_ <| bL true .op tm fun q1 m4_ => bL true .str m4_ fun q2 m5_ => dEnd m5_ <| K (q0, q1, q2)
  law := by
    intro vs tm K
    refine cL_in ?_; rintro r1_ rfl
    refine cL_in ?_; rintro r2_ rfl
    refine cI_in ?_; rintro q0 r3_ rfl
    refine dN_in ?_; rintro rfl
    refine bL_in ?_; rintro q1 m4_ rfl
    refine bL_in ?_; rintro q2 m5_ rfl
    refine dE_in ?_; rintro rfl
    exact fun h => ⟨(q0, q1, q2), rfl, h⟩
def H25 : List (Nat × LH) := [(0, H25_0)]
def W25 : List (Nat × List (Nat × List Nat)) := []
def Γ25 : List (Nat × Con) := [(76, useC [.x, .x] G76), (80, useC [.x] G80)]
theorem e25 (p1 : List UInt8) (K : TV → TMem → Prop) : TW PP 63 Γ25 H25 W25 (List.length ([] : TMem)) (bodyOf Tryz.f25) (endT PP 63 [.tmp 2, .tmp 3] [.own .op, .bl] [] (List.length ([] : TMem)) K) (argsF [.str p1]) [] =
    Ms_ParseOps p1 (fun r1 r2 => K (.tup [.sl 0, .bool r1]) [⟨true, .list .op r2⟩]) := by kernel_rfl
theorem s25 : CSound PP 25 G25 := by
  intro args K c h fl A aargs hA hN R hl
  unfold G25 at h
  generalize ht : c.tm = tm at h
  revert h
  refine cS_in ?_; rintro p1 r1_ rfl
  refine dN_in ?_; rintro rfl
  refine dE_in ?_; rintro rfl
  intro h
  refine fun_ok (nt := 63) (x := bodyOf Tryz.f25) (Γ := Γ25) (H := H25) (WW := W25) (rs := [.tmp 2, .tmp 3]) (shs := [.own .op, .bl]) (cons := []) mixed Tryz.func25 (by decide) (by kernel_rfl) Tryz.ntmps25 Tryz.results25 (.cons (useC_ok s76) (.cons (useC_ok s80) (GSound.nil))) ?_ hA hN R hl
  rw [ht, e25 p1 K]
  exact h
/-! spec.l5Op -/
def G179 : Con := fun args tm K => cQ 0 args fun r1_ => dNil r1_ <| bC true tm fun c3_ m2_ => cP .byte c3_ fun p1 r4_ => cI .i64 r4_ fun p2 r5_ => dNil r5_ <| dEnd m2_ <| Ms_l5Op p1 p2 (fun r1 r2 r3 r4 => K (.agg [.int .i64 r1, .int .i64 r2, .int .i64 r3]) [⟨true, .cells [.pl .byte p1, .int .i64 r4]⟩])
def H179 : List (Nat × LH) := []
def W179 : List (Nat × List (Nat × List Nat)) := []
def Γ179 : List (Nat × Con) := [(89, useC [.pc [.pure .byte, .x], .pure .int] G89), (189, useC [.x] G189)]
theorem e179 (p1 : List Int) (p2 : Int) (K : TV → TMem → Prop) : TW PP 19 Γ179 H179 W179 (List.length ([⟨true, .cells [.pl .byte p1, .int .i64 p2]⟩] : TMem)) (bodyOf Tryz.f179) (endT PP 19 [.cell 2 79] [.ag [.x, .x, .x]] [] (List.length ([⟨true, .cells [.pl .byte p1, .int .i64 p2]⟩] : TMem)) K) (argsF [.ptr 0 0]) [⟨true, .cells [.pl .byte p1, .int .i64 p2]⟩] =
    Ms_l5Op p1 p2 (fun r1 r2 r3 r4 => K (.agg [.int .i64 r1, .int .i64 r2, .int .i64 r3]) [⟨true, .cells [.pl .byte p1, .int .i64 r4]⟩]) := by kernel_rfl
theorem s179 : CSound PP 179 G179 := by
  intro args K c h fl A aargs hA hN R hl
  unfold G179 at h
  generalize ht : c.tm = tm at h
  revert h
  refine cQ_in ?_; rintro r1_ rfl
  refine dN_in ?_; rintro rfl
  refine bC_in ?_; rintro c3_ m2_ rfl
  refine cP_in ?_; rintro p1 r4_ rfl
  refine cI_in ?_; rintro p2 r5_ rfl
  refine dN_in ?_; rintro rfl
  refine dE_in ?_; rintro rfl
  intro h
  refine fun_ok (nt := 19) (x := bodyOf Tryz.f179) (Γ := Γ179) (H := H179) (WW := W179) (rs := [.cell 2 79]) (shs := [.ag [.x, .x, .x]]) (cons := []) mixed Tryz.func179 (by decide) (by kernel_rfl) Tryz.ntmps179 Tryz.results179 (.cons (useC_ok s89) (.cons (useC_ok s189) (GSound.nil))) ?_ hA hN R hl
  rw [ht, e179 p1 p2 K]
  exact h
/-! spec.l5Ops -/
def G133 : Con := fun args tm K => cQ 0 args fun r1_ => dNil r1_ <| bC true tm fun c3_ m2_ => cP .byte c3_ fun p1 r4_ => cI .i64 r4_ fun p2 r5_ => dNil r5_ <| dEnd m2_ <| Ms_l5Ops p1 p2 (fun r1 r2 r3 => K (.sl 1) [⟨true, .cells [.pl .byte r1, .int .i64 r2]⟩, ⟨true, .list .op r3⟩])
def H133_0 : LH where
  keep := [(0, .pc [.pure .byte, .x]), (3, .own .op), (4, .x)]
  S := Int × List Int × Int × List OpV
  enc := fun s => ([.ptr 0 0, .sl 1, .int .i64 s.1], [⟨true, .cells [.pl .byte s.2.1, .int .i64 s.2.2.1]⟩, ⟨true, .list .op s.2.2.2⟩])
  dec := fun vs tm K => cQ 0 vs fun r1_ => cL 1 r1_ fun r2_ => cI .i64 r2_ fun q0 r3_ => dNil r3_ <| bC true tm fun c5_ m4_ => cP .byte c5_ fun q1 r6_ => cI .i64 r6_ fun q2 r7_ => dNil r7_ <| bL true .op m4_ fun q3 m8_ => dEnd m8_ <| K (q0, q1, q2, q3)
  law := by
    intro vs tm K
    refine cQ_in ?_; rintro r1_ rfl
    refine cL_in ?_; rintro r2_ rfl
    refine cI_in ?_; rintro q0 r3_ rfl
    refine dN_in ?_; rintro rfl
    refine bC_in ?_; rintro c5_ m4_ rfl
    refine cP_in ?_; rintro q1 r6_ rfl
    refine cI_in ?_; rintro q2 r7_ rfl
    refine dN_in ?_; rintro rfl
    refine bL_in ?_; rintro q3 m8_ rfl
    refine dE_in ?_; rintro rfl
    exact fun h => ⟨(q0, q1, q2, q3), rfl, h⟩
def H133 : List (Nat × LH) := [(0, H133_0)]
def W133 : List (Nat × List (Nat × List Nat)) := []
def Γ133 : List (Nat × Con) := [(89, useC [.pc [.pure .byte, .x], .pure .int] G89), (179, useC [.pc [.pure .byte, .x]] G179)]
theorem e133 (p1 : List Int) (p2 : Int) (K : TV → TMem → Prop) : TW PP 19 Γ133 H133 W133 (List.length ([⟨true, .cells [.pl .byte p1, .int .i64 p2]⟩] : TMem)) (bodyOf Tryz.f133) (endT PP 19 [.tmp 2] [.own .op] [] (List.length ([⟨true, .cells [.pl .byte p1, .int .i64 p2]⟩] : TMem)) K) (argsF [.ptr 0 0]) [⟨true, .cells [.pl .byte p1, .int .i64 p2]⟩] =
    Ms_l5Ops p1 p2 (fun r1 r2 r3 => K (.sl 1) [⟨true, .cells [.pl .byte r1, .int .i64 r2]⟩, ⟨true, .list .op r3⟩]) := by kernel_rfl
theorem s133 : CSound PP 133 G133 := by
  intro args K c h fl A aargs hA hN R hl
  unfold G133 at h
  generalize ht : c.tm = tm at h
  revert h
  refine cQ_in ?_; rintro r1_ rfl
  refine dN_in ?_; rintro rfl
  refine bC_in ?_; rintro c3_ m2_ rfl
  refine cP_in ?_; rintro p1 r4_ rfl
  refine cI_in ?_; rintro p2 r5_ rfl
  refine dN_in ?_; rintro rfl
  refine dE_in ?_; rintro rfl
  intro h
  refine fun_ok (nt := 19) (x := bodyOf Tryz.f133) (Γ := Γ133) (H := H133) (WW := W133) (rs := [.tmp 2]) (shs := [.own .op]) (cons := []) mixed Tryz.func133 (by decide) (by kernel_rfl) Tryz.ntmps133 Tryz.results133 (.cons (useC_ok s89) (.cons (useC_ok s179) (GSound.nil))) ?_ hA hN R hl
  rw [ht, e133 p1 p2 K]
  exact h
/-! spec.l1Points -/
def G143 : Con := fun args tm K => cI .i64 args fun p1 r1_ => cI .i64 r1_ fun p2 r2_ => dNil r2_ <| dEnd tm <| Ms_l1Points p1 p2 (fun r1 => K (.bool r1) [])
def H143 : List (Nat × LH) := []
def W143 : List (Nat × List (Nat × List Nat)) := []
def Γ143 : List (Nat × Con) := []
theorem e143 (p1 : Int) (p2 : Int) (K : TV → TMem → Prop) : TW PP 12 Γ143 H143 W143 (List.length ([] : TMem)) (bodyOf Tryz.f143) (endT PP 12 [.tmp 4] [.bl] [] (List.length ([] : TMem)) K) (argsF [.int .i64 p1, .int .i64 p2]) [] =
    Ms_l1Points p1 p2 (fun r1 => K (.bool r1) []) := by kernel_rfl
theorem s143 : CSound PP 143 G143 := by
  intro args K c h fl A aargs hA hN R hl
  unfold G143 at h
  generalize ht : c.tm = tm at h
  revert h
  refine cI_in ?_; rintro p1 r1_ rfl
  refine cI_in ?_; rintro p2 r2_ rfl
  refine dN_in ?_; rintro rfl
  refine dE_in ?_; rintro rfl
  intro h
  refine fun_ok (nt := 12) (x := bodyOf Tryz.f143) (Γ := Γ143) (H := H143) (WW := W143) (rs := [.tmp 4]) (shs := [.bl]) (cons := []) mixed Tryz.func143 (by decide) (by kernel_rfl) Tryz.ntmps143 Tryz.results143 (GSound.nil) ?_ hA hN R hl
  rw [ht, e143 p1 p2 K]
  exact h
/-! spec.HeapValid -/
def G78 : Con := fun args tm K => cA args fun l2_ r1_ => cP .int l2_ fun p1 r3_ => cP .int r3_ fun p2 r4_ => cP .int r4_ fun p3 r5_ => dNil r5_ <| dNil r1_ <| dEnd tm <| Ms_HeapValid p1 p2 p3 (fun r1 => K (.bool r1) [])
def H78_0 : LH where
  keep := [(1, .pc [.pure .int, .pure .int, .pure .int]), (3, .x), (4, .x)]
  S := Int × Int × List Int × List Int × List Int
  enc := fun s => ([.ptr 0 0, .int .i64 s.1, .int .i64 s.2.1], [⟨true, .cells [.pl .int s.2.2.1, .pl .int s.2.2.2.1, .pl .int s.2.2.2.2]⟩])
  dec := fun vs tm K => cQ 0 vs fun r1_ => cI .i64 r1_ fun q0 r2_ => cI .i64 r2_ fun q1 r3_ => dNil r3_ <| bC true tm fun c5_ m4_ => cP .int c5_ fun q2 r6_ => cP .int r6_ fun q3 r7_ => cP .int r7_ fun q4 r8_ => dNil r8_ <| dEnd m4_ <| K (q0, q1, q2, q3, q4)
  law := by
    intro vs tm K
    refine cQ_in ?_; rintro r1_ rfl
    refine cI_in ?_; rintro q0 r2_ rfl
    refine cI_in ?_; rintro q1 r3_ rfl
    refine dN_in ?_; rintro rfl
    refine bC_in ?_; rintro c5_ m4_ rfl
    refine cP_in ?_; rintro q2 r6_ rfl
    refine cP_in ?_; rintro q3 r7_ rfl
    refine cP_in ?_; rintro q4 r8_ rfl
    refine dN_in ?_; rintro rfl
    refine dE_in ?_; rintro rfl
    exact fun h => ⟨(q0, q1, q2, q3, q4), rfl, h⟩
def H78_2 : LH where
  keep := [(1, .pc [.pure .int, .pure .int, .pure .int]), (3, .x), (5, .x)]
  S := Int × Int × List Int × List Int × List Int
  enc := fun s => ([.ptr 0 0, .int .i64 s.1, .int .i64 s.2.1], [⟨true, .cells [.pl .int s.2.2.1, .pl .int s.2.2.2.1, .pl .int s.2.2.2.2]⟩])
  dec := fun vs tm K => cQ 0 vs fun r1_ => cI .i64 r1_ fun q0 r2_ => cI .i64 r2_ fun q1 r3_ => dNil r3_ <| bC true tm fun c5_ m4_ => cP .int c5_ fun q2 r6_ => cP .int r6_ fun q3 r7_ => cP .int r7_ fun q4 r8_ => dNil r8_ <| dEnd m4_ <| K (q0, q1, q2, q3, q4)
  law := by
    intro vs tm K
    refine cQ_in ?_; rintro r1_ rfl
    refine cI_in ?_; rintro q0 r2_ rfl
    refine cI_in ?_; rintro q1 r3_ rfl
    refine dN_in ?_; rintro rfl
    refine bC_in ?_; rintro c5_ m4_ rfl
    refine cP_in ?_; rintro q2 r6_ rfl
    refine cP_in ?_; rintro q3 r7_ rfl
    refine cP_in ?_; rintro q4 r8_ rfl
    refine dN_in ?_; rintro rfl
    refine dE_in ?_; rintro rfl
    exact fun h => ⟨(q0, q1, q2, q3, q4), rfl, h⟩
def H78 : List (Nat × LH) := [(0, H78_0), (2, H78_2)]
def W78 : List (Nat × List (Nat × List Nat)) := []
def Γ78 : List (Nat × Con) := [(143, useC [.x, .x] G143)]
theorem e78 (p1 : List Int) (p2 : List Int) (p3 : List Int) (K : TV → TMem → Prop) : TW PP 72 Γ78 H78 W78 (List.length ([] : TMem)) (bodyOf Tryz.f78) (endT PP 72 [.tmp 2] [.bl] [] (List.length ([] : TMem)) K) (argsF [.agg [.pl .int p1, .pl .int p2, .pl .int p3]]) [] =
    Ms_HeapValid p1 p2 p3 (fun r1 => K (.bool r1) []) := by kernel_rfl
theorem s78 : CSound PP 78 G78 := by
  intro args K c h fl A aargs hA hN R hl
  unfold G78 at h
  generalize ht : c.tm = tm at h
  revert h
  refine cA_in ?_; rintro l2_ r1_ rfl
  refine cP_in ?_; rintro p1 r3_ rfl
  refine cP_in ?_; rintro p2 r4_ rfl
  refine cP_in ?_; rintro p3 r5_ rfl
  refine dN_in ?_; rintro rfl
  refine dN_in ?_; rintro rfl
  refine dE_in ?_; rintro rfl
  intro h
  refine fun_ok (nt := 72) (x := bodyOf Tryz.f78) (Γ := Γ78) (H := H78) (WW := W78) (rs := [.tmp 2]) (shs := [.bl]) (cons := []) mixed Tryz.func78 (by decide) (by kernel_rfl) Tryz.ntmps78 Tryz.results78 (.cons (useC_ok s143) (GSound.nil)) ?_ hA hN R hl
  rw [ht, e78 p1 p2 p3 K]
  exact h
/-! spec.l4At -/
def G169 : Con := fun args tm K => cP .int args fun p1 r1_ => cI .i64 r1_ fun p2 r2_ => dNil r2_ <| dEnd tm <| Ms_l4At p1 p2 (fun r1 => K (.int .i64 r1) [])
def H169_0 : LH where
  keep := [(0, .pure .int), (1, .x), (5, .x)]
  S := List Int × Int × Int
  enc := fun s => ([.pl .int s.1, .int .i64 s.2.1, .int .i64 s.2.2], [])
  dec := fun vs tm K => cP .int vs fun q0 r1_ => cI .i64 r1_ fun q1 r2_ => cI .i64 r2_ fun q2 r3_ => dNil r3_ <| dEnd tm <| K (q0, q1, q2)
  law := by
    intro vs tm K
    refine cP_in ?_; rintro q0 r1_ rfl
    refine cI_in ?_; rintro q1 r2_ rfl
    refine cI_in ?_; rintro q2 r3_ rfl
    refine dN_in ?_; rintro rfl
    refine dE_in ?_; rintro rfl
    exact fun h => ⟨(q0, q1, q2), rfl, h⟩
def H169 : List (Nat × LH) := [(0, H169_0)]
def W169 : List (Nat × List (Nat × List Nat)) := []
def Γ169 : List (Nat × Con) := []
theorem e169 (p1 : List Int) (p2 : Int) (K : TV → TMem → Prop) : TW PP 19 Γ169 H169 W169 (List.length ([] : TMem)) (bodyOf Tryz.f169) (endT PP 19 [.tmp 4] [.x] [] (List.length ([] : TMem)) K) (argsF [.pl .int p1, .int .i64 p2]) [] =
    Ms_l4At p1 p2 (fun r1 => K (.int .i64 r1) []) := by kernel_rfl
theorem s169 : CSound PP 169 G169 := by
  intro args K c h fl A aargs hA hN R hl
  unfold G169 at h
  generalize ht : c.tm = tm at h
  revert h
  refine cP_in ?_; rintro p1 r1_ rfl
  refine cI_in ?_; rintro p2 r2_ rfl
  refine dN_in ?_; rintro rfl
  refine dE_in ?_; rintro rfl
  intro h
  refine fun_ok (nt := 19) (x := bodyOf Tryz.f169) (Γ := Γ169) (H := H169) (WW := W169) (rs := [.tmp 4]) (shs := [.x]) (cons := []) mixed Tryz.func169 (by decide) (by kernel_rfl) Tryz.ntmps169 Tryz.results169 (GSound.nil) ?_ hA hN R hl
  rw [ht, e169 p1 p2 K]
  exact h
/-! spec.l4Free -/
def G195 : Con := fun args tm K => cA args fun l2_ r1_ => cP .int l2_ fun p1 r3_ => cP .int r3_ fun p2 r4_ => cP .int r4_ fun p3 r5_ => dNil r5_ <| cI .i64 r1_ fun p4 r6_ => dNil r6_ <| dEnd tm <| Ms_l4Free p1 p2 p3 p4 (fun r1 => K (.bool r1) [])
def H195 : List (Nat × LH) := []
def W195 : List (Nat × List (Nat × List Nat)) := []
def Γ195 : List (Nat × Con) := [(169, useC [.pure .int, .x] G169)]
theorem e195 (p1 : List Int) (p2 : List Int) (p3 : List Int) (p4 : Int) (K : TV → TMem → Prop) : TW PP 51 Γ195 H195 W195 (List.length ([] : TMem)) (bodyOf Tryz.f195) (endT PP 51 [.tmp 4] [.bl] [] (List.length ([] : TMem)) K) (argsF [.agg [.pl .int p1, .pl .int p2, .pl .int p3], .int .i64 p4]) [] =
    Ms_l4Free p1 p2 p3 p4 (fun r1 => K (.bool r1) []) := by kernel_rfl
theorem s195 : CSound PP 195 G195 := by
  intro args K c h fl A aargs hA hN R hl
  unfold G195 at h
  generalize ht : c.tm = tm at h
  revert h
  refine cA_in ?_; rintro l2_ r1_ rfl
  refine cP_in ?_; rintro p1 r3_ rfl
  refine cP_in ?_; rintro p2 r4_ rfl
  refine cP_in ?_; rintro p3 r5_ rfl
  refine dN_in ?_; rintro rfl
  refine cI_in ?_; rintro p4 r6_ rfl
  refine dN_in ?_; rintro rfl
  refine dE_in ?_; rintro rfl
  intro h
  refine fun_ok (nt := 51) (x := bodyOf Tryz.f195) (Γ := Γ195) (H := H195) (WW := W195) (rs := [.tmp 4]) (shs := [.bl]) (cons := []) mixed Tryz.func195 (by decide) (by kernel_rfl) Tryz.ntmps195 Tryz.results195 (.cons (useC_ok s169) (GSound.nil)) ?_ hA hN R hl
  rw [ht, e195 p1 p2 p3 p4 K]
  exact h
/-! spec.StoreValid -/
def G160 : Con := fun args tm K => cA args fun l2_ r1_ => cP .int l2_ fun p1 r3_ => cP .int r3_ fun p2 r4_ => cP .int r4_ fun p3 r5_ => cP .int r5_ fun p4 r6_ => dNil r6_ <| dNil r1_ <| dEnd tm <| Ms_StoreValid p1 p2 p3 p4 (fun r1 => K (.bool r1) [])
def H160_0 : LH where
  keep := [(1, .pc [.pure .int, .pure .int, .pure .int, .pure .int]), (3, .x)]
  S := Int × List Int × List Int × List Int × List Int
  enc := fun s => ([.ptr 0 0, .int .i64 s.1], [⟨true, .cells [.pl .int s.2.1, .pl .int s.2.2.1, .pl .int s.2.2.2.1, .pl .int s.2.2.2.2]⟩])
  dec := fun vs tm K => cQ 0 vs fun r1_ => cI .i64 r1_ fun q0 r2_ => dNil r2_ <| bC true tm fun c4_ m3_ => cP .int c4_ fun q1 r5_ => cP .int r5_ fun q2 r6_ => cP .int r6_ fun q3 r7_ => cP .int r7_ fun q4 r8_ => dNil r8_ <| dEnd m3_ <| K (q0, q1, q2, q3, q4)
  law := by
    intro vs tm K
    refine cQ_in ?_; rintro r1_ rfl
    refine cI_in ?_; rintro q0 r2_ rfl
    refine dN_in ?_; rintro rfl
    refine bC_in ?_; rintro c4_ m3_ rfl
    refine cP_in ?_; rintro q1 r5_ rfl
    refine cP_in ?_; rintro q2 r6_ rfl
    refine cP_in ?_; rintro q3 r7_ rfl
    refine cP_in ?_; rintro q4 r8_ rfl
    refine dN_in ?_; rintro rfl
    refine dE_in ?_; rintro rfl
    exact fun h => ⟨(q0, q1, q2, q3, q4), rfl, h⟩
def H160 : List (Nat × LH) := [(0, H160_0)]
def W160 : List (Nat × List (Nat × List Nat)) := []
def Γ160 : List (Nat × Con) := [(78, useC [.ag [.pure .int, .pure .int, .pure .int]] G78), (195, useC [.ag [.pure .int, .pure .int, .pure .int], .x] G195), (169, useC [.pure .int, .x] G169)]
theorem e160 (p1 : List Int) (p2 : List Int) (p3 : List Int) (p4 : List Int) (K : TV → TMem → Prop) : TW PP 47 Γ160 H160 W160 (List.length ([] : TMem)) (bodyOf Tryz.f160) (endT PP 47 [.tmp 2] [.bl] [] (List.length ([] : TMem)) K) (argsF [.agg [.pl .int p1, .pl .int p2, .pl .int p3, .pl .int p4]]) [] =
    Ms_StoreValid p1 p2 p3 p4 (fun r1 => K (.bool r1) []) := by kernel_rfl
theorem s160 : CSound PP 160 G160 := by
  intro args K c h fl A aargs hA hN R hl
  unfold G160 at h
  generalize ht : c.tm = tm at h
  revert h
  refine cA_in ?_; rintro l2_ r1_ rfl
  refine cP_in ?_; rintro p1 r3_ rfl
  refine cP_in ?_; rintro p2 r4_ rfl
  refine cP_in ?_; rintro p3 r5_ rfl
  refine cP_in ?_; rintro p4 r6_ rfl
  refine dN_in ?_; rintro rfl
  refine dN_in ?_; rintro rfl
  refine dE_in ?_; rintro rfl
  intro h
  refine fun_ok (nt := 47) (x := bodyOf Tryz.f160) (Γ := Γ160) (H := H160) (WW := W160) (rs := [.tmp 2]) (shs := [.bl]) (cons := []) mixed Tryz.func160 (by decide) (by kernel_rfl) Tryz.ntmps160 Tryz.results160 (.cons (useC_ok s78) (.cons (useC_ok s195) (.cons (useC_ok s169) (GSound.nil)))) ?_ hA hN R hl
  rw [ht, e160 p1 p2 p3 p4 K]
  exact h
/-! spec.l1Copy -/
def G163 : Con := fun args tm K => cA args fun l2_ r1_ => cP .int l2_ fun p1 r3_ => cP .int r3_ fun p2 r4_ => cP .int r4_ fun p3 r5_ => dNil r5_ <| dNil r1_ <| dEnd tm <| Ms_l1Copy p1 p2 p3 (K (.agg [.sl 0, .sl 1, .sl 2]) [⟨true, .list .int p1⟩, ⟨true, .list .int p2⟩, ⟨true, .list .int p3⟩])
def H163 : List (Nat × LH) := []
def W163 : List (Nat × List (Nat × List Nat)) := []
def Γ163 : List (Nat × Con) := []
theorem e163 (p1 : List Int) (p2 : List Int) (p3 : List Int) (K : TV → TMem → Prop) : TW PP 16 Γ163 H163 W163 (List.length ([] : TMem)) (bodyOf Tryz.f163) (endT PP 16 [.cell 2 25] [.ag [.own .int, .own .int, .own .int]] [] (List.length ([] : TMem)) K) (argsF [.agg [.pl .int p1, .pl .int p2, .pl .int p3]]) [] =
    Ms_l1Copy p1 p2 p3 (K (.agg [.sl 0, .sl 1, .sl 2]) [⟨true, .list .int p1⟩, ⟨true, .list .int p2⟩, ⟨true, .list .int p3⟩]) := by kernel_rfl
theorem s163 : CSound PP 163 G163 := by
  intro args K c h fl A aargs hA hN R hl
  unfold G163 at h
  generalize ht : c.tm = tm at h
  revert h
  refine cA_in ?_; rintro l2_ r1_ rfl
  refine cP_in ?_; rintro p1 r3_ rfl
  refine cP_in ?_; rintro p2 r4_ rfl
  refine cP_in ?_; rintro p3 r5_ rfl
  refine dN_in ?_; rintro rfl
  refine dN_in ?_; rintro rfl
  refine dE_in ?_; rintro rfl
  intro h
  refine fun_ok (nt := 16) (x := bodyOf Tryz.f163) (Γ := Γ163) (H := H163) (WW := W163) (rs := [.cell 2 25]) (shs := [.ag [.own .int, .own .int, .own .int]]) (cons := []) mixed Tryz.func163 (by decide) (by kernel_rfl) Tryz.ntmps163 Tryz.results163 (GSound.nil) ?_ hA hN R hl
  rw [ht, e163 p1 p2 p3 K]
  exact h
/-! spec.l4Copy -/
def G99 : Con := fun args tm K => cA args fun l2_ r1_ => cP .int l2_ fun p1 r3_ => cP .int r3_ fun p2 r4_ => cP .int r4_ fun p3 r5_ => cP .int r5_ fun p4 r6_ => dNil r6_ <| dNil r1_ <| dEnd tm <| Ms_l4Copy p1 p2 p3 p4 (K (.agg [.sl 0, .sl 1, .sl 2, .sl 3]) [⟨true, .list .int p1⟩, ⟨true, .list .int p2⟩, ⟨true, .list .int p3⟩, ⟨true, .list .int p4⟩])
def H99 : List (Nat × LH) := []
def W99 : List (Nat × List (Nat × List Nat)) := []
def Γ99 : List (Nat × Con) := [(163, useC [.ag [.pure .int, .pure .int, .pure .int]] G163)]
theorem e99 (p1 : List Int) (p2 : List Int) (p3 : List Int) (p4 : List Int) (K : TV → TMem → Prop) : TW PP 11 Γ99 H99 W99 (List.length ([] : TMem)) (bodyOf Tryz.f99) (endT PP 11 [.cell 2 27] [.ag [.own .int, .own .int, .own .int, .own .int]] [] (List.length ([] : TMem)) K) (argsF [.agg [.pl .int p1, .pl .int p2, .pl .int p3, .pl .int p4]]) [] =
    Ms_l4Copy p1 p2 p3 p4 (K (.agg [.sl 0, .sl 1, .sl 2, .sl 3]) [⟨true, .list .int p1⟩, ⟨true, .list .int p2⟩, ⟨true, .list .int p3⟩, ⟨true, .list .int p4⟩]) := by kernel_rfl
theorem s99 : CSound PP 99 G99 := by
  intro args K c h fl A aargs hA hN R hl
  unfold G99 at h
  generalize ht : c.tm = tm at h
  revert h
  refine cA_in ?_; rintro l2_ r1_ rfl
  refine cP_in ?_; rintro p1 r3_ rfl
  refine cP_in ?_; rintro p2 r4_ rfl
  refine cP_in ?_; rintro p3 r5_ rfl
  refine cP_in ?_; rintro p4 r6_ rfl
  refine dN_in ?_; rintro rfl
  refine dN_in ?_; rintro rfl
  refine dE_in ?_; rintro rfl
  intro h
  refine fun_ok (nt := 11) (x := bodyOf Tryz.f99) (Γ := Γ99) (H := H99) (WW := W99) (rs := [.cell 2 27]) (shs := [.ag [.own .int, .own .int, .own .int, .own .int]]) (cons := []) mixed Tryz.func99 (by decide) (by kernel_rfl) Tryz.ntmps99 Tryz.results99 (.cons (useC_ok s163) (GSound.nil)) ?_ hA hN R hl
  rw [ht, e99 p1 p2 p3 p4 K]
  exact h
/-! spec.l5Do -/
def G164 : Con := fun args tm K => cA args fun l2_ r1_ => cL 0 l2_ fun r3_ => cL 1 r3_ fun r4_ => cL 2 r4_ fun r5_ => cL 3 r5_ fun r6_ => dNil r6_ <| cA r1_ fun l8_ r7_ => cI .i64 l8_ fun p1 r9_ => cI .i64 r9_ fun p2 r10_ => cI .i64 r10_ fun p3 r11_ => dNil r11_ <| dNil r7_ <| bL true .int tm fun p4 m12_ => bL true .int m12_ fun p5 m13_ => bL true .int m13_ fun p6 m14_ => bL true .int m14_ fun p7 m15_ => dEnd m15_ <| Ms_l5Do p1 p2 p3 p4 p5 p6 p7 (fun r1 r2 r3 r4 => K (.tup [.agg [.sl 0, .sl 1, .sl 2, .sl 3], .int .i64 r1]) [⟨true, .list .int r2⟩, ⟨true, .list .int r3⟩, ⟨true, .list .int r4⟩, ⟨true, .list .int p7⟩])
def H164 : List (Nat × LH) := []
def W164 : List (Nat × List (Nat × List Nat)) := []
def Γ164 : List (Nat × Con) := []
theorem e164 (p1 : Int) (p2 : Int) (p3 : Int) (p4 : List Int) (p5 : List Int) (p6 : List Int) (p7 : List Int) (K : TV → TMem → Prop) : TW PP 89 Γ164 H164 W164 (List.length ([⟨true, .list .int p4⟩, ⟨true, .list .int p5⟩, ⟨true, .list .int p6⟩, ⟨true, .list .int p7⟩] : TMem)) (bodyOf Tryz.f164) (endT PP 89 [.cell 4 27, .tmp 5] [.ag [.own .int, .own .int, .own .int, .own .int], .x] [] (List.length ([⟨true, .list .int p4⟩, ⟨true, .list .int p5⟩, ⟨true, .list .int p6⟩, ⟨true, .list .int p7⟩] : TMem)) K) (argsF [.agg [.sl 0, .sl 1, .sl 2, .sl 3], .agg [.int .i64 p1, .int .i64 p2, .int .i64 p3]]) [⟨true, .list .int p4⟩, ⟨true, .list .int p5⟩, ⟨true, .list .int p6⟩, ⟨true, .list .int p7⟩] =
    Ms_l5Do p1 p2 p3 p4 p5 p6 p7 (fun r1 r2 r3 r4 => K (.tup [.agg [.sl 0, .sl 1, .sl 2, .sl 3], .int .i64 r1]) [⟨true, .list .int r2⟩, ⟨true, .list .int r3⟩, ⟨true, .list .int r4⟩, ⟨true, .list .int p7⟩]) := by kernel_rfl
theorem s164 : CSound PP 164 G164 := by
  intro args K c h fl A aargs hA hN R hl
  unfold G164 at h
  generalize ht : c.tm = tm at h
  revert h
  refine cA_in ?_; rintro l2_ r1_ rfl
  refine cL_in ?_; rintro r3_ rfl
  refine cL_in ?_; rintro r4_ rfl
  refine cL_in ?_; rintro r5_ rfl
  refine cL_in ?_; rintro r6_ rfl
  refine dN_in ?_; rintro rfl
  refine cA_in ?_; rintro l8_ r7_ rfl
  refine cI_in ?_; rintro p1 r9_ rfl
  refine cI_in ?_; rintro p2 r10_ rfl
  refine cI_in ?_; rintro p3 r11_ rfl
  refine dN_in ?_; rintro rfl
  refine dN_in ?_; rintro rfl
  refine bL_in ?_; rintro p4 m12_ rfl
  refine bL_in ?_; rintro p5 m13_ rfl
  refine bL_in ?_; rintro p6 m14_ rfl
  refine bL_in ?_; rintro p7 m15_ rfl
  refine dE_in ?_; rintro rfl
  intro h
  refine fun_ok (nt := 89) (x := bodyOf Tryz.f164) (Γ := Γ164) (H := H164) (WW := W164) (rs := [.cell 4 27, .tmp 5]) (shs := [.ag [.own .int, .own .int, .own .int, .own .int], .x]) (cons := []) mixed Tryz.func164 (by decide) (by kernel_rfl) Tryz.ntmps164 Tryz.results164 (GSound.nil) ?_ hA hN R hl
  rw [ht, e164 p1 p2 p3 p4 p5 p6 p7 K]
  exact h
/-! spec.AllocCell -/
def G165 : Con := fun args tm K => cA args fun l2_ r1_ => cP .int l2_ fun p1 r3_ => cP .int r3_ fun p2 r4_ => cP .int r4_ fun p3 r5_ => cP .int r5_ fun p4 r6_ => dNil r6_ <| cI .i64 r1_ fun p5 r7_ => dNil r7_ <| dEnd tm <| Ms_AllocCell p1 p2 p3 p4 p5 (fun r1 r2 r3 r4 r5 r6 => K (.tup [.agg [.sl 0, .sl 1, .sl 2, .sl 3], .int .i64 r1, .bool r2]) [⟨true, .list .int r3⟩, ⟨true, .list .int r4⟩, ⟨true, .list .int r5⟩, ⟨true, .list .int r6⟩])
def H165 : List (Nat × LH) := []
def W165 : List (Nat × List (Nat × List Nat)) := []
def Γ165 : List (Nat × Con) := [(160, useC [.ag [.pure .int, .pure .int, .pure .int, .pure .int]] G160), (99, useC [.ag [.pure .int, .pure .int, .pure .int, .pure .int]] G99)]
theorem e165 (p1 : List Int) (p2 : List Int) (p3 : List Int) (p4 : List Int) (p5 : Int) (K : TV → TMem → Prop) : TW PP 51 Γ165 H165 W165 (List.length ([] : TMem)) (bodyOf Tryz.f165) (endT PP 51 [.cell 4 27, .tmp 5, .tmp 6] [.ag [.own .int, .own .int, .own .int, .own .int], .x, .bl] [] (List.length ([] : TMem)) K) (argsF [.agg [.pl .int p1, .pl .int p2, .pl .int p3, .pl .int p4], .int .i64 p5]) [] =
    Ms_AllocCell p1 p2 p3 p4 p5 (fun r1 r2 r3 r4 r5 r6 => K (.tup [.agg [.sl 0, .sl 1, .sl 2, .sl 3], .int .i64 r1, .bool r2]) [⟨true, .list .int r3⟩, ⟨true, .list .int r4⟩, ⟨true, .list .int r5⟩, ⟨true, .list .int r6⟩]) := by kernel_rfl
theorem s165 : CSound PP 165 G165 := by
  intro args K c h fl A aargs hA hN R hl
  unfold G165 at h
  generalize ht : c.tm = tm at h
  revert h
  refine cA_in ?_; rintro l2_ r1_ rfl
  refine cP_in ?_; rintro p1 r3_ rfl
  refine cP_in ?_; rintro p2 r4_ rfl
  refine cP_in ?_; rintro p3 r5_ rfl
  refine cP_in ?_; rintro p4 r6_ rfl
  refine dN_in ?_; rintro rfl
  refine cI_in ?_; rintro p5 r7_ rfl
  refine dN_in ?_; rintro rfl
  refine dE_in ?_; rintro rfl
  intro h
  refine fun_ok (nt := 51) (x := bodyOf Tryz.f165) (Γ := Γ165) (H := H165) (WW := W165) (rs := [.cell 4 27, .tmp 5, .tmp 6]) (shs := [.ag [.own .int, .own .int, .own .int, .own .int], .x, .bl]) (cons := []) mixed Tryz.func165 (by decide) (by kernel_rfl) Tryz.ntmps165 Tryz.results165 (.cons (useC_ok s160) (.cons (useC_ok s99) (GSound.nil))) ?_ hA hN R hl
  rw [ht, e165 p1 p2 p3 p4 p5 K]
  exact h
/-! spec.RunOp -/
def G102 : Con := fun args tm K => cA args fun l2_ r1_ => cP .int l2_ fun p1 r3_ => cP .int r3_ fun p2 r4_ => cP .int r4_ fun p3 r5_ => cP .int r5_ fun p4 r6_ => dNil r6_ <| cA r1_ fun l8_ r7_ => cI .i64 l8_ fun p5 r9_ => cI .i64 r9_ fun p6 r10_ => cI .i64 r10_ fun p7 r11_ => dNil r11_ <| dNil r7_ <| dEnd tm <| Ms_RunOp p1 p2 p3 p4 p5 p6 p7 (fun r1 r2 r3 r4 r5 r6 => K (.tup [.agg [.sl 0, .sl 1, .sl 2, .sl 3], .int .i64 r1, .bool r2]) [⟨true, .list .int r3⟩, ⟨true, .list .int r4⟩, ⟨true, .list .int r5⟩, ⟨true, .list .int r6⟩])
def H102 : List (Nat × LH) := []
def W102 : List (Nat × List (Nat × List Nat)) := []
def Γ102 : List (Nat × Con) := [(160, useC [.ag [.pure .int, .pure .int, .pure .int, .pure .int]] G160), (162, useC [.ag [.x, .x, .x], .x] G162), (99, useC [.ag [.pure .int, .pure .int, .pure .int, .pure .int]] G99), (164, useC [.ag [.own .int, .own .int, .own .int, .own .int], .ag [.x, .x, .x]] G164), (165, useC [.ag [.pure .int, .pure .int, .pure .int, .pure .int], .x] G165)]
theorem e102 (p1 : List Int) (p2 : List Int) (p3 : List Int) (p4 : List Int) (p5 : Int) (p6 : Int) (p7 : Int) (K : TV → TMem → Prop) : TW PP 50 Γ102 H102 W102 (List.length ([] : TMem)) (bodyOf Tryz.f102) (endT PP 50 [.cell 4 27, .tmp 5, .tmp 6] [.ag [.own .int, .own .int, .own .int, .own .int], .x, .bl] [] (List.length ([] : TMem)) K) (argsF [.agg [.pl .int p1, .pl .int p2, .pl .int p3, .pl .int p4], .agg [.int .i64 p5, .int .i64 p6, .int .i64 p7]]) [] =
    Ms_RunOp p1 p2 p3 p4 p5 p6 p7 (fun r1 r2 r3 r4 r5 r6 => K (.tup [.agg [.sl 0, .sl 1, .sl 2, .sl 3], .int .i64 r1, .bool r2]) [⟨true, .list .int r3⟩, ⟨true, .list .int r4⟩, ⟨true, .list .int r5⟩, ⟨true, .list .int r6⟩]) := by kernel_rfl
theorem s102 : CSound PP 102 G102 := by
  intro args K c h fl A aargs hA hN R hl
  unfold G102 at h
  generalize ht : c.tm = tm at h
  revert h
  refine cA_in ?_; rintro l2_ r1_ rfl
  refine cP_in ?_; rintro p1 r3_ rfl
  refine cP_in ?_; rintro p2 r4_ rfl
  refine cP_in ?_; rintro p3 r5_ rfl
  refine cP_in ?_; rintro p4 r6_ rfl
  refine dN_in ?_; rintro rfl
  refine cA_in ?_; rintro l8_ r7_ rfl
  refine cI_in ?_; rintro p5 r9_ rfl
  refine cI_in ?_; rintro p6 r10_ rfl
  refine cI_in ?_; rintro p7 r11_ rfl
  refine dN_in ?_; rintro rfl
  refine dN_in ?_; rintro rfl
  refine dE_in ?_; rintro rfl
  intro h
  refine fun_ok (nt := 50) (x := bodyOf Tryz.f102) (Γ := Γ102) (H := H102) (WW := W102) (rs := [.cell 4 27, .tmp 5, .tmp 6]) (shs := [.ag [.own .int, .own .int, .own .int, .own .int], .x, .bl]) (cons := []) mixed Tryz.func102 (by decide) (by kernel_rfl) Tryz.ntmps102 Tryz.results102 (.cons (useC_ok s160) (.cons (useC_ok s162) (.cons (useC_ok s99) (.cons (useC_ok s164) (.cons (useC_ok s165) (GSound.nil)))))) ?_ hA hN R hl
  rw [ht, e102 p1 p2 p3 p4 p5 p6 p7 K]
  exact h
/-! spec.RunOps -/
def G134 : Con := fun args tm K => cA args fun l2_ r1_ => cP .int l2_ fun p1 r3_ => cP .int r3_ fun p2 r4_ => cP .int r4_ fun p3 r5_ => cP .int r5_ fun p4 r6_ => dNil r6_ <| cP .op r1_ fun p5 r7_ => dNil r7_ <| dEnd tm <| Ms_RunOps p1 p2 p3 p4 p5 (fun r1 r2 r3 r4 r5 r6 => K (.tup [.agg [.sl 0, .sl 1, .sl 2, .sl 3], .int .i64 r1, .bool r2]) [⟨true, .list .int r3⟩, ⟨true, .list .int r4⟩, ⟨true, .list .int r5⟩, ⟨true, .list .int r6⟩])
def H134_0 : LH where
  keep := [(1, .pure .op), (2, .pc [.pure .int, .pure .int, .pure .int, .pure .int]), (4, .pc [.own .int, .own .int, .own .int, .own .int]), (7, .pc [.own .int, .own .int, .own .int, .own .int]), (8, .x)]
  S := List OpV × Int × List Int × List Int × List Int × List Int × List Int × List Int × List Int × List Int × List Int × List Int × List Int × List Int
  enc := fun s => ([.pl .op s.1, .ptr 0 0, .ptr 1 0, .ptr 2 0, .int .i64 s.2.1], [⟨true, .cells [.pl .int s.2.2.1, .pl .int s.2.2.2.1, .pl .int s.2.2.2.2.1, .pl .int s.2.2.2.2.2.1]⟩, ⟨true, .cells [.sl 3, .sl 4, .sl 5, .sl 6]⟩, ⟨true, .cells [.sl 7, .sl 8, .sl 9, .sl 10]⟩, ⟨true, .list .int s.2.2.2.2.2.2.1⟩, ⟨true, .list .int s.2.2.2.2.2.2.2.1⟩, ⟨true, .list .int s.2.2.2.2.2.2.2.2.1⟩, ⟨true, .list .int s.2.2.2.2.2.2.2.2.2.1⟩, ⟨true, .list .int s.2.2.2.2.2.2.2.2.2.2.1⟩, ⟨true, .list .int s.2.2.2.2.2.2.2.2.2.2.2.1⟩, ⟨true, .list .int s.2.2.2.2.2.2.2.2.2.2.2.2.1⟩, ⟨true, .list .int s.2.2.2.2.2.2.2.2.2.2.2.2.2⟩])
  dec := fun vs tm K => cP .op vs fun q0 r1_ => cQ 0 r1_ fun r2_ => cQ 1 r2_ fun r3_ => cQ 2 r3_ fun r4_ => cI .i64 r4_ fun q1 r5_ => dNil r5_ <| bC true tm fun c7_ m6_ => cP .int c7_ fun q2 r8_ => cP .int r8_ fun q3 r9_ => cP .int r9_ fun q4 r10_ => cP .int r10_ fun q5 r11_ => dNil r11_ <| bC true m6_ fun c13_ m12_ => cL 3 c13_ fun r14_ => cL 4 r14_ fun r15_ => cL 5 r15_ fun r16_ => cL 6 r16_ fun r17_ => dNil r17_ <| bC true m12_ fun c19_ m18_ => cL 7 c19_ fun r20_ => cL 8 r20_ fun r21_ => cL 9 r21_ fun r22_ => cL 10 r22_ fun r23_ => dNil r23_ <| bL true .int m18_ fun q6 m24_ => bL true .int m24_ fun q7 m25_ => bL true .int m25_ fun q8 m26_ => bL true .int m26_ fun q9 m27_ => bL true .int m27_ fun q10 m28_ => bL true .int m28_ fun q11 m29_ => bL true .int m29_ fun q12 m30_ => bL true .int m30_ fun q13 m31_ => dEnd m31_ <| K (q0, q1, q2, q3, q4, q5, q6, q7, q8, q9, q10, q11, q12, q13)
  law := by
    intro vs tm K
    refine cP_in ?_; rintro q0 r1_ rfl
    refine cQ_in ?_; rintro r2_ rfl
    refine cQ_in ?_; rintro r3_ rfl
    refine cQ_in ?_; rintro r4_ rfl
    refine cI_in ?_; rintro q1 r5_ rfl
    refine dN_in ?_; rintro rfl
    refine bC_in ?_; rintro c7_ m6_ rfl
    refine cP_in ?_; rintro q2 r8_ rfl
    refine cP_in ?_; rintro q3 r9_ rfl
    refine cP_in ?_; rintro q4 r10_ rfl
    refine cP_in ?_; rintro q5 r11_ rfl
    refine dN_in ?_; rintro rfl
    refine bC_in ?_; rintro c13_ m12_ rfl
    refine cL_in ?_; rintro r14_ rfl
    refine cL_in ?_; rintro r15_ rfl
    refine cL_in ?_; rintro r16_ rfl
    refine cL_in ?_; rintro r17_ rfl
    refine dN_in ?_; rintro rfl
    refine bC_in ?_; rintro c19_ m18_ rfl
    refine cL_in ?_; rintro r20_ rfl
    refine cL_in ?_; rintro r21_ rfl
    refine cL_in ?_; rintro r22_ rfl
    refine cL_in ?_; rintro r23_ rfl
    refine dN_in ?_; rintro rfl
    refine bL_in ?_; rintro q6 m24_ rfl
    refine bL_in ?_; rintro q7 m25_ rfl
    refine bL_in ?_; rintro q8 m26_ rfl
    refine bL_in ?_; rintro q9 m27_ rfl
    refine bL_in ?_; rintro q10 m28_ rfl
    refine bL_in ?_; rintro q11 m29_ rfl
    refine bL_in ?_; rintro q12 m30_ rfl
    refine bL_in ?_; rintro q13 m31_ rfl
    refine dE_in ?_; rintro rfl
    exact fun h => ⟨(q0, q1, q2, q3, q4, q5, q6, q7, q8, q9, q10, q11, q12, q13), rfl, h⟩
def H134_2 : LH where
  keep := [(1, .pure .op), (4, .pc [.own .int, .own .int, .own .int, .own .int]), (7, .pc [.own .int, .own .int, .own .int, .own .int]), (9, .x)]
  S := List OpV × Int × List Int × List Int × List Int × List Int × List Int × List Int × List Int × List Int
  enc := fun s => ([.pl .op s.1, .ptr 0 0, .ptr 1 0, .int .i64 s.2.1], [⟨true, .cells [.sl 2, .sl 3, .sl 4, .sl 5]⟩, ⟨true, .cells [.sl 6, .sl 7, .sl 8, .sl 9]⟩, ⟨true, .list .int s.2.2.1⟩, ⟨true, .list .int s.2.2.2.1⟩, ⟨true, .list .int s.2.2.2.2.1⟩, ⟨true, .list .int s.2.2.2.2.2.1⟩, ⟨true, .list .int s.2.2.2.2.2.2.1⟩, ⟨true, .list .int s.2.2.2.2.2.2.2.1⟩, ⟨true, .list .int s.2.2.2.2.2.2.2.2.1⟩, ⟨true, .list .int s.2.2.2.2.2.2.2.2.2⟩])
  dec := fun vs tm K => cP .op vs fun q0 r1_ => cQ 0 r1_ fun r2_ => cQ 1 r2_ fun r3_ => cI .i64 r3_ fun q1 r4_ => dNil r4_ <| bC true tm fun c6_ m5_ => cL 2 c6_ fun r7_ => cL 3 r7_ fun r8_ => cL 4 r8_ fun r9_ => cL 5 r9_ fun r10_ => dNil r10_ <| bC true m5_ fun c12_ m11_ => cL 6 c12_ fun r13_ => cL 7 r13_ fun r14_ => cL 8 r14_ fun r15_ => cL 9 r15_ fun r16_ => dNil r16_ <| bL true .int m11_ fun q2 m17_ => bL true .int m17_ fun q3 m18_ => bL true .int m18_ fun q4 m19_ => bL true .int m19_ fun q5 m20_ => bL true .int m20_ fun q6 m21_ => bL true .int m21_ fun q7 m22_ => bL true .int m22_ fun q8 m23_ => bL true .int m23_ fun q9 m24_ => dEnd m24_ <| K (q0, q1, q2, q3, q4, q5, q6, q7, q8, q9)
  law := by
    intro vs tm K
    refine cP_in ?_; rintro q0 r1_ rfl
    refine cQ_in ?_; rintro r2_ rfl
    refine cQ_in ?_; rintro r3_ rfl
    refine cI_in ?_; rintro q1 r4_ rfl
    refine dN_in ?_; rintro rfl
    refine bC_in ?_; rintro c6_ m5_ rfl
    refine cL_in ?_; rintro r7_ rfl
    refine cL_in ?_; rintro r8_ rfl
    refine cL_in ?_; rintro r9_ rfl
    refine cL_in ?_; rintro r10_ rfl
    refine dN_in ?_; rintro rfl
    refine bC_in ?_; rintro c12_ m11_ rfl
    refine cL_in ?_; rintro r13_ rfl
    refine cL_in ?_; rintro r14_ rfl
    refine cL_in ?_; rintro r15_ rfl
    refine cL_in ?_; rintro r16_ rfl
    refine dN_in ?_; rintro rfl
    refine bL_in ?_; rintro q2 m17_ rfl
    refine bL_in ?_; rintro q3 m18_ rfl
    refine bL_in ?_; rintro q4 m19_ rfl
    refine bL_in ?_; rintro q5 m20_ rfl
    refine bL_in ?_; rintro q6 m21_ rfl
    refine bL_in ?_; rintro q7 m22_ rfl
    refine bL_in ?_; rintro q8 m23_ rfl
    refine bL_in ?_; rintro q9 m24_ rfl
    refine dE_in ?_; rintro rfl
    exact fun h => ⟨(q0, q1, q2, q3, q4, q5, q6, q7, q8, q9), rfl, h⟩
def H134 : List (Nat × LH) := [(0, H134_0), (2, H134_2)]
def W134 : List (Nat × List (Nat × List Nat)) := []
def Γ134 : List (Nat × Con) := [(160, useC [.ag [.pure .int, .pure .int, .pure .int, .pure .int]] G160), (99, useC [.ag [.pure .int, .pure .int, .pure .int, .pure .int]] G99), (162, useC [.ag [.x, .x, .x], .x] G162), (102, useC [.ag [.pure .int, .pure .int, .pure .int, .pure .int], .ag [.x, .x, .x]] G102)]
theorem e134 (p1 : List Int) (p2 : List Int) (p3 : List Int) (p4 : List Int) (p5 : List OpV) (K : TV → TMem → Prop) : TW PP 65 Γ134 H134 W134 (List.length ([] : TMem)) (bodyOf Tryz.f134) (endT PP 65 [.cell 4 27, .tmp 5, .tmp 6] [.ag [.own .int, .own .int, .own .int, .own .int], .x, .bl] [] (List.length ([] : TMem)) K) (argsF [.agg [.pl .int p1, .pl .int p2, .pl .int p3, .pl .int p4], .pl .op p5]) [] =
    Ms_RunOps p1 p2 p3 p4 p5 (fun r1 r2 r3 r4 r5 r6 => K (.tup [.agg [.sl 0, .sl 1, .sl 2, .sl 3], .int .i64 r1, .bool r2]) [⟨true, .list .int r3⟩, ⟨true, .list .int r4⟩, ⟨true, .list .int r5⟩, ⟨true, .list .int r6⟩]) := by kernel_rfl
theorem s134 : CSound PP 134 G134 := by
  intro args K c h fl A aargs hA hN R hl
  unfold G134 at h
  generalize ht : c.tm = tm at h
  revert h
  refine cA_in ?_; rintro l2_ r1_ rfl
  refine cP_in ?_; rintro p1 r3_ rfl
  refine cP_in ?_; rintro p2 r4_ rfl
  refine cP_in ?_; rintro p3 r5_ rfl
  refine cP_in ?_; rintro p4 r6_ rfl
  refine dN_in ?_; rintro rfl
  refine cP_in ?_; rintro p5 r7_ rfl
  refine dN_in ?_; rintro rfl
  refine dE_in ?_; rintro rfl
  intro h
  refine fun_ok (nt := 65) (x := bodyOf Tryz.f134) (Γ := Γ134) (H := H134) (WW := W134) (rs := [.cell 4 27, .tmp 5, .tmp 6]) (shs := [.ag [.own .int, .own .int, .own .int, .own .int], .x, .bl]) (cons := []) mixed Tryz.func134 (by decide) (by kernel_rfl) Tryz.ntmps134 Tryz.results134 (.cons (useC_ok s160) (.cons (useC_ok s99) (.cons (useC_ok s162) (.cons (useC_ok s102) (GSound.nil))))) ?_ hA hN R hl
  rw [ht, e134 p1 p2 p3 p4 p5 K]
  exact h
/-! spec.NewGc -/
def G180 : Con := fun args tm K => cA args fun l2_ r1_ => cP .int l2_ fun p1 r3_ => cP .int r3_ fun p2 r4_ => cP .int r4_ fun p3 r5_ => cP .int r5_ fun p4 r6_ => dNil r6_ <| dNil r1_ <| dEnd tm <| Ms_NewGc p1 p2 p3 p4 (fun r1 r2 r3 r4 => K (.tup [.agg [.int .i64 r1, .sl 0, .int .i64 r2], .bool r3]) [⟨true, .list .int r4⟩])
def H180 : List (Nat × LH) := []
def W180 : List (Nat × List (Nat × List Nat)) := []
def Γ180 : List (Nat × Con) := [(160, useC [.ag [.pure .int, .pure .int, .pure .int, .pure .int]] G160)]
theorem e180 (p1 : List Int) (p2 : List Int) (p3 : List Int) (p4 : List Int) (K : TV → TMem → Prop) : TW PP 14 Γ180 H180 W180 (List.length ([] : TMem)) (bodyOf Tryz.f180) (endT PP 14 [.cell 2 29, .tmp 3] [.ag [.x, .own .int, .x], .bl] [] (List.length ([] : TMem)) K) (argsF [.agg [.pl .int p1, .pl .int p2, .pl .int p3, .pl .int p4]]) [] =
    Ms_NewGc p1 p2 p3 p4 (fun r1 r2 r3 r4 => K (.tup [.agg [.int .i64 r1, .sl 0, .int .i64 r2], .bool r3]) [⟨true, .list .int r4⟩]) := by kernel_rfl
theorem s180 : CSound PP 180 G180 := by
  intro args K c h fl A aargs hA hN R hl
  unfold G180 at h
  generalize ht : c.tm = tm at h
  revert h
  refine cA_in ?_; rintro l2_ r1_ rfl
  refine cP_in ?_; rintro p1 r3_ rfl
  refine cP_in ?_; rintro p2 r4_ rfl
  refine cP_in ?_; rintro p3 r5_ rfl
  refine cP_in ?_; rintro p4 r6_ rfl
  refine dN_in ?_; rintro rfl
  refine dN_in ?_; rintro rfl
  refine dE_in ?_; rintro rfl
  intro h
  refine fun_ok (nt := 14) (x := bodyOf Tryz.f180) (Γ := Γ180) (H := H180) (WW := W180) (rs := [.cell 2 29, .tmp 3]) (shs := [.ag [.x, .own .int, .x], .bl]) (cons := []) mixed Tryz.func180 (by decide) (by kernel_rfl) Tryz.ntmps180 Tryz.results180 (.cons (useC_ok s160) (GSound.nil)) ?_ hA hN R hl
  rw [ht, e180 p1 p2 p3 p4 K]
  exact h
/-! spec.l7Ops -/
def G98 : Con := fun args tm K => cP .op args fun p1 r1_ => cI .i64 r1_ fun p2 r2_ => dNil r2_ <| dEnd tm <| Ms_l7Ops p1 p2 (fun r1 => K (.bool r1) [])
def H98_0 : LH where
  keep := [(0, .pure .op), (1, .x), (5, .x)]
  S := List OpV × Int × Int
  enc := fun s => ([.pl .op s.1, .int .i64 s.2.1, .int .i64 s.2.2], [])
  dec := fun vs tm K => cP .op vs fun q0 r1_ => cI .i64 r1_ fun q1 r2_ => cI .i64 r2_ fun q2 r3_ => dNil r3_ <| dEnd tm <| K (q0, q1, q2)
  law := by
    intro vs tm K
    refine cP_in ?_; rintro q0 r1_ rfl
    refine cI_in ?_; rintro q1 r2_ rfl
    refine cI_in ?_; rintro q2 r3_ rfl
    refine dN_in ?_; rintro rfl
    refine dE_in ?_; rintro rfl
    exact fun h => ⟨(q0, q1, q2), rfl, h⟩
def H98 : List (Nat × LH) := [(0, H98_0)]
def W98 : List (Nat × List (Nat × List Nat)) := []
def Γ98 : List (Nat × Con) := [(162, useC [.ag [.x, .x, .x], .x] G162)]
theorem e98 (p1 : List OpV) (p2 : Int) (K : TV → TMem → Prop) : TW PP 26 Γ98 H98 W98 (List.length ([] : TMem)) (bodyOf Tryz.f98) (endT PP 26 [.tmp 4] [.bl] [] (List.length ([] : TMem)) K) (argsF [.pl .op p1, .int .i64 p2]) [] =
    Ms_l7Ops p1 p2 (fun r1 => K (.bool r1) []) := by kernel_rfl
theorem s98 : CSound PP 98 G98 := by
  intro args K c h fl A aargs hA hN R hl
  unfold G98 at h
  generalize ht : c.tm = tm at h
  revert h
  refine cP_in ?_; rintro p1 r1_ rfl
  refine cI_in ?_; rintro p2 r2_ rfl
  refine dN_in ?_; rintro rfl
  refine dE_in ?_; rintro rfl
  intro h
  refine fun_ok (nt := 26) (x := bodyOf Tryz.f98) (Γ := Γ98) (H := H98) (WW := W98) (rs := [.tmp 4]) (shs := [.bl]) (cons := []) mixed Tryz.func98 (by decide) (by kernel_rfl) Tryz.ntmps98 Tryz.results98 (.cons (useC_ok s162) (GSound.nil)) ?_ hA hN R hl
  rw [ht, e98 p1 p2 K]
  exact h
/-! spec.NewBoth -/
def G135 : Con := fun args tm K => cA args fun l2_ r1_ => cP .int l2_ fun p1 r3_ => cP .int r3_ fun p2 r4_ => cP .int r4_ fun p3 r5_ => cP .int r5_ fun p4 r6_ => dNil r6_ <| cP .op r1_ fun p5 r7_ => dNil r7_ <| dEnd tm <| Ms_NewBoth p1 p2 p3 p4 p5 (fun r1 r2 r3 r4 r5 r6 r7 r8 r9 r10 r11 => K (.tup [.agg [.sl 0, .sl 1, .sl 2, .sl 3, .int .i64 r1, .sl 4, .int .i64 r2, .sl 5, .int .i64 r3, .bool r4], .bool r5]) [⟨true, .list .int r6⟩, ⟨true, .list .int r7⟩, ⟨true, .list .int r8⟩, ⟨true, .list .int r9⟩, ⟨true, .list .int r10⟩, ⟨true, .list .op r11⟩])
def H135 : List (Nat × LH) := []
def W135 : List (Nat × List (Nat × List Nat)) := []
def Γ135 : List (Nat × Con) := [(180, useC [.ag [.pure .int, .pure .int, .pure .int, .pure .int]] G180), (98, useC [.pure .op, .x] G98), (99, useC [.ag [.pure .int, .pure .int, .pure .int, .pure .int]] G99)]
theorem e135 (p1 : List Int) (p2 : List Int) (p3 : List Int) (p4 : List Int) (p5 : List OpV) (K : TV → TMem → Prop) : TW PP 32 Γ135 H135 W135 (List.length ([] : TMem)) (bodyOf Tryz.f135) (endT PP 32 [.cell 4 32, .tmp 5] [.ag [.own .int, .own .int, .own .int, .own .int, .x, .own .int, .x, .own .op, .x, .bl], .bl] [] (List.length ([] : TMem)) K) (argsF [.agg [.pl .int p1, .pl .int p2, .pl .int p3, .pl .int p4], .pl .op p5]) [] =
    Ms_NewBoth p1 p2 p3 p4 p5 (fun r1 r2 r3 r4 r5 r6 r7 r8 r9 r10 r11 => K (.tup [.agg [.sl 0, .sl 1, .sl 2, .sl 3, .int .i64 r1, .sl 4, .int .i64 r2, .sl 5, .int .i64 r3, .bool r4], .bool r5]) [⟨true, .list .int r6⟩, ⟨true, .list .int r7⟩, ⟨true, .list .int r8⟩, ⟨true, .list .int r9⟩, ⟨true, .list .int r10⟩, ⟨true, .list .op r11⟩]) := by kernel_rfl
theorem s135 : CSound PP 135 G135 := by
  intro args K c h fl A aargs hA hN R hl
  unfold G135 at h
  generalize ht : c.tm = tm at h
  revert h
  refine cA_in ?_; rintro l2_ r1_ rfl
  refine cP_in ?_; rintro p1 r3_ rfl
  refine cP_in ?_; rintro p2 r4_ rfl
  refine cP_in ?_; rintro p3 r5_ rfl
  refine cP_in ?_; rintro p4 r6_ rfl
  refine dN_in ?_; rintro rfl
  refine cP_in ?_; rintro p5 r7_ rfl
  refine dN_in ?_; rintro rfl
  refine dE_in ?_; rintro rfl
  intro h
  refine fun_ok (nt := 32) (x := bodyOf Tryz.f135) (Γ := Γ135) (H := H135) (WW := W135) (rs := [.cell 4 32, .tmp 5]) (shs := [.ag [.own .int, .own .int, .own .int, .own .int, .x, .own .int, .x, .own .op, .x, .bl], .bl]) (cons := []) mixed Tryz.func135 (by decide) (by kernel_rfl) Tryz.ntmps135 Tryz.results135 (.cons (useC_ok s180) (.cons (useC_ok s98) (.cons (useC_ok s99) (GSound.nil)))) ?_ hA hN R hl
  rw [ht, e135 p1 p2 p3 p4 p5 K]
  exact h
/-! spec.l7Draw -/
def G64 : Con := fun args tm K => cQ 0 args fun r1_ => dNil r1_ <| bC true tm fun c3_ m2_ => cP .byte c3_ fun p1 r4_ => cI .i64 r4_ fun p2 r5_ => dNil r5_ <| dEnd m2_ <| Ms_l7Draw p1 p2 (fun r1 r2 r3 r4 r5 r6 r7 r8 r9 r10 r11 r12 => K (.agg [.sl 1, .sl 2, .sl 3, .sl 4, .int .i64 r1, .sl 5, .int .i64 r2, .sl 6, .int .i64 r3, .bool r4]) [⟨true, .cells [.pl .byte r5, .int .i64 r6]⟩, ⟨true, .list .int r7⟩, ⟨true, .list .int r8⟩, ⟨true, .list .int r9⟩, ⟨true, .list .int r10⟩, ⟨true, .list .int r11⟩, ⟨true, .list .op r12⟩])
def H64_1000002 : LH where
  keep := [(0, .pc [.pure .byte, .x]), (2, .pc [.own .int, .own .int, .own .int, .own .int, .x, .own .int, .x, .own .op, .x, .bl]), (3, .pc [.own .int, .own .int, .own .int, .own .int])]
  S := List Int × Int × Int × Int × Int × Bool × List Int × List Int × List Int × List Int × List Int × List OpV × List Int × List Int × List Int × List Int
  enc := fun s => ([.ptr 0 0, .ptr 1 0, .ptr 2 0], [⟨true, .cells [.pl .byte s.1, .int .i64 s.2.1]⟩, ⟨true, .cells [.sl 3, .sl 4, .sl 5, .sl 6, .int .i64 s.2.2.1, .sl 7, .int .i64 s.2.2.2.1, .sl 8, .int .i64 s.2.2.2.2.1, .bool s.2.2.2.2.2.1]⟩, ⟨true, .cells [.sl 9, .sl 10, .sl 11, .sl 12]⟩, ⟨true, .list .int s.2.2.2.2.2.2.1⟩, ⟨true, .list .int s.2.2.2.2.2.2.2.1⟩, ⟨true, .list .int s.2.2.2.2.2.2.2.2.1⟩, ⟨true, .list .int s.2.2.2.2.2.2.2.2.2.1⟩, ⟨true, .list .int s.2.2.2.2.2.2.2.2.2.2.1⟩, ⟨true, .list .op s.2.2.2.2.2.2.2.2.2.2.2.1⟩, ⟨true, .list .int s.2.2.2.2.2.2.2.2.2.2.2.2.1⟩, ⟨true, .list .int s.2.2.2.2.2.2.2.2.2.2.2.2.2.1⟩, ⟨true, .list .int s.2.2.2.2.2.2.2.2.2.2.2.2.2.2.1⟩, ⟨true, .list .int s.2.2.2.2.2.2.2.2.2.2.2.2.2.2.2⟩])
  dec := fun vs tm K => cQ 0 vs fun r1_ => cQ 1 r1_ fun r2_ => cQ 2 r2_ fun r3_ => dNil r3_ <| bC true tm fun c5_ m4_ => cP .byte c5_ fun q0 r6_ => cI .i64 r6_ fun q1 r7_ => dNil r7_ <| bC true m4_ fun c9_ m8_ => cL 3 c9_ fun r10_ => cL 4 r10_ fun r11_ => cL 5 r11_ fun r12_ => cL 6 r12_ fun r13_ => cI .i64 r13_ fun q2 r14_ => cL 7 r14_ fun r15_ => cI .i64 r15_ fun q3 r16_ => cL 8 r16_ fun r17_ => cI .i64 r17_ fun q4 r18_ => cB r18_ fun q5 r19_ => dNil r19_ <| bC true m8_ fun c21_ m20_ => cL 9 c21_ fun r22_ => cL 10 r22_ fun r23_ => cL 11 r23_ fun r24_ => cL 12 r24_ fun r25_ => dNil r25_ <| bL true .int m20_ fun q6 m26_ => bL true .int m26_ fun q7 m27_ => bL true .int m27_ fun q8 m28_ => bL true .int m28_ fun q9 m29_ => bL true .int m29_ fun q10 m30_ => bL true .op m30_ fun q11 m31_ => bL true .int m31_ fun q12 m32_ => bL true .int m32_ fun q13 m33_ => bL true .int m33_ fun q14 m34_ => bL true .int m34_ fun q15 m35_ => dEnd m35_ <| K (q0, q1, q2, q3, q4, q5, q6, q7, q8, q9, q10, q11, q12, q13, q14, q15)
  law := by
    intro vs tm K
    refine cQ_in ?_; rintro r1_ rfl
    refine cQ_in ?_; rintro r2_ rfl
    refine cQ_in ?_; rintro r3_ rfl
    refine dN_in ?_; rintro rfl
    refine bC_in ?_; rintro c5_ m4_ rfl
    refine cP_in ?_; rintro q0 r6_ rfl
    refine cI_in ?_; rintro q1 r7_ rfl
    refine dN_in ?_; rintro rfl
    refine bC_in ?_; rintro c9_ m8_ rfl
    refine cL_in ?_; rintro r10_ rfl
    refine cL_in ?_; rintro r11_ rfl
    refine cL_in ?_; rintro r12_ rfl
    refine cL_in ?_; rintro r13_ rfl
    refine cI_in ?_; rintro q2 r14_ rfl
    refine cL_in ?_; rintro r15_ rfl
    refine cI_in ?_; rintro q3 r16_ rfl
    refine cL_in ?_; rintro r17_ rfl
    refine cI_in ?_; rintro q4 r18_ rfl
    refine cB_in ?_; rintro q5 r19_ rfl
    refine dN_in ?_; rintro rfl
    refine bC_in ?_; rintro c21_ m20_ rfl
    refine cL_in ?_; rintro r22_ rfl
    refine cL_in ?_; rintro r23_ rfl
    refine cL_in ?_; rintro r24_ rfl
    refine cL_in ?_; rintro r25_ rfl
    refine dN_in ?_; rintro rfl
    refine bL_in ?_; rintro q6 m26_ rfl
    refine bL_in ?_; rintro q7 m27_ rfl
    refine bL_in ?_; rintro q8 m28_ rfl
    refine bL_in ?_; rintro q9 m29_ rfl
    refine bL_in ?_; rintro q10 m30_ rfl
    refine bL_in ?_; rintro q11 m31_ rfl
    refine bL_in ?_; rintro q12 m32_ rfl
    refine bL_in ?_; rintro q13 m33_ rfl
    refine bL_in ?_; rintro q14 m34_ rfl
    refine bL_in ?_; rintro q15 m35_ rfl
    refine dE_in ?_; rintro rfl
    exact fun h => ⟨(q0, q1, q2, q3, q4, q5, q6, q7, q8, q9, q10, q11, q12, q13, q14, q15), rfl, h⟩
def H64_1000008 : LH where
  keep := [(2, .pc [.own .int, .own .int, .own .int, .own .int, .x, .own .int, .x, .own .op, .x, .bl]), (3, .pc [.own .int, .own .int, .own .int, .own .int]), (5, .own .op)]
  S := List Int × Int × Int × Int × Int × Bool × List OpV × List Int × List Int × List Int × List Int × List Int × List OpV × List Int × List Int × List Int × List Int
  enc := fun s => ([.ptr 1 0, .ptr 2 0, .sl 3], [⟨true, .cells [.pl .byte s.1, .int .i64 s.2.1]⟩, ⟨true, .cells [.sl 4, .sl 5, .sl 6, .sl 7, .int .i64 s.2.2.1, .sl 8, .int .i64 s.2.2.2.1, .sl 9, .int .i64 s.2.2.2.2.1, .bool s.2.2.2.2.2.1]⟩, ⟨true, .cells [.sl 10, .sl 11, .sl 12, .sl 13]⟩, ⟨true, .list .op s.2.2.2.2.2.2.1⟩, ⟨true, .list .int s.2.2.2.2.2.2.2.1⟩, ⟨true, .list .int s.2.2.2.2.2.2.2.2.1⟩, ⟨true, .list .int s.2.2.2.2.2.2.2.2.2.1⟩, ⟨true, .list .int s.2.2.2.2.2.2.2.2.2.2.1⟩, ⟨true, .list .int s.2.2.2.2.2.2.2.2.2.2.2.1⟩, ⟨true, .list .op s.2.2.2.2.2.2.2.2.2.2.2.2.1⟩, ⟨true, .list .int s.2.2.2.2.2.2.2.2.2.2.2.2.2.1⟩, ⟨true, .list .int s.2.2.2.2.2.2.2.2.2.2.2.2.2.2.1⟩, ⟨true, .list .int s.2.2.2.2.2.2.2.2.2.2.2.2.2.2.2.1⟩, ⟨true, .list .int s.2.2.2.2.2.2.2.2.2.2.2.2.2.2.2.2⟩])
  dec := fun vs tm K => cQ 1 vs fun r1_ => cQ 2 r1_ fun r2_ => cL 3 r2_ fun r3_ => dNil r3_ <| bC true tm fun c5_ m4_ => cP .byte c5_ fun q0 r6_ => cI .i64 r6_ fun q1 r7_ => dNil r7_ <| bC true m4_ fun c9_ m8_ => cL 4 c9_ fun r10_ => cL 5 r10_ fun r11_ => cL 6 r11_ fun r12_ => cL 7 r12_ fun r13_ => cI .i64 r13_ fun q2 r14_ => cL 8 r14_ fun r15_ => cI .i64 r15_ fun q3 r16_ => cL 9 r16_ fun r17_ => cI .i64 r17_ fun q4 r18_ => cB r18_ fun q5 r19_ => dNil r19_ <| bC true m8_ fun c21_ m20_ => cL 10 c21_ fun r22_ => cL 11 r22_ fun r23_ => cL 12 r23_ fun r24_ => cL 13 r24_ fun r25_ => dNil r25_ <| bL true .op m20_ fun q6 m26_ => bL true .int m26_ fun q7 m27_ => bL true .int m27_ fun q8 m28_ => bL true .int m28_ fun q9 m29_ => bL true .int m29_ fun q10 m30_ => bL true .int m30_ fun q11 m31_ => bL true .op m31_ fun q12 m32_ => bL true .int m32_ fun q13 m33_ => bL true .int m33_ fun q14 m34_ => bL true .int m34_ fun q15 m35_ => bL true .int m35_ fun q16 m36_ => dEnd m36_ <| K (q0, q1, q2, q3, q4, q5, q6, q7, q8, q9, q10, q11, q12, q13, q14, q15, q16)
  law := by
    intro vs tm K
    refine cQ_in ?_; rintro r1_ rfl
    refine cQ_in ?_; rintro r2_ rfl
    refine cL_in ?_; rintro r3_ rfl
    refine dN_in ?_; rintro rfl
    refine bC_in ?_; rintro c5_ m4_ rfl
    refine cP_in ?_; rintro q0 r6_ rfl
    refine cI_in ?_; rintro q1 r7_ rfl
    refine dN_in ?_; rintro rfl
    refine bC_in ?_; rintro c9_ m8_ rfl
    refine cL_in ?_; rintro r10_ rfl
    refine cL_in ?_; rintro r11_ rfl
    refine cL_in ?_; rintro r12_ rfl
    refine cL_in ?_; rintro r13_ rfl
    refine cI_in ?_; rintro q2 r14_ rfl
    refine cL_in ?_; rintro r15_ rfl
    refine cI_in ?_; rintro q3 r16_ rfl
    refine cL_in ?_; rintro r17_ rfl
    refine cI_in ?_; rintro q4 r18_ rfl
    refine cB_in ?_; rintro q5 r19_ rfl
    refine dN_in ?_; rintro rfl
    refine bC_in ?_; rintro c21_ m20_ rfl
    refine cL_in ?_; rintro r22_ rfl
    refine cL_in ?_; rintro r23_ rfl
    refine cL_in ?_; rintro r24_ rfl
    refine cL_in ?_; rintro r25_ rfl
    refine dN_in ?_; rintro rfl
    refine bL_in ?_; rintro q6 m26_ rfl
    refine bL_in ?_; rintro q7 m27_ rfl
    refine bL_in ?_; rintro q8 m28_ rfl
    refine bL_in ?_; rintro q9 m29_ rfl
    refine bL_in ?_; rintro q10 m30_ rfl
    refine bL_in ?_; rintro q11 m31_ rfl
    refine bL_in ?_; rintro q12 m32_ rfl
    refine bL_in ?_; rintro q13 m33_ rfl
    refine bL_in ?_; rintro q14 m34_ rfl
    refine bL_in ?_; rintro q15 m35_ rfl
    refine bL_in ?_; rintro q16 m36_ rfl
    refine dE_in ?_; rintro rfl
    exact fun h => ⟨(q0, q1, q2, q3, q4, q5, q6, q7, q8, q9, q10, q11, q12, q13, q14, q15, q16), rfl, h⟩
def H64 : List (Nat × LH) := [(1000002, H64_1000002), (1000008, H64_1000008)]
def W64 : List (Nat × List (Nat × List Nat)) := []
def Γ64 : List (Nat × Con) := [(89, useC [.pc [.pure .byte, .x], .pure .int] G89), (130, useC [.x, .x] G130), (33, useC [.pc [.pure .byte, .x], .x] G33), (132, useC [] G132), (131, useC [.pc [.pure .byte, .x], .pure .str] G131), (25, useC [.x] G25), (133, useC [.pc [.pure .byte, .x]] G133), (134, useC [.ag [.pure .int, .pure .int, .pure .int, .pure .int], .pure .op] G134), (135, useC [.ag [.pure .int, .pure .int, .pure .int, .pure .int], .pure .op] G135)]
theorem q64_8 (s : H64_1000008.S) (K : TV → TMem → Prop) : segT PP 45 Γ64 H64 W64 1 (sufC 5 (bodyOf Tryz.f64)) (endT PP 45 [.cell 2 32] [.ag [.own .int, .own .int, .own .int, .own .int, .x, .own .int, .x, .own .op, .x, .bl]] [] 1 K) (frameOf H64_1000008.keep (H64_1000008.enc s).1) (H64_1000008.enc s).2 =
    Ms_l7Draw_c8 s.1 s.2.1 s.2.2.1 s.2.2.2.1 s.2.2.2.2.1 s.2.2.2.2.2.1 s.2.2.2.2.2.2.1 s.2.2.2.2.2.2.2.1 s.2.2.2.2.2.2.2.2.1 s.2.2.2.2.2.2.2.2.2.1 s.2.2.2.2.2.2.2.2.2.2.1 s.2.2.2.2.2.2.2.2.2.2.2.1 s.2.2.2.2.2.2.2.2.2.2.2.2.1 s.2.2.2.2.2.2.2.2.2.2.2.2.2.1 s.2.2.2.2.2.2.2.2.2.2.2.2.2.2.1 s.2.2.2.2.2.2.2.2.2.2.2.2.2.2.2.1 s.2.2.2.2.2.2.2.2.2.2.2.2.2.2.2.2 (fun r1 r2 r3 r4 r5 r6 r7 r8 r9 r10 r11 r12 => K (.agg [.sl 1, .sl 2, .sl 3, .sl 4, .int .i64 r1, .sl 5, .int .i64 r2, .sl 6, .int .i64 r3, .bool r4]) [⟨true, .cells [.pl .byte r5, .int .i64 r6]⟩, ⟨true, .list .int r7⟩, ⟨true, .list .int r8⟩, ⟨true, .list .int r9⟩, ⟨true, .list .int r10⟩, ⟨true, .list .int r11⟩, ⟨true, .list .op r12⟩]) := by kernel_rfl
theorem j64_8 (K : TV → TMem → Prop) (ts : TFrm) (tm : TMem) : (headT 1 H64_1000008 ts tm fun s => Ms_l7Draw_c8 s.1 s.2.1 s.2.2.1 s.2.2.2.1 s.2.2.2.2.1 s.2.2.2.2.2.1 s.2.2.2.2.2.2.1 s.2.2.2.2.2.2.2.1 s.2.2.2.2.2.2.2.2.1 s.2.2.2.2.2.2.2.2.2.1 s.2.2.2.2.2.2.2.2.2.2.1 s.2.2.2.2.2.2.2.2.2.2.2.1 s.2.2.2.2.2.2.2.2.2.2.2.2.1 s.2.2.2.2.2.2.2.2.2.2.2.2.2.1 s.2.2.2.2.2.2.2.2.2.2.2.2.2.2.1 s.2.2.2.2.2.2.2.2.2.2.2.2.2.2.2.1 s.2.2.2.2.2.2.2.2.2.2.2.2.2.2.2.2 (fun r1 r2 r3 r4 r5 r6 r7 r8 r9 r10 r11 r12 => K (.agg [.sl 1, .sl 2, .sl 3, .sl 4, .int .i64 r1, .sl 5, .int .i64 r2, .sl 6, .int .i64 r3, .bool r4]) [⟨true, .cells [.pl .byte r5, .int .i64 r6]⟩, ⟨true, .list .int r7⟩, ⟨true, .list .int r8⟩, ⟨true, .list .int r9⟩, ⟨true, .list .int r10⟩, ⟨true, .list .int r11⟩, ⟨true, .list .op r12⟩])) = TW PP 45 Γ64 H64 W64 1 (sufC 5 (bodyOf Tryz.f64)) (endT PP 45 [.cell 2 32] [.ag [.own .int, .own .int, .own .int, .own .int, .x, .own .int, .x, .own .op, .x, .bl]] [] 1 K) ts tm :=
  TW_seg (by kernel_rfl : regOf (sufC 5 (bodyOf Tryz.f64)) = some 8) (by kernel_rfl) (fun s => q64_8 s K) ts tm
theorem r64_2 (s : H64_1000002.S) (K : TV → TMem → Prop) : segN PP 45 Γ64 H64 W64 1 2 (sufC 2 (bodyOf Tryz.f64)) (fun ts tm => headT 1 H64_1000008 ts tm fun s => Ms_l7Draw_c8 s.1 s.2.1 s.2.2.1 s.2.2.2.1 s.2.2.2.2.1 s.2.2.2.2.2.1 s.2.2.2.2.2.2.1 s.2.2.2.2.2.2.2.1 s.2.2.2.2.2.2.2.2.1 s.2.2.2.2.2.2.2.2.2.1 s.2.2.2.2.2.2.2.2.2.2.1 s.2.2.2.2.2.2.2.2.2.2.2.1 s.2.2.2.2.2.2.2.2.2.2.2.2.1 s.2.2.2.2.2.2.2.2.2.2.2.2.2.1 s.2.2.2.2.2.2.2.2.2.2.2.2.2.2.1 s.2.2.2.2.2.2.2.2.2.2.2.2.2.2.2.1 s.2.2.2.2.2.2.2.2.2.2.2.2.2.2.2.2 (fun r1 r2 r3 r4 r5 r6 r7 r8 r9 r10 r11 r12 => K (.agg [.sl 1, .sl 2, .sl 3, .sl 4, .int .i64 r1, .sl 5, .int .i64 r2, .sl 6, .int .i64 r3, .bool r4]) [⟨true, .cells [.pl .byte r5, .int .i64 r6]⟩, ⟨true, .list .int r7⟩, ⟨true, .list .int r8⟩, ⟨true, .list .int r9⟩, ⟨true, .list .int r10⟩, ⟨true, .list .int r11⟩, ⟨true, .list .op r12⟩])) (endT PP 45 [.cell 2 32] [.ag [.own .int, .own .int, .own .int, .own .int, .x, .own .int, .x, .own .op, .x, .bl]] [] 1 K) (frameOf H64_1000002.keep (H64_1000002.enc s).1) (H64_1000002.enc s).2 =
    Ms_l7Draw_c2 s.1 s.2.1 s.2.2.1 s.2.2.2.1 s.2.2.2.2.1 s.2.2.2.2.2.1 s.2.2.2.2.2.2.1 s.2.2.2.2.2.2.2.1 s.2.2.2.2.2.2.2.2.1 s.2.2.2.2.2.2.2.2.2.1 s.2.2.2.2.2.2.2.2.2.2.1 s.2.2.2.2.2.2.2.2.2.2.2.1 s.2.2.2.2.2.2.2.2.2.2.2.2.1 s.2.2.2.2.2.2.2.2.2.2.2.2.2.1 s.2.2.2.2.2.2.2.2.2.2.2.2.2.2.1 s.2.2.2.2.2.2.2.2.2.2.2.2.2.2.2 (fun r1 r2 r3 r4 r5 r6 r7 r8 r9 r10 r11 r12 => K (.agg [.sl 1, .sl 2, .sl 3, .sl 4, .int .i64 r1, .sl 5, .int .i64 r2, .sl 6, .int .i64 r3, .bool r4]) [⟨true, .cells [.pl .byte r5, .int .i64 r6]⟩, ⟨true, .list .int r7⟩, ⟨true, .list .int r8⟩, ⟨true, .list .int r9⟩, ⟨true, .list .int r10⟩, ⟨true, .list .int r11⟩, ⟨true, .list .op r12⟩]) := by kernel_rfl
theorem q64_2 (s : H64_1000002.S) (K : TV → TMem → Prop) : segT PP 45 Γ64 H64 W64 1 (sufC 2 (bodyOf Tryz.f64)) (endT PP 45 [.cell 2 32] [.ag [.own .int, .own .int, .own .int, .own .int, .x, .own .int, .x, .own .op, .x, .bl]] [] 1 K) (frameOf H64_1000002.keep (H64_1000002.enc s).1) (H64_1000002.enc s).2 =
    Ms_l7Draw_c2 s.1 s.2.1 s.2.2.1 s.2.2.2.1 s.2.2.2.2.1 s.2.2.2.2.2.1 s.2.2.2.2.2.2.1 s.2.2.2.2.2.2.2.1 s.2.2.2.2.2.2.2.2.1 s.2.2.2.2.2.2.2.2.2.1 s.2.2.2.2.2.2.2.2.2.2.1 s.2.2.2.2.2.2.2.2.2.2.2.1 s.2.2.2.2.2.2.2.2.2.2.2.2.1 s.2.2.2.2.2.2.2.2.2.2.2.2.2.1 s.2.2.2.2.2.2.2.2.2.2.2.2.2.2.1 s.2.2.2.2.2.2.2.2.2.2.2.2.2.2.2 (fun r1 r2 r3 r4 r5 r6 r7 r8 r9 r10 r11 r12 => K (.agg [.sl 1, .sl 2, .sl 3, .sl 4, .int .i64 r1, .sl 5, .int .i64 r2, .sl 6, .int .i64 r3, .bool r4]) [⟨true, .cells [.pl .byte r5, .int .i64 r6]⟩, ⟨true, .list .int r7⟩, ⟨true, .list .int r8⟩, ⟨true, .list .int r9⟩, ⟨true, .list .int r10⟩, ⟨true, .list .int r11⟩, ⟨true, .list .op r12⟩]) :=
  (segN_eq (by kernel_rfl) fun ts tm => (j64_8 K ts tm).trans (congrArg (fun c => TW PP 45 Γ64 H64 W64 1 c (endT PP 45 [.cell 2 32] [.ag [.own .int, .own .int, .own .int, .own .int, .x, .own .int, .x, .own .op, .x, .bl]] [] 1 K) ts tm) (sufC_split 2 2 5 rfl _))).trans (r64_2 s K)
theorem j64_2 (K : TV → TMem → Prop) (ts : TFrm) (tm : TMem) : (headT 1 H64_1000002 ts tm fun s => Ms_l7Draw_c2 s.1 s.2.1 s.2.2.1 s.2.2.2.1 s.2.2.2.2.1 s.2.2.2.2.2.1 s.2.2.2.2.2.2.1 s.2.2.2.2.2.2.2.1 s.2.2.2.2.2.2.2.2.1 s.2.2.2.2.2.2.2.2.2.1 s.2.2.2.2.2.2.2.2.2.2.1 s.2.2.2.2.2.2.2.2.2.2.2.1 s.2.2.2.2.2.2.2.2.2.2.2.2.1 s.2.2.2.2.2.2.2.2.2.2.2.2.2.1 s.2.2.2.2.2.2.2.2.2.2.2.2.2.2.1 s.2.2.2.2.2.2.2.2.2.2.2.2.2.2.2 (fun r1 r2 r3 r4 r5 r6 r7 r8 r9 r10 r11 r12 => K (.agg [.sl 1, .sl 2, .sl 3, .sl 4, .int .i64 r1, .sl 5, .int .i64 r2, .sl 6, .int .i64 r3, .bool r4]) [⟨true, .cells [.pl .byte r5, .int .i64 r6]⟩, ⟨true, .list .int r7⟩, ⟨true, .list .int r8⟩, ⟨true, .list .int r9⟩, ⟨true, .list .int r10⟩, ⟨true, .list .int r11⟩, ⟨true, .list .op r12⟩])) = TW PP 45 Γ64 H64 W64 1 (sufC 2 (bodyOf Tryz.f64)) (endT PP 45 [.cell 2 32] [.ag [.own .int, .own .int, .own .int, .own .int, .x, .own .int, .x, .own .op, .x, .bl]] [] 1 K) ts tm :=
  TW_seg (by kernel_rfl : regOf (sufC 2 (bodyOf Tryz.f64)) = some 2) (by kernel_rfl) (fun s => q64_2 s K) ts tm
theorem ea64 (p1 : List Int) (p2 : Int) (K : TV → TMem → Prop) : TWn PP 45 Γ64 H64 W64 1 2 (bodyOf Tryz.f64) (fun ts tm => headT 1 H64_1000002 ts tm fun s => Ms_l7Draw_c2 s.1 s.2.1 s.2.2.1 s.2.2.2.1 s.2.2.2.2.1 s.2.2.2.2.2.1 s.2.2.2.2.2.2.1 s.2.2.2.2.2.2.2.1 s.2.2.2.2.2.2.2.2.1 s.2.2.2.2.2.2.2.2.2.1 s.2.2.2.2.2.2.2.2.2.2.1 s.2.2.2.2.2.2.2.2.2.2.2.1 s.2.2.2.2.2.2.2.2.2.2.2.2.1 s.2.2.2.2.2.2.2.2.2.2.2.2.2.1 s.2.2.2.2.2.2.2.2.2.2.2.2.2.2.1 s.2.2.2.2.2.2.2.2.2.2.2.2.2.2.2 (fun r1 r2 r3 r4 r5 r6 r7 r8 r9 r10 r11 r12 => K (.agg [.sl 1, .sl 2, .sl 3, .sl 4, .int .i64 r1, .sl 5, .int .i64 r2, .sl 6, .int .i64 r3, .bool r4]) [⟨true, .cells [.pl .byte r5, .int .i64 r6]⟩, ⟨true, .list .int r7⟩, ⟨true, .list .int r8⟩, ⟨true, .list .int r9⟩, ⟨true, .list .int r10⟩, ⟨true, .list .int r11⟩, ⟨true, .list .op r12⟩])) (endT PP 45 [.cell 2 32] [.ag [.own .int, .own .int, .own .int, .own .int, .x, .own .int, .x, .own .op, .x, .bl]] [] 1 K) (argsF [.ptr 0 0]) [⟨true, .cells [.pl .byte p1, .int .i64 p2]⟩] =
    Ms_l7Draw p1 p2 (fun r1 r2 r3 r4 r5 r6 r7 r8 r9 r10 r11 r12 => K (.agg [.sl 1, .sl 2, .sl 3, .sl 4, .int .i64 r1, .sl 5, .int .i64 r2, .sl 6, .int .i64 r3, .bool r4]) [⟨true, .cells [.pl .byte r5, .int .i64 r6]⟩, ⟨true, .list .int r7⟩, ⟨true, .list .int r8⟩, ⟨true, .list .int r9⟩, ⟨true, .list .int r10⟩, ⟨true, .list .int r11⟩, ⟨true, .list .op r12⟩]) := by kernel_rfl
theorem e64 (p1 : List Int) (p2 : Int) (K : TV → TMem → Prop) : TW PP 45 Γ64 H64 W64 (List.length ([⟨true, .cells [.pl .byte p1, .int .i64 p2]⟩] : TMem)) (bodyOf Tryz.f64) (endT PP 45 [.cell 2 32] [.ag [.own .int, .own .int, .own .int, .own .int, .x, .own .int, .x, .own .op, .x, .bl]] [] (List.length ([⟨true, .cells [.pl .byte p1, .int .i64 p2]⟩] : TMem)) K) (argsF [.ptr 0 0]) [⟨true, .cells [.pl .byte p1, .int .i64 p2]⟩] =
    Ms_l7Draw p1 p2 (fun r1 r2 r3 r4 r5 r6 r7 r8 r9 r10 r11 r12 => K (.agg [.sl 1, .sl 2, .sl 3, .sl 4, .int .i64 r1, .sl 5, .int .i64 r2, .sl 6, .int .i64 r3, .bool r4]) [⟨true, .cells [.pl .byte r5, .int .i64 r6]⟩, ⟨true, .list .int r7⟩, ⟨true, .list .int r8⟩, ⟨true, .list .int r9⟩, ⟨true, .list .int r10⟩, ⟨true, .list .int r11⟩, ⟨true, .list .op r12⟩]) :=
  (congrFun (congrFun (TWn_eq 2 _ (by kernel_rfl) fun ts tm => j64_2 K ts tm) _) _).trans (ea64 p1 p2 K)
theorem s64 : CSound PP 64 G64 := by
  intro args K c h fl A aargs hA hN R hl
  unfold G64 at h
  generalize ht : c.tm = tm at h
  revert h
  refine cQ_in ?_; rintro r1_ rfl
  refine dN_in ?_; rintro rfl
  refine bC_in ?_; rintro c3_ m2_ rfl
  refine cP_in ?_; rintro p1 r4_ rfl
  refine cI_in ?_; rintro p2 r5_ rfl
  refine dN_in ?_; rintro rfl
  refine dE_in ?_; rintro rfl
  intro h
  refine fun_ok (nt := 45) (x := bodyOf Tryz.f64) (Γ := Γ64) (H := H64) (WW := W64) (rs := [.cell 2 32]) (shs := [.ag [.own .int, .own .int, .own .int, .own .int, .x, .own .int, .x, .own .op, .x, .bl]]) (cons := []) mixed Tryz.func64 (by decide) (by kernel_rfl) Tryz.ntmps64 Tryz.results64 (.cons (useC_ok s89) (.cons (useC_ok s130) (.cons (useC_ok s33) (.cons (useC_ok s132) (.cons (useC_ok s131) (.cons (useC_ok s25) (.cons (useC_ok s133) (.cons (useC_ok s134) (.cons (useC_ok s135) (GSound.nil)))))))))) ?_ hA hN R hl
  rw [ht, e64 p1 p2 K]
  exact h
/-! spec.l7Schedule -/
def G65 : Con := fun args tm K => cQ 0 args fun r1_ => dNil r1_ <| bC true tm fun c3_ m2_ => cP .byte c3_ fun p1 r4_ => cI .i64 r4_ fun p2 r5_ => dNil r5_ <| dEnd m2_ <| Ms_l7Schedule p1 p2 (fun r1 r2 r3 => K (.str r1) [⟨true, .cells [.pl .byte r2, .int .i64 r3]⟩])
def H65_0 : LH where
  keep := [(0, .pc [.pure .byte, .x]), (3, .x), (4, .x)]
  S := List UInt8 × Int × List Int × Int
  enc := fun s => ([.ptr 0 0, .str s.1, .int .i64 s.2.1], [⟨true, .cells [.pl .byte s.2.2.1, .int .i64 s.2.2.2]⟩])
  dec := fun vs tm K => cQ 0 vs fun r1_ => cS r1_ fun q0 r2_ => cI .i64 r2_ fun q1 r3_ => dNil r3_ <| bC true tm fun c5_ m4_ => cP .byte c5_ fun q2 r6_ => cI .i64 r6_ fun q3 r7_ => dNil r7_ <| dEnd m4_ <| K (q0, q1, q2, q3)
  law := by
    intro vs tm K
    refine cQ_in ?_; rintro r1_ rfl
    refine cS_in ?_; rintro q0 r2_ rfl
    refine cI_in ?_; rintro q1 r3_ rfl
    refine dN_in ?_; rintro rfl
    refine bC_in ?_; rintro c5_ m4_ rfl
    refine cP_in ?_; rintro q2 r6_ rfl
    refine cI_in ?_; rintro q3 r7_ rfl
    refine dN_in ?_; rintro rfl
    refine dE_in ?_; rintro rfl
    exact fun h => ⟨(q0, q1, q2, q3), rfl, h⟩
def H65 : List (Nat × LH) := [(0, H65_0)]
def W65 : List (Nat × List (Nat × List Nat)) := []
def Γ65 : List (Nat × Con) := [(89, useC [.pc [.pure .byte, .x], .pure .int] G89), (131, useC [.pc [.pure .byte, .x], .pure .str] G131)]
theorem e65 (p1 : List Int) (p2 : Int) (K : TV → TMem → Prop) : TW PP 18 Γ65 H65 W65 (List.length ([⟨true, .cells [.pl .byte p1, .int .i64 p2]⟩] : TMem)) (bodyOf Tryz.f65) (endT PP 18 [.tmp 2] [.x] [] (List.length ([⟨true, .cells [.pl .byte p1, .int .i64 p2]⟩] : TMem)) K) (argsF [.ptr 0 0]) [⟨true, .cells [.pl .byte p1, .int .i64 p2]⟩] =
    Ms_l7Schedule p1 p2 (fun r1 r2 r3 => K (.str r1) [⟨true, .cells [.pl .byte r2, .int .i64 r3]⟩]) := by kernel_rfl
theorem s65 : CSound PP 65 G65 := by
  intro args K c h fl A aargs hA hN R hl
  unfold G65 at h
  generalize ht : c.tm = tm at h
  revert h
  refine cQ_in ?_; rintro r1_ rfl
  refine dN_in ?_; rintro rfl
  refine bC_in ?_; rintro c3_ m2_ rfl
  refine cP_in ?_; rintro p1 r4_ rfl
  refine cI_in ?_; rintro p2 r5_ rfl
  refine dN_in ?_; rintro rfl
  refine dE_in ?_; rintro rfl
  intro h
  refine fun_ok (nt := 18) (x := bodyOf Tryz.f65) (Γ := Γ65) (H := H65) (WW := W65) (rs := [.tmp 2]) (shs := [.x]) (cons := []) mixed Tryz.func65 (by decide) (by kernel_rfl) Tryz.ntmps65 Tryz.results65 (.cons (useC_ok s89) (.cons (useC_ok s131) (GSound.nil))) ?_ hA hN R hl
  rw [ht, e65 p1 p2 K]
  exact h
/-! spec.ColoredValid -/
def G161 : Con := fun args tm K => cA args fun l2_ r1_ => cP .int l2_ fun p1 r3_ => cP .int r3_ fun p2 r4_ => cP .int r4_ fun p3 r5_ => cP .int r5_ fun p4 r6_ => dNil r6_ <| dNil r1_ <| dEnd tm <| Ms_ColoredValid p1 p2 p3 p4 (fun r1 => K (.bool r1) [])
def H161_0 : LH where
  keep := [(1, .pc [.pure .int, .pure .int, .pure .int, .pure .int]), (3, .x)]
  S := Int × List Int × List Int × List Int × List Int
  enc := fun s => ([.ptr 0 0, .int .i64 s.1], [⟨true, .cells [.pl .int s.2.1, .pl .int s.2.2.1, .pl .int s.2.2.2.1, .pl .int s.2.2.2.2]⟩])
  dec := fun vs tm K => cQ 0 vs fun r1_ => cI .i64 r1_ fun q0 r2_ => dNil r2_ <| bC true tm fun c4_ m3_ => cP .int c4_ fun q1 r5_ => cP .int r5_ fun q2 r6_ => cP .int r6_ fun q3 r7_ => cP .int r7_ fun q4 r8_ => dNil r8_ <| dEnd m3_ <| K (q0, q1, q2, q3, q4)
  law := by
    intro vs tm K
    refine cQ_in ?_; rintro r1_ rfl
    refine cI_in ?_; rintro q0 r2_ rfl
    refine dN_in ?_; rintro rfl
    refine bC_in ?_; rintro c4_ m3_ rfl
    refine cP_in ?_; rintro q1 r5_ rfl
    refine cP_in ?_; rintro q2 r6_ rfl
    refine cP_in ?_; rintro q3 r7_ rfl
    refine cP_in ?_; rintro q4 r8_ rfl
    refine dN_in ?_; rintro rfl
    refine dE_in ?_; rintro rfl
    exact fun h => ⟨(q0, q1, q2, q3, q4), rfl, h⟩
def H161 : List (Nat × LH) := [(0, H161_0)]
def W161 : List (Nat × List (Nat × List Nat)) := []
def Γ161 : List (Nat × Con) := [(78, useC [.ag [.pure .int, .pure .int, .pure .int]] G78)]
theorem e161 (p1 : List Int) (p2 : List Int) (p3 : List Int) (p4 : List Int) (K : TV → TMem → Prop) : TW PP 39 Γ161 H161 W161 (List.length ([] : TMem)) (bodyOf Tryz.f161) (endT PP 39 [.tmp 2] [.bl] [] (List.length ([] : TMem)) K) (argsF [.agg [.pl .int p1, .pl .int p2, .pl .int p3, .pl .int p4]]) [] =
    Ms_ColoredValid p1 p2 p3 p4 (fun r1 => K (.bool r1) []) := by kernel_rfl
theorem s161 : CSound PP 161 G161 := by
  intro args K c h fl A aargs hA hN R hl
  unfold G161 at h
  generalize ht : c.tm = tm at h
  revert h
  refine cA_in ?_; rintro l2_ r1_ rfl
  refine cP_in ?_; rintro p1 r3_ rfl
  refine cP_in ?_; rintro p2 r4_ rfl
  refine cP_in ?_; rintro p3 r5_ rfl
  refine cP_in ?_; rintro p4 r6_ rfl
  refine dN_in ?_; rintro rfl
  refine dN_in ?_; rintro rfl
  refine dE_in ?_; rintro rfl
  intro h
  refine fun_ok (nt := 39) (x := bodyOf Tryz.f161) (Γ := Γ161) (H := H161) (WW := W161) (rs := [.tmp 2]) (shs := [.bl]) (cons := []) mixed Tryz.func161 (by decide) (by kernel_rfl) Tryz.ntmps161 Tryz.results161 (.cons (useC_ok s78) (GSound.nil)) ?_ hA hN R hl
  rw [ht, e161 p1 p2 p3 p4 K]
  exact h
/-! spec.GcValid -/
def G97 : Con := fun args tm K => cA args fun l2_ r1_ => cP .int l2_ fun p1 r3_ => cP .int r3_ fun p2 r4_ => cP .int r4_ fun p3 r5_ => cP .int r5_ fun p4 r6_ => dNil r6_ <| cA r1_ fun l8_ r7_ => cI .i64 l8_ fun p5 r9_ => cP .int r9_ fun p6 r10_ => cI .i64 r10_ fun p7 r11_ => dNil r11_ <| dNil r7_ <| dEnd tm <| Ms_GcValid p1 p2 p3 p4 p5 p6 p7 (fun r1 => K (.bool r1) [])
def H97 : List (Nat × LH) := []
def W97 : List (Nat × List (Nat × List Nat)) := []
def Γ97 : List (Nat × Con) := [(160, useC [.ag [.pure .int, .pure .int, .pure .int, .pure .int]] G160), (161, useC [.ag [.pure .int, .pure .int, .pure .int, .pure .int]] G161)]
theorem e97 (p1 : List Int) (p2 : List Int) (p3 : List Int) (p4 : List Int) (p5 : Int) (p6 : List Int) (p7 : Int) (K : TV → TMem → Prop) : TW PP 48 Γ97 H97 W97 (List.length ([] : TMem)) (bodyOf Tryz.f97) (endT PP 48 [.tmp 4] [.bl] [] (List.length ([] : TMem)) K) (argsF [.agg [.pl .int p1, .pl .int p2, .pl .int p3, .pl .int p4], .agg [.int .i64 p5, .pl .int p6, .int .i64 p7]]) [] =
    Ms_GcValid p1 p2 p3 p4 p5 p6 p7 (fun r1 => K (.bool r1) []) := by kernel_rfl
theorem s97 : CSound PP 97 G97 := by
  intro args K c h fl A aargs hA hN R hl
  unfold G97 at h
  generalize ht : c.tm = tm at h
  revert h
  refine cA_in ?_; rintro l2_ r1_ rfl
  refine cP_in ?_; rintro p1 r3_ rfl
  refine cP_in ?_; rintro p2 r4_ rfl
  refine cP_in ?_; rintro p3 r5_ rfl
  refine cP_in ?_; rintro p4 r6_ rfl
  refine dN_in ?_; rintro rfl
  refine cA_in ?_; rintro l8_ r7_ rfl
  refine cI_in ?_; rintro p5 r9_ rfl
  refine cP_in ?_; rintro p6 r10_ rfl
  refine cI_in ?_; rintro p7 r11_ rfl
  refine dN_in ?_; rintro rfl
  refine dN_in ?_; rintro rfl
  refine dE_in ?_; rintro rfl
  intro h
  refine fun_ok (nt := 48) (x := bodyOf Tryz.f97) (Γ := Γ97) (H := H97) (WW := W97) (rs := [.tmp 4]) (shs := [.bl]) (cons := []) mixed Tryz.func97 (by decide) (by kernel_rfl) Tryz.ntmps97 Tryz.results97 (.cons (useC_ok s160) (.cons (useC_ok s161) (GSound.nil))) ?_ hA hN R hl
  rw [ht, e97 p1 p2 p3 p4 p5 p6 p7 K]
  exact h
/-! spec.BothValid -/
def G38 : Con := fun args tm K => cA args fun l2_ r1_ => cP .int l2_ fun p1 r3_ => cP .int r3_ fun p2 r4_ => cP .int r4_ fun p3 r5_ => cP .int r5_ fun p4 r6_ => cI .i64 r6_ fun p5 r7_ => cP .int r7_ fun p6 r8_ => cI .i64 r8_ fun p7 r9_ => cP .op r9_ fun p8 r10_ => cI .i64 r10_ fun p9 r11_ => cB r11_ fun p10 r12_ => dNil r12_ <| dNil r1_ <| dEnd tm <| Ms_BothValid p1 p2 p3 p4 p5 p6 p7 p8 p9 p10 (fun r1 => K (.bool r1) [])
def H38 : List (Nat × LH) := []
def W38 : List (Nat × List (Nat × List Nat)) := []
def Γ38 : List (Nat × Con) := [(97, useC [.ag [.pure .int, .pure .int, .pure .int, .pure .int], .ag [.x, .pure .int, .x]] G97), (98, useC [.pure .op, .x] G98)]
theorem e38 (p1 : List Int) (p2 : List Int) (p3 : List Int) (p4 : List Int) (p5 : Int) (p6 : List Int) (p7 : Int) (p8 : List OpV) (p9 : Int) (p10 : Bool) (K : TV → TMem → Prop) : TW PP 31 Γ38 H38 W38 (List.length ([] : TMem)) (bodyOf Tryz.f38) (endT PP 31 [.tmp 2] [.bl] [] (List.length ([] : TMem)) K) (argsF [.agg [.pl .int p1, .pl .int p2, .pl .int p3, .pl .int p4, .int .i64 p5, .pl .int p6, .int .i64 p7, .pl .op p8, .int .i64 p9, .bool p10]]) [] =
    Ms_BothValid p1 p2 p3 p4 p5 p6 p7 p8 p9 p10 (fun r1 => K (.bool r1) []) := by kernel_rfl
theorem s38 : CSound PP 38 G38 := by
  intro args K c h fl A aargs hA hN R hl
  unfold G38 at h
  generalize ht : c.tm = tm at h
  revert h
  refine cA_in ?_; rintro l2_ r1_ rfl
  refine cP_in ?_; rintro p1 r3_ rfl
  refine cP_in ?_; rintro p2 r4_ rfl
  refine cP_in ?_; rintro p3 r5_ rfl
  refine cP_in ?_; rintro p4 r6_ rfl
  refine cI_in ?_; rintro p5 r7_ rfl
  refine cP_in ?_; rintro p6 r8_ rfl
  refine cI_in ?_; rintro p7 r9_ rfl
  refine cP_in ?_; rintro p8 r10_ rfl
  refine cI_in ?_; rintro p9 r11_ rfl
  refine cB_in ?_; rintro p10 r12_ rfl
  refine dN_in ?_; rintro rfl
  refine dN_in ?_; rintro rfl
  refine dE_in ?_; rintro rfl
  intro h
  refine fun_ok (nt := 31) (x := bodyOf Tryz.f38) (Γ := Γ38) (H := H38) (WW := W38) (rs := [.tmp 2]) (shs := [.bl]) (cons := []) mixed Tryz.func38 (by decide) (by kernel_rfl) Tryz.ntmps38 Tryz.results38 (.cons (useC_ok s97) (.cons (useC_ok s98) (GSound.nil))) ?_ hA hN R hl
  rw [ht, e38 p1 p2 p3 p4 p5 p6 p7 p8 p9 p10 K]
  exact h
/-! spec.l6Copy -/
def G100 : Con := fun args tm K => cA args fun l2_ r1_ => cI .i64 l2_ fun p1 r3_ => cP .int r3_ fun p2 r4_ => cI .i64 r4_ fun p3 r5_ => dNil r5_ <| dNil r1_ <| dEnd tm <| Ms_l6Copy p1 p2 p3 (K (.agg [.int .i64 p1, .sl 0, .int .i64 p3]) [⟨true, .list .int p2⟩])
def H100 : List (Nat × LH) := []
def W100 : List (Nat × List (Nat × List Nat)) := []
def Γ100 : List (Nat × Con) := []
theorem e100 (p1 : Int) (p2 : List Int) (p3 : Int) (K : TV → TMem → Prop) : TW PP 12 Γ100 H100 W100 (List.length ([] : TMem)) (bodyOf Tryz.f100) (endT PP 12 [.cell 2 29] [.ag [.x, .own .int, .x]] [] (List.length ([] : TMem)) K) (argsF [.agg [.int .i64 p1, .pl .int p2, .int .i64 p3]]) [] =
    Ms_l6Copy p1 p2 p3 (K (.agg [.int .i64 p1, .sl 0, .int .i64 p3]) [⟨true, .list .int p2⟩]) := by kernel_rfl
theorem s100 : CSound PP 100 G100 := by
  intro args K c h fl A aargs hA hN R hl
  unfold G100 at h
  generalize ht : c.tm = tm at h
  revert h
  refine cA_in ?_; rintro l2_ r1_ rfl
  refine cI_in ?_; rintro p1 r3_ rfl
  refine cP_in ?_; rintro p2 r4_ rfl
  refine cI_in ?_; rintro p3 r5_ rfl
  refine dN_in ?_; rintro rfl
  refine dN_in ?_; rintro rfl
  refine dE_in ?_; rintro rfl
  intro h
  refine fun_ok (nt := 12) (x := bodyOf Tryz.f100) (Γ := Γ100) (H := H100) (WW := W100) (rs := [.cell 2 29]) (shs := [.ag [.x, .own .int, .x]]) (cons := []) mixed Tryz.func100 (by decide) (by kernel_rfl) Tryz.ntmps100 Tryz.results100 (GSound.nil) ?_ hA hN R hl
  rw [ht, e100 p1 p2 p3 K]
  exact h
/-! spec.l7Copy -/
def G39 : Con := fun args tm K => cA args fun l2_ r1_ => cP .int l2_ fun p1 r3_ => cP .int r3_ fun p2 r4_ => cP .int r4_ fun p3 r5_ => cP .int r5_ fun p4 r6_ => cI .i64 r6_ fun p5 r7_ => cP .int r7_ fun p6 r8_ => cI .i64 r8_ fun p7 r9_ => cP .op r9_ fun p8 r10_ => cI .i64 r10_ fun p9 r11_ => cB r11_ fun p10 r12_ => dNil r12_ <| dNil r1_ <| dEnd tm <| Ms_l7Copy p1 p2 p3 p4 p5 p6 p7 p8 p9 p10 (K (.agg [.sl 0, .sl 1, .sl 2, .sl 3, .int .i64 p5, .sl 4, .int .i64 p7, .sl 5, .int .i64 p9, .bool p10]) [⟨true, .list .int p1⟩, ⟨true, .list .int p2⟩, ⟨true, .list .int p3⟩, ⟨true, .list .int p4⟩, ⟨true, .list .int p6⟩, ⟨true, .list .op p8⟩])
def H39 : List (Nat × LH) := []
def W39 : List (Nat × List (Nat × List Nat)) := []
def Γ39 : List (Nat × Con) := [(99, useC [.ag [.pure .int, .pure .int, .pure .int, .pure .int]] G99), (100, useC [.ag [.x, .pure .int, .x]] G100)]
theorem e39 (p1 : List Int) (p2 : List Int) (p3 : List Int) (p4 : List Int) (p5 : Int) (p6 : List Int) (p7 : Int) (p8 : List OpV) (p9 : Int) (p10 : Bool) (K : TV → TMem → Prop) : TW PP 18 Γ39 H39 W39 (List.length ([] : TMem)) (bodyOf Tryz.f39) (endT PP 18 [.cell 2 32] [.ag [.own .int, .own .int, .own .int, .own .int, .x, .own .int, .x, .own .op, .x, .bl]] [] (List.length ([] : TMem)) K) (argsF [.agg [.pl .int p1, .pl .int p2, .pl .int p3, .pl .int p4, .int .i64 p5, .pl .int p6, .int .i64 p7, .pl .op p8, .int .i64 p9, .bool p10]]) [] =
    Ms_l7Copy p1 p2 p3 p4 p5 p6 p7 p8 p9 p10 (K (.agg [.sl 0, .sl 1, .sl 2, .sl 3, .int .i64 p5, .sl 4, .int .i64 p7, .sl 5, .int .i64 p9, .bool p10]) [⟨true, .list .int p1⟩, ⟨true, .list .int p2⟩, ⟨true, .list .int p3⟩, ⟨true, .list .int p4⟩, ⟨true, .list .int p6⟩, ⟨true, .list .op p8⟩]) := by kernel_rfl
theorem s39 : CSound PP 39 G39 := by
  intro args K c h fl A aargs hA hN R hl
  unfold G39 at h
  generalize ht : c.tm = tm at h
  revert h
  refine cA_in ?_; rintro l2_ r1_ rfl
  refine cP_in ?_; rintro p1 r3_ rfl
  refine cP_in ?_; rintro p2 r4_ rfl
  refine cP_in ?_; rintro p3 r5_ rfl
  refine cP_in ?_; rintro p4 r6_ rfl
  refine cI_in ?_; rintro p5 r7_ rfl
  refine cP_in ?_; rintro p6 r8_ rfl
  refine cI_in ?_; rintro p7 r9_ rfl
  refine cP_in ?_; rintro p8 r10_ rfl
  refine cI_in ?_; rintro p9 r11_ rfl
  refine cB_in ?_; rintro p10 r12_ rfl
  refine dN_in ?_; rintro rfl
  refine dN_in ?_; rintro rfl
  refine dE_in ?_; rintro rfl
  intro h
  refine fun_ok (nt := 18) (x := bodyOf Tryz.f39) (Γ := Γ39) (H := H39) (WW := W39) (rs := [.cell 2 32]) (shs := [.ag [.own .int, .own .int, .own .int, .own .int, .x, .own .int, .x, .own .op, .x, .bl]]) (cons := []) mixed Tryz.func39 (by decide) (by kernel_rfl) Tryz.ntmps39 Tryz.results39 (.cons (useC_ok s99) (.cons (useC_ok s100) (GSound.nil))) ?_ hA hN R hl
  rw [ht, e39 p1 p2 p3 p4 p5 p6 p7 p8 p9 p10 K]
  exact h
/-! spec.l6Swept -/
def G106 : Con := fun args tm K => cA args fun l2_ r1_ => cP .int l2_ fun p1 r3_ => cP .int r3_ fun p2 r4_ => cP .int r4_ fun p3 r5_ => cP .int r5_ fun p4 r6_ => dNil r6_ <| cA r1_ fun l8_ r7_ => cI .i64 l8_ fun p5 r9_ => cP .int r9_ fun p6 r10_ => cI .i64 r10_ fun p7 r11_ => dNil r11_ <| dNil r7_ <| dEnd tm <| Ms_l6Swept p1 p2 p3 p4 p5 p6 p7 (fun r1 => K (.int .i64 r1) [])
def H106 : List (Nat × LH) := []
def W106 : List (Nat × List (Nat × List Nat)) := []
def Γ106 : List (Nat × Con) := [(169, useC [.pure .int, .x] G169)]
theorem e106 (p1 : List Int) (p2 : List Int) (p3 : List Int) (p4 : List Int) (p5 : Int) (p6 : List Int) (p7 : Int) (K : TV → TMem → Prop) : TW PP 27 Γ106 H106 W106 (List.length ([] : TMem)) (bodyOf Tryz.f106) (endT PP 27 [.tmp 4] [.x] [] (List.length ([] : TMem)) K) (argsF [.agg [.pl .int p1, .pl .int p2, .pl .int p3, .pl .int p4], .agg [.int .i64 p5, .pl .int p6, .int .i64 p7]]) [] =
    Ms_l6Swept p1 p2 p3 p4 p5 p6 p7 (fun r1 => K (.int .i64 r1) []) := by kernel_rfl
theorem s106 : CSound PP 106 G106 := by
  intro args K c h fl A aargs hA hN R hl
  unfold G106 at h
  generalize ht : c.tm = tm at h
  revert h
  refine cA_in ?_; rintro l2_ r1_ rfl
  refine cP_in ?_; rintro p1 r3_ rfl
  refine cP_in ?_; rintro p2 r4_ rfl
  refine cP_in ?_; rintro p3 r5_ rfl
  refine cP_in ?_; rintro p4 r6_ rfl
  refine dN_in ?_; rintro rfl
  refine cA_in ?_; rintro l8_ r7_ rfl
  refine cI_in ?_; rintro p5 r9_ rfl
  refine cP_in ?_; rintro p6 r10_ rfl
  refine cI_in ?_; rintro p7 r11_ rfl
  refine dN_in ?_; rintro rfl
  refine dN_in ?_; rintro rfl
  refine dE_in ?_; rintro rfl
  intro h
  refine fun_ok (nt := 27) (x := bodyOf Tryz.f106) (Γ := Γ106) (H := H106) (WW := W106) (rs := [.tmp 4]) (shs := [.x]) (cons := []) mixed Tryz.func106 (by decide) (by kernel_rfl) Tryz.ntmps106 Tryz.results106 (.cons (useC_ok s169) (GSound.nil)) ?_ hA hN R hl
  rw [ht, e106 p1 p2 p3 p4 p5 p6 p7 K]
  exact h
/-! spec.l2Distances -/
def G196 : Con := fun args tm K => cA args fun l2_ r1_ => cP .int l2_ fun p1 r3_ => cP .int r3_ fun p2 r4_ => cP .int r4_ fun p3 r5_ => dNil r5_ <| cP .int r1_ fun p4 r6_ => dNil r6_ <| dEnd tm <| Ms_l2Distances p1 p2 p3 p4 (fun r1 => K (.sl 0) [⟨true, .list .int r1⟩])
def H196_0 : LH where
  keep := [(1, .pure .int), (2, .pc [.pure .int, .pure .int, .pure .int]), (5, .own .int), (6, .own .int), (7, .x)]
  S := List Int × Int × List Int × List Int × List Int × List Int × List Int
  enc := fun s => ([.pl .int s.1, .ptr 0 0, .sl 1, .sl 2, .int .i64 s.2.1], [⟨true, .cells [.pl .int s.2.2.1, .pl .int s.2.2.2.1, .pl .int s.2.2.2.2.1]⟩, ⟨true, .list .int s.2.2.2.2.2.1⟩, ⟨true, .list .int s.2.2.2.2.2.2⟩])
  dec := fun vs tm K => cP .int vs fun q0 r1_ => cQ 0 r1_ fun r2_ => cL 1 r2_ fun r3_ => cL 2 r3_ fun r4_ => cI .i64 r4_ fun q1 r5_ => dNil r5_ <| bC true tm fun c7_ m6_ => cP .int c7_ fun q2 r8_ => cP .int r8_ fun q3 r9_ => cP .int r9_ fun q4 r10_ => dNil r10_ <| bL true .int m6_ fun q5 m11_ => bL true .int m11_ fun q6 m12_ => dEnd m12_ <| K (q0, q1, q2, q3, q4, q5, q6)
  law := by
    intro vs tm K
    refine cP_in ?_; rintro q0 r1_ rfl
    refine cQ_in ?_; rintro r2_ rfl
    refine cL_in ?_; rintro r3_ rfl
    refine cL_in ?_; rintro r4_ rfl
    refine cI_in ?_; rintro q1 r5_ rfl
    refine dN_in ?_; rintro rfl
    refine bC_in ?_; rintro c7_ m6_ rfl
    refine cP_in ?_; rintro q2 r8_ rfl
    refine cP_in ?_; rintro q3 r9_ rfl
    refine cP_in ?_; rintro q4 r10_ rfl
    refine dN_in ?_; rintro rfl
    refine bL_in ?_; rintro q5 m11_ rfl
    refine bL_in ?_; rintro q6 m12_ rfl
    refine dE_in ?_; rintro rfl
    exact fun h => ⟨(q0, q1, q2, q3, q4, q5, q6), rfl, h⟩
def H196_2 : LH where
  keep := [(2, .pc [.pure .int, .pure .int, .pure .int]), (5, .own .int), (6, .own .int), (8, .x)]
  S := Int × List Int × List Int × List Int × List Int × List Int
  enc := fun s => ([.ptr 0 0, .sl 1, .sl 2, .int .i64 s.1], [⟨true, .cells [.pl .int s.2.1, .pl .int s.2.2.1, .pl .int s.2.2.2.1]⟩, ⟨true, .list .int s.2.2.2.2.1⟩, ⟨true, .list .int s.2.2.2.2.2⟩])
  dec := fun vs tm K => cQ 0 vs fun r1_ => cL 1 r1_ fun r2_ => cL 2 r2_ fun r3_ => cI .i64 r3_ fun q0 r4_ => dNil r4_ <| bC true tm fun c6_ m5_ => cP .int c6_ fun q1 r7_ => cP .int r7_ fun q2 r8_ => cP .int r8_ fun q3 r9_ => dNil r9_ <| bL true .int m5_ fun q4 m10_ => bL true .int m10_ fun q5 m11_ => dEnd m11_ <| K (q0, q1, q2, q3, q4, q5)
  law := by
    intro vs tm K
    refine cQ_in ?_; rintro r1_ rfl
    refine cL_in ?_; rintro r2_ rfl
    refine cL_in ?_; rintro r3_ rfl
    refine cI_in ?_; rintro q0 r4_ rfl
    refine dN_in ?_; rintro rfl
    refine bC_in ?_; rintro c6_ m5_ rfl
    refine cP_in ?_; rintro q1 r7_ rfl
    refine cP_in ?_; rintro q2 r8_ rfl
    refine cP_in ?_; rintro q3 r9_ rfl
    refine dN_in ?_; rintro rfl
    refine bL_in ?_; rintro q4 m10_ rfl
    refine bL_in ?_; rintro q5 m11_ rfl
    refine dE_in ?_; rintro rfl
    exact fun h => ⟨(q0, q1, q2, q3, q4, q5), rfl, h⟩
def H196_4 : LH where
  keep := [(2, .pc [.pure .int, .pure .int, .pure .int]), (5, .own .int), (6, .own .int), (8, .x), (9, .x), (10, .own .int), (11, .x)]
  S := Int × Int × Int × List Int × List Int × List Int × List Int × List Int × List Int
  enc := fun s => ([.ptr 0 0, .sl 1, .sl 2, .int .i64 s.1, .int .i64 s.2.1, .sl 3, .int .i64 s.2.2.1], [⟨true, .cells [.pl .int s.2.2.2.1, .pl .int s.2.2.2.2.1, .pl .int s.2.2.2.2.2.1]⟩, ⟨true, .list .int s.2.2.2.2.2.2.1⟩, ⟨true, .list .int s.2.2.2.2.2.2.2.1⟩, ⟨true, .list .int s.2.2.2.2.2.2.2.2⟩])
  dec := fun vs tm K => cQ 0 vs fun r1_ => cL 1 r1_ fun r2_ => cL 2 r2_ fun r3_ => cI .i64 r3_ fun q0 r4_ => cI .i64 r4_ fun q1 r5_ => cL 3 r5_ fun r6_ => cI .i64 r6_ fun q2 r7_ => dNil r7_ <| bC true tm fun c9_ m8_ => cP .int c9_ fun q3 r10_ => cP .int r10_ fun q4 r11_ => cP .int r11_ fun q5 r12_ => dNil r12_ <| bL true .int m8_ fun q6 m13_ => bL true .int m13_ fun q7 m14_ => bL true .int m14_ fun q8 m15_ => dEnd m15_ <| K (q0, q1, q2, q3, q4, q5, q6, q7, q8)
  law := by
    intro vs tm K
    refine cQ_in ?_; rintro r1_ rfl
    refine cL_in ?_; rintro r2_ rfl
    refine cL_in ?_; rintro r3_ rfl
    refine cI_in ?_; rintro q0 r4_ rfl
    refine cI_in ?_; rintro q1 r5_ rfl
    refine cL_in ?_; rintro r6_ rfl
    refine cI_in ?_; rintro q2 r7_ rfl
    refine dN_in ?_; rintro rfl
    refine bC_in ?_; rintro c9_ m8_ rfl
    refine cP_in ?_; rintro q3 r10_ rfl
    refine cP_in ?_; rintro q4 r11_ rfl
    refine cP_in ?_; rintro q5 r12_ rfl
    refine dN_in ?_; rintro rfl
    refine bL_in ?_; rintro q6 m13_ rfl
    refine bL_in ?_; rintro q7 m14_ rfl
    refine bL_in ?_; rintro q8 m15_ rfl
    refine dE_in ?_; rintro rfl
    exact fun h => ⟨(q0, q1, q2, q3, q4, q5, q6, q7, q8), rfl, h⟩
def H196 : List (Nat × LH) := [(0, H196_0), (2, H196_2), (4, H196_4)]
def W196 : List (Nat × List (Nat × List Nat)) := []
def Γ196 : List (Nat × Con) := [(204, useC [.x] G204)]
theorem e196 (p1 : List Int) (p2 : List Int) (p3 : List Int) (p4 : List Int) (K : TV → TMem → Prop) : TW PP 110 Γ196 H196 W196 (List.length ([] : TMem)) (bodyOf Tryz.f196) (endT PP 110 [.tmp 4] [.own .int] [] (List.length ([] : TMem)) K) (argsF [.agg [.pl .int p1, .pl .int p2, .pl .int p3], .pl .int p4]) [] =
    Ms_l2Distances p1 p2 p3 p4 (fun r1 => K (.sl 0) [⟨true, .list .int r1⟩]) := by kernel_rfl
theorem s196 : CSound PP 196 G196 := by
  intro args K c h fl A aargs hA hN R hl
  unfold G196 at h
  generalize ht : c.tm = tm at h
  revert h
  refine cA_in ?_; rintro l2_ r1_ rfl
  refine cP_in ?_; rintro p1 r3_ rfl
  refine cP_in ?_; rintro p2 r4_ rfl
  refine cP_in ?_; rintro p3 r5_ rfl
  refine dN_in ?_; rintro rfl
  refine cP_in ?_; rintro p4 r6_ rfl
  refine dN_in ?_; rintro rfl
  refine dE_in ?_; rintro rfl
  intro h
  refine fun_ok (nt := 110) (x := bodyOf Tryz.f196) (Γ := Γ196) (H := H196) (WW := W196) (rs := [.tmp 4]) (shs := [.own .int]) (cons := []) mixed Tryz.func196 (by decide) (by kernel_rfl) Tryz.ntmps196 Tryz.results196 (.cons (useC_ok s204) (GSound.nil)) ?_ hA hN R hl
  rw [ht, e196 p1 p2 p3 p4 K]
  exact h
/-! spec.Reachable -/
def G168 : Con := fun args tm K => cA args fun l2_ r1_ => cP .int l2_ fun p1 r3_ => cP .int r3_ fun p2 r4_ => cP .int r4_ fun p3 r5_ => dNil r5_ <| dNil r1_ <| dEnd tm <| Ms_Reachable p1 p2 p3 (fun r1 => K (.sl 0) [⟨true, .list .bool r1⟩])
def H168_0 : LH where
  keep := [(3, .own .bool), (4, .own .int), (5, .x)]
  S := Int × List Bool × List Int
  enc := fun s => ([.sl 0, .sl 1, .int .i64 s.1], [⟨true, .list .bool s.2.1⟩, ⟨true, .list .int s.2.2⟩])
  dec := fun vs tm K => cL 0 vs fun r1_ => cL 1 r1_ fun r2_ => cI .i64 r2_ fun q0 r3_ => dNil r3_ <| bL true .bool tm fun q1 m4_ => bL true .int m4_ fun q2 m5_ => dEnd m5_ <| K (q0, q1, q2)
  law := by
    intro vs tm K
    refine cL_in ?_; rintro r1_ rfl
    refine cL_in ?_; rintro r2_ rfl
    refine cI_in ?_; rintro q0 r3_ rfl
    refine dN_in ?_; rintro rfl
    refine bL_in ?_; rintro q1 m4_ rfl
    refine bL_in ?_; rintro q2 m5_ rfl
    refine dE_in ?_; rintro rfl
    exact fun h => ⟨(q0, q1, q2), rfl, h⟩
def H168 : List (Nat × LH) := [(0, H168_0)]
def W168 : List (Nat × List (Nat × List Nat)) := []
def Γ168 : List (Nat × Con) := [(78, useC [.ag [.pure .int, .pure .int, .pure .int]] G78), (196, useC [.ag [.pure .int, .pure .int, .pure .int], .pure .int] G196)]
theorem e168 (p1 : List Int) (p2 : List Int) (p3 : List Int) (K : TV → TMem → Prop) : TW PP 30 Γ168 H168 W168 (List.length ([] : TMem)) (bodyOf Tryz.f168) (endT PP 30 [.tmp 2] [.own .bool] [] (List.length ([] : TMem)) K) (argsF [.agg [.pl .int p1, .pl .int p2, .pl .int p3]]) [] =
    Ms_Reachable p1 p2 p3 (fun r1 => K (.sl 0) [⟨true, .list .bool r1⟩]) := by kernel_rfl
theorem s168 : CSound PP 168 G168 := by
  intro args K c h fl A aargs hA hN R hl
  unfold G168 at h
  generalize ht : c.tm = tm at h
  revert h
  refine cA_in ?_; rintro l2_ r1_ rfl
  refine cP_in ?_; rintro p1 r3_ rfl
  refine cP_in ?_; rintro p2 r4_ rfl
  refine cP_in ?_; rintro p3 r5_ rfl
  refine dN_in ?_; rintro rfl
  refine dN_in ?_; rintro rfl
  refine dE_in ?_; rintro rfl
  intro h
  refine fun_ok (nt := 30) (x := bodyOf Tryz.f168) (Γ := Γ168) (H := H168) (WW := W168) (rs := [.tmp 2]) (shs := [.own .bool]) (cons := []) mixed Tryz.func168 (by decide) (by kernel_rfl) Tryz.ntmps168 Tryz.results168 (.cons (useC_ok s78) (.cons (useC_ok s196) (GSound.nil))) ?_ hA hN R hl
  rw [ht, e168 p1 p2 p3 K]
  exact h
/-! spec.l7Live -/
def G105 : Con := fun args tm K => cA args fun l2_ r1_ => cP .int l2_ fun p1 r3_ => cP .int r3_ fun p2 r4_ => cP .int r4_ fun p3 r5_ => cP .int r5_ fun p4 r6_ => dNil r6_ <| cI .i64 r1_ fun p5 r7_ => dNil r7_ <| dEnd tm <| Ms_l7Live p1 p2 p3 p4 p5 (fun r1 => K (.bool r1) [])
def H105 : List (Nat × LH) := []
def W105 : List (Nat × List (Nat × List Nat)) := []
def Γ105 : List (Nat × Con) := [(168, useC [.ag [.pure .int, .pure .int, .pure .int]] G168)]
theorem e105 (p1 : List Int) (p2 : List Int) (p3 : List Int) (p4 : List Int) (p5 : Int) (K : TV → TMem → Prop) : TW PP 15 Γ105 H105 W105 (List.length ([] : TMem)) (bodyOf Tryz.f105) (endT PP 15 [.tmp 4] [.bl] [] (List.length ([] : TMem)) K) (argsF [.agg [.pl .int p1, .pl .int p2, .pl .int p3, .pl .int p4], .int .i64 p5]) [] =
    Ms_l7Live p1 p2 p3 p4 p5 (fun r1 => K (.bool r1) []) := by kernel_rfl
theorem s105 : CSound PP 105 G105 := by
  intro args K c h fl A aargs hA hN R hl
  unfold G105 at h
  generalize ht : c.tm = tm at h
  revert h
  refine cA_in ?_; rintro l2_ r1_ rfl
  refine cP_in ?_; rintro p1 r3_ rfl
  refine cP_in ?_; rintro p2 r4_ rfl
  refine cP_in ?_; rintro p3 r5_ rfl
  refine cP_in ?_; rintro p4 r6_ rfl
  refine dN_in ?_; rintro rfl
  refine cI_in ?_; rintro p5 r7_ rfl
  refine dN_in ?_; rintro rfl
  refine dE_in ?_; rintro rfl
  intro h
  refine fun_ok (nt := 15) (x := bodyOf Tryz.f105) (Γ := Γ105) (H := H105) (WW := W105) (rs := [.tmp 4]) (shs := [.bl]) (cons := []) mixed Tryz.func105 (by decide) (by kernel_rfl) Tryz.ntmps105 Tryz.results105 (.cons (useC_ok s168) (GSound.nil)) ?_ hA hN R hl
  rw [ht, e105 p1 p2 p3 p4 p5 K]
  exact h
/-! spec.l3Shade -/
def G167 : Con := fun args tm K => cL 0 args fun r1_ => cI .i64 r1_ fun p1 r2_ => dNil r2_ <| bL true .int tm fun p2 m3_ => dEnd m3_ <| Ms_l3Shade p1 p2 (fun r1 => K (.sl 0) [⟨true, .list .int r1⟩])
def H167 : List (Nat × LH) := []
def W167 : List (Nat × List (Nat × List Nat)) := []
def Γ167 : List (Nat × Con) := []
theorem e167 (p1 : Int) (p2 : List Int) (K : TV → TMem → Prop) : TW PP 18 Γ167 H167 W167 (List.length ([⟨true, .list .int p2⟩] : TMem)) (bodyOf Tryz.f167) (endT PP 18 [.tmp 4] [.own .int] [] (List.length ([⟨true, .list .int p2⟩] : TMem)) K) (argsF [.sl 0, .int .i64 p1]) [⟨true, .list .int p2⟩] =
    Ms_l3Shade p1 p2 (fun r1 => K (.sl 0) [⟨true, .list .int r1⟩]) := by kernel_rfl
theorem s167 : CSound PP 167 G167 := by
  intro args K c h fl A aargs hA hN R hl
  unfold G167 at h
  generalize ht : c.tm = tm at h
  revert h
  refine cL_in ?_; rintro r1_ rfl
  refine cI_in ?_; rintro p1 r2_ rfl
  refine dN_in ?_; rintro rfl
  refine bL_in ?_; rintro p2 m3_ rfl
  refine dE_in ?_; rintro rfl
  intro h
  refine fun_ok (nt := 18) (x := bodyOf Tryz.f167) (Γ := Γ167) (H := H167) (WW := W167) (rs := [.tmp 4]) (shs := [.own .int]) (cons := []) mixed Tryz.func167 (by decide) (by kernel_rfl) Tryz.ntmps167 Tryz.results167 (GSound.nil) ?_ hA hN R hl
  rw [ht, e167 p1 p2 K]
  exact h
/-! spec.l6Next -/
def G170 : Con := fun args tm K => cA args fun l2_ r1_ => cI .i64 l2_ fun p1 r3_ => cL 0 r3_ fun r4_ => cI .i64 r4_ fun p2 r5_ => dNil r5_ <| cI .i64 r1_ fun p3 r6_ => cI .i64 r6_ fun p4 r7_ => dNil r7_ <| bL false .int tm fun p5 m8_ => dEnd m8_ <| Ms_l6Next p1 p2 p3 p4 p5 (fun r1 r2 => K (.agg [.int .i64 r1, .sl 0, .int .i64 r2]) [⟨false, .list .int p5⟩])
def H170 : List (Nat × LH) := []
def W170 : List (Nat × List (Nat × List Nat)) := []
def Γ170 : List (Nat × Con) := []
theorem e170 (p1 : Int) (p2 : Int) (p3 : Int) (p4 : Int) (p5 : List Int) (K : TV → TMem → Prop) : TW PP 19 Γ170 H170 W170 (List.length ([⟨false, .list .int p5⟩] : TMem)) (bodyOf Tryz.f170) (endT PP 19 [.cell 6 29] [.ag [.x, .x, .x]] [] (List.length ([⟨false, .list .int p5⟩] : TMem)) K) (argsF [.agg [.int .i64 p1, .sl 0, .int .i64 p2], .int .i64 p3, .int .i64 p4]) [⟨false, .list .int p5⟩] =
    Ms_l6Next p1 p2 p3 p4 p5 (fun r1 r2 => K (.agg [.int .i64 r1, .sl 0, .int .i64 r2]) [⟨false, .list .int p5⟩]) := by kernel_rfl
theorem s170 : CSound PP 170 G170 := by
  intro args K c h fl A aargs hA hN R hl
  unfold G170 at h
  generalize ht : c.tm = tm at h
  revert h
  refine cA_in ?_; rintro l2_ r1_ rfl
  refine cI_in ?_; rintro p1 r3_ rfl
  refine cL_in ?_; rintro r4_ rfl
  refine cI_in ?_; rintro p2 r5_ rfl
  refine dN_in ?_; rintro rfl
  refine cI_in ?_; rintro p3 r6_ rfl
  refine cI_in ?_; rintro p4 r7_ rfl
  refine dN_in ?_; rintro rfl
  refine bL_in ?_; rintro p5 m8_ rfl
  refine dE_in ?_; rintro rfl
  intro h
  refine fun_ok (nt := 19) (x := bodyOf Tryz.f170) (Γ := Γ170) (H := H170) (WW := W170) (rs := [.cell 6 29]) (shs := [.ag [.x, .x, .x]]) (cons := []) mixed Tryz.func170 (by decide) (by kernel_rfl) Tryz.ntmps170 Tryz.results170 (GSound.nil) ?_ hA hN R hl
  rw [ht, e170 p1 p2 p3 p4 p5 K]
  exact h
/-! spec.l3First -/
def G197 : Con := fun args tm K => cA args fun l2_ r1_ => cP .int l2_ fun p1 r3_ => cP .int r3_ fun p2 r4_ => cP .int r4_ fun p3 r5_ => cP .int r5_ fun p4 r6_ => dNil r6_ <| cI .i64 r1_ fun p5 r7_ => dNil r7_ <| dEnd tm <| Ms_l3First p1 p2 p3 p4 p5 (fun r1 => K (.int .i64 r1) [])
def H197_0 : LH where
  keep := [(1, .x), (2, .pc [.pure .int, .pure .int, .pure .int, .pure .int]), (5, .x)]
  S := Int × Int × List Int × List Int × List Int × List Int
  enc := fun s => ([.int .i64 s.1, .ptr 0 0, .int .i64 s.2.1], [⟨true, .cells [.pl .int s.2.2.1, .pl .int s.2.2.2.1, .pl .int s.2.2.2.2.1, .pl .int s.2.2.2.2.2]⟩])
  dec := fun vs tm K => cI .i64 vs fun q0 r1_ => cQ 0 r1_ fun r2_ => cI .i64 r2_ fun q1 r3_ => dNil r3_ <| bC true tm fun c5_ m4_ => cP .int c5_ fun q2 r6_ => cP .int r6_ fun q3 r7_ => cP .int r7_ fun q4 r8_ => cP .int r8_ fun q5 r9_ => dNil r9_ <| dEnd m4_ <| K (q0, q1, q2, q3, q4, q5)
  law := by
    intro vs tm K
    refine cI_in ?_; rintro q0 r1_ rfl
    refine cQ_in ?_; rintro r2_ rfl
    refine cI_in ?_; rintro q1 r3_ rfl
    refine dN_in ?_; rintro rfl
    refine bC_in ?_; rintro c5_ m4_ rfl
    refine cP_in ?_; rintro q2 r6_ rfl
    refine cP_in ?_; rintro q3 r7_ rfl
    refine cP_in ?_; rintro q4 r8_ rfl
    refine cP_in ?_; rintro q5 r9_ rfl
    refine dN_in ?_; rintro rfl
    refine dE_in ?_; rintro rfl
    exact fun h => ⟨(q0, q1, q2, q3, q4, q5), rfl, h⟩
def H197 : List (Nat × LH) := [(0, H197_0)]
def W197 : List (Nat × List (Nat × List Nat)) := []
def Γ197 : List (Nat × Con) := []
theorem e197 (p1 : List Int) (p2 : List Int) (p3 : List Int) (p4 : List Int) (p5 : Int) (K : TV → TMem → Prop) : TW PP 21 Γ197 H197 W197 (List.length ([] : TMem)) (bodyOf Tryz.f197) (endT PP 21 [.tmp 4] [.x] [] (List.length ([] : TMem)) K) (argsF [.agg [.pl .int p1, .pl .int p2, .pl .int p3, .pl .int p4], .int .i64 p5]) [] =
    Ms_l3First p1 p2 p3 p4 p5 (fun r1 => K (.int .i64 r1) []) := by kernel_rfl
theorem s197 : CSound PP 197 G197 := by
  intro args K c h fl A aargs hA hN R hl
  unfold G197 at h
  generalize ht : c.tm = tm at h
  revert h
  refine cA_in ?_; rintro l2_ r1_ rfl
  refine cP_in ?_; rintro p1 r3_ rfl
  refine cP_in ?_; rintro p2 r4_ rfl
  refine cP_in ?_; rintro p3 r5_ rfl
  refine cP_in ?_; rintro p4 r6_ rfl
  refine dN_in ?_; rintro rfl
  refine cI_in ?_; rintro p5 r7_ rfl
  refine dN_in ?_; rintro rfl
  refine dE_in ?_; rintro rfl
  intro h
  refine fun_ok (nt := 21) (x := bodyOf Tryz.f197) (Γ := Γ197) (H := H197) (WW := W197) (rs := [.tmp 4]) (shs := [.x]) (cons := []) mixed Tryz.func197 (by decide) (by kernel_rfl) Tryz.ntmps197 Tryz.results197 (GSound.nil) ?_ hA hN R hl
  rw [ht, e197 p1 p2 p3 p4 p5 K]
  exact h
/-! spec.l3Black -/
def G198 : Con := fun args tm K => cA args fun l2_ r1_ => cP .int l2_ fun p1 r3_ => cP .int r3_ fun p2 r4_ => cP .int r4_ fun p3 r5_ => cL 0 r5_ fun r6_ => dNil r6_ <| cI .i64 r1_ fun p4 r7_ => dNil r7_ <| bL true .int tm fun p5 m8_ => dEnd m8_ <| Ms_l3Black p1 p2 p3 p4 p5 (fun r1 => K (.agg [.pl .int p1, .pl .int p2, .pl .int p3, .sl 0]) [⟨true, .list .int r1⟩])
def H198 : List (Nat × LH) := []
def W198 : List (Nat × List (Nat × List Nat)) := []
def Γ198 : List (Nat × Con) := [(167, useC [.own .int, .x] G167)]
theorem e198 (p1 : List Int) (p2 : List Int) (p3 : List Int) (p4 : Int) (p5 : List Int) (K : TV → TMem → Prop) : TW PP 30 Γ198 H198 W198 (List.length ([⟨true, .list .int p5⟩] : TMem)) (bodyOf Tryz.f198) (endT PP 30 [.cell 4 180] [.ag [.pure .int, .pure .int, .pure .int, .own .int]] [] (List.length ([⟨true, .list .int p5⟩] : TMem)) K) (argsF [.agg [.pl .int p1, .pl .int p2, .pl .int p3, .sl 0], .int .i64 p4]) [⟨true, .list .int p5⟩] =
    Ms_l3Black p1 p2 p3 p4 p5 (fun r1 => K (.agg [.pl .int p1, .pl .int p2, .pl .int p3, .sl 0]) [⟨true, .list .int r1⟩]) := by kernel_rfl
theorem s198 : CSound PP 198 G198 := by
  intro args K c h fl A aargs hA hN R hl
  unfold G198 at h
  generalize ht : c.tm = tm at h
  revert h
  refine cA_in ?_; rintro l2_ r1_ rfl
  refine cP_in ?_; rintro p1 r3_ rfl
  refine cP_in ?_; rintro p2 r4_ rfl
  refine cP_in ?_; rintro p3 r5_ rfl
  refine cL_in ?_; rintro r6_ rfl
  refine dN_in ?_; rintro rfl
  refine cI_in ?_; rintro p4 r7_ rfl
  refine dN_in ?_; rintro rfl
  refine bL_in ?_; rintro p5 m8_ rfl
  refine dE_in ?_; rintro rfl
  intro h
  refine fun_ok (nt := 30) (x := bodyOf Tryz.f198) (Γ := Γ198) (H := H198) (WW := W198) (rs := [.cell 4 180]) (shs := [.ag [.pure .int, .pure .int, .pure .int, .own .int]]) (cons := []) mixed Tryz.func198 (by decide) (by kernel_rfl) Tryz.ntmps198 Tryz.results198 (.cons (useC_ok s167) (GSound.nil)) ?_ hA hN R hl
  rw [ht, e198 p1 p2 p3 p4 p5 K]
  exact h
/-! spec.l6Root -/
def G199 : Con := fun args tm K => cA args fun l2_ r1_ => cP .int l2_ fun p1 r3_ => cP .int r3_ fun p2 r4_ => cP .int r4_ fun p3 r5_ => cP .int r5_ fun p4 r6_ => dNil r6_ <| cA r1_ fun l8_ r7_ => cI .i64 l8_ fun p5 r9_ => cP .int r9_ fun p6 r10_ => cI .i64 r10_ fun p7 r11_ => dNil r11_ <| dNil r7_ <| dEnd tm <| Ms_l6Root p1 p2 p3 p4 p5 p6 p7 (fun r1 => K (.int .i64 r1) [])
def H199_0 : LH where
  keep := [(2, .pc [.pure .int, .pure .int, .pure .int, .pure .int]), (3, .pc [.x, .pure .int, .x]), (5, .x)]
  S := Int × List Int × List Int × List Int × List Int × Int × List Int × Int
  enc := fun s => ([.ptr 0 0, .ptr 1 0, .int .i64 s.1], [⟨true, .cells [.pl .int s.2.1, .pl .int s.2.2.1, .pl .int s.2.2.2.1, .pl .int s.2.2.2.2.1]⟩, ⟨true, .cells [.int .i64 s.2.2.2.2.2.1, .pl .int s.2.2.2.2.2.2.1, .int .i64 s.2.2.2.2.2.2.2]⟩])
  dec := fun vs tm K => cQ 0 vs fun r1_ => cQ 1 r1_ fun r2_ => cI .i64 r2_ fun q0 r3_ => dNil r3_ <| bC true tm fun c5_ m4_ => cP .int c5_ fun q1 r6_ => cP .int r6_ fun q2 r7_ => cP .int r7_ fun q3 r8_ => cP .int r8_ fun q4 r9_ => dNil r9_ <| bC true m4_ fun c11_ m10_ => cI .i64 c11_ fun q5 r12_ => cP .int r12_ fun q6 r13_ => cI .i64 r13_ fun q7 r14_ => dNil r14_ <| dEnd m10_ <| K (q0, q1, q2, q3, q4, q5, q6, q7)
  law := by
    intro vs tm K
    refine cQ_in ?_; rintro r1_ rfl
    refine cQ_in ?_; rintro r2_ rfl
    refine cI_in ?_; rintro q0 r3_ rfl
    refine dN_in ?_; rintro rfl
    refine bC_in ?_; rintro c5_ m4_ rfl
    refine cP_in ?_; rintro q1 r6_ rfl
    refine cP_in ?_; rintro q2 r7_ rfl
    refine cP_in ?_; rintro q3 r8_ rfl
    refine cP_in ?_; rintro q4 r9_ rfl
    refine dN_in ?_; rintro rfl
    refine bC_in ?_; rintro c11_ m10_ rfl
    refine cI_in ?_; rintro q5 r12_ rfl
    refine cP_in ?_; rintro q6 r13_ rfl
    refine cI_in ?_; rintro q7 r14_ rfl
    refine dN_in ?_; rintro rfl
    refine dE_in ?_; rintro rfl
    exact fun h => ⟨(q0, q1, q2, q3, q4, q5, q6, q7), rfl, h⟩
def H199 : List (Nat × LH) := [(0, H199_0)]
def W199 : List (Nat × List (Nat × List Nat)) := []
def Γ199 : List (Nat × Con) := []
theorem e199 (p1 : List Int) (p2 : List Int) (p3 : List Int) (p4 : List Int) (p5 : Int) (p6 : List Int) (p7 : Int) (K : TV → TMem → Prop) : TW PP 32 Γ199 H199 W199 (List.length ([] : TMem)) (bodyOf Tryz.f199) (endT PP 32 [.tmp 4] [.x] [] (List.length ([] : TMem)) K) (argsF [.agg [.pl .int p1, .pl .int p2, .pl .int p3, .pl .int p4], .agg [.int .i64 p5, .pl .int p6, .int .i64 p7]]) [] =
    Ms_l6Root p1 p2 p3 p4 p5 p6 p7 (fun r1 => K (.int .i64 r1) []) := by kernel_rfl
theorem s199 : CSound PP 199 G199 := by
  intro args K c h fl A aargs hA hN R hl
  unfold G199 at h
  generalize ht : c.tm = tm at h
  revert h
  refine cA_in ?_; rintro l2_ r1_ rfl
  refine cP_in ?_; rintro p1 r3_ rfl
  refine cP_in ?_; rintro p2 r4_ rfl
  refine cP_in ?_; rintro p3 r5_ rfl
  refine cP_in ?_; rintro p4 r6_ rfl
  refine dN_in ?_; rintro rfl
  refine cA_in ?_; rintro l8_ r7_ rfl
  refine cI_in ?_; rintro p5 r9_ rfl
  refine cP_in ?_; rintro p6 r10_ rfl
  refine cI_in ?_; rintro p7 r11_ rfl
  refine dN_in ?_; rintro rfl
  refine dN_in ?_; rintro rfl
  refine dE_in ?_; rintro rfl
  intro h
  refine fun_ok (nt := 32) (x := bodyOf Tryz.f199) (Γ := Γ199) (H := H199) (WW := W199) (rs := [.tmp 4]) (shs := [.x]) (cons := []) mixed Tryz.func199 (by decide) (by kernel_rfl) Tryz.ntmps199 Tryz.results199 (GSound.nil) ?_ hA hN R hl
  rw [ht, e199 p1 p2 p3 p4 p5 p6 p7 K]
  exact h
/-! spec.l6Mark -/
def G171 : Con := fun args tm K => cA args fun l2_ r1_ => cP .int l2_ fun p1 r3_ => cP .int r3_ fun p2 r4_ => cP .int r4_ fun p3 r5_ => cP .int r5_ fun p4 r6_ => dNil r6_ <| cA r1_ fun l8_ r7_ => cI .i64 l8_ fun p5 r9_ => cL 0 r9_ fun r10_ => cI .i64 r10_ fun p6 r11_ => dNil r11_ <| dNil r7_ <| bL true .int tm fun p7 m12_ => dEnd m12_ <| Ms_l6Mark p1 p2 p3 p4 p5 p6 p7 (fun r1 r2 => K (.agg [.int .i64 r1, .sl 0, .int .i64 p6]) [⟨true, .list .int r2⟩])
def H171 : List (Nat × LH) := []
def W171 : List (Nat × List (Nat × List Nat)) := []
def Γ171 : List (Nat × Con) := [(197, useC [.ag [.pure .int, .pure .int, .pure .int, .pure .int], .x] G197), (198, useC [.ag [.pure .int, .pure .int, .pure .int, .own .int], .x] G198), (199, useC [.ag [.pure .int, .pure .int, .pure .int, .pure .int], .ag [.x, .pure .int, .x]] G199), (167, useC [.own .int, .x] G167)]
theorem e171 (p1 : List Int) (p2 : List Int) (p3 : List Int) (p4 : List Int) (p5 : Int) (p6 : Int) (p7 : List Int) (K : TV → TMem → Prop) : TW PP 41 Γ171 H171 W171 (List.length ([⟨true, .list .int p7⟩] : TMem)) (bodyOf Tryz.f171) (endT PP 41 [.cell 4 29] [.ag [.x, .own .int, .x]] [] (List.length ([⟨true, .list .int p7⟩] : TMem)) K) (argsF [.agg [.pl .int p1, .pl .int p2, .pl .int p3, .pl .int p4], .agg [.int .i64 p5, .sl 0, .int .i64 p6]]) [⟨true, .list .int p7⟩] =
    Ms_l6Mark p1 p2 p3 p4 p5 p6 p7 (fun r1 r2 => K (.agg [.int .i64 r1, .sl 0, .int .i64 p6]) [⟨true, .list .int r2⟩]) := by kernel_rfl
theorem s171 : CSound PP 171 G171 := by
  intro args K c h fl A aargs hA hN R hl
  unfold G171 at h
  generalize ht : c.tm = tm at h
  revert h
  refine cA_in ?_; rintro l2_ r1_ rfl
  refine cP_in ?_; rintro p1 r3_ rfl
  refine cP_in ?_; rintro p2 r4_ rfl
  refine cP_in ?_; rintro p3 r5_ rfl
  refine cP_in ?_; rintro p4 r6_ rfl
  refine dN_in ?_; rintro rfl
  refine cA_in ?_; rintro l8_ r7_ rfl
  refine cI_in ?_; rintro p5 r9_ rfl
  refine cL_in ?_; rintro r10_ rfl
  refine cI_in ?_; rintro p6 r11_ rfl
  refine dN_in ?_; rintro rfl
  refine dN_in ?_; rintro rfl
  refine bL_in ?_; rintro p7 m12_ rfl
  refine dE_in ?_; rintro rfl
  intro h
  refine fun_ok (nt := 41) (x := bodyOf Tryz.f171) (Γ := Γ171) (H := H171) (WW := W171) (rs := [.cell 4 29]) (shs := [.ag [.x, .own .int, .x]]) (cons := []) mixed Tryz.func171 (by decide) (by kernel_rfl) Tryz.ntmps171 Tryz.results171 (.cons (useC_ok s197) (.cons (useC_ok s198) (.cons (useC_ok s199) (.cons (useC_ok s167) (GSound.nil))))) ?_ hA hN R hl
  rw [ht, e171 p1 p2 p3 p4 p5 p6 p7 K]
  exact h
/-! spec.l4Clear -/
def G172 : Con := fun args tm K => cA args fun l2_ r1_ => cP .int l2_ fun p1 r3_ => cP .int r3_ fun p2 r4_ => cP .int r4_ fun p3 r5_ => cP .int r5_ fun p4 r6_ => dNil r6_ <| cP .int r1_ fun p5 r7_ => dNil r7_ <| dEnd tm <| Ms_l4Clear p1 p2 p3 p4 p5 (fun r1 r2 r3 r4 => K (.agg [.sl 0, .sl 1, .sl 2, .sl 3]) [⟨true, .list .int r1⟩, ⟨true, .list .int r2⟩, ⟨true, .list .int r3⟩, ⟨true, .list .int r4⟩])
def H172_0 : LH where
  keep := [(1, .pure .int), (4, .pc [.own .int, .own .int, .own .int, .own .int]), (5, .pc [.own .int, .own .int, .own .int, .own .int]), (6, .x)]
  S := List Int × Int × List Int × List Int × List Int × List Int × List Int × List Int × List Int × List Int
  enc := fun s => ([.pl .int s.1, .ptr 0 0, .ptr 1 0, .int .i64 s.2.1], [⟨true, .cells [.sl 2, .sl 3, .sl 4, .sl 5]⟩, ⟨true, .cells [.sl 6, .sl 7, .sl 8, .sl 9]⟩, ⟨true, .list .int s.2.2.1⟩, ⟨true, .list .int s.2.2.2.1⟩, ⟨true, .list .int s.2.2.2.2.1⟩, ⟨true, .list .int s.2.2.2.2.2.1⟩, ⟨true, .list .int s.2.2.2.2.2.2.1⟩, ⟨true, .list .int s.2.2.2.2.2.2.2.1⟩, ⟨true, .list .int s.2.2.2.2.2.2.2.2.1⟩, ⟨true, .list .int s.2.2.2.2.2.2.2.2.2⟩])
  dec := fun vs tm K => cP .int vs fun q0 r1_ => cQ 0 r1_ fun r2_ => cQ 1 r2_ fun r3_ => cI .i64 r3_ fun q1 r4_ => dNil r4_ <| bC true tm fun c6_ m5_ => cL 2 c6_ fun r7_ => cL 3 r7_ fun r8_ => cL 4 r8_ fun r9_ => cL 5 r9_ fun r10_ => dNil r10_ <| bC true m5_ fun c12_ m11_ => cL 6 c12_ fun r13_ => cL 7 r13_ fun r14_ => cL 8 r14_ fun r15_ => cL 9 r15_ fun r16_ => dNil r16_ <| bL true .int m11_ fun q2 m17_ => bL true .int m17_ fun q3 m18_ => bL true .int m18_ fun q4 m19_ => bL true .int m19_ fun q5 m20_ => bL true .int m20_ fun q6 m21_ => bL true .int m21_ fun q7 m22_ => bL true .int m22_ fun q8 m23_ => bL true .int m23_ fun q9 m24_ => dEnd m24_ <| K (q0, q1, q2, q3, q4, q5, q6, q7, q8, q9)
  law := by
    intro vs tm K
    refine cP_in ?_; rintro q0 r1_ rfl
    refine cQ_in ?_; rintro r2_ rfl
    refine cQ_in ?_; rintro r3_ rfl
    refine cI_in ?_; rintro q1 r4_ rfl
    refine dN_in ?_; rintro rfl
    refine bC_in ?_; rintro c6_ m5_ rfl
    refine cL_in ?_; rintro r7_ rfl
    refine cL_in ?_; rintro r8_ rfl
    refine cL_in ?_; rintro r9_ rfl
    refine cL_in ?_; rintro r10_ rfl
    refine dN_in ?_; rintro rfl
    refine bC_in ?_; rintro c12_ m11_ rfl
    refine cL_in ?_; rintro r13_ rfl
    refine cL_in ?_; rintro r14_ rfl
    refine cL_in ?_; rintro r15_ rfl
    refine cL_in ?_; rintro r16_ rfl
    refine dN_in ?_; rintro rfl
    refine bL_in ?_; rintro q2 m17_ rfl
    refine bL_in ?_; rintro q3 m18_ rfl
    refine bL_in ?_; rintro q4 m19_ rfl
    refine bL_in ?_; rintro q5 m20_ rfl
    refine bL_in ?_; rintro q6 m21_ rfl
    refine bL_in ?_; rintro q7 m22_ rfl
    refine bL_in ?_; rintro q8 m23_ rfl
    refine bL_in ?_; rintro q9 m24_ rfl
    refine dE_in ?_; rintro rfl
    exact fun h => ⟨(q0, q1, q2, q3, q4, q5, q6, q7, q8, q9), rfl, h⟩
def H172 : List (Nat × LH) := [(0, H172_0)]
def W172 : List (Nat × List (Nat × List Nat)) := []
def Γ172 : List (Nat × Con) := [(99, useC [.ag [.pure .int, .pure .int, .pure .int, .pure .int]] G99), (169, useC [.pure .int, .x] G169)]
theorem e172 (p1 : List Int) (p2 : List Int) (p3 : List Int) (p4 : List Int) (p5 : List Int) (K : TV → TMem → Prop) : TW PP 63 Γ172 H172 W172 (List.length ([] : TMem)) (bodyOf Tryz.f172) (endT PP 63 [.cell 4 27] [.ag [.own .int, .own .int, .own .int, .own .int]] [] (List.length ([] : TMem)) K) (argsF [.agg [.pl .int p1, .pl .int p2, .pl .int p3, .pl .int p4], .pl .int p5]) [] =
    Ms_l4Clear p1 p2 p3 p4 p5 (fun r1 r2 r3 r4 => K (.agg [.sl 0, .sl 1, .sl 2, .sl 3]) [⟨true, .list .int r1⟩, ⟨true, .list .int r2⟩, ⟨true, .list .int r3⟩, ⟨true, .list .int r4⟩]) := by kernel_rfl
theorem s172 : CSound PP 172 G172 := by
  intro args K c h fl A aargs hA hN R hl
  unfold G172 at h
  generalize ht : c.tm = tm at h
  revert h
  refine cA_in ?_; rintro l2_ r1_ rfl
  refine cP_in ?_; rintro p1 r3_ rfl
  refine cP_in ?_; rintro p2 r4_ rfl
  refine cP_in ?_; rintro p3 r5_ rfl
  refine cP_in ?_; rintro p4 r6_ rfl
  refine dN_in ?_; rintro rfl
  refine cP_in ?_; rintro p5 r7_ rfl
  refine dN_in ?_; rintro rfl
  refine dE_in ?_; rintro rfl
  intro h
  refine fun_ok (nt := 63) (x := bodyOf Tryz.f172) (Γ := Γ172) (H := H172) (WW := W172) (rs := [.cell 4 27]) (shs := [.ag [.own .int, .own .int, .own .int, .own .int]]) (cons := []) mixed Tryz.func172 (by decide) (by kernel_rfl) Tryz.ntmps172 Tryz.results172 (.cons (useC_ok s99) (.cons (useC_ok s169) (GSound.nil))) ?_ hA hN R hl
  rw [ht, e172 p1 p2 p3 p4 p5 K]
  exact h
/-! spec.l6Step -/
def G107 : Con := fun args tm K => cA args fun l2_ r1_ => cP .int l2_ fun p1 r3_ => cP .int r3_ fun p2 r4_ => cP .int r4_ fun p3 r5_ => cP .int r5_ fun p4 r6_ => dNil r6_ <| cA r1_ fun l8_ r7_ => cI .i64 l8_ fun p5 r9_ => cP .int r9_ fun p6 r10_ => cI .i64 r10_ fun p7 r11_ => dNil r11_ <| dNil r7_ <| dEnd tm <| Ms_l6Step p1 p2 p3 p4 p5 p6 p7 (fun r1 r2 r3 r4 r5 r6 r7 => K (.tup [.agg [.sl 0, .sl 1, .sl 2, .sl 3], .agg [.int .i64 r1, .sl 4, .int .i64 r2]]) [⟨true, .list .int r3⟩, ⟨true, .list .int r4⟩, ⟨true, .list .int r5⟩, ⟨true, .list .int r6⟩, ⟨true, .list .int r7⟩])
def H107 : List (Nat × LH) := []
def W107 : List (Nat × List (Nat × List Nat)) := [(4, [(2, [7])])]
def Γ107 : List (Nat × Con) := [(100, useC [.ag [.x, .pure .int, .x]] G100), (99, useC [.ag [.pure .int, .pure .int, .pure .int, .pure .int]] G99), (167, useC [.own .int, .x] G167), (170, useC [.ag [.x, .own .int, .x], .x, .x] (onlyC [] G170)), (171, useC [.ag [.pure .int, .pure .int, .pure .int, .pure .int], .ag [.x, .own .int, .x]] G171), (106, useC [.ag [.pure .int, .pure .int, .pure .int, .pure .int], .ag [.x, .pure .int, .x]] G106), (172, useC [.ag [.pure .int, .pure .int, .pure .int, .pure .int], .pure .int] G172)]
theorem e107 (p1 : List Int) (p2 : List Int) (p3 : List Int) (p4 : List Int) (p5 : Int) (p6 : List Int) (p7 : Int) (K : TV → TMem → Prop) : TW PP 72 Γ107 H107 W107 (List.length ([] : TMem)) (bodyOf Tryz.f107) (endT PP 72 [.cell 4 27, .cell 5 29] [.ag [.own .int, .own .int, .own .int, .own .int], .ag [.x, .own .int, .x]] [] (List.length ([] : TMem)) K) (argsF [.agg [.pl .int p1, .pl .int p2, .pl .int p3, .pl .int p4], .agg [.int .i64 p5, .pl .int p6, .int .i64 p7]]) [] =
    Ms_l6Step p1 p2 p3 p4 p5 p6 p7 (fun r1 r2 r3 r4 r5 r6 r7 => K (.tup [.agg [.sl 0, .sl 1, .sl 2, .sl 3], .agg [.int .i64 r1, .sl 4, .int .i64 r2]]) [⟨true, .list .int r3⟩, ⟨true, .list .int r4⟩, ⟨true, .list .int r5⟩, ⟨true, .list .int r6⟩, ⟨true, .list .int r7⟩]) := by kernel_rfl
theorem s107 : CSound PP 107 G107 := by
  intro args K c h fl A aargs hA hN R hl
  unfold G107 at h
  generalize ht : c.tm = tm at h
  revert h
  refine cA_in ?_; rintro l2_ r1_ rfl
  refine cP_in ?_; rintro p1 r3_ rfl
  refine cP_in ?_; rintro p2 r4_ rfl
  refine cP_in ?_; rintro p3 r5_ rfl
  refine cP_in ?_; rintro p4 r6_ rfl
  refine dN_in ?_; rintro rfl
  refine cA_in ?_; rintro l8_ r7_ rfl
  refine cI_in ?_; rintro p5 r9_ rfl
  refine cP_in ?_; rintro p6 r10_ rfl
  refine cI_in ?_; rintro p7 r11_ rfl
  refine dN_in ?_; rintro rfl
  refine dN_in ?_; rintro rfl
  refine dE_in ?_; rintro rfl
  intro h
  refine fun_ok (nt := 72) (x := bodyOf Tryz.f107) (Γ := Γ107) (H := H107) (WW := W107) (rs := [.cell 4 27, .cell 5 29]) (shs := [.ag [.own .int, .own .int, .own .int, .own .int], .ag [.x, .own .int, .x]]) (cons := []) mixed Tryz.func107 (by decide) (by kernel_rfl) Tryz.ntmps107 Tryz.results107 (.cons (useC_ok s100) (.cons (useC_ok s99) (.cons (useC_ok s167) (.cons (useC_ok (onlyC_ok s170)) (.cons (useC_ok s171) (.cons (useC_ok s106) (.cons (useC_ok s172) (GSound.nil)))))))) ?_ hA hN R hl
  rw [ht, e107 p1 p2 p3 p4 p5 p6 p7 K]
  exact h
/-! spec.l7Gc -/
def G41 : Con := fun args tm K => cA args fun l2_ r1_ => cP .int l2_ fun p1 r3_ => cP .int r3_ fun p2 r4_ => cP .int r4_ fun p3 r5_ => cP .int r5_ fun p4 r6_ => cI .i64 r6_ fun p5 r7_ => cP .int r7_ fun p6 r8_ => cI .i64 r8_ fun p7 r9_ => cP .op r9_ fun p8 r10_ => cI .i64 r10_ fun p9 r11_ => cB r11_ fun p10 r12_ => dNil r12_ <| dNil r1_ <| dEnd tm <| Ms_l7Gc p1 p2 p3 p4 p5 p6 p7 p8 p9 p10 (fun r1 r2 r3 r4 r5 r6 r7 r8 => K (.agg [.sl 0, .sl 1, .sl 2, .sl 3, .int .i64 r1, .sl 4, .int .i64 r2, .sl 5, .int .i64 p9, .bool r3]) [⟨true, .list .int r4⟩, ⟨true, .list .int r5⟩, ⟨true, .list .int r6⟩, ⟨true, .list .int r7⟩, ⟨true, .list .int r8⟩, ⟨true, .list .op p8⟩])
def H41 : List (Nat × LH) := []
def W41 : List (Nat × List (Nat × List Nat)) := []
def Γ41 : List (Nat × Con) := [(39, useC [.ag [.pure .int, .pure .int, .pure .int, .pure .int, .x, .pure .int, .x, .pure .op, .x, .bl]] G39), (106, useC [.ag [.pure .int, .pure .int, .pure .int, .pure .int], .ag [.x, .pure .int, .x]] G106), (105, useC [.ag [.pure .int, .pure .int, .pure .int, .pure .int], .x] G105), (107, useC [.ag [.pure .int, .pure .int, .pure .int, .pure .int], .ag [.x, .pure .int, .x]] G107)]
theorem e41 (p1 : List Int) (p2 : List Int) (p3 : List Int) (p4 : List Int) (p5 : Int) (p6 : List Int) (p7 : Int) (p8 : List OpV) (p9 : Int) (p10 : Bool) (K : TV → TMem → Prop) : TW PP 31 Γ41 H41 W41 (List.length ([] : TMem)) (bodyOf Tryz.f41) (endT PP 31 [.cell 2 32] [.ag [.own .int, .own .int, .own .int, .own .int, .x, .own .int, .x, .own .op, .x, .bl]] [] (List.length ([] : TMem)) K) (argsF [.agg [.pl .int p1, .pl .int p2, .pl .int p3, .pl .int p4, .int .i64 p5, .pl .int p6, .int .i64 p7, .pl .op p8, .int .i64 p9, .bool p10]]) [] =
    Ms_l7Gc p1 p2 p3 p4 p5 p6 p7 p8 p9 p10 (fun r1 r2 r3 r4 r5 r6 r7 r8 => K (.agg [.sl 0, .sl 1, .sl 2, .sl 3, .int .i64 r1, .sl 4, .int .i64 r2, .sl 5, .int .i64 p9, .bool r3]) [⟨true, .list .int r4⟩, ⟨true, .list .int r5⟩, ⟨true, .list .int r6⟩, ⟨true, .list .int r7⟩, ⟨true, .list .int r8⟩, ⟨true, .list .op p8⟩]) := by kernel_rfl
theorem s41 : CSound PP 41 G41 := by
  intro args K c h fl A aargs hA hN R hl
  unfold G41 at h
  generalize ht : c.tm = tm at h
  revert h
  refine cA_in ?_; rintro l2_ r1_ rfl
  refine cP_in ?_; rintro p1 r3_ rfl
  refine cP_in ?_; rintro p2 r4_ rfl
  refine cP_in ?_; rintro p3 r5_ rfl
  refine cP_in ?_; rintro p4 r6_ rfl
  refine cI_in ?_; rintro p5 r7_ rfl
  refine cP_in ?_; rintro p6 r8_ rfl
  refine cI_in ?_; rintro p7 r9_ rfl
  refine cP_in ?_; rintro p8 r10_ rfl
  refine cI_in ?_; rintro p9 r11_ rfl
  refine cB_in ?_; rintro p10 r12_ rfl
  refine dN_in ?_; rintro rfl
  refine dN_in ?_; rintro rfl
  refine dE_in ?_; rintro rfl
  intro h
  refine fun_ok (nt := 31) (x := bodyOf Tryz.f41) (Γ := Γ41) (H := H41) (WW := W41) (rs := [.cell 2 32]) (shs := [.ag [.own .int, .own .int, .own .int, .own .int, .x, .own .int, .x, .own .op, .x, .bl]]) (cons := []) mixed Tryz.func41 (by decide) (by kernel_rfl) Tryz.ntmps41 Tryz.results41 (.cons (useC_ok s39) (.cons (useC_ok s106) (.cons (useC_ok s105) (.cons (useC_ok s107) (GSound.nil))))) ?_ hA hN R hl
  rw [ht, e41 p1 p2 p3 p4 p5 p6 p7 p8 p9 p10 K]
  exact h
/-! spec.TargetOf -/
def G101 : Con := fun args tm K => cA args fun l2_ r1_ => cP .int l2_ fun p1 r3_ => cP .int r3_ fun p2 r4_ => cP .int r4_ fun p3 r5_ => cP .int r5_ fun p4 r6_ => dNil r6_ <| cA r1_ fun l8_ r7_ => cI .i64 l8_ fun p5 r9_ => cI .i64 r9_ fun p6 r10_ => cI .i64 r10_ fun p7 r11_ => dNil r11_ <| dNil r7_ <| dEnd tm <| Ms_TargetOf p1 p2 p3 p4 p5 p6 p7 (fun r1 => K (.int .i64 r1) [])
def H101 : List (Nat × LH) := []
def W101 : List (Nat × List (Nat × List Nat)) := []
def Γ101 : List (Nat × Con) := [(160, useC [.ag [.pure .int, .pure .int, .pure .int, .pure .int]] G160), (162, useC [.ag [.x, .x, .x], .x] G162)]
theorem e101 (p1 : List Int) (p2 : List Int) (p3 : List Int) (p4 : List Int) (p5 : Int) (p6 : Int) (p7 : Int) (K : TV → TMem → Prop) : TW PP 44 Γ101 H101 W101 (List.length ([] : TMem)) (bodyOf Tryz.f101) (endT PP 44 [.tmp 4] [.x] [] (List.length ([] : TMem)) K) (argsF [.agg [.pl .int p1, .pl .int p2, .pl .int p3, .pl .int p4], .agg [.int .i64 p5, .int .i64 p6, .int .i64 p7]]) [] =
    Ms_TargetOf p1 p2 p3 p4 p5 p6 p7 (fun r1 => K (.int .i64 r1) []) := by kernel_rfl
theorem s101 : CSound PP 101 G101 := by
  intro args K c h fl A aargs hA hN R hl
  unfold G101 at h
  generalize ht : c.tm = tm at h
  revert h
  refine cA_in ?_; rintro l2_ r1_ rfl
  refine cP_in ?_; rintro p1 r3_ rfl
  refine cP_in ?_; rintro p2 r4_ rfl
  refine cP_in ?_; rintro p3 r5_ rfl
  refine cP_in ?_; rintro p4 r6_ rfl
  refine dN_in ?_; rintro rfl
  refine cA_in ?_; rintro l8_ r7_ rfl
  refine cI_in ?_; rintro p5 r9_ rfl
  refine cI_in ?_; rintro p6 r10_ rfl
  refine cI_in ?_; rintro p7 r11_ rfl
  refine dN_in ?_; rintro rfl
  refine dN_in ?_; rintro rfl
  refine dE_in ?_; rintro rfl
  intro h
  refine fun_ok (nt := 44) (x := bodyOf Tryz.f101) (Γ := Γ101) (H := H101) (WW := W101) (rs := [.tmp 4]) (shs := [.x]) (cons := []) mixed Tryz.func101 (by decide) (by kernel_rfl) Tryz.ntmps101 Tryz.results101 (.cons (useC_ok s160) (.cons (useC_ok s162) (GSound.nil))) ?_ hA hN R hl
  rw [ht, e101 p1 p2 p3 p4 p5 p6 p7 K]
  exact h
/-! spec.l1Cell -/
def G166 : Con := fun args tm K => cA args fun l2_ r1_ => cP .int l2_ fun p1 r3_ => cP .int r3_ fun p2 r4_ => cP .int r4_ fun p3 r5_ => dNil r5_ <| cI .i64 r1_ fun p4 r6_ => dNil r6_ <| dEnd tm <| Ms_l1Cell p1 p2 p3 p4 (fun r1 => K (.bool r1) [])
def H166 : List (Nat × LH) := []
def W166 : List (Nat × List (Nat × List Nat)) := []
def Γ166 : List (Nat × Con) := [(78, useC [.ag [.pure .int, .pure .int, .pure .int]] G78)]
theorem e166 (p1 : List Int) (p2 : List Int) (p3 : List Int) (p4 : Int) (K : TV → TMem → Prop) : TW PP 18 Γ166 H166 W166 (List.length ([] : TMem)) (bodyOf Tryz.f166) (endT PP 18 [.tmp 4] [.bl] [] (List.length ([] : TMem)) K) (argsF [.agg [.pl .int p1, .pl .int p2, .pl .int p3], .int .i64 p4]) [] =
    Ms_l1Cell p1 p2 p3 p4 (fun r1 => K (.bool r1) []) := by kernel_rfl
theorem s166 : CSound PP 166 G166 := by
  intro args K c h fl A aargs hA hN R hl
  unfold G166 at h
  generalize ht : c.tm = tm at h
  revert h
  refine cA_in ?_; rintro l2_ r1_ rfl
  refine cP_in ?_; rintro p1 r3_ rfl
  refine cP_in ?_; rintro p2 r4_ rfl
  refine cP_in ?_; rintro p3 r5_ rfl
  refine dN_in ?_; rintro rfl
  refine cI_in ?_; rintro p4 r6_ rfl
  refine dN_in ?_; rintro rfl
  refine dE_in ?_; rintro rfl
  intro h
  refine fun_ok (nt := 18) (x := bodyOf Tryz.f166) (Γ := Γ166) (H := H166) (WW := W166) (rs := [.tmp 4]) (shs := [.bl]) (cons := []) mixed Tryz.func166 (by decide) (by kernel_rfl) Tryz.ntmps166 Tryz.results166 (.cons (useC_ok s78) (GSound.nil)) ?_ hA hN R hl
  rw [ht, e166 p1 p2 p3 p4 K]
  exact h
/-! spec.ColorNew -/
def G103 : Con := fun args tm K => cA args fun l2_ r1_ => cP .int l2_ fun p1 r3_ => cP .int r3_ fun p2 r4_ => cP .int r4_ fun p3 r5_ => cP .int r5_ fun p4 r6_ => dNil r6_ <| cA r1_ fun l8_ r7_ => cI .i64 l8_ fun p5 r9_ => cP .int r9_ fun p6 r10_ => cI .i64 r10_ fun p7 r11_ => dNil r11_ <| cI .i64 r7_ fun p8 r12_ => dNil r12_ <| dEnd tm <| Ms_ColorNew p1 p2 p3 p4 p5 p6 p7 p8 (fun r1 r2 r3 r4 => K (.tup [.agg [.int .i64 r1, .sl 0, .int .i64 r2], .bool r3]) [⟨true, .list .int r4⟩])
def H103 : List (Nat × LH) := []
def W103 : List (Nat × List (Nat × List Nat)) := []
def Γ103 : List (Nat × Con) := [(97, useC [.ag [.pure .int, .pure .int, .pure .int, .pure .int], .ag [.x, .pure .int, .x]] G97), (166, useC [.ag [.pure .int, .pure .int, .pure .int], .x] G166), (100, useC [.ag [.x, .pure .int, .x]] G100)]
theorem e103 (p1 : List Int) (p2 : List Int) (p3 : List Int) (p4 : List Int) (p5 : Int) (p6 : List Int) (p7 : Int) (p8 : Int) (K : TV → TMem → Prop) : TW PP 51 Γ103 H103 W103 (List.length ([] : TMem)) (bodyOf Tryz.f103) (endT PP 51 [.cell 6 29, .tmp 7] [.ag [.x, .own .int, .x], .bl] [] (List.length ([] : TMem)) K) (argsF [.agg [.pl .int p1, .pl .int p2, .pl .int p3, .pl .int p4], .agg [.int .i64 p5, .pl .int p6, .int .i64 p7], .int .i64 p8]) [] =
    Ms_ColorNew p1 p2 p3 p4 p5 p6 p7 p8 (fun r1 r2 r3 r4 => K (.tup [.agg [.int .i64 r1, .sl 0, .int .i64 r2], .bool r3]) [⟨true, .list .int r4⟩]) := by kernel_rfl
theorem s103 : CSound PP 103 G103 := by
  intro args K c h fl A aargs hA hN R hl
  unfold G103 at h
  generalize ht : c.tm = tm at h
  revert h
  refine cA_in ?_; rintro l2_ r1_ rfl
  refine cP_in ?_; rintro p1 r3_ rfl
  refine cP_in ?_; rintro p2 r4_ rfl
  refine cP_in ?_; rintro p3 r5_ rfl
  refine cP_in ?_; rintro p4 r6_ rfl
  refine dN_in ?_; rintro rfl
  refine cA_in ?_; rintro l8_ r7_ rfl
  refine cI_in ?_; rintro p5 r9_ rfl
  refine cP_in ?_; rintro p6 r10_ rfl
  refine cI_in ?_; rintro p7 r11_ rfl
  refine dN_in ?_; rintro rfl
  refine cI_in ?_; rintro p8 r12_ rfl
  refine dN_in ?_; rintro rfl
  refine dE_in ?_; rintro rfl
  intro h
  refine fun_ok (nt := 51) (x := bodyOf Tryz.f103) (Γ := Γ103) (H := H103) (WW := W103) (rs := [.cell 6 29, .tmp 7]) (shs := [.ag [.x, .own .int, .x], .bl]) (cons := []) mixed Tryz.func103 (by decide) (by kernel_rfl) Tryz.ntmps103 Tryz.results103 (.cons (useC_ok s97) (.cons (useC_ok s166) (.cons (useC_ok s100) (GSound.nil)))) ?_ hA hN R hl
  rw [ht, e103 p1 p2 p3 p4 p5 p6 p7 p8 K]
  exact h
/-! spec.ShadeGc -/
def G104 : Con := fun args tm K => cA args fun l2_ r1_ => cP .int l2_ fun p1 r3_ => cP .int r3_ fun p2 r4_ => cP .int r4_ fun p3 r5_ => cP .int r5_ fun p4 r6_ => dNil r6_ <| cA r1_ fun l8_ r7_ => cI .i64 l8_ fun p5 r9_ => cP .int r9_ fun p6 r10_ => cI .i64 r10_ fun p7 r11_ => dNil r11_ <| cI .i64 r7_ fun p8 r12_ => dNil r12_ <| dEnd tm <| Ms_ShadeGc p1 p2 p3 p4 p5 p6 p7 p8 (fun r1 r2 r3 r4 => K (.tup [.agg [.int .i64 r1, .sl 0, .int .i64 r2], .bool r3]) [⟨true, .list .int r4⟩])
def H104 : List (Nat × LH) := []
def W104 : List (Nat × List (Nat × List Nat)) := []
def Γ104 : List (Nat × Con) := [(97, useC [.ag [.pure .int, .pure .int, .pure .int, .pure .int], .ag [.x, .pure .int, .x]] G97), (166, useC [.ag [.pure .int, .pure .int, .pure .int], .x] G166), (100, useC [.ag [.x, .pure .int, .x]] G100), (167, useC [.own .int, .x] G167)]
theorem e104 (p1 : List Int) (p2 : List Int) (p3 : List Int) (p4 : List Int) (p5 : Int) (p6 : List Int) (p7 : Int) (p8 : Int) (K : TV → TMem → Prop) : TW PP 37 Γ104 H104 W104 (List.length ([] : TMem)) (bodyOf Tryz.f104) (endT PP 37 [.cell 6 29, .tmp 7] [.ag [.x, .own .int, .x], .bl] [] (List.length ([] : TMem)) K) (argsF [.agg [.pl .int p1, .pl .int p2, .pl .int p3, .pl .int p4], .agg [.int .i64 p5, .pl .int p6, .int .i64 p7], .int .i64 p8]) [] =
    Ms_ShadeGc p1 p2 p3 p4 p5 p6 p7 p8 (fun r1 r2 r3 r4 => K (.tup [.agg [.int .i64 r1, .sl 0, .int .i64 r2], .bool r3]) [⟨true, .list .int r4⟩]) := by kernel_rfl
theorem s104 : CSound PP 104 G104 := by
  intro args K c h fl A aargs hA hN R hl
  unfold G104 at h
  generalize ht : c.tm = tm at h
  revert h
  refine cA_in ?_; rintro l2_ r1_ rfl
  refine cP_in ?_; rintro p1 r3_ rfl
  refine cP_in ?_; rintro p2 r4_ rfl
  refine cP_in ?_; rintro p3 r5_ rfl
  refine cP_in ?_; rintro p4 r6_ rfl
  refine dN_in ?_; rintro rfl
  refine cA_in ?_; rintro l8_ r7_ rfl
  refine cI_in ?_; rintro p5 r9_ rfl
  refine cP_in ?_; rintro p6 r10_ rfl
  refine cI_in ?_; rintro p7 r11_ rfl
  refine dN_in ?_; rintro rfl
  refine cI_in ?_; rintro p8 r12_ rfl
  refine dN_in ?_; rintro rfl
  refine dE_in ?_; rintro rfl
  intro h
  refine fun_ok (nt := 37) (x := bodyOf Tryz.f104) (Γ := Γ104) (H := H104) (WW := W104) (rs := [.cell 6 29, .tmp 7]) (shs := [.ag [.x, .own .int, .x], .bl]) (cons := []) mixed Tryz.func104 (by decide) (by kernel_rfl) Tryz.ntmps104 Tryz.results104 (.cons (useC_ok s97) (.cons (useC_ok s166) (.cons (useC_ok s100) (.cons (useC_ok s167) (GSound.nil))))) ?_ hA hN R hl
  rw [ht, e104 p1 p2 p3 p4 p5 p6 p7 p8 K]
  exact h
/-! spec.l7Op -/
def G40 : Con := fun args tm K => cA args fun l2_ r1_ => cP .int l2_ fun p1 r3_ => cP .int r3_ fun p2 r4_ => cP .int r4_ fun p3 r5_ => cP .int r5_ fun p4 r6_ => cI .i64 r6_ fun p5 r7_ => cP .int r7_ fun p6 r8_ => cI .i64 r8_ fun p7 r9_ => cP .op r9_ fun p8 r10_ => cI .i64 r10_ fun p9 r11_ => cB r11_ fun p10 r12_ => dNil r12_ <| cB r1_ fun p11 r13_ => dNil r13_ <| dEnd tm <| Ms_l7Op p1 p2 p3 p4 p5 p6 p7 p8 p9 p10 p11 (fun r1 r2 r3 r4 r5 r6 r7 r8 => K (.agg [.sl 0, .sl 1, .sl 2, .sl 3, .int .i64 r1, .sl 4, .int .i64 r2, .sl 5, .int .i64 r3, .bool p10]) [⟨true, .list .int r4⟩, ⟨true, .list .int r5⟩, ⟨true, .list .int r6⟩, ⟨true, .list .int r7⟩, ⟨true, .list .int r8⟩, ⟨true, .list .op p8⟩])
def H40 : List (Nat × LH) := []
def W40 : List (Nat × List (Nat × List Nat)) := []
def Γ40 : List (Nat × Con) := [(39, useC [.ag [.pure .int, .pure .int, .pure .int, .pure .int, .x, .pure .int, .x, .pure .op, .x, .bl]] G39), (101, useC [.ag [.pure .int, .pure .int, .pure .int, .pure .int], .ag [.x, .x, .x]] G101), (102, useC [.ag [.pure .int, .pure .int, .pure .int, .pure .int], .ag [.x, .x, .x]] G102), (103, useC [.ag [.pure .int, .pure .int, .pure .int, .pure .int], .ag [.x, .pure .int, .x], .x] G103), (104, useC [.ag [.pure .int, .pure .int, .pure .int, .pure .int], .ag [.x, .pure .int, .x], .x] G104)]
theorem e40 (p1 : List Int) (p2 : List Int) (p3 : List Int) (p4 : List Int) (p5 : Int) (p6 : List Int) (p7 : Int) (p8 : List OpV) (p9 : Int) (p10 : Bool) (p11 : Bool) (K : TV → TMem → Prop) : TW PP 79 Γ40 H40 W40 (List.length ([] : TMem)) (bodyOf Tryz.f40) (endT PP 79 [.cell 4 32] [.ag [.own .int, .own .int, .own .int, .own .int, .x, .own .int, .x, .own .op, .x, .bl]] [] (List.length ([] : TMem)) K) (argsF [.agg [.pl .int p1, .pl .int p2, .pl .int p3, .pl .int p4, .int .i64 p5, .pl .int p6, .int .i64 p7, .pl .op p8, .int .i64 p9, .bool p10], .bool p11]) [] =
    Ms_l7Op p1 p2 p3 p4 p5 p6 p7 p8 p9 p10 p11 (fun r1 r2 r3 r4 r5 r6 r7 r8 => K (.agg [.sl 0, .sl 1, .sl 2, .sl 3, .int .i64 r1, .sl 4, .int .i64 r2, .sl 5, .int .i64 r3, .bool p10]) [⟨true, .list .int r4⟩, ⟨true, .list .int r5⟩, ⟨true, .list .int r6⟩, ⟨true, .list .int r7⟩, ⟨true, .list .int r8⟩, ⟨true, .list .op p8⟩]) := by kernel_rfl
theorem s40 : CSound PP 40 G40 := by
  intro args K c h fl A aargs hA hN R hl
  unfold G40 at h
  generalize ht : c.tm = tm at h
  revert h
  refine cA_in ?_; rintro l2_ r1_ rfl
  refine cP_in ?_; rintro p1 r3_ rfl
  refine cP_in ?_; rintro p2 r4_ rfl
  refine cP_in ?_; rintro p3 r5_ rfl
  refine cP_in ?_; rintro p4 r6_ rfl
  refine cI_in ?_; rintro p5 r7_ rfl
  refine cP_in ?_; rintro p6 r8_ rfl
  refine cI_in ?_; rintro p7 r9_ rfl
  refine cP_in ?_; rintro p8 r10_ rfl
  refine cI_in ?_; rintro p9 r11_ rfl
  refine cB_in ?_; rintro p10 r12_ rfl
  refine dN_in ?_; rintro rfl
  refine cB_in ?_; rintro p11 r13_ rfl
  refine dN_in ?_; rintro rfl
  refine dE_in ?_; rintro rfl
  intro h
  refine fun_ok (nt := 79) (x := bodyOf Tryz.f40) (Γ := Γ40) (H := H40) (WW := W40) (rs := [.cell 4 32]) (shs := [.ag [.own .int, .own .int, .own .int, .own .int, .x, .own .int, .x, .own .op, .x, .bl]]) (cons := []) mixed Tryz.func40 (by decide) (by kernel_rfl) Tryz.ntmps40 Tryz.results40 (.cons (useC_ok s39) (.cons (useC_ok s101) (.cons (useC_ok s102) (.cons (useC_ok s103) (.cons (useC_ok s104) (GSound.nil)))))) ?_ hA hN R hl
  rw [ht, e40 p1 p2 p3 p4 p5 p6 p7 p8 p9 p10 p11 K]
  exact h
/-! spec.RunBoth -/
def G14 : Con := fun args tm K => cA args fun l2_ r1_ => cP .int l2_ fun p1 r3_ => cP .int r3_ fun p2 r4_ => cP .int r4_ fun p3 r5_ => cP .int r5_ fun p4 r6_ => cI .i64 r6_ fun p5 r7_ => cP .int r7_ fun p6 r8_ => cI .i64 r8_ fun p7 r9_ => cP .op r9_ fun p8 r10_ => cI .i64 r10_ fun p9 r11_ => cB r11_ fun p10 r12_ => dNil r12_ <| cS r1_ fun p11 r13_ => cB r13_ fun p12 r14_ => dNil r14_ <| dEnd tm <| Ms_RunBoth p1 p2 p3 p4 p5 p6 p7 p8 p9 p10 p11 p12 (fun r1 r2 r3 r4 r5 r6 r7 r8 r9 r10 r11 => K (.tup [.agg [.sl 0, .sl 1, .sl 2, .sl 3, .int .i64 r1, .sl 4, .int .i64 r2, .sl 5, .int .i64 r3, .bool r4], .bool r5]) [⟨true, .list .int r6⟩, ⟨true, .list .int r7⟩, ⟨true, .list .int r8⟩, ⟨true, .list .int r9⟩, ⟨true, .list .int r10⟩, ⟨true, .list .op r11⟩])
def H14_0 : LH where
  keep := [(1, .x), (2, .bl), (6, .pc [.own .int, .own .int, .own .int, .own .int, .x, .own .int, .x, .own .op, .x, .bl]), (8, .pc [.own .int, .own .int, .own .int, .own .int, .x, .own .int, .x, .own .op, .x, .bl]), (9, .x)]
  S := List UInt8 × Bool × Int × Int × Int × Int × Bool × Int × Int × Int × Bool × List Int × List Int × List Int × List Int × List Int × List OpV × List Int × List Int × List Int × List Int × List Int × List OpV
  enc := fun s => ([.str s.1, .bool s.2.1, .ptr 0 0, .ptr 1 0, .int .i64 s.2.2.1], [⟨true, .cells [.sl 2, .sl 3, .sl 4, .sl 5, .int .i64 s.2.2.2.1, .sl 6, .int .i64 s.2.2.2.2.1, .sl 7, .int .i64 s.2.2.2.2.2.1, .bool s.2.2.2.2.2.2.1]⟩, ⟨true, .cells [.sl 8, .sl 9, .sl 10, .sl 11, .int .i64 s.2.2.2.2.2.2.2.1, .sl 12, .int .i64 s.2.2.2.2.2.2.2.2.1, .sl 13, .int .i64 s.2.2.2.2.2.2.2.2.2.1, .bool s.2.2.2.2.2.2.2.2.2.2.1]⟩, ⟨true, .list .int s.2.2.2.2.2.2.2.2.2.2.2.1⟩, ⟨true, .list .int s.2.2.2.2.2.2.2.2.2.2.2.2.1⟩, ⟨true, .list .int s.2.2.2.2.2.2.2.2.2.2.2.2.2.1⟩, ⟨true, .list .int s.2.2.2.2.2.2.2.2.2.2.2.2.2.2.1⟩, ⟨true, .list .int s.2.2.2.2.2.2.2.2.2.2.2.2.2.2.2.1⟩, ⟨true, .list .op s.2.2.2.2.2.2.2.2.2.2.2.2.2.2.2.2.1⟩, ⟨true, .list .int s.2.2.2.2.2.2.2.2.2.2.2.2.2.2.2.2.2.1⟩, ⟨true, .list .int s.2.2.2.2.2.2.2.2.2.2.2.2.2.2.2.2.2.2.1⟩, ⟨true, .list .int s.2.2.2.2.2.2.2.2.2.2.2.2.2.2.2.2.2.2.2.1⟩, ⟨true, .list .int s.2.2.2.2.2.2.2.2.2.2.2.2.2.2.2.2.2.2.2.2.1⟩, ⟨true, .list .int s.2.2.2.2.2.2.2.2.2.2.2.2.2.2.2.2.2.2.2.2.2.1⟩, ⟨true, .list .op s.2.2.2.2.2.2.2.2.2.2.2.2.2.2.2.2.2.2.2.2.2.2⟩])
  dec := fun vs tm K => cS vs fun q0 r1_ => cB r1_ fun q1 r2_ => cQ 0 r2_ fun r3_ => cQ 1 r3_ fun r4_ => cI .i64 r4_ fun q2 r5_ => dNil r5_ <| bC true tm fun c7_ m6_ => cL 2 c7_ fun r8_ => cL 3 r8_ fun r9_ => cL 4 r9_ fun r10_ => cL 5 r10_ fun r11_ => cI .i64 r11_ fun q3 r12_ => cL 6 r12_ fun r13_ => cI .i64 r13_ fun q4 r14_ => cL 7 r14_ fun r15_ => cI .i64 r15_ fun q5 r16_ => cB r16_ fun q6 r17_ => dNil r17_ <| bC true m6_ fun c19_ m18_ => cL 8 c19_ fun r20_ => cL 9 r20_ fun r21_ => cL 10 r21_ fun r22_ => cL 11 r22_ fun r23_ => cI .i64 r23_ fun q7 r24_ => cL 12 r24_ fun r25_ => cI .i64 r25_ fun q8 r26_ => cL 13 r26_ fun r27_ => cI .i64 r27_ fun q9 r28_ => cB r28_ fun q10 r29_ => dNil r29_ <| bL true .int m18_ fun q11 m30_ => bL true .int m30_ fun q12 m31_ => bL true .int m31_ fun q13 m32_ => bL true .int m32_ fun q14 m33_ => bL true .int m33_ fun q15 m34_ => bL true .op m34_ fun q16 m35_ => bL true .int m35_ fun q17 m36_ => bL true .int m36_ fun q18 m37_ => bL true .int m37_ fun q19 m38_ => bL true .int m38_ fun q20 m39_ => bL true .int m39_ fun q21 m40_ => bL true .op m40_ fun q22 m41_ => dEnd m41_ <| K (q0, q1, q2, q3, q4, q5, q6, q7, q8, q9, q10, q11, q12, q13, q14, q15, q16, q17, q18, q19, q20, q21, q22)
  law := by
    intro vs tm K
    refine cS_in ?_; rintro q0 r1_ rfl
    refine cB_in ?_; rintro q1 r2_ rfl
    refine cQ_in ?_; rintro r3_ rfl
    refine cQ_in ?_; rintro r4_ rfl
    refine cI_in ?_; rintro q2 r5_ rfl
    refine dN_in ?_; rintro rfl
    refine bC_in ?_; rintro c7_ m6_ rfl
    refine cL_in ?_; rintro r8_ rfl
    refine cL_in ?_; rintro r9_ rfl
    refine cL_in ?_; rintro r10_ rfl
    refine cL_in ?_; rintro r11_ rfl
    refine cI_in ?_; rintro q3 r12_ rfl
    refine cL_in ?_; rintro r13_ rfl
    refine cI_in ?_; rintro q4 r14_ rfl
    refine cL_in ?_; rintro r15_ rfl
    refine cI_in ?_; rintro q5 r16_ rfl
    refine cB_in ?_; rintro q6 r17_ rfl
    refine dN_in ?_; rintro rfl
    refine bC_in ?_; rintro c19_ m18_ rfl
    refine cL_in ?_; rintro r20_ rfl
    refine cL_in ?_; rintro r21_ rfl
    refine cL_in ?_; rintro r22_ rfl
    refine cL_in ?_; rintro r23_ rfl
    refine cI_in ?_; rintro q7 r24_ rfl
    refine cL_in ?_; rintro r25_ rfl
    refine cI_in ?_; rintro q8 r26_ rfl
    refine cL_in ?_; rintro r27_ rfl
    refine cI_in ?_; rintro q9 r28_ rfl
    refine cB_in ?_; rintro q10 r29_ rfl
    refine dN_in ?_; rintro rfl
    refine bL_in ?_; rintro q11 m30_ rfl
    refine bL_in ?_; rintro q12 m31_ rfl
    refine bL_in ?_; rintro q13 m32_ rfl
    refine bL_in ?_; rintro q14 m33_ rfl
    refine bL_in ?_; rintro q15 m34_ rfl
    refine bL_in ?_; rintro q16 m35_ rfl
    refine bL_in ?_; rintro q17 m36_ rfl
    refine bL_in ?_; rintro q18 m37_ rfl
    refine bL_in ?_; rintro q19 m38_ rfl
    refine bL_in ?_; rintro q20 m39_ rfl
    refine bL_in ?_; rintro q21 m40_ rfl
    refine bL_in ?_; rintro q22 m41_ rfl
    refine dE_in ?_; rintro rfl
    exact fun h => ⟨(q0, q1, q2, q3, q4, q5, q6, q7, q8, q9, q10, q11, q12, q13, q14, q15, q16, q17, q18, q19, q20, q21, q22), rfl, h⟩
def H14 : List (Nat × LH) := [(0, H14_0)]
def W14 : List (Nat × List (Nat × List Nat)) := []
def Γ14 : List (Nat × Con) := [(38, useC [.ag [.pure .int, .pure .int, .pure .int, .pure .int, .x, .pure .int, .x, .pure .op, .x, .bl]] G38), (39, useC [.ag [.pure .int, .pure .int, .pure .int, .pure .int, .x, .pure .int, .x, .pure .op, .x, .bl]] G39), (41, useC [.ag [.pure .int, .pure .int, .pure .int, .pure .int, .x, .pure .int, .x, .pure .op, .x, .bl]] G41), (40, useC [.ag [.pure .int, .pure .int, .pure .int, .pure .int, .x, .pure .int, .x, .pure .op, .x, .bl], .bl] G40)]
theorem e14 (p1 : List Int) (p2 : List Int) (p3 : List Int) (p4 : List Int) (p5 : Int) (p6 : List Int) (p7 : Int) (p8 : List OpV) (p9 : Int) (p10 : Bool) (p11 : List UInt8) (p12 : Bool) (K : TV → TMem → Prop) : TW PP 56 Γ14 H14 W14 (List.length ([] : TMem)) (bodyOf Tryz.f14) (endT PP 56 [.cell 6 32, .tmp 7] [.ag [.own .int, .own .int, .own .int, .own .int, .x, .own .int, .x, .own .op, .x, .bl], .bl] [] (List.length ([] : TMem)) K) (argsF [.agg [.pl .int p1, .pl .int p2, .pl .int p3, .pl .int p4, .int .i64 p5, .pl .int p6, .int .i64 p7, .pl .op p8, .int .i64 p9, .bool p10], .str p11, .bool p12]) [] =
    Ms_RunBoth p1 p2 p3 p4 p5 p6 p7 p8 p9 p10 p11 p12 (fun r1 r2 r3 r4 r5 r6 r7 r8 r9 r10 r11 => K (.tup [.agg [.sl 0, .sl 1, .sl 2, .sl 3, .int .i64 r1, .sl 4, .int .i64 r2, .sl 5, .int .i64 r3, .bool r4], .bool r5]) [⟨true, .list .int r6⟩, ⟨true, .list .int r7⟩, ⟨true, .list .int r8⟩, ⟨true, .list .int r9⟩, ⟨true, .list .int r10⟩, ⟨true, .list .op r11⟩]) := by kernel_rfl
theorem s14 : CSound PP 14 G14 := by
  intro args K c h fl A aargs hA hN R hl
  unfold G14 at h
  generalize ht : c.tm = tm at h
  revert h
  refine cA_in ?_; rintro l2_ r1_ rfl
  refine cP_in ?_; rintro p1 r3_ rfl
  refine cP_in ?_; rintro p2 r4_ rfl
  refine cP_in ?_; rintro p3 r5_ rfl
  refine cP_in ?_; rintro p4 r6_ rfl
  refine cI_in ?_; rintro p5 r7_ rfl
  refine cP_in ?_; rintro p6 r8_ rfl
  refine cI_in ?_; rintro p7 r9_ rfl
  refine cP_in ?_; rintro p8 r10_ rfl
  refine cI_in ?_; rintro p9 r11_ rfl
  refine cB_in ?_; rintro p10 r12_ rfl
  refine dN_in ?_; rintro rfl
  refine cS_in ?_; rintro p11 r13_ rfl
  refine cB_in ?_; rintro p12 r14_ rfl
  refine dN_in ?_; rintro rfl
  refine dE_in ?_; rintro rfl
  intro h
  refine fun_ok (nt := 56) (x := bodyOf Tryz.f14) (Γ := Γ14) (H := H14) (WW := W14) (rs := [.cell 6 32, .tmp 7]) (shs := [.ag [.own .int, .own .int, .own .int, .own .int, .x, .own .int, .x, .own .op, .x, .bl], .bl]) (cons := []) mixed Tryz.func14 (by decide) (by kernel_rfl) Tryz.ntmps14 Tryz.results14 (.cons (useC_ok s38) (.cons (useC_ok s39) (.cons (useC_ok s41) (.cons (useC_ok s40) (GSound.nil))))) ?_ hA hN R hl
  rw [ht, e14 p1 p2 p3 p4 p5 p6 p7 p8 p9 p10 p11 p12 K]
  exact h
/-! impl.HeapValid -/
def G74 : Con := fun args tm K => cA args fun l2_ r1_ => cP .int l2_ fun p1 r3_ => cP .int r3_ fun p2 r4_ => cP .int r4_ fun p3 r5_ => dNil r5_ <| dNil r1_ <| dEnd tm <| Mi_HeapValid p1 p2 p3 (fun r1 => K (.bool r1) [])
def H74_0 : LH where
  keep := [(1, .pc [.pure .int, .pure .int, .pure .int]), (44, .own .ints), (45, .x), (46, .x)]
  S := Int × Int × List Int × List Int × List Int × List (List Int)
  enc := fun s => ([.ptr 0 0, .sl 1, .int .i64 s.1, .int .i64 s.2.1], [⟨true, .cells [.pl .int s.2.2.1, .pl .int s.2.2.2.1, .pl .int s.2.2.2.2.1]⟩, ⟨true, .list .ints s.2.2.2.2.2⟩])
  dec := fun vs tm K => cQ 0 vs fun r1_ => cL 1 r1_ fun r2_ => cI .i64 r2_ fun q0 r3_ => cI .i64 r3_ fun q1 r4_ => dNil r4_ <| bC true tm fun c6_ m5_ => cP .int c6_ fun q2 r7_ => cP .int r7_ fun q3 r8_ => cP .int r8_ fun q4 r9_ => dNil r9_ <| bL true .ints m5_ fun q5 m10_ => dEnd m10_ <| K (q0, q1, q2, q3, q4, q5)
  law := by
    intro vs tm K
    refine cQ_in ?_; rintro r1_ rfl
    refine cL_in ?_; rintro r2_ rfl
    refine cI_in ?_; rintro q0 r3_ rfl
    refine cI_in ?_; rintro q1 r4_ rfl
    refine dN_in ?_; rintro rfl
    refine bC_in ?_; rintro c6_ m5_ rfl
    refine cP_in ?_; rintro q2 r7_ rfl
    refine cP_in ?_; rintro q3 r8_ rfl
    refine cP_in ?_; rintro q4 r9_ rfl
    refine dN_in ?_; rintro rfl
    refine bL_in ?_; rintro q5 m10_ rfl
    refine dE_in ?_; rintro rfl
    exact fun h => ⟨(q0, q1, q2, q3, q4, q5), rfl, h⟩
def H74_2 : LH where
  keep := [(1, .pc [.pure .int, .pure .int, .pure .int]), (44, .own .ints), (45, .x), (46, .x), (50, .pure .int), (51, .x), (52, .x)]
  S := Int × Int × List Int × Int × Int × List Int × List Int × List Int × List (List Int)
  enc := fun s => ([.ptr 0 0, .sl 1, .int .i64 s.1, .int .i64 s.2.1, .pl .int s.2.2.1, .int .i64 s.2.2.2.1, .int .i64 s.2.2.2.2.1], [⟨true, .cells [.pl .int s.2.2.2.2.2.1, .pl .int s.2.2.2.2.2.2.1, .pl .int s.2.2.2.2.2.2.2.1]⟩, ⟨true, .list .ints s.2.2.2.2.2.2.2.2⟩])
  dec := fun vs tm K => cQ 0 vs fun r1_ => cL 1 r1_ fun r2_ => cI .i64 r2_ fun q0 r3_ => cI .i64 r3_ fun q1 r4_ => cP .int r4_ fun q2 r5_ => cI .i64 r5_ fun q3 r6_ => cI .i64 r6_ fun q4 r7_ => dNil r7_ <| bC true tm fun c9_ m8_ => cP .int c9_ fun q5 r10_ => cP .int r10_ fun q6 r11_ => cP .int r11_ fun q7 r12_ => dNil r12_ <| bL true .ints m8_ fun q8 m13_ => dEnd m13_ <| K (q0, q1, q2, q3, q4, q5, q6, q7, q8)
  law := by
    intro vs tm K
    refine cQ_in ?_; rintro r1_ rfl
    refine cL_in ?_; rintro r2_ rfl
    refine cI_in ?_; rintro q0 r3_ rfl
    refine cI_in ?_; rintro q1 r4_ rfl
    refine cP_in ?_; rintro q2 r5_ rfl
    refine cI_in ?_; rintro q3 r6_ rfl
    refine cI_in ?_; rintro q4 r7_ rfl
    refine dN_in ?_; rintro rfl
    refine bC_in ?_; rintro c9_ m8_ rfl
    refine cP_in ?_; rintro q5 r10_ rfl
    refine cP_in ?_; rintro q6 r11_ rfl
    refine cP_in ?_; rintro q7 r12_ rfl
    refine dN_in ?_; rintro rfl
    refine bL_in ?_; rintro q8 m13_ rfl
    refine dE_in ?_; rintro rfl
    exact fun h => ⟨(q0, q1, q2, q3, q4, q5, q6, q7, q8), rfl, h⟩
def H74 : List (Nat × LH) := [(0, H74_0), (2, H74_2)]
def W74 : List (Nat × List (Nat × List Nat)) := []
def Γ74 : List (Nat × Con) := []
theorem e74 (p1 : List Int) (p2 : List Int) (p3 : List Int) (K : TV → TMem → Prop) : TW PP 67 Γ74 H74 W74 (List.length ([] : TMem)) (bodyOf Tryz.f74) (endT PP 67 [.tmp 2] [.bl] [] (List.length ([] : TMem)) K) (argsF [.agg [.pl .int p1, .pl .int p2, .pl .int p3]]) [] =
    Mi_HeapValid p1 p2 p3 (fun r1 => K (.bool r1) []) := by kernel_rfl
theorem s74 : CSound PP 74 G74 := by
  intro args K c h fl A aargs hA hN R hl
  unfold G74 at h
  generalize ht : c.tm = tm at h
  revert h
  refine cA_in ?_; rintro l2_ r1_ rfl
  refine cP_in ?_; rintro p1 r3_ rfl
  refine cP_in ?_; rintro p2 r4_ rfl
  refine cP_in ?_; rintro p3 r5_ rfl
  refine dN_in ?_; rintro rfl
  refine dN_in ?_; rintro rfl
  refine dE_in ?_; rintro rfl
  intro h
  refine fun_ok (nt := 67) (x := bodyOf Tryz.f74) (Γ := Γ74) (H := H74) (WW := W74) (rs := [.tmp 2]) (shs := [.bl]) (cons := []) mixed Tryz.func74 (by decide) (by kernel_rfl) Tryz.ntmps74 Tryz.results74 (GSound.nil) ?_ hA hN R hl
  rw [ht, e74 p1 p2 p3 K]
  exact h
/-! slices.Grow[[]int,int] -/
def G200 : Con := fun args tm K => cT .nil args fun r1_ => cI .i64 r1_ fun p1 r2_ => dNil r2_ <| dEnd tm <| M_Grow_int p1 (fun r1 => K (.sl 0) [⟨true, .list .int r1⟩])
def H200 : List (Nat × LH) := []
def W200 : List (Nat × List (Nat × List Nat)) := []
def Γ200 : List (Nat × Con) := []
theorem e200 (p1 : Int) (K : TV → TMem → Prop) : TW PP 27 Γ200 H200 W200 (List.length ([] : TMem)) (bodyOf Tryz.f200) (endT PP 27 [.tmp 4] [.own .int] [] (List.length ([] : TMem)) K) (argsF [.nil, .int .i64 p1]) [] =
    M_Grow_int p1 (fun r1 => K (.sl 0) [⟨true, .list .int r1⟩]) := by kernel_rfl
theorem s200 : CSound PP 200 G200 := by
  intro args K c h fl A aargs hA hN R hl
  unfold G200 at h
  generalize ht : c.tm = tm at h
  revert h
  refine cT_in ?_; rintro r1_ rfl
  refine cI_in ?_; rintro p1 r2_ rfl
  refine dN_in ?_; rintro rfl
  refine dE_in ?_; rintro rfl
  intro h
  simp only [AT.tv] at hl
  refine fun_ok (nt := 27) (x := bodyOf Tryz.f200) (Γ := Γ200) (H := H200) (WW := W200) (rs := [.tmp 4]) (shs := [.own .int]) (cons := []) mixed Tryz.func200 (by decide) (by kernel_rfl) Tryz.ntmps200 Tryz.results200 (GSound.nil) ?_ hA hN R hl
  rw [ht, e200 p1 K]
  exact h
/-! slices.Concat[[]int,int] -/
def G173 : Con := fun args tm K => cP .ints args fun p1 r1_ => dNil r1_ <| dEnd tm <| M_Concat_int p1 (fun r1 => K (.sl 0) [⟨true, .list .int r1⟩])
def H173_0 : LH where
  keep := [(0, .pure .ints), (3, .x), (9, .pure .ints), (10, .x), (11, .x)]
  S := List (List Int) × Int × List (List Int) × Int × Int
  enc := fun s => ([.pl .ints s.1, .int .i64 s.2.1, .pl .ints s.2.2.1, .int .i64 s.2.2.2.1, .int .i64 s.2.2.2.2], [])
  dec := fun vs tm K => cP .ints vs fun q0 r1_ => cI .i64 r1_ fun q1 r2_ => cP .ints r2_ fun q2 r3_ => cI .i64 r3_ fun q3 r4_ => cI .i64 r4_ fun q4 r5_ => dNil r5_ <| dEnd tm <| K (q0, q1, q2, q3, q4)
  law := by
    intro vs tm K
    refine cP_in ?_; rintro q0 r1_ rfl
    refine cI_in ?_; rintro q1 r2_ rfl
    refine cP_in ?_; rintro q2 r3_ rfl
    refine cI_in ?_; rintro q3 r4_ rfl
    refine cI_in ?_; rintro q4 r5_ rfl
    refine dN_in ?_; rintro rfl
    refine dE_in ?_; rintro rfl
    exact fun h => ⟨(q0, q1, q2, q3, q4), rfl, h⟩
def H173_2 : LH where
  keep := [(6, .own .int), (25, .pure .ints), (26, .x), (27, .x)]
  S := List (List Int) × Int × Int × List Int
  enc := fun s => ([.sl 0, .pl .ints s.1, .int .i64 s.2.1, .int .i64 s.2.2.1], [⟨true, .list .int s.2.2.2⟩])
  dec := fun vs tm K => cL 0 vs fun r1_ => cP .ints r1_ fun q0 r2_ => cI .i64 r2_ fun q1 r3_ => cI .i64 r3_ fun q2 r4_ => dNil r4_ <| bL true .int tm fun q3 m5_ => dEnd m5_ <| K (q0, q1, q2, q3)
  law := by
    intro vs tm K
    refine cL_in ?_; rintro r1_ rfl
    refine cP_in ?_; rintro q0 r2_ rfl
    refine cI_in ?_; rintro q1 r3_ rfl
    refine cI_in ?_; rintro q2 r4_ rfl
    refine dN_in ?_; rintro rfl
    refine bL_in ?_; rintro q3 m5_ rfl
    refine dE_in ?_; rintro rfl
    exact fun h => ⟨(q0, q1, q2, q3), rfl, h⟩
def H173 : List (Nat × LH) := [(0, H173_0), (2, H173_2)]
def W173 : List (Nat × List (Nat × List Nat)) := []
def Γ173 : List (Nat × Con) := [(200, useC [.x, .x] G200)]
theorem e173 (p1 : List (List Int)) (K : TV → TMem → Prop) : TW PP 36 Γ173 H173 W173 (List.length ([] : TMem)) (bodyOf Tryz.f173) (endT PP 36 [.tmp 2] [.own .int] [] (List.length ([] : TMem)) K) (argsF [.pl .ints p1]) [] =
    M_Concat_int p1 (fun r1 => K (.sl 0) [⟨true, .list .int r1⟩]) := by kernel_rfl
theorem s173 : CSound PP 173 G173 := by
  intro args K c h fl A aargs hA hN R hl
  unfold G173 at h
  generalize ht : c.tm = tm at h
  revert h
  refine cP_in ?_; rintro p1 r1_ rfl
  refine dN_in ?_; rintro rfl
  refine dE_in ?_; rintro rfl
  intro h
  refine fun_ok (nt := 36) (x := bodyOf Tryz.f173) (Γ := Γ173) (H := H173) (WW := W173) (rs := [.tmp 2]) (shs := [.own .int]) (cons := []) mixed Tryz.func173 (by decide) (by kernel_rfl) Tryz.ntmps173 Tryz.results173 (.cons (useC_ok s200) (GSound.nil)) ?_ hA hN R hl
  rw [ht, e173 p1 K]
  exact h
/-! impl.CountsOf -/
def G109 : Con := fun args tm K => cA args fun l2_ r1_ => cP .int l2_ fun p1 r3_ => cP .int r3_ fun p2 r4_ => cP .int r4_ fun p3 r5_ => dNil r5_ <| dNil r1_ <| dEnd tm <| Mi_CountsOf p1 p2 p3 (fun r1 => K (.sl 0) [⟨true, .list .int r1⟩])
def H109_0 : LH where
  keep := [(3, .own .int), (20, .own .int), (21, .x), (22, .x)]
  S := Int × Int × List Int × List Int
  enc := fun s => ([.sl 0, .sl 1, .int .i64 s.1, .int .i64 s.2.1], [⟨true, .list .int s.2.2.1⟩, ⟨true, .list .int s.2.2.2⟩])
  dec := fun vs tm K => cL 0 vs fun r1_ => cL 1 r1_ fun r2_ => cI .i64 r2_ fun q0 r3_ => cI .i64 r3_ fun q1 r4_ => dNil r4_ <| bL true .int tm fun q2 m5_ => bL true .int m5_ fun q3 m6_ => dEnd m6_ <| K (q0, q1, q2, q3)
  law := by
    intro vs tm K
    refine cL_in ?_; rintro r1_ rfl
    refine cL_in ?_; rintro r2_ rfl
    refine cI_in ?_; rintro q0 r3_ rfl
    refine cI_in ?_; rintro q1 r4_ rfl
    refine dN_in ?_; rintro rfl
    refine bL_in ?_; rintro q2 m5_ rfl
    refine bL_in ?_; rintro q3 m6_ rfl
    refine dE_in ?_; rintro rfl
    exact fun h => ⟨(q0, q1, q2, q3), rfl, h⟩
def H109 : List (Nat × LH) := [(0, H109_0)]
def W109 : List (Nat × List (Nat × List Nat)) := []
def Γ109 : List (Nat × Con) := [(74, useC [.ag [.pure .int, .pure .int, .pure .int]] G74), (173, useC [.pure .ints] G173)]
theorem e109 (p1 : List Int) (p2 : List Int) (p3 : List Int) (K : TV → TMem → Prop) : TW PP 36 Γ109 H109 W109 (List.length ([] : TMem)) (bodyOf Tryz.f109) (endT PP 36 [.tmp 2] [.own .int] [] (List.length ([] : TMem)) K) (argsF [.agg [.pl .int p1, .pl .int p2, .pl .int p3]]) [] =
    Mi_CountsOf p1 p2 p3 (fun r1 => K (.sl 0) [⟨true, .list .int r1⟩]) := by kernel_rfl
theorem s109 : CSound PP 109 G109 := by
  intro args K c h fl A aargs hA hN R hl
  unfold G109 at h
  generalize ht : c.tm = tm at h
  revert h
  refine cA_in ?_; rintro l2_ r1_ rfl
  refine cP_in ?_; rintro p1 r3_ rfl
  refine cP_in ?_; rintro p2 r4_ rfl
  refine cP_in ?_; rintro p3 r5_ rfl
  refine dN_in ?_; rintro rfl
  refine dN_in ?_; rintro rfl
  refine dE_in ?_; rintro rfl
  intro h
  refine fun_ok (nt := 36) (x := bodyOf Tryz.f109) (Γ := Γ109) (H := H109) (WW := W109) (rs := [.tmp 2]) (shs := [.own .int]) (cons := []) mixed Tryz.func109 (by decide) (by kernel_rfl) Tryz.ntmps109 Tryz.results109 (.cons (useC_ok s74) (.cons (useC_ok s173) (GSound.nil))) ?_ hA hN R hl
  rw [ht, e109 p1 p2 p3 K]
  exact h
/-! slices.Index[[]int,int] -/
def G110 : Con := fun args tm K => cP .int args fun p1 r1_ => cI .i64 r1_ fun p2 r2_ => dNil r2_ <| dEnd tm <| M_Index_int p1 p2 (fun r1 => K (.int .i64 r1) [])
def H110_0 : LH where
  keep := [(0, .pure .int), (1, .x), (7, .x), (8, .x)]
  S := List Int × Int × Int × Int
  enc := fun s => ([.pl .int s.1, .int .i64 s.2.1, .int .i64 s.2.2.1, .int .i64 s.2.2.2], [])
  dec := fun vs tm K => cP .int vs fun q0 r1_ => cI .i64 r1_ fun q1 r2_ => cI .i64 r2_ fun q2 r3_ => cI .i64 r3_ fun q3 r4_ => dNil r4_ <| dEnd tm <| K (q0, q1, q2, q3)
  law := by
    intro vs tm K
    refine cP_in ?_; rintro q0 r1_ rfl
    refine cI_in ?_; rintro q1 r2_ rfl
    refine cI_in ?_; rintro q2 r3_ rfl
    refine cI_in ?_; rintro q3 r4_ rfl
    refine dN_in ?_; rintro rfl
    refine dE_in ?_; rintro rfl
    exact fun h => ⟨(q0, q1, q2, q3), rfl, h⟩
def H110 : List (Nat × LH) := [(0, H110_0)]
def W110 : List (Nat × List (Nat × List Nat)) := []
def Γ110 : List (Nat × Con) := []
theorem e110 (p1 : List Int) (p2 : Int) (K : TV → TMem → Prop) : TW PP 19 Γ110 H110 W110 (List.length ([] : TMem)) (bodyOf Tryz.f110) (endT PP 19 [.tmp 4] [.x] [] (List.length ([] : TMem)) K) (argsF [.pl .int p1, .int .i64 p2]) [] =
    M_Index_int p1 p2 (fun r1 => K (.int .i64 r1) []) := by kernel_rfl
theorem s110 : CSound PP 110 G110 := by
  intro args K c h fl A aargs hA hN R hl
  unfold G110 at h
  generalize ht : c.tm = tm at h
  revert h
  refine cP_in ?_; rintro p1 r1_ rfl
  refine cI_in ?_; rintro p2 r2_ rfl
  refine dN_in ?_; rintro rfl
  refine dE_in ?_; rintro rfl
  intro h
  refine fun_ok (nt := 19) (x := bodyOf Tryz.f110) (Γ := Γ110) (H := H110) (WW := W110) (rs := [.tmp 4]) (shs := [.x]) (cons := []) mixed Tryz.func110 (by decide) (by kernel_rfl) Tryz.ntmps110 Tryz.results110 (GSound.nil) ?_ hA hN R hl
  rw [ht, e110 p1 p2 K]
  exact h
/-! slices.Contains[[]int,int] -/
def G47 : Con := fun args tm K => cP .int args fun p1 r1_ => cI .i64 r1_ fun p2 r2_ => dNil r2_ <| dEnd tm <| M_Contains_int p1 p2 (fun r1 => K (.bool r1) [])
def H47 : List (Nat × LH) := []
def W47 : List (Nat × List (Nat × List Nat)) := []
def Γ47 : List (Nat × Con) := [(110, useC [.pure .int, .x] G110)]
theorem e47 (p1 : List Int) (p2 : Int) (K : TV → TMem → Prop) : TW PP 9 Γ47 H47 W47 (List.length ([] : TMem)) (bodyOf Tryz.f47) (endT PP 9 [.tmp 4] [.bl] [] (List.length ([] : TMem)) K) (argsF [.pl .int p1, .int .i64 p2]) [] =
    M_Contains_int p1 p2 (fun r1 => K (.bool r1) []) := by kernel_rfl
theorem s47 : CSound PP 47 G47 := by
  intro args K c h fl A aargs hA hN R hl
  unfold G47 at h
  generalize ht : c.tm = tm at h
  revert h
  refine cP_in ?_; rintro p1 r1_ rfl
  refine cI_in ?_; rintro p2 r2_ rfl
  refine dN_in ?_; rintro rfl
  refine dE_in ?_; rintro rfl
  intro h
  refine fun_ok (nt := 9) (x := bodyOf Tryz.f47) (Γ := Γ47) (H := H47) (WW := W47) (rs := [.tmp 4]) (shs := [.bl]) (cons := []) mixed Tryz.func47 (by decide) (by kernel_rfl) Tryz.ntmps47 Tryz.results47 (.cons (useC_ok s110) (GSound.nil)) ?_ hA hN R hl
  rw [ht, e47 p1 p2 K]
  exact h
/-! impl.StoreValid -/
def G45 : Con := fun args tm K => cA args fun l2_ r1_ => cP .int l2_ fun p1 r3_ => cP .int r3_ fun p2 r4_ => cP .int r4_ fun p3 r5_ => cP .int r5_ fun p4 r6_ => dNil r6_ <| dNil r1_ <| dEnd tm <| Mi_StoreValid p1 p2 p3 p4 (fun r1 => K (.bool r1) [])
def H45_0 : LH where
  keep := [(1, .pc [.pure .int, .pure .int, .pure .int, .pure .int]), (3, .own .int), (14, .pure .int), (15, .x), (16, .x)]
  S := List Int × Int × Int × List Int × List Int × List Int × List Int × List Int
  enc := fun s => ([.ptr 0 0, .sl 1, .pl .int s.1, .int .i64 s.2.1, .int .i64 s.2.2.1], [⟨true, .cells [.pl .int s.2.2.2.1, .pl .int s.2.2.2.2.1, .pl .int s.2.2.2.2.2.1, .pl .int s.2.2.2.2.2.2.1]⟩, ⟨true, .list .int s.2.2.2.2.2.2.2⟩])
  dec := fun vs tm K => cQ 0 vs fun r1_ => cL 1 r1_ fun r2_ => cP .int r2_ fun q0 r3_ => cI .i64 r3_ fun q1 r4_ => cI .i64 r4_ fun q2 r5_ => dNil r5_ <| bC true tm fun c7_ m6_ => cP .int c7_ fun q3 r8_ => cP .int r8_ fun q4 r9_ => cP .int r9_ fun q5 r10_ => cP .int r10_ fun q6 r11_ => dNil r11_ <| bL true .int m6_ fun q7 m12_ => dEnd m12_ <| K (q0, q1, q2, q3, q4, q5, q6, q7)
  law := by
    intro vs tm K
    refine cQ_in ?_; rintro r1_ rfl
    refine cL_in ?_; rintro r2_ rfl
    refine cP_in ?_; rintro q0 r3_ rfl
    refine cI_in ?_; rintro q1 r4_ rfl
    refine cI_in ?_; rintro q2 r5_ rfl
    refine dN_in ?_; rintro rfl
    refine bC_in ?_; rintro c7_ m6_ rfl
    refine cP_in ?_; rintro q3 r8_ rfl
    refine cP_in ?_; rintro q4 r9_ rfl
    refine cP_in ?_; rintro q5 r10_ rfl
    refine cP_in ?_; rintro q6 r11_ rfl
    refine dN_in ?_; rintro rfl
    refine bL_in ?_; rintro q7 m12_ rfl
    refine dE_in ?_; rintro rfl
    exact fun h => ⟨(q0, q1, q2, q3, q4, q5, q6, q7), rfl, h⟩
def H45 : List (Nat × LH) := [(0, H45_0)]
def W45 : List (Nat × List (Nat × List Nat)) := []
def Γ45 : List (Nat × Con) := [(74, useC [.ag [.pure .int, .pure .int, .pure .int]] G74), (109, useC [.ag [.pure .int, .pure .int, .pure .int]] G109), (47, useC [.pure .int, .x] G47)]
theorem e45 (p1 : List Int) (p2 : List Int) (p3 : List Int) (p4 : List Int) (K : TV → TMem → Prop) : TW PP 63 Γ45 H45 W45 (List.length ([] : TMem)) (bodyOf Tryz.f45) (endT PP 63 [.tmp 2] [.bl] [] (List.length ([] : TMem)) K) (argsF [.agg [.pl .int p1, .pl .int p2, .pl .int p3, .pl .int p4]]) [] =
    Mi_StoreValid p1 p2 p3 p4 (fun r1 => K (.bool r1) []) := by kernel_rfl
theorem s45 : CSound PP 45 G45 := by
  intro args K c h fl A aargs hA hN R hl
  unfold G45 at h
  generalize ht : c.tm = tm at h
  revert h
  refine cA_in ?_; rintro l2_ r1_ rfl
  refine cP_in ?_; rintro p1 r3_ rfl
  refine cP_in ?_; rintro p2 r4_ rfl
  refine cP_in ?_; rintro p3 r5_ rfl
  refine cP_in ?_; rintro p4 r6_ rfl
  refine dN_in ?_; rintro rfl
  refine dN_in ?_; rintro rfl
  refine dE_in ?_; rintro rfl
  intro h
  refine fun_ok (nt := 63) (x := bodyOf Tryz.f45) (Γ := Γ45) (H := H45) (WW := W45) (rs := [.tmp 2]) (shs := [.bl]) (cons := []) mixed Tryz.func45 (by decide) (by kernel_rfl) Tryz.ntmps45 Tryz.results45 (.cons (useC_ok s74) (.cons (useC_ok s109) (.cons (useC_ok s47) (GSound.nil)))) ?_ hA hN R hl
  rw [ht, e45 p1 p2 p3 p4 K]
  exact h
/-! impl.colorsOk -/
def G151 : Con := fun args tm K => cP .int args fun p1 r1_ => cI .i64 r1_ fun p2 r2_ => dNil r2_ <| dEnd tm <| Mi_colorsOk p1 p2 (fun r1 => K (.bool r1) [])
def H151_0 : LH where
  keep := [(0, .pure .int), (1, .x), (7, .pure .int), (8, .x), (9, .x)]
  S := List Int × Int × List Int × Int × Int
  enc := fun s => ([.pl .int s.1, .int .i64 s.2.1, .pl .int s.2.2.1, .int .i64 s.2.2.2.1, .int .i64 s.2.2.2.2], [])
  dec := fun vs tm K => cP .int vs fun q0 r1_ => cI .i64 r1_ fun q1 r2_ => cP .int r2_ fun q2 r3_ => cI .i64 r3_ fun q3 r4_ => cI .i64 r4_ fun q4 r5_ => dNil r5_ <| dEnd tm <| K (q0, q1, q2, q3, q4)
  law := by
    intro vs tm K
    refine cP_in ?_; rintro q0 r1_ rfl
    refine cI_in ?_; rintro q1 r2_ rfl
    refine cP_in ?_; rintro q2 r3_ rfl
    refine cI_in ?_; rintro q3 r4_ rfl
    refine cI_in ?_; rintro q4 r5_ rfl
    refine dN_in ?_; rintro rfl
    refine dE_in ?_; rintro rfl
    exact fun h => ⟨(q0, q1, q2, q3, q4), rfl, h⟩
def H151 : List (Nat × LH) := [(0, H151_0)]
def W151 : List (Nat × List (Nat × List Nat)) := []
def Γ151 : List (Nat × Con) := []
theorem e151 (p1 : List Int) (p2 : Int) (K : TV → TMem → Prop) : TW PP 24 Γ151 H151 W151 (List.length ([] : TMem)) (bodyOf Tryz.f151) (endT PP 24 [.tmp 4] [.bl] [] (List.length ([] : TMem)) K) (argsF [.pl .int p1, .int .i64 p2]) [] =
    Mi_colorsOk p1 p2 (fun r1 => K (.bool r1) []) := by kernel_rfl
theorem s151 : CSound PP 151 G151 := by
  intro args K c h fl A aargs hA hN R hl
  unfold G151 at h
  generalize ht : c.tm = tm at h
  revert h
  refine cP_in ?_; rintro p1 r1_ rfl
  refine cI_in ?_; rintro p2 r2_ rfl
  refine dN_in ?_; rintro rfl
  refine dE_in ?_; rintro rfl
  intro h
  refine fun_ok (nt := 24) (x := bodyOf Tryz.f151) (Γ := Γ151) (H := H151) (WW := W151) (rs := [.tmp 4]) (shs := [.bl]) (cons := []) mixed Tryz.func151 (by decide) (by kernel_rfl) Tryz.ntmps151 Tryz.results151 (GSound.nil) ?_ hA hN R hl
  rw [ht, e151 p1 p2 K]
  exact h
/-! impl.GcValid -/
def G91 : Con := fun args tm K => cA args fun l2_ r1_ => cP .int l2_ fun p1 r3_ => cP .int r3_ fun p2 r4_ => cP .int r4_ fun p3 r5_ => cP .int r5_ fun p4 r6_ => dNil r6_ <| cA r1_ fun l8_ r7_ => cI .i64 l8_ fun p5 r9_ => cP .int r9_ fun p6 r10_ => cI .i64 r10_ fun p7 r11_ => dNil r11_ <| dNil r7_ <| dEnd tm <| Mi_GcValid p1 p2 p3 p4 p5 p6 p7 (fun r1 => K (.bool r1) [])
def H91 : List (Nat × LH) := []
def W91 : List (Nat × List (Nat × List Nat)) := []
def Γ91 : List (Nat × Con) := [(45, useC [.ag [.pure .int, .pure .int, .pure .int, .pure .int]] G45), (151, useC [.pure .int, .x] G151)]
theorem e91 (p1 : List Int) (p2 : List Int) (p3 : List Int) (p4 : List Int) (p5 : Int) (p6 : List Int) (p7 : Int) (K : TV → TMem → Prop) : TW PP 49 Γ91 H91 W91 (List.length ([] : TMem)) (bodyOf Tryz.f91) (endT PP 49 [.tmp 4] [.bl] [] (List.length ([] : TMem)) K) (argsF [.agg [.pl .int p1, .pl .int p2, .pl .int p3, .pl .int p4], .agg [.int .i64 p5, .pl .int p6, .int .i64 p7]]) [] =
    Mi_GcValid p1 p2 p3 p4 p5 p6 p7 (fun r1 => K (.bool r1) []) := by kernel_rfl
theorem s91 : CSound PP 91 G91 := by
  intro args K c h fl A aargs hA hN R hl
  unfold G91 at h
  generalize ht : c.tm = tm at h
  revert h
  refine cA_in ?_; rintro l2_ r1_ rfl
  refine cP_in ?_; rintro p1 r3_ rfl
  refine cP_in ?_; rintro p2 r4_ rfl
  refine cP_in ?_; rintro p3 r5_ rfl
  refine cP_in ?_; rintro p4 r6_ rfl
  refine dN_in ?_; rintro rfl
  refine cA_in ?_; rintro l8_ r7_ rfl
  refine cI_in ?_; rintro p5 r9_ rfl
  refine cP_in ?_; rintro p6 r10_ rfl
  refine cI_in ?_; rintro p7 r11_ rfl
  refine dN_in ?_; rintro rfl
  refine dN_in ?_; rintro rfl
  refine dE_in ?_; rintro rfl
  intro h
  refine fun_ok (nt := 49) (x := bodyOf Tryz.f91) (Γ := Γ91) (H := H91) (WW := W91) (rs := [.tmp 4]) (shs := [.bl]) (cons := []) mixed Tryz.func91 (by decide) (by kernel_rfl) Tryz.ntmps91 Tryz.results91 (.cons (useC_ok s45) (.cons (useC_ok s151) (GSound.nil))) ?_ hA hN R hl
  rw [ht, e91 p1 p2 p3 p4 p5 p6 p7 K]
  exact h
/-! impl.OpValid -/
def G136 : Con := fun args tm K => cA args fun l2_ r1_ => cI .i64 l2_ fun p1 r3_ => cI .i64 r3_ fun p2 r4_ => cI .i64 r4_ fun p3 r5_ => dNil r5_ <| cI .i64 r1_ fun p4 r6_ => dNil r6_ <| dEnd tm <| Mi_OpValid p1 p2 p3 p4 (fun r1 => K (.bool r1) [])
def H136 : List (Nat × LH) := []
def W136 : List (Nat × List (Nat × List Nat)) := []
def Γ136 : List (Nat × Con) := []
theorem e136 (p1 : Int) (p2 : Int) (p3 : Int) (p4 : Int) (K : TV → TMem → Prop) : TW PP 54 Γ136 H136 W136 (List.length ([] : TMem)) (bodyOf Tryz.f136) (endT PP 54 [.tmp 4] [.bl] [] (List.length ([] : TMem)) K) (argsF [.agg [.int .i64 p1, .int .i64 p2, .int .i64 p3], .int .i64 p4]) [] =
    Mi_OpValid p1 p2 p3 p4 (fun r1 => K (.bool r1) []) := by kernel_rfl
theorem s136 : CSound PP 136 G136 := by
  intro args K c h fl A aargs hA hN R hl
  unfold G136 at h
  generalize ht : c.tm = tm at h
  revert h
  refine cA_in ?_; rintro l2_ r1_ rfl
  refine cI_in ?_; rintro p1 r3_ rfl
  refine cI_in ?_; rintro p2 r4_ rfl
  refine cI_in ?_; rintro p3 r5_ rfl
  refine dN_in ?_; rintro rfl
  refine cI_in ?_; rintro p4 r6_ rfl
  refine dN_in ?_; rintro rfl
  refine dE_in ?_; rintro rfl
  intro h
  refine fun_ok (nt := 54) (x := bodyOf Tryz.f136) (Γ := Γ136) (H := H136) (WW := W136) (rs := [.tmp 4]) (shs := [.bl]) (cons := []) mixed Tryz.func136 (by decide) (by kernel_rfl) Tryz.ntmps136 Tryz.results136 (GSound.nil) ?_ hA hN R hl
  rw [ht, e136 p1 p2 p3 p4 K]
  exact h
/-! impl.opsOk -/
def G66 : Con := fun args tm K => cP .op args fun p1 r1_ => cI .i64 r1_ fun p2 r2_ => dNil r2_ <| dEnd tm <| Mi_opsOk p1 p2 (fun r1 => K (.bool r1) [])
def H66_0 : LH where
  keep := [(0, .pure .op), (1, .x), (7, .pure .op), (8, .x), (9, .x)]
  S := List OpV × Int × List OpV × Int × Int
  enc := fun s => ([.pl .op s.1, .int .i64 s.2.1, .pl .op s.2.2.1, .int .i64 s.2.2.2.1, .int .i64 s.2.2.2.2], [])
  dec := fun vs tm K => cP .op vs fun q0 r1_ => cI .i64 r1_ fun q1 r2_ => cP .op r2_ fun q2 r3_ => cI .i64 r3_ fun q3 r4_ => cI .i64 r4_ fun q4 r5_ => dNil r5_ <| dEnd tm <| K (q0, q1, q2, q3, q4)
  law := by
    intro vs tm K
    refine cP_in ?_; rintro q0 r1_ rfl
    refine cI_in ?_; rintro q1 r2_ rfl
    refine cP_in ?_; rintro q2 r3_ rfl
    refine cI_in ?_; rintro q3 r4_ rfl
    refine cI_in ?_; rintro q4 r5_ rfl
    refine dN_in ?_; rintro rfl
    refine dE_in ?_; rintro rfl
    exact fun h => ⟨(q0, q1, q2, q3, q4), rfl, h⟩
def H66 : List (Nat × LH) := [(0, H66_0)]
def W66 : List (Nat × List (Nat × List Nat)) := []
def Γ66 : List (Nat × Con) := [(136, useC [.ag [.x, .x, .x], .x] G136)]
theorem e66 (p1 : List OpV) (p2 : Int) (K : TV → TMem → Prop) : TW PP 21 Γ66 H66 W66 (List.length ([] : TMem)) (bodyOf Tryz.f66) (endT PP 21 [.tmp 4] [.bl] [] (List.length ([] : TMem)) K) (argsF [.pl .op p1, .int .i64 p2]) [] =
    Mi_opsOk p1 p2 (fun r1 => K (.bool r1) []) := by kernel_rfl
theorem s66 : CSound PP 66 G66 := by
  intro args K c h fl A aargs hA hN R hl
  unfold G66 at h
  generalize ht : c.tm = tm at h
  revert h
  refine cP_in ?_; rintro p1 r1_ rfl
  refine cI_in ?_; rintro p2 r2_ rfl
  refine dN_in ?_; rintro rfl
  refine dE_in ?_; rintro rfl
  intro h
  refine fun_ok (nt := 21) (x := bodyOf Tryz.f66) (Γ := Γ66) (H := H66) (WW := W66) (rs := [.tmp 4]) (shs := [.bl]) (cons := []) mixed Tryz.func66 (by decide) (by kernel_rfl) Tryz.ntmps66 Tryz.results66 (.cons (useC_ok s136) (GSound.nil)) ?_ hA hN R hl
  rw [ht, e66 p1 p2 K]
  exact h
/-! impl.BothValid -/
def G34 : Con := fun args tm K => cA args fun l2_ r1_ => cP .int l2_ fun p1 r3_ => cP .int r3_ fun p2 r4_ => cP .int r4_ fun p3 r5_ => cP .int r5_ fun p4 r6_ => cI .i64 r6_ fun p5 r7_ => cP .int r7_ fun p6 r8_ => cI .i64 r8_ fun p7 r9_ => cP .op r9_ fun p8 r10_ => cI .i64 r10_ fun p9 r11_ => cB r11_ fun p10 r12_ => dNil r12_ <| dNil r1_ <| dEnd tm <| Mi_BothValid p1 p2 p3 p4 p5 p6 p7 p8 p9 p10 (fun r1 => K (.bool r1) [])
def H34 : List (Nat × LH) := []
def W34 : List (Nat × List (Nat × List Nat)) := []
def Γ34 : List (Nat × Con) := [(91, useC [.ag [.pure .int, .pure .int, .pure .int, .pure .int], .ag [.x, .pure .int, .x]] G91), (66, useC [.pure .op, .x] G66)]
theorem e34 (p1 : List Int) (p2 : List Int) (p3 : List Int) (p4 : List Int) (p5 : Int) (p6 : List Int) (p7 : Int) (p8 : List OpV) (p9 : Int) (p10 : Bool) (K : TV → TMem → Prop) : TW PP 31 Γ34 H34 W34 (List.length ([] : TMem)) (bodyOf Tryz.f34) (endT PP 31 [.tmp 2] [.bl] [] (List.length ([] : TMem)) K) (argsF [.agg [.pl .int p1, .pl .int p2, .pl .int p3, .pl .int p4, .int .i64 p5, .pl .int p6, .int .i64 p7, .pl .op p8, .int .i64 p9, .bool p10]]) [] =
    Mi_BothValid p1 p2 p3 p4 p5 p6 p7 p8 p9 p10 (fun r1 => K (.bool r1) []) := by kernel_rfl
theorem s34 : CSound PP 34 G34 := by
  intro args K c h fl A aargs hA hN R hl
  unfold G34 at h
  generalize ht : c.tm = tm at h
  revert h
  refine cA_in ?_; rintro l2_ r1_ rfl
  refine cP_in ?_; rintro p1 r3_ rfl
  refine cP_in ?_; rintro p2 r4_ rfl
  refine cP_in ?_; rintro p3 r5_ rfl
  refine cP_in ?_; rintro p4 r6_ rfl
  refine cI_in ?_; rintro p5 r7_ rfl
  refine cP_in ?_; rintro p6 r8_ rfl
  refine cI_in ?_; rintro p7 r9_ rfl
  refine cP_in ?_; rintro p8 r10_ rfl
  refine cI_in ?_; rintro p9 r11_ rfl
  refine cB_in ?_; rintro p10 r12_ rfl
  refine dN_in ?_; rintro rfl
  refine dN_in ?_; rintro rfl
  refine dE_in ?_; rintro rfl
  intro h
  refine fun_ok (nt := 31) (x := bodyOf Tryz.f34) (Γ := Γ34) (H := H34) (WW := W34) (rs := [.tmp 2]) (shs := [.bl]) (cons := []) mixed Tryz.func34 (by decide) (by kernel_rfl) Tryz.ntmps34 Tryz.results34 (.cons (useC_ok s91) (.cons (useC_ok s66) (GSound.nil))) ?_ hA hN R hl
  rw [ht, e34 p1 p2 p3 p4 p5 p6 p7 p8 p9 p10 K]
  exact h
/-! slices.Clone[[]int,int] -/
def G92 : Con := fun args tm K => cP .int args fun p1 r1_ => dNil r1_ <| dEnd tm <| M_Clone_int p1 (fun r1 => K (.sl 0) [⟨true, .list .int r1⟩])
def H92 : List (Nat × LH) := []
def W92 : List (Nat × List (Nat × List Nat)) := []
def Γ92 : List (Nat × Con) := []
theorem e92 (p1 : List Int) (K : TV → TMem → Prop) : TW PP 8 Γ92 H92 W92 (List.length ([] : TMem)) (bodyOf Tryz.f92) (endT PP 8 [.tmp 2] [.own .int] [] (List.length ([] : TMem)) K) (argsF [.pl .int p1]) [] =
    M_Clone_int p1 (fun r1 => K (.sl 0) [⟨true, .list .int r1⟩]) := by kernel_rfl
theorem s92 : CSound PP 92 G92 := by
  intro args K c h fl A aargs hA hN R hl
  unfold G92 at h
  generalize ht : c.tm = tm at h
  revert h
  refine cP_in ?_; rintro p1 r1_ rfl
  refine dN_in ?_; rintro rfl
  refine dE_in ?_; rintro rfl
  intro h
  refine fun_ok (nt := 8) (x := bodyOf Tryz.f92) (Γ := Γ92) (H := H92) (WW := W92) (rs := [.tmp 2]) (shs := [.own .int]) (cons := []) mixed Tryz.func92 (by decide) (by kernel_rfl) Tryz.ntmps92 Tryz.results92 (GSound.nil) ?_ hA hN R hl
  rw [ht, e92 p1 K]
  exact h
/-! impl.copied -/
def G137 : Con := fun args tm K => cA args fun l2_ r1_ => cP .int l2_ fun p1 r3_ => cP .int r3_ fun p2 r4_ => cP .int r4_ fun p3 r5_ => dNil r5_ <| dNil r1_ <| dEnd tm <| Mi_copied p1 p2 p3 (fun r1 r2 r3 => K (.agg [.sl 0, .sl 1, .sl 2]) [⟨true, .list .int r1⟩, ⟨true, .list .int r2⟩, ⟨true, .list .int r3⟩])
def H137 : List (Nat × LH) := []
def W137 : List (Nat × List (Nat × List Nat)) := []
def Γ137 : List (Nat × Con) := [(92, useC [.pure .int] G92)]
theorem e137 (p1 : List Int) (p2 : List Int) (p3 : List Int) (K : TV → TMem → Prop) : TW PP 13 Γ137 H137 W137 (List.length ([] : TMem)) (bodyOf Tryz.f137) (endT PP 13 [.cell 2 25] [.ag [.own .int, .own .int, .own .int]] [] (List.length ([] : TMem)) K) (argsF [.agg [.pl .int p1, .pl .int p2, .pl .int p3]]) [] =
    Mi_copied p1 p2 p3 (fun r1 r2 r3 => K (.agg [.sl 0, .sl 1, .sl 2]) [⟨true, .list .int r1⟩, ⟨true, .list .int r2⟩, ⟨true, .list .int r3⟩]) := by kernel_rfl
theorem s137 : CSound PP 137 G137 := by
  intro args K c h fl A aargs hA hN R hl
  unfold G137 at h
  generalize ht : c.tm = tm at h
  revert h
  refine cA_in ?_; rintro l2_ r1_ rfl
  refine cP_in ?_; rintro p1 r3_ rfl
  refine cP_in ?_; rintro p2 r4_ rfl
  refine cP_in ?_; rintro p3 r5_ rfl
  refine dN_in ?_; rintro rfl
  refine dN_in ?_; rintro rfl
  refine dE_in ?_; rintro rfl
  intro h
  refine fun_ok (nt := 13) (x := bodyOf Tryz.f137) (Γ := Γ137) (H := H137) (WW := W137) (rs := [.cell 2 25]) (shs := [.ag [.own .int, .own .int, .own .int]]) (cons := []) mixed Tryz.func137 (by decide) (by kernel_rfl) Tryz.ntmps137 Tryz.results137 (.cons (useC_ok s92) (GSound.nil)) ?_ hA hN R hl
  rw [ht, e137 p1 p2 p3 K]
  exact h
/-! impl.again -/
def G67 : Con := fun args tm K => cA args fun l2_ r1_ => cP .int l2_ fun p1 r3_ => cP .int r3_ fun p2 r4_ => cP .int r4_ fun p3 r5_ => cP .int r5_ fun p4 r6_ => dNil r6_ <| dNil r1_ <| dEnd tm <| Mi_again p1 p2 p3 p4 (fun r1 r2 r3 r4 => K (.agg [.sl 0, .sl 1, .sl 2, .sl 3]) [⟨true, .list .int r1⟩, ⟨true, .list .int r2⟩, ⟨true, .list .int r3⟩, ⟨true, .list .int r4⟩])
def H67 : List (Nat × LH) := []
def W67 : List (Nat × List (Nat × List Nat)) := []
def Γ67 : List (Nat × Con) := [(137, useC [.ag [.pure .int, .pure .int, .pure .int]] G137), (92, useC [.pure .int] G92)]
theorem e67 (p1 : List Int) (p2 : List Int) (p3 : List Int) (p4 : List Int) (K : TV → TMem → Prop) : TW PP 10 Γ67 H67 W67 (List.length ([] : TMem)) (bodyOf Tryz.f67) (endT PP 10 [.cell 2 27] [.ag [.own .int, .own .int, .own .int, .own .int]] [] (List.length ([] : TMem)) K) (argsF [.agg [.pl .int p1, .pl .int p2, .pl .int p3, .pl .int p4]]) [] =
    Mi_again p1 p2 p3 p4 (fun r1 r2 r3 r4 => K (.agg [.sl 0, .sl 1, .sl 2, .sl 3]) [⟨true, .list .int r1⟩, ⟨true, .list .int r2⟩, ⟨true, .list .int r3⟩, ⟨true, .list .int r4⟩]) := by kernel_rfl
theorem s67 : CSound PP 67 G67 := by
  intro args K c h fl A aargs hA hN R hl
  unfold G67 at h
  generalize ht : c.tm = tm at h
  revert h
  refine cA_in ?_; rintro l2_ r1_ rfl
  refine cP_in ?_; rintro p1 r3_ rfl
  refine cP_in ?_; rintro p2 r4_ rfl
  refine cP_in ?_; rintro p3 r5_ rfl
  refine cP_in ?_; rintro p4 r6_ rfl
  refine dN_in ?_; rintro rfl
  refine dN_in ?_; rintro rfl
  refine dE_in ?_; rintro rfl
  intro h
  refine fun_ok (nt := 10) (x := bodyOf Tryz.f67) (Γ := Γ67) (H := H67) (WW := W67) (rs := [.cell 2 27]) (shs := [.ag [.own .int, .own .int, .own .int, .own .int]]) (cons := []) mixed Tryz.func67 (by decide) (by kernel_rfl) Tryz.ntmps67 Tryz.results67 (.cons (useC_ok s137) (.cons (useC_ok s92) (GSound.nil))) ?_ hA hN R hl
  rw [ht, e67 p1 p2 p3 p4 K]
  exact h
/-! slices.Clone[[]impl.Op,impl.Op] -/
def G86 : Con := fun args tm K => cP .op args fun p1 r1_ => dNil r1_ <| dEnd tm <| M_Clone_Op p1 (fun r1 => K (.sl 0) [⟨true, .list .op r1⟩])
def H86 : List (Nat × LH) := []
def W86 : List (Nat × List (Nat × List Nat)) := []
def Γ86 : List (Nat × Con) := []
theorem e86 (p1 : List OpV) (K : TV → TMem → Prop) : TW PP 8 Γ86 H86 W86 (List.length ([] : TMem)) (bodyOf Tryz.f86) (endT PP 8 [.tmp 2] [.own .op] [] (List.length ([] : TMem)) K) (argsF [.pl .op p1]) [] =
    M_Clone_Op p1 (fun r1 => K (.sl 0) [⟨true, .list .op r1⟩]) := by kernel_rfl
theorem s86 : CSound PP 86 G86 := by
  intro args K c h fl A aargs hA hN R hl
  unfold G86 at h
  generalize ht : c.tm = tm at h
  revert h
  refine cP_in ?_; rintro p1 r1_ rfl
  refine dN_in ?_; rintro rfl
  refine dE_in ?_; rintro rfl
  intro h
  refine fun_ok (nt := 8) (x := bodyOf Tryz.f86) (Γ := Γ86) (H := H86) (WW := W86) (rs := [.tmp 2]) (shs := [.own .op]) (cons := []) mixed Tryz.func86 (by decide) (by kernel_rfl) Tryz.ntmps86 Tryz.results86 (GSound.nil) ?_ hA hN R hl
  rw [ht, e86 p1 K]
  exact h
/-! impl.anew -/
def G35 : Con := fun args tm K => cA args fun l2_ r1_ => cP .int l2_ fun p1 r3_ => cP .int r3_ fun p2 r4_ => cP .int r4_ fun p3 r5_ => cP .int r5_ fun p4 r6_ => cI .i64 r6_ fun p5 r7_ => cP .int r7_ fun p6 r8_ => cI .i64 r8_ fun p7 r9_ => cP .op r9_ fun p8 r10_ => cI .i64 r10_ fun p9 r11_ => cB r11_ fun p10 r12_ => dNil r12_ <| dNil r1_ <| dEnd tm <| Mi_anew p1 p2 p3 p4 p5 p6 p7 p8 p9 p10 (fun r1 r2 r3 r4 r5 r6 => K (.agg [.sl 0, .sl 1, .sl 2, .sl 3, .int .i64 p5, .sl 4, .int .i64 p7, .sl 5, .int .i64 p9, .bool p10]) [⟨true, .list .int r1⟩, ⟨true, .list .int r2⟩, ⟨true, .list .int r3⟩, ⟨true, .list .int r4⟩, ⟨true, .list .int r5⟩, ⟨true, .list .op r6⟩])
def H35 : List (Nat × LH) := []
def W35 : List (Nat × List (Nat × List Nat)) := []
def Γ35 : List (Nat × Con) := [(67, useC [.ag [.pure .int, .pure .int, .pure .int, .pure .int]] G67), (92, useC [.pure .int] G92), (86, useC [.pure .op] G86)]
theorem e35 (p1 : List Int) (p2 : List Int) (p3 : List Int) (p4 : List Int) (p5 : Int) (p6 : List Int) (p7 : Int) (p8 : List OpV) (p9 : Int) (p10 : Bool) (K : TV → TMem → Prop) : TW PP 18 Γ35 H35 W35 (List.length ([] : TMem)) (bodyOf Tryz.f35) (endT PP 18 [.cell 2 32] [.ag [.own .int, .own .int, .own .int, .own .int, .x, .own .int, .x, .own .op, .x, .bl]] [] (List.length ([] : TMem)) K) (argsF [.agg [.pl .int p1, .pl .int p2, .pl .int p3, .pl .int p4, .int .i64 p5, .pl .int p6, .int .i64 p7, .pl .op p8, .int .i64 p9, .bool p10]]) [] =
    Mi_anew p1 p2 p3 p4 p5 p6 p7 p8 p9 p10 (fun r1 r2 r3 r4 r5 r6 => K (.agg [.sl 0, .sl 1, .sl 2, .sl 3, .int .i64 p5, .sl 4, .int .i64 p7, .sl 5, .int .i64 p9, .bool p10]) [⟨true, .list .int r1⟩, ⟨true, .list .int r2⟩, ⟨true, .list .int r3⟩, ⟨true, .list .int r4⟩, ⟨true, .list .int r5⟩, ⟨true, .list .op r6⟩]) := by kernel_rfl
theorem s35 : CSound PP 35 G35 := by
  intro args K c h fl A aargs hA hN R hl
  unfold G35 at h
  generalize ht : c.tm = tm at h
  revert h
  refine cA_in ?_; rintro l2_ r1_ rfl
  refine cP_in ?_; rintro p1 r3_ rfl
  refine cP_in ?_; rintro p2 r4_ rfl
  refine cP_in ?_; rintro p3 r5_ rfl
  refine cP_in ?_; rintro p4 r6_ rfl
  refine cI_in ?_; rintro p5 r7_ rfl
  refine cP_in ?_; rintro p6 r8_ rfl
  refine cI_in ?_; rintro p7 r9_ rfl
  refine cP_in ?_; rintro p8 r10_ rfl
  refine cI_in ?_; rintro p9 r11_ rfl
  refine cB_in ?_; rintro p10 r12_ rfl
  refine dN_in ?_; rintro rfl
  refine dN_in ?_; rintro rfl
  refine dE_in ?_; rintro rfl
  intro h
  refine fun_ok (nt := 18) (x := bodyOf Tryz.f35) (Γ := Γ35) (H := H35) (WW := W35) (rs := [.cell 2 32]) (shs := [.ag [.own .int, .own .int, .own .int, .own .int, .x, .own .int, .x, .own .op, .x, .bl]]) (cons := []) mixed Tryz.func35 (by decide) (by kernel_rfl) Tryz.ntmps35 Tryz.results35 (.cons (useC_ok s67) (.cons (useC_ok s92) (.cons (useC_ok s86) (GSound.nil)))) ?_ hA hN R hl
  rw [ht, e35 p1 p2 p3 p4 p5 p6 p7 p8 p9 p10 K]
  exact h
/-! impl.TargetOf -/
def G152 : Con := fun args tm K => cA args fun l2_ r1_ => cP .int l2_ fun p1 r3_ => cP .int r3_ fun p2 r4_ => cP .int r4_ fun p3 r5_ => cP .int r5_ fun p4 r6_ => dNil r6_ <| cA r1_ fun l8_ r7_ => cI .i64 l8_ fun p5 r9_ => cI .i64 r9_ fun p6 r10_ => cI .i64 r10_ fun p7 r11_ => dNil r11_ <| dNil r7_ <| dEnd tm <| Mi_TargetOf p1 p2 p3 p4 p5 p6 p7 (fun r1 => K (.int .i64 r1) [])
def H152 : List (Nat × LH) := []
def W152 : List (Nat × List (Nat × List Nat)) := []
def Γ152 : List (Nat × Con) := [(45, useC [.ag [.pure .int, .pure .int, .pure .int, .pure .int]] G45), (136, useC [.ag [.x, .x, .x], .x] G136)]
theorem e152 (p1 : List Int) (p2 : List Int) (p3 : List Int) (p4 : List Int) (p5 : Int) (p6 : Int) (p7 : Int) (K : TV → TMem → Prop) : TW PP 44 Γ152 H152 W152 (List.length ([] : TMem)) (bodyOf Tryz.f152) (endT PP 44 [.tmp 4] [.x] [] (List.length ([] : TMem)) K) (argsF [.agg [.pl .int p1, .pl .int p2, .pl .int p3, .pl .int p4], .agg [.int .i64 p5, .int .i64 p6, .int .i64 p7]]) [] =
    Mi_TargetOf p1 p2 p3 p4 p5 p6 p7 (fun r1 => K (.int .i64 r1) []) := by kernel_rfl
theorem s152 : CSound PP 152 G152 := by
  intro args K c h fl A aargs hA hN R hl
  unfold G152 at h
  generalize ht : c.tm = tm at h
  revert h
  refine cA_in ?_; rintro l2_ r1_ rfl
  refine cP_in ?_; rintro p1 r3_ rfl
  refine cP_in ?_; rintro p2 r4_ rfl
  refine cP_in ?_; rintro p3 r5_ rfl
  refine cP_in ?_; rintro p4 r6_ rfl
  refine dN_in ?_; rintro rfl
  refine cA_in ?_; rintro l8_ r7_ rfl
  refine cI_in ?_; rintro p5 r9_ rfl
  refine cI_in ?_; rintro p6 r10_ rfl
  refine cI_in ?_; rintro p7 r11_ rfl
  refine dN_in ?_; rintro rfl
  refine dN_in ?_; rintro rfl
  refine dE_in ?_; rintro rfl
  intro h
  refine fun_ok (nt := 44) (x := bodyOf Tryz.f152) (Γ := Γ152) (H := H152) (WW := W152) (rs := [.tmp 4]) (shs := [.x]) (cons := []) mixed Tryz.func152 (by decide) (by kernel_rfl) Tryz.ntmps152 Tryz.results152 (.cons (useC_ok s45) (.cons (useC_ok s136) (GSound.nil))) ?_ hA hN R hl
  rw [ht, e152 p1 p2 p3 p4 p5 p6 p7 K]
  exact h
/-! impl.AllocCell -/
def G138 : Con := fun args tm K => cA args fun l2_ r1_ => cP .int l2_ fun p1 r3_ => cP .int r3_ fun p2 r4_ => cP .int r4_ fun p3 r5_ => cP .int r5_ fun p4 r6_ => dNil r6_ <| cI .i64 r1_ fun p5 r7_ => dNil r7_ <| dEnd tm <| Mi_AllocCell p1 p2 p3 p4 p5 (fun r1 r2 r3 r4 r5 r6 => K (.tup [.agg [.sl 0, .sl 1, .sl 2, .sl 3], .int .i64 r1, .bool r2]) [⟨true, .list .int r3⟩, ⟨true, .list .int r4⟩, ⟨true, .list .int r5⟩, ⟨true, .list .int r6⟩])
def H138 : List (Nat × LH) := []
def W138 : List (Nat × List (Nat × List Nat)) := []
def Γ138 : List (Nat × Con) := [(45, useC [.ag [.pure .int, .pure .int, .pure .int, .pure .int]] G45), (67, useC [.ag [.pure .int, .pure .int, .pure .int, .pure .int]] G67)]
theorem e138 (p1 : List Int) (p2 : List Int) (p3 : List Int) (p4 : List Int) (p5 : Int) (K : TV → TMem → Prop) : TW PP 48 Γ138 H138 W138 (List.length ([] : TMem)) (bodyOf Tryz.f138) (endT PP 48 [.cell 4 27, .tmp 5, .tmp 6] [.ag [.own .int, .own .int, .own .int, .own .int], .x, .bl] [] (List.length ([] : TMem)) K) (argsF [.agg [.pl .int p1, .pl .int p2, .pl .int p3, .pl .int p4], .int .i64 p5]) [] =
    Mi_AllocCell p1 p2 p3 p4 p5 (fun r1 r2 r3 r4 r5 r6 => K (.tup [.agg [.sl 0, .sl 1, .sl 2, .sl 3], .int .i64 r1, .bool r2]) [⟨true, .list .int r3⟩, ⟨true, .list .int r4⟩, ⟨true, .list .int r5⟩, ⟨true, .list .int r6⟩]) := by kernel_rfl
theorem s138 : CSound PP 138 G138 := by
  intro args K c h fl A aargs hA hN R hl
  unfold G138 at h
  generalize ht : c.tm = tm at h
  revert h
  refine cA_in ?_; rintro l2_ r1_ rfl
  refine cP_in ?_; rintro p1 r3_ rfl
  refine cP_in ?_; rintro p2 r4_ rfl
  refine cP_in ?_; rintro p3 r5_ rfl
  refine cP_in ?_; rintro p4 r6_ rfl
  refine dN_in ?_; rintro rfl
  refine cI_in ?_; rintro p5 r7_ rfl
  refine dN_in ?_; rintro rfl
  refine dE_in ?_; rintro rfl
  intro h
  refine fun_ok (nt := 48) (x := bodyOf Tryz.f138) (Γ := Γ138) (H := H138) (WW := W138) (rs := [.cell 4 27, .tmp 5, .tmp 6]) (shs := [.ag [.own .int, .own .int, .own .int, .own .int], .x, .bl]) (cons := []) mixed Tryz.func138 (by decide) (by kernel_rfl) Tryz.ntmps138 Tryz.results138 (.cons (useC_ok s45) (.cons (useC_ok s67) (GSound.nil))) ?_ hA hN R hl
  rw [ht, e138 p1 p2 p3 p4 p5 K]
  exact h
/-! impl.RunOp -/
def G68 : Con := fun args tm K => cA args fun l2_ r1_ => cP .int l2_ fun p1 r3_ => cP .int r3_ fun p2 r4_ => cP .int r4_ fun p3 r5_ => cP .int r5_ fun p4 r6_ => dNil r6_ <| cA r1_ fun l8_ r7_ => cI .i64 l8_ fun p5 r9_ => cI .i64 r9_ fun p6 r10_ => cI .i64 r10_ fun p7 r11_ => dNil r11_ <| dNil r7_ <| dEnd tm <| Mi_RunOp p1 p2 p3 p4 p5 p6 p7 (fun r1 r2 r3 r4 r5 r6 => K (.tup [.agg [.sl 0, .sl 1, .sl 2, .sl 3], .int .i64 r1, .bool r2]) [⟨true, .list .int r3⟩, ⟨true, .list .int r4⟩, ⟨true, .list .int r5⟩, ⟨true, .list .int r6⟩])
def H68 : List (Nat × LH) := []
def W68 : List (Nat × List (Nat × List Nat)) := []
def Γ68 : List (Nat × Con) := [(45, useC [.ag [.pure .int, .pure .int, .pure .int, .pure .int]] G45), (136, useC [.ag [.x, .x, .x], .x] G136), (67, useC [.ag [.pure .int, .pure .int, .pure .int, .pure .int]] G67), (138, useC [.ag [.pure .int, .pure .int, .pure .int, .pure .int], .x] G138)]
theorem e68 (p1 : List Int) (p2 : List Int) (p3 : List Int) (p4 : List Int) (p5 : Int) (p6 : Int) (p7 : Int) (K : TV → TMem → Prop) : TW PP 133 Γ68 H68 W68 (List.length ([] : TMem)) (bodyOf Tryz.f68) (endT PP 133 [.cell 4 27, .tmp 5, .tmp 6] [.ag [.own .int, .own .int, .own .int, .own .int], .x, .bl] [] (List.length ([] : TMem)) K) (argsF [.agg [.pl .int p1, .pl .int p2, .pl .int p3, .pl .int p4], .agg [.int .i64 p5, .int .i64 p6, .int .i64 p7]]) [] =
    Mi_RunOp p1 p2 p3 p4 p5 p6 p7 (fun r1 r2 r3 r4 r5 r6 => K (.tup [.agg [.sl 0, .sl 1, .sl 2, .sl 3], .int .i64 r1, .bool r2]) [⟨true, .list .int r3⟩, ⟨true, .list .int r4⟩, ⟨true, .list .int r5⟩, ⟨true, .list .int r6⟩]) := by kernel_rfl
theorem s68 : CSound PP 68 G68 := by
  intro args K c h fl A aargs hA hN R hl
  unfold G68 at h
  generalize ht : c.tm = tm at h
  revert h
  refine cA_in ?_; rintro l2_ r1_ rfl
  refine cP_in ?_; rintro p1 r3_ rfl
  refine cP_in ?_; rintro p2 r4_ rfl
  refine cP_in ?_; rintro p3 r5_ rfl
  refine cP_in ?_; rintro p4 r6_ rfl
  refine dN_in ?_; rintro rfl
  refine cA_in ?_; rintro l8_ r7_ rfl
  refine cI_in ?_; rintro p5 r9_ rfl
  refine cI_in ?_; rintro p6 r10_ rfl
  refine cI_in ?_; rintro p7 r11_ rfl
  refine dN_in ?_; rintro rfl
  refine dN_in ?_; rintro rfl
  refine dE_in ?_; rintro rfl
  intro h
  refine fun_ok (nt := 133) (x := bodyOf Tryz.f68) (Γ := Γ68) (H := H68) (WW := W68) (rs := [.cell 4 27, .tmp 5, .tmp 6]) (shs := [.ag [.own .int, .own .int, .own .int, .own .int], .x, .bl]) (cons := []) mixed Tryz.func68 (by decide) (by kernel_rfl) Tryz.ntmps68 Tryz.results68 (.cons (useC_ok s45) (.cons (useC_ok s136) (.cons (useC_ok s67) (.cons (useC_ok s138) (GSound.nil))))) ?_ hA hN R hl
  rw [ht, e68 p1 p2 p3 p4 p5 p6 p7 K]
  exact h
/-! impl.has -/
def G193 : Con := fun args tm K => cA args fun l2_ r1_ => cP .int l2_ fun p1 r3_ => cP .int r3_ fun p2 r4_ => cP .int r4_ fun p3 r5_ => dNil r5_ <| cI .i64 r1_ fun p4 r6_ => dNil r6_ <| dEnd tm <| Mi_has p1 p2 p3 p4 (fun r1 => K (.bool r1) [])
def H193 : List (Nat × LH) := []
def W193 : List (Nat × List (Nat × List Nat)) := []
def Γ193 : List (Nat × Con) := [(74, useC [.ag [.pure .int, .pure .int, .pure .int]] G74)]
theorem e193 (p1 : List Int) (p2 : List Int) (p3 : List Int) (p4 : Int) (K : TV → TMem → Prop) : TW PP 18 Γ193 H193 W193 (List.length ([] : TMem)) (bodyOf Tryz.f193) (endT PP 18 [.tmp 4] [.bl] [] (List.length ([] : TMem)) K) (argsF [.agg [.pl .int p1, .pl .int p2, .pl .int p3], .int .i64 p4]) [] =
    Mi_has p1 p2 p3 p4 (fun r1 => K (.bool r1) []) := by kernel_rfl
theorem s193 : CSound PP 193 G193 := by
  intro args K c h fl A aargs hA hN R hl
  unfold G193 at h
  generalize ht : c.tm = tm at h
  revert h
  refine cA_in ?_; rintro l2_ r1_ rfl
  refine cP_in ?_; rintro p1 r3_ rfl
  refine cP_in ?_; rintro p2 r4_ rfl
  refine cP_in ?_; rintro p3 r5_ rfl
  refine dN_in ?_; rintro rfl
  refine cI_in ?_; rintro p4 r6_ rfl
  refine dN_in ?_; rintro rfl
  refine dE_in ?_; rintro rfl
  intro h
  refine fun_ok (nt := 18) (x := bodyOf Tryz.f193) (Γ := Γ193) (H := H193) (WW := W193) (rs := [.tmp 4]) (shs := [.bl]) (cons := []) mixed Tryz.func193 (by decide) (by kernel_rfl) Tryz.ntmps193 Tryz.results193 (.cons (useC_ok s74) (GSound.nil)) ?_ hA hN R hl
  rw [ht, e193 p1 p2 p3 p4 K]
  exact h
/-! impl.ColorNew -/
def G153 : Con := fun args tm K => cA args fun l2_ r1_ => cP .int l2_ fun p1 r3_ => cP .int r3_ fun p2 r4_ => cP .int r4_ fun p3 r5_ => cP .int r5_ fun p4 r6_ => dNil r6_ <| cA r1_ fun l8_ r7_ => cI .i64 l8_ fun p5 r9_ => cP .int r9_ fun p6 r10_ => cI .i64 r10_ fun p7 r11_ => dNil r11_ <| cI .i64 r7_ fun p8 r12_ => dNil r12_ <| dEnd tm <| Mi_ColorNew p1 p2 p3 p4 p5 p6 p7 p8 (fun r1 r2 r3 r4 => K (.tup [.agg [.int .i64 r1, .sl 0, .int .i64 r2], .bool r3]) [⟨true, .list .int r4⟩])
def H153 : List (Nat × LH) := []
def W153 : List (Nat × List (Nat × List Nat)) := []
def Γ153 : List (Nat × Con) := [(91, useC [.ag [.pure .int, .pure .int, .pure .int, .pure .int], .ag [.x, .pure .int, .x]] G91), (193, useC [.ag [.pure .int, .pure .int, .pure .int], .x] G193), (92, useC [.pure .int] G92)]
theorem e153 (p1 : List Int) (p2 : List Int) (p3 : List Int) (p4 : List Int) (p5 : Int) (p6 : List Int) (p7 : Int) (p8 : Int) (K : TV → TMem → Prop) : TW PP 52 Γ153 H153 W153 (List.length ([] : TMem)) (bodyOf Tryz.f153) (endT PP 52 [.cell 6 29, .tmp 7] [.ag [.x, .own .int, .x], .bl] [] (List.length ([] : TMem)) K) (argsF [.agg [.pl .int p1, .pl .int p2, .pl .int p3, .pl .int p4], .agg [.int .i64 p5, .pl .int p6, .int .i64 p7], .int .i64 p8]) [] =
    Mi_ColorNew p1 p2 p3 p4 p5 p6 p7 p8 (fun r1 r2 r3 r4 => K (.tup [.agg [.int .i64 r1, .sl 0, .int .i64 r2], .bool r3]) [⟨true, .list .int r4⟩]) := by kernel_rfl
theorem s153 : CSound PP 153 G153 := by
  intro args K c h fl A aargs hA hN R hl
  unfold G153 at h
  generalize ht : c.tm = tm at h
  revert h
  refine cA_in ?_; rintro l2_ r1_ rfl
  refine cP_in ?_; rintro p1 r3_ rfl
  refine cP_in ?_; rintro p2 r4_ rfl
  refine cP_in ?_; rintro p3 r5_ rfl
  refine cP_in ?_; rintro p4 r6_ rfl
  refine dN_in ?_; rintro rfl
  refine cA_in ?_; rintro l8_ r7_ rfl
  refine cI_in ?_; rintro p5 r9_ rfl
  refine cP_in ?_; rintro p6 r10_ rfl
  refine cI_in ?_; rintro p7 r11_ rfl
  refine dN_in ?_; rintro rfl
  refine cI_in ?_; rintro p8 r12_ rfl
  refine dN_in ?_; rintro rfl
  refine dE_in ?_; rintro rfl
  intro h
  refine fun_ok (nt := 52) (x := bodyOf Tryz.f153) (Γ := Γ153) (H := H153) (WW := W153) (rs := [.cell 6 29, .tmp 7]) (shs := [.ag [.x, .own .int, .x], .bl]) (cons := []) mixed Tryz.func153 (by decide) (by kernel_rfl) Tryz.ntmps153 Tryz.results153 (.cons (useC_ok s91) (.cons (useC_ok s193) (.cons (useC_ok s92) (GSound.nil)))) ?_ hA hN R hl
  rw [ht, e153 p1 p2 p3 p4 p5 p6 p7 p8 K]
  exact h
/-! impl.shade -/
def G156 : Con := fun args tm K => cL 0 args fun r1_ => cI .i64 r1_ fun p1 r2_ => dNil r2_ <| bL true .int tm fun p2 m3_ => dEnd m3_ <| Mi_shade p1 p2 (fun r1 => K (.tup []) [⟨true, .list .int r1⟩])
def H156 : List (Nat × LH) := []
def W156 : List (Nat × List (Nat × List Nat)) := []
def Γ156 : List (Nat × Con) := []
theorem e156 (p1 : Int) (p2 : List Int) (K : TV → TMem → Prop) : TW PP 16 Γ156 H156 W156 (List.length ([⟨true, .list .int p2⟩] : TMem)) (bodyOf Tryz.f156) (endT PP 16 [] [] [] (List.length ([⟨true, .list .int p2⟩] : TMem)) K) (argsF [.sl 0, .int .i64 p1]) [⟨true, .list .int p2⟩] =
    Mi_shade p1 p2 (fun r1 => K (.tup []) [⟨true, .list .int r1⟩]) := by kernel_rfl
theorem s156 : CSound PP 156 G156 := by
  intro args K c h fl A aargs hA hN R hl
  unfold G156 at h
  generalize ht : c.tm = tm at h
  revert h
  refine cL_in ?_; rintro r1_ rfl
  refine cI_in ?_; rintro p1 r2_ rfl
  refine dN_in ?_; rintro rfl
  refine bL_in ?_; rintro p2 m3_ rfl
  refine dE_in ?_; rintro rfl
  intro h
  refine fun_ok (nt := 16) (x := bodyOf Tryz.f156) (Γ := Γ156) (H := H156) (WW := W156) (rs := []) (shs := []) (cons := []) mixed Tryz.func156 (by decide) (by kernel_rfl) Tryz.ntmps156 Tryz.results156 (GSound.nil) ?_ hA hN R hl
  rw [ht, e156 p1 p2 K]
  exact h
/-! impl.ShadeGc -/
def G154 : Con := fun args tm K => cA args fun l2_ r1_ => cP .int l2_ fun p1 r3_ => cP .int r3_ fun p2 r4_ => cP .int r4_ fun p3 r5_ => cP .int r5_ fun p4 r6_ => dNil r6_ <| cA r1_ fun l8_ r7_ => cI .i64 l8_ fun p5 r9_ => cP .int r9_ fun p6 r10_ => cI .i64 r10_ fun p7 r11_ => dNil r11_ <| cI .i64 r7_ fun p8 r12_ => dNil r12_ <| dEnd tm <| Mi_ShadeGc p1 p2 p3 p4 p5 p6 p7 p8 (fun r1 r2 r3 r4 => K (.tup [.agg [.int .i64 r1, .sl 0, .int .i64 r2], .bool r3]) [⟨true, .list .int r4⟩])
def H154 : List (Nat × LH) := []
def W154 : List (Nat × List (Nat × List Nat)) := []
def Γ154 : List (Nat × Con) := [(91, useC [.ag [.pure .int, .pure .int, .pure .int, .pure .int], .ag [.x, .pure .int, .x]] G91), (193, useC [.ag [.pure .int, .pure .int, .pure .int], .x] G193), (92, useC [.pure .int] G92), (156, useC [.own .int, .x] G156)]
theorem e154 (p1 : List Int) (p2 : List Int) (p3 : List Int) (p4 : List Int) (p5 : Int) (p6 : List Int) (p7 : Int) (p8 : Int) (K : TV → TMem → Prop) : TW PP 37 Γ154 H154 W154 (List.length ([] : TMem)) (bodyOf Tryz.f154) (endT PP 37 [.cell 6 29, .tmp 7] [.ag [.x, .own .int, .x], .bl] [] (List.length ([] : TMem)) K) (argsF [.agg [.pl .int p1, .pl .int p2, .pl .int p3, .pl .int p4], .agg [.int .i64 p5, .pl .int p6, .int .i64 p7], .int .i64 p8]) [] =
    Mi_ShadeGc p1 p2 p3 p4 p5 p6 p7 p8 (fun r1 r2 r3 r4 => K (.tup [.agg [.int .i64 r1, .sl 0, .int .i64 r2], .bool r3]) [⟨true, .list .int r4⟩]) := by kernel_rfl
theorem s154 : CSound PP 154 G154 := by
  intro args K c h fl A aargs hA hN R hl
  unfold G154 at h
  generalize ht : c.tm = tm at h
  revert h
  refine cA_in ?_; rintro l2_ r1_ rfl
  refine cP_in ?_; rintro p1 r3_ rfl
  refine cP_in ?_; rintro p2 r4_ rfl
  refine cP_in ?_; rintro p3 r5_ rfl
  refine cP_in ?_; rintro p4 r6_ rfl
  refine dN_in ?_; rintro rfl
  refine cA_in ?_; rintro l8_ r7_ rfl
  refine cI_in ?_; rintro p5 r9_ rfl
  refine cP_in ?_; rintro p6 r10_ rfl
  refine cI_in ?_; rintro p7 r11_ rfl
  refine dN_in ?_; rintro rfl
  refine cI_in ?_; rintro p8 r12_ rfl
  refine dN_in ?_; rintro rfl
  refine dE_in ?_; rintro rfl
  intro h
  refine fun_ok (nt := 37) (x := bodyOf Tryz.f154) (Γ := Γ154) (H := H154) (WW := W154) (rs := [.cell 6 29, .tmp 7]) (shs := [.ag [.x, .own .int, .x], .bl]) (cons := []) mixed Tryz.func154 (by decide) (by kernel_rfl) Tryz.ntmps154 Tryz.results154 (.cons (useC_ok s91) (.cons (useC_ok s193) (.cons (useC_ok s92) (.cons (useC_ok s156) (GSound.nil))))) ?_ hA hN R hl
  rw [ht, e154 p1 p2 p3 p4 p5 p6 p7 p8 K]
  exact h
/-! impl.step -/
def G93 : Con := fun args tm K => cA args fun l2_ r1_ => cP .int l2_ fun p1 r3_ => cP .int r3_ fun p2 r4_ => cP .int r4_ fun p3 r5_ => cP .int r5_ fun p4 r6_ => cI .i64 r6_ fun p5 r7_ => cP .int r7_ fun p6 r8_ => cI .i64 r8_ fun p7 r9_ => cP .op r9_ fun p8 r10_ => cI .i64 r10_ fun p9 r11_ => cB r11_ fun p10 r12_ => dNil r12_ <| cB r1_ fun p11 r13_ => dNil r13_ <| dEnd tm <| Mi_step p1 p2 p3 p4 p5 p6 p7 p8 p9 p10 p11 (fun r1 r2 r3 r4 r5 r6 r7 r8 r9 r10 r11 r12 => K (.tup [.agg [.sl 0, .sl 1, .sl 2, .sl 3, .int .i64 r1, .sl 4, .int .i64 r2, .sl 5, .int .i64 r3, .bool r4], .int .i64 r5, .bool r6]) [⟨true, .list .int r7⟩, ⟨true, .list .int r8⟩, ⟨true, .list .int r9⟩, ⟨true, .list .int r10⟩, ⟨true, .list .int r11⟩, ⟨true, .list .op r12⟩])
def H93_1000004 : LH where
  keep := [(1, .bl), (2, .pc [.own .int, .own .int, .own .int, .own .int, .x, .own .int, .x, .own .op, .x, .bl]), (4, .pc [.own .int, .own .int, .own .int, .own .int, .x, .own .int, .x, .own .op, .x, .bl])]
  S := Bool × Int × Int × Int × Bool × Int × Int × Int × Bool × List Int × List Int × List Int × List Int × List Int × List OpV × List Int × List Int × List Int × List Int × List Int × List OpV
  enc := fun s => ([.bool s.1, .ptr 0 0, .ptr 1 0], [⟨true, .cells [.sl 2, .sl 3, .sl 4, .sl 5, .int .i64 s.2.1, .sl 6, .int .i64 s.2.2.1, .sl 7, .int .i64 s.2.2.2.1, .bool s.2.2.2.2.1]⟩, ⟨true, .cells [.sl 8, .sl 9, .sl 10, .sl 11, .int .i64 s.2.2.2.2.2.1, .sl 12, .int .i64 s.2.2.2.2.2.2.1, .sl 13, .int .i64 s.2.2.2.2.2.2.2.1, .bool s.2.2.2.2.2.2.2.2.1]⟩, ⟨true, .list .int s.2.2.2.2.2.2.2.2.2.1⟩, ⟨true, .list .int s.2.2.2.2.2.2.2.2.2.2.1⟩, ⟨true, .list .int s.2.2.2.2.2.2.2.2.2.2.2.1⟩, ⟨true, .list .int s.2.2.2.2.2.2.2.2.2.2.2.2.1⟩, ⟨true, .list .int s.2.2.2.2.2.2.2.2.2.2.2.2.2.1⟩, ⟨true, .list .op s.2.2.2.2.2.2.2.2.2.2.2.2.2.2.1⟩, ⟨true, .list .int s.2.2.2.2.2.2.2.2.2.2.2.2.2.2.2.1⟩, ⟨true, .list .int s.2.2.2.2.2.2.2.2.2.2.2.2.2.2.2.2.1⟩, ⟨true, .list .int s.2.2.2.2.2.2.2.2.2.2.2.2.2.2.2.2.2.1⟩, ⟨true, .list .int s.2.2.2.2.2.2.2.2.2.2.2.2.2.2.2.2.2.2.1⟩, ⟨true, .list .int s.2.2.2.2.2.2.2.2.2.2.2.2.2.2.2.2.2.2.2.1⟩, ⟨true, .list .op s.2.2.2.2.2.2.2.2.2.2.2.2.2.2.2.2.2.2.2.2⟩])
  dec := fun vs tm K => cB vs fun q0 r1_ => cQ 0 r1_ fun r2_ => cQ 1 r2_ fun r3_ => dNil r3_ <| bC true tm fun c5_ m4_ => cL 2 c5_ fun r6_ => cL 3 r6_ fun r7_ => cL 4 r7_ fun r8_ => cL 5 r8_ fun r9_ => cI .i64 r9_ fun q1 r10_ => cL 6 r10_ fun r11_ => cI .i64 r11_ fun q2 r12_ => cL 7 r12_ fun r13_ => cI .i64 r13_ fun q3 r14_ => cB r14_ fun q4 r15_ => dNil r15_ <| bC true m4_ fun c17_ m16_ => cL 8 c17_ fun r18_ => cL 9 r18_ fun r19_ => cL 10 r19_ fun r20_ => cL 11 r20_ fun r21_ => cI .i64 r21_ fun q5 r22_ => cL 12 r22_ fun r23_ => cI .i64 r23_ fun q6 r24_ => cL 13 r24_ fun r25_ => cI .i64 r25_ fun q7 r26_ => cB r26_ fun q8 r27_ => dNil r27_ <| bL true .int m16_ fun q9 m28_ => bL true .int m28_ fun q10 m29_ => bL true .int m29_ fun q11 m30_ => bL true .int m30_ fun q12 m31_ => bL true .int m31_ fun q13 m32_ => bL true .op m32_ fun q14 m33_ => bL true .int m33_ fun q15 m34_ => bL true .int m34_ fun q16 m35_ => bL true .int m35_ fun q17 m36_ => bL true .int m36_ fun q18 m37_ => bL true .int m37_ fun q19 m38_ => bL true .op m38_ fun q20 m39_ => dEnd m39_ <| K (q0, q1, q2, q3, q4, q5, q6, q7, q8, q9, q10, q11, q12, q13, q14, q15, q16, q17, q18, q19, q20)
  law := by
    intro vs tm K
    refine cB_in ?_; rintro q0 r1_ rfl
    refine cQ_in ?_; rintro r2_ rfl
    refine cQ_in ?_; rintro r3_ rfl
    refine dN_in ?_; rintro rfl
    refine bC_in ?_; rintro c5_ m4_ rfl
    refine cL_in ?_; rintro r6_ rfl
    refine cL_in ?_; rintro r7_ rfl
    refine cL_in ?_; rintro r8_ rfl
    refine cL_in ?_; rintro r9_ rfl
    refine cI_in ?_; rintro q1 r10_ rfl
    refine cL_in ?_; rintro r11_ rfl
    refine cI_in ?_; rintro q2 r12_ rfl
    refine cL_in ?_; rintro r13_ rfl
    refine cI_in ?_; rintro q3 r14_ rfl
    refine cB_in ?_; rintro q4 r15_ rfl
    refine dN_in ?_; rintro rfl
    refine bC_in ?_; rintro c17_ m16_ rfl
    refine cL_in ?_; rintro r18_ rfl
    refine cL_in ?_; rintro r19_ rfl
    refine cL_in ?_; rintro r20_ rfl
    refine cL_in ?_; rintro r21_ rfl
    refine cI_in ?_; rintro q5 r22_ rfl
    refine cL_in ?_; rintro r23_ rfl
    refine cI_in ?_; rintro q6 r24_ rfl
    refine cL_in ?_; rintro r25_ rfl
    refine cI_in ?_; rintro q7 r26_ rfl
    refine cB_in ?_; rintro q8 r27_ rfl
    refine dN_in ?_; rintro rfl
    refine bL_in ?_; rintro q9 m28_ rfl
    refine bL_in ?_; rintro q10 m29_ rfl
    refine bL_in ?_; rintro q11 m30_ rfl
    refine bL_in ?_; rintro q12 m31_ rfl
    refine bL_in ?_; rintro q13 m32_ rfl
    refine bL_in ?_; rintro q14 m33_ rfl
    refine bL_in ?_; rintro q15 m34_ rfl
    refine bL_in ?_; rintro q16 m35_ rfl
    refine bL_in ?_; rintro q17 m36_ rfl
    refine bL_in ?_; rintro q18 m37_ rfl
    refine bL_in ?_; rintro q19 m38_ rfl
    refine bL_in ?_; rintro q20 m39_ rfl
    refine dE_in ?_; rintro rfl
    exact fun h => ⟨(q0, q1, q2, q3, q4, q5, q6, q7, q8, q9, q10, q11, q12, q13, q14, q15, q16, q17, q18, q19, q20), rfl, h⟩
def H93_1000007 : LH where
  keep := [(1, .bl), (2, .pc [.own .int, .own .int, .own .int, .own .int, .x, .own .int, .x, .own .op, .x, .bl]), (4, .pc [.own .int, .own .int, .own .int, .own .int, .x, .own .int, .x, .own .op, .x, .bl]), (7, .pc [.x, .x, .x]), (8, .x), (9, .pc [.own .int, .own .int, .own .int, .own .int]), (10, .x)]
  S := Bool × Int × Int × Int × Int × Int × Bool × Int × Int × Int × Bool × Int × Int × Int × List Int × List Int × List Int × List Int × List Int × List OpV × List Int × List Int × List Int × List Int × List Int × List OpV × List Int × List Int × List Int × List Int
  enc := fun s => ([.bool s.1, .ptr 0 0, .ptr 1 0, .ptr 2 0, .int .i64 s.2.1, .ptr 3 0, .int .i64 s.2.2.1], [⟨true, .cells [.sl 4, .sl 5, .sl 6, .sl 7, .int .i64 s.2.2.2.1, .sl 8, .int .i64 s.2.2.2.2.1, .sl 9, .int .i64 s.2.2.2.2.2.1, .bool s.2.2.2.2.2.2.1]⟩, ⟨true, .cells [.sl 10, .sl 11, .sl 12, .sl 13, .int .i64 s.2.2.2.2.2.2.2.1, .sl 14, .int .i64 s.2.2.2.2.2.2.2.2.1, .sl 15, .int .i64 s.2.2.2.2.2.2.2.2.2.1, .bool s.2.2.2.2.2.2.2.2.2.2.1]⟩, ⟨true, .cells [.int .i64 s.2.2.2.2.2.2.2.2.2.2.2.1, .int .i64 s.2.2.2.2.2.2.2.2.2.2.2.2.1, .int .i64 s.2.2.2.2.2.2.2.2.2.2.2.2.2.1]⟩, ⟨true, .cells [.sl 16, .sl 17, .sl 18, .sl 19]⟩, ⟨true, .list .int s.2.2.2.2.2.2.2.2.2.2.2.2.2.2.1⟩, ⟨true, .list .int s.2.2.2.2.2.2.2.2.2.2.2.2.2.2.2.1⟩, ⟨true, .list .int s.2.2.2.2.2.2.2.2.2.2.2.2.2.2.2.2.1⟩, ⟨true, .list .int s.2.2.2.2.2.2.2.2.2.2.2.2.2.2.2.2.2.1⟩, ⟨true, .list .int s.2.2.2.2.2.2.2.2.2.2.2.2.2.2.2.2.2.2.1⟩, ⟨true, .list .op s.2.2.2.2.2.2.2.2.2.2.2.2.2.2.2.2.2.2.2.1⟩, ⟨true, .list .int s.2.2.2.2.2.2.2.2.2.2.2.2.2.2.2.2.2.2.2.2.1⟩, ⟨true, .list .int s.2.2.2.2.2.2.2.2.2.2.2.2.2.2.2.2.2.2.2.2.2.1⟩, ⟨true, .list .int s.2.2.2.2.2.2.2.2.2.2.2.2.2.2.2.2.2.2.2.2.2.2.1⟩, ⟨true, .list .int s.2.2.2.2.2.2.2.2.2.2.2.2.2.2.2.2.2.2.2.2.2.2.2.1⟩, ⟨true, .list .int s.2.2.2.2.2.2.2.2.2.2.2.2.2.2.2.2.2.2.2.2.2.2.2.2.1⟩, ⟨true, .list .op s.2.2.2.2.2.2.2.2.2.2.2.2.2.2.2.2.2.2.2.2.2.2.2.2.2.1⟩, ⟨true, .list .int s.2.2.2.2.2.2.2.2.2.2.2.2.2.2.2.2.2.2.2.2.2.2.2.2.2.2.1⟩, ⟨true, .list .int s.2.2.2.2.2.2.2.2.2.2.2.2.2.2.2.2.2.2.2.2.2.2.2.2.2.2.2.1⟩, ⟨true, .list .int s.2.2.2.2.2.2.2.2.2.2.2.2.2.2.2.2.2.2.2.2.2.2.2.2.2.2.2.2.1⟩, ⟨true, .list .int s.2.2.2.2.2.2.2.2.2.2.2.2.2.2.2.2.2.2.2.2.2.2.2.2.2.2.2.2.2⟩])
  dec := fun vs tm K => cB vs fun q0 r1_ => cQ 0 r1_ fun r2_ => cQ 1 r2_ fun r3_ => cQ 2 r3_ fun r4_ => cI .i64 r4_ fun q1 r5_ => cQ 3 r5_ fun r6_ => cI .i64 r6_ fun q2 r7_ => dNil r7_ <| bC true tm fun c9_ m8_ => cL 4 c9_ fun r10_ => cL 5 r10_ fun r11_ => cL 6 r11_ fun r12_ => cL 7 r12_ fun r13_ => cI .i64 r13_ fun q3 r14_ => cL 8 r14_ fun r15_ => cI .i64 r15_ fun q4 r16_ => cL 9 r16_ fun r17_ => cI .i64 r17_ fun q5 r18_ => cB r18_ fun q6 r19_ => dNil r19_ <| bC true m8_ fun c21_ m20_ => cL 10 c21_ fun r22_ => cL 11 r22_ fun r23_ => cL 12 r23_ fun r24_ => cL 13 r24_ fun r25_ => cI .i64 r25_ fun q7 r26_ => cL 14 r26_ fun r27_ => cI .i64 r27_ fun q8 r28_ => cL 15 r28_ fun r29_ => cI .i64 r29_ fun q9 r30_ => cB r30_ fun q10 r31_ => dNil r31_ <| bC true m20_ fun c33_ m32_ => cI .i64 c33_ fun q11 r34_ => cI .i64 r34_ fun q12 r35_ => cI .i64 r35_ fun q13 r36_ => dNil r36_ <| bC true m32_ fun c38_ m37_ => cL 16 c38_ fun r39_ => cL 17 r39_ fun r40_ => cL 18 r40_ fun r41_ => cL 19 r41_ fun r42_ => dNil r42_ <| bL true .int m37_ fun q14 m43_ => bL true .int m43_ fun q15 m44_ => bL true .int m44_ fun q16 m45_ => bL true .int m45_ fun q17 m46_ => bL true .int m46_ fun q18 m47_ => bL true .op m47_ fun q19 m48_ => bL true .int m48_ fun q20 m49_ => bL true .int m49_ fun q21 m50_ => bL true .int m50_ fun q22 m51_ => bL true .int m51_ fun q23 m52_ => bL true .int m52_ fun q24 m53_ => bL true .op m53_ fun q25 m54_ => bL true .int m54_ fun q26 m55_ => bL true .int m55_ fun q27 m56_ => bL true .int m56_ fun q28 m57_ => bL true .int m57_ fun q29 m58_ => dEnd m58_ <| K (q0, q1, q2, q3, q4, q5, q6, q7, q8, q9, q10, q11, q12, q13, q14, q15, q16, q17, q18, q19, q20, q21, q22, q23, q24, q25, q26, q27, q28, q29)
  law := by
    intro vs tm K
    refine cB_in ?_; rintro q0 r1_ rfl
    refine cQ_in ?_; rintro r2_ rfl
    refine cQ_in ?_; rintro r3_ rfl
    refine cQ_in ?_; rintro r4_ rfl
    refine cI_in ?_; rintro q1 r5_ rfl
    refine cQ_in ?_; rintro r6_ rfl
    refine cI_in ?_; rintro q2 r7_ rfl
    refine dN_in ?_; rintro rfl
    refine bC_in ?_; rintro c9_ m8_ rfl
    refine cL_in ?_; rintro r10_ rfl
    refine cL_in ?_; rintro r11_ rfl
    refine cL_in ?_; rintro r12_ rfl
    refine cL_in ?_; rintro r13_ rfl
    refine cI_in ?_; rintro q3 r14_ rfl
    refine cL_in ?_; rintro r15_ rfl
    refine cI_in ?_; rintro q4 r16_ rfl
    refine cL_in ?_; rintro r17_ rfl
    refine cI_in ?_; rintro q5 r18_ rfl
    refine cB_in ?_; rintro q6 r19_ rfl
    refine dN_in ?_; rintro rfl
    refine bC_in ?_; rintro c21_ m20_ rfl
    refine cL_in ?_; rintro r22_ rfl
    refine cL_in ?_; rintro r23_ rfl
    refine cL_in ?_; rintro r24_ rfl
    refine cL_in ?_; rintro r25_ rfl
    refine cI_in ?_; rintro q7 r26_ rfl
    refine cL_in ?_; rintro r27_ rfl
    refine cI_in ?_; rintro q8 r28_ rfl
    refine cL_in ?_; rintro r29_ rfl
    refine cI_in ?_; rintro q9 r30_ rfl
    refine cB_in ?_; rintro q10 r31_ rfl
    refine dN_in ?_; rintro rfl
    refine bC_in ?_; rintro c33_ m32_ rfl
    refine cI_in ?_; rintro q11 r34_ rfl
    refine cI_in ?_; rintro q12 r35_ rfl
    refine cI_in ?_; rintro q13 r36_ rfl
    refine dN_in ?_; rintro rfl
    refine bC_in ?_; rintro c38_ m37_ rfl
    refine cL_in ?_; rintro r39_ rfl
    refine cL_in ?_; rintro r40_ rfl
    refine cL_in ?_; rintro r41_ rfl
    refine cL_in ?_; rintro r42_ rfl
    refine dN_in ?_; rintro rfl
    refine bL_in ?_; rintro q14 m43_ rfl
    refine bL_in ?_; rintro q15 m44_ rfl
    refine bL_in ?_; rintro q16 m45_ rfl
    refine bL_in ?_; rintro q17 m46_ rfl
    refine bL_in ?_; rintro q18 m47_ rfl
    refine bL_in ?_; rintro q19 m48_ rfl
    refine bL_in ?_; rintro q20 m49_ rfl
    refine bL_in ?_; rintro q21 m50_ rfl
    refine bL_in ?_; rintro q22 m51_ rfl
    refine bL_in ?_; rintro q23 m52_ rfl
    refine bL_in ?_; rintro q24 m53_ rfl
    refine bL_in ?_; rintro q25 m54_ rfl
    refine bL_in ?_; rintro q26 m55_ rfl
    refine bL_in ?_; rintro q27 m56_ rfl
    refine bL_in ?_; rintro q28 m57_ rfl
    refine bL_in ?_; rintro q29 m58_ rfl
    refine dE_in ?_; rintro rfl
    exact fun h => ⟨(q0, q1, q2, q3, q4, q5, q6, q7, q8, q9, q10, q11, q12, q13, q14, q15, q16, q17, q18, q19, q20, q21, q22, q23, q24, q25, q26, q27, q28, q29), rfl, h⟩
def H93_1000015 : LH where
  keep := [(2, .pc [.own .int, .own .int, .own .int, .own .int, .x, .own .int, .x, .own .op, .x, .bl]), (4, .pc [.own .int, .own .int, .own .int, .own .int, .x, .own .int, .x, .own .op, .x, .bl]), (10, .x)]
  S := Int × Int × Int × Int × Bool × Int × Int × Int × Bool × List Int × List Int × List Int × List Int × List Int × List OpV × List Int × List Int × List Int × List Int × List Int × List OpV
  enc := fun s => ([.ptr 0 0, .ptr 1 0, .int .i64 s.1], [⟨true, .cells [.sl 2, .sl 3, .sl 4, .sl 5, .int .i64 s.2.1, .sl 6, .int .i64 s.2.2.1, .sl 7, .int .i64 s.2.2.2.1, .bool s.2.2.2.2.1]⟩, ⟨true, .cells [.sl 8, .sl 9, .sl 10, .sl 11, .int .i64 s.2.2.2.2.2.1, .sl 12, .int .i64 s.2.2.2.2.2.2.1, .sl 13, .int .i64 s.2.2.2.2.2.2.2.1, .bool s.2.2.2.2.2.2.2.2.1]⟩, ⟨true, .list .int s.2.2.2.2.2.2.2.2.2.1⟩, ⟨true, .list .int s.2.2.2.2.2.2.2.2.2.2.1⟩, ⟨true, .list .int s.2.2.2.2.2.2.2.2.2.2.2.1⟩, ⟨true, .list .int s.2.2.2.2.2.2.2.2.2.2.2.2.1⟩, ⟨true, .list .int s.2.2.2.2.2.2.2.2.2.2.2.2.2.1⟩, ⟨true, .list .op s.2.2.2.2.2.2.2.2.2.2.2.2.2.2.1⟩, ⟨true, .list .int s.2.2.2.2.2.2.2.2.2.2.2.2.2.2.2.1⟩, ⟨true, .list .int s.2.2.2.2.2.2.2.2.2.2.2.2.2.2.2.2.1⟩, ⟨true, .list .int s.2.2.2.2.2.2.2.2.2.2.2.2.2.2.2.2.2.1⟩, ⟨true, .list .int s.2.2.2.2.2.2.2.2.2.2.2.2.2.2.2.2.2.2.1⟩, ⟨true, .list .int s.2.2.2.2.2.2.2.2.2.2.2.2.2.2.2.2.2.2.2.1⟩, ⟨true, .list .op s.2.2.2.2.2.2.2.2.2.2.2.2.2.2.2.2.2.2.2.2⟩])
  dec := fun vs tm K => cQ 0 vs fun r1_ => cQ 1 r1_ fun r2_ => cI .i64 r2_ fun q0 r3_ => dNil r3_ <| bC true tm fun c5_ m4_ => cL 2 c5_ fun r6_ => cL 3 r6_ fun r7_ => cL 4 r7_ fun r8_ => cL 5 r8_ fun r9_ => cI .i64 r9_ fun q1 r10_ => cL 6 r10_ fun r11_ => cI .i64 r11_ fun q2 r12_ => cL 7 r12_ fun r13_ => cI .i64 r13_ fun q3 r14_ => cB r14_ fun q4 r15_ => dNil r15_ <| bC true m4_ fun c17_ m16_ => cL 8 c17_ fun r18_ => cL 9 r18_ fun r19_ => cL 10 r19_ fun r20_ => cL 11 r20_ fun r21_ => cI .i64 r21_ fun q5 r22_ => cL 12 r22_ fun r23_ => cI .i64 r23_ fun q6 r24_ => cL 13 r24_ fun r25_ => cI .i64 r25_ fun q7 r26_ => cB r26_ fun q8 r27_ => dNil r27_ <| bL true .int m16_ fun q9 m28_ => bL true .int m28_ fun q10 m29_ => bL true .int m29_ fun q11 m30_ => bL true .int m30_ fun q12 m31_ => bL true .int m31_ fun q13 m32_ => bL true .op m32_ fun q14 m33_ => bL true .int m33_ fun q15 m34_ => bL true .int m34_ fun q16 m35_ => bL true .int m35_ fun q17 m36_ => bL true .int m36_ fun q18 m37_ => bL true .int m37_ fun q19 m38_ => bL true .op m38_ fun q20 m39_ => dEnd m39_ <| K (q0, q1, q2, q3, q4, q5, q6, q7, q8, q9, q10, q11, q12, q13, q14, q15, q16, q17, q18, q19, q20)
  law := by
    intro vs tm K
    refine cQ_in ?_; rintro r1_ rfl
    refine cQ_in ?_; rintro r2_ rfl
    refine cI_in ?_; rintro q0 r3_ rfl
    refine dN_in ?_; rintro rfl
    refine bC_in ?_; rintro c5_ m4_ rfl
    refine cL_in ?_; rintro r6_ rfl
    refine cL_in ?_; rintro r7_ rfl
    refine cL_in ?_; rintro r8_ rfl
    refine cL_in ?_; rintro r9_ rfl
    refine cI_in ?_; rintro q1 r10_ rfl
    refine cL_in ?_; rintro r11_ rfl
    refine cI_in ?_; rintro q2 r12_ rfl
    refine cL_in ?_; rintro r13_ rfl
    refine cI_in ?_; rintro q3 r14_ rfl
    refine cB_in ?_; rintro q4 r15_ rfl
    refine dN_in ?_; rintro rfl
    refine bC_in ?_; rintro c17_ m16_ rfl
    refine cL_in ?_; rintro r18_ rfl
    refine cL_in ?_; rintro r19_ rfl
    refine cL_in ?_; rintro r20_ rfl
    refine cL_in ?_; rintro r21_ rfl
    refine cI_in ?_; rintro q5 r22_ rfl
    refine cL_in ?_; rintro r23_ rfl
    refine cI_in ?_; rintro q6 r24_ rfl
    refine cL_in ?_; rintro r25_ rfl
    refine cI_in ?_; rintro q7 r26_ rfl
    refine cB_in ?_; rintro q8 r27_ rfl
    refine dN_in ?_; rintro rfl
    refine bL_in ?_; rintro q9 m28_ rfl
    refine bL_in ?_; rintro q10 m29_ rfl
    refine bL_in ?_; rintro q11 m30_ rfl
    refine bL_in ?_; rintro q12 m31_ rfl
    refine bL_in ?_; rintro q13 m32_ rfl
    refine bL_in ?_; rintro q14 m33_ rfl
    refine bL_in ?_; rintro q15 m34_ rfl
    refine bL_in ?_; rintro q16 m35_ rfl
    refine bL_in ?_; rintro q17 m36_ rfl
    refine bL_in ?_; rintro q18 m37_ rfl
    refine bL_in ?_; rintro q19 m38_ rfl
    refine bL_in ?_; rintro q20 m39_ rfl
    refine dE_in ?_; rintro rfl
    exact fun h => ⟨(q0, q1, q2, q3, q4, q5, q6, q7, q8, q9, q10, q11, q12, q13, q14, q15, q16, q17, q18, q19, q20), rfl, h⟩
def H93 : List (Nat × LH) := [(1000004, H93_1000004), (1000007, H93_1000007), (1000015, H93_1000015)]
def W93 : List (Nat × List (Nat × List Nat)) := []
def Γ93 : List (Nat × Con) := [(34, useC [.ag [.pure .int, .pure .int, .pure .int, .pure .int, .x, .pure .int, .x, .pure .op, .x, .bl]] G34), (35, useC [.ag [.pure .int, .pure .int, .pure .int, .pure .int, .x, .pure .int, .x, .pure .op, .x, .bl]] G35), (152, useC [.ag [.pure .int, .pure .int, .pure .int, .pure .int], .ag [.x, .x, .x]] G152), (68, useC [.ag [.pure .int, .pure .int, .pure .int, .pure .int], .ag [.x, .x, .x]] G68), (153, useC [.ag [.pure .int, .pure .int, .pure .int, .pure .int], .ag [.x, .pure .int, .x], .x] G153), (154, useC [.ag [.pure .int, .pure .int, .pure .int, .pure .int], .ag [.x, .pure .int, .x], .x] G154)]
theorem q93_15 (s : H93_1000015.S) (K : TV → TMem → Prop) : segT PP 95 Γ93 H93 W93 0 (sufC 11 (bodyOf Tryz.f93)) (endT PP 95 [.cell 4 32, .tmp 5, .tmp 6] [.ag [.own .int, .own .int, .own .int, .own .int, .x, .own .int, .x, .own .op, .x, .bl], .x, .bl] [] 0 K) (frameOf H93_1000015.keep (H93_1000015.enc s).1) (H93_1000015.enc s).2 =
    Mi_step_c15 s.1 s.2.1 s.2.2.1 s.2.2.2.1 s.2.2.2.2.1 s.2.2.2.2.2.1 s.2.2.2.2.2.2.1 s.2.2.2.2.2.2.2.1 s.2.2.2.2.2.2.2.2.1 s.2.2.2.2.2.2.2.2.2.1 s.2.2.2.2.2.2.2.2.2.2.1 s.2.2.2.2.2.2.2.2.2.2.2.1 s.2.2.2.2.2.2.2.2.2.2.2.2.1 s.2.2.2.2.2.2.2.2.2.2.2.2.2.1 s.2.2.2.2.2.2.2.2.2.2.2.2.2.2.1 s.2.2.2.2.2.2.2.2.2.2.2.2.2.2.2.1 s.2.2.2.2.2.2.2.2.2.2.2.2.2.2.2.2.1 s.2.2.2.2.2.2.2.2.2.2.2.2.2.2.2.2.2.1 s.2.2.2.2.2.2.2.2.2.2.2.2.2.2.2.2.2.2.1 s.2.2.2.2.2.2.2.2.2.2.2.2.2.2.2.2.2.2.2.1 s.2.2.2.2.2.2.2.2.2.2.2.2.2.2.2.2.2.2.2.2 (fun r1 r2 r3 r4 r5 r6 r7 r8 r9 r10 r11 r12 => K (.tup [.agg [.sl 0, .sl 1, .sl 2, .sl 3, .int .i64 r1, .sl 4, .int .i64 r2, .sl 5, .int .i64 r3, .bool r4], .int .i64 r5, .bool r6]) [⟨true, .list .int r7⟩, ⟨true, .list .int r8⟩, ⟨true, .list .int r9⟩, ⟨true, .list .int r10⟩, ⟨true, .list .int r11⟩, ⟨true, .list .op r12⟩]) := by kernel_rfl
theorem j93_15 (K : TV → TMem → Prop) (ts : TFrm) (tm : TMem) : (headT 0 H93_1000015 ts tm fun s => Mi_step_c15 s.1 s.2.1 s.2.2.1 s.2.2.2.1 s.2.2.2.2.1 s.2.2.2.2.2.1 s.2.2.2.2.2.2.1 s.2.2.2.2.2.2.2.1 s.2.2.2.2.2.2.2.2.1 s.2.2.2.2.2.2.2.2.2.1 s.2.2.2.2.2.2.2.2.2.2.1 s.2.2.2.2.2.2.2.2.2.2.2.1 s.2.2.2.2.2.2.2.2.2.2.2.2.1 s.2.2.2.2.2.2.2.2.2.2.2.2.2.1 s.2.2.2.2.2.2.2.2.2.2.2.2.2.2.1 s.2.2.2.2.2.2.2.2.2.2.2.2.2.2.2.1 s.2.2.2.2.2.2.2.2.2.2.2.2.2.2.2.2.1 s.2.2.2.2.2.2.2.2.2.2.2.2.2.2.2.2.2.1 s.2.2.2.2.2.2.2.2.2.2.2.2.2.2.2.2.2.2.1 s.2.2.2.2.2.2.2.2.2.2.2.2.2.2.2.2.2.2.2.1 s.2.2.2.2.2.2.2.2.2.2.2.2.2.2.2.2.2.2.2.2 (fun r1 r2 r3 r4 r5 r6 r7 r8 r9 r10 r11 r12 => K (.tup [.agg [.sl 0, .sl 1, .sl 2, .sl 3, .int .i64 r1, .sl 4, .int .i64 r2, .sl 5, .int .i64 r3, .bool r4], .int .i64 r5, .bool r6]) [⟨true, .list .int r7⟩, ⟨true, .list .int r8⟩, ⟨true, .list .int r9⟩, ⟨true, .list .int r10⟩, ⟨true, .list .int r11⟩, ⟨true, .list .op r12⟩])) = TW PP 95 Γ93 H93 W93 0 (sufC 11 (bodyOf Tryz.f93)) (endT PP 95 [.cell 4 32, .tmp 5, .tmp 6] [.ag [.own .int, .own .int, .own .int, .own .int, .x, .own .int, .x, .own .op, .x, .bl], .x, .bl] [] 0 K) ts tm :=
  TW_seg (by kernel_rfl : regOf (sufC 11 (bodyOf Tryz.f93)) = some 15) (by kernel_rfl) (fun s => q93_15 s K) ts tm
theorem r93_7 (s : H93_1000007.S) (K : TV → TMem → Prop) : segN PP 95 Γ93 H93 W93 0 4 (sufC 6 (bodyOf Tryz.f93)) (fun ts tm => headT 0 H93_1000015 ts tm fun s => Mi_step_c15 s.1 s.2.1 s.2.2.1 s.2.2.2.1 s.2.2.2.2.1 s.2.2.2.2.2.1 s.2.2.2.2.2.2.1 s.2.2.2.2.2.2.2.1 s.2.2.2.2.2.2.2.2.1 s.2.2.2.2.2.2.2.2.2.1 s.2.2.2.2.2.2.2.2.2.2.1 s.2.2.2.2.2.2.2.2.2.2.2.1 s.2.2.2.2.2.2.2.2.2.2.2.2.1 s.2.2.2.2.2.2.2.2.2.2.2.2.2.1 s.2.2.2.2.2.2.2.2.2.2.2.2.2.2.1 s.2.2.2.2.2.2.2.2.2.2.2.2.2.2.2.1 s.2.2.2.2.2.2.2.2.2.2.2.2.2.2.2.2.1 s.2.2.2.2.2.2.2.2.2.2.2.2.2.2.2.2.2.1 s.2.2.2.2.2.2.2.2.2.2.2.2.2.2.2.2.2.2.1 s.2.2.2.2.2.2.2.2.2.2.2.2.2.2.2.2.2.2.2.1 s.2.2.2.2.2.2.2.2.2.2.2.2.2.2.2.2.2.2.2.2 (fun r1 r2 r3 r4 r5 r6 r7 r8 r9 r10 r11 r12 => K (.tup [.agg [.sl 0, .sl 1, .sl 2, .sl 3, .int .i64 r1, .sl 4, .int .i64 r2, .sl 5, .int .i64 r3, .bool r4], .int .i64 r5, .bool r6]) [⟨true, .list .int r7⟩, ⟨true, .list .int r8⟩, ⟨true, .list .int r9⟩, ⟨true, .list .int r10⟩, ⟨true, .list .int r11⟩, ⟨true, .list .op r12⟩])) (endT PP 95 [.cell 4 32, .tmp 5, .tmp 6] [.ag [.own .int, .own .int, .own .int, .own .int, .x, .own .int, .x, .own .op, .x, .bl], .x, .bl] [] 0 K) (frameOf H93_1000007.keep (H93_1000007.enc s).1) (H93_1000007.enc s).2 =
    Mi_step_c7 s.1 s.2.1 s.2.2.1 s.2.2.2.1 s.2.2.2.2.1 s.2.2.2.2.2.1 s.2.2.2.2.2.2.1 s.2.2.2.2.2.2.2.1 s.2.2.2.2.2.2.2.2.1 s.2.2.2.2.2.2.2.2.2.1 s.2.2.2.2.2.2.2.2.2.2.1 s.2.2.2.2.2.2.2.2.2.2.2.1 s.2.2.2.2.2.2.2.2.2.2.2.2.1 s.2.2.2.2.2.2.2.2.2.2.2.2.2.1 s.2.2.2.2.2.2.2.2.2.2.2.2.2.2.1 s.2.2.2.2.2.2.2.2.2.2.2.2.2.2.2.1 s.2.2.2.2.2.2.2.2.2.2.2.2.2.2.2.2.1 s.2.2.2.2.2.2.2.2.2.2.2.2.2.2.2.2.2.1 s.2.2.2.2.2.2.2.2.2.2.2.2.2.2.2.2.2.2.1 s.2.2.2.2.2.2.2.2.2.2.2.2.2.2.2.2.2.2.2.1 s.2.2.2.2.2.2.2.2.2.2.2.2.2.2.2.2.2.2.2.2.1 s.2.2.2.2.2.2.2.2.2.2.2.2.2.2.2.2.2.2.2.2.2.1 s.2.2.2.2.2.2.2.2.2.2.2.2.2.2.2.2.2.2.2.2.2.2.1 s.2.2.2.2.2.2.2.2.2.2.2.2.2.2.2.2.2.2.2.2.2.2.2.1 s.2.2.2.2.2.2.2.2.2.2.2.2.2.2.2.2.2.2.2.2.2.2.2.2.1 s.2.2.2.2.2.2.2.2.2.2.2.2.2.2.2.2.2.2.2.2.2.2.2.2.2.1 s.2.2.2.2.2.2.2.2.2.2.2.2.2.2.2.2.2.2.2.2.2.2.2.2.2.2.1 s.2.2.2.2.2.2.2.2.2.2.2.2.2.2.2.2.2.2.2.2.2.2.2.2.2.2.2.1 s.2.2.2.2.2.2.2.2.2.2.2.2.2.2.2.2.2.2.2.2.2.2.2.2.2.2.2.2.1 s.2.2.2.2.2.2.2.2.2.2.2.2.2.2.2.2.2.2.2.2.2.2.2.2.2.2.2.2.2 (fun r1 r2 r3 r4 r5 r6 r7 r8 r9 r10 r11 r12 => K (.tup [.agg [.sl 0, .sl 1, .sl 2, .sl 3, .int .i64 r1, .sl 4, .int .i64 r2, .sl 5, .int .i64 r3, .bool r4], .int .i64 r5, .bool r6]) [⟨true, .list .int r7⟩, ⟨true, .list .int r8⟩, ⟨true, .list .int r9⟩, ⟨true, .list .int r10⟩, ⟨true, .list .int r11⟩, ⟨true, .list .op r12⟩]) := by kernel_rfl
theorem q93_7 (s : H93_1000007.S) (K : TV → TMem → Prop) : segT PP 95 Γ93 H93 W93 0 (sufC 6 (bodyOf Tryz.f93)) (endT PP 95 [.cell 4 32, .tmp 5, .tmp 6] [.ag [.own .int, .own .int, .own .int, .own .int, .x, .own .int, .x, .own .op, .x, .bl], .x, .bl] [] 0 K) (frameOf H93_1000007.keep (H93_1000007.enc s).1) (H93_1000007.enc s).2 =
    Mi_step_c7 s.1 s.2.1 s.2.2.1 s.2.2.2.1 s.2.2.2.2.1 s.2.2.2.2.2.1 s.2.2.2.2.2.2.1 s.2.2.2.2.2.2.2.1 s.2.2.2.2.2.2.2.2.1 s.2.2.2.2.2.2.2.2.2.1 s.2.2.2.2.2.2.2.2.2.2.1 s.2.2.2.2.2.2.2.2.2.2.2.1 s.2.2.2.2.2.2.2.2.2.2.2.2.1 s.2.2.2.2.2.2.2.2.2.2.2.2.2.1 s.2.2.2.2.2.2.2.2.2.2.2.2.2.2.1 s.2.2.2.2.2.2.2.2.2.2.2.2.2.2.2.1 s.2.2.2.2.2.2.2.2.2.2.2.2.2.2.2.2.1 s.2.2.2.2.2.2.2.2.2.2.2.2.2.2.2.2.2.1 s.2.2.2.2.2.2.2.2.2.2.2.2.2.2.2.2.2.2.1 s.2.2.2.2.2.2.2.2.2.2.2.2.2.2.2.2.2.2.2.1 s.2.2.2.2.2.2.2.2.2.2.2.2.2.2.2.2.2.2.2.2.1 s.2.2.2.2.2.2.2.2.2.2.2.2.2.2.2.2.2.2.2.2.2.1 s.2.2.2.2.2.2.2.2.2.2.2.2.2.2.2.2.2.2.2.2.2.2.1 s.2.2.2.2.2.2.2.2.2.2.2.2.2.2.2.2.2.2.2.2.2.2.2.1 s.2.2.2.2.2.2.2.2.2.2.2.2.2.2.2.2.2.2.2.2.2.2.2.2.1 s.2.2.2.2.2.2.2.2.2.2.2.2.2.2.2.2.2.2.2.2.2.2.2.2.2.1 s.2.2.2.2.2.2.2.2.2.2.2.2.2.2.2.2.2.2.2.2.2.2.2.2.2.2.1 s.2.2.2.2.2.2.2.2.2.2.2.2.2.2.2.2.2.2.2.2.2.2.2.2.2.2.2.1 s.2.2.2.2.2.2.2.2.2.2.2.2.2.2.2.2.2.2.2.2.2.2.2.2.2.2.2.2.1 s.2.2.2.2.2.2.2.2.2.2.2.2.2.2.2.2.2.2.2.2.2.2.2.2.2.2.2.2.2 (fun r1 r2 r3 r4 r5 r6 r7 r8 r9 r10 r11 r12 => K (.tup [.agg [.sl 0, .sl 1, .sl 2, .sl 3, .int .i64 r1, .sl 4, .int .i64 r2, .sl 5, .int .i64 r3, .bool r4], .int .i64 r5, .bool r6]) [⟨true, .list .int r7⟩, ⟨true, .list .int r8⟩, ⟨true, .list .int r9⟩, ⟨true, .list .int r10⟩, ⟨true, .list .int r11⟩, ⟨true, .list .op r12⟩]) :=
  (segN_eq (by kernel_rfl) fun ts tm => (j93_15 K ts tm).trans (congrArg (fun c => TW PP 95 Γ93 H93 W93 0 c (endT PP 95 [.cell 4 32, .tmp 5, .tmp 6] [.ag [.own .int, .own .int, .own .int, .own .int, .x, .own .int, .x, .own .op, .x, .bl], .x, .bl] [] 0 K) ts tm) (sufC_split 6 4 11 rfl _))).trans (r93_7 s K)
theorem j93_7 (K : TV → TMem → Prop) (ts : TFrm) (tm : TMem) : (headT 0 H93_1000007 ts tm fun s => Mi_step_c7 s.1 s.2.1 s.2.2.1 s.2.2.2.1 s.2.2.2.2.1 s.2.2.2.2.2.1 s.2.2.2.2.2.2.1 s.2.2.2.2.2.2.2.1 s.2.2.2.2.2.2.2.2.1 s.2.2.2.2.2.2.2.2.2.1 s.2.2.2.2.2.2.2.2.2.2.1 s.2.2.2.2.2.2.2.2.2.2.2.1 s.2.2.2.2.2.2.2.2.2.2.2.2.1 s.2.2.2.2.2.2.2.2.2.2.2.2.2.1 s.2.2.2.2.2.2.2.2.2.2.2.2.2.2.1 s.2.2.2.2.2.2.2.2.2.2.2.2.2.2.2.1 s.2.2.2.2.2.2.2.2.2.2.2.2.2.2.2.2.1 s.2.2.2.2.2.2.2.2.2.2.2.2.2.2.2.2.2.1 s.2.2.2.2.2.2.2.2.2.2.2.2.2.2.2.2.2.2.1 s.2.2.2.2.2.2.2.2.2.2.2.2.2.2.2.2.2.2.2.1 s.2.2.2.2.2.2.2.2.2.2.2.2.2.2.2.2.2.2.2.2.1 s.2.2.2.2.2.2.2.2.2.2.2.2.2.2.2.2.2.2.2.2.2.1 s.2.2.2.2.2.2.2.2.2.2.2.2.2.2.2.2.2.2.2.2.2.2.1 s.2.2.2.2.2.2.2.2.2.2.2.2.2.2.2.2.2.2.2.2.2.2.2.1 s.2.2.2.2.2.2.2.2.2.2.2.2.2.2.2.2.2.2.2.2.2.2.2.2.1 s.2.2.2.2.2.2.2.2.2.2.2.2.2.2.2.2.2.2.2.2.2.2.2.2.2.1 s.2.2.2.2.2.2.2.2.2.2.2.2.2.2.2.2.2.2.2.2.2.2.2.2.2.2.1 s.2.2.2.2.2.2.2.2.2.2.2.2.2.2.2.2.2.2.2.2.2.2.2.2.2.2.2.1 s.2.2.2.2.2.2.2.2.2.2.2.2.2.2.2.2.2.2.2.2.2.2.2.2.2.2.2.2.1 s.2.2.2.2.2.2.2.2.2.2.2.2.2.2.2.2.2.2.2.2.2.2.2.2.2.2.2.2.2 (fun r1 r2 r3 r4 r5 r6 r7 r8 r9 r10 r11 r12 => K (.tup [.agg [.sl 0, .sl 1, .sl 2, .sl 3, .int .i64 r1, .sl 4, .int .i64 r2, .sl 5, .int .i64 r3, .bool r4], .int .i64 r5, .bool r6]) [⟨true, .list .int r7⟩, ⟨true, .list .int r8⟩, ⟨true, .list .int r9⟩, ⟨true, .list .int r10⟩, ⟨true, .list .int r11⟩, ⟨true, .list .op r12⟩])) = TW PP 95 Γ93 H93 W93 0 (sufC 6 (bodyOf Tryz.f93)) (endT PP 95 [.cell 4 32, .tmp 5, .tmp 6] [.ag [.own .int, .own .int, .own .int, .own .int, .x, .own .int, .x, .own .op, .x, .bl], .x, .bl] [] 0 K) ts tm :=
  TW_seg (by kernel_rfl : regOf (sufC 6 (bodyOf Tryz.f93)) = some 7) (by kernel_rfl) (fun s => q93_7 s K) ts tm
theorem r93_4 (s : H93_1000004.S) (K : TV → TMem → Prop) : segN PP 95 Γ93 H93 W93 0 2 (sufC 3 (bodyOf Tryz.f93)) (fun ts tm => headT 0 H93_1000007 ts tm fun s => Mi_step_c7 s.1 s.2.1 s.2.2.1 s.2.2.2.1 s.2.2.2.2.1 s.2.2.2.2.2.1 s.2.2.2.2.2.2.1 s.2.2.2.2.2.2.2.1 s.2.2.2.2.2.2.2.2.1 s.2.2.2.2.2.2.2.2.2.1 s.2.2.2.2.2.2.2.2.2.2.1 s.2.2.2.2.2.2.2.2.2.2.2.1 s.2.2.2.2.2.2.2.2.2.2.2.2.1 s.2.2.2.2.2.2.2.2.2.2.2.2.2.1 s.2.2.2.2.2.2.2.2.2.2.2.2.2.2.1 s.2.2.2.2.2.2.2.2.2.2.2.2.2.2.2.1 s.2.2.2.2.2.2.2.2.2.2.2.2.2.2.2.2.1 s.2.2.2.2.2.2.2.2.2.2.2.2.2.2.2.2.2.1 s.2.2.2.2.2.2.2.2.2.2.2.2.2.2.2.2.2.2.1 s.2.2.2.2.2.2.2.2.2.2.2.2.2.2.2.2.2.2.2.1 s.2.2.2.2.2.2.2.2.2.2.2.2.2.2.2.2.2.2.2.2.1 s.2.2.2.2.2.2.2.2.2.2.2.2.2.2.2.2.2.2.2.2.2.1 s.2.2.2.2.2.2.2.2.2.2.2.2.2.2.2.2.2.2.2.2.2.2.1 s.2.2.2.2.2.2.2.2.2.2.2.2.2.2.2.2.2.2.2.2.2.2.2.1 s.2.2.2.2.2.2.2.2.2.2.2.2.2.2.2.2.2.2.2.2.2.2.2.2.1 s.2.2.2.2.2.2.2.2.2.2.2.2.2.2.2.2.2.2.2.2.2.2.2.2.2.1 s.2.2.2.2.2.2.2.2.2.2.2.2.2.2.2.2.2.2.2.2.2.2.2.2.2.2.1 s.2.2.2.2.2.2.2.2.2.2.2.2.2.2.2.2.2.2.2.2.2.2.2.2.2.2.2.1 s.2.2.2.2.2.2.2.2.2.2.2.2.2.2.2.2.2.2.2.2.2.2.2.2.2.2.2.2.1 s.2.2.2.2.2.2.2.2.2.2.2.2.2.2.2.2.2.2.2.2.2.2.2.2.2.2.2.2.2 (fun r1 r2 r3 r4 r5 r6 r7 r8 r9 r10 r11 r12 => K (.tup [.agg [.sl 0, .sl 1, .sl 2, .sl 3, .int .i64 r1, .sl 4, .int .i64 r2, .sl 5, .int .i64 r3, .bool r4], .int .i64 r5, .bool r6]) [⟨true, .list .int r7⟩, ⟨true, .list .int r8⟩, ⟨true, .list .int r9⟩, ⟨true, .list .int r10⟩, ⟨true, .list .int r11⟩, ⟨true, .list .op r12⟩])) (endT PP 95 [.cell 4 32, .tmp 5, .tmp 6] [.ag [.own .int, .own .int, .own .int, .own .int, .x, .own .int, .x, .own .op, .x, .bl], .x, .bl] [] 0 K) (frameOf H93_1000004.keep (H93_1000004.enc s).1) (H93_1000004.enc s).2 =
    Mi_step_c4 s.1 s.2.1 s.2.2.1 s.2.2.2.1 s.2.2.2.2.1 s.2.2.2.2.2.1 s.2.2.2.2.2.2.1 s.2.2.2.2.2.2.2.1 s.2.2.2.2.2.2.2.2.1 s.2.2.2.2.2.2.2.2.2.1 s.2.2.2.2.2.2.2.2.2.2.1 s.2.2.2.2.2.2.2.2.2.2.2.1 s.2.2.2.2.2.2.2.2.2.2.2.2.1 s.2.2.2.2.2.2.2.2.2.2.2.2.2.1 s.2.2.2.2.2.2.2.2.2.2.2.2.2.2.1 s.2.2.2.2.2.2.2.2.2.2.2.2.2.2.2.1 s.2.2.2.2.2.2.2.2.2.2.2.2.2.2.2.2.1 s.2.2.2.2.2.2.2.2.2.2.2.2.2.2.2.2.2.1 s.2.2.2.2.2.2.2.2.2.2.2.2.2.2.2.2.2.2.1 s.2.2.2.2.2.2.2.2.2.2.2.2.2.2.2.2.2.2.2.1 s.2.2.2.2.2.2.2.2.2.2.2.2.2.2.2.2.2.2.2.2 (fun r1 r2 r3 r4 r5 r6 r7 r8 r9 r10 r11 r12 => K (.tup [.agg [.sl 0, .sl 1, .sl 2, .sl 3, .int .i64 r1, .sl 4, .int .i64 r2, .sl 5, .int .i64 r3, .bool r4], .int .i64 r5, .bool r6]) [⟨true, .list .int r7⟩, ⟨true, .list .int r8⟩, ⟨true, .list .int r9⟩, ⟨true, .list .int r10⟩, ⟨true, .list .int r11⟩, ⟨true, .list .op r12⟩]) := by kernel_rfl
theorem q93_4 (s : H93_1000004.S) (K : TV → TMem → Prop) : segT PP 95 Γ93 H93 W93 0 (sufC 3 (bodyOf Tryz.f93)) (endT PP 95 [.cell 4 32, .tmp 5, .tmp 6] [.ag [.own .int, .own .int, .own .int, .own .int, .x, .own .int, .x, .own .op, .x, .bl], .x, .bl] [] 0 K) (frameOf H93_1000004.keep (H93_1000004.enc s).1) (H93_1000004.enc s).2 =
    Mi_step_c4 s.1 s.2.1 s.2.2.1 s.2.2.2.1 s.2.2.2.2.1 s.2.2.2.2.2.1 s.2.2.2.2.2.2.1 s.2.2.2.2.2.2.2.1 s.2.2.2.2.2.2.2.2.1 s.2.2.2.2.2.2.2.2.2.1 s.2.2.2.2.2.2.2.2.2.2.1 s.2.2.2.2.2.2.2.2.2.2.2.1 s.2.2.2.2.2.2.2.2.2.2.2.2.1 s.2.2.2.2.2.2.2.2.2.2.2.2.2.1 s.2.2.2.2.2.2.2.2.2.2.2.2.2.2.1 s.2.2.2.2.2.2.2.2.2.2.2.2.2.2.2.1 s.2.2.2.2.2.2.2.2.2.2.2.2.2.2.2.2.1 s.2.2.2.2.2.2.2.2.2.2.2.2.2.2.2.2.2.1 s.2.2.2.2.2.2.2.2.2.2.2.2.2.2.2.2.2.2.1 s.2.2.2.2.2.2.2.2.2.2.2.2.2.2.2.2.2.2.2.1 s.2.2.2.2.2.2.2.2.2.2.2.2.2.2.2.2.2.2.2.2 (fun r1 r2 r3 r4 r5 r6 r7 r8 r9 r10 r11 r12 => K (.tup [.agg [.sl 0, .sl 1, .sl 2, .sl 3, .int .i64 r1, .sl 4, .int .i64 r2, .sl 5, .int .i64 r3, .bool r4], .int .i64 r5, .bool r6]) [⟨true, .list .int r7⟩, ⟨true, .list .int r8⟩, ⟨true, .list .int r9⟩, ⟨true, .list .int r10⟩, ⟨true, .list .int r11⟩, ⟨true, .list .op r12⟩]) :=
  (segN_eq (by kernel_rfl) fun ts tm => (j93_7 K ts tm).trans (congrArg (fun c => TW PP 95 Γ93 H93 W93 0 c (endT PP 95 [.cell 4 32, .tmp 5, .tmp 6] [.ag [.own .int, .own .int, .own .int, .own .int, .x, .own .int, .x, .own .op, .x, .bl], .x, .bl] [] 0 K) ts tm) (sufC_split 3 2 6 rfl _))).trans (r93_4 s K)
theorem j93_4 (K : TV → TMem → Prop) (ts : TFrm) (tm : TMem) : (headT 0 H93_1000004 ts tm fun s => Mi_step_c4 s.1 s.2.1 s.2.2.1 s.2.2.2.1 s.2.2.2.2.1 s.2.2.2.2.2.1 s.2.2.2.2.2.2.1 s.2.2.2.2.2.2.2.1 s.2.2.2.2.2.2.2.2.1 s.2.2.2.2.2.2.2.2.2.1 s.2.2.2.2.2.2.2.2.2.2.1 s.2.2.2.2.2.2.2.2.2.2.2.1 s.2.2.2.2.2.2.2.2.2.2.2.2.1 s.2.2.2.2.2.2.2.2.2.2.2.2.2.1 s.2.2.2.2.2.2.2.2.2.2.2.2.2.2.1 s.2.2.2.2.2.2.2.2.2.2.2.2.2.2.2.1 s.2.2.2.2.2.2.2.2.2.2.2.2.2.2.2.2.1 s.2.2.2.2.2.2.2.2.2.2.2.2.2.2.2.2.2.1 s.2.2.2.2.2.2.2.2.2.2.2.2.2.2.2.2.2.2.1 s.2.2.2.2.2.2.2.2.2.2.2.2.2.2.2.2.2.2.2.1 s.2.2.2.2.2.2.2.2.2.2.2.2.2.2.2.2.2.2.2.2 (fun r1 r2 r3 r4 r5 r6 r7 r8 r9 r10 r11 r12 => K (.tup [.agg [.sl 0, .sl 1, .sl 2, .sl 3, .int .i64 r1, .sl 4, .int .i64 r2, .sl 5, .int .i64 r3, .bool r4], .int .i64 r5, .bool r6]) [⟨true, .list .int r7⟩, ⟨true, .list .int r8⟩, ⟨true, .list .int r9⟩, ⟨true, .list .int r10⟩, ⟨true, .list .int r11⟩, ⟨true, .list .op r12⟩])) = TW PP 95 Γ93 H93 W93 0 (sufC 3 (bodyOf Tryz.f93)) (endT PP 95 [.cell 4 32, .tmp 5, .tmp 6] [.ag [.own .int, .own .int, .own .int, .own .int, .x, .own .int, .x, .own .op, .x, .bl], .x, .bl] [] 0 K) ts tm :=
  TW_seg (by kernel_rfl : regOf (sufC 3 (bodyOf Tryz.f93)) = some 4) (by kernel_rfl) (fun s => q93_4 s K) ts tm
theorem ea93 (p1 : List Int) (p2 : List Int) (p3 : List Int) (p4 : List Int) (p5 : Int) (p6 : List Int) (p7 : Int) (p8 : List OpV) (p9 : Int) (p10 : Bool) (p11 : Bool) (K : TV → TMem → Prop) : TWn PP 95 Γ93 H93 W93 0 3 (bodyOf Tryz.f93) (fun ts tm => headT 0 H93_1000004 ts tm fun s => Mi_step_c4 s.1 s.2.1 s.2.2.1 s.2.2.2.1 s.2.2.2.2.1 s.2.2.2.2.2.1 s.2.2.2.2.2.2.1 s.2.2.2.2.2.2.2.1 s.2.2.2.2.2.2.2.2.1 s.2.2.2.2.2.2.2.2.2.1 s.2.2.2.2.2.2.2.2.2.2.1 s.2.2.2.2.2.2.2.2.2.2.2.1 s.2.2.2.2.2.2.2.2.2.2.2.2.1 s.2.2.2.2.2.2.2.2.2.2.2.2.2.1 s.2.2.2.2.2.2.2.2.2.2.2.2.2.2.1 s.2.2.2.2.2.2.2.2.2.2.2.2.2.2.2.1 s.2.2.2.2.2.2.2.2.2.2.2.2.2.2.2.2.1 s.2.2.2.2.2.2.2.2.2.2.2.2.2.2.2.2.2.1 s.2.2.2.2.2.2.2.2.2.2.2.2.2.2.2.2.2.2.1 s.2.2.2.2.2.2.2.2.2.2.2.2.2.2.2.2.2.2.2.1 s.2.2.2.2.2.2.2.2.2.2.2.2.2.2.2.2.2.2.2.2 (fun r1 r2 r3 r4 r5 r6 r7 r8 r9 r10 r11 r12 => K (.tup [.agg [.sl 0, .sl 1, .sl 2, .sl 3, .int .i64 r1, .sl 4, .int .i64 r2, .sl 5, .int .i64 r3, .bool r4], .int .i64 r5, .bool r6]) [⟨true, .list .int r7⟩, ⟨true, .list .int r8⟩, ⟨true, .list .int r9⟩, ⟨true, .list .int r10⟩, ⟨true, .list .int r11⟩, ⟨true, .list .op r12⟩])) (endT PP 95 [.cell 4 32, .tmp 5, .tmp 6] [.ag [.own .int, .own .int, .own .int, .own .int, .x, .own .int, .x, .own .op, .x, .bl], .x, .bl] [] 0 K) (argsF [.agg [.pl .int p1, .pl .int p2, .pl .int p3, .pl .int p4, .int .i64 p5, .pl .int p6, .int .i64 p7, .pl .op p8, .int .i64 p9, .bool p10], .bool p11]) [] =
    Mi_step p1 p2 p3 p4 p5 p6 p7 p8 p9 p10 p11 (fun r1 r2 r3 r4 r5 r6 r7 r8 r9 r10 r11 r12 => K (.tup [.agg [.sl 0, .sl 1, .sl 2, .sl 3, .int .i64 r1, .sl 4, .int .i64 r2, .sl 5, .int .i64 r3, .bool r4], .int .i64 r5, .bool r6]) [⟨true, .list .int r7⟩, ⟨true, .list .int r8⟩, ⟨true, .list .int r9⟩, ⟨true, .list .int r10⟩, ⟨true, .list .int r11⟩, ⟨true, .list .op r12⟩]) := by kernel_rfl
theorem e93 (p1 : List Int) (p2 : List Int) (p3 : List Int) (p4 : List Int) (p5 : Int) (p6 : List Int) (p7 : Int) (p8 : List OpV) (p9 : Int) (p10 : Bool) (p11 : Bool) (K : TV → TMem → Prop) : TW PP 95 Γ93 H93 W93 (List.length ([] : TMem)) (bodyOf Tryz.f93) (endT PP 95 [.cell 4 32, .tmp 5, .tmp 6] [.ag [.own .int, .own .int, .own .int, .own .int, .x, .own .int, .x, .own .op, .x, .bl], .x, .bl] [] (List.length ([] : TMem)) K) (argsF [.agg [.pl .int p1, .pl .int p2, .pl .int p3, .pl .int p4, .int .i64 p5, .pl .int p6, .int .i64 p7, .pl .op p8, .int .i64 p9, .bool p10], .bool p11]) [] =
    Mi_step p1 p2 p3 p4 p5 p6 p7 p8 p9 p10 p11 (fun r1 r2 r3 r4 r5 r6 r7 r8 r9 r10 r11 r12 => K (.tup [.agg [.sl 0, .sl 1, .sl 2, .sl 3, .int .i64 r1, .sl 4, .int .i64 r2, .sl 5, .int .i64 r3, .bool r4], .int .i64 r5, .bool r6]) [⟨true, .list .int r7⟩, ⟨true, .list .int r8⟩, ⟨true, .list .int r9⟩, ⟨true, .list .int r10⟩, ⟨true, .list .int r11⟩, ⟨true, .list .op r12⟩]) :=
  (congrFun (congrFun (TWn_eq 3 _ (by kernel_rfl) fun ts tm => j93_4 K ts tm) _) _).trans (ea93 p1 p2 p3 p4 p5 p6 p7 p8 p9 p10 p11 K)
theorem s93 : CSound PP 93 G93 := by
  intro args K c h fl A aargs hA hN R hl
  unfold G93 at h
  generalize ht : c.tm = tm at h
  revert h
  refine cA_in ?_; rintro l2_ r1_ rfl
  refine cP_in ?_; rintro p1 r3_ rfl
  refine cP_in ?_; rintro p2 r4_ rfl
  refine cP_in ?_; rintro p3 r5_ rfl
  refine cP_in ?_; rintro p4 r6_ rfl
  refine cI_in ?_; rintro p5 r7_ rfl
  refine cP_in ?_; rintro p6 r8_ rfl
  refine cI_in ?_; rintro p7 r9_ rfl
  refine cP_in ?_; rintro p8 r10_ rfl
  refine cI_in ?_; rintro p9 r11_ rfl
  refine cB_in ?_; rintro p10 r12_ rfl
  refine dN_in ?_; rintro rfl
  refine cB_in ?_; rintro p11 r13_ rfl
  refine dN_in ?_; rintro rfl
  refine dE_in ?_; rintro rfl
  intro h
  refine fun_ok (nt := 95) (x := bodyOf Tryz.f93) (Γ := Γ93) (H := H93) (WW := W93) (rs := [.cell 4 32, .tmp 5, .tmp 6]) (shs := [.ag [.own .int, .own .int, .own .int, .own .int, .x, .own .int, .x, .own .op, .x, .bl], .x, .bl]) (cons := []) mixed Tryz.func93 (by decide) (by kernel_rfl) Tryz.ntmps93 Tryz.results93 (.cons (useC_ok s34) (.cons (useC_ok s35) (.cons (useC_ok s152) (.cons (useC_ok s68) (.cons (useC_ok s153) (.cons (useC_ok s154) (GSound.nil))))))) ?_ hA hN R hl
  rw [ht, e93 p1 p2 p3 p4 p5 p6 p7 p8 p9 p10 p11 K]
  exact h
/-! impl.StepOp -/
def G36 : Con := fun args tm K => cA args fun l2_ r1_ => cP .int l2_ fun p1 r3_ => cP .int r3_ fun p2 r4_ => cP .int r4_ fun p3 r5_ => cP .int r5_ fun p4 r6_ => cI .i64 r6_ fun p5 r7_ => cP .int r7_ fun p6 r8_ => cI .i64 r8_ fun p7 r9_ => cP .op r9_ fun p8 r10_ => cI .i64 r10_ fun p9 r11_ => cB r11_ fun p10 r12_ => dNil r12_ <| cB r1_ fun p11 r13_ => dNil r13_ <| dEnd tm <| Mi_StepOp p1 p2 p3 p4 p5 p6 p7 p8 p9 p10 p11 (fun r1 r2 r3 r4 r5 r6 r7 r8 r9 r10 r11 => K (.tup [.agg [.sl 0, .sl 1, .sl 2, .sl 3, .int .i64 r1, .sl 4, .int .i64 r2, .sl 5, .int .i64 r3, .bool r4], .bool r5]) [⟨true, .list .int r6⟩, ⟨true, .list .int r7⟩, ⟨true, .list .int r8⟩, ⟨true, .list .int r9⟩, ⟨true, .list .int r10⟩, ⟨true, .list .op r11⟩])
def H36 : List (Nat × LH) := []
def W36 : List (Nat × List (Nat × List Nat)) := []
def Γ36 : List (Nat × Con) := [(93, useC [.ag [.pure .int, .pure .int, .pure .int, .pure .int, .x, .pure .int, .x, .pure .op, .x, .bl], .bl] G93)]
theorem e36 (p1 : List Int) (p2 : List Int) (p3 : List Int) (p4 : List Int) (p5 : Int) (p6 : List Int) (p7 : Int) (p8 : List OpV) (p9 : Int) (p10 : Bool) (p11 : Bool) (K : TV → TMem → Prop) : TW PP 18 Γ36 H36 W36 (List.length ([] : TMem)) (bodyOf Tryz.f36) (endT PP 18 [.cell 4 32, .tmp 5] [.ag [.own .int, .own .int, .own .int, .own .int, .x, .own .int, .x, .own .op, .x, .bl], .bl] [] (List.length ([] : TMem)) K) (argsF [.agg [.pl .int p1, .pl .int p2, .pl .int p3, .pl .int p4, .int .i64 p5, .pl .int p6, .int .i64 p7, .pl .op p8, .int .i64 p9, .bool p10], .bool p11]) [] =
    Mi_StepOp p1 p2 p3 p4 p5 p6 p7 p8 p9 p10 p11 (fun r1 r2 r3 r4 r5 r6 r7 r8 r9 r10 r11 => K (.tup [.agg [.sl 0, .sl 1, .sl 2, .sl 3, .int .i64 r1, .sl 4, .int .i64 r2, .sl 5, .int .i64 r3, .bool r4], .bool r5]) [⟨true, .list .int r6⟩, ⟨true, .list .int r7⟩, ⟨true, .list .int r8⟩, ⟨true, .list .int r9⟩, ⟨true, .list .int r10⟩, ⟨true, .list .op r11⟩]) := by kernel_rfl
theorem s36 : CSound PP 36 G36 := by
  intro args K c h fl A aargs hA hN R hl
  unfold G36 at h
  generalize ht : c.tm = tm at h
  revert h
  refine cA_in ?_; rintro l2_ r1_ rfl
  refine cP_in ?_; rintro p1 r3_ rfl
  refine cP_in ?_; rintro p2 r4_ rfl
  refine cP_in ?_; rintro p3 r5_ rfl
  refine cP_in ?_; rintro p4 r6_ rfl
  refine cI_in ?_; rintro p5 r7_ rfl
  refine cP_in ?_; rintro p6 r8_ rfl
  refine cI_in ?_; rintro p7 r9_ rfl
  refine cP_in ?_; rintro p8 r10_ rfl
  refine cI_in ?_; rintro p9 r11_ rfl
  refine cB_in ?_; rintro p10 r12_ rfl
  refine dN_in ?_; rintro rfl
  refine cB_in ?_; rintro p11 r13_ rfl
  refine dN_in ?_; rintro rfl
  refine dE_in ?_; rintro rfl
  intro h
  refine fun_ok (nt := 18) (x := bodyOf Tryz.f36) (Γ := Γ36) (H := H36) (WW := W36) (rs := [.cell 4 32, .tmp 5]) (shs := [.ag [.own .int, .own .int, .own .int, .own .int, .x, .own .int, .x, .own .op, .x, .bl], .bl]) (cons := []) mixed Tryz.func36 (by decide) (by kernel_rfl) Tryz.ntmps36 Tryz.results36 (.cons (useC_ok s93) (GSound.nil)) ?_ hA hN R hl
  rw [ht, e36 p1 p2 p3 p4 p5 p6 p7 p8 p9 p10 p11 K]
  exact h
/-! impl.SweptCell -/
def G94 : Con := fun args tm K => cA args fun l2_ r1_ => cP .int l2_ fun p1 r3_ => cP .int r3_ fun p2 r4_ => cP .int r4_ fun p3 r5_ => cP .int r5_ fun p4 r6_ => dNil r6_ <| cA r1_ fun l8_ r7_ => cI .i64 l8_ fun p5 r9_ => cP .int r9_ fun p6 r10_ => cI .i64 r10_ fun p7 r11_ => dNil r11_ <| dNil r7_ <| dEnd tm <| Mi_SweptCell p1 p2 p3 p4 p5 p6 p7 (fun r1 => K (.int .i64 r1) [])
def H94 : List (Nat × LH) := []
def W94 : List (Nat × List (Nat × List Nat)) := []
def Γ94 : List (Nat × Con) := [(91, useC [.ag [.pure .int, .pure .int, .pure .int, .pure .int], .ag [.x, .pure .int, .x]] G91), (47, useC [.pure .int, .x] G47)]
theorem e94 (p1 : List Int) (p2 : List Int) (p3 : List Int) (p4 : List Int) (p5 : Int) (p6 : List Int) (p7 : Int) (K : TV → TMem → Prop) : TW PP 32 Γ94 H94 W94 (List.length ([] : TMem)) (bodyOf Tryz.f94) (endT PP 32 [.tmp 4] [.x] [] (List.length ([] : TMem)) K) (argsF [.agg [.pl .int p1, .pl .int p2, .pl .int p3, .pl .int p4], .agg [.int .i64 p5, .pl .int p6, .int .i64 p7]]) [] =
    Mi_SweptCell p1 p2 p3 p4 p5 p6 p7 (fun r1 => K (.int .i64 r1) []) := by kernel_rfl
theorem s94 : CSound PP 94 G94 := by
  intro args K c h fl A aargs hA hN R hl
  unfold G94 at h
  generalize ht : c.tm = tm at h
  revert h
  refine cA_in ?_; rintro l2_ r1_ rfl
  refine cP_in ?_; rintro p1 r3_ rfl
  refine cP_in ?_; rintro p2 r4_ rfl
  refine cP_in ?_; rintro p3 r5_ rfl
  refine cP_in ?_; rintro p4 r6_ rfl
  refine dN_in ?_; rintro rfl
  refine cA_in ?_; rintro l8_ r7_ rfl
  refine cI_in ?_; rintro p5 r9_ rfl
  refine cP_in ?_; rintro p6 r10_ rfl
  refine cI_in ?_; rintro p7 r11_ rfl
  refine dN_in ?_; rintro rfl
  refine dN_in ?_; rintro rfl
  refine dE_in ?_; rintro rfl
  intro h
  refine fun_ok (nt := 32) (x := bodyOf Tryz.f94) (Γ := Γ94) (H := H94) (WW := W94) (rs := [.tmp 4]) (shs := [.x]) (cons := []) mixed Tryz.func94 (by decide) (by kernel_rfl) Tryz.ntmps94 Tryz.results94 (.cons (useC_ok s91) (.cons (useC_ok s47) (GSound.nil))) ?_ hA hN R hl
  rw [ht, e94 p1 p2 p3 p4 p5 p6 p7 K]
  exact h
/-! impl.distances$1 -/
def G194 : Con := fun args tm K => cI .i64 args fun p1 r1_ => cI .i64 r1_ fun p2 r2_ => cQ 0 r2_ fun r3_ => cQ 1 r3_ fun r4_ => dNil r4_ <| bC true tm fun c6_ m5_ => cL 2 c6_ fun r7_ => dNil r7_ <| bC true m5_ fun c9_ m8_ => cL 3 c9_ fun r10_ => dNil r10_ <| bL true .int m8_ fun p3 m11_ => bL true .int m11_ fun p4 m12_ => dEnd m12_ <| Mi_distances_1 p1 p2 p3 p4 (fun r1 r2 => K (.tup []) [⟨true, .cells [.sl 2]⟩, ⟨true, .cells [.sl 4]⟩, ⟨true, .list .int r1⟩, ⟨true, .dead⟩, ⟨true, .list .int r2⟩])
def H194 : List (Nat × LH) := []
def W194 : List (Nat × List (Nat × List Nat)) := []
def Γ194 : List (Nat × Con) := []
theorem e194 (p1 : Int) (p2 : Int) (p3 : List Int) (p4 : List Int) (K : TV → TMem → Prop) : TW PP 23 Γ194 H194 W194 (List.length ([⟨true, .cells [.sl 2]⟩, ⟨true, .cells [.sl 3]⟩, ⟨true, .list .int p3⟩, ⟨true, .list .int p4⟩] : TMem)) (bodyOf Tryz.f194) (endT PP 23 [] [] [3] (List.length ([⟨true, .cells [.sl 2]⟩, ⟨true, .cells [.sl 3]⟩, ⟨true, .list .int p3⟩, ⟨true, .list .int p4⟩] : TMem)) K) (argsF [.int .i64 p1, .int .i64 p2, .ptr 0 0, .ptr 1 0]) [⟨true, .cells [.sl 2]⟩, ⟨true, .cells [.sl 3]⟩, ⟨true, .list .int p3⟩, ⟨true, .list .int p4⟩] =
    Mi_distances_1 p1 p2 p3 p4 (fun r1 r2 => K (.tup []) [⟨true, .cells [.sl 2]⟩, ⟨true, .cells [.sl 4]⟩, ⟨true, .list .int r1⟩, ⟨true, .dead⟩, ⟨true, .list .int r2⟩]) := by kernel_rfl
theorem s194 : CSound PP 194 G194 := by
  intro args K c h fl A aargs hA hN R hl
  unfold G194 at h
  generalize ht : c.tm = tm at h
  revert h
  refine cI_in ?_; rintro p1 r1_ rfl
  refine cI_in ?_; rintro p2 r2_ rfl
  refine cQ_in ?_; rintro r3_ rfl
  refine cQ_in ?_; rintro r4_ rfl
  refine dN_in ?_; rintro rfl
  refine bC_in ?_; rintro c6_ m5_ rfl
  refine cL_in ?_; rintro r7_ rfl
  refine dN_in ?_; rintro rfl
  refine bC_in ?_; rintro c9_ m8_ rfl
  refine cL_in ?_; rintro r10_ rfl
  refine dN_in ?_; rintro rfl
  refine bL_in ?_; rintro p3 m11_ rfl
  refine bL_in ?_; rintro p4 m12_ rfl
  refine dE_in ?_; rintro rfl
  intro h
  refine fun_ok (nt := 23) (x := bodyOf Tryz.f194) (Γ := Γ194) (H := H194) (WW := W194) (rs := []) (shs := []) (cons := [3]) mixed Tryz.func194 (by decide) (by kernel_rfl) Tryz.ntmps194 Tryz.results194 (GSound.nil) ?_ hA hN R hl
  rw [ht, e194 p1 p2 p3 p4 K]
  exact h
/-! impl.distances -/
def G155 : Con := fun args tm K => cA args fun l2_ r1_ => cP .int l2_ fun p1 r3_ => cP .int r3_ fun p2 r4_ => cP .int r4_ fun p3 r5_ => dNil r5_ <| dNil r1_ <| dEnd tm <| Mi_distances p1 p2 p3 (fun r1 => K (.sl 0) [⟨true, .list .int r1⟩])
def H155_0 : LH where
  keep := [(1, .pc [.pure .int, .pure .int, .pure .int]), (3, .pc [.own .int]), (4, .pc [.own .int]), (5, .x), (16, .pure .int), (17, .x), (18, .x)]
  S := List Int × Int × Int × List Int × List Int × List Int × List Int × List Int
  enc := fun s => ([.ptr 0 0, .ptr 1 0, .ptr 2 0, .fn 194 [] [.ptr 1 0, .ptr 2 0], .pl .int s.1, .int .i64 s.2.1, .int .i64 s.2.2.1], [⟨true, .cells [.pl .int s.2.2.2.1, .pl .int s.2.2.2.2.1, .pl .int s.2.2.2.2.2.1]⟩, ⟨true, .cells [.sl 3]⟩, ⟨true, .cells [.sl 4]⟩, ⟨true, .list .int s.2.2.2.2.2.2.1⟩, ⟨true, .list .int s.2.2.2.2.2.2.2⟩])
  dec := fun vs tm K => cQ 0 vs fun r1_ => cQ 1 r1_ fun r2_ => cQ 2 r2_ fun r3_ => dCons r3_ fun a5_ r4_ => dFn 194 a5_ fun x6_ y7_ => dNil x6_ <| cQ 1 y7_ fun r8_ => cQ 2 r8_ fun r9_ => dNil r9_ <| cP .int r4_ fun q0 r10_ => cI .i64 r10_ fun q1 r11_ => cI .i64 r11_ fun q2 r12_ => dNil r12_ <| bC true tm fun c14_ m13_ => cP .int c14_ fun q3 r15_ => cP .int r15_ fun q4 r16_ => cP .int r16_ fun q5 r17_ => dNil r17_ <| bC true m13_ fun c19_ m18_ => cL 3 c19_ fun r20_ => dNil r20_ <| bC true m18_ fun c22_ m21_ => cL 4 c22_ fun r23_ => dNil r23_ <| bL true .int m21_ fun q6 m24_ => bL true .int m24_ fun q7 m25_ => dEnd m25_ <| K (q0, q1, q2, q3, q4, q5, q6, q7)
  law := by
    intro vs tm K
    refine cQ_in ?_; rintro r1_ rfl
    refine cQ_in ?_; rintro r2_ rfl
    refine cQ_in ?_; rintro r3_ rfl
    refine dCons_in ?_; rintro a5_ r4_ rfl
    refine dFn_in ?_; rintro x6_ y7_ rfl
    refine dN_in ?_; rintro rfl
    refine cQ_in ?_; rintro r8_ rfl
    refine cQ_in ?_; rintro r9_ rfl
    refine dN_in ?_; rintro rfl
    refine cP_in ?_; rintro q0 r10_ rfl
    refine cI_in ?_; rintro q1 r11_ rfl
    refine cI_in ?_; rintro q2 r12_ rfl
    refine dN_in ?_; rintro rfl
    refine bC_in ?_; rintro c14_ m13_ rfl
    refine cP_in ?_; rintro q3 r15_ rfl
    refine cP_in ?_; rintro q4 r16_ rfl
    refine cP_in ?_; rintro q5 r17_ rfl
    refine dN_in ?_; rintro rfl
    refine bC_in ?_; rintro c19_ m18_ rfl
    refine cL_in ?_; rintro r20_ rfl
    refine dN_in ?_; rintro rfl
    refine bC_in ?_; rintro c22_ m21_ rfl
    refine cL_in ?_; rintro r23_ rfl
    refine dN_in ?_; rintro rfl
    refine bL_in ?_; rintro q6 m24_ rfl
    refine bL_in ?_; rintro q7 m25_ rfl
    refine dE_in ?_; rintro rfl
    exact fun h => ⟨(q0, q1, q2, q3, q4, q5, q6, q7), rfl, h⟩
def H155_2 : LH where
  keep := [(1, .pc [.pure .int, .pure .int, .pure .int]), (3, .pc [.own .int]), (4, .pc [.own .int]), (5, .x), (8, .x)]
  S := Int × List Int × List Int × List Int × List Int × List Int
  enc := fun s => ([.ptr 0 0, .ptr 1 0, .ptr 2 0, .fn 194 [] [.ptr 1 0, .ptr 2 0], .int .i64 s.1], [⟨true, .cells [.pl .int s.2.1, .pl .int s.2.2.1, .pl .int s.2.2.2.1]⟩, ⟨true, .cells [.sl 3]⟩, ⟨true, .cells [.sl 4]⟩, ⟨true, .list .int s.2.2.2.2.1⟩, ⟨true, .list .int s.2.2.2.2.2⟩])
  dec := fun vs tm K => cQ 0 vs fun r1_ => cQ 1 r1_ fun r2_ => cQ 2 r2_ fun r3_ => dCons r3_ fun a5_ r4_ => dFn 194 a5_ fun x6_ y7_ => dNil x6_ <| cQ 1 y7_ fun r8_ => cQ 2 r8_ fun r9_ => dNil r9_ <| cI .i64 r4_ fun q0 r10_ => dNil r10_ <| bC true tm fun c12_ m11_ => cP .int c12_ fun q1 r13_ => cP .int r13_ fun q2 r14_ => cP .int r14_ fun q3 r15_ => dNil r15_ <| bC true m11_ fun c17_ m16_ => cL 3 c17_ fun r18_ => dNil r18_ <| bC true m16_ fun c20_ m19_ => cL 4 c20_ fun r21_ => dNil r21_ <| bL true .int m19_ fun q4 m22_ => bL true .int m22_ fun q5 m23_ => dEnd m23_ <| K (q0, q1, q2, q3, q4, q5)
  law := by
    intro vs tm K
    refine cQ_in ?_; rintro r1_ rfl
    refine cQ_in ?_; rintro r2_ rfl
    refine cQ_in ?_; rintro r3_ rfl
    refine dCons_in ?_; rintro a5_ r4_ rfl
    refine dFn_in ?_; rintro x6_ y7_ rfl
    refine dN_in ?_; rintro rfl
    refine cQ_in ?_; rintro r8_ rfl
    refine cQ_in ?_; rintro r9_ rfl
    refine dN_in ?_; rintro rfl
    refine cI_in ?_; rintro q0 r10_ rfl
    refine dN_in ?_; rintro rfl
    refine bC_in ?_; rintro c12_ m11_ rfl
    refine cP_in ?_; rintro q1 r13_ rfl
    refine cP_in ?_; rintro q2 r14_ rfl
    refine cP_in ?_; rintro q3 r15_ rfl
    refine dN_in ?_; rintro rfl
    refine bC_in ?_; rintro c17_ m16_ rfl
    refine cL_in ?_; rintro r18_ rfl
    refine dN_in ?_; rintro rfl
    refine bC_in ?_; rintro c20_ m19_ rfl
    refine cL_in ?_; rintro r21_ rfl
    refine dN_in ?_; rintro rfl
    refine bL_in ?_; rintro q4 m22_ rfl
    refine bL_in ?_; rintro q5 m23_ rfl
    refine dE_in ?_; rintro rfl
    exact fun h => ⟨(q0, q1, q2, q3, q4, q5), rfl, h⟩
def H155 : List (Nat × LH) := [(0, H155_0), (2, H155_2)]
def W155 : List (Nat × List (Nat × List Nat)) := []
def Γ155 : List (Nat × Con) := [(194, useC [.x, .x, .pc [.own .int], .pc [.own .int]] G194)]
theorem e155 (p1 : List Int) (p2 : List Int) (p3 : List Int) (K : TV → TMem → Prop) : TW PP 69 Γ155 H155 W155 (List.length ([] : TMem)) (bodyOf Tryz.f155) (endT PP 69 [.tmp 2] [.own .int] [] (List.length ([] : TMem)) K) (argsF [.agg [.pl .int p1, .pl .int p2, .pl .int p3]]) [] =
    Mi_distances p1 p2 p3 (fun r1 => K (.sl 0) [⟨true, .list .int r1⟩]) := by kernel_rfl
theorem s155 : CSound PP 155 G155 := by
  intro args K c h fl A aargs hA hN R hl
  unfold G155 at h
  generalize ht : c.tm = tm at h
  revert h
  refine cA_in ?_; rintro l2_ r1_ rfl
  refine cP_in ?_; rintro p1 r3_ rfl
  refine cP_in ?_; rintro p2 r4_ rfl
  refine cP_in ?_; rintro p3 r5_ rfl
  refine dN_in ?_; rintro rfl
  refine dN_in ?_; rintro rfl
  refine dE_in ?_; rintro rfl
  intro h
  refine fun_ok (nt := 69) (x := bodyOf Tryz.f155) (Γ := Γ155) (H := H155) (WW := W155) (rs := [.tmp 2]) (shs := [.own .int]) (cons := []) mixed Tryz.func155 (by decide) (by kernel_rfl) Tryz.ntmps155 Tryz.results155 (.cons (useC_ok s194) (GSound.nil)) ?_ hA hN R hl
  rw [ht, e155 p1 p2 p3 K]
  exact h
/-! impl.Reachable -/
def G95 : Con := fun args tm K => cA args fun l2_ r1_ => cP .int l2_ fun p1 r3_ => cP .int r3_ fun p2 r4_ => cP .int r4_ fun p3 r5_ => dNil r5_ <| dNil r1_ <| dEnd tm <| Mi_Reachable p1 p2 p3 (fun r1 => K (.sl 0) [⟨true, .list .bool r1⟩])
def H95_0 : LH where
  keep := [(3, .own .bool), (11, .own .int), (12, .x), (13, .x)]
  S := Int × Int × List Bool × List Int
  enc := fun s => ([.sl 0, .sl 1, .int .i64 s.1, .int .i64 s.2.1], [⟨true, .list .bool s.2.2.1⟩, ⟨true, .list .int s.2.2.2⟩])
  dec := fun vs tm K => cL 0 vs fun r1_ => cL 1 r1_ fun r2_ => cI .i64 r2_ fun q0 r3_ => cI .i64 r3_ fun q1 r4_ => dNil r4_ <| bL true .bool tm fun q2 m5_ => bL true .int m5_ fun q3 m6_ => dEnd m6_ <| K (q0, q1, q2, q3)
  law := by
    intro vs tm K
    refine cL_in ?_; rintro r1_ rfl
    refine cL_in ?_; rintro r2_ rfl
    refine cI_in ?_; rintro q0 r3_ rfl
    refine cI_in ?_; rintro q1 r4_ rfl
    refine dN_in ?_; rintro rfl
    refine bL_in ?_; rintro q2 m5_ rfl
    refine bL_in ?_; rintro q3 m6_ rfl
    refine dE_in ?_; rintro rfl
    exact fun h => ⟨(q0, q1, q2, q3), rfl, h⟩
def H95 : List (Nat × LH) := [(0, H95_0)]
def W95 : List (Nat × List (Nat × List Nat)) := []
def Γ95 : List (Nat × Con) := [(74, useC [.ag [.pure .int, .pure .int, .pure .int]] G74), (155, useC [.ag [.pure .int, .pure .int, .pure .int]] G155)]
theorem e95 (p1 : List Int) (p2 : List Int) (p3 : List Int) (K : TV → TMem → Prop) : TW PP 24 Γ95 H95 W95 (List.length ([] : TMem)) (bodyOf Tryz.f95) (endT PP 24 [.tmp 2] [.own .bool] [] (List.length ([] : TMem)) K) (argsF [.agg [.pl .int p1, .pl .int p2, .pl .int p3]]) [] =
    Mi_Reachable p1 p2 p3 (fun r1 => K (.sl 0) [⟨true, .list .bool r1⟩]) := by kernel_rfl
theorem s95 : CSound PP 95 G95 := by
  intro args K c h fl A aargs hA hN R hl
  unfold G95 at h
  generalize ht : c.tm = tm at h
  revert h
  refine cA_in ?_; rintro l2_ r1_ rfl
  refine cP_in ?_; rintro p1 r3_ rfl
  refine cP_in ?_; rintro p2 r4_ rfl
  refine cP_in ?_; rintro p3 r5_ rfl
  refine dN_in ?_; rintro rfl
  refine dN_in ?_; rintro rfl
  refine dE_in ?_; rintro rfl
  intro h
  refine fun_ok (nt := 24) (x := bodyOf Tryz.f95) (Γ := Γ95) (H := H95) (WW := W95) (rs := [.tmp 2]) (shs := [.own .bool]) (cons := []) mixed Tryz.func95 (by decide) (by kernel_rfl) Tryz.ntmps95 Tryz.results95 (.cons (useC_ok s74) (.cons (useC_ok s155) (GSound.nil))) ?_ hA hN R hl
  rw [ht, e95 p1 p2 p3 K]
  exact h
/-! impl.look -/
def G157 : Con := fun args tm K => cA args fun l2_ r1_ => cP .int l2_ fun p1 r3_ => cP .int r3_ fun p2 r4_ => cP .int r4_ fun p3 r5_ => dNil r5_ <| cL 0 r1_ fun r6_ => dNil r6_ <| bL true .int tm fun p4 m7_ => dEnd m7_ <| Mi_look p1 p2 p3 p4 (fun r1 r2 => K (.bool r1) [⟨true, .list .int r2⟩])
def H157 : List (Nat × LH) := []
def W157 : List (Nat × List (Nat × List Nat)) := []
def Γ157 : List (Nat × Con) := [(110, useC [.pure .int, .x] G110), (156, useC [.own .int, .x] G156)]
theorem e157 (p1 : List Int) (p2 : List Int) (p3 : List Int) (p4 : List Int) (K : TV → TMem → Prop) : TW PP 27 Γ157 H157 W157 (List.length ([⟨true, .list .int p4⟩] : TMem)) (bodyOf Tryz.f157) (endT PP 27 [.tmp 4] [.bl] [] (List.length ([⟨true, .list .int p4⟩] : TMem)) K) (argsF [.agg [.pl .int p1, .pl .int p2, .pl .int p3], .sl 0]) [⟨true, .list .int p4⟩] =
    Mi_look p1 p2 p3 p4 (fun r1 r2 => K (.bool r1) [⟨true, .list .int r2⟩]) := by kernel_rfl
theorem s157 : CSound PP 157 G157 := by
  intro args K c h fl A aargs hA hN R hl
  unfold G157 at h
  generalize ht : c.tm = tm at h
  revert h
  refine cA_in ?_; rintro l2_ r1_ rfl
  refine cP_in ?_; rintro p1 r3_ rfl
  refine cP_in ?_; rintro p2 r4_ rfl
  refine cP_in ?_; rintro p3 r5_ rfl
  refine dN_in ?_; rintro rfl
  refine cL_in ?_; rintro r6_ rfl
  refine dN_in ?_; rintro rfl
  refine bL_in ?_; rintro p4 m7_ rfl
  refine dE_in ?_; rintro rfl
  intro h
  refine fun_ok (nt := 27) (x := bodyOf Tryz.f157) (Γ := Γ157) (H := H157) (WW := W157) (rs := [.tmp 4]) (shs := [.bl]) (cons := []) mixed Tryz.func157 (by decide) (by kernel_rfl) Tryz.ntmps157 Tryz.results157 (.cons (useC_ok s110) (.cons (useC_ok s156) (GSound.nil))) ?_ hA hN R hl
  rw [ht, e157 p1 p2 p3 p4 K]
  exact h
/-! impl.StepGc$1 -/
def G159 : Con := fun args tm K => cI .i64 args fun p1 r1_ => cQ 0 r1_ fun r2_ => dNil r2_ <| bC false tm fun c4_ m3_ => cI .i64 c4_ fun p2 r5_ => cL 1 r5_ fun r6_ => cI .i64 r6_ fun p3 r7_ => dNil r7_ <| bL false .int m3_ fun p4 m8_ => dEnd m8_ <| Mi_StepGc_1 p1 p2 p3 p4 (fun r1 => K (.bool r1) [⟨false, .cells [.int .i64 p2, .sl 1, .int .i64 p3]⟩, ⟨false, .list .int p4⟩])
def H159 : List (Nat × LH) := []
def W159 : List (Nat × List (Nat × List Nat)) := []
def Γ159 : List (Nat × Con) := []
theorem e159 (p1 : Int) (p2 : Int) (p3 : Int) (p4 : List Int) (K : TV → TMem → Prop) : TW PP 14 Γ159 H159 W159 (List.length ([⟨false, .cells [.int .i64 p2, .sl 1, .int .i64 p3]⟩, ⟨false, .list .int p4⟩] : TMem)) (bodyOf Tryz.f159) (endT PP 14 [.tmp 3] [.bl] [] (List.length ([⟨false, .cells [.int .i64 p2, .sl 1, .int .i64 p3]⟩, ⟨false, .list .int p4⟩] : TMem)) K) (argsF [.int .i64 p1, .ptr 0 0]) [⟨false, .cells [.int .i64 p2, .sl 1, .int .i64 p3]⟩, ⟨false, .list .int p4⟩] =
    Mi_StepGc_1 p1 p2 p3 p4 (fun r1 => K (.bool r1) [⟨false, .cells [.int .i64 p2, .sl 1, .int .i64 p3]⟩, ⟨false, .list .int p4⟩]) := by kernel_rfl
theorem s159 : CSound PP 159 G159 := by
  intro args K c h fl A aargs hA hN R hl
  unfold G159 at h
  generalize ht : c.tm = tm at h
  revert h
  refine cI_in ?_; rintro p1 r1_ rfl
  refine cQ_in ?_; rintro r2_ rfl
  refine dN_in ?_; rintro rfl
  refine bC_in ?_; rintro c4_ m3_ rfl
  refine cI_in ?_; rintro p2 r5_ rfl
  refine cL_in ?_; rintro r6_ rfl
  refine cI_in ?_; rintro p3 r7_ rfl
  refine dN_in ?_; rintro rfl
  refine bL_in ?_; rintro p4 m8_ rfl
  refine dE_in ?_; rintro rfl
  intro h
  refine fun_ok (nt := 14) (x := bodyOf Tryz.f159) (Γ := Γ159) (H := H159) (WW := W159) (rs := [.tmp 3]) (shs := [.bl]) (cons := []) mixed Tryz.func159 (by decide) (by kernel_rfl) Tryz.ntmps159 Tryz.results159 (GSound.nil) ?_ hA hN R hl
  rw [ht, e159 p1 p2 p3 p4 K]
  exact h
end Go.Ab
