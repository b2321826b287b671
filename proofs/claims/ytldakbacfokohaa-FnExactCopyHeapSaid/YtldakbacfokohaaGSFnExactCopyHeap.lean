/-
  What is proved here: that the typed models of functions of the translated program are sound.
-/
import Derived.Test.YtldakbacfokohaaGM
import Derived.Test.YtldakbacfokohaaProg
import Derived.KernelRfl
namespace Go.Ab
set_option linter.unusedVariables false
open Go.Proofs
noncomputable abbrev PP : Program := Try.prog
theorem mixed : PP.follows .mixedOrders = true := by kernel_rfl
/-! laws.szIntS -/
def G58 : Con := fun args tm K => dCons args fun a1_ r2_ => dPl .int a1_ fun p1 => dCons r2_ fun a3_ r4_ => dInt .i64 a3_ fun p2 => dNil r4_ <| dEnd tm <| Ml_szIntS p1 p2 (fun r1 => K (.int .i64 r1) [])
def H58 : List (Nat × LH) := []
def W58 : List (Nat × List (Nat × List Nat)) := []
def Γ58 : List (Nat × Con) := []
theorem e58 (p1 : List Int) (p2 : Int) (K : TV → TMem → Prop) : TW PP 12 Γ58 H58 W58 (List.length ([] : TMem)) (bodyOf Try.f58) (endT PP 12 [.tmp 4] [.x] [] (List.length ([] : TMem)) K) (argsF [.pl .int p1, .int .i64 p2]) [] =
    Ml_szIntS p1 p2 (fun r1 => K (.int .i64 r1) []) := by kernel_rfl
theorem s58 : CSound PP 58 G58 := by
  intro args K c h fl A aargs hA hN R hl
  unfold G58 at h
  generalize ht : c.tm = tm at h
  replace h := dCons_ok h; obtain ⟨a1_, r2_, rfl, h⟩ := h
  replace h := dPl_ok h; obtain ⟨p1, rfl, h⟩ := h
  replace h := dCons_ok h; obtain ⟨a3_, r4_, rfl, h⟩ := h
  replace h := dInt_ok h; obtain ⟨p2, rfl, h⟩ := h
  replace h := dNil_ok h; obtain ⟨rfl, h⟩ := h
  replace h := dEnd_ok h; obtain ⟨rfl, h⟩ := h
  refine fun_ok (nt := 12) (x := bodyOf Try.f58) (Γ := Γ58) (H := H58) (WW := W58) (rs := [.tmp 4]) (shs := [.x]) (cons := []) mixed Try.func58 (by decide) (by kernel_rfl) Try.ntmps58 Try.results58 (GSound.nil) ?_ hA hN R hl
  rw [ht, e58 p1 p2 K]
  exact h
/-! laws.szHeap -/
def G17 : Con := fun args tm K => dCons args fun a1_ r2_ => dAgg a1_ fun l3_ => dCons l3_ fun a4_ r5_ => dPl .int a4_ fun p1 => dCons r5_ fun a6_ r7_ => dPl .int a6_ fun p2 => dCons r7_ fun a8_ r9_ => dPl .int a8_ fun p3 => dNil r9_ <| dCons r2_ fun a10_ r11_ => dInt .i64 a10_ fun p4 => dNil r11_ <| dEnd tm <| Ml_szHeap p1 p2 p3 p4 (fun r1 => K (.int .i64 r1) [])
def H17 : List (Nat × LH) := []
def W17 : List (Nat × List (Nat × List Nat)) := []
def Γ17 : List (Nat × Con) := [(58, useC [.pure .int, .x] G58)]
theorem e17 (p1 : List Int) (p2 : List Int) (p3 : List Int) (p4 : Int) (K : TV → TMem → Prop) : TW PP 24 Γ17 H17 W17 (List.length ([] : TMem)) (bodyOf Try.f17) (endT PP 24 [.tmp 4] [.x] [] (List.length ([] : TMem)) K) (argsF [.agg [.pl .int p1, .pl .int p2, .pl .int p3], .int .i64 p4]) [] =
    Ml_szHeap p1 p2 p3 p4 (fun r1 => K (.int .i64 r1) []) := by kernel_rfl
theorem s17 : CSound PP 17 G17 := by
  intro args K c h fl A aargs hA hN R hl
  unfold G17 at h
  generalize ht : c.tm = tm at h
  replace h := dCons_ok h; obtain ⟨a1_, r2_, rfl, h⟩ := h
  replace h := dAgg_ok h; obtain ⟨l3_, rfl, h⟩ := h
  replace h := dCons_ok h; obtain ⟨a4_, r5_, rfl, h⟩ := h
  replace h := dPl_ok h; obtain ⟨p1, rfl, h⟩ := h
  replace h := dCons_ok h; obtain ⟨a6_, r7_, rfl, h⟩ := h
  replace h := dPl_ok h; obtain ⟨p2, rfl, h⟩ := h
  replace h := dCons_ok h; obtain ⟨a8_, r9_, rfl, h⟩ := h
  replace h := dPl_ok h; obtain ⟨p3, rfl, h⟩ := h
  replace h := dNil_ok h; obtain ⟨rfl, h⟩ := h
  replace h := dCons_ok h; obtain ⟨a10_, r11_, rfl, h⟩ := h
  replace h := dInt_ok h; obtain ⟨p4, rfl, h⟩ := h
  replace h := dNil_ok h; obtain ⟨rfl, h⟩ := h
  replace h := dEnd_ok h; obtain ⟨rfl, h⟩ := h
  refine fun_ok (nt := 24) (x := bodyOf Try.f17) (Γ := Γ17) (H := H17) (WW := W17) (rs := [.tmp 4]) (shs := [.x]) (cons := []) mixed Try.func17 (by decide) (by kernel_rfl) Try.ntmps17 Try.results17 (.cons (useC_ok s58) (GSound.nil)) ?_ hA hN R hl
  rw [ht, e17 p1 p2 p3 p4 K]
  exact h
/-! laws.toIntS -/
def G20 : Con := fun args tm K => dCons args fun a1_ r2_ => dPl .int a1_ fun p1 => dNil r2_ <| dEnd tm <| Ml_toIntS p1 (fun r1 => K (.sl 0) [⟨true, .list .int r1⟩])
def H20_0 : LH where
  keep := [(0, .pure .int), (3, .own .int), (4, .x)]
  S := List Int × Int × List Int
  enc := fun s => ([.pl .int s.1, .sl 0, .int .i64 s.2.1], [⟨true, .list .int s.2.2⟩])
  dec := fun vs tm K => dCons vs fun a1_ r2_ => dPl .int a1_ fun q0 => dCons r2_ fun a3_ r4_ => dSl 0 a3_ <| dCons r4_ fun a5_ r6_ => dInt .i64 a5_ fun q1 => dNil r6_ <| dBlk true tm fun b7_ m8_ => dList .int b7_ fun q2 => dEnd m8_ <| K (q0, q1, q2)
  law := by
    intro vs tm K h
    replace h := dCons_ok h; obtain ⟨a1_, r2_, rfl, h⟩ := h
    replace h := dPl_ok h; obtain ⟨q0, rfl, h⟩ := h
    replace h := dCons_ok h; obtain ⟨a3_, r4_, rfl, h⟩ := h
    replace h := dSl_ok h; obtain ⟨rfl, h⟩ := h
    replace h := dCons_ok h; obtain ⟨a5_, r6_, rfl, h⟩ := h
    replace h := dInt_ok h; obtain ⟨q1, rfl, h⟩ := h
    replace h := dNil_ok h; obtain ⟨rfl, h⟩ := h
    replace h := dBlk_ok h; obtain ⟨b7_, m8_, rfl, h⟩ := h
    replace h := dList_ok h; obtain ⟨q2, rfl, h⟩ := h
    replace h := dEnd_ok h; obtain ⟨rfl, h⟩ := h
    exact ⟨(q0, q1, q2), rfl, h⟩
def H20 : List (Nat × LH) := [(0, H20_0)]
def W20 : List (Nat × List (Nat × List Nat)) := []
def Γ20 : List (Nat × Con) := []
theorem e20 (p1 : List Int) (K : TV → TMem → Prop) : TW PP 22 Γ20 H20 W20 (List.length ([] : TMem)) (bodyOf Try.f20) (endT PP 22 [.tmp 2] [.own .int] [] (List.length ([] : TMem)) K) (argsF [.pl .int p1]) [] =
    Ml_toIntS p1 (fun r1 => K (.sl 0) [⟨true, .list .int r1⟩]) := by kernel_rfl
theorem s20 : CSound PP 20 G20 := by
  intro args K c h fl A aargs hA hN R hl
  unfold G20 at h
  generalize ht : c.tm = tm at h
  replace h := dCons_ok h; obtain ⟨a1_, r2_, rfl, h⟩ := h
  replace h := dPl_ok h; obtain ⟨p1, rfl, h⟩ := h
  replace h := dNil_ok h; obtain ⟨rfl, h⟩ := h
  replace h := dEnd_ok h; obtain ⟨rfl, h⟩ := h
  refine fun_ok (nt := 22) (x := bodyOf Try.f20) (Γ := Γ20) (H := H20) (WW := W20) (rs := [.tmp 2]) (shs := [.own .int]) (cons := []) mixed Try.func20 (by decide) (by kernel_rfl) Try.ntmps20 Try.results20 (GSound.nil) ?_ hA hN R hl
  rw [ht, e20 p1 K]
  exact h
/-! laws.toHeap -/
def G19 : Con := fun args tm K => dCons args fun a1_ r2_ => dAgg a1_ fun l3_ => dCons l3_ fun a4_ r5_ => dPl .int a4_ fun p1 => dCons r5_ fun a6_ r7_ => dPl .int a6_ fun p2 => dCons r7_ fun a8_ r9_ => dPl .int a8_ fun p3 => dNil r9_ <| dNil r2_ <| dEnd tm <| Ml_toHeap p1 p2 p3 (fun r1 r2 r3 => K (.agg [.sl 0, .sl 1, .sl 2]) [⟨true, .list .int r1⟩, ⟨true, .list .int r2⟩, ⟨true, .list .int r3⟩])
def H19 : List (Nat × LH) := []
def W19 : List (Nat × List (Nat × List Nat)) := []
def Γ19 : List (Nat × Con) := [(20, useC [.pure .int] G20)]
theorem e19 (p1 : List Int) (p2 : List Int) (p3 : List Int) (K : TV → TMem → Prop) : TW PP 17 Γ19 H19 W19 (List.length ([] : TMem)) (bodyOf Try.f19) (endT PP 17 [.cell 2 26] [.ag [.own .int, .own .int, .own .int]] [] (List.length ([] : TMem)) K) (argsF [.agg [.pl .int p1, .pl .int p2, .pl .int p3]]) [] =
    Ml_toHeap p1 p2 p3 (fun r1 r2 r3 => K (.agg [.sl 0, .sl 1, .sl 2]) [⟨true, .list .int r1⟩, ⟨true, .list .int r2⟩, ⟨true, .list .int r3⟩]) := by kernel_rfl
theorem s19 : CSound PP 19 G19 := by
  intro args K c h fl A aargs hA hN R hl
  unfold G19 at h
  generalize ht : c.tm = tm at h
  replace h := dCons_ok h; obtain ⟨a1_, r2_, rfl, h⟩ := h
  replace h := dAgg_ok h; obtain ⟨l3_, rfl, h⟩ := h
  replace h := dCons_ok h; obtain ⟨a4_, r5_, rfl, h⟩ := h
  replace h := dPl_ok h; obtain ⟨p1, rfl, h⟩ := h
  replace h := dCons_ok h; obtain ⟨a6_, r7_, rfl, h⟩ := h
  replace h := dPl_ok h; obtain ⟨p2, rfl, h⟩ := h
  replace h := dCons_ok h; obtain ⟨a8_, r9_, rfl, h⟩ := h
  replace h := dPl_ok h; obtain ⟨p3, rfl, h⟩ := h
  replace h := dNil_ok h; obtain ⟨rfl, h⟩ := h
  replace h := dNil_ok h; obtain ⟨rfl, h⟩ := h
  replace h := dEnd_ok h; obtain ⟨rfl, h⟩ := h
  refine fun_ok (nt := 17) (x := bodyOf Try.f19) (Γ := Γ19) (H := H19) (WW := W19) (rs := [.cell 2 26]) (shs := [.ag [.own .int, .own .int, .own .int]]) (cons := []) mixed Try.func19 (by decide) (by kernel_rfl) Try.ntmps19 Try.results19 (.cons (useC_ok s20) (GSound.nil)) ?_ hA hN R hl
  rw [ht, e19 p1 p2 p3 K]
  exact h
/-! spec.l1Points -/
def G105 : Con := fun args tm K => dCons args fun a1_ r2_ => dInt .i64 a1_ fun p1 => dCons r2_ fun a3_ r4_ => dInt .i64 a3_ fun p2 => dNil r4_ <| dEnd tm <| Ms_l1Points p1 p2 (fun r1 => K (.bool r1) [])
def H105 : List (Nat × LH) := []
def W105 : List (Nat × List (Nat × List Nat)) := []
def Γ105 : List (Nat × Con) := []
theorem e105 (p1 : Int) (p2 : Int) (K : TV → TMem → Prop) : TW PP 12 Γ105 H105 W105 (List.length ([] : TMem)) (bodyOf Try.f105) (endT PP 12 [.tmp 4] [.bl] [] (List.length ([] : TMem)) K) (argsF [.int .i64 p1, .int .i64 p2]) [] =
    Ms_l1Points p1 p2 (fun r1 => K (.bool r1) []) := by kernel_rfl
theorem s105 : CSound PP 105 G105 := by
  intro args K c h fl A aargs hA hN R hl
  unfold G105 at h
  generalize ht : c.tm = tm at h
  replace h := dCons_ok h; obtain ⟨a1_, r2_, rfl, h⟩ := h
  replace h := dInt_ok h; obtain ⟨p1, rfl, h⟩ := h
  replace h := dCons_ok h; obtain ⟨a3_, r4_, rfl, h⟩ := h
  replace h := dInt_ok h; obtain ⟨p2, rfl, h⟩ := h
  replace h := dNil_ok h; obtain ⟨rfl, h⟩ := h
  replace h := dEnd_ok h; obtain ⟨rfl, h⟩ := h
  refine fun_ok (nt := 12) (x := bodyOf Try.f105) (Γ := Γ105) (H := H105) (WW := W105) (rs := [.tmp 4]) (shs := [.bl]) (cons := []) mixed Try.func105 (by decide) (by kernel_rfl) Try.ntmps105 Try.results105 (GSound.nil) ?_ hA hN R hl
  rw [ht, e105 p1 p2 K]
  exact h
/-! spec.HeapValid -/
def G76 : Con := fun args tm K => dCons args fun a1_ r2_ => dAgg a1_ fun l3_ => dCons l3_ fun a4_ r5_ => dPl .int a4_ fun p1 => dCons r5_ fun a6_ r7_ => dPl .int a6_ fun p2 => dCons r7_ fun a8_ r9_ => dPl .int a8_ fun p3 => dNil r9_ <| dNil r2_ <| dEnd tm <| Ms_HeapValid p1 p2 p3 (fun r1 => K (.bool r1) [])
def H76_0 : LH where
  keep := [(1, .pc [.pure .int, .pure .int, .pure .int]), (3, .x), (4, .x)]
  S := Int × Int × List Int × List Int × List Int
  enc := fun s => ([.ptr 0 0, .int .i64 s.1, .int .i64 s.2.1], [⟨true, .cells [.pl .int s.2.2.1, .pl .int s.2.2.2.1, .pl .int s.2.2.2.2]⟩])
  dec := fun vs tm K => dCons vs fun a1_ r2_ => dPtr 0 a1_ <| dCons r2_ fun a3_ r4_ => dInt .i64 a3_ fun q0 => dCons r4_ fun a5_ r6_ => dInt .i64 a5_ fun q1 => dNil r6_ <| dBlk true tm fun b7_ m8_ => dCells b7_ fun c9_ => dCons c9_ fun a10_ r11_ => dPl .int a10_ fun q2 => dCons r11_ fun a12_ r13_ => dPl .int a12_ fun q3 => dCons r13_ fun a14_ r15_ => dPl .int a14_ fun q4 => dNil r15_ <| dEnd m8_ <| K (q0, q1, q2, q3, q4)
  law := by
    intro vs tm K h
    replace h := dCons_ok h; obtain ⟨a1_, r2_, rfl, h⟩ := h
    replace h := dPtr_ok h; obtain ⟨rfl, h⟩ := h
    replace h := dCons_ok h; obtain ⟨a3_, r4_, rfl, h⟩ := h
    replace h := dInt_ok h; obtain ⟨q0, rfl, h⟩ := h
    replace h := dCons_ok h; obtain ⟨a5_, r6_, rfl, h⟩ := h
    replace h := dInt_ok h; obtain ⟨q1, rfl, h⟩ := h
    replace h := dNil_ok h; obtain ⟨rfl, h⟩ := h
    replace h := dBlk_ok h; obtain ⟨b7_, m8_, rfl, h⟩ := h
    replace h := dCells_ok h; obtain ⟨c9_, rfl, h⟩ := h
    replace h := dCons_ok h; obtain ⟨a10_, r11_, rfl, h⟩ := h
    replace h := dPl_ok h; obtain ⟨q2, rfl, h⟩ := h
    replace h := dCons_ok h; obtain ⟨a12_, r13_, rfl, h⟩ := h
    replace h := dPl_ok h; obtain ⟨q3, rfl, h⟩ := h
    replace h := dCons_ok h; obtain ⟨a14_, r15_, rfl, h⟩ := h
    replace h := dPl_ok h; obtain ⟨q4, rfl, h⟩ := h
    replace h := dNil_ok h; obtain ⟨rfl, h⟩ := h
    replace h := dEnd_ok h; obtain ⟨rfl, h⟩ := h
    exact ⟨(q0, q1, q2, q3, q4), rfl, h⟩
def H76_2 : LH where
  keep := [(1, .pc [.pure .int, .pure .int, .pure .int]), (3, .x), (5, .x)]
  S := Int × Int × List Int × List Int × List Int
  enc := fun s => ([.ptr 0 0, .int .i64 s.1, .int .i64 s.2.1], [⟨true, .cells [.pl .int s.2.2.1, .pl .int s.2.2.2.1, .pl .int s.2.2.2.2]⟩])
  dec := fun vs tm K => dCons vs fun a1_ r2_ => dPtr 0 a1_ <| dCons r2_ fun a3_ r4_ => dInt .i64 a3_ fun q0 => dCons r4_ fun a5_ r6_ => dInt .i64 a5_ fun q1 => dNil r6_ <| dBlk true tm fun b7_ m8_ => dCells b7_ fun c9_ => dCons c9_ fun a10_ r11_ => dPl .int a10_ fun q2 => dCons r11_ fun a12_ r13_ => dPl .int a12_ fun q3 => dCons r13_ fun a14_ r15_ => dPl .int a14_ fun q4 => dNil r15_ <| dEnd m8_ <| K (q0, q1, q2, q3, q4)
  law := by
    intro vs tm K h
    replace h := dCons_ok h; obtain ⟨a1_, r2_, rfl, h⟩ := h
    replace h := dPtr_ok h; obtain ⟨rfl, h⟩ := h
    replace h := dCons_ok h; obtain ⟨a3_, r4_, rfl, h⟩ := h
    replace h := dInt_ok h; obtain ⟨q0, rfl, h⟩ := h
    replace h := dCons_ok h; obtain ⟨a5_, r6_, rfl, h⟩ := h
    replace h := dInt_ok h; obtain ⟨q1, rfl, h⟩ := h
    replace h := dNil_ok h; obtain ⟨rfl, h⟩ := h
    replace h := dBlk_ok h; obtain ⟨b7_, m8_, rfl, h⟩ := h
    replace h := dCells_ok h; obtain ⟨c9_, rfl, h⟩ := h
    replace h := dCons_ok h; obtain ⟨a10_, r11_, rfl, h⟩ := h
    replace h := dPl_ok h; obtain ⟨q2, rfl, h⟩ := h
    replace h := dCons_ok h; obtain ⟨a12_, r13_, rfl, h⟩ := h
    replace h := dPl_ok h; obtain ⟨q3, rfl, h⟩ := h
    replace h := dCons_ok h; obtain ⟨a14_, r15_, rfl, h⟩ := h
    replace h := dPl_ok h; obtain ⟨q4, rfl, h⟩ := h
    replace h := dNil_ok h; obtain ⟨rfl, h⟩ := h
    replace h := dEnd_ok h; obtain ⟨rfl, h⟩ := h
    exact ⟨(q0, q1, q2, q3, q4), rfl, h⟩
def H76 : List (Nat × LH) := [(0, H76_0), (2, H76_2)]
def W76 : List (Nat × List (Nat × List Nat)) := []
def Γ76 : List (Nat × Con) := [(105, useC [.x, .x] G105)]
theorem e76 (p1 : List Int) (p2 : List Int) (p3 : List Int) (K : TV → TMem → Prop) : TW PP 72 Γ76 H76 W76 (List.length ([] : TMem)) (bodyOf Try.f76) (endT PP 72 [.tmp 2] [.bl] [] (List.length ([] : TMem)) K) (argsF [.agg [.pl .int p1, .pl .int p2, .pl .int p3]]) [] =
    Ms_HeapValid p1 p2 p3 (fun r1 => K (.bool r1) []) := by kernel_rfl
theorem s76 : CSound PP 76 G76 := by
  intro args K c h fl A aargs hA hN R hl
  unfold G76 at h
  generalize ht : c.tm = tm at h
  replace h := dCons_ok h; obtain ⟨a1_, r2_, rfl, h⟩ := h
  replace h := dAgg_ok h; obtain ⟨l3_, rfl, h⟩ := h
  replace h := dCons_ok h; obtain ⟨a4_, r5_, rfl, h⟩ := h
  replace h := dPl_ok h; obtain ⟨p1, rfl, h⟩ := h
  replace h := dCons_ok h; obtain ⟨a6_, r7_, rfl, h⟩ := h
  replace h := dPl_ok h; obtain ⟨p2, rfl, h⟩ := h
  replace h := dCons_ok h; obtain ⟨a8_, r9_, rfl, h⟩ := h
  replace h := dPl_ok h; obtain ⟨p3, rfl, h⟩ := h
  replace h := dNil_ok h; obtain ⟨rfl, h⟩ := h
  replace h := dNil_ok h; obtain ⟨rfl, h⟩ := h
  replace h := dEnd_ok h; obtain ⟨rfl, h⟩ := h
  refine fun_ok (nt := 72) (x := bodyOf Try.f76) (Γ := Γ76) (H := H76) (WW := W76) (rs := [.tmp 2]) (shs := [.bl]) (cons := []) mixed Try.func76 (by decide) (by kernel_rfl) Try.ntmps76 Try.results76 (.cons (useC_ok s105) (GSound.nil)) ?_ hA hN R hl
  rw [ht, e76 p1 p2 p3 K]
  exact h
/-! spec.l10At -/
def G102 : Con := fun args tm K => dCons args fun a1_ r2_ => dPl .int a1_ fun p1 => dCons r2_ fun a3_ r4_ => dInt .i64 a3_ fun p2 => dNil r4_ <| dEnd tm <| Ms_l10At p1 p2 (fun r1 => K (.int .i64 r1) [])
def H102_0 : LH where
  keep := [(0, .pure .int), (1, .x), (5, .x)]
  S := List Int × Int × Int
  enc := fun s => ([.pl .int s.1, .int .i64 s.2.1, .int .i64 s.2.2], [])
  dec := fun vs tm K => dCons vs fun a1_ r2_ => dPl .int a1_ fun q0 => dCons r2_ fun a3_ r4_ => dInt .i64 a3_ fun q1 => dCons r4_ fun a5_ r6_ => dInt .i64 a5_ fun q2 => dNil r6_ <| dEnd tm <| K (q0, q1, q2)
  law := by
    intro vs tm K h
    replace h := dCons_ok h; obtain ⟨a1_, r2_, rfl, h⟩ := h
    replace h := dPl_ok h; obtain ⟨q0, rfl, h⟩ := h
    replace h := dCons_ok h; obtain ⟨a3_, r4_, rfl, h⟩ := h
    replace h := dInt_ok h; obtain ⟨q1, rfl, h⟩ := h
    replace h := dCons_ok h; obtain ⟨a5_, r6_, rfl, h⟩ := h
    replace h := dInt_ok h; obtain ⟨q2, rfl, h⟩ := h
    replace h := dNil_ok h; obtain ⟨rfl, h⟩ := h
    replace h := dEnd_ok h; obtain ⟨rfl, h⟩ := h
    exact ⟨(q0, q1, q2), rfl, h⟩
def H102 : List (Nat × LH) := [(0, H102_0)]
def W102 : List (Nat × List (Nat × List Nat)) := []
def Γ102 : List (Nat × Con) := []
theorem e102 (p1 : List Int) (p2 : Int) (K : TV → TMem → Prop) : TW PP 19 Γ102 H102 W102 (List.length ([] : TMem)) (bodyOf Try.f102) (endT PP 19 [.tmp 4] [.x] [] (List.length ([] : TMem)) K) (argsF [.pl .int p1, .int .i64 p2]) [] =
    Ms_l10At p1 p2 (fun r1 => K (.int .i64 r1) []) := by kernel_rfl
theorem s102 : CSound PP 102 G102 := by
  intro args K c h fl A aargs hA hN R hl
  unfold G102 at h
  generalize ht : c.tm = tm at h
  replace h := dCons_ok h; obtain ⟨a1_, r2_, rfl, h⟩ := h
  replace h := dPl_ok h; obtain ⟨p1, rfl, h⟩ := h
  replace h := dCons_ok h; obtain ⟨a3_, r4_, rfl, h⟩ := h
  replace h := dInt_ok h; obtain ⟨p2, rfl, h⟩ := h
  replace h := dNil_ok h; obtain ⟨rfl, h⟩ := h
  replace h := dEnd_ok h; obtain ⟨rfl, h⟩ := h
  refine fun_ok (nt := 19) (x := bodyOf Try.f102) (Γ := Γ102) (H := H102) (WW := W102) (rs := [.tmp 4]) (shs := [.x]) (cons := []) mixed Try.func102 (by decide) (by kernel_rfl) Try.ntmps102 Try.results102 (GSound.nil) ?_ hA hN R hl
  rw [ht, e102 p1 p2 K]
  exact h
/-! impl.HeapValid -/
def G40 : Con := fun args tm K => dCons args fun a1_ r2_ => dAgg a1_ fun l3_ => dCons l3_ fun a4_ r5_ => dPl .int a4_ fun p1 => dCons r5_ fun a6_ r7_ => dPl .int a6_ fun p2 => dCons r7_ fun a8_ r9_ => dPl .int a8_ fun p3 => dNil r9_ <| dNil r2_ <| dEnd tm <| Mi_HeapValid p1 p2 p3 (fun r1 => K (.bool r1) [])
def H40_0 : LH where
  keep := [(1, .pc [.pure .int, .pure .int, .pure .int]), (44, .own .ints), (45, .x), (46, .x)]
  S := Int × Int × List Int × List Int × List Int × List (List Int)
  enc := fun s => ([.ptr 0 0, .sl 1, .int .i64 s.1, .int .i64 s.2.1], [⟨true, .cells [.pl .int s.2.2.1, .pl .int s.2.2.2.1, .pl .int s.2.2.2.2.1]⟩, ⟨true, .list .ints s.2.2.2.2.2⟩])
  dec := fun vs tm K => dCons vs fun a1_ r2_ => dPtr 0 a1_ <| dCons r2_ fun a3_ r4_ => dSl 1 a3_ <| dCons r4_ fun a5_ r6_ => dInt .i64 a5_ fun q0 => dCons r6_ fun a7_ r8_ => dInt .i64 a7_ fun q1 => dNil r8_ <| dBlk true tm fun b9_ m10_ => dCells b9_ fun c11_ => dCons c11_ fun a12_ r13_ => dPl .int a12_ fun q2 => dCons r13_ fun a14_ r15_ => dPl .int a14_ fun q3 => dCons r15_ fun a16_ r17_ => dPl .int a16_ fun q4 => dNil r17_ <| dBlk true m10_ fun b18_ m19_ => dList .ints b18_ fun q5 => dEnd m19_ <| K (q0, q1, q2, q3, q4, q5)
  law := by
    intro vs tm K h
    replace h := dCons_ok h; obtain ⟨a1_, r2_, rfl, h⟩ := h
    replace h := dPtr_ok h; obtain ⟨rfl, h⟩ := h
    replace h := dCons_ok h; obtain ⟨a3_, r4_, rfl, h⟩ := h
    replace h := dSl_ok h; obtain ⟨rfl, h⟩ := h
    replace h := dCons_ok h; obtain ⟨a5_, r6_, rfl, h⟩ := h
    replace h := dInt_ok h; obtain ⟨q0, rfl, h⟩ := h
    replace h := dCons_ok h; obtain ⟨a7_, r8_, rfl, h⟩ := h
    replace h := dInt_ok h; obtain ⟨q1, rfl, h⟩ := h
    replace h := dNil_ok h; obtain ⟨rfl, h⟩ := h
    replace h := dBlk_ok h; obtain ⟨b9_, m10_, rfl, h⟩ := h
    replace h := dCells_ok h; obtain ⟨c11_, rfl, h⟩ := h
    replace h := dCons_ok h; obtain ⟨a12_, r13_, rfl, h⟩ := h
    replace h := dPl_ok h; obtain ⟨q2, rfl, h⟩ := h
    replace h := dCons_ok h; obtain ⟨a14_, r15_, rfl, h⟩ := h
    replace h := dPl_ok h; obtain ⟨q3, rfl, h⟩ := h
    replace h := dCons_ok h; obtain ⟨a16_, r17_, rfl, h⟩ := h
    replace h := dPl_ok h; obtain ⟨q4, rfl, h⟩ := h
    replace h := dNil_ok h; obtain ⟨rfl, h⟩ := h
    replace h := dBlk_ok h; obtain ⟨b18_, m19_, rfl, h⟩ := h
    replace h := dList_ok h; obtain ⟨q5, rfl, h⟩ := h
    replace h := dEnd_ok h; obtain ⟨rfl, h⟩ := h
    exact ⟨(q0, q1, q2, q3, q4, q5), rfl, h⟩
def H40_2 : LH where
  keep := [(1, .pc [.pure .int, .pure .int, .pure .int]), (44, .own .ints), (45, .x), (46, .x), (50, .pure .int), (51, .x), (52, .x)]
  S := Int × Int × List Int × Int × Int × List Int × List Int × List Int × List (List Int)
  enc := fun s => ([.ptr 0 0, .sl 1, .int .i64 s.1, .int .i64 s.2.1, .pl .int s.2.2.1, .int .i64 s.2.2.2.1, .int .i64 s.2.2.2.2.1], [⟨true, .cells [.pl .int s.2.2.2.2.2.1, .pl .int s.2.2.2.2.2.2.1, .pl .int s.2.2.2.2.2.2.2.1]⟩, ⟨true, .list .ints s.2.2.2.2.2.2.2.2⟩])
  dec := fun vs tm K => dCons vs fun a1_ r2_ => dPtr 0 a1_ <| dCons r2_ fun a3_ r4_ => dSl 1 a3_ <| dCons r4_ fun a5_ r6_ => dInt .i64 a5_ fun q0 => dCons r6_ fun a7_ r8_ => dInt .i64 a7_ fun q1 => dCons r8_ fun a9_ r10_ => dPl .int a9_ fun q2 => dCons r10_ fun a11_ r12_ => dInt .i64 a11_ fun q3 => dCons r12_ fun a13_ r14_ => dInt .i64 a13_ fun q4 => dNil r14_ <| dBlk true tm fun b15_ m16_ => dCells b15_ fun c17_ => dCons c17_ fun a18_ r19_ => dPl .int a18_ fun q5 => dCons r19_ fun a20_ r21_ => dPl .int a20_ fun q6 => dCons r21_ fun a22_ r23_ => dPl .int a22_ fun q7 => dNil r23_ <| dBlk true m16_ fun b24_ m25_ => dList .ints b24_ fun q8 => dEnd m25_ <| K (q0, q1, q2, q3, q4, q5, q6, q7, q8)
  law := by
    intro vs tm K h
    replace h := dCons_ok h; obtain ⟨a1_, r2_, rfl, h⟩ := h
    replace h := dPtr_ok h; obtain ⟨rfl, h⟩ := h
    replace h := dCons_ok h; obtain ⟨a3_, r4_, rfl, h⟩ := h
    replace h := dSl_ok h; obtain ⟨rfl, h⟩ := h
    replace h := dCons_ok h; obtain ⟨a5_, r6_, rfl, h⟩ := h
    replace h := dInt_ok h; obtain ⟨q0, rfl, h⟩ := h
    replace h := dCons_ok h; obtain ⟨a7_, r8_, rfl, h⟩ := h
    replace h := dInt_ok h; obtain ⟨q1, rfl, h⟩ := h
    replace h := dCons_ok h; obtain ⟨a9_, r10_, rfl, h⟩ := h
    replace h := dPl_ok h; obtain ⟨q2, rfl, h⟩ := h
    replace h := dCons_ok h; obtain ⟨a11_, r12_, rfl, h⟩ := h
    replace h := dInt_ok h; obtain ⟨q3, rfl, h⟩ := h
    replace h := dCons_ok h; obtain ⟨a13_, r14_, rfl, h⟩ := h
    replace h := dInt_ok h; obtain ⟨q4, rfl, h⟩ := h
    replace h := dNil_ok h; obtain ⟨rfl, h⟩ := h
    replace h := dBlk_ok h; obtain ⟨b15_, m16_, rfl, h⟩ := h
    replace h := dCells_ok h; obtain ⟨c17_, rfl, h⟩ := h
    replace h := dCons_ok h; obtain ⟨a18_, r19_, rfl, h⟩ := h
    replace h := dPl_ok h; obtain ⟨q5, rfl, h⟩ := h
    replace h := dCons_ok h; obtain ⟨a20_, r21_, rfl, h⟩ := h
    replace h := dPl_ok h; obtain ⟨q6, rfl, h⟩ := h
    replace h := dCons_ok h; obtain ⟨a22_, r23_, rfl, h⟩ := h
    replace h := dPl_ok h; obtain ⟨q7, rfl, h⟩ := h
    replace h := dNil_ok h; obtain ⟨rfl, h⟩ := h
    replace h := dBlk_ok h; obtain ⟨b24_, m25_, rfl, h⟩ := h
    replace h := dList_ok h; obtain ⟨q8, rfl, h⟩ := h
    replace h := dEnd_ok h; obtain ⟨rfl, h⟩ := h
    exact ⟨(q0, q1, q2, q3, q4, q5, q6, q7, q8), rfl, h⟩
def H40 : List (Nat × LH) := [(0, H40_0), (2, H40_2)]
def W40 : List (Nat × List (Nat × List Nat)) := []
def Γ40 : List (Nat × Con) := []
theorem e40 (p1 : List Int) (p2 : List Int) (p3 : List Int) (K : TV → TMem → Prop) : TW PP 67 Γ40 H40 W40 (List.length ([] : TMem)) (bodyOf Try.f40) (endT PP 67 [.tmp 2] [.bl] [] (List.length ([] : TMem)) K) (argsF [.agg [.pl .int p1, .pl .int p2, .pl .int p3]]) [] =
    Mi_HeapValid p1 p2 p3 (fun r1 => K (.bool r1) []) := by kernel_rfl
theorem s40 : CSound PP 40 G40 := by
  intro args K c h fl A aargs hA hN R hl
  unfold G40 at h
  generalize ht : c.tm = tm at h
  replace h := dCons_ok h; obtain ⟨a1_, r2_, rfl, h⟩ := h
  replace h := dAgg_ok h; obtain ⟨l3_, rfl, h⟩ := h
  replace h := dCons_ok h; obtain ⟨a4_, r5_, rfl, h⟩ := h
  replace h := dPl_ok h; obtain ⟨p1, rfl, h⟩ := h
  replace h := dCons_ok h; obtain ⟨a6_, r7_, rfl, h⟩ := h
  replace h := dPl_ok h; obtain ⟨p2, rfl, h⟩ := h
  replace h := dCons_ok h; obtain ⟨a8_, r9_, rfl, h⟩ := h
  replace h := dPl_ok h; obtain ⟨p3, rfl, h⟩ := h
  replace h := dNil_ok h; obtain ⟨rfl, h⟩ := h
  replace h := dNil_ok h; obtain ⟨rfl, h⟩ := h
  replace h := dEnd_ok h; obtain ⟨rfl, h⟩ := h
  refine fun_ok (nt := 67) (x := bodyOf Try.f40) (Γ := Γ40) (H := H40) (WW := W40) (rs := [.tmp 2]) (shs := [.bl]) (cons := []) mixed Try.func40 (by decide) (by kernel_rfl) Try.ntmps40 Try.results40 (GSound.nil) ?_ hA hN R hl
  rw [ht, e40 p1 p2 p3 K]
  exact h
/-! slices.Index[[]int,int] -/
def G75 : Con := fun args tm K => dCons args fun a1_ r2_ => dPl .int a1_ fun p1 => dCons r2_ fun a3_ r4_ => dInt .i64 a3_ fun p2 => dNil r4_ <| dEnd tm <| M_Index_int p1 p2 (fun r1 => K (.int .i64 r1) [])
def H75_0 : LH where
  keep := [(0, .pure .int), (1, .x), (7, .x), (8, .x)]
  S := List Int × Int × Int × Int
  enc := fun s => ([.pl .int s.1, .int .i64 s.2.1, .int .i64 s.2.2.1, .int .i64 s.2.2.2], [])
  dec := fun vs tm K => dCons vs fun a1_ r2_ => dPl .int a1_ fun q0 => dCons r2_ fun a3_ r4_ => dInt .i64 a3_ fun q1 => dCons r4_ fun a5_ r6_ => dInt .i64 a5_ fun q2 => dCons r6_ fun a7_ r8_ => dInt .i64 a7_ fun q3 => dNil r8_ <| dEnd tm <| K (q0, q1, q2, q3)
  law := by
    intro vs tm K h
    replace h := dCons_ok h; obtain ⟨a1_, r2_, rfl, h⟩ := h
    replace h := dPl_ok h; obtain ⟨q0, rfl, h⟩ := h
    replace h := dCons_ok h; obtain ⟨a3_, r4_, rfl, h⟩ := h
    replace h := dInt_ok h; obtain ⟨q1, rfl, h⟩ := h
    replace h := dCons_ok h; obtain ⟨a5_, r6_, rfl, h⟩ := h
    replace h := dInt_ok h; obtain ⟨q2, rfl, h⟩ := h
    replace h := dCons_ok h; obtain ⟨a7_, r8_, rfl, h⟩ := h
    replace h := dInt_ok h; obtain ⟨q3, rfl, h⟩ := h
    replace h := dNil_ok h; obtain ⟨rfl, h⟩ := h
    replace h := dEnd_ok h; obtain ⟨rfl, h⟩ := h
    exact ⟨(q0, q1, q2, q3), rfl, h⟩
def H75 : List (Nat × LH) := [(0, H75_0)]
def W75 : List (Nat × List (Nat × List Nat)) := []
def Γ75 : List (Nat × Con) := []
theorem e75 (p1 : List Int) (p2 : Int) (K : TV → TMem → Prop) : TW PP 19 Γ75 H75 W75 (List.length ([] : TMem)) (bodyOf Try.f75) (endT PP 19 [.tmp 4] [.x] [] (List.length ([] : TMem)) K) (argsF [.pl .int p1, .int .i64 p2]) [] =
    M_Index_int p1 p2 (fun r1 => K (.int .i64 r1) []) := by kernel_rfl
theorem s75 : CSound PP 75 G75 := by
  intro args K c h fl A aargs hA hN R hl
  unfold G75 at h
  generalize ht : c.tm = tm at h
  replace h := dCons_ok h; obtain ⟨a1_, r2_, rfl, h⟩ := h
  replace h := dPl_ok h; obtain ⟨p1, rfl, h⟩ := h
  replace h := dCons_ok h; obtain ⟨a3_, r4_, rfl, h⟩ := h
  replace h := dInt_ok h; obtain ⟨p2, rfl, h⟩ := h
  replace h := dNil_ok h; obtain ⟨rfl, h⟩ := h
  replace h := dEnd_ok h; obtain ⟨rfl, h⟩ := h
  refine fun_ok (nt := 19) (x := bodyOf Try.f75) (Γ := Γ75) (H := H75) (WW := W75) (rs := [.tmp 4]) (shs := [.x]) (cons := []) mixed Try.func75 (by decide) (by kernel_rfl) Try.ntmps75 Try.results75 (GSound.nil) ?_ hA hN R hl
  rw [ht, e75 p1 p2 K]
  exact h
/-! slices.Contains[[]int,int] -/
def G62 : Con := fun args tm K => dCons args fun a1_ r2_ => dPl .int a1_ fun p1 => dCons r2_ fun a3_ r4_ => dInt .i64 a3_ fun p2 => dNil r4_ <| dEnd tm <| M_Contains_int p1 p2 (fun r1 => K (.bool r1) [])
def H62 : List (Nat × LH) := []
def W62 : List (Nat × List (Nat × List Nat)) := []
def Γ62 : List (Nat × Con) := [(75, useC [.pure .int, .x] G75)]
theorem e62 (p1 : List Int) (p2 : Int) (K : TV → TMem → Prop) : TW PP 9 Γ62 H62 W62 (List.length ([] : TMem)) (bodyOf Try.f62) (endT PP 9 [.tmp 4] [.bl] [] (List.length ([] : TMem)) K) (argsF [.pl .int p1, .int .i64 p2]) [] =
    M_Contains_int p1 p2 (fun r1 => K (.bool r1) []) := by kernel_rfl
theorem s62 : CSound PP 62 G62 := by
  intro args K c h fl A aargs hA hN R hl
  unfold G62 at h
  generalize ht : c.tm = tm at h
  replace h := dCons_ok h; obtain ⟨a1_, r2_, rfl, h⟩ := h
  replace h := dPl_ok h; obtain ⟨p1, rfl, h⟩ := h
  replace h := dCons_ok h; obtain ⟨a3_, r4_, rfl, h⟩ := h
  replace h := dInt_ok h; obtain ⟨p2, rfl, h⟩ := h
  replace h := dNil_ok h; obtain ⟨rfl, h⟩ := h
  replace h := dEnd_ok h; obtain ⟨rfl, h⟩ := h
  refine fun_ok (nt := 9) (x := bodyOf Try.f62) (Γ := Γ62) (H := H62) (WW := W62) (rs := [.tmp 4]) (shs := [.bl]) (cons := []) mixed Try.func62 (by decide) (by kernel_rfl) Try.ntmps62 Try.results62 (.cons (useC_ok s75) (GSound.nil)) ?_ hA hN R hl
  rw [ht, e62 p1 p2 K]
  exact h
/-! math/bits.Mul64 -/
def G128 : Con := fun args tm K => dCons args fun a1_ r2_ => dInt .u64 a1_ fun p1 => dCons r2_ fun a3_ r4_ => dInt .u64 a3_ fun p2 => dNil r4_ <| dEnd tm <| M_math_bits_Mul64 p1 p2 (fun r1 r2 => K (.tup [.int .u64 r1, .int .u64 r2]) [])
def H128 : List (Nat × LH) := []
def W128 : List (Nat × List (Nat × List Nat)) := []
def Γ128 : List (Nat × Con) := []
theorem e128 (p1 : Int) (p2 : Int) (K : TV → TMem → Prop) : TW PP 51 Γ128 H128 W128 (List.length ([] : TMem)) (bodyOf Try.f128) (endT PP 51 [.tmp 4, .tmp 5] [.x, .x] [] (List.length ([] : TMem)) K) (argsF [.int .u64 p1, .int .u64 p2]) [] =
    M_math_bits_Mul64 p1 p2 (fun r1 r2 => K (.tup [.int .u64 r1, .int .u64 r2]) []) := by kernel_rfl
theorem s128 : CSound PP 128 G128 := by
  intro args K c h fl A aargs hA hN R hl
  unfold G128 at h
  generalize ht : c.tm = tm at h
  replace h := dCons_ok h; obtain ⟨a1_, r2_, rfl, h⟩ := h
  replace h := dInt_ok h; obtain ⟨p1, rfl, h⟩ := h
  replace h := dCons_ok h; obtain ⟨a3_, r4_, rfl, h⟩ := h
  replace h := dInt_ok h; obtain ⟨p2, rfl, h⟩ := h
  replace h := dNil_ok h; obtain ⟨rfl, h⟩ := h
  replace h := dEnd_ok h; obtain ⟨rfl, h⟩ := h
  refine fun_ok (nt := 51) (x := bodyOf Try.f128) (Γ := Γ128) (H := H128) (WW := W128) (rs := [.tmp 4, .tmp 5]) (shs := [.x, .x]) (cons := []) mixed Try.func128 (by decide) (by kernel_rfl) Try.ntmps128 Try.results128 (GSound.nil) ?_ hA hN R hl
  rw [ht, e128 p1 p2 K]
  exact h
/-! math/bits.Mul -/
def G121 : Con := fun args tm K => dCons args fun a1_ r2_ => dInt .u64 a1_ fun p1 => dCons r2_ fun a3_ r4_ => dInt .u64 a3_ fun p2 => dNil r4_ <| dEnd tm <| M_math_bits_Mul p1 p2 (fun r1 r2 => K (.tup [.int .u64 r1, .int .u64 r2]) [])
def H121 : List (Nat × LH) := []
def W121 : List (Nat × List (Nat × List Nat)) := []
def Γ121 : List (Nat × Con) := [(128, useC [.x, .x] G128)]
theorem e121 (p1 : Int) (p2 : Int) (K : TV → TMem → Prop) : TW PP 30 Γ121 H121 W121 (List.length ([] : TMem)) (bodyOf Try.f121) (endT PP 30 [.tmp 4, .tmp 5] [.x, .x] [] (List.length ([] : TMem)) K) (argsF [.int .u64 p1, .int .u64 p2]) [] =
    M_math_bits_Mul p1 p2 (fun r1 r2 => K (.tup [.int .u64 r1, .int .u64 r2]) []) := by kernel_rfl
theorem s121 : CSound PP 121 G121 := by
  intro args K c h fl A aargs hA hN R hl
  unfold G121 at h
  generalize ht : c.tm = tm at h
  replace h := dCons_ok h; obtain ⟨a1_, r2_, rfl, h⟩ := h
  replace h := dInt_ok h; obtain ⟨p1, rfl, h⟩ := h
  replace h := dCons_ok h; obtain ⟨a3_, r4_, rfl, h⟩ := h
  replace h := dInt_ok h; obtain ⟨p2, rfl, h⟩ := h
  replace h := dNil_ok h; obtain ⟨rfl, h⟩ := h
  replace h := dEnd_ok h; obtain ⟨rfl, h⟩ := h
  refine fun_ok (nt := 30) (x := bodyOf Try.f121) (Γ := Γ121) (H := H121) (WW := W121) (rs := [.tmp 4, .tmp 5]) (shs := [.x, .x]) (cons := []) mixed Try.func121 (by decide) (by kernel_rfl) Try.ntmps121 Try.results121 (.cons (useC_ok s128) (GSound.nil)) ?_ hA hN R hl
  rw [ht, e121 p1 p2 K]
  exact h
/-! slices.Repeat[[]int,int] -/
def G103 : Con := fun args tm K => dCons args fun a1_ r2_ => dPl .int a1_ fun p1 => dCons r2_ fun a3_ r4_ => dInt .i64 a3_ fun p2 => dNil r4_ <| dEnd tm <| M_Repeat_int p1 p2 (fun r1 => K (.sl 0) [⟨true, .list .int r1⟩])
def H103_0 : LH where
  keep := [(7, .own .int), (8, .x)]
  S := Int × List Int
  enc := fun s => ([.sl 0, .int .i64 s.1], [⟨true, .list .int s.2⟩])
  dec := fun vs tm K => dCons vs fun a1_ r2_ => dSl 0 a1_ <| dCons r2_ fun a3_ r4_ => dInt .i64 a3_ fun q0 => dNil r4_ <| dBlk true tm fun b5_ m6_ => dList .int b5_ fun q1 => dEnd m6_ <| K (q0, q1)
  law := by
    intro vs tm K h
    replace h := dCons_ok h; obtain ⟨a1_, r2_, rfl, h⟩ := h
    replace h := dSl_ok h; obtain ⟨rfl, h⟩ := h
    replace h := dCons_ok h; obtain ⟨a3_, r4_, rfl, h⟩ := h
    replace h := dInt_ok h; obtain ⟨q0, rfl, h⟩ := h
    replace h := dNil_ok h; obtain ⟨rfl, h⟩ := h
    replace h := dBlk_ok h; obtain ⟨b5_, m6_, rfl, h⟩ := h
    replace h := dList_ok h; obtain ⟨q1, rfl, h⟩ := h
    replace h := dEnd_ok h; obtain ⟨rfl, h⟩ := h
    exact ⟨(q0, q1), rfl, h⟩
def H103 : List (Nat × LH) := [(0, H103_0)]
def W103 : List (Nat × List (Nat × List Nat)) := [(2000009, [(0, [3, 6])])]
def Γ103 : List (Nat × Con) := [(121, useC [.x, .x] G121)]
theorem e103 (p1 : List Int) (p2 : Int) (K : TV → TMem → Prop) : TW PP 48 Γ103 H103 W103 (List.length ([] : TMem)) (bodyOf Try.f103) (endT PP 48 [.tmp 4] [.own .int] [] (List.length ([] : TMem)) K) (argsF [.pl .int p1, .int .i64 p2]) [] =
    M_Repeat_int p1 p2 (fun r1 => K (.sl 0) [⟨true, .list .int r1⟩]) := by kernel_rfl
theorem s103 : CSound PP 103 G103 := by
  intro args K c h fl A aargs hA hN R hl
  unfold G103 at h
  generalize ht : c.tm = tm at h
  replace h := dCons_ok h; obtain ⟨a1_, r2_, rfl, h⟩ := h
  replace h := dPl_ok h; obtain ⟨p1, rfl, h⟩ := h
  replace h := dCons_ok h; obtain ⟨a3_, r4_, rfl, h⟩ := h
  replace h := dInt_ok h; obtain ⟨p2, rfl, h⟩ := h
  replace h := dNil_ok h; obtain ⟨rfl, h⟩ := h
  replace h := dEnd_ok h; obtain ⟨rfl, h⟩ := h
  refine fun_ok (nt := 48) (x := bodyOf Try.f103) (Γ := Γ103) (H := H103) (WW := W103) (rs := [.tmp 4]) (shs := [.own .int]) (cons := []) mixed Try.func103 (by decide) (by kernel_rfl) Try.ntmps103 Try.results103 (.cons (useC_ok s121) (GSound.nil)) ?_ hA hN R hl
  rw [ht, e103 p1 p2 K]
  exact h
/-! impl.NewHeap -/
def G63 : Con := fun args tm K => dCons args fun a1_ r2_ => dInt .i64 a1_ fun p1 => dCons r2_ fun a3_ r4_ => dInt .i64 a3_ fun p2 => dNil r4_ <| dEnd tm <| Mi_NewHeap p1 p2 (fun r1 r2 r3 r4 => K (.tup [.agg [.sl 0, .sl 1, .sl 2], .bool r1]) [⟨true, .list .int r2⟩, ⟨true, .list .int r3⟩, ⟨true, .list .int r4⟩])
def H63 : List (Nat × LH) := []
def W63 : List (Nat × List (Nat × List Nat)) := []
def Γ63 : List (Nat × Con) := [(103, useC [.pure .int, .x] G103)]
theorem e63 (p1 : Int) (p2 : Int) (K : TV → TMem → Prop) : TW PP 31 Γ63 H63 W63 (List.length ([] : TMem)) (bodyOf Try.f63) (endT PP 31 [.cell 4 26, .tmp 5] [.ag [.own .int, .own .int, .own .int], .bl] [] (List.length ([] : TMem)) K) (argsF [.int .i64 p1, .int .i64 p2]) [] =
    Mi_NewHeap p1 p2 (fun r1 r2 r3 r4 => K (.tup [.agg [.sl 0, .sl 1, .sl 2], .bool r1]) [⟨true, .list .int r2⟩, ⟨true, .list .int r3⟩, ⟨true, .list .int r4⟩]) := by kernel_rfl
theorem s63 : CSound PP 63 G63 := by
  intro args K c h fl A aargs hA hN R hl
  unfold G63 at h
  generalize ht : c.tm = tm at h
  replace h := dCons_ok h; obtain ⟨a1_, r2_, rfl, h⟩ := h
  replace h := dInt_ok h; obtain ⟨p1, rfl, h⟩ := h
  replace h := dCons_ok h; obtain ⟨a3_, r4_, rfl, h⟩ := h
  replace h := dInt_ok h; obtain ⟨p2, rfl, h⟩ := h
  replace h := dNil_ok h; obtain ⟨rfl, h⟩ := h
  replace h := dEnd_ok h; obtain ⟨rfl, h⟩ := h
  refine fun_ok (nt := 31) (x := bodyOf Try.f63) (Γ := Γ63) (H := H63) (WW := W63) (rs := [.cell 4 26, .tmp 5]) (shs := [.ag [.own .int, .own .int, .own .int], .bl]) (cons := []) mixed Try.func63 (by decide) (by kernel_rfl) Try.ntmps63 Try.results63 (.cons (useC_ok s103) (GSound.nil)) ?_ hA hN R hl
  rw [ht, e63 p1 p2 K]
  exact h
/-! laws.eqIntS -/
def G23 : Con := fun args tm K => dCons args fun a1_ r2_ => dPl .int a1_ fun p1 => dCons r2_ fun a3_ r4_ => dPl .int a3_ fun p2 => dNil r4_ <| dEnd tm <| Ml_eqIntS p1 p2 (fun r1 => K (.bool r1) [])
def H23_0 : LH where
  keep := [(0, .pure .int), (1, .pure .int), (5, .x)]
  S := List Int × List Int × Int
  enc := fun s => ([.pl .int s.1, .pl .int s.2.1, .int .i64 s.2.2], [])
  dec := fun vs tm K => dCons vs fun a1_ r2_ => dPl .int a1_ fun q0 => dCons r2_ fun a3_ r4_ => dPl .int a3_ fun q1 => dCons r4_ fun a5_ r6_ => dInt .i64 a5_ fun q2 => dNil r6_ <| dEnd tm <| K (q0, q1, q2)
  law := by
    intro vs tm K h
    replace h := dCons_ok h; obtain ⟨a1_, r2_, rfl, h⟩ := h
    replace h := dPl_ok h; obtain ⟨q0, rfl, h⟩ := h
    replace h := dCons_ok h; obtain ⟨a3_, r4_, rfl, h⟩ := h
    replace h := dPl_ok h; obtain ⟨q1, rfl, h⟩ := h
    replace h := dCons_ok h; obtain ⟨a5_, r6_, rfl, h⟩ := h
    replace h := dInt_ok h; obtain ⟨q2, rfl, h⟩ := h
    replace h := dNil_ok h; obtain ⟨rfl, h⟩ := h
    replace h := dEnd_ok h; obtain ⟨rfl, h⟩ := h
    exact ⟨(q0, q1, q2), rfl, h⟩
def H23 : List (Nat × LH) := [(0, H23_0)]
def W23 : List (Nat × List (Nat × List Nat)) := []
def Γ23 : List (Nat × Con) := []
theorem e23 (p1 : List Int) (p2 : List Int) (K : TV → TMem → Prop) : TW PP 26 Γ23 H23 W23 (List.length ([] : TMem)) (bodyOf Try.f23) (endT PP 26 [.tmp 4] [.bl] [] (List.length ([] : TMem)) K) (argsF [.pl .int p1, .pl .int p2]) [] =
    Ml_eqIntS p1 p2 (fun r1 => K (.bool r1) []) := by kernel_rfl
theorem s23 : CSound PP 23 G23 := by
  intro args K c h fl A aargs hA hN R hl
  unfold G23 at h
  generalize ht : c.tm = tm at h
  replace h := dCons_ok h; obtain ⟨a1_, r2_, rfl, h⟩ := h
  replace h := dPl_ok h; obtain ⟨p1, rfl, h⟩ := h
  replace h := dCons_ok h; obtain ⟨a3_, r4_, rfl, h⟩ := h
  replace h := dPl_ok h; obtain ⟨p2, rfl, h⟩ := h
  replace h := dNil_ok h; obtain ⟨rfl, h⟩ := h
  replace h := dEnd_ok h; obtain ⟨rfl, h⟩ := h
  refine fun_ok (nt := 26) (x := bodyOf Try.f23) (Γ := Γ23) (H := H23) (WW := W23) (rs := [.tmp 4]) (shs := [.bl]) (cons := []) mixed Try.func23 (by decide) (by kernel_rfl) Try.ntmps23 Try.results23 (GSound.nil) ?_ hA hN R hl
  rw [ht, e23 p1 p2 K]
  exact h
/-! laws.eqHeap -/
def G22 : Con := fun args tm K => dCons args fun a1_ r2_ => dAgg a1_ fun l3_ => dCons l3_ fun a4_ r5_ => dPl .int a4_ fun p1 => dCons r5_ fun a6_ r7_ => dPl .int a6_ fun p2 => dCons r7_ fun a8_ r9_ => dPl .int a8_ fun p3 => dNil r9_ <| dCons r2_ fun a10_ r11_ => dAgg a10_ fun l12_ => dCons l12_ fun a13_ r14_ => dPl .int a13_ fun p4 => dCons r14_ fun a15_ r16_ => dPl .int a15_ fun p5 => dCons r16_ fun a17_ r18_ => dPl .int a17_ fun p6 => dNil r18_ <| dNil r11_ <| dEnd tm <| Ml_eqHeap p1 p2 p3 p4 p5 p6 (fun r1 => K (.bool r1) [])
def H22 : List (Nat × LH) := []
def W22 : List (Nat × List (Nat × List Nat)) := []
def Γ22 : List (Nat × Con) := [(23, useC [.pure .int, .pure .int] G23)]
theorem e22 (p1 : List Int) (p2 : List Int) (p3 : List Int) (p4 : List Int) (p5 : List Int) (p6 : List Int) (K : TV → TMem → Prop) : TW PP 23 Γ22 H22 W22 (List.length ([] : TMem)) (bodyOf Try.f22) (endT PP 23 [.tmp 4] [.bl] [] (List.length ([] : TMem)) K) (argsF [.agg [.pl .int p1, .pl .int p2, .pl .int p3], .agg [.pl .int p4, .pl .int p5, .pl .int p6]]) [] =
    Ml_eqHeap p1 p2 p3 p4 p5 p6 (fun r1 => K (.bool r1) []) := by kernel_rfl
theorem s22 : CSound PP 22 G22 := by
  intro args K c h fl A aargs hA hN R hl
  unfold G22 at h
  generalize ht : c.tm = tm at h
  replace h := dCons_ok h; obtain ⟨a1_, r2_, rfl, h⟩ := h
  replace h := dAgg_ok h; obtain ⟨l3_, rfl, h⟩ := h
  replace h := dCons_ok h; obtain ⟨a4_, r5_, rfl, h⟩ := h
  replace h := dPl_ok h; obtain ⟨p1, rfl, h⟩ := h
  replace h := dCons_ok h; obtain ⟨a6_, r7_, rfl, h⟩ := h
  replace h := dPl_ok h; obtain ⟨p2, rfl, h⟩ := h
  replace h := dCons_ok h; obtain ⟨a8_, r9_, rfl, h⟩ := h
  replace h := dPl_ok h; obtain ⟨p3, rfl, h⟩ := h
  replace h := dNil_ok h; obtain ⟨rfl, h⟩ := h
  replace h := dCons_ok h; obtain ⟨a10_, r11_, rfl, h⟩ := h
  replace h := dAgg_ok h; obtain ⟨l12_, rfl, h⟩ := h
  replace h := dCons_ok h; obtain ⟨a13_, r14_, rfl, h⟩ := h
  replace h := dPl_ok h; obtain ⟨p4, rfl, h⟩ := h
  replace h := dCons_ok h; obtain ⟨a15_, r16_, rfl, h⟩ := h
  replace h := dPl_ok h; obtain ⟨p5, rfl, h⟩ := h
  replace h := dCons_ok h; obtain ⟨a17_, r18_, rfl, h⟩ := h
  replace h := dPl_ok h; obtain ⟨p6, rfl, h⟩ := h
  replace h := dNil_ok h; obtain ⟨rfl, h⟩ := h
  replace h := dNil_ok h; obtain ⟨rfl, h⟩ := h
  replace h := dEnd_ok h; obtain ⟨rfl, h⟩ := h
  refine fun_ok (nt := 23) (x := bodyOf Try.f22) (Γ := Γ22) (H := H22) (WW := W22) (rs := [.tmp 4]) (shs := [.bl]) (cons := []) mixed Try.func22 (by decide) (by kernel_rfl) Try.ntmps22 Try.results22 (.cons (useC_ok s23) (GSound.nil)) ?_ hA hN R hl
  rw [ht, e22 p1 p2 p3 p4 p5 p6 K]
  exact h
/-! laws.markIntS -/
def G25 : Con := fun args tm K => dCons args fun a1_ r2_ => dSl 0 a1_ <| dCons r2_ fun a3_ r4_ => dInt .i64 a3_ fun p1 => dNil r4_ <| dBlk true tm fun b5_ m6_ => dList .int b5_ fun p2 => dEnd m6_ <| Ml_markIntS p1 p2 (fun r1 r2 => K (.int .i64 r1) [⟨true, .list .int r2⟩])
def H25_0 : LH where
  keep := [(0, .own .int), (1, .x), (5, .x)]
  S := Int × Int × List Int
  enc := fun s => ([.sl 0, .int .i64 s.1, .int .i64 s.2.1], [⟨true, .list .int s.2.2⟩])
  dec := fun vs tm K => dCons vs fun a1_ r2_ => dSl 0 a1_ <| dCons r2_ fun a3_ r4_ => dInt .i64 a3_ fun q0 => dCons r4_ fun a5_ r6_ => dInt .i64 a5_ fun q1 => dNil r6_ <| dBlk true tm fun b7_ m8_ => dList .int b7_ fun q2 => dEnd m8_ <| K (q0, q1, q2)
  law := by
    intro vs tm K h
    replace h := dCons_ok h; obtain ⟨a1_, r2_, rfl, h⟩ := h
    replace h := dSl_ok h; obtain ⟨rfl, h⟩ := h
    replace h := dCons_ok h; obtain ⟨a3_, r4_, rfl, h⟩ := h
    replace h := dInt_ok h; obtain ⟨q0, rfl, h⟩ := h
    replace h := dCons_ok h; obtain ⟨a5_, r6_, rfl, h⟩ := h
    replace h := dInt_ok h; obtain ⟨q1, rfl, h⟩ := h
    replace h := dNil_ok h; obtain ⟨rfl, h⟩ := h
    replace h := dBlk_ok h; obtain ⟨b7_, m8_, rfl, h⟩ := h
    replace h := dList_ok h; obtain ⟨q2, rfl, h⟩ := h
    replace h := dEnd_ok h; obtain ⟨rfl, h⟩ := h
    exact ⟨(q0, q1, q2), rfl, h⟩
def H25 : List (Nat × LH) := [(0, H25_0)]
def W25 : List (Nat × List (Nat × List Nat)) := []
def Γ25 : List (Nat × Con) := []
theorem e25 (p1 : Int) (p2 : List Int) (K : TV → TMem → Prop) : TW PP 19 Γ25 H25 W25 (List.length ([⟨true, .list .int p2⟩] : TMem)) (bodyOf Try.f25) (endT PP 19 [.tmp 4] [.x] [] (List.length ([⟨true, .list .int p2⟩] : TMem)) K) (argsF [.sl 0, .int .i64 p1]) [⟨true, .list .int p2⟩] =
    Ml_markIntS p1 p2 (fun r1 r2 => K (.int .i64 r1) [⟨true, .list .int r2⟩]) := by kernel_rfl
theorem s25 : CSound PP 25 G25 := by
  intro args K c h fl A aargs hA hN R hl
  unfold G25 at h
  generalize ht : c.tm = tm at h
  replace h := dCons_ok h; obtain ⟨a1_, r2_, rfl, h⟩ := h
  replace h := dSl_ok h; obtain ⟨rfl, h⟩ := h
  replace h := dCons_ok h; obtain ⟨a3_, r4_, rfl, h⟩ := h
  replace h := dInt_ok h; obtain ⟨p1, rfl, h⟩ := h
  replace h := dNil_ok h; obtain ⟨rfl, h⟩ := h
  replace h := dBlk_ok h; obtain ⟨b5_, m6_, rfl, h⟩ := h
  replace h := dList_ok h; obtain ⟨p2, rfl, h⟩ := h
  replace h := dEnd_ok h; obtain ⟨rfl, h⟩ := h
  refine fun_ok (nt := 19) (x := bodyOf Try.f25) (Γ := Γ25) (H := H25) (WW := W25) (rs := [.tmp 4]) (shs := [.x]) (cons := []) mixed Try.func25 (by decide) (by kernel_rfl) Try.ntmps25 Try.results25 (GSound.nil) ?_ hA hN R hl
  rw [ht, e25 p1 p2 K]
  exact h
/-! laws.markHeap -/
def G24 : Con := fun args tm K => dCons args fun a1_ r2_ => dAgg a1_ fun l3_ => dCons l3_ fun a4_ r5_ => dSl 0 a4_ <| dCons r5_ fun a6_ r7_ => dSl 1 a6_ <| dCons r7_ fun a8_ r9_ => dSl 2 a8_ <| dNil r9_ <| dCons r2_ fun a10_ r11_ => dInt .i64 a10_ fun p1 => dNil r11_ <| dBlk true tm fun b12_ m13_ => dList .int b12_ fun p2 => dBlk true m13_ fun b14_ m15_ => dList .int b14_ fun p3 => dBlk true m15_ fun b16_ m17_ => dList .int b16_ fun p4 => dEnd m17_ <| Ml_markHeap p1 p2 p3 p4 (fun r1 r2 r3 r4 => K (.int .i64 r1) [⟨true, .list .int r2⟩, ⟨true, .list .int r3⟩, ⟨true, .list .int r4⟩])
def H24 : List (Nat × LH) := []
def W24 : List (Nat × List (Nat × List Nat)) := []
def Γ24 : List (Nat × Con) := [(25, useC [.own .int, .x] G25)]
theorem e24 (p1 : Int) (p2 : List Int) (p3 : List Int) (p4 : List Int) (K : TV → TMem → Prop) : TW PP 18 Γ24 H24 W24 (List.length ([⟨true, .list .int p2⟩, ⟨true, .list .int p3⟩, ⟨true, .list .int p4⟩] : TMem)) (bodyOf Try.f24) (endT PP 18 [.tmp 4] [.x] [] (List.length ([⟨true, .list .int p2⟩, ⟨true, .list .int p3⟩, ⟨true, .list .int p4⟩] : TMem)) K) (argsF [.agg [.sl 0, .sl 1, .sl 2], .int .i64 p1]) [⟨true, .list .int p2⟩, ⟨true, .list .int p3⟩, ⟨true, .list .int p4⟩] =
    Ml_markHeap p1 p2 p3 p4 (fun r1 r2 r3 r4 => K (.int .i64 r1) [⟨true, .list .int r2⟩, ⟨true, .list .int r3⟩, ⟨true, .list .int r4⟩]) := by kernel_rfl
theorem s24 : CSound PP 24 G24 := by
  intro args K c h fl A aargs hA hN R hl
  unfold G24 at h
  generalize ht : c.tm = tm at h
  replace h := dCons_ok h; obtain ⟨a1_, r2_, rfl, h⟩ := h
  replace h := dAgg_ok h; obtain ⟨l3_, rfl, h⟩ := h
  replace h := dCons_ok h; obtain ⟨a4_, r5_, rfl, h⟩ := h
  replace h := dSl_ok h; obtain ⟨rfl, h⟩ := h
  replace h := dCons_ok h; obtain ⟨a6_, r7_, rfl, h⟩ := h
  replace h := dSl_ok h; obtain ⟨rfl, h⟩ := h
  replace h := dCons_ok h; obtain ⟨a8_, r9_, rfl, h⟩ := h
  replace h := dSl_ok h; obtain ⟨rfl, h⟩ := h
  replace h := dNil_ok h; obtain ⟨rfl, h⟩ := h
  replace h := dCons_ok h; obtain ⟨a10_, r11_, rfl, h⟩ := h
  replace h := dInt_ok h; obtain ⟨p1, rfl, h⟩ := h
  replace h := dNil_ok h; obtain ⟨rfl, h⟩ := h
  replace h := dBlk_ok h; obtain ⟨b12_, m13_, rfl, h⟩ := h
  replace h := dList_ok h; obtain ⟨p2, rfl, h⟩ := h
  replace h := dBlk_ok h; obtain ⟨b14_, m15_, rfl, h⟩ := h
  replace h := dList_ok h; obtain ⟨p3, rfl, h⟩ := h
  replace h := dBlk_ok h; obtain ⟨b16_, m17_, rfl, h⟩ := h
  replace h := dList_ok h; obtain ⟨p4, rfl, h⟩ := h
  replace h := dEnd_ok h; obtain ⟨rfl, h⟩ := h
  refine fun_ok (nt := 18) (x := bodyOf Try.f24) (Γ := Γ24) (H := H24) (WW := W24) (rs := [.tmp 4]) (shs := [.x]) (cons := []) mixed Try.func24 (by decide) (by kernel_rfl) Try.ntmps24 Try.results24 (.cons (useC_ok s25) (GSound.nil)) ?_ hA hN R hl
  rw [ht, e24 p1 p2 p3 p4 K]
  exact h
/-! laws.heldIntS -/
def G36 : Con := fun args tm K => dCons args fun a1_ r2_ => dPl .int a1_ fun p1 => dCons r2_ fun a3_ r4_ => dInt .i64 a3_ fun p2 => dNil r4_ <| dEnd tm <| Ml_heldIntS p1 p2 (fun r1 => K (.int .i64 r1) [])
def H36_0 : LH where
  keep := [(0, .pure .int), (1, .x), (5, .x)]
  S := List Int × Int × Int
  enc := fun s => ([.pl .int s.1, .int .i64 s.2.1, .int .i64 s.2.2], [])
  dec := fun vs tm K => dCons vs fun a1_ r2_ => dPl .int a1_ fun q0 => dCons r2_ fun a3_ r4_ => dInt .i64 a3_ fun q1 => dCons r4_ fun a5_ r6_ => dInt .i64 a5_ fun q2 => dNil r6_ <| dEnd tm <| K (q0, q1, q2)
  law := by
    intro vs tm K h
    replace h := dCons_ok h; obtain ⟨a1_, r2_, rfl, h⟩ := h
    replace h := dPl_ok h; obtain ⟨q0, rfl, h⟩ := h
    replace h := dCons_ok h; obtain ⟨a3_, r4_, rfl, h⟩ := h
    replace h := dInt_ok h; obtain ⟨q1, rfl, h⟩ := h
    replace h := dCons_ok h; obtain ⟨a5_, r6_, rfl, h⟩ := h
    replace h := dInt_ok h; obtain ⟨q2, rfl, h⟩ := h
    replace h := dNil_ok h; obtain ⟨rfl, h⟩ := h
    replace h := dEnd_ok h; obtain ⟨rfl, h⟩ := h
    exact ⟨(q0, q1, q2), rfl, h⟩
def H36 : List (Nat × LH) := [(0, H36_0)]
def W36 : List (Nat × List (Nat × List Nat)) := []
def Γ36 : List (Nat × Con) := []
theorem e36 (p1 : List Int) (p2 : Int) (K : TV → TMem → Prop) : TW PP 21 Γ36 H36 W36 (List.length ([] : TMem)) (bodyOf Try.f36) (endT PP 21 [.tmp 4] [.x] [] (List.length ([] : TMem)) K) (argsF [.pl .int p1, .int .i64 p2]) [] =
    Ml_heldIntS p1 p2 (fun r1 => K (.int .i64 r1) []) := by kernel_rfl
theorem s36 : CSound PP 36 G36 := by
  intro args K c h fl A aargs hA hN R hl
  unfold G36 at h
  generalize ht : c.tm = tm at h
  replace h := dCons_ok h; obtain ⟨a1_, r2_, rfl, h⟩ := h
  replace h := dPl_ok h; obtain ⟨p1, rfl, h⟩ := h
  replace h := dCons_ok h; obtain ⟨a3_, r4_, rfl, h⟩ := h
  replace h := dInt_ok h; obtain ⟨p2, rfl, h⟩ := h
  replace h := dNil_ok h; obtain ⟨rfl, h⟩ := h
  replace h := dEnd_ok h; obtain ⟨rfl, h⟩ := h
  refine fun_ok (nt := 21) (x := bodyOf Try.f36) (Γ := Γ36) (H := H36) (WW := W36) (rs := [.tmp 4]) (shs := [.x]) (cons := []) mixed Try.func36 (by decide) (by kernel_rfl) Try.ntmps36 Try.results36 (GSound.nil) ?_ hA hN R hl
  rw [ht, e36 p1 p2 K]
  exact h
/-! laws.heldHeap -/
def G26 : Con := fun args tm K => dCons args fun a1_ r2_ => dAgg a1_ fun l3_ => dCons l3_ fun a4_ r5_ => dPl .int a4_ fun p1 => dCons r5_ fun a6_ r7_ => dPl .int a6_ fun p2 => dCons r7_ fun a8_ r9_ => dPl .int a8_ fun p3 => dNil r9_ <| dCons r2_ fun a10_ r11_ => dInt .i64 a10_ fun p4 => dNil r11_ <| dEnd tm <| Ml_heldHeap p1 p2 p3 p4 (fun r1 => K (.int .i64 r1) [])
def H26 : List (Nat × LH) := []
def W26 : List (Nat × List (Nat × List Nat)) := []
def Γ26 : List (Nat × Con) := [(36, useC [.pure .int, .x] G36)]
theorem e26 (p1 : List Int) (p2 : List Int) (p3 : List Int) (p4 : Int) (K : TV → TMem → Prop) : TW PP 24 Γ26 H26 W26 (List.length ([] : TMem)) (bodyOf Try.f26) (endT PP 24 [.tmp 4] [.x] [] (List.length ([] : TMem)) K) (argsF [.agg [.pl .int p1, .pl .int p2, .pl .int p3], .int .i64 p4]) [] =
    Ml_heldHeap p1 p2 p3 p4 (fun r1 => K (.int .i64 r1) []) := by kernel_rfl
theorem s26 : CSound PP 26 G26 := by
  intro args K c h fl A aargs hA hN R hl
  unfold G26 at h
  generalize ht : c.tm = tm at h
  replace h := dCons_ok h; obtain ⟨a1_, r2_, rfl, h⟩ := h
  replace h := dAgg_ok h; obtain ⟨l3_, rfl, h⟩ := h
  replace h := dCons_ok h; obtain ⟨a4_, r5_, rfl, h⟩ := h
  replace h := dPl_ok h; obtain ⟨p1, rfl, h⟩ := h
  replace h := dCons_ok h; obtain ⟨a6_, r7_, rfl, h⟩ := h
  replace h := dPl_ok h; obtain ⟨p2, rfl, h⟩ := h
  replace h := dCons_ok h; obtain ⟨a8_, r9_, rfl, h⟩ := h
  replace h := dPl_ok h; obtain ⟨p3, rfl, h⟩ := h
  replace h := dNil_ok h; obtain ⟨rfl, h⟩ := h
  replace h := dCons_ok h; obtain ⟨a10_, r11_, rfl, h⟩ := h
  replace h := dInt_ok h; obtain ⟨p4, rfl, h⟩ := h
  replace h := dNil_ok h; obtain ⟨rfl, h⟩ := h
  replace h := dEnd_ok h; obtain ⟨rfl, h⟩ := h
  refine fun_ok (nt := 24) (x := bodyOf Try.f26) (Γ := Γ26) (H := H26) (WW := W26) (rs := [.tmp 4]) (shs := [.x]) (cons := []) mixed Try.func26 (by decide) (by kernel_rfl) Try.ntmps26 Try.results26 (.cons (useC_ok s36) (GSound.nil)) ?_ hA hN R hl
  rw [ht, e26 p1 p2 p3 p4 K]
  exact h
/-! spec.l1Many -/
def G78 : Con := fun args tm K => dCons args fun a1_ r2_ => dInt .i64 a1_ fun p1 => dNil r2_ <| dEnd tm <| Ms_l1Many p1 (fun r1 => K (.sl 0) [⟨true, .list .int r1⟩])
def H78_0 : LH where
  keep := [(0, .x), (3, .own .int), (4, .x)]
  S := Int × Int × List Int
  enc := fun s => ([.int .i64 s.1, .sl 0, .int .i64 s.2.1], [⟨true, .list .int s.2.2⟩])
  dec := fun vs tm K => dCons vs fun a1_ r2_ => dInt .i64 a1_ fun q0 => dCons r2_ fun a3_ r4_ => dSl 0 a3_ <| dCons r4_ fun a5_ r6_ => dInt .i64 a5_ fun q1 => dNil r6_ <| dBlk true tm fun b7_ m8_ => dList .int b7_ fun q2 => dEnd m8_ <| K (q0, q1, q2)
  law := by
    intro vs tm K h
    replace h := dCons_ok h; obtain ⟨a1_, r2_, rfl, h⟩ := h
    replace h := dInt_ok h; obtain ⟨q0, rfl, h⟩ := h
    replace h := dCons_ok h; obtain ⟨a3_, r4_, rfl, h⟩ := h
    replace h := dSl_ok h; obtain ⟨rfl, h⟩ := h
    replace h := dCons_ok h; obtain ⟨a5_, r6_, rfl, h⟩ := h
    replace h := dInt_ok h; obtain ⟨q1, rfl, h⟩ := h
    replace h := dNil_ok h; obtain ⟨rfl, h⟩ := h
    replace h := dBlk_ok h; obtain ⟨b7_, m8_, rfl, h⟩ := h
    replace h := dList_ok h; obtain ⟨q2, rfl, h⟩ := h
    replace h := dEnd_ok h; obtain ⟨rfl, h⟩ := h
    exact ⟨(q0, q1, q2), rfl, h⟩
def H78 : List (Nat × LH) := [(0, H78_0)]
def W78 : List (Nat × List (Nat × List Nat)) := []
def Γ78 : List (Nat × Con) := []
theorem e78 (p1 : Int) (K : TV → TMem → Prop) : TW PP 15 Γ78 H78 W78 (List.length ([] : TMem)) (bodyOf Try.f78) (endT PP 15 [.tmp 2] [.own .int] [] (List.length ([] : TMem)) K) (argsF [.int .i64 p1]) [] =
    Ms_l1Many p1 (fun r1 => K (.sl 0) [⟨true, .list .int r1⟩]) := by kernel_rfl
theorem s78 : CSound PP 78 G78 := by
  intro args K c h fl A aargs hA hN R hl
  unfold G78 at h
  generalize ht : c.tm = tm at h
  replace h := dCons_ok h; obtain ⟨a1_, r2_, rfl, h⟩ := h
  replace h := dInt_ok h; obtain ⟨p1, rfl, h⟩ := h
  replace h := dNil_ok h; obtain ⟨rfl, h⟩ := h
  replace h := dEnd_ok h; obtain ⟨rfl, h⟩ := h
  refine fun_ok (nt := 15) (x := bodyOf Try.f78) (Γ := Γ78) (H := H78) (WW := W78) (rs := [.tmp 2]) (shs := [.own .int]) (cons := []) mixed Try.func78 (by decide) (by kernel_rfl) Try.ntmps78 Try.results78 (GSound.nil) ?_ hA hN R hl
  rw [ht, e78 p1 K]
  exact h
/-! impl.met -/
def G71 : Con := fun args tm K => dCons args fun a1_ r2_ => dSl 0 a1_ <| dCons r2_ fun a3_ r4_ => dPl .int a3_ fun p1 => dNil r4_ <| dBlk true tm fun b5_ m6_ => dList .int b5_ fun p2 => dEnd m6_ <| Mi_met p1 p2 (fun r1 => K (.sl 1) [⟨true, .dead⟩, ⟨true, .list .int r1⟩])
def H71_0 : LH where
  keep := [(0, .mv .int), (7, .pure .int), (8, .x), (9, .x)]
  S := List Int × Int × Int × List Int
  enc := fun s => ([.sl 1, .pl .int s.1, .int .i64 s.2.1, .int .i64 s.2.2.1], [⟨true, .dead⟩, ⟨true, .list .int s.2.2.2⟩])
  dec := fun vs tm K => dCons vs fun a1_ r2_ => dSl 1 a1_ <| dCons r2_ fun a3_ r4_ => dPl .int a3_ fun q0 => dCons r4_ fun a5_ r6_ => dInt .i64 a5_ fun q1 => dCons r6_ fun a7_ r8_ => dInt .i64 a7_ fun q2 => dNil r8_ <| dBlk true tm fun b9_ m10_ => dDead b9_ <| dBlk true m10_ fun b11_ m12_ => dList .int b11_ fun q3 => dEnd m12_ <| K (q0, q1, q2, q3)
  law := by
    intro vs tm K h
    replace h := dCons_ok h; obtain ⟨a1_, r2_, rfl, h⟩ := h
    replace h := dSl_ok h; obtain ⟨rfl, h⟩ := h
    replace h := dCons_ok h; obtain ⟨a3_, r4_, rfl, h⟩ := h
    replace h := dPl_ok h; obtain ⟨q0, rfl, h⟩ := h
    replace h := dCons_ok h; obtain ⟨a5_, r6_, rfl, h⟩ := h
    replace h := dInt_ok h; obtain ⟨q1, rfl, h⟩ := h
    replace h := dCons_ok h; obtain ⟨a7_, r8_, rfl, h⟩ := h
    replace h := dInt_ok h; obtain ⟨q2, rfl, h⟩ := h
    replace h := dNil_ok h; obtain ⟨rfl, h⟩ := h
    replace h := dBlk_ok h; obtain ⟨b9_, m10_, rfl, h⟩ := h
    replace h := dDead_ok h; obtain ⟨rfl, h⟩ := h
    replace h := dBlk_ok h; obtain ⟨b11_, m12_, rfl, h⟩ := h
    replace h := dList_ok h; obtain ⟨q3, rfl, h⟩ := h
    replace h := dEnd_ok h; obtain ⟨rfl, h⟩ := h
    exact ⟨(q0, q1, q2, q3), rfl, h⟩
def H71 : List (Nat × LH) := [(0, H71_0)]
def W71 : List (Nat × List (Nat × List Nat)) := []
def Γ71 : List (Nat × Con) := [(62, useC [.pure .int, .x] G62)]
theorem e71 (p1 : List Int) (p2 : List Int) (K : TV → TMem → Prop) : TW PP 27 Γ71 H71 W71 (List.length ([⟨true, .list .int p2⟩] : TMem)) (bodyOf Try.f71) (endT PP 27 [.tmp 4] [.own .int] [0] (List.length ([⟨true, .list .int p2⟩] : TMem)) K) (argsF [.sl 0, .pl .int p1]) [⟨true, .list .int p2⟩] =
    Mi_met p1 p2 (fun r1 => K (.sl 1) [⟨true, .dead⟩, ⟨true, .list .int r1⟩]) := by kernel_rfl
theorem s71 : CSound PP 71 G71 := by
  intro args K c h fl A aargs hA hN R hl
  unfold G71 at h
  generalize ht : c.tm = tm at h
  replace h := dCons_ok h; obtain ⟨a1_, r2_, rfl, h⟩ := h
  replace h := dSl_ok h; obtain ⟨rfl, h⟩ := h
  replace h := dCons_ok h; obtain ⟨a3_, r4_, rfl, h⟩ := h
  replace h := dPl_ok h; obtain ⟨p1, rfl, h⟩ := h
  replace h := dNil_ok h; obtain ⟨rfl, h⟩ := h
  replace h := dBlk_ok h; obtain ⟨b5_, m6_, rfl, h⟩ := h
  replace h := dList_ok h; obtain ⟨p2, rfl, h⟩ := h
  replace h := dEnd_ok h; obtain ⟨rfl, h⟩ := h
  refine fun_ok (nt := 27) (x := bodyOf Try.f71) (Γ := Γ71) (H := H71) (WW := W71) (rs := [.tmp 4]) (shs := [.own .int]) (cons := [0]) mixed Try.func71 (by decide) (by kernel_rfl) Try.ntmps71 Try.results71 (.cons (useC_ok s62) (GSound.nil)) ?_ hA hN R hl
  rw [ht, e71 p1 p2 K]
  exact h
/-! slices.Clip[[]int,int] -/
def G72 : Con := fun args tm K => dCons args fun a1_ r2_ => dSl 0 a1_ <| dNil r2_ <| dBlk true tm fun b3_ m4_ => dList .int b3_ fun p1 => dEnd m4_ <| M_Clip_int p1 (fun r1 => K (.sl 1) [⟨true, .dead⟩, ⟨true, .list .int r1⟩])
def H72 : List (Nat × LH) := []
def W72 : List (Nat × List (Nat × List Nat)) := []
def Γ72 : List (Nat × Con) := []
theorem e72 (p1 : List Int) (K : TV → TMem → Prop) : TW PP 9 Γ72 H72 W72 (List.length ([⟨true, .list .int p1⟩] : TMem)) (bodyOf Try.f72) (endT PP 9 [.tmp 2] [.own .int] [] (List.length ([⟨true, .list .int p1⟩] : TMem)) K) (argsF [.sl 0]) [⟨true, .list .int p1⟩] =
    M_Clip_int p1 (fun r1 => K (.sl 1) [⟨true, .dead⟩, ⟨true, .list .int r1⟩]) := by kernel_rfl
theorem s72 : CSound PP 72 G72 := by
  intro args K c h fl A aargs hA hN R hl
  unfold G72 at h
  generalize ht : c.tm = tm at h
  replace h := dCons_ok h; obtain ⟨a1_, r2_, rfl, h⟩ := h
  replace h := dSl_ok h; obtain ⟨rfl, h⟩ := h
  replace h := dNil_ok h; obtain ⟨rfl, h⟩ := h
  replace h := dBlk_ok h; obtain ⟨b3_, m4_, rfl, h⟩ := h
  replace h := dList_ok h; obtain ⟨p1, rfl, h⟩ := h
  replace h := dEnd_ok h; obtain ⟨rfl, h⟩ := h
  refine fun_ok (nt := 9) (x := bodyOf Try.f72) (Γ := Γ72) (H := H72) (WW := W72) (rs := [.tmp 2]) (shs := [.own .int]) (cons := []) mixed Try.func72 (by decide) (by kernel_rfl) Try.ntmps72 Try.results72 (GSound.nil) ?_ hA hN R hl
  rw [ht, e72 p1 K]
  exact h
/-! impl.OrderOf -/
def G29 : Con := fun args tm K => dCons args fun a1_ r2_ => dAgg a1_ fun l3_ => dCons l3_ fun a4_ r5_ => dPl .int a4_ fun p1 => dCons r5_ fun a6_ r7_ => dPl .int a6_ fun p2 => dCons r7_ fun a8_ r9_ => dPl .int a8_ fun p3 => dNil r9_ <| dNil r2_ <| dEnd tm <| Mi_OrderOf p1 p2 p3 (fun r1 => K (.sl 0) [⟨true, .list .int r1⟩])
def H29_0 : LH where
  keep := [(1, .pc [.pure .int, .pure .int, .pure .int]), (3, .own .int), (4, .x)]
  S := Int × List Int × List Int × List Int × List Int
  enc := fun s => ([.ptr 0 0, .sl 1, .int .i64 s.1], [⟨true, .cells [.pl .int s.2.1, .pl .int s.2.2.1, .pl .int s.2.2.2.1]⟩, ⟨true, .list .int s.2.2.2.2⟩])
  dec := fun vs tm K => dCons vs fun a1_ r2_ => dPtr 0 a1_ <| dCons r2_ fun a3_ r4_ => dSl 1 a3_ <| dCons r4_ fun a5_ r6_ => dInt .i64 a5_ fun q0 => dNil r6_ <| dBlk true tm fun b7_ m8_ => dCells b7_ fun c9_ => dCons c9_ fun a10_ r11_ => dPl .int a10_ fun q1 => dCons r11_ fun a12_ r13_ => dPl .int a12_ fun q2 => dCons r13_ fun a14_ r15_ => dPl .int a14_ fun q3 => dNil r15_ <| dBlk true m8_ fun b16_ m17_ => dList .int b16_ fun q4 => dEnd m17_ <| K (q0, q1, q2, q3, q4)
  law := by
    intro vs tm K h
    replace h := dCons_ok h; obtain ⟨a1_, r2_, rfl, h⟩ := h
    replace h := dPtr_ok h; obtain ⟨rfl, h⟩ := h
    replace h := dCons_ok h; obtain ⟨a3_, r4_, rfl, h⟩ := h
    replace h := dSl_ok h; obtain ⟨rfl, h⟩ := h
    replace h := dCons_ok h; obtain ⟨a5_, r6_, rfl, h⟩ := h
    replace h := dInt_ok h; obtain ⟨q0, rfl, h⟩ := h
    replace h := dNil_ok h; obtain ⟨rfl, h⟩ := h
    replace h := dBlk_ok h; obtain ⟨b7_, m8_, rfl, h⟩ := h
    replace h := dCells_ok h; obtain ⟨c9_, rfl, h⟩ := h
    replace h := dCons_ok h; obtain ⟨a10_, r11_, rfl, h⟩ := h
    replace h := dPl_ok h; obtain ⟨q1, rfl, h⟩ := h
    replace h := dCons_ok h; obtain ⟨a12_, r13_, rfl, h⟩ := h
    replace h := dPl_ok h; obtain ⟨q2, rfl, h⟩ := h
    replace h := dCons_ok h; obtain ⟨a14_, r15_, rfl, h⟩ := h
    replace h := dPl_ok h; obtain ⟨q3, rfl, h⟩ := h
    replace h := dNil_ok h; obtain ⟨rfl, h⟩ := h
    replace h := dBlk_ok h; obtain ⟨b16_, m17_, rfl, h⟩ := h
    replace h := dList_ok h; obtain ⟨q4, rfl, h⟩ := h
    replace h := dEnd_ok h; obtain ⟨rfl, h⟩ := h
    exact ⟨(q0, q1, q2, q3, q4), rfl, h⟩
def H29 : List (Nat × LH) := [(0, H29_0)]
def W29 : List (Nat × List (Nat × List Nat)) := []
def Γ29 : List (Nat × Con) := [(40, useC [.ag [.pure .int, .pure .int, .pure .int]] G40), (71, useC [.own .int, .pure .int] G71), (72, useC [.own .int] G72)]
theorem e29 (p1 : List Int) (p2 : List Int) (p3 : List Int) (K : TV → TMem → Prop) : TW PP 39 Γ29 H29 W29 (List.length ([] : TMem)) (bodyOf Try.f29) (endT PP 39 [.tmp 2] [.own .int] [] (List.length ([] : TMem)) K) (argsF [.agg [.pl .int p1, .pl .int p2, .pl .int p3]]) [] =
    Mi_OrderOf p1 p2 p3 (fun r1 => K (.sl 0) [⟨true, .list .int r1⟩]) := by kernel_rfl
theorem s29 : CSound PP 29 G29 := by
  intro args K c h fl A aargs hA hN R hl
  unfold G29 at h
  generalize ht : c.tm = tm at h
  replace h := dCons_ok h; obtain ⟨a1_, r2_, rfl, h⟩ := h
  replace h := dAgg_ok h; obtain ⟨l3_, rfl, h⟩ := h
  replace h := dCons_ok h; obtain ⟨a4_, r5_, rfl, h⟩ := h
  replace h := dPl_ok h; obtain ⟨p1, rfl, h⟩ := h
  replace h := dCons_ok h; obtain ⟨a6_, r7_, rfl, h⟩ := h
  replace h := dPl_ok h; obtain ⟨p2, rfl, h⟩ := h
  replace h := dCons_ok h; obtain ⟨a8_, r9_, rfl, h⟩ := h
  replace h := dPl_ok h; obtain ⟨p3, rfl, h⟩ := h
  replace h := dNil_ok h; obtain ⟨rfl, h⟩ := h
  replace h := dNil_ok h; obtain ⟨rfl, h⟩ := h
  replace h := dEnd_ok h; obtain ⟨rfl, h⟩ := h
  refine fun_ok (nt := 39) (x := bodyOf Try.f29) (Γ := Γ29) (H := H29) (WW := W29) (rs := [.tmp 2]) (shs := [.own .int]) (cons := []) mixed Try.func29 (by decide) (by kernel_rfl) Try.ntmps29 Try.results29 (.cons (useC_ok s40) (.cons (useC_ok s71) (.cons (useC_ok s72) (GSound.nil)))) ?_ hA hN R hl
  rw [ht, e29 p1 p2 p3 K]
  exact h
/-! impl.CopyHeap$1 -/
def G74 : Con := fun args tm K => dCons args fun a1_ r2_ => dInt .i64 a1_ fun p1 => dCons r2_ fun a3_ r4_ => dPtr 0 a3_ <| dNil r4_ <| dBlk false tm fun b5_ m6_ => dCells b5_ fun c7_ => dCons c7_ fun a8_ r9_ => dSl 1 a8_ <| dNil r9_ <| dBlk false m6_ fun b10_ m11_ => dList .int b10_ fun p2 => dEnd m11_ <| Mi_CopyHeap_1 p1 p2 (fun r1 => K (.int .i64 r1) [⟨false, .cells [.sl 1]⟩, ⟨false, .list .int p2⟩])
def H74 : List (Nat × LH) := []
def W74 : List (Nat × List (Nat × List Nat)) := []
def Γ74 : List (Nat × Con) := [(75, useC [.pure .int, .x] G75)]
theorem e74 (p1 : Int) (p2 : List Int) (K : TV → TMem → Prop) : TW PP 7 Γ74 H74 W74 (List.length ([⟨false, .cells [.sl 1]⟩, ⟨false, .list .int p2⟩] : TMem)) (bodyOf Try.f74) (endT PP 7 [.tmp 3] [.x] [] (List.length ([⟨false, .cells [.sl 1]⟩, ⟨false, .list .int p2⟩] : TMem)) K) (argsF [.int .i64 p1, .ptr 0 0]) [⟨false, .cells [.sl 1]⟩, ⟨false, .list .int p2⟩] =
    Mi_CopyHeap_1 p1 p2 (fun r1 => K (.int .i64 r1) [⟨false, .cells [.sl 1]⟩, ⟨false, .list .int p2⟩]) := by kernel_rfl
theorem s74 : CSound PP 74 G74 := by
  intro args K c h fl A aargs hA hN R hl
  unfold G74 at h
  generalize ht : c.tm = tm at h
  replace h := dCons_ok h; obtain ⟨a1_, r2_, rfl, h⟩ := h
  replace h := dInt_ok h; obtain ⟨p1, rfl, h⟩ := h
  replace h := dCons_ok h; obtain ⟨a3_, r4_, rfl, h⟩ := h
  replace h := dPtr_ok h; obtain ⟨rfl, h⟩ := h
  replace h := dNil_ok h; obtain ⟨rfl, h⟩ := h
  replace h := dBlk_ok h; obtain ⟨b5_, m6_, rfl, h⟩ := h
  replace h := dCells_ok h; obtain ⟨c7_, rfl, h⟩ := h
  replace h := dCons_ok h; obtain ⟨a8_, r9_, rfl, h⟩ := h
  replace h := dSl_ok h; obtain ⟨rfl, h⟩ := h
  replace h := dNil_ok h; obtain ⟨rfl, h⟩ := h
  replace h := dBlk_ok h; obtain ⟨b10_, m11_, rfl, h⟩ := h
  replace h := dList_ok h; obtain ⟨p2, rfl, h⟩ := h
  replace h := dEnd_ok h; obtain ⟨rfl, h⟩ := h
  refine fun_ok (nt := 7) (x := bodyOf Try.f74) (Γ := Γ74) (H := H74) (WW := W74) (rs := [.tmp 3]) (shs := [.x]) (cons := []) mixed Try.func74 (by decide) (by kernel_rfl) Try.ntmps74 Try.results74 (.cons (useC_ok s75) (GSound.nil)) ?_ hA hN R hl
  rw [ht, e74 p1 p2 K]
  exact h
/-! impl.CopyHeap -/
def G31 : Con := fun args tm K => dCons args fun a1_ r2_ => dAgg a1_ fun l3_ => dCons l3_ fun a4_ r5_ => dPl .int a4_ fun p1 => dCons r5_ fun a6_ r7_ => dPl .int a6_ fun p2 => dCons r7_ fun a8_ r9_ => dPl .int a8_ fun p3 => dNil r9_ <| dNil r2_ <| dEnd tm <| Mi_CopyHeap p1 p2 p3 (fun r1 r2 r3 r4 r5 => K (.tup [.agg [.sl 0, .sl 1, .sl 2], .sl 3, .bool r1]) [⟨true, .list .int r2⟩, ⟨true, .list .int r3⟩, ⟨true, .list .int r4⟩, ⟨true, .list .int r5⟩])
def H31_0 : LH where
  keep := [(1, .pc [.pure .int, .pure .int, .pure .int]), (2, .pc [.own .int, .own .int, .own .int]), (5, .pc [.own .int, .own .int, .own .int]), (8, .x), (32, .own .int), (33, .x), (34, .x)]
  S := Int × Int × List Int × List Int × List Int × List Int × List Int × List Int × List Int × List Int × List Int × List Int
  enc := fun s => ([.ptr 0 0, .ptr 1 0, .ptr 2 0, .fn 74 [] [.ptr 3 0], .sl 4, .int .i64 s.1, .int .i64 s.2.1], [⟨true, .cells [.pl .int s.2.2.1, .pl .int s.2.2.2.1, .pl .int s.2.2.2.2.1]⟩, ⟨true, .cells [.sl 5, .sl 6, .sl 7]⟩, ⟨true, .cells [.sl 8, .sl 9, .sl 10]⟩, ⟨true, .cells [.sl 4]⟩, ⟨true, .list .int s.2.2.2.2.2.1⟩, ⟨true, .list .int s.2.2.2.2.2.2.1⟩, ⟨true, .list .int s.2.2.2.2.2.2.2.1⟩, ⟨true, .list .int s.2.2.2.2.2.2.2.2.1⟩, ⟨true, .list .int s.2.2.2.2.2.2.2.2.2.1⟩, ⟨true, .list .int s.2.2.2.2.2.2.2.2.2.2.1⟩, ⟨true, .list .int s.2.2.2.2.2.2.2.2.2.2.2⟩])
  dec := fun vs tm K => dCons vs fun a1_ r2_ => dPtr 0 a1_ <| dCons r2_ fun a3_ r4_ => dPtr 1 a3_ <| dCons r4_ fun a5_ r6_ => dPtr 2 a5_ <| dCons r6_ fun a7_ r8_ => dFn 74 a7_ fun x9_ y10_ => dNil x9_ <| dCons y10_ fun a11_ r12_ => dPtr 3 a11_ <| dNil r12_ <| dCons r8_ fun a13_ r14_ => dSl 4 a13_ <| dCons r14_ fun a15_ r16_ => dInt .i64 a15_ fun q0 => dCons r16_ fun a17_ r18_ => dInt .i64 a17_ fun q1 => dNil r18_ <| dBlk true tm fun b19_ m20_ => dCells b19_ fun c21_ => dCons c21_ fun a22_ r23_ => dPl .int a22_ fun q2 => dCons r23_ fun a24_ r25_ => dPl .int a24_ fun q3 => dCons r25_ fun a26_ r27_ => dPl .int a26_ fun q4 => dNil r27_ <| dBlk true m20_ fun b28_ m29_ => dCells b28_ fun c30_ => dCons c30_ fun a31_ r32_ => dSl 5 a31_ <| dCons r32_ fun a33_ r34_ => dSl 6 a33_ <| dCons r34_ fun a35_ r36_ => dSl 7 a35_ <| dNil r36_ <| dBlk true m29_ fun b37_ m38_ => dCells b37_ fun c39_ => dCons c39_ fun a40_ r41_ => dSl 8 a40_ <| dCons r41_ fun a42_ r43_ => dSl 9 a42_ <| dCons r43_ fun a44_ r45_ => dSl 10 a44_ <| dNil r45_ <| dBlk true m38_ fun b46_ m47_ => dCells b46_ fun c48_ => dCons c48_ fun a49_ r50_ => dSl 4 a49_ <| dNil r50_ <| dBlk true m47_ fun b51_ m52_ => dList .int b51_ fun q5 => dBlk true m52_ fun b53_ m54_ => dList .int b53_ fun q6 => dBlk true m54_ fun b55_ m56_ => dList .int b55_ fun q7 => dBlk true m56_ fun b57_ m58_ => dList .int b57_ fun q8 => dBlk true m58_ fun b59_ m60_ => dList .int b59_ fun q9 => dBlk true m60_ fun b61_ m62_ => dList .int b61_ fun q10 => dBlk true m62_ fun b63_ m64_ => dList .int b63_ fun q11 => dEnd m64_ <| K (q0, q1, q2, q3, q4, q5, q6, q7, q8, q9, q10, q11)
  law := by
    intro vs tm K h
    replace h := dCons_ok h; obtain ⟨a1_, r2_, rfl, h⟩ := h
    replace h := dPtr_ok h; obtain ⟨rfl, h⟩ := h
    replace h := dCons_ok h; obtain ⟨a3_, r4_, rfl, h⟩ := h
    replace h := dPtr_ok h; obtain ⟨rfl, h⟩ := h
    replace h := dCons_ok h; obtain ⟨a5_, r6_, rfl, h⟩ := h
    replace h := dPtr_ok h; obtain ⟨rfl, h⟩ := h
    replace h := dCons_ok h; obtain ⟨a7_, r8_, rfl, h⟩ := h
    replace h := dFn_ok h; obtain ⟨x9_, y10_, rfl, h⟩ := h
    replace h := dNil_ok h; obtain ⟨rfl, h⟩ := h
    replace h := dCons_ok h; obtain ⟨a11_, r12_, rfl, h⟩ := h
    replace h := dPtr_ok h; obtain ⟨rfl, h⟩ := h
    replace h := dNil_ok h; obtain ⟨rfl, h⟩ := h
    replace h := dCons_ok h; obtain ⟨a13_, r14_, rfl, h⟩ := h
    replace h := dSl_ok h; obtain ⟨rfl, h⟩ := h
    replace h := dCons_ok h; obtain ⟨a15_, r16_, rfl, h⟩ := h
    replace h := dInt_ok h; obtain ⟨q0, rfl, h⟩ := h
    replace h := dCons_ok h; obtain ⟨a17_, r18_, rfl, h⟩ := h
    replace h := dInt_ok h; obtain ⟨q1, rfl, h⟩ := h
    replace h := dNil_ok h; obtain ⟨rfl, h⟩ := h
    replace h := dBlk_ok h; obtain ⟨b19_, m20_, rfl, h⟩ := h
    replace h := dCells_ok h; obtain ⟨c21_, rfl, h⟩ := h
    replace h := dCons_ok h; obtain ⟨a22_, r23_, rfl, h⟩ := h
    replace h := dPl_ok h; obtain ⟨q2, rfl, h⟩ := h
    replace h := dCons_ok h; obtain ⟨a24_, r25_, rfl, h⟩ := h
    replace h := dPl_ok h; obtain ⟨q3, rfl, h⟩ := h
    replace h := dCons_ok h; obtain ⟨a26_, r27_, rfl, h⟩ := h
    replace h := dPl_ok h; obtain ⟨q4, rfl, h⟩ := h
    replace h := dNil_ok h; obtain ⟨rfl, h⟩ := h
    replace h := dBlk_ok h; obtain ⟨b28_, m29_, rfl, h⟩ := h
    replace h := dCells_ok h; obtain ⟨c30_, rfl, h⟩ := h
    replace h := dCons_ok h; obtain ⟨a31_, r32_, rfl, h⟩ := h
    replace h := dSl_ok h; obtain ⟨rfl, h⟩ := h
    replace h := dCons_ok h; obtain ⟨a33_, r34_, rfl, h⟩ := h
    replace h := dSl_ok h; obtain ⟨rfl, h⟩ := h
    replace h := dCons_ok h; obtain ⟨a35_, r36_, rfl, h⟩ := h
    replace h := dSl_ok h; obtain ⟨rfl, h⟩ := h
    replace h := dNil_ok h; obtain ⟨rfl, h⟩ := h
    replace h := dBlk_ok h; obtain ⟨b37_, m38_, rfl, h⟩ := h
    replace h := dCells_ok h; obtain ⟨c39_, rfl, h⟩ := h
    replace h := dCons_ok h; obtain ⟨a40_, r41_, rfl, h⟩ := h
    replace h := dSl_ok h; obtain ⟨rfl, h⟩ := h
    replace h := dCons_ok h; obtain ⟨a42_, r43_, rfl, h⟩ := h
    replace h := dSl_ok h; obtain ⟨rfl, h⟩ := h
    replace h := dCons_ok h; obtain ⟨a44_, r45_, rfl, h⟩ := h
    replace h := dSl_ok h; obtain ⟨rfl, h⟩ := h
    replace h := dNil_ok h; obtain ⟨rfl, h⟩ := h
    replace h := dBlk_ok h; obtain ⟨b46_, m47_, rfl, h⟩ := h
    replace h := dCells_ok h; obtain ⟨c48_, rfl, h⟩ := h
    replace h := dCons_ok h; obtain ⟨a49_, r50_, rfl, h⟩ := h
    replace h := dSl_ok h; obtain ⟨rfl, h⟩ := h
    replace h := dNil_ok h; obtain ⟨rfl, h⟩ := h
    replace h := dBlk_ok h; obtain ⟨b51_, m52_, rfl, h⟩ := h
    replace h := dList_ok h; obtain ⟨q5, rfl, h⟩ := h
    replace h := dBlk_ok h; obtain ⟨b53_, m54_, rfl, h⟩ := h
    replace h := dList_ok h; obtain ⟨q6, rfl, h⟩ := h
    replace h := dBlk_ok h; obtain ⟨b55_, m56_, rfl, h⟩ := h
    replace h := dList_ok h; obtain ⟨q7, rfl, h⟩ := h
    replace h := dBlk_ok h; obtain ⟨b57_, m58_, rfl, h⟩ := h
    replace h := dList_ok h; obtain ⟨q8, rfl, h⟩ := h
    replace h := dBlk_ok h; obtain ⟨b59_, m60_, rfl, h⟩ := h
    replace h := dList_ok h; obtain ⟨q9, rfl, h⟩ := h
    replace h := dBlk_ok h; obtain ⟨b61_, m62_, rfl, h⟩ := h
    replace h := dList_ok h; obtain ⟨q10, rfl, h⟩ := h
    replace h := dBlk_ok h; obtain ⟨b63_, m64_, rfl, h⟩ := h
    replace h := dList_ok h; obtain ⟨q11, rfl, h⟩ := h
    replace h := dEnd_ok h; obtain ⟨rfl, h⟩ := h
    exact ⟨(q0, q1, q2, q3, q4, q5, q6, q7, q8, q9, q10, q11), rfl, h⟩
def H31_2 : LH where
  keep := [(1, .pc [.pure .int, .pure .int, .pure .int]), (2, .pc [.own .int, .own .int, .own .int]), (5, .pc [.own .int, .own .int, .own .int]), (8, .x), (63, .pure .int), (64, .x), (65, .x)]
  S := List Int × Int × Int × List Int × List Int × List Int × List Int × List Int × List Int × List Int × List Int × List Int × List Int
  enc := fun s => ([.ptr 0 0, .ptr 1 0, .ptr 2 0, .fn 74 [] [.ptr 3 0], .pl .int s.1, .int .i64 s.2.1, .int .i64 s.2.2.1], [⟨true, .cells [.pl .int s.2.2.2.1, .pl .int s.2.2.2.2.1, .pl .int s.2.2.2.2.2.1]⟩, ⟨true, .cells [.sl 4, .sl 5, .sl 6]⟩, ⟨true, .cells [.sl 7, .sl 8, .sl 9]⟩, ⟨true, .cells [.sl 10]⟩, ⟨true, .list .int s.2.2.2.2.2.2.1⟩, ⟨true, .list .int s.2.2.2.2.2.2.2.1⟩, ⟨true, .list .int s.2.2.2.2.2.2.2.2.1⟩, ⟨true, .list .int s.2.2.2.2.2.2.2.2.2.1⟩, ⟨true, .list .int s.2.2.2.2.2.2.2.2.2.2.1⟩, ⟨true, .list .int s.2.2.2.2.2.2.2.2.2.2.2.1⟩, ⟨true, .list .int s.2.2.2.2.2.2.2.2.2.2.2.2⟩])
  dec := fun vs tm K => dCons vs fun a1_ r2_ => dPtr 0 a1_ <| dCons r2_ fun a3_ r4_ => dPtr 1 a3_ <| dCons r4_ fun a5_ r6_ => dPtr 2 a5_ <| dCons r6_ fun a7_ r8_ => dFn 74 a7_ fun x9_ y10_ => dNil x9_ <| dCons y10_ fun a11_ r12_ => dPtr 3 a11_ <| dNil r12_ <| dCons r8_ fun a13_ r14_ => dPl .int a13_ fun q0 => dCons r14_ fun a15_ r16_ => dInt .i64 a15_ fun q1 => dCons r16_ fun a17_ r18_ => dInt .i64 a17_ fun q2 => dNil r18_ <| dBlk true tm fun b19_ m20_ => dCells b19_ fun c21_ => dCons c21_ fun a22_ r23_ => dPl .int a22_ fun q3 => dCons r23_ fun a24_ r25_ => dPl .int a24_ fun q4 => dCons r25_ fun a26_ r27_ => dPl .int a26_ fun q5 => dNil r27_ <| dBlk true m20_ fun b28_ m29_ => dCells b28_ fun c30_ => dCons c30_ fun a31_ r32_ => dSl 4 a31_ <| dCons r32_ fun a33_ r34_ => dSl 5 a33_ <| dCons r34_ fun a35_ r36_ => dSl 6 a35_ <| dNil r36_ <| dBlk true m29_ fun b37_ m38_ => dCells b37_ fun c39_ => dCons c39_ fun a40_ r41_ => dSl 7 a40_ <| dCons r41_ fun a42_ r43_ => dSl 8 a42_ <| dCons r43_ fun a44_ r45_ => dSl 9 a44_ <| dNil r45_ <| dBlk true m38_ fun b46_ m47_ => dCells b46_ fun c48_ => dCons c48_ fun a49_ r50_ => dSl 10 a49_ <| dNil r50_ <| dBlk true m47_ fun b51_ m52_ => dList .int b51_ fun q6 => dBlk true m52_ fun b53_ m54_ => dList .int b53_ fun q7 => dBlk true m54_ fun b55_ m56_ => dList .int b55_ fun q8 => dBlk true m56_ fun b57_ m58_ => dList .int b57_ fun q9 => dBlk true m58_ fun b59_ m60_ => dList .int b59_ fun q10 => dBlk true m60_ fun b61_ m62_ => dList .int b61_ fun q11 => dBlk true m62_ fun b63_ m64_ => dList .int b63_ fun q12 => dEnd m64_ <| K (q0, q1, q2, q3, q4, q5, q6, q7, q8, q9, q10, q11, q12)
  law := by
    intro vs tm K h
    replace h := dCons_ok h; obtain ⟨a1_, r2_, rfl, h⟩ := h
    replace h := dPtr_ok h; obtain ⟨rfl, h⟩ := h
    replace h := dCons_ok h; obtain ⟨a3_, r4_, rfl, h⟩ := h
    replace h := dPtr_ok h; obtain ⟨rfl, h⟩ := h
    replace h := dCons_ok h; obtain ⟨a5_, r6_, rfl, h⟩ := h
    replace h := dPtr_ok h; obtain ⟨rfl, h⟩ := h
    replace h := dCons_ok h; obtain ⟨a7_, r8_, rfl, h⟩ := h
    replace h := dFn_ok h; obtain ⟨x9_, y10_, rfl, h⟩ := h
    replace h := dNil_ok h; obtain ⟨rfl, h⟩ := h
    replace h := dCons_ok h; obtain ⟨a11_, r12_, rfl, h⟩ := h
    replace h := dPtr_ok h; obtain ⟨rfl, h⟩ := h
    replace h := dNil_ok h; obtain ⟨rfl, h⟩ := h
    replace h := dCons_ok h; obtain ⟨a13_, r14_, rfl, h⟩ := h
    replace h := dPl_ok h; obtain ⟨q0, rfl, h⟩ := h
    replace h := dCons_ok h; obtain ⟨a15_, r16_, rfl, h⟩ := h
    replace h := dInt_ok h; obtain ⟨q1, rfl, h⟩ := h
    replace h := dCons_ok h; obtain ⟨a17_, r18_, rfl, h⟩ := h
    replace h := dInt_ok h; obtain ⟨q2, rfl, h⟩ := h
    replace h := dNil_ok h; obtain ⟨rfl, h⟩ := h
    replace h := dBlk_ok h; obtain ⟨b19_, m20_, rfl, h⟩ := h
    replace h := dCells_ok h; obtain ⟨c21_, rfl, h⟩ := h
    replace h := dCons_ok h; obtain ⟨a22_, r23_, rfl, h⟩ := h
    replace h := dPl_ok h; obtain ⟨q3, rfl, h⟩ := h
    replace h := dCons_ok h; obtain ⟨a24_, r25_, rfl, h⟩ := h
    replace h := dPl_ok h; obtain ⟨q4, rfl, h⟩ := h
    replace h := dCons_ok h; obtain ⟨a26_, r27_, rfl, h⟩ := h
    replace h := dPl_ok h; obtain ⟨q5, rfl, h⟩ := h
    replace h := dNil_ok h; obtain ⟨rfl, h⟩ := h
    replace h := dBlk_ok h; obtain ⟨b28_, m29_, rfl, h⟩ := h
    replace h := dCells_ok h; obtain ⟨c30_, rfl, h⟩ := h
    replace h := dCons_ok h; obtain ⟨a31_, r32_, rfl, h⟩ := h
    replace h := dSl_ok h; obtain ⟨rfl, h⟩ := h
    replace h := dCons_ok h; obtain ⟨a33_, r34_, rfl, h⟩ := h
    replace h := dSl_ok h; obtain ⟨rfl, h⟩ := h
    replace h := dCons_ok h; obtain ⟨a35_, r36_, rfl, h⟩ := h
    replace h := dSl_ok h; obtain ⟨rfl, h⟩ := h
    replace h := dNil_ok h; obtain ⟨rfl, h⟩ := h
    replace h := dBlk_ok h; obtain ⟨b37_, m38_, rfl, h⟩ := h
    replace h := dCells_ok h; obtain ⟨c39_, rfl, h⟩ := h
    replace h := dCons_ok h; obtain ⟨a40_, r41_, rfl, h⟩ := h
    replace h := dSl_ok h; obtain ⟨rfl, h⟩ := h
    replace h := dCons_ok h; obtain ⟨a42_, r43_, rfl, h⟩ := h
    replace h := dSl_ok h; obtain ⟨rfl, h⟩ := h
    replace h := dCons_ok h; obtain ⟨a44_, r45_, rfl, h⟩ := h
    replace h := dSl_ok h; obtain ⟨rfl, h⟩ := h
    replace h := dNil_ok h; obtain ⟨rfl, h⟩ := h
    replace h := dBlk_ok h; obtain ⟨b46_, m47_, rfl, h⟩ := h
    replace h := dCells_ok h; obtain ⟨c48_, rfl, h⟩ := h
    replace h := dCons_ok h; obtain ⟨a49_, r50_, rfl, h⟩ := h
    replace h := dSl_ok h; obtain ⟨rfl, h⟩ := h
    replace h := dNil_ok h; obtain ⟨rfl, h⟩ := h
    replace h := dBlk_ok h; obtain ⟨b51_, m52_, rfl, h⟩ := h
    replace h := dList_ok h; obtain ⟨q6, rfl, h⟩ := h
    replace h := dBlk_ok h; obtain ⟨b53_, m54_, rfl, h⟩ := h
    replace h := dList_ok h; obtain ⟨q7, rfl, h⟩ := h
    replace h := dBlk_ok h; obtain ⟨b55_, m56_, rfl, h⟩ := h
    replace h := dList_ok h; obtain ⟨q8, rfl, h⟩ := h
    replace h := dBlk_ok h; obtain ⟨b57_, m58_, rfl, h⟩ := h
    replace h := dList_ok h; obtain ⟨q9, rfl, h⟩ := h
    replace h := dBlk_ok h; obtain ⟨b59_, m60_, rfl, h⟩ := h
    replace h := dList_ok h; obtain ⟨q10, rfl, h⟩ := h
    replace h := dBlk_ok h; obtain ⟨b61_, m62_, rfl, h⟩ := h
    replace h := dList_ok h; obtain ⟨q11, rfl, h⟩ := h
    replace h := dBlk_ok h; obtain ⟨b63_, m64_, rfl, h⟩ := h
    replace h := dList_ok h; obtain ⟨q12, rfl, h⟩ := h
    replace h := dEnd_ok h; obtain ⟨rfl, h⟩ := h
    exact ⟨(q0, q1, q2, q3, q4, q5, q6, q7, q8, q9, q10, q11, q12), rfl, h⟩
def H31_4 : LH where
  keep := [(2, .pc [.own .int, .own .int, .own .int]), (5, .pc [.own .int, .own .int, .own .int]), (8, .x), (13, .own .int), (81, .x), (82, .x)]
  S := Int × Int × List Int × List Int × List Int × List Int × List Int × List Int × List Int × List Int
  enc := fun s => ([.ptr 0 0, .ptr 1 0, .fn 74 [] [.ptr 2 0], .sl 3, .int .i64 s.1, .int .i64 s.2.1], [⟨true, .cells [.sl 4, .sl 5, .sl 6]⟩, ⟨true, .cells [.sl 7, .sl 8, .sl 9]⟩, ⟨true, .cells [.sl 10]⟩, ⟨true, .list .int s.2.2.1⟩, ⟨true, .list .int s.2.2.2.1⟩, ⟨true, .list .int s.2.2.2.2.1⟩, ⟨true, .list .int s.2.2.2.2.2.1⟩, ⟨true, .list .int s.2.2.2.2.2.2.1⟩, ⟨true, .list .int s.2.2.2.2.2.2.2.1⟩, ⟨true, .list .int s.2.2.2.2.2.2.2.2.1⟩, ⟨true, .list .int s.2.2.2.2.2.2.2.2.2⟩])
  dec := fun vs tm K => dCons vs fun a1_ r2_ => dPtr 0 a1_ <| dCons r2_ fun a3_ r4_ => dPtr 1 a3_ <| dCons r4_ fun a5_ r6_ => dFn 74 a5_ fun x7_ y8_ => dNil x7_ <| dCons y8_ fun a9_ r10_ => dPtr 2 a9_ <| dNil r10_ <| dCons r6_ fun a11_ r12_ => dSl 3 a11_ <| dCons r12_ fun a13_ r14_ => dInt .i64 a13_ fun q0 => dCons r14_ fun a15_ r16_ => dInt .i64 a15_ fun q1 => dNil r16_ <| dBlk true tm fun b17_ m18_ => dCells b17_ fun c19_ => dCons c19_ fun a20_ r21_ => dSl 4 a20_ <| dCons r21_ fun a22_ r23_ => dSl 5 a22_ <| dCons r23_ fun a24_ r25_ => dSl 6 a24_ <| dNil r25_ <| dBlk true m18_ fun b26_ m27_ => dCells b26_ fun c28_ => dCons c28_ fun a29_ r30_ => dSl 7 a29_ <| dCons r30_ fun a31_ r32_ => dSl 8 a31_ <| dCons r32_ fun a33_ r34_ => dSl 9 a33_ <| dNil r34_ <| dBlk true m27_ fun b35_ m36_ => dCells b35_ fun c37_ => dCons c37_ fun a38_ r39_ => dSl 10 a38_ <| dNil r39_ <| dBlk true m36_ fun b40_ m41_ => dList .int b40_ fun q2 => dBlk true m41_ fun b42_ m43_ => dList .int b42_ fun q3 => dBlk true m43_ fun b44_ m45_ => dList .int b44_ fun q4 => dBlk true m45_ fun b46_ m47_ => dList .int b46_ fun q5 => dBlk true m47_ fun b48_ m49_ => dList .int b48_ fun q6 => dBlk true m49_ fun b50_ m51_ => dList .int b50_ fun q7 => dBlk true m51_ fun b52_ m53_ => dList .int b52_ fun q8 => dBlk true m53_ fun b54_ m55_ => dList .int b54_ fun q9 => dEnd m55_ <| K (q0, q1, q2, q3, q4, q5, q6, q7, q8, q9)
  law := by
    intro vs tm K h
    replace h := dCons_ok h; obtain ⟨a1_, r2_, rfl, h⟩ := h
    replace h := dPtr_ok h; obtain ⟨rfl, h⟩ := h
    replace h := dCons_ok h; obtain ⟨a3_, r4_, rfl, h⟩ := h
    replace h := dPtr_ok h; obtain ⟨rfl, h⟩ := h
    replace h := dCons_ok h; obtain ⟨a5_, r6_, rfl, h⟩ := h
    replace h := dFn_ok h; obtain ⟨x7_, y8_, rfl, h⟩ := h
    replace h := dNil_ok h; obtain ⟨rfl, h⟩ := h
    replace h := dCons_ok h; obtain ⟨a9_, r10_, rfl, h⟩ := h
    replace h := dPtr_ok h; obtain ⟨rfl, h⟩ := h
    replace h := dNil_ok h; obtain ⟨rfl, h⟩ := h
    replace h := dCons_ok h; obtain ⟨a11_, r12_, rfl, h⟩ := h
    replace h := dSl_ok h; obtain ⟨rfl, h⟩ := h
    replace h := dCons_ok h; obtain ⟨a13_, r14_, rfl, h⟩ := h
    replace h := dInt_ok h; obtain ⟨q0, rfl, h⟩ := h
    replace h := dCons_ok h; obtain ⟨a15_, r16_, rfl, h⟩ := h
    replace h := dInt_ok h; obtain ⟨q1, rfl, h⟩ := h
    replace h := dNil_ok h; obtain ⟨rfl, h⟩ := h
    replace h := dBlk_ok h; obtain ⟨b17_, m18_, rfl, h⟩ := h
    replace h := dCells_ok h; obtain ⟨c19_, rfl, h⟩ := h
    replace h := dCons_ok h; obtain ⟨a20_, r21_, rfl, h⟩ := h
    replace h := dSl_ok h; obtain ⟨rfl, h⟩ := h
    replace h := dCons_ok h; obtain ⟨a22_, r23_, rfl, h⟩ := h
    replace h := dSl_ok h; obtain ⟨rfl, h⟩ := h
    replace h := dCons_ok h; obtain ⟨a24_, r25_, rfl, h⟩ := h
    replace h := dSl_ok h; obtain ⟨rfl, h⟩ := h
    replace h := dNil_ok h; obtain ⟨rfl, h⟩ := h
    replace h := dBlk_ok h; obtain ⟨b26_, m27_, rfl, h⟩ := h
    replace h := dCells_ok h; obtain ⟨c28_, rfl, h⟩ := h
    replace h := dCons_ok h; obtain ⟨a29_, r30_, rfl, h⟩ := h
    replace h := dSl_ok h; obtain ⟨rfl, h⟩ := h
    replace h := dCons_ok h; obtain ⟨a31_, r32_, rfl, h⟩ := h
    replace h := dSl_ok h; obtain ⟨rfl, h⟩ := h
    replace h := dCons_ok h; obtain ⟨a33_, r34_, rfl, h⟩ := h
    replace h := dSl_ok h; obtain ⟨rfl, h⟩ := h
    replace h := dNil_ok h; obtain ⟨rfl, h⟩ := h
    replace h := dBlk_ok h; obtain ⟨b35_, m36_, rfl, h⟩ := h
    replace h := dCells_ok h; obtain ⟨c37_, rfl, h⟩ := h
    replace h := dCons_ok h; obtain ⟨a38_, r39_, rfl, h⟩ := h
    replace h := dSl_ok h; obtain ⟨rfl, h⟩ := h
    replace h := dNil_ok h; obtain ⟨rfl, h⟩ := h
    replace h := dBlk_ok h; obtain ⟨b40_, m41_, rfl, h⟩ := h
    replace h := dList_ok h; obtain ⟨q2, rfl, h⟩ := h
    replace h := dBlk_ok h; obtain ⟨b42_, m43_, rfl, h⟩ := h
    replace h := dList_ok h; obtain ⟨q3, rfl, h⟩ := h
    replace h := dBlk_ok h; obtain ⟨b44_, m45_, rfl, h⟩ := h
    replace h := dList_ok h; obtain ⟨q4, rfl, h⟩ := h
    replace h := dBlk_ok h; obtain ⟨b46_, m47_, rfl, h⟩ := h
    replace h := dList_ok h; obtain ⟨q5, rfl, h⟩ := h
    replace h := dBlk_ok h; obtain ⟨b48_, m49_, rfl, h⟩ := h
    replace h := dList_ok h; obtain ⟨q6, rfl, h⟩ := h
    replace h := dBlk_ok h; obtain ⟨b50_, m51_, rfl, h⟩ := h
    replace h := dList_ok h; obtain ⟨q7, rfl, h⟩ := h
    replace h := dBlk_ok h; obtain ⟨b52_, m53_, rfl, h⟩ := h
    replace h := dList_ok h; obtain ⟨q8, rfl, h⟩ := h
    replace h := dBlk_ok h; obtain ⟨b54_, m55_, rfl, h⟩ := h
    replace h := dList_ok h; obtain ⟨q9, rfl, h⟩ := h
    replace h := dEnd_ok h; obtain ⟨rfl, h⟩ := h
    exact ⟨(q0, q1, q2, q3, q4, q5, q6, q7, q8, q9), rfl, h⟩
def H31_1000022 : LH where
  keep := [(2, .pc [.own .int, .own .int, .own .int]), (5, .pc [.own .int, .own .int, .own .int]), (13, .own .int)]
  S := List Int × List Int × List Int × List Int × List Int × List Int × List Int
  enc := fun s => ([.ptr 0 0, .ptr 1 0, .sl 2], [⟨true, .cells [.sl 3, .sl 4, .sl 5]⟩, ⟨true, .cells [.sl 6, .sl 7, .sl 8]⟩, ⟨true, .list .int s.1⟩, ⟨true, .list .int s.2.1⟩, ⟨true, .list .int s.2.2.1⟩, ⟨true, .list .int s.2.2.2.1⟩, ⟨true, .list .int s.2.2.2.2.1⟩, ⟨true, .list .int s.2.2.2.2.2.1⟩, ⟨true, .list .int s.2.2.2.2.2.2⟩])
  dec := fun vs tm K => dCons vs fun a1_ r2_ => dPtr 0 a1_ <| dCons r2_ fun a3_ r4_ => dPtr 1 a3_ <| dCons r4_ fun a5_ r6_ => dSl 2 a5_ <| dNil r6_ <| dBlk true tm fun b7_ m8_ => dCells b7_ fun c9_ => dCons c9_ fun a10_ r11_ => dSl 3 a10_ <| dCons r11_ fun a12_ r13_ => dSl 4 a12_ <| dCons r13_ fun a14_ r15_ => dSl 5 a14_ <| dNil r15_ <| dBlk true m8_ fun b16_ m17_ => dCells b16_ fun c18_ => dCons c18_ fun a19_ r20_ => dSl 6 a19_ <| dCons r20_ fun a21_ r22_ => dSl 7 a21_ <| dCons r22_ fun a23_ r24_ => dSl 8 a23_ <| dNil r24_ <| dBlk true m17_ fun b25_ m26_ => dList .int b25_ fun q0 => dBlk true m26_ fun b27_ m28_ => dList .int b27_ fun q1 => dBlk true m28_ fun b29_ m30_ => dList .int b29_ fun q2 => dBlk true m30_ fun b31_ m32_ => dList .int b31_ fun q3 => dBlk true m32_ fun b33_ m34_ => dList .int b33_ fun q4 => dBlk true m34_ fun b35_ m36_ => dList .int b35_ fun q5 => dBlk true m36_ fun b37_ m38_ => dList .int b37_ fun q6 => dEnd m38_ <| K (q0, q1, q2, q3, q4, q5, q6)
  law := by
    intro vs tm K h
    replace h := dCons_ok h; obtain ⟨a1_, r2_, rfl, h⟩ := h
    replace h := dPtr_ok h; obtain ⟨rfl, h⟩ := h
    replace h := dCons_ok h; obtain ⟨a3_, r4_, rfl, h⟩ := h
    replace h := dPtr_ok h; obtain ⟨rfl, h⟩ := h
    replace h := dCons_ok h; obtain ⟨a5_, r6_, rfl, h⟩ := h
    replace h := dSl_ok h; obtain ⟨rfl, h⟩ := h
    replace h := dNil_ok h; obtain ⟨rfl, h⟩ := h
    replace h := dBlk_ok h; obtain ⟨b7_, m8_, rfl, h⟩ := h
    replace h := dCells_ok h; obtain ⟨c9_, rfl, h⟩ := h
    replace h := dCons_ok h; obtain ⟨a10_, r11_, rfl, h⟩ := h
    replace h := dSl_ok h; obtain ⟨rfl, h⟩ := h
    replace h := dCons_ok h; obtain ⟨a12_, r13_, rfl, h⟩ := h
    replace h := dSl_ok h; obtain ⟨rfl, h⟩ := h
    replace h := dCons_ok h; obtain ⟨a14_, r15_, rfl, h⟩ := h
    replace h := dSl_ok h; obtain ⟨rfl, h⟩ := h
    replace h := dNil_ok h; obtain ⟨rfl, h⟩ := h
    replace h := dBlk_ok h; obtain ⟨b16_, m17_, rfl, h⟩ := h
    replace h := dCells_ok h; obtain ⟨c18_, rfl, h⟩ := h
    replace h := dCons_ok h; obtain ⟨a19_, r20_, rfl, h⟩ := h
    replace h := dSl_ok h; obtain ⟨rfl, h⟩ := h
    replace h := dCons_ok h; obtain ⟨a21_, r22_, rfl, h⟩ := h
    replace h := dSl_ok h; obtain ⟨rfl, h⟩ := h
    replace h := dCons_ok h; obtain ⟨a23_, r24_, rfl, h⟩ := h
    replace h := dSl_ok h; obtain ⟨rfl, h⟩ := h
    replace h := dNil_ok h; obtain ⟨rfl, h⟩ := h
    replace h := dBlk_ok h; obtain ⟨b25_, m26_, rfl, h⟩ := h
    replace h := dList_ok h; obtain ⟨q0, rfl, h⟩ := h
    replace h := dBlk_ok h; obtain ⟨b27_, m28_, rfl, h⟩ := h
    replace h := dList_ok h; obtain ⟨q1, rfl, h⟩ := h
    replace h := dBlk_ok h; obtain ⟨b29_, m30_, rfl, h⟩ := h
    replace h := dList_ok h; obtain ⟨q2, rfl, h⟩ := h
    replace h := dBlk_ok h; obtain ⟨b31_, m32_, rfl, h⟩ := h
    replace h := dList_ok h; obtain ⟨q3, rfl, h⟩ := h
    replace h := dBlk_ok h; obtain ⟨b33_, m34_, rfl, h⟩ := h
    replace h := dList_ok h; obtain ⟨q4, rfl, h⟩ := h
    replace h := dBlk_ok h; obtain ⟨b35_, m36_, rfl, h⟩ := h
    replace h := dList_ok h; obtain ⟨q5, rfl, h⟩ := h
    replace h := dBlk_ok h; obtain ⟨b37_, m38_, rfl, h⟩ := h
    replace h := dList_ok h; obtain ⟨q6, rfl, h⟩ := h
    replace h := dEnd_ok h; obtain ⟨rfl, h⟩ := h
    exact ⟨(q0, q1, q2, q3, q4, q5, q6), rfl, h⟩
def H31 : List (Nat × LH) := [(0, H31_0), (2, H31_2), (4, H31_4), (1000022, H31_1000022)]
def W31 : List (Nat × List (Nat × List Nat)) := [(9, [(8, [21])])]
def Γ31 : List (Nat × Con) := [(40, useC [.ag [.pure .int, .pure .int, .pure .int]] G40), (63, useC [.x, .x] G63), (29, useC [.ag [.pure .int, .pure .int, .pure .int]] G29), (74, useC [.x, .pc [.own .int]] (onlyC [] G74))]
theorem e31 (p1 : List Int) (p2 : List Int) (p3 : List Int) (K : TV → TMem → Prop) : TW PP 94 Γ31 H31 W31 (List.length ([] : TMem)) (bodyOf Try.f31) (endT PP 94 [.cell 2 26, .tmp 3, .tmp 4] [.ag [.own .int, .own .int, .own .int], .own .int, .bl] [] (List.length ([] : TMem)) K) (argsF [.agg [.pl .int p1, .pl .int p2, .pl .int p3]]) [] =
    Mi_CopyHeap p1 p2 p3 (fun r1 r2 r3 r4 r5 => K (.tup [.agg [.sl 0, .sl 1, .sl 2], .sl 3, .bool r1]) [⟨true, .list .int r2⟩, ⟨true, .list .int r3⟩, ⟨true, .list .int r4⟩, ⟨true, .list .int r5⟩]) := by kernel_rfl
theorem s31 : CSound PP 31 G31 := by
  intro args K c h fl A aargs hA hN R hl
  unfold G31 at h
  generalize ht : c.tm = tm at h
  replace h := dCons_ok h; obtain ⟨a1_, r2_, rfl, h⟩ := h
  replace h := dAgg_ok h; obtain ⟨l3_, rfl, h⟩ := h
  replace h := dCons_ok h; obtain ⟨a4_, r5_, rfl, h⟩ := h
  replace h := dPl_ok h; obtain ⟨p1, rfl, h⟩ := h
  replace h := dCons_ok h; obtain ⟨a6_, r7_, rfl, h⟩ := h
  replace h := dPl_ok h; obtain ⟨p2, rfl, h⟩ := h
  replace h := dCons_ok h; obtain ⟨a8_, r9_, rfl, h⟩ := h
  replace h := dPl_ok h; obtain ⟨p3, rfl, h⟩ := h
  replace h := dNil_ok h; obtain ⟨rfl, h⟩ := h
  replace h := dNil_ok h; obtain ⟨rfl, h⟩ := h
  replace h := dEnd_ok h; obtain ⟨rfl, h⟩ := h
  refine fun_ok (nt := 94) (x := bodyOf Try.f31) (Γ := Γ31) (H := H31) (WW := W31) (rs := [.cell 2 26, .tmp 3, .tmp 4]) (shs := [.ag [.own .int, .own .int, .own .int], .own .int, .bl]) (cons := []) mixed Try.func31 (by decide) (by kernel_rfl) Try.ntmps31 Try.results31 (.cons (useC_ok s40) (.cons (useC_ok s63) (.cons (useC_ok s29) (.cons (useC_ok (onlyC_ok s74)) (GSound.nil))))) ?_ hA hN R hl
  rw [ht, e31 p1 p2 p3 K]
  exact h
/-! spec.l10Meet -/
def G106 : Con := fun args tm K => dCons args fun a1_ r2_ => dSl 0 a1_ <| dCons r2_ fun a3_ r4_ => dInt .i64 a3_ fun p1 => dNil r4_ <| dBlk true tm fun b5_ m6_ => dList .int b5_ fun p2 => dEnd m6_ <| Ms_l10Meet p1 p2 (fun r1 => K (.sl 1) [⟨true, .dead⟩, ⟨true, .list .int r1⟩])
def H106 : List (Nat × LH) := []
def W106 : List (Nat × List (Nat × List Nat)) := []
def Γ106 : List (Nat × Con) := [(102, useC [.pure .int, .x] G102)]
theorem e106 (p1 : Int) (p2 : List Int) (K : TV → TMem → Prop) : TW PP 20 Γ106 H106 W106 (List.length ([⟨true, .list .int p2⟩] : TMem)) (bodyOf Try.f106) (endT PP 20 [.tmp 4] [.own .int] [0] (List.length ([⟨true, .list .int p2⟩] : TMem)) K) (argsF [.sl 0, .int .i64 p1]) [⟨true, .list .int p2⟩] =
    Ms_l10Meet p1 p2 (fun r1 => K (.sl 1) [⟨true, .dead⟩, ⟨true, .list .int r1⟩]) := by kernel_rfl
theorem s106 : CSound PP 106 G106 := by
  intro args K c h fl A aargs hA hN R hl
  unfold G106 at h
  generalize ht : c.tm = tm at h
  replace h := dCons_ok h; obtain ⟨a1_, r2_, rfl, h⟩ := h
  replace h := dSl_ok h; obtain ⟨rfl, h⟩ := h
  replace h := dCons_ok h; obtain ⟨a3_, r4_, rfl, h⟩ := h
  replace h := dInt_ok h; obtain ⟨p1, rfl, h⟩ := h
  replace h := dNil_ok h; obtain ⟨rfl, h⟩ := h
  replace h := dBlk_ok h; obtain ⟨b5_, m6_, rfl, h⟩ := h
  replace h := dList_ok h; obtain ⟨p2, rfl, h⟩ := h
  replace h := dEnd_ok h; obtain ⟨rfl, h⟩ := h
  refine fun_ok (nt := 20) (x := bodyOf Try.f106) (Γ := Γ106) (H := H106) (WW := W106) (rs := [.tmp 4]) (shs := [.own .int]) (cons := [0]) mixed Try.func106 (by decide) (by kernel_rfl) Try.ntmps106 Try.results106 (.cons (useC_ok s102) (GSound.nil)) ?_ hA hN R hl
  rw [ht, e106 p1 p2 K]
  exact h
/-! spec.l10Order -/
def G77 : Con := fun args tm K => dCons args fun a1_ r2_ => dAgg a1_ fun l3_ => dCons l3_ fun a4_ r5_ => dPl .int a4_ fun p1 => dCons r5_ fun a6_ r7_ => dPl .int a6_ fun p2 => dCons r7_ fun a8_ r9_ => dPl .int a8_ fun p3 => dNil r9_ <| dNil r2_ <| dEnd tm <| Ms_l10Order p1 p2 p3 (fun r1 => K (.sl 0) [⟨true, .list .int r1⟩])
def H77_0 : LH where
  keep := [(1, .pc [.pure .int, .pure .int, .pure .int]), (3, .own .int), (4, .x)]
  S := Int × List Int × List Int × List Int × List Int
  enc := fun s => ([.ptr 0 0, .sl 1, .int .i64 s.1], [⟨true, .cells [.pl .int s.2.1, .pl .int s.2.2.1, .pl .int s.2.2.2.1]⟩, ⟨true, .list .int s.2.2.2.2⟩])
  dec := fun vs tm K => dCons vs fun a1_ r2_ => dPtr 0 a1_ <| dCons r2_ fun a3_ r4_ => dSl 1 a3_ <| dCons r4_ fun a5_ r6_ => dInt .i64 a5_ fun q0 => dNil r6_ <| dBlk true tm fun b7_ m8_ => dCells b7_ fun c9_ => dCons c9_ fun a10_ r11_ => dPl .int a10_ fun q1 => dCons r11_ fun a12_ r13_ => dPl .int a12_ fun q2 => dCons r13_ fun a14_ r15_ => dPl .int a14_ fun q3 => dNil r15_ <| dBlk true m8_ fun b16_ m17_ => dList .int b16_ fun q4 => dEnd m17_ <| K (q0, q1, q2, q3, q4)
  law := by
    intro vs tm K h
    replace h := dCons_ok h; obtain ⟨a1_, r2_, rfl, h⟩ := h
    replace h := dPtr_ok h; obtain ⟨rfl, h⟩ := h
    replace h := dCons_ok h; obtain ⟨a3_, r4_, rfl, h⟩ := h
    replace h := dSl_ok h; obtain ⟨rfl, h⟩ := h
    replace h := dCons_ok h; obtain ⟨a5_, r6_, rfl, h⟩ := h
    replace h := dInt_ok h; obtain ⟨q0, rfl, h⟩ := h
    replace h := dNil_ok h; obtain ⟨rfl, h⟩ := h
    replace h := dBlk_ok h; obtain ⟨b7_, m8_, rfl, h⟩ := h
    replace h := dCells_ok h; obtain ⟨c9_, rfl, h⟩ := h
    replace h := dCons_ok h; obtain ⟨a10_, r11_, rfl, h⟩ := h
    replace h := dPl_ok h; obtain ⟨q1, rfl, h⟩ := h
    replace h := dCons_ok h; obtain ⟨a12_, r13_, rfl, h⟩ := h
    replace h := dPl_ok h; obtain ⟨q2, rfl, h⟩ := h
    replace h := dCons_ok h; obtain ⟨a14_, r15_, rfl, h⟩ := h
    replace h := dPl_ok h; obtain ⟨q3, rfl, h⟩ := h
    replace h := dNil_ok h; obtain ⟨rfl, h⟩ := h
    replace h := dBlk_ok h; obtain ⟨b16_, m17_, rfl, h⟩ := h
    replace h := dList_ok h; obtain ⟨q4, rfl, h⟩ := h
    replace h := dEnd_ok h; obtain ⟨rfl, h⟩ := h
    exact ⟨(q0, q1, q2, q3, q4), rfl, h⟩
def H77_2 : LH where
  keep := [(1, .pc [.pure .int, .pure .int, .pure .int]), (3, .own .int), (5, .x)]
  S := Int × List Int × List Int × List Int × List Int
  enc := fun s => ([.ptr 0 0, .sl 1, .int .i64 s.1], [⟨true, .cells [.pl .int s.2.1, .pl .int s.2.2.1, .pl .int s.2.2.2.1]⟩, ⟨true, .list .int s.2.2.2.2⟩])
  dec := fun vs tm K => dCons vs fun a1_ r2_ => dPtr 0 a1_ <| dCons r2_ fun a3_ r4_ => dSl 1 a3_ <| dCons r4_ fun a5_ r6_ => dInt .i64 a5_ fun q0 => dNil r6_ <| dBlk true tm fun b7_ m8_ => dCells b7_ fun c9_ => dCons c9_ fun a10_ r11_ => dPl .int a10_ fun q1 => dCons r11_ fun a12_ r13_ => dPl .int a12_ fun q2 => dCons r13_ fun a14_ r15_ => dPl .int a14_ fun q3 => dNil r15_ <| dBlk true m8_ fun b16_ m17_ => dList .int b16_ fun q4 => dEnd m17_ <| K (q0, q1, q2, q3, q4)
  law := by
    intro vs tm K h
    replace h := dCons_ok h; obtain ⟨a1_, r2_, rfl, h⟩ := h
    replace h := dPtr_ok h; obtain ⟨rfl, h⟩ := h
    replace h := dCons_ok h; obtain ⟨a3_, r4_, rfl, h⟩ := h
    replace h := dSl_ok h; obtain ⟨rfl, h⟩ := h
    replace h := dCons_ok h; obtain ⟨a5_, r6_, rfl, h⟩ := h
    replace h := dInt_ok h; obtain ⟨q0, rfl, h⟩ := h
    replace h := dNil_ok h; obtain ⟨rfl, h⟩ := h
    replace h := dBlk_ok h; obtain ⟨b7_, m8_, rfl, h⟩ := h
    replace h := dCells_ok h; obtain ⟨c9_, rfl, h⟩ := h
    replace h := dCons_ok h; obtain ⟨a10_, r11_, rfl, h⟩ := h
    replace h := dPl_ok h; obtain ⟨q1, rfl, h⟩ := h
    replace h := dCons_ok h; obtain ⟨a12_, r13_, rfl, h⟩ := h
    replace h := dPl_ok h; obtain ⟨q2, rfl, h⟩ := h
    replace h := dCons_ok h; obtain ⟨a14_, r15_, rfl, h⟩ := h
    replace h := dPl_ok h; obtain ⟨q3, rfl, h⟩ := h
    replace h := dNil_ok h; obtain ⟨rfl, h⟩ := h
    replace h := dBlk_ok h; obtain ⟨b16_, m17_, rfl, h⟩ := h
    replace h := dList_ok h; obtain ⟨q4, rfl, h⟩ := h
    replace h := dEnd_ok h; obtain ⟨rfl, h⟩ := h
    exact ⟨(q0, q1, q2, q3, q4), rfl, h⟩
def H77 : List (Nat × LH) := [(0, H77_0), (2, H77_2)]
def W77 : List (Nat × List (Nat × List Nat)) := []
def Γ77 : List (Nat × Con) := [(106, useC [.own .int, .x] G106)]
theorem e77 (p1 : List Int) (p2 : List Int) (p3 : List Int) (K : TV → TMem → Prop) : TW PP 48 Γ77 H77 W77 (List.length ([] : TMem)) (bodyOf Try.f77) (endT PP 48 [.tmp 2] [.own .int] [] (List.length ([] : TMem)) K) (argsF [.agg [.pl .int p1, .pl .int p2, .pl .int p3]]) [] =
    Ms_l10Order p1 p2 p3 (fun r1 => K (.sl 0) [⟨true, .list .int r1⟩]) := by kernel_rfl
theorem s77 : CSound PP 77 G77 := by
  intro args K c h fl A aargs hA hN R hl
  unfold G77 at h
  generalize ht : c.tm = tm at h
  replace h := dCons_ok h; obtain ⟨a1_, r2_, rfl, h⟩ := h
  replace h := dAgg_ok h; obtain ⟨l3_, rfl, h⟩ := h
  replace h := dCons_ok h; obtain ⟨a4_, r5_, rfl, h⟩ := h
  replace h := dPl_ok h; obtain ⟨p1, rfl, h⟩ := h
  replace h := dCons_ok h; obtain ⟨a6_, r7_, rfl, h⟩ := h
  replace h := dPl_ok h; obtain ⟨p2, rfl, h⟩ := h
  replace h := dCons_ok h; obtain ⟨a8_, r9_, rfl, h⟩ := h
  replace h := dPl_ok h; obtain ⟨p3, rfl, h⟩ := h
  replace h := dNil_ok h; obtain ⟨rfl, h⟩ := h
  replace h := dNil_ok h; obtain ⟨rfl, h⟩ := h
  replace h := dEnd_ok h; obtain ⟨rfl, h⟩ := h
  refine fun_ok (nt := 48) (x := bodyOf Try.f77) (Γ := Γ77) (H := H77) (WW := W77) (rs := [.tmp 2]) (shs := [.own .int]) (cons := []) mixed Try.func77 (by decide) (by kernel_rfl) Try.ntmps77 Try.results77 (.cons (useC_ok s106) (GSound.nil)) ?_ hA hN R hl
  rw [ht, e77 p1 p2 p3 K]
  exact h
/-! spec.l10To -/
def G79 : Con := fun args tm K => dCons args fun a1_ r2_ => dPl .int a1_ fun p1 => dCons r2_ fun a3_ r4_ => dInt .i64 a3_ fun p2 => dNil r4_ <| dEnd tm <| Ms_l10To p1 p2 (fun r1 => K (.int .i64 r1) [])
def H79 : List (Nat × LH) := []
def W79 : List (Nat × List (Nat × List Nat)) := []
def Γ79 : List (Nat × Con) := [(102, useC [.pure .int, .x] G102)]
theorem e79 (p1 : List Int) (p2 : Int) (K : TV → TMem → Prop) : TW PP 10 Γ79 H79 W79 (List.length ([] : TMem)) (bodyOf Try.f79) (endT PP 10 [.tmp 4] [.x] [] (List.length ([] : TMem)) K) (argsF [.pl .int p1, .int .i64 p2]) [] =
    Ms_l10To p1 p2 (fun r1 => K (.int .i64 r1) []) := by kernel_rfl
theorem s79 : CSound PP 79 G79 := by
  intro args K c h fl A aargs hA hN R hl
  unfold G79 at h
  generalize ht : c.tm = tm at h
  replace h := dCons_ok h; obtain ⟨a1_, r2_, rfl, h⟩ := h
  replace h := dPl_ok h; obtain ⟨p1, rfl, h⟩ := h
  replace h := dCons_ok h; obtain ⟨a3_, r4_, rfl, h⟩ := h
  replace h := dInt_ok h; obtain ⟨p2, rfl, h⟩ := h
  replace h := dNil_ok h; obtain ⟨rfl, h⟩ := h
  replace h := dEnd_ok h; obtain ⟨rfl, h⟩ := h
  refine fun_ok (nt := 10) (x := bodyOf Try.f79) (Γ := Γ79) (H := H79) (WW := W79) (rs := [.tmp 4]) (shs := [.x]) (cons := []) mixed Try.func79 (by decide) (by kernel_rfl) Try.ntmps79 Try.results79 (.cons (useC_ok s102) (GSound.nil)) ?_ hA hN R hl
  rw [ht, e79 p1 p2 K]
  exact h
/-! spec.CopyHeap -/
def G32 : Con := fun args tm K => dCons args fun a1_ r2_ => dAgg a1_ fun l3_ => dCons l3_ fun a4_ r5_ => dPl .int a4_ fun p1 => dCons r5_ fun a6_ r7_ => dPl .int a6_ fun p2 => dCons r7_ fun a8_ r9_ => dPl .int a8_ fun p3 => dNil r9_ <| dNil r2_ <| dEnd tm <| Ms_CopyHeap p1 p2 p3 (fun r1 r2 r3 r4 r5 => K (.tup [.agg [.sl 0, .sl 1, .sl 2], .sl 3, .bool r1]) [⟨true, .list .int r2⟩, ⟨true, .list .int r3⟩, ⟨true, .list .int r4⟩, ⟨true, .list .int r5⟩])
def H32_0 : LH where
  keep := [(1, .pc [.pure .int, .pure .int, .pure .int]), (2, .pc [.own .int, .own .int, .own .int]), (5, .own .int), (6, .pc [.own .int, .own .int, .own .int]), (7, .own .int), (8, .x)]
  S := Int × List Int × List Int × List Int × List Int × List Int × List Int × List Int × List Int × List Int × List Int × List Int
  enc := fun s => ([.ptr 0 0, .ptr 1 0, .sl 2, .ptr 3 0, .sl 4, .int .i64 s.1], [⟨true, .cells [.pl .int s.2.1, .pl .int s.2.2.1, .pl .int s.2.2.2.1]⟩, ⟨true, .cells [.sl 5, .sl 6, .sl 7]⟩, ⟨true, .list .int s.2.2.2.2.1⟩, ⟨true, .cells [.sl 8, .sl 9, .sl 10]⟩, ⟨true, .list .int s.2.2.2.2.2.1⟩, ⟨true, .list .int s.2.2.2.2.2.2.1⟩, ⟨true, .list .int s.2.2.2.2.2.2.2.1⟩, ⟨true, .list .int s.2.2.2.2.2.2.2.2.1⟩, ⟨true, .list .int s.2.2.2.2.2.2.2.2.2.1⟩, ⟨true, .list .int s.2.2.2.2.2.2.2.2.2.2.1⟩, ⟨true, .list .int s.2.2.2.2.2.2.2.2.2.2.2⟩])
  dec := fun vs tm K => dCons vs fun a1_ r2_ => dPtr 0 a1_ <| dCons r2_ fun a3_ r4_ => dPtr 1 a3_ <| dCons r4_ fun a5_ r6_ => dSl 2 a5_ <| dCons r6_ fun a7_ r8_ => dPtr 3 a7_ <| dCons r8_ fun a9_ r10_ => dSl 4 a9_ <| dCons r10_ fun a11_ r12_ => dInt .i64 a11_ fun q0 => dNil r12_ <| dBlk true tm fun b13_ m14_ => dCells b13_ fun c15_ => dCons c15_ fun a16_ r17_ => dPl .int a16_ fun q1 => dCons r17_ fun a18_ r19_ => dPl .int a18_ fun q2 => dCons r19_ fun a20_ r21_ => dPl .int a20_ fun q3 => dNil r21_ <| dBlk true m14_ fun b22_ m23_ => dCells b22_ fun c24_ => dCons c24_ fun a25_ r26_ => dSl 5 a25_ <| dCons r26_ fun a27_ r28_ => dSl 6 a27_ <| dCons r28_ fun a29_ r30_ => dSl 7 a29_ <| dNil r30_ <| dBlk true m23_ fun b31_ m32_ => dList .int b31_ fun q4 => dBlk true m32_ fun b33_ m34_ => dCells b33_ fun c35_ => dCons c35_ fun a36_ r37_ => dSl 8 a36_ <| dCons r37_ fun a38_ r39_ => dSl 9 a38_ <| dCons r39_ fun a40_ r41_ => dSl 10 a40_ <| dNil r41_ <| dBlk true m34_ fun b42_ m43_ => dList .int b42_ fun q5 => dBlk true m43_ fun b44_ m45_ => dList .int b44_ fun q6 => dBlk true m45_ fun b46_ m47_ => dList .int b46_ fun q7 => dBlk true m47_ fun b48_ m49_ => dList .int b48_ fun q8 => dBlk true m49_ fun b50_ m51_ => dList .int b50_ fun q9 => dBlk true m51_ fun b52_ m53_ => dList .int b52_ fun q10 => dBlk true m53_ fun b54_ m55_ => dList .int b54_ fun q11 => dEnd m55_ <| K (q0, q1, q2, q3, q4, q5, q6, q7, q8, q9, q10, q11)
  law := by
    intro vs tm K h
    replace h := dCons_ok h; obtain ⟨a1_, r2_, rfl, h⟩ := h
    replace h := dPtr_ok h; obtain ⟨rfl, h⟩ := h
    replace h := dCons_ok h; obtain ⟨a3_, r4_, rfl, h⟩ := h
    replace h := dPtr_ok h; obtain ⟨rfl, h⟩ := h
    replace h := dCons_ok h; obtain ⟨a5_, r6_, rfl, h⟩ := h
    replace h := dSl_ok h; obtain ⟨rfl, h⟩ := h
    replace h := dCons_ok h; obtain ⟨a7_, r8_, rfl, h⟩ := h
    replace h := dPtr_ok h; obtain ⟨rfl, h⟩ := h
    replace h := dCons_ok h; obtain ⟨a9_, r10_, rfl, h⟩ := h
    replace h := dSl_ok h; obtain ⟨rfl, h⟩ := h
    replace h := dCons_ok h; obtain ⟨a11_, r12_, rfl, h⟩ := h
    replace h := dInt_ok h; obtain ⟨q0, rfl, h⟩ := h
    replace h := dNil_ok h; obtain ⟨rfl, h⟩ := h
    replace h := dBlk_ok h; obtain ⟨b13_, m14_, rfl, h⟩ := h
    replace h := dCells_ok h; obtain ⟨c15_, rfl, h⟩ := h
    replace h := dCons_ok h; obtain ⟨a16_, r17_, rfl, h⟩ := h
    replace h := dPl_ok h; obtain ⟨q1, rfl, h⟩ := h
    replace h := dCons_ok h; obtain ⟨a18_, r19_, rfl, h⟩ := h
    replace h := dPl_ok h; obtain ⟨q2, rfl, h⟩ := h
    replace h := dCons_ok h; obtain ⟨a20_, r21_, rfl, h⟩ := h
    replace h := dPl_ok h; obtain ⟨q3, rfl, h⟩ := h
    replace h := dNil_ok h; obtain ⟨rfl, h⟩ := h
    replace h := dBlk_ok h; obtain ⟨b22_, m23_, rfl, h⟩ := h
    replace h := dCells_ok h; obtain ⟨c24_, rfl, h⟩ := h
    replace h := dCons_ok h; obtain ⟨a25_, r26_, rfl, h⟩ := h
    replace h := dSl_ok h; obtain ⟨rfl, h⟩ := h
    replace h := dCons_ok h; obtain ⟨a27_, r28_, rfl, h⟩ := h
    replace h := dSl_ok h; obtain ⟨rfl, h⟩ := h
    replace h := dCons_ok h; obtain ⟨a29_, r30_, rfl, h⟩ := h
    replace h := dSl_ok h; obtain ⟨rfl, h⟩ := h
    replace h := dNil_ok h; obtain ⟨rfl, h⟩ := h
    replace h := dBlk_ok h; obtain ⟨b31_, m32_, rfl, h⟩ := h
    replace h := dList_ok h; obtain ⟨q4, rfl, h⟩ := h
    replace h := dBlk_ok h; obtain ⟨b33_, m34_, rfl, h⟩ := h
    replace h := dCells_ok h; obtain ⟨c35_, rfl, h⟩ := h
    replace h := dCons_ok h; obtain ⟨a36_, r37_, rfl, h⟩ := h
    replace h := dSl_ok h; obtain ⟨rfl, h⟩ := h
    replace h := dCons_ok h; obtain ⟨a38_, r39_, rfl, h⟩ := h
    replace h := dSl_ok h; obtain ⟨rfl, h⟩ := h
    replace h := dCons_ok h; obtain ⟨a40_, r41_, rfl, h⟩ := h
    replace h := dSl_ok h; obtain ⟨rfl, h⟩ := h
    replace h := dNil_ok h; obtain ⟨rfl, h⟩ := h
    replace h := dBlk_ok h; obtain ⟨b42_, m43_, rfl, h⟩ := h
    replace h := dList_ok h; obtain ⟨q5, rfl, h⟩ := h
    replace h := dBlk_ok h; obtain ⟨b44_, m45_, rfl, h⟩ := h
    replace h := dList_ok h; obtain ⟨q6, rfl, h⟩ := h
    replace h := dBlk_ok h; obtain ⟨b46_, m47_, rfl, h⟩ := h
    replace h := dList_ok h; obtain ⟨q7, rfl, h⟩ := h
    replace h := dBlk_ok h; obtain ⟨b48_, m49_, rfl, h⟩ := h
    replace h := dList_ok h; obtain ⟨q8, rfl, h⟩ := h
    replace h := dBlk_ok h; obtain ⟨b50_, m51_, rfl, h⟩ := h
    replace h := dList_ok h; obtain ⟨q9, rfl, h⟩ := h
    replace h := dBlk_ok h; obtain ⟨b52_, m53_, rfl, h⟩ := h
    replace h := dList_ok h; obtain ⟨q10, rfl, h⟩ := h
    replace h := dBlk_ok h; obtain ⟨b54_, m55_, rfl, h⟩ := h
    replace h := dList_ok h; obtain ⟨q11, rfl, h⟩ := h
    replace h := dEnd_ok h; obtain ⟨rfl, h⟩ := h
    exact ⟨(q0, q1, q2, q3, q4, q5, q6, q7, q8, q9, q10, q11), rfl, h⟩
def H32_2 : LH where
  keep := [(1, .pc [.pure .int, .pure .int, .pure .int]), (2, .pc [.own .int, .own .int, .own .int]), (5, .own .int), (6, .pc [.own .int, .own .int, .own .int]), (7, .own .int), (9, .x)]
  S := Int × List Int × List Int × List Int × List Int × List Int × List Int × List Int × List Int × List Int × List Int × List Int
  enc := fun s => ([.ptr 0 0, .ptr 1 0, .sl 2, .ptr 3 0, .sl 4, .int .i64 s.1], [⟨true, .cells [.pl .int s.2.1, .pl .int s.2.2.1, .pl .int s.2.2.2.1]⟩, ⟨true, .cells [.sl 5, .sl 6, .sl 7]⟩, ⟨true, .list .int s.2.2.2.2.1⟩, ⟨true, .cells [.sl 8, .sl 9, .sl 10]⟩, ⟨true, .list .int s.2.2.2.2.2.1⟩, ⟨true, .list .int s.2.2.2.2.2.2.1⟩, ⟨true, .list .int s.2.2.2.2.2.2.2.1⟩, ⟨true, .list .int s.2.2.2.2.2.2.2.2.1⟩, ⟨true, .list .int s.2.2.2.2.2.2.2.2.2.1⟩, ⟨true, .list .int s.2.2.2.2.2.2.2.2.2.2.1⟩, ⟨true, .list .int s.2.2.2.2.2.2.2.2.2.2.2⟩])
  dec := fun vs tm K => dCons vs fun a1_ r2_ => dPtr 0 a1_ <| dCons r2_ fun a3_ r4_ => dPtr 1 a3_ <| dCons r4_ fun a5_ r6_ => dSl 2 a5_ <| dCons r6_ fun a7_ r8_ => dPtr 3 a7_ <| dCons r8_ fun a9_ r10_ => dSl 4 a9_ <| dCons r10_ fun a11_ r12_ => dInt .i64 a11_ fun q0 => dNil r12_ <| dBlk true tm fun b13_ m14_ => dCells b13_ fun c15_ => dCons c15_ fun a16_ r17_ => dPl .int a16_ fun q1 => dCons r17_ fun a18_ r19_ => dPl .int a18_ fun q2 => dCons r19_ fun a20_ r21_ => dPl .int a20_ fun q3 => dNil r21_ <| dBlk true m14_ fun b22_ m23_ => dCells b22_ fun c24_ => dCons c24_ fun a25_ r26_ => dSl 5 a25_ <| dCons r26_ fun a27_ r28_ => dSl 6 a27_ <| dCons r28_ fun a29_ r30_ => dSl 7 a29_ <| dNil r30_ <| dBlk true m23_ fun b31_ m32_ => dList .int b31_ fun q4 => dBlk true m32_ fun b33_ m34_ => dCells b33_ fun c35_ => dCons c35_ fun a36_ r37_ => dSl 8 a36_ <| dCons r37_ fun a38_ r39_ => dSl 9 a38_ <| dCons r39_ fun a40_ r41_ => dSl 10 a40_ <| dNil r41_ <| dBlk true m34_ fun b42_ m43_ => dList .int b42_ fun q5 => dBlk true m43_ fun b44_ m45_ => dList .int b44_ fun q6 => dBlk true m45_ fun b46_ m47_ => dList .int b46_ fun q7 => dBlk true m47_ fun b48_ m49_ => dList .int b48_ fun q8 => dBlk true m49_ fun b50_ m51_ => dList .int b50_ fun q9 => dBlk true m51_ fun b52_ m53_ => dList .int b52_ fun q10 => dBlk true m53_ fun b54_ m55_ => dList .int b54_ fun q11 => dEnd m55_ <| K (q0, q1, q2, q3, q4, q5, q6, q7, q8, q9, q10, q11)
  law := by
    intro vs tm K h
    replace h := dCons_ok h; obtain ⟨a1_, r2_, rfl, h⟩ := h
    replace h := dPtr_ok h; obtain ⟨rfl, h⟩ := h
    replace h := dCons_ok h; obtain ⟨a3_, r4_, rfl, h⟩ := h
    replace h := dPtr_ok h; obtain ⟨rfl, h⟩ := h
    replace h := dCons_ok h; obtain ⟨a5_, r6_, rfl, h⟩ := h
    replace h := dSl_ok h; obtain ⟨rfl, h⟩ := h
    replace h := dCons_ok h; obtain ⟨a7_, r8_, rfl, h⟩ := h
    replace h := dPtr_ok h; obtain ⟨rfl, h⟩ := h
    replace h := dCons_ok h; obtain ⟨a9_, r10_, rfl, h⟩ := h
    replace h := dSl_ok h; obtain ⟨rfl, h⟩ := h
    replace h := dCons_ok h; obtain ⟨a11_, r12_, rfl, h⟩ := h
    replace h := dInt_ok h; obtain ⟨q0, rfl, h⟩ := h
    replace h := dNil_ok h; obtain ⟨rfl, h⟩ := h
    replace h := dBlk_ok h; obtain ⟨b13_, m14_, rfl, h⟩ := h
    replace h := dCells_ok h; obtain ⟨c15_, rfl, h⟩ := h
    replace h := dCons_ok h; obtain ⟨a16_, r17_, rfl, h⟩ := h
    replace h := dPl_ok h; obtain ⟨q1, rfl, h⟩ := h
    replace h := dCons_ok h; obtain ⟨a18_, r19_, rfl, h⟩ := h
    replace h := dPl_ok h; obtain ⟨q2, rfl, h⟩ := h
    replace h := dCons_ok h; obtain ⟨a20_, r21_, rfl, h⟩ := h
    replace h := dPl_ok h; obtain ⟨q3, rfl, h⟩ := h
    replace h := dNil_ok h; obtain ⟨rfl, h⟩ := h
    replace h := dBlk_ok h; obtain ⟨b22_, m23_, rfl, h⟩ := h
    replace h := dCells_ok h; obtain ⟨c24_, rfl, h⟩ := h
    replace h := dCons_ok h; obtain ⟨a25_, r26_, rfl, h⟩ := h
    replace h := dSl_ok h; obtain ⟨rfl, h⟩ := h
    replace h := dCons_ok h; obtain ⟨a27_, r28_, rfl, h⟩ := h
    replace h := dSl_ok h; obtain ⟨rfl, h⟩ := h
    replace h := dCons_ok h; obtain ⟨a29_, r30_, rfl, h⟩ := h
    replace h := dSl_ok h; obtain ⟨rfl, h⟩ := h
    replace h := dNil_ok h; obtain ⟨rfl, h⟩ := h
    replace h := dBlk_ok h; obtain ⟨b31_, m32_, rfl, h⟩ := h
    replace h := dList_ok h; obtain ⟨q4, rfl, h⟩ := h
    replace h := dBlk_ok h; obtain ⟨b33_, m34_, rfl, h⟩ := h
    replace h := dCells_ok h; obtain ⟨c35_, rfl, h⟩ := h
    replace h := dCons_ok h; obtain ⟨a36_, r37_, rfl, h⟩ := h
    replace h := dSl_ok h; obtain ⟨rfl, h⟩ := h
    replace h := dCons_ok h; obtain ⟨a38_, r39_, rfl, h⟩ := h
    replace h := dSl_ok h; obtain ⟨rfl, h⟩ := h
    replace h := dCons_ok h; obtain ⟨a40_, r41_, rfl, h⟩ := h
    replace h := dSl_ok h; obtain ⟨rfl, h⟩ := h
    replace h := dNil_ok h; obtain ⟨rfl, h⟩ := h
    replace h := dBlk_ok h; obtain ⟨b42_, m43_, rfl, h⟩ := h
    replace h := dList_ok h; obtain ⟨q5, rfl, h⟩ := h
    replace h := dBlk_ok h; obtain ⟨b44_, m45_, rfl, h⟩ := h
    replace h := dList_ok h; obtain ⟨q6, rfl, h⟩ := h
    replace h := dBlk_ok h; obtain ⟨b46_, m47_, rfl, h⟩ := h
    replace h := dList_ok h; obtain ⟨q7, rfl, h⟩ := h
    replace h := dBlk_ok h; obtain ⟨b48_, m49_, rfl, h⟩ := h
    replace h := dList_ok h; obtain ⟨q8, rfl, h⟩ := h
    replace h := dBlk_ok h; obtain ⟨b50_, m51_, rfl, h⟩ := h
    replace h := dList_ok h; obtain ⟨q9, rfl, h⟩ := h
    replace h := dBlk_ok h; obtain ⟨b52_, m53_, rfl, h⟩ := h
    replace h := dList_ok h; obtain ⟨q10, rfl, h⟩ := h
    replace h := dBlk_ok h; obtain ⟨b54_, m55_, rfl, h⟩ := h
    replace h := dList_ok h; obtain ⟨q11, rfl, h⟩ := h
    replace h := dEnd_ok h; obtain ⟨rfl, h⟩ := h
    exact ⟨(q0, q1, q2, q3, q4, q5, q6, q7, q8, q9, q10, q11), rfl, h⟩
def H32_1000016 : LH where
  keep := [(2, .pc [.own .int, .own .int, .own .int]), (6, .pc [.own .int, .own .int, .own .int]), (7, .own .int)]
  S := List Int × List Int × List Int × List Int × List Int × List Int × List Int
  enc := fun s => ([.ptr 0 0, .ptr 1 0, .sl 2], [⟨true, .cells [.sl 3, .sl 4, .sl 5]⟩, ⟨true, .cells [.sl 6, .sl 7, .sl 8]⟩, ⟨true, .list .int s.1⟩, ⟨true, .list .int s.2.1⟩, ⟨true, .list .int s.2.2.1⟩, ⟨true, .list .int s.2.2.2.1⟩, ⟨true, .list .int s.2.2.2.2.1⟩, ⟨true, .list .int s.2.2.2.2.2.1⟩, ⟨true, .list .int s.2.2.2.2.2.2⟩])
  dec := fun vs tm K => dCons vs fun a1_ r2_ => dPtr 0 a1_ <| dCons r2_ fun a3_ r4_ => dPtr 1 a3_ <| dCons r4_ fun a5_ r6_ => dSl 2 a5_ <| dNil r6_ <| dBlk true tm fun b7_ m8_ => dCells b7_ fun c9_ => dCons c9_ fun a10_ r11_ => dSl 3 a10_ <| dCons r11_ fun a12_ r13_ => dSl 4 a12_ <| dCons r13_ fun a14_ r15_ => dSl 5 a14_ <| dNil r15_ <| dBlk true m8_ fun b16_ m17_ => dCells b16_ fun c18_ => dCons c18_ fun a19_ r20_ => dSl 6 a19_ <| dCons r20_ fun a21_ r22_ => dSl 7 a21_ <| dCons r22_ fun a23_ r24_ => dSl 8 a23_ <| dNil r24_ <| dBlk true m17_ fun b25_ m26_ => dList .int b25_ fun q0 => dBlk true m26_ fun b27_ m28_ => dList .int b27_ fun q1 => dBlk true m28_ fun b29_ m30_ => dList .int b29_ fun q2 => dBlk true m30_ fun b31_ m32_ => dList .int b31_ fun q3 => dBlk true m32_ fun b33_ m34_ => dList .int b33_ fun q4 => dBlk true m34_ fun b35_ m36_ => dList .int b35_ fun q5 => dBlk true m36_ fun b37_ m38_ => dList .int b37_ fun q6 => dEnd m38_ <| K (q0, q1, q2, q3, q4, q5, q6)
  law := by
    intro vs tm K h
    replace h := dCons_ok h; obtain ⟨a1_, r2_, rfl, h⟩ := h
    replace h := dPtr_ok h; obtain ⟨rfl, h⟩ := h
    replace h := dCons_ok h; obtain ⟨a3_, r4_, rfl, h⟩ := h
    replace h := dPtr_ok h; obtain ⟨rfl, h⟩ := h
    replace h := dCons_ok h; obtain ⟨a5_, r6_, rfl, h⟩ := h
    replace h := dSl_ok h; obtain ⟨rfl, h⟩ := h
    replace h := dNil_ok h; obtain ⟨rfl, h⟩ := h
    replace h := dBlk_ok h; obtain ⟨b7_, m8_, rfl, h⟩ := h
    replace h := dCells_ok h; obtain ⟨c9_, rfl, h⟩ := h
    replace h := dCons_ok h; obtain ⟨a10_, r11_, rfl, h⟩ := h
    replace h := dSl_ok h; obtain ⟨rfl, h⟩ := h
    replace h := dCons_ok h; obtain ⟨a12_, r13_, rfl, h⟩ := h
    replace h := dSl_ok h; obtain ⟨rfl, h⟩ := h
    replace h := dCons_ok h; obtain ⟨a14_, r15_, rfl, h⟩ := h
    replace h := dSl_ok h; obtain ⟨rfl, h⟩ := h
    replace h := dNil_ok h; obtain ⟨rfl, h⟩ := h
    replace h := dBlk_ok h; obtain ⟨b16_, m17_, rfl, h⟩ := h
    replace h := dCells_ok h; obtain ⟨c18_, rfl, h⟩ := h
    replace h := dCons_ok h; obtain ⟨a19_, r20_, rfl, h⟩ := h
    replace h := dSl_ok h; obtain ⟨rfl, h⟩ := h
    replace h := dCons_ok h; obtain ⟨a21_, r22_, rfl, h⟩ := h
    replace h := dSl_ok h; obtain ⟨rfl, h⟩ := h
    replace h := dCons_ok h; obtain ⟨a23_, r24_, rfl, h⟩ := h
    replace h := dSl_ok h; obtain ⟨rfl, h⟩ := h
    replace h := dNil_ok h; obtain ⟨rfl, h⟩ := h
    replace h := dBlk_ok h; obtain ⟨b25_, m26_, rfl, h⟩ := h
    replace h := dList_ok h; obtain ⟨q0, rfl, h⟩ := h
    replace h := dBlk_ok h; obtain ⟨b27_, m28_, rfl, h⟩ := h
    replace h := dList_ok h; obtain ⟨q1, rfl, h⟩ := h
    replace h := dBlk_ok h; obtain ⟨b29_, m30_, rfl, h⟩ := h
    replace h := dList_ok h; obtain ⟨q2, rfl, h⟩ := h
    replace h := dBlk_ok h; obtain ⟨b31_, m32_, rfl, h⟩ := h
    replace h := dList_ok h; obtain ⟨q3, rfl, h⟩ := h
    replace h := dBlk_ok h; obtain ⟨b33_, m34_, rfl, h⟩ := h
    replace h := dList_ok h; obtain ⟨q4, rfl, h⟩ := h
    replace h := dBlk_ok h; obtain ⟨b35_, m36_, rfl, h⟩ := h
    replace h := dList_ok h; obtain ⟨q5, rfl, h⟩ := h
    replace h := dBlk_ok h; obtain ⟨b37_, m38_, rfl, h⟩ := h
    replace h := dList_ok h; obtain ⟨q6, rfl, h⟩ := h
    replace h := dEnd_ok h; obtain ⟨rfl, h⟩ := h
    exact ⟨(q0, q1, q2, q3, q4, q5, q6), rfl, h⟩
def H32 : List (Nat × LH) := [(0, H32_0), (2, H32_2), (1000016, H32_1000016)]
def W32 : List (Nat × List (Nat × List Nat)) := []
def Γ32 : List (Nat × Con) := [(76, useC [.ag [.pure .int, .pure .int, .pure .int]] G76), (77, useC [.ag [.pure .int, .pure .int, .pure .int]] G77), (78, useC [.x] G78), (79, useC [.pure .int, .x] G79)]
theorem e32 (p1 : List Int) (p2 : List Int) (p3 : List Int) (K : TV → TMem → Prop) : TW PP 92 Γ32 H32 W32 (List.length ([] : TMem)) (bodyOf Try.f32) (endT PP 92 [.cell 2 26, .tmp 3, .tmp 4] [.ag [.own .int, .own .int, .own .int], .own .int, .bl] [] (List.length ([] : TMem)) K) (argsF [.agg [.pl .int p1, .pl .int p2, .pl .int p3]]) [] =
    Ms_CopyHeap p1 p2 p3 (fun r1 r2 r3 r4 r5 => K (.tup [.agg [.sl 0, .sl 1, .sl 2], .sl 3, .bool r1]) [⟨true, .list .int r2⟩, ⟨true, .list .int r3⟩, ⟨true, .list .int r4⟩, ⟨true, .list .int r5⟩]) := by kernel_rfl
theorem s32 : CSound PP 32 G32 := by
  intro args K c h fl A aargs hA hN R hl
  unfold G32 at h
  generalize ht : c.tm = tm at h
  replace h := dCons_ok h; obtain ⟨a1_, r2_, rfl, h⟩ := h
  replace h := dAgg_ok h; obtain ⟨l3_, rfl, h⟩ := h
  replace h := dCons_ok h; obtain ⟨a4_, r5_, rfl, h⟩ := h
  replace h := dPl_ok h; obtain ⟨p1, rfl, h⟩ := h
  replace h := dCons_ok h; obtain ⟨a6_, r7_, rfl, h⟩ := h
  replace h := dPl_ok h; obtain ⟨p2, rfl, h⟩ := h
  replace h := dCons_ok h; obtain ⟨a8_, r9_, rfl, h⟩ := h
  replace h := dPl_ok h; obtain ⟨p3, rfl, h⟩ := h
  replace h := dNil_ok h; obtain ⟨rfl, h⟩ := h
  replace h := dNil_ok h; obtain ⟨rfl, h⟩ := h
  replace h := dEnd_ok h; obtain ⟨rfl, h⟩ := h
  refine fun_ok (nt := 92) (x := bodyOf Try.f32) (Γ := Γ32) (H := H32) (WW := W32) (rs := [.cell 2 26, .tmp 3, .tmp 4]) (shs := [.ag [.own .int, .own .int, .own .int], .own .int, .bl]) (cons := []) mixed Try.func32 (by decide) (by kernel_rfl) Try.ntmps32 Try.results32 (.cons (useC_ok s76) (.cons (useC_ok s77) (.cons (useC_ok s78) (.cons (useC_ok s79) (GSound.nil))))) ?_ hA hN R hl
  rw [ht, e32 p1 p2 p3 K]
  exact h
/-! laws.FnExactCopyHeap -/
def G7 : Con := fun args tm K => dCons args fun a1_ r2_ => dAgg a1_ fun l3_ => dCons l3_ fun a4_ r5_ => dPl .int a4_ fun p1 => dCons r5_ fun a6_ r7_ => dPl .int a6_ fun p2 => dCons r7_ fun a8_ r9_ => dPl .int a8_ fun p3 => dNil r9_ <| dNil r2_ <| dEnd tm <| Ml_FnExactCopyHeap p1 p2 p3 (fun r1 => K (.bool r1) [])
def H7_1000006 : LH where
  keep := [(1, .pc [.pure .int, .pure .int, .pure .int]), (4, .pc [.own .int, .own .int, .own .int]), (5, .own .int), (6, .bl)]
  S := Bool × List Int × List Int × List Int × List Int × List Int × List Int × List Int
  enc := fun s => ([.ptr 0 0, .ptr 1 0, .sl 2, .bool s.1], [⟨true, .cells [.pl .int s.2.1, .pl .int s.2.2.1, .pl .int s.2.2.2.1]⟩, ⟨true, .cells [.sl 3, .sl 4, .sl 5]⟩, ⟨true, .list .int s.2.2.2.2.1⟩, ⟨true, .list .int s.2.2.2.2.2.1⟩, ⟨true, .list .int s.2.2.2.2.2.2.1⟩, ⟨true, .list .int s.2.2.2.2.2.2.2⟩])
  dec := fun vs tm K => dCons vs fun a1_ r2_ => dPtr 0 a1_ <| dCons r2_ fun a3_ r4_ => dPtr 1 a3_ <| dCons r4_ fun a5_ r6_ => dSl 2 a5_ <| dCons r6_ fun a7_ r8_ => dBool a7_ fun q0 => dNil r8_ <| dBlk true tm fun b9_ m10_ => dCells b9_ fun c11_ => dCons c11_ fun a12_ r13_ => dPl .int a12_ fun q1 => dCons r13_ fun a14_ r15_ => dPl .int a14_ fun q2 => dCons r15_ fun a16_ r17_ => dPl .int a16_ fun q3 => dNil r17_ <| dBlk true m10_ fun b18_ m19_ => dCells b18_ fun c20_ => dCons c20_ fun a21_ r22_ => dSl 3 a21_ <| dCons r22_ fun a23_ r24_ => dSl 4 a23_ <| dCons r24_ fun a25_ r26_ => dSl 5 a25_ <| dNil r26_ <| dBlk true m19_ fun b27_ m28_ => dList .int b27_ fun q4 => dBlk true m28_ fun b29_ m30_ => dList .int b29_ fun q5 => dBlk true m30_ fun b31_ m32_ => dList .int b31_ fun q6 => dBlk true m32_ fun b33_ m34_ => dList .int b33_ fun q7 => dEnd m34_ <| K (q0, q1, q2, q3, q4, q5, q6, q7)
  law := by
    intro vs tm K h
    replace h := dCons_ok h; obtain ⟨a1_, r2_, rfl, h⟩ := h
    replace h := dPtr_ok h; obtain ⟨rfl, h⟩ := h
    replace h := dCons_ok h; obtain ⟨a3_, r4_, rfl, h⟩ := h
    replace h := dPtr_ok h; obtain ⟨rfl, h⟩ := h
    replace h := dCons_ok h; obtain ⟨a5_, r6_, rfl, h⟩ := h
    replace h := dSl_ok h; obtain ⟨rfl, h⟩ := h
    replace h := dCons_ok h; obtain ⟨a7_, r8_, rfl, h⟩ := h
    replace h := dBool_ok h; obtain ⟨q0, rfl, h⟩ := h
    replace h := dNil_ok h; obtain ⟨rfl, h⟩ := h
    replace h := dBlk_ok h; obtain ⟨b9_, m10_, rfl, h⟩ := h
    replace h := dCells_ok h; obtain ⟨c11_, rfl, h⟩ := h
    replace h := dCons_ok h; obtain ⟨a12_, r13_, rfl, h⟩ := h
    replace h := dPl_ok h; obtain ⟨q1, rfl, h⟩ := h
    replace h := dCons_ok h; obtain ⟨a14_, r15_, rfl, h⟩ := h
    replace h := dPl_ok h; obtain ⟨q2, rfl, h⟩ := h
    replace h := dCons_ok h; obtain ⟨a16_, r17_, rfl, h⟩ := h
    replace h := dPl_ok h; obtain ⟨q3, rfl, h⟩ := h
    replace h := dNil_ok h; obtain ⟨rfl, h⟩ := h
    replace h := dBlk_ok h; obtain ⟨b18_, m19_, rfl, h⟩ := h
    replace h := dCells_ok h; obtain ⟨c20_, rfl, h⟩ := h
    replace h := dCons_ok h; obtain ⟨a21_, r22_, rfl, h⟩ := h
    replace h := dSl_ok h; obtain ⟨rfl, h⟩ := h
    replace h := dCons_ok h; obtain ⟨a23_, r24_, rfl, h⟩ := h
    replace h := dSl_ok h; obtain ⟨rfl, h⟩ := h
    replace h := dCons_ok h; obtain ⟨a25_, r26_, rfl, h⟩ := h
    replace h := dSl_ok h; obtain ⟨rfl, h⟩ := h
    replace h := dNil_ok h; obtain ⟨rfl, h⟩ := h
    replace h := dBlk_ok h; obtain ⟨b27_, m28_, rfl, h⟩ := h
    replace h := dList_ok h; obtain ⟨q4, rfl, h⟩ := h
    replace h := dBlk_ok h; obtain ⟨b29_, m30_, rfl, h⟩ := h
    replace h := dList_ok h; obtain ⟨q5, rfl, h⟩ := h
    replace h := dBlk_ok h; obtain ⟨b31_, m32_, rfl, h⟩ := h
    replace h := dList_ok h; obtain ⟨q6, rfl, h⟩ := h
    replace h := dBlk_ok h; obtain ⟨b33_, m34_, rfl, h⟩ := h
    replace h := dList_ok h; obtain ⟨q7, rfl, h⟩ := h
    replace h := dEnd_ok h; obtain ⟨rfl, h⟩ := h
    exact ⟨(q0, q1, q2, q3, q4, q5, q6, q7), rfl, h⟩
def H7_1000009 : LH where
  keep := []
  S := Unit
  enc := fun s => ([], [])
  dec := fun vs tm K => dNil vs <| dEnd tm <| K ()
  law := by
    intro vs tm K h
    replace h := dNil_ok h; obtain ⟨rfl, h⟩ := h
    replace h := dEnd_ok h; obtain ⟨rfl, h⟩ := h
    exact ⟨(), rfl, h⟩
def H7_1000011 : LH where
  keep := []
  S := Unit
  enc := fun s => ([], [])
  dec := fun vs tm K => dNil vs <| dEnd tm <| K ()
  law := by
    intro vs tm K h
    replace h := dNil_ok h; obtain ⟨rfl, h⟩ := h
    replace h := dEnd_ok h; obtain ⟨rfl, h⟩ := h
    exact ⟨(), rfl, h⟩
def H7_1000012 : LH where
  keep := [(1, .pc [.pure .int, .pure .int, .pure .int]), (4, .pc [.own .int, .own .int, .own .int]), (5, .own .int), (6, .bl), (7, .pc [.own .int, .own .int, .own .int]), (8, .pc [.own .int, .own .int, .own .int]), (9, .own .int), (10, .bl)]
  S := Bool × Bool × List Int × List Int × List Int × List Int × List Int × List Int × List Int × List Int × List Int × List Int × List Int × List Int × List Int × List Int
  enc := fun s => ([.ptr 0 0, .ptr 1 0, .sl 2, .bool s.1, .ptr 3 0, .ptr 4 0, .sl 5, .bool s.2.1], [⟨true, .cells [.pl .int s.2.2.1, .pl .int s.2.2.2.1, .pl .int s.2.2.2.2.1]⟩, ⟨true, .cells [.sl 6, .sl 7, .sl 8]⟩, ⟨true, .list .int s.2.2.2.2.2.1⟩, ⟨true, .cells [.sl 9, .sl 10, .sl 11]⟩, ⟨true, .cells [.sl 12, .sl 13, .sl 14]⟩, ⟨true, .list .int s.2.2.2.2.2.2.1⟩, ⟨true, .list .int s.2.2.2.2.2.2.2.1⟩, ⟨true, .list .int s.2.2.2.2.2.2.2.2.1⟩, ⟨true, .list .int s.2.2.2.2.2.2.2.2.2.1⟩, ⟨true, .list .int s.2.2.2.2.2.2.2.2.2.2.1⟩, ⟨true, .list .int s.2.2.2.2.2.2.2.2.2.2.2.1⟩, ⟨true, .list .int s.2.2.2.2.2.2.2.2.2.2.2.2.1⟩, ⟨true, .list .int s.2.2.2.2.2.2.2.2.2.2.2.2.2.1⟩, ⟨true, .list .int s.2.2.2.2.2.2.2.2.2.2.2.2.2.2.1⟩, ⟨true, .list .int s.2.2.2.2.2.2.2.2.2.2.2.2.2.2.2⟩])
  dec := fun vs tm K => dCons vs fun a1_ r2_ => dPtr 0 a1_ <| dCons r2_ fun a3_ r4_ => dPtr 1 a3_ <| dCons r4_ fun a5_ r6_ => dSl 2 a5_ <| dCons r6_ fun a7_ r8_ => dBool a7_ fun q0 => dCons r8_ fun a9_ r10_ => dPtr 3 a9_ <| dCons r10_ fun a11_ r12_ => dPtr 4 a11_ <| dCons r12_ fun a13_ r14_ => dSl 5 a13_ <| dCons r14_ fun a15_ r16_ => dBool a15_ fun q1 => dNil r16_ <| dBlk true tm fun b17_ m18_ => dCells b17_ fun c19_ => dCons c19_ fun a20_ r21_ => dPl .int a20_ fun q2 => dCons r21_ fun a22_ r23_ => dPl .int a22_ fun q3 => dCons r23_ fun a24_ r25_ => dPl .int a24_ fun q4 => dNil r25_ <| dBlk true m18_ fun b26_ m27_ => dCells b26_ fun c28_ => dCons c28_ fun a29_ r30_ => dSl 6 a29_ <| dCons r30_ fun a31_ r32_ => dSl 7 a31_ <| dCons r32_ fun a33_ r34_ => dSl 8 a33_ <| dNil r34_ <| dBlk true m27_ fun b35_ m36_ => dList .int b35_ fun q5 => dBlk true m36_ fun b37_ m38_ => dCells b37_ fun c39_ => dCons c39_ fun a40_ r41_ => dSl 9 a40_ <| dCons r41_ fun a42_ r43_ => dSl 10 a42_ <| dCons r43_ fun a44_ r45_ => dSl 11 a44_ <| dNil r45_ <| dBlk true m38_ fun b46_ m47_ => dCells b46_ fun c48_ => dCons c48_ fun a49_ r50_ => dSl 12 a49_ <| dCons r50_ fun a51_ r52_ => dSl 13 a51_ <| dCons r52_ fun a53_ r54_ => dSl 14 a53_ <| dNil r54_ <| dBlk true m47_ fun b55_ m56_ => dList .int b55_ fun q6 => dBlk true m56_ fun b57_ m58_ => dList .int b57_ fun q7 => dBlk true m58_ fun b59_ m60_ => dList .int b59_ fun q8 => dBlk true m60_ fun b61_ m62_ => dList .int b61_ fun q9 => dBlk true m62_ fun b63_ m64_ => dList .int b63_ fun q10 => dBlk true m64_ fun b65_ m66_ => dList .int b65_ fun q11 => dBlk true m66_ fun b67_ m68_ => dList .int b67_ fun q12 => dBlk true m68_ fun b69_ m70_ => dList .int b69_ fun q13 => dBlk true m70_ fun b71_ m72_ => dList .int b71_ fun q14 => dBlk true m72_ fun b73_ m74_ => dList .int b73_ fun q15 => dEnd m74_ <| K (q0, q1, q2, q3, q4, q5, q6, q7, q8, q9, q10, q11, q12, q13, q14, q15)
  law := by
    intro vs tm K h
    replace h := dCons_ok h; obtain ⟨a1_, r2_, rfl, h⟩ := h
    replace h := dPtr_ok h; obtain ⟨rfl, h⟩ := h
    replace h := dCons_ok h; obtain ⟨a3_, r4_, rfl, h⟩ := h
    replace h := dPtr_ok h; obtain ⟨rfl, h⟩ := h
    replace h := dCons_ok h; obtain ⟨a5_, r6_, rfl, h⟩ := h
    replace h := dSl_ok h; obtain ⟨rfl, h⟩ := h
    replace h := dCons_ok h; obtain ⟨a7_, r8_, rfl, h⟩ := h
    replace h := dBool_ok h; obtain ⟨q0, rfl, h⟩ := h
    replace h := dCons_ok h; obtain ⟨a9_, r10_, rfl, h⟩ := h
    replace h := dPtr_ok h; obtain ⟨rfl, h⟩ := h
    replace h := dCons_ok h; obtain ⟨a11_, r12_, rfl, h⟩ := h
    replace h := dPtr_ok h; obtain ⟨rfl, h⟩ := h
    replace h := dCons_ok h; obtain ⟨a13_, r14_, rfl, h⟩ := h
    replace h := dSl_ok h; obtain ⟨rfl, h⟩ := h
    replace h := dCons_ok h; obtain ⟨a15_, r16_, rfl, h⟩ := h
    replace h := dBool_ok h; obtain ⟨q1, rfl, h⟩ := h
    replace h := dNil_ok h; obtain ⟨rfl, h⟩ := h
    replace h := dBlk_ok h; obtain ⟨b17_, m18_, rfl, h⟩ := h
    replace h := dCells_ok h; obtain ⟨c19_, rfl, h⟩ := h
    replace h := dCons_ok h; obtain ⟨a20_, r21_, rfl, h⟩ := h
    replace h := dPl_ok h; obtain ⟨q2, rfl, h⟩ := h
    replace h := dCons_ok h; obtain ⟨a22_, r23_, rfl, h⟩ := h
    replace h := dPl_ok h; obtain ⟨q3, rfl, h⟩ := h
    replace h := dCons_ok h; obtain ⟨a24_, r25_, rfl, h⟩ := h
    replace h := dPl_ok h; obtain ⟨q4, rfl, h⟩ := h
    replace h := dNil_ok h; obtain ⟨rfl, h⟩ := h
    replace h := dBlk_ok h; obtain ⟨b26_, m27_, rfl, h⟩ := h
    replace h := dCells_ok h; obtain ⟨c28_, rfl, h⟩ := h
    replace h := dCons_ok h; obtain ⟨a29_, r30_, rfl, h⟩ := h
    replace h := dSl_ok h; obtain ⟨rfl, h⟩ := h
    replace h := dCons_ok h; obtain ⟨a31_, r32_, rfl, h⟩ := h
    replace h := dSl_ok h; obtain ⟨rfl, h⟩ := h
    replace h := dCons_ok h; obtain ⟨a33_, r34_, rfl, h⟩ := h
    replace h := dSl_ok h; obtain ⟨rfl, h⟩ := h
    replace h := dNil_ok h; obtain ⟨rfl, h⟩ := h
    replace h := dBlk_ok h; obtain ⟨b35_, m36_, rfl, h⟩ := h
    replace h := dList_ok h; obtain ⟨q5, rfl, h⟩ := h
    replace h := dBlk_ok h; obtain ⟨b37_, m38_, rfl, h⟩ := h
    replace h := dCells_ok h; obtain ⟨c39_, rfl, h⟩ := h
    replace h := dCons_ok h; obtain ⟨a40_, r41_, rfl, h⟩ := h
    replace h := dSl_ok h; obtain ⟨rfl, h⟩ := h
    replace h := dCons_ok h; obtain ⟨a42_, r43_, rfl, h⟩ := h
    replace h := dSl_ok h; obtain ⟨rfl, h⟩ := h
    replace h := dCons_ok h; obtain ⟨a44_, r45_, rfl, h⟩ := h
    replace h := dSl_ok h; obtain ⟨rfl, h⟩ := h
    replace h := dNil_ok h; obtain ⟨rfl, h⟩ := h
    replace h := dBlk_ok h; obtain ⟨b46_, m47_, rfl, h⟩ := h
    replace h := dCells_ok h; obtain ⟨c48_, rfl, h⟩ := h
    replace h := dCons_ok h; obtain ⟨a49_, r50_, rfl, h⟩ := h
    replace h := dSl_ok h; obtain ⟨rfl, h⟩ := h
    replace h := dCons_ok h; obtain ⟨a51_, r52_, rfl, h⟩ := h
    replace h := dSl_ok h; obtain ⟨rfl, h⟩ := h
    replace h := dCons_ok h; obtain ⟨a53_, r54_, rfl, h⟩ := h
    replace h := dSl_ok h; obtain ⟨rfl, h⟩ := h
    replace h := dNil_ok h; obtain ⟨rfl, h⟩ := h
    replace h := dBlk_ok h; obtain ⟨b55_, m56_, rfl, h⟩ := h
    replace h := dList_ok h; obtain ⟨q6, rfl, h⟩ := h
    replace h := dBlk_ok h; obtain ⟨b57_, m58_, rfl, h⟩ := h
    replace h := dList_ok h; obtain ⟨q7, rfl, h⟩ := h
    replace h := dBlk_ok h; obtain ⟨b59_, m60_, rfl, h⟩ := h
    replace h := dList_ok h; obtain ⟨q8, rfl, h⟩ := h
    replace h := dBlk_ok h; obtain ⟨b61_, m62_, rfl, h⟩ := h
    replace h := dList_ok h; obtain ⟨q9, rfl, h⟩ := h
    replace h := dBlk_ok h; obtain ⟨b63_, m64_, rfl, h⟩ := h
    replace h := dList_ok h; obtain ⟨q10, rfl, h⟩ := h
    replace h := dBlk_ok h; obtain ⟨b65_, m66_, rfl, h⟩ := h
    replace h := dList_ok h; obtain ⟨q11, rfl, h⟩ := h
    replace h := dBlk_ok h; obtain ⟨b67_, m68_, rfl, h⟩ := h
    replace h := dList_ok h; obtain ⟨q12, rfl, h⟩ := h
    replace h := dBlk_ok h; obtain ⟨b69_, m70_, rfl, h⟩ := h
    replace h := dList_ok h; obtain ⟨q13, rfl, h⟩ := h
    replace h := dBlk_ok h; obtain ⟨b71_, m72_, rfl, h⟩ := h
    replace h := dList_ok h; obtain ⟨q14, rfl, h⟩ := h
    replace h := dBlk_ok h; obtain ⟨b73_, m74_, rfl, h⟩ := h
    replace h := dList_ok h; obtain ⟨q15, rfl, h⟩ := h
    replace h := dEnd_ok h; obtain ⟨rfl, h⟩ := h
    exact ⟨(q0, q1, q2, q3, q4, q5, q6, q7, q8, q9, q10, q11, q12, q13, q14, q15), rfl, h⟩
def H7_1000014 : LH where
  keep := [(1, .pc [.pure .int, .pure .int, .pure .int]), (4, .pc [.own .int, .own .int, .own .int]), (5, .own .int), (6, .bl), (8, .pc [.own .int, .own .int, .own .int]), (9, .own .int), (10, .bl), (11, .x)]
  S := Bool × Bool × Int × List Int × List Int × List Int × List Int × List Int × List Int × List Int × List Int × List Int × List Int × List Int
  enc := fun s => ([.ptr 0 0, .ptr 1 0, .sl 2, .bool s.1, .ptr 3 0, .sl 4, .bool s.2.1, .int .i64 s.2.2.1], [⟨true, .cells [.pl .int s.2.2.2.1, .pl .int s.2.2.2.2.1, .pl .int s.2.2.2.2.2.1]⟩, ⟨true, .cells [.sl 5, .sl 6, .sl 7]⟩, ⟨true, .list .int s.2.2.2.2.2.2.1⟩, ⟨true, .cells [.sl 8, .sl 9, .sl 10]⟩, ⟨true, .list .int s.2.2.2.2.2.2.2.1⟩, ⟨true, .list .int s.2.2.2.2.2.2.2.2.1⟩, ⟨true, .list .int s.2.2.2.2.2.2.2.2.2.1⟩, ⟨true, .list .int s.2.2.2.2.2.2.2.2.2.2.1⟩, ⟨true, .list .int s.2.2.2.2.2.2.2.2.2.2.2.1⟩, ⟨true, .list .int s.2.2.2.2.2.2.2.2.2.2.2.2.1⟩, ⟨true, .list .int s.2.2.2.2.2.2.2.2.2.2.2.2.2⟩])
  dec := fun vs tm K => dCons vs fun a1_ r2_ => dPtr 0 a1_ <| dCons r2_ fun a3_ r4_ => dPtr 1 a3_ <| dCons r4_ fun a5_ r6_ => dSl 2 a5_ <| dCons r6_ fun a7_ r8_ => dBool a7_ fun q0 => dCons r8_ fun a9_ r10_ => dPtr 3 a9_ <| dCons r10_ fun a11_ r12_ => dSl 4 a11_ <| dCons r12_ fun a13_ r14_ => dBool a13_ fun q1 => dCons r14_ fun a15_ r16_ => dInt .i64 a15_ fun q2 => dNil r16_ <| dBlk true tm fun b17_ m18_ => dCells b17_ fun c19_ => dCons c19_ fun a20_ r21_ => dPl .int a20_ fun q3 => dCons r21_ fun a22_ r23_ => dPl .int a22_ fun q4 => dCons r23_ fun a24_ r25_ => dPl .int a24_ fun q5 => dNil r25_ <| dBlk true m18_ fun b26_ m27_ => dCells b26_ fun c28_ => dCons c28_ fun a29_ r30_ => dSl 5 a29_ <| dCons r30_ fun a31_ r32_ => dSl 6 a31_ <| dCons r32_ fun a33_ r34_ => dSl 7 a33_ <| dNil r34_ <| dBlk true m27_ fun b35_ m36_ => dList .int b35_ fun q6 => dBlk true m36_ fun b37_ m38_ => dCells b37_ fun c39_ => dCons c39_ fun a40_ r41_ => dSl 8 a40_ <| dCons r41_ fun a42_ r43_ => dSl 9 a42_ <| dCons r43_ fun a44_ r45_ => dSl 10 a44_ <| dNil r45_ <| dBlk true m38_ fun b46_ m47_ => dList .int b46_ fun q7 => dBlk true m47_ fun b48_ m49_ => dList .int b48_ fun q8 => dBlk true m49_ fun b50_ m51_ => dList .int b50_ fun q9 => dBlk true m51_ fun b52_ m53_ => dList .int b52_ fun q10 => dBlk true m53_ fun b54_ m55_ => dList .int b54_ fun q11 => dBlk true m55_ fun b56_ m57_ => dList .int b56_ fun q12 => dBlk true m57_ fun b58_ m59_ => dList .int b58_ fun q13 => dEnd m59_ <| K (q0, q1, q2, q3, q4, q5, q6, q7, q8, q9, q10, q11, q12, q13)
  law := by
    intro vs tm K h
    replace h := dCons_ok h; obtain ⟨a1_, r2_, rfl, h⟩ := h
    replace h := dPtr_ok h; obtain ⟨rfl, h⟩ := h
    replace h := dCons_ok h; obtain ⟨a3_, r4_, rfl, h⟩ := h
    replace h := dPtr_ok h; obtain ⟨rfl, h⟩ := h
    replace h := dCons_ok h; obtain ⟨a5_, r6_, rfl, h⟩ := h
    replace h := dSl_ok h; obtain ⟨rfl, h⟩ := h
    replace h := dCons_ok h; obtain ⟨a7_, r8_, rfl, h⟩ := h
    replace h := dBool_ok h; obtain ⟨q0, rfl, h⟩ := h
    replace h := dCons_ok h; obtain ⟨a9_, r10_, rfl, h⟩ := h
    replace h := dPtr_ok h; obtain ⟨rfl, h⟩ := h
    replace h := dCons_ok h; obtain ⟨a11_, r12_, rfl, h⟩ := h
    replace h := dSl_ok h; obtain ⟨rfl, h⟩ := h
    replace h := dCons_ok h; obtain ⟨a13_, r14_, rfl, h⟩ := h
    replace h := dBool_ok h; obtain ⟨q1, rfl, h⟩ := h
    replace h := dCons_ok h; obtain ⟨a15_, r16_, rfl, h⟩ := h
    replace h := dInt_ok h; obtain ⟨q2, rfl, h⟩ := h
    replace h := dNil_ok h; obtain ⟨rfl, h⟩ := h
    replace h := dBlk_ok h; obtain ⟨b17_, m18_, rfl, h⟩ := h
    replace h := dCells_ok h; obtain ⟨c19_, rfl, h⟩ := h
    replace h := dCons_ok h; obtain ⟨a20_, r21_, rfl, h⟩ := h
    replace h := dPl_ok h; obtain ⟨q3, rfl, h⟩ := h
    replace h := dCons_ok h; obtain ⟨a22_, r23_, rfl, h⟩ := h
    replace h := dPl_ok h; obtain ⟨q4, rfl, h⟩ := h
    replace h := dCons_ok h; obtain ⟨a24_, r25_, rfl, h⟩ := h
    replace h := dPl_ok h; obtain ⟨q5, rfl, h⟩ := h
    replace h := dNil_ok h; obtain ⟨rfl, h⟩ := h
    replace h := dBlk_ok h; obtain ⟨b26_, m27_, rfl, h⟩ := h
    replace h := dCells_ok h; obtain ⟨c28_, rfl, h⟩ := h
    replace h := dCons_ok h; obtain ⟨a29_, r30_, rfl, h⟩ := h
    replace h := dSl_ok h; obtain ⟨rfl, h⟩ := h
    replace h := dCons_ok h; obtain ⟨a31_, r32_, rfl, h⟩ := h
    replace h := dSl_ok h; obtain ⟨rfl, h⟩ := h
    replace h := dCons_ok h; obtain ⟨a33_, r34_, rfl, h⟩ := h
    replace h := dSl_ok h; obtain ⟨rfl, h⟩ := h
    replace h := dNil_ok h; obtain ⟨rfl, h⟩ := h
    replace h := dBlk_ok h; obtain ⟨b35_, m36_, rfl, h⟩ := h
    replace h := dList_ok h; obtain ⟨q6, rfl, h⟩ := h
    replace h := dBlk_ok h; obtain ⟨b37_, m38_, rfl, h⟩ := h
    replace h := dCells_ok h; obtain ⟨c39_, rfl, h⟩ := h
    replace h := dCons_ok h; obtain ⟨a40_, r41_, rfl, h⟩ := h
    replace h := dSl_ok h; obtain ⟨rfl, h⟩ := h
    replace h := dCons_ok h; obtain ⟨a42_, r43_, rfl, h⟩ := h
    replace h := dSl_ok h; obtain ⟨rfl, h⟩ := h
    replace h := dCons_ok h; obtain ⟨a44_, r45_, rfl, h⟩ := h
    replace h := dSl_ok h; obtain ⟨rfl, h⟩ := h
    replace h := dNil_ok h; obtain ⟨rfl, h⟩ := h
    replace h := dBlk_ok h; obtain ⟨b46_, m47_, rfl, h⟩ := h
    replace h := dList_ok h; obtain ⟨q7, rfl, h⟩ := h
    replace h := dBlk_ok h; obtain ⟨b48_, m49_, rfl, h⟩ := h
    replace h := dList_ok h; obtain ⟨q8, rfl, h⟩ := h
    replace h := dBlk_ok h; obtain ⟨b50_, m51_, rfl, h⟩ := h
    replace h := dList_ok h; obtain ⟨q9, rfl, h⟩ := h
    replace h := dBlk_ok h; obtain ⟨b52_, m53_, rfl, h⟩ := h
    replace h := dList_ok h; obtain ⟨q10, rfl, h⟩ := h
    replace h := dBlk_ok h; obtain ⟨b54_, m55_, rfl, h⟩ := h
    replace h := dList_ok h; obtain ⟨q11, rfl, h⟩ := h
    replace h := dBlk_ok h; obtain ⟨b56_, m57_, rfl, h⟩ := h
    replace h := dList_ok h; obtain ⟨q12, rfl, h⟩ := h
    replace h := dBlk_ok h; obtain ⟨b58_, m59_, rfl, h⟩ := h
    replace h := dList_ok h; obtain ⟨q13, rfl, h⟩ := h
    replace h := dEnd_ok h; obtain ⟨rfl, h⟩ := h
    exact ⟨(q0, q1, q2, q3, q4, q5, q6, q7, q8, q9, q10, q11, q12, q13), rfl, h⟩
def H7_1000015 : LH where
  keep := []
  S := Unit
  enc := fun s => ([], [])
  dec := fun vs tm K => dNil vs <| dEnd tm <| K ()
  law := by
    intro vs tm K h
    replace h := dNil_ok h; obtain ⟨rfl, h⟩ := h
    replace h := dEnd_ok h; obtain ⟨rfl, h⟩ := h
    exact ⟨(), rfl, h⟩
def H7_1000022 : LH where
  keep := []
  S := Unit
  enc := fun s => ([], [])
  dec := fun vs tm K => dNil vs <| dEnd tm <| K ()
  law := by
    intro vs tm K h
    replace h := dNil_ok h; obtain ⟨rfl, h⟩ := h
    replace h := dEnd_ok h; obtain ⟨rfl, h⟩ := h
    exact ⟨(), rfl, h⟩
def H7_1000025 : LH where
  keep := []
  S := Unit
  enc := fun s => ([], [])
  dec := fun vs tm K => dNil vs <| dEnd tm <| K ()
  law := by
    intro vs tm K h
    replace h := dNil_ok h; obtain ⟨rfl, h⟩ := h
    replace h := dEnd_ok h; obtain ⟨rfl, h⟩ := h
    exact ⟨(), rfl, h⟩
def H7_1000027 : LH where
  keep := []
  S := Unit
  enc := fun s => ([], [])
  dec := fun vs tm K => dNil vs <| dEnd tm <| K ()
  law := by
    intro vs tm K h
    replace h := dNil_ok h; obtain ⟨rfl, h⟩ := h
    replace h := dEnd_ok h; obtain ⟨rfl, h⟩ := h
    exact ⟨(), rfl, h⟩
def H7_1000029 : LH where
  keep := [(4, .pc [.own .int, .own .int, .own .int]), (5, .own .int), (6, .bl), (8, .pc [.own .int, .own .int, .own .int]), (9, .own .int), (12, .x), (14, .pc [.own .int, .own .int, .own .int]), (15, .own .int), (16, .bl)]
  S := Bool × Int × Bool × List Int × List Int × List Int × List Int × List Int × List Int × List Int × List Int × List Int × List Int × List Int × List Int
  enc := fun s => ([.ptr 0 0, .sl 1, .bool s.1, .ptr 2 0, .sl 3, .int .i64 s.2.1, .ptr 4 0, .sl 5, .bool s.2.2.1], [⟨true, .cells [.sl 6, .sl 7, .sl 8]⟩, ⟨true, .list .int s.2.2.2.1⟩, ⟨true, .cells [.sl 9, .sl 10, .sl 11]⟩, ⟨true, .list .int s.2.2.2.2.1⟩, ⟨true, .cells [.sl 12, .sl 13, .sl 14]⟩, ⟨true, .list .int s.2.2.2.2.2.1⟩, ⟨true, .list .int s.2.2.2.2.2.2.1⟩, ⟨true, .list .int s.2.2.2.2.2.2.2.1⟩, ⟨true, .list .int s.2.2.2.2.2.2.2.2.1⟩, ⟨true, .list .int s.2.2.2.2.2.2.2.2.2.1⟩, ⟨true, .list .int s.2.2.2.2.2.2.2.2.2.2.1⟩, ⟨true, .list .int s.2.2.2.2.2.2.2.2.2.2.2.1⟩, ⟨true, .list .int s.2.2.2.2.2.2.2.2.2.2.2.2.1⟩, ⟨true, .list .int s.2.2.2.2.2.2.2.2.2.2.2.2.2.1⟩, ⟨true, .list .int s.2.2.2.2.2.2.2.2.2.2.2.2.2.2⟩])
  dec := fun vs tm K => dCons vs fun a1_ r2_ => dPtr 0 a1_ <| dCons r2_ fun a3_ r4_ => dSl 1 a3_ <| dCons r4_ fun a5_ r6_ => dBool a5_ fun q0 => dCons r6_ fun a7_ r8_ => dPtr 2 a7_ <| dCons r8_ fun a9_ r10_ => dSl 3 a9_ <| dCons r10_ fun a11_ r12_ => dInt .i64 a11_ fun q1 => dCons r12_ fun a13_ r14_ => dPtr 4 a13_ <| dCons r14_ fun a15_ r16_ => dSl 5 a15_ <| dCons r16_ fun a17_ r18_ => dBool a17_ fun q2 => dNil r18_ <| dBlk true tm fun b19_ m20_ => dCells b19_ fun c21_ => dCons c21_ fun a22_ r23_ => dSl 6 a22_ <| dCons r23_ fun a24_ r25_ => dSl 7 a24_ <| dCons r25_ fun a26_ r27_ => dSl 8 a26_ <| dNil r27_ <| dBlk true m20_ fun b28_ m29_ => dList .int b28_ fun q3 => dBlk true m29_ fun b30_ m31_ => dCells b30_ fun c32_ => dCons c32_ fun a33_ r34_ => dSl 9 a33_ <| dCons r34_ fun a35_ r36_ => dSl 10 a35_ <| dCons r36_ fun a37_ r38_ => dSl 11 a37_ <| dNil r38_ <| dBlk true m31_ fun b39_ m40_ => dList .int b39_ fun q4 => dBlk true m40_ fun b41_ m42_ => dCells b41_ fun c43_ => dCons c43_ fun a44_ r45_ => dSl 12 a44_ <| dCons r45_ fun a46_ r47_ => dSl 13 a46_ <| dCons r47_ fun a48_ r49_ => dSl 14 a48_ <| dNil r49_ <| dBlk true m42_ fun b50_ m51_ => dList .int b50_ fun q5 => dBlk true m51_ fun b52_ m53_ => dList .int b52_ fun q6 => dBlk true m53_ fun b54_ m55_ => dList .int b54_ fun q7 => dBlk true m55_ fun b56_ m57_ => dList .int b56_ fun q8 => dBlk true m57_ fun b58_ m59_ => dList .int b58_ fun q9 => dBlk true m59_ fun b60_ m61_ => dList .int b60_ fun q10 => dBlk true m61_ fun b62_ m63_ => dList .int b62_ fun q11 => dBlk true m63_ fun b64_ m65_ => dList .int b64_ fun q12 => dBlk true m65_ fun b66_ m67_ => dList .int b66_ fun q13 => dBlk true m67_ fun b68_ m69_ => dList .int b68_ fun q14 => dEnd m69_ <| K (q0, q1, q2, q3, q4, q5, q6, q7, q8, q9, q10, q11, q12, q13, q14)
  law := by
    intro vs tm K h
    replace h := dCons_ok h; obtain ⟨a1_, r2_, rfl, h⟩ := h
    replace h := dPtr_ok h; obtain ⟨rfl, h⟩ := h
    replace h := dCons_ok h; obtain ⟨a3_, r4_, rfl, h⟩ := h
    replace h := dSl_ok h; obtain ⟨rfl, h⟩ := h
    replace h := dCons_ok h; obtain ⟨a5_, r6_, rfl, h⟩ := h
    replace h := dBool_ok h; obtain ⟨q0, rfl, h⟩ := h
    replace h := dCons_ok h; obtain ⟨a7_, r8_, rfl, h⟩ := h
    replace h := dPtr_ok h; obtain ⟨rfl, h⟩ := h
    replace h := dCons_ok h; obtain ⟨a9_, r10_, rfl, h⟩ := h
    replace h := dSl_ok h; obtain ⟨rfl, h⟩ := h
    replace h := dCons_ok h; obtain ⟨a11_, r12_, rfl, h⟩ := h
    replace h := dInt_ok h; obtain ⟨q1, rfl, h⟩ := h
    replace h := dCons_ok h; obtain ⟨a13_, r14_, rfl, h⟩ := h
    replace h := dPtr_ok h; obtain ⟨rfl, h⟩ := h
    replace h := dCons_ok h; obtain ⟨a15_, r16_, rfl, h⟩ := h
    replace h := dSl_ok h; obtain ⟨rfl, h⟩ := h
    replace h := dCons_ok h; obtain ⟨a17_, r18_, rfl, h⟩ := h
    replace h := dBool_ok h; obtain ⟨q2, rfl, h⟩ := h
    replace h := dNil_ok h; obtain ⟨rfl, h⟩ := h
    replace h := dBlk_ok h; obtain ⟨b19_, m20_, rfl, h⟩ := h
    replace h := dCells_ok h; obtain ⟨c21_, rfl, h⟩ := h
    replace h := dCons_ok h; obtain ⟨a22_, r23_, rfl, h⟩ := h
    replace h := dSl_ok h; obtain ⟨rfl, h⟩ := h
    replace h := dCons_ok h; obtain ⟨a24_, r25_, rfl, h⟩ := h
    replace h := dSl_ok h; obtain ⟨rfl, h⟩ := h
    replace h := dCons_ok h; obtain ⟨a26_, r27_, rfl, h⟩ := h
    replace h := dSl_ok h; obtain ⟨rfl, h⟩ := h
    replace h := dNil_ok h; obtain ⟨rfl, h⟩ := h
    replace h := dBlk_ok h; obtain ⟨b28_, m29_, rfl, h⟩ := h
    replace h := dList_ok h; obtain ⟨q3, rfl, h⟩ := h
    replace h := dBlk_ok h; obtain ⟨b30_, m31_, rfl, h⟩ := h
    replace h := dCells_ok h; obtain ⟨c32_, rfl, h⟩ := h
    replace h := dCons_ok h; obtain ⟨a33_, r34_, rfl, h⟩ := h
    replace h := dSl_ok h; obtain ⟨rfl, h⟩ := h
    replace h := dCons_ok h; obtain ⟨a35_, r36_, rfl, h⟩ := h
    replace h := dSl_ok h; obtain ⟨rfl, h⟩ := h
    replace h := dCons_ok h; obtain ⟨a37_, r38_, rfl, h⟩ := h
    replace h := dSl_ok h; obtain ⟨rfl, h⟩ := h
    replace h := dNil_ok h; obtain ⟨rfl, h⟩ := h
    replace h := dBlk_ok h; obtain ⟨b39_, m40_, rfl, h⟩ := h
    replace h := dList_ok h; obtain ⟨q4, rfl, h⟩ := h
    replace h := dBlk_ok h; obtain ⟨b41_, m42_, rfl, h⟩ := h
    replace h := dCells_ok h; obtain ⟨c43_, rfl, h⟩ := h
    replace h := dCons_ok h; obtain ⟨a44_, r45_, rfl, h⟩ := h
    replace h := dSl_ok h; obtain ⟨rfl, h⟩ := h
    replace h := dCons_ok h; obtain ⟨a46_, r47_, rfl, h⟩ := h
    replace h := dSl_ok h; obtain ⟨rfl, h⟩ := h
    replace h := dCons_ok h; obtain ⟨a48_, r49_, rfl, h⟩ := h
    replace h := dSl_ok h; obtain ⟨rfl, h⟩ := h
    replace h := dNil_ok h; obtain ⟨rfl, h⟩ := h
    replace h := dBlk_ok h; obtain ⟨b50_, m51_, rfl, h⟩ := h
    replace h := dList_ok h; obtain ⟨q5, rfl, h⟩ := h
    replace h := dBlk_ok h; obtain ⟨b52_, m53_, rfl, h⟩ := h
    replace h := dList_ok h; obtain ⟨q6, rfl, h⟩ := h
    replace h := dBlk_ok h; obtain ⟨b54_, m55_, rfl, h⟩ := h
    replace h := dList_ok h; obtain ⟨q7, rfl, h⟩ := h
    replace h := dBlk_ok h; obtain ⟨b56_, m57_, rfl, h⟩ := h
    replace h := dList_ok h; obtain ⟨q8, rfl, h⟩ := h
    replace h := dBlk_ok h; obtain ⟨b58_, m59_, rfl, h⟩ := h
    replace h := dList_ok h; obtain ⟨q9, rfl, h⟩ := h
    replace h := dBlk_ok h; obtain ⟨b60_, m61_, rfl, h⟩ := h
    replace h := dList_ok h; obtain ⟨q10, rfl, h⟩ := h
    replace h := dBlk_ok h; obtain ⟨b62_, m63_, rfl, h⟩ := h
    replace h := dList_ok h; obtain ⟨q11, rfl, h⟩ := h
    replace h := dBlk_ok h; obtain ⟨b64_, m65_, rfl, h⟩ := h
    replace h := dList_ok h; obtain ⟨q12, rfl, h⟩ := h
    replace h := dBlk_ok h; obtain ⟨b66_, m67_, rfl, h⟩ := h
    replace h := dList_ok h; obtain ⟨q13, rfl, h⟩ := h
    replace h := dBlk_ok h; obtain ⟨b68_, m69_, rfl, h⟩ := h
    replace h := dList_ok h; obtain ⟨q14, rfl, h⟩ := h
    replace h := dEnd_ok h; obtain ⟨rfl, h⟩ := h
    exact ⟨(q0, q1, q2, q3, q4, q5, q6, q7, q8, q9, q10, q11, q12, q13, q14), rfl, h⟩
def H7_1000030 : LH where
  keep := []
  S := Unit
  enc := fun s => ([], [])
  dec := fun vs tm K => dNil vs <| dEnd tm <| K ()
  law := by
    intro vs tm K h
    replace h := dNil_ok h; obtain ⟨rfl, h⟩ := h
    replace h := dEnd_ok h; obtain ⟨rfl, h⟩ := h
    exact ⟨(), rfl, h⟩
def H7_1000031 : LH where
  keep := [(8, .pc [.own .int, .own .int, .own .int]), (9, .own .int), (12, .x)]
  S := Int × List Int × List Int × List Int × List Int
  enc := fun s => ([.ptr 0 0, .sl 1, .int .i64 s.1], [⟨true, .cells [.sl 2, .sl 3, .sl 4]⟩, ⟨true, .list .int s.2.1⟩, ⟨true, .list .int s.2.2.1⟩, ⟨true, .list .int s.2.2.2.1⟩, ⟨true, .list .int s.2.2.2.2⟩])
  dec := fun vs tm K => dCons vs fun a1_ r2_ => dPtr 0 a1_ <| dCons r2_ fun a3_ r4_ => dSl 1 a3_ <| dCons r4_ fun a5_ r6_ => dInt .i64 a5_ fun q0 => dNil r6_ <| dBlk true tm fun b7_ m8_ => dCells b7_ fun c9_ => dCons c9_ fun a10_ r11_ => dSl 2 a10_ <| dCons r11_ fun a12_ r13_ => dSl 3 a12_ <| dCons r13_ fun a14_ r15_ => dSl 4 a14_ <| dNil r15_ <| dBlk true m8_ fun b16_ m17_ => dList .int b16_ fun q1 => dBlk true m17_ fun b18_ m19_ => dList .int b18_ fun q2 => dBlk true m19_ fun b20_ m21_ => dList .int b20_ fun q3 => dBlk true m21_ fun b22_ m23_ => dList .int b22_ fun q4 => dEnd m23_ <| K (q0, q1, q2, q3, q4)
  law := by
    intro vs tm K h
    replace h := dCons_ok h; obtain ⟨a1_, r2_, rfl, h⟩ := h
    replace h := dPtr_ok h; obtain ⟨rfl, h⟩ := h
    replace h := dCons_ok h; obtain ⟨a3_, r4_, rfl, h⟩ := h
    replace h := dSl_ok h; obtain ⟨rfl, h⟩ := h
    replace h := dCons_ok h; obtain ⟨a5_, r6_, rfl, h⟩ := h
    replace h := dInt_ok h; obtain ⟨q0, rfl, h⟩ := h
    replace h := dNil_ok h; obtain ⟨rfl, h⟩ := h
    replace h := dBlk_ok h; obtain ⟨b7_, m8_, rfl, h⟩ := h
    replace h := dCells_ok h; obtain ⟨c9_, rfl, h⟩ := h
    replace h := dCons_ok h; obtain ⟨a10_, r11_, rfl, h⟩ := h
    replace h := dSl_ok h; obtain ⟨rfl, h⟩ := h
    replace h := dCons_ok h; obtain ⟨a12_, r13_, rfl, h⟩ := h
    replace h := dSl_ok h; obtain ⟨rfl, h⟩ := h
    replace h := dCons_ok h; obtain ⟨a14_, r15_, rfl, h⟩ := h
    replace h := dSl_ok h; obtain ⟨rfl, h⟩ := h
    replace h := dNil_ok h; obtain ⟨rfl, h⟩ := h
    replace h := dBlk_ok h; obtain ⟨b16_, m17_, rfl, h⟩ := h
    replace h := dList_ok h; obtain ⟨q1, rfl, h⟩ := h
    replace h := dBlk_ok h; obtain ⟨b18_, m19_, rfl, h⟩ := h
    replace h := dList_ok h; obtain ⟨q2, rfl, h⟩ := h
    replace h := dBlk_ok h; obtain ⟨b20_, m21_, rfl, h⟩ := h
    replace h := dList_ok h; obtain ⟨q3, rfl, h⟩ := h
    replace h := dBlk_ok h; obtain ⟨b22_, m23_, rfl, h⟩ := h
    replace h := dList_ok h; obtain ⟨q4, rfl, h⟩ := h
    replace h := dEnd_ok h; obtain ⟨rfl, h⟩ := h
    exact ⟨(q0, q1, q2, q3, q4), rfl, h⟩
def H7_1000033 : LH where
  keep := [(9, .own .int), (12, .x), (13, .x)]
  S := Int × Int × List Int
  enc := fun s => ([.sl 0, .int .i64 s.1, .int .i64 s.2.1], [⟨true, .list .int s.2.2⟩])
  dec := fun vs tm K => dCons vs fun a1_ r2_ => dSl 0 a1_ <| dCons r2_ fun a3_ r4_ => dInt .i64 a3_ fun q0 => dCons r4_ fun a5_ r6_ => dInt .i64 a5_ fun q1 => dNil r6_ <| dBlk true tm fun b7_ m8_ => dList .int b7_ fun q2 => dEnd m8_ <| K (q0, q1, q2)
  law := by
    intro vs tm K h
    replace h := dCons_ok h; obtain ⟨a1_, r2_, rfl, h⟩ := h
    replace h := dSl_ok h; obtain ⟨rfl, h⟩ := h
    replace h := dCons_ok h; obtain ⟨a3_, r4_, rfl, h⟩ := h
    replace h := dInt_ok h; obtain ⟨q0, rfl, h⟩ := h
    replace h := dCons_ok h; obtain ⟨a5_, r6_, rfl, h⟩ := h
    replace h := dInt_ok h; obtain ⟨q1, rfl, h⟩ := h
    replace h := dNil_ok h; obtain ⟨rfl, h⟩ := h
    replace h := dBlk_ok h; obtain ⟨b7_, m8_, rfl, h⟩ := h
    replace h := dList_ok h; obtain ⟨q2, rfl, h⟩ := h
    replace h := dEnd_ok h; obtain ⟨rfl, h⟩ := h
    exact ⟨(q0, q1, q2), rfl, h⟩
def H7 : List (Nat × LH) := [(1000006, H7_1000006), (1000009, H7_1000009), (1000011, H7_1000011), (1000012, H7_1000012), (1000014, H7_1000014), (1000015, H7_1000015), (1000022, H7_1000022), (1000025, H7_1000025), (1000027, H7_1000027), (1000029, H7_1000029), (1000030, H7_1000030), (1000031, H7_1000031), (1000033, H7_1000033)]
def W7 : List (Nat × List (Nat × List Nat)) := []
def Γ7 : List (Nat × Con) := [(17, useC [.ag [.pure .int, .pure .int, .pure .int], .x] G17), (19, useC [.ag [.pure .int, .pure .int, .pure .int]] G19), (32, useC [.ag [.pure .int, .pure .int, .pure .int]] G32), (31, useC [.ag [.pure .int, .pure .int, .pure .int]] G31), (22, useC [.ag [.pure .int, .pure .int, .pure .int], .ag [.pure .int, .pure .int, .pure .int]] G22), (23, useC [.pure .int, .pure .int] G23), (24, useC [.ag [.own .int, .own .int, .own .int], .x] G24), (25, useC [.own .int, .x] G25), (26, useC [.ag [.pure .int, .pure .int, .pure .int], .x] G26), (36, useC [.pure .int, .x] G36)]
theorem e7 (p1 : List Int) (p2 : List Int) (p3 : List Int) (K : TV → TMem → Prop) : TW PP 133 Γ7 H7 W7 (List.length ([] : TMem)) (bodyOf Try.f7) (endT PP 133 [.tmp 2] [.bl] [] (List.length ([] : TMem)) K) (argsF [.agg [.pl .int p1, .pl .int p2, .pl .int p3]]) [] =
    Ml_FnExactCopyHeap p1 p2 p3 (fun r1 => K (.bool r1) []) := by kernel_rfl
theorem s7 : CSound PP 7 G7 := by
  intro args K c h fl A aargs hA hN R hl
  unfold G7 at h
  generalize ht : c.tm = tm at h
  replace h := dCons_ok h; obtain ⟨a1_, r2_, rfl, h⟩ := h
  replace h := dAgg_ok h; obtain ⟨l3_, rfl, h⟩ := h
  replace h := dCons_ok h; obtain ⟨a4_, r5_, rfl, h⟩ := h
  replace h := dPl_ok h; obtain ⟨p1, rfl, h⟩ := h
  replace h := dCons_ok h; obtain ⟨a6_, r7_, rfl, h⟩ := h
  replace h := dPl_ok h; obtain ⟨p2, rfl, h⟩ := h
  replace h := dCons_ok h; obtain ⟨a8_, r9_, rfl, h⟩ := h
  replace h := dPl_ok h; obtain ⟨p3, rfl, h⟩ := h
  replace h := dNil_ok h; obtain ⟨rfl, h⟩ := h
  replace h := dNil_ok h; obtain ⟨rfl, h⟩ := h
  replace h := dEnd_ok h; obtain ⟨rfl, h⟩ := h
  refine fun_ok (nt := 133) (x := bodyOf Try.f7) (Γ := Γ7) (H := H7) (WW := W7) (rs := [.tmp 2]) (shs := [.bl]) (cons := []) mixed Try.func7 (by decide) (by kernel_rfl) Try.ntmps7 Try.results7 (.cons (useC_ok s17) (.cons (useC_ok s19) (.cons (useC_ok s32) (.cons (useC_ok s31) (.cons (useC_ok s22) (.cons (useC_ok s23) (.cons (useC_ok s24) (.cons (useC_ok s25) (.cons (useC_ok s26) (.cons (useC_ok s36) (GSound.nil))))))))))) ?_ hA hN R hl
  rw [ht, e7 p1 p2 p3 K]
  exact h
end Go.Ab
