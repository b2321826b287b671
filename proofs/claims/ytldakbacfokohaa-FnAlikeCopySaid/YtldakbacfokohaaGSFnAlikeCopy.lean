/-
  What is proved here: that the typed models of functions of the translated program are sound.
-/
import Derived.Test.YtldakbacfokohaaGM
import Derived.Test.YtldakbacfokohaaProg
import Derived.KernelRfl
namespace Go.Ab
set_option linter.unusedVariables false
open Go.Proofs
noncomputable abbrev PP : Program := Try.prog
theorem mixed : PP.follows .mixedOrders = true := by kernel_rfl
/-! spec.l1Points -/
def G105 : Con := fun args tm K => dCons args fun a1_ r2_ => dInt .i64 a1_ fun p1 => dCons r2_ fun a3_ r4_ => dInt .i64 a3_ fun p2 => dNil r4_ <| dEnd tm <| Ms_l1Points p1 p2 (fun r1 => K (.bool r1) [])
def H105 : List (Nat × LH) := []
def W105 : List (Nat × List (Nat × List Nat)) := []
def Γ105 : List (Nat × Con) := []
theorem e105 (p1 : Int) (p2 : Int) (K : TV → TMem → Prop) : TW PP 12 Γ105 H105 W105 (List.length ([] : TMem)) (bodyOf Try.f105) (endT PP 12 [.tmp 4] [.bl] [] (List.length ([] : TMem)) K) (argsF [.int .i64 p1, .int .i64 p2]) [] =
    Ms_l1Points p1 p2 (fun r1 => K (.bool r1) []) := by kernel_rfl
theorem s105 : CSound PP 105 G105 := by
  intro args K c h fl A aargs hA hN R hl
  unfold G105 at h
  generalize ht : c.tm = tm at h
  replace h := dCons_ok h; obtain ⟨a1_, r2_, rfl, h⟩ := h
  replace h := dInt_ok h; obtain ⟨p1, rfl, h⟩ := h
  replace h := dCons_ok h; obtain ⟨a3_, r4_, rfl, h⟩ := h
  replace h := dInt_ok h; obtain ⟨p2, rfl, h⟩ := h
  replace h := dNil_ok h; obtain ⟨rfl, h⟩ := h
  replace h := dEnd_ok h; obtain ⟨rfl, h⟩ := h
  refine fun_ok (nt := 12) (x := bodyOf Try.f105) (Γ := Γ105) (H := H105) (WW := W105) (rs := [.tmp 4]) (shs := [.bl]) (cons := []) mixed Try.func105 (by decide) (by kernel_rfl) Try.ntmps105 Try.results105 (GSound.nil) ?_ hA hN R hl
  rw [ht, e105 p1 p2 K]
  exact h
/-! spec.HeapValid -/
def G76 : Con := fun args tm K => dCons args fun a1_ r2_ => dAgg a1_ fun l3_ => dCons l3_ fun a4_ r5_ => dPl .int a4_ fun p1 => dCons r5_ fun a6_ r7_ => dPl .int a6_ fun p2 => dCons r7_ fun a8_ r9_ => dPl .int a8_ fun p3 => dNil r9_ <| dNil r2_ <| dEnd tm <| Ms_HeapValid p1 p2 p3 (fun r1 => K (.bool r1) [])
def H76_0 : LH where
  keep := [(1, .pc [.pure .int, .pure .int, .pure .int]), (3, .x), (4, .x)]
  S := Int × Int × List Int × List Int × List Int
  enc := fun s => ([.ptr 0 0, .int .i64 s.1, .int .i64 s.2.1], [⟨true, .cells [.pl .int s.2.2.1, .pl .int s.2.2.2.1, .pl .int s.2.2.2.2]⟩])
  dec := fun vs tm K => dCons vs fun a1_ r2_ => dPtr 0 a1_ <| dCons r2_ fun a3_ r4_ => dInt .i64 a3_ fun q0 => dCons r4_ fun a5_ r6_ => dInt .i64 a5_ fun q1 => dNil r6_ <| dBlk true tm fun b7_ m8_ => dCells b7_ fun c9_ => dCons c9_ fun a10_ r11_ => dPl .int a10_ fun q2 => dCons r11_ fun a12_ r13_ => dPl .int a12_ fun q3 => dCons r13_ fun a14_ r15_ => dPl .int a14_ fun q4 => dNil r15_ <| dEnd m8_ <| K (q0, q1, q2, q3, q4)
  law := by
    intro vs tm K h
    replace h := dCons_ok h; obtain ⟨a1_, r2_, rfl, h⟩ := h
    replace h := dPtr_ok h; obtain ⟨rfl, h⟩ := h
    replace h := dCons_ok h; obtain ⟨a3_, r4_, rfl, h⟩ := h
    replace h := dInt_ok h; obtain ⟨q0, rfl, h⟩ := h
    replace h := dCons_ok h; obtain ⟨a5_, r6_, rfl, h⟩ := h
    replace h := dInt_ok h; obtain ⟨q1, rfl, h⟩ := h
    replace h := dNil_ok h; obtain ⟨rfl, h⟩ := h
    replace h := dBlk_ok h; obtain ⟨b7_, m8_, rfl, h⟩ := h
    replace h := dCells_ok h; obtain ⟨c9_, rfl, h⟩ := h
    replace h := dCons_ok h; obtain ⟨a10_, r11_, rfl, h⟩ := h
    replace h := dPl_ok h; obtain ⟨q2, rfl, h⟩ := h
    replace h := dCons_ok h; obtain ⟨a12_, r13_, rfl, h⟩ := h
    replace h := dPl_ok h; obtain ⟨q3, rfl, h⟩ := h
    replace h := dCons_ok h; obtain ⟨a14_, r15_, rfl, h⟩ := h
    replace h := dPl_ok h; obtain ⟨q4, rfl, h⟩ := h
    replace h := dNil_ok h; obtain ⟨rfl, h⟩ := h
    replace h := dEnd_ok h; obtain ⟨rfl, h⟩ := h
    exact ⟨(q0, q1, q2, q3, q4), rfl, h⟩
def H76_2 : LH where
  keep := [(1, .pc [.pure .int, .pure .int, .pure .int]), (3, .x), (5, .x)]
  S := Int × Int × List Int × List Int × List Int
  enc := fun s => ([.ptr 0 0, .int .i64 s.1, .int .i64 s.2.1], [⟨true, .cells [.pl .int s.2.2.1, .pl .int s.2.2.2.1, .pl .int s.2.2.2.2]⟩])
  dec := fun vs tm K => dCons vs fun a1_ r2_ => dPtr 0 a1_ <| dCons r2_ fun a3_ r4_ => dInt .i64 a3_ fun q0 => dCons r4_ fun a5_ r6_ => dInt .i64 a5_ fun q1 => dNil r6_ <| dBlk true tm fun b7_ m8_ => dCells b7_ fun c9_ => dCons c9_ fun a10_ r11_ => dPl .int a10_ fun q2 => dCons r11_ fun a12_ r13_ => dPl .int a12_ fun q3 => dCons r13_ fun a14_ r15_ => dPl .int a14_ fun q4 => dNil r15_ <| dEnd m8_ <| K (q0, q1, q2, q3, q4)
  law := by
    intro vs tm K h
    replace h := dCons_ok h; obtain ⟨a1_, r2_, rfl, h⟩ := h
    replace h := dPtr_ok h; obtain ⟨rfl, h⟩ := h
    replace h := dCons_ok h; obtain ⟨a3_, r4_, rfl, h⟩ := h
    replace h := dInt_ok h; obtain ⟨q0, rfl, h⟩ := h
    replace h := dCons_ok h; obtain ⟨a5_, r6_, rfl, h⟩ := h
    replace h := dInt_ok h; obtain ⟨q1, rfl, h⟩ := h
    replace h := dNil_ok h; obtain ⟨rfl, h⟩ := h
    replace h := dBlk_ok h; obtain ⟨b7_, m8_, rfl, h⟩ := h
    replace h := dCells_ok h; obtain ⟨c9_, rfl, h⟩ := h
    replace h := dCons_ok h; obtain ⟨a10_, r11_, rfl, h⟩ := h
    replace h := dPl_ok h; obtain ⟨q2, rfl, h⟩ := h
    replace h := dCons_ok h; obtain ⟨a12_, r13_, rfl, h⟩ := h
    replace h := dPl_ok h; obtain ⟨q3, rfl, h⟩ := h
    replace h := dCons_ok h; obtain ⟨a14_, r15_, rfl, h⟩ := h
    replace h := dPl_ok h; obtain ⟨q4, rfl, h⟩ := h
    replace h := dNil_ok h; obtain ⟨rfl, h⟩ := h
    replace h := dEnd_ok h; obtain ⟨rfl, h⟩ := h
    exact ⟨(q0, q1, q2, q3, q4), rfl, h⟩
def H76 : List (Nat × LH) := [(0, H76_0), (2, H76_2)]
def W76 : List (Nat × List (Nat × List Nat)) := []
def Γ76 : List (Nat × Con) := [(105, useC [.x, .x] G105)]
theorem e76 (p1 : List Int) (p2 : List Int) (p3 : List Int) (K : TV → TMem → Prop) : TW PP 72 Γ76 H76 W76 (List.length ([] : TMem)) (bodyOf Try.f76) (endT PP 72 [.tmp 2] [.bl] [] (List.length ([] : TMem)) K) (argsF [.agg [.pl .int p1, .pl .int p2, .pl .int p3]]) [] =
    Ms_HeapValid p1 p2 p3 (fun r1 => K (.bool r1) []) := by kernel_rfl
theorem s76 : CSound PP 76 G76 := by
  intro args K c h fl A aargs hA hN R hl
  unfold G76 at h
  generalize ht : c.tm = tm at h
  replace h := dCons_ok h; obtain ⟨a1_, r2_, rfl, h⟩ := h
  replace h := dAgg_ok h; obtain ⟨l3_, rfl, h⟩ := h
  replace h := dCons_ok h; obtain ⟨a4_, r5_, rfl, h⟩ := h
  replace h := dPl_ok h; obtain ⟨p1, rfl, h⟩ := h
  replace h := dCons_ok h; obtain ⟨a6_, r7_, rfl, h⟩ := h
  replace h := dPl_ok h; obtain ⟨p2, rfl, h⟩ := h
  replace h := dCons_ok h; obtain ⟨a8_, r9_, rfl, h⟩ := h
  replace h := dPl_ok h; obtain ⟨p3, rfl, h⟩ := h
  replace h := dNil_ok h; obtain ⟨rfl, h⟩ := h
  replace h := dNil_ok h; obtain ⟨rfl, h⟩ := h
  replace h := dEnd_ok h; obtain ⟨rfl, h⟩ := h
  refine fun_ok (nt := 72) (x := bodyOf Try.f76) (Γ := Γ76) (H := H76) (WW := W76) (rs := [.tmp 2]) (shs := [.bl]) (cons := []) mixed Try.func76 (by decide) (by kernel_rfl) Try.ntmps76 Try.results76 (.cons (useC_ok s105) (GSound.nil)) ?_ hA hN R hl
  rw [ht, e76 p1 p2 p3 K]
  exact h
/-! spec.l10At -/
def G102 : Con := fun args tm K => dCons args fun a1_ r2_ => dPl .int a1_ fun p1 => dCons r2_ fun a3_ r4_ => dInt .i64 a3_ fun p2 => dNil r4_ <| dEnd tm <| Ms_l10At p1 p2 (fun r1 => K (.int .i64 r1) [])
def H102_0 : LH where
  keep := [(0, .pure .int), (1, .x), (5, .x)]
  S := List Int × Int × Int
  enc := fun s => ([.pl .int s.1, .int .i64 s.2.1, .int .i64 s.2.2], [])
  dec := fun vs tm K => dCons vs fun a1_ r2_ => dPl .int a1_ fun q0 => dCons r2_ fun a3_ r4_ => dInt .i64 a3_ fun q1 => dCons r4_ fun a5_ r6_ => dInt .i64 a5_ fun q2 => dNil r6_ <| dEnd tm <| K (q0, q1, q2)
  law := by
    intro vs tm K h
    replace h := dCons_ok h; obtain ⟨a1_, r2_, rfl, h⟩ := h
    replace h := dPl_ok h; obtain ⟨q0, rfl, h⟩ := h
    replace h := dCons_ok h; obtain ⟨a3_, r4_, rfl, h⟩ := h
    replace h := dInt_ok h; obtain ⟨q1, rfl, h⟩ := h
    replace h := dCons_ok h; obtain ⟨a5_, r6_, rfl, h⟩ := h
    replace h := dInt_ok h; obtain ⟨q2, rfl, h⟩ := h
    replace h := dNil_ok h; obtain ⟨rfl, h⟩ := h
    replace h := dEnd_ok h; obtain ⟨rfl, h⟩ := h
    exact ⟨(q0, q1, q2), rfl, h⟩
def H102 : List (Nat × LH) := [(0, H102_0)]
def W102 : List (Nat × List (Nat × List Nat)) := []
def Γ102 : List (Nat × Con) := []
theorem e102 (p1 : List Int) (p2 : Int) (K : TV → TMem → Prop) : TW PP 19 Γ102 H102 W102 (List.length ([] : TMem)) (bodyOf Try.f102) (endT PP 19 [.tmp 4] [.x] [] (List.length ([] : TMem)) K) (argsF [.pl .int p1, .int .i64 p2]) [] =
    Ms_l10At p1 p2 (fun r1 => K (.int .i64 r1) []) := by kernel_rfl
theorem s102 : CSound PP 102 G102 := by
  intro args K c h fl A aargs hA hN R hl
  unfold G102 at h
  generalize ht : c.tm = tm at h
  replace h := dCons_ok h; obtain ⟨a1_, r2_, rfl, h⟩ := h
  replace h := dPl_ok h; obtain ⟨p1, rfl, h⟩ := h
  replace h := dCons_ok h; obtain ⟨a3_, r4_, rfl, h⟩ := h
  replace h := dInt_ok h; obtain ⟨p2, rfl, h⟩ := h
  replace h := dNil_ok h; obtain ⟨rfl, h⟩ := h
  replace h := dEnd_ok h; obtain ⟨rfl, h⟩ := h
  refine fun_ok (nt := 19) (x := bodyOf Try.f102) (Γ := Γ102) (H := H102) (WW := W102) (rs := [.tmp 4]) (shs := [.x]) (cons := []) mixed Try.func102 (by decide) (by kernel_rfl) Try.ntmps102 Try.results102 (GSound.nil) ?_ hA hN R hl
  rw [ht, e102 p1 p2 K]
  exact h
/-! spec.l10Cells -/
def G59 : Con := fun args tm K => dCons args fun a1_ r2_ => dAgg a1_ fun l3_ => dCons l3_ fun a4_ r5_ => dPl .int a4_ fun p1 => dCons r5_ fun a6_ r7_ => dPl .int a6_ fun p2 => dCons r7_ fun a8_ r9_ => dPl .int a8_ fun p3 => dNil r9_ <| dCons r2_ fun a10_ r11_ => dPl .int a10_ fun p4 => dNil r11_ <| dEnd tm <| Ms_l10Cells p1 p2 p3 p4 (fun r1 => K (.bool r1) [])
def H59_0 : LH where
  keep := [(1, .pure .int), (2, .pc [.pure .int, .pure .int, .pure .int]), (5, .x)]
  S := List Int × Int × List Int × List Int × List Int
  enc := fun s => ([.pl .int s.1, .ptr 0 0, .int .i64 s.2.1], [⟨true, .cells [.pl .int s.2.2.1, .pl .int s.2.2.2.1, .pl .int s.2.2.2.2]⟩])
  dec := fun vs tm K => dCons vs fun a1_ r2_ => dPl .int a1_ fun q0 => dCons r2_ fun a3_ r4_ => dPtr 0 a3_ <| dCons r4_ fun a5_ r6_ => dInt .i64 a5_ fun q1 => dNil r6_ <| dBlk true tm fun b7_ m8_ => dCells b7_ fun c9_ => dCons c9_ fun a10_ r11_ => dPl .int a10_ fun q2 => dCons r11_ fun a12_ r13_ => dPl .int a12_ fun q3 => dCons r13_ fun a14_ r15_ => dPl .int a14_ fun q4 => dNil r15_ <| dEnd m8_ <| K (q0, q1, q2, q3, q4)
  law := by
    intro vs tm K h
    replace h := dCons_ok h; obtain ⟨a1_, r2_, rfl, h⟩ := h
    replace h := dPl_ok h; obtain ⟨q0, rfl, h⟩ := h
    replace h := dCons_ok h; obtain ⟨a3_, r4_, rfl, h⟩ := h
    replace h := dPtr_ok h; obtain ⟨rfl, h⟩ := h
    replace h := dCons_ok h; obtain ⟨a5_, r6_, rfl, h⟩ := h
    replace h := dInt_ok h; obtain ⟨q1, rfl, h⟩ := h
    replace h := dNil_ok h; obtain ⟨rfl, h⟩ := h
    replace h := dBlk_ok h; obtain ⟨b7_, m8_, rfl, h⟩ := h
    replace h := dCells_ok h; obtain ⟨c9_, rfl, h⟩ := h
    replace h := dCons_ok h; obtain ⟨a10_, r11_, rfl, h⟩ := h
    replace h := dPl_ok h; obtain ⟨q2, rfl, h⟩ := h
    replace h := dCons_ok h; obtain ⟨a12_, r13_, rfl, h⟩ := h
    replace h := dPl_ok h; obtain ⟨q3, rfl, h⟩ := h
    replace h := dCons_ok h; obtain ⟨a14_, r15_, rfl, h⟩ := h
    replace h := dPl_ok h; obtain ⟨q4, rfl, h⟩ := h
    replace h := dNil_ok h; obtain ⟨rfl, h⟩ := h
    replace h := dEnd_ok h; obtain ⟨rfl, h⟩ := h
    exact ⟨(q0, q1, q2, q3, q4), rfl, h⟩
def H59 : List (Nat × LH) := [(0, H59_0)]
def W59 : List (Nat × List (Nat × List Nat)) := []
def Γ59 : List (Nat × Con) := [(76, useC [.ag [.pure .int, .pure .int, .pure .int]] G76), (102, useC [.pure .int, .x] G102)]
theorem e59 (p1 : List Int) (p2 : List Int) (p3 : List Int) (p4 : List Int) (K : TV → TMem → Prop) : TW PP 49 Γ59 H59 W59 (List.length ([] : TMem)) (bodyOf Try.f59) (endT PP 49 [.tmp 4] [.bl] [] (List.length ([] : TMem)) K) (argsF [.agg [.pl .int p1, .pl .int p2, .pl .int p3], .pl .int p4]) [] =
    Ms_l10Cells p1 p2 p3 p4 (fun r1 => K (.bool r1) []) := by kernel_rfl
theorem s59 : CSound PP 59 G59 := by
  intro args K c h fl A aargs hA hN R hl
  unfold G59 at h
  generalize ht : c.tm = tm at h
  replace h := dCons_ok h; obtain ⟨a1_, r2_, rfl, h⟩ := h
  replace h := dAgg_ok h; obtain ⟨l3_, rfl, h⟩ := h
  replace h := dCons_ok h; obtain ⟨a4_, r5_, rfl, h⟩ := h
  replace h := dPl_ok h; obtain ⟨p1, rfl, h⟩ := h
  replace h := dCons_ok h; obtain ⟨a6_, r7_, rfl, h⟩ := h
  replace h := dPl_ok h; obtain ⟨p2, rfl, h⟩ := h
  replace h := dCons_ok h; obtain ⟨a8_, r9_, rfl, h⟩ := h
  replace h := dPl_ok h; obtain ⟨p3, rfl, h⟩ := h
  replace h := dNil_ok h; obtain ⟨rfl, h⟩ := h
  replace h := dCons_ok h; obtain ⟨a10_, r11_, rfl, h⟩ := h
  replace h := dPl_ok h; obtain ⟨p4, rfl, h⟩ := h
  replace h := dNil_ok h; obtain ⟨rfl, h⟩ := h
  replace h := dEnd_ok h; obtain ⟨rfl, h⟩ := h
  refine fun_ok (nt := 49) (x := bodyOf Try.f59) (Γ := Γ59) (H := H59) (WW := W59) (rs := [.tmp 4]) (shs := [.bl]) (cons := []) mixed Try.func59 (by decide) (by kernel_rfl) Try.ntmps59 Try.results59 (.cons (useC_ok s76) (.cons (useC_ok s102) (GSound.nil))) ?_ hA hN R hl
  rw [ht, e59 p1 p2 p3 p4 K]
  exact h
/-! spec.l1Copy -/
def G60 : Con := fun args tm K => dCons args fun a1_ r2_ => dAgg a1_ fun l3_ => dCons l3_ fun a4_ r5_ => dPl .int a4_ fun p1 => dCons r5_ fun a6_ r7_ => dPl .int a6_ fun p2 => dCons r7_ fun a8_ r9_ => dPl .int a8_ fun p3 => dNil r9_ <| dNil r2_ <| dEnd tm <| Ms_l1Copy p1 p2 p3 (K (.agg [.sl 0, .sl 1, .sl 2]) [⟨true, .list .int p1⟩, ⟨true, .list .int p2⟩, ⟨true, .list .int p3⟩])
def H60 : List (Nat × LH) := []
def W60 : List (Nat × List (Nat × List Nat)) := []
def Γ60 : List (Nat × Con) := []
theorem e60 (p1 : List Int) (p2 : List Int) (p3 : List Int) (K : TV → TMem → Prop) : TW PP 16 Γ60 H60 W60 (List.length ([] : TMem)) (bodyOf Try.f60) (endT PP 16 [.cell 2 26] [.ag [.own .int, .own .int, .own .int]] [] (List.length ([] : TMem)) K) (argsF [.agg [.pl .int p1, .pl .int p2, .pl .int p3]]) [] =
    Ms_l1Copy p1 p2 p3 (K (.agg [.sl 0, .sl 1, .sl 2]) [⟨true, .list .int p1⟩, ⟨true, .list .int p2⟩, ⟨true, .list .int p3⟩]) := by kernel_rfl
theorem s60 : CSound PP 60 G60 := by
  intro args K c h fl A aargs hA hN R hl
  unfold G60 at h
  generalize ht : c.tm = tm at h
  replace h := dCons_ok h; obtain ⟨a1_, r2_, rfl, h⟩ := h
  replace h := dAgg_ok h; obtain ⟨l3_, rfl, h⟩ := h
  replace h := dCons_ok h; obtain ⟨a4_, r5_, rfl, h⟩ := h
  replace h := dPl_ok h; obtain ⟨p1, rfl, h⟩ := h
  replace h := dCons_ok h; obtain ⟨a6_, r7_, rfl, h⟩ := h
  replace h := dPl_ok h; obtain ⟨p2, rfl, h⟩ := h
  replace h := dCons_ok h; obtain ⟨a8_, r9_, rfl, h⟩ := h
  replace h := dPl_ok h; obtain ⟨p3, rfl, h⟩ := h
  replace h := dNil_ok h; obtain ⟨rfl, h⟩ := h
  replace h := dNil_ok h; obtain ⟨rfl, h⟩ := h
  replace h := dEnd_ok h; obtain ⟨rfl, h⟩ := h
  refine fun_ok (nt := 16) (x := bodyOf Try.f60) (Γ := Γ60) (H := H60) (WW := W60) (rs := [.cell 2 26]) (shs := [.ag [.own .int, .own .int, .own .int]]) (cons := []) mixed Try.func60 (by decide) (by kernel_rfl) Try.ntmps60 Try.results60 (GSound.nil) ?_ hA hN R hl
  rw [ht, e60 p1 p2 p3 K]
  exact h
/-! spec.MoveCells -/
def G18 : Con := fun args tm K => dCons args fun a1_ r2_ => dAgg a1_ fun l3_ => dCons l3_ fun a4_ r5_ => dPl .int a4_ fun p1 => dCons r5_ fun a6_ r7_ => dPl .int a6_ fun p2 => dCons r7_ fun a8_ r9_ => dPl .int a8_ fun p3 => dNil r9_ <| dCons r2_ fun a10_ r11_ => dPl .int a10_ fun p4 => dNil r11_ <| dEnd tm <| Ms_MoveCells p1 p2 p3 p4 (fun r1 r2 r3 r4 => K (.tup [.agg [.sl 0, .sl 1, .sl 2], .bool r1]) [⟨true, .list .int r2⟩, ⟨true, .list .int r3⟩, ⟨true, .list .int r4⟩])
def H18_0 : LH where
  keep := [(1, .pure .int), (2, .pc [.pure .int, .pure .int, .pure .int]), (4, .pc [.own .int, .own .int, .own .int]), (6, .pc [.own .int, .own .int, .own .int]), (7, .x)]
  S := List Int × Int × List Int × List Int × List Int × List Int × List Int × List Int × List Int × List Int × List Int
  enc := fun s => ([.pl .int s.1, .ptr 0 0, .ptr 1 0, .ptr 2 0, .int .i64 s.2.1], [⟨true, .cells [.pl .int s.2.2.1, .pl .int s.2.2.2.1, .pl .int s.2.2.2.2.1]⟩, ⟨true, .cells [.sl 3, .sl 4, .sl 5]⟩, ⟨true, .cells [.sl 6, .sl 7, .sl 8]⟩, ⟨true, .list .int s.2.2.2.2.2.1⟩, ⟨true, .list .int s.2.2.2.2.2.2.1⟩, ⟨true, .list .int s.2.2.2.2.2.2.2.1⟩, ⟨true, .list .int s.2.2.2.2.2.2.2.2.1⟩, ⟨true, .list .int s.2.2.2.2.2.2.2.2.2.1⟩, ⟨true, .list .int s.2.2.2.2.2.2.2.2.2.2⟩])
  dec := fun vs tm K => dCons vs fun a1_ r2_ => dPl .int a1_ fun q0 => dCons r2_ fun a3_ r4_ => dPtr 0 a3_ <| dCons r4_ fun a5_ r6_ => dPtr 1 a5_ <| dCons r6_ fun a7_ r8_ => dPtr 2 a7_ <| dCons r8_ fun a9_ r10_ => dInt .i64 a9_ fun q1 => dNil r10_ <| dBlk true tm fun b11_ m12_ => dCells b11_ fun c13_ => dCons c13_ fun a14_ r15_ => dPl .int a14_ fun q2 => dCons r15_ fun a16_ r17_ => dPl .int a16_ fun q3 => dCons r17_ fun a18_ r19_ => dPl .int a18_ fun q4 => dNil r19_ <| dBlk true m12_ fun b20_ m21_ => dCells b20_ fun c22_ => dCons c22_ fun a23_ r24_ => dSl 3 a23_ <| dCons r24_ fun a25_ r26_ => dSl 4 a25_ <| dCons r26_ fun a27_ r28_ => dSl 5 a27_ <| dNil r28_ <| dBlk true m21_ fun b29_ m30_ => dCells b29_ fun c31_ => dCons c31_ fun a32_ r33_ => dSl 6 a32_ <| dCons r33_ fun a34_ r35_ => dSl 7 a34_ <| dCons r35_ fun a36_ r37_ => dSl 8 a36_ <| dNil r37_ <| dBlk true m30_ fun b38_ m39_ => dList .int b38_ fun q5 => dBlk true m39_ fun b40_ m41_ => dList .int b40_ fun q6 => dBlk true m41_ fun b42_ m43_ => dList .int b42_ fun q7 => dBlk true m43_ fun b44_ m45_ => dList .int b44_ fun q8 => dBlk true m45_ fun b46_ m47_ => dList .int b46_ fun q9 => dBlk true m47_ fun b48_ m49_ => dList .int b48_ fun q10 => dEnd m49_ <| K (q0, q1, q2, q3, q4, q5, q6, q7, q8, q9, q10)
  law := by
    intro vs tm K h
    replace h := dCons_ok h; obtain ⟨a1_, r2_, rfl, h⟩ := h
    replace h := dPl_ok h; obtain ⟨q0, rfl, h⟩ := h
    replace h := dCons_ok h; obtain ⟨a3_, r4_, rfl, h⟩ := h
    replace h := dPtr_ok h; obtain ⟨rfl, h⟩ := h
    replace h := dCons_ok h; obtain ⟨a5_, r6_, rfl, h⟩ := h
    replace h := dPtr_ok h; obtain ⟨rfl, h⟩ := h
    replace h := dCons_ok h; obtain ⟨a7_, r8_, rfl, h⟩ := h
    replace h := dPtr_ok h; obtain ⟨rfl, h⟩ := h
    replace h := dCons_ok h; obtain ⟨a9_, r10_, rfl, h⟩ := h
    replace h := dInt_ok h; obtain ⟨q1, rfl, h⟩ := h
    replace h := dNil_ok h; obtain ⟨rfl, h⟩ := h
    replace h := dBlk_ok h; obtain ⟨b11_, m12_, rfl, h⟩ := h
    replace h := dCells_ok h; obtain ⟨c13_, rfl, h⟩ := h
    replace h := dCons_ok h; obtain ⟨a14_, r15_, rfl, h⟩ := h
    replace h := dPl_ok h; obtain ⟨q2, rfl, h⟩ := h
    replace h := dCons_ok h; obtain ⟨a16_, r17_, rfl, h⟩ := h
    replace h := dPl_ok h; obtain ⟨q3, rfl, h⟩ := h
    replace h := dCons_ok h; obtain ⟨a18_, r19_, rfl, h⟩ := h
    replace h := dPl_ok h; obtain ⟨q4, rfl, h⟩ := h
    replace h := dNil_ok h; obtain ⟨rfl, h⟩ := h
    replace h := dBlk_ok h; obtain ⟨b20_, m21_, rfl, h⟩ := h
    replace h := dCells_ok h; obtain ⟨c22_, rfl, h⟩ := h
    replace h := dCons_ok h; obtain ⟨a23_, r24_, rfl, h⟩ := h
    replace h := dSl_ok h; obtain ⟨rfl, h⟩ := h
    replace h := dCons_ok h; obtain ⟨a25_, r26_, rfl, h⟩ := h
    replace h := dSl_ok h; obtain ⟨rfl, h⟩ := h
    replace h := dCons_ok h; obtain ⟨a27_, r28_, rfl, h⟩ := h
    replace h := dSl_ok h; obtain ⟨rfl, h⟩ := h
    replace h := dNil_ok h; obtain ⟨rfl, h⟩ := h
    replace h := dBlk_ok h; obtain ⟨b29_, m30_, rfl, h⟩ := h
    replace h := dCells_ok h; obtain ⟨c31_, rfl, h⟩ := h
    replace h := dCons_ok h; obtain ⟨a32_, r33_, rfl, h⟩ := h
    replace h := dSl_ok h; obtain ⟨rfl, h⟩ := h
    replace h := dCons_ok h; obtain ⟨a34_, r35_, rfl, h⟩ := h
    replace h := dSl_ok h; obtain ⟨rfl, h⟩ := h
    replace h := dCons_ok h; obtain ⟨a36_, r37_, rfl, h⟩ := h
    replace h := dSl_ok h; obtain ⟨rfl, h⟩ := h
    replace h := dNil_ok h; obtain ⟨rfl, h⟩ := h
    replace h := dBlk_ok h; obtain ⟨b38_, m39_, rfl, h⟩ := h
    replace h := dList_ok h; obtain ⟨q5, rfl, h⟩ := h
    replace h := dBlk_ok h; obtain ⟨b40_, m41_, rfl, h⟩ := h
    replace h := dList_ok h; obtain ⟨q6, rfl, h⟩ := h
    replace h := dBlk_ok h; obtain ⟨b42_, m43_, rfl, h⟩ := h
    replace h := dList_ok h; obtain ⟨q7, rfl, h⟩ := h
    replace h := dBlk_ok h; obtain ⟨b44_, m45_, rfl, h⟩ := h
    replace h := dList_ok h; obtain ⟨q8, rfl, h⟩ := h
    replace h := dBlk_ok h; obtain ⟨b46_, m47_, rfl, h⟩ := h
    replace h := dList_ok h; obtain ⟨q9, rfl, h⟩ := h
    replace h := dBlk_ok h; obtain ⟨b48_, m49_, rfl, h⟩ := h
    replace h := dList_ok h; obtain ⟨q10, rfl, h⟩ := h
    replace h := dEnd_ok h; obtain ⟨rfl, h⟩ := h
    exact ⟨(q0, q1, q2, q3, q4, q5, q6, q7, q8, q9, q10), rfl, h⟩
def H18_2 : LH where
  keep := [(1, .pure .int), (2, .pc [.pure .int, .pure .int, .pure .int]), (4, .pc [.own .int, .own .int, .own .int]), (6, .pc [.own .int, .own .int, .own .int]), (8, .x)]
  S := List Int × Int × List Int × List Int × List Int × List Int × List Int × List Int × List Int × List Int × List Int
  enc := fun s => ([.pl .int s.1, .ptr 0 0, .ptr 1 0, .ptr 2 0, .int .i64 s.2.1], [⟨true, .cells [.pl .int s.2.2.1, .pl .int s.2.2.2.1, .pl .int s.2.2.2.2.1]⟩, ⟨true, .cells [.sl 3, .sl 4, .sl 5]⟩, ⟨true, .cells [.sl 6, .sl 7, .sl 8]⟩, ⟨true, .list .int s.2.2.2.2.2.1⟩, ⟨true, .list .int s.2.2.2.2.2.2.1⟩, ⟨true, .list .int s.2.2.2.2.2.2.2.1⟩, ⟨true, .list .int s.2.2.2.2.2.2.2.2.1⟩, ⟨true, .list .int s.2.2.2.2.2.2.2.2.2.1⟩, ⟨true, .list .int s.2.2.2.2.2.2.2.2.2.2⟩])
  dec := fun vs tm K => dCons vs fun a1_ r2_ => dPl .int a1_ fun q0 => dCons r2_ fun a3_ r4_ => dPtr 0 a3_ <| dCons r4_ fun a5_ r6_ => dPtr 1 a5_ <| dCons r6_ fun a7_ r8_ => dPtr 2 a7_ <| dCons r8_ fun a9_ r10_ => dInt .i64 a9_ fun q1 => dNil r10_ <| dBlk true tm fun b11_ m12_ => dCells b11_ fun c13_ => dCons c13_ fun a14_ r15_ => dPl .int a14_ fun q2 => dCons r15_ fun a16_ r17_ => dPl .int a16_ fun q3 => dCons r17_ fun a18_ r19_ => dPl .int a18_ fun q4 => dNil r19_ <| dBlk true m12_ fun b20_ m21_ => dCells b20_ fun c22_ => dCons c22_ fun a23_ r24_ => dSl 3 a23_ <| dCons r24_ fun a25_ r26_ => dSl 4 a25_ <| dCons r26_ fun a27_ r28_ => dSl 5 a27_ <| dNil r28_ <| dBlk true m21_ fun b29_ m30_ => dCells b29_ fun c31_ => dCons c31_ fun a32_ r33_ => dSl 6 a32_ <| dCons r33_ fun a34_ r35_ => dSl 7 a34_ <| dCons r35_ fun a36_ r37_ => dSl 8 a36_ <| dNil r37_ <| dBlk true m30_ fun b38_ m39_ => dList .int b38_ fun q5 => dBlk true m39_ fun b40_ m41_ => dList .int b40_ fun q6 => dBlk true m41_ fun b42_ m43_ => dList .int b42_ fun q7 => dBlk true m43_ fun b44_ m45_ => dList .int b44_ fun q8 => dBlk true m45_ fun b46_ m47_ => dList .int b46_ fun q9 => dBlk true m47_ fun b48_ m49_ => dList .int b48_ fun q10 => dEnd m49_ <| K (q0, q1, q2, q3, q4, q5, q6, q7, q8, q9, q10)
  law := by
    intro vs tm K h
    replace h := dCons_ok h; obtain ⟨a1_, r2_, rfl, h⟩ := h
    replace h := dPl_ok h; obtain ⟨q0, rfl, h⟩ := h
    replace h := dCons_ok h; obtain ⟨a3_, r4_, rfl, h⟩ := h
    replace h := dPtr_ok h; obtain ⟨rfl, h⟩ := h
    replace h := dCons_ok h; obtain ⟨a5_, r6_, rfl, h⟩ := h
    replace h := dPtr_ok h; obtain ⟨rfl, h⟩ := h
    replace h := dCons_ok h; obtain ⟨a7_, r8_, rfl, h⟩ := h
    replace h := dPtr_ok h; obtain ⟨rfl, h⟩ := h
    replace h := dCons_ok h; obtain ⟨a9_, r10_, rfl, h⟩ := h
    replace h := dInt_ok h; obtain ⟨q1, rfl, h⟩ := h
    replace h := dNil_ok h; obtain ⟨rfl, h⟩ := h
    replace h := dBlk_ok h; obtain ⟨b11_, m12_, rfl, h⟩ := h
    replace h := dCells_ok h; obtain ⟨c13_, rfl, h⟩ := h
    replace h := dCons_ok h; obtain ⟨a14_, r15_, rfl, h⟩ := h
    replace h := dPl_ok h; obtain ⟨q2, rfl, h⟩ := h
    replace h := dCons_ok h; obtain ⟨a16_, r17_, rfl, h⟩ := h
    replace h := dPl_ok h; obtain ⟨q3, rfl, h⟩ := h
    replace h := dCons_ok h; obtain ⟨a18_, r19_, rfl, h⟩ := h
    replace h := dPl_ok h; obtain ⟨q4, rfl, h⟩ := h
    replace h := dNil_ok h; obtain ⟨rfl, h⟩ := h
    replace h := dBlk_ok h; obtain ⟨b20_, m21_, rfl, h⟩ := h
    replace h := dCells_ok h; obtain ⟨c22_, rfl, h⟩ := h
    replace h := dCons_ok h; obtain ⟨a23_, r24_, rfl, h⟩ := h
    replace h := dSl_ok h; obtain ⟨rfl, h⟩ := h
    replace h := dCons_ok h; obtain ⟨a25_, r26_, rfl, h⟩ := h
    replace h := dSl_ok h; obtain ⟨rfl, h⟩ := h
    replace h := dCons_ok h; obtain ⟨a27_, r28_, rfl, h⟩ := h
    replace h := dSl_ok h; obtain ⟨rfl, h⟩ := h
    replace h := dNil_ok h; obtain ⟨rfl, h⟩ := h
    replace h := dBlk_ok h; obtain ⟨b29_, m30_, rfl, h⟩ := h
    replace h := dCells_ok h; obtain ⟨c31_, rfl, h⟩ := h
    replace h := dCons_ok h; obtain ⟨a32_, r33_, rfl, h⟩ := h
    replace h := dSl_ok h; obtain ⟨rfl, h⟩ := h
    replace h := dCons_ok h; obtain ⟨a34_, r35_, rfl, h⟩ := h
    replace h := dSl_ok h; obtain ⟨rfl, h⟩ := h
    replace h := dCons_ok h; obtain ⟨a36_, r37_, rfl, h⟩ := h
    replace h := dSl_ok h; obtain ⟨rfl, h⟩ := h
    replace h := dNil_ok h; obtain ⟨rfl, h⟩ := h
    replace h := dBlk_ok h; obtain ⟨b38_, m39_, rfl, h⟩ := h
    replace h := dList_ok h; obtain ⟨q5, rfl, h⟩ := h
    replace h := dBlk_ok h; obtain ⟨b40_, m41_, rfl, h⟩ := h
    replace h := dList_ok h; obtain ⟨q6, rfl, h⟩ := h
    replace h := dBlk_ok h; obtain ⟨b42_, m43_, rfl, h⟩ := h
    replace h := dList_ok h; obtain ⟨q7, rfl, h⟩ := h
    replace h := dBlk_ok h; obtain ⟨b44_, m45_, rfl, h⟩ := h
    replace h := dList_ok h; obtain ⟨q8, rfl, h⟩ := h
    replace h := dBlk_ok h; obtain ⟨b46_, m47_, rfl, h⟩ := h
    replace h := dList_ok h; obtain ⟨q9, rfl, h⟩ := h
    replace h := dBlk_ok h; obtain ⟨b48_, m49_, rfl, h⟩ := h
    replace h := dList_ok h; obtain ⟨q10, rfl, h⟩ := h
    replace h := dEnd_ok h; obtain ⟨rfl, h⟩ := h
    exact ⟨(q0, q1, q2, q3, q4, q5, q6, q7, q8, q9, q10), rfl, h⟩
def H18_1000018 : LH where
  keep := [(4, .pc [.own .int, .own .int, .own .int]), (6, .pc [.own .int, .own .int, .own .int])]
  S := List Int × List Int × List Int × List Int × List Int × List Int
  enc := fun s => ([.ptr 0 0, .ptr 1 0], [⟨true, .cells [.sl 2, .sl 3, .sl 4]⟩, ⟨true, .cells [.sl 5, .sl 6, .sl 7]⟩, ⟨true, .list .int s.1⟩, ⟨true, .list .int s.2.1⟩, ⟨true, .list .int s.2.2.1⟩, ⟨true, .list .int s.2.2.2.1⟩, ⟨true, .list .int s.2.2.2.2.1⟩, ⟨true, .list .int s.2.2.2.2.2⟩])
  dec := fun vs tm K => dCons vs fun a1_ r2_ => dPtr 0 a1_ <| dCons r2_ fun a3_ r4_ => dPtr 1 a3_ <| dNil r4_ <| dBlk true tm fun b5_ m6_ => dCells b5_ fun c7_ => dCons c7_ fun a8_ r9_ => dSl 2 a8_ <| dCons r9_ fun a10_ r11_ => dSl 3 a10_ <| dCons r11_ fun a12_ r13_ => dSl 4 a12_ <| dNil r13_ <| dBlk true m6_ fun b14_ m15_ => dCells b14_ fun c16_ => dCons c16_ fun a17_ r18_ => dSl 5 a17_ <| dCons r18_ fun a19_ r20_ => dSl 6 a19_ <| dCons r20_ fun a21_ r22_ => dSl 7 a21_ <| dNil r22_ <| dBlk true m15_ fun b23_ m24_ => dList .int b23_ fun q0 => dBlk true m24_ fun b25_ m26_ => dList .int b25_ fun q1 => dBlk true m26_ fun b27_ m28_ => dList .int b27_ fun q2 => dBlk true m28_ fun b29_ m30_ => dList .int b29_ fun q3 => dBlk true m30_ fun b31_ m32_ => dList .int b31_ fun q4 => dBlk true m32_ fun b33_ m34_ => dList .int b33_ fun q5 => dEnd m34_ <| K (q0, q1, q2, q3, q4, q5)
  law := by
    intro vs tm K h
    replace h := dCons_ok h; obtain ⟨a1_, r2_, rfl, h⟩ := h
    replace h := dPtr_ok h; obtain ⟨rfl, h⟩ := h
    replace h := dCons_ok h; obtain ⟨a3_, r4_, rfl, h⟩ := h
    replace h := dPtr_ok h; obtain ⟨rfl, h⟩ := h
    replace h := dNil_ok h; obtain ⟨rfl, h⟩ := h
    replace h := dBlk_ok h; obtain ⟨b5_, m6_, rfl, h⟩ := h
    replace h := dCells_ok h; obtain ⟨c7_, rfl, h⟩ := h
    replace h := dCons_ok h; obtain ⟨a8_, r9_, rfl, h⟩ := h
    replace h := dSl_ok h; obtain ⟨rfl, h⟩ := h
    replace h := dCons_ok h; obtain ⟨a10_, r11_, rfl, h⟩ := h
    replace h := dSl_ok h; obtain ⟨rfl, h⟩ := h
    replace h := dCons_ok h; obtain ⟨a12_, r13_, rfl, h⟩ := h
    replace h := dSl_ok h; obtain ⟨rfl, h⟩ := h
    replace h := dNil_ok h; obtain ⟨rfl, h⟩ := h
    replace h := dBlk_ok h; obtain ⟨b14_, m15_, rfl, h⟩ := h
    replace h := dCells_ok h; obtain ⟨c16_, rfl, h⟩ := h
    replace h := dCons_ok h; obtain ⟨a17_, r18_, rfl, h⟩ := h
    replace h := dSl_ok h; obtain ⟨rfl, h⟩ := h
    replace h := dCons_ok h; obtain ⟨a19_, r20_, rfl, h⟩ := h
    replace h := dSl_ok h; obtain ⟨rfl, h⟩ := h
    replace h := dCons_ok h; obtain ⟨a21_, r22_, rfl, h⟩ := h
    replace h := dSl_ok h; obtain ⟨rfl, h⟩ := h
    replace h := dNil_ok h; obtain ⟨rfl, h⟩ := h
    replace h := dBlk_ok h; obtain ⟨b23_, m24_, rfl, h⟩ := h
    replace h := dList_ok h; obtain ⟨q0, rfl, h⟩ := h
    replace h := dBlk_ok h; obtain ⟨b25_, m26_, rfl, h⟩ := h
    replace h := dList_ok h; obtain ⟨q1, rfl, h⟩ := h
    replace h := dBlk_ok h; obtain ⟨b27_, m28_, rfl, h⟩ := h
    replace h := dList_ok h; obtain ⟨q2, rfl, h⟩ := h
    replace h := dBlk_ok h; obtain ⟨b29_, m30_, rfl, h⟩ := h
    replace h := dList_ok h; obtain ⟨q3, rfl, h⟩ := h
    replace h := dBlk_ok h; obtain ⟨b31_, m32_, rfl, h⟩ := h
    replace h := dList_ok h; obtain ⟨q4, rfl, h⟩ := h
    replace h := dBlk_ok h; obtain ⟨b33_, m34_, rfl, h⟩ := h
    replace h := dList_ok h; obtain ⟨q5, rfl, h⟩ := h
    replace h := dEnd_ok h; obtain ⟨rfl, h⟩ := h
    exact ⟨(q0, q1, q2, q3, q4, q5), rfl, h⟩
def H18 : List (Nat × LH) := [(0, H18_0), (2, H18_2), (1000018, H18_1000018)]
def W18 : List (Nat × List (Nat × List Nat)) := []
def Γ18 : List (Nat × Con) := [(59, useC [.ag [.pure .int, .pure .int, .pure .int], .pure .int] G59), (60, useC [.ag [.pure .int, .pure .int, .pure .int]] G60)]
theorem e18 (p1 : List Int) (p2 : List Int) (p3 : List Int) (p4 : List Int) (K : TV → TMem → Prop) : TW PP 112 Γ18 H18 W18 (List.length ([] : TMem)) (bodyOf Try.f18) (endT PP 112 [.cell 4 26, .tmp 5] [.ag [.own .int, .own .int, .own .int], .bl] [] (List.length ([] : TMem)) K) (argsF [.agg [.pl .int p1, .pl .int p2, .pl .int p3], .pl .int p4]) [] =
    Ms_MoveCells p1 p2 p3 p4 (fun r1 r2 r3 r4 => K (.tup [.agg [.sl 0, .sl 1, .sl 2], .bool r1]) [⟨true, .list .int r2⟩, ⟨true, .list .int r3⟩, ⟨true, .list .int r4⟩]) := by kernel_rfl
theorem s18 : CSound PP 18 G18 := by
  intro args K c h fl A aargs hA hN R hl
  unfold G18 at h
  generalize ht : c.tm = tm at h
  replace h := dCons_ok h; obtain ⟨a1_, r2_, rfl, h⟩ := h
  replace h := dAgg_ok h; obtain ⟨l3_, rfl, h⟩ := h
  replace h := dCons_ok h; obtain ⟨a4_, r5_, rfl, h⟩ := h
  replace h := dPl_ok h; obtain ⟨p1, rfl, h⟩ := h
  replace h := dCons_ok h; obtain ⟨a6_, r7_, rfl, h⟩ := h
  replace h := dPl_ok h; obtain ⟨p2, rfl, h⟩ := h
  replace h := dCons_ok h; obtain ⟨a8_, r9_, rfl, h⟩ := h
  replace h := dPl_ok h; obtain ⟨p3, rfl, h⟩ := h
  replace h := dNil_ok h; obtain ⟨rfl, h⟩ := h
  replace h := dCons_ok h; obtain ⟨a10_, r11_, rfl, h⟩ := h
  replace h := dPl_ok h; obtain ⟨p4, rfl, h⟩ := h
  replace h := dNil_ok h; obtain ⟨rfl, h⟩ := h
  replace h := dEnd_ok h; obtain ⟨rfl, h⟩ := h
  refine fun_ok (nt := 112) (x := bodyOf Try.f18) (Γ := Γ18) (H := H18) (WW := W18) (rs := [.cell 4 26, .tmp 5]) (shs := [.ag [.own .int, .own .int, .own .int], .bl]) (cons := []) mixed Try.func18 (by decide) (by kernel_rfl) Try.ntmps18 Try.results18 (.cons (useC_ok s59) (.cons (useC_ok s60) (GSound.nil))) ?_ hA hN R hl
  rw [ht, e18 p1 p2 p3 p4 K]
  exact h
/-! impl.HeapValid -/
def G40 : Con := fun args tm K => dCons args fun a1_ r2_ => dAgg a1_ fun l3_ => dCons l3_ fun a4_ r5_ => dPl .int a4_ fun p1 => dCons r5_ fun a6_ r7_ => dPl .int a6_ fun p2 => dCons r7_ fun a8_ r9_ => dPl .int a8_ fun p3 => dNil r9_ <| dNil r2_ <| dEnd tm <| Mi_HeapValid p1 p2 p3 (fun r1 => K (.bool r1) [])
def H40_0 : LH where
  keep := [(1, .pc [.pure .int, .pure .int, .pure .int]), (44, .own .ints), (45, .x), (46, .x)]
  S := Int × Int × List Int × List Int × List Int × List (List Int)
  enc := fun s => ([.ptr 0 0, .sl 1, .int .i64 s.1, .int .i64 s.2.1], [⟨true, .cells [.pl .int s.2.2.1, .pl .int s.2.2.2.1, .pl .int s.2.2.2.2.1]⟩, ⟨true, .list .ints s.2.2.2.2.2⟩])
  dec := fun vs tm K => dCons vs fun a1_ r2_ => dPtr 0 a1_ <| dCons r2_ fun a3_ r4_ => dSl 1 a3_ <| dCons r4_ fun a5_ r6_ => dInt .i64 a5_ fun q0 => dCons r6_ fun a7_ r8_ => dInt .i64 a7_ fun q1 => dNil r8_ <| dBlk true tm fun b9_ m10_ => dCells b9_ fun c11_ => dCons c11_ fun a12_ r13_ => dPl .int a12_ fun q2 => dCons r13_ fun a14_ r15_ => dPl .int a14_ fun q3 => dCons r15_ fun a16_ r17_ => dPl .int a16_ fun q4 => dNil r17_ <| dBlk true m10_ fun b18_ m19_ => dList .ints b18_ fun q5 => dEnd m19_ <| K (q0, q1, q2, q3, q4, q5)
  law := by
    intro vs tm K h
    replace h := dCons_ok h; obtain ⟨a1_, r2_, rfl, h⟩ := h
    replace h := dPtr_ok h; obtain ⟨rfl, h⟩ := h
    replace h := dCons_ok h; obtain ⟨a3_, r4_, rfl, h⟩ := h
    replace h := dSl_ok h; obtain ⟨rfl, h⟩ := h
    replace h := dCons_ok h; obtain ⟨a5_, r6_, rfl, h⟩ := h
    replace h := dInt_ok h; obtain ⟨q0, rfl, h⟩ := h
    replace h := dCons_ok h; obtain ⟨a7_, r8_, rfl, h⟩ := h
    replace h := dInt_ok h; obtain ⟨q1, rfl, h⟩ := h
    replace h := dNil_ok h; obtain ⟨rfl, h⟩ := h
    replace h := dBlk_ok h; obtain ⟨b9_, m10_, rfl, h⟩ := h
    replace h := dCells_ok h; obtain ⟨c11_, rfl, h⟩ := h
    replace h := dCons_ok h; obtain ⟨a12_, r13_, rfl, h⟩ := h
    replace h := dPl_ok h; obtain ⟨q2, rfl, h⟩ := h
    replace h := dCons_ok h; obtain ⟨a14_, r15_, rfl, h⟩ := h
    replace h := dPl_ok h; obtain ⟨q3, rfl, h⟩ := h
    replace h := dCons_ok h; obtain ⟨a16_, r17_, rfl, h⟩ := h
    replace h := dPl_ok h; obtain ⟨q4, rfl, h⟩ := h
    replace h := dNil_ok h; obtain ⟨rfl, h⟩ := h
    replace h := dBlk_ok h; obtain ⟨b18_, m19_, rfl, h⟩ := h
    replace h := dList_ok h; obtain ⟨q5, rfl, h⟩ := h
    replace h := dEnd_ok h; obtain ⟨rfl, h⟩ := h
    exact ⟨(q0, q1, q2, q3, q4, q5), rfl, h⟩
def H40_2 : LH where
  keep := [(1, .pc [.pure .int, .pure .int, .pure .int]), (44, .own .ints), (45, .x), (46, .x), (50, .pure .int), (51, .x), (52, .x)]
  S := Int × Int × List Int × Int × Int × List Int × List Int × List Int × List (List Int)
  enc := fun s => ([.ptr 0 0, .sl 1, .int .i64 s.1, .int .i64 s.2.1, .pl .int s.2.2.1, .int .i64 s.2.2.2.1, .int .i64 s.2.2.2.2.1], [⟨true, .cells [.pl .int s.2.2.2.2.2.1, .pl .int s.2.2.2.2.2.2.1, .pl .int s.2.2.2.2.2.2.2.1]⟩, ⟨true, .list .ints s.2.2.2.2.2.2.2.2⟩])
  dec := fun vs tm K => dCons vs fun a1_ r2_ => dPtr 0 a1_ <| dCons r2_ fun a3_ r4_ => dSl 1 a3_ <| dCons r4_ fun a5_ r6_ => dInt .i64 a5_ fun q0 => dCons r6_ fun a7_ r8_ => dInt .i64 a7_ fun q1 => dCons r8_ fun a9_ r10_ => dPl .int a9_ fun q2 => dCons r10_ fun a11_ r12_ => dInt .i64 a11_ fun q3 => dCons r12_ fun a13_ r14_ => dInt .i64 a13_ fun q4 => dNil r14_ <| dBlk true tm fun b15_ m16_ => dCells b15_ fun c17_ => dCons c17_ fun a18_ r19_ => dPl .int a18_ fun q5 => dCons r19_ fun a20_ r21_ => dPl .int a20_ fun q6 => dCons r21_ fun a22_ r23_ => dPl .int a22_ fun q7 => dNil r23_ <| dBlk true m16_ fun b24_ m25_ => dList .ints b24_ fun q8 => dEnd m25_ <| K (q0, q1, q2, q3, q4, q5, q6, q7, q8)
  law := by
    intro vs tm K h
    replace h := dCons_ok h; obtain ⟨a1_, r2_, rfl, h⟩ := h
    replace h := dPtr_ok h; obtain ⟨rfl, h⟩ := h
    replace h := dCons_ok h; obtain ⟨a3_, r4_, rfl, h⟩ := h
    replace h := dSl_ok h; obtain ⟨rfl, h⟩ := h
    replace h := dCons_ok h; obtain ⟨a5_, r6_, rfl, h⟩ := h
    replace h := dInt_ok h; obtain ⟨q0, rfl, h⟩ := h
    replace h := dCons_ok h; obtain ⟨a7_, r8_, rfl, h⟩ := h
    replace h := dInt_ok h; obtain ⟨q1, rfl, h⟩ := h
    replace h := dCons_ok h; obtain ⟨a9_, r10_, rfl, h⟩ := h
    replace h := dPl_ok h; obtain ⟨q2, rfl, h⟩ := h
    replace h := dCons_ok h; obtain ⟨a11_, r12_, rfl, h⟩ := h
    replace h := dInt_ok h; obtain ⟨q3, rfl, h⟩ := h
    replace h := dCons_ok h; obtain ⟨a13_, r14_, rfl, h⟩ := h
    replace h := dInt_ok h; obtain ⟨q4, rfl, h⟩ := h
    replace h := dNil_ok h; obtain ⟨rfl, h⟩ := h
    replace h := dBlk_ok h; obtain ⟨b15_, m16_, rfl, h⟩ := h
    replace h := dCells_ok h; obtain ⟨c17_, rfl, h⟩ := h
    replace h := dCons_ok h; obtain ⟨a18_, r19_, rfl, h⟩ := h
    replace h := dPl_ok h; obtain ⟨q5, rfl, h⟩ := h
    replace h := dCons_ok h; obtain ⟨a20_, r21_, rfl, h⟩ := h
    replace h := dPl_ok h; obtain ⟨q6, rfl, h⟩ := h
    replace h := dCons_ok h; obtain ⟨a22_, r23_, rfl, h⟩ := h
    replace h := dPl_ok h; obtain ⟨q7, rfl, h⟩ := h
    replace h := dNil_ok h; obtain ⟨rfl, h⟩ := h
    replace h := dBlk_ok h; obtain ⟨b24_, m25_, rfl, h⟩ := h
    replace h := dList_ok h; obtain ⟨q8, rfl, h⟩ := h
    replace h := dEnd_ok h; obtain ⟨rfl, h⟩ := h
    exact ⟨(q0, q1, q2, q3, q4, q5, q6, q7, q8), rfl, h⟩
def H40_1000013 : LH where
  keep := []
  S := Unit
  enc := fun s => ([], [])
  dec := fun vs tm K => dNil vs <| dEnd tm <| K ()
  law := by
    intro vs tm K h
    replace h := dNil_ok h; obtain ⟨rfl, h⟩ := h
    replace h := dEnd_ok h; obtain ⟨rfl, h⟩ := h
    exact ⟨(), rfl, h⟩
def H40 : List (Nat × LH) := [(0, H40_0), (2, H40_2), (1000013, H40_1000013)]
def W40 : List (Nat × List (Nat × List Nat)) := []
def Γ40 : List (Nat × Con) := []
theorem e40 (p1 : List Int) (p2 : List Int) (p3 : List Int) (K : TV → TMem → Prop) : TW PP 67 Γ40 H40 W40 (List.length ([] : TMem)) (bodyOf Try.f40) (endT PP 67 [.tmp 2] [.bl] [] (List.length ([] : TMem)) K) (argsF [.agg [.pl .int p1, .pl .int p2, .pl .int p3]]) [] =
    Mi_HeapValid p1 p2 p3 (fun r1 => K (.bool r1) []) := by kernel_rfl
theorem s40 : CSound PP 40 G40 := by
  intro args K c h fl A aargs hA hN R hl
  unfold G40 at h
  generalize ht : c.tm = tm at h
  replace h := dCons_ok h; obtain ⟨a1_, r2_, rfl, h⟩ := h
  replace h := dAgg_ok h; obtain ⟨l3_, rfl, h⟩ := h
  replace h := dCons_ok h; obtain ⟨a4_, r5_, rfl, h⟩ := h
  replace h := dPl_ok h; obtain ⟨p1, rfl, h⟩ := h
  replace h := dCons_ok h; obtain ⟨a6_, r7_, rfl, h⟩ := h
  replace h := dPl_ok h; obtain ⟨p2, rfl, h⟩ := h
  replace h := dCons_ok h; obtain ⟨a8_, r9_, rfl, h⟩ := h
  replace h := dPl_ok h; obtain ⟨p3, rfl, h⟩ := h
  replace h := dNil_ok h; obtain ⟨rfl, h⟩ := h
  replace h := dNil_ok h; obtain ⟨rfl, h⟩ := h
  replace h := dEnd_ok h; obtain ⟨rfl, h⟩ := h
  refine fun_ok (nt := 67) (x := bodyOf Try.f40) (Γ := Γ40) (H := H40) (WW := W40) (rs := [.tmp 2]) (shs := [.bl]) (cons := []) mixed Try.func40 (by decide) (by kernel_rfl) Try.ntmps40 Try.results40 (GSound.nil) ?_ hA hN R hl
  rw [ht, e40 p1 p2 p3 K]
  exact h
/-! slices.Index[[]int,int] -/
def G75 : Con := fun args tm K => dCons args fun a1_ r2_ => dPl .int a1_ fun p1 => dCons r2_ fun a3_ r4_ => dInt .i64 a3_ fun p2 => dNil r4_ <| dEnd tm <| M_Index_int p1 p2 (fun r1 => K (.int .i64 r1) [])
def H75_0 : LH where
  keep := [(0, .pure .int), (1, .x), (7, .x), (8, .x)]
  S := List Int × Int × Int × Int
  enc := fun s => ([.pl .int s.1, .int .i64 s.2.1, .int .i64 s.2.2.1, .int .i64 s.2.2.2], [])
  dec := fun vs tm K => dCons vs fun a1_ r2_ => dPl .int a1_ fun q0 => dCons r2_ fun a3_ r4_ => dInt .i64 a3_ fun q1 => dCons r4_ fun a5_ r6_ => dInt .i64 a5_ fun q2 => dCons r6_ fun a7_ r8_ => dInt .i64 a7_ fun q3 => dNil r8_ <| dEnd tm <| K (q0, q1, q2, q3)
  law := by
    intro vs tm K h
    replace h := dCons_ok h; obtain ⟨a1_, r2_, rfl, h⟩ := h
    replace h := dPl_ok h; obtain ⟨q0, rfl, h⟩ := h
    replace h := dCons_ok h; obtain ⟨a3_, r4_, rfl, h⟩ := h
    replace h := dInt_ok h; obtain ⟨q1, rfl, h⟩ := h
    replace h := dCons_ok h; obtain ⟨a5_, r6_, rfl, h⟩ := h
    replace h := dInt_ok h; obtain ⟨q2, rfl, h⟩ := h
    replace h := dCons_ok h; obtain ⟨a7_, r8_, rfl, h⟩ := h
    replace h := dInt_ok h; obtain ⟨q3, rfl, h⟩ := h
    replace h := dNil_ok h; obtain ⟨rfl, h⟩ := h
    replace h := dEnd_ok h; obtain ⟨rfl, h⟩ := h
    exact ⟨(q0, q1, q2, q3), rfl, h⟩
def H75 : List (Nat × LH) := [(0, H75_0)]
def W75 : List (Nat × List (Nat × List Nat)) := []
def Γ75 : List (Nat × Con) := []
theorem e75 (p1 : List Int) (p2 : Int) (K : TV → TMem → Prop) : TW PP 19 Γ75 H75 W75 (List.length ([] : TMem)) (bodyOf Try.f75) (endT PP 19 [.tmp 4] [.x] [] (List.length ([] : TMem)) K) (argsF [.pl .int p1, .int .i64 p2]) [] =
    M_Index_int p1 p2 (fun r1 => K (.int .i64 r1) []) := by kernel_rfl
theorem s75 : CSound PP 75 G75 := by
  intro args K c h fl A aargs hA hN R hl
  unfold G75 at h
  generalize ht : c.tm = tm at h
  replace h := dCons_ok h; obtain ⟨a1_, r2_, rfl, h⟩ := h
  replace h := dPl_ok h; obtain ⟨p1, rfl, h⟩ := h
  replace h := dCons_ok h; obtain ⟨a3_, r4_, rfl, h⟩ := h
  replace h := dInt_ok h; obtain ⟨p2, rfl, h⟩ := h
  replace h := dNil_ok h; obtain ⟨rfl, h⟩ := h
  replace h := dEnd_ok h; obtain ⟨rfl, h⟩ := h
  refine fun_ok (nt := 19) (x := bodyOf Try.f75) (Γ := Γ75) (H := H75) (WW := W75) (rs := [.tmp 4]) (shs := [.x]) (cons := []) mixed Try.func75 (by decide) (by kernel_rfl) Try.ntmps75 Try.results75 (GSound.nil) ?_ hA hN R hl
  rw [ht, e75 p1 p2 K]
  exact h
/-! slices.Contains[[]int,int] -/
def G62 : Con := fun args tm K => dCons args fun a1_ r2_ => dPl .int a1_ fun p1 => dCons r2_ fun a3_ r4_ => dInt .i64 a3_ fun p2 => dNil r4_ <| dEnd tm <| M_Contains_int p1 p2 (fun r1 => K (.bool r1) [])
def H62 : List (Nat × LH) := []
def W62 : List (Nat × List (Nat × List Nat)) := []
def Γ62 : List (Nat × Con) := [(75, useC [.pure .int, .x] G75)]
theorem e62 (p1 : List Int) (p2 : Int) (K : TV → TMem → Prop) : TW PP 9 Γ62 H62 W62 (List.length ([] : TMem)) (bodyOf Try.f62) (endT PP 9 [.tmp 4] [.bl] [] (List.length ([] : TMem)) K) (argsF [.pl .int p1, .int .i64 p2]) [] =
    M_Contains_int p1 p2 (fun r1 => K (.bool r1) []) := by kernel_rfl
theorem s62 : CSound PP 62 G62 := by
  intro args K c h fl A aargs hA hN R hl
  unfold G62 at h
  generalize ht : c.tm = tm at h
  replace h := dCons_ok h; obtain ⟨a1_, r2_, rfl, h⟩ := h
  replace h := dPl_ok h; obtain ⟨p1, rfl, h⟩ := h
  replace h := dCons_ok h; obtain ⟨a3_, r4_, rfl, h⟩ := h
  replace h := dInt_ok h; obtain ⟨p2, rfl, h⟩ := h
  replace h := dNil_ok h; obtain ⟨rfl, h⟩ := h
  replace h := dEnd_ok h; obtain ⟨rfl, h⟩ := h
  refine fun_ok (nt := 9) (x := bodyOf Try.f62) (Γ := Γ62) (H := H62) (WW := W62) (rs := [.tmp 4]) (shs := [.bl]) (cons := []) mixed Try.func62 (by decide) (by kernel_rfl) Try.ntmps62 Try.results62 (.cons (useC_ok s75) (GSound.nil)) ?_ hA hN R hl
  rw [ht, e62 p1 p2 K]
  exact h
/-! math/bits.Mul64 -/
def G128 : Con := fun args tm K => dCons args fun a1_ r2_ => dInt .u64 a1_ fun p1 => dCons r2_ fun a3_ r4_ => dInt .u64 a3_ fun p2 => dNil r4_ <| dEnd tm <| M_math_bits_Mul64 p1 p2 (fun r1 r2 => K (.tup [.int .u64 r1, .int .u64 r2]) [])
def H128 : List (Nat × LH) := []
def W128 : List (Nat × List (Nat × List Nat)) := []
def Γ128 : List (Nat × Con) := []
theorem e128 (p1 : Int) (p2 : Int) (K : TV → TMem → Prop) : TW PP 51 Γ128 H128 W128 (List.length ([] : TMem)) (bodyOf Try.f128) (endT PP 51 [.tmp 4, .tmp 5] [.x, .x] [] (List.length ([] : TMem)) K) (argsF [.int .u64 p1, .int .u64 p2]) [] =
    M_math_bits_Mul64 p1 p2 (fun r1 r2 => K (.tup [.int .u64 r1, .int .u64 r2]) []) := by kernel_rfl
theorem s128 : CSound PP 128 G128 := by
  intro args K c h fl A aargs hA hN R hl
  unfold G128 at h
  generalize ht : c.tm = tm at h
  replace h := dCons_ok h; obtain ⟨a1_, r2_, rfl, h⟩ := h
  replace h := dInt_ok h; obtain ⟨p1, rfl, h⟩ := h
  replace h := dCons_ok h; obtain ⟨a3_, r4_, rfl, h⟩ := h
  replace h := dInt_ok h; obtain ⟨p2, rfl, h⟩ := h
  replace h := dNil_ok h; obtain ⟨rfl, h⟩ := h
  replace h := dEnd_ok h; obtain ⟨rfl, h⟩ := h
  refine fun_ok (nt := 51) (x := bodyOf Try.f128) (Γ := Γ128) (H := H128) (WW := W128) (rs := [.tmp 4, .tmp 5]) (shs := [.x, .x]) (cons := []) mixed Try.func128 (by decide) (by kernel_rfl) Try.ntmps128 Try.results128 (GSound.nil) ?_ hA hN R hl
  rw [ht, e128 p1 p2 K]
  exact h
/-! math/bits.Mul -/
def G121 : Con := fun args tm K => dCons args fun a1_ r2_ => dInt .u64 a1_ fun p1 => dCons r2_ fun a3_ r4_ => dInt .u64 a3_ fun p2 => dNil r4_ <| dEnd tm <| M_math_bits_Mul p1 p2 (fun r1 r2 => K (.tup [.int .u64 r1, .int .u64 r2]) [])
def H121 : List (Nat × LH) := []
def W121 : List (Nat × List (Nat × List Nat)) := []
def Γ121 : List (Nat × Con) := [(128, useC [.x, .x] G128)]
theorem e121 (p1 : Int) (p2 : Int) (K : TV → TMem → Prop) : TW PP 30 Γ121 H121 W121 (List.length ([] : TMem)) (bodyOf Try.f121) (endT PP 30 [.tmp 4, .tmp 5] [.x, .x] [] (List.length ([] : TMem)) K) (argsF [.int .u64 p1, .int .u64 p2]) [] =
    M_math_bits_Mul p1 p2 (fun r1 r2 => K (.tup [.int .u64 r1, .int .u64 r2]) []) := by kernel_rfl
theorem s121 : CSound PP 121 G121 := by
  intro args K c h fl A aargs hA hN R hl
  unfold G121 at h
  generalize ht : c.tm = tm at h
  replace h := dCons_ok h; obtain ⟨a1_, r2_, rfl, h⟩ := h
  replace h := dInt_ok h; obtain ⟨p1, rfl, h⟩ := h
  replace h := dCons_ok h; obtain ⟨a3_, r4_, rfl, h⟩ := h
  replace h := dInt_ok h; obtain ⟨p2, rfl, h⟩ := h
  replace h := dNil_ok h; obtain ⟨rfl, h⟩ := h
  replace h := dEnd_ok h; obtain ⟨rfl, h⟩ := h
  refine fun_ok (nt := 30) (x := bodyOf Try.f121) (Γ := Γ121) (H := H121) (WW := W121) (rs := [.tmp 4, .tmp 5]) (shs := [.x, .x]) (cons := []) mixed Try.func121 (by decide) (by kernel_rfl) Try.ntmps121 Try.results121 (.cons (useC_ok s128) (GSound.nil)) ?_ hA hN R hl
  rw [ht, e121 p1 p2 K]
  exact h
/-! slices.Repeat[[]int,int] -/
def G103 : Con := fun args tm K => dCons args fun a1_ r2_ => dPl .int a1_ fun p1 => dCons r2_ fun a3_ r4_ => dInt .i64 a3_ fun p2 => dNil r4_ <| dEnd tm <| M_Repeat_int p1 p2 (fun r1 => K (.sl 0) [⟨true, .list .int r1⟩])
def H103_0 : LH where
  keep := [(7, .own .int), (8, .x)]
  S := Int × List Int
  enc := fun s => ([.sl 0, .int .i64 s.1], [⟨true, .list .int s.2⟩])
  dec := fun vs tm K => dCons vs fun a1_ r2_ => dSl 0 a1_ <| dCons r2_ fun a3_ r4_ => dInt .i64 a3_ fun q0 => dNil r4_ <| dBlk true tm fun b5_ m6_ => dList .int b5_ fun q1 => dEnd m6_ <| K (q0, q1)
  law := by
    intro vs tm K h
    replace h := dCons_ok h; obtain ⟨a1_, r2_, rfl, h⟩ := h
    replace h := dSl_ok h; obtain ⟨rfl, h⟩ := h
    replace h := dCons_ok h; obtain ⟨a3_, r4_, rfl, h⟩ := h
    replace h := dInt_ok h; obtain ⟨q0, rfl, h⟩ := h
    replace h := dNil_ok h; obtain ⟨rfl, h⟩ := h
    replace h := dBlk_ok h; obtain ⟨b5_, m6_, rfl, h⟩ := h
    replace h := dList_ok h; obtain ⟨q1, rfl, h⟩ := h
    replace h := dEnd_ok h; obtain ⟨rfl, h⟩ := h
    exact ⟨(q0, q1), rfl, h⟩
def H103 : List (Nat × LH) := [(0, H103_0)]
def W103 : List (Nat × List (Nat × List Nat)) := [(2000009, [(0, [3, 6])])]
def Γ103 : List (Nat × Con) := [(121, useC [.x, .x] G121)]
theorem e103 (p1 : List Int) (p2 : Int) (K : TV → TMem → Prop) : TW PP 48 Γ103 H103 W103 (List.length ([] : TMem)) (bodyOf Try.f103) (endT PP 48 [.tmp 4] [.own .int] [] (List.length ([] : TMem)) K) (argsF [.pl .int p1, .int .i64 p2]) [] =
    M_Repeat_int p1 p2 (fun r1 => K (.sl 0) [⟨true, .list .int r1⟩]) := by kernel_rfl
theorem s103 : CSound PP 103 G103 := by
  intro args K c h fl A aargs hA hN R hl
  unfold G103 at h
  generalize ht : c.tm = tm at h
  replace h := dCons_ok h; obtain ⟨a1_, r2_, rfl, h⟩ := h
  replace h := dPl_ok h; obtain ⟨p1, rfl, h⟩ := h
  replace h := dCons_ok h; obtain ⟨a3_, r4_, rfl, h⟩ := h
  replace h := dInt_ok h; obtain ⟨p2, rfl, h⟩ := h
  replace h := dNil_ok h; obtain ⟨rfl, h⟩ := h
  replace h := dEnd_ok h; obtain ⟨rfl, h⟩ := h
  refine fun_ok (nt := 48) (x := bodyOf Try.f103) (Γ := Γ103) (H := H103) (WW := W103) (rs := [.tmp 4]) (shs := [.own .int]) (cons := []) mixed Try.func103 (by decide) (by kernel_rfl) Try.ntmps103 Try.results103 (.cons (useC_ok s121) (GSound.nil)) ?_ hA hN R hl
  rw [ht, e103 p1 p2 K]
  exact h
/-! impl.NewHeap -/
def G63 : Con := fun args tm K => dCons args fun a1_ r2_ => dInt .i64 a1_ fun p1 => dCons r2_ fun a3_ r4_ => dInt .i64 a3_ fun p2 => dNil r4_ <| dEnd tm <| Mi_NewHeap p1 p2 (fun r1 r2 r3 r4 => K (.tup [.agg [.sl 0, .sl 1, .sl 2], .bool r1]) [⟨true, .list .int r2⟩, ⟨true, .list .int r3⟩, ⟨true, .list .int r4⟩])
def H63 : List (Nat × LH) := []
def W63 : List (Nat × List (Nat × List Nat)) := []
def Γ63 : List (Nat × Con) := [(103, useC [.pure .int, .x] G103)]
theorem e63 (p1 : Int) (p2 : Int) (K : TV → TMem → Prop) : TW PP 31 Γ63 H63 W63 (List.length ([] : TMem)) (bodyOf Try.f63) (endT PP 31 [.cell 4 26, .tmp 5] [.ag [.own .int, .own .int, .own .int], .bl] [] (List.length ([] : TMem)) K) (argsF [.int .i64 p1, .int .i64 p2]) [] =
    Mi_NewHeap p1 p2 (fun r1 r2 r3 r4 => K (.tup [.agg [.sl 0, .sl 1, .sl 2], .bool r1]) [⟨true, .list .int r2⟩, ⟨true, .list .int r3⟩, ⟨true, .list .int r4⟩]) := by kernel_rfl
theorem s63 : CSound PP 63 G63 := by
  intro args K c h fl A aargs hA hN R hl
  unfold G63 at h
  generalize ht : c.tm = tm at h
  replace h := dCons_ok h; obtain ⟨a1_, r2_, rfl, h⟩ := h
  replace h := dInt_ok h; obtain ⟨p1, rfl, h⟩ := h
  replace h := dCons_ok h; obtain ⟨a3_, r4_, rfl, h⟩ := h
  replace h := dInt_ok h; obtain ⟨p2, rfl, h⟩ := h
  replace h := dNil_ok h; obtain ⟨rfl, h⟩ := h
  replace h := dEnd_ok h; obtain ⟨rfl, h⟩ := h
  refine fun_ok (nt := 31) (x := bodyOf Try.f63) (Γ := Γ63) (H := H63) (WW := W63) (rs := [.cell 4 26, .tmp 5]) (shs := [.ag [.own .int, .own .int, .own .int], .bl]) (cons := []) mixed Try.func63 (by decide) (by kernel_rfl) Try.ntmps63 Try.results63 (.cons (useC_ok s103) (GSound.nil)) ?_ hA hN R hl
  rw [ht, e63 p1 p2 K]
  exact h
/-! spec.l13Open -/
def G65 : Con := fun args tm K => dCons args fun a1_ r2_ => dPl .byte a1_ fun p1 => dNil r2_ <| dEnd tm <| Ms_l13Open p1 (fun r1 r2 => K (.ptr 0 0) [⟨true, .cells [.pl .byte r1, .int .i64 r2]⟩])
def H65 : List (Nat × LH) := []
def W65 : List (Nat × List (Nat × List Nat)) := []
def Γ65 : List (Nat × Con) := []
theorem e65 (p1 : List Int) (K : TV → TMem → Prop) : TW PP 11 Γ65 H65 W65 (List.length ([] : TMem)) (bodyOf Try.f65) (endT PP 11 [.tmp 2] [.pc [.pure .byte, .x]] [] (List.length ([] : TMem)) K) (argsF [.pl .byte p1]) [] =
    Ms_l13Open p1 (fun r1 r2 => K (.ptr 0 0) [⟨true, .cells [.pl .byte r1, .int .i64 r2]⟩]) := by kernel_rfl
theorem s65 : CSound PP 65 G65 := by
  intro args K c h fl A aargs hA hN R hl
  unfold G65 at h
  generalize ht : c.tm = tm at h
  replace h := dCons_ok h; obtain ⟨a1_, r2_, rfl, h⟩ := h
  replace h := dPl_ok h; obtain ⟨p1, rfl, h⟩ := h
  replace h := dNil_ok h; obtain ⟨rfl, h⟩ := h
  replace h := dEnd_ok h; obtain ⟨rfl, h⟩ := h
  refine fun_ok (nt := 11) (x := bodyOf Try.f65) (Γ := Γ65) (H := H65) (WW := W65) (rs := [.tmp 2]) (shs := [.pc [.pure .byte, .x]]) (cons := []) mixed Try.func65 (by decide) (by kernel_rfl) Try.ntmps65 Try.results65 (GSound.nil) ?_ hA hN R hl
  rw [ht, e65 p1 K]
  exact h
/-! (*spec.l13Rd).pick -/
def G68 : Con := fun args tm K => dCons args fun a1_ r2_ => dPtr 0 a1_ <| dCons r2_ fun a3_ r4_ => dInt .i64 a3_ fun p1 => dNil r4_ <| dBlk true tm fun b5_ m6_ => dCells b5_ fun c7_ => dCons c7_ fun a8_ r9_ => dPl .byte a8_ fun p2 => dCons r9_ fun a10_ r11_ => dInt .i64 a10_ fun p3 => dNil r11_ <| dEnd m6_ <| Ms_l13Rd_pick p1 p2 p3 (fun r1 r2 => K (.int .i64 r1) [⟨true, .cells [.pl .byte p2, .int .i64 r2]⟩])
def H68 : List (Nat × LH) := []
def W68 : List (Nat × List (Nat × List Nat)) := []
def Γ68 : List (Nat × Con) := []
theorem e68 (p1 : Int) (p2 : List Int) (p3 : Int) (K : TV → TMem → Prop) : TW PP 99 Γ68 H68 W68 (List.length ([⟨true, .cells [.pl .byte p2, .int .i64 p3]⟩] : TMem)) (bodyOf Try.f68) (endT PP 99 [.tmp 4] [.x] [] (List.length ([⟨true, .cells [.pl .byte p2, .int .i64 p3]⟩] : TMem)) K) (argsF [.ptr 0 0, .int .i64 p1]) [⟨true, .cells [.pl .byte p2, .int .i64 p3]⟩] =
    Ms_l13Rd_pick p1 p2 p3 (fun r1 r2 => K (.int .i64 r1) [⟨true, .cells [.pl .byte p2, .int .i64 r2]⟩]) := by kernel_rfl
theorem s68 : CSound PP 68 G68 := by
  intro args K c h fl A aargs hA hN R hl
  unfold G68 at h
  generalize ht : c.tm = tm at h
  replace h := dCons_ok h; obtain ⟨a1_, r2_, rfl, h⟩ := h
  replace h := dPtr_ok h; obtain ⟨rfl, h⟩ := h
  replace h := dCons_ok h; obtain ⟨a3_, r4_, rfl, h⟩ := h
  replace h := dInt_ok h; obtain ⟨p1, rfl, h⟩ := h
  replace h := dNil_ok h; obtain ⟨rfl, h⟩ := h
  replace h := dBlk_ok h; obtain ⟨b5_, m6_, rfl, h⟩ := h
  replace h := dCells_ok h; obtain ⟨c7_, rfl, h⟩ := h
  replace h := dCons_ok h; obtain ⟨a8_, r9_, rfl, h⟩ := h
  replace h := dPl_ok h; obtain ⟨p2, rfl, h⟩ := h
  replace h := dCons_ok h; obtain ⟨a10_, r11_, rfl, h⟩ := h
  replace h := dInt_ok h; obtain ⟨p3, rfl, h⟩ := h
  replace h := dNil_ok h; obtain ⟨rfl, h⟩ := h
  replace h := dEnd_ok h; obtain ⟨rfl, h⟩ := h
  refine fun_ok (nt := 99) (x := bodyOf Try.f68) (Γ := Γ68) (H := H68) (WW := W68) (rs := [.tmp 4]) (shs := [.x]) (cons := []) mixed Try.func68 (by decide) (by kernel_rfl) Try.ntmps68 Try.results68 (GSound.nil) ?_ hA hN R hl
  rw [ht, e68 p1 p2 p3 K]
  exact h
/-! (*spec.l13Rd).num -/
def G69 : Con := fun args tm K => dCons args fun a1_ r2_ => dPtr 0 a1_ <| dCons r2_ fun a3_ r4_ => dPl .int a3_ fun p1 => dNil r4_ <| dBlk true tm fun b5_ m6_ => dCells b5_ fun c7_ => dCons c7_ fun a8_ r9_ => dPl .byte a8_ fun p2 => dCons r9_ fun a10_ r11_ => dInt .i64 a10_ fun p3 => dNil r11_ <| dEnd m6_ <| Ms_l13Rd_num p1 p2 p3 (fun r1 r2 => K (.int .i64 r1) [⟨true, .cells [.pl .byte p2, .int .i64 r2]⟩])
def H69 : List (Nat × LH) := []
def W69 : List (Nat × List (Nat × List Nat)) := []
def Γ69 : List (Nat × Con) := [(68, useC [.pc [.pure .byte, .x], .x] G68)]
theorem e69 (p1 : List Int) (p2 : List Int) (p3 : Int) (K : TV → TMem → Prop) : TW PP 12 Γ69 H69 W69 (List.length ([⟨true, .cells [.pl .byte p2, .int .i64 p3]⟩] : TMem)) (bodyOf Try.f69) (endT PP 12 [.tmp 4] [.x] [] (List.length ([⟨true, .cells [.pl .byte p2, .int .i64 p3]⟩] : TMem)) K) (argsF [.ptr 0 0, .pl .int p1]) [⟨true, .cells [.pl .byte p2, .int .i64 p3]⟩] =
    Ms_l13Rd_num p1 p2 p3 (fun r1 r2 => K (.int .i64 r1) [⟨true, .cells [.pl .byte p2, .int .i64 r2]⟩]) := by kernel_rfl
theorem s69 : CSound PP 69 G69 := by
  intro args K c h fl A aargs hA hN R hl
  unfold G69 at h
  generalize ht : c.tm = tm at h
  replace h := dCons_ok h; obtain ⟨a1_, r2_, rfl, h⟩ := h
  replace h := dPtr_ok h; obtain ⟨rfl, h⟩ := h
  replace h := dCons_ok h; obtain ⟨a3_, r4_, rfl, h⟩ := h
  replace h := dPl_ok h; obtain ⟨p1, rfl, h⟩ := h
  replace h := dNil_ok h; obtain ⟨rfl, h⟩ := h
  replace h := dBlk_ok h; obtain ⟨b5_, m6_, rfl, h⟩ := h
  replace h := dCells_ok h; obtain ⟨c7_, rfl, h⟩ := h
  replace h := dCons_ok h; obtain ⟨a8_, r9_, rfl, h⟩ := h
  replace h := dPl_ok h; obtain ⟨p2, rfl, h⟩ := h
  replace h := dCons_ok h; obtain ⟨a10_, r11_, rfl, h⟩ := h
  replace h := dInt_ok h; obtain ⟨p3, rfl, h⟩ := h
  replace h := dNil_ok h; obtain ⟨rfl, h⟩ := h
  replace h := dEnd_ok h; obtain ⟨rfl, h⟩ := h
  refine fun_ok (nt := 12) (x := bodyOf Try.f69) (Γ := Γ69) (H := H69) (WW := W69) (rs := [.tmp 4]) (shs := [.x]) (cons := []) mixed Try.func69 (by decide) (by kernel_rfl) Try.ntmps69 Try.results69 (.cons (useC_ok s68) (GSound.nil)) ?_ hA hN R hl
  rw [ht, e69 p1 p2 p3 K]
  exact h
/-! spec.l1Many -/
def G78 : Con := fun args tm K => dCons args fun a1_ r2_ => dInt .i64 a1_ fun p1 => dNil r2_ <| dEnd tm <| Ms_l1Many p1 (fun r1 => K (.sl 0) [⟨true, .list .int r1⟩])
def H78_0 : LH where
  keep := [(0, .x), (3, .own .int), (4, .x)]
  S := Int × Int × List Int
  enc := fun s => ([.int .i64 s.1, .sl 0, .int .i64 s.2.1], [⟨true, .list .int s.2.2⟩])
  dec := fun vs tm K => dCons vs fun a1_ r2_ => dInt .i64 a1_ fun q0 => dCons r2_ fun a3_ r4_ => dSl 0 a3_ <| dCons r4_ fun a5_ r6_ => dInt .i64 a5_ fun q1 => dNil r6_ <| dBlk true tm fun b7_ m8_ => dList .int b7_ fun q2 => dEnd m8_ <| K (q0, q1, q2)
  law := by
    intro vs tm K h
    replace h := dCons_ok h; obtain ⟨a1_, r2_, rfl, h⟩ := h
    replace h := dInt_ok h; obtain ⟨q0, rfl, h⟩ := h
    replace h := dCons_ok h; obtain ⟨a3_, r4_, rfl, h⟩ := h
    replace h := dSl_ok h; obtain ⟨rfl, h⟩ := h
    replace h := dCons_ok h; obtain ⟨a5_, r6_, rfl, h⟩ := h
    replace h := dInt_ok h; obtain ⟨q1, rfl, h⟩ := h
    replace h := dNil_ok h; obtain ⟨rfl, h⟩ := h
    replace h := dBlk_ok h; obtain ⟨b7_, m8_, rfl, h⟩ := h
    replace h := dList_ok h; obtain ⟨q2, rfl, h⟩ := h
    replace h := dEnd_ok h; obtain ⟨rfl, h⟩ := h
    exact ⟨(q0, q1, q2), rfl, h⟩
def H78 : List (Nat × LH) := [(0, H78_0)]
def W78 : List (Nat × List (Nat × List Nat)) := []
def Γ78 : List (Nat × Con) := []
theorem e78 (p1 : Int) (K : TV → TMem → Prop) : TW PP 15 Γ78 H78 W78 (List.length ([] : TMem)) (bodyOf Try.f78) (endT PP 15 [.tmp 2] [.own .int] [] (List.length ([] : TMem)) K) (argsF [.int .i64 p1]) [] =
    Ms_l1Many p1 (fun r1 => K (.sl 0) [⟨true, .list .int r1⟩]) := by kernel_rfl
theorem s78 : CSound PP 78 G78 := by
  intro args K c h fl A aargs hA hN R hl
  unfold G78 at h
  generalize ht : c.tm = tm at h
  replace h := dCons_ok h; obtain ⟨a1_, r2_, rfl, h⟩ := h
  replace h := dInt_ok h; obtain ⟨p1, rfl, h⟩ := h
  replace h := dNil_ok h; obtain ⟨rfl, h⟩ := h
  replace h := dEnd_ok h; obtain ⟨rfl, h⟩ := h
  refine fun_ok (nt := 15) (x := bodyOf Try.f78) (Γ := Γ78) (H := H78) (WW := W78) (rs := [.tmp 2]) (shs := [.own .int]) (cons := []) mixed Try.func78 (by decide) (by kernel_rfl) Try.ntmps78 Try.results78 (GSound.nil) ?_ hA hN R hl
  rw [ht, e78 p1 K]
  exact h
/-! spec.NewHeap -/
def G104 : Con := fun args tm K => dCons args fun a1_ r2_ => dInt .i64 a1_ fun p1 => dCons r2_ fun a3_ r4_ => dInt .i64 a3_ fun p2 => dNil r4_ <| dEnd tm <| Ms_NewHeap p1 p2 (fun r1 r2 r3 r4 => K (.tup [.agg [.sl 0, .sl 1, .sl 2], .bool r1]) [⟨true, .list .int r2⟩, ⟨true, .list .int r3⟩, ⟨true, .list .int r4⟩])
def H104 : List (Nat × LH) := []
def W104 : List (Nat × List (Nat × List Nat)) := []
def Γ104 : List (Nat × Con) := [(78, useC [.x] G78)]
theorem e104 (p1 : Int) (p2 : Int) (K : TV → TMem → Prop) : TW PP 28 Γ104 H104 W104 (List.length ([] : TMem)) (bodyOf Try.f104) (endT PP 28 [.cell 4 26, .tmp 5] [.ag [.own .int, .own .int, .own .int], .bl] [] (List.length ([] : TMem)) K) (argsF [.int .i64 p1, .int .i64 p2]) [] =
    Ms_NewHeap p1 p2 (fun r1 r2 r3 r4 => K (.tup [.agg [.sl 0, .sl 1, .sl 2], .bool r1]) [⟨true, .list .int r2⟩, ⟨true, .list .int r3⟩, ⟨true, .list .int r4⟩]) := by kernel_rfl
theorem s104 : CSound PP 104 G104 := by
  intro args K c h fl A aargs hA hN R hl
  unfold G104 at h
  generalize ht : c.tm = tm at h
  replace h := dCons_ok h; obtain ⟨a1_, r2_, rfl, h⟩ := h
  replace h := dInt_ok h; obtain ⟨p1, rfl, h⟩ := h
  replace h := dCons_ok h; obtain ⟨a3_, r4_, rfl, h⟩ := h
  replace h := dInt_ok h; obtain ⟨p2, rfl, h⟩ := h
  replace h := dNil_ok h; obtain ⟨rfl, h⟩ := h
  replace h := dEnd_ok h; obtain ⟨rfl, h⟩ := h
  refine fun_ok (nt := 28) (x := bodyOf Try.f104) (Γ := Γ104) (H := H104) (WW := W104) (rs := [.cell 4 26, .tmp 5]) (shs := [.ag [.own .int, .own .int, .own .int], .bl]) (cons := []) mixed Try.func104 (by decide) (by kernel_rfl) Try.ntmps104 Try.results104 (.cons (useC_ok s78) (GSound.nil)) ?_ hA hN R hl
  rw [ht, e104 p1 p2 K]
  exact h
/-! spec.l1Draw -/
def G66 : Con := fun args tm K => dCons args fun a1_ r2_ => dPtr 0 a1_ <| dNil r2_ <| dBlk true tm fun b3_ m4_ => dCells b3_ fun c5_ => dCons c5_ fun a6_ r7_ => dPl .byte a6_ fun p1 => dCons r7_ fun a8_ r9_ => dInt .i64 a8_ fun p2 => dNil r9_ <| dEnd m4_ <| Ms_l1Draw p1 p2 (fun r1 r2 r3 r4 r5 => K (.agg [.sl 1, .sl 2, .sl 3]) [⟨true, .cells [.pl .byte r1, .int .i64 r2]⟩, ⟨true, .list .int r3⟩, ⟨true, .list .int r4⟩, ⟨true, .list .int r5⟩])
def H66_0 : LH where
  keep := [(0, .pc [.pure .byte, .x]), (2, .pc [.own .int, .own .int, .own .int]), (3, .x), (4, .pc [.own .int, .own .int, .own .int]), (6, .x)]
  S := Int × Int × List Int × Int × List Int × List Int × List Int × List Int × List Int × List Int
  enc := fun s => ([.ptr 0 0, .ptr 1 0, .int .i64 s.1, .ptr 2 0, .int .i64 s.2.1], [⟨true, .cells [.pl .byte s.2.2.1, .int .i64 s.2.2.2.1]⟩, ⟨true, .cells [.sl 3, .sl 4, .sl 5]⟩, ⟨true, .cells [.sl 6, .sl 7, .sl 8]⟩, ⟨true, .list .int s.2.2.2.2.1⟩, ⟨true, .list .int s.2.2.2.2.2.1⟩, ⟨true, .list .int s.2.2.2.2.2.2.1⟩, ⟨true, .list .int s.2.2.2.2.2.2.2.1⟩, ⟨true, .list .int s.2.2.2.2.2.2.2.2.1⟩, ⟨true, .list .int s.2.2.2.2.2.2.2.2.2⟩])
  dec := fun vs tm K => dCons vs fun a1_ r2_ => dPtr 0 a1_ <| dCons r2_ fun a3_ r4_ => dPtr 1 a3_ <| dCons r4_ fun a5_ r6_ => dInt .i64 a5_ fun q0 => dCons r6_ fun a7_ r8_ => dPtr 2 a7_ <| dCons r8_ fun a9_ r10_ => dInt .i64 a9_ fun q1 => dNil r10_ <| dBlk true tm fun b11_ m12_ => dCells b11_ fun c13_ => dCons c13_ fun a14_ r15_ => dPl .byte a14_ fun q2 => dCons r15_ fun a16_ r17_ => dInt .i64 a16_ fun q3 => dNil r17_ <| dBlk true m12_ fun b18_ m19_ => dCells b18_ fun c20_ => dCons c20_ fun a21_ r22_ => dSl 3 a21_ <| dCons r22_ fun a23_ r24_ => dSl 4 a23_ <| dCons r24_ fun a25_ r26_ => dSl 5 a25_ <| dNil r26_ <| dBlk true m19_ fun b27_ m28_ => dCells b27_ fun c29_ => dCons c29_ fun a30_ r31_ => dSl 6 a30_ <| dCons r31_ fun a32_ r33_ => dSl 7 a32_ <| dCons r33_ fun a34_ r35_ => dSl 8 a34_ <| dNil r35_ <| dBlk true m28_ fun b36_ m37_ => dList .int b36_ fun q4 => dBlk true m37_ fun b38_ m39_ => dList .int b38_ fun q5 => dBlk true m39_ fun b40_ m41_ => dList .int b40_ fun q6 => dBlk true m41_ fun b42_ m43_ => dList .int b42_ fun q7 => dBlk true m43_ fun b44_ m45_ => dList .int b44_ fun q8 => dBlk true m45_ fun b46_ m47_ => dList .int b46_ fun q9 => dEnd m47_ <| K (q0, q1, q2, q3, q4, q5, q6, q7, q8, q9)
  law := by
    intro vs tm K h
    replace h := dCons_ok h; obtain ⟨a1_, r2_, rfl, h⟩ := h
    replace h := dPtr_ok h; obtain ⟨rfl, h⟩ := h
    replace h := dCons_ok h; obtain ⟨a3_, r4_, rfl, h⟩ := h
    replace h := dPtr_ok h; obtain ⟨rfl, h⟩ := h
    replace h := dCons_ok h; obtain ⟨a5_, r6_, rfl, h⟩ := h
    replace h := dInt_ok h; obtain ⟨q0, rfl, h⟩ := h
    replace h := dCons_ok h; obtain ⟨a7_, r8_, rfl, h⟩ := h
    replace h := dPtr_ok h; obtain ⟨rfl, h⟩ := h
    replace h := dCons_ok h; obtain ⟨a9_, r10_, rfl, h⟩ := h
    replace h := dInt_ok h; obtain ⟨q1, rfl, h⟩ := h
    replace h := dNil_ok h; obtain ⟨rfl, h⟩ := h
    replace h := dBlk_ok h; obtain ⟨b11_, m12_, rfl, h⟩ := h
    replace h := dCells_ok h; obtain ⟨c13_, rfl, h⟩ := h
    replace h := dCons_ok h; obtain ⟨a14_, r15_, rfl, h⟩ := h
    replace h := dPl_ok h; obtain ⟨q2, rfl, h⟩ := h
    replace h := dCons_ok h; obtain ⟨a16_, r17_, rfl, h⟩ := h
    replace h := dInt_ok h; obtain ⟨q3, rfl, h⟩ := h
    replace h := dNil_ok h; obtain ⟨rfl, h⟩ := h
    replace h := dBlk_ok h; obtain ⟨b18_, m19_, rfl, h⟩ := h
    replace h := dCells_ok h; obtain ⟨c20_, rfl, h⟩ := h
    replace h := dCons_ok h; obtain ⟨a21_, r22_, rfl, h⟩ := h
    replace h := dSl_ok h; obtain ⟨rfl, h⟩ := h
    replace h := dCons_ok h; obtain ⟨a23_, r24_, rfl, h⟩ := h
    replace h := dSl_ok h; obtain ⟨rfl, h⟩ := h
    replace h := dCons_ok h; obtain ⟨a25_, r26_, rfl, h⟩ := h
    replace h := dSl_ok h; obtain ⟨rfl, h⟩ := h
    replace h := dNil_ok h; obtain ⟨rfl, h⟩ := h
    replace h := dBlk_ok h; obtain ⟨b27_, m28_, rfl, h⟩ := h
    replace h := dCells_ok h; obtain ⟨c29_, rfl, h⟩ := h
    replace h := dCons_ok h; obtain ⟨a30_, r31_, rfl, h⟩ := h
    replace h := dSl_ok h; obtain ⟨rfl, h⟩ := h
    replace h := dCons_ok h; obtain ⟨a32_, r33_, rfl, h⟩ := h
    replace h := dSl_ok h; obtain ⟨rfl, h⟩ := h
    replace h := dCons_ok h; obtain ⟨a34_, r35_, rfl, h⟩ := h
    replace h := dSl_ok h; obtain ⟨rfl, h⟩ := h
    replace h := dNil_ok h; obtain ⟨rfl, h⟩ := h
    replace h := dBlk_ok h; obtain ⟨b36_, m37_, rfl, h⟩ := h
    replace h := dList_ok h; obtain ⟨q4, rfl, h⟩ := h
    replace h := dBlk_ok h; obtain ⟨b38_, m39_, rfl, h⟩ := h
    replace h := dList_ok h; obtain ⟨q5, rfl, h⟩ := h
    replace h := dBlk_ok h; obtain ⟨b40_, m41_, rfl, h⟩ := h
    replace h := dList_ok h; obtain ⟨q6, rfl, h⟩ := h
    replace h := dBlk_ok h; obtain ⟨b42_, m43_, rfl, h⟩ := h
    replace h := dList_ok h; obtain ⟨q7, rfl, h⟩ := h
    replace h := dBlk_ok h; obtain ⟨b44_, m45_, rfl, h⟩ := h
    replace h := dList_ok h; obtain ⟨q8, rfl, h⟩ := h
    replace h := dBlk_ok h; obtain ⟨b46_, m47_, rfl, h⟩ := h
    replace h := dList_ok h; obtain ⟨q9, rfl, h⟩ := h
    replace h := dEnd_ok h; obtain ⟨rfl, h⟩ := h
    exact ⟨(q0, q1, q2, q3, q4, q5, q6, q7, q8, q9), rfl, h⟩
def H66_2 : LH where
  keep := [(0, .pc [.pure .byte, .x]), (2, .pc [.own .int, .own .int, .own .int]), (3, .x), (4, .pc [.own .int, .own .int, .own .int]), (7, .x)]
  S := Int × Int × List Int × Int × List Int × List Int × List Int × List Int × List Int × List Int
  enc := fun s => ([.ptr 0 0, .ptr 1 0, .int .i64 s.1, .ptr 2 0, .int .i64 s.2.1], [⟨true, .cells [.pl .byte s.2.2.1, .int .i64 s.2.2.2.1]⟩, ⟨true, .cells [.sl 3, .sl 4, .sl 5]⟩, ⟨true, .cells [.sl 6, .sl 7, .sl 8]⟩, ⟨true, .list .int s.2.2.2.2.1⟩, ⟨true, .list .int s.2.2.2.2.2.1⟩, ⟨true, .list .int s.2.2.2.2.2.2.1⟩, ⟨true, .list .int s.2.2.2.2.2.2.2.1⟩, ⟨true, .list .int s.2.2.2.2.2.2.2.2.1⟩, ⟨true, .list .int s.2.2.2.2.2.2.2.2.2⟩])
  dec := fun vs tm K => dCons vs fun a1_ r2_ => dPtr 0 a1_ <| dCons r2_ fun a3_ r4_ => dPtr 1 a3_ <| dCons r4_ fun a5_ r6_ => dInt .i64 a5_ fun q0 => dCons r6_ fun a7_ r8_ => dPtr 2 a7_ <| dCons r8_ fun a9_ r10_ => dInt .i64 a9_ fun q1 => dNil r10_ <| dBlk true tm fun b11_ m12_ => dCells b11_ fun c13_ => dCons c13_ fun a14_ r15_ => dPl .byte a14_ fun q2 => dCons r15_ fun a16_ r17_ => dInt .i64 a16_ fun q3 => dNil r17_ <| dBlk true m12_ fun b18_ m19_ => dCells b18_ fun c20_ => dCons c20_ fun a21_ r22_ => dSl 3 a21_ <| dCons r22_ fun a23_ r24_ => dSl 4 a23_ <| dCons r24_ fun a25_ r26_ => dSl 5 a25_ <| dNil r26_ <| dBlk true m19_ fun b27_ m28_ => dCells b27_ fun c29_ => dCons c29_ fun a30_ r31_ => dSl 6 a30_ <| dCons r31_ fun a32_ r33_ => dSl 7 a32_ <| dCons r33_ fun a34_ r35_ => dSl 8 a34_ <| dNil r35_ <| dBlk true m28_ fun b36_ m37_ => dList .int b36_ fun q4 => dBlk true m37_ fun b38_ m39_ => dList .int b38_ fun q5 => dBlk true m39_ fun b40_ m41_ => dList .int b40_ fun q6 => dBlk true m41_ fun b42_ m43_ => dList .int b42_ fun q7 => dBlk true m43_ fun b44_ m45_ => dList .int b44_ fun q8 => dBlk true m45_ fun b46_ m47_ => dList .int b46_ fun q9 => dEnd m47_ <| K (q0, q1, q2, q3, q4, q5, q6, q7, q8, q9)
  law := by
    intro vs tm K h
    replace h := dCons_ok h; obtain ⟨a1_, r2_, rfl, h⟩ := h
    replace h := dPtr_ok h; obtain ⟨rfl, h⟩ := h
    replace h := dCons_ok h; obtain ⟨a3_, r4_, rfl, h⟩ := h
    replace h := dPtr_ok h; obtain ⟨rfl, h⟩ := h
    replace h := dCons_ok h; obtain ⟨a5_, r6_, rfl, h⟩ := h
    replace h := dInt_ok h; obtain ⟨q0, rfl, h⟩ := h
    replace h := dCons_ok h; obtain ⟨a7_, r8_, rfl, h⟩ := h
    replace h := dPtr_ok h; obtain ⟨rfl, h⟩ := h
    replace h := dCons_ok h; obtain ⟨a9_, r10_, rfl, h⟩ := h
    replace h := dInt_ok h; obtain ⟨q1, rfl, h⟩ := h
    replace h := dNil_ok h; obtain ⟨rfl, h⟩ := h
    replace h := dBlk_ok h; obtain ⟨b11_, m12_, rfl, h⟩ := h
    replace h := dCells_ok h; obtain ⟨c13_, rfl, h⟩ := h
    replace h := dCons_ok h; obtain ⟨a14_, r15_, rfl, h⟩ := h
    replace h := dPl_ok h; obtain ⟨q2, rfl, h⟩ := h
    replace h := dCons_ok h; obtain ⟨a16_, r17_, rfl, h⟩ := h
    replace h := dInt_ok h; obtain ⟨q3, rfl, h⟩ := h
    replace h := dNil_ok h; obtain ⟨rfl, h⟩ := h
    replace h := dBlk_ok h; obtain ⟨b18_, m19_, rfl, h⟩ := h
    replace h := dCells_ok h; obtain ⟨c20_, rfl, h⟩ := h
    replace h := dCons_ok h; obtain ⟨a21_, r22_, rfl, h⟩ := h
    replace h := dSl_ok h; obtain ⟨rfl, h⟩ := h
    replace h := dCons_ok h; obtain ⟨a23_, r24_, rfl, h⟩ := h
    replace h := dSl_ok h; obtain ⟨rfl, h⟩ := h
    replace h := dCons_ok h; obtain ⟨a25_, r26_, rfl, h⟩ := h
    replace h := dSl_ok h; obtain ⟨rfl, h⟩ := h
    replace h := dNil_ok h; obtain ⟨rfl, h⟩ := h
    replace h := dBlk_ok h; obtain ⟨b27_, m28_, rfl, h⟩ := h
    replace h := dCells_ok h; obtain ⟨c29_, rfl, h⟩ := h
    replace h := dCons_ok h; obtain ⟨a30_, r31_, rfl, h⟩ := h
    replace h := dSl_ok h; obtain ⟨rfl, h⟩ := h
    replace h := dCons_ok h; obtain ⟨a32_, r33_, rfl, h⟩ := h
    replace h := dSl_ok h; obtain ⟨rfl, h⟩ := h
    replace h := dCons_ok h; obtain ⟨a34_, r35_, rfl, h⟩ := h
    replace h := dSl_ok h; obtain ⟨rfl, h⟩ := h
    replace h := dNil_ok h; obtain ⟨rfl, h⟩ := h
    replace h := dBlk_ok h; obtain ⟨b36_, m37_, rfl, h⟩ := h
    replace h := dList_ok h; obtain ⟨q4, rfl, h⟩ := h
    replace h := dBlk_ok h; obtain ⟨b38_, m39_, rfl, h⟩ := h
    replace h := dList_ok h; obtain ⟨q5, rfl, h⟩ := h
    replace h := dBlk_ok h; obtain ⟨b40_, m41_, rfl, h⟩ := h
    replace h := dList_ok h; obtain ⟨q6, rfl, h⟩ := h
    replace h := dBlk_ok h; obtain ⟨b42_, m43_, rfl, h⟩ := h
    replace h := dList_ok h; obtain ⟨q7, rfl, h⟩ := h
    replace h := dBlk_ok h; obtain ⟨b44_, m45_, rfl, h⟩ := h
    replace h := dList_ok h; obtain ⟨q8, rfl, h⟩ := h
    replace h := dBlk_ok h; obtain ⟨b46_, m47_, rfl, h⟩ := h
    replace h := dList_ok h; obtain ⟨q9, rfl, h⟩ := h
    replace h := dEnd_ok h; obtain ⟨rfl, h⟩ := h
    exact ⟨(q0, q1, q2, q3, q4, q5, q6, q7, q8, q9), rfl, h⟩
def H66 : List (Nat × LH) := [(0, H66_0), (2, H66_2)]
def W66 : List (Nat × List (Nat × List Nat)) := [(6, [(0, [6])]), (7, [(0, [6])]), (15, [(0, [6])])]
def Γ66 : List (Nat × Con) := [(69, useC [.pc [.pure .byte, .x], .pure .int] G69), (104, useC [.x, .x] G104), (68, useC [.pc [.pure .byte, .x], .x] G68)]
theorem e66 (p1 : List Int) (p2 : Int) (K : TV → TMem → Prop) : TW PP 80 Γ66 H66 W66 (List.length ([⟨true, .cells [.pl .byte p1, .int .i64 p2]⟩] : TMem)) (bodyOf Try.f66) (endT PP 80 [.cell 2 26] [.ag [.own .int, .own .int, .own .int]] [] (List.length ([⟨true, .cells [.pl .byte p1, .int .i64 p2]⟩] : TMem)) K) (argsF [.ptr 0 0]) [⟨true, .cells [.pl .byte p1, .int .i64 p2]⟩] =
    Ms_l1Draw p1 p2 (fun r1 r2 r3 r4 r5 => K (.agg [.sl 1, .sl 2, .sl 3]) [⟨true, .cells [.pl .byte r1, .int .i64 r2]⟩, ⟨true, .list .int r3⟩, ⟨true, .list .int r4⟩, ⟨true, .list .int r5⟩]) := by kernel_rfl
theorem s66 : CSound PP 66 G66 := by
  intro args K c h fl A aargs hA hN R hl
  unfold G66 at h
  generalize ht : c.tm = tm at h
  replace h := dCons_ok h; obtain ⟨a1_, r2_, rfl, h⟩ := h
  replace h := dPtr_ok h; obtain ⟨rfl, h⟩ := h
  replace h := dNil_ok h; obtain ⟨rfl, h⟩ := h
  replace h := dBlk_ok h; obtain ⟨b3_, m4_, rfl, h⟩ := h
  replace h := dCells_ok h; obtain ⟨c5_, rfl, h⟩ := h
  replace h := dCons_ok h; obtain ⟨a6_, r7_, rfl, h⟩ := h
  replace h := dPl_ok h; obtain ⟨p1, rfl, h⟩ := h
  replace h := dCons_ok h; obtain ⟨a8_, r9_, rfl, h⟩ := h
  replace h := dInt_ok h; obtain ⟨p2, rfl, h⟩ := h
  replace h := dNil_ok h; obtain ⟨rfl, h⟩ := h
  replace h := dEnd_ok h; obtain ⟨rfl, h⟩ := h
  refine fun_ok (nt := 80) (x := bodyOf Try.f66) (Γ := Γ66) (H := H66) (WW := W66) (rs := [.cell 2 26]) (shs := [.ag [.own .int, .own .int, .own .int]]) (cons := []) mixed Try.func66 (by decide) (by kernel_rfl) Try.ntmps66 Try.results66 (.cons (useC_ok s69) (.cons (useC_ok s104) (.cons (useC_ok s68) (GSound.nil)))) ?_ hA hN R hl
  rw [ht, e66 p1 p2 K]
  exact h
/-! spec.l10Mix -/
def G67 : Con := fun args tm K => dCons args fun a1_ r2_ => dPtr 0 a1_ <| dCons r2_ fun a3_ r4_ => dInt .i64 a3_ fun p1 => dNil r4_ <| dBlk true tm fun b5_ m6_ => dCells b5_ fun c7_ => dCons c7_ fun a8_ r9_ => dPl .byte a8_ fun p2 => dCons r9_ fun a10_ r11_ => dInt .i64 a10_ fun p3 => dNil r11_ <| dEnd m6_ <| Ms_l10Mix p1 p2 p3 (fun r1 r2 r3 => K (.sl 1) [⟨true, .cells [.pl .byte r1, .int .i64 r2]⟩, ⟨true, .list .int r3⟩])
def H67_0 : LH where
  keep := [(0, .pc [.pure .byte, .x]), (1, .x), (5, .own .int), (6, .x)]
  S := Int × Int × List Int × Int × List Int
  enc := fun s => ([.ptr 0 0, .int .i64 s.1, .sl 1, .int .i64 s.2.1], [⟨true, .cells [.pl .byte s.2.2.1, .int .i64 s.2.2.2.1]⟩, ⟨true, .list .int s.2.2.2.2⟩])
  dec := fun vs tm K => dCons vs fun a1_ r2_ => dPtr 0 a1_ <| dCons r2_ fun a3_ r4_ => dInt .i64 a3_ fun q0 => dCons r4_ fun a5_ r6_ => dSl 1 a5_ <| dCons r6_ fun a7_ r8_ => dInt .i64 a7_ fun q1 => dNil r8_ <| dBlk true tm fun b9_ m10_ => dCells b9_ fun c11_ => dCons c11_ fun a12_ r13_ => dPl .byte a12_ fun q2 => dCons r13_ fun a14_ r15_ => dInt .i64 a14_ fun q3 => dNil r15_ <| dBlk true m10_ fun b16_ m17_ => dList .int b16_ fun q4 => dEnd m17_ <| K (q0, q1, q2, q3, q4)
  law := by
    intro vs tm K h
    replace h := dCons_ok h; obtain ⟨a1_, r2_, rfl, h⟩ := h
    replace h := dPtr_ok h; obtain ⟨rfl, h⟩ := h
    replace h := dCons_ok h; obtain ⟨a3_, r4_, rfl, h⟩ := h
    replace h := dInt_ok h; obtain ⟨q0, rfl, h⟩ := h
    replace h := dCons_ok h; obtain ⟨a5_, r6_, rfl, h⟩ := h
    replace h := dSl_ok h; obtain ⟨rfl, h⟩ := h
    replace h := dCons_ok h; obtain ⟨a7_, r8_, rfl, h⟩ := h
    replace h := dInt_ok h; obtain ⟨q1, rfl, h⟩ := h
    replace h := dNil_ok h; obtain ⟨rfl, h⟩ := h
    replace h := dBlk_ok h; obtain ⟨b9_, m10_, rfl, h⟩ := h
    replace h := dCells_ok h; obtain ⟨c11_, rfl, h⟩ := h
    replace h := dCons_ok h; obtain ⟨a12_, r13_, rfl, h⟩ := h
    replace h := dPl_ok h; obtain ⟨q2, rfl, h⟩ := h
    replace h := dCons_ok h; obtain ⟨a14_, r15_, rfl, h⟩ := h
    replace h := dInt_ok h; obtain ⟨q3, rfl, h⟩ := h
    replace h := dNil_ok h; obtain ⟨rfl, h⟩ := h
    replace h := dBlk_ok h; obtain ⟨b16_, m17_, rfl, h⟩ := h
    replace h := dList_ok h; obtain ⟨q4, rfl, h⟩ := h
    replace h := dEnd_ok h; obtain ⟨rfl, h⟩ := h
    exact ⟨(q0, q1, q2, q3, q4), rfl, h⟩
def H67 : List (Nat × LH) := [(0, H67_0)]
def W67 : List (Nat × List (Nat × List Nat)) := []
def Γ67 : List (Nat × Con) := [(68, useC [.pc [.pure .byte, .x], .x] G68)]
theorem e67 (p1 : Int) (p2 : List Int) (p3 : Int) (K : TV → TMem → Prop) : TW PP 39 Γ67 H67 W67 (List.length ([⟨true, .cells [.pl .byte p2, .int .i64 p3]⟩] : TMem)) (bodyOf Try.f67) (endT PP 39 [.tmp 4] [.own .int] [] (List.length ([⟨true, .cells [.pl .byte p2, .int .i64 p3]⟩] : TMem)) K) (argsF [.ptr 0 0, .int .i64 p1]) [⟨true, .cells [.pl .byte p2, .int .i64 p3]⟩] =
    Ms_l10Mix p1 p2 p3 (fun r1 r2 r3 => K (.sl 1) [⟨true, .cells [.pl .byte r1, .int .i64 r2]⟩, ⟨true, .list .int r3⟩]) := by kernel_rfl
theorem s67 : CSound PP 67 G67 := by
  intro args K c h fl A aargs hA hN R hl
  unfold G67 at h
  generalize ht : c.tm = tm at h
  replace h := dCons_ok h; obtain ⟨a1_, r2_, rfl, h⟩ := h
  replace h := dPtr_ok h; obtain ⟨rfl, h⟩ := h
  replace h := dCons_ok h; obtain ⟨a3_, r4_, rfl, h⟩ := h
  replace h := dInt_ok h; obtain ⟨p1, rfl, h⟩ := h
  replace h := dNil_ok h; obtain ⟨rfl, h⟩ := h
  replace h := dBlk_ok h; obtain ⟨b5_, m6_, rfl, h⟩ := h
  replace h := dCells_ok h; obtain ⟨c7_, rfl, h⟩ := h
  replace h := dCons_ok h; obtain ⟨a8_, r9_, rfl, h⟩ := h
  replace h := dPl_ok h; obtain ⟨p2, rfl, h⟩ := h
  replace h := dCons_ok h; obtain ⟨a10_, r11_, rfl, h⟩ := h
  replace h := dInt_ok h; obtain ⟨p3, rfl, h⟩ := h
  replace h := dNil_ok h; obtain ⟨rfl, h⟩ := h
  replace h := dEnd_ok h; obtain ⟨rfl, h⟩ := h
  refine fun_ok (nt := 39) (x := bodyOf Try.f67) (Γ := Γ67) (H := H67) (WW := W67) (rs := [.tmp 4]) (shs := [.own .int]) (cons := []) mixed Try.func67 (by decide) (by kernel_rfl) Try.ntmps67 Try.results67 (.cons (useC_ok s68) (GSound.nil)) ?_ hA hN R hl
  rw [ht, e67 p1 p2 p3 K]
  exact h
/-! slices.Equal[[]int,int] -/
def G70 : Con := fun args tm K => dCons args fun a1_ r2_ => dPl .int a1_ fun p1 => dCons r2_ fun a3_ r4_ => dPl .int a3_ fun p2 => dNil r4_ <| dEnd tm <| M_Equal_int p1 p2 (fun r1 => K (.bool r1) [])
def H70_0 : LH where
  keep := [(0, .pure .int), (1, .pure .int), (12, .x), (13, .x)]
  S := List Int × List Int × Int × Int
  enc := fun s => ([.pl .int s.1, .pl .int s.2.1, .int .i64 s.2.2.1, .int .i64 s.2.2.2], [])
  dec := fun vs tm K => dCons vs fun a1_ r2_ => dPl .int a1_ fun q0 => dCons r2_ fun a3_ r4_ => dPl .int a3_ fun q1 => dCons r4_ fun a5_ r6_ => dInt .i64 a5_ fun q2 => dCons r6_ fun a7_ r8_ => dInt .i64 a7_ fun q3 => dNil r8_ <| dEnd tm <| K (q0, q1, q2, q3)
  law := by
    intro vs tm K h
    replace h := dCons_ok h; obtain ⟨a1_, r2_, rfl, h⟩ := h
    replace h := dPl_ok h; obtain ⟨q0, rfl, h⟩ := h
    replace h := dCons_ok h; obtain ⟨a3_, r4_, rfl, h⟩ := h
    replace h := dPl_ok h; obtain ⟨q1, rfl, h⟩ := h
    replace h := dCons_ok h; obtain ⟨a5_, r6_, rfl, h⟩ := h
    replace h := dInt_ok h; obtain ⟨q2, rfl, h⟩ := h
    replace h := dCons_ok h; obtain ⟨a7_, r8_, rfl, h⟩ := h
    replace h := dInt_ok h; obtain ⟨q3, rfl, h⟩ := h
    replace h := dNil_ok h; obtain ⟨rfl, h⟩ := h
    replace h := dEnd_ok h; obtain ⟨rfl, h⟩ := h
    exact ⟨(q0, q1, q2, q3), rfl, h⟩
def H70 : List (Nat × LH) := [(0, H70_0)]
def W70 : List (Nat × List (Nat × List Nat)) := []
def Γ70 : List (Nat × Con) := []
theorem e70 (p1 : List Int) (p2 : List Int) (K : TV → TMem → Prop) : TW PP 26 Γ70 H70 W70 (List.length ([] : TMem)) (bodyOf Try.f70) (endT PP 26 [.tmp 4] [.bl] [] (List.length ([] : TMem)) K) (argsF [.pl .int p1, .pl .int p2]) [] =
    M_Equal_int p1 p2 (fun r1 => K (.bool r1) []) := by kernel_rfl
theorem s70 : CSound PP 70 G70 := by
  intro args K c h fl A aargs hA hN R hl
  unfold G70 at h
  generalize ht : c.tm = tm at h
  replace h := dCons_ok h; obtain ⟨a1_, r2_, rfl, h⟩ := h
  replace h := dPl_ok h; obtain ⟨p1, rfl, h⟩ := h
  replace h := dCons_ok h; obtain ⟨a3_, r4_, rfl, h⟩ := h
  replace h := dPl_ok h; obtain ⟨p2, rfl, h⟩ := h
  replace h := dNil_ok h; obtain ⟨rfl, h⟩ := h
  replace h := dEnd_ok h; obtain ⟨rfl, h⟩ := h
  refine fun_ok (nt := 26) (x := bodyOf Try.f70) (Γ := Γ70) (H := H70) (WW := W70) (rs := [.tmp 4]) (shs := [.bl]) (cons := []) mixed Try.func70 (by decide) (by kernel_rfl) Try.ntmps70 Try.results70 (GSound.nil) ?_ hA hN R hl
  rw [ht, e70 p1 p2 K]
  exact h
/-! impl.HeapSame -/
def G28 : Con := fun args tm K => dCons args fun a1_ r2_ => dAgg a1_ fun l3_ => dCons l3_ fun a4_ r5_ => dPl .int a4_ fun p1 => dCons r5_ fun a6_ r7_ => dPl .int a6_ fun p2 => dCons r7_ fun a8_ r9_ => dPl .int a8_ fun p3 => dNil r9_ <| dCons r2_ fun a10_ r11_ => dAgg a10_ fun l12_ => dCons l12_ fun a13_ r14_ => dPl .int a13_ fun p4 => dCons r14_ fun a15_ r16_ => dPl .int a15_ fun p5 => dCons r16_ fun a17_ r18_ => dPl .int a17_ fun p6 => dNil r18_ <| dNil r11_ <| dEnd tm <| Mi_HeapSame p1 p2 p3 p4 p5 p6 (fun r1 => K (.bool r1) [])
def H28 : List (Nat × LH) := []
def W28 : List (Nat × List (Nat × List Nat)) := []
def Γ28 : List (Nat × Con) := [(70, useC [.pure .int, .pure .int] G70)]
theorem e28 (p1 : List Int) (p2 : List Int) (p3 : List Int) (p4 : List Int) (p5 : List Int) (p6 : List Int) (K : TV → TMem → Prop) : TW PP 24 Γ28 H28 W28 (List.length ([] : TMem)) (bodyOf Try.f28) (endT PP 24 [.tmp 4] [.bl] [] (List.length ([] : TMem)) K) (argsF [.agg [.pl .int p1, .pl .int p2, .pl .int p3], .agg [.pl .int p4, .pl .int p5, .pl .int p6]]) [] =
    Mi_HeapSame p1 p2 p3 p4 p5 p6 (fun r1 => K (.bool r1) []) := by kernel_rfl
theorem s28 : CSound PP 28 G28 := by
  intro args K c h fl A aargs hA hN R hl
  unfold G28 at h
  generalize ht : c.tm = tm at h
  replace h := dCons_ok h; obtain ⟨a1_, r2_, rfl, h⟩ := h
  replace h := dAgg_ok h; obtain ⟨l3_, rfl, h⟩ := h
  replace h := dCons_ok h; obtain ⟨a4_, r5_, rfl, h⟩ := h
  replace h := dPl_ok h; obtain ⟨p1, rfl, h⟩ := h
  replace h := dCons_ok h; obtain ⟨a6_, r7_, rfl, h⟩ := h
  replace h := dPl_ok h; obtain ⟨p2, rfl, h⟩ := h
  replace h := dCons_ok h; obtain ⟨a8_, r9_, rfl, h⟩ := h
  replace h := dPl_ok h; obtain ⟨p3, rfl, h⟩ := h
  replace h := dNil_ok h; obtain ⟨rfl, h⟩ := h
  replace h := dCons_ok h; obtain ⟨a10_, r11_, rfl, h⟩ := h
  replace h := dAgg_ok h; obtain ⟨l12_, rfl, h⟩ := h
  replace h := dCons_ok h; obtain ⟨a13_, r14_, rfl, h⟩ := h
  replace h := dPl_ok h; obtain ⟨p4, rfl, h⟩ := h
  replace h := dCons_ok h; obtain ⟨a15_, r16_, rfl, h⟩ := h
  replace h := dPl_ok h; obtain ⟨p5, rfl, h⟩ := h
  replace h := dCons_ok h; obtain ⟨a17_, r18_, rfl, h⟩ := h
  replace h := dPl_ok h; obtain ⟨p6, rfl, h⟩ := h
  replace h := dNil_ok h; obtain ⟨rfl, h⟩ := h
  replace h := dNil_ok h; obtain ⟨rfl, h⟩ := h
  replace h := dEnd_ok h; obtain ⟨rfl, h⟩ := h
  refine fun_ok (nt := 24) (x := bodyOf Try.f28) (Γ := Γ28) (H := H28) (WW := W28) (rs := [.tmp 4]) (shs := [.bl]) (cons := []) mixed Try.func28 (by decide) (by kernel_rfl) Try.ntmps28 Try.results28 (.cons (useC_ok s70) (GSound.nil)) ?_ hA hN R hl
  rw [ht, e28 p1 p2 p3 p4 p5 p6 K]
  exact h
/-! impl.met -/
def G71 : Con := fun args tm K => dCons args fun a1_ r2_ => dSl 0 a1_ <| dCons r2_ fun a3_ r4_ => dPl .int a3_ fun p1 => dNil r4_ <| dBlk true tm fun b5_ m6_ => dList .int b5_ fun p2 => dEnd m6_ <| Mi_met p1 p2 (fun r1 => K (.sl 1) [⟨true, .dead⟩, ⟨true, .list .int r1⟩])
def H71_0 : LH where
  keep := [(0, .mv .int), (7, .pure .int), (8, .x), (9, .x)]
  S := List Int × Int × Int × List Int
  enc := fun s => ([.sl 1, .pl .int s.1, .int .i64 s.2.1, .int .i64 s.2.2.1], [⟨true, .dead⟩, ⟨true, .list .int s.2.2.2⟩])
  dec := fun vs tm K => dCons vs fun a1_ r2_ => dSl 1 a1_ <| dCons r2_ fun a3_ r4_ => dPl .int a3_ fun q0 => dCons r4_ fun a5_ r6_ => dInt .i64 a5_ fun q1 => dCons r6_ fun a7_ r8_ => dInt .i64 a7_ fun q2 => dNil r8_ <| dBlk true tm fun b9_ m10_ => dDead b9_ <| dBlk true m10_ fun b11_ m12_ => dList .int b11_ fun q3 => dEnd m12_ <| K (q0, q1, q2, q3)
  law := by
    intro vs tm K h
    replace h := dCons_ok h; obtain ⟨a1_, r2_, rfl, h⟩ := h
    replace h := dSl_ok h; obtain ⟨rfl, h⟩ := h
    replace h := dCons_ok h; obtain ⟨a3_, r4_, rfl, h⟩ := h
    replace h := dPl_ok h; obtain ⟨q0, rfl, h⟩ := h
    replace h := dCons_ok h; obtain ⟨a5_, r6_, rfl, h⟩ := h
    replace h := dInt_ok h; obtain ⟨q1, rfl, h⟩ := h
    replace h := dCons_ok h; obtain ⟨a7_, r8_, rfl, h⟩ := h
    replace h := dInt_ok h; obtain ⟨q2, rfl, h⟩ := h
    replace h := dNil_ok h; obtain ⟨rfl, h⟩ := h
    replace h := dBlk_ok h; obtain ⟨b9_, m10_, rfl, h⟩ := h
    replace h := dDead_ok h; obtain ⟨rfl, h⟩ := h
    replace h := dBlk_ok h; obtain ⟨b11_, m12_, rfl, h⟩ := h
    replace h := dList_ok h; obtain ⟨q3, rfl, h⟩ := h
    replace h := dEnd_ok h; obtain ⟨rfl, h⟩ := h
    exact ⟨(q0, q1, q2, q3), rfl, h⟩
def H71 : List (Nat × LH) := [(0, H71_0)]
def W71 : List (Nat × List (Nat × List Nat)) := []
def Γ71 : List (Nat × Con) := [(62, useC [.pure .int, .x] G62)]
theorem e71 (p1 : List Int) (p2 : List Int) (K : TV → TMem → Prop) : TW PP 27 Γ71 H71 W71 (List.length ([⟨true, .list .int p2⟩] : TMem)) (bodyOf Try.f71) (endT PP 27 [.tmp 4] [.own .int] [0] (List.length ([⟨true, .list .int p2⟩] : TMem)) K) (argsF [.sl 0, .pl .int p1]) [⟨true, .list .int p2⟩] =
    Mi_met p1 p2 (fun r1 => K (.sl 1) [⟨true, .dead⟩, ⟨true, .list .int r1⟩]) := by kernel_rfl
theorem s71 : CSound PP 71 G71 := by
  intro args K c h fl A aargs hA hN R hl
  unfold G71 at h
  generalize ht : c.tm = tm at h
  replace h := dCons_ok h; obtain ⟨a1_, r2_, rfl, h⟩ := h
  replace h := dSl_ok h; obtain ⟨rfl, h⟩ := h
  replace h := dCons_ok h; obtain ⟨a3_, r4_, rfl, h⟩ := h
  replace h := dPl_ok h; obtain ⟨p1, rfl, h⟩ := h
  replace h := dNil_ok h; obtain ⟨rfl, h⟩ := h
  replace h := dBlk_ok h; obtain ⟨b5_, m6_, rfl, h⟩ := h
  replace h := dList_ok h; obtain ⟨p2, rfl, h⟩ := h
  replace h := dEnd_ok h; obtain ⟨rfl, h⟩ := h
  refine fun_ok (nt := 27) (x := bodyOf Try.f71) (Γ := Γ71) (H := H71) (WW := W71) (rs := [.tmp 4]) (shs := [.own .int]) (cons := [0]) mixed Try.func71 (by decide) (by kernel_rfl) Try.ntmps71 Try.results71 (.cons (useC_ok s62) (GSound.nil)) ?_ hA hN R hl
  rw [ht, e71 p1 p2 K]
  exact h
/-! slices.Clip[[]int,int] -/
def G72 : Con := fun args tm K => dCons args fun a1_ r2_ => dSl 0 a1_ <| dNil r2_ <| dBlk true tm fun b3_ m4_ => dList .int b3_ fun p1 => dEnd m4_ <| M_Clip_int p1 (fun r1 => K (.sl 1) [⟨true, .dead⟩, ⟨true, .list .int r1⟩])
def H72 : List (Nat × LH) := []
def W72 : List (Nat × List (Nat × List Nat)) := []
def Γ72 : List (Nat × Con) := []
theorem e72 (p1 : List Int) (K : TV → TMem → Prop) : TW PP 9 Γ72 H72 W72 (List.length ([⟨true, .list .int p1⟩] : TMem)) (bodyOf Try.f72) (endT PP 9 [.tmp 2] [.own .int] [] (List.length ([⟨true, .list .int p1⟩] : TMem)) K) (argsF [.sl 0]) [⟨true, .list .int p1⟩] =
    M_Clip_int p1 (fun r1 => K (.sl 1) [⟨true, .dead⟩, ⟨true, .list .int r1⟩]) := by kernel_rfl
theorem s72 : CSound PP 72 G72 := by
  intro args K c h fl A aargs hA hN R hl
  unfold G72 at h
  generalize ht : c.tm = tm at h
  replace h := dCons_ok h; obtain ⟨a1_, r2_, rfl, h⟩ := h
  replace h := dSl_ok h; obtain ⟨rfl, h⟩ := h
  replace h := dNil_ok h; obtain ⟨rfl, h⟩ := h
  replace h := dBlk_ok h; obtain ⟨b3_, m4_, rfl, h⟩ := h
  replace h := dList_ok h; obtain ⟨p1, rfl, h⟩ := h
  replace h := dEnd_ok h; obtain ⟨rfl, h⟩ := h
  refine fun_ok (nt := 9) (x := bodyOf Try.f72) (Γ := Γ72) (H := H72) (WW := W72) (rs := [.tmp 2]) (shs := [.own .int]) (cons := []) mixed Try.func72 (by decide) (by kernel_rfl) Try.ntmps72 Try.results72 (GSound.nil) ?_ hA hN R hl
  rw [ht, e72 p1 K]
  exact h
/-! impl.OrderOf -/
def G29 : Con := fun args tm K => dCons args fun a1_ r2_ => dAgg a1_ fun l3_ => dCons l3_ fun a4_ r5_ => dPl .int a4_ fun p1 => dCons r5_ fun a6_ r7_ => dPl .int a6_ fun p2 => dCons r7_ fun a8_ r9_ => dPl .int a8_ fun p3 => dNil r9_ <| dNil r2_ <| dEnd tm <| Mi_OrderOf p1 p2 p3 (fun r1 => K (.sl 0) [⟨true, .list .int r1⟩])
def H29_0 : LH where
  keep := [(1, .pc [.pure .int, .pure .int, .pure .int]), (3, .own .int), (4, .x)]
  S := Int × List Int × List Int × List Int × List Int
  enc := fun s => ([.ptr 0 0, .sl 1, .int .i64 s.1], [⟨true, .cells [.pl .int s.2.1, .pl .int s.2.2.1, .pl .int s.2.2.2.1]⟩, ⟨true, .list .int s.2.2.2.2⟩])
  dec := fun vs tm K => dCons vs fun a1_ r2_ => dPtr 0 a1_ <| dCons r2_ fun a3_ r4_ => dSl 1 a3_ <| dCons r4_ fun a5_ r6_ => dInt .i64 a5_ fun q0 => dNil r6_ <| dBlk true tm fun b7_ m8_ => dCells b7_ fun c9_ => dCons c9_ fun a10_ r11_ => dPl .int a10_ fun q1 => dCons r11_ fun a12_ r13_ => dPl .int a12_ fun q2 => dCons r13_ fun a14_ r15_ => dPl .int a14_ fun q3 => dNil r15_ <| dBlk true m8_ fun b16_ m17_ => dList .int b16_ fun q4 => dEnd m17_ <| K (q0, q1, q2, q3, q4)
  law := by
    intro vs tm K h
    replace h := dCons_ok h; obtain ⟨a1_, r2_, rfl, h⟩ := h
    replace h := dPtr_ok h; obtain ⟨rfl, h⟩ := h
    replace h := dCons_ok h; obtain ⟨a3_, r4_, rfl, h⟩ := h
    replace h := dSl_ok h; obtain ⟨rfl, h⟩ := h
    replace h := dCons_ok h; obtain ⟨a5_, r6_, rfl, h⟩ := h
    replace h := dInt_ok h; obtain ⟨q0, rfl, h⟩ := h
    replace h := dNil_ok h; obtain ⟨rfl, h⟩ := h
    replace h := dBlk_ok h; obtain ⟨b7_, m8_, rfl, h⟩ := h
    replace h := dCells_ok h; obtain ⟨c9_, rfl, h⟩ := h
    replace h := dCons_ok h; obtain ⟨a10_, r11_, rfl, h⟩ := h
    replace h := dPl_ok h; obtain ⟨q1, rfl, h⟩ := h
    replace h := dCons_ok h; obtain ⟨a12_, r13_, rfl, h⟩ := h
    replace h := dPl_ok h; obtain ⟨q2, rfl, h⟩ := h
    replace h := dCons_ok h; obtain ⟨a14_, r15_, rfl, h⟩ := h
    replace h := dPl_ok h; obtain ⟨q3, rfl, h⟩ := h
    replace h := dNil_ok h; obtain ⟨rfl, h⟩ := h
    replace h := dBlk_ok h; obtain ⟨b16_, m17_, rfl, h⟩ := h
    replace h := dList_ok h; obtain ⟨q4, rfl, h⟩ := h
    replace h := dEnd_ok h; obtain ⟨rfl, h⟩ := h
    exact ⟨(q0, q1, q2, q3, q4), rfl, h⟩
def H29_1000004 : LH where
  keep := [(1, .pc [.pure .int, .pure .int, .pure .int]), (3, .own .int)]
  S := List Int × List Int × List Int × List Int
  enc := fun s => ([.ptr 0 0, .sl 1], [⟨true, .cells [.pl .int s.1, .pl .int s.2.1, .pl .int s.2.2.1]⟩, ⟨true, .list .int s.2.2.2⟩])
  dec := fun vs tm K => dCons vs fun a1_ r2_ => dPtr 0 a1_ <| dCons r2_ fun a3_ r4_ => dSl 1 a3_ <| dNil r4_ <| dBlk true tm fun b5_ m6_ => dCells b5_ fun c7_ => dCons c7_ fun a8_ r9_ => dPl .int a8_ fun q0 => dCons r9_ fun a10_ r11_ => dPl .int a10_ fun q1 => dCons r11_ fun a12_ r13_ => dPl .int a12_ fun q2 => dNil r13_ <| dBlk true m6_ fun b14_ m15_ => dList .int b14_ fun q3 => dEnd m15_ <| K (q0, q1, q2, q3)
  law := by
    intro vs tm K h
    replace h := dCons_ok h; obtain ⟨a1_, r2_, rfl, h⟩ := h
    replace h := dPtr_ok h; obtain ⟨rfl, h⟩ := h
    replace h := dCons_ok h; obtain ⟨a3_, r4_, rfl, h⟩ := h
    replace h := dSl_ok h; obtain ⟨rfl, h⟩ := h
    replace h := dNil_ok h; obtain ⟨rfl, h⟩ := h
    replace h := dBlk_ok h; obtain ⟨b5_, m6_, rfl, h⟩ := h
    replace h := dCells_ok h; obtain ⟨c7_, rfl, h⟩ := h
    replace h := dCons_ok h; obtain ⟨a8_, r9_, rfl, h⟩ := h
    replace h := dPl_ok h; obtain ⟨q0, rfl, h⟩ := h
    replace h := dCons_ok h; obtain ⟨a10_, r11_, rfl, h⟩ := h
    replace h := dPl_ok h; obtain ⟨q1, rfl, h⟩ := h
    replace h := dCons_ok h; obtain ⟨a12_, r13_, rfl, h⟩ := h
    replace h := dPl_ok h; obtain ⟨q2, rfl, h⟩ := h
    replace h := dNil_ok h; obtain ⟨rfl, h⟩ := h
    replace h := dBlk_ok h; obtain ⟨b14_, m15_, rfl, h⟩ := h
    replace h := dList_ok h; obtain ⟨q3, rfl, h⟩ := h
    replace h := dEnd_ok h; obtain ⟨rfl, h⟩ := h
    exact ⟨(q0, q1, q2, q3), rfl, h⟩
def H29_1000008 : LH where
  keep := [(3, .own .int)]
  S := List Int
  enc := fun s => ([.sl 0], [⟨true, .list .int s⟩])
  dec := fun vs tm K => dCons vs fun a1_ r2_ => dSl 0 a1_ <| dNil r2_ <| dBlk true tm fun b3_ m4_ => dList .int b3_ fun q0 => dEnd m4_ <| K q0
  law := by
    intro vs tm K h
    replace h := dCons_ok h; obtain ⟨a1_, r2_, rfl, h⟩ := h
    replace h := dSl_ok h; obtain ⟨rfl, h⟩ := h
    replace h := dNil_ok h; obtain ⟨rfl, h⟩ := h
    replace h := dBlk_ok h; obtain ⟨b3_, m4_, rfl, h⟩ := h
    replace h := dList_ok h; obtain ⟨q0, rfl, h⟩ := h
    replace h := dEnd_ok h; obtain ⟨rfl, h⟩ := h
    exact ⟨q0, rfl, h⟩
def H29 : List (Nat × LH) := [(0, H29_0), (1000004, H29_1000004), (1000008, H29_1000008)]
def W29 : List (Nat × List (Nat × List Nat)) := []
def Γ29 : List (Nat × Con) := [(40, useC [.ag [.pure .int, .pure .int, .pure .int]] G40), (71, useC [.own .int, .pure .int] G71), (72, useC [.own .int] G72)]
theorem e29 (p1 : List Int) (p2 : List Int) (p3 : List Int) (K : TV → TMem → Prop) : TW PP 39 Γ29 H29 W29 (List.length ([] : TMem)) (bodyOf Try.f29) (endT PP 39 [.tmp 2] [.own .int] [] (List.length ([] : TMem)) K) (argsF [.agg [.pl .int p1, .pl .int p2, .pl .int p3]]) [] =
    Mi_OrderOf p1 p2 p3 (fun r1 => K (.sl 0) [⟨true, .list .int r1⟩]) := by kernel_rfl
theorem s29 : CSound PP 29 G29 := by
  intro args K c h fl A aargs hA hN R hl
  unfold G29 at h
  generalize ht : c.tm = tm at h
  replace h := dCons_ok h; obtain ⟨a1_, r2_, rfl, h⟩ := h
  replace h := dAgg_ok h; obtain ⟨l3_, rfl, h⟩ := h
  replace h := dCons_ok h; obtain ⟨a4_, r5_, rfl, h⟩ := h
  replace h := dPl_ok h; obtain ⟨p1, rfl, h⟩ := h
  replace h := dCons_ok h; obtain ⟨a6_, r7_, rfl, h⟩ := h
  replace h := dPl_ok h; obtain ⟨p2, rfl, h⟩ := h
  replace h := dCons_ok h; obtain ⟨a8_, r9_, rfl, h⟩ := h
  replace h := dPl_ok h; obtain ⟨p3, rfl, h⟩ := h
  replace h := dNil_ok h; obtain ⟨rfl, h⟩ := h
  replace h := dNil_ok h; obtain ⟨rfl, h⟩ := h
  replace h := dEnd_ok h; obtain ⟨rfl, h⟩ := h
  refine fun_ok (nt := 39) (x := bodyOf Try.f29) (Γ := Γ29) (H := H29) (WW := W29) (rs := [.tmp 2]) (shs := [.own .int]) (cons := []) mixed Try.func29 (by decide) (by kernel_rfl) Try.ntmps29 Try.results29 (.cons (useC_ok s40) (.cons (useC_ok s71) (.cons (useC_ok s72) (GSound.nil)))) ?_ hA hN R hl
  rw [ht, e29 p1 p2 p3 K]
  exact h
/-! spec.l1Wrong -/
def G82 : Con := fun args tm K => dCons args fun a1_ r2_ => dPtr 0 a1_ <| dCons r2_ fun a3_ r4_ => dAgg a3_ fun l5_ => dCons l5_ fun a6_ r7_ => dSl 1 a6_ <| dCons r7_ fun a8_ r9_ => dSl 2 a8_ <| dCons r9_ fun a10_ r11_ => dSl 3 a10_ <| dNil r11_ <| dNil r4_ <| dBlk true tm fun b12_ m13_ => dCells b12_ fun c14_ => dCons c14_ fun a15_ r16_ => dPl .byte a15_ fun p1 => dCons r16_ fun a17_ r18_ => dInt .i64 a17_ fun p2 => dNil r18_ <| dBlk false m13_ fun b19_ m20_ => dList .int b19_ fun p3 => dBlk false m20_ fun b21_ m22_ => dList .int b21_ fun p4 => dBlk false m22_ fun b23_ m24_ => dList .int b23_ fun p5 => dEnd m24_ <| Ms_l1Wrong p1 p2 p3 p4 p5 (fun r1 r2 r3 r4 => K (.agg [.sl 4, .sl 5, .sl 6]) [⟨true, .cells [.pl .byte p1, .int .i64 r1]⟩, ⟨false, .list .int p3⟩, ⟨false, .list .int p4⟩, ⟨false, .list .int p5⟩, ⟨true, .list .int r2⟩, ⟨true, .list .int r3⟩, ⟨true, .list .int r4⟩])
def H82_1000011 : LH where
  keep := [(4, .pc [.own .int, .own .int, .own .int]), (5, .pc [.own .int, .own .int, .own .int])]
  S := List Int × Int × List Int × List Int × List Int × List Int × List Int × List Int × List Int × List Int × List Int
  enc := fun s => ([.ptr 4 0, .ptr 5 0], [⟨true, .cells [.pl .byte s.1, .int .i64 s.2.1]⟩, ⟨false, .list .int s.2.2.1⟩, ⟨false, .list .int s.2.2.2.1⟩, ⟨false, .list .int s.2.2.2.2.1⟩, ⟨true, .cells [.sl 6, .sl 7, .sl 8]⟩, ⟨true, .cells [.sl 9, .sl 10, .sl 11]⟩, ⟨true, .list .int s.2.2.2.2.2.1⟩, ⟨true, .list .int s.2.2.2.2.2.2.1⟩, ⟨true, .list .int s.2.2.2.2.2.2.2.1⟩, ⟨true, .list .int s.2.2.2.2.2.2.2.2.1⟩, ⟨true, .list .int s.2.2.2.2.2.2.2.2.2.1⟩, ⟨true, .list .int s.2.2.2.2.2.2.2.2.2.2⟩])
  dec := fun vs tm K => dCons vs fun a1_ r2_ => dPtr 4 a1_ <| dCons r2_ fun a3_ r4_ => dPtr 5 a3_ <| dNil r4_ <| dBlk true tm fun b5_ m6_ => dCells b5_ fun c7_ => dCons c7_ fun a8_ r9_ => dPl .byte a8_ fun q0 => dCons r9_ fun a10_ r11_ => dInt .i64 a10_ fun q1 => dNil r11_ <| dBlk false m6_ fun b12_ m13_ => dList .int b12_ fun q2 => dBlk false m13_ fun b14_ m15_ => dList .int b14_ fun q3 => dBlk false m15_ fun b16_ m17_ => dList .int b16_ fun q4 => dBlk true m17_ fun b18_ m19_ => dCells b18_ fun c20_ => dCons c20_ fun a21_ r22_ => dSl 6 a21_ <| dCons r22_ fun a23_ r24_ => dSl 7 a23_ <| dCons r24_ fun a25_ r26_ => dSl 8 a25_ <| dNil r26_ <| dBlk true m19_ fun b27_ m28_ => dCells b27_ fun c29_ => dCons c29_ fun a30_ r31_ => dSl 9 a30_ <| dCons r31_ fun a32_ r33_ => dSl 10 a32_ <| dCons r33_ fun a34_ r35_ => dSl 11 a34_ <| dNil r35_ <| dBlk true m28_ fun b36_ m37_ => dList .int b36_ fun q5 => dBlk true m37_ fun b38_ m39_ => dList .int b38_ fun q6 => dBlk true m39_ fun b40_ m41_ => dList .int b40_ fun q7 => dBlk true m41_ fun b42_ m43_ => dList .int b42_ fun q8 => dBlk true m43_ fun b44_ m45_ => dList .int b44_ fun q9 => dBlk true m45_ fun b46_ m47_ => dList .int b46_ fun q10 => dEnd m47_ <| K (q0, q1, q2, q3, q4, q5, q6, q7, q8, q9, q10)
  law := by
    intro vs tm K h
    replace h := dCons_ok h; obtain ⟨a1_, r2_, rfl, h⟩ := h
    replace h := dPtr_ok h; obtain ⟨rfl, h⟩ := h
    replace h := dCons_ok h; obtain ⟨a3_, r4_, rfl, h⟩ := h
    replace h := dPtr_ok h; obtain ⟨rfl, h⟩ := h
    replace h := dNil_ok h; obtain ⟨rfl, h⟩ := h
    replace h := dBlk_ok h; obtain ⟨b5_, m6_, rfl, h⟩ := h
    replace h := dCells_ok h; obtain ⟨c7_, rfl, h⟩ := h
    replace h := dCons_ok h; obtain ⟨a8_, r9_, rfl, h⟩ := h
    replace h := dPl_ok h; obtain ⟨q0, rfl, h⟩ := h
    replace h := dCons_ok h; obtain ⟨a10_, r11_, rfl, h⟩ := h
    replace h := dInt_ok h; obtain ⟨q1, rfl, h⟩ := h
    replace h := dNil_ok h; obtain ⟨rfl, h⟩ := h
    replace h := dBlk_ok h; obtain ⟨b12_, m13_, rfl, h⟩ := h
    replace h := dList_ok h; obtain ⟨q2, rfl, h⟩ := h
    replace h := dBlk_ok h; obtain ⟨b14_, m15_, rfl, h⟩ := h
    replace h := dList_ok h; obtain ⟨q3, rfl, h⟩ := h
    replace h := dBlk_ok h; obtain ⟨b16_, m17_, rfl, h⟩ := h
    replace h := dList_ok h; obtain ⟨q4, rfl, h⟩ := h
    replace h := dBlk_ok h; obtain ⟨b18_, m19_, rfl, h⟩ := h
    replace h := dCells_ok h; obtain ⟨c20_, rfl, h⟩ := h
    replace h := dCons_ok h; obtain ⟨a21_, r22_, rfl, h⟩ := h
    replace h := dSl_ok h; obtain ⟨rfl, h⟩ := h
    replace h := dCons_ok h; obtain ⟨a23_, r24_, rfl, h⟩ := h
    replace h := dSl_ok h; obtain ⟨rfl, h⟩ := h
    replace h := dCons_ok h; obtain ⟨a25_, r26_, rfl, h⟩ := h
    replace h := dSl_ok h; obtain ⟨rfl, h⟩ := h
    replace h := dNil_ok h; obtain ⟨rfl, h⟩ := h
    replace h := dBlk_ok h; obtain ⟨b27_, m28_, rfl, h⟩ := h
    replace h := dCells_ok h; obtain ⟨c29_, rfl, h⟩ := h
    replace h := dCons_ok h; obtain ⟨a30_, r31_, rfl, h⟩ := h
    replace h := dSl_ok h; obtain ⟨rfl, h⟩ := h
    replace h := dCons_ok h; obtain ⟨a32_, r33_, rfl, h⟩ := h
    replace h := dSl_ok h; obtain ⟨rfl, h⟩ := h
    replace h := dCons_ok h; obtain ⟨a34_, r35_, rfl, h⟩ := h
    replace h := dSl_ok h; obtain ⟨rfl, h⟩ := h
    replace h := dNil_ok h; obtain ⟨rfl, h⟩ := h
    replace h := dBlk_ok h; obtain ⟨b36_, m37_, rfl, h⟩ := h
    replace h := dList_ok h; obtain ⟨q5, rfl, h⟩ := h
    replace h := dBlk_ok h; obtain ⟨b38_, m39_, rfl, h⟩ := h
    replace h := dList_ok h; obtain ⟨q6, rfl, h⟩ := h
    replace h := dBlk_ok h; obtain ⟨b40_, m41_, rfl, h⟩ := h
    replace h := dList_ok h; obtain ⟨q7, rfl, h⟩ := h
    replace h := dBlk_ok h; obtain ⟨b42_, m43_, rfl, h⟩ := h
    replace h := dList_ok h; obtain ⟨q8, rfl, h⟩ := h
    replace h := dBlk_ok h; obtain ⟨b44_, m45_, rfl, h⟩ := h
    replace h := dList_ok h; obtain ⟨q9, rfl, h⟩ := h
    replace h := dBlk_ok h; obtain ⟨b46_, m47_, rfl, h⟩ := h
    replace h := dList_ok h; obtain ⟨q10, rfl, h⟩ := h
    replace h := dEnd_ok h; obtain ⟨rfl, h⟩ := h
    exact ⟨(q0, q1, q2, q3, q4, q5, q6, q7, q8, q9, q10), rfl, h⟩
def H82 : List (Nat × LH) := [(1000011, H82_1000011)]
def W82 : List (Nat × List (Nat × List Nat)) := [(4, [(0, [6, 9])]), (8, [(0, [4])])]
def Γ82 : List (Nat × Con) := [(60, useC [.ag [.pure .int, .pure .int, .pure .int]] G60), (68, useC [.pc [.pure .byte, .x], .x] G68), (69, useC [.pc [.pure .byte, .x], .pure .int] G69)]
theorem e82 (p1 : List Int) (p2 : Int) (p3 : List Int) (p4 : List Int) (p5 : List Int) (K : TV → TMem → Prop) : TW PP 45 Γ82 H82 W82 (List.length ([⟨true, .cells [.pl .byte p1, .int .i64 p2]⟩, ⟨false, .list .int p3⟩, ⟨false, .list .int p4⟩, ⟨false, .list .int p5⟩] : TMem)) (bodyOf Try.f82) (endT PP 45 [.cell 4 26] [.ag [.own .int, .own .int, .own .int]] [] (List.length ([⟨true, .cells [.pl .byte p1, .int .i64 p2]⟩, ⟨false, .list .int p3⟩, ⟨false, .list .int p4⟩, ⟨false, .list .int p5⟩] : TMem)) K) (argsF [.ptr 0 0, .agg [.sl 1, .sl 2, .sl 3]]) [⟨true, .cells [.pl .byte p1, .int .i64 p2]⟩, ⟨false, .list .int p3⟩, ⟨false, .list .int p4⟩, ⟨false, .list .int p5⟩] =
    Ms_l1Wrong p1 p2 p3 p4 p5 (fun r1 r2 r3 r4 => K (.agg [.sl 4, .sl 5, .sl 6]) [⟨true, .cells [.pl .byte p1, .int .i64 r1]⟩, ⟨false, .list .int p3⟩, ⟨false, .list .int p4⟩, ⟨false, .list .int p5⟩, ⟨true, .list .int r2⟩, ⟨true, .list .int r3⟩, ⟨true, .list .int r4⟩]) := by kernel_rfl
theorem s82 : CSound PP 82 G82 := by
  intro args K c h fl A aargs hA hN R hl
  unfold G82 at h
  generalize ht : c.tm = tm at h
  replace h := dCons_ok h; obtain ⟨a1_, r2_, rfl, h⟩ := h
  replace h := dPtr_ok h; obtain ⟨rfl, h⟩ := h
  replace h := dCons_ok h; obtain ⟨a3_, r4_, rfl, h⟩ := h
  replace h := dAgg_ok h; obtain ⟨l5_, rfl, h⟩ := h
  replace h := dCons_ok h; obtain ⟨a6_, r7_, rfl, h⟩ := h
  replace h := dSl_ok h; obtain ⟨rfl, h⟩ := h
  replace h := dCons_ok h; obtain ⟨a8_, r9_, rfl, h⟩ := h
  replace h := dSl_ok h; obtain ⟨rfl, h⟩ := h
  replace h := dCons_ok h; obtain ⟨a10_, r11_, rfl, h⟩ := h
  replace h := dSl_ok h; obtain ⟨rfl, h⟩ := h
  replace h := dNil_ok h; obtain ⟨rfl, h⟩ := h
  replace h := dNil_ok h; obtain ⟨rfl, h⟩ := h
  replace h := dBlk_ok h; obtain ⟨b12_, m13_, rfl, h⟩ := h
  replace h := dCells_ok h; obtain ⟨c14_, rfl, h⟩ := h
  replace h := dCons_ok h; obtain ⟨a15_, r16_, rfl, h⟩ := h
  replace h := dPl_ok h; obtain ⟨p1, rfl, h⟩ := h
  replace h := dCons_ok h; obtain ⟨a17_, r18_, rfl, h⟩ := h
  replace h := dInt_ok h; obtain ⟨p2, rfl, h⟩ := h
  replace h := dNil_ok h; obtain ⟨rfl, h⟩ := h
  replace h := dBlk_ok h; obtain ⟨b19_, m20_, rfl, h⟩ := h
  replace h := dList_ok h; obtain ⟨p3, rfl, h⟩ := h
  replace h := dBlk_ok h; obtain ⟨b21_, m22_, rfl, h⟩ := h
  replace h := dList_ok h; obtain ⟨p4, rfl, h⟩ := h
  replace h := dBlk_ok h; obtain ⟨b23_, m24_, rfl, h⟩ := h
  replace h := dList_ok h; obtain ⟨p5, rfl, h⟩ := h
  replace h := dEnd_ok h; obtain ⟨rfl, h⟩ := h
  refine fun_ok (nt := 45) (x := bodyOf Try.f82) (Γ := Γ82) (H := H82) (WW := W82) (rs := [.cell 4 26]) (shs := [.ag [.own .int, .own .int, .own .int]]) (cons := []) mixed Try.func82 (by decide) (by kernel_rfl) Try.ntmps82 Try.results82 (.cons (useC_ok s60) (.cons (useC_ok s68) (.cons (useC_ok s69) (GSound.nil)))) ?_ hA hN R hl
  rw [ht, e82 p1 p2 p3 p4 p5 K]
  exact h
/-! impl.CopyHeap$1 -/
def G74 : Con := fun args tm K => dCons args fun a1_ r2_ => dInt .i64 a1_ fun p1 => dCons r2_ fun a3_ r4_ => dPtr 0 a3_ <| dNil r4_ <| dBlk false tm fun b5_ m6_ => dCells b5_ fun c7_ => dCons c7_ fun a8_ r9_ => dSl 1 a8_ <| dNil r9_ <| dBlk false m6_ fun b10_ m11_ => dList .int b10_ fun p2 => dEnd m11_ <| Mi_CopyHeap_1 p1 p2 (fun r1 => K (.int .i64 r1) [⟨false, .cells [.sl 1]⟩, ⟨false, .list .int p2⟩])
def H74 : List (Nat × LH) := []
def W74 : List (Nat × List (Nat × List Nat)) := []
def Γ74 : List (Nat × Con) := [(75, useC [.pure .int, .x] G75)]
theorem e74 (p1 : Int) (p2 : List Int) (K : TV → TMem → Prop) : TW PP 7 Γ74 H74 W74 (List.length ([⟨false, .cells [.sl 1]⟩, ⟨false, .list .int p2⟩] : TMem)) (bodyOf Try.f74) (endT PP 7 [.tmp 3] [.x] [] (List.length ([⟨false, .cells [.sl 1]⟩, ⟨false, .list .int p2⟩] : TMem)) K) (argsF [.int .i64 p1, .ptr 0 0]) [⟨false, .cells [.sl 1]⟩, ⟨false, .list .int p2⟩] =
    Mi_CopyHeap_1 p1 p2 (fun r1 => K (.int .i64 r1) [⟨false, .cells [.sl 1]⟩, ⟨false, .list .int p2⟩]) := by kernel_rfl
theorem s74 : CSound PP 74 G74 := by
  intro args K c h fl A aargs hA hN R hl
  unfold G74 at h
  generalize ht : c.tm = tm at h
  replace h := dCons_ok h; obtain ⟨a1_, r2_, rfl, h⟩ := h
  replace h := dInt_ok h; obtain ⟨p1, rfl, h⟩ := h
  replace h := dCons_ok h; obtain ⟨a3_, r4_, rfl, h⟩ := h
  replace h := dPtr_ok h; obtain ⟨rfl, h⟩ := h
  replace h := dNil_ok h; obtain ⟨rfl, h⟩ := h
  replace h := dBlk_ok h; obtain ⟨b5_, m6_, rfl, h⟩ := h
  replace h := dCells_ok h; obtain ⟨c7_, rfl, h⟩ := h
  replace h := dCons_ok h; obtain ⟨a8_, r9_, rfl, h⟩ := h
  replace h := dSl_ok h; obtain ⟨rfl, h⟩ := h
  replace h := dNil_ok h; obtain ⟨rfl, h⟩ := h
  replace h := dBlk_ok h; obtain ⟨b10_, m11_, rfl, h⟩ := h
  replace h := dList_ok h; obtain ⟨p2, rfl, h⟩ := h
  replace h := dEnd_ok h; obtain ⟨rfl, h⟩ := h
  refine fun_ok (nt := 7) (x := bodyOf Try.f74) (Γ := Γ74) (H := H74) (WW := W74) (rs := [.tmp 3]) (shs := [.x]) (cons := []) mixed Try.func74 (by decide) (by kernel_rfl) Try.ntmps74 Try.results74 (.cons (useC_ok s75) (GSound.nil)) ?_ hA hN R hl
  rw [ht, e74 p1 p2 K]
  exact h
/-! impl.CopyHeap -/
def G31 : Con := fun args tm K => dCons args fun a1_ r2_ => dAgg a1_ fun l3_ => dCons l3_ fun a4_ r5_ => dPl .int a4_ fun p1 => dCons r5_ fun a6_ r7_ => dPl .int a6_ fun p2 => dCons r7_ fun a8_ r9_ => dPl .int a8_ fun p3 => dNil r9_ <| dNil r2_ <| dEnd tm <| Mi_CopyHeap p1 p2 p3 (fun r1 r2 r3 r4 r5 => K (.tup [.agg [.sl 0, .sl 1, .sl 2], .sl 3, .bool r1]) [⟨true, .list .int r2⟩, ⟨true, .list .int r3⟩, ⟨true, .list .int r4⟩, ⟨true, .list .int r5⟩])
def H31_0 : LH where
  keep := [(1, .pc [.pure .int, .pure .int, .pure .int]), (2, .pc [.own .int, .own .int, .own .int]), (5, .pc [.own .int, .own .int, .own .int]), (8, .x), (32, .own .int), (33, .x), (34, .x)]
  S := Int × Int × List Int × List Int × List Int × List Int × List Int × List Int × List Int × List Int × List Int × List Int
  enc := fun s => ([.ptr 0 0, .ptr 1 0, .ptr 2 0, .fn 74 [] [.ptr 3 0], .sl 4, .int .i64 s.1, .int .i64 s.2.1], [⟨true, .cells [.pl .int s.2.2.1, .pl .int s.2.2.2.1, .pl .int s.2.2.2.2.1]⟩, ⟨true, .cells [.sl 5, .sl 6, .sl 7]⟩, ⟨true, .cells [.sl 8, .sl 9, .sl 10]⟩, ⟨true, .cells [.sl 4]⟩, ⟨true, .list .int s.2.2.2.2.2.1⟩, ⟨true, .list .int s.2.2.2.2.2.2.1⟩, ⟨true, .list .int s.2.2.2.2.2.2.2.1⟩, ⟨true, .list .int s.2.2.2.2.2.2.2.2.1⟩, ⟨true, .list .int s.2.2.2.2.2.2.2.2.2.1⟩, ⟨true, .list .int s.2.2.2.2.2.2.2.2.2.2.1⟩, ⟨true, .list .int s.2.2.2.2.2.2.2.2.2.2.2⟩])
  dec := fun vs tm K => dCons vs fun a1_ r2_ => dPtr 0 a1_ <| dCons r2_ fun a3_ r4_ => dPtr 1 a3_ <| dCons r4_ fun a5_ r6_ => dPtr 2 a5_ <| dCons r6_ fun a7_ r8_ => dFn 74 a7_ fun x9_ y10_ => dNil x9_ <| dCons y10_ fun a11_ r12_ => dPtr 3 a11_ <| dNil r12_ <| dCons r8_ fun a13_ r14_ => dSl 4 a13_ <| dCons r14_ fun a15_ r16_ => dInt .i64 a15_ fun q0 => dCons r16_ fun a17_ r18_ => dInt .i64 a17_ fun q1 => dNil r18_ <| dBlk true tm fun b19_ m20_ => dCells b19_ fun c21_ => dCons c21_ fun a22_ r23_ => dPl .int a22_ fun q2 => dCons r23_ fun a24_ r25_ => dPl .int a24_ fun q3 => dCons r25_ fun a26_ r27_ => dPl .int a26_ fun q4 => dNil r27_ <| dBlk true m20_ fun b28_ m29_ => dCells b28_ fun c30_ => dCons c30_ fun a31_ r32_ => dSl 5 a31_ <| dCons r32_ fun a33_ r34_ => dSl 6 a33_ <| dCons r34_ fun a35_ r36_ => dSl 7 a35_ <| dNil r36_ <| dBlk true m29_ fun b37_ m38_ => dCells b37_ fun c39_ => dCons c39_ fun a40_ r41_ => dSl 8 a40_ <| dCons r41_ fun a42_ r43_ => dSl 9 a42_ <| dCons r43_ fun a44_ r45_ => dSl 10 a44_ <| dNil r45_ <| dBlk true m38_ fun b46_ m47_ => dCells b46_ fun c48_ => dCons c48_ fun a49_ r50_ => dSl 4 a49_ <| dNil r50_ <| dBlk true m47_ fun b51_ m52_ => dList .int b51_ fun q5 => dBlk true m52_ fun b53_ m54_ => dList .int b53_ fun q6 => dBlk true m54_ fun b55_ m56_ => dList .int b55_ fun q7 => dBlk true m56_ fun b57_ m58_ => dList .int b57_ fun q8 => dBlk true m58_ fun b59_ m60_ => dList .int b59_ fun q9 => dBlk true m60_ fun b61_ m62_ => dList .int b61_ fun q10 => dBlk true m62_ fun b63_ m64_ => dList .int b63_ fun q11 => dEnd m64_ <| K (q0, q1, q2, q3, q4, q5, q6, q7, q8, q9, q10, q11)
  law := by
    intro vs tm K h
    replace h := dCons_ok h; obtain ⟨a1_, r2_, rfl, h⟩ := h
    replace h := dPtr_ok h; obtain ⟨rfl, h⟩ := h
    replace h := dCons_ok h; obtain ⟨a3_, r4_, rfl, h⟩ := h
    replace h := dPtr_ok h; obtain ⟨rfl, h⟩ := h
    replace h := dCons_ok h; obtain ⟨a5_, r6_, rfl, h⟩ := h
    replace h := dPtr_ok h; obtain ⟨rfl, h⟩ := h
    replace h := dCons_ok h; obtain ⟨a7_, r8_, rfl, h⟩ := h
    replace h := dFn_ok h; obtain ⟨x9_, y10_, rfl, h⟩ := h
    replace h := dNil_ok h; obtain ⟨rfl, h⟩ := h
    replace h := dCons_ok h; obtain ⟨a11_, r12_, rfl, h⟩ := h
    replace h := dPtr_ok h; obtain ⟨rfl, h⟩ := h
    replace h := dNil_ok h; obtain ⟨rfl, h⟩ := h
    replace h := dCons_ok h; obtain ⟨a13_, r14_, rfl, h⟩ := h
    replace h := dSl_ok h; obtain ⟨rfl, h⟩ := h
    replace h := dCons_ok h; obtain ⟨a15_, r16_, rfl, h⟩ := h
    replace h := dInt_ok h; obtain ⟨q0, rfl, h⟩ := h
    replace h := dCons_ok h; obtain ⟨a17_, r18_, rfl, h⟩ := h
    replace h := dInt_ok h; obtain ⟨q1, rfl, h⟩ := h
    replace h := dNil_ok h; obtain ⟨rfl, h⟩ := h
    replace h := dBlk_ok h; obtain ⟨b19_, m20_, rfl, h⟩ := h
    replace h := dCells_ok h; obtain ⟨c21_, rfl, h⟩ := h
    replace h := dCons_ok h; obtain ⟨a22_, r23_, rfl, h⟩ := h
    replace h := dPl_ok h; obtain ⟨q2, rfl, h⟩ := h
    replace h := dCons_ok h; obtain ⟨a24_, r25_, rfl, h⟩ := h
    replace h := dPl_ok h; obtain ⟨q3, rfl, h⟩ := h
    replace h := dCons_ok h; obtain ⟨a26_, r27_, rfl, h⟩ := h
    replace h := dPl_ok h; obtain ⟨q4, rfl, h⟩ := h
    replace h := dNil_ok h; obtain ⟨rfl, h⟩ := h
    replace h := dBlk_ok h; obtain ⟨b28_, m29_, rfl, h⟩ := h
    replace h := dCells_ok h; obtain ⟨c30_, rfl, h⟩ := h
    replace h := dCons_ok h; obtain ⟨a31_, r32_, rfl, h⟩ := h
    replace h := dSl_ok h; obtain ⟨rfl, h⟩ := h
    replace h := dCons_ok h; obtain ⟨a33_, r34_, rfl, h⟩ := h
    replace h := dSl_ok h; obtain ⟨rfl, h⟩ := h
    replace h := dCons_ok h; obtain ⟨a35_, r36_, rfl, h⟩ := h
    replace h := dSl_ok h; obtain ⟨rfl, h⟩ := h
    replace h := dNil_ok h; obtain ⟨rfl, h⟩ := h
    replace h := dBlk_ok h; obtain ⟨b37_, m38_, rfl, h⟩ := h
    replace h := dCells_ok h; obtain ⟨c39_, rfl, h⟩ := h
    replace h := dCons_ok h; obtain ⟨a40_, r41_, rfl, h⟩ := h
    replace h := dSl_ok h; obtain ⟨rfl, h⟩ := h
    replace h := dCons_ok h; obtain ⟨a42_, r43_, rfl, h⟩ := h
    replace h := dSl_ok h; obtain ⟨rfl, h⟩ := h
    replace h := dCons_ok h; obtain ⟨a44_, r45_, rfl, h⟩ := h
    replace h := dSl_ok h; obtain ⟨rfl, h⟩ := h
    replace h := dNil_ok h; obtain ⟨rfl, h⟩ := h
    replace h := dBlk_ok h; obtain ⟨b46_, m47_, rfl, h⟩ := h
    replace h := dCells_ok h; obtain ⟨c48_, rfl, h⟩ := h
    replace h := dCons_ok h; obtain ⟨a49_, r50_, rfl, h⟩ := h
    replace h := dSl_ok h; obtain ⟨rfl, h⟩ := h
    replace h := dNil_ok h; obtain ⟨rfl, h⟩ := h
    replace h := dBlk_ok h; obtain ⟨b51_, m52_, rfl, h⟩ := h
    replace h := dList_ok h; obtain ⟨q5, rfl, h⟩ := h
    replace h := dBlk_ok h; obtain ⟨b53_, m54_, rfl, h⟩ := h
    replace h := dList_ok h; obtain ⟨q6, rfl, h⟩ := h
    replace h := dBlk_ok h; obtain ⟨b55_, m56_, rfl, h⟩ := h
    replace h := dList_ok h; obtain ⟨q7, rfl, h⟩ := h
    replace h := dBlk_ok h; obtain ⟨b57_, m58_, rfl, h⟩ := h
    replace h := dList_ok h; obtain ⟨q8, rfl, h⟩ := h
    replace h := dBlk_ok h; obtain ⟨b59_, m60_, rfl, h⟩ := h
    replace h := dList_ok h; obtain ⟨q9, rfl, h⟩ := h
    replace h := dBlk_ok h; obtain ⟨b61_, m62_, rfl, h⟩ := h
    replace h := dList_ok h; obtain ⟨q10, rfl, h⟩ := h
    replace h := dBlk_ok h; obtain ⟨b63_, m64_, rfl, h⟩ := h
    replace h := dList_ok h; obtain ⟨q11, rfl, h⟩ := h
    replace h := dEnd_ok h; obtain ⟨rfl, h⟩ := h
    exact ⟨(q0, q1, q2, q3, q4, q5, q6, q7, q8, q9, q10, q11), rfl, h⟩
def H31_2 : LH where
  keep := [(1, .pc [.pure .int, .pure .int, .pure .int]), (2, .pc [.own .int, .own .int, .own .int]), (5, .pc [.own .int, .own .int, .own .int]), (8, .x), (63, .pure .int), (64, .x), (65, .x)]
  S := List Int × Int × Int × List Int × List Int × List Int × List Int × List Int × List Int × List Int × List Int × List Int × List Int
  enc := fun s => ([.ptr 0 0, .ptr 1 0, .ptr 2 0, .fn 74 [] [.ptr 3 0], .pl .int s.1, .int .i64 s.2.1, .int .i64 s.2.2.1], [⟨true, .cells [.pl .int s.2.2.2.1, .pl .int s.2.2.2.2.1, .pl .int s.2.2.2.2.2.1]⟩, ⟨true, .cells [.sl 4, .sl 5, .sl 6]⟩, ⟨true, .cells [.sl 7, .sl 8, .sl 9]⟩, ⟨true, .cells [.sl 10]⟩, ⟨true, .list .int s.2.2.2.2.2.2.1⟩, ⟨true, .list .int s.2.2.2.2.2.2.2.1⟩, ⟨true, .list .int s.2.2.2.2.2.2.2.2.1⟩, ⟨true, .list .int s.2.2.2.2.2.2.2.2.2.1⟩, ⟨true, .list .int s.2.2.2.2.2.2.2.2.2.2.1⟩, ⟨true, .list .int s.2.2.2.2.2.2.2.2.2.2.2.1⟩, ⟨true, .list .int s.2.2.2.2.2.2.2.2.2.2.2.2⟩])
  dec := fun vs tm K => dCons vs fun a1_ r2_ => dPtr 0 a1_ <| dCons r2_ fun a3_ r4_ => dPtr 1 a3_ <| dCons r4_ fun a5_ r6_ => dPtr 2 a5_ <| dCons r6_ fun a7_ r8_ => dFn 74 a7_ fun x9_ y10_ => dNil x9_ <| dCons y10_ fun a11_ r12_ => dPtr 3 a11_ <| dNil r12_ <| dCons r8_ fun a13_ r14_ => dPl .int a13_ fun q0 => dCons r14_ fun a15_ r16_ => dInt .i64 a15_ fun q1 => dCons r16_ fun a17_ r18_ => dInt .i64 a17_ fun q2 => dNil r18_ <| dBlk true tm fun b19_ m20_ => dCells b19_ fun c21_ => dCons c21_ fun a22_ r23_ => dPl .int a22_ fun q3 => dCons r23_ fun a24_ r25_ => dPl .int a24_ fun q4 => dCons r25_ fun a26_ r27_ => dPl .int a26_ fun q5 => dNil r27_ <| dBlk true m20_ fun b28_ m29_ => dCells b28_ fun c30_ => dCons c30_ fun a31_ r32_ => dSl 4 a31_ <| dCons r32_ fun a33_ r34_ => dSl 5 a33_ <| dCons r34_ fun a35_ r36_ => dSl 6 a35_ <| dNil r36_ <| dBlk true m29_ fun b37_ m38_ => dCells b37_ fun c39_ => dCons c39_ fun a40_ r41_ => dSl 7 a40_ <| dCons r41_ fun a42_ r43_ => dSl 8 a42_ <| dCons r43_ fun a44_ r45_ => dSl 9 a44_ <| dNil r45_ <| dBlk true m38_ fun b46_ m47_ => dCells b46_ fun c48_ => dCons c48_ fun a49_ r50_ => dSl 10 a49_ <| dNil r50_ <| dBlk true m47_ fun b51_ m52_ => dList .int b51_ fun q6 => dBlk true m52_ fun b53_ m54_ => dList .int b53_ fun q7 => dBlk true m54_ fun b55_ m56_ => dList .int b55_ fun q8 => dBlk true m56_ fun b57_ m58_ => dList .int b57_ fun q9 => dBlk true m58_ fun b59_ m60_ => dList .int b59_ fun q10 => dBlk true m60_ fun b61_ m62_ => dList .int b61_ fun q11 => dBlk true m62_ fun b63_ m64_ => dList .int b63_ fun q12 => dEnd m64_ <| K (q0, q1, q2, q3, q4, q5, q6, q7, q8, q9, q10, q11, q12)
  law := by
    intro vs tm K h
    replace h := dCons_ok h; obtain ⟨a1_, r2_, rfl, h⟩ := h
    replace h := dPtr_ok h; obtain ⟨rfl, h⟩ := h
    replace h := dCons_ok h; obtain ⟨a3_, r4_, rfl, h⟩ := h
    replace h := dPtr_ok h; obtain ⟨rfl, h⟩ := h
    replace h := dCons_ok h; obtain ⟨a5_, r6_, rfl, h⟩ := h
    replace h := dPtr_ok h; obtain ⟨rfl, h⟩ := h
    replace h := dCons_ok h; obtain ⟨a7_, r8_, rfl, h⟩ := h
    replace h := dFn_ok h; obtain ⟨x9_, y10_, rfl, h⟩ := h
    replace h := dNil_ok h; obtain ⟨rfl, h⟩ := h
    replace h := dCons_ok h; obtain ⟨a11_, r12_, rfl, h⟩ := h
    replace h := dPtr_ok h; obtain ⟨rfl, h⟩ := h
    replace h := dNil_ok h; obtain ⟨rfl, h⟩ := h
    replace h := dCons_ok h; obtain ⟨a13_, r14_, rfl, h⟩ := h
    replace h := dPl_ok h; obtain ⟨q0, rfl, h⟩ := h
    replace h := dCons_ok h; obtain ⟨a15_, r16_, rfl, h⟩ := h
    replace h := dInt_ok h; obtain ⟨q1, rfl, h⟩ := h
    replace h := dCons_ok h; obtain ⟨a17_, r18_, rfl, h⟩ := h
    replace h := dInt_ok h; obtain ⟨q2, rfl, h⟩ := h
    replace h := dNil_ok h; obtain ⟨rfl, h⟩ := h
    replace h := dBlk_ok h; obtain ⟨b19_, m20_, rfl, h⟩ := h
    replace h := dCells_ok h; obtain ⟨c21_, rfl, h⟩ := h
    replace h := dCons_ok h; obtain ⟨a22_, r23_, rfl, h⟩ := h
    replace h := dPl_ok h; obtain ⟨q3, rfl, h⟩ := h
    replace h := dCons_ok h; obtain ⟨a24_, r25_, rfl, h⟩ := h
    replace h := dPl_ok h; obtain ⟨q4, rfl, h⟩ := h
    replace h := dCons_ok h; obtain ⟨a26_, r27_, rfl, h⟩ := h
    replace h := dPl_ok h; obtain ⟨q5, rfl, h⟩ := h
    replace h := dNil_ok h; obtain ⟨rfl, h⟩ := h
    replace h := dBlk_ok h; obtain ⟨b28_, m29_, rfl, h⟩ := h
    replace h := dCells_ok h; obtain ⟨c30_, rfl, h⟩ := h
    replace h := dCons_ok h; obtain ⟨a31_, r32_, rfl, h⟩ := h
    replace h := dSl_ok h; obtain ⟨rfl, h⟩ := h
    replace h := dCons_ok h; obtain ⟨a33_, r34_, rfl, h⟩ := h
    replace h := dSl_ok h; obtain ⟨rfl, h⟩ := h
    replace h := dCons_ok h; obtain ⟨a35_, r36_, rfl, h⟩ := h
    replace h := dSl_ok h; obtain ⟨rfl, h⟩ := h
    replace h := dNil_ok h; obtain ⟨rfl, h⟩ := h
    replace h := dBlk_ok h; obtain ⟨b37_, m38_, rfl, h⟩ := h
    replace h := dCells_ok h; obtain ⟨c39_, rfl, h⟩ := h
    replace h := dCons_ok h; obtain ⟨a40_, r41_, rfl, h⟩ := h
    replace h := dSl_ok h; obtain ⟨rfl, h⟩ := h
    replace h := dCons_ok h; obtain ⟨a42_, r43_, rfl, h⟩ := h
    replace h := dSl_ok h; obtain ⟨rfl, h⟩ := h
    replace h := dCons_ok h; obtain ⟨a44_, r45_, rfl, h⟩ := h
    replace h := dSl_ok h; obtain ⟨rfl, h⟩ := h
    replace h := dNil_ok h; obtain ⟨rfl, h⟩ := h
    replace h := dBlk_ok h; obtain ⟨b46_, m47_, rfl, h⟩ := h
    replace h := dCells_ok h; obtain ⟨c48_, rfl, h⟩ := h
    replace h := dCons_ok h; obtain ⟨a49_, r50_, rfl, h⟩ := h
    replace h := dSl_ok h; obtain ⟨rfl, h⟩ := h
    replace h := dNil_ok h; obtain ⟨rfl, h⟩ := h
    replace h := dBlk_ok h; obtain ⟨b51_, m52_, rfl, h⟩ := h
    replace h := dList_ok h; obtain ⟨q6, rfl, h⟩ := h
    replace h := dBlk_ok h; obtain ⟨b53_, m54_, rfl, h⟩ := h
    replace h := dList_ok h; obtain ⟨q7, rfl, h⟩ := h
    replace h := dBlk_ok h; obtain ⟨b55_, m56_, rfl, h⟩ := h
    replace h := dList_ok h; obtain ⟨q8, rfl, h⟩ := h
    replace h := dBlk_ok h; obtain ⟨b57_, m58_, rfl, h⟩ := h
    replace h := dList_ok h; obtain ⟨q9, rfl, h⟩ := h
    replace h := dBlk_ok h; obtain ⟨b59_, m60_, rfl, h⟩ := h
    replace h := dList_ok h; obtain ⟨q10, rfl, h⟩ := h
    replace h := dBlk_ok h; obtain ⟨b61_, m62_, rfl, h⟩ := h
    replace h := dList_ok h; obtain ⟨q11, rfl, h⟩ := h
    replace h := dBlk_ok h; obtain ⟨b63_, m64_, rfl, h⟩ := h
    replace h := dList_ok h; obtain ⟨q12, rfl, h⟩ := h
    replace h := dEnd_ok h; obtain ⟨rfl, h⟩ := h
    exact ⟨(q0, q1, q2, q3, q4, q5, q6, q7, q8, q9, q10, q11, q12), rfl, h⟩
def H31_4 : LH where
  keep := [(2, .pc [.own .int, .own .int, .own .int]), (5, .pc [.own .int, .own .int, .own .int]), (8, .x), (13, .own .int), (81, .x), (82, .x)]
  S := Int × Int × List Int × List Int × List Int × List Int × List Int × List Int × List Int × List Int
  enc := fun s => ([.ptr 0 0, .ptr 1 0, .fn 74 [] [.ptr 2 0], .sl 3, .int .i64 s.1, .int .i64 s.2.1], [⟨true, .cells [.sl 4, .sl 5, .sl 6]⟩, ⟨true, .cells [.sl 7, .sl 8, .sl 9]⟩, ⟨true, .cells [.sl 10]⟩, ⟨true, .list .int s.2.2.1⟩, ⟨true, .list .int s.2.2.2.1⟩, ⟨true, .list .int s.2.2.2.2.1⟩, ⟨true, .list .int s.2.2.2.2.2.1⟩, ⟨true, .list .int s.2.2.2.2.2.2.1⟩, ⟨true, .list .int s.2.2.2.2.2.2.2.1⟩, ⟨true, .list .int s.2.2.2.2.2.2.2.2.1⟩, ⟨true, .list .int s.2.2.2.2.2.2.2.2.2⟩])
  dec := fun vs tm K => dCons vs fun a1_ r2_ => dPtr 0 a1_ <| dCons r2_ fun a3_ r4_ => dPtr 1 a3_ <| dCons r4_ fun a5_ r6_ => dFn 74 a5_ fun x7_ y8_ => dNil x7_ <| dCons y8_ fun a9_ r10_ => dPtr 2 a9_ <| dNil r10_ <| dCons r6_ fun a11_ r12_ => dSl 3 a11_ <| dCons r12_ fun a13_ r14_ => dInt .i64 a13_ fun q0 => dCons r14_ fun a15_ r16_ => dInt .i64 a15_ fun q1 => dNil r16_ <| dBlk true tm fun b17_ m18_ => dCells b17_ fun c19_ => dCons c19_ fun a20_ r21_ => dSl 4 a20_ <| dCons r21_ fun a22_ r23_ => dSl 5 a22_ <| dCons r23_ fun a24_ r25_ => dSl 6 a24_ <| dNil r25_ <| dBlk true m18_ fun b26_ m27_ => dCells b26_ fun c28_ => dCons c28_ fun a29_ r30_ => dSl 7 a29_ <| dCons r30_ fun a31_ r32_ => dSl 8 a31_ <| dCons r32_ fun a33_ r34_ => dSl 9 a33_ <| dNil r34_ <| dBlk true m27_ fun b35_ m36_ => dCells b35_ fun c37_ => dCons c37_ fun a38_ r39_ => dSl 10 a38_ <| dNil r39_ <| dBlk true m36_ fun b40_ m41_ => dList .int b40_ fun q2 => dBlk true m41_ fun b42_ m43_ => dList .int b42_ fun q3 => dBlk true m43_ fun b44_ m45_ => dList .int b44_ fun q4 => dBlk true m45_ fun b46_ m47_ => dList .int b46_ fun q5 => dBlk true m47_ fun b48_ m49_ => dList .int b48_ fun q6 => dBlk true m49_ fun b50_ m51_ => dList .int b50_ fun q7 => dBlk true m51_ fun b52_ m53_ => dList .int b52_ fun q8 => dBlk true m53_ fun b54_ m55_ => dList .int b54_ fun q9 => dEnd m55_ <| K (q0, q1, q2, q3, q4, q5, q6, q7, q8, q9)
  law := by
    intro vs tm K h
    replace h := dCons_ok h; obtain ⟨a1_, r2_, rfl, h⟩ := h
    replace h := dPtr_ok h; obtain ⟨rfl, h⟩ := h
    replace h := dCons_ok h; obtain ⟨a3_, r4_, rfl, h⟩ := h
    replace h := dPtr_ok h; obtain ⟨rfl, h⟩ := h
    replace h := dCons_ok h; obtain ⟨a5_, r6_, rfl, h⟩ := h
    replace h := dFn_ok h; obtain ⟨x7_, y8_, rfl, h⟩ := h
    replace h := dNil_ok h; obtain ⟨rfl, h⟩ := h
    replace h := dCons_ok h; obtain ⟨a9_, r10_, rfl, h⟩ := h
    replace h := dPtr_ok h; obtain ⟨rfl, h⟩ := h
    replace h := dNil_ok h; obtain ⟨rfl, h⟩ := h
    replace h := dCons_ok h; obtain ⟨a11_, r12_, rfl, h⟩ := h
    replace h := dSl_ok h; obtain ⟨rfl, h⟩ := h
    replace h := dCons_ok h; obtain ⟨a13_, r14_, rfl, h⟩ := h
    replace h := dInt_ok h; obtain ⟨q0, rfl, h⟩ := h
    replace h := dCons_ok h; obtain ⟨a15_, r16_, rfl, h⟩ := h
    replace h := dInt_ok h; obtain ⟨q1, rfl, h⟩ := h
    replace h := dNil_ok h; obtain ⟨rfl, h⟩ := h
    replace h := dBlk_ok h; obtain ⟨b17_, m18_, rfl, h⟩ := h
    replace h := dCells_ok h; obtain ⟨c19_, rfl, h⟩ := h
    replace h := dCons_ok h; obtain ⟨a20_, r21_, rfl, h⟩ := h
    replace h := dSl_ok h; obtain ⟨rfl, h⟩ := h
    replace h := dCons_ok h; obtain ⟨a22_, r23_, rfl, h⟩ := h
    replace h := dSl_ok h; obtain ⟨rfl, h⟩ := h
    replace h := dCons_ok h; obtain ⟨a24_, r25_, rfl, h⟩ := h
    replace h := dSl_ok h; obtain ⟨rfl, h⟩ := h
    replace h := dNil_ok h; obtain ⟨rfl, h⟩ := h
    replace h := dBlk_ok h; obtain ⟨b26_, m27_, rfl, h⟩ := h
    replace h := dCells_ok h; obtain ⟨c28_, rfl, h⟩ := h
    replace h := dCons_ok h; obtain ⟨a29_, r30_, rfl, h⟩ := h
    replace h := dSl_ok h; obtain ⟨rfl, h⟩ := h
    replace h := dCons_ok h; obtain ⟨a31_, r32_, rfl, h⟩ := h
    replace h := dSl_ok h; obtain ⟨rfl, h⟩ := h
    replace h := dCons_ok h; obtain ⟨a33_, r34_, rfl, h⟩ := h
    replace h := dSl_ok h; obtain ⟨rfl, h⟩ := h
    replace h := dNil_ok h; obtain ⟨rfl, h⟩ := h
    replace h := dBlk_ok h; obtain ⟨b35_, m36_, rfl, h⟩ := h
    replace h := dCells_ok h; obtain ⟨c37_, rfl, h⟩ := h
    replace h := dCons_ok h; obtain ⟨a38_, r39_, rfl, h⟩ := h
    replace h := dSl_ok h; obtain ⟨rfl, h⟩ := h
    replace h := dNil_ok h; obtain ⟨rfl, h⟩ := h
    replace h := dBlk_ok h; obtain ⟨b40_, m41_, rfl, h⟩ := h
    replace h := dList_ok h; obtain ⟨q2, rfl, h⟩ := h
    replace h := dBlk_ok h; obtain ⟨b42_, m43_, rfl, h⟩ := h
    replace h := dList_ok h; obtain ⟨q3, rfl, h⟩ := h
    replace h := dBlk_ok h; obtain ⟨b44_, m45_, rfl, h⟩ := h
    replace h := dList_ok h; obtain ⟨q4, rfl, h⟩ := h
    replace h := dBlk_ok h; obtain ⟨b46_, m47_, rfl, h⟩ := h
    replace h := dList_ok h; obtain ⟨q5, rfl, h⟩ := h
    replace h := dBlk_ok h; obtain ⟨b48_, m49_, rfl, h⟩ := h
    replace h := dList_ok h; obtain ⟨q6, rfl, h⟩ := h
    replace h := dBlk_ok h; obtain ⟨b50_, m51_, rfl, h⟩ := h
    replace h := dList_ok h; obtain ⟨q7, rfl, h⟩ := h
    replace h := dBlk_ok h; obtain ⟨b52_, m53_, rfl, h⟩ := h
    replace h := dList_ok h; obtain ⟨q8, rfl, h⟩ := h
    replace h := dBlk_ok h; obtain ⟨b54_, m55_, rfl, h⟩ := h
    replace h := dList_ok h; obtain ⟨q9, rfl, h⟩ := h
    replace h := dEnd_ok h; obtain ⟨rfl, h⟩ := h
    exact ⟨(q0, q1, q2, q3, q4, q5, q6, q7, q8, q9), rfl, h⟩
def H31_1000022 : LH where
  keep := [(2, .pc [.own .int, .own .int, .own .int]), (5, .pc [.own .int, .own .int, .own .int]), (13, .own .int)]
  S := List Int × List Int × List Int × List Int × List Int × List Int × List Int
  enc := fun s => ([.ptr 0 0, .ptr 1 0, .sl 2], [⟨true, .cells [.sl 3, .sl 4, .sl 5]⟩, ⟨true, .cells [.sl 6, .sl 7, .sl 8]⟩, ⟨true, .list .int s.1⟩, ⟨true, .list .int s.2.1⟩, ⟨true, .list .int s.2.2.1⟩, ⟨true, .list .int s.2.2.2.1⟩, ⟨true, .list .int s.2.2.2.2.1⟩, ⟨true, .list .int s.2.2.2.2.2.1⟩, ⟨true, .list .int s.2.2.2.2.2.2⟩])
  dec := fun vs tm K => dCons vs fun a1_ r2_ => dPtr 0 a1_ <| dCons r2_ fun a3_ r4_ => dPtr 1 a3_ <| dCons r4_ fun a5_ r6_ => dSl 2 a5_ <| dNil r6_ <| dBlk true tm fun b7_ m8_ => dCells b7_ fun c9_ => dCons c9_ fun a10_ r11_ => dSl 3 a10_ <| dCons r11_ fun a12_ r13_ => dSl 4 a12_ <| dCons r13_ fun a14_ r15_ => dSl 5 a14_ <| dNil r15_ <| dBlk true m8_ fun b16_ m17_ => dCells b16_ fun c18_ => dCons c18_ fun a19_ r20_ => dSl 6 a19_ <| dCons r20_ fun a21_ r22_ => dSl 7 a21_ <| dCons r22_ fun a23_ r24_ => dSl 8 a23_ <| dNil r24_ <| dBlk true m17_ fun b25_ m26_ => dList .int b25_ fun q0 => dBlk true m26_ fun b27_ m28_ => dList .int b27_ fun q1 => dBlk true m28_ fun b29_ m30_ => dList .int b29_ fun q2 => dBlk true m30_ fun b31_ m32_ => dList .int b31_ fun q3 => dBlk true m32_ fun b33_ m34_ => dList .int b33_ fun q4 => dBlk true m34_ fun b35_ m36_ => dList .int b35_ fun q5 => dBlk true m36_ fun b37_ m38_ => dList .int b37_ fun q6 => dEnd m38_ <| K (q0, q1, q2, q3, q4, q5, q6)
  law := by
    intro vs tm K h
    replace h := dCons_ok h; obtain ⟨a1_, r2_, rfl, h⟩ := h
    replace h := dPtr_ok h; obtain ⟨rfl, h⟩ := h
    replace h := dCons_ok h; obtain ⟨a3_, r4_, rfl, h⟩ := h
    replace h := dPtr_ok h; obtain ⟨rfl, h⟩ := h
    replace h := dCons_ok h; obtain ⟨a5_, r6_, rfl, h⟩ := h
    replace h := dSl_ok h; obtain ⟨rfl, h⟩ := h
    replace h := dNil_ok h; obtain ⟨rfl, h⟩ := h
    replace h := dBlk_ok h; obtain ⟨b7_, m8_, rfl, h⟩ := h
    replace h := dCells_ok h; obtain ⟨c9_, rfl, h⟩ := h
    replace h := dCons_ok h; obtain ⟨a10_, r11_, rfl, h⟩ := h
    replace h := dSl_ok h; obtain ⟨rfl, h⟩ := h
    replace h := dCons_ok h; obtain ⟨a12_, r13_, rfl, h⟩ := h
    replace h := dSl_ok h; obtain ⟨rfl, h⟩ := h
    replace h := dCons_ok h; obtain ⟨a14_, r15_, rfl, h⟩ := h
    replace h := dSl_ok h; obtain ⟨rfl, h⟩ := h
    replace h := dNil_ok h; obtain ⟨rfl, h⟩ := h
    replace h := dBlk_ok h; obtain ⟨b16_, m17_, rfl, h⟩ := h
    replace h := dCells_ok h; obtain ⟨c18_, rfl, h⟩ := h
    replace h := dCons_ok h; obtain ⟨a19_, r20_, rfl, h⟩ := h
    replace h := dSl_ok h; obtain ⟨rfl, h⟩ := h
    replace h := dCons_ok h; obtain ⟨a21_, r22_, rfl, h⟩ := h
    replace h := dSl_ok h; obtain ⟨rfl, h⟩ := h
    replace h := dCons_ok h; obtain ⟨a23_, r24_, rfl, h⟩ := h
    replace h := dSl_ok h; obtain ⟨rfl, h⟩ := h
    replace h := dNil_ok h; obtain ⟨rfl, h⟩ := h
    replace h := dBlk_ok h; obtain ⟨b25_, m26_, rfl, h⟩ := h
    replace h := dList_ok h; obtain ⟨q0, rfl, h⟩ := h
    replace h := dBlk_ok h; obtain ⟨b27_, m28_, rfl, h⟩ := h
    replace h := dList_ok h; obtain ⟨q1, rfl, h⟩ := h
    replace h := dBlk_ok h; obtain ⟨b29_, m30_, rfl, h⟩ := h
    replace h := dList_ok h; obtain ⟨q2, rfl, h⟩ := h
    replace h := dBlk_ok h; obtain ⟨b31_, m32_, rfl, h⟩ := h
    replace h := dList_ok h; obtain ⟨q3, rfl, h⟩ := h
    replace h := dBlk_ok h; obtain ⟨b33_, m34_, rfl, h⟩ := h
    replace h := dList_ok h; obtain ⟨q4, rfl, h⟩ := h
    replace h := dBlk_ok h; obtain ⟨b35_, m36_, rfl, h⟩ := h
    replace h := dList_ok h; obtain ⟨q5, rfl, h⟩ := h
    replace h := dBlk_ok h; obtain ⟨b37_, m38_, rfl, h⟩ := h
    replace h := dList_ok h; obtain ⟨q6, rfl, h⟩ := h
    replace h := dEnd_ok h; obtain ⟨rfl, h⟩ := h
    exact ⟨(q0, q1, q2, q3, q4, q5, q6), rfl, h⟩
def H31 : List (Nat × LH) := [(0, H31_0), (2, H31_2), (4, H31_4), (1000022, H31_1000022)]
def W31 : List (Nat × List (Nat × List Nat)) := [(9, [(8, [21])])]
def Γ31 : List (Nat × Con) := [(40, useC [.ag [.pure .int, .pure .int, .pure .int]] G40), (63, useC [.x, .x] G63), (29, useC [.ag [.pure .int, .pure .int, .pure .int]] G29), (74, useC [.x, .pc [.own .int]] (onlyC [] G74))]
theorem e31 (p1 : List Int) (p2 : List Int) (p3 : List Int) (K : TV → TMem → Prop) : TW PP 94 Γ31 H31 W31 (List.length ([] : TMem)) (bodyOf Try.f31) (endT PP 94 [.cell 2 26, .tmp 3, .tmp 4] [.ag [.own .int, .own .int, .own .int], .own .int, .bl] [] (List.length ([] : TMem)) K) (argsF [.agg [.pl .int p1, .pl .int p2, .pl .int p3]]) [] =
    Mi_CopyHeap p1 p2 p3 (fun r1 r2 r3 r4 r5 => K (.tup [.agg [.sl 0, .sl 1, .sl 2], .sl 3, .bool r1]) [⟨true, .list .int r2⟩, ⟨true, .list .int r3⟩, ⟨true, .list .int r4⟩, ⟨true, .list .int r5⟩]) := by kernel_rfl
theorem s31 : CSound PP 31 G31 := by
  intro args K c h fl A aargs hA hN R hl
  unfold G31 at h
  generalize ht : c.tm = tm at h
  replace h := dCons_ok h; obtain ⟨a1_, r2_, rfl, h⟩ := h
  replace h := dAgg_ok h; obtain ⟨l3_, rfl, h⟩ := h
  replace h := dCons_ok h; obtain ⟨a4_, r5_, rfl, h⟩ := h
  replace h := dPl_ok h; obtain ⟨p1, rfl, h⟩ := h
  replace h := dCons_ok h; obtain ⟨a6_, r7_, rfl, h⟩ := h
  replace h := dPl_ok h; obtain ⟨p2, rfl, h⟩ := h
  replace h := dCons_ok h; obtain ⟨a8_, r9_, rfl, h⟩ := h
  replace h := dPl_ok h; obtain ⟨p3, rfl, h⟩ := h
  replace h := dNil_ok h; obtain ⟨rfl, h⟩ := h
  replace h := dNil_ok h; obtain ⟨rfl, h⟩ := h
  replace h := dEnd_ok h; obtain ⟨rfl, h⟩ := h
  refine fun_ok (nt := 94) (x := bodyOf Try.f31) (Γ := Γ31) (H := H31) (WW := W31) (rs := [.cell 2 26, .tmp 3, .tmp 4]) (shs := [.ag [.own .int, .own .int, .own .int], .own .int, .bl]) (cons := []) mixed Try.func31 (by decide) (by kernel_rfl) Try.ntmps31 Try.results31 (.cons (useC_ok s40) (.cons (useC_ok s63) (.cons (useC_ok s29) (.cons (useC_ok (onlyC_ok s74)) (GSound.nil))))) ?_ hA hN R hl
  rw [ht, e31 p1 p2 p3 K]
  exact h
/-! spec.l10Meet -/
def G106 : Con := fun args tm K => dCons args fun a1_ r2_ => dSl 0 a1_ <| dCons r2_ fun a3_ r4_ => dInt .i64 a3_ fun p1 => dNil r4_ <| dBlk true tm fun b5_ m6_ => dList .int b5_ fun p2 => dEnd m6_ <| Ms_l10Meet p1 p2 (fun r1 => K (.sl 1) [⟨true, .dead⟩, ⟨true, .list .int r1⟩])
def H106 : List (Nat × LH) := []
def W106 : List (Nat × List (Nat × List Nat)) := []
def Γ106 : List (Nat × Con) := [(102, useC [.pure .int, .x] G102)]
theorem e106 (p1 : Int) (p2 : List Int) (K : TV → TMem → Prop) : TW PP 20 Γ106 H106 W106 (List.length ([⟨true, .list .int p2⟩] : TMem)) (bodyOf Try.f106) (endT PP 20 [.tmp 4] [.own .int] [0] (List.length ([⟨true, .list .int p2⟩] : TMem)) K) (argsF [.sl 0, .int .i64 p1]) [⟨true, .list .int p2⟩] =
    Ms_l10Meet p1 p2 (fun r1 => K (.sl 1) [⟨true, .dead⟩, ⟨true, .list .int r1⟩]) := by kernel_rfl
theorem s106 : CSound PP 106 G106 := by
  intro args K c h fl A aargs hA hN R hl
  unfold G106 at h
  generalize ht : c.tm = tm at h
  replace h := dCons_ok h; obtain ⟨a1_, r2_, rfl, h⟩ := h
  replace h := dSl_ok h; obtain ⟨rfl, h⟩ := h
  replace h := dCons_ok h; obtain ⟨a3_, r4_, rfl, h⟩ := h
  replace h := dInt_ok h; obtain ⟨p1, rfl, h⟩ := h
  replace h := dNil_ok h; obtain ⟨rfl, h⟩ := h
  replace h := dBlk_ok h; obtain ⟨b5_, m6_, rfl, h⟩ := h
  replace h := dList_ok h; obtain ⟨p2, rfl, h⟩ := h
  replace h := dEnd_ok h; obtain ⟨rfl, h⟩ := h
  refine fun_ok (nt := 20) (x := bodyOf Try.f106) (Γ := Γ106) (H := H106) (WW := W106) (rs := [.tmp 4]) (shs := [.own .int]) (cons := [0]) mixed Try.func106 (by decide) (by kernel_rfl) Try.ntmps106 Try.results106 (.cons (useC_ok s102) (GSound.nil)) ?_ hA hN R hl
  rw [ht, e106 p1 p2 K]
  exact h
/-! spec.l10Order -/
def G77 : Con := fun args tm K => dCons args fun a1_ r2_ => dAgg a1_ fun l3_ => dCons l3_ fun a4_ r5_ => dPl .int a4_ fun p1 => dCons r5_ fun a6_ r7_ => dPl .int a6_ fun p2 => dCons r7_ fun a8_ r9_ => dPl .int a8_ fun p3 => dNil r9_ <| dNil r2_ <| dEnd tm <| Ms_l10Order p1 p2 p3 (fun r1 => K (.sl 0) [⟨true, .list .int r1⟩])
def H77_0 : LH where
  keep := [(1, .pc [.pure .int, .pure .int, .pure .int]), (3, .own .int), (4, .x)]
  S := Int × List Int × List Int × List Int × List Int
  enc := fun s => ([.ptr 0 0, .sl 1, .int .i64 s.1], [⟨true, .cells [.pl .int s.2.1, .pl .int s.2.2.1, .pl .int s.2.2.2.1]⟩, ⟨true, .list .int s.2.2.2.2⟩])
  dec := fun vs tm K => dCons vs fun a1_ r2_ => dPtr 0 a1_ <| dCons r2_ fun a3_ r4_ => dSl 1 a3_ <| dCons r4_ fun a5_ r6_ => dInt .i64 a5_ fun q0 => dNil r6_ <| dBlk true tm fun b7_ m8_ => dCells b7_ fun c9_ => dCons c9_ fun a10_ r11_ => dPl .int a10_ fun q1 => dCons r11_ fun a12_ r13_ => dPl .int a12_ fun q2 => dCons r13_ fun a14_ r15_ => dPl .int a14_ fun q3 => dNil r15_ <| dBlk true m8_ fun b16_ m17_ => dList .int b16_ fun q4 => dEnd m17_ <| K (q0, q1, q2, q3, q4)
  law := by
    intro vs tm K h
    replace h := dCons_ok h; obtain ⟨a1_, r2_, rfl, h⟩ := h
    replace h := dPtr_ok h; obtain ⟨rfl, h⟩ := h
    replace h := dCons_ok h; obtain ⟨a3_, r4_, rfl, h⟩ := h
    replace h := dSl_ok h; obtain ⟨rfl, h⟩ := h
    replace h := dCons_ok h; obtain ⟨a5_, r6_, rfl, h⟩ := h
    replace h := dInt_ok h; obtain ⟨q0, rfl, h⟩ := h
    replace h := dNil_ok h; obtain ⟨rfl, h⟩ := h
    replace h := dBlk_ok h; obtain ⟨b7_, m8_, rfl, h⟩ := h
    replace h := dCells_ok h; obtain ⟨c9_, rfl, h⟩ := h
    replace h := dCons_ok h; obtain ⟨a10_, r11_, rfl, h⟩ := h
    replace h := dPl_ok h; obtain ⟨q1, rfl, h⟩ := h
    replace h := dCons_ok h; obtain ⟨a12_, r13_, rfl, h⟩ := h
    replace h := dPl_ok h; obtain ⟨q2, rfl, h⟩ := h
    replace h := dCons_ok h; obtain ⟨a14_, r15_, rfl, h⟩ := h
    replace h := dPl_ok h; obtain ⟨q3, rfl, h⟩ := h
    replace h := dNil_ok h; obtain ⟨rfl, h⟩ := h
    replace h := dBlk_ok h; obtain ⟨b16_, m17_, rfl, h⟩ := h
    replace h := dList_ok h; obtain ⟨q4, rfl, h⟩ := h
    replace h := dEnd_ok h; obtain ⟨rfl, h⟩ := h
    exact ⟨(q0, q1, q2, q3, q4), rfl, h⟩
def H77_2 : LH where
  keep := [(1, .pc [.pure .int, .pure .int, .pure .int]), (3, .own .int), (5, .x)]
  S := Int × List Int × List Int × List Int × List Int
  enc := fun s => ([.ptr 0 0, .sl 1, .int .i64 s.1], [⟨true, .cells [.pl .int s.2.1, .pl .int s.2.2.1, .pl .int s.2.2.2.1]⟩, ⟨true, .list .int s.2.2.2.2⟩])
  dec := fun vs tm K => dCons vs fun a1_ r2_ => dPtr 0 a1_ <| dCons r2_ fun a3_ r4_ => dSl 1 a3_ <| dCons r4_ fun a5_ r6_ => dInt .i64 a5_ fun q0 => dNil r6_ <| dBlk true tm fun b7_ m8_ => dCells b7_ fun c9_ => dCons c9_ fun a10_ r11_ => dPl .int a10_ fun q1 => dCons r11_ fun a12_ r13_ => dPl .int a12_ fun q2 => dCons r13_ fun a14_ r15_ => dPl .int a14_ fun q3 => dNil r15_ <| dBlk true m8_ fun b16_ m17_ => dList .int b16_ fun q4 => dEnd m17_ <| K (q0, q1, q2, q3, q4)
  law := by
    intro vs tm K h
    replace h := dCons_ok h; obtain ⟨a1_, r2_, rfl, h⟩ := h
    replace h := dPtr_ok h; obtain ⟨rfl, h⟩ := h
    replace h := dCons_ok h; obtain ⟨a3_, r4_, rfl, h⟩ := h
    replace h := dSl_ok h; obtain ⟨rfl, h⟩ := h
    replace h := dCons_ok h; obtain ⟨a5_, r6_, rfl, h⟩ := h
    replace h := dInt_ok h; obtain ⟨q0, rfl, h⟩ := h
    replace h := dNil_ok h; obtain ⟨rfl, h⟩ := h
    replace h := dBlk_ok h; obtain ⟨b7_, m8_, rfl, h⟩ := h
    replace h := dCells_ok h; obtain ⟨c9_, rfl, h⟩ := h
    replace h := dCons_ok h; obtain ⟨a10_, r11_, rfl, h⟩ := h
    replace h := dPl_ok h; obtain ⟨q1, rfl, h⟩ := h
    replace h := dCons_ok h; obtain ⟨a12_, r13_, rfl, h⟩ := h
    replace h := dPl_ok h; obtain ⟨q2, rfl, h⟩ := h
    replace h := dCons_ok h; obtain ⟨a14_, r15_, rfl, h⟩ := h
    replace h := dPl_ok h; obtain ⟨q3, rfl, h⟩ := h
    replace h := dNil_ok h; obtain ⟨rfl, h⟩ := h
    replace h := dBlk_ok h; obtain ⟨b16_, m17_, rfl, h⟩ := h
    replace h := dList_ok h; obtain ⟨q4, rfl, h⟩ := h
    replace h := dEnd_ok h; obtain ⟨rfl, h⟩ := h
    exact ⟨(q0, q1, q2, q3, q4), rfl, h⟩
def H77_1000011 : LH where
  keep := [(3, .own .int)]
  S := List Int
  enc := fun s => ([.sl 0], [⟨true, .list .int s⟩])
  dec := fun vs tm K => dCons vs fun a1_ r2_ => dSl 0 a1_ <| dNil r2_ <| dBlk true tm fun b3_ m4_ => dList .int b3_ fun q0 => dEnd m4_ <| K q0
  law := by
    intro vs tm K h
    replace h := dCons_ok h; obtain ⟨a1_, r2_, rfl, h⟩ := h
    replace h := dSl_ok h; obtain ⟨rfl, h⟩ := h
    replace h := dNil_ok h; obtain ⟨rfl, h⟩ := h
    replace h := dBlk_ok h; obtain ⟨b3_, m4_, rfl, h⟩ := h
    replace h := dList_ok h; obtain ⟨q0, rfl, h⟩ := h
    replace h := dEnd_ok h; obtain ⟨rfl, h⟩ := h
    exact ⟨q0, rfl, h⟩
def H77 : List (Nat × LH) := [(0, H77_0), (2, H77_2), (1000011, H77_1000011)]
def W77 : List (Nat × List (Nat × List Nat)) := []
def Γ77 : List (Nat × Con) := [(106, useC [.own .int, .x] G106)]
theorem e77 (p1 : List Int) (p2 : List Int) (p3 : List Int) (K : TV → TMem → Prop) : TW PP 48 Γ77 H77 W77 (List.length ([] : TMem)) (bodyOf Try.f77) (endT PP 48 [.tmp 2] [.own .int] [] (List.length ([] : TMem)) K) (argsF [.agg [.pl .int p1, .pl .int p2, .pl .int p3]]) [] =
    Ms_l10Order p1 p2 p3 (fun r1 => K (.sl 0) [⟨true, .list .int r1⟩]) := by kernel_rfl
theorem s77 : CSound PP 77 G77 := by
  intro args K c h fl A aargs hA hN R hl
  unfold G77 at h
  generalize ht : c.tm = tm at h
  replace h := dCons_ok h; obtain ⟨a1_, r2_, rfl, h⟩ := h
  replace h := dAgg_ok h; obtain ⟨l3_, rfl, h⟩ := h
  replace h := dCons_ok h; obtain ⟨a4_, r5_, rfl, h⟩ := h
  replace h := dPl_ok h; obtain ⟨p1, rfl, h⟩ := h
  replace h := dCons_ok h; obtain ⟨a6_, r7_, rfl, h⟩ := h
  replace h := dPl_ok h; obtain ⟨p2, rfl, h⟩ := h
  replace h := dCons_ok h; obtain ⟨a8_, r9_, rfl, h⟩ := h
  replace h := dPl_ok h; obtain ⟨p3, rfl, h⟩ := h
  replace h := dNil_ok h; obtain ⟨rfl, h⟩ := h
  replace h := dNil_ok h; obtain ⟨rfl, h⟩ := h
  replace h := dEnd_ok h; obtain ⟨rfl, h⟩ := h
  refine fun_ok (nt := 48) (x := bodyOf Try.f77) (Γ := Γ77) (H := H77) (WW := W77) (rs := [.tmp 2]) (shs := [.own .int]) (cons := []) mixed Try.func77 (by decide) (by kernel_rfl) Try.ntmps77 Try.results77 (.cons (useC_ok s106) (GSound.nil)) ?_ hA hN R hl
  rw [ht, e77 p1 p2 p3 K]
  exact h
/-! spec.l10To -/
def G79 : Con := fun args tm K => dCons args fun a1_ r2_ => dPl .int a1_ fun p1 => dCons r2_ fun a3_ r4_ => dInt .i64 a3_ fun p2 => dNil r4_ <| dEnd tm <| Ms_l10To p1 p2 (fun r1 => K (.int .i64 r1) [])
def H79 : List (Nat × LH) := []
def W79 : List (Nat × List (Nat × List Nat)) := []
def Γ79 : List (Nat × Con) := [(102, useC [.pure .int, .x] G102)]
theorem e79 (p1 : List Int) (p2 : Int) (K : TV → TMem → Prop) : TW PP 10 Γ79 H79 W79 (List.length ([] : TMem)) (bodyOf Try.f79) (endT PP 10 [.tmp 4] [.x] [] (List.length ([] : TMem)) K) (argsF [.pl .int p1, .int .i64 p2]) [] =
    Ms_l10To p1 p2 (fun r1 => K (.int .i64 r1) []) := by kernel_rfl
theorem s79 : CSound PP 79 G79 := by
  intro args K c h fl A aargs hA hN R hl
  unfold G79 at h
  generalize ht : c.tm = tm at h
  replace h := dCons_ok h; obtain ⟨a1_, r2_, rfl, h⟩ := h
  replace h := dPl_ok h; obtain ⟨p1, rfl, h⟩ := h
  replace h := dCons_ok h; obtain ⟨a3_, r4_, rfl, h⟩ := h
  replace h := dInt_ok h; obtain ⟨p2, rfl, h⟩ := h
  replace h := dNil_ok h; obtain ⟨rfl, h⟩ := h
  replace h := dEnd_ok h; obtain ⟨rfl, h⟩ := h
  refine fun_ok (nt := 10) (x := bodyOf Try.f79) (Γ := Γ79) (H := H79) (WW := W79) (rs := [.tmp 4]) (shs := [.x]) (cons := []) mixed Try.func79 (by decide) (by kernel_rfl) Try.ntmps79 Try.results79 (.cons (useC_ok s102) (GSound.nil)) ?_ hA hN R hl
  rw [ht, e79 p1 p2 K]
  exact h
/-! spec.CopyHeap -/
def G32 : Con := fun args tm K => dCons args fun a1_ r2_ => dAgg a1_ fun l3_ => dCons l3_ fun a4_ r5_ => dPl .int a4_ fun p1 => dCons r5_ fun a6_ r7_ => dPl .int a6_ fun p2 => dCons r7_ fun a8_ r9_ => dPl .int a8_ fun p3 => dNil r9_ <| dNil r2_ <| dEnd tm <| Ms_CopyHeap p1 p2 p3 (fun r1 r2 r3 r4 r5 => K (.tup [.agg [.sl 0, .sl 1, .sl 2], .sl 3, .bool r1]) [⟨true, .list .int r2⟩, ⟨true, .list .int r3⟩, ⟨true, .list .int r4⟩, ⟨true, .list .int r5⟩])
def H32_0 : LH where
  keep := [(1, .pc [.pure .int, .pure .int, .pure .int]), (2, .pc [.own .int, .own .int, .own .int]), (5, .own .int), (6, .pc [.own .int, .own .int, .own .int]), (7, .own .int), (8, .x)]
  S := Int × List Int × List Int × List Int × List Int × List Int × List Int × List Int × List Int × List Int × List Int × List Int
  enc := fun s => ([.ptr 0 0, .ptr 1 0, .sl 2, .ptr 3 0, .sl 4, .int .i64 s.1], [⟨true, .cells [.pl .int s.2.1, .pl .int s.2.2.1, .pl .int s.2.2.2.1]⟩, ⟨true, .cells [.sl 5, .sl 6, .sl 7]⟩, ⟨true, .list .int s.2.2.2.2.1⟩, ⟨true, .cells [.sl 8, .sl 9, .sl 10]⟩, ⟨true, .list .int s.2.2.2.2.2.1⟩, ⟨true, .list .int s.2.2.2.2.2.2.1⟩, ⟨true, .list .int s.2.2.2.2.2.2.2.1⟩, ⟨true, .list .int s.2.2.2.2.2.2.2.2.1⟩, ⟨true, .list .int s.2.2.2.2.2.2.2.2.2.1⟩, ⟨true, .list .int s.2.2.2.2.2.2.2.2.2.2.1⟩, ⟨true, .list .int s.2.2.2.2.2.2.2.2.2.2.2⟩])
  dec := fun vs tm K => dCons vs fun a1_ r2_ => dPtr 0 a1_ <| dCons r2_ fun a3_ r4_ => dPtr 1 a3_ <| dCons r4_ fun a5_ r6_ => dSl 2 a5_ <| dCons r6_ fun a7_ r8_ => dPtr 3 a7_ <| dCons r8_ fun a9_ r10_ => dSl 4 a9_ <| dCons r10_ fun a11_ r12_ => dInt .i64 a11_ fun q0 => dNil r12_ <| dBlk true tm fun b13_ m14_ => dCells b13_ fun c15_ => dCons c15_ fun a16_ r17_ => dPl .int a16_ fun q1 => dCons r17_ fun a18_ r19_ => dPl .int a18_ fun q2 => dCons r19_ fun a20_ r21_ => dPl .int a20_ fun q3 => dNil r21_ <| dBlk true m14_ fun b22_ m23_ => dCells b22_ fun c24_ => dCons c24_ fun a25_ r26_ => dSl 5 a25_ <| dCons r26_ fun a27_ r28_ => dSl 6 a27_ <| dCons r28_ fun a29_ r30_ => dSl 7 a29_ <| dNil r30_ <| dBlk true m23_ fun b31_ m32_ => dList .int b31_ fun q4 => dBlk true m32_ fun b33_ m34_ => dCells b33_ fun c35_ => dCons c35_ fun a36_ r37_ => dSl 8 a36_ <| dCons r37_ fun a38_ r39_ => dSl 9 a38_ <| dCons r39_ fun a40_ r41_ => dSl 10 a40_ <| dNil r41_ <| dBlk true m34_ fun b42_ m43_ => dList .int b42_ fun q5 => dBlk true m43_ fun b44_ m45_ => dList .int b44_ fun q6 => dBlk true m45_ fun b46_ m47_ => dList .int b46_ fun q7 => dBlk true m47_ fun b48_ m49_ => dList .int b48_ fun q8 => dBlk true m49_ fun b50_ m51_ => dList .int b50_ fun q9 => dBlk true m51_ fun b52_ m53_ => dList .int b52_ fun q10 => dBlk true m53_ fun b54_ m55_ => dList .int b54_ fun q11 => dEnd m55_ <| K (q0, q1, q2, q3, q4, q5, q6, q7, q8, q9, q10, q11)
  law := by
    intro vs tm K h
    replace h := dCons_ok h; obtain ⟨a1_, r2_, rfl, h⟩ := h
    replace h := dPtr_ok h; obtain ⟨rfl, h⟩ := h
    replace h := dCons_ok h; obtain ⟨a3_, r4_, rfl, h⟩ := h
    replace h := dPtr_ok h; obtain ⟨rfl, h⟩ := h
    replace h := dCons_ok h; obtain ⟨a5_, r6_, rfl, h⟩ := h
    replace h := dSl_ok h; obtain ⟨rfl, h⟩ := h
    replace h := dCons_ok h; obtain ⟨a7_, r8_, rfl, h⟩ := h
    replace h := dPtr_ok h; obtain ⟨rfl, h⟩ := h
    replace h := dCons_ok h; obtain ⟨a9_, r10_, rfl, h⟩ := h
    replace h := dSl_ok h; obtain ⟨rfl, h⟩ := h
    replace h := dCons_ok h; obtain ⟨a11_, r12_, rfl, h⟩ := h
    replace h := dInt_ok h; obtain ⟨q0, rfl, h⟩ := h
    replace h := dNil_ok h; obtain ⟨rfl, h⟩ := h
    replace h := dBlk_ok h; obtain ⟨b13_, m14_, rfl, h⟩ := h
    replace h := dCells_ok h; obtain ⟨c15_, rfl, h⟩ := h
    replace h := dCons_ok h; obtain ⟨a16_, r17_, rfl, h⟩ := h
    replace h := dPl_ok h; obtain ⟨q1, rfl, h⟩ := h
    replace h := dCons_ok h; obtain ⟨a18_, r19_, rfl, h⟩ := h
    replace h := dPl_ok h; obtain ⟨q2, rfl, h⟩ := h
    replace h := dCons_ok h; obtain ⟨a20_, r21_, rfl, h⟩ := h
    replace h := dPl_ok h; obtain ⟨q3, rfl, h⟩ := h
    replace h := dNil_ok h; obtain ⟨rfl, h⟩ := h
    replace h := dBlk_ok h; obtain ⟨b22_, m23_, rfl, h⟩ := h
    replace h := dCells_ok h; obtain ⟨c24_, rfl, h⟩ := h
    replace h := dCons_ok h; obtain ⟨a25_, r26_, rfl, h⟩ := h
    replace h := dSl_ok h; obtain ⟨rfl, h⟩ := h
    replace h := dCons_ok h; obtain ⟨a27_, r28_, rfl, h⟩ := h
    replace h := dSl_ok h; obtain ⟨rfl, h⟩ := h
    replace h := dCons_ok h; obtain ⟨a29_, r30_, rfl, h⟩ := h
    replace h := dSl_ok h; obtain ⟨rfl, h⟩ := h
    replace h := dNil_ok h; obtain ⟨rfl, h⟩ := h
    replace h := dBlk_ok h; obtain ⟨b31_, m32_, rfl, h⟩ := h
    replace h := dList_ok h; obtain ⟨q4, rfl, h⟩ := h
    replace h := dBlk_ok h; obtain ⟨b33_, m34_, rfl, h⟩ := h
    replace h := dCells_ok h; obtain ⟨c35_, rfl, h⟩ := h
    replace h := dCons_ok h; obtain ⟨a36_, r37_, rfl, h⟩ := h
    replace h := dSl_ok h; obtain ⟨rfl, h⟩ := h
    replace h := dCons_ok h; obtain ⟨a38_, r39_, rfl, h⟩ := h
    replace h := dSl_ok h; obtain ⟨rfl, h⟩ := h
    replace h := dCons_ok h; obtain ⟨a40_, r41_, rfl, h⟩ := h
    replace h := dSl_ok h; obtain ⟨rfl, h⟩ := h
    replace h := dNil_ok h; obtain ⟨rfl, h⟩ := h
    replace h := dBlk_ok h; obtain ⟨b42_, m43_, rfl, h⟩ := h
    replace h := dList_ok h; obtain ⟨q5, rfl, h⟩ := h
    replace h := dBlk_ok h; obtain ⟨b44_, m45_, rfl, h⟩ := h
    replace h := dList_ok h; obtain ⟨q6, rfl, h⟩ := h
    replace h := dBlk_ok h; obtain ⟨b46_, m47_, rfl, h⟩ := h
    replace h := dList_ok h; obtain ⟨q7, rfl, h⟩ := h
    replace h := dBlk_ok h; obtain ⟨b48_, m49_, rfl, h⟩ := h
    replace h := dList_ok h; obtain ⟨q8, rfl, h⟩ := h
    replace h := dBlk_ok h; obtain ⟨b50_, m51_, rfl, h⟩ := h
    replace h := dList_ok h; obtain ⟨q9, rfl, h⟩ := h
    replace h := dBlk_ok h; obtain ⟨b52_, m53_, rfl, h⟩ := h
    replace h := dList_ok h; obtain ⟨q10, rfl, h⟩ := h
    replace h := dBlk_ok h; obtain ⟨b54_, m55_, rfl, h⟩ := h
    replace h := dList_ok h; obtain ⟨q11, rfl, h⟩ := h
    replace h := dEnd_ok h; obtain ⟨rfl, h⟩ := h
    exact ⟨(q0, q1, q2, q3, q4, q5, q6, q7, q8, q9, q10, q11), rfl, h⟩
def H32_2 : LH where
  keep := [(1, .pc [.pure .int, .pure .int, .pure .int]), (2, .pc [.own .int, .own .int, .own .int]), (5, .own .int), (6, .pc [.own .int, .own .int, .own .int]), (7, .own .int), (9, .x)]
  S := Int × List Int × List Int × List Int × List Int × List Int × List Int × List Int × List Int × List Int × List Int × List Int
  enc := fun s => ([.ptr 0 0, .ptr 1 0, .sl 2, .ptr 3 0, .sl 4, .int .i64 s.1], [⟨true, .cells [.pl .int s.2.1, .pl .int s.2.2.1, .pl .int s.2.2.2.1]⟩, ⟨true, .cells [.sl 5, .sl 6, .sl 7]⟩, ⟨true, .list .int s.2.2.2.2.1⟩, ⟨true, .cells [.sl 8, .sl 9, .sl 10]⟩, ⟨true, .list .int s.2.2.2.2.2.1⟩, ⟨true, .list .int s.2.2.2.2.2.2.1⟩, ⟨true, .list .int s.2.2.2.2.2.2.2.1⟩, ⟨true, .list .int s.2.2.2.2.2.2.2.2.1⟩, ⟨true, .list .int s.2.2.2.2.2.2.2.2.2.1⟩, ⟨true, .list .int s.2.2.2.2.2.2.2.2.2.2.1⟩, ⟨true, .list .int s.2.2.2.2.2.2.2.2.2.2.2⟩])
  dec := fun vs tm K => dCons vs fun a1_ r2_ => dPtr 0 a1_ <| dCons r2_ fun a3_ r4_ => dPtr 1 a3_ <| dCons r4_ fun a5_ r6_ => dSl 2 a5_ <| dCons r6_ fun a7_ r8_ => dPtr 3 a7_ <| dCons r8_ fun a9_ r10_ => dSl 4 a9_ <| dCons r10_ fun a11_ r12_ => dInt .i64 a11_ fun q0 => dNil r12_ <| dBlk true tm fun b13_ m14_ => dCells b13_ fun c15_ => dCons c15_ fun a16_ r17_ => dPl .int a16_ fun q1 => dCons r17_ fun a18_ r19_ => dPl .int a18_ fun q2 => dCons r19_ fun a20_ r21_ => dPl .int a20_ fun q3 => dNil r21_ <| dBlk true m14_ fun b22_ m23_ => dCells b22_ fun c24_ => dCons c24_ fun a25_ r26_ => dSl 5 a25_ <| dCons r26_ fun a27_ r28_ => dSl 6 a27_ <| dCons r28_ fun a29_ r30_ => dSl 7 a29_ <| dNil r30_ <| dBlk true m23_ fun b31_ m32_ => dList .int b31_ fun q4 => dBlk true m32_ fun b33_ m34_ => dCells b33_ fun c35_ => dCons c35_ fun a36_ r37_ => dSl 8 a36_ <| dCons r37_ fun a38_ r39_ => dSl 9 a38_ <| dCons r39_ fun a40_ r41_ => dSl 10 a40_ <| dNil r41_ <| dBlk true m34_ fun b42_ m43_ => dList .int b42_ fun q5 => dBlk true m43_ fun b44_ m45_ => dList .int b44_ fun q6 => dBlk true m45_ fun b46_ m47_ => dList .int b46_ fun q7 => dBlk true m47_ fun b48_ m49_ => dList .int b48_ fun q8 => dBlk true m49_ fun b50_ m51_ => dList .int b50_ fun q9 => dBlk true m51_ fun b52_ m53_ => dList .int b52_ fun q10 => dBlk true m53_ fun b54_ m55_ => dList .int b54_ fun q11 => dEnd m55_ <| K (q0, q1, q2, q3, q4, q5, q6, q7, q8, q9, q10, q11)
  law := by
    intro vs tm K h
    replace h := dCons_ok h; obtain ⟨a1_, r2_, rfl, h⟩ := h
    replace h := dPtr_ok h; obtain ⟨rfl, h⟩ := h
    replace h := dCons_ok h; obtain ⟨a3_, r4_, rfl, h⟩ := h
    replace h := dPtr_ok h; obtain ⟨rfl, h⟩ := h
    replace h := dCons_ok h; obtain ⟨a5_, r6_, rfl, h⟩ := h
    replace h := dSl_ok h; obtain ⟨rfl, h⟩ := h
    replace h := dCons_ok h; obtain ⟨a7_, r8_, rfl, h⟩ := h
    replace h := dPtr_ok h; obtain ⟨rfl, h⟩ := h
    replace h := dCons_ok h; obtain ⟨a9_, r10_, rfl, h⟩ := h
    replace h := dSl_ok h; obtain ⟨rfl, h⟩ := h
    replace h := dCons_ok h; obtain ⟨a11_, r12_, rfl, h⟩ := h
    replace h := dInt_ok h; obtain ⟨q0, rfl, h⟩ := h
    replace h := dNil_ok h; obtain ⟨rfl, h⟩ := h
    replace h := dBlk_ok h; obtain ⟨b13_, m14_, rfl, h⟩ := h
    replace h := dCells_ok h; obtain ⟨c15_, rfl, h⟩ := h
    replace h := dCons_ok h; obtain ⟨a16_, r17_, rfl, h⟩ := h
    replace h := dPl_ok h; obtain ⟨q1, rfl, h⟩ := h
    replace h := dCons_ok h; obtain ⟨a18_, r19_, rfl, h⟩ := h
    replace h := dPl_ok h; obtain ⟨q2, rfl, h⟩ := h
    replace h := dCons_ok h; obtain ⟨a20_, r21_, rfl, h⟩ := h
    replace h := dPl_ok h; obtain ⟨q3, rfl, h⟩ := h
    replace h := dNil_ok h; obtain ⟨rfl, h⟩ := h
    replace h := dBlk_ok h; obtain ⟨b22_, m23_, rfl, h⟩ := h
    replace h := dCells_ok h; obtain ⟨c24_, rfl, h⟩ := h
    replace h := dCons_ok h; obtain ⟨a25_, r26_, rfl, h⟩ := h
    replace h := dSl_ok h; obtain ⟨rfl, h⟩ := h
    replace h := dCons_ok h; obtain ⟨a27_, r28_, rfl, h⟩ := h
    replace h := dSl_ok h; obtain ⟨rfl, h⟩ := h
    replace h := dCons_ok h; obtain ⟨a29_, r30_, rfl, h⟩ := h
    replace h := dSl_ok h; obtain ⟨rfl, h⟩ := h
    replace h := dNil_ok h; obtain ⟨rfl, h⟩ := h
    replace h := dBlk_ok h; obtain ⟨b31_, m32_, rfl, h⟩ := h
    replace h := dList_ok h; obtain ⟨q4, rfl, h⟩ := h
    replace h := dBlk_ok h; obtain ⟨b33_, m34_, rfl, h⟩ := h
    replace h := dCells_ok h; obtain ⟨c35_, rfl, h⟩ := h
    replace h := dCons_ok h; obtain ⟨a36_, r37_, rfl, h⟩ := h
    replace h := dSl_ok h; obtain ⟨rfl, h⟩ := h
    replace h := dCons_ok h; obtain ⟨a38_, r39_, rfl, h⟩ := h
    replace h := dSl_ok h; obtain ⟨rfl, h⟩ := h
    replace h := dCons_ok h; obtain ⟨a40_, r41_, rfl, h⟩ := h
    replace h := dSl_ok h; obtain ⟨rfl, h⟩ := h
    replace h := dNil_ok h; obtain ⟨rfl, h⟩ := h
    replace h := dBlk_ok h; obtain ⟨b42_, m43_, rfl, h⟩ := h
    replace h := dList_ok h; obtain ⟨q5, rfl, h⟩ := h
    replace h := dBlk_ok h; obtain ⟨b44_, m45_, rfl, h⟩ := h
    replace h := dList_ok h; obtain ⟨q6, rfl, h⟩ := h
    replace h := dBlk_ok h; obtain ⟨b46_, m47_, rfl, h⟩ := h
    replace h := dList_ok h; obtain ⟨q7, rfl, h⟩ := h
    replace h := dBlk_ok h; obtain ⟨b48_, m49_, rfl, h⟩ := h
    replace h := dList_ok h; obtain ⟨q8, rfl, h⟩ := h
    replace h := dBlk_ok h; obtain ⟨b50_, m51_, rfl, h⟩ := h
    replace h := dList_ok h; obtain ⟨q9, rfl, h⟩ := h
    replace h := dBlk_ok h; obtain ⟨b52_, m53_, rfl, h⟩ := h
    replace h := dList_ok h; obtain ⟨q10, rfl, h⟩ := h
    replace h := dBlk_ok h; obtain ⟨b54_, m55_, rfl, h⟩ := h
    replace h := dList_ok h; obtain ⟨q11, rfl, h⟩ := h
    replace h := dEnd_ok h; obtain ⟨rfl, h⟩ := h
    exact ⟨(q0, q1, q2, q3, q4, q5, q6, q7, q8, q9, q10, q11), rfl, h⟩
def H32_1000016 : LH where
  keep := [(2, .pc [.own .int, .own .int, .own .int]), (6, .pc [.own .int, .own .int, .own .int]), (7, .own .int)]
  S := List Int × List Int × List Int × List Int × List Int × List Int × List Int
  enc := fun s => ([.ptr 0 0, .ptr 1 0, .sl 2], [⟨true, .cells [.sl 3, .sl 4, .sl 5]⟩, ⟨true, .cells [.sl 6, .sl 7, .sl 8]⟩, ⟨true, .list .int s.1⟩, ⟨true, .list .int s.2.1⟩, ⟨true, .list .int s.2.2.1⟩, ⟨true, .list .int s.2.2.2.1⟩, ⟨true, .list .int s.2.2.2.2.1⟩, ⟨true, .list .int s.2.2.2.2.2.1⟩, ⟨true, .list .int s.2.2.2.2.2.2⟩])
  dec := fun vs tm K => dCons vs fun a1_ r2_ => dPtr 0 a1_ <| dCons r2_ fun a3_ r4_ => dPtr 1 a3_ <| dCons r4_ fun a5_ r6_ => dSl 2 a5_ <| dNil r6_ <| dBlk true tm fun b7_ m8_ => dCells b7_ fun c9_ => dCons c9_ fun a10_ r11_ => dSl 3 a10_ <| dCons r11_ fun a12_ r13_ => dSl 4 a12_ <| dCons r13_ fun a14_ r15_ => dSl 5 a14_ <| dNil r15_ <| dBlk true m8_ fun b16_ m17_ => dCells b16_ fun c18_ => dCons c18_ fun a19_ r20_ => dSl 6 a19_ <| dCons r20_ fun a21_ r22_ => dSl 7 a21_ <| dCons r22_ fun a23_ r24_ => dSl 8 a23_ <| dNil r24_ <| dBlk true m17_ fun b25_ m26_ => dList .int b25_ fun q0 => dBlk true m26_ fun b27_ m28_ => dList .int b27_ fun q1 => dBlk true m28_ fun b29_ m30_ => dList .int b29_ fun q2 => dBlk true m30_ fun b31_ m32_ => dList .int b31_ fun q3 => dBlk true m32_ fun b33_ m34_ => dList .int b33_ fun q4 => dBlk true m34_ fun b35_ m36_ => dList .int b35_ fun q5 => dBlk true m36_ fun b37_ m38_ => dList .int b37_ fun q6 => dEnd m38_ <| K (q0, q1, q2, q3, q4, q5, q6)
  law := by
    intro vs tm K h
    replace h := dCons_ok h; obtain ⟨a1_, r2_, rfl, h⟩ := h
    replace h := dPtr_ok h; obtain ⟨rfl, h⟩ := h
    replace h := dCons_ok h; obtain ⟨a3_, r4_, rfl, h⟩ := h
    replace h := dPtr_ok h; obtain ⟨rfl, h⟩ := h
    replace h := dCons_ok h; obtain ⟨a5_, r6_, rfl, h⟩ := h
    replace h := dSl_ok h; obtain ⟨rfl, h⟩ := h
    replace h := dNil_ok h; obtain ⟨rfl, h⟩ := h
    replace h := dBlk_ok h; obtain ⟨b7_, m8_, rfl, h⟩ := h
    replace h := dCells_ok h; obtain ⟨c9_, rfl, h⟩ := h
    replace h := dCons_ok h; obtain ⟨a10_, r11_, rfl, h⟩ := h
    replace h := dSl_ok h; obtain ⟨rfl, h⟩ := h
    replace h := dCons_ok h; obtain ⟨a12_, r13_, rfl, h⟩ := h
    replace h := dSl_ok h; obtain ⟨rfl, h⟩ := h
    replace h := dCons_ok h; obtain ⟨a14_, r15_, rfl, h⟩ := h
    replace h := dSl_ok h; obtain ⟨rfl, h⟩ := h
    replace h := dNil_ok h; obtain ⟨rfl, h⟩ := h
    replace h := dBlk_ok h; obtain ⟨b16_, m17_, rfl, h⟩ := h
    replace h := dCells_ok h; obtain ⟨c18_, rfl, h⟩ := h
    replace h := dCons_ok h; obtain ⟨a19_, r20_, rfl, h⟩ := h
    replace h := dSl_ok h; obtain ⟨rfl, h⟩ := h
    replace h := dCons_ok h; obtain ⟨a21_, r22_, rfl, h⟩ := h
    replace h := dSl_ok h; obtain ⟨rfl, h⟩ := h
    replace h := dCons_ok h; obtain ⟨a23_, r24_, rfl, h⟩ := h
    replace h := dSl_ok h; obtain ⟨rfl, h⟩ := h
    replace h := dNil_ok h; obtain ⟨rfl, h⟩ := h
    replace h := dBlk_ok h; obtain ⟨b25_, m26_, rfl, h⟩ := h
    replace h := dList_ok h; obtain ⟨q0, rfl, h⟩ := h
    replace h := dBlk_ok h; obtain ⟨b27_, m28_, rfl, h⟩ := h
    replace h := dList_ok h; obtain ⟨q1, rfl, h⟩ := h
    replace h := dBlk_ok h; obtain ⟨b29_, m30_, rfl, h⟩ := h
    replace h := dList_ok h; obtain ⟨q2, rfl, h⟩ := h
    replace h := dBlk_ok h; obtain ⟨b31_, m32_, rfl, h⟩ := h
    replace h := dList_ok h; obtain ⟨q3, rfl, h⟩ := h
    replace h := dBlk_ok h; obtain ⟨b33_, m34_, rfl, h⟩ := h
    replace h := dList_ok h; obtain ⟨q4, rfl, h⟩ := h
    replace h := dBlk_ok h; obtain ⟨b35_, m36_, rfl, h⟩ := h
    replace h := dList_ok h; obtain ⟨q5, rfl, h⟩ := h
    replace h := dBlk_ok h; obtain ⟨b37_, m38_, rfl, h⟩ := h
    replace h := dList_ok h; obtain ⟨q6, rfl, h⟩ := h
    replace h := dEnd_ok h; obtain ⟨rfl, h⟩ := h
    exact ⟨(q0, q1, q2, q3, q4, q5, q6), rfl, h⟩
def H32 : List (Nat × LH) := [(0, H32_0), (2, H32_2), (1000016, H32_1000016)]
def W32 : List (Nat × List (Nat × List Nat)) := []
def Γ32 : List (Nat × Con) := [(76, useC [.ag [.pure .int, .pure .int, .pure .int]] G76), (77, useC [.ag [.pure .int, .pure .int, .pure .int]] G77), (78, useC [.x] G78), (79, useC [.pure .int, .x] G79)]
theorem e32 (p1 : List Int) (p2 : List Int) (p3 : List Int) (K : TV → TMem → Prop) : TW PP 92 Γ32 H32 W32 (List.length ([] : TMem)) (bodyOf Try.f32) (endT PP 92 [.cell 2 26, .tmp 3, .tmp 4] [.ag [.own .int, .own .int, .own .int], .own .int, .bl] [] (List.length ([] : TMem)) K) (argsF [.agg [.pl .int p1, .pl .int p2, .pl .int p3]]) [] =
    Ms_CopyHeap p1 p2 p3 (fun r1 r2 r3 r4 r5 => K (.tup [.agg [.sl 0, .sl 1, .sl 2], .sl 3, .bool r1]) [⟨true, .list .int r2⟩, ⟨true, .list .int r3⟩, ⟨true, .list .int r4⟩, ⟨true, .list .int r5⟩]) := by kernel_rfl
theorem s32 : CSound PP 32 G32 := by
  intro args K c h fl A aargs hA hN R hl
  unfold G32 at h
  generalize ht : c.tm = tm at h
  replace h := dCons_ok h; obtain ⟨a1_, r2_, rfl, h⟩ := h
  replace h := dAgg_ok h; obtain ⟨l3_, rfl, h⟩ := h
  replace h := dCons_ok h; obtain ⟨a4_, r5_, rfl, h⟩ := h
  replace h := dPl_ok h; obtain ⟨p1, rfl, h⟩ := h
  replace h := dCons_ok h; obtain ⟨a6_, r7_, rfl, h⟩ := h
  replace h := dPl_ok h; obtain ⟨p2, rfl, h⟩ := h
  replace h := dCons_ok h; obtain ⟨a8_, r9_, rfl, h⟩ := h
  replace h := dPl_ok h; obtain ⟨p3, rfl, h⟩ := h
  replace h := dNil_ok h; obtain ⟨rfl, h⟩ := h
  replace h := dNil_ok h; obtain ⟨rfl, h⟩ := h
  replace h := dEnd_ok h; obtain ⟨rfl, h⟩ := h
  refine fun_ok (nt := 92) (x := bodyOf Try.f32) (Γ := Γ32) (H := H32) (WW := W32) (rs := [.cell 2 26, .tmp 3, .tmp 4]) (shs := [.ag [.own .int, .own .int, .own .int], .own .int, .bl]) (cons := []) mixed Try.func32 (by decide) (by kernel_rfl) Try.ntmps32 Try.results32 (.cons (useC_ok s76) (.cons (useC_ok s77) (.cons (useC_ok s78) (.cons (useC_ok s79) (GSound.nil))))) ?_ hA hN R hl
  rw [ht, e32 p1 p2 p3 K]
  exact h
/-! impl.distances$1 -/
def G107 : Con := fun args tm K => dCons args fun a1_ r2_ => dInt .i64 a1_ fun p1 => dCons r2_ fun a3_ r4_ => dInt .i64 a3_ fun p2 => dCons r4_ fun a5_ r6_ => dPtr 0 a5_ <| dCons r6_ fun a7_ r8_ => dPtr 1 a7_ <| dNil r8_ <| dBlk true tm fun b9_ m10_ => dCells b9_ fun c11_ => dCons c11_ fun a12_ r13_ => dSl 2 a12_ <| dNil r13_ <| dBlk true m10_ fun b14_ m15_ => dCells b14_ fun c16_ => dCons c16_ fun a17_ r18_ => dSl 3 a17_ <| dNil r18_ <| dBlk true m15_ fun b19_ m20_ => dList .int b19_ fun p3 => dBlk true m20_ fun b21_ m22_ => dList .int b21_ fun p4 => dEnd m22_ <| Mi_distances_1 p1 p2 p3 p4 (fun r1 r2 => K (.tup []) [⟨true, .cells [.sl 2]⟩, ⟨true, .cells [.sl 4]⟩, ⟨true, .list .int r1⟩, ⟨true, .dead⟩, ⟨true, .list .int r2⟩])
def H107 : List (Nat × LH) := []
def W107 : List (Nat × List (Nat × List Nat)) := []
def Γ107 : List (Nat × Con) := []
theorem e107 (p1 : Int) (p2 : Int) (p3 : List Int) (p4 : List Int) (K : TV → TMem → Prop) : TW PP 23 Γ107 H107 W107 (List.length ([⟨true, .cells [.sl 2]⟩, ⟨true, .cells [.sl 3]⟩, ⟨true, .list .int p3⟩, ⟨true, .list .int p4⟩] : TMem)) (bodyOf Try.f107) (endT PP 23 [] [] [3] (List.length ([⟨true, .cells [.sl 2]⟩, ⟨true, .cells [.sl 3]⟩, ⟨true, .list .int p3⟩, ⟨true, .list .int p4⟩] : TMem)) K) (argsF [.int .i64 p1, .int .i64 p2, .ptr 0 0, .ptr 1 0]) [⟨true, .cells [.sl 2]⟩, ⟨true, .cells [.sl 3]⟩, ⟨true, .list .int p3⟩, ⟨true, .list .int p4⟩] =
    Mi_distances_1 p1 p2 p3 p4 (fun r1 r2 => K (.tup []) [⟨true, .cells [.sl 2]⟩, ⟨true, .cells [.sl 4]⟩, ⟨true, .list .int r1⟩, ⟨true, .dead⟩, ⟨true, .list .int r2⟩]) := by kernel_rfl
theorem s107 : CSound PP 107 G107 := by
  intro args K c h fl A aargs hA hN R hl
  unfold G107 at h
  generalize ht : c.tm = tm at h
  replace h := dCons_ok h; obtain ⟨a1_, r2_, rfl, h⟩ := h
  replace h := dInt_ok h; obtain ⟨p1, rfl, h⟩ := h
  replace h := dCons_ok h; obtain ⟨a3_, r4_, rfl, h⟩ := h
  replace h := dInt_ok h; obtain ⟨p2, rfl, h⟩ := h
  replace h := dCons_ok h; obtain ⟨a5_, r6_, rfl, h⟩ := h
  replace h := dPtr_ok h; obtain ⟨rfl, h⟩ := h
  replace h := dCons_ok h; obtain ⟨a7_, r8_, rfl, h⟩ := h
  replace h := dPtr_ok h; obtain ⟨rfl, h⟩ := h
  replace h := dNil_ok h; obtain ⟨rfl, h⟩ := h
  replace h := dBlk_ok h; obtain ⟨b9_, m10_, rfl, h⟩ := h
  replace h := dCells_ok h; obtain ⟨c11_, rfl, h⟩ := h
  replace h := dCons_ok h; obtain ⟨a12_, r13_, rfl, h⟩ := h
  replace h := dSl_ok h; obtain ⟨rfl, h⟩ := h
  replace h := dNil_ok h; obtain ⟨rfl, h⟩ := h
  replace h := dBlk_ok h; obtain ⟨b14_, m15_, rfl, h⟩ := h
  replace h := dCells_ok h; obtain ⟨c16_, rfl, h⟩ := h
  replace h := dCons_ok h; obtain ⟨a17_, r18_, rfl, h⟩ := h
  replace h := dSl_ok h; obtain ⟨rfl, h⟩ := h
  replace h := dNil_ok h; obtain ⟨rfl, h⟩ := h
  replace h := dBlk_ok h; obtain ⟨b19_, m20_, rfl, h⟩ := h
  replace h := dList_ok h; obtain ⟨p3, rfl, h⟩ := h
  replace h := dBlk_ok h; obtain ⟨b21_, m22_, rfl, h⟩ := h
  replace h := dList_ok h; obtain ⟨p4, rfl, h⟩ := h
  replace h := dEnd_ok h; obtain ⟨rfl, h⟩ := h
  refine fun_ok (nt := 23) (x := bodyOf Try.f107) (Γ := Γ107) (H := H107) (WW := W107) (rs := []) (shs := []) (cons := [3]) mixed Try.func107 (by decide) (by kernel_rfl) Try.ntmps107 Try.results107 (GSound.nil) ?_ hA hN R hl
  rw [ht, e107 p1 p2 p3 p4 K]
  exact h
/-! impl.distances -/
def G80 : Con := fun args tm K => dCons args fun a1_ r2_ => dAgg a1_ fun l3_ => dCons l3_ fun a4_ r5_ => dPl .int a4_ fun p1 => dCons r5_ fun a6_ r7_ => dPl .int a6_ fun p2 => dCons r7_ fun a8_ r9_ => dPl .int a8_ fun p3 => dNil r9_ <| dNil r2_ <| dEnd tm <| Mi_distances p1 p2 p3 (fun r1 => K (.sl 0) [⟨true, .list .int r1⟩])
def H80_0 : LH where
  keep := [(1, .pc [.pure .int, .pure .int, .pure .int]), (3, .pc [.own .int]), (4, .pc [.own .int]), (5, .x), (16, .pure .int), (17, .x), (18, .x)]
  S := List Int × Int × Int × List Int × List Int × List Int × List Int × List Int
  enc := fun s => ([.ptr 0 0, .ptr 1 0, .ptr 2 0, .fn 107 [] [.ptr 1 0, .ptr 2 0], .pl .int s.1, .int .i64 s.2.1, .int .i64 s.2.2.1], [⟨true, .cells [.pl .int s.2.2.2.1, .pl .int s.2.2.2.2.1, .pl .int s.2.2.2.2.2.1]⟩, ⟨true, .cells [.sl 3]⟩, ⟨true, .cells [.sl 4]⟩, ⟨true, .list .int s.2.2.2.2.2.2.1⟩, ⟨true, .list .int s.2.2.2.2.2.2.2⟩])
  dec := fun vs tm K => dCons vs fun a1_ r2_ => dPtr 0 a1_ <| dCons r2_ fun a3_ r4_ => dPtr 1 a3_ <| dCons r4_ fun a5_ r6_ => dPtr 2 a5_ <| dCons r6_ fun a7_ r8_ => dFn 107 a7_ fun x9_ y10_ => dNil x9_ <| dCons y10_ fun a11_ r12_ => dPtr 1 a11_ <| dCons r12_ fun a13_ r14_ => dPtr 2 a13_ <| dNil r14_ <| dCons r8_ fun a15_ r16_ => dPl .int a15_ fun q0 => dCons r16_ fun a17_ r18_ => dInt .i64 a17_ fun q1 => dCons r18_ fun a19_ r20_ => dInt .i64 a19_ fun q2 => dNil r20_ <| dBlk true tm fun b21_ m22_ => dCells b21_ fun c23_ => dCons c23_ fun a24_ r25_ => dPl .int a24_ fun q3 => dCons r25_ fun a26_ r27_ => dPl .int a26_ fun q4 => dCons r27_ fun a28_ r29_ => dPl .int a28_ fun q5 => dNil r29_ <| dBlk true m22_ fun b30_ m31_ => dCells b30_ fun c32_ => dCons c32_ fun a33_ r34_ => dSl 3 a33_ <| dNil r34_ <| dBlk true m31_ fun b35_ m36_ => dCells b35_ fun c37_ => dCons c37_ fun a38_ r39_ => dSl 4 a38_ <| dNil r39_ <| dBlk true m36_ fun b40_ m41_ => dList .int b40_ fun q6 => dBlk true m41_ fun b42_ m43_ => dList .int b42_ fun q7 => dEnd m43_ <| K (q0, q1, q2, q3, q4, q5, q6, q7)
  law := by
    intro vs tm K h
    replace h := dCons_ok h; obtain ⟨a1_, r2_, rfl, h⟩ := h
    replace h := dPtr_ok h; obtain ⟨rfl, h⟩ := h
    replace h := dCons_ok h; obtain ⟨a3_, r4_, rfl, h⟩ := h
    replace h := dPtr_ok h; obtain ⟨rfl, h⟩ := h
    replace h := dCons_ok h; obtain ⟨a5_, r6_, rfl, h⟩ := h
    replace h := dPtr_ok h; obtain ⟨rfl, h⟩ := h
    replace h := dCons_ok h; obtain ⟨a7_, r8_, rfl, h⟩ := h
    replace h := dFn_ok h; obtain ⟨x9_, y10_, rfl, h⟩ := h
    replace h := dNil_ok h; obtain ⟨rfl, h⟩ := h
    replace h := dCons_ok h; obtain ⟨a11_, r12_, rfl, h⟩ := h
    replace h := dPtr_ok h; obtain ⟨rfl, h⟩ := h
    replace h := dCons_ok h; obtain ⟨a13_, r14_, rfl, h⟩ := h
    replace h := dPtr_ok h; obtain ⟨rfl, h⟩ := h
    replace h := dNil_ok h; obtain ⟨rfl, h⟩ := h
    replace h := dCons_ok h; obtain ⟨a15_, r16_, rfl, h⟩ := h
    replace h := dPl_ok h; obtain ⟨q0, rfl, h⟩ := h
    replace h := dCons_ok h; obtain ⟨a17_, r18_, rfl, h⟩ := h
    replace h := dInt_ok h; obtain ⟨q1, rfl, h⟩ := h
    replace h := dCons_ok h; obtain ⟨a19_, r20_, rfl, h⟩ := h
    replace h := dInt_ok h; obtain ⟨q2, rfl, h⟩ := h
    replace h := dNil_ok h; obtain ⟨rfl, h⟩ := h
    replace h := dBlk_ok h; obtain ⟨b21_, m22_, rfl, h⟩ := h
    replace h := dCells_ok h; obtain ⟨c23_, rfl, h⟩ := h
    replace h := dCons_ok h; obtain ⟨a24_, r25_, rfl, h⟩ := h
    replace h := dPl_ok h; obtain ⟨q3, rfl, h⟩ := h
    replace h := dCons_ok h; obtain ⟨a26_, r27_, rfl, h⟩ := h
    replace h := dPl_ok h; obtain ⟨q4, rfl, h⟩ := h
    replace h := dCons_ok h; obtain ⟨a28_, r29_, rfl, h⟩ := h
    replace h := dPl_ok h; obtain ⟨q5, rfl, h⟩ := h
    replace h := dNil_ok h; obtain ⟨rfl, h⟩ := h
    replace h := dBlk_ok h; obtain ⟨b30_, m31_, rfl, h⟩ := h
    replace h := dCells_ok h; obtain ⟨c32_, rfl, h⟩ := h
    replace h := dCons_ok h; obtain ⟨a33_, r34_, rfl, h⟩ := h
    replace h := dSl_ok h; obtain ⟨rfl, h⟩ := h
    replace h := dNil_ok h; obtain ⟨rfl, h⟩ := h
    replace h := dBlk_ok h; obtain ⟨b35_, m36_, rfl, h⟩ := h
    replace h := dCells_ok h; obtain ⟨c37_, rfl, h⟩ := h
    replace h := dCons_ok h; obtain ⟨a38_, r39_, rfl, h⟩ := h
    replace h := dSl_ok h; obtain ⟨rfl, h⟩ := h
    replace h := dNil_ok h; obtain ⟨rfl, h⟩ := h
    replace h := dBlk_ok h; obtain ⟨b40_, m41_, rfl, h⟩ := h
    replace h := dList_ok h; obtain ⟨q6, rfl, h⟩ := h
    replace h := dBlk_ok h; obtain ⟨b42_, m43_, rfl, h⟩ := h
    replace h := dList_ok h; obtain ⟨q7, rfl, h⟩ := h
    replace h := dEnd_ok h; obtain ⟨rfl, h⟩ := h
    exact ⟨(q0, q1, q2, q3, q4, q5, q6, q7), rfl, h⟩
def H80_2 : LH where
  keep := [(1, .pc [.pure .int, .pure .int, .pure .int]), (3, .pc [.own .int]), (4, .pc [.own .int]), (5, .x), (8, .x)]
  S := Int × List Int × List Int × List Int × List Int × List Int
  enc := fun s => ([.ptr 0 0, .ptr 1 0, .ptr 2 0, .fn 107 [] [.ptr 1 0, .ptr 2 0], .int .i64 s.1], [⟨true, .cells [.pl .int s.2.1, .pl .int s.2.2.1, .pl .int s.2.2.2.1]⟩, ⟨true, .cells [.sl 3]⟩, ⟨true, .cells [.sl 4]⟩, ⟨true, .list .int s.2.2.2.2.1⟩, ⟨true, .list .int s.2.2.2.2.2⟩])
  dec := fun vs tm K => dCons vs fun a1_ r2_ => dPtr 0 a1_ <| dCons r2_ fun a3_ r4_ => dPtr 1 a3_ <| dCons r4_ fun a5_ r6_ => dPtr 2 a5_ <| dCons r6_ fun a7_ r8_ => dFn 107 a7_ fun x9_ y10_ => dNil x9_ <| dCons y10_ fun a11_ r12_ => dPtr 1 a11_ <| dCons r12_ fun a13_ r14_ => dPtr 2 a13_ <| dNil r14_ <| dCons r8_ fun a15_ r16_ => dInt .i64 a15_ fun q0 => dNil r16_ <| dBlk true tm fun b17_ m18_ => dCells b17_ fun c19_ => dCons c19_ fun a20_ r21_ => dPl .int a20_ fun q1 => dCons r21_ fun a22_ r23_ => dPl .int a22_ fun q2 => dCons r23_ fun a24_ r25_ => dPl .int a24_ fun q3 => dNil r25_ <| dBlk true m18_ fun b26_ m27_ => dCells b26_ fun c28_ => dCons c28_ fun a29_ r30_ => dSl 3 a29_ <| dNil r30_ <| dBlk true m27_ fun b31_ m32_ => dCells b31_ fun c33_ => dCons c33_ fun a34_ r35_ => dSl 4 a34_ <| dNil r35_ <| dBlk true m32_ fun b36_ m37_ => dList .int b36_ fun q4 => dBlk true m37_ fun b38_ m39_ => dList .int b38_ fun q5 => dEnd m39_ <| K (q0, q1, q2, q3, q4, q5)
  law := by
    intro vs tm K h
    replace h := dCons_ok h; obtain ⟨a1_, r2_, rfl, h⟩ := h
    replace h := dPtr_ok h; obtain ⟨rfl, h⟩ := h
    replace h := dCons_ok h; obtain ⟨a3_, r4_, rfl, h⟩ := h
    replace h := dPtr_ok h; obtain ⟨rfl, h⟩ := h
    replace h := dCons_ok h; obtain ⟨a5_, r6_, rfl, h⟩ := h
    replace h := dPtr_ok h; obtain ⟨rfl, h⟩ := h
    replace h := dCons_ok h; obtain ⟨a7_, r8_, rfl, h⟩ := h
    replace h := dFn_ok h; obtain ⟨x9_, y10_, rfl, h⟩ := h
    replace h := dNil_ok h; obtain ⟨rfl, h⟩ := h
    replace h := dCons_ok h; obtain ⟨a11_, r12_, rfl, h⟩ := h
    replace h := dPtr_ok h; obtain ⟨rfl, h⟩ := h
    replace h := dCons_ok h; obtain ⟨a13_, r14_, rfl, h⟩ := h
    replace h := dPtr_ok h; obtain ⟨rfl, h⟩ := h
    replace h := dNil_ok h; obtain ⟨rfl, h⟩ := h
    replace h := dCons_ok h; obtain ⟨a15_, r16_, rfl, h⟩ := h
    replace h := dInt_ok h; obtain ⟨q0, rfl, h⟩ := h
    replace h := dNil_ok h; obtain ⟨rfl, h⟩ := h
    replace h := dBlk_ok h; obtain ⟨b17_, m18_, rfl, h⟩ := h
    replace h := dCells_ok h; obtain ⟨c19_, rfl, h⟩ := h
    replace h := dCons_ok h; obtain ⟨a20_, r21_, rfl, h⟩ := h
    replace h := dPl_ok h; obtain ⟨q1, rfl, h⟩ := h
    replace h := dCons_ok h; obtain ⟨a22_, r23_, rfl, h⟩ := h
    replace h := dPl_ok h; obtain ⟨q2, rfl, h⟩ := h
    replace h := dCons_ok h; obtain ⟨a24_, r25_, rfl, h⟩ := h
    replace h := dPl_ok h; obtain ⟨q3, rfl, h⟩ := h
    replace h := dNil_ok h; obtain ⟨rfl, h⟩ := h
    replace h := dBlk_ok h; obtain ⟨b26_, m27_, rfl, h⟩ := h
    replace h := dCells_ok h; obtain ⟨c28_, rfl, h⟩ := h
    replace h := dCons_ok h; obtain ⟨a29_, r30_, rfl, h⟩ := h
    replace h := dSl_ok h; obtain ⟨rfl, h⟩ := h
    replace h := dNil_ok h; obtain ⟨rfl, h⟩ := h
    replace h := dBlk_ok h; obtain ⟨b31_, m32_, rfl, h⟩ := h
    replace h := dCells_ok h; obtain ⟨c33_, rfl, h⟩ := h
    replace h := dCons_ok h; obtain ⟨a34_, r35_, rfl, h⟩ := h
    replace h := dSl_ok h; obtain ⟨rfl, h⟩ := h
    replace h := dNil_ok h; obtain ⟨rfl, h⟩ := h
    replace h := dBlk_ok h; obtain ⟨b36_, m37_, rfl, h⟩ := h
    replace h := dList_ok h; obtain ⟨q4, rfl, h⟩ := h
    replace h := dBlk_ok h; obtain ⟨b38_, m39_, rfl, h⟩ := h
    replace h := dList_ok h; obtain ⟨q5, rfl, h⟩ := h
    replace h := dEnd_ok h; obtain ⟨rfl, h⟩ := h
    exact ⟨(q0, q1, q2, q3, q4, q5), rfl, h⟩
def H80_1000014 : LH where
  keep := [(3, .pc [.own .int])]
  S := List Int
  enc := fun s => ([.ptr 0 0], [⟨true, .cells [.sl 1]⟩, ⟨true, .list .int s⟩])
  dec := fun vs tm K => dCons vs fun a1_ r2_ => dPtr 0 a1_ <| dNil r2_ <| dBlk true tm fun b3_ m4_ => dCells b3_ fun c5_ => dCons c5_ fun a6_ r7_ => dSl 1 a6_ <| dNil r7_ <| dBlk true m4_ fun b8_ m9_ => dList .int b8_ fun q0 => dEnd m9_ <| K q0
  law := by
    intro vs tm K h
    replace h := dCons_ok h; obtain ⟨a1_, r2_, rfl, h⟩ := h
    replace h := dPtr_ok h; obtain ⟨rfl, h⟩ := h
    replace h := dNil_ok h; obtain ⟨rfl, h⟩ := h
    replace h := dBlk_ok h; obtain ⟨b3_, m4_, rfl, h⟩ := h
    replace h := dCells_ok h; obtain ⟨c5_, rfl, h⟩ := h
    replace h := dCons_ok h; obtain ⟨a6_, r7_, rfl, h⟩ := h
    replace h := dSl_ok h; obtain ⟨rfl, h⟩ := h
    replace h := dNil_ok h; obtain ⟨rfl, h⟩ := h
    replace h := dBlk_ok h; obtain ⟨b8_, m9_, rfl, h⟩ := h
    replace h := dList_ok h; obtain ⟨q0, rfl, h⟩ := h
    replace h := dEnd_ok h; obtain ⟨rfl, h⟩ := h
    exact ⟨q0, rfl, h⟩
def H80 : List (Nat × LH) := [(0, H80_0), (2, H80_2), (1000014, H80_1000014)]
def W80 : List (Nat × List (Nat × List Nat)) := []
def Γ80 : List (Nat × Con) := [(107, useC [.x, .x, .pc [.own .int], .pc [.own .int]] G107)]
theorem e80 (p1 : List Int) (p2 : List Int) (p3 : List Int) (K : TV → TMem → Prop) : TW PP 69 Γ80 H80 W80 (List.length ([] : TMem)) (bodyOf Try.f80) (endT PP 69 [.tmp 2] [.own .int] [] (List.length ([] : TMem)) K) (argsF [.agg [.pl .int p1, .pl .int p2, .pl .int p3]]) [] =
    Mi_distances p1 p2 p3 (fun r1 => K (.sl 0) [⟨true, .list .int r1⟩]) := by kernel_rfl
theorem s80 : CSound PP 80 G80 := by
  intro args K c h fl A aargs hA hN R hl
  unfold G80 at h
  generalize ht : c.tm = tm at h
  replace h := dCons_ok h; obtain ⟨a1_, r2_, rfl, h⟩ := h
  replace h := dAgg_ok h; obtain ⟨l3_, rfl, h⟩ := h
  replace h := dCons_ok h; obtain ⟨a4_, r5_, rfl, h⟩ := h
  replace h := dPl_ok h; obtain ⟨p1, rfl, h⟩ := h
  replace h := dCons_ok h; obtain ⟨a6_, r7_, rfl, h⟩ := h
  replace h := dPl_ok h; obtain ⟨p2, rfl, h⟩ := h
  replace h := dCons_ok h; obtain ⟨a8_, r9_, rfl, h⟩ := h
  replace h := dPl_ok h; obtain ⟨p3, rfl, h⟩ := h
  replace h := dNil_ok h; obtain ⟨rfl, h⟩ := h
  replace h := dNil_ok h; obtain ⟨rfl, h⟩ := h
  replace h := dEnd_ok h; obtain ⟨rfl, h⟩ := h
  refine fun_ok (nt := 69) (x := bodyOf Try.f80) (Γ := Γ80) (H := H80) (WW := W80) (rs := [.tmp 2]) (shs := [.own .int]) (cons := []) mixed Try.func80 (by decide) (by kernel_rfl) Try.ntmps80 Try.results80 (.cons (useC_ok s107) (GSound.nil)) ?_ hA hN R hl
  rw [ht, e80 p1 p2 p3 K]
  exact h
/-! impl.Reachable -/
def G34 : Con := fun args tm K => dCons args fun a1_ r2_ => dAgg a1_ fun l3_ => dCons l3_ fun a4_ r5_ => dPl .int a4_ fun p1 => dCons r5_ fun a6_ r7_ => dPl .int a6_ fun p2 => dCons r7_ fun a8_ r9_ => dPl .int a8_ fun p3 => dNil r9_ <| dNil r2_ <| dEnd tm <| Mi_Reachable p1 p2 p3 (fun r1 => K (.sl 0) [⟨true, .list .bool r1⟩])
def H34_0 : LH where
  keep := [(3, .own .bool), (11, .own .int), (12, .x), (13, .x)]
  S := Int × Int × List Bool × List Int
  enc := fun s => ([.sl 0, .sl 1, .int .i64 s.1, .int .i64 s.2.1], [⟨true, .list .bool s.2.2.1⟩, ⟨true, .list .int s.2.2.2⟩])
  dec := fun vs tm K => dCons vs fun a1_ r2_ => dSl 0 a1_ <| dCons r2_ fun a3_ r4_ => dSl 1 a3_ <| dCons r4_ fun a5_ r6_ => dInt .i64 a5_ fun q0 => dCons r6_ fun a7_ r8_ => dInt .i64 a7_ fun q1 => dNil r8_ <| dBlk true tm fun b9_ m10_ => dList .bool b9_ fun q2 => dBlk true m10_ fun b11_ m12_ => dList .int b11_ fun q3 => dEnd m12_ <| K (q0, q1, q2, q3)
  law := by
    intro vs tm K h
    replace h := dCons_ok h; obtain ⟨a1_, r2_, rfl, h⟩ := h
    replace h := dSl_ok h; obtain ⟨rfl, h⟩ := h
    replace h := dCons_ok h; obtain ⟨a3_, r4_, rfl, h⟩ := h
    replace h := dSl_ok h; obtain ⟨rfl, h⟩ := h
    replace h := dCons_ok h; obtain ⟨a5_, r6_, rfl, h⟩ := h
    replace h := dInt_ok h; obtain ⟨q0, rfl, h⟩ := h
    replace h := dCons_ok h; obtain ⟨a7_, r8_, rfl, h⟩ := h
    replace h := dInt_ok h; obtain ⟨q1, rfl, h⟩ := h
    replace h := dNil_ok h; obtain ⟨rfl, h⟩ := h
    replace h := dBlk_ok h; obtain ⟨b9_, m10_, rfl, h⟩ := h
    replace h := dList_ok h; obtain ⟨q2, rfl, h⟩ := h
    replace h := dBlk_ok h; obtain ⟨b11_, m12_, rfl, h⟩ := h
    replace h := dList_ok h; obtain ⟨q3, rfl, h⟩ := h
    replace h := dEnd_ok h; obtain ⟨rfl, h⟩ := h
    exact ⟨(q0, q1, q2, q3), rfl, h⟩
def H34_1000009 : LH where
  keep := [(3, .own .bool)]
  S := List Bool
  enc := fun s => ([.sl 0], [⟨true, .list .bool s⟩])
  dec := fun vs tm K => dCons vs fun a1_ r2_ => dSl 0 a1_ <| dNil r2_ <| dBlk true tm fun b3_ m4_ => dList .bool b3_ fun q0 => dEnd m4_ <| K q0
  law := by
    intro vs tm K h
    replace h := dCons_ok h; obtain ⟨a1_, r2_, rfl, h⟩ := h
    replace h := dSl_ok h; obtain ⟨rfl, h⟩ := h
    replace h := dNil_ok h; obtain ⟨rfl, h⟩ := h
    replace h := dBlk_ok h; obtain ⟨b3_, m4_, rfl, h⟩ := h
    replace h := dList_ok h; obtain ⟨q0, rfl, h⟩ := h
    replace h := dEnd_ok h; obtain ⟨rfl, h⟩ := h
    exact ⟨q0, rfl, h⟩
def H34 : List (Nat × LH) := [(0, H34_0), (1000009, H34_1000009)]
def W34 : List (Nat × List (Nat × List Nat)) := []
def Γ34 : List (Nat × Con) := [(40, useC [.ag [.pure .int, .pure .int, .pure .int]] G40), (80, useC [.ag [.pure .int, .pure .int, .pure .int]] G80)]
theorem e34 (p1 : List Int) (p2 : List Int) (p3 : List Int) (K : TV → TMem → Prop) : TW PP 24 Γ34 H34 W34 (List.length ([] : TMem)) (bodyOf Try.f34) (endT PP 24 [.tmp 2] [.own .bool] [] (List.length ([] : TMem)) K) (argsF [.agg [.pl .int p1, .pl .int p2, .pl .int p3]]) [] =
    Mi_Reachable p1 p2 p3 (fun r1 => K (.sl 0) [⟨true, .list .bool r1⟩]) := by kernel_rfl
theorem s34 : CSound PP 34 G34 := by
  intro args K c h fl A aargs hA hN R hl
  unfold G34 at h
  generalize ht : c.tm = tm at h
  replace h := dCons_ok h; obtain ⟨a1_, r2_, rfl, h⟩ := h
  replace h := dAgg_ok h; obtain ⟨l3_, rfl, h⟩ := h
  replace h := dCons_ok h; obtain ⟨a4_, r5_, rfl, h⟩ := h
  replace h := dPl_ok h; obtain ⟨p1, rfl, h⟩ := h
  replace h := dCons_ok h; obtain ⟨a6_, r7_, rfl, h⟩ := h
  replace h := dPl_ok h; obtain ⟨p2, rfl, h⟩ := h
  replace h := dCons_ok h; obtain ⟨a8_, r9_, rfl, h⟩ := h
  replace h := dPl_ok h; obtain ⟨p3, rfl, h⟩ := h
  replace h := dNil_ok h; obtain ⟨rfl, h⟩ := h
  replace h := dNil_ok h; obtain ⟨rfl, h⟩ := h
  replace h := dEnd_ok h; obtain ⟨rfl, h⟩ := h
  refine fun_ok (nt := 24) (x := bodyOf Try.f34) (Γ := Γ34) (H := H34) (WW := W34) (rs := [.tmp 2]) (shs := [.own .bool]) (cons := []) mixed Try.func34 (by decide) (by kernel_rfl) Try.ntmps34 Try.results34 (.cons (useC_ok s40) (.cons (useC_ok s80) (GSound.nil))) ?_ hA hN R hl
  rw [ht, e34 p1 p2 p3 K]
  exact h
/-! spec.HeapsAlike -/
def G37 : Con := fun args tm K => dCons args fun a1_ r2_ => dAgg a1_ fun l3_ => dCons l3_ fun a4_ r5_ => dPl .int a4_ fun p1 => dCons r5_ fun a6_ r7_ => dPl .int a6_ fun p2 => dCons r7_ fun a8_ r9_ => dPl .int a8_ fun p3 => dNil r9_ <| dCons r2_ fun a10_ r11_ => dAgg a10_ fun l12_ => dCons l12_ fun a13_ r14_ => dPl .int a13_ fun p4 => dCons r14_ fun a15_ r16_ => dPl .int a15_ fun p5 => dCons r16_ fun a17_ r18_ => dPl .int a17_ fun p6 => dNil r18_ <| dNil r11_ <| dEnd tm <| Ms_HeapsAlike p1 p2 p3 p4 p5 p6 (fun r1 => K (.bool r1) [])
def H37_0 : LH where
  keep := [(2, .pc [.pure .int, .pure .int, .pure .int]), (3, .pc [.pure .int, .pure .int, .pure .int]), (5, .own .int), (6, .own .int), (7, .x)]
  S := Int × List Int × List Int × List Int × List Int × List Int × List Int × List Int × List Int
  enc := fun s => ([.ptr 0 0, .ptr 1 0, .sl 2, .sl 3, .int .i64 s.1], [⟨true, .cells [.pl .int s.2.1, .pl .int s.2.2.1, .pl .int s.2.2.2.1]⟩, ⟨true, .cells [.pl .int s.2.2.2.2.1, .pl .int s.2.2.2.2.2.1, .pl .int s.2.2.2.2.2.2.1]⟩, ⟨true, .list .int s.2.2.2.2.2.2.2.1⟩, ⟨true, .list .int s.2.2.2.2.2.2.2.2⟩])
  dec := fun vs tm K => dCons vs fun a1_ r2_ => dPtr 0 a1_ <| dCons r2_ fun a3_ r4_ => dPtr 1 a3_ <| dCons r4_ fun a5_ r6_ => dSl 2 a5_ <| dCons r6_ fun a7_ r8_ => dSl 3 a7_ <| dCons r8_ fun a9_ r10_ => dInt .i64 a9_ fun q0 => dNil r10_ <| dBlk true tm fun b11_ m12_ => dCells b11_ fun c13_ => dCons c13_ fun a14_ r15_ => dPl .int a14_ fun q1 => dCons r15_ fun a16_ r17_ => dPl .int a16_ fun q2 => dCons r17_ fun a18_ r19_ => dPl .int a18_ fun q3 => dNil r19_ <| dBlk true m12_ fun b20_ m21_ => dCells b20_ fun c22_ => dCons c22_ fun a23_ r24_ => dPl .int a23_ fun q4 => dCons r24_ fun a25_ r26_ => dPl .int a25_ fun q5 => dCons r26_ fun a27_ r28_ => dPl .int a27_ fun q6 => dNil r28_ <| dBlk true m21_ fun b29_ m30_ => dList .int b29_ fun q7 => dBlk true m30_ fun b31_ m32_ => dList .int b31_ fun q8 => dEnd m32_ <| K (q0, q1, q2, q3, q4, q5, q6, q7, q8)
  law := by
    intro vs tm K h
    replace h := dCons_ok h; obtain ⟨a1_, r2_, rfl, h⟩ := h
    replace h := dPtr_ok h; obtain ⟨rfl, h⟩ := h
    replace h := dCons_ok h; obtain ⟨a3_, r4_, rfl, h⟩ := h
    replace h := dPtr_ok h; obtain ⟨rfl, h⟩ := h
    replace h := dCons_ok h; obtain ⟨a5_, r6_, rfl, h⟩ := h
    replace h := dSl_ok h; obtain ⟨rfl, h⟩ := h
    replace h := dCons_ok h; obtain ⟨a7_, r8_, rfl, h⟩ := h
    replace h := dSl_ok h; obtain ⟨rfl, h⟩ := h
    replace h := dCons_ok h; obtain ⟨a9_, r10_, rfl, h⟩ := h
    replace h := dInt_ok h; obtain ⟨q0, rfl, h⟩ := h
    replace h := dNil_ok h; obtain ⟨rfl, h⟩ := h
    replace h := dBlk_ok h; obtain ⟨b11_, m12_, rfl, h⟩ := h
    replace h := dCells_ok h; obtain ⟨c13_, rfl, h⟩ := h
    replace h := dCons_ok h; obtain ⟨a14_, r15_, rfl, h⟩ := h
    replace h := dPl_ok h; obtain ⟨q1, rfl, h⟩ := h
    replace h := dCons_ok h; obtain ⟨a16_, r17_, rfl, h⟩ := h
    replace h := dPl_ok h; obtain ⟨q2, rfl, h⟩ := h
    replace h := dCons_ok h; obtain ⟨a18_, r19_, rfl, h⟩ := h
    replace h := dPl_ok h; obtain ⟨q3, rfl, h⟩ := h
    replace h := dNil_ok h; obtain ⟨rfl, h⟩ := h
    replace h := dBlk_ok h; obtain ⟨b20_, m21_, rfl, h⟩ := h
    replace h := dCells_ok h; obtain ⟨c22_, rfl, h⟩ := h
    replace h := dCons_ok h; obtain ⟨a23_, r24_, rfl, h⟩ := h
    replace h := dPl_ok h; obtain ⟨q4, rfl, h⟩ := h
    replace h := dCons_ok h; obtain ⟨a25_, r26_, rfl, h⟩ := h
    replace h := dPl_ok h; obtain ⟨q5, rfl, h⟩ := h
    replace h := dCons_ok h; obtain ⟨a27_, r28_, rfl, h⟩ := h
    replace h := dPl_ok h; obtain ⟨q6, rfl, h⟩ := h
    replace h := dNil_ok h; obtain ⟨rfl, h⟩ := h
    replace h := dBlk_ok h; obtain ⟨b29_, m30_, rfl, h⟩ := h
    replace h := dList_ok h; obtain ⟨q7, rfl, h⟩ := h
    replace h := dBlk_ok h; obtain ⟨b31_, m32_, rfl, h⟩ := h
    replace h := dList_ok h; obtain ⟨q8, rfl, h⟩ := h
    replace h := dEnd_ok h; obtain ⟨rfl, h⟩ := h
    exact ⟨(q0, q1, q2, q3, q4, q5, q6, q7, q8), rfl, h⟩
def H37_2 : LH where
  keep := [(2, .pc [.pure .int, .pure .int, .pure .int]), (3, .pc [.pure .int, .pure .int, .pure .int]), (5, .own .int), (6, .own .int), (8, .x)]
  S := Int × List Int × List Int × List Int × List Int × List Int × List Int × List Int × List Int
  enc := fun s => ([.ptr 0 0, .ptr 1 0, .sl 2, .sl 3, .int .i64 s.1], [⟨true, .cells [.pl .int s.2.1, .pl .int s.2.2.1, .pl .int s.2.2.2.1]⟩, ⟨true, .cells [.pl .int s.2.2.2.2.1, .pl .int s.2.2.2.2.2.1, .pl .int s.2.2.2.2.2.2.1]⟩, ⟨true, .list .int s.2.2.2.2.2.2.2.1⟩, ⟨true, .list .int s.2.2.2.2.2.2.2.2⟩])
  dec := fun vs tm K => dCons vs fun a1_ r2_ => dPtr 0 a1_ <| dCons r2_ fun a3_ r4_ => dPtr 1 a3_ <| dCons r4_ fun a5_ r6_ => dSl 2 a5_ <| dCons r6_ fun a7_ r8_ => dSl 3 a7_ <| dCons r8_ fun a9_ r10_ => dInt .i64 a9_ fun q0 => dNil r10_ <| dBlk true tm fun b11_ m12_ => dCells b11_ fun c13_ => dCons c13_ fun a14_ r15_ => dPl .int a14_ fun q1 => dCons r15_ fun a16_ r17_ => dPl .int a16_ fun q2 => dCons r17_ fun a18_ r19_ => dPl .int a18_ fun q3 => dNil r19_ <| dBlk true m12_ fun b20_ m21_ => dCells b20_ fun c22_ => dCons c22_ fun a23_ r24_ => dPl .int a23_ fun q4 => dCons r24_ fun a25_ r26_ => dPl .int a25_ fun q5 => dCons r26_ fun a27_ r28_ => dPl .int a27_ fun q6 => dNil r28_ <| dBlk true m21_ fun b29_ m30_ => dList .int b29_ fun q7 => dBlk true m30_ fun b31_ m32_ => dList .int b31_ fun q8 => dEnd m32_ <| K (q0, q1, q2, q3, q4, q5, q6, q7, q8)
  law := by
    intro vs tm K h
    replace h := dCons_ok h; obtain ⟨a1_, r2_, rfl, h⟩ := h
    replace h := dPtr_ok h; obtain ⟨rfl, h⟩ := h
    replace h := dCons_ok h; obtain ⟨a3_, r4_, rfl, h⟩ := h
    replace h := dPtr_ok h; obtain ⟨rfl, h⟩ := h
    replace h := dCons_ok h; obtain ⟨a5_, r6_, rfl, h⟩ := h
    replace h := dSl_ok h; obtain ⟨rfl, h⟩ := h
    replace h := dCons_ok h; obtain ⟨a7_, r8_, rfl, h⟩ := h
    replace h := dSl_ok h; obtain ⟨rfl, h⟩ := h
    replace h := dCons_ok h; obtain ⟨a9_, r10_, rfl, h⟩ := h
    replace h := dInt_ok h; obtain ⟨q0, rfl, h⟩ := h
    replace h := dNil_ok h; obtain ⟨rfl, h⟩ := h
    replace h := dBlk_ok h; obtain ⟨b11_, m12_, rfl, h⟩ := h
    replace h := dCells_ok h; obtain ⟨c13_, rfl, h⟩ := h
    replace h := dCons_ok h; obtain ⟨a14_, r15_, rfl, h⟩ := h
    replace h := dPl_ok h; obtain ⟨q1, rfl, h⟩ := h
    replace h := dCons_ok h; obtain ⟨a16_, r17_, rfl, h⟩ := h
    replace h := dPl_ok h; obtain ⟨q2, rfl, h⟩ := h
    replace h := dCons_ok h; obtain ⟨a18_, r19_, rfl, h⟩ := h
    replace h := dPl_ok h; obtain ⟨q3, rfl, h⟩ := h
    replace h := dNil_ok h; obtain ⟨rfl, h⟩ := h
    replace h := dBlk_ok h; obtain ⟨b20_, m21_, rfl, h⟩ := h
    replace h := dCells_ok h; obtain ⟨c22_, rfl, h⟩ := h
    replace h := dCons_ok h; obtain ⟨a23_, r24_, rfl, h⟩ := h
    replace h := dPl_ok h; obtain ⟨q4, rfl, h⟩ := h
    replace h := dCons_ok h; obtain ⟨a25_, r26_, rfl, h⟩ := h
    replace h := dPl_ok h; obtain ⟨q5, rfl, h⟩ := h
    replace h := dCons_ok h; obtain ⟨a27_, r28_, rfl, h⟩ := h
    replace h := dPl_ok h; obtain ⟨q6, rfl, h⟩ := h
    replace h := dNil_ok h; obtain ⟨rfl, h⟩ := h
    replace h := dBlk_ok h; obtain ⟨b29_, m30_, rfl, h⟩ := h
    replace h := dList_ok h; obtain ⟨q7, rfl, h⟩ := h
    replace h := dBlk_ok h; obtain ⟨b31_, m32_, rfl, h⟩ := h
    replace h := dList_ok h; obtain ⟨q8, rfl, h⟩ := h
    replace h := dEnd_ok h; obtain ⟨rfl, h⟩ := h
    exact ⟨(q0, q1, q2, q3, q4, q5, q6, q7, q8), rfl, h⟩
def H37_1000002 : LH where
  keep := []
  S := Unit
  enc := fun s => ([], [])
  dec := fun vs tm K => dNil vs <| dEnd tm <| K ()
  law := by
    intro vs tm K h
    replace h := dNil_ok h; obtain ⟨rfl, h⟩ := h
    replace h := dEnd_ok h; obtain ⟨rfl, h⟩ := h
    exact ⟨(), rfl, h⟩
def H37_1000006 : LH where
  keep := []
  S := Unit
  enc := fun s => ([], [])
  dec := fun vs tm K => dNil vs <| dEnd tm <| K ()
  law := by
    intro vs tm K h
    replace h := dNil_ok h; obtain ⟨rfl, h⟩ := h
    replace h := dEnd_ok h; obtain ⟨rfl, h⟩ := h
    exact ⟨(), rfl, h⟩
def H37_1000017 : LH where
  keep := []
  S := Unit
  enc := fun s => ([], [])
  dec := fun vs tm K => dNil vs <| dEnd tm <| K ()
  law := by
    intro vs tm K h
    replace h := dNil_ok h; obtain ⟨rfl, h⟩ := h
    replace h := dEnd_ok h; obtain ⟨rfl, h⟩ := h
    exact ⟨(), rfl, h⟩
def H37 : List (Nat × LH) := [(0, H37_0), (2, H37_2), (1000002, H37_1000002), (1000006, H37_1000006), (1000017, H37_1000017)]
def W37 : List (Nat × List (Nat × List Nat)) := []
def Γ37 : List (Nat × Con) := [(76, useC [.ag [.pure .int, .pure .int, .pure .int]] G76), (77, useC [.ag [.pure .int, .pure .int, .pure .int]] G77), (79, useC [.pure .int, .x] G79)]
theorem e37 (p1 : List Int) (p2 : List Int) (p3 : List Int) (p4 : List Int) (p5 : List Int) (p6 : List Int) (K : TV → TMem → Prop) : TW PP 107 Γ37 H37 W37 (List.length ([] : TMem)) (bodyOf Try.f37) (endT PP 107 [.tmp 4] [.bl] [] (List.length ([] : TMem)) K) (argsF [.agg [.pl .int p1, .pl .int p2, .pl .int p3], .agg [.pl .int p4, .pl .int p5, .pl .int p6]]) [] =
    Ms_HeapsAlike p1 p2 p3 p4 p5 p6 (fun r1 => K (.bool r1) []) := by kernel_rfl
theorem s37 : CSound PP 37 G37 := by
  intro args K c h fl A aargs hA hN R hl
  unfold G37 at h
  generalize ht : c.tm = tm at h
  replace h := dCons_ok h; obtain ⟨a1_, r2_, rfl, h⟩ := h
  replace h := dAgg_ok h; obtain ⟨l3_, rfl, h⟩ := h
  replace h := dCons_ok h; obtain ⟨a4_, r5_, rfl, h⟩ := h
  replace h := dPl_ok h; obtain ⟨p1, rfl, h⟩ := h
  replace h := dCons_ok h; obtain ⟨a6_, r7_, rfl, h⟩ := h
  replace h := dPl_ok h; obtain ⟨p2, rfl, h⟩ := h
  replace h := dCons_ok h; obtain ⟨a8_, r9_, rfl, h⟩ := h
  replace h := dPl_ok h; obtain ⟨p3, rfl, h⟩ := h
  replace h := dNil_ok h; obtain ⟨rfl, h⟩ := h
  replace h := dCons_ok h; obtain ⟨a10_, r11_, rfl, h⟩ := h
  replace h := dAgg_ok h; obtain ⟨l12_, rfl, h⟩ := h
  replace h := dCons_ok h; obtain ⟨a13_, r14_, rfl, h⟩ := h
  replace h := dPl_ok h; obtain ⟨p4, rfl, h⟩ := h
  replace h := dCons_ok h; obtain ⟨a15_, r16_, rfl, h⟩ := h
  replace h := dPl_ok h; obtain ⟨p5, rfl, h⟩ := h
  replace h := dCons_ok h; obtain ⟨a17_, r18_, rfl, h⟩ := h
  replace h := dPl_ok h; obtain ⟨p6, rfl, h⟩ := h
  replace h := dNil_ok h; obtain ⟨rfl, h⟩ := h
  replace h := dNil_ok h; obtain ⟨rfl, h⟩ := h
  replace h := dEnd_ok h; obtain ⟨rfl, h⟩ := h
  refine fun_ok (nt := 107) (x := bodyOf Try.f37) (Γ := Γ37) (H := H37) (WW := W37) (rs := [.tmp 4]) (shs := [.bl]) (cons := []) mixed Try.func37 (by decide) (by kernel_rfl) Try.ntmps37 Try.results37 (.cons (useC_ok s76) (.cons (useC_ok s77) (.cons (useC_ok s79) (GSound.nil)))) ?_ hA hN R hl
  rw [ht, e37 p1 p2 p3 p4 p5 p6 K]
  exact h
/-! impl.CountLive -/
def G39 : Con := fun args tm K => dCons args fun a1_ r2_ => dAgg a1_ fun l3_ => dCons l3_ fun a4_ r5_ => dPl .int a4_ fun p1 => dCons r5_ fun a6_ r7_ => dPl .int a6_ fun p2 => dCons r7_ fun a8_ r9_ => dPl .int a8_ fun p3 => dNil r9_ <| dNil r2_ <| dEnd tm <| Mi_CountLive p1 p2 p3 (fun r1 => K (.int .i64 r1) [])
def H39_0 : LH where
  keep := [(3, .x), (7, .own .bool), (8, .x), (9, .x)]
  S := Int × Int × Int × List Bool
  enc := fun s => ([.int .i64 s.1, .sl 0, .int .i64 s.2.1, .int .i64 s.2.2.1], [⟨true, .list .bool s.2.2.2⟩])
  dec := fun vs tm K => dCons vs fun a1_ r2_ => dInt .i64 a1_ fun q0 => dCons r2_ fun a3_ r4_ => dSl 0 a3_ <| dCons r4_ fun a5_ r6_ => dInt .i64 a5_ fun q1 => dCons r6_ fun a7_ r8_ => dInt .i64 a7_ fun q2 => dNil r8_ <| dBlk true tm fun b9_ m10_ => dList .bool b9_ fun q3 => dEnd m10_ <| K (q0, q1, q2, q3)
  law := by
    intro vs tm K h
    replace h := dCons_ok h; obtain ⟨a1_, r2_, rfl, h⟩ := h
    replace h := dInt_ok h; obtain ⟨q0, rfl, h⟩ := h
    replace h := dCons_ok h; obtain ⟨a3_, r4_, rfl, h⟩ := h
    replace h := dSl_ok h; obtain ⟨rfl, h⟩ := h
    replace h := dCons_ok h; obtain ⟨a5_, r6_, rfl, h⟩ := h
    replace h := dInt_ok h; obtain ⟨q1, rfl, h⟩ := h
    replace h := dCons_ok h; obtain ⟨a7_, r8_, rfl, h⟩ := h
    replace h := dInt_ok h; obtain ⟨q2, rfl, h⟩ := h
    replace h := dNil_ok h; obtain ⟨rfl, h⟩ := h
    replace h := dBlk_ok h; obtain ⟨b9_, m10_, rfl, h⟩ := h
    replace h := dList_ok h; obtain ⟨q3, rfl, h⟩ := h
    replace h := dEnd_ok h; obtain ⟨rfl, h⟩ := h
    exact ⟨(q0, q1, q2, q3), rfl, h⟩
def H39 : List (Nat × LH) := [(0, H39_0)]
def W39 : List (Nat × List (Nat × List Nat)) := []
def Γ39 : List (Nat × Con) := [(34, useC [.ag [.pure .int, .pure .int, .pure .int]] G34)]
theorem e39 (p1 : List Int) (p2 : List Int) (p3 : List Int) (K : TV → TMem → Prop) : TW PP 18 Γ39 H39 W39 (List.length ([] : TMem)) (bodyOf Try.f39) (endT PP 18 [.tmp 2] [.x] [] (List.length ([] : TMem)) K) (argsF [.agg [.pl .int p1, .pl .int p2, .pl .int p3]]) [] =
    Mi_CountLive p1 p2 p3 (fun r1 => K (.int .i64 r1) []) := by kernel_rfl
theorem s39 : CSound PP 39 G39 := by
  intro args K c h fl A aargs hA hN R hl
  unfold G39 at h
  generalize ht : c.tm = tm at h
  replace h := dCons_ok h; obtain ⟨a1_, r2_, rfl, h⟩ := h
  replace h := dAgg_ok h; obtain ⟨l3_, rfl, h⟩ := h
  replace h := dCons_ok h; obtain ⟨a4_, r5_, rfl, h⟩ := h
  replace h := dPl_ok h; obtain ⟨p1, rfl, h⟩ := h
  replace h := dCons_ok h; obtain ⟨a6_, r7_, rfl, h⟩ := h
  replace h := dPl_ok h; obtain ⟨p2, rfl, h⟩ := h
  replace h := dCons_ok h; obtain ⟨a8_, r9_, rfl, h⟩ := h
  replace h := dPl_ok h; obtain ⟨p3, rfl, h⟩ := h
  replace h := dNil_ok h; obtain ⟨rfl, h⟩ := h
  replace h := dNil_ok h; obtain ⟨rfl, h⟩ := h
  replace h := dEnd_ok h; obtain ⟨rfl, h⟩ := h
  refine fun_ok (nt := 18) (x := bodyOf Try.f39) (Γ := Γ39) (H := H39) (WW := W39) (rs := [.tmp 2]) (shs := [.x]) (cons := []) mixed Try.func39 (by decide) (by kernel_rfl) Try.ntmps39 Try.results39 (.cons (useC_ok s34) (GSound.nil)) ?_ hA hN R hl
  rw [ht, e39 p1 p2 p3 K]
  exact h
/-! impl.HeapsAlike -/
def G38 : Con := fun args tm K => dCons args fun a1_ r2_ => dAgg a1_ fun l3_ => dCons l3_ fun a4_ r5_ => dPl .int a4_ fun p1 => dCons r5_ fun a6_ r7_ => dPl .int a6_ fun p2 => dCons r7_ fun a8_ r9_ => dPl .int a8_ fun p3 => dNil r9_ <| dCons r2_ fun a10_ r11_ => dAgg a10_ fun l12_ => dCons l12_ fun a13_ r14_ => dPl .int a13_ fun p4 => dCons r14_ fun a15_ r16_ => dPl .int a15_ fun p5 => dCons r16_ fun a17_ r18_ => dPl .int a17_ fun p6 => dNil r18_ <| dNil r11_ <| dEnd tm <| Mi_HeapsAlike p1 p2 p3 p4 p5 p6 (fun r1 => K (.bool r1) [])
def H38_1000002 : LH where
  keep := [(2, .pc [.pure .int, .pure .int, .pure .int]), (3, .pc [.pure .int, .pure .int, .pure .int]), (5, .pc [.own .int, .own .int, .own .int]), (7, .bl)]
  S := Bool × List Int × List Int × List Int × List Int × List Int × List Int × List Int × List Int × List Int
  enc := fun s => ([.ptr 0 0, .ptr 1 0, .ptr 2 0, .bool s.1], [⟨true, .cells [.pl .int s.2.1, .pl .int s.2.2.1, .pl .int s.2.2.2.1]⟩, ⟨true, .cells [.pl .int s.2.2.2.2.1, .pl .int s.2.2.2.2.2.1, .pl .int s.2.2.2.2.2.2.1]⟩, ⟨true, .cells [.sl 3, .sl 4, .sl 5]⟩, ⟨true, .list .int s.2.2.2.2.2.2.2.1⟩, ⟨true, .list .int s.2.2.2.2.2.2.2.2.1⟩, ⟨true, .list .int s.2.2.2.2.2.2.2.2.2⟩])
  dec := fun vs tm K => dCons vs fun a1_ r2_ => dPtr 0 a1_ <| dCons r2_ fun a3_ r4_ => dPtr 1 a3_ <| dCons r4_ fun a5_ r6_ => dPtr 2 a5_ <| dCons r6_ fun a7_ r8_ => dBool a7_ fun q0 => dNil r8_ <| dBlk true tm fun b9_ m10_ => dCells b9_ fun c11_ => dCons c11_ fun a12_ r13_ => dPl .int a12_ fun q1 => dCons r13_ fun a14_ r15_ => dPl .int a14_ fun q2 => dCons r15_ fun a16_ r17_ => dPl .int a16_ fun q3 => dNil r17_ <| dBlk true m10_ fun b18_ m19_ => dCells b18_ fun c20_ => dCons c20_ fun a21_ r22_ => dPl .int a21_ fun q4 => dCons r22_ fun a23_ r24_ => dPl .int a23_ fun q5 => dCons r24_ fun a25_ r26_ => dPl .int a25_ fun q6 => dNil r26_ <| dBlk true m19_ fun b27_ m28_ => dCells b27_ fun c29_ => dCons c29_ fun a30_ r31_ => dSl 3 a30_ <| dCons r31_ fun a32_ r33_ => dSl 4 a32_ <| dCons r33_ fun a34_ r35_ => dSl 5 a34_ <| dNil r35_ <| dBlk true m28_ fun b36_ m37_ => dList .int b36_ fun q7 => dBlk true m37_ fun b38_ m39_ => dList .int b38_ fun q8 => dBlk true m39_ fun b40_ m41_ => dList .int b40_ fun q9 => dEnd m41_ <| K (q0, q1, q2, q3, q4, q5, q6, q7, q8, q9)
  law := by
    intro vs tm K h
    replace h := dCons_ok h; obtain ⟨a1_, r2_, rfl, h⟩ := h
    replace h := dPtr_ok h; obtain ⟨rfl, h⟩ := h
    replace h := dCons_ok h; obtain ⟨a3_, r4_, rfl, h⟩ := h
    replace h := dPtr_ok h; obtain ⟨rfl, h⟩ := h
    replace h := dCons_ok h; obtain ⟨a5_, r6_, rfl, h⟩ := h
    replace h := dPtr_ok h; obtain ⟨rfl, h⟩ := h
    replace h := dCons_ok h; obtain ⟨a7_, r8_, rfl, h⟩ := h
    replace h := dBool_ok h; obtain ⟨q0, rfl, h⟩ := h
    replace h := dNil_ok h; obtain ⟨rfl, h⟩ := h
    replace h := dBlk_ok h; obtain ⟨b9_, m10_, rfl, h⟩ := h
    replace h := dCells_ok h; obtain ⟨c11_, rfl, h⟩ := h
    replace h := dCons_ok h; obtain ⟨a12_, r13_, rfl, h⟩ := h
    replace h := dPl_ok h; obtain ⟨q1, rfl, h⟩ := h
    replace h := dCons_ok h; obtain ⟨a14_, r15_, rfl, h⟩ := h
    replace h := dPl_ok h; obtain ⟨q2, rfl, h⟩ := h
    replace h := dCons_ok h; obtain ⟨a16_, r17_, rfl, h⟩ := h
    replace h := dPl_ok h; obtain ⟨q3, rfl, h⟩ := h
    replace h := dNil_ok h; obtain ⟨rfl, h⟩ := h
    replace h := dBlk_ok h; obtain ⟨b18_, m19_, rfl, h⟩ := h
    replace h := dCells_ok h; obtain ⟨c20_, rfl, h⟩ := h
    replace h := dCons_ok h; obtain ⟨a21_, r22_, rfl, h⟩ := h
    replace h := dPl_ok h; obtain ⟨q4, rfl, h⟩ := h
    replace h := dCons_ok h; obtain ⟨a23_, r24_, rfl, h⟩ := h
    replace h := dPl_ok h; obtain ⟨q5, rfl, h⟩ := h
    replace h := dCons_ok h; obtain ⟨a25_, r26_, rfl, h⟩ := h
    replace h := dPl_ok h; obtain ⟨q6, rfl, h⟩ := h
    replace h := dNil_ok h; obtain ⟨rfl, h⟩ := h
    replace h := dBlk_ok h; obtain ⟨b27_, m28_, rfl, h⟩ := h
    replace h := dCells_ok h; obtain ⟨c29_, rfl, h⟩ := h
    replace h := dCons_ok h; obtain ⟨a30_, r31_, rfl, h⟩ := h
    replace h := dSl_ok h; obtain ⟨rfl, h⟩ := h
    replace h := dCons_ok h; obtain ⟨a32_, r33_, rfl, h⟩ := h
    replace h := dSl_ok h; obtain ⟨rfl, h⟩ := h
    replace h := dCons_ok h; obtain ⟨a34_, r35_, rfl, h⟩ := h
    replace h := dSl_ok h; obtain ⟨rfl, h⟩ := h
    replace h := dNil_ok h; obtain ⟨rfl, h⟩ := h
    replace h := dBlk_ok h; obtain ⟨b36_, m37_, rfl, h⟩ := h
    replace h := dList_ok h; obtain ⟨q7, rfl, h⟩ := h
    replace h := dBlk_ok h; obtain ⟨b38_, m39_, rfl, h⟩ := h
    replace h := dList_ok h; obtain ⟨q8, rfl, h⟩ := h
    replace h := dBlk_ok h; obtain ⟨b40_, m41_, rfl, h⟩ := h
    replace h := dList_ok h; obtain ⟨q9, rfl, h⟩ := h
    replace h := dEnd_ok h; obtain ⟨rfl, h⟩ := h
    exact ⟨(q0, q1, q2, q3, q4, q5, q6, q7, q8, q9), rfl, h⟩
def H38_1000003 : LH where
  keep := [(2, .pc [.pure .int, .pure .int, .pure .int]), (3, .pc [.pure .int, .pure .int, .pure .int]), (5, .pc [.own .int, .own .int, .own .int]), (7, .bl), (8, .pc [.own .int, .own .int, .own .int]), (10, .bl)]
  S := Bool × Bool × List Int × List Int × List Int × List Int × List Int × List Int × List Int × List Int × List Int × List Int × List Int × List Int
  enc := fun s => ([.ptr 0 0, .ptr 1 0, .ptr 2 0, .bool s.1, .ptr 3 0, .bool s.2.1], [⟨true, .cells [.pl .int s.2.2.1, .pl .int s.2.2.2.1, .pl .int s.2.2.2.2.1]⟩, ⟨true, .cells [.pl .int s.2.2.2.2.2.1, .pl .int s.2.2.2.2.2.2.1, .pl .int s.2.2.2.2.2.2.2.1]⟩, ⟨true, .cells [.sl 4, .sl 5, .sl 6]⟩, ⟨true, .cells [.sl 7, .sl 8, .sl 9]⟩, ⟨true, .list .int s.2.2.2.2.2.2.2.2.1⟩, ⟨true, .list .int s.2.2.2.2.2.2.2.2.2.1⟩, ⟨true, .list .int s.2.2.2.2.2.2.2.2.2.2.1⟩, ⟨true, .list .int s.2.2.2.2.2.2.2.2.2.2.2.1⟩, ⟨true, .list .int s.2.2.2.2.2.2.2.2.2.2.2.2.1⟩, ⟨true, .list .int s.2.2.2.2.2.2.2.2.2.2.2.2.2⟩])
  dec := fun vs tm K => dCons vs fun a1_ r2_ => dPtr 0 a1_ <| dCons r2_ fun a3_ r4_ => dPtr 1 a3_ <| dCons r4_ fun a5_ r6_ => dPtr 2 a5_ <| dCons r6_ fun a7_ r8_ => dBool a7_ fun q0 => dCons r8_ fun a9_ r10_ => dPtr 3 a9_ <| dCons r10_ fun a11_ r12_ => dBool a11_ fun q1 => dNil r12_ <| dBlk true tm fun b13_ m14_ => dCells b13_ fun c15_ => dCons c15_ fun a16_ r17_ => dPl .int a16_ fun q2 => dCons r17_ fun a18_ r19_ => dPl .int a18_ fun q3 => dCons r19_ fun a20_ r21_ => dPl .int a20_ fun q4 => dNil r21_ <| dBlk true m14_ fun b22_ m23_ => dCells b22_ fun c24_ => dCons c24_ fun a25_ r26_ => dPl .int a25_ fun q5 => dCons r26_ fun a27_ r28_ => dPl .int a27_ fun q6 => dCons r28_ fun a29_ r30_ => dPl .int a29_ fun q7 => dNil r30_ <| dBlk true m23_ fun b31_ m32_ => dCells b31_ fun c33_ => dCons c33_ fun a34_ r35_ => dSl 4 a34_ <| dCons r35_ fun a36_ r37_ => dSl 5 a36_ <| dCons r37_ fun a38_ r39_ => dSl 6 a38_ <| dNil r39_ <| dBlk true m32_ fun b40_ m41_ => dCells b40_ fun c42_ => dCons c42_ fun a43_ r44_ => dSl 7 a43_ <| dCons r44_ fun a45_ r46_ => dSl 8 a45_ <| dCons r46_ fun a47_ r48_ => dSl 9 a47_ <| dNil r48_ <| dBlk true m41_ fun b49_ m50_ => dList .int b49_ fun q8 => dBlk true m50_ fun b51_ m52_ => dList .int b51_ fun q9 => dBlk true m52_ fun b53_ m54_ => dList .int b53_ fun q10 => dBlk true m54_ fun b55_ m56_ => dList .int b55_ fun q11 => dBlk true m56_ fun b57_ m58_ => dList .int b57_ fun q12 => dBlk true m58_ fun b59_ m60_ => dList .int b59_ fun q13 => dEnd m60_ <| K (q0, q1, q2, q3, q4, q5, q6, q7, q8, q9, q10, q11, q12, q13)
  law := by
    intro vs tm K h
    replace h := dCons_ok h; obtain ⟨a1_, r2_, rfl, h⟩ := h
    replace h := dPtr_ok h; obtain ⟨rfl, h⟩ := h
    replace h := dCons_ok h; obtain ⟨a3_, r4_, rfl, h⟩ := h
    replace h := dPtr_ok h; obtain ⟨rfl, h⟩ := h
    replace h := dCons_ok h; obtain ⟨a5_, r6_, rfl, h⟩ := h
    replace h := dPtr_ok h; obtain ⟨rfl, h⟩ := h
    replace h := dCons_ok h; obtain ⟨a7_, r8_, rfl, h⟩ := h
    replace h := dBool_ok h; obtain ⟨q0, rfl, h⟩ := h
    replace h := dCons_ok h; obtain ⟨a9_, r10_, rfl, h⟩ := h
    replace h := dPtr_ok h; obtain ⟨rfl, h⟩ := h
    replace h := dCons_ok h; obtain ⟨a11_, r12_, rfl, h⟩ := h
    replace h := dBool_ok h; obtain ⟨q1, rfl, h⟩ := h
    replace h := dNil_ok h; obtain ⟨rfl, h⟩ := h
    replace h := dBlk_ok h; obtain ⟨b13_, m14_, rfl, h⟩ := h
    replace h := dCells_ok h; obtain ⟨c15_, rfl, h⟩ := h
    replace h := dCons_ok h; obtain ⟨a16_, r17_, rfl, h⟩ := h
    replace h := dPl_ok h; obtain ⟨q2, rfl, h⟩ := h
    replace h := dCons_ok h; obtain ⟨a18_, r19_, rfl, h⟩ := h
    replace h := dPl_ok h; obtain ⟨q3, rfl, h⟩ := h
    replace h := dCons_ok h; obtain ⟨a20_, r21_, rfl, h⟩ := h
    replace h := dPl_ok h; obtain ⟨q4, rfl, h⟩ := h
    replace h := dNil_ok h; obtain ⟨rfl, h⟩ := h
    replace h := dBlk_ok h; obtain ⟨b22_, m23_, rfl, h⟩ := h
    replace h := dCells_ok h; obtain ⟨c24_, rfl, h⟩ := h
    replace h := dCons_ok h; obtain ⟨a25_, r26_, rfl, h⟩ := h
    replace h := dPl_ok h; obtain ⟨q5, rfl, h⟩ := h
    replace h := dCons_ok h; obtain ⟨a27_, r28_, rfl, h⟩ := h
    replace h := dPl_ok h; obtain ⟨q6, rfl, h⟩ := h
    replace h := dCons_ok h; obtain ⟨a29_, r30_, rfl, h⟩ := h
    replace h := dPl_ok h; obtain ⟨q7, rfl, h⟩ := h
    replace h := dNil_ok h; obtain ⟨rfl, h⟩ := h
    replace h := dBlk_ok h; obtain ⟨b31_, m32_, rfl, h⟩ := h
    replace h := dCells_ok h; obtain ⟨c33_, rfl, h⟩ := h
    replace h := dCons_ok h; obtain ⟨a34_, r35_, rfl, h⟩ := h
    replace h := dSl_ok h; obtain ⟨rfl, h⟩ := h
    replace h := dCons_ok h; obtain ⟨a36_, r37_, rfl, h⟩ := h
    replace h := dSl_ok h; obtain ⟨rfl, h⟩ := h
    replace h := dCons_ok h; obtain ⟨a38_, r39_, rfl, h⟩ := h
    replace h := dSl_ok h; obtain ⟨rfl, h⟩ := h
    replace h := dNil_ok h; obtain ⟨rfl, h⟩ := h
    replace h := dBlk_ok h; obtain ⟨b40_, m41_, rfl, h⟩ := h
    replace h := dCells_ok h; obtain ⟨c42_, rfl, h⟩ := h
    replace h := dCons_ok h; obtain ⟨a43_, r44_, rfl, h⟩ := h
    replace h := dSl_ok h; obtain ⟨rfl, h⟩ := h
    replace h := dCons_ok h; obtain ⟨a45_, r46_, rfl, h⟩ := h
    replace h := dSl_ok h; obtain ⟨rfl, h⟩ := h
    replace h := dCons_ok h; obtain ⟨a47_, r48_, rfl, h⟩ := h
    replace h := dSl_ok h; obtain ⟨rfl, h⟩ := h
    replace h := dNil_ok h; obtain ⟨rfl, h⟩ := h
    replace h := dBlk_ok h; obtain ⟨b49_, m50_, rfl, h⟩ := h
    replace h := dList_ok h; obtain ⟨q8, rfl, h⟩ := h
    replace h := dBlk_ok h; obtain ⟨b51_, m52_, rfl, h⟩ := h
    replace h := dList_ok h; obtain ⟨q9, rfl, h⟩ := h
    replace h := dBlk_ok h; obtain ⟨b53_, m54_, rfl, h⟩ := h
    replace h := dList_ok h; obtain ⟨q10, rfl, h⟩ := h
    replace h := dBlk_ok h; obtain ⟨b55_, m56_, rfl, h⟩ := h
    replace h := dList_ok h; obtain ⟨q11, rfl, h⟩ := h
    replace h := dBlk_ok h; obtain ⟨b57_, m58_, rfl, h⟩ := h
    replace h := dList_ok h; obtain ⟨q12, rfl, h⟩ := h
    replace h := dBlk_ok h; obtain ⟨b59_, m60_, rfl, h⟩ := h
    replace h := dList_ok h; obtain ⟨q13, rfl, h⟩ := h
    replace h := dEnd_ok h; obtain ⟨rfl, h⟩ := h
    exact ⟨(q0, q1, q2, q3, q4, q5, q6, q7, q8, q9, q10, q11, q12, q13), rfl, h⟩
def H38_1000004 : LH where
  keep := [(3, .pc [.pure .int, .pure .int, .pure .int]), (5, .pc [.own .int, .own .int, .own .int]), (7, .bl), (8, .pc [.own .int, .own .int, .own .int]), (10, .bl), (11, .x)]
  S := Bool × Bool × Int × List Int × List Int × List Int × List Int × List Int × List Int × List Int × List Int × List Int
  enc := fun s => ([.ptr 0 0, .ptr 1 0, .bool s.1, .ptr 2 0, .bool s.2.1, .int .i64 s.2.2.1], [⟨true, .cells [.pl .int s.2.2.2.1, .pl .int s.2.2.2.2.1, .pl .int s.2.2.2.2.2.1]⟩, ⟨true, .cells [.sl 3, .sl 4, .sl 5]⟩, ⟨true, .cells [.sl 6, .sl 7, .sl 8]⟩, ⟨true, .list .int s.2.2.2.2.2.2.1⟩, ⟨true, .list .int s.2.2.2.2.2.2.2.1⟩, ⟨true, .list .int s.2.2.2.2.2.2.2.2.1⟩, ⟨true, .list .int s.2.2.2.2.2.2.2.2.2.1⟩, ⟨true, .list .int s.2.2.2.2.2.2.2.2.2.2.1⟩, ⟨true, .list .int s.2.2.2.2.2.2.2.2.2.2.2⟩])
  dec := fun vs tm K => dCons vs fun a1_ r2_ => dPtr 0 a1_ <| dCons r2_ fun a3_ r4_ => dPtr 1 a3_ <| dCons r4_ fun a5_ r6_ => dBool a5_ fun q0 => dCons r6_ fun a7_ r8_ => dPtr 2 a7_ <| dCons r8_ fun a9_ r10_ => dBool a9_ fun q1 => dCons r10_ fun a11_ r12_ => dInt .i64 a11_ fun q2 => dNil r12_ <| dBlk true tm fun b13_ m14_ => dCells b13_ fun c15_ => dCons c15_ fun a16_ r17_ => dPl .int a16_ fun q3 => dCons r17_ fun a18_ r19_ => dPl .int a18_ fun q4 => dCons r19_ fun a20_ r21_ => dPl .int a20_ fun q5 => dNil r21_ <| dBlk true m14_ fun b22_ m23_ => dCells b22_ fun c24_ => dCons c24_ fun a25_ r26_ => dSl 3 a25_ <| dCons r26_ fun a27_ r28_ => dSl 4 a27_ <| dCons r28_ fun a29_ r30_ => dSl 5 a29_ <| dNil r30_ <| dBlk true m23_ fun b31_ m32_ => dCells b31_ fun c33_ => dCons c33_ fun a34_ r35_ => dSl 6 a34_ <| dCons r35_ fun a36_ r37_ => dSl 7 a36_ <| dCons r37_ fun a38_ r39_ => dSl 8 a38_ <| dNil r39_ <| dBlk true m32_ fun b40_ m41_ => dList .int b40_ fun q6 => dBlk true m41_ fun b42_ m43_ => dList .int b42_ fun q7 => dBlk true m43_ fun b44_ m45_ => dList .int b44_ fun q8 => dBlk true m45_ fun b46_ m47_ => dList .int b46_ fun q9 => dBlk true m47_ fun b48_ m49_ => dList .int b48_ fun q10 => dBlk true m49_ fun b50_ m51_ => dList .int b50_ fun q11 => dEnd m51_ <| K (q0, q1, q2, q3, q4, q5, q6, q7, q8, q9, q10, q11)
  law := by
    intro vs tm K h
    replace h := dCons_ok h; obtain ⟨a1_, r2_, rfl, h⟩ := h
    replace h := dPtr_ok h; obtain ⟨rfl, h⟩ := h
    replace h := dCons_ok h; obtain ⟨a3_, r4_, rfl, h⟩ := h
    replace h := dPtr_ok h; obtain ⟨rfl, h⟩ := h
    replace h := dCons_ok h; obtain ⟨a5_, r6_, rfl, h⟩ := h
    replace h := dBool_ok h; obtain ⟨q0, rfl, h⟩ := h
    replace h := dCons_ok h; obtain ⟨a7_, r8_, rfl, h⟩ := h
    replace h := dPtr_ok h; obtain ⟨rfl, h⟩ := h
    replace h := dCons_ok h; obtain ⟨a9_, r10_, rfl, h⟩ := h
    replace h := dBool_ok h; obtain ⟨q1, rfl, h⟩ := h
    replace h := dCons_ok h; obtain ⟨a11_, r12_, rfl, h⟩ := h
    replace h := dInt_ok h; obtain ⟨q2, rfl, h⟩ := h
    replace h := dNil_ok h; obtain ⟨rfl, h⟩ := h
    replace h := dBlk_ok h; obtain ⟨b13_, m14_, rfl, h⟩ := h
    replace h := dCells_ok h; obtain ⟨c15_, rfl, h⟩ := h
    replace h := dCons_ok h; obtain ⟨a16_, r17_, rfl, h⟩ := h
    replace h := dPl_ok h; obtain ⟨q3, rfl, h⟩ := h
    replace h := dCons_ok h; obtain ⟨a18_, r19_, rfl, h⟩ := h
    replace h := dPl_ok h; obtain ⟨q4, rfl, h⟩ := h
    replace h := dCons_ok h; obtain ⟨a20_, r21_, rfl, h⟩ := h
    replace h := dPl_ok h; obtain ⟨q5, rfl, h⟩ := h
    replace h := dNil_ok h; obtain ⟨rfl, h⟩ := h
    replace h := dBlk_ok h; obtain ⟨b22_, m23_, rfl, h⟩ := h
    replace h := dCells_ok h; obtain ⟨c24_, rfl, h⟩ := h
    replace h := dCons_ok h; obtain ⟨a25_, r26_, rfl, h⟩ := h
    replace h := dSl_ok h; obtain ⟨rfl, h⟩ := h
    replace h := dCons_ok h; obtain ⟨a27_, r28_, rfl, h⟩ := h
    replace h := dSl_ok h; obtain ⟨rfl, h⟩ := h
    replace h := dCons_ok h; obtain ⟨a29_, r30_, rfl, h⟩ := h
    replace h := dSl_ok h; obtain ⟨rfl, h⟩ := h
    replace h := dNil_ok h; obtain ⟨rfl, h⟩ := h
    replace h := dBlk_ok h; obtain ⟨b31_, m32_, rfl, h⟩ := h
    replace h := dCells_ok h; obtain ⟨c33_, rfl, h⟩ := h
    replace h := dCons_ok h; obtain ⟨a34_, r35_, rfl, h⟩ := h
    replace h := dSl_ok h; obtain ⟨rfl, h⟩ := h
    replace h := dCons_ok h; obtain ⟨a36_, r37_, rfl, h⟩ := h
    replace h := dSl_ok h; obtain ⟨rfl, h⟩ := h
    replace h := dCons_ok h; obtain ⟨a38_, r39_, rfl, h⟩ := h
    replace h := dSl_ok h; obtain ⟨rfl, h⟩ := h
    replace h := dNil_ok h; obtain ⟨rfl, h⟩ := h
    replace h := dBlk_ok h; obtain ⟨b40_, m41_, rfl, h⟩ := h
    replace h := dList_ok h; obtain ⟨q6, rfl, h⟩ := h
    replace h := dBlk_ok h; obtain ⟨b42_, m43_, rfl, h⟩ := h
    replace h := dList_ok h; obtain ⟨q7, rfl, h⟩ := h
    replace h := dBlk_ok h; obtain ⟨b44_, m45_, rfl, h⟩ := h
    replace h := dList_ok h; obtain ⟨q8, rfl, h⟩ := h
    replace h := dBlk_ok h; obtain ⟨b46_, m47_, rfl, h⟩ := h
    replace h := dList_ok h; obtain ⟨q9, rfl, h⟩ := h
    replace h := dBlk_ok h; obtain ⟨b48_, m49_, rfl, h⟩ := h
    replace h := dList_ok h; obtain ⟨q10, rfl, h⟩ := h
    replace h := dBlk_ok h; obtain ⟨b50_, m51_, rfl, h⟩ := h
    replace h := dList_ok h; obtain ⟨q11, rfl, h⟩ := h
    replace h := dEnd_ok h; obtain ⟨rfl, h⟩ := h
    exact ⟨(q0, q1, q2, q3, q4, q5, q6, q7, q8, q9, q10, q11), rfl, h⟩
def H38 : List (Nat × LH) := [(1000002, H38_1000002), (1000003, H38_1000003), (1000004, H38_1000004)]
def W38 : List (Nat × List (Nat × List Nat)) := [(2000004, [(0, [21, 25, 32, 36])])]
def Γ38 : List (Nat × Con) := [(31, useC [.ag [.pure .int, .pure .int, .pure .int]] G31), (39, useC [.ag [.pure .int, .pure .int, .pure .int]] G39), (70, useC [.pure .int, .pure .int] G70)]
theorem e38 (p1 : List Int) (p2 : List Int) (p3 : List Int) (p4 : List Int) (p5 : List Int) (p6 : List Int) (K : TV → TMem → Prop) : TW PP 65 Γ38 H38 W38 (List.length ([] : TMem)) (bodyOf Try.f38) (endT PP 65 [.tmp 4] [.bl] [] (List.length ([] : TMem)) K) (argsF [.agg [.pl .int p1, .pl .int p2, .pl .int p3], .agg [.pl .int p4, .pl .int p5, .pl .int p6]]) [] =
    Mi_HeapsAlike p1 p2 p3 p4 p5 p6 (fun r1 => K (.bool r1) []) := by kernel_rfl
theorem s38 : CSound PP 38 G38 := by
  intro args K c h fl A aargs hA hN R hl
  unfold G38 at h
  generalize ht : c.tm = tm at h
  replace h := dCons_ok h; obtain ⟨a1_, r2_, rfl, h⟩ := h
  replace h := dAgg_ok h; obtain ⟨l3_, rfl, h⟩ := h
  replace h := dCons_ok h; obtain ⟨a4_, r5_, rfl, h⟩ := h
  replace h := dPl_ok h; obtain ⟨p1, rfl, h⟩ := h
  replace h := dCons_ok h; obtain ⟨a6_, r7_, rfl, h⟩ := h
  replace h := dPl_ok h; obtain ⟨p2, rfl, h⟩ := h
  replace h := dCons_ok h; obtain ⟨a8_, r9_, rfl, h⟩ := h
  replace h := dPl_ok h; obtain ⟨p3, rfl, h⟩ := h
  replace h := dNil_ok h; obtain ⟨rfl, h⟩ := h
  replace h := dCons_ok h; obtain ⟨a10_, r11_, rfl, h⟩ := h
  replace h := dAgg_ok h; obtain ⟨l12_, rfl, h⟩ := h
  replace h := dCons_ok h; obtain ⟨a13_, r14_, rfl, h⟩ := h
  replace h := dPl_ok h; obtain ⟨p4, rfl, h⟩ := h
  replace h := dCons_ok h; obtain ⟨a15_, r16_, rfl, h⟩ := h
  replace h := dPl_ok h; obtain ⟨p5, rfl, h⟩ := h
  replace h := dCons_ok h; obtain ⟨a17_, r18_, rfl, h⟩ := h
  replace h := dPl_ok h; obtain ⟨p6, rfl, h⟩ := h
  replace h := dNil_ok h; obtain ⟨rfl, h⟩ := h
  replace h := dNil_ok h; obtain ⟨rfl, h⟩ := h
  replace h := dEnd_ok h; obtain ⟨rfl, h⟩ := h
  refine fun_ok (nt := 65) (x := bodyOf Try.f38) (Γ := Γ38) (H := H38) (WW := W38) (rs := [.tmp 4]) (shs := [.bl]) (cons := []) mixed Try.func38 (by decide) (by kernel_rfl) Try.ntmps38 Try.results38 (.cons (useC_ok s31) (.cons (useC_ok s39) (.cons (useC_ok s70) (GSound.nil)))) ?_ hA hN R hl
  rw [ht, e38 p1 p2 p3 p4 p5 p6 K]
  exact h
/-! spec.DrawHeapsAlike -/
def G42 : Con := fun args tm K => dCons args fun a1_ r2_ => dPl .byte a1_ fun p1 => dNil r2_ <| dEnd tm <| Ms_DrawHeapsAlike p1 (fun r1 r2 r3 r4 r5 r6 => K (.tup [.agg [.sl 0, .sl 1, .sl 2], .agg [.sl 3, .sl 4, .sl 5]]) [⟨true, .list .int r1⟩, ⟨true, .list .int r2⟩, ⟨true, .list .int r3⟩, ⟨true, .list .int r4⟩, ⟨true, .list .int r5⟩, ⟨true, .list .int r6⟩])
def H42 : List (Nat × LH) := []
def W42 : List (Nat × List (Nat × List Nat)) := [(5, [(2, [2])]), (8, [(0, [2])]), (10, [(2, [3])]), (11, [(2, [5])]), (12, [(0, [2])])]
def Γ42 : List (Nat × Con) := [(65, useC [.pure .byte] G65), (66, useC [.pc [.pure .byte, .x]] G66), (68, useC [.pc [.pure .byte, .x], .x] G68), (32, useC [.ag [.pure .int, .pure .int, .pure .int]] G32), (82, useC [.pc [.pure .byte, .x], .ag [.own .int, .own .int, .own .int]] (onlyC [0] G82)), (67, useC [.pc [.pure .byte, .x], .x] G67), (18, useC [.ag [.pure .int, .pure .int, .pure .int], .pure .int] G18)]
theorem e42 (p1 : List Int) (K : TV → TMem → Prop) : TW PP 50 Γ42 H42 W42 (List.length ([] : TMem)) (bodyOf Try.f42) (endT PP 50 [.cell 2 26, .cell 3 26] [.ag [.own .int, .own .int, .own .int], .ag [.own .int, .own .int, .own .int]] [] (List.length ([] : TMem)) K) (argsF [.pl .byte p1]) [] =
    Ms_DrawHeapsAlike p1 (fun r1 r2 r3 r4 r5 r6 => K (.tup [.agg [.sl 0, .sl 1, .sl 2], .agg [.sl 3, .sl 4, .sl 5]]) [⟨true, .list .int r1⟩, ⟨true, .list .int r2⟩, ⟨true, .list .int r3⟩, ⟨true, .list .int r4⟩, ⟨true, .list .int r5⟩, ⟨true, .list .int r6⟩]) := by kernel_rfl
theorem s42 : CSound PP 42 G42 := by
  intro args K c h fl A aargs hA hN R hl
  unfold G42 at h
  generalize ht : c.tm = tm at h
  replace h := dCons_ok h; obtain ⟨a1_, r2_, rfl, h⟩ := h
  replace h := dPl_ok h; obtain ⟨p1, rfl, h⟩ := h
  replace h := dNil_ok h; obtain ⟨rfl, h⟩ := h
  replace h := dEnd_ok h; obtain ⟨rfl, h⟩ := h
  refine fun_ok (nt := 50) (x := bodyOf Try.f42) (Γ := Γ42) (H := H42) (WW := W42) (rs := [.cell 2 26, .cell 3 26]) (shs := [.ag [.own .int, .own .int, .own .int], .ag [.own .int, .own .int, .own .int]]) (cons := []) mixed Try.func42 (by decide) (by kernel_rfl) Try.ntmps42 Try.results42 (.cons (useC_ok s65) (.cons (useC_ok s66) (.cons (useC_ok s68) (.cons (useC_ok s32) (.cons (useC_ok (onlyC_ok s82)) (.cons (useC_ok s67) (.cons (useC_ok s18) (GSound.nil)))))))) ?_ hA hN R hl
  rw [ht, e42 p1 K]
  exact h
/-! laws.FnAlikeCopy -/
def G14 : Con := fun args tm K => dCons args fun a1_ r2_ => dPl .byte a1_ fun p1 => dNil r2_ <| dEnd tm <| Ml_FnAlikeCopy p1 (fun r1 => K (.bool r1) [])
def H14_1000008 : LH where
  keep := [(3, .pc [.own .int, .own .int, .own .int]), (4, .pc [.own .int, .own .int, .own .int]), (5, .bl), (6, .pc [.own .int, .own .int, .own .int]), (8, .bl)]
  S := Bool × Bool × List Int × List Int × List Int × List Int × List Int × List Int × List Int × List Int × List Int
  enc := fun s => ([.ptr 0 0, .ptr 1 0, .bool s.1, .ptr 2 0, .bool s.2.1], [⟨true, .cells [.sl 3, .sl 4, .sl 5]⟩, ⟨true, .cells [.sl 6, .sl 7, .sl 8]⟩, ⟨true, .cells [.sl 9, .sl 10, .sl 11]⟩, ⟨true, .list .int s.2.2.1⟩, ⟨true, .list .int s.2.2.2.1⟩, ⟨true, .list .int s.2.2.2.2.1⟩, ⟨true, .list .int s.2.2.2.2.2.1⟩, ⟨true, .list .int s.2.2.2.2.2.2.1⟩, ⟨true, .list .int s.2.2.2.2.2.2.2.1⟩, ⟨true, .list .int s.2.2.2.2.2.2.2.2.1⟩, ⟨true, .list .int s.2.2.2.2.2.2.2.2.2.1⟩, ⟨true, .list .int s.2.2.2.2.2.2.2.2.2.2⟩])
  dec := fun vs tm K => dCons vs fun a1_ r2_ => dPtr 0 a1_ <| dCons r2_ fun a3_ r4_ => dPtr 1 a3_ <| dCons r4_ fun a5_ r6_ => dBool a5_ fun q0 => dCons r6_ fun a7_ r8_ => dPtr 2 a7_ <| dCons r8_ fun a9_ r10_ => dBool a9_ fun q1 => dNil r10_ <| dBlk true tm fun b11_ m12_ => dCells b11_ fun c13_ => dCons c13_ fun a14_ r15_ => dSl 3 a14_ <| dCons r15_ fun a16_ r17_ => dSl 4 a16_ <| dCons r17_ fun a18_ r19_ => dSl 5 a18_ <| dNil r19_ <| dBlk true m12_ fun b20_ m21_ => dCells b20_ fun c22_ => dCons c22_ fun a23_ r24_ => dSl 6 a23_ <| dCons r24_ fun a25_ r26_ => dSl 7 a25_ <| dCons r26_ fun a27_ r28_ => dSl 8 a27_ <| dNil r28_ <| dBlk true m21_ fun b29_ m30_ => dCells b29_ fun c31_ => dCons c31_ fun a32_ r33_ => dSl 9 a32_ <| dCons r33_ fun a34_ r35_ => dSl 10 a34_ <| dCons r35_ fun a36_ r37_ => dSl 11 a36_ <| dNil r37_ <| dBlk true m30_ fun b38_ m39_ => dList .int b38_ fun q2 => dBlk true m39_ fun b40_ m41_ => dList .int b40_ fun q3 => dBlk true m41_ fun b42_ m43_ => dList .int b42_ fun q4 => dBlk true m43_ fun b44_ m45_ => dList .int b44_ fun q5 => dBlk true m45_ fun b46_ m47_ => dList .int b46_ fun q6 => dBlk true m47_ fun b48_ m49_ => dList .int b48_ fun q7 => dBlk true m49_ fun b50_ m51_ => dList .int b50_ fun q8 => dBlk true m51_ fun b52_ m53_ => dList .int b52_ fun q9 => dBlk true m53_ fun b54_ m55_ => dList .int b54_ fun q10 => dEnd m55_ <| K (q0, q1, q2, q3, q4, q5, q6, q7, q8, q9, q10)
  law := by
    intro vs tm K h
    replace h := dCons_ok h; obtain ⟨a1_, r2_, rfl, h⟩ := h
    replace h := dPtr_ok h; obtain ⟨rfl, h⟩ := h
    replace h := dCons_ok h; obtain ⟨a3_, r4_, rfl, h⟩ := h
    replace h := dPtr_ok h; obtain ⟨rfl, h⟩ := h
    replace h := dCons_ok h; obtain ⟨a5_, r6_, rfl, h⟩ := h
    replace h := dBool_ok h; obtain ⟨q0, rfl, h⟩ := h
    replace h := dCons_ok h; obtain ⟨a7_, r8_, rfl, h⟩ := h
    replace h := dPtr_ok h; obtain ⟨rfl, h⟩ := h
    replace h := dCons_ok h; obtain ⟨a9_, r10_, rfl, h⟩ := h
    replace h := dBool_ok h; obtain ⟨q1, rfl, h⟩ := h
    replace h := dNil_ok h; obtain ⟨rfl, h⟩ := h
    replace h := dBlk_ok h; obtain ⟨b11_, m12_, rfl, h⟩ := h
    replace h := dCells_ok h; obtain ⟨c13_, rfl, h⟩ := h
    replace h := dCons_ok h; obtain ⟨a14_, r15_, rfl, h⟩ := h
    replace h := dSl_ok h; obtain ⟨rfl, h⟩ := h
    replace h := dCons_ok h; obtain ⟨a16_, r17_, rfl, h⟩ := h
    replace h := dSl_ok h; obtain ⟨rfl, h⟩ := h
    replace h := dCons_ok h; obtain ⟨a18_, r19_, rfl, h⟩ := h
    replace h := dSl_ok h; obtain ⟨rfl, h⟩ := h
    replace h := dNil_ok h; obtain ⟨rfl, h⟩ := h
    replace h := dBlk_ok h; obtain ⟨b20_, m21_, rfl, h⟩ := h
    replace h := dCells_ok h; obtain ⟨c22_, rfl, h⟩ := h
    replace h := dCons_ok h; obtain ⟨a23_, r24_, rfl, h⟩ := h
    replace h := dSl_ok h; obtain ⟨rfl, h⟩ := h
    replace h := dCons_ok h; obtain ⟨a25_, r26_, rfl, h⟩ := h
    replace h := dSl_ok h; obtain ⟨rfl, h⟩ := h
    replace h := dCons_ok h; obtain ⟨a27_, r28_, rfl, h⟩ := h
    replace h := dSl_ok h; obtain ⟨rfl, h⟩ := h
    replace h := dNil_ok h; obtain ⟨rfl, h⟩ := h
    replace h := dBlk_ok h; obtain ⟨b29_, m30_, rfl, h⟩ := h
    replace h := dCells_ok h; obtain ⟨c31_, rfl, h⟩ := h
    replace h := dCons_ok h; obtain ⟨a32_, r33_, rfl, h⟩ := h
    replace h := dSl_ok h; obtain ⟨rfl, h⟩ := h
    replace h := dCons_ok h; obtain ⟨a34_, r35_, rfl, h⟩ := h
    replace h := dSl_ok h; obtain ⟨rfl, h⟩ := h
    replace h := dCons_ok h; obtain ⟨a36_, r37_, rfl, h⟩ := h
    replace h := dSl_ok h; obtain ⟨rfl, h⟩ := h
    replace h := dNil_ok h; obtain ⟨rfl, h⟩ := h
    replace h := dBlk_ok h; obtain ⟨b38_, m39_, rfl, h⟩ := h
    replace h := dList_ok h; obtain ⟨q2, rfl, h⟩ := h
    replace h := dBlk_ok h; obtain ⟨b40_, m41_, rfl, h⟩ := h
    replace h := dList_ok h; obtain ⟨q3, rfl, h⟩ := h
    replace h := dBlk_ok h; obtain ⟨b42_, m43_, rfl, h⟩ := h
    replace h := dList_ok h; obtain ⟨q4, rfl, h⟩ := h
    replace h := dBlk_ok h; obtain ⟨b44_, m45_, rfl, h⟩ := h
    replace h := dList_ok h; obtain ⟨q5, rfl, h⟩ := h
    replace h := dBlk_ok h; obtain ⟨b46_, m47_, rfl, h⟩ := h
    replace h := dList_ok h; obtain ⟨q6, rfl, h⟩ := h
    replace h := dBlk_ok h; obtain ⟨b48_, m49_, rfl, h⟩ := h
    replace h := dList_ok h; obtain ⟨q7, rfl, h⟩ := h
    replace h := dBlk_ok h; obtain ⟨b50_, m51_, rfl, h⟩ := h
    replace h := dList_ok h; obtain ⟨q8, rfl, h⟩ := h
    replace h := dBlk_ok h; obtain ⟨b52_, m53_, rfl, h⟩ := h
    replace h := dList_ok h; obtain ⟨q9, rfl, h⟩ := h
    replace h := dBlk_ok h; obtain ⟨b54_, m55_, rfl, h⟩ := h
    replace h := dList_ok h; obtain ⟨q10, rfl, h⟩ := h
    replace h := dEnd_ok h; obtain ⟨rfl, h⟩ := h
    exact ⟨(q0, q1, q2, q3, q4, q5, q6, q7, q8, q9, q10), rfl, h⟩
def H14_1000009 : LH where
  keep := [(3, .pc [.own .int, .own .int, .own .int]), (4, .pc [.own .int, .own .int, .own .int]), (5, .bl), (6, .pc [.own .int, .own .int, .own .int]), (8, .bl), (9, .pc [.own .int, .own .int, .own .int]), (11, .bl)]
  S := Bool × Bool × Bool × List Int × List Int × List Int × List Int × List Int × List Int × List Int × List Int × List Int × List Int × List Int × List Int
  enc := fun s => ([.ptr 0 0, .ptr 1 0, .bool s.1, .ptr 2 0, .bool s.2.1, .ptr 3 0, .bool s.2.2.1], [⟨true, .cells [.sl 4, .sl 5, .sl 6]⟩, ⟨true, .cells [.sl 7, .sl 8, .sl 9]⟩, ⟨true, .cells [.sl 10, .sl 11, .sl 12]⟩, ⟨true, .cells [.sl 13, .sl 14, .sl 15]⟩, ⟨true, .list .int s.2.2.2.1⟩, ⟨true, .list .int s.2.2.2.2.1⟩, ⟨true, .list .int s.2.2.2.2.2.1⟩, ⟨true, .list .int s.2.2.2.2.2.2.1⟩, ⟨true, .list .int s.2.2.2.2.2.2.2.1⟩, ⟨true, .list .int s.2.2.2.2.2.2.2.2.1⟩, ⟨true, .list .int s.2.2.2.2.2.2.2.2.2.1⟩, ⟨true, .list .int s.2.2.2.2.2.2.2.2.2.2.1⟩, ⟨true, .list .int s.2.2.2.2.2.2.2.2.2.2.2.1⟩, ⟨true, .list .int s.2.2.2.2.2.2.2.2.2.2.2.2.1⟩, ⟨true, .list .int s.2.2.2.2.2.2.2.2.2.2.2.2.2.1⟩, ⟨true, .list .int s.2.2.2.2.2.2.2.2.2.2.2.2.2.2⟩])
  dec := fun vs tm K => dCons vs fun a1_ r2_ => dPtr 0 a1_ <| dCons r2_ fun a3_ r4_ => dPtr 1 a3_ <| dCons r4_ fun a5_ r6_ => dBool a5_ fun q0 => dCons r6_ fun a7_ r8_ => dPtr 2 a7_ <| dCons r8_ fun a9_ r10_ => dBool a9_ fun q1 => dCons r10_ fun a11_ r12_ => dPtr 3 a11_ <| dCons r12_ fun a13_ r14_ => dBool a13_ fun q2 => dNil r14_ <| dBlk true tm fun b15_ m16_ => dCells b15_ fun c17_ => dCons c17_ fun a18_ r19_ => dSl 4 a18_ <| dCons r19_ fun a20_ r21_ => dSl 5 a20_ <| dCons r21_ fun a22_ r23_ => dSl 6 a22_ <| dNil r23_ <| dBlk true m16_ fun b24_ m25_ => dCells b24_ fun c26_ => dCons c26_ fun a27_ r28_ => dSl 7 a27_ <| dCons r28_ fun a29_ r30_ => dSl 8 a29_ <| dCons r30_ fun a31_ r32_ => dSl 9 a31_ <| dNil r32_ <| dBlk true m25_ fun b33_ m34_ => dCells b33_ fun c35_ => dCons c35_ fun a36_ r37_ => dSl 10 a36_ <| dCons r37_ fun a38_ r39_ => dSl 11 a38_ <| dCons r39_ fun a40_ r41_ => dSl 12 a40_ <| dNil r41_ <| dBlk true m34_ fun b42_ m43_ => dCells b42_ fun c44_ => dCons c44_ fun a45_ r46_ => dSl 13 a45_ <| dCons r46_ fun a47_ r48_ => dSl 14 a47_ <| dCons r48_ fun a49_ r50_ => dSl 15 a49_ <| dNil r50_ <| dBlk true m43_ fun b51_ m52_ => dList .int b51_ fun q3 => dBlk true m52_ fun b53_ m54_ => dList .int b53_ fun q4 => dBlk true m54_ fun b55_ m56_ => dList .int b55_ fun q5 => dBlk true m56_ fun b57_ m58_ => dList .int b57_ fun q6 => dBlk true m58_ fun b59_ m60_ => dList .int b59_ fun q7 => dBlk true m60_ fun b61_ m62_ => dList .int b61_ fun q8 => dBlk true m62_ fun b63_ m64_ => dList .int b63_ fun q9 => dBlk true m64_ fun b65_ m66_ => dList .int b65_ fun q10 => dBlk true m66_ fun b67_ m68_ => dList .int b67_ fun q11 => dBlk true m68_ fun b69_ m70_ => dList .int b69_ fun q12 => dBlk true m70_ fun b71_ m72_ => dList .int b71_ fun q13 => dBlk true m72_ fun b73_ m74_ => dList .int b73_ fun q14 => dEnd m74_ <| K (q0, q1, q2, q3, q4, q5, q6, q7, q8, q9, q10, q11, q12, q13, q14)
  law := by
    intro vs tm K h
    replace h := dCons_ok h; obtain ⟨a1_, r2_, rfl, h⟩ := h
    replace h := dPtr_ok h; obtain ⟨rfl, h⟩ := h
    replace h := dCons_ok h; obtain ⟨a3_, r4_, rfl, h⟩ := h
    replace h := dPtr_ok h; obtain ⟨rfl, h⟩ := h
    replace h := dCons_ok h; obtain ⟨a5_, r6_, rfl, h⟩ := h
    replace h := dBool_ok h; obtain ⟨q0, rfl, h⟩ := h
    replace h := dCons_ok h; obtain ⟨a7_, r8_, rfl, h⟩ := h
    replace h := dPtr_ok h; obtain ⟨rfl, h⟩ := h
    replace h := dCons_ok h; obtain ⟨a9_, r10_, rfl, h⟩ := h
    replace h := dBool_ok h; obtain ⟨q1, rfl, h⟩ := h
    replace h := dCons_ok h; obtain ⟨a11_, r12_, rfl, h⟩ := h
    replace h := dPtr_ok h; obtain ⟨rfl, h⟩ := h
    replace h := dCons_ok h; obtain ⟨a13_, r14_, rfl, h⟩ := h
    replace h := dBool_ok h; obtain ⟨q2, rfl, h⟩ := h
    replace h := dNil_ok h; obtain ⟨rfl, h⟩ := h
    replace h := dBlk_ok h; obtain ⟨b15_, m16_, rfl, h⟩ := h
    replace h := dCells_ok h; obtain ⟨c17_, rfl, h⟩ := h
    replace h := dCons_ok h; obtain ⟨a18_, r19_, rfl, h⟩ := h
    replace h := dSl_ok h; obtain ⟨rfl, h⟩ := h
    replace h := dCons_ok h; obtain ⟨a20_, r21_, rfl, h⟩ := h
    replace h := dSl_ok h; obtain ⟨rfl, h⟩ := h
    replace h := dCons_ok h; obtain ⟨a22_, r23_, rfl, h⟩ := h
    replace h := dSl_ok h; obtain ⟨rfl, h⟩ := h
    replace h := dNil_ok h; obtain ⟨rfl, h⟩ := h
    replace h := dBlk_ok h; obtain ⟨b24_, m25_, rfl, h⟩ := h
    replace h := dCells_ok h; obtain ⟨c26_, rfl, h⟩ := h
    replace h := dCons_ok h; obtain ⟨a27_, r28_, rfl, h⟩ := h
    replace h := dSl_ok h; obtain ⟨rfl, h⟩ := h
    replace h := dCons_ok h; obtain ⟨a29_, r30_, rfl, h⟩ := h
    replace h := dSl_ok h; obtain ⟨rfl, h⟩ := h
    replace h := dCons_ok h; obtain ⟨a31_, r32_, rfl, h⟩ := h
    replace h := dSl_ok h; obtain ⟨rfl, h⟩ := h
    replace h := dNil_ok h; obtain ⟨rfl, h⟩ := h
    replace h := dBlk_ok h; obtain ⟨b33_, m34_, rfl, h⟩ := h
    replace h := dCells_ok h; obtain ⟨c35_, rfl, h⟩ := h
    replace h := dCons_ok h; obtain ⟨a36_, r37_, rfl, h⟩ := h
    replace h := dSl_ok h; obtain ⟨rfl, h⟩ := h
    replace h := dCons_ok h; obtain ⟨a38_, r39_, rfl, h⟩ := h
    replace h := dSl_ok h; obtain ⟨rfl, h⟩ := h
    replace h := dCons_ok h; obtain ⟨a40_, r41_, rfl, h⟩ := h
    replace h := dSl_ok h; obtain ⟨rfl, h⟩ := h
    replace h := dNil_ok h; obtain ⟨rfl, h⟩ := h
    replace h := dBlk_ok h; obtain ⟨b42_, m43_, rfl, h⟩ := h
    replace h := dCells_ok h; obtain ⟨c44_, rfl, h⟩ := h
    replace h := dCons_ok h; obtain ⟨a45_, r46_, rfl, h⟩ := h
    replace h := dSl_ok h; obtain ⟨rfl, h⟩ := h
    replace h := dCons_ok h; obtain ⟨a47_, r48_, rfl, h⟩ := h
    replace h := dSl_ok h; obtain ⟨rfl, h⟩ := h
    replace h := dCons_ok h; obtain ⟨a49_, r50_, rfl, h⟩ := h
    replace h := dSl_ok h; obtain ⟨rfl, h⟩ := h
    replace h := dNil_ok h; obtain ⟨rfl, h⟩ := h
    replace h := dBlk_ok h; obtain ⟨b51_, m52_, rfl, h⟩ := h
    replace h := dList_ok h; obtain ⟨q3, rfl, h⟩ := h
    replace h := dBlk_ok h; obtain ⟨b53_, m54_, rfl, h⟩ := h
    replace h := dList_ok h; obtain ⟨q4, rfl, h⟩ := h
    replace h := dBlk_ok h; obtain ⟨b55_, m56_, rfl, h⟩ := h
    replace h := dList_ok h; obtain ⟨q5, rfl, h⟩ := h
    replace h := dBlk_ok h; obtain ⟨b57_, m58_, rfl, h⟩ := h
    replace h := dList_ok h; obtain ⟨q6, rfl, h⟩ := h
    replace h := dBlk_ok h; obtain ⟨b59_, m60_, rfl, h⟩ := h
    replace h := dList_ok h; obtain ⟨q7, rfl, h⟩ := h
    replace h := dBlk_ok h; obtain ⟨b61_, m62_, rfl, h⟩ := h
    replace h := dList_ok h; obtain ⟨q8, rfl, h⟩ := h
    replace h := dBlk_ok h; obtain ⟨b63_, m64_, rfl, h⟩ := h
    replace h := dList_ok h; obtain ⟨q9, rfl, h⟩ := h
    replace h := dBlk_ok h; obtain ⟨b65_, m66_, rfl, h⟩ := h
    replace h := dList_ok h; obtain ⟨q10, rfl, h⟩ := h
    replace h := dBlk_ok h; obtain ⟨b67_, m68_, rfl, h⟩ := h
    replace h := dList_ok h; obtain ⟨q11, rfl, h⟩ := h
    replace h := dBlk_ok h; obtain ⟨b69_, m70_, rfl, h⟩ := h
    replace h := dList_ok h; obtain ⟨q12, rfl, h⟩ := h
    replace h := dBlk_ok h; obtain ⟨b71_, m72_, rfl, h⟩ := h
    replace h := dList_ok h; obtain ⟨q13, rfl, h⟩ := h
    replace h := dBlk_ok h; obtain ⟨b73_, m74_, rfl, h⟩ := h
    replace h := dList_ok h; obtain ⟨q14, rfl, h⟩ := h
    replace h := dEnd_ok h; obtain ⟨rfl, h⟩ := h
    exact ⟨(q0, q1, q2, q3, q4, q5, q6, q7, q8, q9, q10, q11, q12, q13, q14), rfl, h⟩
def H14 : List (Nat × LH) := [(1000008, H14_1000008), (1000009, H14_1000009)]
def W14 : List (Nat × List (Nat × List Nat)) := []
def Γ14 : List (Nat × Con) := [(42, useC [.pure .byte] G42), (38, useC [.ag [.pure .int, .pure .int, .pure .int], .ag [.pure .int, .pure .int, .pure .int]] G38), (37, useC [.ag [.pure .int, .pure .int, .pure .int], .ag [.pure .int, .pure .int, .pure .int]] G37), (40, useC [.ag [.pure .int, .pure .int, .pure .int]] G40), (31, useC [.ag [.pure .int, .pure .int, .pure .int]] G31), (28, useC [.ag [.pure .int, .pure .int, .pure .int], .ag [.pure .int, .pure .int, .pure .int]] G28)]
theorem e14 (p1 : List Int) (K : TV → TMem → Prop) : TW PP 95 Γ14 H14 W14 (List.length ([] : TMem)) (bodyOf Try.f14) (endT PP 95 [.tmp 2] [.bl] [] (List.length ([] : TMem)) K) (argsF [.pl .byte p1]) [] =
    Ml_FnAlikeCopy p1 (fun r1 => K (.bool r1) []) := by kernel_rfl
theorem s14 : CSound PP 14 G14 := by
  intro args K c h fl A aargs hA hN R hl
  unfold G14 at h
  generalize ht : c.tm = tm at h
  replace h := dCons_ok h; obtain ⟨a1_, r2_, rfl, h⟩ := h
  replace h := dPl_ok h; obtain ⟨p1, rfl, h⟩ := h
  replace h := dNil_ok h; obtain ⟨rfl, h⟩ := h
  replace h := dEnd_ok h; obtain ⟨rfl, h⟩ := h
  refine fun_ok (nt := 95) (x := bodyOf Try.f14) (Γ := Γ14) (H := H14) (WW := W14) (rs := [.tmp 2]) (shs := [.bl]) (cons := []) mixed Try.func14 (by decide) (by kernel_rfl) Try.ntmps14 Try.results14 (.cons (useC_ok s42) (.cons (useC_ok s38) (.cons (useC_ok s37) (.cons (useC_ok s40) (.cons (useC_ok s31) (.cons (useC_ok s28) (GSound.nil))))))) ?_ hA hN R hl
  rw [ht, e14 p1 K]
  exact h
end Go.Ab
