/-
  What is proved here: that the typed models of functions of the translated program are sound.
-/
import Derived.Test.YtmpnapfbgfpllaaGM
import Derived.Test.YtmpnapfbgfpllaaProg
import Derived.KernelRfl
namespace Go.Ab
set_option linter.unusedVariables false
open Go.Proofs
noncomputable abbrev PP : Program := Try.prog
theorem mixed : PP.follows .mixedOrders = true := by kernel_rfl
/-! laws.szIntS -/
def G49 : Con := fun args tm K => dCons args fun a1_ r2_ => dPl .int a1_ fun p1 => dCons r2_ fun a3_ r4_ => dInt .i64 a3_ fun p2 => dNil r4_ <| dEnd tm <| Ml_szIntS p1 p2 (fun r1 => K (.int .i64 r1) [])
def H49 : List (Nat × LH) := []
def W49 : List (Nat × List (Nat × List Nat)) := []
def Γ49 : List (Nat × Con) := []
theorem e49 (p1 : List Int) (p2 : Int) (K : TV → TMem → Prop) : TW PP 12 Γ49 H49 W49 (List.length ([] : TMem)) (bodyOf Try.f49) (endT PP 12 [.tmp 4] [.x] [] (List.length ([] : TMem)) K) (argsF [.pl .int p1, .int .i64 p2]) [] =
    Ml_szIntS p1 p2 (fun r1 => K (.int .i64 r1) []) := by kernel_rfl
theorem s49 : CSound PP 49 G49 := by
  intro args K c h fl A aargs hA hN R hl
  unfold G49 at h
  generalize ht : c.tm = tm at h
  replace h := dCons_ok h; obtain ⟨a1_, r2_, rfl, h⟩ := h
  replace h := dPl_ok h; obtain ⟨p1, rfl, h⟩ := h
  replace h := dCons_ok h; obtain ⟨a3_, r4_, rfl, h⟩ := h
  replace h := dInt_ok h; obtain ⟨p2, rfl, h⟩ := h
  replace h := dNil_ok h; obtain ⟨rfl, h⟩ := h
  replace h := dEnd_ok h; obtain ⟨rfl, h⟩ := h
  refine fun_ok (nt := 12) (x := bodyOf Try.f49) (Γ := Γ49) (H := H49) (WW := W49) (rs := [.tmp 4]) (shs := [.x]) (cons := []) mixed Try.func49 (by decide) (by kernel_rfl) Try.ntmps49 Try.results49 (GSound.nil) ?_ hA hN R hl
  rw [ht, e49 p1 p2 K]
  exact h
/-! laws.szHeap -/
def G23 : Con := fun args tm K => dCons args fun a1_ r2_ => dAgg a1_ fun l3_ => dCons l3_ fun a4_ r5_ => dPl .int a4_ fun p1 => dCons r5_ fun a6_ r7_ => dPl .int a6_ fun p2 => dCons r7_ fun a8_ r9_ => dPl .int a8_ fun p3 => dNil r9_ <| dCons r2_ fun a10_ r11_ => dInt .i64 a10_ fun p4 => dNil r11_ <| dEnd tm <| Ml_szHeap p1 p2 p3 p4 (fun r1 => K (.int .i64 r1) [])
def H23 : List (Nat × LH) := []
def W23 : List (Nat × List (Nat × List Nat)) := []
def Γ23 : List (Nat × Con) := [(49, useC [.pure .int, .x] G49)]
theorem e23 (p1 : List Int) (p2 : List Int) (p3 : List Int) (p4 : Int) (K : TV → TMem → Prop) : TW PP 24 Γ23 H23 W23 (List.length ([] : TMem)) (bodyOf Try.f23) (endT PP 24 [.tmp 4] [.x] [] (List.length ([] : TMem)) K) (argsF [.agg [.pl .int p1, .pl .int p2, .pl .int p3], .int .i64 p4]) [] =
    Ml_szHeap p1 p2 p3 p4 (fun r1 => K (.int .i64 r1) []) := by kernel_rfl
theorem s23 : CSound PP 23 G23 := by
  intro args K c h fl A aargs hA hN R hl
  unfold G23 at h
  generalize ht : c.tm = tm at h
  replace h := dCons_ok h; obtain ⟨a1_, r2_, rfl, h⟩ := h
  replace h := dAgg_ok h; obtain ⟨l3_, rfl, h⟩ := h
  replace h := dCons_ok h; obtain ⟨a4_, r5_, rfl, h⟩ := h
  replace h := dPl_ok h; obtain ⟨p1, rfl, h⟩ := h
  replace h := dCons_ok h; obtain ⟨a6_, r7_, rfl, h⟩ := h
  replace h := dPl_ok h; obtain ⟨p2, rfl, h⟩ := h
  replace h := dCons_ok h; obtain ⟨a8_, r9_, rfl, h⟩ := h
  replace h := dPl_ok h; obtain ⟨p3, rfl, h⟩ := h
  replace h := dNil_ok h; obtain ⟨rfl, h⟩ := h
  replace h := dCons_ok h; obtain ⟨a10_, r11_, rfl, h⟩ := h
  replace h := dInt_ok h; obtain ⟨p4, rfl, h⟩ := h
  replace h := dNil_ok h; obtain ⟨rfl, h⟩ := h
  replace h := dEnd_ok h; obtain ⟨rfl, h⟩ := h
  refine fun_ok (nt := 24) (x := bodyOf Try.f23) (Γ := Γ23) (H := H23) (WW := W23) (rs := [.tmp 4]) (shs := [.x]) (cons := []) mixed Try.func23 (by decide) (by kernel_rfl) Try.ntmps23 Try.results23 (.cons (useC_ok s49) (GSound.nil)) ?_ hA hN R hl
  rw [ht, e23 p1 p2 p3 p4 K]
  exact h
/-! laws.szBoolS -/
def G48 : Con := fun args tm K => dCons args fun a1_ r2_ => dPl .bool a1_ fun p1 => dCons r2_ fun a3_ r4_ => dInt .i64 a3_ fun p2 => dNil r4_ <| dEnd tm <| Ml_szBoolS p1 p2 (fun r1 => K (.int .i64 r1) [])
def H48 : List (Nat × LH) := []
def W48 : List (Nat × List (Nat × List Nat)) := []
def Γ48 : List (Nat × Con) := []
theorem e48 (p1 : List Bool) (p2 : Int) (K : TV → TMem → Prop) : TW PP 12 Γ48 H48 W48 (List.length ([] : TMem)) (bodyOf Try.f48) (endT PP 12 [.tmp 4] [.x] [] (List.length ([] : TMem)) K) (argsF [.pl .bool p1, .int .i64 p2]) [] =
    Ml_szBoolS p1 p2 (fun r1 => K (.int .i64 r1) []) := by kernel_rfl
theorem s48 : CSound PP 48 G48 := by
  intro args K c h fl A aargs hA hN R hl
  unfold G48 at h
  generalize ht : c.tm = tm at h
  replace h := dCons_ok h; obtain ⟨a1_, r2_, rfl, h⟩ := h
  replace h := dPl_ok h; obtain ⟨p1, rfl, h⟩ := h
  replace h := dCons_ok h; obtain ⟨a3_, r4_, rfl, h⟩ := h
  replace h := dInt_ok h; obtain ⟨p2, rfl, h⟩ := h
  replace h := dNil_ok h; obtain ⟨rfl, h⟩ := h
  replace h := dEnd_ok h; obtain ⟨rfl, h⟩ := h
  refine fun_ok (nt := 12) (x := bodyOf Try.f48) (Γ := Γ48) (H := H48) (WW := W48) (rs := [.tmp 4]) (shs := [.x]) (cons := []) mixed Try.func48 (by decide) (by kernel_rfl) Try.ntmps48 Try.results48 (GSound.nil) ?_ hA hN R hl
  rw [ht, e48 p1 p2 K]
  exact h
/-! laws.szGens -/
def G15 : Con := fun args tm K => dCons args fun a1_ r2_ => dAgg a1_ fun l3_ => dCons l3_ fun a4_ r5_ => dPl .int a4_ fun p1 => dCons r5_ fun a6_ r7_ => dPl .int a6_ fun p2 => dCons r7_ fun a8_ r9_ => dPl .int a8_ fun p3 => dCons r9_ fun a10_ r11_ => dPl .bool a10_ fun p4 => dCons r11_ fun a12_ r13_ => dPl .int a12_ fun p5 => dNil r13_ <| dCons r2_ fun a14_ r15_ => dInt .i64 a14_ fun p6 => dNil r15_ <| dEnd tm <| Ml_szGens p1 p2 p3 p4 p5 p6 (fun r1 => K (.int .i64 r1) [])
def H15 : List (Nat × LH) := []
def W15 : List (Nat × List (Nat × List Nat)) := []
def Γ15 : List (Nat × Con) := [(23, useC [.ag [.pure .int, .pure .int, .pure .int], .x] G23), (48, useC [.pure .bool, .x] G48), (49, useC [.pure .int, .x] G49)]
theorem e15 (p1 : List Int) (p2 : List Int) (p3 : List Int) (p4 : List Bool) (p5 : List Int) (p6 : Int) (K : TV → TMem → Prop) : TW PP 24 Γ15 H15 W15 (List.length ([] : TMem)) (bodyOf Try.f15) (endT PP 24 [.tmp 4] [.x] [] (List.length ([] : TMem)) K) (argsF [.agg [.pl .int p1, .pl .int p2, .pl .int p3, .pl .bool p4, .pl .int p5], .int .i64 p6]) [] =
    Ml_szGens p1 p2 p3 p4 p5 p6 (fun r1 => K (.int .i64 r1) []) := by kernel_rfl
theorem s15 : CSound PP 15 G15 := by
  intro args K c h fl A aargs hA hN R hl
  unfold G15 at h
  generalize ht : c.tm = tm at h
  replace h := dCons_ok h; obtain ⟨a1_, r2_, rfl, h⟩ := h
  replace h := dAgg_ok h; obtain ⟨l3_, rfl, h⟩ := h
  replace h := dCons_ok h; obtain ⟨a4_, r5_, rfl, h⟩ := h
  replace h := dPl_ok h; obtain ⟨p1, rfl, h⟩ := h
  replace h := dCons_ok h; obtain ⟨a6_, r7_, rfl, h⟩ := h
  replace h := dPl_ok h; obtain ⟨p2, rfl, h⟩ := h
  replace h := dCons_ok h; obtain ⟨a8_, r9_, rfl, h⟩ := h
  replace h := dPl_ok h; obtain ⟨p3, rfl, h⟩ := h
  replace h := dCons_ok h; obtain ⟨a10_, r11_, rfl, h⟩ := h
  replace h := dPl_ok h; obtain ⟨p4, rfl, h⟩ := h
  replace h := dCons_ok h; obtain ⟨a12_, r13_, rfl, h⟩ := h
  replace h := dPl_ok h; obtain ⟨p5, rfl, h⟩ := h
  replace h := dNil_ok h; obtain ⟨rfl, h⟩ := h
  replace h := dCons_ok h; obtain ⟨a14_, r15_, rfl, h⟩ := h
  replace h := dInt_ok h; obtain ⟨p6, rfl, h⟩ := h
  replace h := dNil_ok h; obtain ⟨rfl, h⟩ := h
  replace h := dEnd_ok h; obtain ⟨rfl, h⟩ := h
  refine fun_ok (nt := 24) (x := bodyOf Try.f15) (Γ := Γ15) (H := H15) (WW := W15) (rs := [.tmp 4]) (shs := [.x]) (cons := []) mixed Try.func15 (by decide) (by kernel_rfl) Try.ntmps15 Try.results15 (.cons (useC_ok s23) (.cons (useC_ok s48) (.cons (useC_ok s49) (GSound.nil)))) ?_ hA hN R hl
  rw [ht, e15 p1 p2 p3 p4 p5 p6 K]
  exact h
/-! laws.toIntS -/
def G36 : Con := fun args tm K => dCons args fun a1_ r2_ => dPl .int a1_ fun p1 => dNil r2_ <| dEnd tm <| Ml_toIntS p1 (fun r1 => K (.sl 0) [⟨true, .list .int r1⟩])
def H36_0 : LH where
  keep := [(0, .pure .int), (3, .own .int), (4, .x)]
  S := List Int × Int × List Int
  enc := fun s => ([.pl .int s.1, .sl 0, .int .i64 s.2.1], [⟨true, .list .int s.2.2⟩])
  dec := fun vs tm K => dCons vs fun a1_ r2_ => dPl .int a1_ fun q0 => dCons r2_ fun a3_ r4_ => dSl 0 a3_ <| dCons r4_ fun a5_ r6_ => dInt .i64 a5_ fun q1 => dNil r6_ <| dBlk true tm fun b7_ m8_ => dList .int b7_ fun q2 => dEnd m8_ <| K (q0, q1, q2)
  law := by
    intro vs tm K h
    replace h := dCons_ok h; obtain ⟨a1_, r2_, rfl, h⟩ := h
    replace h := dPl_ok h; obtain ⟨q0, rfl, h⟩ := h
    replace h := dCons_ok h; obtain ⟨a3_, r4_, rfl, h⟩ := h
    replace h := dSl_ok h; obtain ⟨rfl, h⟩ := h
    replace h := dCons_ok h; obtain ⟨a5_, r6_, rfl, h⟩ := h
    replace h := dInt_ok h; obtain ⟨q1, rfl, h⟩ := h
    replace h := dNil_ok h; obtain ⟨rfl, h⟩ := h
    replace h := dBlk_ok h; obtain ⟨b7_, m8_, rfl, h⟩ := h
    replace h := dList_ok h; obtain ⟨q2, rfl, h⟩ := h
    replace h := dEnd_ok h; obtain ⟨rfl, h⟩ := h
    exact ⟨(q0, q1, q2), rfl, h⟩
def H36 : List (Nat × LH) := [(0, H36_0)]
def W36 : List (Nat × List (Nat × List Nat)) := []
def Γ36 : List (Nat × Con) := []
theorem e36 (p1 : List Int) (K : TV → TMem → Prop) : TW PP 22 Γ36 H36 W36 (List.length ([] : TMem)) (bodyOf Try.f36) (endT PP 22 [.tmp 2] [.own .int] [] (List.length ([] : TMem)) K) (argsF [.pl .int p1]) [] =
    Ml_toIntS p1 (fun r1 => K (.sl 0) [⟨true, .list .int r1⟩]) := by kernel_rfl
theorem s36 : CSound PP 36 G36 := by
  intro args K c h fl A aargs hA hN R hl
  unfold G36 at h
  generalize ht : c.tm = tm at h
  replace h := dCons_ok h; obtain ⟨a1_, r2_, rfl, h⟩ := h
  replace h := dPl_ok h; obtain ⟨p1, rfl, h⟩ := h
  replace h := dNil_ok h; obtain ⟨rfl, h⟩ := h
  replace h := dEnd_ok h; obtain ⟨rfl, h⟩ := h
  refine fun_ok (nt := 22) (x := bodyOf Try.f36) (Γ := Γ36) (H := H36) (WW := W36) (rs := [.tmp 2]) (shs := [.own .int]) (cons := []) mixed Try.func36 (by decide) (by kernel_rfl) Try.ntmps36 Try.results36 (GSound.nil) ?_ hA hN R hl
  rw [ht, e36 p1 K]
  exact h
/-! laws.toHeap -/
def G25 : Con := fun args tm K => dCons args fun a1_ r2_ => dAgg a1_ fun l3_ => dCons l3_ fun a4_ r5_ => dPl .int a4_ fun p1 => dCons r5_ fun a6_ r7_ => dPl .int a6_ fun p2 => dCons r7_ fun a8_ r9_ => dPl .int a8_ fun p3 => dNil r9_ <| dNil r2_ <| dEnd tm <| Ml_toHeap p1 p2 p3 (fun r1 r2 r3 => K (.agg [.sl 0, .sl 1, .sl 2]) [⟨true, .list .int r1⟩, ⟨true, .list .int r2⟩, ⟨true, .list .int r3⟩])
def H25 : List (Nat × LH) := []
def W25 : List (Nat × List (Nat × List Nat)) := []
def Γ25 : List (Nat × Con) := [(36, useC [.pure .int] G36)]
theorem e25 (p1 : List Int) (p2 : List Int) (p3 : List Int) (K : TV → TMem → Prop) : TW PP 17 Γ25 H25 W25 (List.length ([] : TMem)) (bodyOf Try.f25) (endT PP 17 [.cell 2 30] [.ag [.own .int, .own .int, .own .int]] [] (List.length ([] : TMem)) K) (argsF [.agg [.pl .int p1, .pl .int p2, .pl .int p3]]) [] =
    Ml_toHeap p1 p2 p3 (fun r1 r2 r3 => K (.agg [.sl 0, .sl 1, .sl 2]) [⟨true, .list .int r1⟩, ⟨true, .list .int r2⟩, ⟨true, .list .int r3⟩]) := by kernel_rfl
theorem s25 : CSound PP 25 G25 := by
  intro args K c h fl A aargs hA hN R hl
  unfold G25 at h
  generalize ht : c.tm = tm at h
  replace h := dCons_ok h; obtain ⟨a1_, r2_, rfl, h⟩ := h
  replace h := dAgg_ok h; obtain ⟨l3_, rfl, h⟩ := h
  replace h := dCons_ok h; obtain ⟨a4_, r5_, rfl, h⟩ := h
  replace h := dPl_ok h; obtain ⟨p1, rfl, h⟩ := h
  replace h := dCons_ok h; obtain ⟨a6_, r7_, rfl, h⟩ := h
  replace h := dPl_ok h; obtain ⟨p2, rfl, h⟩ := h
  replace h := dCons_ok h; obtain ⟨a8_, r9_, rfl, h⟩ := h
  replace h := dPl_ok h; obtain ⟨p3, rfl, h⟩ := h
  replace h := dNil_ok h; obtain ⟨rfl, h⟩ := h
  replace h := dNil_ok h; obtain ⟨rfl, h⟩ := h
  replace h := dEnd_ok h; obtain ⟨rfl, h⟩ := h
  refine fun_ok (nt := 17) (x := bodyOf Try.f25) (Γ := Γ25) (H := H25) (WW := W25) (rs := [.cell 2 30]) (shs := [.ag [.own .int, .own .int, .own .int]]) (cons := []) mixed Try.func25 (by decide) (by kernel_rfl) Try.ntmps25 Try.results25 (.cons (useC_ok s36) (GSound.nil)) ?_ hA hN R hl
  rw [ht, e25 p1 p2 p3 K]
  exact h
/-! laws.toBoolS -/
def G52 : Con := fun args tm K => dCons args fun a1_ r2_ => dPl .bool a1_ fun p1 => dNil r2_ <| dEnd tm <| Ml_toBoolS p1 (fun r1 => K (.sl 0) [⟨true, .list .bool r1⟩])
def H52_0 : LH where
  keep := [(0, .pure .bool), (3, .own .bool), (4, .x)]
  S := List Bool × Int × List Bool
  enc := fun s => ([.pl .bool s.1, .sl 0, .int .i64 s.2.1], [⟨true, .list .bool s.2.2⟩])
  dec := fun vs tm K => dCons vs fun a1_ r2_ => dPl .bool a1_ fun q0 => dCons r2_ fun a3_ r4_ => dSl 0 a3_ <| dCons r4_ fun a5_ r6_ => dInt .i64 a5_ fun q1 => dNil r6_ <| dBlk true tm fun b7_ m8_ => dList .bool b7_ fun q2 => dEnd m8_ <| K (q0, q1, q2)
  law := by
    intro vs tm K h
    replace h := dCons_ok h; obtain ⟨a1_, r2_, rfl, h⟩ := h
    replace h := dPl_ok h; obtain ⟨q0, rfl, h⟩ := h
    replace h := dCons_ok h; obtain ⟨a3_, r4_, rfl, h⟩ := h
    replace h := dSl_ok h; obtain ⟨rfl, h⟩ := h
    replace h := dCons_ok h; obtain ⟨a5_, r6_, rfl, h⟩ := h
    replace h := dInt_ok h; obtain ⟨q1, rfl, h⟩ := h
    replace h := dNil_ok h; obtain ⟨rfl, h⟩ := h
    replace h := dBlk_ok h; obtain ⟨b7_, m8_, rfl, h⟩ := h
    replace h := dList_ok h; obtain ⟨q2, rfl, h⟩ := h
    replace h := dEnd_ok h; obtain ⟨rfl, h⟩ := h
    exact ⟨(q0, q1, q2), rfl, h⟩
def H52 : List (Nat × LH) := [(0, H52_0)]
def W52 : List (Nat × List (Nat × List Nat)) := []
def Γ52 : List (Nat × Con) := []
theorem e52 (p1 : List Bool) (K : TV → TMem → Prop) : TW PP 22 Γ52 H52 W52 (List.length ([] : TMem)) (bodyOf Try.f52) (endT PP 22 [.tmp 2] [.own .bool] [] (List.length ([] : TMem)) K) (argsF [.pl .bool p1]) [] =
    Ml_toBoolS p1 (fun r1 => K (.sl 0) [⟨true, .list .bool r1⟩]) := by kernel_rfl
theorem s52 : CSound PP 52 G52 := by
  intro args K c h fl A aargs hA hN R hl
  unfold G52 at h
  generalize ht : c.tm = tm at h
  replace h := dCons_ok h; obtain ⟨a1_, r2_, rfl, h⟩ := h
  replace h := dPl_ok h; obtain ⟨p1, rfl, h⟩ := h
  replace h := dNil_ok h; obtain ⟨rfl, h⟩ := h
  replace h := dEnd_ok h; obtain ⟨rfl, h⟩ := h
  refine fun_ok (nt := 22) (x := bodyOf Try.f52) (Γ := Γ52) (H := H52) (WW := W52) (rs := [.tmp 2]) (shs := [.own .bool]) (cons := []) mixed Try.func52 (by decide) (by kernel_rfl) Try.ntmps52 Try.results52 (GSound.nil) ?_ hA hN R hl
  rw [ht, e52 p1 K]
  exact h
/-! laws.toGens -/
def G17 : Con := fun args tm K => dCons args fun a1_ r2_ => dAgg a1_ fun l3_ => dCons l3_ fun a4_ r5_ => dPl .int a4_ fun p1 => dCons r5_ fun a6_ r7_ => dPl .int a6_ fun p2 => dCons r7_ fun a8_ r9_ => dPl .int a8_ fun p3 => dCons r9_ fun a10_ r11_ => dPl .bool a10_ fun p4 => dCons r11_ fun a12_ r13_ => dPl .int a12_ fun p5 => dNil r13_ <| dNil r2_ <| dEnd tm <| Ml_toGens p1 p2 p3 p4 p5 (fun r1 r2 r3 r4 r5 => K (.agg [.sl 0, .sl 1, .sl 2, .sl 3, .sl 4]) [⟨true, .list .int r1⟩, ⟨true, .list .int r2⟩, ⟨true, .list .int r3⟩, ⟨true, .list .bool r4⟩, ⟨true, .list .int r5⟩])
def H17 : List (Nat × LH) := []
def W17 : List (Nat × List (Nat × List Nat)) := []
def Γ17 : List (Nat × Con) := [(25, useC [.ag [.pure .int, .pure .int, .pure .int]] G25), (52, useC [.pure .bool] G52), (36, useC [.pure .int] G36)]
theorem e17 (p1 : List Int) (p2 : List Int) (p3 : List Int) (p4 : List Bool) (p5 : List Int) (K : TV → TMem → Prop) : TW PP 17 Γ17 H17 W17 (List.length ([] : TMem)) (bodyOf Try.f17) (endT PP 17 [.cell 2 32] [.ag [.own .int, .own .int, .own .int, .own .bool, .own .int]] [] (List.length ([] : TMem)) K) (argsF [.agg [.pl .int p1, .pl .int p2, .pl .int p3, .pl .bool p4, .pl .int p5]]) [] =
    Ml_toGens p1 p2 p3 p4 p5 (fun r1 r2 r3 r4 r5 => K (.agg [.sl 0, .sl 1, .sl 2, .sl 3, .sl 4]) [⟨true, .list .int r1⟩, ⟨true, .list .int r2⟩, ⟨true, .list .int r3⟩, ⟨true, .list .bool r4⟩, ⟨true, .list .int r5⟩]) := by kernel_rfl
theorem s17 : CSound PP 17 G17 := by
  intro args K c h fl A aargs hA hN R hl
  unfold G17 at h
  generalize ht : c.tm = tm at h
  replace h := dCons_ok h; obtain ⟨a1_, r2_, rfl, h⟩ := h
  replace h := dAgg_ok h; obtain ⟨l3_, rfl, h⟩ := h
  replace h := dCons_ok h; obtain ⟨a4_, r5_, rfl, h⟩ := h
  replace h := dPl_ok h; obtain ⟨p1, rfl, h⟩ := h
  replace h := dCons_ok h; obtain ⟨a6_, r7_, rfl, h⟩ := h
  replace h := dPl_ok h; obtain ⟨p2, rfl, h⟩ := h
  replace h := dCons_ok h; obtain ⟨a8_, r9_, rfl, h⟩ := h
  replace h := dPl_ok h; obtain ⟨p3, rfl, h⟩ := h
  replace h := dCons_ok h; obtain ⟨a10_, r11_, rfl, h⟩ := h
  replace h := dPl_ok h; obtain ⟨p4, rfl, h⟩ := h
  replace h := dCons_ok h; obtain ⟨a12_, r13_, rfl, h⟩ := h
  replace h := dPl_ok h; obtain ⟨p5, rfl, h⟩ := h
  replace h := dNil_ok h; obtain ⟨rfl, h⟩ := h
  replace h := dNil_ok h; obtain ⟨rfl, h⟩ := h
  replace h := dEnd_ok h; obtain ⟨rfl, h⟩ := h
  refine fun_ok (nt := 17) (x := bodyOf Try.f17) (Γ := Γ17) (H := H17) (WW := W17) (rs := [.cell 2 32]) (shs := [.ag [.own .int, .own .int, .own .int, .own .bool, .own .int]]) (cons := []) mixed Try.func17 (by decide) (by kernel_rfl) Try.ntmps17 Try.results17 (.cons (useC_ok s25) (.cons (useC_ok s52) (.cons (useC_ok s36) (GSound.nil)))) ?_ hA hN R hl
  rw [ht, e17 p1 p2 p3 p4 p5 K]
  exact h
/-! spec.l1Ints -/
def G51 : Con := fun args tm K => dCons args fun a1_ r2_ => dPl .int a1_ fun p1 => dCons r2_ fun a3_ r4_ => dPl .int a3_ fun p2 => dNil r4_ <| dEnd tm <| Ms_l1Ints p1 p2 (fun r1 => K (.bool r1) [])
def H51_0 : LH where
  keep := [(0, .pure .int), (1, .pure .int), (5, .x)]
  S := List Int × List Int × Int
  enc := fun s => ([.pl .int s.1, .pl .int s.2.1, .int .i64 s.2.2], [])
  dec := fun vs tm K => dCons vs fun a1_ r2_ => dPl .int a1_ fun q0 => dCons r2_ fun a3_ r4_ => dPl .int a3_ fun q1 => dCons r4_ fun a5_ r6_ => dInt .i64 a5_ fun q2 => dNil r6_ <| dEnd tm <| K (q0, q1, q2)
  law := by
    intro vs tm K h
    replace h := dCons_ok h; obtain ⟨a1_, r2_, rfl, h⟩ := h
    replace h := dPl_ok h; obtain ⟨q0, rfl, h⟩ := h
    replace h := dCons_ok h; obtain ⟨a3_, r4_, rfl, h⟩ := h
    replace h := dPl_ok h; obtain ⟨q1, rfl, h⟩ := h
    replace h := dCons_ok h; obtain ⟨a5_, r6_, rfl, h⟩ := h
    replace h := dInt_ok h; obtain ⟨q2, rfl, h⟩ := h
    replace h := dNil_ok h; obtain ⟨rfl, h⟩ := h
    replace h := dEnd_ok h; obtain ⟨rfl, h⟩ := h
    exact ⟨(q0, q1, q2), rfl, h⟩
def H51 : List (Nat × LH) := [(0, H51_0)]
def W51 : List (Nat × List (Nat × List Nat)) := []
def Γ51 : List (Nat × Con) := []
theorem e51 (p1 : List Int) (p2 : List Int) (K : TV → TMem → Prop) : TW PP 26 Γ51 H51 W51 (List.length ([] : TMem)) (bodyOf Try.f51) (endT PP 26 [.tmp 4] [.bl] [] (List.length ([] : TMem)) K) (argsF [.pl .int p1, .pl .int p2]) [] =
    Ms_l1Ints p1 p2 (fun r1 => K (.bool r1) []) := by kernel_rfl
theorem s51 : CSound PP 51 G51 := by
  intro args K c h fl A aargs hA hN R hl
  unfold G51 at h
  generalize ht : c.tm = tm at h
  replace h := dCons_ok h; obtain ⟨a1_, r2_, rfl, h⟩ := h
  replace h := dPl_ok h; obtain ⟨p1, rfl, h⟩ := h
  replace h := dCons_ok h; obtain ⟨a3_, r4_, rfl, h⟩ := h
  replace h := dPl_ok h; obtain ⟨p2, rfl, h⟩ := h
  replace h := dNil_ok h; obtain ⟨rfl, h⟩ := h
  replace h := dEnd_ok h; obtain ⟨rfl, h⟩ := h
  refine fun_ok (nt := 26) (x := bodyOf Try.f51) (Γ := Γ51) (H := H51) (WW := W51) (rs := [.tmp 4]) (shs := [.bl]) (cons := []) mixed Try.func51 (by decide) (by kernel_rfl) Try.ntmps51 Try.results51 (GSound.nil) ?_ hA hN R hl
  rw [ht, e51 p1 p2 K]
  exact h
/-! slices.Equal[[]int,int] -/
def G55 : Con := fun args tm K => dCons args fun a1_ r2_ => dPl .int a1_ fun p1 => dCons r2_ fun a3_ r4_ => dPl .int a3_ fun p2 => dNil r4_ <| dEnd tm <| M_Equal_int p1 p2 (fun r1 => K (.bool r1) [])
def H55_0 : LH where
  keep := [(0, .pure .int), (1, .pure .int), (12, .x), (13, .x)]
  S := List Int × List Int × Int × Int
  enc := fun s => ([.pl .int s.1, .pl .int s.2.1, .int .i64 s.2.2.1, .int .i64 s.2.2.2], [])
  dec := fun vs tm K => dCons vs fun a1_ r2_ => dPl .int a1_ fun q0 => dCons r2_ fun a3_ r4_ => dPl .int a3_ fun q1 => dCons r4_ fun a5_ r6_ => dInt .i64 a5_ fun q2 => dCons r6_ fun a7_ r8_ => dInt .i64 a7_ fun q3 => dNil r8_ <| dEnd tm <| K (q0, q1, q2, q3)
  law := by
    intro vs tm K h
    replace h := dCons_ok h; obtain ⟨a1_, r2_, rfl, h⟩ := h
    replace h := dPl_ok h; obtain ⟨q0, rfl, h⟩ := h
    replace h := dCons_ok h; obtain ⟨a3_, r4_, rfl, h⟩ := h
    replace h := dPl_ok h; obtain ⟨q1, rfl, h⟩ := h
    replace h := dCons_ok h; obtain ⟨a5_, r6_, rfl, h⟩ := h
    replace h := dInt_ok h; obtain ⟨q2, rfl, h⟩ := h
    replace h := dCons_ok h; obtain ⟨a7_, r8_, rfl, h⟩ := h
    replace h := dInt_ok h; obtain ⟨q3, rfl, h⟩ := h
    replace h := dNil_ok h; obtain ⟨rfl, h⟩ := h
    replace h := dEnd_ok h; obtain ⟨rfl, h⟩ := h
    exact ⟨(q0, q1, q2, q3), rfl, h⟩
def H55 : List (Nat × LH) := [(0, H55_0)]
def W55 : List (Nat × List (Nat × List Nat)) := []
def Γ55 : List (Nat × Con) := []
theorem e55 (p1 : List Int) (p2 : List Int) (K : TV → TMem → Prop) : TW PP 26 Γ55 H55 W55 (List.length ([] : TMem)) (bodyOf Try.f55) (endT PP 26 [.tmp 4] [.bl] [] (List.length ([] : TMem)) K) (argsF [.pl .int p1, .pl .int p2]) [] =
    M_Equal_int p1 p2 (fun r1 => K (.bool r1) []) := by kernel_rfl
theorem s55 : CSound PP 55 G55 := by
  intro args K c h fl A aargs hA hN R hl
  unfold G55 at h
  generalize ht : c.tm = tm at h
  replace h := dCons_ok h; obtain ⟨a1_, r2_, rfl, h⟩ := h
  replace h := dPl_ok h; obtain ⟨p1, rfl, h⟩ := h
  replace h := dCons_ok h; obtain ⟨a3_, r4_, rfl, h⟩ := h
  replace h := dPl_ok h; obtain ⟨p2, rfl, h⟩ := h
  replace h := dNil_ok h; obtain ⟨rfl, h⟩ := h
  replace h := dEnd_ok h; obtain ⟨rfl, h⟩ := h
  refine fun_ok (nt := 26) (x := bodyOf Try.f55) (Γ := Γ55) (H := H55) (WW := W55) (rs := [.tmp 4]) (shs := [.bl]) (cons := []) mixed Try.func55 (by decide) (by kernel_rfl) Try.ntmps55 Try.results55 (GSound.nil) ?_ hA hN R hl
  rw [ht, e55 p1 p2 K]
  exact h
/-! laws.eqIntS -/
def G27 : Con := fun args tm K => dCons args fun a1_ r2_ => dPl .int a1_ fun p1 => dCons r2_ fun a3_ r4_ => dPl .int a3_ fun p2 => dNil r4_ <| dEnd tm <| Ml_eqIntS p1 p2 (fun r1 => K (.bool r1) [])
def H27_0 : LH where
  keep := [(0, .pure .int), (1, .pure .int), (5, .x)]
  S := List Int × List Int × Int
  enc := fun s => ([.pl .int s.1, .pl .int s.2.1, .int .i64 s.2.2], [])
  dec := fun vs tm K => dCons vs fun a1_ r2_ => dPl .int a1_ fun q0 => dCons r2_ fun a3_ r4_ => dPl .int a3_ fun q1 => dCons r4_ fun a5_ r6_ => dInt .i64 a5_ fun q2 => dNil r6_ <| dEnd tm <| K (q0, q1, q2)
  law := by
    intro vs tm K h
    replace h := dCons_ok h; obtain ⟨a1_, r2_, rfl, h⟩ := h
    replace h := dPl_ok h; obtain ⟨q0, rfl, h⟩ := h
    replace h := dCons_ok h; obtain ⟨a3_, r4_, rfl, h⟩ := h
    replace h := dPl_ok h; obtain ⟨q1, rfl, h⟩ := h
    replace h := dCons_ok h; obtain ⟨a5_, r6_, rfl, h⟩ := h
    replace h := dInt_ok h; obtain ⟨q2, rfl, h⟩ := h
    replace h := dNil_ok h; obtain ⟨rfl, h⟩ := h
    replace h := dEnd_ok h; obtain ⟨rfl, h⟩ := h
    exact ⟨(q0, q1, q2), rfl, h⟩
def H27 : List (Nat × LH) := [(0, H27_0)]
def W27 : List (Nat × List (Nat × List Nat)) := []
def Γ27 : List (Nat × Con) := []
theorem e27 (p1 : List Int) (p2 : List Int) (K : TV → TMem → Prop) : TW PP 26 Γ27 H27 W27 (List.length ([] : TMem)) (bodyOf Try.f27) (endT PP 26 [.tmp 4] [.bl] [] (List.length ([] : TMem)) K) (argsF [.pl .int p1, .pl .int p2]) [] =
    Ml_eqIntS p1 p2 (fun r1 => K (.bool r1) []) := by kernel_rfl
theorem s27 : CSound PP 27 G27 := by
  intro args K c h fl A aargs hA hN R hl
  unfold G27 at h
  generalize ht : c.tm = tm at h
  replace h := dCons_ok h; obtain ⟨a1_, r2_, rfl, h⟩ := h
  replace h := dPl_ok h; obtain ⟨p1, rfl, h⟩ := h
  replace h := dCons_ok h; obtain ⟨a3_, r4_, rfl, h⟩ := h
  replace h := dPl_ok h; obtain ⟨p2, rfl, h⟩ := h
  replace h := dNil_ok h; obtain ⟨rfl, h⟩ := h
  replace h := dEnd_ok h; obtain ⟨rfl, h⟩ := h
  refine fun_ok (nt := 26) (x := bodyOf Try.f27) (Γ := Γ27) (H := H27) (WW := W27) (rs := [.tmp 4]) (shs := [.bl]) (cons := []) mixed Try.func27 (by decide) (by kernel_rfl) Try.ntmps27 Try.results27 (GSound.nil) ?_ hA hN R hl
  rw [ht, e27 p1 p2 K]
  exact h
/-! laws.eqHeap -/
def G28 : Con := fun args tm K => dCons args fun a1_ r2_ => dAgg a1_ fun l3_ => dCons l3_ fun a4_ r5_ => dPl .int a4_ fun p1 => dCons r5_ fun a6_ r7_ => dPl .int a6_ fun p2 => dCons r7_ fun a8_ r9_ => dPl .int a8_ fun p3 => dNil r9_ <| dCons r2_ fun a10_ r11_ => dAgg a10_ fun l12_ => dCons l12_ fun a13_ r14_ => dPl .int a13_ fun p4 => dCons r14_ fun a15_ r16_ => dPl .int a15_ fun p5 => dCons r16_ fun a17_ r18_ => dPl .int a17_ fun p6 => dNil r18_ <| dNil r11_ <| dEnd tm <| Ml_eqHeap p1 p2 p3 p4 p5 p6 (fun r1 => K (.bool r1) [])
def H28 : List (Nat × LH) := []
def W28 : List (Nat × List (Nat × List Nat)) := []
def Γ28 : List (Nat × Con) := [(27, useC [.pure .int, .pure .int] G27)]
theorem e28 (p1 : List Int) (p2 : List Int) (p3 : List Int) (p4 : List Int) (p5 : List Int) (p6 : List Int) (K : TV → TMem → Prop) : TW PP 23 Γ28 H28 W28 (List.length ([] : TMem)) (bodyOf Try.f28) (endT PP 23 [.tmp 4] [.bl] [] (List.length ([] : TMem)) K) (argsF [.agg [.pl .int p1, .pl .int p2, .pl .int p3], .agg [.pl .int p4, .pl .int p5, .pl .int p6]]) [] =
    Ml_eqHeap p1 p2 p3 p4 p5 p6 (fun r1 => K (.bool r1) []) := by kernel_rfl
theorem s28 : CSound PP 28 G28 := by
  intro args K c h fl A aargs hA hN R hl
  unfold G28 at h
  generalize ht : c.tm = tm at h
  replace h := dCons_ok h; obtain ⟨a1_, r2_, rfl, h⟩ := h
  replace h := dAgg_ok h; obtain ⟨l3_, rfl, h⟩ := h
  replace h := dCons_ok h; obtain ⟨a4_, r5_, rfl, h⟩ := h
  replace h := dPl_ok h; obtain ⟨p1, rfl, h⟩ := h
  replace h := dCons_ok h; obtain ⟨a6_, r7_, rfl, h⟩ := h
  replace h := dPl_ok h; obtain ⟨p2, rfl, h⟩ := h
  replace h := dCons_ok h; obtain ⟨a8_, r9_, rfl, h⟩ := h
  replace h := dPl_ok h; obtain ⟨p3, rfl, h⟩ := h
  replace h := dNil_ok h; obtain ⟨rfl, h⟩ := h
  replace h := dCons_ok h; obtain ⟨a10_, r11_, rfl, h⟩ := h
  replace h := dAgg_ok h; obtain ⟨l12_, rfl, h⟩ := h
  replace h := dCons_ok h; obtain ⟨a13_, r14_, rfl, h⟩ := h
  replace h := dPl_ok h; obtain ⟨p4, rfl, h⟩ := h
  replace h := dCons_ok h; obtain ⟨a15_, r16_, rfl, h⟩ := h
  replace h := dPl_ok h; obtain ⟨p5, rfl, h⟩ := h
  replace h := dCons_ok h; obtain ⟨a17_, r18_, rfl, h⟩ := h
  replace h := dPl_ok h; obtain ⟨p6, rfl, h⟩ := h
  replace h := dNil_ok h; obtain ⟨rfl, h⟩ := h
  replace h := dNil_ok h; obtain ⟨rfl, h⟩ := h
  replace h := dEnd_ok h; obtain ⟨rfl, h⟩ := h
  refine fun_ok (nt := 23) (x := bodyOf Try.f28) (Γ := Γ28) (H := H28) (WW := W28) (rs := [.tmp 4]) (shs := [.bl]) (cons := []) mixed Try.func28 (by decide) (by kernel_rfl) Try.ntmps28 Try.results28 (.cons (useC_ok s27) (GSound.nil)) ?_ hA hN R hl
  rw [ht, e28 p1 p2 p3 p4 p5 p6 K]
  exact h
/-! laws.eqBoolS -/
def G56 : Con := fun args tm K => dCons args fun a1_ r2_ => dPl .bool a1_ fun p1 => dCons r2_ fun a3_ r4_ => dPl .bool a3_ fun p2 => dNil r4_ <| dEnd tm <| Ml_eqBoolS p1 p2 (fun r1 => K (.bool r1) [])
def H56_0 : LH where
  keep := [(0, .pure .bool), (1, .pure .bool), (5, .x)]
  S := List Bool × List Bool × Int
  enc := fun s => ([.pl .bool s.1, .pl .bool s.2.1, .int .i64 s.2.2], [])
  dec := fun vs tm K => dCons vs fun a1_ r2_ => dPl .bool a1_ fun q0 => dCons r2_ fun a3_ r4_ => dPl .bool a3_ fun q1 => dCons r4_ fun a5_ r6_ => dInt .i64 a5_ fun q2 => dNil r6_ <| dEnd tm <| K (q0, q1, q2)
  law := by
    intro vs tm K h
    replace h := dCons_ok h; obtain ⟨a1_, r2_, rfl, h⟩ := h
    replace h := dPl_ok h; obtain ⟨q0, rfl, h⟩ := h
    replace h := dCons_ok h; obtain ⟨a3_, r4_, rfl, h⟩ := h
    replace h := dPl_ok h; obtain ⟨q1, rfl, h⟩ := h
    replace h := dCons_ok h; obtain ⟨a5_, r6_, rfl, h⟩ := h
    replace h := dInt_ok h; obtain ⟨q2, rfl, h⟩ := h
    replace h := dNil_ok h; obtain ⟨rfl, h⟩ := h
    replace h := dEnd_ok h; obtain ⟨rfl, h⟩ := h
    exact ⟨(q0, q1, q2), rfl, h⟩
def H56 : List (Nat × LH) := [(0, H56_0)]
def W56 : List (Nat × List (Nat × List Nat)) := []
def Γ56 : List (Nat × Con) := []
theorem e56 (p1 : List Bool) (p2 : List Bool) (K : TV → TMem → Prop) : TW PP 26 Γ56 H56 W56 (List.length ([] : TMem)) (bodyOf Try.f56) (endT PP 26 [.tmp 4] [.bl] [] (List.length ([] : TMem)) K) (argsF [.pl .bool p1, .pl .bool p2]) [] =
    Ml_eqBoolS p1 p2 (fun r1 => K (.bool r1) []) := by kernel_rfl
theorem s56 : CSound PP 56 G56 := by
  intro args K c h fl A aargs hA hN R hl
  unfold G56 at h
  generalize ht : c.tm = tm at h
  replace h := dCons_ok h; obtain ⟨a1_, r2_, rfl, h⟩ := h
  replace h := dPl_ok h; obtain ⟨p1, rfl, h⟩ := h
  replace h := dCons_ok h; obtain ⟨a3_, r4_, rfl, h⟩ := h
  replace h := dPl_ok h; obtain ⟨p2, rfl, h⟩ := h
  replace h := dNil_ok h; obtain ⟨rfl, h⟩ := h
  replace h := dEnd_ok h; obtain ⟨rfl, h⟩ := h
  refine fun_ok (nt := 26) (x := bodyOf Try.f56) (Γ := Γ56) (H := H56) (WW := W56) (rs := [.tmp 4]) (shs := [.bl]) (cons := []) mixed Try.func56 (by decide) (by kernel_rfl) Try.ntmps56 Try.results56 (GSound.nil) ?_ hA hN R hl
  rw [ht, e56 p1 p2 K]
  exact h
/-! laws.eqGens -/
def G19 : Con := fun args tm K => dCons args fun a1_ r2_ => dAgg a1_ fun l3_ => dCons l3_ fun a4_ r5_ => dPl .int a4_ fun p1 => dCons r5_ fun a6_ r7_ => dPl .int a6_ fun p2 => dCons r7_ fun a8_ r9_ => dPl .int a8_ fun p3 => dCons r9_ fun a10_ r11_ => dPl .bool a10_ fun p4 => dCons r11_ fun a12_ r13_ => dPl .int a12_ fun p5 => dNil r13_ <| dCons r2_ fun a14_ r15_ => dAgg a14_ fun l16_ => dCons l16_ fun a17_ r18_ => dPl .int a17_ fun p6 => dCons r18_ fun a19_ r20_ => dPl .int a19_ fun p7 => dCons r20_ fun a21_ r22_ => dPl .int a21_ fun p8 => dCons r22_ fun a23_ r24_ => dPl .bool a23_ fun p9 => dCons r24_ fun a25_ r26_ => dPl .int a25_ fun p10 => dNil r26_ <| dNil r15_ <| dEnd tm <| Ml_eqGens p1 p2 p3 p4 p5 p6 p7 p8 p9 p10 (fun r1 => K (.bool r1) [])
def H19 : List (Nat × LH) := []
def W19 : List (Nat × List (Nat × List Nat)) := []
def Γ19 : List (Nat × Con) := [(28, useC [.ag [.pure .int, .pure .int, .pure .int], .ag [.pure .int, .pure .int, .pure .int]] G28), (56, useC [.pure .bool, .pure .bool] G56), (27, useC [.pure .int, .pure .int] G27)]
theorem e19 (p1 : List Int) (p2 : List Int) (p3 : List Int) (p4 : List Bool) (p5 : List Int) (p6 : List Int) (p7 : List Int) (p8 : List Int) (p9 : List Bool) (p10 : List Int) (K : TV → TMem → Prop) : TW PP 23 Γ19 H19 W19 (List.length ([] : TMem)) (bodyOf Try.f19) (endT PP 23 [.tmp 4] [.bl] [] (List.length ([] : TMem)) K) (argsF [.agg [.pl .int p1, .pl .int p2, .pl .int p3, .pl .bool p4, .pl .int p5], .agg [.pl .int p6, .pl .int p7, .pl .int p8, .pl .bool p9, .pl .int p10]]) [] =
    Ml_eqGens p1 p2 p3 p4 p5 p6 p7 p8 p9 p10 (fun r1 => K (.bool r1) []) := by kernel_rfl
theorem s19 : CSound PP 19 G19 := by
  intro args K c h fl A aargs hA hN R hl
  unfold G19 at h
  generalize ht : c.tm = tm at h
  replace h := dCons_ok h; obtain ⟨a1_, r2_, rfl, h⟩ := h
  replace h := dAgg_ok h; obtain ⟨l3_, rfl, h⟩ := h
  replace h := dCons_ok h; obtain ⟨a4_, r5_, rfl, h⟩ := h
  replace h := dPl_ok h; obtain ⟨p1, rfl, h⟩ := h
  replace h := dCons_ok h; obtain ⟨a6_, r7_, rfl, h⟩ := h
  replace h := dPl_ok h; obtain ⟨p2, rfl, h⟩ := h
  replace h := dCons_ok h; obtain ⟨a8_, r9_, rfl, h⟩ := h
  replace h := dPl_ok h; obtain ⟨p3, rfl, h⟩ := h
  replace h := dCons_ok h; obtain ⟨a10_, r11_, rfl, h⟩ := h
  replace h := dPl_ok h; obtain ⟨p4, rfl, h⟩ := h
  replace h := dCons_ok h; obtain ⟨a12_, r13_, rfl, h⟩ := h
  replace h := dPl_ok h; obtain ⟨p5, rfl, h⟩ := h
  replace h := dNil_ok h; obtain ⟨rfl, h⟩ := h
  replace h := dCons_ok h; obtain ⟨a14_, r15_, rfl, h⟩ := h
  replace h := dAgg_ok h; obtain ⟨l16_, rfl, h⟩ := h
  replace h := dCons_ok h; obtain ⟨a17_, r18_, rfl, h⟩ := h
  replace h := dPl_ok h; obtain ⟨p6, rfl, h⟩ := h
  replace h := dCons_ok h; obtain ⟨a19_, r20_, rfl, h⟩ := h
  replace h := dPl_ok h; obtain ⟨p7, rfl, h⟩ := h
  replace h := dCons_ok h; obtain ⟨a21_, r22_, rfl, h⟩ := h
  replace h := dPl_ok h; obtain ⟨p8, rfl, h⟩ := h
  replace h := dCons_ok h; obtain ⟨a23_, r24_, rfl, h⟩ := h
  replace h := dPl_ok h; obtain ⟨p9, rfl, h⟩ := h
  replace h := dCons_ok h; obtain ⟨a25_, r26_, rfl, h⟩ := h
  replace h := dPl_ok h; obtain ⟨p10, rfl, h⟩ := h
  replace h := dNil_ok h; obtain ⟨rfl, h⟩ := h
  replace h := dNil_ok h; obtain ⟨rfl, h⟩ := h
  replace h := dEnd_ok h; obtain ⟨rfl, h⟩ := h
  refine fun_ok (nt := 23) (x := bodyOf Try.f19) (Γ := Γ19) (H := H19) (WW := W19) (rs := [.tmp 4]) (shs := [.bl]) (cons := []) mixed Try.func19 (by decide) (by kernel_rfl) Try.ntmps19 Try.results19 (.cons (useC_ok s28) (.cons (useC_ok s56) (.cons (useC_ok s27) (GSound.nil)))) ?_ hA hN R hl
  rw [ht, e19 p1 p2 p3 p4 p5 p6 p7 p8 p9 p10 K]
  exact h
/-! spec.l1Points -/
def G85 : Con := fun args tm K => dCons args fun a1_ r2_ => dInt .i64 a1_ fun p1 => dCons r2_ fun a3_ r4_ => dInt .i64 a3_ fun p2 => dNil r4_ <| dEnd tm <| Ms_l1Points p1 p2 (fun r1 => K (.bool r1) [])
def H85 : List (Nat × LH) := []
def W85 : List (Nat × List (Nat × List Nat)) := []
def Γ85 : List (Nat × Con) := []
theorem e85 (p1 : Int) (p2 : Int) (K : TV → TMem → Prop) : TW PP 12 Γ85 H85 W85 (List.length ([] : TMem)) (bodyOf Try.f85) (endT PP 12 [.tmp 4] [.bl] [] (List.length ([] : TMem)) K) (argsF [.int .i64 p1, .int .i64 p2]) [] =
    Ms_l1Points p1 p2 (fun r1 => K (.bool r1) []) := by kernel_rfl
theorem s85 : CSound PP 85 G85 := by
  intro args K c h fl A aargs hA hN R hl
  unfold G85 at h
  generalize ht : c.tm = tm at h
  replace h := dCons_ok h; obtain ⟨a1_, r2_, rfl, h⟩ := h
  replace h := dInt_ok h; obtain ⟨p1, rfl, h⟩ := h
  replace h := dCons_ok h; obtain ⟨a3_, r4_, rfl, h⟩ := h
  replace h := dInt_ok h; obtain ⟨p2, rfl, h⟩ := h
  replace h := dNil_ok h; obtain ⟨rfl, h⟩ := h
  replace h := dEnd_ok h; obtain ⟨rfl, h⟩ := h
  refine fun_ok (nt := 12) (x := bodyOf Try.f85) (Γ := Γ85) (H := H85) (WW := W85) (rs := [.tmp 4]) (shs := [.bl]) (cons := []) mixed Try.func85 (by decide) (by kernel_rfl) Try.ntmps85 Try.results85 (GSound.nil) ?_ hA hN R hl
  rw [ht, e85 p1 p2 K]
  exact h
/-! spec.HeapValid -/
def G61 : Con := fun args tm K => dCons args fun a1_ r2_ => dAgg a1_ fun l3_ => dCons l3_ fun a4_ r5_ => dPl .int a4_ fun p1 => dCons r5_ fun a6_ r7_ => dPl .int a6_ fun p2 => dCons r7_ fun a8_ r9_ => dPl .int a8_ fun p3 => dNil r9_ <| dNil r2_ <| dEnd tm <| Ms_HeapValid p1 p2 p3 (fun r1 => K (.bool r1) [])
def H61_0 : LH where
  keep := [(1, .pc [.pure .int, .pure .int, .pure .int]), (3, .x), (4, .x)]
  S := Int × Int × List Int × List Int × List Int
  enc := fun s => ([.ptr 0 0, .int .i64 s.1, .int .i64 s.2.1], [⟨true, .cells [.pl .int s.2.2.1, .pl .int s.2.2.2.1, .pl .int s.2.2.2.2]⟩])
  dec := fun vs tm K => dCons vs fun a1_ r2_ => dPtr 0 a1_ <| dCons r2_ fun a3_ r4_ => dInt .i64 a3_ fun q0 => dCons r4_ fun a5_ r6_ => dInt .i64 a5_ fun q1 => dNil r6_ <| dBlk true tm fun b7_ m8_ => dCells b7_ fun c9_ => dCons c9_ fun a10_ r11_ => dPl .int a10_ fun q2 => dCons r11_ fun a12_ r13_ => dPl .int a12_ fun q3 => dCons r13_ fun a14_ r15_ => dPl .int a14_ fun q4 => dNil r15_ <| dEnd m8_ <| K (q0, q1, q2, q3, q4)
  law := by
    intro vs tm K h
    replace h := dCons_ok h; obtain ⟨a1_, r2_, rfl, h⟩ := h
    replace h := dPtr_ok h; obtain ⟨rfl, h⟩ := h
    replace h := dCons_ok h; obtain ⟨a3_, r4_, rfl, h⟩ := h
    replace h := dInt_ok h; obtain ⟨q0, rfl, h⟩ := h
    replace h := dCons_ok h; obtain ⟨a5_, r6_, rfl, h⟩ := h
    replace h := dInt_ok h; obtain ⟨q1, rfl, h⟩ := h
    replace h := dNil_ok h; obtain ⟨rfl, h⟩ := h
    replace h := dBlk_ok h; obtain ⟨b7_, m8_, rfl, h⟩ := h
    replace h := dCells_ok h; obtain ⟨c9_, rfl, h⟩ := h
    replace h := dCons_ok h; obtain ⟨a10_, r11_, rfl, h⟩ := h
    replace h := dPl_ok h; obtain ⟨q2, rfl, h⟩ := h
    replace h := dCons_ok h; obtain ⟨a12_, r13_, rfl, h⟩ := h
    replace h := dPl_ok h; obtain ⟨q3, rfl, h⟩ := h
    replace h := dCons_ok h; obtain ⟨a14_, r15_, rfl, h⟩ := h
    replace h := dPl_ok h; obtain ⟨q4, rfl, h⟩ := h
    replace h := dNil_ok h; obtain ⟨rfl, h⟩ := h
    replace h := dEnd_ok h; obtain ⟨rfl, h⟩ := h
    exact ⟨(q0, q1, q2, q3, q4), rfl, h⟩
def H61_2 : LH where
  keep := [(1, .pc [.pure .int, .pure .int, .pure .int]), (3, .x), (5, .x)]
  S := Int × Int × List Int × List Int × List Int
  enc := fun s => ([.ptr 0 0, .int .i64 s.1, .int .i64 s.2.1], [⟨true, .cells [.pl .int s.2.2.1, .pl .int s.2.2.2.1, .pl .int s.2.2.2.2]⟩])
  dec := fun vs tm K => dCons vs fun a1_ r2_ => dPtr 0 a1_ <| dCons r2_ fun a3_ r4_ => dInt .i64 a3_ fun q0 => dCons r4_ fun a5_ r6_ => dInt .i64 a5_ fun q1 => dNil r6_ <| dBlk true tm fun b7_ m8_ => dCells b7_ fun c9_ => dCons c9_ fun a10_ r11_ => dPl .int a10_ fun q2 => dCons r11_ fun a12_ r13_ => dPl .int a12_ fun q3 => dCons r13_ fun a14_ r15_ => dPl .int a14_ fun q4 => dNil r15_ <| dEnd m8_ <| K (q0, q1, q2, q3, q4)
  law := by
    intro vs tm K h
    replace h := dCons_ok h; obtain ⟨a1_, r2_, rfl, h⟩ := h
    replace h := dPtr_ok h; obtain ⟨rfl, h⟩ := h
    replace h := dCons_ok h; obtain ⟨a3_, r4_, rfl, h⟩ := h
    replace h := dInt_ok h; obtain ⟨q0, rfl, h⟩ := h
    replace h := dCons_ok h; obtain ⟨a5_, r6_, rfl, h⟩ := h
    replace h := dInt_ok h; obtain ⟨q1, rfl, h⟩ := h
    replace h := dNil_ok h; obtain ⟨rfl, h⟩ := h
    replace h := dBlk_ok h; obtain ⟨b7_, m8_, rfl, h⟩ := h
    replace h := dCells_ok h; obtain ⟨c9_, rfl, h⟩ := h
    replace h := dCons_ok h; obtain ⟨a10_, r11_, rfl, h⟩ := h
    replace h := dPl_ok h; obtain ⟨q2, rfl, h⟩ := h
    replace h := dCons_ok h; obtain ⟨a12_, r13_, rfl, h⟩ := h
    replace h := dPl_ok h; obtain ⟨q3, rfl, h⟩ := h
    replace h := dCons_ok h; obtain ⟨a14_, r15_, rfl, h⟩ := h
    replace h := dPl_ok h; obtain ⟨q4, rfl, h⟩ := h
    replace h := dNil_ok h; obtain ⟨rfl, h⟩ := h
    replace h := dEnd_ok h; obtain ⟨rfl, h⟩ := h
    exact ⟨(q0, q1, q2, q3, q4), rfl, h⟩
def H61 : List (Nat × LH) := [(0, H61_0), (2, H61_2)]
def W61 : List (Nat × List (Nat × List Nat)) := []
def Γ61 : List (Nat × Con) := [(85, useC [.x, .x] G85)]
theorem e61 (p1 : List Int) (p2 : List Int) (p3 : List Int) (K : TV → TMem → Prop) : TW PP 72 Γ61 H61 W61 (List.length ([] : TMem)) (bodyOf Try.f61) (endT PP 72 [.tmp 2] [.bl] [] (List.length ([] : TMem)) K) (argsF [.agg [.pl .int p1, .pl .int p2, .pl .int p3]]) [] =
    Ms_HeapValid p1 p2 p3 (fun r1 => K (.bool r1) []) := by kernel_rfl
theorem s61 : CSound PP 61 G61 := by
  intro args K c h fl A aargs hA hN R hl
  unfold G61 at h
  generalize ht : c.tm = tm at h
  replace h := dCons_ok h; obtain ⟨a1_, r2_, rfl, h⟩ := h
  replace h := dAgg_ok h; obtain ⟨l3_, rfl, h⟩ := h
  replace h := dCons_ok h; obtain ⟨a4_, r5_, rfl, h⟩ := h
  replace h := dPl_ok h; obtain ⟨p1, rfl, h⟩ := h
  replace h := dCons_ok h; obtain ⟨a6_, r7_, rfl, h⟩ := h
  replace h := dPl_ok h; obtain ⟨p2, rfl, h⟩ := h
  replace h := dCons_ok h; obtain ⟨a8_, r9_, rfl, h⟩ := h
  replace h := dPl_ok h; obtain ⟨p3, rfl, h⟩ := h
  replace h := dNil_ok h; obtain ⟨rfl, h⟩ := h
  replace h := dNil_ok h; obtain ⟨rfl, h⟩ := h
  replace h := dEnd_ok h; obtain ⟨rfl, h⟩ := h
  refine fun_ok (nt := 72) (x := bodyOf Try.f61) (Γ := Γ61) (H := H61) (WW := W61) (rs := [.tmp 2]) (shs := [.bl]) (cons := []) mixed Try.func61 (by decide) (by kernel_rfl) Try.ntmps61 Try.results61 (.cons (useC_ok s85) (GSound.nil)) ?_ hA hN R hl
  rw [ht, e61 p1 p2 p3 K]
  exact h
/-! spec.l11Young -/
def G86 : Con := fun args tm K => dCons args fun a1_ r2_ => dPl .bool a1_ fun p1 => dCons r2_ fun a3_ r4_ => dInt .i64 a3_ fun p2 => dNil r4_ <| dEnd tm <| Ms_l11Young p1 p2 (fun r1 => K (.bool r1) [])
def H86 : List (Nat × LH) := []
def W86 : List (Nat × List (Nat × List Nat)) := []
def Γ86 : List (Nat × Con) := []
theorem e86 (p1 : List Bool) (p2 : Int) (K : TV → TMem → Prop) : TW PP 14 Γ86 H86 W86 (List.length ([] : TMem)) (bodyOf Try.f86) (endT PP 14 [.tmp 4] [.bl] [] (List.length ([] : TMem)) K) (argsF [.pl .bool p1, .int .i64 p2]) [] =
    Ms_l11Young p1 p2 (fun r1 => K (.bool r1) []) := by kernel_rfl
theorem s86 : CSound PP 86 G86 := by
  intro args K c h fl A aargs hA hN R hl
  unfold G86 at h
  generalize ht : c.tm = tm at h
  replace h := dCons_ok h; obtain ⟨a1_, r2_, rfl, h⟩ := h
  replace h := dPl_ok h; obtain ⟨p1, rfl, h⟩ := h
  replace h := dCons_ok h; obtain ⟨a3_, r4_, rfl, h⟩ := h
  replace h := dInt_ok h; obtain ⟨p2, rfl, h⟩ := h
  replace h := dNil_ok h; obtain ⟨rfl, h⟩ := h
  replace h := dEnd_ok h; obtain ⟨rfl, h⟩ := h
  refine fun_ok (nt := 14) (x := bodyOf Try.f86) (Γ := Γ86) (H := H86) (WW := W86) (rs := [.tmp 4]) (shs := [.bl]) (cons := []) mixed Try.func86 (by decide) (by kernel_rfl) Try.ntmps86 Try.results86 (GSound.nil) ?_ hA hN R hl
  rw [ht, e86 p1 p2 K]
  exact h
/-! spec.l11Remember -/
def G62 : Con := fun args tm K => dCons args fun a1_ r2_ => dAgg a1_ fun l3_ => dCons l3_ fun a4_ r5_ => dPl .int a4_ fun p1 => dCons r5_ fun a6_ r7_ => dPl .int a6_ fun p2 => dCons r7_ fun a8_ r9_ => dPl .int a8_ fun p3 => dNil r9_ <| dCons r2_ fun a10_ r11_ => dPl .bool a10_ fun p4 => dNil r11_ <| dEnd tm <| Ms_l11Remember p1 p2 p3 p4 (fun r1 => K (.sl 0) [⟨true, .list .int r1⟩])
def H62_0 : LH where
  keep := [(1, .pure .bool), (2, .pc [.pure .int, .pure .int, .pure .int]), (5, .own .int), (6, .x)]
  S := List Bool × Int × List Int × List Int × List Int × List Int
  enc := fun s => ([.pl .bool s.1, .ptr 0 0, .sl 1, .int .i64 s.2.1], [⟨true, .cells [.pl .int s.2.2.1, .pl .int s.2.2.2.1, .pl .int s.2.2.2.2.1]⟩, ⟨true, .list .int s.2.2.2.2.2⟩])
  dec := fun vs tm K => dCons vs fun a1_ r2_ => dPl .bool a1_ fun q0 => dCons r2_ fun a3_ r4_ => dPtr 0 a3_ <| dCons r4_ fun a5_ r6_ => dSl 1 a5_ <| dCons r6_ fun a7_ r8_ => dInt .i64 a7_ fun q1 => dNil r8_ <| dBlk true tm fun b9_ m10_ => dCells b9_ fun c11_ => dCons c11_ fun a12_ r13_ => dPl .int a12_ fun q2 => dCons r13_ fun a14_ r15_ => dPl .int a14_ fun q3 => dCons r15_ fun a16_ r17_ => dPl .int a16_ fun q4 => dNil r17_ <| dBlk true m10_ fun b18_ m19_ => dList .int b18_ fun q5 => dEnd m19_ <| K (q0, q1, q2, q3, q4, q5)
  law := by
    intro vs tm K h
    replace h := dCons_ok h; obtain ⟨a1_, r2_, rfl, h⟩ := h
    replace h := dPl_ok h; obtain ⟨q0, rfl, h⟩ := h
    replace h := dCons_ok h; obtain ⟨a3_, r4_, rfl, h⟩ := h
    replace h := dPtr_ok h; obtain ⟨rfl, h⟩ := h
    replace h := dCons_ok h; obtain ⟨a5_, r6_, rfl, h⟩ := h
    replace h := dSl_ok h; obtain ⟨rfl, h⟩ := h
    replace h := dCons_ok h; obtain ⟨a7_, r8_, rfl, h⟩ := h
    replace h := dInt_ok h; obtain ⟨q1, rfl, h⟩ := h
    replace h := dNil_ok h; obtain ⟨rfl, h⟩ := h
    replace h := dBlk_ok h; obtain ⟨b9_, m10_, rfl, h⟩ := h
    replace h := dCells_ok h; obtain ⟨c11_, rfl, h⟩ := h
    replace h := dCons_ok h; obtain ⟨a12_, r13_, rfl, h⟩ := h
    replace h := dPl_ok h; obtain ⟨q2, rfl, h⟩ := h
    replace h := dCons_ok h; obtain ⟨a14_, r15_, rfl, h⟩ := h
    replace h := dPl_ok h; obtain ⟨q3, rfl, h⟩ := h
    replace h := dCons_ok h; obtain ⟨a16_, r17_, rfl, h⟩ := h
    replace h := dPl_ok h; obtain ⟨q4, rfl, h⟩ := h
    replace h := dNil_ok h; obtain ⟨rfl, h⟩ := h
    replace h := dBlk_ok h; obtain ⟨b18_, m19_, rfl, h⟩ := h
    replace h := dList_ok h; obtain ⟨q5, rfl, h⟩ := h
    replace h := dEnd_ok h; obtain ⟨rfl, h⟩ := h
    exact ⟨(q0, q1, q2, q3, q4, q5), rfl, h⟩
def H62 : List (Nat × LH) := [(0, H62_0)]
def W62 : List (Nat × List (Nat × List Nat)) := []
def Γ62 : List (Nat × Con) := [(86, useC [.pure .bool, .x] G86)]
theorem e62 (p1 : List Int) (p2 : List Int) (p3 : List Int) (p4 : List Bool) (K : TV → TMem → Prop) : TW PP 41 Γ62 H62 W62 (List.length ([] : TMem)) (bodyOf Try.f62) (endT PP 41 [.tmp 4] [.own .int] [] (List.length ([] : TMem)) K) (argsF [.agg [.pl .int p1, .pl .int p2, .pl .int p3], .pl .bool p4]) [] =
    Ms_l11Remember p1 p2 p3 p4 (fun r1 => K (.sl 0) [⟨true, .list .int r1⟩]) := by kernel_rfl
theorem s62 : CSound PP 62 G62 := by
  intro args K c h fl A aargs hA hN R hl
  unfold G62 at h
  generalize ht : c.tm = tm at h
  replace h := dCons_ok h; obtain ⟨a1_, r2_, rfl, h⟩ := h
  replace h := dAgg_ok h; obtain ⟨l3_, rfl, h⟩ := h
  replace h := dCons_ok h; obtain ⟨a4_, r5_, rfl, h⟩ := h
  replace h := dPl_ok h; obtain ⟨p1, rfl, h⟩ := h
  replace h := dCons_ok h; obtain ⟨a6_, r7_, rfl, h⟩ := h
  replace h := dPl_ok h; obtain ⟨p2, rfl, h⟩ := h
  replace h := dCons_ok h; obtain ⟨a8_, r9_, rfl, h⟩ := h
  replace h := dPl_ok h; obtain ⟨p3, rfl, h⟩ := h
  replace h := dNil_ok h; obtain ⟨rfl, h⟩ := h
  replace h := dCons_ok h; obtain ⟨a10_, r11_, rfl, h⟩ := h
  replace h := dPl_ok h; obtain ⟨p4, rfl, h⟩ := h
  replace h := dNil_ok h; obtain ⟨rfl, h⟩ := h
  replace h := dEnd_ok h; obtain ⟨rfl, h⟩ := h
  refine fun_ok (nt := 41) (x := bodyOf Try.f62) (Γ := Γ62) (H := H62) (WW := W62) (rs := [.tmp 4]) (shs := [.own .int]) (cons := []) mixed Try.func62 (by decide) (by kernel_rfl) Try.ntmps62 Try.results62 (.cons (useC_ok s86) (GSound.nil)) ?_ hA hN R hl
  rw [ht, e62 p1 p2 p3 p4 K]
  exact h
/-! impl.HeapValid -/
def G34 : Con := fun args tm K => dCons args fun a1_ r2_ => dAgg a1_ fun l3_ => dCons l3_ fun a4_ r5_ => dPl .int a4_ fun p1 => dCons r5_ fun a6_ r7_ => dPl .int a6_ fun p2 => dCons r7_ fun a8_ r9_ => dPl .int a8_ fun p3 => dNil r9_ <| dNil r2_ <| dEnd tm <| Mi_HeapValid p1 p2 p3 (fun r1 => K (.bool r1) [])
def H34_0 : LH where
  keep := [(1, .pc [.pure .int, .pure .int, .pure .int]), (44, .own .ints), (45, .x), (46, .x)]
  S := Int × Int × List Int × List Int × List Int × List (List Int)
  enc := fun s => ([.ptr 0 0, .sl 1, .int .i64 s.1, .int .i64 s.2.1], [⟨true, .cells [.pl .int s.2.2.1, .pl .int s.2.2.2.1, .pl .int s.2.2.2.2.1]⟩, ⟨true, .list .ints s.2.2.2.2.2⟩])
  dec := fun vs tm K => dCons vs fun a1_ r2_ => dPtr 0 a1_ <| dCons r2_ fun a3_ r4_ => dSl 1 a3_ <| dCons r4_ fun a5_ r6_ => dInt .i64 a5_ fun q0 => dCons r6_ fun a7_ r8_ => dInt .i64 a7_ fun q1 => dNil r8_ <| dBlk true tm fun b9_ m10_ => dCells b9_ fun c11_ => dCons c11_ fun a12_ r13_ => dPl .int a12_ fun q2 => dCons r13_ fun a14_ r15_ => dPl .int a14_ fun q3 => dCons r15_ fun a16_ r17_ => dPl .int a16_ fun q4 => dNil r17_ <| dBlk true m10_ fun b18_ m19_ => dList .ints b18_ fun q5 => dEnd m19_ <| K (q0, q1, q2, q3, q4, q5)
  law := by
    intro vs tm K h
    replace h := dCons_ok h; obtain ⟨a1_, r2_, rfl, h⟩ := h
    replace h := dPtr_ok h; obtain ⟨rfl, h⟩ := h
    replace h := dCons_ok h; obtain ⟨a3_, r4_, rfl, h⟩ := h
    replace h := dSl_ok h; obtain ⟨rfl, h⟩ := h
    replace h := dCons_ok h; obtain ⟨a5_, r6_, rfl, h⟩ := h
    replace h := dInt_ok h; obtain ⟨q0, rfl, h⟩ := h
    replace h := dCons_ok h; obtain ⟨a7_, r8_, rfl, h⟩ := h
    replace h := dInt_ok h; obtain ⟨q1, rfl, h⟩ := h
    replace h := dNil_ok h; obtain ⟨rfl, h⟩ := h
    replace h := dBlk_ok h; obtain ⟨b9_, m10_, rfl, h⟩ := h
    replace h := dCells_ok h; obtain ⟨c11_, rfl, h⟩ := h
    replace h := dCons_ok h; obtain ⟨a12_, r13_, rfl, h⟩ := h
    replace h := dPl_ok h; obtain ⟨q2, rfl, h⟩ := h
    replace h := dCons_ok h; obtain ⟨a14_, r15_, rfl, h⟩ := h
    replace h := dPl_ok h; obtain ⟨q3, rfl, h⟩ := h
    replace h := dCons_ok h; obtain ⟨a16_, r17_, rfl, h⟩ := h
    replace h := dPl_ok h; obtain ⟨q4, rfl, h⟩ := h
    replace h := dNil_ok h; obtain ⟨rfl, h⟩ := h
    replace h := dBlk_ok h; obtain ⟨b18_, m19_, rfl, h⟩ := h
    replace h := dList_ok h; obtain ⟨q5, rfl, h⟩ := h
    replace h := dEnd_ok h; obtain ⟨rfl, h⟩ := h
    exact ⟨(q0, q1, q2, q3, q4, q5), rfl, h⟩
def H34_2 : LH where
  keep := [(1, .pc [.pure .int, .pure .int, .pure .int]), (44, .own .ints), (45, .x), (46, .x), (50, .pure .int), (51, .x), (52, .x)]
  S := Int × Int × List Int × Int × Int × List Int × List Int × List Int × List (List Int)
  enc := fun s => ([.ptr 0 0, .sl 1, .int .i64 s.1, .int .i64 s.2.1, .pl .int s.2.2.1, .int .i64 s.2.2.2.1, .int .i64 s.2.2.2.2.1], [⟨true, .cells [.pl .int s.2.2.2.2.2.1, .pl .int s.2.2.2.2.2.2.1, .pl .int s.2.2.2.2.2.2.2.1]⟩, ⟨true, .list .ints s.2.2.2.2.2.2.2.2⟩])
  dec := fun vs tm K => dCons vs fun a1_ r2_ => dPtr 0 a1_ <| dCons r2_ fun a3_ r4_ => dSl 1 a3_ <| dCons r4_ fun a5_ r6_ => dInt .i64 a5_ fun q0 => dCons r6_ fun a7_ r8_ => dInt .i64 a7_ fun q1 => dCons r8_ fun a9_ r10_ => dPl .int a9_ fun q2 => dCons r10_ fun a11_ r12_ => dInt .i64 a11_ fun q3 => dCons r12_ fun a13_ r14_ => dInt .i64 a13_ fun q4 => dNil r14_ <| dBlk true tm fun b15_ m16_ => dCells b15_ fun c17_ => dCons c17_ fun a18_ r19_ => dPl .int a18_ fun q5 => dCons r19_ fun a20_ r21_ => dPl .int a20_ fun q6 => dCons r21_ fun a22_ r23_ => dPl .int a22_ fun q7 => dNil r23_ <| dBlk true m16_ fun b24_ m25_ => dList .ints b24_ fun q8 => dEnd m25_ <| K (q0, q1, q2, q3, q4, q5, q6, q7, q8)
  law := by
    intro vs tm K h
    replace h := dCons_ok h; obtain ⟨a1_, r2_, rfl, h⟩ := h
    replace h := dPtr_ok h; obtain ⟨rfl, h⟩ := h
    replace h := dCons_ok h; obtain ⟨a3_, r4_, rfl, h⟩ := h
    replace h := dSl_ok h; obtain ⟨rfl, h⟩ := h
    replace h := dCons_ok h; obtain ⟨a5_, r6_, rfl, h⟩ := h
    replace h := dInt_ok h; obtain ⟨q0, rfl, h⟩ := h
    replace h := dCons_ok h; obtain ⟨a7_, r8_, rfl, h⟩ := h
    replace h := dInt_ok h; obtain ⟨q1, rfl, h⟩ := h
    replace h := dCons_ok h; obtain ⟨a9_, r10_, rfl, h⟩ := h
    replace h := dPl_ok h; obtain ⟨q2, rfl, h⟩ := h
    replace h := dCons_ok h; obtain ⟨a11_, r12_, rfl, h⟩ := h
    replace h := dInt_ok h; obtain ⟨q3, rfl, h⟩ := h
    replace h := dCons_ok h; obtain ⟨a13_, r14_, rfl, h⟩ := h
    replace h := dInt_ok h; obtain ⟨q4, rfl, h⟩ := h
    replace h := dNil_ok h; obtain ⟨rfl, h⟩ := h
    replace h := dBlk_ok h; obtain ⟨b15_, m16_, rfl, h⟩ := h
    replace h := dCells_ok h; obtain ⟨c17_, rfl, h⟩ := h
    replace h := dCons_ok h; obtain ⟨a18_, r19_, rfl, h⟩ := h
    replace h := dPl_ok h; obtain ⟨q5, rfl, h⟩ := h
    replace h := dCons_ok h; obtain ⟨a20_, r21_, rfl, h⟩ := h
    replace h := dPl_ok h; obtain ⟨q6, rfl, h⟩ := h
    replace h := dCons_ok h; obtain ⟨a22_, r23_, rfl, h⟩ := h
    replace h := dPl_ok h; obtain ⟨q7, rfl, h⟩ := h
    replace h := dNil_ok h; obtain ⟨rfl, h⟩ := h
    replace h := dBlk_ok h; obtain ⟨b24_, m25_, rfl, h⟩ := h
    replace h := dList_ok h; obtain ⟨q8, rfl, h⟩ := h
    replace h := dEnd_ok h; obtain ⟨rfl, h⟩ := h
    exact ⟨(q0, q1, q2, q3, q4, q5, q6, q7, q8), rfl, h⟩
def H34 : List (Nat × LH) := [(0, H34_0), (2, H34_2)]
def W34 : List (Nat × List (Nat × List Nat)) := []
def Γ34 : List (Nat × Con) := []
theorem e34 (p1 : List Int) (p2 : List Int) (p3 : List Int) (K : TV → TMem → Prop) : TW PP 67 Γ34 H34 W34 (List.length ([] : TMem)) (bodyOf Try.f34) (endT PP 67 [.tmp 2] [.bl] [] (List.length ([] : TMem)) K) (argsF [.agg [.pl .int p1, .pl .int p2, .pl .int p3]]) [] =
    Mi_HeapValid p1 p2 p3 (fun r1 => K (.bool r1) []) := by kernel_rfl
theorem s34 : CSound PP 34 G34 := by
  intro args K c h fl A aargs hA hN R hl
  unfold G34 at h
  generalize ht : c.tm = tm at h
  replace h := dCons_ok h; obtain ⟨a1_, r2_, rfl, h⟩ := h
  replace h := dAgg_ok h; obtain ⟨l3_, rfl, h⟩ := h
  replace h := dCons_ok h; obtain ⟨a4_, r5_, rfl, h⟩ := h
  replace h := dPl_ok h; obtain ⟨p1, rfl, h⟩ := h
  replace h := dCons_ok h; obtain ⟨a6_, r7_, rfl, h⟩ := h
  replace h := dPl_ok h; obtain ⟨p2, rfl, h⟩ := h
  replace h := dCons_ok h; obtain ⟨a8_, r9_, rfl, h⟩ := h
  replace h := dPl_ok h; obtain ⟨p3, rfl, h⟩ := h
  replace h := dNil_ok h; obtain ⟨rfl, h⟩ := h
  replace h := dNil_ok h; obtain ⟨rfl, h⟩ := h
  replace h := dEnd_ok h; obtain ⟨rfl, h⟩ := h
  refine fun_ok (nt := 67) (x := bodyOf Try.f34) (Γ := Γ34) (H := H34) (WW := W34) (rs := [.tmp 2]) (shs := [.bl]) (cons := []) mixed Try.func34 (by decide) (by kernel_rfl) Try.ntmps34 Try.results34 (GSound.nil) ?_ hA hN R hl
  rw [ht, e34 p1 p2 p3 K]
  exact h
/-! impl.remembered$1 -/
def G84 : Con := fun args tm K => dCons args fun a1_ r2_ => dInt .i64 a1_ fun p1 => dCons r2_ fun a3_ r4_ => dPtr 0 a3_ <| dNil r4_ <| dBlk true tm fun b5_ m6_ => dCells b5_ fun c7_ => dCons c7_ fun a8_ r9_ => dPl .bool a8_ fun p2 => dNil r9_ <| dEnd m6_ <| Mi_remembered_1 p1 p2 (fun r1 => K (.bool r1) [⟨true, .cells [.pl .bool p2]⟩])
def H84 : List (Nat × LH) := []
def W84 : List (Nat × List (Nat × List Nat)) := []
def Γ84 : List (Nat × Con) := []
theorem e84 (p1 : Int) (p2 : List Bool) (K : TV → TMem → Prop) : TW PP 13 Γ84 H84 W84 (List.length ([⟨true, .cells [.pl .bool p2]⟩] : TMem)) (bodyOf Try.f84) (endT PP 13 [.tmp 3] [.bl] [] (List.length ([⟨true, .cells [.pl .bool p2]⟩] : TMem)) K) (argsF [.int .i64 p1, .ptr 0 0]) [⟨true, .cells [.pl .bool p2]⟩] =
    Mi_remembered_1 p1 p2 (fun r1 => K (.bool r1) [⟨true, .cells [.pl .bool p2]⟩]) := by kernel_rfl
theorem s84 : CSound PP 84 G84 := by
  intro args K c h fl A aargs hA hN R hl
  unfold G84 at h
  generalize ht : c.tm = tm at h
  replace h := dCons_ok h; obtain ⟨a1_, r2_, rfl, h⟩ := h
  replace h := dInt_ok h; obtain ⟨p1, rfl, h⟩ := h
  replace h := dCons_ok h; obtain ⟨a3_, r4_, rfl, h⟩ := h
  replace h := dPtr_ok h; obtain ⟨rfl, h⟩ := h
  replace h := dNil_ok h; obtain ⟨rfl, h⟩ := h
  replace h := dBlk_ok h; obtain ⟨b5_, m6_, rfl, h⟩ := h
  replace h := dCells_ok h; obtain ⟨c7_, rfl, h⟩ := h
  replace h := dCons_ok h; obtain ⟨a8_, r9_, rfl, h⟩ := h
  replace h := dPl_ok h; obtain ⟨p2, rfl, h⟩ := h
  replace h := dNil_ok h; obtain ⟨rfl, h⟩ := h
  replace h := dEnd_ok h; obtain ⟨rfl, h⟩ := h
  refine fun_ok (nt := 13) (x := bodyOf Try.f84) (Γ := Γ84) (H := H84) (WW := W84) (rs := [.tmp 3]) (shs := [.bl]) (cons := []) mixed Try.func84 (by decide) (by kernel_rfl) Try.ntmps84 Try.results84 (GSound.nil) ?_ hA hN R hl
  rw [ht, e84 p1 p2 K]
  exact h
/-! impl.remembered -/
def G60 : Con := fun args tm K => dCons args fun a1_ r2_ => dAgg a1_ fun l3_ => dCons l3_ fun a4_ r5_ => dPl .int a4_ fun p1 => dCons r5_ fun a6_ r7_ => dPl .int a6_ fun p2 => dCons r7_ fun a8_ r9_ => dPl .int a8_ fun p3 => dNil r9_ <| dCons r2_ fun a10_ r11_ => dPl .bool a10_ fun p4 => dNil r11_ <| dEnd tm <| Mi_remembered p1 p2 p3 p4 (fun r1 => K (.sl 0) [⟨true, .list .int r1⟩])
def H60_0 : LH where
  keep := [(2, .pc [.pure .int, .pure .int, .pure .int]), (5, .x), (6, .own .int), (11, .pure .bool), (12, .x), (13, .x)]
  S := List Bool × Int × Int × List Int × List Int × List Int × List Bool × List Int
  enc := fun s => ([.ptr 0 0, .fn 84 [] [.ptr 1 0], .sl 2, .pl .bool s.1, .int .i64 s.2.1, .int .i64 s.2.2.1], [⟨true, .cells [.pl .int s.2.2.2.1, .pl .int s.2.2.2.2.1, .pl .int s.2.2.2.2.2.1]⟩, ⟨true, .cells [.pl .bool s.2.2.2.2.2.2.1]⟩, ⟨true, .list .int s.2.2.2.2.2.2.2⟩])
  dec := fun vs tm K => dCons vs fun a1_ r2_ => dPtr 0 a1_ <| dCons r2_ fun a3_ r4_ => dFn 84 a3_ fun x5_ y6_ => dNil x5_ <| dCons y6_ fun a7_ r8_ => dPtr 1 a7_ <| dNil r8_ <| dCons r4_ fun a9_ r10_ => dSl 2 a9_ <| dCons r10_ fun a11_ r12_ => dPl .bool a11_ fun q0 => dCons r12_ fun a13_ r14_ => dInt .i64 a13_ fun q1 => dCons r14_ fun a15_ r16_ => dInt .i64 a15_ fun q2 => dNil r16_ <| dBlk true tm fun b17_ m18_ => dCells b17_ fun c19_ => dCons c19_ fun a20_ r21_ => dPl .int a20_ fun q3 => dCons r21_ fun a22_ r23_ => dPl .int a22_ fun q4 => dCons r23_ fun a24_ r25_ => dPl .int a24_ fun q5 => dNil r25_ <| dBlk true m18_ fun b26_ m27_ => dCells b26_ fun c28_ => dCons c28_ fun a29_ r30_ => dPl .bool a29_ fun q6 => dNil r30_ <| dBlk true m27_ fun b31_ m32_ => dList .int b31_ fun q7 => dEnd m32_ <| K (q0, q1, q2, q3, q4, q5, q6, q7)
  law := by
    intro vs tm K h
    replace h := dCons_ok h; obtain ⟨a1_, r2_, rfl, h⟩ := h
    replace h := dPtr_ok h; obtain ⟨rfl, h⟩ := h
    replace h := dCons_ok h; obtain ⟨a3_, r4_, rfl, h⟩ := h
    replace h := dFn_ok h; obtain ⟨x5_, y6_, rfl, h⟩ := h
    replace h := dNil_ok h; obtain ⟨rfl, h⟩ := h
    replace h := dCons_ok h; obtain ⟨a7_, r8_, rfl, h⟩ := h
    replace h := dPtr_ok h; obtain ⟨rfl, h⟩ := h
    replace h := dNil_ok h; obtain ⟨rfl, h⟩ := h
    replace h := dCons_ok h; obtain ⟨a9_, r10_, rfl, h⟩ := h
    replace h := dSl_ok h; obtain ⟨rfl, h⟩ := h
    replace h := dCons_ok h; obtain ⟨a11_, r12_, rfl, h⟩ := h
    replace h := dPl_ok h; obtain ⟨q0, rfl, h⟩ := h
    replace h := dCons_ok h; obtain ⟨a13_, r14_, rfl, h⟩ := h
    replace h := dInt_ok h; obtain ⟨q1, rfl, h⟩ := h
    replace h := dCons_ok h; obtain ⟨a15_, r16_, rfl, h⟩ := h
    replace h := dInt_ok h; obtain ⟨q2, rfl, h⟩ := h
    replace h := dNil_ok h; obtain ⟨rfl, h⟩ := h
    replace h := dBlk_ok h; obtain ⟨b17_, m18_, rfl, h⟩ := h
    replace h := dCells_ok h; obtain ⟨c19_, rfl, h⟩ := h
    replace h := dCons_ok h; obtain ⟨a20_, r21_, rfl, h⟩ := h
    replace h := dPl_ok h; obtain ⟨q3, rfl, h⟩ := h
    replace h := dCons_ok h; obtain ⟨a22_, r23_, rfl, h⟩ := h
    replace h := dPl_ok h; obtain ⟨q4, rfl, h⟩ := h
    replace h := dCons_ok h; obtain ⟨a24_, r25_, rfl, h⟩ := h
    replace h := dPl_ok h; obtain ⟨q5, rfl, h⟩ := h
    replace h := dNil_ok h; obtain ⟨rfl, h⟩ := h
    replace h := dBlk_ok h; obtain ⟨b26_, m27_, rfl, h⟩ := h
    replace h := dCells_ok h; obtain ⟨c28_, rfl, h⟩ := h
    replace h := dCons_ok h; obtain ⟨a29_, r30_, rfl, h⟩ := h
    replace h := dPl_ok h; obtain ⟨q6, rfl, h⟩ := h
    replace h := dNil_ok h; obtain ⟨rfl, h⟩ := h
    replace h := dBlk_ok h; obtain ⟨b31_, m32_, rfl, h⟩ := h
    replace h := dList_ok h; obtain ⟨q7, rfl, h⟩ := h
    replace h := dEnd_ok h; obtain ⟨rfl, h⟩ := h
    exact ⟨(q0, q1, q2, q3, q4, q5, q6, q7), rfl, h⟩
def H60 : List (Nat × LH) := [(0, H60_0)]
def W60 : List (Nat × List (Nat × List Nat)) := []
def Γ60 : List (Nat × Con) := [(84, useC [.x, .pc [.pure .bool]] G84)]
theorem e60 (p1 : List Int) (p2 : List Int) (p3 : List Int) (p4 : List Bool) (K : TV → TMem → Prop) : TW PP 43 Γ60 H60 W60 (List.length ([] : TMem)) (bodyOf Try.f60) (endT PP 43 [.tmp 4] [.own .int] [] (List.length ([] : TMem)) K) (argsF [.agg [.pl .int p1, .pl .int p2, .pl .int p3], .pl .bool p4]) [] =
    Mi_remembered p1 p2 p3 p4 (fun r1 => K (.sl 0) [⟨true, .list .int r1⟩]) := by kernel_rfl
theorem s60 : CSound PP 60 G60 := by
  intro args K c h fl A aargs hA hN R hl
  unfold G60 at h
  generalize ht : c.tm = tm at h
  replace h := dCons_ok h; obtain ⟨a1_, r2_, rfl, h⟩ := h
  replace h := dAgg_ok h; obtain ⟨l3_, rfl, h⟩ := h
  replace h := dCons_ok h; obtain ⟨a4_, r5_, rfl, h⟩ := h
  replace h := dPl_ok h; obtain ⟨p1, rfl, h⟩ := h
  replace h := dCons_ok h; obtain ⟨a6_, r7_, rfl, h⟩ := h
  replace h := dPl_ok h; obtain ⟨p2, rfl, h⟩ := h
  replace h := dCons_ok h; obtain ⟨a8_, r9_, rfl, h⟩ := h
  replace h := dPl_ok h; obtain ⟨p3, rfl, h⟩ := h
  replace h := dNil_ok h; obtain ⟨rfl, h⟩ := h
  replace h := dCons_ok h; obtain ⟨a10_, r11_, rfl, h⟩ := h
  replace h := dPl_ok h; obtain ⟨p4, rfl, h⟩ := h
  replace h := dNil_ok h; obtain ⟨rfl, h⟩ := h
  replace h := dEnd_ok h; obtain ⟨rfl, h⟩ := h
  refine fun_ok (nt := 43) (x := bodyOf Try.f60) (Γ := Γ60) (H := H60) (WW := W60) (rs := [.tmp 4]) (shs := [.own .int]) (cons := []) mixed Try.func60 (by decide) (by kernel_rfl) Try.ntmps60 Try.results60 (.cons (useC_ok s84) (GSound.nil)) ?_ hA hN R hl
  rw [ht, e60 p1 p2 p3 p4 K]
  exact h
/-! impl.GensValid -/
def G21 : Con := fun args tm K => dCons args fun a1_ r2_ => dAgg a1_ fun l3_ => dCons l3_ fun a4_ r5_ => dPl .int a4_ fun p1 => dCons r5_ fun a6_ r7_ => dPl .int a6_ fun p2 => dCons r7_ fun a8_ r9_ => dPl .int a8_ fun p3 => dCons r9_ fun a10_ r11_ => dPl .bool a10_ fun p4 => dCons r11_ fun a12_ r13_ => dPl .int a12_ fun p5 => dNil r13_ <| dNil r2_ <| dEnd tm <| Mi_GensValid p1 p2 p3 p4 p5 (fun r1 => K (.bool r1) [])
def H21 : List (Nat × LH) := []
def W21 : List (Nat × List (Nat × List Nat)) := []
def Γ21 : List (Nat × Con) := [(34, useC [.ag [.pure .int, .pure .int, .pure .int]] G34), (60, useC [.ag [.pure .int, .pure .int, .pure .int], .pure .bool] G60), (55, useC [.pure .int, .pure .int] G55)]
theorem e21 (p1 : List Int) (p2 : List Int) (p3 : List Int) (p4 : List Bool) (p5 : List Int) (K : TV → TMem → Prop) : TW PP 26 Γ21 H21 W21 (List.length ([] : TMem)) (bodyOf Try.f21) (endT PP 26 [.tmp 2] [.bl] [] (List.length ([] : TMem)) K) (argsF [.agg [.pl .int p1, .pl .int p2, .pl .int p3, .pl .bool p4, .pl .int p5]]) [] =
    Mi_GensValid p1 p2 p3 p4 p5 (fun r1 => K (.bool r1) []) := by kernel_rfl
theorem s21 : CSound PP 21 G21 := by
  intro args K c h fl A aargs hA hN R hl
  unfold G21 at h
  generalize ht : c.tm = tm at h
  replace h := dCons_ok h; obtain ⟨a1_, r2_, rfl, h⟩ := h
  replace h := dAgg_ok h; obtain ⟨l3_, rfl, h⟩ := h
  replace h := dCons_ok h; obtain ⟨a4_, r5_, rfl, h⟩ := h
  replace h := dPl_ok h; obtain ⟨p1, rfl, h⟩ := h
  replace h := dCons_ok h; obtain ⟨a6_, r7_, rfl, h⟩ := h
  replace h := dPl_ok h; obtain ⟨p2, rfl, h⟩ := h
  replace h := dCons_ok h; obtain ⟨a8_, r9_, rfl, h⟩ := h
  replace h := dPl_ok h; obtain ⟨p3, rfl, h⟩ := h
  replace h := dCons_ok h; obtain ⟨a10_, r11_, rfl, h⟩ := h
  replace h := dPl_ok h; obtain ⟨p4, rfl, h⟩ := h
  replace h := dCons_ok h; obtain ⟨a12_, r13_, rfl, h⟩ := h
  replace h := dPl_ok h; obtain ⟨p5, rfl, h⟩ := h
  replace h := dNil_ok h; obtain ⟨rfl, h⟩ := h
  replace h := dNil_ok h; obtain ⟨rfl, h⟩ := h
  replace h := dEnd_ok h; obtain ⟨rfl, h⟩ := h
  refine fun_ok (nt := 26) (x := bodyOf Try.f21) (Γ := Γ21) (H := H21) (WW := W21) (rs := [.tmp 2]) (shs := [.bl]) (cons := []) mixed Try.func21 (by decide) (by kernel_rfl) Try.ntmps21 Try.results21 (.cons (useC_ok s34) (.cons (useC_ok s60) (.cons (useC_ok s55) (GSound.nil)))) ?_ hA hN R hl
  rw [ht, e21 p1 p2 p3 p4 p5 K]
  exact h
/-! spec.GensValid -/
def G22 : Con := fun args tm K => dCons args fun a1_ r2_ => dAgg a1_ fun l3_ => dCons l3_ fun a4_ r5_ => dPl .int a4_ fun p1 => dCons r5_ fun a6_ r7_ => dPl .int a6_ fun p2 => dCons r7_ fun a8_ r9_ => dPl .int a8_ fun p3 => dCons r9_ fun a10_ r11_ => dPl .bool a10_ fun p4 => dCons r11_ fun a12_ r13_ => dPl .int a12_ fun p5 => dNil r13_ <| dNil r2_ <| dEnd tm <| Ms_GensValid p1 p2 p3 p4 p5 (fun r1 => K (.bool r1) [])
def H22 : List (Nat × LH) := []
def W22 : List (Nat × List (Nat × List Nat)) := []
def Γ22 : List (Nat × Con) := [(61, useC [.ag [.pure .int, .pure .int, .pure .int]] G61), (62, useC [.ag [.pure .int, .pure .int, .pure .int], .pure .bool] G62), (51, useC [.pure .int, .pure .int] G51)]
theorem e22 (p1 : List Int) (p2 : List Int) (p3 : List Int) (p4 : List Bool) (p5 : List Int) (K : TV → TMem → Prop) : TW PP 26 Γ22 H22 W22 (List.length ([] : TMem)) (bodyOf Try.f22) (endT PP 26 [.tmp 2] [.bl] [] (List.length ([] : TMem)) K) (argsF [.agg [.pl .int p1, .pl .int p2, .pl .int p3, .pl .bool p4, .pl .int p5]]) [] =
    Ms_GensValid p1 p2 p3 p4 p5 (fun r1 => K (.bool r1) []) := by kernel_rfl
theorem s22 : CSound PP 22 G22 := by
  intro args K c h fl A aargs hA hN R hl
  unfold G22 at h
  generalize ht : c.tm = tm at h
  replace h := dCons_ok h; obtain ⟨a1_, r2_, rfl, h⟩ := h
  replace h := dAgg_ok h; obtain ⟨l3_, rfl, h⟩ := h
  replace h := dCons_ok h; obtain ⟨a4_, r5_, rfl, h⟩ := h
  replace h := dPl_ok h; obtain ⟨p1, rfl, h⟩ := h
  replace h := dCons_ok h; obtain ⟨a6_, r7_, rfl, h⟩ := h
  replace h := dPl_ok h; obtain ⟨p2, rfl, h⟩ := h
  replace h := dCons_ok h; obtain ⟨a8_, r9_, rfl, h⟩ := h
  replace h := dPl_ok h; obtain ⟨p3, rfl, h⟩ := h
  replace h := dCons_ok h; obtain ⟨a10_, r11_, rfl, h⟩ := h
  replace h := dPl_ok h; obtain ⟨p4, rfl, h⟩ := h
  replace h := dCons_ok h; obtain ⟨a12_, r13_, rfl, h⟩ := h
  replace h := dPl_ok h; obtain ⟨p5, rfl, h⟩ := h
  replace h := dNil_ok h; obtain ⟨rfl, h⟩ := h
  replace h := dNil_ok h; obtain ⟨rfl, h⟩ := h
  replace h := dEnd_ok h; obtain ⟨rfl, h⟩ := h
  refine fun_ok (nt := 26) (x := bodyOf Try.f22) (Γ := Γ22) (H := H22) (WW := W22) (rs := [.tmp 2]) (shs := [.bl]) (cons := []) mixed Try.func22 (by decide) (by kernel_rfl) Try.ntmps22 Try.results22 (.cons (useC_ok s61) (.cons (useC_ok s62) (.cons (useC_ok s51) (GSound.nil)))) ?_ hA hN R hl
  rw [ht, e22 p1 p2 p3 p4 p5 K]
  exact h
/-! laws.FnExactGensValid -/
def G11 : Con := fun args tm K => dCons args fun a1_ r2_ => dAgg a1_ fun l3_ => dCons l3_ fun a4_ r5_ => dPl .int a4_ fun p1 => dCons r5_ fun a6_ r7_ => dPl .int a6_ fun p2 => dCons r7_ fun a8_ r9_ => dPl .int a8_ fun p3 => dCons r9_ fun a10_ r11_ => dPl .bool a10_ fun p4 => dCons r11_ fun a12_ r13_ => dPl .int a12_ fun p5 => dNil r13_ <| dNil r2_ <| dEnd tm <| Ml_FnExactGensValid p1 p2 p3 p4 p5 (fun r1 => K (.bool r1) [])
def H11 : List (Nat × LH) := []
def W11 : List (Nat × List (Nat × List Nat)) := []
def Γ11 : List (Nat × Con) := [(15, useC [.ag [.pure .int, .pure .int, .pure .int, .pure .bool, .pure .int], .x] G15), (17, useC [.ag [.pure .int, .pure .int, .pure .int, .pure .bool, .pure .int]] G17), (22, useC [.ag [.pure .int, .pure .int, .pure .int, .pure .bool, .pure .int]] G22), (21, useC [.ag [.pure .int, .pure .int, .pure .int, .pure .bool, .pure .int]] G21), (19, useC [.ag [.pure .int, .pure .int, .pure .int, .pure .bool, .pure .int], .ag [.pure .int, .pure .int, .pure .int, .pure .bool, .pure .int]] G19)]
theorem e11 (p1 : List Int) (p2 : List Int) (p3 : List Int) (p4 : List Bool) (p5 : List Int) (K : TV → TMem → Prop) : TW PP 27 Γ11 H11 W11 (List.length ([] : TMem)) (bodyOf Try.f11) (endT PP 27 [.tmp 2] [.bl] [] (List.length ([] : TMem)) K) (argsF [.agg [.pl .int p1, .pl .int p2, .pl .int p3, .pl .bool p4, .pl .int p5]]) [] =
    Ml_FnExactGensValid p1 p2 p3 p4 p5 (fun r1 => K (.bool r1) []) := by kernel_rfl
theorem s11 : CSound PP 11 G11 := by
  intro args K c h fl A aargs hA hN R hl
  unfold G11 at h
  generalize ht : c.tm = tm at h
  replace h := dCons_ok h; obtain ⟨a1_, r2_, rfl, h⟩ := h
  replace h := dAgg_ok h; obtain ⟨l3_, rfl, h⟩ := h
  replace h := dCons_ok h; obtain ⟨a4_, r5_, rfl, h⟩ := h
  replace h := dPl_ok h; obtain ⟨p1, rfl, h⟩ := h
  replace h := dCons_ok h; obtain ⟨a6_, r7_, rfl, h⟩ := h
  replace h := dPl_ok h; obtain ⟨p2, rfl, h⟩ := h
  replace h := dCons_ok h; obtain ⟨a8_, r9_, rfl, h⟩ := h
  replace h := dPl_ok h; obtain ⟨p3, rfl, h⟩ := h
  replace h := dCons_ok h; obtain ⟨a10_, r11_, rfl, h⟩ := h
  replace h := dPl_ok h; obtain ⟨p4, rfl, h⟩ := h
  replace h := dCons_ok h; obtain ⟨a12_, r13_, rfl, h⟩ := h
  replace h := dPl_ok h; obtain ⟨p5, rfl, h⟩ := h
  replace h := dNil_ok h; obtain ⟨rfl, h⟩ := h
  replace h := dNil_ok h; obtain ⟨rfl, h⟩ := h
  replace h := dEnd_ok h; obtain ⟨rfl, h⟩ := h
  refine fun_ok (nt := 27) (x := bodyOf Try.f11) (Γ := Γ11) (H := H11) (WW := W11) (rs := [.tmp 2]) (shs := [.bl]) (cons := []) mixed Try.func11 (by decide) (by kernel_rfl) Try.ntmps11 Try.results11 (.cons (useC_ok s15) (.cons (useC_ok s17) (.cons (useC_ok s22) (.cons (useC_ok s21) (.cons (useC_ok s19) (GSound.nil)))))) ?_ hA hN R hl
  rw [ht, e11 p1 p2 p3 p4 p5 K]
  exact h
end Go.Ab
