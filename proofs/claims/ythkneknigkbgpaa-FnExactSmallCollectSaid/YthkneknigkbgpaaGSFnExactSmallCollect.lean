/-
  What is proved here: that the typed models of functions of the translated program are sound.
-/
import Derived.Test.YthkneknigkbgpaaGM
import Derived.Test.YthkneknigkbgpaaProg
import Derived.KernelRfl
namespace Go.Ab
set_option linter.unusedVariables false
open Go.Proofs
noncomputable abbrev PP : Program := Try.prog
theorem mixed : PP.follows .mixedOrders = true := by kernel_rfl
/-! laws.szIntS -/
def G104 : Con := fun args tm K => dCons args fun a1_ r2_ => dPl .int a1_ fun p1 => dCons r2_ fun a3_ r4_ => dInt .i64 a3_ fun p2 => dNil r4_ <| dEnd tm <| Ml_szIntS p1 p2 (fun r1 => K (.int .i64 r1) [])
def H104 : List (Nat × LH) := []
def W104 : List (Nat × List (Nat × List Nat)) := []
def Γ104 : List (Nat × Con) := []
theorem e104 (p1 : List Int) (p2 : Int) (K : TV → TMem → Prop) : TW PP 12 Γ104 H104 W104 (List.length ([] : TMem)) (bodyOf Try.f104) (endT PP 12 [.tmp 4] [.x] [] (List.length ([] : TMem)) K) (argsF [.pl .int p1, .int .i64 p2]) [] =
    Ml_szIntS p1 p2 (fun r1 => K (.int .i64 r1) []) := by kernel_rfl
theorem s104 : CSound PP 104 G104 := by
  intro args K c h fl A aargs hA hN R hl
  unfold G104 at h
  generalize ht : c.tm = tm at h
  replace h := dCons_ok h; obtain ⟨a1_, r2_, rfl, h⟩ := h
  replace h := dPl_ok h; obtain ⟨p1, rfl, h⟩ := h
  replace h := dCons_ok h; obtain ⟨a3_, r4_, rfl, h⟩ := h
  replace h := dInt_ok h; obtain ⟨p2, rfl, h⟩ := h
  replace h := dNil_ok h; obtain ⟨rfl, h⟩ := h
  replace h := dEnd_ok h; obtain ⟨rfl, h⟩ := h
  refine fun_ok (nt := 12) (x := bodyOf Try.f104) (Γ := Γ104) (H := H104) (WW := W104) (rs := [.tmp 4]) (shs := [.x]) (cons := []) mixed Try.func104 (by decide) (by kernel_rfl) Try.ntmps104 Try.results104 (GSound.nil) ?_ hA hN R hl
  rw [ht, e104 p1 p2 K]
  exact h
/-! laws.szHeap -/
def G46 : Con := fun args tm K => dCons args fun a1_ r2_ => dAgg a1_ fun l3_ => dCons l3_ fun a4_ r5_ => dPl .int a4_ fun p1 => dCons r5_ fun a6_ r7_ => dPl .int a6_ fun p2 => dCons r7_ fun a8_ r9_ => dPl .int a8_ fun p3 => dNil r9_ <| dCons r2_ fun a10_ r11_ => dInt .i64 a10_ fun p4 => dNil r11_ <| dEnd tm <| Ml_szHeap p1 p2 p3 p4 (fun r1 => K (.int .i64 r1) [])
def H46 : List (Nat × LH) := []
def W46 : List (Nat × List (Nat × List Nat)) := []
def Γ46 : List (Nat × Con) := [(104, useC [.pure .int, .x] G104)]
theorem e46 (p1 : List Int) (p2 : List Int) (p3 : List Int) (p4 : Int) (K : TV → TMem → Prop) : TW PP 24 Γ46 H46 W46 (List.length ([] : TMem)) (bodyOf Try.f46) (endT PP 24 [.tmp 4] [.x] [] (List.length ([] : TMem)) K) (argsF [.agg [.pl .int p1, .pl .int p2, .pl .int p3], .int .i64 p4]) [] =
    Ml_szHeap p1 p2 p3 p4 (fun r1 => K (.int .i64 r1) []) := by kernel_rfl
theorem s46 : CSound PP 46 G46 := by
  intro args K c h fl A aargs hA hN R hl
  unfold G46 at h
  generalize ht : c.tm = tm at h
  replace h := dCons_ok h; obtain ⟨a1_, r2_, rfl, h⟩ := h
  replace h := dAgg_ok h; obtain ⟨l3_, rfl, h⟩ := h
  replace h := dCons_ok h; obtain ⟨a4_, r5_, rfl, h⟩ := h
  replace h := dPl_ok h; obtain ⟨p1, rfl, h⟩ := h
  replace h := dCons_ok h; obtain ⟨a6_, r7_, rfl, h⟩ := h
  replace h := dPl_ok h; obtain ⟨p2, rfl, h⟩ := h
  replace h := dCons_ok h; obtain ⟨a8_, r9_, rfl, h⟩ := h
  replace h := dPl_ok h; obtain ⟨p3, rfl, h⟩ := h
  replace h := dNil_ok h; obtain ⟨rfl, h⟩ := h
  replace h := dCons_ok h; obtain ⟨a10_, r11_, rfl, h⟩ := h
  replace h := dInt_ok h; obtain ⟨p4, rfl, h⟩ := h
  replace h := dNil_ok h; obtain ⟨rfl, h⟩ := h
  replace h := dEnd_ok h; obtain ⟨rfl, h⟩ := h
  refine fun_ok (nt := 24) (x := bodyOf Try.f46) (Γ := Γ46) (H := H46) (WW := W46) (rs := [.tmp 4]) (shs := [.x]) (cons := []) mixed Try.func46 (by decide) (by kernel_rfl) Try.ntmps46 Try.results46 (.cons (useC_ok s104) (GSound.nil)) ?_ hA hN R hl
  rw [ht, e46 p1 p2 p3 p4 K]
  exact h
/-! laws.szBoolS -/
def G118 : Con := fun args tm K => dCons args fun a1_ r2_ => dPl .bool a1_ fun p1 => dCons r2_ fun a3_ r4_ => dInt .i64 a3_ fun p2 => dNil r4_ <| dEnd tm <| Ml_szBoolS p1 p2 (fun r1 => K (.int .i64 r1) [])
def H118 : List (Nat × LH) := []
def W118 : List (Nat × List (Nat × List Nat)) := []
def Γ118 : List (Nat × Con) := []
theorem e118 (p1 : List Bool) (p2 : Int) (K : TV → TMem → Prop) : TW PP 12 Γ118 H118 W118 (List.length ([] : TMem)) (bodyOf Try.f118) (endT PP 12 [.tmp 4] [.x] [] (List.length ([] : TMem)) K) (argsF [.pl .bool p1, .int .i64 p2]) [] =
    Ml_szBoolS p1 p2 (fun r1 => K (.int .i64 r1) []) := by kernel_rfl
theorem s118 : CSound PP 118 G118 := by
  intro args K c h fl A aargs hA hN R hl
  unfold G118 at h
  generalize ht : c.tm = tm at h
  replace h := dCons_ok h; obtain ⟨a1_, r2_, rfl, h⟩ := h
  replace h := dPl_ok h; obtain ⟨p1, rfl, h⟩ := h
  replace h := dCons_ok h; obtain ⟨a3_, r4_, rfl, h⟩ := h
  replace h := dInt_ok h; obtain ⟨p2, rfl, h⟩ := h
  replace h := dNil_ok h; obtain ⟨rfl, h⟩ := h
  replace h := dEnd_ok h; obtain ⟨rfl, h⟩ := h
  refine fun_ok (nt := 12) (x := bodyOf Try.f118) (Γ := Γ118) (H := H118) (WW := W118) (rs := [.tmp 4]) (shs := [.x]) (cons := []) mixed Try.func118 (by decide) (by kernel_rfl) Try.ntmps118 Try.results118 (GSound.nil) ?_ hA hN R hl
  rw [ht, e118 p1 p2 K]
  exact h
/-! laws.szGens -/
def G71 : Con := fun args tm K => dCons args fun a1_ r2_ => dAgg a1_ fun l3_ => dCons l3_ fun a4_ r5_ => dPl .int a4_ fun p1 => dCons r5_ fun a6_ r7_ => dPl .int a6_ fun p2 => dCons r7_ fun a8_ r9_ => dPl .int a8_ fun p3 => dCons r9_ fun a10_ r11_ => dPl .bool a10_ fun p4 => dCons r11_ fun a12_ r13_ => dPl .int a12_ fun p5 => dNil r13_ <| dCons r2_ fun a14_ r15_ => dInt .i64 a14_ fun p6 => dNil r15_ <| dEnd tm <| Ml_szGens p1 p2 p3 p4 p5 p6 (fun r1 => K (.int .i64 r1) [])
def H71 : List (Nat × LH) := []
def W71 : List (Nat × List (Nat × List Nat)) := []
def Γ71 : List (Nat × Con) := [(46, useC [.ag [.pure .int, .pure .int, .pure .int], .x] G46), (118, useC [.pure .bool, .x] G118), (104, useC [.pure .int, .x] G104)]
theorem e71 (p1 : List Int) (p2 : List Int) (p3 : List Int) (p4 : List Bool) (p5 : List Int) (p6 : Int) (K : TV → TMem → Prop) : TW PP 24 Γ71 H71 W71 (List.length ([] : TMem)) (bodyOf Try.f71) (endT PP 24 [.tmp 4] [.x] [] (List.length ([] : TMem)) K) (argsF [.agg [.pl .int p1, .pl .int p2, .pl .int p3, .pl .bool p4, .pl .int p5], .int .i64 p6]) [] =
    Ml_szGens p1 p2 p3 p4 p5 p6 (fun r1 => K (.int .i64 r1) []) := by kernel_rfl
theorem s71 : CSound PP 71 G71 := by
  intro args K c h fl A aargs hA hN R hl
  unfold G71 at h
  generalize ht : c.tm = tm at h
  replace h := dCons_ok h; obtain ⟨a1_, r2_, rfl, h⟩ := h
  replace h := dAgg_ok h; obtain ⟨l3_, rfl, h⟩ := h
  replace h := dCons_ok h; obtain ⟨a4_, r5_, rfl, h⟩ := h
  replace h := dPl_ok h; obtain ⟨p1, rfl, h⟩ := h
  replace h := dCons_ok h; obtain ⟨a6_, r7_, rfl, h⟩ := h
  replace h := dPl_ok h; obtain ⟨p2, rfl, h⟩ := h
  replace h := dCons_ok h; obtain ⟨a8_, r9_, rfl, h⟩ := h
  replace h := dPl_ok h; obtain ⟨p3, rfl, h⟩ := h
  replace h := dCons_ok h; obtain ⟨a10_, r11_, rfl, h⟩ := h
  replace h := dPl_ok h; obtain ⟨p4, rfl, h⟩ := h
  replace h := dCons_ok h; obtain ⟨a12_, r13_, rfl, h⟩ := h
  replace h := dPl_ok h; obtain ⟨p5, rfl, h⟩ := h
  replace h := dNil_ok h; obtain ⟨rfl, h⟩ := h
  replace h := dCons_ok h; obtain ⟨a14_, r15_, rfl, h⟩ := h
  replace h := dInt_ok h; obtain ⟨p6, rfl, h⟩ := h
  replace h := dNil_ok h; obtain ⟨rfl, h⟩ := h
  replace h := dEnd_ok h; obtain ⟨rfl, h⟩ := h
  refine fun_ok (nt := 24) (x := bodyOf Try.f71) (Γ := Γ71) (H := H71) (WW := W71) (rs := [.tmp 4]) (shs := [.x]) (cons := []) mixed Try.func71 (by decide) (by kernel_rfl) Try.ntmps71 Try.results71 (.cons (useC_ok s46) (.cons (useC_ok s118) (.cons (useC_ok s104) (GSound.nil)))) ?_ hA hN R hl
  rw [ht, e71 p1 p2 p3 p4 p5 p6 K]
  exact h
/-! laws.toIntS -/
def G49 : Con := fun args tm K => dCons args fun a1_ r2_ => dPl .int a1_ fun p1 => dNil r2_ <| dEnd tm <| Ml_toIntS p1 (fun r1 => K (.sl 0) [⟨true, .list .int r1⟩])
def H49_0 : LH where
  keep := [(0, .pure .int), (3, .own .int), (4, .x)]
  S := List Int × Int × List Int
  enc := fun s => ([.pl .int s.1, .sl 0, .int .i64 s.2.1], [⟨true, .list .int s.2.2⟩])
  dec := fun vs tm K => dCons vs fun a1_ r2_ => dPl .int a1_ fun q0 => dCons r2_ fun a3_ r4_ => dSl 0 a3_ <| dCons r4_ fun a5_ r6_ => dInt .i64 a5_ fun q1 => dNil r6_ <| dBlk true tm fun b7_ m8_ => dList .int b7_ fun q2 => dEnd m8_ <| K (q0, q1, q2)
  law := by
    intro vs tm K h
    replace h := dCons_ok h; obtain ⟨a1_, r2_, rfl, h⟩ := h
    replace h := dPl_ok h; obtain ⟨q0, rfl, h⟩ := h
    replace h := dCons_ok h; obtain ⟨a3_, r4_, rfl, h⟩ := h
    replace h := dSl_ok h; obtain ⟨rfl, h⟩ := h
    replace h := dCons_ok h; obtain ⟨a5_, r6_, rfl, h⟩ := h
    replace h := dInt_ok h; obtain ⟨q1, rfl, h⟩ := h
    replace h := dNil_ok h; obtain ⟨rfl, h⟩ := h
    replace h := dBlk_ok h; obtain ⟨b7_, m8_, rfl, h⟩ := h
    replace h := dList_ok h; obtain ⟨q2, rfl, h⟩ := h
    replace h := dEnd_ok h; obtain ⟨rfl, h⟩ := h
    exact ⟨(q0, q1, q2), rfl, h⟩
def H49 : List (Nat × LH) := [(0, H49_0)]
def W49 : List (Nat × List (Nat × List Nat)) := []
def Γ49 : List (Nat × Con) := []
theorem e49 (p1 : List Int) (K : TV → TMem → Prop) : TW PP 22 Γ49 H49 W49 (List.length ([] : TMem)) (bodyOf Try.f49) (endT PP 22 [.tmp 2] [.own .int] [] (List.length ([] : TMem)) K) (argsF [.pl .int p1]) [] =
    Ml_toIntS p1 (fun r1 => K (.sl 0) [⟨true, .list .int r1⟩]) := by kernel_rfl
theorem s49 : CSound PP 49 G49 := by
  intro args K c h fl A aargs hA hN R hl
  unfold G49 at h
  generalize ht : c.tm = tm at h
  replace h := dCons_ok h; obtain ⟨a1_, r2_, rfl, h⟩ := h
  replace h := dPl_ok h; obtain ⟨p1, rfl, h⟩ := h
  replace h := dNil_ok h; obtain ⟨rfl, h⟩ := h
  replace h := dEnd_ok h; obtain ⟨rfl, h⟩ := h
  refine fun_ok (nt := 22) (x := bodyOf Try.f49) (Γ := Γ49) (H := H49) (WW := W49) (rs := [.tmp 2]) (shs := [.own .int]) (cons := []) mixed Try.func49 (by decide) (by kernel_rfl) Try.ntmps49 Try.results49 (GSound.nil) ?_ hA hN R hl
  rw [ht, e49 p1 K]
  exact h
/-! laws.toHeap -/
def G48 : Con := fun args tm K => dCons args fun a1_ r2_ => dAgg a1_ fun l3_ => dCons l3_ fun a4_ r5_ => dPl .int a4_ fun p1 => dCons r5_ fun a6_ r7_ => dPl .int a6_ fun p2 => dCons r7_ fun a8_ r9_ => dPl .int a8_ fun p3 => dNil r9_ <| dNil r2_ <| dEnd tm <| Ml_toHeap p1 p2 p3 (fun r1 r2 r3 => K (.agg [.sl 0, .sl 1, .sl 2]) [⟨true, .list .int r1⟩, ⟨true, .list .int r2⟩, ⟨true, .list .int r3⟩])
def H48 : List (Nat × LH) := []
def W48 : List (Nat × List (Nat × List Nat)) := []
def Γ48 : List (Nat × Con) := [(49, useC [.pure .int] G49)]
theorem e48 (p1 : List Int) (p2 : List Int) (p3 : List Int) (K : TV → TMem → Prop) : TW PP 17 Γ48 H48 W48 (List.length ([] : TMem)) (bodyOf Try.f48) (endT PP 17 [.cell 2 25] [.ag [.own .int, .own .int, .own .int]] [] (List.length ([] : TMem)) K) (argsF [.agg [.pl .int p1, .pl .int p2, .pl .int p3]]) [] =
    Ml_toHeap p1 p2 p3 (fun r1 r2 r3 => K (.agg [.sl 0, .sl 1, .sl 2]) [⟨true, .list .int r1⟩, ⟨true, .list .int r2⟩, ⟨true, .list .int r3⟩]) := by kernel_rfl
theorem s48 : CSound PP 48 G48 := by
  intro args K c h fl A aargs hA hN R hl
  unfold G48 at h
  generalize ht : c.tm = tm at h
  replace h := dCons_ok h; obtain ⟨a1_, r2_, rfl, h⟩ := h
  replace h := dAgg_ok h; obtain ⟨l3_, rfl, h⟩ := h
  replace h := dCons_ok h; obtain ⟨a4_, r5_, rfl, h⟩ := h
  replace h := dPl_ok h; obtain ⟨p1, rfl, h⟩ := h
  replace h := dCons_ok h; obtain ⟨a6_, r7_, rfl, h⟩ := h
  replace h := dPl_ok h; obtain ⟨p2, rfl, h⟩ := h
  replace h := dCons_ok h; obtain ⟨a8_, r9_, rfl, h⟩ := h
  replace h := dPl_ok h; obtain ⟨p3, rfl, h⟩ := h
  replace h := dNil_ok h; obtain ⟨rfl, h⟩ := h
  replace h := dNil_ok h; obtain ⟨rfl, h⟩ := h
  replace h := dEnd_ok h; obtain ⟨rfl, h⟩ := h
  refine fun_ok (nt := 17) (x := bodyOf Try.f48) (Γ := Γ48) (H := H48) (WW := W48) (rs := [.cell 2 25]) (shs := [.ag [.own .int, .own .int, .own .int]]) (cons := []) mixed Try.func48 (by decide) (by kernel_rfl) Try.ntmps48 Try.results48 (.cons (useC_ok s49) (GSound.nil)) ?_ hA hN R hl
  rw [ht, e48 p1 p2 p3 K]
  exact h
/-! laws.toBoolS -/
def G119 : Con := fun args tm K => dCons args fun a1_ r2_ => dPl .bool a1_ fun p1 => dNil r2_ <| dEnd tm <| Ml_toBoolS p1 (fun r1 => K (.sl 0) [⟨true, .list .bool r1⟩])
def H119_0 : LH where
  keep := [(0, .pure .bool), (3, .own .bool), (4, .x)]
  S := List Bool × Int × List Bool
  enc := fun s => ([.pl .bool s.1, .sl 0, .int .i64 s.2.1], [⟨true, .list .bool s.2.2⟩])
  dec := fun vs tm K => dCons vs fun a1_ r2_ => dPl .bool a1_ fun q0 => dCons r2_ fun a3_ r4_ => dSl 0 a3_ <| dCons r4_ fun a5_ r6_ => dInt .i64 a5_ fun q1 => dNil r6_ <| dBlk true tm fun b7_ m8_ => dList .bool b7_ fun q2 => dEnd m8_ <| K (q0, q1, q2)
  law := by
    intro vs tm K h
    replace h := dCons_ok h; obtain ⟨a1_, r2_, rfl, h⟩ := h
    replace h := dPl_ok h; obtain ⟨q0, rfl, h⟩ := h
    replace h := dCons_ok h; obtain ⟨a3_, r4_, rfl, h⟩ := h
    replace h := dSl_ok h; obtain ⟨rfl, h⟩ := h
    replace h := dCons_ok h; obtain ⟨a5_, r6_, rfl, h⟩ := h
    replace h := dInt_ok h; obtain ⟨q1, rfl, h⟩ := h
    replace h := dNil_ok h; obtain ⟨rfl, h⟩ := h
    replace h := dBlk_ok h; obtain ⟨b7_, m8_, rfl, h⟩ := h
    replace h := dList_ok h; obtain ⟨q2, rfl, h⟩ := h
    replace h := dEnd_ok h; obtain ⟨rfl, h⟩ := h
    exact ⟨(q0, q1, q2), rfl, h⟩
def H119 : List (Nat × LH) := [(0, H119_0)]
def W119 : List (Nat × List (Nat × List Nat)) := []
def Γ119 : List (Nat × Con) := []
theorem e119 (p1 : List Bool) (K : TV → TMem → Prop) : TW PP 22 Γ119 H119 W119 (List.length ([] : TMem)) (bodyOf Try.f119) (endT PP 22 [.tmp 2] [.own .bool] [] (List.length ([] : TMem)) K) (argsF [.pl .bool p1]) [] =
    Ml_toBoolS p1 (fun r1 => K (.sl 0) [⟨true, .list .bool r1⟩]) := by kernel_rfl
theorem s119 : CSound PP 119 G119 := by
  intro args K c h fl A aargs hA hN R hl
  unfold G119 at h
  generalize ht : c.tm = tm at h
  replace h := dCons_ok h; obtain ⟨a1_, r2_, rfl, h⟩ := h
  replace h := dPl_ok h; obtain ⟨p1, rfl, h⟩ := h
  replace h := dNil_ok h; obtain ⟨rfl, h⟩ := h
  replace h := dEnd_ok h; obtain ⟨rfl, h⟩ := h
  refine fun_ok (nt := 22) (x := bodyOf Try.f119) (Γ := Γ119) (H := H119) (WW := W119) (rs := [.tmp 2]) (shs := [.own .bool]) (cons := []) mixed Try.func119 (by decide) (by kernel_rfl) Try.ntmps119 Try.results119 (GSound.nil) ?_ hA hN R hl
  rw [ht, e119 p1 K]
  exact h
/-! laws.toGens -/
def G72 : Con := fun args tm K => dCons args fun a1_ r2_ => dAgg a1_ fun l3_ => dCons l3_ fun a4_ r5_ => dPl .int a4_ fun p1 => dCons r5_ fun a6_ r7_ => dPl .int a6_ fun p2 => dCons r7_ fun a8_ r9_ => dPl .int a8_ fun p3 => dCons r9_ fun a10_ r11_ => dPl .bool a10_ fun p4 => dCons r11_ fun a12_ r13_ => dPl .int a12_ fun p5 => dNil r13_ <| dNil r2_ <| dEnd tm <| Ml_toGens p1 p2 p3 p4 p5 (fun r1 r2 r3 r4 r5 => K (.agg [.sl 0, .sl 1, .sl 2, .sl 3, .sl 4]) [⟨true, .list .int r1⟩, ⟨true, .list .int r2⟩, ⟨true, .list .int r3⟩, ⟨true, .list .bool r4⟩, ⟨true, .list .int r5⟩])
def H72 : List (Nat × LH) := []
def W72 : List (Nat × List (Nat × List Nat)) := []
def Γ72 : List (Nat × Con) := [(48, useC [.ag [.pure .int, .pure .int, .pure .int]] G48), (119, useC [.pure .bool] G119), (49, useC [.pure .int] G49)]
theorem e72 (p1 : List Int) (p2 : List Int) (p3 : List Int) (p4 : List Bool) (p5 : List Int) (K : TV → TMem → Prop) : TW PP 17 Γ72 H72 W72 (List.length ([] : TMem)) (bodyOf Try.f72) (endT PP 17 [.cell 2 37] [.ag [.own .int, .own .int, .own .int, .own .bool, .own .int]] [] (List.length ([] : TMem)) K) (argsF [.agg [.pl .int p1, .pl .int p2, .pl .int p3, .pl .bool p4, .pl .int p5]]) [] =
    Ml_toGens p1 p2 p3 p4 p5 (fun r1 r2 r3 r4 r5 => K (.agg [.sl 0, .sl 1, .sl 2, .sl 3, .sl 4]) [⟨true, .list .int r1⟩, ⟨true, .list .int r2⟩, ⟨true, .list .int r3⟩, ⟨true, .list .bool r4⟩, ⟨true, .list .int r5⟩]) := by kernel_rfl
theorem s72 : CSound PP 72 G72 := by
  intro args K c h fl A aargs hA hN R hl
  unfold G72 at h
  generalize ht : c.tm = tm at h
  replace h := dCons_ok h; obtain ⟨a1_, r2_, rfl, h⟩ := h
  replace h := dAgg_ok h; obtain ⟨l3_, rfl, h⟩ := h
  replace h := dCons_ok h; obtain ⟨a4_, r5_, rfl, h⟩ := h
  replace h := dPl_ok h; obtain ⟨p1, rfl, h⟩ := h
  replace h := dCons_ok h; obtain ⟨a6_, r7_, rfl, h⟩ := h
  replace h := dPl_ok h; obtain ⟨p2, rfl, h⟩ := h
  replace h := dCons_ok h; obtain ⟨a8_, r9_, rfl, h⟩ := h
  replace h := dPl_ok h; obtain ⟨p3, rfl, h⟩ := h
  replace h := dCons_ok h; obtain ⟨a10_, r11_, rfl, h⟩ := h
  replace h := dPl_ok h; obtain ⟨p4, rfl, h⟩ := h
  replace h := dCons_ok h; obtain ⟨a12_, r13_, rfl, h⟩ := h
  replace h := dPl_ok h; obtain ⟨p5, rfl, h⟩ := h
  replace h := dNil_ok h; obtain ⟨rfl, h⟩ := h
  replace h := dNil_ok h; obtain ⟨rfl, h⟩ := h
  replace h := dEnd_ok h; obtain ⟨rfl, h⟩ := h
  refine fun_ok (nt := 17) (x := bodyOf Try.f72) (Γ := Γ72) (H := H72) (WW := W72) (rs := [.cell 2 37]) (shs := [.ag [.own .int, .own .int, .own .int, .own .bool, .own .int]]) (cons := []) mixed Try.func72 (by decide) (by kernel_rfl) Try.ntmps72 Try.results72 (.cons (useC_ok s48) (.cons (useC_ok s119) (.cons (useC_ok s49) (GSound.nil)))) ?_ hA hN R hl
  rw [ht, e72 p1 p2 p3 p4 p5 K]
  exact h
/-! spec.l1Points -/
def G127 : Con := fun args tm K => dCons args fun a1_ r2_ => dInt .i64 a1_ fun p1 => dCons r2_ fun a3_ r4_ => dInt .i64 a3_ fun p2 => dNil r4_ <| dEnd tm <| Ms_l1Points p1 p2 (fun r1 => K (.bool r1) [])
def H127 : List (Nat × LH) := []
def W127 : List (Nat × List (Nat × List Nat)) := []
def Γ127 : List (Nat × Con) := []
theorem e127 (p1 : Int) (p2 : Int) (K : TV → TMem → Prop) : TW PP 12 Γ127 H127 W127 (List.length ([] : TMem)) (bodyOf Try.f127) (endT PP 12 [.tmp 4] [.bl] [] (List.length ([] : TMem)) K) (argsF [.int .i64 p1, .int .i64 p2]) [] =
    Ms_l1Points p1 p2 (fun r1 => K (.bool r1) []) := by kernel_rfl
theorem s127 : CSound PP 127 G127 := by
  intro args K c h fl A aargs hA hN R hl
  unfold G127 at h
  generalize ht : c.tm = tm at h
  replace h := dCons_ok h; obtain ⟨a1_, r2_, rfl, h⟩ := h
  replace h := dInt_ok h; obtain ⟨p1, rfl, h⟩ := h
  replace h := dCons_ok h; obtain ⟨a3_, r4_, rfl, h⟩ := h
  replace h := dInt_ok h; obtain ⟨p2, rfl, h⟩ := h
  replace h := dNil_ok h; obtain ⟨rfl, h⟩ := h
  replace h := dEnd_ok h; obtain ⟨rfl, h⟩ := h
  refine fun_ok (nt := 12) (x := bodyOf Try.f127) (Γ := Γ127) (H := H127) (WW := W127) (rs := [.tmp 4]) (shs := [.bl]) (cons := []) mixed Try.func127 (by decide) (by kernel_rfl) Try.ntmps127 Try.results127 (GSound.nil) ?_ hA hN R hl
  rw [ht, e127 p1 p2 K]
  exact h
/-! spec.HeapValid -/
def G88 : Con := fun args tm K => dCons args fun a1_ r2_ => dAgg a1_ fun l3_ => dCons l3_ fun a4_ r5_ => dPl .int a4_ fun p1 => dCons r5_ fun a6_ r7_ => dPl .int a6_ fun p2 => dCons r7_ fun a8_ r9_ => dPl .int a8_ fun p3 => dNil r9_ <| dNil r2_ <| dEnd tm <| Ms_HeapValid p1 p2 p3 (fun r1 => K (.bool r1) [])
def H88_0 : LH where
  keep := [(1, .pc [.pure .int, .pure .int, .pure .int]), (3, .x), (4, .x)]
  S := Int × Int × List Int × List Int × List Int
  enc := fun s => ([.ptr 0 0, .int .i64 s.1, .int .i64 s.2.1], [⟨true, .cells [.pl .int s.2.2.1, .pl .int s.2.2.2.1, .pl .int s.2.2.2.2]⟩])
  dec := fun vs tm K => dCons vs fun a1_ r2_ => dPtr 0 a1_ <| dCons r2_ fun a3_ r4_ => dInt .i64 a3_ fun q0 => dCons r4_ fun a5_ r6_ => dInt .i64 a5_ fun q1 => dNil r6_ <| dBlk true tm fun b7_ m8_ => dCells b7_ fun c9_ => dCons c9_ fun a10_ r11_ => dPl .int a10_ fun q2 => dCons r11_ fun a12_ r13_ => dPl .int a12_ fun q3 => dCons r13_ fun a14_ r15_ => dPl .int a14_ fun q4 => dNil r15_ <| dEnd m8_ <| K (q0, q1, q2, q3, q4)
  law := by
    intro vs tm K h
    replace h := dCons_ok h; obtain ⟨a1_, r2_, rfl, h⟩ := h
    replace h := dPtr_ok h; obtain ⟨rfl, h⟩ := h
    replace h := dCons_ok h; obtain ⟨a3_, r4_, rfl, h⟩ := h
    replace h := dInt_ok h; obtain ⟨q0, rfl, h⟩ := h
    replace h := dCons_ok h; obtain ⟨a5_, r6_, rfl, h⟩ := h
    replace h := dInt_ok h; obtain ⟨q1, rfl, h⟩ := h
    replace h := dNil_ok h; obtain ⟨rfl, h⟩ := h
    replace h := dBlk_ok h; obtain ⟨b7_, m8_, rfl, h⟩ := h
    replace h := dCells_ok h; obtain ⟨c9_, rfl, h⟩ := h
    replace h := dCons_ok h; obtain ⟨a10_, r11_, rfl, h⟩ := h
    replace h := dPl_ok h; obtain ⟨q2, rfl, h⟩ := h
    replace h := dCons_ok h; obtain ⟨a12_, r13_, rfl, h⟩ := h
    replace h := dPl_ok h; obtain ⟨q3, rfl, h⟩ := h
    replace h := dCons_ok h; obtain ⟨a14_, r15_, rfl, h⟩ := h
    replace h := dPl_ok h; obtain ⟨q4, rfl, h⟩ := h
    replace h := dNil_ok h; obtain ⟨rfl, h⟩ := h
    replace h := dEnd_ok h; obtain ⟨rfl, h⟩ := h
    exact ⟨(q0, q1, q2, q3, q4), rfl, h⟩
def H88_2 : LH where
  keep := [(1, .pc [.pure .int, .pure .int, .pure .int]), (3, .x), (5, .x)]
  S := Int × Int × List Int × List Int × List Int
  enc := fun s => ([.ptr 0 0, .int .i64 s.1, .int .i64 s.2.1], [⟨true, .cells [.pl .int s.2.2.1, .pl .int s.2.2.2.1, .pl .int s.2.2.2.2]⟩])
  dec := fun vs tm K => dCons vs fun a1_ r2_ => dPtr 0 a1_ <| dCons r2_ fun a3_ r4_ => dInt .i64 a3_ fun q0 => dCons r4_ fun a5_ r6_ => dInt .i64 a5_ fun q1 => dNil r6_ <| dBlk true tm fun b7_ m8_ => dCells b7_ fun c9_ => dCons c9_ fun a10_ r11_ => dPl .int a10_ fun q2 => dCons r11_ fun a12_ r13_ => dPl .int a12_ fun q3 => dCons r13_ fun a14_ r15_ => dPl .int a14_ fun q4 => dNil r15_ <| dEnd m8_ <| K (q0, q1, q2, q3, q4)
  law := by
    intro vs tm K h
    replace h := dCons_ok h; obtain ⟨a1_, r2_, rfl, h⟩ := h
    replace h := dPtr_ok h; obtain ⟨rfl, h⟩ := h
    replace h := dCons_ok h; obtain ⟨a3_, r4_, rfl, h⟩ := h
    replace h := dInt_ok h; obtain ⟨q0, rfl, h⟩ := h
    replace h := dCons_ok h; obtain ⟨a5_, r6_, rfl, h⟩ := h
    replace h := dInt_ok h; obtain ⟨q1, rfl, h⟩ := h
    replace h := dNil_ok h; obtain ⟨rfl, h⟩ := h
    replace h := dBlk_ok h; obtain ⟨b7_, m8_, rfl, h⟩ := h
    replace h := dCells_ok h; obtain ⟨c9_, rfl, h⟩ := h
    replace h := dCons_ok h; obtain ⟨a10_, r11_, rfl, h⟩ := h
    replace h := dPl_ok h; obtain ⟨q2, rfl, h⟩ := h
    replace h := dCons_ok h; obtain ⟨a12_, r13_, rfl, h⟩ := h
    replace h := dPl_ok h; obtain ⟨q3, rfl, h⟩ := h
    replace h := dCons_ok h; obtain ⟨a14_, r15_, rfl, h⟩ := h
    replace h := dPl_ok h; obtain ⟨q4, rfl, h⟩ := h
    replace h := dNil_ok h; obtain ⟨rfl, h⟩ := h
    replace h := dEnd_ok h; obtain ⟨rfl, h⟩ := h
    exact ⟨(q0, q1, q2, q3, q4), rfl, h⟩
def H88 : List (Nat × LH) := [(0, H88_0), (2, H88_2)]
def W88 : List (Nat × List (Nat × List Nat)) := []
def Γ88 : List (Nat × Con) := [(127, useC [.x, .x] G127)]
theorem e88 (p1 : List Int) (p2 : List Int) (p3 : List Int) (K : TV → TMem → Prop) : TW PP 72 Γ88 H88 W88 (List.length ([] : TMem)) (bodyOf Try.f88) (endT PP 72 [.tmp 2] [.bl] [] (List.length ([] : TMem)) K) (argsF [.agg [.pl .int p1, .pl .int p2, .pl .int p3]]) [] =
    Ms_HeapValid p1 p2 p3 (fun r1 => K (.bool r1) []) := by kernel_rfl
theorem s88 : CSound PP 88 G88 := by
  intro args K c h fl A aargs hA hN R hl
  unfold G88 at h
  generalize ht : c.tm = tm at h
  replace h := dCons_ok h; obtain ⟨a1_, r2_, rfl, h⟩ := h
  replace h := dAgg_ok h; obtain ⟨l3_, rfl, h⟩ := h
  replace h := dCons_ok h; obtain ⟨a4_, r5_, rfl, h⟩ := h
  replace h := dPl_ok h; obtain ⟨p1, rfl, h⟩ := h
  replace h := dCons_ok h; obtain ⟨a6_, r7_, rfl, h⟩ := h
  replace h := dPl_ok h; obtain ⟨p2, rfl, h⟩ := h
  replace h := dCons_ok h; obtain ⟨a8_, r9_, rfl, h⟩ := h
  replace h := dPl_ok h; obtain ⟨p3, rfl, h⟩ := h
  replace h := dNil_ok h; obtain ⟨rfl, h⟩ := h
  replace h := dNil_ok h; obtain ⟨rfl, h⟩ := h
  replace h := dEnd_ok h; obtain ⟨rfl, h⟩ := h
  refine fun_ok (nt := 72) (x := bodyOf Try.f88) (Γ := Γ88) (H := H88) (WW := W88) (rs := [.tmp 2]) (shs := [.bl]) (cons := []) mixed Try.func88 (by decide) (by kernel_rfl) Try.ntmps88 Try.results88 (.cons (useC_ok s127) (GSound.nil)) ?_ hA hN R hl
  rw [ht, e88 p1 p2 p3 K]
  exact h
/-! spec.l11Young -/
def G135 : Con := fun args tm K => dCons args fun a1_ r2_ => dPl .bool a1_ fun p1 => dCons r2_ fun a3_ r4_ => dInt .i64 a3_ fun p2 => dNil r4_ <| dEnd tm <| Ms_l11Young p1 p2 (fun r1 => K (.bool r1) [])
def H135 : List (Nat × LH) := []
def W135 : List (Nat × List (Nat × List Nat)) := []
def Γ135 : List (Nat × Con) := []
theorem e135 (p1 : List Bool) (p2 : Int) (K : TV → TMem → Prop) : TW PP 14 Γ135 H135 W135 (List.length ([] : TMem)) (bodyOf Try.f135) (endT PP 14 [.tmp 4] [.bl] [] (List.length ([] : TMem)) K) (argsF [.pl .bool p1, .int .i64 p2]) [] =
    Ms_l11Young p1 p2 (fun r1 => K (.bool r1) []) := by kernel_rfl
theorem s135 : CSound PP 135 G135 := by
  intro args K c h fl A aargs hA hN R hl
  unfold G135 at h
  generalize ht : c.tm = tm at h
  replace h := dCons_ok h; obtain ⟨a1_, r2_, rfl, h⟩ := h
  replace h := dPl_ok h; obtain ⟨p1, rfl, h⟩ := h
  replace h := dCons_ok h; obtain ⟨a3_, r4_, rfl, h⟩ := h
  replace h := dInt_ok h; obtain ⟨p2, rfl, h⟩ := h
  replace h := dNil_ok h; obtain ⟨rfl, h⟩ := h
  replace h := dEnd_ok h; obtain ⟨rfl, h⟩ := h
  refine fun_ok (nt := 14) (x := bodyOf Try.f135) (Γ := Γ135) (H := H135) (WW := W135) (rs := [.tmp 4]) (shs := [.bl]) (cons := []) mixed Try.func135 (by decide) (by kernel_rfl) Try.ntmps135 Try.results135 (GSound.nil) ?_ hA hN R hl
  rw [ht, e135 p1 p2 K]
  exact h
/-! spec.l11Remember -/
def G99 : Con := fun args tm K => dCons args fun a1_ r2_ => dAgg a1_ fun l3_ => dCons l3_ fun a4_ r5_ => dPl .int a4_ fun p1 => dCons r5_ fun a6_ r7_ => dPl .int a6_ fun p2 => dCons r7_ fun a8_ r9_ => dPl .int a8_ fun p3 => dNil r9_ <| dCons r2_ fun a10_ r11_ => dPl .bool a10_ fun p4 => dNil r11_ <| dEnd tm <| Ms_l11Remember p1 p2 p3 p4 (fun r1 => K (.sl 0) [⟨true, .list .int r1⟩])
def H99_0 : LH where
  keep := [(1, .pure .bool), (2, .pc [.pure .int, .pure .int, .pure .int]), (5, .own .int), (6, .x)]
  S := List Bool × Int × List Int × List Int × List Int × List Int
  enc := fun s => ([.pl .bool s.1, .ptr 0 0, .sl 1, .int .i64 s.2.1], [⟨true, .cells [.pl .int s.2.2.1, .pl .int s.2.2.2.1, .pl .int s.2.2.2.2.1]⟩, ⟨true, .list .int s.2.2.2.2.2⟩])
  dec := fun vs tm K => dCons vs fun a1_ r2_ => dPl .bool a1_ fun q0 => dCons r2_ fun a3_ r4_ => dPtr 0 a3_ <| dCons r4_ fun a5_ r6_ => dSl 1 a5_ <| dCons r6_ fun a7_ r8_ => dInt .i64 a7_ fun q1 => dNil r8_ <| dBlk true tm fun b9_ m10_ => dCells b9_ fun c11_ => dCons c11_ fun a12_ r13_ => dPl .int a12_ fun q2 => dCons r13_ fun a14_ r15_ => dPl .int a14_ fun q3 => dCons r15_ fun a16_ r17_ => dPl .int a16_ fun q4 => dNil r17_ <| dBlk true m10_ fun b18_ m19_ => dList .int b18_ fun q5 => dEnd m19_ <| K (q0, q1, q2, q3, q4, q5)
  law := by
    intro vs tm K h
    replace h := dCons_ok h; obtain ⟨a1_, r2_, rfl, h⟩ := h
    replace h := dPl_ok h; obtain ⟨q0, rfl, h⟩ := h
    replace h := dCons_ok h; obtain ⟨a3_, r4_, rfl, h⟩ := h
    replace h := dPtr_ok h; obtain ⟨rfl, h⟩ := h
    replace h := dCons_ok h; obtain ⟨a5_, r6_, rfl, h⟩ := h
    replace h := dSl_ok h; obtain ⟨rfl, h⟩ := h
    replace h := dCons_ok h; obtain ⟨a7_, r8_, rfl, h⟩ := h
    replace h := dInt_ok h; obtain ⟨q1, rfl, h⟩ := h
    replace h := dNil_ok h; obtain ⟨rfl, h⟩ := h
    replace h := dBlk_ok h; obtain ⟨b9_, m10_, rfl, h⟩ := h
    replace h := dCells_ok h; obtain ⟨c11_, rfl, h⟩ := h
    replace h := dCons_ok h; obtain ⟨a12_, r13_, rfl, h⟩ := h
    replace h := dPl_ok h; obtain ⟨q2, rfl, h⟩ := h
    replace h := dCons_ok h; obtain ⟨a14_, r15_, rfl, h⟩ := h
    replace h := dPl_ok h; obtain ⟨q3, rfl, h⟩ := h
    replace h := dCons_ok h; obtain ⟨a16_, r17_, rfl, h⟩ := h
    replace h := dPl_ok h; obtain ⟨q4, rfl, h⟩ := h
    replace h := dNil_ok h; obtain ⟨rfl, h⟩ := h
    replace h := dBlk_ok h; obtain ⟨b18_, m19_, rfl, h⟩ := h
    replace h := dList_ok h; obtain ⟨q5, rfl, h⟩ := h
    replace h := dEnd_ok h; obtain ⟨rfl, h⟩ := h
    exact ⟨(q0, q1, q2, q3, q4, q5), rfl, h⟩
def H99 : List (Nat × LH) := [(0, H99_0)]
def W99 : List (Nat × List (Nat × List Nat)) := []
def Γ99 : List (Nat × Con) := [(135, useC [.pure .bool, .x] G135)]
theorem e99 (p1 : List Int) (p2 : List Int) (p3 : List Int) (p4 : List Bool) (K : TV → TMem → Prop) : TW PP 41 Γ99 H99 W99 (List.length ([] : TMem)) (bodyOf Try.f99) (endT PP 41 [.tmp 4] [.own .int] [] (List.length ([] : TMem)) K) (argsF [.agg [.pl .int p1, .pl .int p2, .pl .int p3], .pl .bool p4]) [] =
    Ms_l11Remember p1 p2 p3 p4 (fun r1 => K (.sl 0) [⟨true, .list .int r1⟩]) := by kernel_rfl
theorem s99 : CSound PP 99 G99 := by
  intro args K c h fl A aargs hA hN R hl
  unfold G99 at h
  generalize ht : c.tm = tm at h
  replace h := dCons_ok h; obtain ⟨a1_, r2_, rfl, h⟩ := h
  replace h := dAgg_ok h; obtain ⟨l3_, rfl, h⟩ := h
  replace h := dCons_ok h; obtain ⟨a4_, r5_, rfl, h⟩ := h
  replace h := dPl_ok h; obtain ⟨p1, rfl, h⟩ := h
  replace h := dCons_ok h; obtain ⟨a6_, r7_, rfl, h⟩ := h
  replace h := dPl_ok h; obtain ⟨p2, rfl, h⟩ := h
  replace h := dCons_ok h; obtain ⟨a8_, r9_, rfl, h⟩ := h
  replace h := dPl_ok h; obtain ⟨p3, rfl, h⟩ := h
  replace h := dNil_ok h; obtain ⟨rfl, h⟩ := h
  replace h := dCons_ok h; obtain ⟨a10_, r11_, rfl, h⟩ := h
  replace h := dPl_ok h; obtain ⟨p4, rfl, h⟩ := h
  replace h := dNil_ok h; obtain ⟨rfl, h⟩ := h
  replace h := dEnd_ok h; obtain ⟨rfl, h⟩ := h
  refine fun_ok (nt := 41) (x := bodyOf Try.f99) (Γ := Γ99) (H := H99) (WW := W99) (rs := [.tmp 4]) (shs := [.own .int]) (cons := []) mixed Try.func99 (by decide) (by kernel_rfl) Try.ntmps99 Try.results99 (.cons (useC_ok s135) (GSound.nil)) ?_ hA hN R hl
  rw [ht, e99 p1 p2 p3 p4 K]
  exact h
/-! spec.l1Ints -/
def G134 : Con := fun args tm K => dCons args fun a1_ r2_ => dPl .int a1_ fun p1 => dCons r2_ fun a3_ r4_ => dPl .int a3_ fun p2 => dNil r4_ <| dEnd tm <| Ms_l1Ints p1 p2 (fun r1 => K (.bool r1) [])
def H134_0 : LH where
  keep := [(0, .pure .int), (1, .pure .int), (5, .x)]
  S := List Int × List Int × Int
  enc := fun s => ([.pl .int s.1, .pl .int s.2.1, .int .i64 s.2.2], [])
  dec := fun vs tm K => dCons vs fun a1_ r2_ => dPl .int a1_ fun q0 => dCons r2_ fun a3_ r4_ => dPl .int a3_ fun q1 => dCons r4_ fun a5_ r6_ => dInt .i64 a5_ fun q2 => dNil r6_ <| dEnd tm <| K (q0, q1, q2)
  law := by
    intro vs tm K h
    replace h := dCons_ok h; obtain ⟨a1_, r2_, rfl, h⟩ := h
    replace h := dPl_ok h; obtain ⟨q0, rfl, h⟩ := h
    replace h := dCons_ok h; obtain ⟨a3_, r4_, rfl, h⟩ := h
    replace h := dPl_ok h; obtain ⟨q1, rfl, h⟩ := h
    replace h := dCons_ok h; obtain ⟨a5_, r6_, rfl, h⟩ := h
    replace h := dInt_ok h; obtain ⟨q2, rfl, h⟩ := h
    replace h := dNil_ok h; obtain ⟨rfl, h⟩ := h
    replace h := dEnd_ok h; obtain ⟨rfl, h⟩ := h
    exact ⟨(q0, q1, q2), rfl, h⟩
def H134 : List (Nat × LH) := [(0, H134_0)]
def W134 : List (Nat × List (Nat × List Nat)) := []
def Γ134 : List (Nat × Con) := []
theorem e134 (p1 : List Int) (p2 : List Int) (K : TV → TMem → Prop) : TW PP 26 Γ134 H134 W134 (List.length ([] : TMem)) (bodyOf Try.f134) (endT PP 26 [.tmp 4] [.bl] [] (List.length ([] : TMem)) K) (argsF [.pl .int p1, .pl .int p2]) [] =
    Ms_l1Ints p1 p2 (fun r1 => K (.bool r1) []) := by kernel_rfl
theorem s134 : CSound PP 134 G134 := by
  intro args K c h fl A aargs hA hN R hl
  unfold G134 at h
  generalize ht : c.tm = tm at h
  replace h := dCons_ok h; obtain ⟨a1_, r2_, rfl, h⟩ := h
  replace h := dPl_ok h; obtain ⟨p1, rfl, h⟩ := h
  replace h := dCons_ok h; obtain ⟨a3_, r4_, rfl, h⟩ := h
  replace h := dPl_ok h; obtain ⟨p2, rfl, h⟩ := h
  replace h := dNil_ok h; obtain ⟨rfl, h⟩ := h
  replace h := dEnd_ok h; obtain ⟨rfl, h⟩ := h
  refine fun_ok (nt := 26) (x := bodyOf Try.f134) (Γ := Γ134) (H := H134) (WW := W134) (rs := [.tmp 4]) (shs := [.bl]) (cons := []) mixed Try.func134 (by decide) (by kernel_rfl) Try.ntmps134 Try.results134 (GSound.nil) ?_ hA hN R hl
  rw [ht, e134 p1 p2 K]
  exact h
/-! spec.GensValid -/
def G98 : Con := fun args tm K => dCons args fun a1_ r2_ => dAgg a1_ fun l3_ => dCons l3_ fun a4_ r5_ => dPl .int a4_ fun p1 => dCons r5_ fun a6_ r7_ => dPl .int a6_ fun p2 => dCons r7_ fun a8_ r9_ => dPl .int a8_ fun p3 => dCons r9_ fun a10_ r11_ => dPl .bool a10_ fun p4 => dCons r11_ fun a12_ r13_ => dPl .int a12_ fun p5 => dNil r13_ <| dNil r2_ <| dEnd tm <| Ms_GensValid p1 p2 p3 p4 p5 (fun r1 => K (.bool r1) [])
def H98 : List (Nat × LH) := []
def W98 : List (Nat × List (Nat × List Nat)) := []
def Γ98 : List (Nat × Con) := [(88, useC [.ag [.pure .int, .pure .int, .pure .int]] G88), (99, useC [.ag [.pure .int, .pure .int, .pure .int], .pure .bool] G99), (134, useC [.pure .int, .pure .int] G134)]
theorem e98 (p1 : List Int) (p2 : List Int) (p3 : List Int) (p4 : List Bool) (p5 : List Int) (K : TV → TMem → Prop) : TW PP 26 Γ98 H98 W98 (List.length ([] : TMem)) (bodyOf Try.f98) (endT PP 26 [.tmp 2] [.bl] [] (List.length ([] : TMem)) K) (argsF [.agg [.pl .int p1, .pl .int p2, .pl .int p3, .pl .bool p4, .pl .int p5]]) [] =
    Ms_GensValid p1 p2 p3 p4 p5 (fun r1 => K (.bool r1) []) := by kernel_rfl
theorem s98 : CSound PP 98 G98 := by
  intro args K c h fl A aargs hA hN R hl
  unfold G98 at h
  generalize ht : c.tm = tm at h
  replace h := dCons_ok h; obtain ⟨a1_, r2_, rfl, h⟩ := h
  replace h := dAgg_ok h; obtain ⟨l3_, rfl, h⟩ := h
  replace h := dCons_ok h; obtain ⟨a4_, r5_, rfl, h⟩ := h
  replace h := dPl_ok h; obtain ⟨p1, rfl, h⟩ := h
  replace h := dCons_ok h; obtain ⟨a6_, r7_, rfl, h⟩ := h
  replace h := dPl_ok h; obtain ⟨p2, rfl, h⟩ := h
  replace h := dCons_ok h; obtain ⟨a8_, r9_, rfl, h⟩ := h
  replace h := dPl_ok h; obtain ⟨p3, rfl, h⟩ := h
  replace h := dCons_ok h; obtain ⟨a10_, r11_, rfl, h⟩ := h
  replace h := dPl_ok h; obtain ⟨p4, rfl, h⟩ := h
  replace h := dCons_ok h; obtain ⟨a12_, r13_, rfl, h⟩ := h
  replace h := dPl_ok h; obtain ⟨p5, rfl, h⟩ := h
  replace h := dNil_ok h; obtain ⟨rfl, h⟩ := h
  replace h := dNil_ok h; obtain ⟨rfl, h⟩ := h
  replace h := dEnd_ok h; obtain ⟨rfl, h⟩ := h
  refine fun_ok (nt := 26) (x := bodyOf Try.f98) (Γ := Γ98) (H := H98) (WW := W98) (rs := [.tmp 2]) (shs := [.bl]) (cons := []) mixed Try.func98 (by decide) (by kernel_rfl) Try.ntmps98 Try.results98 (.cons (useC_ok s88) (.cons (useC_ok s99) (.cons (useC_ok s134) (GSound.nil)))) ?_ hA hN R hl
  rw [ht, e98 p1 p2 p3 p4 p5 K]
  exact h
/-! spec.l11Kept -/
def G103 : Con := fun args tm K => dCons args fun a1_ r2_ => dAgg a1_ fun l3_ => dCons l3_ fun a4_ r5_ => dPl .int a4_ fun p1 => dCons r5_ fun a6_ r7_ => dPl .int a6_ fun p2 => dCons r7_ fun a8_ r9_ => dPl .int a8_ fun p3 => dCons r9_ fun a10_ r11_ => dPl .bool a10_ fun p4 => dCons r11_ fun a12_ r13_ => dPl .int a12_ fun p5 => dNil r13_ <| dNil r2_ <| dEnd tm <| Ms_l11Kept p1 p2 p3 p4 p5 (fun r1 => K (.sl 0) [⟨true, .list .bool r1⟩])
def H103_0 : LH where
  keep := [(1, .pc [.pure .int, .pure .int, .pure .int, .pure .bool, .pure .int]), (3, .own .int), (4, .x)]
  S := Int × List Int × List Int × List Int × List Bool × List Int × List Int
  enc := fun s => ([.ptr 0 0, .sl 1, .int .i64 s.1], [⟨true, .cells [.pl .int s.2.1, .pl .int s.2.2.1, .pl .int s.2.2.2.1, .pl .bool s.2.2.2.2.1, .pl .int s.2.2.2.2.2.1]⟩, ⟨true, .list .int s.2.2.2.2.2.2⟩])
  dec := fun vs tm K => dCons vs fun a1_ r2_ => dPtr 0 a1_ <| dCons r2_ fun a3_ r4_ => dSl 1 a3_ <| dCons r4_ fun a5_ r6_ => dInt .i64 a5_ fun q0 => dNil r6_ <| dBlk true tm fun b7_ m8_ => dCells b7_ fun c9_ => dCons c9_ fun a10_ r11_ => dPl .int a10_ fun q1 => dCons r11_ fun a12_ r13_ => dPl .int a12_ fun q2 => dCons r13_ fun a14_ r15_ => dPl .int a14_ fun q3 => dCons r15_ fun a16_ r17_ => dPl .bool a16_ fun q4 => dCons r17_ fun a18_ r19_ => dPl .int a18_ fun q5 => dNil r19_ <| dBlk true m8_ fun b20_ m21_ => dList .int b20_ fun q6 => dEnd m21_ <| K (q0, q1, q2, q3, q4, q5, q6)
  law := by
    intro vs tm K h
    replace h := dCons_ok h; obtain ⟨a1_, r2_, rfl, h⟩ := h
    replace h := dPtr_ok h; obtain ⟨rfl, h⟩ := h
    replace h := dCons_ok h; obtain ⟨a3_, r4_, rfl, h⟩ := h
    replace h := dSl_ok h; obtain ⟨rfl, h⟩ := h
    replace h := dCons_ok h; obtain ⟨a5_, r6_, rfl, h⟩ := h
    replace h := dInt_ok h; obtain ⟨q0, rfl, h⟩ := h
    replace h := dNil_ok h; obtain ⟨rfl, h⟩ := h
    replace h := dBlk_ok h; obtain ⟨b7_, m8_, rfl, h⟩ := h
    replace h := dCells_ok h; obtain ⟨c9_, rfl, h⟩ := h
    replace h := dCons_ok h; obtain ⟨a10_, r11_, rfl, h⟩ := h
    replace h := dPl_ok h; obtain ⟨q1, rfl, h⟩ := h
    replace h := dCons_ok h; obtain ⟨a12_, r13_, rfl, h⟩ := h
    replace h := dPl_ok h; obtain ⟨q2, rfl, h⟩ := h
    replace h := dCons_ok h; obtain ⟨a14_, r15_, rfl, h⟩ := h
    replace h := dPl_ok h; obtain ⟨q3, rfl, h⟩ := h
    replace h := dCons_ok h; obtain ⟨a16_, r17_, rfl, h⟩ := h
    replace h := dPl_ok h; obtain ⟨q4, rfl, h⟩ := h
    replace h := dCons_ok h; obtain ⟨a18_, r19_, rfl, h⟩ := h
    replace h := dPl_ok h; obtain ⟨q5, rfl, h⟩ := h
    replace h := dNil_ok h; obtain ⟨rfl, h⟩ := h
    replace h := dBlk_ok h; obtain ⟨b20_, m21_, rfl, h⟩ := h
    replace h := dList_ok h; obtain ⟨q6, rfl, h⟩ := h
    replace h := dEnd_ok h; obtain ⟨rfl, h⟩ := h
    exact ⟨(q0, q1, q2, q3, q4, q5, q6), rfl, h⟩
def H103_2 : LH where
  keep := [(1, .pc [.pure .int, .pure .int, .pure .int, .pure .bool, .pure .int]), (3, .own .int), (5, .own .bool), (6, .x)]
  S := Int × List Int × List Int × List Int × List Bool × List Int × List Int × List Bool
  enc := fun s => ([.ptr 0 0, .sl 1, .sl 2, .int .i64 s.1], [⟨true, .cells [.pl .int s.2.1, .pl .int s.2.2.1, .pl .int s.2.2.2.1, .pl .bool s.2.2.2.2.1, .pl .int s.2.2.2.2.2.1]⟩, ⟨true, .list .int s.2.2.2.2.2.2.1⟩, ⟨true, .list .bool s.2.2.2.2.2.2.2⟩])
  dec := fun vs tm K => dCons vs fun a1_ r2_ => dPtr 0 a1_ <| dCons r2_ fun a3_ r4_ => dSl 1 a3_ <| dCons r4_ fun a5_ r6_ => dSl 2 a5_ <| dCons r6_ fun a7_ r8_ => dInt .i64 a7_ fun q0 => dNil r8_ <| dBlk true tm fun b9_ m10_ => dCells b9_ fun c11_ => dCons c11_ fun a12_ r13_ => dPl .int a12_ fun q1 => dCons r13_ fun a14_ r15_ => dPl .int a14_ fun q2 => dCons r15_ fun a16_ r17_ => dPl .int a16_ fun q3 => dCons r17_ fun a18_ r19_ => dPl .bool a18_ fun q4 => dCons r19_ fun a20_ r21_ => dPl .int a20_ fun q5 => dNil r21_ <| dBlk true m10_ fun b22_ m23_ => dList .int b22_ fun q6 => dBlk true m23_ fun b24_ m25_ => dList .bool b24_ fun q7 => dEnd m25_ <| K (q0, q1, q2, q3, q4, q5, q6, q7)
  law := by
    intro vs tm K h
    replace h := dCons_ok h; obtain ⟨a1_, r2_, rfl, h⟩ := h
    replace h := dPtr_ok h; obtain ⟨rfl, h⟩ := h
    replace h := dCons_ok h; obtain ⟨a3_, r4_, rfl, h⟩ := h
    replace h := dSl_ok h; obtain ⟨rfl, h⟩ := h
    replace h := dCons_ok h; obtain ⟨a5_, r6_, rfl, h⟩ := h
    replace h := dSl_ok h; obtain ⟨rfl, h⟩ := h
    replace h := dCons_ok h; obtain ⟨a7_, r8_, rfl, h⟩ := h
    replace h := dInt_ok h; obtain ⟨q0, rfl, h⟩ := h
    replace h := dNil_ok h; obtain ⟨rfl, h⟩ := h
    replace h := dBlk_ok h; obtain ⟨b9_, m10_, rfl, h⟩ := h
    replace h := dCells_ok h; obtain ⟨c11_, rfl, h⟩ := h
    replace h := dCons_ok h; obtain ⟨a12_, r13_, rfl, h⟩ := h
    replace h := dPl_ok h; obtain ⟨q1, rfl, h⟩ := h
    replace h := dCons_ok h; obtain ⟨a14_, r15_, rfl, h⟩ := h
    replace h := dPl_ok h; obtain ⟨q2, rfl, h⟩ := h
    replace h := dCons_ok h; obtain ⟨a16_, r17_, rfl, h⟩ := h
    replace h := dPl_ok h; obtain ⟨q3, rfl, h⟩ := h
    replace h := dCons_ok h; obtain ⟨a18_, r19_, rfl, h⟩ := h
    replace h := dPl_ok h; obtain ⟨q4, rfl, h⟩ := h
    replace h := dCons_ok h; obtain ⟨a20_, r21_, rfl, h⟩ := h
    replace h := dPl_ok h; obtain ⟨q5, rfl, h⟩ := h
    replace h := dNil_ok h; obtain ⟨rfl, h⟩ := h
    replace h := dBlk_ok h; obtain ⟨b22_, m23_, rfl, h⟩ := h
    replace h := dList_ok h; obtain ⟨q6, rfl, h⟩ := h
    replace h := dBlk_ok h; obtain ⟨b24_, m25_, rfl, h⟩ := h
    replace h := dList_ok h; obtain ⟨q7, rfl, h⟩ := h
    replace h := dEnd_ok h; obtain ⟨rfl, h⟩ := h
    exact ⟨(q0, q1, q2, q3, q4, q5, q6, q7), rfl, h⟩
def H103_1000014 : LH where
  keep := [(5, .own .bool)]
  S := List Bool
  enc := fun s => ([.sl 0], [⟨true, .list .bool s⟩])
  dec := fun vs tm K => dCons vs fun a1_ r2_ => dSl 0 a1_ <| dNil r2_ <| dBlk true tm fun b3_ m4_ => dList .bool b3_ fun q0 => dEnd m4_ <| K q0
  law := by
    intro vs tm K h
    replace h := dCons_ok h; obtain ⟨a1_, r2_, rfl, h⟩ := h
    replace h := dSl_ok h; obtain ⟨rfl, h⟩ := h
    replace h := dNil_ok h; obtain ⟨rfl, h⟩ := h
    replace h := dBlk_ok h; obtain ⟨b3_, m4_, rfl, h⟩ := h
    replace h := dList_ok h; obtain ⟨q0, rfl, h⟩ := h
    replace h := dEnd_ok h; obtain ⟨rfl, h⟩ := h
    exact ⟨q0, rfl, h⟩
def H103 : List (Nat × LH) := [(0, H103_0), (2, H103_2), (1000014, H103_1000014)]
def W103 : List (Nat × List (Nat × List Nat)) := []
def Γ103 : List (Nat × Con) := [(135, useC [.pure .bool, .x] G135)]
theorem e103 (p1 : List Int) (p2 : List Int) (p3 : List Int) (p4 : List Bool) (p5 : List Int) (K : TV → TMem → Prop) : TW PP 87 Γ103 H103 W103 (List.length ([] : TMem)) (bodyOf Try.f103) (endT PP 87 [.tmp 2] [.own .bool] [] (List.length ([] : TMem)) K) (argsF [.agg [.pl .int p1, .pl .int p2, .pl .int p3, .pl .bool p4, .pl .int p5]]) [] =
    Ms_l11Kept p1 p2 p3 p4 p5 (fun r1 => K (.sl 0) [⟨true, .list .bool r1⟩]) := by kernel_rfl
theorem s103 : CSound PP 103 G103 := by
  intro args K c h fl A aargs hA hN R hl
  unfold G103 at h
  generalize ht : c.tm = tm at h
  replace h := dCons_ok h; obtain ⟨a1_, r2_, rfl, h⟩ := h
  replace h := dAgg_ok h; obtain ⟨l3_, rfl, h⟩ := h
  replace h := dCons_ok h; obtain ⟨a4_, r5_, rfl, h⟩ := h
  replace h := dPl_ok h; obtain ⟨p1, rfl, h⟩ := h
  replace h := dCons_ok h; obtain ⟨a6_, r7_, rfl, h⟩ := h
  replace h := dPl_ok h; obtain ⟨p2, rfl, h⟩ := h
  replace h := dCons_ok h; obtain ⟨a8_, r9_, rfl, h⟩ := h
  replace h := dPl_ok h; obtain ⟨p3, rfl, h⟩ := h
  replace h := dCons_ok h; obtain ⟨a10_, r11_, rfl, h⟩ := h
  replace h := dPl_ok h; obtain ⟨p4, rfl, h⟩ := h
  replace h := dCons_ok h; obtain ⟨a12_, r13_, rfl, h⟩ := h
  replace h := dPl_ok h; obtain ⟨p5, rfl, h⟩ := h
  replace h := dNil_ok h; obtain ⟨rfl, h⟩ := h
  replace h := dNil_ok h; obtain ⟨rfl, h⟩ := h
  replace h := dEnd_ok h; obtain ⟨rfl, h⟩ := h
  refine fun_ok (nt := 87) (x := bodyOf Try.f103) (Γ := Γ103) (H := H103) (WW := W103) (rs := [.tmp 2]) (shs := [.own .bool]) (cons := []) mixed Try.func103 (by decide) (by kernel_rfl) Try.ntmps103 Try.results103 (.cons (useC_ok s135) (GSound.nil)) ?_ hA hN R hl
  rw [ht, e103 p1 p2 p3 p4 p5 K]
  exact h
/-! spec.l1Copy -/
def G106 : Con := fun args tm K => dCons args fun a1_ r2_ => dAgg a1_ fun l3_ => dCons l3_ fun a4_ r5_ => dPl .int a4_ fun p1 => dCons r5_ fun a6_ r7_ => dPl .int a6_ fun p2 => dCons r7_ fun a8_ r9_ => dPl .int a8_ fun p3 => dNil r9_ <| dNil r2_ <| dEnd tm <| Ms_l1Copy p1 p2 p3 (K (.agg [.sl 0, .sl 1, .sl 2]) [⟨true, .list .int p1⟩, ⟨true, .list .int p2⟩, ⟨true, .list .int p3⟩])
def H106 : List (Nat × LH) := []
def W106 : List (Nat × List (Nat × List Nat)) := []
def Γ106 : List (Nat × Con) := []
theorem e106 (p1 : List Int) (p2 : List Int) (p3 : List Int) (K : TV → TMem → Prop) : TW PP 16 Γ106 H106 W106 (List.length ([] : TMem)) (bodyOf Try.f106) (endT PP 16 [.cell 2 25] [.ag [.own .int, .own .int, .own .int]] [] (List.length ([] : TMem)) K) (argsF [.agg [.pl .int p1, .pl .int p2, .pl .int p3]]) [] =
    Ms_l1Copy p1 p2 p3 (K (.agg [.sl 0, .sl 1, .sl 2]) [⟨true, .list .int p1⟩, ⟨true, .list .int p2⟩, ⟨true, .list .int p3⟩]) := by kernel_rfl
theorem s106 : CSound PP 106 G106 := by
  intro args K c h fl A aargs hA hN R hl
  unfold G106 at h
  generalize ht : c.tm = tm at h
  replace h := dCons_ok h; obtain ⟨a1_, r2_, rfl, h⟩ := h
  replace h := dAgg_ok h; obtain ⟨l3_, rfl, h⟩ := h
  replace h := dCons_ok h; obtain ⟨a4_, r5_, rfl, h⟩ := h
  replace h := dPl_ok h; obtain ⟨p1, rfl, h⟩ := h
  replace h := dCons_ok h; obtain ⟨a6_, r7_, rfl, h⟩ := h
  replace h := dPl_ok h; obtain ⟨p2, rfl, h⟩ := h
  replace h := dCons_ok h; obtain ⟨a8_, r9_, rfl, h⟩ := h
  replace h := dPl_ok h; obtain ⟨p3, rfl, h⟩ := h
  replace h := dNil_ok h; obtain ⟨rfl, h⟩ := h
  replace h := dNil_ok h; obtain ⟨rfl, h⟩ := h
  replace h := dEnd_ok h; obtain ⟨rfl, h⟩ := h
  refine fun_ok (nt := 16) (x := bodyOf Try.f106) (Γ := Γ106) (H := H106) (WW := W106) (rs := [.cell 2 25]) (shs := [.ag [.own .int, .own .int, .own .int]]) (cons := []) mixed Try.func106 (by decide) (by kernel_rfl) Try.ntmps106 Try.results106 (GSound.nil) ?_ hA hN R hl
  rw [ht, e106 p1 p2 p3 K]
  exact h
/-! spec.SmallCollect -/
def G70 : Con := fun args tm K => dCons args fun a1_ r2_ => dAgg a1_ fun l3_ => dCons l3_ fun a4_ r5_ => dPl .int a4_ fun p1 => dCons r5_ fun a6_ r7_ => dPl .int a6_ fun p2 => dCons r7_ fun a8_ r9_ => dPl .int a8_ fun p3 => dCons r9_ fun a10_ r11_ => dPl .bool a10_ fun p4 => dCons r11_ fun a12_ r13_ => dPl .int a12_ fun p5 => dNil r13_ <| dNil r2_ <| dEnd tm <| Ms_SmallCollect p1 p2 p3 p4 p5 (fun r1 r2 r3 r4 r5 r6 r7 => K (.tup [.agg [.sl 0, .sl 1, .sl 2, .sl 3, .sl 4], .sl 5, .bool r1]) [⟨true, .list .int r2⟩, ⟨true, .list .int r3⟩, ⟨true, .list .int r4⟩, ⟨true, .list .bool r5⟩, ⟨true, .list .int r6⟩, ⟨true, .list .int r7⟩])
def H70_0 : LH where
  keep := [(1, .pc [.pure .int, .pure .int, .pure .int, .pure .bool, .pure .int]), (2, .pc [.own .int, .own .int, .own .int, .own .bool, .own .int]), (5, .own .int), (6, .own .bool), (7, .pc [.own .int, .own .int, .own .int, .own .bool, .own .int]), (8, .x)]
  S := Int × List Int × List Int × List Int × List Bool × List Int × List Int × List Bool × List Int × List Int × List Int × List Bool × List Int × List Int × List Int × List Int × List Bool × List Int
  enc := fun s => ([.ptr 0 0, .ptr 1 0, .sl 2, .sl 3, .ptr 4 0, .int .i64 s.1], [⟨true, .cells [.pl .int s.2.1, .pl .int s.2.2.1, .pl .int s.2.2.2.1, .pl .bool s.2.2.2.2.1, .pl .int s.2.2.2.2.2.1]⟩, ⟨true, .cells [.sl 5, .sl 6, .sl 7, .sl 8, .sl 9]⟩, ⟨true, .list .int s.2.2.2.2.2.2.1⟩, ⟨true, .list .bool s.2.2.2.2.2.2.2.1⟩, ⟨true, .cells [.sl 10, .sl 11, .sl 12, .sl 13, .sl 14]⟩, ⟨true, .list .int s.2.2.2.2.2.2.2.2.1⟩, ⟨true, .list .int s.2.2.2.2.2.2.2.2.2.1⟩, ⟨true, .list .int s.2.2.2.2.2.2.2.2.2.2.1⟩, ⟨true, .list .bool s.2.2.2.2.2.2.2.2.2.2.2.1⟩, ⟨true, .list .int s.2.2.2.2.2.2.2.2.2.2.2.2.1⟩, ⟨true, .list .int s.2.2.2.2.2.2.2.2.2.2.2.2.2.1⟩, ⟨true, .list .int s.2.2.2.2.2.2.2.2.2.2.2.2.2.2.1⟩, ⟨true, .list .int s.2.2.2.2.2.2.2.2.2.2.2.2.2.2.2.1⟩, ⟨true, .list .bool s.2.2.2.2.2.2.2.2.2.2.2.2.2.2.2.2.1⟩, ⟨true, .list .int s.2.2.2.2.2.2.2.2.2.2.2.2.2.2.2.2.2⟩])
  dec := fun vs tm K => dCons vs fun a1_ r2_ => dPtr 0 a1_ <| dCons r2_ fun a3_ r4_ => dPtr 1 a3_ <| dCons r4_ fun a5_ r6_ => dSl 2 a5_ <| dCons r6_ fun a7_ r8_ => dSl 3 a7_ <| dCons r8_ fun a9_ r10_ => dPtr 4 a9_ <| dCons r10_ fun a11_ r12_ => dInt .i64 a11_ fun q0 => dNil r12_ <| dBlk true tm fun b13_ m14_ => dCells b13_ fun c15_ => dCons c15_ fun a16_ r17_ => dPl .int a16_ fun q1 => dCons r17_ fun a18_ r19_ => dPl .int a18_ fun q2 => dCons r19_ fun a20_ r21_ => dPl .int a20_ fun q3 => dCons r21_ fun a22_ r23_ => dPl .bool a22_ fun q4 => dCons r23_ fun a24_ r25_ => dPl .int a24_ fun q5 => dNil r25_ <| dBlk true m14_ fun b26_ m27_ => dCells b26_ fun c28_ => dCons c28_ fun a29_ r30_ => dSl 5 a29_ <| dCons r30_ fun a31_ r32_ => dSl 6 a31_ <| dCons r32_ fun a33_ r34_ => dSl 7 a33_ <| dCons r34_ fun a35_ r36_ => dSl 8 a35_ <| dCons r36_ fun a37_ r38_ => dSl 9 a37_ <| dNil r38_ <| dBlk true m27_ fun b39_ m40_ => dList .int b39_ fun q6 => dBlk true m40_ fun b41_ m42_ => dList .bool b41_ fun q7 => dBlk true m42_ fun b43_ m44_ => dCells b43_ fun c45_ => dCons c45_ fun a46_ r47_ => dSl 10 a46_ <| dCons r47_ fun a48_ r49_ => dSl 11 a48_ <| dCons r49_ fun a50_ r51_ => dSl 12 a50_ <| dCons r51_ fun a52_ r53_ => dSl 13 a52_ <| dCons r53_ fun a54_ r55_ => dSl 14 a54_ <| dNil r55_ <| dBlk true m44_ fun b56_ m57_ => dList .int b56_ fun q8 => dBlk true m57_ fun b58_ m59_ => dList .int b58_ fun q9 => dBlk true m59_ fun b60_ m61_ => dList .int b60_ fun q10 => dBlk true m61_ fun b62_ m63_ => dList .bool b62_ fun q11 => dBlk true m63_ fun b64_ m65_ => dList .int b64_ fun q12 => dBlk true m65_ fun b66_ m67_ => dList .int b66_ fun q13 => dBlk true m67_ fun b68_ m69_ => dList .int b68_ fun q14 => dBlk true m69_ fun b70_ m71_ => dList .int b70_ fun q15 => dBlk true m71_ fun b72_ m73_ => dList .bool b72_ fun q16 => dBlk true m73_ fun b74_ m75_ => dList .int b74_ fun q17 => dEnd m75_ <| K (q0, q1, q2, q3, q4, q5, q6, q7, q8, q9, q10, q11, q12, q13, q14, q15, q16, q17)
  law := by
    intro vs tm K h
    replace h := dCons_ok h; obtain ⟨a1_, r2_, rfl, h⟩ := h
    replace h := dPtr_ok h; obtain ⟨rfl, h⟩ := h
    replace h := dCons_ok h; obtain ⟨a3_, r4_, rfl, h⟩ := h
    replace h := dPtr_ok h; obtain ⟨rfl, h⟩ := h
    replace h := dCons_ok h; obtain ⟨a5_, r6_, rfl, h⟩ := h
    replace h := dSl_ok h; obtain ⟨rfl, h⟩ := h
    replace h := dCons_ok h; obtain ⟨a7_, r8_, rfl, h⟩ := h
    replace h := dSl_ok h; obtain ⟨rfl, h⟩ := h
    replace h := dCons_ok h; obtain ⟨a9_, r10_, rfl, h⟩ := h
    replace h := dPtr_ok h; obtain ⟨rfl, h⟩ := h
    replace h := dCons_ok h; obtain ⟨a11_, r12_, rfl, h⟩ := h
    replace h := dInt_ok h; obtain ⟨q0, rfl, h⟩ := h
    replace h := dNil_ok h; obtain ⟨rfl, h⟩ := h
    replace h := dBlk_ok h; obtain ⟨b13_, m14_, rfl, h⟩ := h
    replace h := dCells_ok h; obtain ⟨c15_, rfl, h⟩ := h
    replace h := dCons_ok h; obtain ⟨a16_, r17_, rfl, h⟩ := h
    replace h := dPl_ok h; obtain ⟨q1, rfl, h⟩ := h
    replace h := dCons_ok h; obtain ⟨a18_, r19_, rfl, h⟩ := h
    replace h := dPl_ok h; obtain ⟨q2, rfl, h⟩ := h
    replace h := dCons_ok h; obtain ⟨a20_, r21_, rfl, h⟩ := h
    replace h := dPl_ok h; obtain ⟨q3, rfl, h⟩ := h
    replace h := dCons_ok h; obtain ⟨a22_, r23_, rfl, h⟩ := h
    replace h := dPl_ok h; obtain ⟨q4, rfl, h⟩ := h
    replace h := dCons_ok h; obtain ⟨a24_, r25_, rfl, h⟩ := h
    replace h := dPl_ok h; obtain ⟨q5, rfl, h⟩ := h
    replace h := dNil_ok h; obtain ⟨rfl, h⟩ := h
    replace h := dBlk_ok h; obtain ⟨b26_, m27_, rfl, h⟩ := h
    replace h := dCells_ok h; obtain ⟨c28_, rfl, h⟩ := h
    replace h := dCons_ok h; obtain ⟨a29_, r30_, rfl, h⟩ := h
    replace h := dSl_ok h; obtain ⟨rfl, h⟩ := h
    replace h := dCons_ok h; obtain ⟨a31_, r32_, rfl, h⟩ := h
    replace h := dSl_ok h; obtain ⟨rfl, h⟩ := h
    replace h := dCons_ok h; obtain ⟨a33_, r34_, rfl, h⟩ := h
    replace h := dSl_ok h; obtain ⟨rfl, h⟩ := h
    replace h := dCons_ok h; obtain ⟨a35_, r36_, rfl, h⟩ := h
    replace h := dSl_ok h; obtain ⟨rfl, h⟩ := h
    replace h := dCons_ok h; obtain ⟨a37_, r38_, rfl, h⟩ := h
    replace h := dSl_ok h; obtain ⟨rfl, h⟩ := h
    replace h := dNil_ok h; obtain ⟨rfl, h⟩ := h
    replace h := dBlk_ok h; obtain ⟨b39_, m40_, rfl, h⟩ := h
    replace h := dList_ok h; obtain ⟨q6, rfl, h⟩ := h
    replace h := dBlk_ok h; obtain ⟨b41_, m42_, rfl, h⟩ := h
    replace h := dList_ok h; obtain ⟨q7, rfl, h⟩ := h
    replace h := dBlk_ok h; obtain ⟨b43_, m44_, rfl, h⟩ := h
    replace h := dCells_ok h; obtain ⟨c45_, rfl, h⟩ := h
    replace h := dCons_ok h; obtain ⟨a46_, r47_, rfl, h⟩ := h
    replace h := dSl_ok h; obtain ⟨rfl, h⟩ := h
    replace h := dCons_ok h; obtain ⟨a48_, r49_, rfl, h⟩ := h
    replace h := dSl_ok h; obtain ⟨rfl, h⟩ := h
    replace h := dCons_ok h; obtain ⟨a50_, r51_, rfl, h⟩ := h
    replace h := dSl_ok h; obtain ⟨rfl, h⟩ := h
    replace h := dCons_ok h; obtain ⟨a52_, r53_, rfl, h⟩ := h
    replace h := dSl_ok h; obtain ⟨rfl, h⟩ := h
    replace h := dCons_ok h; obtain ⟨a54_, r55_, rfl, h⟩ := h
    replace h := dSl_ok h; obtain ⟨rfl, h⟩ := h
    replace h := dNil_ok h; obtain ⟨rfl, h⟩ := h
    replace h := dBlk_ok h; obtain ⟨b56_, m57_, rfl, h⟩ := h
    replace h := dList_ok h; obtain ⟨q8, rfl, h⟩ := h
    replace h := dBlk_ok h; obtain ⟨b58_, m59_, rfl, h⟩ := h
    replace h := dList_ok h; obtain ⟨q9, rfl, h⟩ := h
    replace h := dBlk_ok h; obtain ⟨b60_, m61_, rfl, h⟩ := h
    replace h := dList_ok h; obtain ⟨q10, rfl, h⟩ := h
    replace h := dBlk_ok h; obtain ⟨b62_, m63_, rfl, h⟩ := h
    replace h := dList_ok h; obtain ⟨q11, rfl, h⟩ := h
    replace h := dBlk_ok h; obtain ⟨b64_, m65_, rfl, h⟩ := h
    replace h := dList_ok h; obtain ⟨q12, rfl, h⟩ := h
    replace h := dBlk_ok h; obtain ⟨b66_, m67_, rfl, h⟩ := h
    replace h := dList_ok h; obtain ⟨q13, rfl, h⟩ := h
    replace h := dBlk_ok h; obtain ⟨b68_, m69_, rfl, h⟩ := h
    replace h := dList_ok h; obtain ⟨q14, rfl, h⟩ := h
    replace h := dBlk_ok h; obtain ⟨b70_, m71_, rfl, h⟩ := h
    replace h := dList_ok h; obtain ⟨q15, rfl, h⟩ := h
    replace h := dBlk_ok h; obtain ⟨b72_, m73_, rfl, h⟩ := h
    replace h := dList_ok h; obtain ⟨q16, rfl, h⟩ := h
    replace h := dBlk_ok h; obtain ⟨b74_, m75_, rfl, h⟩ := h
    replace h := dList_ok h; obtain ⟨q17, rfl, h⟩ := h
    replace h := dEnd_ok h; obtain ⟨rfl, h⟩ := h
    exact ⟨(q0, q1, q2, q3, q4, q5, q6, q7, q8, q9, q10, q11, q12, q13, q14, q15, q16, q17), rfl, h⟩
def H70_1000015 : LH where
  keep := [(2, .pc [.own .int, .own .int, .own .int, .own .bool, .own .int]), (5, .own .int), (7, .pc [.own .int, .own .int, .own .int, .own .bool, .own .int])]
  S := List Int × List Int × List Int × List Int × List Bool × List Int × List Int × List Int × List Int × List Bool × List Int
  enc := fun s => ([.ptr 0 0, .sl 1, .ptr 2 0], [⟨true, .cells [.sl 3, .sl 4, .sl 5, .sl 6, .sl 7]⟩, ⟨true, .list .int s.1⟩, ⟨true, .cells [.sl 8, .sl 9, .sl 10, .sl 11, .sl 12]⟩, ⟨true, .list .int s.2.1⟩, ⟨true, .list .int s.2.2.1⟩, ⟨true, .list .int s.2.2.2.1⟩, ⟨true, .list .bool s.2.2.2.2.1⟩, ⟨true, .list .int s.2.2.2.2.2.1⟩, ⟨true, .list .int s.2.2.2.2.2.2.1⟩, ⟨true, .list .int s.2.2.2.2.2.2.2.1⟩, ⟨true, .list .int s.2.2.2.2.2.2.2.2.1⟩, ⟨true, .list .bool s.2.2.2.2.2.2.2.2.2.1⟩, ⟨true, .list .int s.2.2.2.2.2.2.2.2.2.2⟩])
  dec := fun vs tm K => dCons vs fun a1_ r2_ => dPtr 0 a1_ <| dCons r2_ fun a3_ r4_ => dSl 1 a3_ <| dCons r4_ fun a5_ r6_ => dPtr 2 a5_ <| dNil r6_ <| dBlk true tm fun b7_ m8_ => dCells b7_ fun c9_ => dCons c9_ fun a10_ r11_ => dSl 3 a10_ <| dCons r11_ fun a12_ r13_ => dSl 4 a12_ <| dCons r13_ fun a14_ r15_ => dSl 5 a14_ <| dCons r15_ fun a16_ r17_ => dSl 6 a16_ <| dCons r17_ fun a18_ r19_ => dSl 7 a18_ <| dNil r19_ <| dBlk true m8_ fun b20_ m21_ => dList .int b20_ fun q0 => dBlk true m21_ fun b22_ m23_ => dCells b22_ fun c24_ => dCons c24_ fun a25_ r26_ => dSl 8 a25_ <| dCons r26_ fun a27_ r28_ => dSl 9 a27_ <| dCons r28_ fun a29_ r30_ => dSl 10 a29_ <| dCons r30_ fun a31_ r32_ => dSl 11 a31_ <| dCons r32_ fun a33_ r34_ => dSl 12 a33_ <| dNil r34_ <| dBlk true m23_ fun b35_ m36_ => dList .int b35_ fun q1 => dBlk true m36_ fun b37_ m38_ => dList .int b37_ fun q2 => dBlk true m38_ fun b39_ m40_ => dList .int b39_ fun q3 => dBlk true m40_ fun b41_ m42_ => dList .bool b41_ fun q4 => dBlk true m42_ fun b43_ m44_ => dList .int b43_ fun q5 => dBlk true m44_ fun b45_ m46_ => dList .int b45_ fun q6 => dBlk true m46_ fun b47_ m48_ => dList .int b47_ fun q7 => dBlk true m48_ fun b49_ m50_ => dList .int b49_ fun q8 => dBlk true m50_ fun b51_ m52_ => dList .bool b51_ fun q9 => dBlk true m52_ fun b53_ m54_ => dList .int b53_ fun q10 => dEnd m54_ <| K (q0, q1, q2, q3, q4, q5, q6, q7, q8, q9, q10)
  law := by
    intro vs tm K h
    replace h := dCons_ok h; obtain ⟨a1_, r2_, rfl, h⟩ := h
    replace h := dPtr_ok h; obtain ⟨rfl, h⟩ := h
    replace h := dCons_ok h; obtain ⟨a3_, r4_, rfl, h⟩ := h
    replace h := dSl_ok h; obtain ⟨rfl, h⟩ := h
    replace h := dCons_ok h; obtain ⟨a5_, r6_, rfl, h⟩ := h
    replace h := dPtr_ok h; obtain ⟨rfl, h⟩ := h
    replace h := dNil_ok h; obtain ⟨rfl, h⟩ := h
    replace h := dBlk_ok h; obtain ⟨b7_, m8_, rfl, h⟩ := h
    replace h := dCells_ok h; obtain ⟨c9_, rfl, h⟩ := h
    replace h := dCons_ok h; obtain ⟨a10_, r11_, rfl, h⟩ := h
    replace h := dSl_ok h; obtain ⟨rfl, h⟩ := h
    replace h := dCons_ok h; obtain ⟨a12_, r13_, rfl, h⟩ := h
    replace h := dSl_ok h; obtain ⟨rfl, h⟩ := h
    replace h := dCons_ok h; obtain ⟨a14_, r15_, rfl, h⟩ := h
    replace h := dSl_ok h; obtain ⟨rfl, h⟩ := h
    replace h := dCons_ok h; obtain ⟨a16_, r17_, rfl, h⟩ := h
    replace h := dSl_ok h; obtain ⟨rfl, h⟩ := h
    replace h := dCons_ok h; obtain ⟨a18_, r19_, rfl, h⟩ := h
    replace h := dSl_ok h; obtain ⟨rfl, h⟩ := h
    replace h := dNil_ok h; obtain ⟨rfl, h⟩ := h
    replace h := dBlk_ok h; obtain ⟨b20_, m21_, rfl, h⟩ := h
    replace h := dList_ok h; obtain ⟨q0, rfl, h⟩ := h
    replace h := dBlk_ok h; obtain ⟨b22_, m23_, rfl, h⟩ := h
    replace h := dCells_ok h; obtain ⟨c24_, rfl, h⟩ := h
    replace h := dCons_ok h; obtain ⟨a25_, r26_, rfl, h⟩ := h
    replace h := dSl_ok h; obtain ⟨rfl, h⟩ := h
    replace h := dCons_ok h; obtain ⟨a27_, r28_, rfl, h⟩ := h
    replace h := dSl_ok h; obtain ⟨rfl, h⟩ := h
    replace h := dCons_ok h; obtain ⟨a29_, r30_, rfl, h⟩ := h
    replace h := dSl_ok h; obtain ⟨rfl, h⟩ := h
    replace h := dCons_ok h; obtain ⟨a31_, r32_, rfl, h⟩ := h
    replace h := dSl_ok h; obtain ⟨rfl, h⟩ := h
    replace h := dCons_ok h; obtain ⟨a33_, r34_, rfl, h⟩ := h
    replace h := dSl_ok h; obtain ⟨rfl, h⟩ := h
    replace h := dNil_ok h; obtain ⟨rfl, h⟩ := h
    replace h := dBlk_ok h; obtain ⟨b35_, m36_, rfl, h⟩ := h
    replace h := dList_ok h; obtain ⟨q1, rfl, h⟩ := h
    replace h := dBlk_ok h; obtain ⟨b37_, m38_, rfl, h⟩ := h
    replace h := dList_ok h; obtain ⟨q2, rfl, h⟩ := h
    replace h := dBlk_ok h; obtain ⟨b39_, m40_, rfl, h⟩ := h
    replace h := dList_ok h; obtain ⟨q3, rfl, h⟩ := h
    replace h := dBlk_ok h; obtain ⟨b41_, m42_, rfl, h⟩ := h
    replace h := dList_ok h; obtain ⟨q4, rfl, h⟩ := h
    replace h := dBlk_ok h; obtain ⟨b43_, m44_, rfl, h⟩ := h
    replace h := dList_ok h; obtain ⟨q5, rfl, h⟩ := h
    replace h := dBlk_ok h; obtain ⟨b45_, m46_, rfl, h⟩ := h
    replace h := dList_ok h; obtain ⟨q6, rfl, h⟩ := h
    replace h := dBlk_ok h; obtain ⟨b47_, m48_, rfl, h⟩ := h
    replace h := dList_ok h; obtain ⟨q7, rfl, h⟩ := h
    replace h := dBlk_ok h; obtain ⟨b49_, m50_, rfl, h⟩ := h
    replace h := dList_ok h; obtain ⟨q8, rfl, h⟩ := h
    replace h := dBlk_ok h; obtain ⟨b51_, m52_, rfl, h⟩ := h
    replace h := dList_ok h; obtain ⟨q9, rfl, h⟩ := h
    replace h := dBlk_ok h; obtain ⟨b53_, m54_, rfl, h⟩ := h
    replace h := dList_ok h; obtain ⟨q10, rfl, h⟩ := h
    replace h := dEnd_ok h; obtain ⟨rfl, h⟩ := h
    exact ⟨(q0, q1, q2, q3, q4, q5, q6, q7, q8, q9, q10), rfl, h⟩
def H70 : List (Nat × LH) := [(0, H70_0), (1000015, H70_1000015)]
def W70 : List (Nat × List (Nat × List Nat)) := []
def Γ70 : List (Nat × Con) := [(98, useC [.ag [.pure .int, .pure .int, .pure .int, .pure .bool, .pure .int]] G98), (103, useC [.ag [.pure .int, .pure .int, .pure .int, .pure .bool, .pure .int]] G103), (106, useC [.ag [.pure .int, .pure .int, .pure .int]] G106), (99, useC [.ag [.pure .int, .pure .int, .pure .int], .pure .bool] G99)]
theorem e70 (p1 : List Int) (p2 : List Int) (p3 : List Int) (p4 : List Bool) (p5 : List Int) (K : TV → TMem → Prop) : TW PP 74 Γ70 H70 W70 (List.length ([] : TMem)) (bodyOf Try.f70) (endT PP 74 [.cell 2 37, .tmp 3, .tmp 4] [.ag [.own .int, .own .int, .own .int, .own .bool, .own .int], .own .int, .bl] [] (List.length ([] : TMem)) K) (argsF [.agg [.pl .int p1, .pl .int p2, .pl .int p3, .pl .bool p4, .pl .int p5]]) [] =
    Ms_SmallCollect p1 p2 p3 p4 p5 (fun r1 r2 r3 r4 r5 r6 r7 => K (.tup [.agg [.sl 0, .sl 1, .sl 2, .sl 3, .sl 4], .sl 5, .bool r1]) [⟨true, .list .int r2⟩, ⟨true, .list .int r3⟩, ⟨true, .list .int r4⟩, ⟨true, .list .bool r5⟩, ⟨true, .list .int r6⟩, ⟨true, .list .int r7⟩]) := by kernel_rfl
theorem s70 : CSound PP 70 G70 := by
  intro args K c h fl A aargs hA hN R hl
  unfold G70 at h
  generalize ht : c.tm = tm at h
  replace h := dCons_ok h; obtain ⟨a1_, r2_, rfl, h⟩ := h
  replace h := dAgg_ok h; obtain ⟨l3_, rfl, h⟩ := h
  replace h := dCons_ok h; obtain ⟨a4_, r5_, rfl, h⟩ := h
  replace h := dPl_ok h; obtain ⟨p1, rfl, h⟩ := h
  replace h := dCons_ok h; obtain ⟨a6_, r7_, rfl, h⟩ := h
  replace h := dPl_ok h; obtain ⟨p2, rfl, h⟩ := h
  replace h := dCons_ok h; obtain ⟨a8_, r9_, rfl, h⟩ := h
  replace h := dPl_ok h; obtain ⟨p3, rfl, h⟩ := h
  replace h := dCons_ok h; obtain ⟨a10_, r11_, rfl, h⟩ := h
  replace h := dPl_ok h; obtain ⟨p4, rfl, h⟩ := h
  replace h := dCons_ok h; obtain ⟨a12_, r13_, rfl, h⟩ := h
  replace h := dPl_ok h; obtain ⟨p5, rfl, h⟩ := h
  replace h := dNil_ok h; obtain ⟨rfl, h⟩ := h
  replace h := dNil_ok h; obtain ⟨rfl, h⟩ := h
  replace h := dEnd_ok h; obtain ⟨rfl, h⟩ := h
  refine fun_ok (nt := 74) (x := bodyOf Try.f70) (Γ := Γ70) (H := H70) (WW := W70) (rs := [.cell 2 37, .tmp 3, .tmp 4]) (shs := [.ag [.own .int, .own .int, .own .int, .own .bool, .own .int], .own .int, .bl]) (cons := []) mixed Try.func70 (by decide) (by kernel_rfl) Try.ntmps70 Try.results70 (.cons (useC_ok s98) (.cons (useC_ok s103) (.cons (useC_ok s106) (.cons (useC_ok s99) (GSound.nil))))) ?_ hA hN R hl
  rw [ht, e70 p1 p2 p3 p4 p5 K]
  exact h
/-! impl.HeapValid -/
def G34 : Con := fun args tm K => dCons args fun a1_ r2_ => dAgg a1_ fun l3_ => dCons l3_ fun a4_ r5_ => dPl .int a4_ fun p1 => dCons r5_ fun a6_ r7_ => dPl .int a6_ fun p2 => dCons r7_ fun a8_ r9_ => dPl .int a8_ fun p3 => dNil r9_ <| dNil r2_ <| dEnd tm <| Mi_HeapValid p1 p2 p3 (fun r1 => K (.bool r1) [])
def H34_0 : LH where
  keep := [(1, .pc [.pure .int, .pure .int, .pure .int]), (44, .own .ints), (45, .x), (46, .x)]
  S := Int × Int × List Int × List Int × List Int × List (List Int)
  enc := fun s => ([.ptr 0 0, .sl 1, .int .i64 s.1, .int .i64 s.2.1], [⟨true, .cells [.pl .int s.2.2.1, .pl .int s.2.2.2.1, .pl .int s.2.2.2.2.1]⟩, ⟨true, .list .ints s.2.2.2.2.2⟩])
  dec := fun vs tm K => dCons vs fun a1_ r2_ => dPtr 0 a1_ <| dCons r2_ fun a3_ r4_ => dSl 1 a3_ <| dCons r4_ fun a5_ r6_ => dInt .i64 a5_ fun q0 => dCons r6_ fun a7_ r8_ => dInt .i64 a7_ fun q1 => dNil r8_ <| dBlk true tm fun b9_ m10_ => dCells b9_ fun c11_ => dCons c11_ fun a12_ r13_ => dPl .int a12_ fun q2 => dCons r13_ fun a14_ r15_ => dPl .int a14_ fun q3 => dCons r15_ fun a16_ r17_ => dPl .int a16_ fun q4 => dNil r17_ <| dBlk true m10_ fun b18_ m19_ => dList .ints b18_ fun q5 => dEnd m19_ <| K (q0, q1, q2, q3, q4, q5)
  law := by
    intro vs tm K h
    replace h := dCons_ok h; obtain ⟨a1_, r2_, rfl, h⟩ := h
    replace h := dPtr_ok h; obtain ⟨rfl, h⟩ := h
    replace h := dCons_ok h; obtain ⟨a3_, r4_, rfl, h⟩ := h
    replace h := dSl_ok h; obtain ⟨rfl, h⟩ := h
    replace h := dCons_ok h; obtain ⟨a5_, r6_, rfl, h⟩ := h
    replace h := dInt_ok h; obtain ⟨q0, rfl, h⟩ := h
    replace h := dCons_ok h; obtain ⟨a7_, r8_, rfl, h⟩ := h
    replace h := dInt_ok h; obtain ⟨q1, rfl, h⟩ := h
    replace h := dNil_ok h; obtain ⟨rfl, h⟩ := h
    replace h := dBlk_ok h; obtain ⟨b9_, m10_, rfl, h⟩ := h
    replace h := dCells_ok h; obtain ⟨c11_, rfl, h⟩ := h
    replace h := dCons_ok h; obtain ⟨a12_, r13_, rfl, h⟩ := h
    replace h := dPl_ok h; obtain ⟨q2, rfl, h⟩ := h
    replace h := dCons_ok h; obtain ⟨a14_, r15_, rfl, h⟩ := h
    replace h := dPl_ok h; obtain ⟨q3, rfl, h⟩ := h
    replace h := dCons_ok h; obtain ⟨a16_, r17_, rfl, h⟩ := h
    replace h := dPl_ok h; obtain ⟨q4, rfl, h⟩ := h
    replace h := dNil_ok h; obtain ⟨rfl, h⟩ := h
    replace h := dBlk_ok h; obtain ⟨b18_, m19_, rfl, h⟩ := h
    replace h := dList_ok h; obtain ⟨q5, rfl, h⟩ := h
    replace h := dEnd_ok h; obtain ⟨rfl, h⟩ := h
    exact ⟨(q0, q1, q2, q3, q4, q5), rfl, h⟩
def H34_2 : LH where
  keep := [(1, .pc [.pure .int, .pure .int, .pure .int]), (44, .own .ints), (45, .x), (46, .x), (50, .pure .int), (51, .x), (52, .x)]
  S := Int × Int × List Int × Int × Int × List Int × List Int × List Int × List (List Int)
  enc := fun s => ([.ptr 0 0, .sl 1, .int .i64 s.1, .int .i64 s.2.1, .pl .int s.2.2.1, .int .i64 s.2.2.2.1, .int .i64 s.2.2.2.2.1], [⟨true, .cells [.pl .int s.2.2.2.2.2.1, .pl .int s.2.2.2.2.2.2.1, .pl .int s.2.2.2.2.2.2.2.1]⟩, ⟨true, .list .ints s.2.2.2.2.2.2.2.2⟩])
  dec := fun vs tm K => dCons vs fun a1_ r2_ => dPtr 0 a1_ <| dCons r2_ fun a3_ r4_ => dSl 1 a3_ <| dCons r4_ fun a5_ r6_ => dInt .i64 a5_ fun q0 => dCons r6_ fun a7_ r8_ => dInt .i64 a7_ fun q1 => dCons r8_ fun a9_ r10_ => dPl .int a9_ fun q2 => dCons r10_ fun a11_ r12_ => dInt .i64 a11_ fun q3 => dCons r12_ fun a13_ r14_ => dInt .i64 a13_ fun q4 => dNil r14_ <| dBlk true tm fun b15_ m16_ => dCells b15_ fun c17_ => dCons c17_ fun a18_ r19_ => dPl .int a18_ fun q5 => dCons r19_ fun a20_ r21_ => dPl .int a20_ fun q6 => dCons r21_ fun a22_ r23_ => dPl .int a22_ fun q7 => dNil r23_ <| dBlk true m16_ fun b24_ m25_ => dList .ints b24_ fun q8 => dEnd m25_ <| K (q0, q1, q2, q3, q4, q5, q6, q7, q8)
  law := by
    intro vs tm K h
    replace h := dCons_ok h; obtain ⟨a1_, r2_, rfl, h⟩ := h
    replace h := dPtr_ok h; obtain ⟨rfl, h⟩ := h
    replace h := dCons_ok h; obtain ⟨a3_, r4_, rfl, h⟩ := h
    replace h := dSl_ok h; obtain ⟨rfl, h⟩ := h
    replace h := dCons_ok h; obtain ⟨a5_, r6_, rfl, h⟩ := h
    replace h := dInt_ok h; obtain ⟨q0, rfl, h⟩ := h
    replace h := dCons_ok h; obtain ⟨a7_, r8_, rfl, h⟩ := h
    replace h := dInt_ok h; obtain ⟨q1, rfl, h⟩ := h
    replace h := dCons_ok h; obtain ⟨a9_, r10_, rfl, h⟩ := h
    replace h := dPl_ok h; obtain ⟨q2, rfl, h⟩ := h
    replace h := dCons_ok h; obtain ⟨a11_, r12_, rfl, h⟩ := h
    replace h := dInt_ok h; obtain ⟨q3, rfl, h⟩ := h
    replace h := dCons_ok h; obtain ⟨a13_, r14_, rfl, h⟩ := h
    replace h := dInt_ok h; obtain ⟨q4, rfl, h⟩ := h
    replace h := dNil_ok h; obtain ⟨rfl, h⟩ := h
    replace h := dBlk_ok h; obtain ⟨b15_, m16_, rfl, h⟩ := h
    replace h := dCells_ok h; obtain ⟨c17_, rfl, h⟩ := h
    replace h := dCons_ok h; obtain ⟨a18_, r19_, rfl, h⟩ := h
    replace h := dPl_ok h; obtain ⟨q5, rfl, h⟩ := h
    replace h := dCons_ok h; obtain ⟨a20_, r21_, rfl, h⟩ := h
    replace h := dPl_ok h; obtain ⟨q6, rfl, h⟩ := h
    replace h := dCons_ok h; obtain ⟨a22_, r23_, rfl, h⟩ := h
    replace h := dPl_ok h; obtain ⟨q7, rfl, h⟩ := h
    replace h := dNil_ok h; obtain ⟨rfl, h⟩ := h
    replace h := dBlk_ok h; obtain ⟨b24_, m25_, rfl, h⟩ := h
    replace h := dList_ok h; obtain ⟨q8, rfl, h⟩ := h
    replace h := dEnd_ok h; obtain ⟨rfl, h⟩ := h
    exact ⟨(q0, q1, q2, q3, q4, q5, q6, q7, q8), rfl, h⟩
def H34 : List (Nat × LH) := [(0, H34_0), (2, H34_2)]
def W34 : List (Nat × List (Nat × List Nat)) := []
def Γ34 : List (Nat × Con) := []
theorem e34 (p1 : List Int) (p2 : List Int) (p3 : List Int) (K : TV → TMem → Prop) : TW PP 67 Γ34 H34 W34 (List.length ([] : TMem)) (bodyOf Try.f34) (endT PP 67 [.tmp 2] [.bl] [] (List.length ([] : TMem)) K) (argsF [.agg [.pl .int p1, .pl .int p2, .pl .int p3]]) [] =
    Mi_HeapValid p1 p2 p3 (fun r1 => K (.bool r1) []) := by kernel_rfl
theorem s34 : CSound PP 34 G34 := by
  intro args K c h fl A aargs hA hN R hl
  unfold G34 at h
  generalize ht : c.tm = tm at h
  replace h := dCons_ok h; obtain ⟨a1_, r2_, rfl, h⟩ := h
  replace h := dAgg_ok h; obtain ⟨l3_, rfl, h⟩ := h
  replace h := dCons_ok h; obtain ⟨a4_, r5_, rfl, h⟩ := h
  replace h := dPl_ok h; obtain ⟨p1, rfl, h⟩ := h
  replace h := dCons_ok h; obtain ⟨a6_, r7_, rfl, h⟩ := h
  replace h := dPl_ok h; obtain ⟨p2, rfl, h⟩ := h
  replace h := dCons_ok h; obtain ⟨a8_, r9_, rfl, h⟩ := h
  replace h := dPl_ok h; obtain ⟨p3, rfl, h⟩ := h
  replace h := dNil_ok h; obtain ⟨rfl, h⟩ := h
  replace h := dNil_ok h; obtain ⟨rfl, h⟩ := h
  replace h := dEnd_ok h; obtain ⟨rfl, h⟩ := h
  refine fun_ok (nt := 67) (x := bodyOf Try.f34) (Γ := Γ34) (H := H34) (WW := W34) (rs := [.tmp 2]) (shs := [.bl]) (cons := []) mixed Try.func34 (by decide) (by kernel_rfl) Try.ntmps34 Try.results34 (GSound.nil) ?_ hA hN R hl
  rw [ht, e34 p1 p2 p3 K]
  exact h
/-! impl.remembered$1 -/
def G132 : Con := fun args tm K => dCons args fun a1_ r2_ => dInt .i64 a1_ fun p1 => dCons r2_ fun a3_ r4_ => dPtr 0 a3_ <| dNil r4_ <| dBlk true tm fun b5_ m6_ => dCells b5_ fun c7_ => dCons c7_ fun a8_ r9_ => dPl .bool a8_ fun p2 => dNil r9_ <| dEnd m6_ <| Mi_remembered_1 p1 p2 (fun r1 => K (.bool r1) [⟨true, .cells [.pl .bool p2]⟩])
def H132 : List (Nat × LH) := []
def W132 : List (Nat × List (Nat × List Nat)) := []
def Γ132 : List (Nat × Con) := []
theorem e132 (p1 : Int) (p2 : List Bool) (K : TV → TMem → Prop) : TW PP 13 Γ132 H132 W132 (List.length ([⟨true, .cells [.pl .bool p2]⟩] : TMem)) (bodyOf Try.f132) (endT PP 13 [.tmp 3] [.bl] [] (List.length ([⟨true, .cells [.pl .bool p2]⟩] : TMem)) K) (argsF [.int .i64 p1, .ptr 0 0]) [⟨true, .cells [.pl .bool p2]⟩] =
    Mi_remembered_1 p1 p2 (fun r1 => K (.bool r1) [⟨true, .cells [.pl .bool p2]⟩]) := by kernel_rfl
theorem s132 : CSound PP 132 G132 := by
  intro args K c h fl A aargs hA hN R hl
  unfold G132 at h
  generalize ht : c.tm = tm at h
  replace h := dCons_ok h; obtain ⟨a1_, r2_, rfl, h⟩ := h
  replace h := dInt_ok h; obtain ⟨p1, rfl, h⟩ := h
  replace h := dCons_ok h; obtain ⟨a3_, r4_, rfl, h⟩ := h
  replace h := dPtr_ok h; obtain ⟨rfl, h⟩ := h
  replace h := dNil_ok h; obtain ⟨rfl, h⟩ := h
  replace h := dBlk_ok h; obtain ⟨b5_, m6_, rfl, h⟩ := h
  replace h := dCells_ok h; obtain ⟨c7_, rfl, h⟩ := h
  replace h := dCons_ok h; obtain ⟨a8_, r9_, rfl, h⟩ := h
  replace h := dPl_ok h; obtain ⟨p2, rfl, h⟩ := h
  replace h := dNil_ok h; obtain ⟨rfl, h⟩ := h
  replace h := dEnd_ok h; obtain ⟨rfl, h⟩ := h
  refine fun_ok (nt := 13) (x := bodyOf Try.f132) (Γ := Γ132) (H := H132) (WW := W132) (rs := [.tmp 3]) (shs := [.bl]) (cons := []) mixed Try.func132 (by decide) (by kernel_rfl) Try.ntmps132 Try.results132 (GSound.nil) ?_ hA hN R hl
  rw [ht, e132 p1 p2 K]
  exact h
/-! impl.remembered -/
def G96 : Con := fun args tm K => dCons args fun a1_ r2_ => dAgg a1_ fun l3_ => dCons l3_ fun a4_ r5_ => dPl .int a4_ fun p1 => dCons r5_ fun a6_ r7_ => dPl .int a6_ fun p2 => dCons r7_ fun a8_ r9_ => dPl .int a8_ fun p3 => dNil r9_ <| dCons r2_ fun a10_ r11_ => dPl .bool a10_ fun p4 => dNil r11_ <| dEnd tm <| Mi_remembered p1 p2 p3 p4 (fun r1 => K (.sl 0) [⟨true, .list .int r1⟩])
def H96_0 : LH where
  keep := [(2, .pc [.pure .int, .pure .int, .pure .int]), (5, .x), (6, .own .int), (11, .pure .bool), (12, .x), (13, .x)]
  S := List Bool × Int × Int × List Int × List Int × List Int × List Bool × List Int
  enc := fun s => ([.ptr 0 0, .fn 132 [] [.ptr 1 0], .sl 2, .pl .bool s.1, .int .i64 s.2.1, .int .i64 s.2.2.1], [⟨true, .cells [.pl .int s.2.2.2.1, .pl .int s.2.2.2.2.1, .pl .int s.2.2.2.2.2.1]⟩, ⟨true, .cells [.pl .bool s.2.2.2.2.2.2.1]⟩, ⟨true, .list .int s.2.2.2.2.2.2.2⟩])
  dec := fun vs tm K => dCons vs fun a1_ r2_ => dPtr 0 a1_ <| dCons r2_ fun a3_ r4_ => dFn 132 a3_ fun x5_ y6_ => dNil x5_ <| dCons y6_ fun a7_ r8_ => dPtr 1 a7_ <| dNil r8_ <| dCons r4_ fun a9_ r10_ => dSl 2 a9_ <| dCons r10_ fun a11_ r12_ => dPl .bool a11_ fun q0 => dCons r12_ fun a13_ r14_ => dInt .i64 a13_ fun q1 => dCons r14_ fun a15_ r16_ => dInt .i64 a15_ fun q2 => dNil r16_ <| dBlk true tm fun b17_ m18_ => dCells b17_ fun c19_ => dCons c19_ fun a20_ r21_ => dPl .int a20_ fun q3 => dCons r21_ fun a22_ r23_ => dPl .int a22_ fun q4 => dCons r23_ fun a24_ r25_ => dPl .int a24_ fun q5 => dNil r25_ <| dBlk true m18_ fun b26_ m27_ => dCells b26_ fun c28_ => dCons c28_ fun a29_ r30_ => dPl .bool a29_ fun q6 => dNil r30_ <| dBlk true m27_ fun b31_ m32_ => dList .int b31_ fun q7 => dEnd m32_ <| K (q0, q1, q2, q3, q4, q5, q6, q7)
  law := by
    intro vs tm K h
    replace h := dCons_ok h; obtain ⟨a1_, r2_, rfl, h⟩ := h
    replace h := dPtr_ok h; obtain ⟨rfl, h⟩ := h
    replace h := dCons_ok h; obtain ⟨a3_, r4_, rfl, h⟩ := h
    replace h := dFn_ok h; obtain ⟨x5_, y6_, rfl, h⟩ := h
    replace h := dNil_ok h; obtain ⟨rfl, h⟩ := h
    replace h := dCons_ok h; obtain ⟨a7_, r8_, rfl, h⟩ := h
    replace h := dPtr_ok h; obtain ⟨rfl, h⟩ := h
    replace h := dNil_ok h; obtain ⟨rfl, h⟩ := h
    replace h := dCons_ok h; obtain ⟨a9_, r10_, rfl, h⟩ := h
    replace h := dSl_ok h; obtain ⟨rfl, h⟩ := h
    replace h := dCons_ok h; obtain ⟨a11_, r12_, rfl, h⟩ := h
    replace h := dPl_ok h; obtain ⟨q0, rfl, h⟩ := h
    replace h := dCons_ok h; obtain ⟨a13_, r14_, rfl, h⟩ := h
    replace h := dInt_ok h; obtain ⟨q1, rfl, h⟩ := h
    replace h := dCons_ok h; obtain ⟨a15_, r16_, rfl, h⟩ := h
    replace h := dInt_ok h; obtain ⟨q2, rfl, h⟩ := h
    replace h := dNil_ok h; obtain ⟨rfl, h⟩ := h
    replace h := dBlk_ok h; obtain ⟨b17_, m18_, rfl, h⟩ := h
    replace h := dCells_ok h; obtain ⟨c19_, rfl, h⟩ := h
    replace h := dCons_ok h; obtain ⟨a20_, r21_, rfl, h⟩ := h
    replace h := dPl_ok h; obtain ⟨q3, rfl, h⟩ := h
    replace h := dCons_ok h; obtain ⟨a22_, r23_, rfl, h⟩ := h
    replace h := dPl_ok h; obtain ⟨q4, rfl, h⟩ := h
    replace h := dCons_ok h; obtain ⟨a24_, r25_, rfl, h⟩ := h
    replace h := dPl_ok h; obtain ⟨q5, rfl, h⟩ := h
    replace h := dNil_ok h; obtain ⟨rfl, h⟩ := h
    replace h := dBlk_ok h; obtain ⟨b26_, m27_, rfl, h⟩ := h
    replace h := dCells_ok h; obtain ⟨c28_, rfl, h⟩ := h
    replace h := dCons_ok h; obtain ⟨a29_, r30_, rfl, h⟩ := h
    replace h := dPl_ok h; obtain ⟨q6, rfl, h⟩ := h
    replace h := dNil_ok h; obtain ⟨rfl, h⟩ := h
    replace h := dBlk_ok h; obtain ⟨b31_, m32_, rfl, h⟩ := h
    replace h := dList_ok h; obtain ⟨q7, rfl, h⟩ := h
    replace h := dEnd_ok h; obtain ⟨rfl, h⟩ := h
    exact ⟨(q0, q1, q2, q3, q4, q5, q6, q7), rfl, h⟩
def H96_1000009 : LH where
  keep := [(6, .own .int)]
  S := List Int
  enc := fun s => ([.sl 0], [⟨true, .list .int s⟩])
  dec := fun vs tm K => dCons vs fun a1_ r2_ => dSl 0 a1_ <| dNil r2_ <| dBlk true tm fun b3_ m4_ => dList .int b3_ fun q0 => dEnd m4_ <| K q0
  law := by
    intro vs tm K h
    replace h := dCons_ok h; obtain ⟨a1_, r2_, rfl, h⟩ := h
    replace h := dSl_ok h; obtain ⟨rfl, h⟩ := h
    replace h := dNil_ok h; obtain ⟨rfl, h⟩ := h
    replace h := dBlk_ok h; obtain ⟨b3_, m4_, rfl, h⟩ := h
    replace h := dList_ok h; obtain ⟨q0, rfl, h⟩ := h
    replace h := dEnd_ok h; obtain ⟨rfl, h⟩ := h
    exact ⟨q0, rfl, h⟩
def H96 : List (Nat × LH) := [(0, H96_0), (1000009, H96_1000009)]
def W96 : List (Nat × List (Nat × List Nat)) := []
def Γ96 : List (Nat × Con) := [(132, useC [.x, .pc [.pure .bool]] G132)]
theorem e96 (p1 : List Int) (p2 : List Int) (p3 : List Int) (p4 : List Bool) (K : TV → TMem → Prop) : TW PP 43 Γ96 H96 W96 (List.length ([] : TMem)) (bodyOf Try.f96) (endT PP 43 [.tmp 4] [.own .int] [] (List.length ([] : TMem)) K) (argsF [.agg [.pl .int p1, .pl .int p2, .pl .int p3], .pl .bool p4]) [] =
    Mi_remembered p1 p2 p3 p4 (fun r1 => K (.sl 0) [⟨true, .list .int r1⟩]) := by kernel_rfl
theorem s96 : CSound PP 96 G96 := by
  intro args K c h fl A aargs hA hN R hl
  unfold G96 at h
  generalize ht : c.tm = tm at h
  replace h := dCons_ok h; obtain ⟨a1_, r2_, rfl, h⟩ := h
  replace h := dAgg_ok h; obtain ⟨l3_, rfl, h⟩ := h
  replace h := dCons_ok h; obtain ⟨a4_, r5_, rfl, h⟩ := h
  replace h := dPl_ok h; obtain ⟨p1, rfl, h⟩ := h
  replace h := dCons_ok h; obtain ⟨a6_, r7_, rfl, h⟩ := h
  replace h := dPl_ok h; obtain ⟨p2, rfl, h⟩ := h
  replace h := dCons_ok h; obtain ⟨a8_, r9_, rfl, h⟩ := h
  replace h := dPl_ok h; obtain ⟨p3, rfl, h⟩ := h
  replace h := dNil_ok h; obtain ⟨rfl, h⟩ := h
  replace h := dCons_ok h; obtain ⟨a10_, r11_, rfl, h⟩ := h
  replace h := dPl_ok h; obtain ⟨p4, rfl, h⟩ := h
  replace h := dNil_ok h; obtain ⟨rfl, h⟩ := h
  replace h := dEnd_ok h; obtain ⟨rfl, h⟩ := h
  refine fun_ok (nt := 43) (x := bodyOf Try.f96) (Γ := Γ96) (H := H96) (WW := W96) (rs := [.tmp 4]) (shs := [.own .int]) (cons := []) mixed Try.func96 (by decide) (by kernel_rfl) Try.ntmps96 Try.results96 (.cons (useC_ok s132) (GSound.nil)) ?_ hA hN R hl
  rw [ht, e96 p1 p2 p3 p4 K]
  exact h
/-! slices.Equal[[]int,int] -/
def G101 : Con := fun args tm K => dCons args fun a1_ r2_ => dPl .int a1_ fun p1 => dCons r2_ fun a3_ r4_ => dPl .int a3_ fun p2 => dNil r4_ <| dEnd tm <| M_Equal_int p1 p2 (fun r1 => K (.bool r1) [])
def H101_0 : LH where
  keep := [(0, .pure .int), (1, .pure .int), (12, .x), (13, .x)]
  S := List Int × List Int × Int × Int
  enc := fun s => ([.pl .int s.1, .pl .int s.2.1, .int .i64 s.2.2.1, .int .i64 s.2.2.2], [])
  dec := fun vs tm K => dCons vs fun a1_ r2_ => dPl .int a1_ fun q0 => dCons r2_ fun a3_ r4_ => dPl .int a3_ fun q1 => dCons r4_ fun a5_ r6_ => dInt .i64 a5_ fun q2 => dCons r6_ fun a7_ r8_ => dInt .i64 a7_ fun q3 => dNil r8_ <| dEnd tm <| K (q0, q1, q2, q3)
  law := by
    intro vs tm K h
    replace h := dCons_ok h; obtain ⟨a1_, r2_, rfl, h⟩ := h
    replace h := dPl_ok h; obtain ⟨q0, rfl, h⟩ := h
    replace h := dCons_ok h; obtain ⟨a3_, r4_, rfl, h⟩ := h
    replace h := dPl_ok h; obtain ⟨q1, rfl, h⟩ := h
    replace h := dCons_ok h; obtain ⟨a5_, r6_, rfl, h⟩ := h
    replace h := dInt_ok h; obtain ⟨q2, rfl, h⟩ := h
    replace h := dCons_ok h; obtain ⟨a7_, r8_, rfl, h⟩ := h
    replace h := dInt_ok h; obtain ⟨q3, rfl, h⟩ := h
    replace h := dNil_ok h; obtain ⟨rfl, h⟩ := h
    replace h := dEnd_ok h; obtain ⟨rfl, h⟩ := h
    exact ⟨(q0, q1, q2, q3), rfl, h⟩
def H101 : List (Nat × LH) := [(0, H101_0)]
def W101 : List (Nat × List (Nat × List Nat)) := []
def Γ101 : List (Nat × Con) := []
theorem e101 (p1 : List Int) (p2 : List Int) (K : TV → TMem → Prop) : TW PP 26 Γ101 H101 W101 (List.length ([] : TMem)) (bodyOf Try.f101) (endT PP 26 [.tmp 4] [.bl] [] (List.length ([] : TMem)) K) (argsF [.pl .int p1, .pl .int p2]) [] =
    M_Equal_int p1 p2 (fun r1 => K (.bool r1) []) := by kernel_rfl
theorem s101 : CSound PP 101 G101 := by
  intro args K c h fl A aargs hA hN R hl
  unfold G101 at h
  generalize ht : c.tm = tm at h
  replace h := dCons_ok h; obtain ⟨a1_, r2_, rfl, h⟩ := h
  replace h := dPl_ok h; obtain ⟨p1, rfl, h⟩ := h
  replace h := dCons_ok h; obtain ⟨a3_, r4_, rfl, h⟩ := h
  replace h := dPl_ok h; obtain ⟨p2, rfl, h⟩ := h
  replace h := dNil_ok h; obtain ⟨rfl, h⟩ := h
  replace h := dEnd_ok h; obtain ⟨rfl, h⟩ := h
  refine fun_ok (nt := 26) (x := bodyOf Try.f101) (Γ := Γ101) (H := H101) (WW := W101) (rs := [.tmp 4]) (shs := [.bl]) (cons := []) mixed Try.func101 (by decide) (by kernel_rfl) Try.ntmps101 Try.results101 (GSound.nil) ?_ hA hN R hl
  rw [ht, e101 p1 p2 K]
  exact h
/-! impl.GensValid -/
def G42 : Con := fun args tm K => dCons args fun a1_ r2_ => dAgg a1_ fun l3_ => dCons l3_ fun a4_ r5_ => dPl .int a4_ fun p1 => dCons r5_ fun a6_ r7_ => dPl .int a6_ fun p2 => dCons r7_ fun a8_ r9_ => dPl .int a8_ fun p3 => dCons r9_ fun a10_ r11_ => dPl .bool a10_ fun p4 => dCons r11_ fun a12_ r13_ => dPl .int a12_ fun p5 => dNil r13_ <| dNil r2_ <| dEnd tm <| Mi_GensValid p1 p2 p3 p4 p5 (fun r1 => K (.bool r1) [])
def H42 : List (Nat × LH) := []
def W42 : List (Nat × List (Nat × List Nat)) := []
def Γ42 : List (Nat × Con) := [(34, useC [.ag [.pure .int, .pure .int, .pure .int]] G34), (96, useC [.ag [.pure .int, .pure .int, .pure .int], .pure .bool] G96), (101, useC [.pure .int, .pure .int] G101)]
theorem e42 (p1 : List Int) (p2 : List Int) (p3 : List Int) (p4 : List Bool) (p5 : List Int) (K : TV → TMem → Prop) : TW PP 26 Γ42 H42 W42 (List.length ([] : TMem)) (bodyOf Try.f42) (endT PP 26 [.tmp 2] [.bl] [] (List.length ([] : TMem)) K) (argsF [.agg [.pl .int p1, .pl .int p2, .pl .int p3, .pl .bool p4, .pl .int p5]]) [] =
    Mi_GensValid p1 p2 p3 p4 p5 (fun r1 => K (.bool r1) []) := by kernel_rfl
theorem s42 : CSound PP 42 G42 := by
  intro args K c h fl A aargs hA hN R hl
  unfold G42 at h
  generalize ht : c.tm = tm at h
  replace h := dCons_ok h; obtain ⟨a1_, r2_, rfl, h⟩ := h
  replace h := dAgg_ok h; obtain ⟨l3_, rfl, h⟩ := h
  replace h := dCons_ok h; obtain ⟨a4_, r5_, rfl, h⟩ := h
  replace h := dPl_ok h; obtain ⟨p1, rfl, h⟩ := h
  replace h := dCons_ok h; obtain ⟨a6_, r7_, rfl, h⟩ := h
  replace h := dPl_ok h; obtain ⟨p2, rfl, h⟩ := h
  replace h := dCons_ok h; obtain ⟨a8_, r9_, rfl, h⟩ := h
  replace h := dPl_ok h; obtain ⟨p3, rfl, h⟩ := h
  replace h := dCons_ok h; obtain ⟨a10_, r11_, rfl, h⟩ := h
  replace h := dPl_ok h; obtain ⟨p4, rfl, h⟩ := h
  replace h := dCons_ok h; obtain ⟨a12_, r13_, rfl, h⟩ := h
  replace h := dPl_ok h; obtain ⟨p5, rfl, h⟩ := h
  replace h := dNil_ok h; obtain ⟨rfl, h⟩ := h
  replace h := dNil_ok h; obtain ⟨rfl, h⟩ := h
  replace h := dEnd_ok h; obtain ⟨rfl, h⟩ := h
  refine fun_ok (nt := 26) (x := bodyOf Try.f42) (Γ := Γ42) (H := H42) (WW := W42) (rs := [.tmp 2]) (shs := [.bl]) (cons := []) mixed Try.func42 (by decide) (by kernel_rfl) Try.ntmps42 Try.results42 (.cons (useC_ok s34) (.cons (useC_ok s96) (.cons (useC_ok s101) (GSound.nil)))) ?_ hA hN R hl
  rw [ht, e42 p1 p2 p3 p4 p5 K]
  exact h
/-! slices.Clone[[]int,int] -/
def G102 : Con := fun args tm K => dCons args fun a1_ r2_ => dPl .int a1_ fun p1 => dNil r2_ <| dEnd tm <| M_Clone_int p1 (fun r1 => K (.sl 0) [⟨true, .list .int r1⟩])
def H102 : List (Nat × LH) := []
def W102 : List (Nat × List (Nat × List Nat)) := []
def Γ102 : List (Nat × Con) := []
theorem e102 (p1 : List Int) (K : TV → TMem → Prop) : TW PP 8 Γ102 H102 W102 (List.length ([] : TMem)) (bodyOf Try.f102) (endT PP 8 [.tmp 2] [.own .int] [] (List.length ([] : TMem)) K) (argsF [.pl .int p1]) [] =
    M_Clone_int p1 (fun r1 => K (.sl 0) [⟨true, .list .int r1⟩]) := by kernel_rfl
theorem s102 : CSound PP 102 G102 := by
  intro args K c h fl A aargs hA hN R hl
  unfold G102 at h
  generalize ht : c.tm = tm at h
  replace h := dCons_ok h; obtain ⟨a1_, r2_, rfl, h⟩ := h
  replace h := dPl_ok h; obtain ⟨p1, rfl, h⟩ := h
  replace h := dNil_ok h; obtain ⟨rfl, h⟩ := h
  replace h := dEnd_ok h; obtain ⟨rfl, h⟩ := h
  refine fun_ok (nt := 8) (x := bodyOf Try.f102) (Γ := Γ102) (H := H102) (WW := W102) (rs := [.tmp 2]) (shs := [.own .int]) (cons := []) mixed Try.func102 (by decide) (by kernel_rfl) Try.ntmps102 Try.results102 (GSound.nil) ?_ hA hN R hl
  rw [ht, e102 p1 K]
  exact h
/-! impl.YoungKept -/
def G44 : Con := fun args tm K => dCons args fun a1_ r2_ => dAgg a1_ fun l3_ => dCons l3_ fun a4_ r5_ => dPl .int a4_ fun p1 => dCons r5_ fun a6_ r7_ => dPl .int a6_ fun p2 => dCons r7_ fun a8_ r9_ => dPl .int a8_ fun p3 => dCons r9_ fun a10_ r11_ => dPl .bool a10_ fun p4 => dCons r11_ fun a12_ r13_ => dPl .int a12_ fun p5 => dNil r13_ <| dNil r2_ <| dEnd tm <| Mi_YoungKept p1 p2 p3 p4 p5 (fun r1 => K (.sl 0) [⟨true, .list .int r1⟩])
def H44_0 : LH where
  keep := [(1, .pc [.pure .int, .pure .int, .pure .int, .pure .bool, .pure .int]), (3, .own .bool), (4, .own .int), (24, .pure .int), (25, .x), (26, .x)]
  S := List Int × Int × Int × List Int × List Int × List Int × List Bool × List Int × List Bool × List Int
  enc := fun s => ([.ptr 0 0, .sl 1, .sl 2, .pl .int s.1, .int .i64 s.2.1, .int .i64 s.2.2.1], [⟨true, .cells [.pl .int s.2.2.2.1, .pl .int s.2.2.2.2.1, .pl .int s.2.2.2.2.2.1, .pl .bool s.2.2.2.2.2.2.1, .pl .int s.2.2.2.2.2.2.2.1]⟩, ⟨true, .list .bool s.2.2.2.2.2.2.2.2.1⟩, ⟨true, .list .int s.2.2.2.2.2.2.2.2.2⟩])
  dec := fun vs tm K => dCons vs fun a1_ r2_ => dPtr 0 a1_ <| dCons r2_ fun a3_ r4_ => dSl 1 a3_ <| dCons r4_ fun a5_ r6_ => dSl 2 a5_ <| dCons r6_ fun a7_ r8_ => dPl .int a7_ fun q0 => dCons r8_ fun a9_ r10_ => dInt .i64 a9_ fun q1 => dCons r10_ fun a11_ r12_ => dInt .i64 a11_ fun q2 => dNil r12_ <| dBlk true tm fun b13_ m14_ => dCells b13_ fun c15_ => dCons c15_ fun a16_ r17_ => dPl .int a16_ fun q3 => dCons r17_ fun a18_ r19_ => dPl .int a18_ fun q4 => dCons r19_ fun a20_ r21_ => dPl .int a20_ fun q5 => dCons r21_ fun a22_ r23_ => dPl .bool a22_ fun q6 => dCons r23_ fun a24_ r25_ => dPl .int a24_ fun q7 => dNil r25_ <| dBlk true m14_ fun b26_ m27_ => dList .bool b26_ fun q8 => dBlk true m27_ fun b28_ m29_ => dList .int b28_ fun q9 => dEnd m29_ <| K (q0, q1, q2, q3, q4, q5, q6, q7, q8, q9)
  law := by
    intro vs tm K h
    replace h := dCons_ok h; obtain ⟨a1_, r2_, rfl, h⟩ := h
    replace h := dPtr_ok h; obtain ⟨rfl, h⟩ := h
    replace h := dCons_ok h; obtain ⟨a3_, r4_, rfl, h⟩ := h
    replace h := dSl_ok h; obtain ⟨rfl, h⟩ := h
    replace h := dCons_ok h; obtain ⟨a5_, r6_, rfl, h⟩ := h
    replace h := dSl_ok h; obtain ⟨rfl, h⟩ := h
    replace h := dCons_ok h; obtain ⟨a7_, r8_, rfl, h⟩ := h
    replace h := dPl_ok h; obtain ⟨q0, rfl, h⟩ := h
    replace h := dCons_ok h; obtain ⟨a9_, r10_, rfl, h⟩ := h
    replace h := dInt_ok h; obtain ⟨q1, rfl, h⟩ := h
    replace h := dCons_ok h; obtain ⟨a11_, r12_, rfl, h⟩ := h
    replace h := dInt_ok h; obtain ⟨q2, rfl, h⟩ := h
    replace h := dNil_ok h; obtain ⟨rfl, h⟩ := h
    replace h := dBlk_ok h; obtain ⟨b13_, m14_, rfl, h⟩ := h
    replace h := dCells_ok h; obtain ⟨c15_, rfl, h⟩ := h
    replace h := dCons_ok h; obtain ⟨a16_, r17_, rfl, h⟩ := h
    replace h := dPl_ok h; obtain ⟨q3, rfl, h⟩ := h
    replace h := dCons_ok h; obtain ⟨a18_, r19_, rfl, h⟩ := h
    replace h := dPl_ok h; obtain ⟨q4, rfl, h⟩ := h
    replace h := dCons_ok h; obtain ⟨a20_, r21_, rfl, h⟩ := h
    replace h := dPl_ok h; obtain ⟨q5, rfl, h⟩ := h
    replace h := dCons_ok h; obtain ⟨a22_, r23_, rfl, h⟩ := h
    replace h := dPl_ok h; obtain ⟨q6, rfl, h⟩ := h
    replace h := dCons_ok h; obtain ⟨a24_, r25_, rfl, h⟩ := h
    replace h := dPl_ok h; obtain ⟨q7, rfl, h⟩ := h
    replace h := dNil_ok h; obtain ⟨rfl, h⟩ := h
    replace h := dBlk_ok h; obtain ⟨b26_, m27_, rfl, h⟩ := h
    replace h := dList_ok h; obtain ⟨q8, rfl, h⟩ := h
    replace h := dBlk_ok h; obtain ⟨b28_, m29_, rfl, h⟩ := h
    replace h := dList_ok h; obtain ⟨q9, rfl, h⟩ := h
    replace h := dEnd_ok h; obtain ⟨rfl, h⟩ := h
    exact ⟨(q0, q1, q2, q3, q4, q5, q6, q7, q8, q9), rfl, h⟩
def H44_2 : LH where
  keep := [(1, .pc [.pure .int, .pure .int, .pure .int, .pure .bool, .pure .int]), (3, .own .bool), (4, .own .int), (7, .x)]
  S := Int × List Int × List Int × List Int × List Bool × List Int × List Bool × List Int
  enc := fun s => ([.ptr 0 0, .sl 1, .sl 2, .int .i64 s.1], [⟨true, .cells [.pl .int s.2.1, .pl .int s.2.2.1, .pl .int s.2.2.2.1, .pl .bool s.2.2.2.2.1, .pl .int s.2.2.2.2.2.1]⟩, ⟨true, .list .bool s.2.2.2.2.2.2.1⟩, ⟨true, .list .int s.2.2.2.2.2.2.2⟩])
  dec := fun vs tm K => dCons vs fun a1_ r2_ => dPtr 0 a1_ <| dCons r2_ fun a3_ r4_ => dSl 1 a3_ <| dCons r4_ fun a5_ r6_ => dSl 2 a5_ <| dCons r6_ fun a7_ r8_ => dInt .i64 a7_ fun q0 => dNil r8_ <| dBlk true tm fun b9_ m10_ => dCells b9_ fun c11_ => dCons c11_ fun a12_ r13_ => dPl .int a12_ fun q1 => dCons r13_ fun a14_ r15_ => dPl .int a14_ fun q2 => dCons r15_ fun a16_ r17_ => dPl .int a16_ fun q3 => dCons r17_ fun a18_ r19_ => dPl .bool a18_ fun q4 => dCons r19_ fun a20_ r21_ => dPl .int a20_ fun q5 => dNil r21_ <| dBlk true m10_ fun b22_ m23_ => dList .bool b22_ fun q6 => dBlk true m23_ fun b24_ m25_ => dList .int b24_ fun q7 => dEnd m25_ <| K (q0, q1, q2, q3, q4, q5, q6, q7)
  law := by
    intro vs tm K h
    replace h := dCons_ok h; obtain ⟨a1_, r2_, rfl, h⟩ := h
    replace h := dPtr_ok h; obtain ⟨rfl, h⟩ := h
    replace h := dCons_ok h; obtain ⟨a3_, r4_, rfl, h⟩ := h
    replace h := dSl_ok h; obtain ⟨rfl, h⟩ := h
    replace h := dCons_ok h; obtain ⟨a5_, r6_, rfl, h⟩ := h
    replace h := dSl_ok h; obtain ⟨rfl, h⟩ := h
    replace h := dCons_ok h; obtain ⟨a7_, r8_, rfl, h⟩ := h
    replace h := dInt_ok h; obtain ⟨q0, rfl, h⟩ := h
    replace h := dNil_ok h; obtain ⟨rfl, h⟩ := h
    replace h := dBlk_ok h; obtain ⟨b9_, m10_, rfl, h⟩ := h
    replace h := dCells_ok h; obtain ⟨c11_, rfl, h⟩ := h
    replace h := dCons_ok h; obtain ⟨a12_, r13_, rfl, h⟩ := h
    replace h := dPl_ok h; obtain ⟨q1, rfl, h⟩ := h
    replace h := dCons_ok h; obtain ⟨a14_, r15_, rfl, h⟩ := h
    replace h := dPl_ok h; obtain ⟨q2, rfl, h⟩ := h
    replace h := dCons_ok h; obtain ⟨a16_, r17_, rfl, h⟩ := h
    replace h := dPl_ok h; obtain ⟨q3, rfl, h⟩ := h
    replace h := dCons_ok h; obtain ⟨a18_, r19_, rfl, h⟩ := h
    replace h := dPl_ok h; obtain ⟨q4, rfl, h⟩ := h
    replace h := dCons_ok h; obtain ⟨a20_, r21_, rfl, h⟩ := h
    replace h := dPl_ok h; obtain ⟨q5, rfl, h⟩ := h
    replace h := dNil_ok h; obtain ⟨rfl, h⟩ := h
    replace h := dBlk_ok h; obtain ⟨b22_, m23_, rfl, h⟩ := h
    replace h := dList_ok h; obtain ⟨q6, rfl, h⟩ := h
    replace h := dBlk_ok h; obtain ⟨b24_, m25_, rfl, h⟩ := h
    replace h := dList_ok h; obtain ⟨q7, rfl, h⟩ := h
    replace h := dEnd_ok h; obtain ⟨rfl, h⟩ := h
    exact ⟨(q0, q1, q2, q3, q4, q5, q6, q7), rfl, h⟩
def H44_4 : LH where
  keep := [(9, .own .int), (90, .own .bool), (91, .x), (92, .x)]
  S := Int × Int × List Int × List Bool
  enc := fun s => ([.sl 0, .sl 1, .int .i64 s.1, .int .i64 s.2.1], [⟨true, .list .int s.2.2.1⟩, ⟨true, .list .bool s.2.2.2⟩])
  dec := fun vs tm K => dCons vs fun a1_ r2_ => dSl 0 a1_ <| dCons r2_ fun a3_ r4_ => dSl 1 a3_ <| dCons r4_ fun a5_ r6_ => dInt .i64 a5_ fun q0 => dCons r6_ fun a7_ r8_ => dInt .i64 a7_ fun q1 => dNil r8_ <| dBlk true tm fun b9_ m10_ => dList .int b9_ fun q2 => dBlk true m10_ fun b11_ m12_ => dList .bool b11_ fun q3 => dEnd m12_ <| K (q0, q1, q2, q3)
  law := by
    intro vs tm K h
    replace h := dCons_ok h; obtain ⟨a1_, r2_, rfl, h⟩ := h
    replace h := dSl_ok h; obtain ⟨rfl, h⟩ := h
    replace h := dCons_ok h; obtain ⟨a3_, r4_, rfl, h⟩ := h
    replace h := dSl_ok h; obtain ⟨rfl, h⟩ := h
    replace h := dCons_ok h; obtain ⟨a5_, r6_, rfl, h⟩ := h
    replace h := dInt_ok h; obtain ⟨q0, rfl, h⟩ := h
    replace h := dCons_ok h; obtain ⟨a7_, r8_, rfl, h⟩ := h
    replace h := dInt_ok h; obtain ⟨q1, rfl, h⟩ := h
    replace h := dNil_ok h; obtain ⟨rfl, h⟩ := h
    replace h := dBlk_ok h; obtain ⟨b9_, m10_, rfl, h⟩ := h
    replace h := dList_ok h; obtain ⟨q2, rfl, h⟩ := h
    replace h := dBlk_ok h; obtain ⟨b11_, m12_, rfl, h⟩ := h
    replace h := dList_ok h; obtain ⟨q3, rfl, h⟩ := h
    replace h := dEnd_ok h; obtain ⟨rfl, h⟩ := h
    exact ⟨(q0, q1, q2, q3), rfl, h⟩
def H44_1000017 : LH where
  keep := [(3, .own .bool)]
  S := List Bool
  enc := fun s => ([.sl 0], [⟨true, .list .bool s⟩])
  dec := fun vs tm K => dCons vs fun a1_ r2_ => dSl 0 a1_ <| dNil r2_ <| dBlk true tm fun b3_ m4_ => dList .bool b3_ fun q0 => dEnd m4_ <| K q0
  law := by
    intro vs tm K h
    replace h := dCons_ok h; obtain ⟨a1_, r2_, rfl, h⟩ := h
    replace h := dSl_ok h; obtain ⟨rfl, h⟩ := h
    replace h := dNil_ok h; obtain ⟨rfl, h⟩ := h
    replace h := dBlk_ok h; obtain ⟨b3_, m4_, rfl, h⟩ := h
    replace h := dList_ok h; obtain ⟨q0, rfl, h⟩ := h
    replace h := dEnd_ok h; obtain ⟨rfl, h⟩ := h
    exact ⟨q0, rfl, h⟩
def H44 : List (Nat × LH) := [(0, H44_0), (2, H44_2), (4, H44_4), (1000017, H44_1000017)]
def W44 : List (Nat × List (Nat × List Nat)) := []
def Γ44 : List (Nat × Con) := [(42, useC [.ag [.pure .int, .pure .int, .pure .int, .pure .bool, .pure .int]] G42), (102, useC [.pure .int] G102)]
theorem e44 (p1 : List Int) (p2 : List Int) (p3 : List Int) (p4 : List Bool) (p5 : List Int) (K : TV → TMem → Prop) : TW PP 104 Γ44 H44 W44 (List.length ([] : TMem)) (bodyOf Try.f44) (endT PP 104 [.tmp 2] [.own .int] [] (List.length ([] : TMem)) K) (argsF [.agg [.pl .int p1, .pl .int p2, .pl .int p3, .pl .bool p4, .pl .int p5]]) [] =
    Mi_YoungKept p1 p2 p3 p4 p5 (fun r1 => K (.sl 0) [⟨true, .list .int r1⟩]) := by kernel_rfl
theorem s44 : CSound PP 44 G44 := by
  intro args K c h fl A aargs hA hN R hl
  unfold G44 at h
  generalize ht : c.tm = tm at h
  replace h := dCons_ok h; obtain ⟨a1_, r2_, rfl, h⟩ := h
  replace h := dAgg_ok h; obtain ⟨l3_, rfl, h⟩ := h
  replace h := dCons_ok h; obtain ⟨a4_, r5_, rfl, h⟩ := h
  replace h := dPl_ok h; obtain ⟨p1, rfl, h⟩ := h
  replace h := dCons_ok h; obtain ⟨a6_, r7_, rfl, h⟩ := h
  replace h := dPl_ok h; obtain ⟨p2, rfl, h⟩ := h
  replace h := dCons_ok h; obtain ⟨a8_, r9_, rfl, h⟩ := h
  replace h := dPl_ok h; obtain ⟨p3, rfl, h⟩ := h
  replace h := dCons_ok h; obtain ⟨a10_, r11_, rfl, h⟩ := h
  replace h := dPl_ok h; obtain ⟨p4, rfl, h⟩ := h
  replace h := dCons_ok h; obtain ⟨a12_, r13_, rfl, h⟩ := h
  replace h := dPl_ok h; obtain ⟨p5, rfl, h⟩ := h
  replace h := dNil_ok h; obtain ⟨rfl, h⟩ := h
  replace h := dNil_ok h; obtain ⟨rfl, h⟩ := h
  replace h := dEnd_ok h; obtain ⟨rfl, h⟩ := h
  refine fun_ok (nt := 104) (x := bodyOf Try.f44) (Γ := Γ44) (H := H44) (WW := W44) (rs := [.tmp 2]) (shs := [.own .int]) (cons := []) mixed Try.func44 (by decide) (by kernel_rfl) Try.ntmps44 Try.results44 (.cons (useC_ok s42) (.cons (useC_ok s102) (GSound.nil))) ?_ hA hN R hl
  rw [ht, e44 p1 p2 p3 p4 p5 K]
  exact h
/-! impl.copied -/
def G113 : Con := fun args tm K => dCons args fun a1_ r2_ => dAgg a1_ fun l3_ => dCons l3_ fun a4_ r5_ => dPl .int a4_ fun p1 => dCons r5_ fun a6_ r7_ => dPl .int a6_ fun p2 => dCons r7_ fun a8_ r9_ => dPl .int a8_ fun p3 => dNil r9_ <| dNil r2_ <| dEnd tm <| Mi_copied p1 p2 p3 (fun r1 r2 r3 => K (.agg [.sl 0, .sl 1, .sl 2]) [⟨true, .list .int r1⟩, ⟨true, .list .int r2⟩, ⟨true, .list .int r3⟩])
def H113 : List (Nat × LH) := []
def W113 : List (Nat × List (Nat × List Nat)) := []
def Γ113 : List (Nat × Con) := [(102, useC [.pure .int] G102)]
theorem e113 (p1 : List Int) (p2 : List Int) (p3 : List Int) (K : TV → TMem → Prop) : TW PP 13 Γ113 H113 W113 (List.length ([] : TMem)) (bodyOf Try.f113) (endT PP 13 [.cell 2 25] [.ag [.own .int, .own .int, .own .int]] [] (List.length ([] : TMem)) K) (argsF [.agg [.pl .int p1, .pl .int p2, .pl .int p3]]) [] =
    Mi_copied p1 p2 p3 (fun r1 r2 r3 => K (.agg [.sl 0, .sl 1, .sl 2]) [⟨true, .list .int r1⟩, ⟨true, .list .int r2⟩, ⟨true, .list .int r3⟩]) := by kernel_rfl
theorem s113 : CSound PP 113 G113 := by
  intro args K c h fl A aargs hA hN R hl
  unfold G113 at h
  generalize ht : c.tm = tm at h
  replace h := dCons_ok h; obtain ⟨a1_, r2_, rfl, h⟩ := h
  replace h := dAgg_ok h; obtain ⟨l3_, rfl, h⟩ := h
  replace h := dCons_ok h; obtain ⟨a4_, r5_, rfl, h⟩ := h
  replace h := dPl_ok h; obtain ⟨p1, rfl, h⟩ := h
  replace h := dCons_ok h; obtain ⟨a6_, r7_, rfl, h⟩ := h
  replace h := dPl_ok h; obtain ⟨p2, rfl, h⟩ := h
  replace h := dCons_ok h; obtain ⟨a8_, r9_, rfl, h⟩ := h
  replace h := dPl_ok h; obtain ⟨p3, rfl, h⟩ := h
  replace h := dNil_ok h; obtain ⟨rfl, h⟩ := h
  replace h := dNil_ok h; obtain ⟨rfl, h⟩ := h
  replace h := dEnd_ok h; obtain ⟨rfl, h⟩ := h
  refine fun_ok (nt := 13) (x := bodyOf Try.f113) (Γ := Γ113) (H := H113) (WW := W113) (rs := [.cell 2 25]) (shs := [.ag [.own .int, .own .int, .own .int]]) (cons := []) mixed Try.func113 (by decide) (by kernel_rfl) Try.ntmps113 Try.results113 (.cons (useC_ok s102) (GSound.nil)) ?_ hA hN R hl
  rw [ht, e113 p1 p2 p3 K]
  exact h
/-! slices.Clone[[]bool,bool] -/
def G95 : Con := fun args tm K => dCons args fun a1_ r2_ => dPl .bool a1_ fun p1 => dNil r2_ <| dEnd tm <| M_Clone_bool p1 (fun r1 => K (.sl 0) [⟨true, .list .bool r1⟩])
def H95 : List (Nat × LH) := []
def W95 : List (Nat × List (Nat × List Nat)) := []
def Γ95 : List (Nat × Con) := []
theorem e95 (p1 : List Bool) (K : TV → TMem → Prop) : TW PP 8 Γ95 H95 W95 (List.length ([] : TMem)) (bodyOf Try.f95) (endT PP 8 [.tmp 2] [.own .bool] [] (List.length ([] : TMem)) K) (argsF [.pl .bool p1]) [] =
    M_Clone_bool p1 (fun r1 => K (.sl 0) [⟨true, .list .bool r1⟩]) := by kernel_rfl
theorem s95 : CSound PP 95 G95 := by
  intro args K c h fl A aargs hA hN R hl
  unfold G95 at h
  generalize ht : c.tm = tm at h
  replace h := dCons_ok h; obtain ⟨a1_, r2_, rfl, h⟩ := h
  replace h := dPl_ok h; obtain ⟨p1, rfl, h⟩ := h
  replace h := dNil_ok h; obtain ⟨rfl, h⟩ := h
  replace h := dEnd_ok h; obtain ⟨rfl, h⟩ := h
  refine fun_ok (nt := 8) (x := bodyOf Try.f95) (Γ := Γ95) (H := H95) (WW := W95) (rs := [.tmp 2]) (shs := [.own .bool]) (cons := []) mixed Try.func95 (by decide) (by kernel_rfl) Try.ntmps95 Try.results95 (GSound.nil) ?_ hA hN R hl
  rw [ht, e95 p1 K]
  exact h
/-! slices.Index[[]int,int] -/
def G115 : Con := fun args tm K => dCons args fun a1_ r2_ => dPl .int a1_ fun p1 => dCons r2_ fun a3_ r4_ => dInt .i64 a3_ fun p2 => dNil r4_ <| dEnd tm <| M_Index_int p1 p2 (fun r1 => K (.int .i64 r1) [])
def H115_0 : LH where
  keep := [(0, .pure .int), (1, .x), (7, .x), (8, .x)]
  S := List Int × Int × Int × Int
  enc := fun s => ([.pl .int s.1, .int .i64 s.2.1, .int .i64 s.2.2.1, .int .i64 s.2.2.2], [])
  dec := fun vs tm K => dCons vs fun a1_ r2_ => dPl .int a1_ fun q0 => dCons r2_ fun a3_ r4_ => dInt .i64 a3_ fun q1 => dCons r4_ fun a5_ r6_ => dInt .i64 a5_ fun q2 => dCons r6_ fun a7_ r8_ => dInt .i64 a7_ fun q3 => dNil r8_ <| dEnd tm <| K (q0, q1, q2, q3)
  law := by
    intro vs tm K h
    replace h := dCons_ok h; obtain ⟨a1_, r2_, rfl, h⟩ := h
    replace h := dPl_ok h; obtain ⟨q0, rfl, h⟩ := h
    replace h := dCons_ok h; obtain ⟨a3_, r4_, rfl, h⟩ := h
    replace h := dInt_ok h; obtain ⟨q1, rfl, h⟩ := h
    replace h := dCons_ok h; obtain ⟨a5_, r6_, rfl, h⟩ := h
    replace h := dInt_ok h; obtain ⟨q2, rfl, h⟩ := h
    replace h := dCons_ok h; obtain ⟨a7_, r8_, rfl, h⟩ := h
    replace h := dInt_ok h; obtain ⟨q3, rfl, h⟩ := h
    replace h := dNil_ok h; obtain ⟨rfl, h⟩ := h
    replace h := dEnd_ok h; obtain ⟨rfl, h⟩ := h
    exact ⟨(q0, q1, q2, q3), rfl, h⟩
def H115 : List (Nat × LH) := [(0, H115_0)]
def W115 : List (Nat × List (Nat × List Nat)) := []
def Γ115 : List (Nat × Con) := []
theorem e115 (p1 : List Int) (p2 : Int) (K : TV → TMem → Prop) : TW PP 19 Γ115 H115 W115 (List.length ([] : TMem)) (bodyOf Try.f115) (endT PP 19 [.tmp 4] [.x] [] (List.length ([] : TMem)) K) (argsF [.pl .int p1, .int .i64 p2]) [] =
    M_Index_int p1 p2 (fun r1 => K (.int .i64 r1) []) := by kernel_rfl
theorem s115 : CSound PP 115 G115 := by
  intro args K c h fl A aargs hA hN R hl
  unfold G115 at h
  generalize ht : c.tm = tm at h
  replace h := dCons_ok h; obtain ⟨a1_, r2_, rfl, h⟩ := h
  replace h := dPl_ok h; obtain ⟨p1, rfl, h⟩ := h
  replace h := dCons_ok h; obtain ⟨a3_, r4_, rfl, h⟩ := h
  replace h := dInt_ok h; obtain ⟨p2, rfl, h⟩ := h
  replace h := dNil_ok h; obtain ⟨rfl, h⟩ := h
  replace h := dEnd_ok h; obtain ⟨rfl, h⟩ := h
  refine fun_ok (nt := 19) (x := bodyOf Try.f115) (Γ := Γ115) (H := H115) (WW := W115) (rs := [.tmp 4]) (shs := [.x]) (cons := []) mixed Try.func115 (by decide) (by kernel_rfl) Try.ntmps115 Try.results115 (GSound.nil) ?_ hA hN R hl
  rw [ht, e115 p1 p2 K]
  exact h
/-! slices.Contains[[]int,int] -/
def G107 : Con := fun args tm K => dCons args fun a1_ r2_ => dPl .int a1_ fun p1 => dCons r2_ fun a3_ r4_ => dInt .i64 a3_ fun p2 => dNil r4_ <| dEnd tm <| M_Contains_int p1 p2 (fun r1 => K (.bool r1) [])
def H107 : List (Nat × LH) := []
def W107 : List (Nat × List (Nat × List Nat)) := []
def Γ107 : List (Nat × Con) := [(115, useC [.pure .int, .x] G115)]
theorem e107 (p1 : List Int) (p2 : Int) (K : TV → TMem → Prop) : TW PP 9 Γ107 H107 W107 (List.length ([] : TMem)) (bodyOf Try.f107) (endT PP 9 [.tmp 4] [.bl] [] (List.length ([] : TMem)) K) (argsF [.pl .int p1, .int .i64 p2]) [] =
    M_Contains_int p1 p2 (fun r1 => K (.bool r1) []) := by kernel_rfl
theorem s107 : CSound PP 107 G107 := by
  intro args K c h fl A aargs hA hN R hl
  unfold G107 at h
  generalize ht : c.tm = tm at h
  replace h := dCons_ok h; obtain ⟨a1_, r2_, rfl, h⟩ := h
  replace h := dPl_ok h; obtain ⟨p1, rfl, h⟩ := h
  replace h := dCons_ok h; obtain ⟨a3_, r4_, rfl, h⟩ := h
  replace h := dInt_ok h; obtain ⟨p2, rfl, h⟩ := h
  replace h := dNil_ok h; obtain ⟨rfl, h⟩ := h
  replace h := dEnd_ok h; obtain ⟨rfl, h⟩ := h
  refine fun_ok (nt := 9) (x := bodyOf Try.f107) (Γ := Γ107) (H := H107) (WW := W107) (rs := [.tmp 4]) (shs := [.bl]) (cons := []) mixed Try.func107 (by decide) (by kernel_rfl) Try.ntmps107 Try.results107 (.cons (useC_ok s115) (GSound.nil)) ?_ hA hN R hl
  rw [ht, e107 p1 p2 K]
  exact h
/-! impl.SmallCollect -/
def G61 : Con := fun args tm K => dCons args fun a1_ r2_ => dAgg a1_ fun l3_ => dCons l3_ fun a4_ r5_ => dPl .int a4_ fun p1 => dCons r5_ fun a6_ r7_ => dPl .int a6_ fun p2 => dCons r7_ fun a8_ r9_ => dPl .int a8_ fun p3 => dCons r9_ fun a10_ r11_ => dPl .bool a10_ fun p4 => dCons r11_ fun a12_ r13_ => dPl .int a12_ fun p5 => dNil r13_ <| dNil r2_ <| dEnd tm <| Mi_SmallCollect p1 p2 p3 p4 p5 (fun r1 r2 r3 r4 r5 r6 r7 => K (.tup [.agg [.sl 0, .sl 1, .sl 2, .sl 3, .sl 4], .sl 5, .bool r1]) [⟨true, .list .int r2⟩, ⟨true, .list .int r3⟩, ⟨true, .list .int r4⟩, ⟨true, .list .bool r5⟩, ⟨true, .list .int r6⟩, ⟨true, .list .int r7⟩])
def H61_0 : LH where
  keep := [(2, .pc [.own .int, .own .int, .own .int, .own .bool, .own .int]), (5, .own .int), (6, .pc [.own .int, .own .int, .own .int, .own .bool, .own .int]), (7, .own .int), (25, .pure .bool), (26, .x), (27, .x)]
  S := List Bool × Int × Int × List Int × List Int × List Int × List Int × List Int × List Bool × List Int × List Int × List Int × List Int × List Bool × List Int
  enc := fun s => ([.ptr 0 0, .sl 1, .ptr 2 0, .sl 3, .pl .bool s.1, .int .i64 s.2.1, .int .i64 s.2.2.1], [⟨true, .cells [.sl 4, .sl 5, .sl 6, .sl 7, .sl 8]⟩, ⟨true, .list .int s.2.2.2.1⟩, ⟨true, .cells [.sl 9, .sl 10, .sl 11, .sl 12, .sl 13]⟩, ⟨true, .list .int s.2.2.2.2.1⟩, ⟨true, .list .int s.2.2.2.2.2.1⟩, ⟨true, .list .int s.2.2.2.2.2.2.1⟩, ⟨true, .list .int s.2.2.2.2.2.2.2.1⟩, ⟨true, .list .bool s.2.2.2.2.2.2.2.2.1⟩, ⟨true, .list .int s.2.2.2.2.2.2.2.2.2.1⟩, ⟨true, .list .int s.2.2.2.2.2.2.2.2.2.2.1⟩, ⟨true, .list .int s.2.2.2.2.2.2.2.2.2.2.2.1⟩, ⟨true, .list .int s.2.2.2.2.2.2.2.2.2.2.2.2.1⟩, ⟨true, .list .bool s.2.2.2.2.2.2.2.2.2.2.2.2.2.1⟩, ⟨true, .list .int s.2.2.2.2.2.2.2.2.2.2.2.2.2.2⟩])
  dec := fun vs tm K => dCons vs fun a1_ r2_ => dPtr 0 a1_ <| dCons r2_ fun a3_ r4_ => dSl 1 a3_ <| dCons r4_ fun a5_ r6_ => dPtr 2 a5_ <| dCons r6_ fun a7_ r8_ => dSl 3 a7_ <| dCons r8_ fun a9_ r10_ => dPl .bool a9_ fun q0 => dCons r10_ fun a11_ r12_ => dInt .i64 a11_ fun q1 => dCons r12_ fun a13_ r14_ => dInt .i64 a13_ fun q2 => dNil r14_ <| dBlk true tm fun b15_ m16_ => dCells b15_ fun c17_ => dCons c17_ fun a18_ r19_ => dSl 4 a18_ <| dCons r19_ fun a20_ r21_ => dSl 5 a20_ <| dCons r21_ fun a22_ r23_ => dSl 6 a22_ <| dCons r23_ fun a24_ r25_ => dSl 7 a24_ <| dCons r25_ fun a26_ r27_ => dSl 8 a26_ <| dNil r27_ <| dBlk true m16_ fun b28_ m29_ => dList .int b28_ fun q3 => dBlk true m29_ fun b30_ m31_ => dCells b30_ fun c32_ => dCons c32_ fun a33_ r34_ => dSl 9 a33_ <| dCons r34_ fun a35_ r36_ => dSl 10 a35_ <| dCons r36_ fun a37_ r38_ => dSl 11 a37_ <| dCons r38_ fun a39_ r40_ => dSl 12 a39_ <| dCons r40_ fun a41_ r42_ => dSl 13 a41_ <| dNil r42_ <| dBlk true m31_ fun b43_ m44_ => dList .int b43_ fun q4 => dBlk true m44_ fun b45_ m46_ => dList .int b45_ fun q5 => dBlk true m46_ fun b47_ m48_ => dList .int b47_ fun q6 => dBlk true m48_ fun b49_ m50_ => dList .int b49_ fun q7 => dBlk true m50_ fun b51_ m52_ => dList .bool b51_ fun q8 => dBlk true m52_ fun b53_ m54_ => dList .int b53_ fun q9 => dBlk true m54_ fun b55_ m56_ => dList .int b55_ fun q10 => dBlk true m56_ fun b57_ m58_ => dList .int b57_ fun q11 => dBlk true m58_ fun b59_ m60_ => dList .int b59_ fun q12 => dBlk true m60_ fun b61_ m62_ => dList .bool b61_ fun q13 => dBlk true m62_ fun b63_ m64_ => dList .int b63_ fun q14 => dEnd m64_ <| K (q0, q1, q2, q3, q4, q5, q6, q7, q8, q9, q10, q11, q12, q13, q14)
  law := by
    intro vs tm K h
    replace h := dCons_ok h; obtain ⟨a1_, r2_, rfl, h⟩ := h
    replace h := dPtr_ok h; obtain ⟨rfl, h⟩ := h
    replace h := dCons_ok h; obtain ⟨a3_, r4_, rfl, h⟩ := h
    replace h := dSl_ok h; obtain ⟨rfl, h⟩ := h
    replace h := dCons_ok h; obtain ⟨a5_, r6_, rfl, h⟩ := h
    replace h := dPtr_ok h; obtain ⟨rfl, h⟩ := h
    replace h := dCons_ok h; obtain ⟨a7_, r8_, rfl, h⟩ := h
    replace h := dSl_ok h; obtain ⟨rfl, h⟩ := h
    replace h := dCons_ok h; obtain ⟨a9_, r10_, rfl, h⟩ := h
    replace h := dPl_ok h; obtain ⟨q0, rfl, h⟩ := h
    replace h := dCons_ok h; obtain ⟨a11_, r12_, rfl, h⟩ := h
    replace h := dInt_ok h; obtain ⟨q1, rfl, h⟩ := h
    replace h := dCons_ok h; obtain ⟨a13_, r14_, rfl, h⟩ := h
    replace h := dInt_ok h; obtain ⟨q2, rfl, h⟩ := h
    replace h := dNil_ok h; obtain ⟨rfl, h⟩ := h
    replace h := dBlk_ok h; obtain ⟨b15_, m16_, rfl, h⟩ := h
    replace h := dCells_ok h; obtain ⟨c17_, rfl, h⟩ := h
    replace h := dCons_ok h; obtain ⟨a18_, r19_, rfl, h⟩ := h
    replace h := dSl_ok h; obtain ⟨rfl, h⟩ := h
    replace h := dCons_ok h; obtain ⟨a20_, r21_, rfl, h⟩ := h
    replace h := dSl_ok h; obtain ⟨rfl, h⟩ := h
    replace h := dCons_ok h; obtain ⟨a22_, r23_, rfl, h⟩ := h
    replace h := dSl_ok h; obtain ⟨rfl, h⟩ := h
    replace h := dCons_ok h; obtain ⟨a24_, r25_, rfl, h⟩ := h
    replace h := dSl_ok h; obtain ⟨rfl, h⟩ := h
    replace h := dCons_ok h; obtain ⟨a26_, r27_, rfl, h⟩ := h
    replace h := dSl_ok h; obtain ⟨rfl, h⟩ := h
    replace h := dNil_ok h; obtain ⟨rfl, h⟩ := h
    replace h := dBlk_ok h; obtain ⟨b28_, m29_, rfl, h⟩ := h
    replace h := dList_ok h; obtain ⟨q3, rfl, h⟩ := h
    replace h := dBlk_ok h; obtain ⟨b30_, m31_, rfl, h⟩ := h
    replace h := dCells_ok h; obtain ⟨c32_, rfl, h⟩ := h
    replace h := dCons_ok h; obtain ⟨a33_, r34_, rfl, h⟩ := h
    replace h := dSl_ok h; obtain ⟨rfl, h⟩ := h
    replace h := dCons_ok h; obtain ⟨a35_, r36_, rfl, h⟩ := h
    replace h := dSl_ok h; obtain ⟨rfl, h⟩ := h
    replace h := dCons_ok h; obtain ⟨a37_, r38_, rfl, h⟩ := h
    replace h := dSl_ok h; obtain ⟨rfl, h⟩ := h
    replace h := dCons_ok h; obtain ⟨a39_, r40_, rfl, h⟩ := h
    replace h := dSl_ok h; obtain ⟨rfl, h⟩ := h
    replace h := dCons_ok h; obtain ⟨a41_, r42_, rfl, h⟩ := h
    replace h := dSl_ok h; obtain ⟨rfl, h⟩ := h
    replace h := dNil_ok h; obtain ⟨rfl, h⟩ := h
    replace h := dBlk_ok h; obtain ⟨b43_, m44_, rfl, h⟩ := h
    replace h := dList_ok h; obtain ⟨q4, rfl, h⟩ := h
    replace h := dBlk_ok h; obtain ⟨b45_, m46_, rfl, h⟩ := h
    replace h := dList_ok h; obtain ⟨q5, rfl, h⟩ := h
    replace h := dBlk_ok h; obtain ⟨b47_, m48_, rfl, h⟩ := h
    replace h := dList_ok h; obtain ⟨q6, rfl, h⟩ := h
    replace h := dBlk_ok h; obtain ⟨b49_, m50_, rfl, h⟩ := h
    replace h := dList_ok h; obtain ⟨q7, rfl, h⟩ := h
    replace h := dBlk_ok h; obtain ⟨b51_, m52_, rfl, h⟩ := h
    replace h := dList_ok h; obtain ⟨q8, rfl, h⟩ := h
    replace h := dBlk_ok h; obtain ⟨b53_, m54_, rfl, h⟩ := h
    replace h := dList_ok h; obtain ⟨q9, rfl, h⟩ := h
    replace h := dBlk_ok h; obtain ⟨b55_, m56_, rfl, h⟩ := h
    replace h := dList_ok h; obtain ⟨q10, rfl, h⟩ := h
    replace h := dBlk_ok h; obtain ⟨b57_, m58_, rfl, h⟩ := h
    replace h := dList_ok h; obtain ⟨q11, rfl, h⟩ := h
    replace h := dBlk_ok h; obtain ⟨b59_, m60_, rfl, h⟩ := h
    replace h := dList_ok h; obtain ⟨q12, rfl, h⟩ := h
    replace h := dBlk_ok h; obtain ⟨b61_, m62_, rfl, h⟩ := h
    replace h := dList_ok h; obtain ⟨q13, rfl, h⟩ := h
    replace h := dBlk_ok h; obtain ⟨b63_, m64_, rfl, h⟩ := h
    replace h := dList_ok h; obtain ⟨q14, rfl, h⟩ := h
    replace h := dEnd_ok h; obtain ⟨rfl, h⟩ := h
    exact ⟨(q0, q1, q2, q3, q4, q5, q6, q7, q8, q9, q10, q11, q12, q13, q14), rfl, h⟩
def H61_1000016 : LH where
  keep := [(2, .pc [.own .int, .own .int, .own .int, .own .bool, .own .int]), (6, .pc [.own .int, .own .int, .own .int, .own .bool, .own .int]), (7, .own .int)]
  S := List Int × List Int × List Int × List Int × List Bool × List Int × List Int × List Int × List Int × List Bool × List Int
  enc := fun s => ([.ptr 0 0, .ptr 1 0, .sl 2], [⟨true, .cells [.sl 3, .sl 4, .sl 5, .sl 6, .sl 7]⟩, ⟨true, .cells [.sl 8, .sl 9, .sl 10, .sl 11, .sl 12]⟩, ⟨true, .list .int s.1⟩, ⟨true, .list .int s.2.1⟩, ⟨true, .list .int s.2.2.1⟩, ⟨true, .list .int s.2.2.2.1⟩, ⟨true, .list .bool s.2.2.2.2.1⟩, ⟨true, .list .int s.2.2.2.2.2.1⟩, ⟨true, .list .int s.2.2.2.2.2.2.1⟩, ⟨true, .list .int s.2.2.2.2.2.2.2.1⟩, ⟨true, .list .int s.2.2.2.2.2.2.2.2.1⟩, ⟨true, .list .bool s.2.2.2.2.2.2.2.2.2.1⟩, ⟨true, .list .int s.2.2.2.2.2.2.2.2.2.2⟩])
  dec := fun vs tm K => dCons vs fun a1_ r2_ => dPtr 0 a1_ <| dCons r2_ fun a3_ r4_ => dPtr 1 a3_ <| dCons r4_ fun a5_ r6_ => dSl 2 a5_ <| dNil r6_ <| dBlk true tm fun b7_ m8_ => dCells b7_ fun c9_ => dCons c9_ fun a10_ r11_ => dSl 3 a10_ <| dCons r11_ fun a12_ r13_ => dSl 4 a12_ <| dCons r13_ fun a14_ r15_ => dSl 5 a14_ <| dCons r15_ fun a16_ r17_ => dSl 6 a16_ <| dCons r17_ fun a18_ r19_ => dSl 7 a18_ <| dNil r19_ <| dBlk true m8_ fun b20_ m21_ => dCells b20_ fun c22_ => dCons c22_ fun a23_ r24_ => dSl 8 a23_ <| dCons r24_ fun a25_ r26_ => dSl 9 a25_ <| dCons r26_ fun a27_ r28_ => dSl 10 a27_ <| dCons r28_ fun a29_ r30_ => dSl 11 a29_ <| dCons r30_ fun a31_ r32_ => dSl 12 a31_ <| dNil r32_ <| dBlk true m21_ fun b33_ m34_ => dList .int b33_ fun q0 => dBlk true m34_ fun b35_ m36_ => dList .int b35_ fun q1 => dBlk true m36_ fun b37_ m38_ => dList .int b37_ fun q2 => dBlk true m38_ fun b39_ m40_ => dList .int b39_ fun q3 => dBlk true m40_ fun b41_ m42_ => dList .bool b41_ fun q4 => dBlk true m42_ fun b43_ m44_ => dList .int b43_ fun q5 => dBlk true m44_ fun b45_ m46_ => dList .int b45_ fun q6 => dBlk true m46_ fun b47_ m48_ => dList .int b47_ fun q7 => dBlk true m48_ fun b49_ m50_ => dList .int b49_ fun q8 => dBlk true m50_ fun b51_ m52_ => dList .bool b51_ fun q9 => dBlk true m52_ fun b53_ m54_ => dList .int b53_ fun q10 => dEnd m54_ <| K (q0, q1, q2, q3, q4, q5, q6, q7, q8, q9, q10)
  law := by
    intro vs tm K h
    replace h := dCons_ok h; obtain ⟨a1_, r2_, rfl, h⟩ := h
    replace h := dPtr_ok h; obtain ⟨rfl, h⟩ := h
    replace h := dCons_ok h; obtain ⟨a3_, r4_, rfl, h⟩ := h
    replace h := dPtr_ok h; obtain ⟨rfl, h⟩ := h
    replace h := dCons_ok h; obtain ⟨a5_, r6_, rfl, h⟩ := h
    replace h := dSl_ok h; obtain ⟨rfl, h⟩ := h
    replace h := dNil_ok h; obtain ⟨rfl, h⟩ := h
    replace h := dBlk_ok h; obtain ⟨b7_, m8_, rfl, h⟩ := h
    replace h := dCells_ok h; obtain ⟨c9_, rfl, h⟩ := h
    replace h := dCons_ok h; obtain ⟨a10_, r11_, rfl, h⟩ := h
    replace h := dSl_ok h; obtain ⟨rfl, h⟩ := h
    replace h := dCons_ok h; obtain ⟨a12_, r13_, rfl, h⟩ := h
    replace h := dSl_ok h; obtain ⟨rfl, h⟩ := h
    replace h := dCons_ok h; obtain ⟨a14_, r15_, rfl, h⟩ := h
    replace h := dSl_ok h; obtain ⟨rfl, h⟩ := h
    replace h := dCons_ok h; obtain ⟨a16_, r17_, rfl, h⟩ := h
    replace h := dSl_ok h; obtain ⟨rfl, h⟩ := h
    replace h := dCons_ok h; obtain ⟨a18_, r19_, rfl, h⟩ := h
    replace h := dSl_ok h; obtain ⟨rfl, h⟩ := h
    replace h := dNil_ok h; obtain ⟨rfl, h⟩ := h
    replace h := dBlk_ok h; obtain ⟨b20_, m21_, rfl, h⟩ := h
    replace h := dCells_ok h; obtain ⟨c22_, rfl, h⟩ := h
    replace h := dCons_ok h; obtain ⟨a23_, r24_, rfl, h⟩ := h
    replace h := dSl_ok h; obtain ⟨rfl, h⟩ := h
    replace h := dCons_ok h; obtain ⟨a25_, r26_, rfl, h⟩ := h
    replace h := dSl_ok h; obtain ⟨rfl, h⟩ := h
    replace h := dCons_ok h; obtain ⟨a27_, r28_, rfl, h⟩ := h
    replace h := dSl_ok h; obtain ⟨rfl, h⟩ := h
    replace h := dCons_ok h; obtain ⟨a29_, r30_, rfl, h⟩ := h
    replace h := dSl_ok h; obtain ⟨rfl, h⟩ := h
    replace h := dCons_ok h; obtain ⟨a31_, r32_, rfl, h⟩ := h
    replace h := dSl_ok h; obtain ⟨rfl, h⟩ := h
    replace h := dNil_ok h; obtain ⟨rfl, h⟩ := h
    replace h := dBlk_ok h; obtain ⟨b33_, m34_, rfl, h⟩ := h
    replace h := dList_ok h; obtain ⟨q0, rfl, h⟩ := h
    replace h := dBlk_ok h; obtain ⟨b35_, m36_, rfl, h⟩ := h
    replace h := dList_ok h; obtain ⟨q1, rfl, h⟩ := h
    replace h := dBlk_ok h; obtain ⟨b37_, m38_, rfl, h⟩ := h
    replace h := dList_ok h; obtain ⟨q2, rfl, h⟩ := h
    replace h := dBlk_ok h; obtain ⟨b39_, m40_, rfl, h⟩ := h
    replace h := dList_ok h; obtain ⟨q3, rfl, h⟩ := h
    replace h := dBlk_ok h; obtain ⟨b41_, m42_, rfl, h⟩ := h
    replace h := dList_ok h; obtain ⟨q4, rfl, h⟩ := h
    replace h := dBlk_ok h; obtain ⟨b43_, m44_, rfl, h⟩ := h
    replace h := dList_ok h; obtain ⟨q5, rfl, h⟩ := h
    replace h := dBlk_ok h; obtain ⟨b45_, m46_, rfl, h⟩ := h
    replace h := dList_ok h; obtain ⟨q6, rfl, h⟩ := h
    replace h := dBlk_ok h; obtain ⟨b47_, m48_, rfl, h⟩ := h
    replace h := dList_ok h; obtain ⟨q7, rfl, h⟩ := h
    replace h := dBlk_ok h; obtain ⟨b49_, m50_, rfl, h⟩ := h
    replace h := dList_ok h; obtain ⟨q8, rfl, h⟩ := h
    replace h := dBlk_ok h; obtain ⟨b51_, m52_, rfl, h⟩ := h
    replace h := dList_ok h; obtain ⟨q9, rfl, h⟩ := h
    replace h := dBlk_ok h; obtain ⟨b53_, m54_, rfl, h⟩ := h
    replace h := dList_ok h; obtain ⟨q10, rfl, h⟩ := h
    replace h := dEnd_ok h; obtain ⟨rfl, h⟩ := h
    exact ⟨(q0, q1, q2, q3, q4, q5, q6, q7, q8, q9, q10), rfl, h⟩
def H61 : List (Nat × LH) := [(0, H61_0), (1000016, H61_1000016)]
def W61 : List (Nat × List (Nat × List Nat)) := [(9, [(9, [9])])]
def Γ61 : List (Nat × Con) := [(42, useC [.ag [.pure .int, .pure .int, .pure .int, .pure .bool, .pure .int]] G42), (44, useC [.ag [.pure .int, .pure .int, .pure .int, .pure .bool, .pure .int]] G44), (113, useC [.ag [.pure .int, .pure .int, .pure .int]] G113), (95, useC [.pure .bool] G95), (107, useC [.pure .int, .x] G107), (96, useC [.ag [.pure .int, .pure .int, .pure .int], .pure .bool] G96)]
theorem e61 (p1 : List Int) (p2 : List Int) (p3 : List Int) (p4 : List Bool) (p5 : List Int) (K : TV → TMem → Prop) : TW PP 65 Γ61 H61 W61 (List.length ([] : TMem)) (bodyOf Try.f61) (endT PP 65 [.cell 2 37, .tmp 3, .tmp 4] [.ag [.own .int, .own .int, .own .int, .own .bool, .own .int], .own .int, .bl] [] (List.length ([] : TMem)) K) (argsF [.agg [.pl .int p1, .pl .int p2, .pl .int p3, .pl .bool p4, .pl .int p5]]) [] =
    Mi_SmallCollect p1 p2 p3 p4 p5 (fun r1 r2 r3 r4 r5 r6 r7 => K (.tup [.agg [.sl 0, .sl 1, .sl 2, .sl 3, .sl 4], .sl 5, .bool r1]) [⟨true, .list .int r2⟩, ⟨true, .list .int r3⟩, ⟨true, .list .int r4⟩, ⟨true, .list .bool r5⟩, ⟨true, .list .int r6⟩, ⟨true, .list .int r7⟩]) := by kernel_rfl
theorem s61 : CSound PP 61 G61 := by
  intro args K c h fl A aargs hA hN R hl
  unfold G61 at h
  generalize ht : c.tm = tm at h
  replace h := dCons_ok h; obtain ⟨a1_, r2_, rfl, h⟩ := h
  replace h := dAgg_ok h; obtain ⟨l3_, rfl, h⟩ := h
  replace h := dCons_ok h; obtain ⟨a4_, r5_, rfl, h⟩ := h
  replace h := dPl_ok h; obtain ⟨p1, rfl, h⟩ := h
  replace h := dCons_ok h; obtain ⟨a6_, r7_, rfl, h⟩ := h
  replace h := dPl_ok h; obtain ⟨p2, rfl, h⟩ := h
  replace h := dCons_ok h; obtain ⟨a8_, r9_, rfl, h⟩ := h
  replace h := dPl_ok h; obtain ⟨p3, rfl, h⟩ := h
  replace h := dCons_ok h; obtain ⟨a10_, r11_, rfl, h⟩ := h
  replace h := dPl_ok h; obtain ⟨p4, rfl, h⟩ := h
  replace h := dCons_ok h; obtain ⟨a12_, r13_, rfl, h⟩ := h
  replace h := dPl_ok h; obtain ⟨p5, rfl, h⟩ := h
  replace h := dNil_ok h; obtain ⟨rfl, h⟩ := h
  replace h := dNil_ok h; obtain ⟨rfl, h⟩ := h
  replace h := dEnd_ok h; obtain ⟨rfl, h⟩ := h
  refine fun_ok (nt := 65) (x := bodyOf Try.f61) (Γ := Γ61) (H := H61) (WW := W61) (rs := [.cell 2 37, .tmp 3, .tmp 4]) (shs := [.ag [.own .int, .own .int, .own .int, .own .bool, .own .int], .own .int, .bl]) (cons := []) mixed Try.func61 (by decide) (by kernel_rfl) Try.ntmps61 Try.results61 (.cons (useC_ok s42) (.cons (useC_ok s44) (.cons (useC_ok s113) (.cons (useC_ok s95) (.cons (useC_ok s107) (.cons (useC_ok s96) (GSound.nil))))))) ?_ hA hN R hl
  rw [ht, e61 p1 p2 p3 p4 p5 K]
  exact h
/-! laws.eqIntS -/
def G52 : Con := fun args tm K => dCons args fun a1_ r2_ => dPl .int a1_ fun p1 => dCons r2_ fun a3_ r4_ => dPl .int a3_ fun p2 => dNil r4_ <| dEnd tm <| Ml_eqIntS p1 p2 (fun r1 => K (.bool r1) [])
def H52_0 : LH where
  keep := [(0, .pure .int), (1, .pure .int), (5, .x)]
  S := List Int × List Int × Int
  enc := fun s => ([.pl .int s.1, .pl .int s.2.1, .int .i64 s.2.2], [])
  dec := fun vs tm K => dCons vs fun a1_ r2_ => dPl .int a1_ fun q0 => dCons r2_ fun a3_ r4_ => dPl .int a3_ fun q1 => dCons r4_ fun a5_ r6_ => dInt .i64 a5_ fun q2 => dNil r6_ <| dEnd tm <| K (q0, q1, q2)
  law := by
    intro vs tm K h
    replace h := dCons_ok h; obtain ⟨a1_, r2_, rfl, h⟩ := h
    replace h := dPl_ok h; obtain ⟨q0, rfl, h⟩ := h
    replace h := dCons_ok h; obtain ⟨a3_, r4_, rfl, h⟩ := h
    replace h := dPl_ok h; obtain ⟨q1, rfl, h⟩ := h
    replace h := dCons_ok h; obtain ⟨a5_, r6_, rfl, h⟩ := h
    replace h := dInt_ok h; obtain ⟨q2, rfl, h⟩ := h
    replace h := dNil_ok h; obtain ⟨rfl, h⟩ := h
    replace h := dEnd_ok h; obtain ⟨rfl, h⟩ := h
    exact ⟨(q0, q1, q2), rfl, h⟩
def H52 : List (Nat × LH) := [(0, H52_0)]
def W52 : List (Nat × List (Nat × List Nat)) := []
def Γ52 : List (Nat × Con) := []
theorem e52 (p1 : List Int) (p2 : List Int) (K : TV → TMem → Prop) : TW PP 26 Γ52 H52 W52 (List.length ([] : TMem)) (bodyOf Try.f52) (endT PP 26 [.tmp 4] [.bl] [] (List.length ([] : TMem)) K) (argsF [.pl .int p1, .pl .int p2]) [] =
    Ml_eqIntS p1 p2 (fun r1 => K (.bool r1) []) := by kernel_rfl
theorem s52 : CSound PP 52 G52 := by
  intro args K c h fl A aargs hA hN R hl
  unfold G52 at h
  generalize ht : c.tm = tm at h
  replace h := dCons_ok h; obtain ⟨a1_, r2_, rfl, h⟩ := h
  replace h := dPl_ok h; obtain ⟨p1, rfl, h⟩ := h
  replace h := dCons_ok h; obtain ⟨a3_, r4_, rfl, h⟩ := h
  replace h := dPl_ok h; obtain ⟨p2, rfl, h⟩ := h
  replace h := dNil_ok h; obtain ⟨rfl, h⟩ := h
  replace h := dEnd_ok h; obtain ⟨rfl, h⟩ := h
  refine fun_ok (nt := 26) (x := bodyOf Try.f52) (Γ := Γ52) (H := H52) (WW := W52) (rs := [.tmp 4]) (shs := [.bl]) (cons := []) mixed Try.func52 (by decide) (by kernel_rfl) Try.ntmps52 Try.results52 (GSound.nil) ?_ hA hN R hl
  rw [ht, e52 p1 p2 K]
  exact h
/-! laws.eqHeap -/
def G51 : Con := fun args tm K => dCons args fun a1_ r2_ => dAgg a1_ fun l3_ => dCons l3_ fun a4_ r5_ => dPl .int a4_ fun p1 => dCons r5_ fun a6_ r7_ => dPl .int a6_ fun p2 => dCons r7_ fun a8_ r9_ => dPl .int a8_ fun p3 => dNil r9_ <| dCons r2_ fun a10_ r11_ => dAgg a10_ fun l12_ => dCons l12_ fun a13_ r14_ => dPl .int a13_ fun p4 => dCons r14_ fun a15_ r16_ => dPl .int a15_ fun p5 => dCons r16_ fun a17_ r18_ => dPl .int a17_ fun p6 => dNil r18_ <| dNil r11_ <| dEnd tm <| Ml_eqHeap p1 p2 p3 p4 p5 p6 (fun r1 => K (.bool r1) [])
def H51 : List (Nat × LH) := []
def W51 : List (Nat × List (Nat × List Nat)) := []
def Γ51 : List (Nat × Con) := [(52, useC [.pure .int, .pure .int] G52)]
theorem e51 (p1 : List Int) (p2 : List Int) (p3 : List Int) (p4 : List Int) (p5 : List Int) (p6 : List Int) (K : TV → TMem → Prop) : TW PP 23 Γ51 H51 W51 (List.length ([] : TMem)) (bodyOf Try.f51) (endT PP 23 [.tmp 4] [.bl] [] (List.length ([] : TMem)) K) (argsF [.agg [.pl .int p1, .pl .int p2, .pl .int p3], .agg [.pl .int p4, .pl .int p5, .pl .int p6]]) [] =
    Ml_eqHeap p1 p2 p3 p4 p5 p6 (fun r1 => K (.bool r1) []) := by kernel_rfl
theorem s51 : CSound PP 51 G51 := by
  intro args K c h fl A aargs hA hN R hl
  unfold G51 at h
  generalize ht : c.tm = tm at h
  replace h := dCons_ok h; obtain ⟨a1_, r2_, rfl, h⟩ := h
  replace h := dAgg_ok h; obtain ⟨l3_, rfl, h⟩ := h
  replace h := dCons_ok h; obtain ⟨a4_, r5_, rfl, h⟩ := h
  replace h := dPl_ok h; obtain ⟨p1, rfl, h⟩ := h
  replace h := dCons_ok h; obtain ⟨a6_, r7_, rfl, h⟩ := h
  replace h := dPl_ok h; obtain ⟨p2, rfl, h⟩ := h
  replace h := dCons_ok h; obtain ⟨a8_, r9_, rfl, h⟩ := h
  replace h := dPl_ok h; obtain ⟨p3, rfl, h⟩ := h
  replace h := dNil_ok h; obtain ⟨rfl, h⟩ := h
  replace h := dCons_ok h; obtain ⟨a10_, r11_, rfl, h⟩ := h
  replace h := dAgg_ok h; obtain ⟨l12_, rfl, h⟩ := h
  replace h := dCons_ok h; obtain ⟨a13_, r14_, rfl, h⟩ := h
  replace h := dPl_ok h; obtain ⟨p4, rfl, h⟩ := h
  replace h := dCons_ok h; obtain ⟨a15_, r16_, rfl, h⟩ := h
  replace h := dPl_ok h; obtain ⟨p5, rfl, h⟩ := h
  replace h := dCons_ok h; obtain ⟨a17_, r18_, rfl, h⟩ := h
  replace h := dPl_ok h; obtain ⟨p6, rfl, h⟩ := h
  replace h := dNil_ok h; obtain ⟨rfl, h⟩ := h
  replace h := dNil_ok h; obtain ⟨rfl, h⟩ := h
  replace h := dEnd_ok h; obtain ⟨rfl, h⟩ := h
  refine fun_ok (nt := 23) (x := bodyOf Try.f51) (Γ := Γ51) (H := H51) (WW := W51) (rs := [.tmp 4]) (shs := [.bl]) (cons := []) mixed Try.func51 (by decide) (by kernel_rfl) Try.ntmps51 Try.results51 (.cons (useC_ok s52) (GSound.nil)) ?_ hA hN R hl
  rw [ht, e51 p1 p2 p3 p4 p5 p6 K]
  exact h
/-! laws.eqBoolS -/
def G120 : Con := fun args tm K => dCons args fun a1_ r2_ => dPl .bool a1_ fun p1 => dCons r2_ fun a3_ r4_ => dPl .bool a3_ fun p2 => dNil r4_ <| dEnd tm <| Ml_eqBoolS p1 p2 (fun r1 => K (.bool r1) [])
def H120_0 : LH where
  keep := [(0, .pure .bool), (1, .pure .bool), (5, .x)]
  S := List Bool × List Bool × Int
  enc := fun s => ([.pl .bool s.1, .pl .bool s.2.1, .int .i64 s.2.2], [])
  dec := fun vs tm K => dCons vs fun a1_ r2_ => dPl .bool a1_ fun q0 => dCons r2_ fun a3_ r4_ => dPl .bool a3_ fun q1 => dCons r4_ fun a5_ r6_ => dInt .i64 a5_ fun q2 => dNil r6_ <| dEnd tm <| K (q0, q1, q2)
  law := by
    intro vs tm K h
    replace h := dCons_ok h; obtain ⟨a1_, r2_, rfl, h⟩ := h
    replace h := dPl_ok h; obtain ⟨q0, rfl, h⟩ := h
    replace h := dCons_ok h; obtain ⟨a3_, r4_, rfl, h⟩ := h
    replace h := dPl_ok h; obtain ⟨q1, rfl, h⟩ := h
    replace h := dCons_ok h; obtain ⟨a5_, r6_, rfl, h⟩ := h
    replace h := dInt_ok h; obtain ⟨q2, rfl, h⟩ := h
    replace h := dNil_ok h; obtain ⟨rfl, h⟩ := h
    replace h := dEnd_ok h; obtain ⟨rfl, h⟩ := h
    exact ⟨(q0, q1, q2), rfl, h⟩
def H120 : List (Nat × LH) := [(0, H120_0)]
def W120 : List (Nat × List (Nat × List Nat)) := []
def Γ120 : List (Nat × Con) := []
theorem e120 (p1 : List Bool) (p2 : List Bool) (K : TV → TMem → Prop) : TW PP 26 Γ120 H120 W120 (List.length ([] : TMem)) (bodyOf Try.f120) (endT PP 26 [.tmp 4] [.bl] [] (List.length ([] : TMem)) K) (argsF [.pl .bool p1, .pl .bool p2]) [] =
    Ml_eqBoolS p1 p2 (fun r1 => K (.bool r1) []) := by kernel_rfl
theorem s120 : CSound PP 120 G120 := by
  intro args K c h fl A aargs hA hN R hl
  unfold G120 at h
  generalize ht : c.tm = tm at h
  replace h := dCons_ok h; obtain ⟨a1_, r2_, rfl, h⟩ := h
  replace h := dPl_ok h; obtain ⟨p1, rfl, h⟩ := h
  replace h := dCons_ok h; obtain ⟨a3_, r4_, rfl, h⟩ := h
  replace h := dPl_ok h; obtain ⟨p2, rfl, h⟩ := h
  replace h := dNil_ok h; obtain ⟨rfl, h⟩ := h
  replace h := dEnd_ok h; obtain ⟨rfl, h⟩ := h
  refine fun_ok (nt := 26) (x := bodyOf Try.f120) (Γ := Γ120) (H := H120) (WW := W120) (rs := [.tmp 4]) (shs := [.bl]) (cons := []) mixed Try.func120 (by decide) (by kernel_rfl) Try.ntmps120 Try.results120 (GSound.nil) ?_ hA hN R hl
  rw [ht, e120 p1 p2 K]
  exact h
/-! laws.eqGens -/
def G73 : Con := fun args tm K => dCons args fun a1_ r2_ => dAgg a1_ fun l3_ => dCons l3_ fun a4_ r5_ => dPl .int a4_ fun p1 => dCons r5_ fun a6_ r7_ => dPl .int a6_ fun p2 => dCons r7_ fun a8_ r9_ => dPl .int a8_ fun p3 => dCons r9_ fun a10_ r11_ => dPl .bool a10_ fun p4 => dCons r11_ fun a12_ r13_ => dPl .int a12_ fun p5 => dNil r13_ <| dCons r2_ fun a14_ r15_ => dAgg a14_ fun l16_ => dCons l16_ fun a17_ r18_ => dPl .int a17_ fun p6 => dCons r18_ fun a19_ r20_ => dPl .int a19_ fun p7 => dCons r20_ fun a21_ r22_ => dPl .int a21_ fun p8 => dCons r22_ fun a23_ r24_ => dPl .bool a23_ fun p9 => dCons r24_ fun a25_ r26_ => dPl .int a25_ fun p10 => dNil r26_ <| dNil r15_ <| dEnd tm <| Ml_eqGens p1 p2 p3 p4 p5 p6 p7 p8 p9 p10 (fun r1 => K (.bool r1) [])
def H73 : List (Nat × LH) := []
def W73 : List (Nat × List (Nat × List Nat)) := []
def Γ73 : List (Nat × Con) := [(51, useC [.ag [.pure .int, .pure .int, .pure .int], .ag [.pure .int, .pure .int, .pure .int]] G51), (120, useC [.pure .bool, .pure .bool] G120), (52, useC [.pure .int, .pure .int] G52)]
theorem e73 (p1 : List Int) (p2 : List Int) (p3 : List Int) (p4 : List Bool) (p5 : List Int) (p6 : List Int) (p7 : List Int) (p8 : List Int) (p9 : List Bool) (p10 : List Int) (K : TV → TMem → Prop) : TW PP 23 Γ73 H73 W73 (List.length ([] : TMem)) (bodyOf Try.f73) (endT PP 23 [.tmp 4] [.bl] [] (List.length ([] : TMem)) K) (argsF [.agg [.pl .int p1, .pl .int p2, .pl .int p3, .pl .bool p4, .pl .int p5], .agg [.pl .int p6, .pl .int p7, .pl .int p8, .pl .bool p9, .pl .int p10]]) [] =
    Ml_eqGens p1 p2 p3 p4 p5 p6 p7 p8 p9 p10 (fun r1 => K (.bool r1) []) := by kernel_rfl
theorem s73 : CSound PP 73 G73 := by
  intro args K c h fl A aargs hA hN R hl
  unfold G73 at h
  generalize ht : c.tm = tm at h
  replace h := dCons_ok h; obtain ⟨a1_, r2_, rfl, h⟩ := h
  replace h := dAgg_ok h; obtain ⟨l3_, rfl, h⟩ := h
  replace h := dCons_ok h; obtain ⟨a4_, r5_, rfl, h⟩ := h
  replace h := dPl_ok h; obtain ⟨p1, rfl, h⟩ := h
  replace h := dCons_ok h; obtain ⟨a6_, r7_, rfl, h⟩ := h
  replace h := dPl_ok h; obtain ⟨p2, rfl, h⟩ := h
  replace h := dCons_ok h; obtain ⟨a8_, r9_, rfl, h⟩ := h
  replace h := dPl_ok h; obtain ⟨p3, rfl, h⟩ := h
  replace h := dCons_ok h; obtain ⟨a10_, r11_, rfl, h⟩ := h
  replace h := dPl_ok h; obtain ⟨p4, rfl, h⟩ := h
  replace h := dCons_ok h; obtain ⟨a12_, r13_, rfl, h⟩ := h
  replace h := dPl_ok h; obtain ⟨p5, rfl, h⟩ := h
  replace h := dNil_ok h; obtain ⟨rfl, h⟩ := h
  replace h := dCons_ok h; obtain ⟨a14_, r15_, rfl, h⟩ := h
  replace h := dAgg_ok h; obtain ⟨l16_, rfl, h⟩ := h
  replace h := dCons_ok h; obtain ⟨a17_, r18_, rfl, h⟩ := h
  replace h := dPl_ok h; obtain ⟨p6, rfl, h⟩ := h
  replace h := dCons_ok h; obtain ⟨a19_, r20_, rfl, h⟩ := h
  replace h := dPl_ok h; obtain ⟨p7, rfl, h⟩ := h
  replace h := dCons_ok h; obtain ⟨a21_, r22_, rfl, h⟩ := h
  replace h := dPl_ok h; obtain ⟨p8, rfl, h⟩ := h
  replace h := dCons_ok h; obtain ⟨a23_, r24_, rfl, h⟩ := h
  replace h := dPl_ok h; obtain ⟨p9, rfl, h⟩ := h
  replace h := dCons_ok h; obtain ⟨a25_, r26_, rfl, h⟩ := h
  replace h := dPl_ok h; obtain ⟨p10, rfl, h⟩ := h
  replace h := dNil_ok h; obtain ⟨rfl, h⟩ := h
  replace h := dNil_ok h; obtain ⟨rfl, h⟩ := h
  replace h := dEnd_ok h; obtain ⟨rfl, h⟩ := h
  refine fun_ok (nt := 23) (x := bodyOf Try.f73) (Γ := Γ73) (H := H73) (WW := W73) (rs := [.tmp 4]) (shs := [.bl]) (cons := []) mixed Try.func73 (by decide) (by kernel_rfl) Try.ntmps73 Try.results73 (.cons (useC_ok s51) (.cons (useC_ok s120) (.cons (useC_ok s52) (GSound.nil)))) ?_ hA hN R hl
  rw [ht, e73 p1 p2 p3 p4 p5 p6 p7 p8 p9 p10 K]
  exact h
/-! laws.markIntS -/
def G54 : Con := fun args tm K => dCons args fun a1_ r2_ => dSl 0 a1_ <| dCons r2_ fun a3_ r4_ => dInt .i64 a3_ fun p1 => dNil r4_ <| dBlk true tm fun b5_ m6_ => dList .int b5_ fun p2 => dEnd m6_ <| Ml_markIntS p1 p2 (fun r1 r2 => K (.int .i64 r1) [⟨true, .list .int r2⟩])
def H54_0 : LH where
  keep := [(0, .own .int), (1, .x), (5, .x)]
  S := Int × Int × List Int
  enc := fun s => ([.sl 0, .int .i64 s.1, .int .i64 s.2.1], [⟨true, .list .int s.2.2⟩])
  dec := fun vs tm K => dCons vs fun a1_ r2_ => dSl 0 a1_ <| dCons r2_ fun a3_ r4_ => dInt .i64 a3_ fun q0 => dCons r4_ fun a5_ r6_ => dInt .i64 a5_ fun q1 => dNil r6_ <| dBlk true tm fun b7_ m8_ => dList .int b7_ fun q2 => dEnd m8_ <| K (q0, q1, q2)
  law := by
    intro vs tm K h
    replace h := dCons_ok h; obtain ⟨a1_, r2_, rfl, h⟩ := h
    replace h := dSl_ok h; obtain ⟨rfl, h⟩ := h
    replace h := dCons_ok h; obtain ⟨a3_, r4_, rfl, h⟩ := h
    replace h := dInt_ok h; obtain ⟨q0, rfl, h⟩ := h
    replace h := dCons_ok h; obtain ⟨a5_, r6_, rfl, h⟩ := h
    replace h := dInt_ok h; obtain ⟨q1, rfl, h⟩ := h
    replace h := dNil_ok h; obtain ⟨rfl, h⟩ := h
    replace h := dBlk_ok h; obtain ⟨b7_, m8_, rfl, h⟩ := h
    replace h := dList_ok h; obtain ⟨q2, rfl, h⟩ := h
    replace h := dEnd_ok h; obtain ⟨rfl, h⟩ := h
    exact ⟨(q0, q1, q2), rfl, h⟩
def H54 : List (Nat × LH) := [(0, H54_0)]
def W54 : List (Nat × List (Nat × List Nat)) := []
def Γ54 : List (Nat × Con) := []
theorem e54 (p1 : Int) (p2 : List Int) (K : TV → TMem → Prop) : TW PP 19 Γ54 H54 W54 (List.length ([⟨true, .list .int p2⟩] : TMem)) (bodyOf Try.f54) (endT PP 19 [.tmp 4] [.x] [] (List.length ([⟨true, .list .int p2⟩] : TMem)) K) (argsF [.sl 0, .int .i64 p1]) [⟨true, .list .int p2⟩] =
    Ml_markIntS p1 p2 (fun r1 r2 => K (.int .i64 r1) [⟨true, .list .int r2⟩]) := by kernel_rfl
theorem s54 : CSound PP 54 G54 := by
  intro args K c h fl A aargs hA hN R hl
  unfold G54 at h
  generalize ht : c.tm = tm at h
  replace h := dCons_ok h; obtain ⟨a1_, r2_, rfl, h⟩ := h
  replace h := dSl_ok h; obtain ⟨rfl, h⟩ := h
  replace h := dCons_ok h; obtain ⟨a3_, r4_, rfl, h⟩ := h
  replace h := dInt_ok h; obtain ⟨p1, rfl, h⟩ := h
  replace h := dNil_ok h; obtain ⟨rfl, h⟩ := h
  replace h := dBlk_ok h; obtain ⟨b5_, m6_, rfl, h⟩ := h
  replace h := dList_ok h; obtain ⟨p2, rfl, h⟩ := h
  replace h := dEnd_ok h; obtain ⟨rfl, h⟩ := h
  refine fun_ok (nt := 19) (x := bodyOf Try.f54) (Γ := Γ54) (H := H54) (WW := W54) (rs := [.tmp 4]) (shs := [.x]) (cons := []) mixed Try.func54 (by decide) (by kernel_rfl) Try.ntmps54 Try.results54 (GSound.nil) ?_ hA hN R hl
  rw [ht, e54 p1 p2 K]
  exact h
/-! laws.markHeap -/
def G53 : Con := fun args tm K => dCons args fun a1_ r2_ => dAgg a1_ fun l3_ => dCons l3_ fun a4_ r5_ => dSl 0 a4_ <| dCons r5_ fun a6_ r7_ => dSl 1 a6_ <| dCons r7_ fun a8_ r9_ => dSl 2 a8_ <| dNil r9_ <| dCons r2_ fun a10_ r11_ => dInt .i64 a10_ fun p1 => dNil r11_ <| dBlk true tm fun b12_ m13_ => dList .int b12_ fun p2 => dBlk true m13_ fun b14_ m15_ => dList .int b14_ fun p3 => dBlk true m15_ fun b16_ m17_ => dList .int b16_ fun p4 => dEnd m17_ <| Ml_markHeap p1 p2 p3 p4 (fun r1 r2 r3 r4 => K (.int .i64 r1) [⟨true, .list .int r2⟩, ⟨true, .list .int r3⟩, ⟨true, .list .int r4⟩])
def H53 : List (Nat × LH) := []
def W53 : List (Nat × List (Nat × List Nat)) := []
def Γ53 : List (Nat × Con) := [(54, useC [.own .int, .x] G54)]
theorem e53 (p1 : Int) (p2 : List Int) (p3 : List Int) (p4 : List Int) (K : TV → TMem → Prop) : TW PP 18 Γ53 H53 W53 (List.length ([⟨true, .list .int p2⟩, ⟨true, .list .int p3⟩, ⟨true, .list .int p4⟩] : TMem)) (bodyOf Try.f53) (endT PP 18 [.tmp 4] [.x] [] (List.length ([⟨true, .list .int p2⟩, ⟨true, .list .int p3⟩, ⟨true, .list .int p4⟩] : TMem)) K) (argsF [.agg [.sl 0, .sl 1, .sl 2], .int .i64 p1]) [⟨true, .list .int p2⟩, ⟨true, .list .int p3⟩, ⟨true, .list .int p4⟩] =
    Ml_markHeap p1 p2 p3 p4 (fun r1 r2 r3 r4 => K (.int .i64 r1) [⟨true, .list .int r2⟩, ⟨true, .list .int r3⟩, ⟨true, .list .int r4⟩]) := by kernel_rfl
theorem s53 : CSound PP 53 G53 := by
  intro args K c h fl A aargs hA hN R hl
  unfold G53 at h
  generalize ht : c.tm = tm at h
  replace h := dCons_ok h; obtain ⟨a1_, r2_, rfl, h⟩ := h
  replace h := dAgg_ok h; obtain ⟨l3_, rfl, h⟩ := h
  replace h := dCons_ok h; obtain ⟨a4_, r5_, rfl, h⟩ := h
  replace h := dSl_ok h; obtain ⟨rfl, h⟩ := h
  replace h := dCons_ok h; obtain ⟨a6_, r7_, rfl, h⟩ := h
  replace h := dSl_ok h; obtain ⟨rfl, h⟩ := h
  replace h := dCons_ok h; obtain ⟨a8_, r9_, rfl, h⟩ := h
  replace h := dSl_ok h; obtain ⟨rfl, h⟩ := h
  replace h := dNil_ok h; obtain ⟨rfl, h⟩ := h
  replace h := dCons_ok h; obtain ⟨a10_, r11_, rfl, h⟩ := h
  replace h := dInt_ok h; obtain ⟨p1, rfl, h⟩ := h
  replace h := dNil_ok h; obtain ⟨rfl, h⟩ := h
  replace h := dBlk_ok h; obtain ⟨b12_, m13_, rfl, h⟩ := h
  replace h := dList_ok h; obtain ⟨p2, rfl, h⟩ := h
  replace h := dBlk_ok h; obtain ⟨b14_, m15_, rfl, h⟩ := h
  replace h := dList_ok h; obtain ⟨p3, rfl, h⟩ := h
  replace h := dBlk_ok h; obtain ⟨b16_, m17_, rfl, h⟩ := h
  replace h := dList_ok h; obtain ⟨p4, rfl, h⟩ := h
  replace h := dEnd_ok h; obtain ⟨rfl, h⟩ := h
  refine fun_ok (nt := 18) (x := bodyOf Try.f53) (Γ := Γ53) (H := H53) (WW := W53) (rs := [.tmp 4]) (shs := [.x]) (cons := []) mixed Try.func53 (by decide) (by kernel_rfl) Try.ntmps53 Try.results53 (.cons (useC_ok s54) (GSound.nil)) ?_ hA hN R hl
  rw [ht, e53 p1 p2 p3 p4 K]
  exact h
/-! laws.markBoolS -/
def G121 : Con := fun args tm K => dCons args fun a1_ r2_ => dSl 0 a1_ <| dCons r2_ fun a3_ r4_ => dInt .i64 a3_ fun p1 => dNil r4_ <| dBlk true tm fun b5_ m6_ => dList .bool b5_ fun p2 => dEnd m6_ <| Ml_markBoolS p1 p2 (fun r1 r2 => K (.int .i64 r1) [⟨true, .list .bool r2⟩])
def H121_0 : LH where
  keep := [(0, .own .bool), (1, .x), (5, .x)]
  S := Int × Int × List Bool
  enc := fun s => ([.sl 0, .int .i64 s.1, .int .i64 s.2.1], [⟨true, .list .bool s.2.2⟩])
  dec := fun vs tm K => dCons vs fun a1_ r2_ => dSl 0 a1_ <| dCons r2_ fun a3_ r4_ => dInt .i64 a3_ fun q0 => dCons r4_ fun a5_ r6_ => dInt .i64 a5_ fun q1 => dNil r6_ <| dBlk true tm fun b7_ m8_ => dList .bool b7_ fun q2 => dEnd m8_ <| K (q0, q1, q2)
  law := by
    intro vs tm K h
    replace h := dCons_ok h; obtain ⟨a1_, r2_, rfl, h⟩ := h
    replace h := dSl_ok h; obtain ⟨rfl, h⟩ := h
    replace h := dCons_ok h; obtain ⟨a3_, r4_, rfl, h⟩ := h
    replace h := dInt_ok h; obtain ⟨q0, rfl, h⟩ := h
    replace h := dCons_ok h; obtain ⟨a5_, r6_, rfl, h⟩ := h
    replace h := dInt_ok h; obtain ⟨q1, rfl, h⟩ := h
    replace h := dNil_ok h; obtain ⟨rfl, h⟩ := h
    replace h := dBlk_ok h; obtain ⟨b7_, m8_, rfl, h⟩ := h
    replace h := dList_ok h; obtain ⟨q2, rfl, h⟩ := h
    replace h := dEnd_ok h; obtain ⟨rfl, h⟩ := h
    exact ⟨(q0, q1, q2), rfl, h⟩
def H121 : List (Nat × LH) := [(0, H121_0)]
def W121 : List (Nat × List (Nat × List Nat)) := []
def Γ121 : List (Nat × Con) := []
theorem e121 (p1 : Int) (p2 : List Bool) (K : TV → TMem → Prop) : TW PP 21 Γ121 H121 W121 (List.length ([⟨true, .list .bool p2⟩] : TMem)) (bodyOf Try.f121) (endT PP 21 [.tmp 4] [.x] [] (List.length ([⟨true, .list .bool p2⟩] : TMem)) K) (argsF [.sl 0, .int .i64 p1]) [⟨true, .list .bool p2⟩] =
    Ml_markBoolS p1 p2 (fun r1 r2 => K (.int .i64 r1) [⟨true, .list .bool r2⟩]) := by kernel_rfl
theorem s121 : CSound PP 121 G121 := by
  intro args K c h fl A aargs hA hN R hl
  unfold G121 at h
  generalize ht : c.tm = tm at h
  replace h := dCons_ok h; obtain ⟨a1_, r2_, rfl, h⟩ := h
  replace h := dSl_ok h; obtain ⟨rfl, h⟩ := h
  replace h := dCons_ok h; obtain ⟨a3_, r4_, rfl, h⟩ := h
  replace h := dInt_ok h; obtain ⟨p1, rfl, h⟩ := h
  replace h := dNil_ok h; obtain ⟨rfl, h⟩ := h
  replace h := dBlk_ok h; obtain ⟨b5_, m6_, rfl, h⟩ := h
  replace h := dList_ok h; obtain ⟨p2, rfl, h⟩ := h
  replace h := dEnd_ok h; obtain ⟨rfl, h⟩ := h
  refine fun_ok (nt := 21) (x := bodyOf Try.f121) (Γ := Γ121) (H := H121) (WW := W121) (rs := [.tmp 4]) (shs := [.x]) (cons := []) mixed Try.func121 (by decide) (by kernel_rfl) Try.ntmps121 Try.results121 (GSound.nil) ?_ hA hN R hl
  rw [ht, e121 p1 p2 K]
  exact h
/-! laws.markGens -/
def G74 : Con := fun args tm K => dCons args fun a1_ r2_ => dAgg a1_ fun l3_ => dCons l3_ fun a4_ r5_ => dSl 0 a4_ <| dCons r5_ fun a6_ r7_ => dSl 1 a6_ <| dCons r7_ fun a8_ r9_ => dSl 2 a8_ <| dCons r9_ fun a10_ r11_ => dSl 3 a10_ <| dCons r11_ fun a12_ r13_ => dSl 4 a12_ <| dNil r13_ <| dCons r2_ fun a14_ r15_ => dInt .i64 a14_ fun p1 => dNil r15_ <| dBlk true tm fun b16_ m17_ => dList .int b16_ fun p2 => dBlk true m17_ fun b18_ m19_ => dList .int b18_ fun p3 => dBlk true m19_ fun b20_ m21_ => dList .int b20_ fun p4 => dBlk true m21_ fun b22_ m23_ => dList .bool b22_ fun p5 => dBlk true m23_ fun b24_ m25_ => dList .int b24_ fun p6 => dEnd m25_ <| Ml_markGens p1 p2 p3 p4 p5 p6 (fun r1 r2 r3 r4 r5 r6 => K (.int .i64 r1) [⟨true, .list .int r2⟩, ⟨true, .list .int r3⟩, ⟨true, .list .int r4⟩, ⟨true, .list .bool r5⟩, ⟨true, .list .int r6⟩])
def H74 : List (Nat × LH) := []
def W74 : List (Nat × List (Nat × List Nat)) := []
def Γ74 : List (Nat × Con) := [(53, useC [.ag [.own .int, .own .int, .own .int], .x] G53), (121, useC [.own .bool, .x] G121), (54, useC [.own .int, .x] G54)]
theorem e74 (p1 : Int) (p2 : List Int) (p3 : List Int) (p4 : List Int) (p5 : List Bool) (p6 : List Int) (K : TV → TMem → Prop) : TW PP 18 Γ74 H74 W74 (List.length ([⟨true, .list .int p2⟩, ⟨true, .list .int p3⟩, ⟨true, .list .int p4⟩, ⟨true, .list .bool p5⟩, ⟨true, .list .int p6⟩] : TMem)) (bodyOf Try.f74) (endT PP 18 [.tmp 4] [.x] [] (List.length ([⟨true, .list .int p2⟩, ⟨true, .list .int p3⟩, ⟨true, .list .int p4⟩, ⟨true, .list .bool p5⟩, ⟨true, .list .int p6⟩] : TMem)) K) (argsF [.agg [.sl 0, .sl 1, .sl 2, .sl 3, .sl 4], .int .i64 p1]) [⟨true, .list .int p2⟩, ⟨true, .list .int p3⟩, ⟨true, .list .int p4⟩, ⟨true, .list .bool p5⟩, ⟨true, .list .int p6⟩] =
    Ml_markGens p1 p2 p3 p4 p5 p6 (fun r1 r2 r3 r4 r5 r6 => K (.int .i64 r1) [⟨true, .list .int r2⟩, ⟨true, .list .int r3⟩, ⟨true, .list .int r4⟩, ⟨true, .list .bool r5⟩, ⟨true, .list .int r6⟩]) := by kernel_rfl
theorem s74 : CSound PP 74 G74 := by
  intro args K c h fl A aargs hA hN R hl
  unfold G74 at h
  generalize ht : c.tm = tm at h
  replace h := dCons_ok h; obtain ⟨a1_, r2_, rfl, h⟩ := h
  replace h := dAgg_ok h; obtain ⟨l3_, rfl, h⟩ := h
  replace h := dCons_ok h; obtain ⟨a4_, r5_, rfl, h⟩ := h
  replace h := dSl_ok h; obtain ⟨rfl, h⟩ := h
  replace h := dCons_ok h; obtain ⟨a6_, r7_, rfl, h⟩ := h
  replace h := dSl_ok h; obtain ⟨rfl, h⟩ := h
  replace h := dCons_ok h; obtain ⟨a8_, r9_, rfl, h⟩ := h
  replace h := dSl_ok h; obtain ⟨rfl, h⟩ := h
  replace h := dCons_ok h; obtain ⟨a10_, r11_, rfl, h⟩ := h
  replace h := dSl_ok h; obtain ⟨rfl, h⟩ := h
  replace h := dCons_ok h; obtain ⟨a12_, r13_, rfl, h⟩ := h
  replace h := dSl_ok h; obtain ⟨rfl, h⟩ := h
  replace h := dNil_ok h; obtain ⟨rfl, h⟩ := h
  replace h := dCons_ok h; obtain ⟨a14_, r15_, rfl, h⟩ := h
  replace h := dInt_ok h; obtain ⟨p1, rfl, h⟩ := h
  replace h := dNil_ok h; obtain ⟨rfl, h⟩ := h
  replace h := dBlk_ok h; obtain ⟨b16_, m17_, rfl, h⟩ := h
  replace h := dList_ok h; obtain ⟨p2, rfl, h⟩ := h
  replace h := dBlk_ok h; obtain ⟨b18_, m19_, rfl, h⟩ := h
  replace h := dList_ok h; obtain ⟨p3, rfl, h⟩ := h
  replace h := dBlk_ok h; obtain ⟨b20_, m21_, rfl, h⟩ := h
  replace h := dList_ok h; obtain ⟨p4, rfl, h⟩ := h
  replace h := dBlk_ok h; obtain ⟨b22_, m23_, rfl, h⟩ := h
  replace h := dList_ok h; obtain ⟨p5, rfl, h⟩ := h
  replace h := dBlk_ok h; obtain ⟨b24_, m25_, rfl, h⟩ := h
  replace h := dList_ok h; obtain ⟨p6, rfl, h⟩ := h
  replace h := dEnd_ok h; obtain ⟨rfl, h⟩ := h
  refine fun_ok (nt := 18) (x := bodyOf Try.f74) (Γ := Γ74) (H := H74) (WW := W74) (rs := [.tmp 4]) (shs := [.x]) (cons := []) mixed Try.func74 (by decide) (by kernel_rfl) Try.ntmps74 Try.results74 (.cons (useC_ok s53) (.cons (useC_ok s121) (.cons (useC_ok s54) (GSound.nil)))) ?_ hA hN R hl
  rw [ht, e74 p1 p2 p3 p4 p5 p6 K]
  exact h
/-! laws.heldIntS -/
def G68 : Con := fun args tm K => dCons args fun a1_ r2_ => dPl .int a1_ fun p1 => dCons r2_ fun a3_ r4_ => dInt .i64 a3_ fun p2 => dNil r4_ <| dEnd tm <| Ml_heldIntS p1 p2 (fun r1 => K (.int .i64 r1) [])
def H68_0 : LH where
  keep := [(0, .pure .int), (1, .x), (5, .x)]
  S := List Int × Int × Int
  enc := fun s => ([.pl .int s.1, .int .i64 s.2.1, .int .i64 s.2.2], [])
  dec := fun vs tm K => dCons vs fun a1_ r2_ => dPl .int a1_ fun q0 => dCons r2_ fun a3_ r4_ => dInt .i64 a3_ fun q1 => dCons r4_ fun a5_ r6_ => dInt .i64 a5_ fun q2 => dNil r6_ <| dEnd tm <| K (q0, q1, q2)
  law := by
    intro vs tm K h
    replace h := dCons_ok h; obtain ⟨a1_, r2_, rfl, h⟩ := h
    replace h := dPl_ok h; obtain ⟨q0, rfl, h⟩ := h
    replace h := dCons_ok h; obtain ⟨a3_, r4_, rfl, h⟩ := h
    replace h := dInt_ok h; obtain ⟨q1, rfl, h⟩ := h
    replace h := dCons_ok h; obtain ⟨a5_, r6_, rfl, h⟩ := h
    replace h := dInt_ok h; obtain ⟨q2, rfl, h⟩ := h
    replace h := dNil_ok h; obtain ⟨rfl, h⟩ := h
    replace h := dEnd_ok h; obtain ⟨rfl, h⟩ := h
    exact ⟨(q0, q1, q2), rfl, h⟩
def H68 : List (Nat × LH) := [(0, H68_0)]
def W68 : List (Nat × List (Nat × List Nat)) := []
def Γ68 : List (Nat × Con) := []
theorem e68 (p1 : List Int) (p2 : Int) (K : TV → TMem → Prop) : TW PP 21 Γ68 H68 W68 (List.length ([] : TMem)) (bodyOf Try.f68) (endT PP 21 [.tmp 4] [.x] [] (List.length ([] : TMem)) K) (argsF [.pl .int p1, .int .i64 p2]) [] =
    Ml_heldIntS p1 p2 (fun r1 => K (.int .i64 r1) []) := by kernel_rfl
theorem s68 : CSound PP 68 G68 := by
  intro args K c h fl A aargs hA hN R hl
  unfold G68 at h
  generalize ht : c.tm = tm at h
  replace h := dCons_ok h; obtain ⟨a1_, r2_, rfl, h⟩ := h
  replace h := dPl_ok h; obtain ⟨p1, rfl, h⟩ := h
  replace h := dCons_ok h; obtain ⟨a3_, r4_, rfl, h⟩ := h
  replace h := dInt_ok h; obtain ⟨p2, rfl, h⟩ := h
  replace h := dNil_ok h; obtain ⟨rfl, h⟩ := h
  replace h := dEnd_ok h; obtain ⟨rfl, h⟩ := h
  refine fun_ok (nt := 21) (x := bodyOf Try.f68) (Γ := Γ68) (H := H68) (WW := W68) (rs := [.tmp 4]) (shs := [.x]) (cons := []) mixed Try.func68 (by decide) (by kernel_rfl) Try.ntmps68 Try.results68 (GSound.nil) ?_ hA hN R hl
  rw [ht, e68 p1 p2 K]
  exact h
/-! laws.heldHeap -/
def G55 : Con := fun args tm K => dCons args fun a1_ r2_ => dAgg a1_ fun l3_ => dCons l3_ fun a4_ r5_ => dPl .int a4_ fun p1 => dCons r5_ fun a6_ r7_ => dPl .int a6_ fun p2 => dCons r7_ fun a8_ r9_ => dPl .int a8_ fun p3 => dNil r9_ <| dCons r2_ fun a10_ r11_ => dInt .i64 a10_ fun p4 => dNil r11_ <| dEnd tm <| Ml_heldHeap p1 p2 p3 p4 (fun r1 => K (.int .i64 r1) [])
def H55 : List (Nat × LH) := []
def W55 : List (Nat × List (Nat × List Nat)) := []
def Γ55 : List (Nat × Con) := [(68, useC [.pure .int, .x] G68)]
theorem e55 (p1 : List Int) (p2 : List Int) (p3 : List Int) (p4 : Int) (K : TV → TMem → Prop) : TW PP 24 Γ55 H55 W55 (List.length ([] : TMem)) (bodyOf Try.f55) (endT PP 24 [.tmp 4] [.x] [] (List.length ([] : TMem)) K) (argsF [.agg [.pl .int p1, .pl .int p2, .pl .int p3], .int .i64 p4]) [] =
    Ml_heldHeap p1 p2 p3 p4 (fun r1 => K (.int .i64 r1) []) := by kernel_rfl
theorem s55 : CSound PP 55 G55 := by
  intro args K c h fl A aargs hA hN R hl
  unfold G55 at h
  generalize ht : c.tm = tm at h
  replace h := dCons_ok h; obtain ⟨a1_, r2_, rfl, h⟩ := h
  replace h := dAgg_ok h; obtain ⟨l3_, rfl, h⟩ := h
  replace h := dCons_ok h; obtain ⟨a4_, r5_, rfl, h⟩ := h
  replace h := dPl_ok h; obtain ⟨p1, rfl, h⟩ := h
  replace h := dCons_ok h; obtain ⟨a6_, r7_, rfl, h⟩ := h
  replace h := dPl_ok h; obtain ⟨p2, rfl, h⟩ := h
  replace h := dCons_ok h; obtain ⟨a8_, r9_, rfl, h⟩ := h
  replace h := dPl_ok h; obtain ⟨p3, rfl, h⟩ := h
  replace h := dNil_ok h; obtain ⟨rfl, h⟩ := h
  replace h := dCons_ok h; obtain ⟨a10_, r11_, rfl, h⟩ := h
  replace h := dInt_ok h; obtain ⟨p4, rfl, h⟩ := h
  replace h := dNil_ok h; obtain ⟨rfl, h⟩ := h
  replace h := dEnd_ok h; obtain ⟨rfl, h⟩ := h
  refine fun_ok (nt := 24) (x := bodyOf Try.f55) (Γ := Γ55) (H := H55) (WW := W55) (rs := [.tmp 4]) (shs := [.x]) (cons := []) mixed Try.func55 (by decide) (by kernel_rfl) Try.ntmps55 Try.results55 (.cons (useC_ok s68) (GSound.nil)) ?_ hA hN R hl
  rw [ht, e55 p1 p2 p3 p4 K]
  exact h
/-! laws.heldBoolS -/
def G122 : Con := fun args tm K => dCons args fun a1_ r2_ => dPl .bool a1_ fun p1 => dCons r2_ fun a3_ r4_ => dInt .i64 a3_ fun p2 => dNil r4_ <| dEnd tm <| Ml_heldBoolS p1 p2 (fun r1 => K (.int .i64 r1) [])
def H122_0 : LH where
  keep := [(0, .pure .bool), (1, .x), (5, .x)]
  S := List Bool × Int × Int
  enc := fun s => ([.pl .bool s.1, .int .i64 s.2.1, .int .i64 s.2.2], [])
  dec := fun vs tm K => dCons vs fun a1_ r2_ => dPl .bool a1_ fun q0 => dCons r2_ fun a3_ r4_ => dInt .i64 a3_ fun q1 => dCons r4_ fun a5_ r6_ => dInt .i64 a5_ fun q2 => dNil r6_ <| dEnd tm <| K (q0, q1, q2)
  law := by
    intro vs tm K h
    replace h := dCons_ok h; obtain ⟨a1_, r2_, rfl, h⟩ := h
    replace h := dPl_ok h; obtain ⟨q0, rfl, h⟩ := h
    replace h := dCons_ok h; obtain ⟨a3_, r4_, rfl, h⟩ := h
    replace h := dInt_ok h; obtain ⟨q1, rfl, h⟩ := h
    replace h := dCons_ok h; obtain ⟨a5_, r6_, rfl, h⟩ := h
    replace h := dInt_ok h; obtain ⟨q2, rfl, h⟩ := h
    replace h := dNil_ok h; obtain ⟨rfl, h⟩ := h
    replace h := dEnd_ok h; obtain ⟨rfl, h⟩ := h
    exact ⟨(q0, q1, q2), rfl, h⟩
def H122 : List (Nat × LH) := [(0, H122_0)]
def W122 : List (Nat × List (Nat × List Nat)) := []
def Γ122 : List (Nat × Con) := []
theorem e122 (p1 : List Bool) (p2 : Int) (K : TV → TMem → Prop) : TW PP 23 Γ122 H122 W122 (List.length ([] : TMem)) (bodyOf Try.f122) (endT PP 23 [.tmp 4] [.x] [] (List.length ([] : TMem)) K) (argsF [.pl .bool p1, .int .i64 p2]) [] =
    Ml_heldBoolS p1 p2 (fun r1 => K (.int .i64 r1) []) := by kernel_rfl
theorem s122 : CSound PP 122 G122 := by
  intro args K c h fl A aargs hA hN R hl
  unfold G122 at h
  generalize ht : c.tm = tm at h
  replace h := dCons_ok h; obtain ⟨a1_, r2_, rfl, h⟩ := h
  replace h := dPl_ok h; obtain ⟨p1, rfl, h⟩ := h
  replace h := dCons_ok h; obtain ⟨a3_, r4_, rfl, h⟩ := h
  replace h := dInt_ok h; obtain ⟨p2, rfl, h⟩ := h
  replace h := dNil_ok h; obtain ⟨rfl, h⟩ := h
  replace h := dEnd_ok h; obtain ⟨rfl, h⟩ := h
  refine fun_ok (nt := 23) (x := bodyOf Try.f122) (Γ := Γ122) (H := H122) (WW := W122) (rs := [.tmp 4]) (shs := [.x]) (cons := []) mixed Try.func122 (by decide) (by kernel_rfl) Try.ntmps122 Try.results122 (GSound.nil) ?_ hA hN R hl
  rw [ht, e122 p1 p2 K]
  exact h
/-! laws.heldGens -/
def G77 : Con := fun args tm K => dCons args fun a1_ r2_ => dAgg a1_ fun l3_ => dCons l3_ fun a4_ r5_ => dPl .int a4_ fun p1 => dCons r5_ fun a6_ r7_ => dPl .int a6_ fun p2 => dCons r7_ fun a8_ r9_ => dPl .int a8_ fun p3 => dCons r9_ fun a10_ r11_ => dPl .bool a10_ fun p4 => dCons r11_ fun a12_ r13_ => dPl .int a12_ fun p5 => dNil r13_ <| dCons r2_ fun a14_ r15_ => dInt .i64 a14_ fun p6 => dNil r15_ <| dEnd tm <| Ml_heldGens p1 p2 p3 p4 p5 p6 (fun r1 => K (.int .i64 r1) [])
def H77 : List (Nat × LH) := []
def W77 : List (Nat × List (Nat × List Nat)) := []
def Γ77 : List (Nat × Con) := [(55, useC [.ag [.pure .int, .pure .int, .pure .int], .x] G55), (122, useC [.pure .bool, .x] G122), (68, useC [.pure .int, .x] G68)]
theorem e77 (p1 : List Int) (p2 : List Int) (p3 : List Int) (p4 : List Bool) (p5 : List Int) (p6 : Int) (K : TV → TMem → Prop) : TW PP 24 Γ77 H77 W77 (List.length ([] : TMem)) (bodyOf Try.f77) (endT PP 24 [.tmp 4] [.x] [] (List.length ([] : TMem)) K) (argsF [.agg [.pl .int p1, .pl .int p2, .pl .int p3, .pl .bool p4, .pl .int p5], .int .i64 p6]) [] =
    Ml_heldGens p1 p2 p3 p4 p5 p6 (fun r1 => K (.int .i64 r1) []) := by kernel_rfl
theorem s77 : CSound PP 77 G77 := by
  intro args K c h fl A aargs hA hN R hl
  unfold G77 at h
  generalize ht : c.tm = tm at h
  replace h := dCons_ok h; obtain ⟨a1_, r2_, rfl, h⟩ := h
  replace h := dAgg_ok h; obtain ⟨l3_, rfl, h⟩ := h
  replace h := dCons_ok h; obtain ⟨a4_, r5_, rfl, h⟩ := h
  replace h := dPl_ok h; obtain ⟨p1, rfl, h⟩ := h
  replace h := dCons_ok h; obtain ⟨a6_, r7_, rfl, h⟩ := h
  replace h := dPl_ok h; obtain ⟨p2, rfl, h⟩ := h
  replace h := dCons_ok h; obtain ⟨a8_, r9_, rfl, h⟩ := h
  replace h := dPl_ok h; obtain ⟨p3, rfl, h⟩ := h
  replace h := dCons_ok h; obtain ⟨a10_, r11_, rfl, h⟩ := h
  replace h := dPl_ok h; obtain ⟨p4, rfl, h⟩ := h
  replace h := dCons_ok h; obtain ⟨a12_, r13_, rfl, h⟩ := h
  replace h := dPl_ok h; obtain ⟨p5, rfl, h⟩ := h
  replace h := dNil_ok h; obtain ⟨rfl, h⟩ := h
  replace h := dCons_ok h; obtain ⟨a14_, r15_, rfl, h⟩ := h
  replace h := dInt_ok h; obtain ⟨p6, rfl, h⟩ := h
  replace h := dNil_ok h; obtain ⟨rfl, h⟩ := h
  replace h := dEnd_ok h; obtain ⟨rfl, h⟩ := h
  refine fun_ok (nt := 24) (x := bodyOf Try.f77) (Γ := Γ77) (H := H77) (WW := W77) (rs := [.tmp 4]) (shs := [.x]) (cons := []) mixed Try.func77 (by decide) (by kernel_rfl) Try.ntmps77 Try.results77 (.cons (useC_ok s55) (.cons (useC_ok s122) (.cons (useC_ok s68) (GSound.nil)))) ?_ hA hN R hl
  rw [ht, e77 p1 p2 p3 p4 p5 p6 K]
  exact h
/-! laws.FnExactSmallCollect -/
def G24 : Con := fun args tm K => dCons args fun a1_ r2_ => dAgg a1_ fun l3_ => dCons l3_ fun a4_ r5_ => dPl .int a4_ fun p1 => dCons r5_ fun a6_ r7_ => dPl .int a6_ fun p2 => dCons r7_ fun a8_ r9_ => dPl .int a8_ fun p3 => dCons r9_ fun a10_ r11_ => dPl .bool a10_ fun p4 => dCons r11_ fun a12_ r13_ => dPl .int a12_ fun p5 => dNil r13_ <| dNil r2_ <| dEnd tm <| Ml_FnExactSmallCollect p1 p2 p3 p4 p5 (fun r1 => K (.bool r1) [])
def H24_1000006 : LH where
  keep := [(1, .pc [.pure .int, .pure .int, .pure .int, .pure .bool, .pure .int]), (4, .pc [.own .int, .own .int, .own .int, .own .bool, .own .int]), (5, .own .int), (6, .bl)]
  S := Bool × List Int × List Int × List Int × List Bool × List Int × List Int × List Int × List Int × List Int × List Bool × List Int
  enc := fun s => ([.ptr 0 0, .ptr 1 0, .sl 2, .bool s.1], [⟨true, .cells [.pl .int s.2.1, .pl .int s.2.2.1, .pl .int s.2.2.2.1, .pl .bool s.2.2.2.2.1, .pl .int s.2.2.2.2.2.1]⟩, ⟨true, .cells [.sl 3, .sl 4, .sl 5, .sl 6, .sl 7]⟩, ⟨true, .list .int s.2.2.2.2.2.2.1⟩, ⟨true, .list .int s.2.2.2.2.2.2.2.1⟩, ⟨true, .list .int s.2.2.2.2.2.2.2.2.1⟩, ⟨true, .list .int s.2.2.2.2.2.2.2.2.2.1⟩, ⟨true, .list .bool s.2.2.2.2.2.2.2.2.2.2.1⟩, ⟨true, .list .int s.2.2.2.2.2.2.2.2.2.2.2⟩])
  dec := fun vs tm K => dCons vs fun a1_ r2_ => dPtr 0 a1_ <| dCons r2_ fun a3_ r4_ => dPtr 1 a3_ <| dCons r4_ fun a5_ r6_ => dSl 2 a5_ <| dCons r6_ fun a7_ r8_ => dBool a7_ fun q0 => dNil r8_ <| dBlk true tm fun b9_ m10_ => dCells b9_ fun c11_ => dCons c11_ fun a12_ r13_ => dPl .int a12_ fun q1 => dCons r13_ fun a14_ r15_ => dPl .int a14_ fun q2 => dCons r15_ fun a16_ r17_ => dPl .int a16_ fun q3 => dCons r17_ fun a18_ r19_ => dPl .bool a18_ fun q4 => dCons r19_ fun a20_ r21_ => dPl .int a20_ fun q5 => dNil r21_ <| dBlk true m10_ fun b22_ m23_ => dCells b22_ fun c24_ => dCons c24_ fun a25_ r26_ => dSl 3 a25_ <| dCons r26_ fun a27_ r28_ => dSl 4 a27_ <| dCons r28_ fun a29_ r30_ => dSl 5 a29_ <| dCons r30_ fun a31_ r32_ => dSl 6 a31_ <| dCons r32_ fun a33_ r34_ => dSl 7 a33_ <| dNil r34_ <| dBlk true m23_ fun b35_ m36_ => dList .int b35_ fun q6 => dBlk true m36_ fun b37_ m38_ => dList .int b37_ fun q7 => dBlk true m38_ fun b39_ m40_ => dList .int b39_ fun q8 => dBlk true m40_ fun b41_ m42_ => dList .int b41_ fun q9 => dBlk true m42_ fun b43_ m44_ => dList .bool b43_ fun q10 => dBlk true m44_ fun b45_ m46_ => dList .int b45_ fun q11 => dEnd m46_ <| K (q0, q1, q2, q3, q4, q5, q6, q7, q8, q9, q10, q11)
  law := by
    intro vs tm K h
    replace h := dCons_ok h; obtain ⟨a1_, r2_, rfl, h⟩ := h
    replace h := dPtr_ok h; obtain ⟨rfl, h⟩ := h
    replace h := dCons_ok h; obtain ⟨a3_, r4_, rfl, h⟩ := h
    replace h := dPtr_ok h; obtain ⟨rfl, h⟩ := h
    replace h := dCons_ok h; obtain ⟨a5_, r6_, rfl, h⟩ := h
    replace h := dSl_ok h; obtain ⟨rfl, h⟩ := h
    replace h := dCons_ok h; obtain ⟨a7_, r8_, rfl, h⟩ := h
    replace h := dBool_ok h; obtain ⟨q0, rfl, h⟩ := h
    replace h := dNil_ok h; obtain ⟨rfl, h⟩ := h
    replace h := dBlk_ok h; obtain ⟨b9_, m10_, rfl, h⟩ := h
    replace h := dCells_ok h; obtain ⟨c11_, rfl, h⟩ := h
    replace h := dCons_ok h; obtain ⟨a12_, r13_, rfl, h⟩ := h
    replace h := dPl_ok h; obtain ⟨q1, rfl, h⟩ := h
    replace h := dCons_ok h; obtain ⟨a14_, r15_, rfl, h⟩ := h
    replace h := dPl_ok h; obtain ⟨q2, rfl, h⟩ := h
    replace h := dCons_ok h; obtain ⟨a16_, r17_, rfl, h⟩ := h
    replace h := dPl_ok h; obtain ⟨q3, rfl, h⟩ := h
    replace h := dCons_ok h; obtain ⟨a18_, r19_, rfl, h⟩ := h
    replace h := dPl_ok h; obtain ⟨q4, rfl, h⟩ := h
    replace h := dCons_ok h; obtain ⟨a20_, r21_, rfl, h⟩ := h
    replace h := dPl_ok h; obtain ⟨q5, rfl, h⟩ := h
    replace h := dNil_ok h; obtain ⟨rfl, h⟩ := h
    replace h := dBlk_ok h; obtain ⟨b22_, m23_, rfl, h⟩ := h
    replace h := dCells_ok h; obtain ⟨c24_, rfl, h⟩ := h
    replace h := dCons_ok h; obtain ⟨a25_, r26_, rfl, h⟩ := h
    replace h := dSl_ok h; obtain ⟨rfl, h⟩ := h
    replace h := dCons_ok h; obtain ⟨a27_, r28_, rfl, h⟩ := h
    replace h := dSl_ok h; obtain ⟨rfl, h⟩ := h
    replace h := dCons_ok h; obtain ⟨a29_, r30_, rfl, h⟩ := h
    replace h := dSl_ok h; obtain ⟨rfl, h⟩ := h
    replace h := dCons_ok h; obtain ⟨a31_, r32_, rfl, h⟩ := h
    replace h := dSl_ok h; obtain ⟨rfl, h⟩ := h
    replace h := dCons_ok h; obtain ⟨a33_, r34_, rfl, h⟩ := h
    replace h := dSl_ok h; obtain ⟨rfl, h⟩ := h
    replace h := dNil_ok h; obtain ⟨rfl, h⟩ := h
    replace h := dBlk_ok h; obtain ⟨b35_, m36_, rfl, h⟩ := h
    replace h := dList_ok h; obtain ⟨q6, rfl, h⟩ := h
    replace h := dBlk_ok h; obtain ⟨b37_, m38_, rfl, h⟩ := h
    replace h := dList_ok h; obtain ⟨q7, rfl, h⟩ := h
    replace h := dBlk_ok h; obtain ⟨b39_, m40_, rfl, h⟩ := h
    replace h := dList_ok h; obtain ⟨q8, rfl, h⟩ := h
    replace h := dBlk_ok h; obtain ⟨b41_, m42_, rfl, h⟩ := h
    replace h := dList_ok h; obtain ⟨q9, rfl, h⟩ := h
    replace h := dBlk_ok h; obtain ⟨b43_, m44_, rfl, h⟩ := h
    replace h := dList_ok h; obtain ⟨q10, rfl, h⟩ := h
    replace h := dBlk_ok h; obtain ⟨b45_, m46_, rfl, h⟩ := h
    replace h := dList_ok h; obtain ⟨q11, rfl, h⟩ := h
    replace h := dEnd_ok h; obtain ⟨rfl, h⟩ := h
    exact ⟨(q0, q1, q2, q3, q4, q5, q6, q7, q8, q9, q10, q11), rfl, h⟩
def H24_1000009 : LH where
  keep := []
  S := Unit
  enc := fun s => ([], [])
  dec := fun vs tm K => dNil vs <| dEnd tm <| K ()
  law := by
    intro vs tm K h
    replace h := dNil_ok h; obtain ⟨rfl, h⟩ := h
    replace h := dEnd_ok h; obtain ⟨rfl, h⟩ := h
    exact ⟨(), rfl, h⟩
def H24_1000011 : LH where
  keep := []
  S := Unit
  enc := fun s => ([], [])
  dec := fun vs tm K => dNil vs <| dEnd tm <| K ()
  law := by
    intro vs tm K h
    replace h := dNil_ok h; obtain ⟨rfl, h⟩ := h
    replace h := dEnd_ok h; obtain ⟨rfl, h⟩ := h
    exact ⟨(), rfl, h⟩
def H24_1000012 : LH where
  keep := [(1, .pc [.pure .int, .pure .int, .pure .int, .pure .bool, .pure .int]), (4, .pc [.own .int, .own .int, .own .int, .own .bool, .own .int]), (5, .own .int), (6, .bl), (7, .pc [.own .int, .own .int, .own .int, .own .bool, .own .int]), (8, .pc [.own .int, .own .int, .own .int, .own .bool, .own .int]), (9, .own .int), (10, .bl)]
  S := Bool × Bool × List Int × List Int × List Int × List Bool × List Int × List Int × List Int × List Int × List Int × List Int × List Bool × List Int × List Int × List Int × List Int × List Bool × List Int × List Int × List Int × List Int × List Bool × List Int
  enc := fun s => ([.ptr 0 0, .ptr 1 0, .sl 2, .bool s.1, .ptr 3 0, .ptr 4 0, .sl 5, .bool s.2.1], [⟨true, .cells [.pl .int s.2.2.1, .pl .int s.2.2.2.1, .pl .int s.2.2.2.2.1, .pl .bool s.2.2.2.2.2.1, .pl .int s.2.2.2.2.2.2.1]⟩, ⟨true, .cells [.sl 6, .sl 7, .sl 8, .sl 9, .sl 10]⟩, ⟨true, .list .int s.2.2.2.2.2.2.2.1⟩, ⟨true, .cells [.sl 11, .sl 12, .sl 13, .sl 14, .sl 15]⟩, ⟨true, .cells [.sl 16, .sl 17, .sl 18, .sl 19, .sl 20]⟩, ⟨true, .list .int s.2.2.2.2.2.2.2.2.1⟩, ⟨true, .list .int s.2.2.2.2.2.2.2.2.2.1⟩, ⟨true, .list .int s.2.2.2.2.2.2.2.2.2.2.1⟩, ⟨true, .list .int s.2.2.2.2.2.2.2.2.2.2.2.1⟩, ⟨true, .list .bool s.2.2.2.2.2.2.2.2.2.2.2.2.1⟩, ⟨true, .list .int s.2.2.2.2.2.2.2.2.2.2.2.2.2.1⟩, ⟨true, .list .int s.2.2.2.2.2.2.2.2.2.2.2.2.2.2.1⟩, ⟨true, .list .int s.2.2.2.2.2.2.2.2.2.2.2.2.2.2.2.1⟩, ⟨true, .list .int s.2.2.2.2.2.2.2.2.2.2.2.2.2.2.2.2.1⟩, ⟨true, .list .bool s.2.2.2.2.2.2.2.2.2.2.2.2.2.2.2.2.2.1⟩, ⟨true, .list .int s.2.2.2.2.2.2.2.2.2.2.2.2.2.2.2.2.2.2.1⟩, ⟨true, .list .int s.2.2.2.2.2.2.2.2.2.2.2.2.2.2.2.2.2.2.2.1⟩, ⟨true, .list .int s.2.2.2.2.2.2.2.2.2.2.2.2.2.2.2.2.2.2.2.2.1⟩, ⟨true, .list .int s.2.2.2.2.2.2.2.2.2.2.2.2.2.2.2.2.2.2.2.2.2.1⟩, ⟨true, .list .bool s.2.2.2.2.2.2.2.2.2.2.2.2.2.2.2.2.2.2.2.2.2.2.1⟩, ⟨true, .list .int s.2.2.2.2.2.2.2.2.2.2.2.2.2.2.2.2.2.2.2.2.2.2.2⟩])
  dec := fun vs tm K => dCons vs fun a1_ r2_ => dPtr 0 a1_ <| dCons r2_ fun a3_ r4_ => dPtr 1 a3_ <| dCons r4_ fun a5_ r6_ => dSl 2 a5_ <| dCons r6_ fun a7_ r8_ => dBool a7_ fun q0 => dCons r8_ fun a9_ r10_ => dPtr 3 a9_ <| dCons r10_ fun a11_ r12_ => dPtr 4 a11_ <| dCons r12_ fun a13_ r14_ => dSl 5 a13_ <| dCons r14_ fun a15_ r16_ => dBool a15_ fun q1 => dNil r16_ <| dBlk true tm fun b17_ m18_ => dCells b17_ fun c19_ => dCons c19_ fun a20_ r21_ => dPl .int a20_ fun q2 => dCons r21_ fun a22_ r23_ => dPl .int a22_ fun q3 => dCons r23_ fun a24_ r25_ => dPl .int a24_ fun q4 => dCons r25_ fun a26_ r27_ => dPl .bool a26_ fun q5 => dCons r27_ fun a28_ r29_ => dPl .int a28_ fun q6 => dNil r29_ <| dBlk true m18_ fun b30_ m31_ => dCells b30_ fun c32_ => dCons c32_ fun a33_ r34_ => dSl 6 a33_ <| dCons r34_ fun a35_ r36_ => dSl 7 a35_ <| dCons r36_ fun a37_ r38_ => dSl 8 a37_ <| dCons r38_ fun a39_ r40_ => dSl 9 a39_ <| dCons r40_ fun a41_ r42_ => dSl 10 a41_ <| dNil r42_ <| dBlk true m31_ fun b43_ m44_ => dList .int b43_ fun q7 => dBlk true m44_ fun b45_ m46_ => dCells b45_ fun c47_ => dCons c47_ fun a48_ r49_ => dSl 11 a48_ <| dCons r49_ fun a50_ r51_ => dSl 12 a50_ <| dCons r51_ fun a52_ r53_ => dSl 13 a52_ <| dCons r53_ fun a54_ r55_ => dSl 14 a54_ <| dCons r55_ fun a56_ r57_ => dSl 15 a56_ <| dNil r57_ <| dBlk true m46_ fun b58_ m59_ => dCells b58_ fun c60_ => dCons c60_ fun a61_ r62_ => dSl 16 a61_ <| dCons r62_ fun a63_ r64_ => dSl 17 a63_ <| dCons r64_ fun a65_ r66_ => dSl 18 a65_ <| dCons r66_ fun a67_ r68_ => dSl 19 a67_ <| dCons r68_ fun a69_ r70_ => dSl 20 a69_ <| dNil r70_ <| dBlk true m59_ fun b71_ m72_ => dList .int b71_ fun q8 => dBlk true m72_ fun b73_ m74_ => dList .int b73_ fun q9 => dBlk true m74_ fun b75_ m76_ => dList .int b75_ fun q10 => dBlk true m76_ fun b77_ m78_ => dList .int b77_ fun q11 => dBlk true m78_ fun b79_ m80_ => dList .bool b79_ fun q12 => dBlk true m80_ fun b81_ m82_ => dList .int b81_ fun q13 => dBlk true m82_ fun b83_ m84_ => dList .int b83_ fun q14 => dBlk true m84_ fun b85_ m86_ => dList .int b85_ fun q15 => dBlk true m86_ fun b87_ m88_ => dList .int b87_ fun q16 => dBlk true m88_ fun b89_ m90_ => dList .bool b89_ fun q17 => dBlk true m90_ fun b91_ m92_ => dList .int b91_ fun q18 => dBlk true m92_ fun b93_ m94_ => dList .int b93_ fun q19 => dBlk true m94_ fun b95_ m96_ => dList .int b95_ fun q20 => dBlk true m96_ fun b97_ m98_ => dList .int b97_ fun q21 => dBlk true m98_ fun b99_ m100_ => dList .bool b99_ fun q22 => dBlk true m100_ fun b101_ m102_ => dList .int b101_ fun q23 => dEnd m102_ <| K (q0, q1, q2, q3, q4, q5, q6, q7, q8, q9, q10, q11, q12, q13, q14, q15, q16, q17, q18, q19, q20, q21, q22, q23)
  law := by
    intro vs tm K h
    replace h := dCons_ok h; obtain ⟨a1_, r2_, rfl, h⟩ := h
    replace h := dPtr_ok h; obtain ⟨rfl, h⟩ := h
    replace h := dCons_ok h; obtain ⟨a3_, r4_, rfl, h⟩ := h
    replace h := dPtr_ok h; obtain ⟨rfl, h⟩ := h
    replace h := dCons_ok h; obtain ⟨a5_, r6_, rfl, h⟩ := h
    replace h := dSl_ok h; obtain ⟨rfl, h⟩ := h
    replace h := dCons_ok h; obtain ⟨a7_, r8_, rfl, h⟩ := h
    replace h := dBool_ok h; obtain ⟨q0, rfl, h⟩ := h
    replace h := dCons_ok h; obtain ⟨a9_, r10_, rfl, h⟩ := h
    replace h := dPtr_ok h; obtain ⟨rfl, h⟩ := h
    replace h := dCons_ok h; obtain ⟨a11_, r12_, rfl, h⟩ := h
    replace h := dPtr_ok h; obtain ⟨rfl, h⟩ := h
    replace h := dCons_ok h; obtain ⟨a13_, r14_, rfl, h⟩ := h
    replace h := dSl_ok h; obtain ⟨rfl, h⟩ := h
    replace h := dCons_ok h; obtain ⟨a15_, r16_, rfl, h⟩ := h
    replace h := dBool_ok h; obtain ⟨q1, rfl, h⟩ := h
    replace h := dNil_ok h; obtain ⟨rfl, h⟩ := h
    replace h := dBlk_ok h; obtain ⟨b17_, m18_, rfl, h⟩ := h
    replace h := dCells_ok h; obtain ⟨c19_, rfl, h⟩ := h
    replace h := dCons_ok h; obtain ⟨a20_, r21_, rfl, h⟩ := h
    replace h := dPl_ok h; obtain ⟨q2, rfl, h⟩ := h
    replace h := dCons_ok h; obtain ⟨a22_, r23_, rfl, h⟩ := h
    replace h := dPl_ok h; obtain ⟨q3, rfl, h⟩ := h
    replace h := dCons_ok h; obtain ⟨a24_, r25_, rfl, h⟩ := h
    replace h := dPl_ok h; obtain ⟨q4, rfl, h⟩ := h
    replace h := dCons_ok h; obtain ⟨a26_, r27_, rfl, h⟩ := h
    replace h := dPl_ok h; obtain ⟨q5, rfl, h⟩ := h
    replace h := dCons_ok h; obtain ⟨a28_, r29_, rfl, h⟩ := h
    replace h := dPl_ok h; obtain ⟨q6, rfl, h⟩ := h
    replace h := dNil_ok h; obtain ⟨rfl, h⟩ := h
    replace h := dBlk_ok h; obtain ⟨b30_, m31_, rfl, h⟩ := h
    replace h := dCells_ok h; obtain ⟨c32_, rfl, h⟩ := h
    replace h := dCons_ok h; obtain ⟨a33_, r34_, rfl, h⟩ := h
    replace h := dSl_ok h; obtain ⟨rfl, h⟩ := h
    replace h := dCons_ok h; obtain ⟨a35_, r36_, rfl, h⟩ := h
    replace h := dSl_ok h; obtain ⟨rfl, h⟩ := h
    replace h := dCons_ok h; obtain ⟨a37_, r38_, rfl, h⟩ := h
    replace h := dSl_ok h; obtain ⟨rfl, h⟩ := h
    replace h := dCons_ok h; obtain ⟨a39_, r40_, rfl, h⟩ := h
    replace h := dSl_ok h; obtain ⟨rfl, h⟩ := h
    replace h := dCons_ok h; obtain ⟨a41_, r42_, rfl, h⟩ := h
    replace h := dSl_ok h; obtain ⟨rfl, h⟩ := h
    replace h := dNil_ok h; obtain ⟨rfl, h⟩ := h
    replace h := dBlk_ok h; obtain ⟨b43_, m44_, rfl, h⟩ := h
    replace h := dList_ok h; obtain ⟨q7, rfl, h⟩ := h
    replace h := dBlk_ok h; obtain ⟨b45_, m46_, rfl, h⟩ := h
    replace h := dCells_ok h; obtain ⟨c47_, rfl, h⟩ := h
    replace h := dCons_ok h; obtain ⟨a48_, r49_, rfl, h⟩ := h
    replace h := dSl_ok h; obtain ⟨rfl, h⟩ := h
    replace h := dCons_ok h; obtain ⟨a50_, r51_, rfl, h⟩ := h
    replace h := dSl_ok h; obtain ⟨rfl, h⟩ := h
    replace h := dCons_ok h; obtain ⟨a52_, r53_, rfl, h⟩ := h
    replace h := dSl_ok h; obtain ⟨rfl, h⟩ := h
    replace h := dCons_ok h; obtain ⟨a54_, r55_, rfl, h⟩ := h
    replace h := dSl_ok h; obtain ⟨rfl, h⟩ := h
    replace h := dCons_ok h; obtain ⟨a56_, r57_, rfl, h⟩ := h
    replace h := dSl_ok h; obtain ⟨rfl, h⟩ := h
    replace h := dNil_ok h; obtain ⟨rfl, h⟩ := h
    replace h := dBlk_ok h; obtain ⟨b58_, m59_, rfl, h⟩ := h
    replace h := dCells_ok h; obtain ⟨c60_, rfl, h⟩ := h
    replace h := dCons_ok h; obtain ⟨a61_, r62_, rfl, h⟩ := h
    replace h := dSl_ok h; obtain ⟨rfl, h⟩ := h
    replace h := dCons_ok h; obtain ⟨a63_, r64_, rfl, h⟩ := h
    replace h := dSl_ok h; obtain ⟨rfl, h⟩ := h
    replace h := dCons_ok h; obtain ⟨a65_, r66_, rfl, h⟩ := h
    replace h := dSl_ok h; obtain ⟨rfl, h⟩ := h
    replace h := dCons_ok h; obtain ⟨a67_, r68_, rfl, h⟩ := h
    replace h := dSl_ok h; obtain ⟨rfl, h⟩ := h
    replace h := dCons_ok h; obtain ⟨a69_, r70_, rfl, h⟩ := h
    replace h := dSl_ok h; obtain ⟨rfl, h⟩ := h
    replace h := dNil_ok h; obtain ⟨rfl, h⟩ := h
    replace h := dBlk_ok h; obtain ⟨b71_, m72_, rfl, h⟩ := h
    replace h := dList_ok h; obtain ⟨q8, rfl, h⟩ := h
    replace h := dBlk_ok h; obtain ⟨b73_, m74_, rfl, h⟩ := h
    replace h := dList_ok h; obtain ⟨q9, rfl, h⟩ := h
    replace h := dBlk_ok h; obtain ⟨b75_, m76_, rfl, h⟩ := h
    replace h := dList_ok h; obtain ⟨q10, rfl, h⟩ := h
    replace h := dBlk_ok h; obtain ⟨b77_, m78_, rfl, h⟩ := h
    replace h := dList_ok h; obtain ⟨q11, rfl, h⟩ := h
    replace h := dBlk_ok h; obtain ⟨b79_, m80_, rfl, h⟩ := h
    replace h := dList_ok h; obtain ⟨q12, rfl, h⟩ := h
    replace h := dBlk_ok h; obtain ⟨b81_, m82_, rfl, h⟩ := h
    replace h := dList_ok h; obtain ⟨q13, rfl, h⟩ := h
    replace h := dBlk_ok h; obtain ⟨b83_, m84_, rfl, h⟩ := h
    replace h := dList_ok h; obtain ⟨q14, rfl, h⟩ := h
    replace h := dBlk_ok h; obtain ⟨b85_, m86_, rfl, h⟩ := h
    replace h := dList_ok h; obtain ⟨q15, rfl, h⟩ := h
    replace h := dBlk_ok h; obtain ⟨b87_, m88_, rfl, h⟩ := h
    replace h := dList_ok h; obtain ⟨q16, rfl, h⟩ := h
    replace h := dBlk_ok h; obtain ⟨b89_, m90_, rfl, h⟩ := h
    replace h := dList_ok h; obtain ⟨q17, rfl, h⟩ := h
    replace h := dBlk_ok h; obtain ⟨b91_, m92_, rfl, h⟩ := h
    replace h := dList_ok h; obtain ⟨q18, rfl, h⟩ := h
    replace h := dBlk_ok h; obtain ⟨b93_, m94_, rfl, h⟩ := h
    replace h := dList_ok h; obtain ⟨q19, rfl, h⟩ := h
    replace h := dBlk_ok h; obtain ⟨b95_, m96_, rfl, h⟩ := h
    replace h := dList_ok h; obtain ⟨q20, rfl, h⟩ := h
    replace h := dBlk_ok h; obtain ⟨b97_, m98_, rfl, h⟩ := h
    replace h := dList_ok h; obtain ⟨q21, rfl, h⟩ := h
    replace h := dBlk_ok h; obtain ⟨b99_, m100_, rfl, h⟩ := h
    replace h := dList_ok h; obtain ⟨q22, rfl, h⟩ := h
    replace h := dBlk_ok h; obtain ⟨b101_, m102_, rfl, h⟩ := h
    replace h := dList_ok h; obtain ⟨q23, rfl, h⟩ := h
    replace h := dEnd_ok h; obtain ⟨rfl, h⟩ := h
    exact ⟨(q0, q1, q2, q3, q4, q5, q6, q7, q8, q9, q10, q11, q12, q13, q14, q15, q16, q17, q18, q19, q20, q21, q22, q23), rfl, h⟩
def H24_1000014 : LH where
  keep := [(1, .pc [.pure .int, .pure .int, .pure .int, .pure .bool, .pure .int]), (4, .pc [.own .int, .own .int, .own .int, .own .bool, .own .int]), (5, .own .int), (6, .bl), (8, .pc [.own .int, .own .int, .own .int, .own .bool, .own .int]), (9, .own .int), (10, .bl), (11, .x)]
  S := Bool × Bool × Int × List Int × List Int × List Int × List Bool × List Int × List Int × List Int × List Int × List Int × List Int × List Bool × List Int × List Int × List Int × List Int × List Bool × List Int
  enc := fun s => ([.ptr 0 0, .ptr 1 0, .sl 2, .bool s.1, .ptr 3 0, .sl 4, .bool s.2.1, .int .i64 s.2.2.1], [⟨true, .cells [.pl .int s.2.2.2.1, .pl .int s.2.2.2.2.1, .pl .int s.2.2.2.2.2.1, .pl .bool s.2.2.2.2.2.2.1, .pl .int s.2.2.2.2.2.2.2.1]⟩, ⟨true, .cells [.sl 5, .sl 6, .sl 7, .sl 8, .sl 9]⟩, ⟨true, .list .int s.2.2.2.2.2.2.2.2.1⟩, ⟨true, .cells [.sl 10, .sl 11, .sl 12, .sl 13, .sl 14]⟩, ⟨true, .list .int s.2.2.2.2.2.2.2.2.2.1⟩, ⟨true, .list .int s.2.2.2.2.2.2.2.2.2.2.1⟩, ⟨true, .list .int s.2.2.2.2.2.2.2.2.2.2.2.1⟩, ⟨true, .list .int s.2.2.2.2.2.2.2.2.2.2.2.2.1⟩, ⟨true, .list .bool s.2.2.2.2.2.2.2.2.2.2.2.2.2.1⟩, ⟨true, .list .int s.2.2.2.2.2.2.2.2.2.2.2.2.2.2.1⟩, ⟨true, .list .int s.2.2.2.2.2.2.2.2.2.2.2.2.2.2.2.1⟩, ⟨true, .list .int s.2.2.2.2.2.2.2.2.2.2.2.2.2.2.2.2.1⟩, ⟨true, .list .int s.2.2.2.2.2.2.2.2.2.2.2.2.2.2.2.2.2.1⟩, ⟨true, .list .bool s.2.2.2.2.2.2.2.2.2.2.2.2.2.2.2.2.2.2.1⟩, ⟨true, .list .int s.2.2.2.2.2.2.2.2.2.2.2.2.2.2.2.2.2.2.2⟩])
  dec := fun vs tm K => dCons vs fun a1_ r2_ => dPtr 0 a1_ <| dCons r2_ fun a3_ r4_ => dPtr 1 a3_ <| dCons r4_ fun a5_ r6_ => dSl 2 a5_ <| dCons r6_ fun a7_ r8_ => dBool a7_ fun q0 => dCons r8_ fun a9_ r10_ => dPtr 3 a9_ <| dCons r10_ fun a11_ r12_ => dSl 4 a11_ <| dCons r12_ fun a13_ r14_ => dBool a13_ fun q1 => dCons r14_ fun a15_ r16_ => dInt .i64 a15_ fun q2 => dNil r16_ <| dBlk true tm fun b17_ m18_ => dCells b17_ fun c19_ => dCons c19_ fun a20_ r21_ => dPl .int a20_ fun q3 => dCons r21_ fun a22_ r23_ => dPl .int a22_ fun q4 => dCons r23_ fun a24_ r25_ => dPl .int a24_ fun q5 => dCons r25_ fun a26_ r27_ => dPl .bool a26_ fun q6 => dCons r27_ fun a28_ r29_ => dPl .int a28_ fun q7 => dNil r29_ <| dBlk true m18_ fun b30_ m31_ => dCells b30_ fun c32_ => dCons c32_ fun a33_ r34_ => dSl 5 a33_ <| dCons r34_ fun a35_ r36_ => dSl 6 a35_ <| dCons r36_ fun a37_ r38_ => dSl 7 a37_ <| dCons r38_ fun a39_ r40_ => dSl 8 a39_ <| dCons r40_ fun a41_ r42_ => dSl 9 a41_ <| dNil r42_ <| dBlk true m31_ fun b43_ m44_ => dList .int b43_ fun q8 => dBlk true m44_ fun b45_ m46_ => dCells b45_ fun c47_ => dCons c47_ fun a48_ r49_ => dSl 10 a48_ <| dCons r49_ fun a50_ r51_ => dSl 11 a50_ <| dCons r51_ fun a52_ r53_ => dSl 12 a52_ <| dCons r53_ fun a54_ r55_ => dSl 13 a54_ <| dCons r55_ fun a56_ r57_ => dSl 14 a56_ <| dNil r57_ <| dBlk true m46_ fun b58_ m59_ => dList .int b58_ fun q9 => dBlk true m59_ fun b60_ m61_ => dList .int b60_ fun q10 => dBlk true m61_ fun b62_ m63_ => dList .int b62_ fun q11 => dBlk true m63_ fun b64_ m65_ => dList .int b64_ fun q12 => dBlk true m65_ fun b66_ m67_ => dList .bool b66_ fun q13 => dBlk true m67_ fun b68_ m69_ => dList .int b68_ fun q14 => dBlk true m69_ fun b70_ m71_ => dList .int b70_ fun q15 => dBlk true m71_ fun b72_ m73_ => dList .int b72_ fun q16 => dBlk true m73_ fun b74_ m75_ => dList .int b74_ fun q17 => dBlk true m75_ fun b76_ m77_ => dList .bool b76_ fun q18 => dBlk true m77_ fun b78_ m79_ => dList .int b78_ fun q19 => dEnd m79_ <| K (q0, q1, q2, q3, q4, q5, q6, q7, q8, q9, q10, q11, q12, q13, q14, q15, q16, q17, q18, q19)
  law := by
    intro vs tm K h
    replace h := dCons_ok h; obtain ⟨a1_, r2_, rfl, h⟩ := h
    replace h := dPtr_ok h; obtain ⟨rfl, h⟩ := h
    replace h := dCons_ok h; obtain ⟨a3_, r4_, rfl, h⟩ := h
    replace h := dPtr_ok h; obtain ⟨rfl, h⟩ := h
    replace h := dCons_ok h; obtain ⟨a5_, r6_, rfl, h⟩ := h
    replace h := dSl_ok h; obtain ⟨rfl, h⟩ := h
    replace h := dCons_ok h; obtain ⟨a7_, r8_, rfl, h⟩ := h
    replace h := dBool_ok h; obtain ⟨q0, rfl, h⟩ := h
    replace h := dCons_ok h; obtain ⟨a9_, r10_, rfl, h⟩ := h
    replace h := dPtr_ok h; obtain ⟨rfl, h⟩ := h
    replace h := dCons_ok h; obtain ⟨a11_, r12_, rfl, h⟩ := h
    replace h := dSl_ok h; obtain ⟨rfl, h⟩ := h
    replace h := dCons_ok h; obtain ⟨a13_, r14_, rfl, h⟩ := h
    replace h := dBool_ok h; obtain ⟨q1, rfl, h⟩ := h
    replace h := dCons_ok h; obtain ⟨a15_, r16_, rfl, h⟩ := h
    replace h := dInt_ok h; obtain ⟨q2, rfl, h⟩ := h
    replace h := dNil_ok h; obtain ⟨rfl, h⟩ := h
    replace h := dBlk_ok h; obtain ⟨b17_, m18_, rfl, h⟩ := h
    replace h := dCells_ok h; obtain ⟨c19_, rfl, h⟩ := h
    replace h := dCons_ok h; obtain ⟨a20_, r21_, rfl, h⟩ := h
    replace h := dPl_ok h; obtain ⟨q3, rfl, h⟩ := h
    replace h := dCons_ok h; obtain ⟨a22_, r23_, rfl, h⟩ := h
    replace h := dPl_ok h; obtain ⟨q4, rfl, h⟩ := h
    replace h := dCons_ok h; obtain ⟨a24_, r25_, rfl, h⟩ := h
    replace h := dPl_ok h; obtain ⟨q5, rfl, h⟩ := h
    replace h := dCons_ok h; obtain ⟨a26_, r27_, rfl, h⟩ := h
    replace h := dPl_ok h; obtain ⟨q6, rfl, h⟩ := h
    replace h := dCons_ok h; obtain ⟨a28_, r29_, rfl, h⟩ := h
    replace h := dPl_ok h; obtain ⟨q7, rfl, h⟩ := h
    replace h := dNil_ok h; obtain ⟨rfl, h⟩ := h
    replace h := dBlk_ok h; obtain ⟨b30_, m31_, rfl, h⟩ := h
    replace h := dCells_ok h; obtain ⟨c32_, rfl, h⟩ := h
    replace h := dCons_ok h; obtain ⟨a33_, r34_, rfl, h⟩ := h
    replace h := dSl_ok h; obtain ⟨rfl, h⟩ := h
    replace h := dCons_ok h; obtain ⟨a35_, r36_, rfl, h⟩ := h
    replace h := dSl_ok h; obtain ⟨rfl, h⟩ := h
    replace h := dCons_ok h; obtain ⟨a37_, r38_, rfl, h⟩ := h
    replace h := dSl_ok h; obtain ⟨rfl, h⟩ := h
    replace h := dCons_ok h; obtain ⟨a39_, r40_, rfl, h⟩ := h
    replace h := dSl_ok h; obtain ⟨rfl, h⟩ := h
    replace h := dCons_ok h; obtain ⟨a41_, r42_, rfl, h⟩ := h
    replace h := dSl_ok h; obtain ⟨rfl, h⟩ := h
    replace h := dNil_ok h; obtain ⟨rfl, h⟩ := h
    replace h := dBlk_ok h; obtain ⟨b43_, m44_, rfl, h⟩ := h
    replace h := dList_ok h; obtain ⟨q8, rfl, h⟩ := h
    replace h := dBlk_ok h; obtain ⟨b45_, m46_, rfl, h⟩ := h
    replace h := dCells_ok h; obtain ⟨c47_, rfl, h⟩ := h
    replace h := dCons_ok h; obtain ⟨a48_, r49_, rfl, h⟩ := h
    replace h := dSl_ok h; obtain ⟨rfl, h⟩ := h
    replace h := dCons_ok h; obtain ⟨a50_, r51_, rfl, h⟩ := h
    replace h := dSl_ok h; obtain ⟨rfl, h⟩ := h
    replace h := dCons_ok h; obtain ⟨a52_, r53_, rfl, h⟩ := h
    replace h := dSl_ok h; obtain ⟨rfl, h⟩ := h
    replace h := dCons_ok h; obtain ⟨a54_, r55_, rfl, h⟩ := h
    replace h := dSl_ok h; obtain ⟨rfl, h⟩ := h
    replace h := dCons_ok h; obtain ⟨a56_, r57_, rfl, h⟩ := h
    replace h := dSl_ok h; obtain ⟨rfl, h⟩ := h
    replace h := dNil_ok h; obtain ⟨rfl, h⟩ := h
    replace h := dBlk_ok h; obtain ⟨b58_, m59_, rfl, h⟩ := h
    replace h := dList_ok h; obtain ⟨q9, rfl, h⟩ := h
    replace h := dBlk_ok h; obtain ⟨b60_, m61_, rfl, h⟩ := h
    replace h := dList_ok h; obtain ⟨q10, rfl, h⟩ := h
    replace h := dBlk_ok h; obtain ⟨b62_, m63_, rfl, h⟩ := h
    replace h := dList_ok h; obtain ⟨q11, rfl, h⟩ := h
    replace h := dBlk_ok h; obtain ⟨b64_, m65_, rfl, h⟩ := h
    replace h := dList_ok h; obtain ⟨q12, rfl, h⟩ := h
    replace h := dBlk_ok h; obtain ⟨b66_, m67_, rfl, h⟩ := h
    replace h := dList_ok h; obtain ⟨q13, rfl, h⟩ := h
    replace h := dBlk_ok h; obtain ⟨b68_, m69_, rfl, h⟩ := h
    replace h := dList_ok h; obtain ⟨q14, rfl, h⟩ := h
    replace h := dBlk_ok h; obtain ⟨b70_, m71_, rfl, h⟩ := h
    replace h := dList_ok h; obtain ⟨q15, rfl, h⟩ := h
    replace h := dBlk_ok h; obtain ⟨b72_, m73_, rfl, h⟩ := h
    replace h := dList_ok h; obtain ⟨q16, rfl, h⟩ := h
    replace h := dBlk_ok h; obtain ⟨b74_, m75_, rfl, h⟩ := h
    replace h := dList_ok h; obtain ⟨q17, rfl, h⟩ := h
    replace h := dBlk_ok h; obtain ⟨b76_, m77_, rfl, h⟩ := h
    replace h := dList_ok h; obtain ⟨q18, rfl, h⟩ := h
    replace h := dBlk_ok h; obtain ⟨b78_, m79_, rfl, h⟩ := h
    replace h := dList_ok h; obtain ⟨q19, rfl, h⟩ := h
    replace h := dEnd_ok h; obtain ⟨rfl, h⟩ := h
    exact ⟨(q0, q1, q2, q3, q4, q5, q6, q7, q8, q9, q10, q11, q12, q13, q14, q15, q16, q17, q18, q19), rfl, h⟩
def H24_1000015 : LH where
  keep := []
  S := Unit
  enc := fun s => ([], [])
  dec := fun vs tm K => dNil vs <| dEnd tm <| K ()
  law := by
    intro vs tm K h
    replace h := dNil_ok h; obtain ⟨rfl, h⟩ := h
    replace h := dEnd_ok h; obtain ⟨rfl, h⟩ := h
    exact ⟨(), rfl, h⟩
def H24_1000022 : LH where
  keep := []
  S := Unit
  enc := fun s => ([], [])
  dec := fun vs tm K => dNil vs <| dEnd tm <| K ()
  law := by
    intro vs tm K h
    replace h := dNil_ok h; obtain ⟨rfl, h⟩ := h
    replace h := dEnd_ok h; obtain ⟨rfl, h⟩ := h
    exact ⟨(), rfl, h⟩
def H24_1000025 : LH where
  keep := []
  S := Unit
  enc := fun s => ([], [])
  dec := fun vs tm K => dNil vs <| dEnd tm <| K ()
  law := by
    intro vs tm K h
    replace h := dNil_ok h; obtain ⟨rfl, h⟩ := h
    replace h := dEnd_ok h; obtain ⟨rfl, h⟩ := h
    exact ⟨(), rfl, h⟩
def H24_1000027 : LH where
  keep := []
  S := Unit
  enc := fun s => ([], [])
  dec := fun vs tm K => dNil vs <| dEnd tm <| K ()
  law := by
    intro vs tm K h
    replace h := dNil_ok h; obtain ⟨rfl, h⟩ := h
    replace h := dEnd_ok h; obtain ⟨rfl, h⟩ := h
    exact ⟨(), rfl, h⟩
def H24_1000029 : LH where
  keep := [(4, .pc [.own .int, .own .int, .own .int, .own .bool, .own .int]), (5, .own .int), (6, .bl), (8, .pc [.own .int, .own .int, .own .int, .own .bool, .own .int]), (9, .own .int), (12, .x), (14, .pc [.own .int, .own .int, .own .int, .own .bool, .own .int]), (15, .own .int), (16, .bl)]
  S := Bool × Int × Bool × List Int × List Int × List Int × List Int × List Int × List Int × List Bool × List Int × List Int × List Int × List Int × List Bool × List Int × List Int × List Int × List Int × List Bool × List Int
  enc := fun s => ([.ptr 0 0, .sl 1, .bool s.1, .ptr 2 0, .sl 3, .int .i64 s.2.1, .ptr 4 0, .sl 5, .bool s.2.2.1], [⟨true, .cells [.sl 6, .sl 7, .sl 8, .sl 9, .sl 10]⟩, ⟨true, .list .int s.2.2.2.1⟩, ⟨true, .cells [.sl 11, .sl 12, .sl 13, .sl 14, .sl 15]⟩, ⟨true, .list .int s.2.2.2.2.1⟩, ⟨true, .cells [.sl 16, .sl 17, .sl 18, .sl 19, .sl 20]⟩, ⟨true, .list .int s.2.2.2.2.2.1⟩, ⟨true, .list .int s.2.2.2.2.2.2.1⟩, ⟨true, .list .int s.2.2.2.2.2.2.2.1⟩, ⟨true, .list .int s.2.2.2.2.2.2.2.2.1⟩, ⟨true, .list .bool s.2.2.2.2.2.2.2.2.2.1⟩, ⟨true, .list .int s.2.2.2.2.2.2.2.2.2.2.1⟩, ⟨true, .list .int s.2.2.2.2.2.2.2.2.2.2.2.1⟩, ⟨true, .list .int s.2.2.2.2.2.2.2.2.2.2.2.2.1⟩, ⟨true, .list .int s.2.2.2.2.2.2.2.2.2.2.2.2.2.1⟩, ⟨true, .list .bool s.2.2.2.2.2.2.2.2.2.2.2.2.2.2.1⟩, ⟨true, .list .int s.2.2.2.2.2.2.2.2.2.2.2.2.2.2.2.1⟩, ⟨true, .list .int s.2.2.2.2.2.2.2.2.2.2.2.2.2.2.2.2.1⟩, ⟨true, .list .int s.2.2.2.2.2.2.2.2.2.2.2.2.2.2.2.2.2.1⟩, ⟨true, .list .int s.2.2.2.2.2.2.2.2.2.2.2.2.2.2.2.2.2.2.1⟩, ⟨true, .list .bool s.2.2.2.2.2.2.2.2.2.2.2.2.2.2.2.2.2.2.2.1⟩, ⟨true, .list .int s.2.2.2.2.2.2.2.2.2.2.2.2.2.2.2.2.2.2.2.2⟩])
  dec := fun vs tm K => dCons vs fun a1_ r2_ => dPtr 0 a1_ <| dCons r2_ fun a3_ r4_ => dSl 1 a3_ <| dCons r4_ fun a5_ r6_ => dBool a5_ fun q0 => dCons r6_ fun a7_ r8_ => dPtr 2 a7_ <| dCons r8_ fun a9_ r10_ => dSl 3 a9_ <| dCons r10_ fun a11_ r12_ => dInt .i64 a11_ fun q1 => dCons r12_ fun a13_ r14_ => dPtr 4 a13_ <| dCons r14_ fun a15_ r16_ => dSl 5 a15_ <| dCons r16_ fun a17_ r18_ => dBool a17_ fun q2 => dNil r18_ <| dBlk true tm fun b19_ m20_ => dCells b19_ fun c21_ => dCons c21_ fun a22_ r23_ => dSl 6 a22_ <| dCons r23_ fun a24_ r25_ => dSl 7 a24_ <| dCons r25_ fun a26_ r27_ => dSl 8 a26_ <| dCons r27_ fun a28_ r29_ => dSl 9 a28_ <| dCons r29_ fun a30_ r31_ => dSl 10 a30_ <| dNil r31_ <| dBlk true m20_ fun b32_ m33_ => dList .int b32_ fun q3 => dBlk true m33_ fun b34_ m35_ => dCells b34_ fun c36_ => dCons c36_ fun a37_ r38_ => dSl 11 a37_ <| dCons r38_ fun a39_ r40_ => dSl 12 a39_ <| dCons r40_ fun a41_ r42_ => dSl 13 a41_ <| dCons r42_ fun a43_ r44_ => dSl 14 a43_ <| dCons r44_ fun a45_ r46_ => dSl 15 a45_ <| dNil r46_ <| dBlk true m35_ fun b47_ m48_ => dList .int b47_ fun q4 => dBlk true m48_ fun b49_ m50_ => dCells b49_ fun c51_ => dCons c51_ fun a52_ r53_ => dSl 16 a52_ <| dCons r53_ fun a54_ r55_ => dSl 17 a54_ <| dCons r55_ fun a56_ r57_ => dSl 18 a56_ <| dCons r57_ fun a58_ r59_ => dSl 19 a58_ <| dCons r59_ fun a60_ r61_ => dSl 20 a60_ <| dNil r61_ <| dBlk true m50_ fun b62_ m63_ => dList .int b62_ fun q5 => dBlk true m63_ fun b64_ m65_ => dList .int b64_ fun q6 => dBlk true m65_ fun b66_ m67_ => dList .int b66_ fun q7 => dBlk true m67_ fun b68_ m69_ => dList .int b68_ fun q8 => dBlk true m69_ fun b70_ m71_ => dList .bool b70_ fun q9 => dBlk true m71_ fun b72_ m73_ => dList .int b72_ fun q10 => dBlk true m73_ fun b74_ m75_ => dList .int b74_ fun q11 => dBlk true m75_ fun b76_ m77_ => dList .int b76_ fun q12 => dBlk true m77_ fun b78_ m79_ => dList .int b78_ fun q13 => dBlk true m79_ fun b80_ m81_ => dList .bool b80_ fun q14 => dBlk true m81_ fun b82_ m83_ => dList .int b82_ fun q15 => dBlk true m83_ fun b84_ m85_ => dList .int b84_ fun q16 => dBlk true m85_ fun b86_ m87_ => dList .int b86_ fun q17 => dBlk true m87_ fun b88_ m89_ => dList .int b88_ fun q18 => dBlk true m89_ fun b90_ m91_ => dList .bool b90_ fun q19 => dBlk true m91_ fun b92_ m93_ => dList .int b92_ fun q20 => dEnd m93_ <| K (q0, q1, q2, q3, q4, q5, q6, q7, q8, q9, q10, q11, q12, q13, q14, q15, q16, q17, q18, q19, q20)
  law := by
    intro vs tm K h
    replace h := dCons_ok h; obtain ⟨a1_, r2_, rfl, h⟩ := h
    replace h := dPtr_ok h; obtain ⟨rfl, h⟩ := h
    replace h := dCons_ok h; obtain ⟨a3_, r4_, rfl, h⟩ := h
    replace h := dSl_ok h; obtain ⟨rfl, h⟩ := h
    replace h := dCons_ok h; obtain ⟨a5_, r6_, rfl, h⟩ := h
    replace h := dBool_ok h; obtain ⟨q0, rfl, h⟩ := h
    replace h := dCons_ok h; obtain ⟨a7_, r8_, rfl, h⟩ := h
    replace h := dPtr_ok h; obtain ⟨rfl, h⟩ := h
    replace h := dCons_ok h; obtain ⟨a9_, r10_, rfl, h⟩ := h
    replace h := dSl_ok h; obtain ⟨rfl, h⟩ := h
    replace h := dCons_ok h; obtain ⟨a11_, r12_, rfl, h⟩ := h
    replace h := dInt_ok h; obtain ⟨q1, rfl, h⟩ := h
    replace h := dCons_ok h; obtain ⟨a13_, r14_, rfl, h⟩ := h
    replace h := dPtr_ok h; obtain ⟨rfl, h⟩ := h
    replace h := dCons_ok h; obtain ⟨a15_, r16_, rfl, h⟩ := h
    replace h := dSl_ok h; obtain ⟨rfl, h⟩ := h
    replace h := dCons_ok h; obtain ⟨a17_, r18_, rfl, h⟩ := h
    replace h := dBool_ok h; obtain ⟨q2, rfl, h⟩ := h
    replace h := dNil_ok h; obtain ⟨rfl, h⟩ := h
    replace h := dBlk_ok h; obtain ⟨b19_, m20_, rfl, h⟩ := h
    replace h := dCells_ok h; obtain ⟨c21_, rfl, h⟩ := h
    replace h := dCons_ok h; obtain ⟨a22_, r23_, rfl, h⟩ := h
    replace h := dSl_ok h; obtain ⟨rfl, h⟩ := h
    replace h := dCons_ok h; obtain ⟨a24_, r25_, rfl, h⟩ := h
    replace h := dSl_ok h; obtain ⟨rfl, h⟩ := h
    replace h := dCons_ok h; obtain ⟨a26_, r27_, rfl, h⟩ := h
    replace h := dSl_ok h; obtain ⟨rfl, h⟩ := h
    replace h := dCons_ok h; obtain ⟨a28_, r29_, rfl, h⟩ := h
    replace h := dSl_ok h; obtain ⟨rfl, h⟩ := h
    replace h := dCons_ok h; obtain ⟨a30_, r31_, rfl, h⟩ := h
    replace h := dSl_ok h; obtain ⟨rfl, h⟩ := h
    replace h := dNil_ok h; obtain ⟨rfl, h⟩ := h
    replace h := dBlk_ok h; obtain ⟨b32_, m33_, rfl, h⟩ := h
    replace h := dList_ok h; obtain ⟨q3, rfl, h⟩ := h
    replace h := dBlk_ok h; obtain ⟨b34_, m35_, rfl, h⟩ := h
    replace h := dCells_ok h; obtain ⟨c36_, rfl, h⟩ := h
    replace h := dCons_ok h; obtain ⟨a37_, r38_, rfl, h⟩ := h
    replace h := dSl_ok h; obtain ⟨rfl, h⟩ := h
    replace h := dCons_ok h; obtain ⟨a39_, r40_, rfl, h⟩ := h
    replace h := dSl_ok h; obtain ⟨rfl, h⟩ := h
    replace h := dCons_ok h; obtain ⟨a41_, r42_, rfl, h⟩ := h
    replace h := dSl_ok h; obtain ⟨rfl, h⟩ := h
    replace h := dCons_ok h; obtain ⟨a43_, r44_, rfl, h⟩ := h
    replace h := dSl_ok h; obtain ⟨rfl, h⟩ := h
    replace h := dCons_ok h; obtain ⟨a45_, r46_, rfl, h⟩ := h
    replace h := dSl_ok h; obtain ⟨rfl, h⟩ := h
    replace h := dNil_ok h; obtain ⟨rfl, h⟩ := h
    replace h := dBlk_ok h; obtain ⟨b47_, m48_, rfl, h⟩ := h
    replace h := dList_ok h; obtain ⟨q4, rfl, h⟩ := h
    replace h := dBlk_ok h; obtain ⟨b49_, m50_, rfl, h⟩ := h
    replace h := dCells_ok h; obtain ⟨c51_, rfl, h⟩ := h
    replace h := dCons_ok h; obtain ⟨a52_, r53_, rfl, h⟩ := h
    replace h := dSl_ok h; obtain ⟨rfl, h⟩ := h
    replace h := dCons_ok h; obtain ⟨a54_, r55_, rfl, h⟩ := h
    replace h := dSl_ok h; obtain ⟨rfl, h⟩ := h
    replace h := dCons_ok h; obtain ⟨a56_, r57_, rfl, h⟩ := h
    replace h := dSl_ok h; obtain ⟨rfl, h⟩ := h
    replace h := dCons_ok h; obtain ⟨a58_, r59_, rfl, h⟩ := h
    replace h := dSl_ok h; obtain ⟨rfl, h⟩ := h
    replace h := dCons_ok h; obtain ⟨a60_, r61_, rfl, h⟩ := h
    replace h := dSl_ok h; obtain ⟨rfl, h⟩ := h
    replace h := dNil_ok h; obtain ⟨rfl, h⟩ := h
    replace h := dBlk_ok h; obtain ⟨b62_, m63_, rfl, h⟩ := h
    replace h := dList_ok h; obtain ⟨q5, rfl, h⟩ := h
    replace h := dBlk_ok h; obtain ⟨b64_, m65_, rfl, h⟩ := h
    replace h := dList_ok h; obtain ⟨q6, rfl, h⟩ := h
    replace h := dBlk_ok h; obtain ⟨b66_, m67_, rfl, h⟩ := h
    replace h := dList_ok h; obtain ⟨q7, rfl, h⟩ := h
    replace h := dBlk_ok h; obtain ⟨b68_, m69_, rfl, h⟩ := h
    replace h := dList_ok h; obtain ⟨q8, rfl, h⟩ := h
    replace h := dBlk_ok h; obtain ⟨b70_, m71_, rfl, h⟩ := h
    replace h := dList_ok h; obtain ⟨q9, rfl, h⟩ := h
    replace h := dBlk_ok h; obtain ⟨b72_, m73_, rfl, h⟩ := h
    replace h := dList_ok h; obtain ⟨q10, rfl, h⟩ := h
    replace h := dBlk_ok h; obtain ⟨b74_, m75_, rfl, h⟩ := h
    replace h := dList_ok h; obtain ⟨q11, rfl, h⟩ := h
    replace h := dBlk_ok h; obtain ⟨b76_, m77_, rfl, h⟩ := h
    replace h := dList_ok h; obtain ⟨q12, rfl, h⟩ := h
    replace h := dBlk_ok h; obtain ⟨b78_, m79_, rfl, h⟩ := h
    replace h := dList_ok h; obtain ⟨q13, rfl, h⟩ := h
    replace h := dBlk_ok h; obtain ⟨b80_, m81_, rfl, h⟩ := h
    replace h := dList_ok h; obtain ⟨q14, rfl, h⟩ := h
    replace h := dBlk_ok h; obtain ⟨b82_, m83_, rfl, h⟩ := h
    replace h := dList_ok h; obtain ⟨q15, rfl, h⟩ := h
    replace h := dBlk_ok h; obtain ⟨b84_, m85_, rfl, h⟩ := h
    replace h := dList_ok h; obtain ⟨q16, rfl, h⟩ := h
    replace h := dBlk_ok h; obtain ⟨b86_, m87_, rfl, h⟩ := h
    replace h := dList_ok h; obtain ⟨q17, rfl, h⟩ := h
    replace h := dBlk_ok h; obtain ⟨b88_, m89_, rfl, h⟩ := h
    replace h := dList_ok h; obtain ⟨q18, rfl, h⟩ := h
    replace h := dBlk_ok h; obtain ⟨b90_, m91_, rfl, h⟩ := h
    replace h := dList_ok h; obtain ⟨q19, rfl, h⟩ := h
    replace h := dBlk_ok h; obtain ⟨b92_, m93_, rfl, h⟩ := h
    replace h := dList_ok h; obtain ⟨q20, rfl, h⟩ := h
    replace h := dEnd_ok h; obtain ⟨rfl, h⟩ := h
    exact ⟨(q0, q1, q2, q3, q4, q5, q6, q7, q8, q9, q10, q11, q12, q13, q14, q15, q16, q17, q18, q19, q20), rfl, h⟩
def H24_1000030 : LH where
  keep := []
  S := Unit
  enc := fun s => ([], [])
  dec := fun vs tm K => dNil vs <| dEnd tm <| K ()
  law := by
    intro vs tm K h
    replace h := dNil_ok h; obtain ⟨rfl, h⟩ := h
    replace h := dEnd_ok h; obtain ⟨rfl, h⟩ := h
    exact ⟨(), rfl, h⟩
def H24_1000031 : LH where
  keep := [(8, .pc [.own .int, .own .int, .own .int, .own .bool, .own .int]), (9, .own .int), (12, .x)]
  S := Int × List Int × List Int × List Int × List Int × List Bool × List Int
  enc := fun s => ([.ptr 0 0, .sl 1, .int .i64 s.1], [⟨true, .cells [.sl 2, .sl 3, .sl 4, .sl 5, .sl 6]⟩, ⟨true, .list .int s.2.1⟩, ⟨true, .list .int s.2.2.1⟩, ⟨true, .list .int s.2.2.2.1⟩, ⟨true, .list .int s.2.2.2.2.1⟩, ⟨true, .list .bool s.2.2.2.2.2.1⟩, ⟨true, .list .int s.2.2.2.2.2.2⟩])
  dec := fun vs tm K => dCons vs fun a1_ r2_ => dPtr 0 a1_ <| dCons r2_ fun a3_ r4_ => dSl 1 a3_ <| dCons r4_ fun a5_ r6_ => dInt .i64 a5_ fun q0 => dNil r6_ <| dBlk true tm fun b7_ m8_ => dCells b7_ fun c9_ => dCons c9_ fun a10_ r11_ => dSl 2 a10_ <| dCons r11_ fun a12_ r13_ => dSl 3 a12_ <| dCons r13_ fun a14_ r15_ => dSl 4 a14_ <| dCons r15_ fun a16_ r17_ => dSl 5 a16_ <| dCons r17_ fun a18_ r19_ => dSl 6 a18_ <| dNil r19_ <| dBlk true m8_ fun b20_ m21_ => dList .int b20_ fun q1 => dBlk true m21_ fun b22_ m23_ => dList .int b22_ fun q2 => dBlk true m23_ fun b24_ m25_ => dList .int b24_ fun q3 => dBlk true m25_ fun b26_ m27_ => dList .int b26_ fun q4 => dBlk true m27_ fun b28_ m29_ => dList .bool b28_ fun q5 => dBlk true m29_ fun b30_ m31_ => dList .int b30_ fun q6 => dEnd m31_ <| K (q0, q1, q2, q3, q4, q5, q6)
  law := by
    intro vs tm K h
    replace h := dCons_ok h; obtain ⟨a1_, r2_, rfl, h⟩ := h
    replace h := dPtr_ok h; obtain ⟨rfl, h⟩ := h
    replace h := dCons_ok h; obtain ⟨a3_, r4_, rfl, h⟩ := h
    replace h := dSl_ok h; obtain ⟨rfl, h⟩ := h
    replace h := dCons_ok h; obtain ⟨a5_, r6_, rfl, h⟩ := h
    replace h := dInt_ok h; obtain ⟨q0, rfl, h⟩ := h
    replace h := dNil_ok h; obtain ⟨rfl, h⟩ := h
    replace h := dBlk_ok h; obtain ⟨b7_, m8_, rfl, h⟩ := h
    replace h := dCells_ok h; obtain ⟨c9_, rfl, h⟩ := h
    replace h := dCons_ok h; obtain ⟨a10_, r11_, rfl, h⟩ := h
    replace h := dSl_ok h; obtain ⟨rfl, h⟩ := h
    replace h := dCons_ok h; obtain ⟨a12_, r13_, rfl, h⟩ := h
    replace h := dSl_ok h; obtain ⟨rfl, h⟩ := h
    replace h := dCons_ok h; obtain ⟨a14_, r15_, rfl, h⟩ := h
    replace h := dSl_ok h; obtain ⟨rfl, h⟩ := h
    replace h := dCons_ok h; obtain ⟨a16_, r17_, rfl, h⟩ := h
    replace h := dSl_ok h; obtain ⟨rfl, h⟩ := h
    replace h := dCons_ok h; obtain ⟨a18_, r19_, rfl, h⟩ := h
    replace h := dSl_ok h; obtain ⟨rfl, h⟩ := h
    replace h := dNil_ok h; obtain ⟨rfl, h⟩ := h
    replace h := dBlk_ok h; obtain ⟨b20_, m21_, rfl, h⟩ := h
    replace h := dList_ok h; obtain ⟨q1, rfl, h⟩ := h
    replace h := dBlk_ok h; obtain ⟨b22_, m23_, rfl, h⟩ := h
    replace h := dList_ok h; obtain ⟨q2, rfl, h⟩ := h
    replace h := dBlk_ok h; obtain ⟨b24_, m25_, rfl, h⟩ := h
    replace h := dList_ok h; obtain ⟨q3, rfl, h⟩ := h
    replace h := dBlk_ok h; obtain ⟨b26_, m27_, rfl, h⟩ := h
    replace h := dList_ok h; obtain ⟨q4, rfl, h⟩ := h
    replace h := dBlk_ok h; obtain ⟨b28_, m29_, rfl, h⟩ := h
    replace h := dList_ok h; obtain ⟨q5, rfl, h⟩ := h
    replace h := dBlk_ok h; obtain ⟨b30_, m31_, rfl, h⟩ := h
    replace h := dList_ok h; obtain ⟨q6, rfl, h⟩ := h
    replace h := dEnd_ok h; obtain ⟨rfl, h⟩ := h
    exact ⟨(q0, q1, q2, q3, q4, q5, q6), rfl, h⟩
def H24_1000033 : LH where
  keep := [(9, .own .int), (12, .x), (13, .x)]
  S := Int × Int × List Int
  enc := fun s => ([.sl 0, .int .i64 s.1, .int .i64 s.2.1], [⟨true, .list .int s.2.2⟩])
  dec := fun vs tm K => dCons vs fun a1_ r2_ => dSl 0 a1_ <| dCons r2_ fun a3_ r4_ => dInt .i64 a3_ fun q0 => dCons r4_ fun a5_ r6_ => dInt .i64 a5_ fun q1 => dNil r6_ <| dBlk true tm fun b7_ m8_ => dList .int b7_ fun q2 => dEnd m8_ <| K (q0, q1, q2)
  law := by
    intro vs tm K h
    replace h := dCons_ok h; obtain ⟨a1_, r2_, rfl, h⟩ := h
    replace h := dSl_ok h; obtain ⟨rfl, h⟩ := h
    replace h := dCons_ok h; obtain ⟨a3_, r4_, rfl, h⟩ := h
    replace h := dInt_ok h; obtain ⟨q0, rfl, h⟩ := h
    replace h := dCons_ok h; obtain ⟨a5_, r6_, rfl, h⟩ := h
    replace h := dInt_ok h; obtain ⟨q1, rfl, h⟩ := h
    replace h := dNil_ok h; obtain ⟨rfl, h⟩ := h
    replace h := dBlk_ok h; obtain ⟨b7_, m8_, rfl, h⟩ := h
    replace h := dList_ok h; obtain ⟨q2, rfl, h⟩ := h
    replace h := dEnd_ok h; obtain ⟨rfl, h⟩ := h
    exact ⟨(q0, q1, q2), rfl, h⟩
def H24 : List (Nat × LH) := [(1000006, H24_1000006), (1000009, H24_1000009), (1000011, H24_1000011), (1000012, H24_1000012), (1000014, H24_1000014), (1000015, H24_1000015), (1000022, H24_1000022), (1000025, H24_1000025), (1000027, H24_1000027), (1000029, H24_1000029), (1000030, H24_1000030), (1000031, H24_1000031), (1000033, H24_1000033)]
def W24 : List (Nat × List (Nat × List Nat)) := []
def Γ24 : List (Nat × Con) := [(71, useC [.ag [.pure .int, .pure .int, .pure .int, .pure .bool, .pure .int], .x] G71), (72, useC [.ag [.pure .int, .pure .int, .pure .int, .pure .bool, .pure .int]] G72), (70, useC [.ag [.pure .int, .pure .int, .pure .int, .pure .bool, .pure .int]] G70), (61, useC [.ag [.pure .int, .pure .int, .pure .int, .pure .bool, .pure .int]] G61), (73, useC [.ag [.pure .int, .pure .int, .pure .int, .pure .bool, .pure .int], .ag [.pure .int, .pure .int, .pure .int, .pure .bool, .pure .int]] G73), (52, useC [.pure .int, .pure .int] G52), (74, useC [.ag [.own .int, .own .int, .own .int, .own .bool, .own .int], .x] G74), (54, useC [.own .int, .x] G54), (77, useC [.ag [.pure .int, .pure .int, .pure .int, .pure .bool, .pure .int], .x] G77), (68, useC [.pure .int, .x] G68)]
theorem e24 (p1 : List Int) (p2 : List Int) (p3 : List Int) (p4 : List Bool) (p5 : List Int) (K : TV → TMem → Prop) : TW PP 133 Γ24 H24 W24 (List.length ([] : TMem)) (bodyOf Try.f24) (endT PP 133 [.tmp 2] [.bl] [] (List.length ([] : TMem)) K) (argsF [.agg [.pl .int p1, .pl .int p2, .pl .int p3, .pl .bool p4, .pl .int p5]]) [] =
    Ml_FnExactSmallCollect p1 p2 p3 p4 p5 (fun r1 => K (.bool r1) []) := by kernel_rfl
theorem s24 : CSound PP 24 G24 := by
  intro args K c h fl A aargs hA hN R hl
  unfold G24 at h
  generalize ht : c.tm = tm at h
  replace h := dCons_ok h; obtain ⟨a1_, r2_, rfl, h⟩ := h
  replace h := dAgg_ok h; obtain ⟨l3_, rfl, h⟩ := h
  replace h := dCons_ok h; obtain ⟨a4_, r5_, rfl, h⟩ := h
  replace h := dPl_ok h; obtain ⟨p1, rfl, h⟩ := h
  replace h := dCons_ok h; obtain ⟨a6_, r7_, rfl, h⟩ := h
  replace h := dPl_ok h; obtain ⟨p2, rfl, h⟩ := h
  replace h := dCons_ok h; obtain ⟨a8_, r9_, rfl, h⟩ := h
  replace h := dPl_ok h; obtain ⟨p3, rfl, h⟩ := h
  replace h := dCons_ok h; obtain ⟨a10_, r11_, rfl, h⟩ := h
  replace h := dPl_ok h; obtain ⟨p4, rfl, h⟩ := h
  replace h := dCons_ok h; obtain ⟨a12_, r13_, rfl, h⟩ := h
  replace h := dPl_ok h; obtain ⟨p5, rfl, h⟩ := h
  replace h := dNil_ok h; obtain ⟨rfl, h⟩ := h
  replace h := dNil_ok h; obtain ⟨rfl, h⟩ := h
  replace h := dEnd_ok h; obtain ⟨rfl, h⟩ := h
  refine fun_ok (nt := 133) (x := bodyOf Try.f24) (Γ := Γ24) (H := H24) (WW := W24) (rs := [.tmp 2]) (shs := [.bl]) (cons := []) mixed Try.func24 (by decide) (by kernel_rfl) Try.ntmps24 Try.results24 (.cons (useC_ok s71) (.cons (useC_ok s72) (.cons (useC_ok s70) (.cons (useC_ok s61) (.cons (useC_ok s73) (.cons (useC_ok s52) (.cons (useC_ok s74) (.cons (useC_ok s54) (.cons (useC_ok s77) (.cons (useC_ok s68) (GSound.nil))))))))))) ?_ hA hN R hl
  rw [ht, e24 p1 p2 p3 p4 p5 K]
  exact h
end Go.Ab
