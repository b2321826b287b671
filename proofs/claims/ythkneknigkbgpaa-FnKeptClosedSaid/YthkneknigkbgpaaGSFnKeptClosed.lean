/-
  What is proved here: that the typed models of functions of the translated program are sound.
-/
import Derived.Test.YthkneknigkbgpaaGM
import Derived.Test.YthkneknigkbgpaaProg
import Derived.KernelRfl
namespace Go.Ab
set_option linter.unusedVariables false
open Go.Proofs
noncomputable abbrev PP : Program := Try.prog
theorem mixed : PP.follows .mixedOrders = true := by kernel_rfl
/-! spec.l13Open -/
def G93 : Con := fun args tm K => dCons args fun a1_ r2_ => dPl .byte a1_ fun p1 => dNil r2_ <| dEnd tm <| Ms_l13Open p1 (fun r1 r2 => K (.ptr 0 0) [⟨true, .cells [.pl .byte r1, .int .i64 r2]⟩])
def H93 : List (Nat × LH) := []
def W93 : List (Nat × List (Nat × List Nat)) := []
def Γ93 : List (Nat × Con) := []
theorem e93 (p1 : List Int) (K : TV → TMem → Prop) : TW PP 11 Γ93 H93 W93 (List.length ([] : TMem)) (bodyOf Try.f93) (endT PP 11 [.tmp 2] [.pc [.pure .byte, .x]] [] (List.length ([] : TMem)) K) (argsF [.pl .byte p1]) [] =
    Ms_l13Open p1 (fun r1 r2 => K (.ptr 0 0) [⟨true, .cells [.pl .byte r1, .int .i64 r2]⟩]) := by kernel_rfl
theorem s93 : CSound PP 93 G93 := by
  intro args K c h fl A aargs hA hN R hl
  unfold G93 at h
  generalize ht : c.tm = tm at h
  replace h := dCons_ok h; obtain ⟨a1_, r2_, rfl, h⟩ := h
  replace h := dPl_ok h; obtain ⟨p1, rfl, h⟩ := h
  replace h := dNil_ok h; obtain ⟨rfl, h⟩ := h
  replace h := dEnd_ok h; obtain ⟨rfl, h⟩ := h
  refine fun_ok (nt := 11) (x := bodyOf Try.f93) (Γ := Γ93) (H := H93) (WW := W93) (rs := [.tmp 2]) (shs := [.pc [.pure .byte, .x]]) (cons := []) mixed Try.func93 (by decide) (by kernel_rfl) Try.ntmps93 Try.results93 (GSound.nil) ?_ hA hN R hl
  rw [ht, e93 p1 K]
  exact h
/-! (*spec.l13Rd).pick -/
def G112 : Con := fun args tm K => dCons args fun a1_ r2_ => dPtr 0 a1_ <| dCons r2_ fun a3_ r4_ => dInt .i64 a3_ fun p1 => dNil r4_ <| dBlk true tm fun b5_ m6_ => dCells b5_ fun c7_ => dCons c7_ fun a8_ r9_ => dPl .byte a8_ fun p2 => dCons r9_ fun a10_ r11_ => dInt .i64 a10_ fun p3 => dNil r11_ <| dEnd m6_ <| Ms_l13Rd_pick p1 p2 p3 (fun r1 r2 => K (.int .i64 r1) [⟨true, .cells [.pl .byte p2, .int .i64 r2]⟩])
def H112 : List (Nat × LH) := []
def W112 : List (Nat × List (Nat × List Nat)) := []
def Γ112 : List (Nat × Con) := []
theorem e112 (p1 : Int) (p2 : List Int) (p3 : Int) (K : TV → TMem → Prop) : TW PP 99 Γ112 H112 W112 (List.length ([⟨true, .cells [.pl .byte p2, .int .i64 p3]⟩] : TMem)) (bodyOf Try.f112) (endT PP 99 [.tmp 4] [.x] [] (List.length ([⟨true, .cells [.pl .byte p2, .int .i64 p3]⟩] : TMem)) K) (argsF [.ptr 0 0, .int .i64 p1]) [⟨true, .cells [.pl .byte p2, .int .i64 p3]⟩] =
    Ms_l13Rd_pick p1 p2 p3 (fun r1 r2 => K (.int .i64 r1) [⟨true, .cells [.pl .byte p2, .int .i64 r2]⟩]) := by kernel_rfl
theorem s112 : CSound PP 112 G112 := by
  intro args K c h fl A aargs hA hN R hl
  unfold G112 at h
  generalize ht : c.tm = tm at h
  replace h := dCons_ok h; obtain ⟨a1_, r2_, rfl, h⟩ := h
  replace h := dPtr_ok h; obtain ⟨rfl, h⟩ := h
  replace h := dCons_ok h; obtain ⟨a3_, r4_, rfl, h⟩ := h
  replace h := dInt_ok h; obtain ⟨p1, rfl, h⟩ := h
  replace h := dNil_ok h; obtain ⟨rfl, h⟩ := h
  replace h := dBlk_ok h; obtain ⟨b5_, m6_, rfl, h⟩ := h
  replace h := dCells_ok h; obtain ⟨c7_, rfl, h⟩ := h
  replace h := dCons_ok h; obtain ⟨a8_, r9_, rfl, h⟩ := h
  replace h := dPl_ok h; obtain ⟨p2, rfl, h⟩ := h
  replace h := dCons_ok h; obtain ⟨a10_, r11_, rfl, h⟩ := h
  replace h := dInt_ok h; obtain ⟨p3, rfl, h⟩ := h
  replace h := dNil_ok h; obtain ⟨rfl, h⟩ := h
  replace h := dEnd_ok h; obtain ⟨rfl, h⟩ := h
  refine fun_ok (nt := 99) (x := bodyOf Try.f112) (Γ := Γ112) (H := H112) (WW := W112) (rs := [.tmp 4]) (shs := [.x]) (cons := []) mixed Try.func112 (by decide) (by kernel_rfl) Try.ntmps112 Try.results112 (GSound.nil) ?_ hA hN R hl
  rw [ht, e112 p1 p2 p3 K]
  exact h
/-! (*spec.l13Rd).num -/
def G94 : Con := fun args tm K => dCons args fun a1_ r2_ => dPtr 0 a1_ <| dCons r2_ fun a3_ r4_ => dPl .int a3_ fun p1 => dNil r4_ <| dBlk true tm fun b5_ m6_ => dCells b5_ fun c7_ => dCons c7_ fun a8_ r9_ => dPl .byte a8_ fun p2 => dCons r9_ fun a10_ r11_ => dInt .i64 a10_ fun p3 => dNil r11_ <| dEnd m6_ <| Ms_l13Rd_num p1 p2 p3 (fun r1 r2 => K (.int .i64 r1) [⟨true, .cells [.pl .byte p2, .int .i64 r2]⟩])
def H94 : List (Nat × LH) := []
def W94 : List (Nat × List (Nat × List Nat)) := []
def Γ94 : List (Nat × Con) := [(112, useC [.pc [.pure .byte, .x], .x] G112)]
theorem e94 (p1 : List Int) (p2 : List Int) (p3 : Int) (K : TV → TMem → Prop) : TW PP 12 Γ94 H94 W94 (List.length ([⟨true, .cells [.pl .byte p2, .int .i64 p3]⟩] : TMem)) (bodyOf Try.f94) (endT PP 12 [.tmp 4] [.x] [] (List.length ([⟨true, .cells [.pl .byte p2, .int .i64 p3]⟩] : TMem)) K) (argsF [.ptr 0 0, .pl .int p1]) [⟨true, .cells [.pl .byte p2, .int .i64 p3]⟩] =
    Ms_l13Rd_num p1 p2 p3 (fun r1 r2 => K (.int .i64 r1) [⟨true, .cells [.pl .byte p2, .int .i64 r2]⟩]) := by kernel_rfl
theorem s94 : CSound PP 94 G94 := by
  intro args K c h fl A aargs hA hN R hl
  unfold G94 at h
  generalize ht : c.tm = tm at h
  replace h := dCons_ok h; obtain ⟨a1_, r2_, rfl, h⟩ := h
  replace h := dPtr_ok h; obtain ⟨rfl, h⟩ := h
  replace h := dCons_ok h; obtain ⟨a3_, r4_, rfl, h⟩ := h
  replace h := dPl_ok h; obtain ⟨p1, rfl, h⟩ := h
  replace h := dNil_ok h; obtain ⟨rfl, h⟩ := h
  replace h := dBlk_ok h; obtain ⟨b5_, m6_, rfl, h⟩ := h
  replace h := dCells_ok h; obtain ⟨c7_, rfl, h⟩ := h
  replace h := dCons_ok h; obtain ⟨a8_, r9_, rfl, h⟩ := h
  replace h := dPl_ok h; obtain ⟨p2, rfl, h⟩ := h
  replace h := dCons_ok h; obtain ⟨a10_, r11_, rfl, h⟩ := h
  replace h := dInt_ok h; obtain ⟨p3, rfl, h⟩ := h
  replace h := dNil_ok h; obtain ⟨rfl, h⟩ := h
  replace h := dEnd_ok h; obtain ⟨rfl, h⟩ := h
  refine fun_ok (nt := 12) (x := bodyOf Try.f94) (Γ := Γ94) (H := H94) (WW := W94) (rs := [.tmp 4]) (shs := [.x]) (cons := []) mixed Try.func94 (by decide) (by kernel_rfl) Try.ntmps94 Try.results94 (.cons (useC_ok s112) (GSound.nil)) ?_ hA hN R hl
  rw [ht, e94 p1 p2 p3 K]
  exact h
/-! spec.l1Many -/
def G116 : Con := fun args tm K => dCons args fun a1_ r2_ => dInt .i64 a1_ fun p1 => dNil r2_ <| dEnd tm <| Ms_l1Many p1 (fun r1 => K (.sl 0) [⟨true, .list .int r1⟩])
def H116_0 : LH where
  keep := [(0, .x), (3, .own .int), (4, .x)]
  S := Int × Int × List Int
  enc := fun s => ([.int .i64 s.1, .sl 0, .int .i64 s.2.1], [⟨true, .list .int s.2.2⟩])
  dec := fun vs tm K => dCons vs fun a1_ r2_ => dInt .i64 a1_ fun q0 => dCons r2_ fun a3_ r4_ => dSl 0 a3_ <| dCons r4_ fun a5_ r6_ => dInt .i64 a5_ fun q1 => dNil r6_ <| dBlk true tm fun b7_ m8_ => dList .int b7_ fun q2 => dEnd m8_ <| K (q0, q1, q2)
  law := by
    intro vs tm K h
    replace h := dCons_ok h; obtain ⟨a1_, r2_, rfl, h⟩ := h
    replace h := dInt_ok h; obtain ⟨q0, rfl, h⟩ := h
    replace h := dCons_ok h; obtain ⟨a3_, r4_, rfl, h⟩ := h
    replace h := dSl_ok h; obtain ⟨rfl, h⟩ := h
    replace h := dCons_ok h; obtain ⟨a5_, r6_, rfl, h⟩ := h
    replace h := dInt_ok h; obtain ⟨q1, rfl, h⟩ := h
    replace h := dNil_ok h; obtain ⟨rfl, h⟩ := h
    replace h := dBlk_ok h; obtain ⟨b7_, m8_, rfl, h⟩ := h
    replace h := dList_ok h; obtain ⟨q2, rfl, h⟩ := h
    replace h := dEnd_ok h; obtain ⟨rfl, h⟩ := h
    exact ⟨(q0, q1, q2), rfl, h⟩
def H116 : List (Nat × LH) := [(0, H116_0)]
def W116 : List (Nat × List (Nat × List Nat)) := []
def Γ116 : List (Nat × Con) := []
theorem e116 (p1 : Int) (K : TV → TMem → Prop) : TW PP 15 Γ116 H116 W116 (List.length ([] : TMem)) (bodyOf Try.f116) (endT PP 15 [.tmp 2] [.own .int] [] (List.length ([] : TMem)) K) (argsF [.int .i64 p1]) [] =
    Ms_l1Many p1 (fun r1 => K (.sl 0) [⟨true, .list .int r1⟩]) := by kernel_rfl
theorem s116 : CSound PP 116 G116 := by
  intro args K c h fl A aargs hA hN R hl
  unfold G116 at h
  generalize ht : c.tm = tm at h
  replace h := dCons_ok h; obtain ⟨a1_, r2_, rfl, h⟩ := h
  replace h := dInt_ok h; obtain ⟨p1, rfl, h⟩ := h
  replace h := dNil_ok h; obtain ⟨rfl, h⟩ := h
  replace h := dEnd_ok h; obtain ⟨rfl, h⟩ := h
  refine fun_ok (nt := 15) (x := bodyOf Try.f116) (Γ := Γ116) (H := H116) (WW := W116) (rs := [.tmp 2]) (shs := [.own .int]) (cons := []) mixed Try.func116 (by decide) (by kernel_rfl) Try.ntmps116 Try.results116 (GSound.nil) ?_ hA hN R hl
  rw [ht, e116 p1 K]
  exact h
/-! spec.NewHeap -/
def G138 : Con := fun args tm K => dCons args fun a1_ r2_ => dInt .i64 a1_ fun p1 => dCons r2_ fun a3_ r4_ => dInt .i64 a3_ fun p2 => dNil r4_ <| dEnd tm <| Ms_NewHeap p1 p2 (fun r1 r2 r3 r4 => K (.tup [.agg [.sl 0, .sl 1, .sl 2], .bool r1]) [⟨true, .list .int r2⟩, ⟨true, .list .int r3⟩, ⟨true, .list .int r4⟩])
def H138 : List (Nat × LH) := []
def W138 : List (Nat × List (Nat × List Nat)) := []
def Γ138 : List (Nat × Con) := [(116, useC [.x] G116)]
theorem e138 (p1 : Int) (p2 : Int) (K : TV → TMem → Prop) : TW PP 28 Γ138 H138 W138 (List.length ([] : TMem)) (bodyOf Try.f138) (endT PP 28 [.cell 4 25, .tmp 5] [.ag [.own .int, .own .int, .own .int], .bl] [] (List.length ([] : TMem)) K) (argsF [.int .i64 p1, .int .i64 p2]) [] =
    Ms_NewHeap p1 p2 (fun r1 r2 r3 r4 => K (.tup [.agg [.sl 0, .sl 1, .sl 2], .bool r1]) [⟨true, .list .int r2⟩, ⟨true, .list .int r3⟩, ⟨true, .list .int r4⟩]) := by kernel_rfl
theorem s138 : CSound PP 138 G138 := by
  intro args K c h fl A aargs hA hN R hl
  unfold G138 at h
  generalize ht : c.tm = tm at h
  replace h := dCons_ok h; obtain ⟨a1_, r2_, rfl, h⟩ := h
  replace h := dInt_ok h; obtain ⟨p1, rfl, h⟩ := h
  replace h := dCons_ok h; obtain ⟨a3_, r4_, rfl, h⟩ := h
  replace h := dInt_ok h; obtain ⟨p2, rfl, h⟩ := h
  replace h := dNil_ok h; obtain ⟨rfl, h⟩ := h
  replace h := dEnd_ok h; obtain ⟨rfl, h⟩ := h
  refine fun_ok (nt := 28) (x := bodyOf Try.f138) (Γ := Γ138) (H := H138) (WW := W138) (rs := [.cell 4 25, .tmp 5]) (shs := [.ag [.own .int, .own .int, .own .int], .bl]) (cons := []) mixed Try.func138 (by decide) (by kernel_rfl) Try.ntmps138 Try.results138 (.cons (useC_ok s116) (GSound.nil)) ?_ hA hN R hl
  rw [ht, e138 p1 p2 K]
  exact h
/-! spec.l1Draw -/
def G110 : Con := fun args tm K => dCons args fun a1_ r2_ => dPtr 0 a1_ <| dNil r2_ <| dBlk true tm fun b3_ m4_ => dCells b3_ fun c5_ => dCons c5_ fun a6_ r7_ => dPl .byte a6_ fun p1 => dCons r7_ fun a8_ r9_ => dInt .i64 a8_ fun p2 => dNil r9_ <| dEnd m4_ <| Ms_l1Draw p1 p2 (fun r1 r2 r3 r4 r5 => K (.agg [.sl 1, .sl 2, .sl 3]) [⟨true, .cells [.pl .byte r1, .int .i64 r2]⟩, ⟨true, .list .int r3⟩, ⟨true, .list .int r4⟩, ⟨true, .list .int r5⟩])
def H110_0 : LH where
  keep := [(0, .pc [.pure .byte, .x]), (2, .pc [.own .int, .own .int, .own .int]), (3, .x), (4, .pc [.own .int, .own .int, .own .int]), (6, .x)]
  S := Int × Int × List Int × Int × List Int × List Int × List Int × List Int × List Int × List Int
  enc := fun s => ([.ptr 0 0, .ptr 1 0, .int .i64 s.1, .ptr 2 0, .int .i64 s.2.1], [⟨true, .cells [.pl .byte s.2.2.1, .int .i64 s.2.2.2.1]⟩, ⟨true, .cells [.sl 3, .sl 4, .sl 5]⟩, ⟨true, .cells [.sl 6, .sl 7, .sl 8]⟩, ⟨true, .list .int s.2.2.2.2.1⟩, ⟨true, .list .int s.2.2.2.2.2.1⟩, ⟨true, .list .int s.2.2.2.2.2.2.1⟩, ⟨true, .list .int s.2.2.2.2.2.2.2.1⟩, ⟨true, .list .int s.2.2.2.2.2.2.2.2.1⟩, ⟨true, .list .int s.2.2.2.2.2.2.2.2.2⟩])
  dec := fun vs tm K => dCons vs fun a1_ r2_ => dPtr 0 a1_ <| dCons r2_ fun a3_ r4_ => dPtr 1 a3_ <| dCons r4_ fun a5_ r6_ => dInt .i64 a5_ fun q0 => dCons r6_ fun a7_ r8_ => dPtr 2 a7_ <| dCons r8_ fun a9_ r10_ => dInt .i64 a9_ fun q1 => dNil r10_ <| dBlk true tm fun b11_ m12_ => dCells b11_ fun c13_ => dCons c13_ fun a14_ r15_ => dPl .byte a14_ fun q2 => dCons r15_ fun a16_ r17_ => dInt .i64 a16_ fun q3 => dNil r17_ <| dBlk true m12_ fun b18_ m19_ => dCells b18_ fun c20_ => dCons c20_ fun a21_ r22_ => dSl 3 a21_ <| dCons r22_ fun a23_ r24_ => dSl 4 a23_ <| dCons r24_ fun a25_ r26_ => dSl 5 a25_ <| dNil r26_ <| dBlk true m19_ fun b27_ m28_ => dCells b27_ fun c29_ => dCons c29_ fun a30_ r31_ => dSl 6 a30_ <| dCons r31_ fun a32_ r33_ => dSl 7 a32_ <| dCons r33_ fun a34_ r35_ => dSl 8 a34_ <| dNil r35_ <| dBlk true m28_ fun b36_ m37_ => dList .int b36_ fun q4 => dBlk true m37_ fun b38_ m39_ => dList .int b38_ fun q5 => dBlk true m39_ fun b40_ m41_ => dList .int b40_ fun q6 => dBlk true m41_ fun b42_ m43_ => dList .int b42_ fun q7 => dBlk true m43_ fun b44_ m45_ => dList .int b44_ fun q8 => dBlk true m45_ fun b46_ m47_ => dList .int b46_ fun q9 => dEnd m47_ <| K (q0, q1, q2, q3, q4, q5, q6, q7, q8, q9)
  law := by
    intro vs tm K h
    replace h := dCons_ok h; obtain ⟨a1_, r2_, rfl, h⟩ := h
    replace h := dPtr_ok h; obtain ⟨rfl, h⟩ := h
    replace h := dCons_ok h; obtain ⟨a3_, r4_, rfl, h⟩ := h
    replace h := dPtr_ok h; obtain ⟨rfl, h⟩ := h
    replace h := dCons_ok h; obtain ⟨a5_, r6_, rfl, h⟩ := h
    replace h := dInt_ok h; obtain ⟨q0, rfl, h⟩ := h
    replace h := dCons_ok h; obtain ⟨a7_, r8_, rfl, h⟩ := h
    replace h := dPtr_ok h; obtain ⟨rfl, h⟩ := h
    replace h := dCons_ok h; obtain ⟨a9_, r10_, rfl, h⟩ := h
    replace h := dInt_ok h; obtain ⟨q1, rfl, h⟩ := h
    replace h := dNil_ok h; obtain ⟨rfl, h⟩ := h
    replace h := dBlk_ok h; obtain ⟨b11_, m12_, rfl, h⟩ := h
    replace h := dCells_ok h; obtain ⟨c13_, rfl, h⟩ := h
    replace h := dCons_ok h; obtain ⟨a14_, r15_, rfl, h⟩ := h
    replace h := dPl_ok h; obtain ⟨q2, rfl, h⟩ := h
    replace h := dCons_ok h; obtain ⟨a16_, r17_, rfl, h⟩ := h
    replace h := dInt_ok h; obtain ⟨q3, rfl, h⟩ := h
    replace h := dNil_ok h; obtain ⟨rfl, h⟩ := h
    replace h := dBlk_ok h; obtain ⟨b18_, m19_, rfl, h⟩ := h
    replace h := dCells_ok h; obtain ⟨c20_, rfl, h⟩ := h
    replace h := dCons_ok h; obtain ⟨a21_, r22_, rfl, h⟩ := h
    replace h := dSl_ok h; obtain ⟨rfl, h⟩ := h
    replace h := dCons_ok h; obtain ⟨a23_, r24_, rfl, h⟩ := h
    replace h := dSl_ok h; obtain ⟨rfl, h⟩ := h
    replace h := dCons_ok h; obtain ⟨a25_, r26_, rfl, h⟩ := h
    replace h := dSl_ok h; obtain ⟨rfl, h⟩ := h
    replace h := dNil_ok h; obtain ⟨rfl, h⟩ := h
    replace h := dBlk_ok h; obtain ⟨b27_, m28_, rfl, h⟩ := h
    replace h := dCells_ok h; obtain ⟨c29_, rfl, h⟩ := h
    replace h := dCons_ok h; obtain ⟨a30_, r31_, rfl, h⟩ := h
    replace h := dSl_ok h; obtain ⟨rfl, h⟩ := h
    replace h := dCons_ok h; obtain ⟨a32_, r33_, rfl, h⟩ := h
    replace h := dSl_ok h; obtain ⟨rfl, h⟩ := h
    replace h := dCons_ok h; obtain ⟨a34_, r35_, rfl, h⟩ := h
    replace h := dSl_ok h; obtain ⟨rfl, h⟩ := h
    replace h := dNil_ok h; obtain ⟨rfl, h⟩ := h
    replace h := dBlk_ok h; obtain ⟨b36_, m37_, rfl, h⟩ := h
    replace h := dList_ok h; obtain ⟨q4, rfl, h⟩ := h
    replace h := dBlk_ok h; obtain ⟨b38_, m39_, rfl, h⟩ := h
    replace h := dList_ok h; obtain ⟨q5, rfl, h⟩ := h
    replace h := dBlk_ok h; obtain ⟨b40_, m41_, rfl, h⟩ := h
    replace h := dList_ok h; obtain ⟨q6, rfl, h⟩ := h
    replace h := dBlk_ok h; obtain ⟨b42_, m43_, rfl, h⟩ := h
    replace h := dList_ok h; obtain ⟨q7, rfl, h⟩ := h
    replace h := dBlk_ok h; obtain ⟨b44_, m45_, rfl, h⟩ := h
    replace h := dList_ok h; obtain ⟨q8, rfl, h⟩ := h
    replace h := dBlk_ok h; obtain ⟨b46_, m47_, rfl, h⟩ := h
    replace h := dList_ok h; obtain ⟨q9, rfl, h⟩ := h
    replace h := dEnd_ok h; obtain ⟨rfl, h⟩ := h
    exact ⟨(q0, q1, q2, q3, q4, q5, q6, q7, q8, q9), rfl, h⟩
def H110_2 : LH where
  keep := [(0, .pc [.pure .byte, .x]), (2, .pc [.own .int, .own .int, .own .int]), (3, .x), (4, .pc [.own .int, .own .int, .own .int]), (7, .x)]
  S := Int × Int × List Int × Int × List Int × List Int × List Int × List Int × List Int × List Int
  enc := fun s => ([.ptr 0 0, .ptr 1 0, .int .i64 s.1, .ptr 2 0, .int .i64 s.2.1], [⟨true, .cells [.pl .byte s.2.2.1, .int .i64 s.2.2.2.1]⟩, ⟨true, .cells [.sl 3, .sl 4, .sl 5]⟩, ⟨true, .cells [.sl 6, .sl 7, .sl 8]⟩, ⟨true, .list .int s.2.2.2.2.1⟩, ⟨true, .list .int s.2.2.2.2.2.1⟩, ⟨true, .list .int s.2.2.2.2.2.2.1⟩, ⟨true, .list .int s.2.2.2.2.2.2.2.1⟩, ⟨true, .list .int s.2.2.2.2.2.2.2.2.1⟩, ⟨true, .list .int s.2.2.2.2.2.2.2.2.2⟩])
  dec := fun vs tm K => dCons vs fun a1_ r2_ => dPtr 0 a1_ <| dCons r2_ fun a3_ r4_ => dPtr 1 a3_ <| dCons r4_ fun a5_ r6_ => dInt .i64 a5_ fun q0 => dCons r6_ fun a7_ r8_ => dPtr 2 a7_ <| dCons r8_ fun a9_ r10_ => dInt .i64 a9_ fun q1 => dNil r10_ <| dBlk true tm fun b11_ m12_ => dCells b11_ fun c13_ => dCons c13_ fun a14_ r15_ => dPl .byte a14_ fun q2 => dCons r15_ fun a16_ r17_ => dInt .i64 a16_ fun q3 => dNil r17_ <| dBlk true m12_ fun b18_ m19_ => dCells b18_ fun c20_ => dCons c20_ fun a21_ r22_ => dSl 3 a21_ <| dCons r22_ fun a23_ r24_ => dSl 4 a23_ <| dCons r24_ fun a25_ r26_ => dSl 5 a25_ <| dNil r26_ <| dBlk true m19_ fun b27_ m28_ => dCells b27_ fun c29_ => dCons c29_ fun a30_ r31_ => dSl 6 a30_ <| dCons r31_ fun a32_ r33_ => dSl 7 a32_ <| dCons r33_ fun a34_ r35_ => dSl 8 a34_ <| dNil r35_ <| dBlk true m28_ fun b36_ m37_ => dList .int b36_ fun q4 => dBlk true m37_ fun b38_ m39_ => dList .int b38_ fun q5 => dBlk true m39_ fun b40_ m41_ => dList .int b40_ fun q6 => dBlk true m41_ fun b42_ m43_ => dList .int b42_ fun q7 => dBlk true m43_ fun b44_ m45_ => dList .int b44_ fun q8 => dBlk true m45_ fun b46_ m47_ => dList .int b46_ fun q9 => dEnd m47_ <| K (q0, q1, q2, q3, q4, q5, q6, q7, q8, q9)
  law := by
    intro vs tm K h
    replace h := dCons_ok h; obtain ⟨a1_, r2_, rfl, h⟩ := h
    replace h := dPtr_ok h; obtain ⟨rfl, h⟩ := h
    replace h := dCons_ok h; obtain ⟨a3_, r4_, rfl, h⟩ := h
    replace h := dPtr_ok h; obtain ⟨rfl, h⟩ := h
    replace h := dCons_ok h; obtain ⟨a5_, r6_, rfl, h⟩ := h
    replace h := dInt_ok h; obtain ⟨q0, rfl, h⟩ := h
    replace h := dCons_ok h; obtain ⟨a7_, r8_, rfl, h⟩ := h
    replace h := dPtr_ok h; obtain ⟨rfl, h⟩ := h
    replace h := dCons_ok h; obtain ⟨a9_, r10_, rfl, h⟩ := h
    replace h := dInt_ok h; obtain ⟨q1, rfl, h⟩ := h
    replace h := dNil_ok h; obtain ⟨rfl, h⟩ := h
    replace h := dBlk_ok h; obtain ⟨b11_, m12_, rfl, h⟩ := h
    replace h := dCells_ok h; obtain ⟨c13_, rfl, h⟩ := h
    replace h := dCons_ok h; obtain ⟨a14_, r15_, rfl, h⟩ := h
    replace h := dPl_ok h; obtain ⟨q2, rfl, h⟩ := h
    replace h := dCons_ok h; obtain ⟨a16_, r17_, rfl, h⟩ := h
    replace h := dInt_ok h; obtain ⟨q3, rfl, h⟩ := h
    replace h := dNil_ok h; obtain ⟨rfl, h⟩ := h
    replace h := dBlk_ok h; obtain ⟨b18_, m19_, rfl, h⟩ := h
    replace h := dCells_ok h; obtain ⟨c20_, rfl, h⟩ := h
    replace h := dCons_ok h; obtain ⟨a21_, r22_, rfl, h⟩ := h
    replace h := dSl_ok h; obtain ⟨rfl, h⟩ := h
    replace h := dCons_ok h; obtain ⟨a23_, r24_, rfl, h⟩ := h
    replace h := dSl_ok h; obtain ⟨rfl, h⟩ := h
    replace h := dCons_ok h; obtain ⟨a25_, r26_, rfl, h⟩ := h
    replace h := dSl_ok h; obtain ⟨rfl, h⟩ := h
    replace h := dNil_ok h; obtain ⟨rfl, h⟩ := h
    replace h := dBlk_ok h; obtain ⟨b27_, m28_, rfl, h⟩ := h
    replace h := dCells_ok h; obtain ⟨c29_, rfl, h⟩ := h
    replace h := dCons_ok h; obtain ⟨a30_, r31_, rfl, h⟩ := h
    replace h := dSl_ok h; obtain ⟨rfl, h⟩ := h
    replace h := dCons_ok h; obtain ⟨a32_, r33_, rfl, h⟩ := h
    replace h := dSl_ok h; obtain ⟨rfl, h⟩ := h
    replace h := dCons_ok h; obtain ⟨a34_, r35_, rfl, h⟩ := h
    replace h := dSl_ok h; obtain ⟨rfl, h⟩ := h
    replace h := dNil_ok h; obtain ⟨rfl, h⟩ := h
    replace h := dBlk_ok h; obtain ⟨b36_, m37_, rfl, h⟩ := h
    replace h := dList_ok h; obtain ⟨q4, rfl, h⟩ := h
    replace h := dBlk_ok h; obtain ⟨b38_, m39_, rfl, h⟩ := h
    replace h := dList_ok h; obtain ⟨q5, rfl, h⟩ := h
    replace h := dBlk_ok h; obtain ⟨b40_, m41_, rfl, h⟩ := h
    replace h := dList_ok h; obtain ⟨q6, rfl, h⟩ := h
    replace h := dBlk_ok h; obtain ⟨b42_, m43_, rfl, h⟩ := h
    replace h := dList_ok h; obtain ⟨q7, rfl, h⟩ := h
    replace h := dBlk_ok h; obtain ⟨b44_, m45_, rfl, h⟩ := h
    replace h := dList_ok h; obtain ⟨q8, rfl, h⟩ := h
    replace h := dBlk_ok h; obtain ⟨b46_, m47_, rfl, h⟩ := h
    replace h := dList_ok h; obtain ⟨q9, rfl, h⟩ := h
    replace h := dEnd_ok h; obtain ⟨rfl, h⟩ := h
    exact ⟨(q0, q1, q2, q3, q4, q5, q6, q7, q8, q9), rfl, h⟩
def H110 : List (Nat × LH) := [(0, H110_0), (2, H110_2)]
def W110 : List (Nat × List (Nat × List Nat)) := [(6, [(0, [6])]), (7, [(0, [6])]), (15, [(0, [6])])]
def Γ110 : List (Nat × Con) := [(94, useC [.pc [.pure .byte, .x], .pure .int] G94), (138, useC [.x, .x] G138), (112, useC [.pc [.pure .byte, .x], .x] G112)]
theorem e110 (p1 : List Int) (p2 : Int) (K : TV → TMem → Prop) : TW PP 80 Γ110 H110 W110 (List.length ([⟨true, .cells [.pl .byte p1, .int .i64 p2]⟩] : TMem)) (bodyOf Try.f110) (endT PP 80 [.cell 2 25] [.ag [.own .int, .own .int, .own .int]] [] (List.length ([⟨true, .cells [.pl .byte p1, .int .i64 p2]⟩] : TMem)) K) (argsF [.ptr 0 0]) [⟨true, .cells [.pl .byte p1, .int .i64 p2]⟩] =
    Ms_l1Draw p1 p2 (fun r1 r2 r3 r4 r5 => K (.agg [.sl 1, .sl 2, .sl 3]) [⟨true, .cells [.pl .byte r1, .int .i64 r2]⟩, ⟨true, .list .int r3⟩, ⟨true, .list .int r4⟩, ⟨true, .list .int r5⟩]) := by kernel_rfl
theorem s110 : CSound PP 110 G110 := by
  intro args K c h fl A aargs hA hN R hl
  unfold G110 at h
  generalize ht : c.tm = tm at h
  replace h := dCons_ok h; obtain ⟨a1_, r2_, rfl, h⟩ := h
  replace h := dPtr_ok h; obtain ⟨rfl, h⟩ := h
  replace h := dNil_ok h; obtain ⟨rfl, h⟩ := h
  replace h := dBlk_ok h; obtain ⟨b3_, m4_, rfl, h⟩ := h
  replace h := dCells_ok h; obtain ⟨c5_, rfl, h⟩ := h
  replace h := dCons_ok h; obtain ⟨a6_, r7_, rfl, h⟩ := h
  replace h := dPl_ok h; obtain ⟨p1, rfl, h⟩ := h
  replace h := dCons_ok h; obtain ⟨a8_, r9_, rfl, h⟩ := h
  replace h := dInt_ok h; obtain ⟨p2, rfl, h⟩ := h
  replace h := dNil_ok h; obtain ⟨rfl, h⟩ := h
  replace h := dEnd_ok h; obtain ⟨rfl, h⟩ := h
  refine fun_ok (nt := 80) (x := bodyOf Try.f110) (Γ := Γ110) (H := H110) (WW := W110) (rs := [.cell 2 25]) (shs := [.ag [.own .int, .own .int, .own .int]]) (cons := []) mixed Try.func110 (by decide) (by kernel_rfl) Try.ntmps110 Try.results110 (.cons (useC_ok s94) (.cons (useC_ok s138) (.cons (useC_ok s112) (GSound.nil)))) ?_ hA hN R hl
  rw [ht, e110 p1 p2 K]
  exact h
/-! spec.l1Copy -/
def G106 : Con := fun args tm K => dCons args fun a1_ r2_ => dAgg a1_ fun l3_ => dCons l3_ fun a4_ r5_ => dPl .int a4_ fun p1 => dCons r5_ fun a6_ r7_ => dPl .int a6_ fun p2 => dCons r7_ fun a8_ r9_ => dPl .int a8_ fun p3 => dNil r9_ <| dNil r2_ <| dEnd tm <| Ms_l1Copy p1 p2 p3 (K (.agg [.sl 0, .sl 1, .sl 2]) [⟨true, .list .int p1⟩, ⟨true, .list .int p2⟩, ⟨true, .list .int p3⟩])
def H106 : List (Nat × LH) := []
def W106 : List (Nat × List (Nat × List Nat)) := []
def Γ106 : List (Nat × Con) := []
theorem e106 (p1 : List Int) (p2 : List Int) (p3 : List Int) (K : TV → TMem → Prop) : TW PP 16 Γ106 H106 W106 (List.length ([] : TMem)) (bodyOf Try.f106) (endT PP 16 [.cell 2 25] [.ag [.own .int, .own .int, .own .int]] [] (List.length ([] : TMem)) K) (argsF [.agg [.pl .int p1, .pl .int p2, .pl .int p3]]) [] =
    Ms_l1Copy p1 p2 p3 (K (.agg [.sl 0, .sl 1, .sl 2]) [⟨true, .list .int p1⟩, ⟨true, .list .int p2⟩, ⟨true, .list .int p3⟩]) := by kernel_rfl
theorem s106 : CSound PP 106 G106 := by
  intro args K c h fl A aargs hA hN R hl
  unfold G106 at h
  generalize ht : c.tm = tm at h
  replace h := dCons_ok h; obtain ⟨a1_, r2_, rfl, h⟩ := h
  replace h := dAgg_ok h; obtain ⟨l3_, rfl, h⟩ := h
  replace h := dCons_ok h; obtain ⟨a4_, r5_, rfl, h⟩ := h
  replace h := dPl_ok h; obtain ⟨p1, rfl, h⟩ := h
  replace h := dCons_ok h; obtain ⟨a6_, r7_, rfl, h⟩ := h
  replace h := dPl_ok h; obtain ⟨p2, rfl, h⟩ := h
  replace h := dCons_ok h; obtain ⟨a8_, r9_, rfl, h⟩ := h
  replace h := dPl_ok h; obtain ⟨p3, rfl, h⟩ := h
  replace h := dNil_ok h; obtain ⟨rfl, h⟩ := h
  replace h := dNil_ok h; obtain ⟨rfl, h⟩ := h
  replace h := dEnd_ok h; obtain ⟨rfl, h⟩ := h
  refine fun_ok (nt := 16) (x := bodyOf Try.f106) (Γ := Γ106) (H := H106) (WW := W106) (rs := [.cell 2 25]) (shs := [.ag [.own .int, .own .int, .own .int]]) (cons := []) mixed Try.func106 (by decide) (by kernel_rfl) Try.ntmps106 Try.results106 (GSound.nil) ?_ hA hN R hl
  rw [ht, e106 p1 p2 p3 K]
  exact h
/-! impl.HeapValid -/
def G34 : Con := fun args tm K => dCons args fun a1_ r2_ => dAgg a1_ fun l3_ => dCons l3_ fun a4_ r5_ => dPl .int a4_ fun p1 => dCons r5_ fun a6_ r7_ => dPl .int a6_ fun p2 => dCons r7_ fun a8_ r9_ => dPl .int a8_ fun p3 => dNil r9_ <| dNil r2_ <| dEnd tm <| Mi_HeapValid p1 p2 p3 (fun r1 => K (.bool r1) [])
def H34_0 : LH where
  keep := [(1, .pc [.pure .int, .pure .int, .pure .int]), (44, .own .ints), (45, .x), (46, .x)]
  S := Int × Int × List Int × List Int × List Int × List (List Int)
  enc := fun s => ([.ptr 0 0, .sl 1, .int .i64 s.1, .int .i64 s.2.1], [⟨true, .cells [.pl .int s.2.2.1, .pl .int s.2.2.2.1, .pl .int s.2.2.2.2.1]⟩, ⟨true, .list .ints s.2.2.2.2.2⟩])
  dec := fun vs tm K => dCons vs fun a1_ r2_ => dPtr 0 a1_ <| dCons r2_ fun a3_ r4_ => dSl 1 a3_ <| dCons r4_ fun a5_ r6_ => dInt .i64 a5_ fun q0 => dCons r6_ fun a7_ r8_ => dInt .i64 a7_ fun q1 => dNil r8_ <| dBlk true tm fun b9_ m10_ => dCells b9_ fun c11_ => dCons c11_ fun a12_ r13_ => dPl .int a12_ fun q2 => dCons r13_ fun a14_ r15_ => dPl .int a14_ fun q3 => dCons r15_ fun a16_ r17_ => dPl .int a16_ fun q4 => dNil r17_ <| dBlk true m10_ fun b18_ m19_ => dList .ints b18_ fun q5 => dEnd m19_ <| K (q0, q1, q2, q3, q4, q5)
  law := by
    intro vs tm K h
    replace h := dCons_ok h; obtain ⟨a1_, r2_, rfl, h⟩ := h
    replace h := dPtr_ok h; obtain ⟨rfl, h⟩ := h
    replace h := dCons_ok h; obtain ⟨a3_, r4_, rfl, h⟩ := h
    replace h := dSl_ok h; obtain ⟨rfl, h⟩ := h
    replace h := dCons_ok h; obtain ⟨a5_, r6_, rfl, h⟩ := h
    replace h := dInt_ok h; obtain ⟨q0, rfl, h⟩ := h
    replace h := dCons_ok h; obtain ⟨a7_, r8_, rfl, h⟩ := h
    replace h := dInt_ok h; obtain ⟨q1, rfl, h⟩ := h
    replace h := dNil_ok h; obtain ⟨rfl, h⟩ := h
    replace h := dBlk_ok h; obtain ⟨b9_, m10_, rfl, h⟩ := h
    replace h := dCells_ok h; obtain ⟨c11_, rfl, h⟩ := h
    replace h := dCons_ok h; obtain ⟨a12_, r13_, rfl, h⟩ := h
    replace h := dPl_ok h; obtain ⟨q2, rfl, h⟩ := h
    replace h := dCons_ok h; obtain ⟨a14_, r15_, rfl, h⟩ := h
    replace h := dPl_ok h; obtain ⟨q3, rfl, h⟩ := h
    replace h := dCons_ok h; obtain ⟨a16_, r17_, rfl, h⟩ := h
    replace h := dPl_ok h; obtain ⟨q4, rfl, h⟩ := h
    replace h := dNil_ok h; obtain ⟨rfl, h⟩ := h
    replace h := dBlk_ok h; obtain ⟨b18_, m19_, rfl, h⟩ := h
    replace h := dList_ok h; obtain ⟨q5, rfl, h⟩ := h
    replace h := dEnd_ok h; obtain ⟨rfl, h⟩ := h
    exact ⟨(q0, q1, q2, q3, q4, q5), rfl, h⟩
def H34_2 : LH where
  keep := [(1, .pc [.pure .int, .pure .int, .pure .int]), (44, .own .ints), (45, .x), (46, .x), (50, .pure .int), (51, .x), (52, .x)]
  S := Int × Int × List Int × Int × Int × List Int × List Int × List Int × List (List Int)
  enc := fun s => ([.ptr 0 0, .sl 1, .int .i64 s.1, .int .i64 s.2.1, .pl .int s.2.2.1, .int .i64 s.2.2.2.1, .int .i64 s.2.2.2.2.1], [⟨true, .cells [.pl .int s.2.2.2.2.2.1, .pl .int s.2.2.2.2.2.2.1, .pl .int s.2.2.2.2.2.2.2.1]⟩, ⟨true, .list .ints s.2.2.2.2.2.2.2.2⟩])
  dec := fun vs tm K => dCons vs fun a1_ r2_ => dPtr 0 a1_ <| dCons r2_ fun a3_ r4_ => dSl 1 a3_ <| dCons r4_ fun a5_ r6_ => dInt .i64 a5_ fun q0 => dCons r6_ fun a7_ r8_ => dInt .i64 a7_ fun q1 => dCons r8_ fun a9_ r10_ => dPl .int a9_ fun q2 => dCons r10_ fun a11_ r12_ => dInt .i64 a11_ fun q3 => dCons r12_ fun a13_ r14_ => dInt .i64 a13_ fun q4 => dNil r14_ <| dBlk true tm fun b15_ m16_ => dCells b15_ fun c17_ => dCons c17_ fun a18_ r19_ => dPl .int a18_ fun q5 => dCons r19_ fun a20_ r21_ => dPl .int a20_ fun q6 => dCons r21_ fun a22_ r23_ => dPl .int a22_ fun q7 => dNil r23_ <| dBlk true m16_ fun b24_ m25_ => dList .ints b24_ fun q8 => dEnd m25_ <| K (q0, q1, q2, q3, q4, q5, q6, q7, q8)
  law := by
    intro vs tm K h
    replace h := dCons_ok h; obtain ⟨a1_, r2_, rfl, h⟩ := h
    replace h := dPtr_ok h; obtain ⟨rfl, h⟩ := h
    replace h := dCons_ok h; obtain ⟨a3_, r4_, rfl, h⟩ := h
    replace h := dSl_ok h; obtain ⟨rfl, h⟩ := h
    replace h := dCons_ok h; obtain ⟨a5_, r6_, rfl, h⟩ := h
    replace h := dInt_ok h; obtain ⟨q0, rfl, h⟩ := h
    replace h := dCons_ok h; obtain ⟨a7_, r8_, rfl, h⟩ := h
    replace h := dInt_ok h; obtain ⟨q1, rfl, h⟩ := h
    replace h := dCons_ok h; obtain ⟨a9_, r10_, rfl, h⟩ := h
    replace h := dPl_ok h; obtain ⟨q2, rfl, h⟩ := h
    replace h := dCons_ok h; obtain ⟨a11_, r12_, rfl, h⟩ := h
    replace h := dInt_ok h; obtain ⟨q3, rfl, h⟩ := h
    replace h := dCons_ok h; obtain ⟨a13_, r14_, rfl, h⟩ := h
    replace h := dInt_ok h; obtain ⟨q4, rfl, h⟩ := h
    replace h := dNil_ok h; obtain ⟨rfl, h⟩ := h
    replace h := dBlk_ok h; obtain ⟨b15_, m16_, rfl, h⟩ := h
    replace h := dCells_ok h; obtain ⟨c17_, rfl, h⟩ := h
    replace h := dCons_ok h; obtain ⟨a18_, r19_, rfl, h⟩ := h
    replace h := dPl_ok h; obtain ⟨q5, rfl, h⟩ := h
    replace h := dCons_ok h; obtain ⟨a20_, r21_, rfl, h⟩ := h
    replace h := dPl_ok h; obtain ⟨q6, rfl, h⟩ := h
    replace h := dCons_ok h; obtain ⟨a22_, r23_, rfl, h⟩ := h
    replace h := dPl_ok h; obtain ⟨q7, rfl, h⟩ := h
    replace h := dNil_ok h; obtain ⟨rfl, h⟩ := h
    replace h := dBlk_ok h; obtain ⟨b24_, m25_, rfl, h⟩ := h
    replace h := dList_ok h; obtain ⟨q8, rfl, h⟩ := h
    replace h := dEnd_ok h; obtain ⟨rfl, h⟩ := h
    exact ⟨(q0, q1, q2, q3, q4, q5, q6, q7, q8), rfl, h⟩
def H34 : List (Nat × LH) := [(0, H34_0), (2, H34_2)]
def W34 : List (Nat × List (Nat × List Nat)) := []
def Γ34 : List (Nat × Con) := []
theorem e34 (p1 : List Int) (p2 : List Int) (p3 : List Int) (K : TV → TMem → Prop) : TW PP 67 Γ34 H34 W34 (List.length ([] : TMem)) (bodyOf Try.f34) (endT PP 67 [.tmp 2] [.bl] [] (List.length ([] : TMem)) K) (argsF [.agg [.pl .int p1, .pl .int p2, .pl .int p3]]) [] =
    Mi_HeapValid p1 p2 p3 (fun r1 => K (.bool r1) []) := by kernel_rfl
theorem s34 : CSound PP 34 G34 := by
  intro args K c h fl A aargs hA hN R hl
  unfold G34 at h
  generalize ht : c.tm = tm at h
  replace h := dCons_ok h; obtain ⟨a1_, r2_, rfl, h⟩ := h
  replace h := dAgg_ok h; obtain ⟨l3_, rfl, h⟩ := h
  replace h := dCons_ok h; obtain ⟨a4_, r5_, rfl, h⟩ := h
  replace h := dPl_ok h; obtain ⟨p1, rfl, h⟩ := h
  replace h := dCons_ok h; obtain ⟨a6_, r7_, rfl, h⟩ := h
  replace h := dPl_ok h; obtain ⟨p2, rfl, h⟩ := h
  replace h := dCons_ok h; obtain ⟨a8_, r9_, rfl, h⟩ := h
  replace h := dPl_ok h; obtain ⟨p3, rfl, h⟩ := h
  replace h := dNil_ok h; obtain ⟨rfl, h⟩ := h
  replace h := dNil_ok h; obtain ⟨rfl, h⟩ := h
  replace h := dEnd_ok h; obtain ⟨rfl, h⟩ := h
  refine fun_ok (nt := 67) (x := bodyOf Try.f34) (Γ := Γ34) (H := H34) (WW := W34) (rs := [.tmp 2]) (shs := [.bl]) (cons := []) mixed Try.func34 (by decide) (by kernel_rfl) Try.ntmps34 Try.results34 (GSound.nil) ?_ hA hN R hl
  rw [ht, e34 p1 p2 p3 K]
  exact h
/-! spec.l1Points -/
def G127 : Con := fun args tm K => dCons args fun a1_ r2_ => dInt .i64 a1_ fun p1 => dCons r2_ fun a3_ r4_ => dInt .i64 a3_ fun p2 => dNil r4_ <| dEnd tm <| Ms_l1Points p1 p2 (fun r1 => K (.bool r1) [])
def H127 : List (Nat × LH) := []
def W127 : List (Nat × List (Nat × List Nat)) := []
def Γ127 : List (Nat × Con) := []
theorem e127 (p1 : Int) (p2 : Int) (K : TV → TMem → Prop) : TW PP 12 Γ127 H127 W127 (List.length ([] : TMem)) (bodyOf Try.f127) (endT PP 12 [.tmp 4] [.bl] [] (List.length ([] : TMem)) K) (argsF [.int .i64 p1, .int .i64 p2]) [] =
    Ms_l1Points p1 p2 (fun r1 => K (.bool r1) []) := by kernel_rfl
theorem s127 : CSound PP 127 G127 := by
  intro args K c h fl A aargs hA hN R hl
  unfold G127 at h
  generalize ht : c.tm = tm at h
  replace h := dCons_ok h; obtain ⟨a1_, r2_, rfl, h⟩ := h
  replace h := dInt_ok h; obtain ⟨p1, rfl, h⟩ := h
  replace h := dCons_ok h; obtain ⟨a3_, r4_, rfl, h⟩ := h
  replace h := dInt_ok h; obtain ⟨p2, rfl, h⟩ := h
  replace h := dNil_ok h; obtain ⟨rfl, h⟩ := h
  replace h := dEnd_ok h; obtain ⟨rfl, h⟩ := h
  refine fun_ok (nt := 12) (x := bodyOf Try.f127) (Γ := Γ127) (H := H127) (WW := W127) (rs := [.tmp 4]) (shs := [.bl]) (cons := []) mixed Try.func127 (by decide) (by kernel_rfl) Try.ntmps127 Try.results127 (GSound.nil) ?_ hA hN R hl
  rw [ht, e127 p1 p2 K]
  exact h
/-! spec.HeapValid -/
def G88 : Con := fun args tm K => dCons args fun a1_ r2_ => dAgg a1_ fun l3_ => dCons l3_ fun a4_ r5_ => dPl .int a4_ fun p1 => dCons r5_ fun a6_ r7_ => dPl .int a6_ fun p2 => dCons r7_ fun a8_ r9_ => dPl .int a8_ fun p3 => dNil r9_ <| dNil r2_ <| dEnd tm <| Ms_HeapValid p1 p2 p3 (fun r1 => K (.bool r1) [])
def H88_0 : LH where
  keep := [(1, .pc [.pure .int, .pure .int, .pure .int]), (3, .x), (4, .x)]
  S := Int × Int × List Int × List Int × List Int
  enc := fun s => ([.ptr 0 0, .int .i64 s.1, .int .i64 s.2.1], [⟨true, .cells [.pl .int s.2.2.1, .pl .int s.2.2.2.1, .pl .int s.2.2.2.2]⟩])
  dec := fun vs tm K => dCons vs fun a1_ r2_ => dPtr 0 a1_ <| dCons r2_ fun a3_ r4_ => dInt .i64 a3_ fun q0 => dCons r4_ fun a5_ r6_ => dInt .i64 a5_ fun q1 => dNil r6_ <| dBlk true tm fun b7_ m8_ => dCells b7_ fun c9_ => dCons c9_ fun a10_ r11_ => dPl .int a10_ fun q2 => dCons r11_ fun a12_ r13_ => dPl .int a12_ fun q3 => dCons r13_ fun a14_ r15_ => dPl .int a14_ fun q4 => dNil r15_ <| dEnd m8_ <| K (q0, q1, q2, q3, q4)
  law := by
    intro vs tm K h
    replace h := dCons_ok h; obtain ⟨a1_, r2_, rfl, h⟩ := h
    replace h := dPtr_ok h; obtain ⟨rfl, h⟩ := h
    replace h := dCons_ok h; obtain ⟨a3_, r4_, rfl, h⟩ := h
    replace h := dInt_ok h; obtain ⟨q0, rfl, h⟩ := h
    replace h := dCons_ok h; obtain ⟨a5_, r6_, rfl, h⟩ := h
    replace h := dInt_ok h; obtain ⟨q1, rfl, h⟩ := h
    replace h := dNil_ok h; obtain ⟨rfl, h⟩ := h
    replace h := dBlk_ok h; obtain ⟨b7_, m8_, rfl, h⟩ := h
    replace h := dCells_ok h; obtain ⟨c9_, rfl, h⟩ := h
    replace h := dCons_ok h; obtain ⟨a10_, r11_, rfl, h⟩ := h
    replace h := dPl_ok h; obtain ⟨q2, rfl, h⟩ := h
    replace h := dCons_ok h; obtain ⟨a12_, r13_, rfl, h⟩ := h
    replace h := dPl_ok h; obtain ⟨q3, rfl, h⟩ := h
    replace h := dCons_ok h; obtain ⟨a14_, r15_, rfl, h⟩ := h
    replace h := dPl_ok h; obtain ⟨q4, rfl, h⟩ := h
    replace h := dNil_ok h; obtain ⟨rfl, h⟩ := h
    replace h := dEnd_ok h; obtain ⟨rfl, h⟩ := h
    exact ⟨(q0, q1, q2, q3, q4), rfl, h⟩
def H88_2 : LH where
  keep := [(1, .pc [.pure .int, .pure .int, .pure .int]), (3, .x), (5, .x)]
  S := Int × Int × List Int × List Int × List Int
  enc := fun s => ([.ptr 0 0, .int .i64 s.1, .int .i64 s.2.1], [⟨true, .cells [.pl .int s.2.2.1, .pl .int s.2.2.2.1, .pl .int s.2.2.2.2]⟩])
  dec := fun vs tm K => dCons vs fun a1_ r2_ => dPtr 0 a1_ <| dCons r2_ fun a3_ r4_ => dInt .i64 a3_ fun q0 => dCons r4_ fun a5_ r6_ => dInt .i64 a5_ fun q1 => dNil r6_ <| dBlk true tm fun b7_ m8_ => dCells b7_ fun c9_ => dCons c9_ fun a10_ r11_ => dPl .int a10_ fun q2 => dCons r11_ fun a12_ r13_ => dPl .int a12_ fun q3 => dCons r13_ fun a14_ r15_ => dPl .int a14_ fun q4 => dNil r15_ <| dEnd m8_ <| K (q0, q1, q2, q3, q4)
  law := by
    intro vs tm K h
    replace h := dCons_ok h; obtain ⟨a1_, r2_, rfl, h⟩ := h
    replace h := dPtr_ok h; obtain ⟨rfl, h⟩ := h
    replace h := dCons_ok h; obtain ⟨a3_, r4_, rfl, h⟩ := h
    replace h := dInt_ok h; obtain ⟨q0, rfl, h⟩ := h
    replace h := dCons_ok h; obtain ⟨a5_, r6_, rfl, h⟩ := h
    replace h := dInt_ok h; obtain ⟨q1, rfl, h⟩ := h
    replace h := dNil_ok h; obtain ⟨rfl, h⟩ := h
    replace h := dBlk_ok h; obtain ⟨b7_, m8_, rfl, h⟩ := h
    replace h := dCells_ok h; obtain ⟨c9_, rfl, h⟩ := h
    replace h := dCons_ok h; obtain ⟨a10_, r11_, rfl, h⟩ := h
    replace h := dPl_ok h; obtain ⟨q2, rfl, h⟩ := h
    replace h := dCons_ok h; obtain ⟨a12_, r13_, rfl, h⟩ := h
    replace h := dPl_ok h; obtain ⟨q3, rfl, h⟩ := h
    replace h := dCons_ok h; obtain ⟨a14_, r15_, rfl, h⟩ := h
    replace h := dPl_ok h; obtain ⟨q4, rfl, h⟩ := h
    replace h := dNil_ok h; obtain ⟨rfl, h⟩ := h
    replace h := dEnd_ok h; obtain ⟨rfl, h⟩ := h
    exact ⟨(q0, q1, q2, q3, q4), rfl, h⟩
def H88 : List (Nat × LH) := [(0, H88_0), (2, H88_2)]
def W88 : List (Nat × List (Nat × List Nat)) := []
def Γ88 : List (Nat × Con) := [(127, useC [.x, .x] G127)]
theorem e88 (p1 : List Int) (p2 : List Int) (p3 : List Int) (K : TV → TMem → Prop) : TW PP 72 Γ88 H88 W88 (List.length ([] : TMem)) (bodyOf Try.f88) (endT PP 72 [.tmp 2] [.bl] [] (List.length ([] : TMem)) K) (argsF [.agg [.pl .int p1, .pl .int p2, .pl .int p3]]) [] =
    Ms_HeapValid p1 p2 p3 (fun r1 => K (.bool r1) []) := by kernel_rfl
theorem s88 : CSound PP 88 G88 := by
  intro args K c h fl A aargs hA hN R hl
  unfold G88 at h
  generalize ht : c.tm = tm at h
  replace h := dCons_ok h; obtain ⟨a1_, r2_, rfl, h⟩ := h
  replace h := dAgg_ok h; obtain ⟨l3_, rfl, h⟩ := h
  replace h := dCons_ok h; obtain ⟨a4_, r5_, rfl, h⟩ := h
  replace h := dPl_ok h; obtain ⟨p1, rfl, h⟩ := h
  replace h := dCons_ok h; obtain ⟨a6_, r7_, rfl, h⟩ := h
  replace h := dPl_ok h; obtain ⟨p2, rfl, h⟩ := h
  replace h := dCons_ok h; obtain ⟨a8_, r9_, rfl, h⟩ := h
  replace h := dPl_ok h; obtain ⟨p3, rfl, h⟩ := h
  replace h := dNil_ok h; obtain ⟨rfl, h⟩ := h
  replace h := dNil_ok h; obtain ⟨rfl, h⟩ := h
  replace h := dEnd_ok h; obtain ⟨rfl, h⟩ := h
  refine fun_ok (nt := 72) (x := bodyOf Try.f88) (Γ := Γ88) (H := H88) (WW := W88) (rs := [.tmp 2]) (shs := [.bl]) (cons := []) mixed Try.func88 (by decide) (by kernel_rfl) Try.ntmps88 Try.results88 (.cons (useC_ok s127) (GSound.nil)) ?_ hA hN R hl
  rw [ht, e88 p1 p2 p3 K]
  exact h
/-! laws.ccInts -/
def G32 : Con := fun args tm K => dCons args fun a1_ r2_ => dPl .int a1_ fun p1 => dCons r2_ fun a3_ r4_ => dPl .int a3_ fun p2 => dNil r4_ <| dEnd tm <| Ml_ccInts p1 p2 (fun r1 => K (.bool r1) [])
def H32_0 : LH where
  keep := [(0, .pure .int), (1, .pure .int), (5, .x)]
  S := List Int × List Int × Int
  enc := fun s => ([.pl .int s.1, .pl .int s.2.1, .int .i64 s.2.2], [])
  dec := fun vs tm K => dCons vs fun a1_ r2_ => dPl .int a1_ fun q0 => dCons r2_ fun a3_ r4_ => dPl .int a3_ fun q1 => dCons r4_ fun a5_ r6_ => dInt .i64 a5_ fun q2 => dNil r6_ <| dEnd tm <| K (q0, q1, q2)
  law := by
    intro vs tm K h
    replace h := dCons_ok h; obtain ⟨a1_, r2_, rfl, h⟩ := h
    replace h := dPl_ok h; obtain ⟨q0, rfl, h⟩ := h
    replace h := dCons_ok h; obtain ⟨a3_, r4_, rfl, h⟩ := h
    replace h := dPl_ok h; obtain ⟨q1, rfl, h⟩ := h
    replace h := dCons_ok h; obtain ⟨a5_, r6_, rfl, h⟩ := h
    replace h := dInt_ok h; obtain ⟨q2, rfl, h⟩ := h
    replace h := dNil_ok h; obtain ⟨rfl, h⟩ := h
    replace h := dEnd_ok h; obtain ⟨rfl, h⟩ := h
    exact ⟨(q0, q1, q2), rfl, h⟩
def H32 : List (Nat × LH) := [(0, H32_0)]
def W32 : List (Nat × List (Nat × List Nat)) := []
def Γ32 : List (Nat × Con) := []
theorem e32 (p1 : List Int) (p2 : List Int) (K : TV → TMem → Prop) : TW PP 26 Γ32 H32 W32 (List.length ([] : TMem)) (bodyOf Try.f32) (endT PP 26 [.tmp 4] [.bl] [] (List.length ([] : TMem)) K) (argsF [.pl .int p1, .pl .int p2]) [] =
    Ml_ccInts p1 p2 (fun r1 => K (.bool r1) []) := by kernel_rfl
theorem s32 : CSound PP 32 G32 := by
  intro args K c h fl A aargs hA hN R hl
  unfold G32 at h
  generalize ht : c.tm = tm at h
  replace h := dCons_ok h; obtain ⟨a1_, r2_, rfl, h⟩ := h
  replace h := dPl_ok h; obtain ⟨p1, rfl, h⟩ := h
  replace h := dCons_ok h; obtain ⟨a3_, r4_, rfl, h⟩ := h
  replace h := dPl_ok h; obtain ⟨p2, rfl, h⟩ := h
  replace h := dNil_ok h; obtain ⟨rfl, h⟩ := h
  replace h := dEnd_ok h; obtain ⟨rfl, h⟩ := h
  refine fun_ok (nt := 26) (x := bodyOf Try.f32) (Γ := Γ32) (H := H32) (WW := W32) (rs := [.tmp 4]) (shs := [.bl]) (cons := []) mixed Try.func32 (by decide) (by kernel_rfl) Try.ntmps32 Try.results32 (GSound.nil) ?_ hA hN R hl
  rw [ht, e32 p1 p2 K]
  exact h
/-! spec.NewGens -/
def G60 : Con := fun args tm K => dCons args fun a1_ r2_ => dAgg a1_ fun l3_ => dCons l3_ fun a4_ r5_ => dPl .int a4_ fun p1 => dCons r5_ fun a6_ r7_ => dPl .int a6_ fun p2 => dCons r7_ fun a8_ r9_ => dPl .int a8_ fun p3 => dNil r9_ <| dNil r2_ <| dEnd tm <| Ms_NewGens p1 p2 p3 (fun r1 r2 r3 r4 r5 r6 => K (.tup [.agg [.sl 0, .sl 1, .sl 2, .sl 3, .sl 4], .bool r1]) [⟨true, .list .int r2⟩, ⟨true, .list .int r3⟩, ⟨true, .list .int r4⟩, ⟨true, .list .bool r5⟩, ⟨true, .list .int r6⟩])
def H60 : List (Nat × LH) := []
def W60 : List (Nat × List (Nat × List Nat)) := []
def Γ60 : List (Nat × Con) := [(88, useC [.ag [.pure .int, .pure .int, .pure .int]] G88), (106, useC [.ag [.pure .int, .pure .int, .pure .int]] G106)]
theorem e60 (p1 : List Int) (p2 : List Int) (p3 : List Int) (K : TV → TMem → Prop) : TW PP 16 Γ60 H60 W60 (List.length ([] : TMem)) (bodyOf Try.f60) (endT PP 16 [.cell 2 37, .tmp 3] [.ag [.own .int, .own .int, .own .int, .own .bool, .own .int], .bl] [] (List.length ([] : TMem)) K) (argsF [.agg [.pl .int p1, .pl .int p2, .pl .int p3]]) [] =
    Ms_NewGens p1 p2 p3 (fun r1 r2 r3 r4 r5 r6 => K (.tup [.agg [.sl 0, .sl 1, .sl 2, .sl 3, .sl 4], .bool r1]) [⟨true, .list .int r2⟩, ⟨true, .list .int r3⟩, ⟨true, .list .int r4⟩, ⟨true, .list .bool r5⟩, ⟨true, .list .int r6⟩]) := by kernel_rfl
theorem s60 : CSound PP 60 G60 := by
  intro args K c h fl A aargs hA hN R hl
  unfold G60 at h
  generalize ht : c.tm = tm at h
  replace h := dCons_ok h; obtain ⟨a1_, r2_, rfl, h⟩ := h
  replace h := dAgg_ok h; obtain ⟨l3_, rfl, h⟩ := h
  replace h := dCons_ok h; obtain ⟨a4_, r5_, rfl, h⟩ := h
  replace h := dPl_ok h; obtain ⟨p1, rfl, h⟩ := h
  replace h := dCons_ok h; obtain ⟨a6_, r7_, rfl, h⟩ := h
  replace h := dPl_ok h; obtain ⟨p2, rfl, h⟩ := h
  replace h := dCons_ok h; obtain ⟨a8_, r9_, rfl, h⟩ := h
  replace h := dPl_ok h; obtain ⟨p3, rfl, h⟩ := h
  replace h := dNil_ok h; obtain ⟨rfl, h⟩ := h
  replace h := dNil_ok h; obtain ⟨rfl, h⟩ := h
  replace h := dEnd_ok h; obtain ⟨rfl, h⟩ := h
  refine fun_ok (nt := 16) (x := bodyOf Try.f60) (Γ := Γ60) (H := H60) (WW := W60) (rs := [.cell 2 37, .tmp 3]) (shs := [.ag [.own .int, .own .int, .own .int, .own .bool, .own .int], .bl]) (cons := []) mixed Try.func60 (by decide) (by kernel_rfl) Try.ntmps60 Try.results60 (.cons (useC_ok s88) (.cons (useC_ok s106) (GSound.nil))) ?_ hA hN R hl
  rw [ht, e60 p1 p2 p3 K]
  exact h
/-! spec.l11Young -/
def G135 : Con := fun args tm K => dCons args fun a1_ r2_ => dPl .bool a1_ fun p1 => dCons r2_ fun a3_ r4_ => dInt .i64 a3_ fun p2 => dNil r4_ <| dEnd tm <| Ms_l11Young p1 p2 (fun r1 => K (.bool r1) [])
def H135 : List (Nat × LH) := []
def W135 : List (Nat × List (Nat × List Nat)) := []
def Γ135 : List (Nat × Con) := []
theorem e135 (p1 : List Bool) (p2 : Int) (K : TV → TMem → Prop) : TW PP 14 Γ135 H135 W135 (List.length ([] : TMem)) (bodyOf Try.f135) (endT PP 14 [.tmp 4] [.bl] [] (List.length ([] : TMem)) K) (argsF [.pl .bool p1, .int .i64 p2]) [] =
    Ms_l11Young p1 p2 (fun r1 => K (.bool r1) []) := by kernel_rfl
theorem s135 : CSound PP 135 G135 := by
  intro args K c h fl A aargs hA hN R hl
  unfold G135 at h
  generalize ht : c.tm = tm at h
  replace h := dCons_ok h; obtain ⟨a1_, r2_, rfl, h⟩ := h
  replace h := dPl_ok h; obtain ⟨p1, rfl, h⟩ := h
  replace h := dCons_ok h; obtain ⟨a3_, r4_, rfl, h⟩ := h
  replace h := dInt_ok h; obtain ⟨p2, rfl, h⟩ := h
  replace h := dNil_ok h; obtain ⟨rfl, h⟩ := h
  replace h := dEnd_ok h; obtain ⟨rfl, h⟩ := h
  refine fun_ok (nt := 14) (x := bodyOf Try.f135) (Γ := Γ135) (H := H135) (WW := W135) (rs := [.tmp 4]) (shs := [.bl]) (cons := []) mixed Try.func135 (by decide) (by kernel_rfl) Try.ntmps135 Try.results135 (GSound.nil) ?_ hA hN R hl
  rw [ht, e135 p1 p2 K]
  exact h
/-! spec.l11Remember -/
def G99 : Con := fun args tm K => dCons args fun a1_ r2_ => dAgg a1_ fun l3_ => dCons l3_ fun a4_ r5_ => dPl .int a4_ fun p1 => dCons r5_ fun a6_ r7_ => dPl .int a6_ fun p2 => dCons r7_ fun a8_ r9_ => dPl .int a8_ fun p3 => dNil r9_ <| dCons r2_ fun a10_ r11_ => dPl .bool a10_ fun p4 => dNil r11_ <| dEnd tm <| Ms_l11Remember p1 p2 p3 p4 (fun r1 => K (.sl 0) [⟨true, .list .int r1⟩])
def H99_0 : LH where
  keep := [(1, .pure .bool), (2, .pc [.pure .int, .pure .int, .pure .int]), (5, .own .int), (6, .x)]
  S := List Bool × Int × List Int × List Int × List Int × List Int
  enc := fun s => ([.pl .bool s.1, .ptr 0 0, .sl 1, .int .i64 s.2.1], [⟨true, .cells [.pl .int s.2.2.1, .pl .int s.2.2.2.1, .pl .int s.2.2.2.2.1]⟩, ⟨true, .list .int s.2.2.2.2.2⟩])
  dec := fun vs tm K => dCons vs fun a1_ r2_ => dPl .bool a1_ fun q0 => dCons r2_ fun a3_ r4_ => dPtr 0 a3_ <| dCons r4_ fun a5_ r6_ => dSl 1 a5_ <| dCons r6_ fun a7_ r8_ => dInt .i64 a7_ fun q1 => dNil r8_ <| dBlk true tm fun b9_ m10_ => dCells b9_ fun c11_ => dCons c11_ fun a12_ r13_ => dPl .int a12_ fun q2 => dCons r13_ fun a14_ r15_ => dPl .int a14_ fun q3 => dCons r15_ fun a16_ r17_ => dPl .int a16_ fun q4 => dNil r17_ <| dBlk true m10_ fun b18_ m19_ => dList .int b18_ fun q5 => dEnd m19_ <| K (q0, q1, q2, q3, q4, q5)
  law := by
    intro vs tm K h
    replace h := dCons_ok h; obtain ⟨a1_, r2_, rfl, h⟩ := h
    replace h := dPl_ok h; obtain ⟨q0, rfl, h⟩ := h
    replace h := dCons_ok h; obtain ⟨a3_, r4_, rfl, h⟩ := h
    replace h := dPtr_ok h; obtain ⟨rfl, h⟩ := h
    replace h := dCons_ok h; obtain ⟨a5_, r6_, rfl, h⟩ := h
    replace h := dSl_ok h; obtain ⟨rfl, h⟩ := h
    replace h := dCons_ok h; obtain ⟨a7_, r8_, rfl, h⟩ := h
    replace h := dInt_ok h; obtain ⟨q1, rfl, h⟩ := h
    replace h := dNil_ok h; obtain ⟨rfl, h⟩ := h
    replace h := dBlk_ok h; obtain ⟨b9_, m10_, rfl, h⟩ := h
    replace h := dCells_ok h; obtain ⟨c11_, rfl, h⟩ := h
    replace h := dCons_ok h; obtain ⟨a12_, r13_, rfl, h⟩ := h
    replace h := dPl_ok h; obtain ⟨q2, rfl, h⟩ := h
    replace h := dCons_ok h; obtain ⟨a14_, r15_, rfl, h⟩ := h
    replace h := dPl_ok h; obtain ⟨q3, rfl, h⟩ := h
    replace h := dCons_ok h; obtain ⟨a16_, r17_, rfl, h⟩ := h
    replace h := dPl_ok h; obtain ⟨q4, rfl, h⟩ := h
    replace h := dNil_ok h; obtain ⟨rfl, h⟩ := h
    replace h := dBlk_ok h; obtain ⟨b18_, m19_, rfl, h⟩ := h
    replace h := dList_ok h; obtain ⟨q5, rfl, h⟩ := h
    replace h := dEnd_ok h; obtain ⟨rfl, h⟩ := h
    exact ⟨(q0, q1, q2, q3, q4, q5), rfl, h⟩
def H99 : List (Nat × LH) := [(0, H99_0)]
def W99 : List (Nat × List (Nat × List Nat)) := []
def Γ99 : List (Nat × Con) := [(135, useC [.pure .bool, .x] G135)]
theorem e99 (p1 : List Int) (p2 : List Int) (p3 : List Int) (p4 : List Bool) (K : TV → TMem → Prop) : TW PP 41 Γ99 H99 W99 (List.length ([] : TMem)) (bodyOf Try.f99) (endT PP 41 [.tmp 4] [.own .int] [] (List.length ([] : TMem)) K) (argsF [.agg [.pl .int p1, .pl .int p2, .pl .int p3], .pl .bool p4]) [] =
    Ms_l11Remember p1 p2 p3 p4 (fun r1 => K (.sl 0) [⟨true, .list .int r1⟩]) := by kernel_rfl
theorem s99 : CSound PP 99 G99 := by
  intro args K c h fl A aargs hA hN R hl
  unfold G99 at h
  generalize ht : c.tm = tm at h
  replace h := dCons_ok h; obtain ⟨a1_, r2_, rfl, h⟩ := h
  replace h := dAgg_ok h; obtain ⟨l3_, rfl, h⟩ := h
  replace h := dCons_ok h; obtain ⟨a4_, r5_, rfl, h⟩ := h
  replace h := dPl_ok h; obtain ⟨p1, rfl, h⟩ := h
  replace h := dCons_ok h; obtain ⟨a6_, r7_, rfl, h⟩ := h
  replace h := dPl_ok h; obtain ⟨p2, rfl, h⟩ := h
  replace h := dCons_ok h; obtain ⟨a8_, r9_, rfl, h⟩ := h
  replace h := dPl_ok h; obtain ⟨p3, rfl, h⟩ := h
  replace h := dNil_ok h; obtain ⟨rfl, h⟩ := h
  replace h := dCons_ok h; obtain ⟨a10_, r11_, rfl, h⟩ := h
  replace h := dPl_ok h; obtain ⟨p4, rfl, h⟩ := h
  replace h := dNil_ok h; obtain ⟨rfl, h⟩ := h
  replace h := dEnd_ok h; obtain ⟨rfl, h⟩ := h
  refine fun_ok (nt := 41) (x := bodyOf Try.f99) (Γ := Γ99) (H := H99) (WW := W99) (rs := [.tmp 4]) (shs := [.own .int]) (cons := []) mixed Try.func99 (by decide) (by kernel_rfl) Try.ntmps99 Try.results99 (.cons (useC_ok s135) (GSound.nil)) ?_ hA hN R hl
  rw [ht, e99 p1 p2 p3 p4 K]
  exact h
/-! spec.l11Draw -/
def G131 : Con := fun args tm K => dCons args fun a1_ r2_ => dPtr 0 a1_ <| dNil r2_ <| dBlk true tm fun b3_ m4_ => dCells b3_ fun c5_ => dCons c5_ fun a6_ r7_ => dPl .byte a6_ fun p1 => dCons r7_ fun a8_ r9_ => dInt .i64 a8_ fun p2 => dNil r9_ <| dEnd m4_ <| Ms_l11Draw p1 p2 (fun r1 r2 r3 r4 r5 r6 r7 => K (.agg [.sl 1, .sl 2, .sl 3, .sl 4, .sl 5]) [⟨true, .cells [.pl .byte r1, .int .i64 r2]⟩, ⟨true, .list .int r3⟩, ⟨true, .list .int r4⟩, ⟨true, .list .int r5⟩, ⟨true, .list .bool r6⟩, ⟨true, .list .int r7⟩])
def H131_0 : LH where
  keep := [(0, .pc [.pure .byte, .x]), (2, .pc [.own .int, .own .int, .own .int, .own .bool, .own .int]), (3, .pc [.own .int, .own .int, .own .int]), (4, .pc [.own .int, .own .int, .own .int, .own .bool, .own .int]), (6, .x)]
  S := Int × List Int × Int × List Int × List Int × List Int × List Bool × List Int × List Int × List Int × List Int × List Int × List Int × List Int × List Bool × List Int
  enc := fun s => ([.ptr 0 0, .ptr 1 0, .ptr 2 0, .ptr 3 0, .int .i64 s.1], [⟨true, .cells [.pl .byte s.2.1, .int .i64 s.2.2.1]⟩, ⟨true, .cells [.sl 4, .sl 5, .sl 6, .sl 7, .sl 8]⟩, ⟨true, .cells [.sl 9, .sl 10, .sl 11]⟩, ⟨true, .cells [.sl 12, .sl 13, .sl 14, .sl 15, .sl 16]⟩, ⟨true, .list .int s.2.2.2.1⟩, ⟨true, .list .int s.2.2.2.2.1⟩, ⟨true, .list .int s.2.2.2.2.2.1⟩, ⟨true, .list .bool s.2.2.2.2.2.2.1⟩, ⟨true, .list .int s.2.2.2.2.2.2.2.1⟩, ⟨true, .list .int s.2.2.2.2.2.2.2.2.1⟩, ⟨true, .list .int s.2.2.2.2.2.2.2.2.2.1⟩, ⟨true, .list .int s.2.2.2.2.2.2.2.2.2.2.1⟩, ⟨true, .list .int s.2.2.2.2.2.2.2.2.2.2.2.1⟩, ⟨true, .list .int s.2.2.2.2.2.2.2.2.2.2.2.2.1⟩, ⟨true, .list .int s.2.2.2.2.2.2.2.2.2.2.2.2.2.1⟩, ⟨true, .list .bool s.2.2.2.2.2.2.2.2.2.2.2.2.2.2.1⟩, ⟨true, .list .int s.2.2.2.2.2.2.2.2.2.2.2.2.2.2.2⟩])
  dec := fun vs tm K => dCons vs fun a1_ r2_ => dPtr 0 a1_ <| dCons r2_ fun a3_ r4_ => dPtr 1 a3_ <| dCons r4_ fun a5_ r6_ => dPtr 2 a5_ <| dCons r6_ fun a7_ r8_ => dPtr 3 a7_ <| dCons r8_ fun a9_ r10_ => dInt .i64 a9_ fun q0 => dNil r10_ <| dBlk true tm fun b11_ m12_ => dCells b11_ fun c13_ => dCons c13_ fun a14_ r15_ => dPl .byte a14_ fun q1 => dCons r15_ fun a16_ r17_ => dInt .i64 a16_ fun q2 => dNil r17_ <| dBlk true m12_ fun b18_ m19_ => dCells b18_ fun c20_ => dCons c20_ fun a21_ r22_ => dSl 4 a21_ <| dCons r22_ fun a23_ r24_ => dSl 5 a23_ <| dCons r24_ fun a25_ r26_ => dSl 6 a25_ <| dCons r26_ fun a27_ r28_ => dSl 7 a27_ <| dCons r28_ fun a29_ r30_ => dSl 8 a29_ <| dNil r30_ <| dBlk true m19_ fun b31_ m32_ => dCells b31_ fun c33_ => dCons c33_ fun a34_ r35_ => dSl 9 a34_ <| dCons r35_ fun a36_ r37_ => dSl 10 a36_ <| dCons r37_ fun a38_ r39_ => dSl 11 a38_ <| dNil r39_ <| dBlk true m32_ fun b40_ m41_ => dCells b40_ fun c42_ => dCons c42_ fun a43_ r44_ => dSl 12 a43_ <| dCons r44_ fun a45_ r46_ => dSl 13 a45_ <| dCons r46_ fun a47_ r48_ => dSl 14 a47_ <| dCons r48_ fun a49_ r50_ => dSl 15 a49_ <| dCons r50_ fun a51_ r52_ => dSl 16 a51_ <| dNil r52_ <| dBlk true m41_ fun b53_ m54_ => dList .int b53_ fun q3 => dBlk true m54_ fun b55_ m56_ => dList .int b55_ fun q4 => dBlk true m56_ fun b57_ m58_ => dList .int b57_ fun q5 => dBlk true m58_ fun b59_ m60_ => dList .bool b59_ fun q6 => dBlk true m60_ fun b61_ m62_ => dList .int b61_ fun q7 => dBlk true m62_ fun b63_ m64_ => dList .int b63_ fun q8 => dBlk true m64_ fun b65_ m66_ => dList .int b65_ fun q9 => dBlk true m66_ fun b67_ m68_ => dList .int b67_ fun q10 => dBlk true m68_ fun b69_ m70_ => dList .int b69_ fun q11 => dBlk true m70_ fun b71_ m72_ => dList .int b71_ fun q12 => dBlk true m72_ fun b73_ m74_ => dList .int b73_ fun q13 => dBlk true m74_ fun b75_ m76_ => dList .bool b75_ fun q14 => dBlk true m76_ fun b77_ m78_ => dList .int b77_ fun q15 => dEnd m78_ <| K (q0, q1, q2, q3, q4, q5, q6, q7, q8, q9, q10, q11, q12, q13, q14, q15)
  law := by
    intro vs tm K h
    replace h := dCons_ok h; obtain ⟨a1_, r2_, rfl, h⟩ := h
    replace h := dPtr_ok h; obtain ⟨rfl, h⟩ := h
    replace h := dCons_ok h; obtain ⟨a3_, r4_, rfl, h⟩ := h
    replace h := dPtr_ok h; obtain ⟨rfl, h⟩ := h
    replace h := dCons_ok h; obtain ⟨a5_, r6_, rfl, h⟩ := h
    replace h := dPtr_ok h; obtain ⟨rfl, h⟩ := h
    replace h := dCons_ok h; obtain ⟨a7_, r8_, rfl, h⟩ := h
    replace h := dPtr_ok h; obtain ⟨rfl, h⟩ := h
    replace h := dCons_ok h; obtain ⟨a9_, r10_, rfl, h⟩ := h
    replace h := dInt_ok h; obtain ⟨q0, rfl, h⟩ := h
    replace h := dNil_ok h; obtain ⟨rfl, h⟩ := h
    replace h := dBlk_ok h; obtain ⟨b11_, m12_, rfl, h⟩ := h
    replace h := dCells_ok h; obtain ⟨c13_, rfl, h⟩ := h
    replace h := dCons_ok h; obtain ⟨a14_, r15_, rfl, h⟩ := h
    replace h := dPl_ok h; obtain ⟨q1, rfl, h⟩ := h
    replace h := dCons_ok h; obtain ⟨a16_, r17_, rfl, h⟩ := h
    replace h := dInt_ok h; obtain ⟨q2, rfl, h⟩ := h
    replace h := dNil_ok h; obtain ⟨rfl, h⟩ := h
    replace h := dBlk_ok h; obtain ⟨b18_, m19_, rfl, h⟩ := h
    replace h := dCells_ok h; obtain ⟨c20_, rfl, h⟩ := h
    replace h := dCons_ok h; obtain ⟨a21_, r22_, rfl, h⟩ := h
    replace h := dSl_ok h; obtain ⟨rfl, h⟩ := h
    replace h := dCons_ok h; obtain ⟨a23_, r24_, rfl, h⟩ := h
    replace h := dSl_ok h; obtain ⟨rfl, h⟩ := h
    replace h := dCons_ok h; obtain ⟨a25_, r26_, rfl, h⟩ := h
    replace h := dSl_ok h; obtain ⟨rfl, h⟩ := h
    replace h := dCons_ok h; obtain ⟨a27_, r28_, rfl, h⟩ := h
    replace h := dSl_ok h; obtain ⟨rfl, h⟩ := h
    replace h := dCons_ok h; obtain ⟨a29_, r30_, rfl, h⟩ := h
    replace h := dSl_ok h; obtain ⟨rfl, h⟩ := h
    replace h := dNil_ok h; obtain ⟨rfl, h⟩ := h
    replace h := dBlk_ok h; obtain ⟨b31_, m32_, rfl, h⟩ := h
    replace h := dCells_ok h; obtain ⟨c33_, rfl, h⟩ := h
    replace h := dCons_ok h; obtain ⟨a34_, r35_, rfl, h⟩ := h
    replace h := dSl_ok h; obtain ⟨rfl, h⟩ := h
    replace h := dCons_ok h; obtain ⟨a36_, r37_, rfl, h⟩ := h
    replace h := dSl_ok h; obtain ⟨rfl, h⟩ := h
    replace h := dCons_ok h; obtain ⟨a38_, r39_, rfl, h⟩ := h
    replace h := dSl_ok h; obtain ⟨rfl, h⟩ := h
    replace h := dNil_ok h; obtain ⟨rfl, h⟩ := h
    replace h := dBlk_ok h; obtain ⟨b40_, m41_, rfl, h⟩ := h
    replace h := dCells_ok h; obtain ⟨c42_, rfl, h⟩ := h
    replace h := dCons_ok h; obtain ⟨a43_, r44_, rfl, h⟩ := h
    replace h := dSl_ok h; obtain ⟨rfl, h⟩ := h
    replace h := dCons_ok h; obtain ⟨a45_, r46_, rfl, h⟩ := h
    replace h := dSl_ok h; obtain ⟨rfl, h⟩ := h
    replace h := dCons_ok h; obtain ⟨a47_, r48_, rfl, h⟩ := h
    replace h := dSl_ok h; obtain ⟨rfl, h⟩ := h
    replace h := dCons_ok h; obtain ⟨a49_, r50_, rfl, h⟩ := h
    replace h := dSl_ok h; obtain ⟨rfl, h⟩ := h
    replace h := dCons_ok h; obtain ⟨a51_, r52_, rfl, h⟩ := h
    replace h := dSl_ok h; obtain ⟨rfl, h⟩ := h
    replace h := dNil_ok h; obtain ⟨rfl, h⟩ := h
    replace h := dBlk_ok h; obtain ⟨b53_, m54_, rfl, h⟩ := h
    replace h := dList_ok h; obtain ⟨q3, rfl, h⟩ := h
    replace h := dBlk_ok h; obtain ⟨b55_, m56_, rfl, h⟩ := h
    replace h := dList_ok h; obtain ⟨q4, rfl, h⟩ := h
    replace h := dBlk_ok h; obtain ⟨b57_, m58_, rfl, h⟩ := h
    replace h := dList_ok h; obtain ⟨q5, rfl, h⟩ := h
    replace h := dBlk_ok h; obtain ⟨b59_, m60_, rfl, h⟩ := h
    replace h := dList_ok h; obtain ⟨q6, rfl, h⟩ := h
    replace h := dBlk_ok h; obtain ⟨b61_, m62_, rfl, h⟩ := h
    replace h := dList_ok h; obtain ⟨q7, rfl, h⟩ := h
    replace h := dBlk_ok h; obtain ⟨b63_, m64_, rfl, h⟩ := h
    replace h := dList_ok h; obtain ⟨q8, rfl, h⟩ := h
    replace h := dBlk_ok h; obtain ⟨b65_, m66_, rfl, h⟩ := h
    replace h := dList_ok h; obtain ⟨q9, rfl, h⟩ := h
    replace h := dBlk_ok h; obtain ⟨b67_, m68_, rfl, h⟩ := h
    replace h := dList_ok h; obtain ⟨q10, rfl, h⟩ := h
    replace h := dBlk_ok h; obtain ⟨b69_, m70_, rfl, h⟩ := h
    replace h := dList_ok h; obtain ⟨q11, rfl, h⟩ := h
    replace h := dBlk_ok h; obtain ⟨b71_, m72_, rfl, h⟩ := h
    replace h := dList_ok h; obtain ⟨q12, rfl, h⟩ := h
    replace h := dBlk_ok h; obtain ⟨b73_, m74_, rfl, h⟩ := h
    replace h := dList_ok h; obtain ⟨q13, rfl, h⟩ := h
    replace h := dBlk_ok h; obtain ⟨b75_, m76_, rfl, h⟩ := h
    replace h := dList_ok h; obtain ⟨q14, rfl, h⟩ := h
    replace h := dBlk_ok h; obtain ⟨b77_, m78_, rfl, h⟩ := h
    replace h := dList_ok h; obtain ⟨q15, rfl, h⟩ := h
    replace h := dEnd_ok h; obtain ⟨rfl, h⟩ := h
    exact ⟨(q0, q1, q2, q3, q4, q5, q6, q7, q8, q9, q10, q11, q12, q13, q14, q15), rfl, h⟩
def H131 : List (Nat × LH) := [(0, H131_0)]
def W131 : List (Nat × List (Nat × List Nat)) := [(6, [(0, [4])])]
def Γ131 : List (Nat × Con) := [(110, useC [.pc [.pure .byte, .x]] G110), (60, useC [.ag [.pure .int, .pure .int, .pure .int]] G60), (112, useC [.pc [.pure .byte, .x], .x] G112), (99, useC [.ag [.pure .int, .pure .int, .pure .int], .pure .bool] G99)]
theorem e131 (p1 : List Int) (p2 : Int) (K : TV → TMem → Prop) : TW PP 34 Γ131 H131 W131 (List.length ([⟨true, .cells [.pl .byte p1, .int .i64 p2]⟩] : TMem)) (bodyOf Try.f131) (endT PP 34 [.cell 2 37] [.ag [.own .int, .own .int, .own .int, .own .bool, .own .int]] [] (List.length ([⟨true, .cells [.pl .byte p1, .int .i64 p2]⟩] : TMem)) K) (argsF [.ptr 0 0]) [⟨true, .cells [.pl .byte p1, .int .i64 p2]⟩] =
    Ms_l11Draw p1 p2 (fun r1 r2 r3 r4 r5 r6 r7 => K (.agg [.sl 1, .sl 2, .sl 3, .sl 4, .sl 5]) [⟨true, .cells [.pl .byte r1, .int .i64 r2]⟩, ⟨true, .list .int r3⟩, ⟨true, .list .int r4⟩, ⟨true, .list .int r5⟩, ⟨true, .list .bool r6⟩, ⟨true, .list .int r7⟩]) := by kernel_rfl
theorem s131 : CSound PP 131 G131 := by
  intro args K c h fl A aargs hA hN R hl
  unfold G131 at h
  generalize ht : c.tm = tm at h
  replace h := dCons_ok h; obtain ⟨a1_, r2_, rfl, h⟩ := h
  replace h := dPtr_ok h; obtain ⟨rfl, h⟩ := h
  replace h := dNil_ok h; obtain ⟨rfl, h⟩ := h
  replace h := dBlk_ok h; obtain ⟨b3_, m4_, rfl, h⟩ := h
  replace h := dCells_ok h; obtain ⟨c5_, rfl, h⟩ := h
  replace h := dCons_ok h; obtain ⟨a6_, r7_, rfl, h⟩ := h
  replace h := dPl_ok h; obtain ⟨p1, rfl, h⟩ := h
  replace h := dCons_ok h; obtain ⟨a8_, r9_, rfl, h⟩ := h
  replace h := dInt_ok h; obtain ⟨p2, rfl, h⟩ := h
  replace h := dNil_ok h; obtain ⟨rfl, h⟩ := h
  replace h := dEnd_ok h; obtain ⟨rfl, h⟩ := h
  refine fun_ok (nt := 34) (x := bodyOf Try.f131) (Γ := Γ131) (H := H131) (WW := W131) (rs := [.cell 2 37]) (shs := [.ag [.own .int, .own .int, .own .int, .own .bool, .own .int]]) (cons := []) mixed Try.func131 (by decide) (by kernel_rfl) Try.ntmps131 Try.results131 (.cons (useC_ok s110) (.cons (useC_ok s60) (.cons (useC_ok s112) (.cons (useC_ok s99) (GSound.nil))))) ?_ hA hN R hl
  rw [ht, e131 p1 p2 K]
  exact h
/-! spec.l11Wrong -/
def G130 : Con := fun args tm K => dCons args fun a1_ r2_ => dPtr 0 a1_ <| dCons r2_ fun a3_ r4_ => dAgg a3_ fun l5_ => dCons l5_ fun a6_ r7_ => dSl 1 a6_ <| dCons r7_ fun a8_ r9_ => dSl 2 a8_ <| dCons r9_ fun a10_ r11_ => dSl 3 a10_ <| dCons r11_ fun a12_ r13_ => dSl 4 a12_ <| dCons r13_ fun a14_ r15_ => dSl 5 a14_ <| dNil r15_ <| dNil r4_ <| dBlk true tm fun b16_ m17_ => dCells b16_ fun c18_ => dCons c18_ fun a19_ r20_ => dPl .byte a19_ fun p1 => dCons r20_ fun a21_ r22_ => dInt .i64 a21_ fun p2 => dNil r22_ <| dBlk false m17_ fun b23_ m24_ => dList .int b23_ fun p3 => dBlk false m24_ fun b25_ m26_ => dList .int b25_ fun p4 => dBlk false m26_ fun b27_ m28_ => dList .int b27_ fun p5 => dBlk false m28_ fun b29_ m30_ => dList .bool b29_ fun p6 => dBlk false m30_ fun b31_ m32_ => dList .int b31_ fun p7 => dEnd m32_ <| Ms_l11Wrong p1 p2 p3 p4 p5 p6 p7 (fun r1 r2 r3 => K (.agg [.sl 6, .sl 7, .sl 8, .sl 9, .sl 10]) [⟨true, .cells [.pl .byte p1, .int .i64 r1]⟩, ⟨false, .list .int p3⟩, ⟨false, .list .int p4⟩, ⟨false, .list .int p5⟩, ⟨false, .list .bool p6⟩, ⟨false, .list .int p7⟩, ⟨true, .list .int p3⟩, ⟨true, .list .int p4⟩, ⟨true, .list .int p5⟩, ⟨true, .list .bool r2⟩, ⟨true, .list .int r3⟩])
def H130 : List (Nat × LH) := []
def W130 : List (Nat × List (Nat × List Nat)) := [(7, [(0, [4])])]
def Γ130 : List (Nat × Con) := [(106, useC [.ag [.pure .int, .pure .int, .pure .int]] G106), (112, useC [.pc [.pure .byte, .x], .x] G112), (94, useC [.pc [.pure .byte, .x], .pure .int] G94)]
theorem e130 (p1 : List Int) (p2 : Int) (p3 : List Int) (p4 : List Int) (p5 : List Int) (p6 : List Bool) (p7 : List Int) (K : TV → TMem → Prop) : TW PP 56 Γ130 H130 W130 (List.length ([⟨true, .cells [.pl .byte p1, .int .i64 p2]⟩, ⟨false, .list .int p3⟩, ⟨false, .list .int p4⟩, ⟨false, .list .int p5⟩, ⟨false, .list .bool p6⟩, ⟨false, .list .int p7⟩] : TMem)) (bodyOf Try.f130) (endT PP 56 [.cell 4 37] [.ag [.own .int, .own .int, .own .int, .own .bool, .own .int]] [] (List.length ([⟨true, .cells [.pl .byte p1, .int .i64 p2]⟩, ⟨false, .list .int p3⟩, ⟨false, .list .int p4⟩, ⟨false, .list .int p5⟩, ⟨false, .list .bool p6⟩, ⟨false, .list .int p7⟩] : TMem)) K) (argsF [.ptr 0 0, .agg [.sl 1, .sl 2, .sl 3, .sl 4, .sl 5]]) [⟨true, .cells [.pl .byte p1, .int .i64 p2]⟩, ⟨false, .list .int p3⟩, ⟨false, .list .int p4⟩, ⟨false, .list .int p5⟩, ⟨false, .list .bool p6⟩, ⟨false, .list .int p7⟩] =
    Ms_l11Wrong p1 p2 p3 p4 p5 p6 p7 (fun r1 r2 r3 => K (.agg [.sl 6, .sl 7, .sl 8, .sl 9, .sl 10]) [⟨true, .cells [.pl .byte p1, .int .i64 r1]⟩, ⟨false, .list .int p3⟩, ⟨false, .list .int p4⟩, ⟨false, .list .int p5⟩, ⟨false, .list .bool p6⟩, ⟨false, .list .int p7⟩, ⟨true, .list .int p3⟩, ⟨true, .list .int p4⟩, ⟨true, .list .int p5⟩, ⟨true, .list .bool r2⟩, ⟨true, .list .int r3⟩]) := by kernel_rfl
theorem s130 : CSound PP 130 G130 := by
  intro args K c h fl A aargs hA hN R hl
  unfold G130 at h
  generalize ht : c.tm = tm at h
  replace h := dCons_ok h; obtain ⟨a1_, r2_, rfl, h⟩ := h
  replace h := dPtr_ok h; obtain ⟨rfl, h⟩ := h
  replace h := dCons_ok h; obtain ⟨a3_, r4_, rfl, h⟩ := h
  replace h := dAgg_ok h; obtain ⟨l5_, rfl, h⟩ := h
  replace h := dCons_ok h; obtain ⟨a6_, r7_, rfl, h⟩ := h
  replace h := dSl_ok h; obtain ⟨rfl, h⟩ := h
  replace h := dCons_ok h; obtain ⟨a8_, r9_, rfl, h⟩ := h
  replace h := dSl_ok h; obtain ⟨rfl, h⟩ := h
  replace h := dCons_ok h; obtain ⟨a10_, r11_, rfl, h⟩ := h
  replace h := dSl_ok h; obtain ⟨rfl, h⟩ := h
  replace h := dCons_ok h; obtain ⟨a12_, r13_, rfl, h⟩ := h
  replace h := dSl_ok h; obtain ⟨rfl, h⟩ := h
  replace h := dCons_ok h; obtain ⟨a14_, r15_, rfl, h⟩ := h
  replace h := dSl_ok h; obtain ⟨rfl, h⟩ := h
  replace h := dNil_ok h; obtain ⟨rfl, h⟩ := h
  replace h := dNil_ok h; obtain ⟨rfl, h⟩ := h
  replace h := dBlk_ok h; obtain ⟨b16_, m17_, rfl, h⟩ := h
  replace h := dCells_ok h; obtain ⟨c18_, rfl, h⟩ := h
  replace h := dCons_ok h; obtain ⟨a19_, r20_, rfl, h⟩ := h
  replace h := dPl_ok h; obtain ⟨p1, rfl, h⟩ := h
  replace h := dCons_ok h; obtain ⟨a21_, r22_, rfl, h⟩ := h
  replace h := dInt_ok h; obtain ⟨p2, rfl, h⟩ := h
  replace h := dNil_ok h; obtain ⟨rfl, h⟩ := h
  replace h := dBlk_ok h; obtain ⟨b23_, m24_, rfl, h⟩ := h
  replace h := dList_ok h; obtain ⟨p3, rfl, h⟩ := h
  replace h := dBlk_ok h; obtain ⟨b25_, m26_, rfl, h⟩ := h
  replace h := dList_ok h; obtain ⟨p4, rfl, h⟩ := h
  replace h := dBlk_ok h; obtain ⟨b27_, m28_, rfl, h⟩ := h
  replace h := dList_ok h; obtain ⟨p5, rfl, h⟩ := h
  replace h := dBlk_ok h; obtain ⟨b29_, m30_, rfl, h⟩ := h
  replace h := dList_ok h; obtain ⟨p6, rfl, h⟩ := h
  replace h := dBlk_ok h; obtain ⟨b31_, m32_, rfl, h⟩ := h
  replace h := dList_ok h; obtain ⟨p7, rfl, h⟩ := h
  replace h := dEnd_ok h; obtain ⟨rfl, h⟩ := h
  refine fun_ok (nt := 56) (x := bodyOf Try.f130) (Γ := Γ130) (H := H130) (WW := W130) (rs := [.cell 4 37]) (shs := [.ag [.own .int, .own .int, .own .int, .own .bool, .own .int]]) (cons := []) mixed Try.func130 (by decide) (by kernel_rfl) Try.ntmps130 Try.results130 (.cons (useC_ok s106) (.cons (useC_ok s112) (.cons (useC_ok s94) (GSound.nil)))) ?_ hA hN R hl
  rw [ht, e130 p1 p2 p3 p4 p5 p6 p7 K]
  exact h
/-! spec.l11Case -/
def G92 : Con := fun args tm K => dCons args fun a1_ r2_ => dPl .byte a1_ fun p1 => dNil r2_ <| dEnd tm <| Ms_l11Case p1 (fun r1 r2 r3 r4 r5 => K (.agg [.sl 0, .sl 1, .sl 2, .sl 3, .sl 4]) [⟨true, .list .int r1⟩, ⟨true, .list .int r2⟩, ⟨true, .list .int r3⟩, ⟨true, .list .bool r4⟩, ⟨true, .list .int r5⟩])
def H92 : List (Nat × LH) := []
def W92 : List (Nat × List (Nat × List Nat)) := []
def Γ92 : List (Nat × Con) := [(93, useC [.pure .byte] G93), (131, useC [.pc [.pure .byte, .x]] G131), (130, useC [.pc [.pure .byte, .x], .ag [.own .int, .own .int, .own .int, .own .bool, .own .int]] (onlyC [0] G130))]
theorem e92 (p1 : List Int) (K : TV → TMem → Prop) : TW PP 10 Γ92 H92 W92 (List.length ([] : TMem)) (bodyOf Try.f92) (endT PP 10 [.cell 2 37] [.ag [.own .int, .own .int, .own .int, .own .bool, .own .int]] [] (List.length ([] : TMem)) K) (argsF [.pl .byte p1]) [] =
    Ms_l11Case p1 (fun r1 r2 r3 r4 r5 => K (.agg [.sl 0, .sl 1, .sl 2, .sl 3, .sl 4]) [⟨true, .list .int r1⟩, ⟨true, .list .int r2⟩, ⟨true, .list .int r3⟩, ⟨true, .list .bool r4⟩, ⟨true, .list .int r5⟩]) := by kernel_rfl
theorem s92 : CSound PP 92 G92 := by
  intro args K c h fl A aargs hA hN R hl
  unfold G92 at h
  generalize ht : c.tm = tm at h
  replace h := dCons_ok h; obtain ⟨a1_, r2_, rfl, h⟩ := h
  replace h := dPl_ok h; obtain ⟨p1, rfl, h⟩ := h
  replace h := dNil_ok h; obtain ⟨rfl, h⟩ := h
  replace h := dEnd_ok h; obtain ⟨rfl, h⟩ := h
  refine fun_ok (nt := 10) (x := bodyOf Try.f92) (Γ := Γ92) (H := H92) (WW := W92) (rs := [.cell 2 37]) (shs := [.ag [.own .int, .own .int, .own .int, .own .bool, .own .int]]) (cons := []) mixed Try.func92 (by decide) (by kernel_rfl) Try.ntmps92 Try.results92 (.cons (useC_ok s93) (.cons (useC_ok s131) (.cons (useC_ok (onlyC_ok s130)) (GSound.nil)))) ?_ hA hN R hl
  rw [ht, e92 p1 K]
  exact h
/-! slices.Clone[[]int,int] -/
def G102 : Con := fun args tm K => dCons args fun a1_ r2_ => dPl .int a1_ fun p1 => dNil r2_ <| dEnd tm <| M_Clone_int p1 (fun r1 => K (.sl 0) [⟨true, .list .int r1⟩])
def H102 : List (Nat × LH) := []
def W102 : List (Nat × List (Nat × List Nat)) := []
def Γ102 : List (Nat × Con) := []
theorem e102 (p1 : List Int) (K : TV → TMem → Prop) : TW PP 8 Γ102 H102 W102 (List.length ([] : TMem)) (bodyOf Try.f102) (endT PP 8 [.tmp 2] [.own .int] [] (List.length ([] : TMem)) K) (argsF [.pl .int p1]) [] =
    M_Clone_int p1 (fun r1 => K (.sl 0) [⟨true, .list .int r1⟩]) := by kernel_rfl
theorem s102 : CSound PP 102 G102 := by
  intro args K c h fl A aargs hA hN R hl
  unfold G102 at h
  generalize ht : c.tm = tm at h
  replace h := dCons_ok h; obtain ⟨a1_, r2_, rfl, h⟩ := h
  replace h := dPl_ok h; obtain ⟨p1, rfl, h⟩ := h
  replace h := dNil_ok h; obtain ⟨rfl, h⟩ := h
  replace h := dEnd_ok h; obtain ⟨rfl, h⟩ := h
  refine fun_ok (nt := 8) (x := bodyOf Try.f102) (Γ := Γ102) (H := H102) (WW := W102) (rs := [.tmp 2]) (shs := [.own .int]) (cons := []) mixed Try.func102 (by decide) (by kernel_rfl) Try.ntmps102 Try.results102 (GSound.nil) ?_ hA hN R hl
  rw [ht, e102 p1 K]
  exact h
/-! impl.remembered$1 -/
def G132 : Con := fun args tm K => dCons args fun a1_ r2_ => dInt .i64 a1_ fun p1 => dCons r2_ fun a3_ r4_ => dPtr 0 a3_ <| dNil r4_ <| dBlk true tm fun b5_ m6_ => dCells b5_ fun c7_ => dCons c7_ fun a8_ r9_ => dPl .bool a8_ fun p2 => dNil r9_ <| dEnd m6_ <| Mi_remembered_1 p1 p2 (fun r1 => K (.bool r1) [⟨true, .cells [.pl .bool p2]⟩])
def H132 : List (Nat × LH) := []
def W132 : List (Nat × List (Nat × List Nat)) := []
def Γ132 : List (Nat × Con) := []
theorem e132 (p1 : Int) (p2 : List Bool) (K : TV → TMem → Prop) : TW PP 13 Γ132 H132 W132 (List.length ([⟨true, .cells [.pl .bool p2]⟩] : TMem)) (bodyOf Try.f132) (endT PP 13 [.tmp 3] [.bl] [] (List.length ([⟨true, .cells [.pl .bool p2]⟩] : TMem)) K) (argsF [.int .i64 p1, .ptr 0 0]) [⟨true, .cells [.pl .bool p2]⟩] =
    Mi_remembered_1 p1 p2 (fun r1 => K (.bool r1) [⟨true, .cells [.pl .bool p2]⟩]) := by kernel_rfl
theorem s132 : CSound PP 132 G132 := by
  intro args K c h fl A aargs hA hN R hl
  unfold G132 at h
  generalize ht : c.tm = tm at h
  replace h := dCons_ok h; obtain ⟨a1_, r2_, rfl, h⟩ := h
  replace h := dInt_ok h; obtain ⟨p1, rfl, h⟩ := h
  replace h := dCons_ok h; obtain ⟨a3_, r4_, rfl, h⟩ := h
  replace h := dPtr_ok h; obtain ⟨rfl, h⟩ := h
  replace h := dNil_ok h; obtain ⟨rfl, h⟩ := h
  replace h := dBlk_ok h; obtain ⟨b5_, m6_, rfl, h⟩ := h
  replace h := dCells_ok h; obtain ⟨c7_, rfl, h⟩ := h
  replace h := dCons_ok h; obtain ⟨a8_, r9_, rfl, h⟩ := h
  replace h := dPl_ok h; obtain ⟨p2, rfl, h⟩ := h
  replace h := dNil_ok h; obtain ⟨rfl, h⟩ := h
  replace h := dEnd_ok h; obtain ⟨rfl, h⟩ := h
  refine fun_ok (nt := 13) (x := bodyOf Try.f132) (Γ := Γ132) (H := H132) (WW := W132) (rs := [.tmp 3]) (shs := [.bl]) (cons := []) mixed Try.func132 (by decide) (by kernel_rfl) Try.ntmps132 Try.results132 (GSound.nil) ?_ hA hN R hl
  rw [ht, e132 p1 p2 K]
  exact h
/-! impl.remembered -/
def G96 : Con := fun args tm K => dCons args fun a1_ r2_ => dAgg a1_ fun l3_ => dCons l3_ fun a4_ r5_ => dPl .int a4_ fun p1 => dCons r5_ fun a6_ r7_ => dPl .int a6_ fun p2 => dCons r7_ fun a8_ r9_ => dPl .int a8_ fun p3 => dNil r9_ <| dCons r2_ fun a10_ r11_ => dPl .bool a10_ fun p4 => dNil r11_ <| dEnd tm <| Mi_remembered p1 p2 p3 p4 (fun r1 => K (.sl 0) [⟨true, .list .int r1⟩])
def H96_0 : LH where
  keep := [(2, .pc [.pure .int, .pure .int, .pure .int]), (5, .x), (6, .own .int), (11, .pure .bool), (12, .x), (13, .x)]
  S := List Bool × Int × Int × List Int × List Int × List Int × List Bool × List Int
  enc := fun s => ([.ptr 0 0, .fn 132 [] [.ptr 1 0], .sl 2, .pl .bool s.1, .int .i64 s.2.1, .int .i64 s.2.2.1], [⟨true, .cells [.pl .int s.2.2.2.1, .pl .int s.2.2.2.2.1, .pl .int s.2.2.2.2.2.1]⟩, ⟨true, .cells [.pl .bool s.2.2.2.2.2.2.1]⟩, ⟨true, .list .int s.2.2.2.2.2.2.2⟩])
  dec := fun vs tm K => dCons vs fun a1_ r2_ => dPtr 0 a1_ <| dCons r2_ fun a3_ r4_ => dFn 132 a3_ fun x5_ y6_ => dNil x5_ <| dCons y6_ fun a7_ r8_ => dPtr 1 a7_ <| dNil r8_ <| dCons r4_ fun a9_ r10_ => dSl 2 a9_ <| dCons r10_ fun a11_ r12_ => dPl .bool a11_ fun q0 => dCons r12_ fun a13_ r14_ => dInt .i64 a13_ fun q1 => dCons r14_ fun a15_ r16_ => dInt .i64 a15_ fun q2 => dNil r16_ <| dBlk true tm fun b17_ m18_ => dCells b17_ fun c19_ => dCons c19_ fun a20_ r21_ => dPl .int a20_ fun q3 => dCons r21_ fun a22_ r23_ => dPl .int a22_ fun q4 => dCons r23_ fun a24_ r25_ => dPl .int a24_ fun q5 => dNil r25_ <| dBlk true m18_ fun b26_ m27_ => dCells b26_ fun c28_ => dCons c28_ fun a29_ r30_ => dPl .bool a29_ fun q6 => dNil r30_ <| dBlk true m27_ fun b31_ m32_ => dList .int b31_ fun q7 => dEnd m32_ <| K (q0, q1, q2, q3, q4, q5, q6, q7)
  law := by
    intro vs tm K h
    replace h := dCons_ok h; obtain ⟨a1_, r2_, rfl, h⟩ := h
    replace h := dPtr_ok h; obtain ⟨rfl, h⟩ := h
    replace h := dCons_ok h; obtain ⟨a3_, r4_, rfl, h⟩ := h
    replace h := dFn_ok h; obtain ⟨x5_, y6_, rfl, h⟩ := h
    replace h := dNil_ok h; obtain ⟨rfl, h⟩ := h
    replace h := dCons_ok h; obtain ⟨a7_, r8_, rfl, h⟩ := h
    replace h := dPtr_ok h; obtain ⟨rfl, h⟩ := h
    replace h := dNil_ok h; obtain ⟨rfl, h⟩ := h
    replace h := dCons_ok h; obtain ⟨a9_, r10_, rfl, h⟩ := h
    replace h := dSl_ok h; obtain ⟨rfl, h⟩ := h
    replace h := dCons_ok h; obtain ⟨a11_, r12_, rfl, h⟩ := h
    replace h := dPl_ok h; obtain ⟨q0, rfl, h⟩ := h
    replace h := dCons_ok h; obtain ⟨a13_, r14_, rfl, h⟩ := h
    replace h := dInt_ok h; obtain ⟨q1, rfl, h⟩ := h
    replace h := dCons_ok h; obtain ⟨a15_, r16_, rfl, h⟩ := h
    replace h := dInt_ok h; obtain ⟨q2, rfl, h⟩ := h
    replace h := dNil_ok h; obtain ⟨rfl, h⟩ := h
    replace h := dBlk_ok h; obtain ⟨b17_, m18_, rfl, h⟩ := h
    replace h := dCells_ok h; obtain ⟨c19_, rfl, h⟩ := h
    replace h := dCons_ok h; obtain ⟨a20_, r21_, rfl, h⟩ := h
    replace h := dPl_ok h; obtain ⟨q3, rfl, h⟩ := h
    replace h := dCons_ok h; obtain ⟨a22_, r23_, rfl, h⟩ := h
    replace h := dPl_ok h; obtain ⟨q4, rfl, h⟩ := h
    replace h := dCons_ok h; obtain ⟨a24_, r25_, rfl, h⟩ := h
    replace h := dPl_ok h; obtain ⟨q5, rfl, h⟩ := h
    replace h := dNil_ok h; obtain ⟨rfl, h⟩ := h
    replace h := dBlk_ok h; obtain ⟨b26_, m27_, rfl, h⟩ := h
    replace h := dCells_ok h; obtain ⟨c28_, rfl, h⟩ := h
    replace h := dCons_ok h; obtain ⟨a29_, r30_, rfl, h⟩ := h
    replace h := dPl_ok h; obtain ⟨q6, rfl, h⟩ := h
    replace h := dNil_ok h; obtain ⟨rfl, h⟩ := h
    replace h := dBlk_ok h; obtain ⟨b31_, m32_, rfl, h⟩ := h
    replace h := dList_ok h; obtain ⟨q7, rfl, h⟩ := h
    replace h := dEnd_ok h; obtain ⟨rfl, h⟩ := h
    exact ⟨(q0, q1, q2, q3, q4, q5, q6, q7), rfl, h⟩
def H96 : List (Nat × LH) := [(0, H96_0)]
def W96 : List (Nat × List (Nat × List Nat)) := []
def Γ96 : List (Nat × Con) := [(132, useC [.x, .pc [.pure .bool]] G132)]
theorem e96 (p1 : List Int) (p2 : List Int) (p3 : List Int) (p4 : List Bool) (K : TV → TMem → Prop) : TW PP 43 Γ96 H96 W96 (List.length ([] : TMem)) (bodyOf Try.f96) (endT PP 43 [.tmp 4] [.own .int] [] (List.length ([] : TMem)) K) (argsF [.agg [.pl .int p1, .pl .int p2, .pl .int p3], .pl .bool p4]) [] =
    Mi_remembered p1 p2 p3 p4 (fun r1 => K (.sl 0) [⟨true, .list .int r1⟩]) := by kernel_rfl
theorem s96 : CSound PP 96 G96 := by
  intro args K c h fl A aargs hA hN R hl
  unfold G96 at h
  generalize ht : c.tm = tm at h
  replace h := dCons_ok h; obtain ⟨a1_, r2_, rfl, h⟩ := h
  replace h := dAgg_ok h; obtain ⟨l3_, rfl, h⟩ := h
  replace h := dCons_ok h; obtain ⟨a4_, r5_, rfl, h⟩ := h
  replace h := dPl_ok h; obtain ⟨p1, rfl, h⟩ := h
  replace h := dCons_ok h; obtain ⟨a6_, r7_, rfl, h⟩ := h
  replace h := dPl_ok h; obtain ⟨p2, rfl, h⟩ := h
  replace h := dCons_ok h; obtain ⟨a8_, r9_, rfl, h⟩ := h
  replace h := dPl_ok h; obtain ⟨p3, rfl, h⟩ := h
  replace h := dNil_ok h; obtain ⟨rfl, h⟩ := h
  replace h := dCons_ok h; obtain ⟨a10_, r11_, rfl, h⟩ := h
  replace h := dPl_ok h; obtain ⟨p4, rfl, h⟩ := h
  replace h := dNil_ok h; obtain ⟨rfl, h⟩ := h
  replace h := dEnd_ok h; obtain ⟨rfl, h⟩ := h
  refine fun_ok (nt := 43) (x := bodyOf Try.f96) (Γ := Γ96) (H := H96) (WW := W96) (rs := [.tmp 4]) (shs := [.own .int]) (cons := []) mixed Try.func96 (by decide) (by kernel_rfl) Try.ntmps96 Try.results96 (.cons (useC_ok s132) (GSound.nil)) ?_ hA hN R hl
  rw [ht, e96 p1 p2 p3 p4 K]
  exact h
/-! slices.Equal[[]int,int] -/
def G101 : Con := fun args tm K => dCons args fun a1_ r2_ => dPl .int a1_ fun p1 => dCons r2_ fun a3_ r4_ => dPl .int a3_ fun p2 => dNil r4_ <| dEnd tm <| M_Equal_int p1 p2 (fun r1 => K (.bool r1) [])
def H101_0 : LH where
  keep := [(0, .pure .int), (1, .pure .int), (12, .x), (13, .x)]
  S := List Int × List Int × Int × Int
  enc := fun s => ([.pl .int s.1, .pl .int s.2.1, .int .i64 s.2.2.1, .int .i64 s.2.2.2], [])
  dec := fun vs tm K => dCons vs fun a1_ r2_ => dPl .int a1_ fun q0 => dCons r2_ fun a3_ r4_ => dPl .int a3_ fun q1 => dCons r4_ fun a5_ r6_ => dInt .i64 a5_ fun q2 => dCons r6_ fun a7_ r8_ => dInt .i64 a7_ fun q3 => dNil r8_ <| dEnd tm <| K (q0, q1, q2, q3)
  law := by
    intro vs tm K h
    replace h := dCons_ok h; obtain ⟨a1_, r2_, rfl, h⟩ := h
    replace h := dPl_ok h; obtain ⟨q0, rfl, h⟩ := h
    replace h := dCons_ok h; obtain ⟨a3_, r4_, rfl, h⟩ := h
    replace h := dPl_ok h; obtain ⟨q1, rfl, h⟩ := h
    replace h := dCons_ok h; obtain ⟨a5_, r6_, rfl, h⟩ := h
    replace h := dInt_ok h; obtain ⟨q2, rfl, h⟩ := h
    replace h := dCons_ok h; obtain ⟨a7_, r8_, rfl, h⟩ := h
    replace h := dInt_ok h; obtain ⟨q3, rfl, h⟩ := h
    replace h := dNil_ok h; obtain ⟨rfl, h⟩ := h
    replace h := dEnd_ok h; obtain ⟨rfl, h⟩ := h
    exact ⟨(q0, q1, q2, q3), rfl, h⟩
def H101 : List (Nat × LH) := [(0, H101_0)]
def W101 : List (Nat × List (Nat × List Nat)) := []
def Γ101 : List (Nat × Con) := []
theorem e101 (p1 : List Int) (p2 : List Int) (K : TV → TMem → Prop) : TW PP 26 Γ101 H101 W101 (List.length ([] : TMem)) (bodyOf Try.f101) (endT PP 26 [.tmp 4] [.bl] [] (List.length ([] : TMem)) K) (argsF [.pl .int p1, .pl .int p2]) [] =
    M_Equal_int p1 p2 (fun r1 => K (.bool r1) []) := by kernel_rfl
theorem s101 : CSound PP 101 G101 := by
  intro args K c h fl A aargs hA hN R hl
  unfold G101 at h
  generalize ht : c.tm = tm at h
  replace h := dCons_ok h; obtain ⟨a1_, r2_, rfl, h⟩ := h
  replace h := dPl_ok h; obtain ⟨p1, rfl, h⟩ := h
  replace h := dCons_ok h; obtain ⟨a3_, r4_, rfl, h⟩ := h
  replace h := dPl_ok h; obtain ⟨p2, rfl, h⟩ := h
  replace h := dNil_ok h; obtain ⟨rfl, h⟩ := h
  replace h := dEnd_ok h; obtain ⟨rfl, h⟩ := h
  refine fun_ok (nt := 26) (x := bodyOf Try.f101) (Γ := Γ101) (H := H101) (WW := W101) (rs := [.tmp 4]) (shs := [.bl]) (cons := []) mixed Try.func101 (by decide) (by kernel_rfl) Try.ntmps101 Try.results101 (GSound.nil) ?_ hA hN R hl
  rw [ht, e101 p1 p2 K]
  exact h
/-! impl.GensValid -/
def G42 : Con := fun args tm K => dCons args fun a1_ r2_ => dAgg a1_ fun l3_ => dCons l3_ fun a4_ r5_ => dPl .int a4_ fun p1 => dCons r5_ fun a6_ r7_ => dPl .int a6_ fun p2 => dCons r7_ fun a8_ r9_ => dPl .int a8_ fun p3 => dCons r9_ fun a10_ r11_ => dPl .bool a10_ fun p4 => dCons r11_ fun a12_ r13_ => dPl .int a12_ fun p5 => dNil r13_ <| dNil r2_ <| dEnd tm <| Mi_GensValid p1 p2 p3 p4 p5 (fun r1 => K (.bool r1) [])
def H42 : List (Nat × LH) := []
def W42 : List (Nat × List (Nat × List Nat)) := []
def Γ42 : List (Nat × Con) := [(34, useC [.ag [.pure .int, .pure .int, .pure .int]] G34), (96, useC [.ag [.pure .int, .pure .int, .pure .int], .pure .bool] G96), (101, useC [.pure .int, .pure .int] G101)]
theorem e42 (p1 : List Int) (p2 : List Int) (p3 : List Int) (p4 : List Bool) (p5 : List Int) (K : TV → TMem → Prop) : TW PP 26 Γ42 H42 W42 (List.length ([] : TMem)) (bodyOf Try.f42) (endT PP 26 [.tmp 2] [.bl] [] (List.length ([] : TMem)) K) (argsF [.agg [.pl .int p1, .pl .int p2, .pl .int p3, .pl .bool p4, .pl .int p5]]) [] =
    Mi_GensValid p1 p2 p3 p4 p5 (fun r1 => K (.bool r1) []) := by kernel_rfl
theorem s42 : CSound PP 42 G42 := by
  intro args K c h fl A aargs hA hN R hl
  unfold G42 at h
  generalize ht : c.tm = tm at h
  replace h := dCons_ok h; obtain ⟨a1_, r2_, rfl, h⟩ := h
  replace h := dAgg_ok h; obtain ⟨l3_, rfl, h⟩ := h
  replace h := dCons_ok h; obtain ⟨a4_, r5_, rfl, h⟩ := h
  replace h := dPl_ok h; obtain ⟨p1, rfl, h⟩ := h
  replace h := dCons_ok h; obtain ⟨a6_, r7_, rfl, h⟩ := h
  replace h := dPl_ok h; obtain ⟨p2, rfl, h⟩ := h
  replace h := dCons_ok h; obtain ⟨a8_, r9_, rfl, h⟩ := h
  replace h := dPl_ok h; obtain ⟨p3, rfl, h⟩ := h
  replace h := dCons_ok h; obtain ⟨a10_, r11_, rfl, h⟩ := h
  replace h := dPl_ok h; obtain ⟨p4, rfl, h⟩ := h
  replace h := dCons_ok h; obtain ⟨a12_, r13_, rfl, h⟩ := h
  replace h := dPl_ok h; obtain ⟨p5, rfl, h⟩ := h
  replace h := dNil_ok h; obtain ⟨rfl, h⟩ := h
  replace h := dNil_ok h; obtain ⟨rfl, h⟩ := h
  replace h := dEnd_ok h; obtain ⟨rfl, h⟩ := h
  refine fun_ok (nt := 26) (x := bodyOf Try.f42) (Γ := Γ42) (H := H42) (WW := W42) (rs := [.tmp 2]) (shs := [.bl]) (cons := []) mixed Try.func42 (by decide) (by kernel_rfl) Try.ntmps42 Try.results42 (.cons (useC_ok s34) (.cons (useC_ok s96) (.cons (useC_ok s101) (GSound.nil)))) ?_ hA hN R hl
  rw [ht, e42 p1 p2 p3 p4 p5 K]
  exact h
/-! spec.l1Ints -/
def G134 : Con := fun args tm K => dCons args fun a1_ r2_ => dPl .int a1_ fun p1 => dCons r2_ fun a3_ r4_ => dPl .int a3_ fun p2 => dNil r4_ <| dEnd tm <| Ms_l1Ints p1 p2 (fun r1 => K (.bool r1) [])
def H134_0 : LH where
  keep := [(0, .pure .int), (1, .pure .int), (5, .x)]
  S := List Int × List Int × Int
  enc := fun s => ([.pl .int s.1, .pl .int s.2.1, .int .i64 s.2.2], [])
  dec := fun vs tm K => dCons vs fun a1_ r2_ => dPl .int a1_ fun q0 => dCons r2_ fun a3_ r4_ => dPl .int a3_ fun q1 => dCons r4_ fun a5_ r6_ => dInt .i64 a5_ fun q2 => dNil r6_ <| dEnd tm <| K (q0, q1, q2)
  law := by
    intro vs tm K h
    replace h := dCons_ok h; obtain ⟨a1_, r2_, rfl, h⟩ := h
    replace h := dPl_ok h; obtain ⟨q0, rfl, h⟩ := h
    replace h := dCons_ok h; obtain ⟨a3_, r4_, rfl, h⟩ := h
    replace h := dPl_ok h; obtain ⟨q1, rfl, h⟩ := h
    replace h := dCons_ok h; obtain ⟨a5_, r6_, rfl, h⟩ := h
    replace h := dInt_ok h; obtain ⟨q2, rfl, h⟩ := h
    replace h := dNil_ok h; obtain ⟨rfl, h⟩ := h
    replace h := dEnd_ok h; obtain ⟨rfl, h⟩ := h
    exact ⟨(q0, q1, q2), rfl, h⟩
def H134 : List (Nat × LH) := [(0, H134_0)]
def W134 : List (Nat × List (Nat × List Nat)) := []
def Γ134 : List (Nat × Con) := []
theorem e134 (p1 : List Int) (p2 : List Int) (K : TV → TMem → Prop) : TW PP 26 Γ134 H134 W134 (List.length ([] : TMem)) (bodyOf Try.f134) (endT PP 26 [.tmp 4] [.bl] [] (List.length ([] : TMem)) K) (argsF [.pl .int p1, .pl .int p2]) [] =
    Ms_l1Ints p1 p2 (fun r1 => K (.bool r1) []) := by kernel_rfl
theorem s134 : CSound PP 134 G134 := by
  intro args K c h fl A aargs hA hN R hl
  unfold G134 at h
  generalize ht : c.tm = tm at h
  replace h := dCons_ok h; obtain ⟨a1_, r2_, rfl, h⟩ := h
  replace h := dPl_ok h; obtain ⟨p1, rfl, h⟩ := h
  replace h := dCons_ok h; obtain ⟨a3_, r4_, rfl, h⟩ := h
  replace h := dPl_ok h; obtain ⟨p2, rfl, h⟩ := h
  replace h := dNil_ok h; obtain ⟨rfl, h⟩ := h
  replace h := dEnd_ok h; obtain ⟨rfl, h⟩ := h
  refine fun_ok (nt := 26) (x := bodyOf Try.f134) (Γ := Γ134) (H := H134) (WW := W134) (rs := [.tmp 4]) (shs := [.bl]) (cons := []) mixed Try.func134 (by decide) (by kernel_rfl) Try.ntmps134 Try.results134 (GSound.nil) ?_ hA hN R hl
  rw [ht, e134 p1 p2 K]
  exact h
/-! spec.GensValid -/
def G98 : Con := fun args tm K => dCons args fun a1_ r2_ => dAgg a1_ fun l3_ => dCons l3_ fun a4_ r5_ => dPl .int a4_ fun p1 => dCons r5_ fun a6_ r7_ => dPl .int a6_ fun p2 => dCons r7_ fun a8_ r9_ => dPl .int a8_ fun p3 => dCons r9_ fun a10_ r11_ => dPl .bool a10_ fun p4 => dCons r11_ fun a12_ r13_ => dPl .int a12_ fun p5 => dNil r13_ <| dNil r2_ <| dEnd tm <| Ms_GensValid p1 p2 p3 p4 p5 (fun r1 => K (.bool r1) [])
def H98 : List (Nat × LH) := []
def W98 : List (Nat × List (Nat × List Nat)) := []
def Γ98 : List (Nat × Con) := [(88, useC [.ag [.pure .int, .pure .int, .pure .int]] G88), (99, useC [.ag [.pure .int, .pure .int, .pure .int], .pure .bool] G99), (134, useC [.pure .int, .pure .int] G134)]
theorem e98 (p1 : List Int) (p2 : List Int) (p3 : List Int) (p4 : List Bool) (p5 : List Int) (K : TV → TMem → Prop) : TW PP 26 Γ98 H98 W98 (List.length ([] : TMem)) (bodyOf Try.f98) (endT PP 26 [.tmp 2] [.bl] [] (List.length ([] : TMem)) K) (argsF [.agg [.pl .int p1, .pl .int p2, .pl .int p3, .pl .bool p4, .pl .int p5]]) [] =
    Ms_GensValid p1 p2 p3 p4 p5 (fun r1 => K (.bool r1) []) := by kernel_rfl
theorem s98 : CSound PP 98 G98 := by
  intro args K c h fl A aargs hA hN R hl
  unfold G98 at h
  generalize ht : c.tm = tm at h
  replace h := dCons_ok h; obtain ⟨a1_, r2_, rfl, h⟩ := h
  replace h := dAgg_ok h; obtain ⟨l3_, rfl, h⟩ := h
  replace h := dCons_ok h; obtain ⟨a4_, r5_, rfl, h⟩ := h
  replace h := dPl_ok h; obtain ⟨p1, rfl, h⟩ := h
  replace h := dCons_ok h; obtain ⟨a6_, r7_, rfl, h⟩ := h
  replace h := dPl_ok h; obtain ⟨p2, rfl, h⟩ := h
  replace h := dCons_ok h; obtain ⟨a8_, r9_, rfl, h⟩ := h
  replace h := dPl_ok h; obtain ⟨p3, rfl, h⟩ := h
  replace h := dCons_ok h; obtain ⟨a10_, r11_, rfl, h⟩ := h
  replace h := dPl_ok h; obtain ⟨p4, rfl, h⟩ := h
  replace h := dCons_ok h; obtain ⟨a12_, r13_, rfl, h⟩ := h
  replace h := dPl_ok h; obtain ⟨p5, rfl, h⟩ := h
  replace h := dNil_ok h; obtain ⟨rfl, h⟩ := h
  replace h := dNil_ok h; obtain ⟨rfl, h⟩ := h
  replace h := dEnd_ok h; obtain ⟨rfl, h⟩ := h
  refine fun_ok (nt := 26) (x := bodyOf Try.f98) (Γ := Γ98) (H := H98) (WW := W98) (rs := [.tmp 2]) (shs := [.bl]) (cons := []) mixed Try.func98 (by decide) (by kernel_rfl) Try.ntmps98 Try.results98 (.cons (useC_ok s88) (.cons (useC_ok s99) (.cons (useC_ok s134) (GSound.nil)))) ?_ hA hN R hl
  rw [ht, e98 p1 p2 p3 p4 p5 K]
  exact h
/-! spec.DrawYoungKept -/
def G43 : Con := fun args tm K => dCons args fun a1_ r2_ => dPl .byte a1_ fun p1 => dNil r2_ <| dEnd tm <| Ms_DrawYoungKept p1 (fun r1 r2 r3 r4 r5 => K (.agg [.sl 0, .sl 1, .sl 2, .sl 3, .sl 4]) [⟨true, .list .int r1⟩, ⟨true, .list .int r2⟩, ⟨true, .list .int r3⟩, ⟨true, .list .bool r4⟩, ⟨true, .list .int r5⟩])
def H43 : List (Nat × LH) := []
def W43 : List (Nat × List (Nat × List Nat)) := []
def Γ43 : List (Nat × Con) := [(92, useC [.pure .byte] G92)]
theorem e43 (p1 : List Int) (K : TV → TMem → Prop) : TW PP 5 Γ43 H43 W43 (List.length ([] : TMem)) (bodyOf Try.f43) (endT PP 5 [.cell 2 37] [.ag [.own .int, .own .int, .own .int, .own .bool, .own .int]] [] (List.length ([] : TMem)) K) (argsF [.pl .byte p1]) [] =
    Ms_DrawYoungKept p1 (fun r1 r2 r3 r4 r5 => K (.agg [.sl 0, .sl 1, .sl 2, .sl 3, .sl 4]) [⟨true, .list .int r1⟩, ⟨true, .list .int r2⟩, ⟨true, .list .int r3⟩, ⟨true, .list .bool r4⟩, ⟨true, .list .int r5⟩]) := by kernel_rfl
theorem s43 : CSound PP 43 G43 := by
  intro args K c h fl A aargs hA hN R hl
  unfold G43 at h
  generalize ht : c.tm = tm at h
  replace h := dCons_ok h; obtain ⟨a1_, r2_, rfl, h⟩ := h
  replace h := dPl_ok h; obtain ⟨p1, rfl, h⟩ := h
  replace h := dNil_ok h; obtain ⟨rfl, h⟩ := h
  replace h := dEnd_ok h; obtain ⟨rfl, h⟩ := h
  refine fun_ok (nt := 5) (x := bodyOf Try.f43) (Γ := Γ43) (H := H43) (WW := W43) (rs := [.cell 2 37]) (shs := [.ag [.own .int, .own .int, .own .int, .own .bool, .own .int]]) (cons := []) mixed Try.func43 (by decide) (by kernel_rfl) Try.ntmps43 Try.results43 (.cons (useC_ok s92) (GSound.nil)) ?_ hA hN R hl
  rw [ht, e43 p1 K]
  exact h
/-! impl.YoungKept -/
def G44 : Con := fun args tm K => dCons args fun a1_ r2_ => dAgg a1_ fun l3_ => dCons l3_ fun a4_ r5_ => dPl .int a4_ fun p1 => dCons r5_ fun a6_ r7_ => dPl .int a6_ fun p2 => dCons r7_ fun a8_ r9_ => dPl .int a8_ fun p3 => dCons r9_ fun a10_ r11_ => dPl .bool a10_ fun p4 => dCons r11_ fun a12_ r13_ => dPl .int a12_ fun p5 => dNil r13_ <| dNil r2_ <| dEnd tm <| Mi_YoungKept p1 p2 p3 p4 p5 (fun r1 => K (.sl 0) [⟨true, .list .int r1⟩])
def H44_0 : LH where
  keep := [(1, .pc [.pure .int, .pure .int, .pure .int, .pure .bool, .pure .int]), (3, .own .bool), (4, .own .int), (24, .pure .int), (25, .x), (26, .x)]
  S := List Int × Int × Int × List Int × List Int × List Int × List Bool × List Int × List Bool × List Int
  enc := fun s => ([.ptr 0 0, .sl 1, .sl 2, .pl .int s.1, .int .i64 s.2.1, .int .i64 s.2.2.1], [⟨true, .cells [.pl .int s.2.2.2.1, .pl .int s.2.2.2.2.1, .pl .int s.2.2.2.2.2.1, .pl .bool s.2.2.2.2.2.2.1, .pl .int s.2.2.2.2.2.2.2.1]⟩, ⟨true, .list .bool s.2.2.2.2.2.2.2.2.1⟩, ⟨true, .list .int s.2.2.2.2.2.2.2.2.2⟩])
  dec := fun vs tm K => dCons vs fun a1_ r2_ => dPtr 0 a1_ <| dCons r2_ fun a3_ r4_ => dSl 1 a3_ <| dCons r4_ fun a5_ r6_ => dSl 2 a5_ <| dCons r6_ fun a7_ r8_ => dPl .int a7_ fun q0 => dCons r8_ fun a9_ r10_ => dInt .i64 a9_ fun q1 => dCons r10_ fun a11_ r12_ => dInt .i64 a11_ fun q2 => dNil r12_ <| dBlk true tm fun b13_ m14_ => dCells b13_ fun c15_ => dCons c15_ fun a16_ r17_ => dPl .int a16_ fun q3 => dCons r17_ fun a18_ r19_ => dPl .int a18_ fun q4 => dCons r19_ fun a20_ r21_ => dPl .int a20_ fun q5 => dCons r21_ fun a22_ r23_ => dPl .bool a22_ fun q6 => dCons r23_ fun a24_ r25_ => dPl .int a24_ fun q7 => dNil r25_ <| dBlk true m14_ fun b26_ m27_ => dList .bool b26_ fun q8 => dBlk true m27_ fun b28_ m29_ => dList .int b28_ fun q9 => dEnd m29_ <| K (q0, q1, q2, q3, q4, q5, q6, q7, q8, q9)
  law := by
    intro vs tm K h
    replace h := dCons_ok h; obtain ⟨a1_, r2_, rfl, h⟩ := h
    replace h := dPtr_ok h; obtain ⟨rfl, h⟩ := h
    replace h := dCons_ok h; obtain ⟨a3_, r4_, rfl, h⟩ := h
    replace h := dSl_ok h; obtain ⟨rfl, h⟩ := h
    replace h := dCons_ok h; obtain ⟨a5_, r6_, rfl, h⟩ := h
    replace h := dSl_ok h; obtain ⟨rfl, h⟩ := h
    replace h := dCons_ok h; obtain ⟨a7_, r8_, rfl, h⟩ := h
    replace h := dPl_ok h; obtain ⟨q0, rfl, h⟩ := h
    replace h := dCons_ok h; obtain ⟨a9_, r10_, rfl, h⟩ := h
    replace h := dInt_ok h; obtain ⟨q1, rfl, h⟩ := h
    replace h := dCons_ok h; obtain ⟨a11_, r12_, rfl, h⟩ := h
    replace h := dInt_ok h; obtain ⟨q2, rfl, h⟩ := h
    replace h := dNil_ok h; obtain ⟨rfl, h⟩ := h
    replace h := dBlk_ok h; obtain ⟨b13_, m14_, rfl, h⟩ := h
    replace h := dCells_ok h; obtain ⟨c15_, rfl, h⟩ := h
    replace h := dCons_ok h; obtain ⟨a16_, r17_, rfl, h⟩ := h
    replace h := dPl_ok h; obtain ⟨q3, rfl, h⟩ := h
    replace h := dCons_ok h; obtain ⟨a18_, r19_, rfl, h⟩ := h
    replace h := dPl_ok h; obtain ⟨q4, rfl, h⟩ := h
    replace h := dCons_ok h; obtain ⟨a20_, r21_, rfl, h⟩ := h
    replace h := dPl_ok h; obtain ⟨q5, rfl, h⟩ := h
    replace h := dCons_ok h; obtain ⟨a22_, r23_, rfl, h⟩ := h
    replace h := dPl_ok h; obtain ⟨q6, rfl, h⟩ := h
    replace h := dCons_ok h; obtain ⟨a24_, r25_, rfl, h⟩ := h
    replace h := dPl_ok h; obtain ⟨q7, rfl, h⟩ := h
    replace h := dNil_ok h; obtain ⟨rfl, h⟩ := h
    replace h := dBlk_ok h; obtain ⟨b26_, m27_, rfl, h⟩ := h
    replace h := dList_ok h; obtain ⟨q8, rfl, h⟩ := h
    replace h := dBlk_ok h; obtain ⟨b28_, m29_, rfl, h⟩ := h
    replace h := dList_ok h; obtain ⟨q9, rfl, h⟩ := h
    replace h := dEnd_ok h; obtain ⟨rfl, h⟩ := h
    exact ⟨(q0, q1, q2, q3, q4, q5, q6, q7, q8, q9), rfl, h⟩
def H44_2 : LH where
  keep := [(1, .pc [.pure .int, .pure .int, .pure .int, .pure .bool, .pure .int]), (3, .own .bool), (4, .own .int), (7, .x)]
  S := Int × List Int × List Int × List Int × List Bool × List Int × List Bool × List Int
  enc := fun s => ([.ptr 0 0, .sl 1, .sl 2, .int .i64 s.1], [⟨true, .cells [.pl .int s.2.1, .pl .int s.2.2.1, .pl .int s.2.2.2.1, .pl .bool s.2.2.2.2.1, .pl .int s.2.2.2.2.2.1]⟩, ⟨true, .list .bool s.2.2.2.2.2.2.1⟩, ⟨true, .list .int s.2.2.2.2.2.2.2⟩])
  dec := fun vs tm K => dCons vs fun a1_ r2_ => dPtr 0 a1_ <| dCons r2_ fun a3_ r4_ => dSl 1 a3_ <| dCons r4_ fun a5_ r6_ => dSl 2 a5_ <| dCons r6_ fun a7_ r8_ => dInt .i64 a7_ fun q0 => dNil r8_ <| dBlk true tm fun b9_ m10_ => dCells b9_ fun c11_ => dCons c11_ fun a12_ r13_ => dPl .int a12_ fun q1 => dCons r13_ fun a14_ r15_ => dPl .int a14_ fun q2 => dCons r15_ fun a16_ r17_ => dPl .int a16_ fun q3 => dCons r17_ fun a18_ r19_ => dPl .bool a18_ fun q4 => dCons r19_ fun a20_ r21_ => dPl .int a20_ fun q5 => dNil r21_ <| dBlk true m10_ fun b22_ m23_ => dList .bool b22_ fun q6 => dBlk true m23_ fun b24_ m25_ => dList .int b24_ fun q7 => dEnd m25_ <| K (q0, q1, q2, q3, q4, q5, q6, q7)
  law := by
    intro vs tm K h
    replace h := dCons_ok h; obtain ⟨a1_, r2_, rfl, h⟩ := h
    replace h := dPtr_ok h; obtain ⟨rfl, h⟩ := h
    replace h := dCons_ok h; obtain ⟨a3_, r4_, rfl, h⟩ := h
    replace h := dSl_ok h; obtain ⟨rfl, h⟩ := h
    replace h := dCons_ok h; obtain ⟨a5_, r6_, rfl, h⟩ := h
    replace h := dSl_ok h; obtain ⟨rfl, h⟩ := h
    replace h := dCons_ok h; obtain ⟨a7_, r8_, rfl, h⟩ := h
    replace h := dInt_ok h; obtain ⟨q0, rfl, h⟩ := h
    replace h := dNil_ok h; obtain ⟨rfl, h⟩ := h
    replace h := dBlk_ok h; obtain ⟨b9_, m10_, rfl, h⟩ := h
    replace h := dCells_ok h; obtain ⟨c11_, rfl, h⟩ := h
    replace h := dCons_ok h; obtain ⟨a12_, r13_, rfl, h⟩ := h
    replace h := dPl_ok h; obtain ⟨q1, rfl, h⟩ := h
    replace h := dCons_ok h; obtain ⟨a14_, r15_, rfl, h⟩ := h
    replace h := dPl_ok h; obtain ⟨q2, rfl, h⟩ := h
    replace h := dCons_ok h; obtain ⟨a16_, r17_, rfl, h⟩ := h
    replace h := dPl_ok h; obtain ⟨q3, rfl, h⟩ := h
    replace h := dCons_ok h; obtain ⟨a18_, r19_, rfl, h⟩ := h
    replace h := dPl_ok h; obtain ⟨q4, rfl, h⟩ := h
    replace h := dCons_ok h; obtain ⟨a20_, r21_, rfl, h⟩ := h
    replace h := dPl_ok h; obtain ⟨q5, rfl, h⟩ := h
    replace h := dNil_ok h; obtain ⟨rfl, h⟩ := h
    replace h := dBlk_ok h; obtain ⟨b22_, m23_, rfl, h⟩ := h
    replace h := dList_ok h; obtain ⟨q6, rfl, h⟩ := h
    replace h := dBlk_ok h; obtain ⟨b24_, m25_, rfl, h⟩ := h
    replace h := dList_ok h; obtain ⟨q7, rfl, h⟩ := h
    replace h := dEnd_ok h; obtain ⟨rfl, h⟩ := h
    exact ⟨(q0, q1, q2, q3, q4, q5, q6, q7), rfl, h⟩
def H44_4 : LH where
  keep := [(9, .own .int), (90, .own .bool), (91, .x), (92, .x)]
  S := Int × Int × List Int × List Bool
  enc := fun s => ([.sl 0, .sl 1, .int .i64 s.1, .int .i64 s.2.1], [⟨true, .list .int s.2.2.1⟩, ⟨true, .list .bool s.2.2.2⟩])
  dec := fun vs tm K => dCons vs fun a1_ r2_ => dSl 0 a1_ <| dCons r2_ fun a3_ r4_ => dSl 1 a3_ <| dCons r4_ fun a5_ r6_ => dInt .i64 a5_ fun q0 => dCons r6_ fun a7_ r8_ => dInt .i64 a7_ fun q1 => dNil r8_ <| dBlk true tm fun b9_ m10_ => dList .int b9_ fun q2 => dBlk true m10_ fun b11_ m12_ => dList .bool b11_ fun q3 => dEnd m12_ <| K (q0, q1, q2, q3)
  law := by
    intro vs tm K h
    replace h := dCons_ok h; obtain ⟨a1_, r2_, rfl, h⟩ := h
    replace h := dSl_ok h; obtain ⟨rfl, h⟩ := h
    replace h := dCons_ok h; obtain ⟨a3_, r4_, rfl, h⟩ := h
    replace h := dSl_ok h; obtain ⟨rfl, h⟩ := h
    replace h := dCons_ok h; obtain ⟨a5_, r6_, rfl, h⟩ := h
    replace h := dInt_ok h; obtain ⟨q0, rfl, h⟩ := h
    replace h := dCons_ok h; obtain ⟨a7_, r8_, rfl, h⟩ := h
    replace h := dInt_ok h; obtain ⟨q1, rfl, h⟩ := h
    replace h := dNil_ok h; obtain ⟨rfl, h⟩ := h
    replace h := dBlk_ok h; obtain ⟨b9_, m10_, rfl, h⟩ := h
    replace h := dList_ok h; obtain ⟨q2, rfl, h⟩ := h
    replace h := dBlk_ok h; obtain ⟨b11_, m12_, rfl, h⟩ := h
    replace h := dList_ok h; obtain ⟨q3, rfl, h⟩ := h
    replace h := dEnd_ok h; obtain ⟨rfl, h⟩ := h
    exact ⟨(q0, q1, q2, q3), rfl, h⟩
def H44 : List (Nat × LH) := [(0, H44_0), (2, H44_2), (4, H44_4)]
def W44 : List (Nat × List (Nat × List Nat)) := []
def Γ44 : List (Nat × Con) := [(42, useC [.ag [.pure .int, .pure .int, .pure .int, .pure .bool, .pure .int]] G42), (102, useC [.pure .int] G102)]
theorem e44 (p1 : List Int) (p2 : List Int) (p3 : List Int) (p4 : List Bool) (p5 : List Int) (K : TV → TMem → Prop) : TW PP 104 Γ44 H44 W44 (List.length ([] : TMem)) (bodyOf Try.f44) (endT PP 104 [.tmp 2] [.own .int] [] (List.length ([] : TMem)) K) (argsF [.agg [.pl .int p1, .pl .int p2, .pl .int p3, .pl .bool p4, .pl .int p5]]) [] =
    Mi_YoungKept p1 p2 p3 p4 p5 (fun r1 => K (.sl 0) [⟨true, .list .int r1⟩]) := by kernel_rfl
theorem s44 : CSound PP 44 G44 := by
  intro args K c h fl A aargs hA hN R hl
  unfold G44 at h
  generalize ht : c.tm = tm at h
  replace h := dCons_ok h; obtain ⟨a1_, r2_, rfl, h⟩ := h
  replace h := dAgg_ok h; obtain ⟨l3_, rfl, h⟩ := h
  replace h := dCons_ok h; obtain ⟨a4_, r5_, rfl, h⟩ := h
  replace h := dPl_ok h; obtain ⟨p1, rfl, h⟩ := h
  replace h := dCons_ok h; obtain ⟨a6_, r7_, rfl, h⟩ := h
  replace h := dPl_ok h; obtain ⟨p2, rfl, h⟩ := h
  replace h := dCons_ok h; obtain ⟨a8_, r9_, rfl, h⟩ := h
  replace h := dPl_ok h; obtain ⟨p3, rfl, h⟩ := h
  replace h := dCons_ok h; obtain ⟨a10_, r11_, rfl, h⟩ := h
  replace h := dPl_ok h; obtain ⟨p4, rfl, h⟩ := h
  replace h := dCons_ok h; obtain ⟨a12_, r13_, rfl, h⟩ := h
  replace h := dPl_ok h; obtain ⟨p5, rfl, h⟩ := h
  replace h := dNil_ok h; obtain ⟨rfl, h⟩ := h
  replace h := dNil_ok h; obtain ⟨rfl, h⟩ := h
  replace h := dEnd_ok h; obtain ⟨rfl, h⟩ := h
  refine fun_ok (nt := 104) (x := bodyOf Try.f44) (Γ := Γ44) (H := H44) (WW := W44) (rs := [.tmp 2]) (shs := [.own .int]) (cons := []) mixed Try.func44 (by decide) (by kernel_rfl) Try.ntmps44 Try.results44 (.cons (useC_ok s42) (.cons (useC_ok s102) (GSound.nil))) ?_ hA hN R hl
  rw [ht, e44 p1 p2 p3 p4 p5 K]
  exact h
/-! spec.l11Kept -/
def G103 : Con := fun args tm K => dCons args fun a1_ r2_ => dAgg a1_ fun l3_ => dCons l3_ fun a4_ r5_ => dPl .int a4_ fun p1 => dCons r5_ fun a6_ r7_ => dPl .int a6_ fun p2 => dCons r7_ fun a8_ r9_ => dPl .int a8_ fun p3 => dCons r9_ fun a10_ r11_ => dPl .bool a10_ fun p4 => dCons r11_ fun a12_ r13_ => dPl .int a12_ fun p5 => dNil r13_ <| dNil r2_ <| dEnd tm <| Ms_l11Kept p1 p2 p3 p4 p5 (fun r1 => K (.sl 0) [⟨true, .list .bool r1⟩])
def H103_0 : LH where
  keep := [(1, .pc [.pure .int, .pure .int, .pure .int, .pure .bool, .pure .int]), (3, .own .int), (4, .x)]
  S := Int × List Int × List Int × List Int × List Bool × List Int × List Int
  enc := fun s => ([.ptr 0 0, .sl 1, .int .i64 s.1], [⟨true, .cells [.pl .int s.2.1, .pl .int s.2.2.1, .pl .int s.2.2.2.1, .pl .bool s.2.2.2.2.1, .pl .int s.2.2.2.2.2.1]⟩, ⟨true, .list .int s.2.2.2.2.2.2⟩])
  dec := fun vs tm K => dCons vs fun a1_ r2_ => dPtr 0 a1_ <| dCons r2_ fun a3_ r4_ => dSl 1 a3_ <| dCons r4_ fun a5_ r6_ => dInt .i64 a5_ fun q0 => dNil r6_ <| dBlk true tm fun b7_ m8_ => dCells b7_ fun c9_ => dCons c9_ fun a10_ r11_ => dPl .int a10_ fun q1 => dCons r11_ fun a12_ r13_ => dPl .int a12_ fun q2 => dCons r13_ fun a14_ r15_ => dPl .int a14_ fun q3 => dCons r15_ fun a16_ r17_ => dPl .bool a16_ fun q4 => dCons r17_ fun a18_ r19_ => dPl .int a18_ fun q5 => dNil r19_ <| dBlk true m8_ fun b20_ m21_ => dList .int b20_ fun q6 => dEnd m21_ <| K (q0, q1, q2, q3, q4, q5, q6)
  law := by
    intro vs tm K h
    replace h := dCons_ok h; obtain ⟨a1_, r2_, rfl, h⟩ := h
    replace h := dPtr_ok h; obtain ⟨rfl, h⟩ := h
    replace h := dCons_ok h; obtain ⟨a3_, r4_, rfl, h⟩ := h
    replace h := dSl_ok h; obtain ⟨rfl, h⟩ := h
    replace h := dCons_ok h; obtain ⟨a5_, r6_, rfl, h⟩ := h
    replace h := dInt_ok h; obtain ⟨q0, rfl, h⟩ := h
    replace h := dNil_ok h; obtain ⟨rfl, h⟩ := h
    replace h := dBlk_ok h; obtain ⟨b7_, m8_, rfl, h⟩ := h
    replace h := dCells_ok h; obtain ⟨c9_, rfl, h⟩ := h
    replace h := dCons_ok h; obtain ⟨a10_, r11_, rfl, h⟩ := h
    replace h := dPl_ok h; obtain ⟨q1, rfl, h⟩ := h
    replace h := dCons_ok h; obtain ⟨a12_, r13_, rfl, h⟩ := h
    replace h := dPl_ok h; obtain ⟨q2, rfl, h⟩ := h
    replace h := dCons_ok h; obtain ⟨a14_, r15_, rfl, h⟩ := h
    replace h := dPl_ok h; obtain ⟨q3, rfl, h⟩ := h
    replace h := dCons_ok h; obtain ⟨a16_, r17_, rfl, h⟩ := h
    replace h := dPl_ok h; obtain ⟨q4, rfl, h⟩ := h
    replace h := dCons_ok h; obtain ⟨a18_, r19_, rfl, h⟩ := h
    replace h := dPl_ok h; obtain ⟨q5, rfl, h⟩ := h
    replace h := dNil_ok h; obtain ⟨rfl, h⟩ := h
    replace h := dBlk_ok h; obtain ⟨b20_, m21_, rfl, h⟩ := h
    replace h := dList_ok h; obtain ⟨q6, rfl, h⟩ := h
    replace h := dEnd_ok h; obtain ⟨rfl, h⟩ := h
    exact ⟨(q0, q1, q2, q3, q4, q5, q6), rfl, h⟩
def H103_2 : LH where
  keep := [(1, .pc [.pure .int, .pure .int, .pure .int, .pure .bool, .pure .int]), (3, .own .int), (5, .own .bool), (6, .x)]
  S := Int × List Int × List Int × List Int × List Bool × List Int × List Int × List Bool
  enc := fun s => ([.ptr 0 0, .sl 1, .sl 2, .int .i64 s.1], [⟨true, .cells [.pl .int s.2.1, .pl .int s.2.2.1, .pl .int s.2.2.2.1, .pl .bool s.2.2.2.2.1, .pl .int s.2.2.2.2.2.1]⟩, ⟨true, .list .int s.2.2.2.2.2.2.1⟩, ⟨true, .list .bool s.2.2.2.2.2.2.2⟩])
  dec := fun vs tm K => dCons vs fun a1_ r2_ => dPtr 0 a1_ <| dCons r2_ fun a3_ r4_ => dSl 1 a3_ <| dCons r4_ fun a5_ r6_ => dSl 2 a5_ <| dCons r6_ fun a7_ r8_ => dInt .i64 a7_ fun q0 => dNil r8_ <| dBlk true tm fun b9_ m10_ => dCells b9_ fun c11_ => dCons c11_ fun a12_ r13_ => dPl .int a12_ fun q1 => dCons r13_ fun a14_ r15_ => dPl .int a14_ fun q2 => dCons r15_ fun a16_ r17_ => dPl .int a16_ fun q3 => dCons r17_ fun a18_ r19_ => dPl .bool a18_ fun q4 => dCons r19_ fun a20_ r21_ => dPl .int a20_ fun q5 => dNil r21_ <| dBlk true m10_ fun b22_ m23_ => dList .int b22_ fun q6 => dBlk true m23_ fun b24_ m25_ => dList .bool b24_ fun q7 => dEnd m25_ <| K (q0, q1, q2, q3, q4, q5, q6, q7)
  law := by
    intro vs tm K h
    replace h := dCons_ok h; obtain ⟨a1_, r2_, rfl, h⟩ := h
    replace h := dPtr_ok h; obtain ⟨rfl, h⟩ := h
    replace h := dCons_ok h; obtain ⟨a3_, r4_, rfl, h⟩ := h
    replace h := dSl_ok h; obtain ⟨rfl, h⟩ := h
    replace h := dCons_ok h; obtain ⟨a5_, r6_, rfl, h⟩ := h
    replace h := dSl_ok h; obtain ⟨rfl, h⟩ := h
    replace h := dCons_ok h; obtain ⟨a7_, r8_, rfl, h⟩ := h
    replace h := dInt_ok h; obtain ⟨q0, rfl, h⟩ := h
    replace h := dNil_ok h; obtain ⟨rfl, h⟩ := h
    replace h := dBlk_ok h; obtain ⟨b9_, m10_, rfl, h⟩ := h
    replace h := dCells_ok h; obtain ⟨c11_, rfl, h⟩ := h
    replace h := dCons_ok h; obtain ⟨a12_, r13_, rfl, h⟩ := h
    replace h := dPl_ok h; obtain ⟨q1, rfl, h⟩ := h
    replace h := dCons_ok h; obtain ⟨a14_, r15_, rfl, h⟩ := h
    replace h := dPl_ok h; obtain ⟨q2, rfl, h⟩ := h
    replace h := dCons_ok h; obtain ⟨a16_, r17_, rfl, h⟩ := h
    replace h := dPl_ok h; obtain ⟨q3, rfl, h⟩ := h
    replace h := dCons_ok h; obtain ⟨a18_, r19_, rfl, h⟩ := h
    replace h := dPl_ok h; obtain ⟨q4, rfl, h⟩ := h
    replace h := dCons_ok h; obtain ⟨a20_, r21_, rfl, h⟩ := h
    replace h := dPl_ok h; obtain ⟨q5, rfl, h⟩ := h
    replace h := dNil_ok h; obtain ⟨rfl, h⟩ := h
    replace h := dBlk_ok h; obtain ⟨b22_, m23_, rfl, h⟩ := h
    replace h := dList_ok h; obtain ⟨q6, rfl, h⟩ := h
    replace h := dBlk_ok h; obtain ⟨b24_, m25_, rfl, h⟩ := h
    replace h := dList_ok h; obtain ⟨q7, rfl, h⟩ := h
    replace h := dEnd_ok h; obtain ⟨rfl, h⟩ := h
    exact ⟨(q0, q1, q2, q3, q4, q5, q6, q7), rfl, h⟩
def H103 : List (Nat × LH) := [(0, H103_0), (2, H103_2)]
def W103 : List (Nat × List (Nat × List Nat)) := []
def Γ103 : List (Nat × Con) := [(135, useC [.pure .bool, .x] G135)]
theorem e103 (p1 : List Int) (p2 : List Int) (p3 : List Int) (p4 : List Bool) (p5 : List Int) (K : TV → TMem → Prop) : TW PP 87 Γ103 H103 W103 (List.length ([] : TMem)) (bodyOf Try.f103) (endT PP 87 [.tmp 2] [.own .bool] [] (List.length ([] : TMem)) K) (argsF [.agg [.pl .int p1, .pl .int p2, .pl .int p3, .pl .bool p4, .pl .int p5]]) [] =
    Ms_l11Kept p1 p2 p3 p4 p5 (fun r1 => K (.sl 0) [⟨true, .list .bool r1⟩]) := by kernel_rfl
theorem s103 : CSound PP 103 G103 := by
  intro args K c h fl A aargs hA hN R hl
  unfold G103 at h
  generalize ht : c.tm = tm at h
  replace h := dCons_ok h; obtain ⟨a1_, r2_, rfl, h⟩ := h
  replace h := dAgg_ok h; obtain ⟨l3_, rfl, h⟩ := h
  replace h := dCons_ok h; obtain ⟨a4_, r5_, rfl, h⟩ := h
  replace h := dPl_ok h; obtain ⟨p1, rfl, h⟩ := h
  replace h := dCons_ok h; obtain ⟨a6_, r7_, rfl, h⟩ := h
  replace h := dPl_ok h; obtain ⟨p2, rfl, h⟩ := h
  replace h := dCons_ok h; obtain ⟨a8_, r9_, rfl, h⟩ := h
  replace h := dPl_ok h; obtain ⟨p3, rfl, h⟩ := h
  replace h := dCons_ok h; obtain ⟨a10_, r11_, rfl, h⟩ := h
  replace h := dPl_ok h; obtain ⟨p4, rfl, h⟩ := h
  replace h := dCons_ok h; obtain ⟨a12_, r13_, rfl, h⟩ := h
  replace h := dPl_ok h; obtain ⟨p5, rfl, h⟩ := h
  replace h := dNil_ok h; obtain ⟨rfl, h⟩ := h
  replace h := dNil_ok h; obtain ⟨rfl, h⟩ := h
  replace h := dEnd_ok h; obtain ⟨rfl, h⟩ := h
  refine fun_ok (nt := 87) (x := bodyOf Try.f103) (Γ := Γ103) (H := H103) (WW := W103) (rs := [.tmp 2]) (shs := [.own .bool]) (cons := []) mixed Try.func103 (by decide) (by kernel_rfl) Try.ntmps103 Try.results103 (.cons (useC_ok s135) (GSound.nil)) ?_ hA hN R hl
  rw [ht, e103 p1 p2 p3 p4 p5 K]
  exact h
/-! spec.YoungKept -/
def G45 : Con := fun args tm K => dCons args fun a1_ r2_ => dAgg a1_ fun l3_ => dCons l3_ fun a4_ r5_ => dPl .int a4_ fun p1 => dCons r5_ fun a6_ r7_ => dPl .int a6_ fun p2 => dCons r7_ fun a8_ r9_ => dPl .int a8_ fun p3 => dCons r9_ fun a10_ r11_ => dPl .bool a10_ fun p4 => dCons r11_ fun a12_ r13_ => dPl .int a12_ fun p5 => dNil r13_ <| dNil r2_ <| dEnd tm <| Ms_YoungKept p1 p2 p3 p4 p5 (fun r1 => K (.sl 0) [⟨true, .list .int r1⟩])
def H45_0 : LH where
  keep := [(3, .own .int), (4, .own .bool), (5, .x)]
  S := Int × List Int × List Bool
  enc := fun s => ([.sl 0, .sl 1, .int .i64 s.1], [⟨true, .list .int s.2.1⟩, ⟨true, .list .bool s.2.2⟩])
  dec := fun vs tm K => dCons vs fun a1_ r2_ => dSl 0 a1_ <| dCons r2_ fun a3_ r4_ => dSl 1 a3_ <| dCons r4_ fun a5_ r6_ => dInt .i64 a5_ fun q0 => dNil r6_ <| dBlk true tm fun b7_ m8_ => dList .int b7_ fun q1 => dBlk true m8_ fun b9_ m10_ => dList .bool b9_ fun q2 => dEnd m10_ <| K (q0, q1, q2)
  law := by
    intro vs tm K h
    replace h := dCons_ok h; obtain ⟨a1_, r2_, rfl, h⟩ := h
    replace h := dSl_ok h; obtain ⟨rfl, h⟩ := h
    replace h := dCons_ok h; obtain ⟨a3_, r4_, rfl, h⟩ := h
    replace h := dSl_ok h; obtain ⟨rfl, h⟩ := h
    replace h := dCons_ok h; obtain ⟨a5_, r6_, rfl, h⟩ := h
    replace h := dInt_ok h; obtain ⟨q0, rfl, h⟩ := h
    replace h := dNil_ok h; obtain ⟨rfl, h⟩ := h
    replace h := dBlk_ok h; obtain ⟨b7_, m8_, rfl, h⟩ := h
    replace h := dList_ok h; obtain ⟨q1, rfl, h⟩ := h
    replace h := dBlk_ok h; obtain ⟨b9_, m10_, rfl, h⟩ := h
    replace h := dList_ok h; obtain ⟨q2, rfl, h⟩ := h
    replace h := dEnd_ok h; obtain ⟨rfl, h⟩ := h
    exact ⟨(q0, q1, q2), rfl, h⟩
def H45 : List (Nat × LH) := [(0, H45_0)]
def W45 : List (Nat × List (Nat × List Nat)) := []
def Γ45 : List (Nat × Con) := [(98, useC [.ag [.pure .int, .pure .int, .pure .int, .pure .bool, .pure .int]] G98), (103, useC [.ag [.pure .int, .pure .int, .pure .int, .pure .bool, .pure .int]] G103)]
theorem e45 (p1 : List Int) (p2 : List Int) (p3 : List Int) (p4 : List Bool) (p5 : List Int) (K : TV → TMem → Prop) : TW PP 28 Γ45 H45 W45 (List.length ([] : TMem)) (bodyOf Try.f45) (endT PP 28 [.tmp 2] [.own .int] [] (List.length ([] : TMem)) K) (argsF [.agg [.pl .int p1, .pl .int p2, .pl .int p3, .pl .bool p4, .pl .int p5]]) [] =
    Ms_YoungKept p1 p2 p3 p4 p5 (fun r1 => K (.sl 0) [⟨true, .list .int r1⟩]) := by kernel_rfl
theorem s45 : CSound PP 45 G45 := by
  intro args K c h fl A aargs hA hN R hl
  unfold G45 at h
  generalize ht : c.tm = tm at h
  replace h := dCons_ok h; obtain ⟨a1_, r2_, rfl, h⟩ := h
  replace h := dAgg_ok h; obtain ⟨l3_, rfl, h⟩ := h
  replace h := dCons_ok h; obtain ⟨a4_, r5_, rfl, h⟩ := h
  replace h := dPl_ok h; obtain ⟨p1, rfl, h⟩ := h
  replace h := dCons_ok h; obtain ⟨a6_, r7_, rfl, h⟩ := h
  replace h := dPl_ok h; obtain ⟨p2, rfl, h⟩ := h
  replace h := dCons_ok h; obtain ⟨a8_, r9_, rfl, h⟩ := h
  replace h := dPl_ok h; obtain ⟨p3, rfl, h⟩ := h
  replace h := dCons_ok h; obtain ⟨a10_, r11_, rfl, h⟩ := h
  replace h := dPl_ok h; obtain ⟨p4, rfl, h⟩ := h
  replace h := dCons_ok h; obtain ⟨a12_, r13_, rfl, h⟩ := h
  replace h := dPl_ok h; obtain ⟨p5, rfl, h⟩ := h
  replace h := dNil_ok h; obtain ⟨rfl, h⟩ := h
  replace h := dNil_ok h; obtain ⟨rfl, h⟩ := h
  replace h := dEnd_ok h; obtain ⟨rfl, h⟩ := h
  refine fun_ok (nt := 28) (x := bodyOf Try.f45) (Γ := Γ45) (H := H45) (WW := W45) (rs := [.tmp 2]) (shs := [.own .int]) (cons := []) mixed Try.func45 (by decide) (by kernel_rfl) Try.ntmps45 Try.results45 (.cons (useC_ok s98) (.cons (useC_ok s103) (GSound.nil))) ?_ hA hN R hl
  rw [ht, e45 p1 p2 p3 p4 p5 K]
  exact h
/-! laws.FnKeptClosed -/
def G5 : Con := fun args tm K => dCons args fun a1_ r2_ => dPl .byte a1_ fun p1 => dNil r2_ <| dEnd tm <| Ml_FnKeptClosed p1 (fun r1 => K (.bool r1) [])
def H5_0 : LH where
  keep := [(3, .pc [.own .int, .own .int, .own .int, .own .bool, .own .int]), (4, .own .int), (5, .own .bool), (6, .x)]
  S := Int × List Int × List Bool × List Int × List Int × List Int × List Bool × List Int
  enc := fun s => ([.ptr 0 0, .sl 1, .sl 2, .int .i64 s.1], [⟨true, .cells [.sl 3, .sl 4, .sl 5, .sl 6, .sl 7]⟩, ⟨true, .list .int s.2.1⟩, ⟨true, .list .bool s.2.2.1⟩, ⟨true, .list .int s.2.2.2.1⟩, ⟨true, .list .int s.2.2.2.2.1⟩, ⟨true, .list .int s.2.2.2.2.2.1⟩, ⟨true, .list .bool s.2.2.2.2.2.2.1⟩, ⟨true, .list .int s.2.2.2.2.2.2.2⟩])
  dec := fun vs tm K => dCons vs fun a1_ r2_ => dPtr 0 a1_ <| dCons r2_ fun a3_ r4_ => dSl 1 a3_ <| dCons r4_ fun a5_ r6_ => dSl 2 a5_ <| dCons r6_ fun a7_ r8_ => dInt .i64 a7_ fun q0 => dNil r8_ <| dBlk true tm fun b9_ m10_ => dCells b9_ fun c11_ => dCons c11_ fun a12_ r13_ => dSl 3 a12_ <| dCons r13_ fun a14_ r15_ => dSl 4 a14_ <| dCons r15_ fun a16_ r17_ => dSl 5 a16_ <| dCons r17_ fun a18_ r19_ => dSl 6 a18_ <| dCons r19_ fun a20_ r21_ => dSl 7 a20_ <| dNil r21_ <| dBlk true m10_ fun b22_ m23_ => dList .int b22_ fun q1 => dBlk true m23_ fun b24_ m25_ => dList .bool b24_ fun q2 => dBlk true m25_ fun b26_ m27_ => dList .int b26_ fun q3 => dBlk true m27_ fun b28_ m29_ => dList .int b28_ fun q4 => dBlk true m29_ fun b30_ m31_ => dList .int b30_ fun q5 => dBlk true m31_ fun b32_ m33_ => dList .bool b32_ fun q6 => dBlk true m33_ fun b34_ m35_ => dList .int b34_ fun q7 => dEnd m35_ <| K (q0, q1, q2, q3, q4, q5, q6, q7)
  law := by
    intro vs tm K h
    replace h := dCons_ok h; obtain ⟨a1_, r2_, rfl, h⟩ := h
    replace h := dPtr_ok h; obtain ⟨rfl, h⟩ := h
    replace h := dCons_ok h; obtain ⟨a3_, r4_, rfl, h⟩ := h
    replace h := dSl_ok h; obtain ⟨rfl, h⟩ := h
    replace h := dCons_ok h; obtain ⟨a5_, r6_, rfl, h⟩ := h
    replace h := dSl_ok h; obtain ⟨rfl, h⟩ := h
    replace h := dCons_ok h; obtain ⟨a7_, r8_, rfl, h⟩ := h
    replace h := dInt_ok h; obtain ⟨q0, rfl, h⟩ := h
    replace h := dNil_ok h; obtain ⟨rfl, h⟩ := h
    replace h := dBlk_ok h; obtain ⟨b9_, m10_, rfl, h⟩ := h
    replace h := dCells_ok h; obtain ⟨c11_, rfl, h⟩ := h
    replace h := dCons_ok h; obtain ⟨a12_, r13_, rfl, h⟩ := h
    replace h := dSl_ok h; obtain ⟨rfl, h⟩ := h
    replace h := dCons_ok h; obtain ⟨a14_, r15_, rfl, h⟩ := h
    replace h := dSl_ok h; obtain ⟨rfl, h⟩ := h
    replace h := dCons_ok h; obtain ⟨a16_, r17_, rfl, h⟩ := h
    replace h := dSl_ok h; obtain ⟨rfl, h⟩ := h
    replace h := dCons_ok h; obtain ⟨a18_, r19_, rfl, h⟩ := h
    replace h := dSl_ok h; obtain ⟨rfl, h⟩ := h
    replace h := dCons_ok h; obtain ⟨a20_, r21_, rfl, h⟩ := h
    replace h := dSl_ok h; obtain ⟨rfl, h⟩ := h
    replace h := dNil_ok h; obtain ⟨rfl, h⟩ := h
    replace h := dBlk_ok h; obtain ⟨b22_, m23_, rfl, h⟩ := h
    replace h := dList_ok h; obtain ⟨q1, rfl, h⟩ := h
    replace h := dBlk_ok h; obtain ⟨b24_, m25_, rfl, h⟩ := h
    replace h := dList_ok h; obtain ⟨q2, rfl, h⟩ := h
    replace h := dBlk_ok h; obtain ⟨b26_, m27_, rfl, h⟩ := h
    replace h := dList_ok h; obtain ⟨q3, rfl, h⟩ := h
    replace h := dBlk_ok h; obtain ⟨b28_, m29_, rfl, h⟩ := h
    replace h := dList_ok h; obtain ⟨q4, rfl, h⟩ := h
    replace h := dBlk_ok h; obtain ⟨b30_, m31_, rfl, h⟩ := h
    replace h := dList_ok h; obtain ⟨q5, rfl, h⟩ := h
    replace h := dBlk_ok h; obtain ⟨b32_, m33_, rfl, h⟩ := h
    replace h := dList_ok h; obtain ⟨q6, rfl, h⟩ := h
    replace h := dBlk_ok h; obtain ⟨b34_, m35_, rfl, h⟩ := h
    replace h := dList_ok h; obtain ⟨q7, rfl, h⟩ := h
    replace h := dEnd_ok h; obtain ⟨rfl, h⟩ := h
    exact ⟨(q0, q1, q2, q3, q4, q5, q6, q7), rfl, h⟩
def H5_2 : LH where
  keep := [(3, .pc [.own .int, .own .int, .own .int, .own .bool, .own .int]), (4, .own .int), (5, .own .bool), (7, .x)]
  S := Int × List Int × List Bool × List Int × List Int × List Int × List Bool × List Int
  enc := fun s => ([.ptr 0 0, .sl 1, .sl 2, .int .i64 s.1], [⟨true, .cells [.sl 3, .sl 4, .sl 5, .sl 6, .sl 7]⟩, ⟨true, .list .int s.2.1⟩, ⟨true, .list .bool s.2.2.1⟩, ⟨true, .list .int s.2.2.2.1⟩, ⟨true, .list .int s.2.2.2.2.1⟩, ⟨true, .list .int s.2.2.2.2.2.1⟩, ⟨true, .list .bool s.2.2.2.2.2.2.1⟩, ⟨true, .list .int s.2.2.2.2.2.2.2⟩])
  dec := fun vs tm K => dCons vs fun a1_ r2_ => dPtr 0 a1_ <| dCons r2_ fun a3_ r4_ => dSl 1 a3_ <| dCons r4_ fun a5_ r6_ => dSl 2 a5_ <| dCons r6_ fun a7_ r8_ => dInt .i64 a7_ fun q0 => dNil r8_ <| dBlk true tm fun b9_ m10_ => dCells b9_ fun c11_ => dCons c11_ fun a12_ r13_ => dSl 3 a12_ <| dCons r13_ fun a14_ r15_ => dSl 4 a14_ <| dCons r15_ fun a16_ r17_ => dSl 5 a16_ <| dCons r17_ fun a18_ r19_ => dSl 6 a18_ <| dCons r19_ fun a20_ r21_ => dSl 7 a20_ <| dNil r21_ <| dBlk true m10_ fun b22_ m23_ => dList .int b22_ fun q1 => dBlk true m23_ fun b24_ m25_ => dList .bool b24_ fun q2 => dBlk true m25_ fun b26_ m27_ => dList .int b26_ fun q3 => dBlk true m27_ fun b28_ m29_ => dList .int b28_ fun q4 => dBlk true m29_ fun b30_ m31_ => dList .int b30_ fun q5 => dBlk true m31_ fun b32_ m33_ => dList .bool b32_ fun q6 => dBlk true m33_ fun b34_ m35_ => dList .int b34_ fun q7 => dEnd m35_ <| K (q0, q1, q2, q3, q4, q5, q6, q7)
  law := by
    intro vs tm K h
    replace h := dCons_ok h; obtain ⟨a1_, r2_, rfl, h⟩ := h
    replace h := dPtr_ok h; obtain ⟨rfl, h⟩ := h
    replace h := dCons_ok h; obtain ⟨a3_, r4_, rfl, h⟩ := h
    replace h := dSl_ok h; obtain ⟨rfl, h⟩ := h
    replace h := dCons_ok h; obtain ⟨a5_, r6_, rfl, h⟩ := h
    replace h := dSl_ok h; obtain ⟨rfl, h⟩ := h
    replace h := dCons_ok h; obtain ⟨a7_, r8_, rfl, h⟩ := h
    replace h := dInt_ok h; obtain ⟨q0, rfl, h⟩ := h
    replace h := dNil_ok h; obtain ⟨rfl, h⟩ := h
    replace h := dBlk_ok h; obtain ⟨b9_, m10_, rfl, h⟩ := h
    replace h := dCells_ok h; obtain ⟨c11_, rfl, h⟩ := h
    replace h := dCons_ok h; obtain ⟨a12_, r13_, rfl, h⟩ := h
    replace h := dSl_ok h; obtain ⟨rfl, h⟩ := h
    replace h := dCons_ok h; obtain ⟨a14_, r15_, rfl, h⟩ := h
    replace h := dSl_ok h; obtain ⟨rfl, h⟩ := h
    replace h := dCons_ok h; obtain ⟨a16_, r17_, rfl, h⟩ := h
    replace h := dSl_ok h; obtain ⟨rfl, h⟩ := h
    replace h := dCons_ok h; obtain ⟨a18_, r19_, rfl, h⟩ := h
    replace h := dSl_ok h; obtain ⟨rfl, h⟩ := h
    replace h := dCons_ok h; obtain ⟨a20_, r21_, rfl, h⟩ := h
    replace h := dSl_ok h; obtain ⟨rfl, h⟩ := h
    replace h := dNil_ok h; obtain ⟨rfl, h⟩ := h
    replace h := dBlk_ok h; obtain ⟨b22_, m23_, rfl, h⟩ := h
    replace h := dList_ok h; obtain ⟨q1, rfl, h⟩ := h
    replace h := dBlk_ok h; obtain ⟨b24_, m25_, rfl, h⟩ := h
    replace h := dList_ok h; obtain ⟨q2, rfl, h⟩ := h
    replace h := dBlk_ok h; obtain ⟨b26_, m27_, rfl, h⟩ := h
    replace h := dList_ok h; obtain ⟨q3, rfl, h⟩ := h
    replace h := dBlk_ok h; obtain ⟨b28_, m29_, rfl, h⟩ := h
    replace h := dList_ok h; obtain ⟨q4, rfl, h⟩ := h
    replace h := dBlk_ok h; obtain ⟨b30_, m31_, rfl, h⟩ := h
    replace h := dList_ok h; obtain ⟨q5, rfl, h⟩ := h
    replace h := dBlk_ok h; obtain ⟨b32_, m33_, rfl, h⟩ := h
    replace h := dList_ok h; obtain ⟨q6, rfl, h⟩ := h
    replace h := dBlk_ok h; obtain ⟨b34_, m35_, rfl, h⟩ := h
    replace h := dList_ok h; obtain ⟨q7, rfl, h⟩ := h
    replace h := dEnd_ok h; obtain ⟨rfl, h⟩ := h
    exact ⟨(q0, q1, q2, q3, q4, q5, q6, q7), rfl, h⟩
def H5 : List (Nat × LH) := [(0, H5_0), (2, H5_2)]
def W5 : List (Nat × List (Nat × List Nat)) := []
def Γ5 : List (Nat × Con) := [(43, useC [.pure .byte] G43), (44, useC [.ag [.pure .int, .pure .int, .pure .int, .pure .bool, .pure .int]] G44), (45, useC [.ag [.pure .int, .pure .int, .pure .int, .pure .bool, .pure .int]] G45), (32, useC [.pure .int, .pure .int] G32)]
theorem e5 (p1 : List Int) (K : TV → TMem → Prop) : TW PP 98 Γ5 H5 W5 (List.length ([] : TMem)) (bodyOf Try.f5) (endT PP 98 [.tmp 2] [.bl] [] (List.length ([] : TMem)) K) (argsF [.pl .byte p1]) [] =
    Ml_FnKeptClosed p1 (fun r1 => K (.bool r1) []) := by kernel_rfl
theorem s5 : CSound PP 5 G5 := by
  intro args K c h fl A aargs hA hN R hl
  unfold G5 at h
  generalize ht : c.tm = tm at h
  replace h := dCons_ok h; obtain ⟨a1_, r2_, rfl, h⟩ := h
  replace h := dPl_ok h; obtain ⟨p1, rfl, h⟩ := h
  replace h := dNil_ok h; obtain ⟨rfl, h⟩ := h
  replace h := dEnd_ok h; obtain ⟨rfl, h⟩ := h
  refine fun_ok (nt := 98) (x := bodyOf Try.f5) (Γ := Γ5) (H := H5) (WW := W5) (rs := [.tmp 2]) (shs := [.bl]) (cons := []) mixed Try.func5 (by decide) (by kernel_rfl) Try.ntmps5 Try.results5 (.cons (useC_ok s43) (.cons (useC_ok s44) (.cons (useC_ok s45) (.cons (useC_ok s32) (GSound.nil))))) ?_ hA hN R hl
  rw [ht, e5 p1 K]
  exact h
end Go.Ab
