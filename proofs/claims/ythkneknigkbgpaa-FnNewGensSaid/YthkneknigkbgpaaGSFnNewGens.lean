/-
  What is proved here: that the typed models of functions of the translated program are sound.
-/
import Derived.Test.YthkneknigkbgpaaGM
import Derived.Test.YthkneknigkbgpaaProg
import Derived.KernelRfl
namespace Go.Ab
set_option linter.unusedVariables false
open Go.Proofs
noncomputable abbrev PP : Program := Try.prog
theorem mixed : PP.follows .mixedOrders = true := by kernel_rfl
/-! spec.l13Open -/
def G93 : Con := fun args tm K => dCons args fun a1_ r2_ => dPl .byte a1_ fun p1 => dNil r2_ <| dEnd tm <| Ms_l13Open p1 (fun r1 r2 => K (.ptr 0 0) [⟨true, .cells [.pl .byte r1, .int .i64 r2]⟩])
def H93 : List (Nat × LH) := []
def W93 : List (Nat × List (Nat × List Nat)) := []
def Γ93 : List (Nat × Con) := []
theorem e93 (p1 : List Int) (K : TV → TMem → Prop) : TW PP 11 Γ93 H93 W93 (List.length ([] : TMem)) (bodyOf Try.f93) (endT PP 11 [.tmp 2] [.pc [.pure .byte, .x]] [] (List.length ([] : TMem)) K) (argsF [.pl .byte p1]) [] =
    Ms_l13Open p1 (fun r1 r2 => K (.ptr 0 0) [⟨true, .cells [.pl .byte r1, .int .i64 r2]⟩]) := by kernel_rfl
theorem s93 : CSound PP 93 G93 := by
  intro args K c h fl A aargs hA hN R hl
  unfold G93 at h
  generalize ht : c.tm = tm at h
  replace h := dCons_ok h; obtain ⟨a1_, r2_, rfl, h⟩ := h
  replace h := dPl_ok h; obtain ⟨p1, rfl, h⟩ := h
  replace h := dNil_ok h; obtain ⟨rfl, h⟩ := h
  replace h := dEnd_ok h; obtain ⟨rfl, h⟩ := h
  refine fun_ok (nt := 11) (x := bodyOf Try.f93) (Γ := Γ93) (H := H93) (WW := W93) (rs := [.tmp 2]) (shs := [.pc [.pure .byte, .x]]) (cons := []) mixed Try.func93 (by decide) (by kernel_rfl) Try.ntmps93 Try.results93 (GSound.nil) ?_ hA hN R hl
  rw [ht, e93 p1 K]
  exact h
/-! (*spec.l13Rd).pick -/
def G112 : Con := fun args tm K => dCons args fun a1_ r2_ => dPtr 0 a1_ <| dCons r2_ fun a3_ r4_ => dInt .i64 a3_ fun p1 => dNil r4_ <| dBlk true tm fun b5_ m6_ => dCells b5_ fun c7_ => dCons c7_ fun a8_ r9_ => dPl .byte a8_ fun p2 => dCons r9_ fun a10_ r11_ => dInt .i64 a10_ fun p3 => dNil r11_ <| dEnd m6_ <| Ms_l13Rd_pick p1 p2 p3 (fun r1 r2 => K (.int .i64 r1) [⟨true, .cells [.pl .byte p2, .int .i64 r2]⟩])
def H112 : List (Nat × LH) := []
def W112 : List (Nat × List (Nat × List Nat)) := []
def Γ112 : List (Nat × Con) := []
theorem e112 (p1 : Int) (p2 : List Int) (p3 : Int) (K : TV → TMem → Prop) : TW PP 99 Γ112 H112 W112 (List.length ([⟨true, .cells [.pl .byte p2, .int .i64 p3]⟩] : TMem)) (bodyOf Try.f112) (endT PP 99 [.tmp 4] [.x] [] (List.length ([⟨true, .cells [.pl .byte p2, .int .i64 p3]⟩] : TMem)) K) (argsF [.ptr 0 0, .int .i64 p1]) [⟨true, .cells [.pl .byte p2, .int .i64 p3]⟩] =
    Ms_l13Rd_pick p1 p2 p3 (fun r1 r2 => K (.int .i64 r1) [⟨true, .cells [.pl .byte p2, .int .i64 r2]⟩]) := by kernel_rfl
theorem s112 : CSound PP 112 G112 := by
  intro args K c h fl A aargs hA hN R hl
  unfold G112 at h
  generalize ht : c.tm = tm at h
  replace h := dCons_ok h; obtain ⟨a1_, r2_, rfl, h⟩ := h
  replace h := dPtr_ok h; obtain ⟨rfl, h⟩ := h
  replace h := dCons_ok h; obtain ⟨a3_, r4_, rfl, h⟩ := h
  replace h := dInt_ok h; obtain ⟨p1, rfl, h⟩ := h
  replace h := dNil_ok h; obtain ⟨rfl, h⟩ := h
  replace h := dBlk_ok h; obtain ⟨b5_, m6_, rfl, h⟩ := h
  replace h := dCells_ok h; obtain ⟨c7_, rfl, h⟩ := h
  replace h := dCons_ok h; obtain ⟨a8_, r9_, rfl, h⟩ := h
  replace h := dPl_ok h; obtain ⟨p2, rfl, h⟩ := h
  replace h := dCons_ok h; obtain ⟨a10_, r11_, rfl, h⟩ := h
  replace h := dInt_ok h; obtain ⟨p3, rfl, h⟩ := h
  replace h := dNil_ok h; obtain ⟨rfl, h⟩ := h
  replace h := dEnd_ok h; obtain ⟨rfl, h⟩ := h
  refine fun_ok (nt := 99) (x := bodyOf Try.f112) (Γ := Γ112) (H := H112) (WW := W112) (rs := [.tmp 4]) (shs := [.x]) (cons := []) mixed Try.func112 (by decide) (by kernel_rfl) Try.ntmps112 Try.results112 (GSound.nil) ?_ hA hN R hl
  rw [ht, e112 p1 p2 p3 K]
  exact h
/-! (*spec.l13Rd).num -/
def G94 : Con := fun args tm K => dCons args fun a1_ r2_ => dPtr 0 a1_ <| dCons r2_ fun a3_ r4_ => dPl .int a3_ fun p1 => dNil r4_ <| dBlk true tm fun b5_ m6_ => dCells b5_ fun c7_ => dCons c7_ fun a8_ r9_ => dPl .byte a8_ fun p2 => dCons r9_ fun a10_ r11_ => dInt .i64 a10_ fun p3 => dNil r11_ <| dEnd m6_ <| Ms_l13Rd_num p1 p2 p3 (fun r1 r2 => K (.int .i64 r1) [⟨true, .cells [.pl .byte p2, .int .i64 r2]⟩])
def H94 : List (Nat × LH) := []
def W94 : List (Nat × List (Nat × List Nat)) := []
def Γ94 : List (Nat × Con) := [(112, useC [.pc [.pure .byte, .x], .x] G112)]
theorem e94 (p1 : List Int) (p2 : List Int) (p3 : Int) (K : TV → TMem → Prop) : TW PP 12 Γ94 H94 W94 (List.length ([⟨true, .cells [.pl .byte p2, .int .i64 p3]⟩] : TMem)) (bodyOf Try.f94) (endT PP 12 [.tmp 4] [.x] [] (List.length ([⟨true, .cells [.pl .byte p2, .int .i64 p3]⟩] : TMem)) K) (argsF [.ptr 0 0, .pl .int p1]) [⟨true, .cells [.pl .byte p2, .int .i64 p3]⟩] =
    Ms_l13Rd_num p1 p2 p3 (fun r1 r2 => K (.int .i64 r1) [⟨true, .cells [.pl .byte p2, .int .i64 r2]⟩]) := by kernel_rfl
theorem s94 : CSound PP 94 G94 := by
  intro args K c h fl A aargs hA hN R hl
  unfold G94 at h
  generalize ht : c.tm = tm at h
  replace h := dCons_ok h; obtain ⟨a1_, r2_, rfl, h⟩ := h
  replace h := dPtr_ok h; obtain ⟨rfl, h⟩ := h
  replace h := dCons_ok h; obtain ⟨a3_, r4_, rfl, h⟩ := h
  replace h := dPl_ok h; obtain ⟨p1, rfl, h⟩ := h
  replace h := dNil_ok h; obtain ⟨rfl, h⟩ := h
  replace h := dBlk_ok h; obtain ⟨b5_, m6_, rfl, h⟩ := h
  replace h := dCells_ok h; obtain ⟨c7_, rfl, h⟩ := h
  replace h := dCons_ok h; obtain ⟨a8_, r9_, rfl, h⟩ := h
  replace h := dPl_ok h; obtain ⟨p2, rfl, h⟩ := h
  replace h := dCons_ok h; obtain ⟨a10_, r11_, rfl, h⟩ := h
  replace h := dInt_ok h; obtain ⟨p3, rfl, h⟩ := h
  replace h := dNil_ok h; obtain ⟨rfl, h⟩ := h
  replace h := dEnd_ok h; obtain ⟨rfl, h⟩ := h
  refine fun_ok (nt := 12) (x := bodyOf Try.f94) (Γ := Γ94) (H := H94) (WW := W94) (rs := [.tmp 4]) (shs := [.x]) (cons := []) mixed Try.func94 (by decide) (by kernel_rfl) Try.ntmps94 Try.results94 (.cons (useC_ok s112) (GSound.nil)) ?_ hA hN R hl
  rw [ht, e94 p1 p2 p3 K]
  exact h
/-! spec.l1Many -/
def G116 : Con := fun args tm K => dCons args fun a1_ r2_ => dInt .i64 a1_ fun p1 => dNil r2_ <| dEnd tm <| Ms_l1Many p1 (fun r1 => K (.sl 0) [⟨true, .list .int r1⟩])
def H116_0 : LH where
  keep := [(0, .x), (3, .own .int), (4, .x)]
  S := Int × Int × List Int
  enc := fun s => ([.int .i64 s.1, .sl 0, .int .i64 s.2.1], [⟨true, .list .int s.2.2⟩])
  dec := fun vs tm K => dCons vs fun a1_ r2_ => dInt .i64 a1_ fun q0 => dCons r2_ fun a3_ r4_ => dSl 0 a3_ <| dCons r4_ fun a5_ r6_ => dInt .i64 a5_ fun q1 => dNil r6_ <| dBlk true tm fun b7_ m8_ => dList .int b7_ fun q2 => dEnd m8_ <| K (q0, q1, q2)
  law := by
    intro vs tm K h
    replace h := dCons_ok h; obtain ⟨a1_, r2_, rfl, h⟩ := h
    replace h := dInt_ok h; obtain ⟨q0, rfl, h⟩ := h
    replace h := dCons_ok h; obtain ⟨a3_, r4_, rfl, h⟩ := h
    replace h := dSl_ok h; obtain ⟨rfl, h⟩ := h
    replace h := dCons_ok h; obtain ⟨a5_, r6_, rfl, h⟩ := h
    replace h := dInt_ok h; obtain ⟨q1, rfl, h⟩ := h
    replace h := dNil_ok h; obtain ⟨rfl, h⟩ := h
    replace h := dBlk_ok h; obtain ⟨b7_, m8_, rfl, h⟩ := h
    replace h := dList_ok h; obtain ⟨q2, rfl, h⟩ := h
    replace h := dEnd_ok h; obtain ⟨rfl, h⟩ := h
    exact ⟨(q0, q1, q2), rfl, h⟩
def H116 : List (Nat × LH) := [(0, H116_0)]
def W116 : List (Nat × List (Nat × List Nat)) := []
def Γ116 : List (Nat × Con) := []
theorem e116 (p1 : Int) (K : TV → TMem → Prop) : TW PP 15 Γ116 H116 W116 (List.length ([] : TMem)) (bodyOf Try.f116) (endT PP 15 [.tmp 2] [.own .int] [] (List.length ([] : TMem)) K) (argsF [.int .i64 p1]) [] =
    Ms_l1Many p1 (fun r1 => K (.sl 0) [⟨true, .list .int r1⟩]) := by kernel_rfl
theorem s116 : CSound PP 116 G116 := by
  intro args K c h fl A aargs hA hN R hl
  unfold G116 at h
  generalize ht : c.tm = tm at h
  replace h := dCons_ok h; obtain ⟨a1_, r2_, rfl, h⟩ := h
  replace h := dInt_ok h; obtain ⟨p1, rfl, h⟩ := h
  replace h := dNil_ok h; obtain ⟨rfl, h⟩ := h
  replace h := dEnd_ok h; obtain ⟨rfl, h⟩ := h
  refine fun_ok (nt := 15) (x := bodyOf Try.f116) (Γ := Γ116) (H := H116) (WW := W116) (rs := [.tmp 2]) (shs := [.own .int]) (cons := []) mixed Try.func116 (by decide) (by kernel_rfl) Try.ntmps116 Try.results116 (GSound.nil) ?_ hA hN R hl
  rw [ht, e116 p1 K]
  exact h
/-! spec.NewHeap -/
def G138 : Con := fun args tm K => dCons args fun a1_ r2_ => dInt .i64 a1_ fun p1 => dCons r2_ fun a3_ r4_ => dInt .i64 a3_ fun p2 => dNil r4_ <| dEnd tm <| Ms_NewHeap p1 p2 (fun r1 r2 r3 r4 => K (.tup [.agg [.sl 0, .sl 1, .sl 2], .bool r1]) [⟨true, .list .int r2⟩, ⟨true, .list .int r3⟩, ⟨true, .list .int r4⟩])
def H138 : List (Nat × LH) := []
def W138 : List (Nat × List (Nat × List Nat)) := []
def Γ138 : List (Nat × Con) := [(116, useC [.x] G116)]
theorem e138 (p1 : Int) (p2 : Int) (K : TV → TMem → Prop) : TW PP 28 Γ138 H138 W138 (List.length ([] : TMem)) (bodyOf Try.f138) (endT PP 28 [.cell 4 25, .tmp 5] [.ag [.own .int, .own .int, .own .int], .bl] [] (List.length ([] : TMem)) K) (argsF [.int .i64 p1, .int .i64 p2]) [] =
    Ms_NewHeap p1 p2 (fun r1 r2 r3 r4 => K (.tup [.agg [.sl 0, .sl 1, .sl 2], .bool r1]) [⟨true, .list .int r2⟩, ⟨true, .list .int r3⟩, ⟨true, .list .int r4⟩]) := by kernel_rfl
theorem s138 : CSound PP 138 G138 := by
  intro args K c h fl A aargs hA hN R hl
  unfold G138 at h
  generalize ht : c.tm = tm at h
  replace h := dCons_ok h; obtain ⟨a1_, r2_, rfl, h⟩ := h
  replace h := dInt_ok h; obtain ⟨p1, rfl, h⟩ := h
  replace h := dCons_ok h; obtain ⟨a3_, r4_, rfl, h⟩ := h
  replace h := dInt_ok h; obtain ⟨p2, rfl, h⟩ := h
  replace h := dNil_ok h; obtain ⟨rfl, h⟩ := h
  replace h := dEnd_ok h; obtain ⟨rfl, h⟩ := h
  refine fun_ok (nt := 28) (x := bodyOf Try.f138) (Γ := Γ138) (H := H138) (WW := W138) (rs := [.cell 4 25, .tmp 5]) (shs := [.ag [.own .int, .own .int, .own .int], .bl]) (cons := []) mixed Try.func138 (by decide) (by kernel_rfl) Try.ntmps138 Try.results138 (.cons (useC_ok s116) (GSound.nil)) ?_ hA hN R hl
  rw [ht, e138 p1 p2 K]
  exact h
/-! spec.l1Draw -/
def G110 : Con := fun args tm K => dCons args fun a1_ r2_ => dPtr 0 a1_ <| dNil r2_ <| dBlk true tm fun b3_ m4_ => dCells b3_ fun c5_ => dCons c5_ fun a6_ r7_ => dPl .byte a6_ fun p1 => dCons r7_ fun a8_ r9_ => dInt .i64 a8_ fun p2 => dNil r9_ <| dEnd m4_ <| Ms_l1Draw p1 p2 (fun r1 r2 r3 r4 r5 => K (.agg [.sl 1, .sl 2, .sl 3]) [⟨true, .cells [.pl .byte r1, .int .i64 r2]⟩, ⟨true, .list .int r3⟩, ⟨true, .list .int r4⟩, ⟨true, .list .int r5⟩])
def H110_0 : LH where
  keep := [(0, .pc [.pure .byte, .x]), (2, .pc [.own .int, .own .int, .own .int]), (3, .x), (4, .pc [.own .int, .own .int, .own .int]), (6, .x)]
  S := Int × Int × List Int × Int × List Int × List Int × List Int × List Int × List Int × List Int
  enc := fun s => ([.ptr 0 0, .ptr 1 0, .int .i64 s.1, .ptr 2 0, .int .i64 s.2.1], [⟨true, .cells [.pl .byte s.2.2.1, .int .i64 s.2.2.2.1]⟩, ⟨true, .cells [.sl 3, .sl 4, .sl 5]⟩, ⟨true, .cells [.sl 6, .sl 7, .sl 8]⟩, ⟨true, .list .int s.2.2.2.2.1⟩, ⟨true, .list .int s.2.2.2.2.2.1⟩, ⟨true, .list .int s.2.2.2.2.2.2.1⟩, ⟨true, .list .int s.2.2.2.2.2.2.2.1⟩, ⟨true, .list .int s.2.2.2.2.2.2.2.2.1⟩, ⟨true, .list .int s.2.2.2.2.2.2.2.2.2⟩])
  dec := fun vs tm K => dCons vs fun a1_ r2_ => dPtr 0 a1_ <| dCons r2_ fun a3_ r4_ => dPtr 1 a3_ <| dCons r4_ fun a5_ r6_ => dInt .i64 a5_ fun q0 => dCons r6_ fun a7_ r8_ => dPtr 2 a7_ <| dCons r8_ fun a9_ r10_ => dInt .i64 a9_ fun q1 => dNil r10_ <| dBlk true tm fun b11_ m12_ => dCells b11_ fun c13_ => dCons c13_ fun a14_ r15_ => dPl .byte a14_ fun q2 => dCons r15_ fun a16_ r17_ => dInt .i64 a16_ fun q3 => dNil r17_ <| dBlk true m12_ fun b18_ m19_ => dCells b18_ fun c20_ => dCons c20_ fun a21_ r22_ => dSl 3 a21_ <| dCons r22_ fun a23_ r24_ => dSl 4 a23_ <| dCons r24_ fun a25_ r26_ => dSl 5 a25_ <| dNil r26_ <| dBlk true m19_ fun b27_ m28_ => dCells b27_ fun c29_ => dCons c29_ fun a30_ r31_ => dSl 6 a30_ <| dCons r31_ fun a32_ r33_ => dSl 7 a32_ <| dCons r33_ fun a34_ r35_ => dSl 8 a34_ <| dNil r35_ <| dBlk true m28_ fun b36_ m37_ => dList .int b36_ fun q4 => dBlk true m37_ fun b38_ m39_ => dList .int b38_ fun q5 => dBlk true m39_ fun b40_ m41_ => dList .int b40_ fun q6 => dBlk true m41_ fun b42_ m43_ => dList .int b42_ fun q7 => dBlk true m43_ fun b44_ m45_ => dList .int b44_ fun q8 => dBlk true m45_ fun b46_ m47_ => dList .int b46_ fun q9 => dEnd m47_ <| K (q0, q1, q2, q3, q4, q5, q6, q7, q8, q9)
  law := by
    intro vs tm K h
    replace h := dCons_ok h; obtain ⟨a1_, r2_, rfl, h⟩ := h
    replace h := dPtr_ok h; obtain ⟨rfl, h⟩ := h
    replace h := dCons_ok h; obtain ⟨a3_, r4_, rfl, h⟩ := h
    replace h := dPtr_ok h; obtain ⟨rfl, h⟩ := h
    replace h := dCons_ok h; obtain ⟨a5_, r6_, rfl, h⟩ := h
    replace h := dInt_ok h; obtain ⟨q0, rfl, h⟩ := h
    replace h := dCons_ok h; obtain ⟨a7_, r8_, rfl, h⟩ := h
    replace h := dPtr_ok h; obtain ⟨rfl, h⟩ := h
    replace h := dCons_ok h; obtain ⟨a9_, r10_, rfl, h⟩ := h
    replace h := dInt_ok h; obtain ⟨q1, rfl, h⟩ := h
    replace h := dNil_ok h; obtain ⟨rfl, h⟩ := h
    replace h := dBlk_ok h; obtain ⟨b11_, m12_, rfl, h⟩ := h
    replace h := dCells_ok h; obtain ⟨c13_, rfl, h⟩ := h
    replace h := dCons_ok h; obtain ⟨a14_, r15_, rfl, h⟩ := h
    replace h := dPl_ok h; obtain ⟨q2, rfl, h⟩ := h
    replace h := dCons_ok h; obtain ⟨a16_, r17_, rfl, h⟩ := h
    replace h := dInt_ok h; obtain ⟨q3, rfl, h⟩ := h
    replace h := dNil_ok h; obtain ⟨rfl, h⟩ := h
    replace h := dBlk_ok h; obtain ⟨b18_, m19_, rfl, h⟩ := h
    replace h := dCells_ok h; obtain ⟨c20_, rfl, h⟩ := h
    replace h := dCons_ok h; obtain ⟨a21_, r22_, rfl, h⟩ := h
    replace h := dSl_ok h; obtain ⟨rfl, h⟩ := h
    replace h := dCons_ok h; obtain ⟨a23_, r24_, rfl, h⟩ := h
    replace h := dSl_ok h; obtain ⟨rfl, h⟩ := h
    replace h := dCons_ok h; obtain ⟨a25_, r26_, rfl, h⟩ := h
    replace h := dSl_ok h; obtain ⟨rfl, h⟩ := h
    replace h := dNil_ok h; obtain ⟨rfl, h⟩ := h
    replace h := dBlk_ok h; obtain ⟨b27_, m28_, rfl, h⟩ := h
    replace h := dCells_ok h; obtain ⟨c29_, rfl, h⟩ := h
    replace h := dCons_ok h; obtain ⟨a30_, r31_, rfl, h⟩ := h
    replace h := dSl_ok h; obtain ⟨rfl, h⟩ := h
    replace h := dCons_ok h; obtain ⟨a32_, r33_, rfl, h⟩ := h
    replace h := dSl_ok h; obtain ⟨rfl, h⟩ := h
    replace h := dCons_ok h; obtain ⟨a34_, r35_, rfl, h⟩ := h
    replace h := dSl_ok h; obtain ⟨rfl, h⟩ := h
    replace h := dNil_ok h; obtain ⟨rfl, h⟩ := h
    replace h := dBlk_ok h; obtain ⟨b36_, m37_, rfl, h⟩ := h
    replace h := dList_ok h; obtain ⟨q4, rfl, h⟩ := h
    replace h := dBlk_ok h; obtain ⟨b38_, m39_, rfl, h⟩ := h
    replace h := dList_ok h; obtain ⟨q5, rfl, h⟩ := h
    replace h := dBlk_ok h; obtain ⟨b40_, m41_, rfl, h⟩ := h
    replace h := dList_ok h; obtain ⟨q6, rfl, h⟩ := h
    replace h := dBlk_ok h; obtain ⟨b42_, m43_, rfl, h⟩ := h
    replace h := dList_ok h; obtain ⟨q7, rfl, h⟩ := h
    replace h := dBlk_ok h; obtain ⟨b44_, m45_, rfl, h⟩ := h
    replace h := dList_ok h; obtain ⟨q8, rfl, h⟩ := h
    replace h := dBlk_ok h; obtain ⟨b46_, m47_, rfl, h⟩ := h
    replace h := dList_ok h; obtain ⟨q9, rfl, h⟩ := h
    replace h := dEnd_ok h; obtain ⟨rfl, h⟩ := h
    exact ⟨(q0, q1, q2, q3, q4, q5, q6, q7, q8, q9), rfl, h⟩
def H110_2 : LH where
  keep := [(0, .pc [.pure .byte, .x]), (2, .pc [.own .int, .own .int, .own .int]), (3, .x), (4, .pc [.own .int, .own .int, .own .int]), (7, .x)]
  S := Int × Int × List Int × Int × List Int × List Int × List Int × List Int × List Int × List Int
  enc := fun s => ([.ptr 0 0, .ptr 1 0, .int .i64 s.1, .ptr 2 0, .int .i64 s.2.1], [⟨true, .cells [.pl .byte s.2.2.1, .int .i64 s.2.2.2.1]⟩, ⟨true, .cells [.sl 3, .sl 4, .sl 5]⟩, ⟨true, .cells [.sl 6, .sl 7, .sl 8]⟩, ⟨true, .list .int s.2.2.2.2.1⟩, ⟨true, .list .int s.2.2.2.2.2.1⟩, ⟨true, .list .int s.2.2.2.2.2.2.1⟩, ⟨true, .list .int s.2.2.2.2.2.2.2.1⟩, ⟨true, .list .int s.2.2.2.2.2.2.2.2.1⟩, ⟨true, .list .int s.2.2.2.2.2.2.2.2.2⟩])
  dec := fun vs tm K => dCons vs fun a1_ r2_ => dPtr 0 a1_ <| dCons r2_ fun a3_ r4_ => dPtr 1 a3_ <| dCons r4_ fun a5_ r6_ => dInt .i64 a5_ fun q0 => dCons r6_ fun a7_ r8_ => dPtr 2 a7_ <| dCons r8_ fun a9_ r10_ => dInt .i64 a9_ fun q1 => dNil r10_ <| dBlk true tm fun b11_ m12_ => dCells b11_ fun c13_ => dCons c13_ fun a14_ r15_ => dPl .byte a14_ fun q2 => dCons r15_ fun a16_ r17_ => dInt .i64 a16_ fun q3 => dNil r17_ <| dBlk true m12_ fun b18_ m19_ => dCells b18_ fun c20_ => dCons c20_ fun a21_ r22_ => dSl 3 a21_ <| dCons r22_ fun a23_ r24_ => dSl 4 a23_ <| dCons r24_ fun a25_ r26_ => dSl 5 a25_ <| dNil r26_ <| dBlk true m19_ fun b27_ m28_ => dCells b27_ fun c29_ => dCons c29_ fun a30_ r31_ => dSl 6 a30_ <| dCons r31_ fun a32_ r33_ => dSl 7 a32_ <| dCons r33_ fun a34_ r35_ => dSl 8 a34_ <| dNil r35_ <| dBlk true m28_ fun b36_ m37_ => dList .int b36_ fun q4 => dBlk true m37_ fun b38_ m39_ => dList .int b38_ fun q5 => dBlk true m39_ fun b40_ m41_ => dList .int b40_ fun q6 => dBlk true m41_ fun b42_ m43_ => dList .int b42_ fun q7 => dBlk true m43_ fun b44_ m45_ => dList .int b44_ fun q8 => dBlk true m45_ fun b46_ m47_ => dList .int b46_ fun q9 => dEnd m47_ <| K (q0, q1, q2, q3, q4, q5, q6, q7, q8, q9)
  law := by
    intro vs tm K h
    replace h := dCons_ok h; obtain ⟨a1_, r2_, rfl, h⟩ := h
    replace h := dPtr_ok h; obtain ⟨rfl, h⟩ := h
    replace h := dCons_ok h; obtain ⟨a3_, r4_, rfl, h⟩ := h
    replace h := dPtr_ok h; obtain ⟨rfl, h⟩ := h
    replace h := dCons_ok h; obtain ⟨a5_, r6_, rfl, h⟩ := h
    replace h := dInt_ok h; obtain ⟨q0, rfl, h⟩ := h
    replace h := dCons_ok h; obtain ⟨a7_, r8_, rfl, h⟩ := h
    replace h := dPtr_ok h; obtain ⟨rfl, h⟩ := h
    replace h := dCons_ok h; obtain ⟨a9_, r10_, rfl, h⟩ := h
    replace h := dInt_ok h; obtain ⟨q1, rfl, h⟩ := h
    replace h := dNil_ok h; obtain ⟨rfl, h⟩ := h
    replace h := dBlk_ok h; obtain ⟨b11_, m12_, rfl, h⟩ := h
    replace h := dCells_ok h; obtain ⟨c13_, rfl, h⟩ := h
    replace h := dCons_ok h; obtain ⟨a14_, r15_, rfl, h⟩ := h
    replace h := dPl_ok h; obtain ⟨q2, rfl, h⟩ := h
    replace h := dCons_ok h; obtain ⟨a16_, r17_, rfl, h⟩ := h
    replace h := dInt_ok h; obtain ⟨q3, rfl, h⟩ := h
    replace h := dNil_ok h; obtain ⟨rfl, h⟩ := h
    replace h := dBlk_ok h; obtain ⟨b18_, m19_, rfl, h⟩ := h
    replace h := dCells_ok h; obtain ⟨c20_, rfl, h⟩ := h
    replace h := dCons_ok h; obtain ⟨a21_, r22_, rfl, h⟩ := h
    replace h := dSl_ok h; obtain ⟨rfl, h⟩ := h
    replace h := dCons_ok h; obtain ⟨a23_, r24_, rfl, h⟩ := h
    replace h := dSl_ok h; obtain ⟨rfl, h⟩ := h
    replace h := dCons_ok h; obtain ⟨a25_, r26_, rfl, h⟩ := h
    replace h := dSl_ok h; obtain ⟨rfl, h⟩ := h
    replace h := dNil_ok h; obtain ⟨rfl, h⟩ := h
    replace h := dBlk_ok h; obtain ⟨b27_, m28_, rfl, h⟩ := h
    replace h := dCells_ok h; obtain ⟨c29_, rfl, h⟩ := h
    replace h := dCons_ok h; obtain ⟨a30_, r31_, rfl, h⟩ := h
    replace h := dSl_ok h; obtain ⟨rfl, h⟩ := h
    replace h := dCons_ok h; obtain ⟨a32_, r33_, rfl, h⟩ := h
    replace h := dSl_ok h; obtain ⟨rfl, h⟩ := h
    replace h := dCons_ok h; obtain ⟨a34_, r35_, rfl, h⟩ := h
    replace h := dSl_ok h; obtain ⟨rfl, h⟩ := h
    replace h := dNil_ok h; obtain ⟨rfl, h⟩ := h
    replace h := dBlk_ok h; obtain ⟨b36_, m37_, rfl, h⟩ := h
    replace h := dList_ok h; obtain ⟨q4, rfl, h⟩ := h
    replace h := dBlk_ok h; obtain ⟨b38_, m39_, rfl, h⟩ := h
    replace h := dList_ok h; obtain ⟨q5, rfl, h⟩ := h
    replace h := dBlk_ok h; obtain ⟨b40_, m41_, rfl, h⟩ := h
    replace h := dList_ok h; obtain ⟨q6, rfl, h⟩ := h
    replace h := dBlk_ok h; obtain ⟨b42_, m43_, rfl, h⟩ := h
    replace h := dList_ok h; obtain ⟨q7, rfl, h⟩ := h
    replace h := dBlk_ok h; obtain ⟨b44_, m45_, rfl, h⟩ := h
    replace h := dList_ok h; obtain ⟨q8, rfl, h⟩ := h
    replace h := dBlk_ok h; obtain ⟨b46_, m47_, rfl, h⟩ := h
    replace h := dList_ok h; obtain ⟨q9, rfl, h⟩ := h
    replace h := dEnd_ok h; obtain ⟨rfl, h⟩ := h
    exact ⟨(q0, q1, q2, q3, q4, q5, q6, q7, q8, q9), rfl, h⟩
def H110 : List (Nat × LH) := [(0, H110_0), (2, H110_2)]
def W110 : List (Nat × List (Nat × List Nat)) := [(6, [(0, [6])]), (7, [(0, [6])]), (15, [(0, [6])])]
def Γ110 : List (Nat × Con) := [(94, useC [.pc [.pure .byte, .x], .pure .int] G94), (138, useC [.x, .x] G138), (112, useC [.pc [.pure .byte, .x], .x] G112)]
theorem e110 (p1 : List Int) (p2 : Int) (K : TV → TMem → Prop) : TW PP 80 Γ110 H110 W110 (List.length ([⟨true, .cells [.pl .byte p1, .int .i64 p2]⟩] : TMem)) (bodyOf Try.f110) (endT PP 80 [.cell 2 25] [.ag [.own .int, .own .int, .own .int]] [] (List.length ([⟨true, .cells [.pl .byte p1, .int .i64 p2]⟩] : TMem)) K) (argsF [.ptr 0 0]) [⟨true, .cells [.pl .byte p1, .int .i64 p2]⟩] =
    Ms_l1Draw p1 p2 (fun r1 r2 r3 r4 r5 => K (.agg [.sl 1, .sl 2, .sl 3]) [⟨true, .cells [.pl .byte r1, .int .i64 r2]⟩, ⟨true, .list .int r3⟩, ⟨true, .list .int r4⟩, ⟨true, .list .int r5⟩]) := by kernel_rfl
theorem s110 : CSound PP 110 G110 := by
  intro args K c h fl A aargs hA hN R hl
  unfold G110 at h
  generalize ht : c.tm = tm at h
  replace h := dCons_ok h; obtain ⟨a1_, r2_, rfl, h⟩ := h
  replace h := dPtr_ok h; obtain ⟨rfl, h⟩ := h
  replace h := dNil_ok h; obtain ⟨rfl, h⟩ := h
  replace h := dBlk_ok h; obtain ⟨b3_, m4_, rfl, h⟩ := h
  replace h := dCells_ok h; obtain ⟨c5_, rfl, h⟩ := h
  replace h := dCons_ok h; obtain ⟨a6_, r7_, rfl, h⟩ := h
  replace h := dPl_ok h; obtain ⟨p1, rfl, h⟩ := h
  replace h := dCons_ok h; obtain ⟨a8_, r9_, rfl, h⟩ := h
  replace h := dInt_ok h; obtain ⟨p2, rfl, h⟩ := h
  replace h := dNil_ok h; obtain ⟨rfl, h⟩ := h
  replace h := dEnd_ok h; obtain ⟨rfl, h⟩ := h
  refine fun_ok (nt := 80) (x := bodyOf Try.f110) (Γ := Γ110) (H := H110) (WW := W110) (rs := [.cell 2 25]) (shs := [.ag [.own .int, .own .int, .own .int]]) (cons := []) mixed Try.func110 (by decide) (by kernel_rfl) Try.ntmps110 Try.results110 (.cons (useC_ok s94) (.cons (useC_ok s138) (.cons (useC_ok s112) (GSound.nil)))) ?_ hA hN R hl
  rw [ht, e110 p1 p2 K]
  exact h
/-! spec.l1Copy -/
def G106 : Con := fun args tm K => dCons args fun a1_ r2_ => dAgg a1_ fun l3_ => dCons l3_ fun a4_ r5_ => dPl .int a4_ fun p1 => dCons r5_ fun a6_ r7_ => dPl .int a6_ fun p2 => dCons r7_ fun a8_ r9_ => dPl .int a8_ fun p3 => dNil r9_ <| dNil r2_ <| dEnd tm <| Ms_l1Copy p1 p2 p3 (K (.agg [.sl 0, .sl 1, .sl 2]) [⟨true, .list .int p1⟩, ⟨true, .list .int p2⟩, ⟨true, .list .int p3⟩])
def H106 : List (Nat × LH) := []
def W106 : List (Nat × List (Nat × List Nat)) := []
def Γ106 : List (Nat × Con) := []
theorem e106 (p1 : List Int) (p2 : List Int) (p3 : List Int) (K : TV → TMem → Prop) : TW PP 16 Γ106 H106 W106 (List.length ([] : TMem)) (bodyOf Try.f106) (endT PP 16 [.cell 2 25] [.ag [.own .int, .own .int, .own .int]] [] (List.length ([] : TMem)) K) (argsF [.agg [.pl .int p1, .pl .int p2, .pl .int p3]]) [] =
    Ms_l1Copy p1 p2 p3 (K (.agg [.sl 0, .sl 1, .sl 2]) [⟨true, .list .int p1⟩, ⟨true, .list .int p2⟩, ⟨true, .list .int p3⟩]) := by kernel_rfl
theorem s106 : CSound PP 106 G106 := by
  intro args K c h fl A aargs hA hN R hl
  unfold G106 at h
  generalize ht : c.tm = tm at h
  replace h := dCons_ok h; obtain ⟨a1_, r2_, rfl, h⟩ := h
  replace h := dAgg_ok h; obtain ⟨l3_, rfl, h⟩ := h
  replace h := dCons_ok h; obtain ⟨a4_, r5_, rfl, h⟩ := h
  replace h := dPl_ok h; obtain ⟨p1, rfl, h⟩ := h
  replace h := dCons_ok h; obtain ⟨a6_, r7_, rfl, h⟩ := h
  replace h := dPl_ok h; obtain ⟨p2, rfl, h⟩ := h
  replace h := dCons_ok h; obtain ⟨a8_, r9_, rfl, h⟩ := h
  replace h := dPl_ok h; obtain ⟨p3, rfl, h⟩ := h
  replace h := dNil_ok h; obtain ⟨rfl, h⟩ := h
  replace h := dNil_ok h; obtain ⟨rfl, h⟩ := h
  replace h := dEnd_ok h; obtain ⟨rfl, h⟩ := h
  refine fun_ok (nt := 16) (x := bodyOf Try.f106) (Γ := Γ106) (H := H106) (WW := W106) (rs := [.cell 2 25]) (shs := [.ag [.own .int, .own .int, .own .int]]) (cons := []) mixed Try.func106 (by decide) (by kernel_rfl) Try.ntmps106 Try.results106 (GSound.nil) ?_ hA hN R hl
  rw [ht, e106 p1 p2 p3 K]
  exact h
/-! spec.l1Wrong -/
def G125 : Con := fun args tm K => dCons args fun a1_ r2_ => dPtr 0 a1_ <| dCons r2_ fun a3_ r4_ => dAgg a3_ fun l5_ => dCons l5_ fun a6_ r7_ => dSl 1 a6_ <| dCons r7_ fun a8_ r9_ => dSl 2 a8_ <| dCons r9_ fun a10_ r11_ => dSl 3 a10_ <| dNil r11_ <| dNil r4_ <| dBlk true tm fun b12_ m13_ => dCells b12_ fun c14_ => dCons c14_ fun a15_ r16_ => dPl .byte a15_ fun p1 => dCons r16_ fun a17_ r18_ => dInt .i64 a17_ fun p2 => dNil r18_ <| dBlk false m13_ fun b19_ m20_ => dList .int b19_ fun p3 => dBlk false m20_ fun b21_ m22_ => dList .int b21_ fun p4 => dBlk false m22_ fun b23_ m24_ => dList .int b23_ fun p5 => dEnd m24_ <| Ms_l1Wrong p1 p2 p3 p4 p5 (fun r1 r2 r3 r4 => K (.agg [.sl 4, .sl 5, .sl 6]) [⟨true, .cells [.pl .byte p1, .int .i64 r1]⟩, ⟨false, .list .int p3⟩, ⟨false, .list .int p4⟩, ⟨false, .list .int p5⟩, ⟨true, .list .int r2⟩, ⟨true, .list .int r3⟩, ⟨true, .list .int r4⟩])
def H125 : List (Nat × LH) := []
def W125 : List (Nat × List (Nat × List Nat)) := [(4, [(0, [6, 9])]), (8, [(0, [4])])]
def Γ125 : List (Nat × Con) := [(106, useC [.ag [.pure .int, .pure .int, .pure .int]] G106), (112, useC [.pc [.pure .byte, .x], .x] G112), (94, useC [.pc [.pure .byte, .x], .pure .int] G94)]
theorem e125 (p1 : List Int) (p2 : Int) (p3 : List Int) (p4 : List Int) (p5 : List Int) (K : TV → TMem → Prop) : TW PP 45 Γ125 H125 W125 (List.length ([⟨true, .cells [.pl .byte p1, .int .i64 p2]⟩, ⟨false, .list .int p3⟩, ⟨false, .list .int p4⟩, ⟨false, .list .int p5⟩] : TMem)) (bodyOf Try.f125) (endT PP 45 [.cell 4 25] [.ag [.own .int, .own .int, .own .int]] [] (List.length ([⟨true, .cells [.pl .byte p1, .int .i64 p2]⟩, ⟨false, .list .int p3⟩, ⟨false, .list .int p4⟩, ⟨false, .list .int p5⟩] : TMem)) K) (argsF [.ptr 0 0, .agg [.sl 1, .sl 2, .sl 3]]) [⟨true, .cells [.pl .byte p1, .int .i64 p2]⟩, ⟨false, .list .int p3⟩, ⟨false, .list .int p4⟩, ⟨false, .list .int p5⟩] =
    Ms_l1Wrong p1 p2 p3 p4 p5 (fun r1 r2 r3 r4 => K (.agg [.sl 4, .sl 5, .sl 6]) [⟨true, .cells [.pl .byte p1, .int .i64 r1]⟩, ⟨false, .list .int p3⟩, ⟨false, .list .int p4⟩, ⟨false, .list .int p5⟩, ⟨true, .list .int r2⟩, ⟨true, .list .int r3⟩, ⟨true, .list .int r4⟩]) := by kernel_rfl
theorem s125 : CSound PP 125 G125 := by
  intro args K c h fl A aargs hA hN R hl
  unfold G125 at h
  generalize ht : c.tm = tm at h
  replace h := dCons_ok h; obtain ⟨a1_, r2_, rfl, h⟩ := h
  replace h := dPtr_ok h; obtain ⟨rfl, h⟩ := h
  replace h := dCons_ok h; obtain ⟨a3_, r4_, rfl, h⟩ := h
  replace h := dAgg_ok h; obtain ⟨l5_, rfl, h⟩ := h
  replace h := dCons_ok h; obtain ⟨a6_, r7_, rfl, h⟩ := h
  replace h := dSl_ok h; obtain ⟨rfl, h⟩ := h
  replace h := dCons_ok h; obtain ⟨a8_, r9_, rfl, h⟩ := h
  replace h := dSl_ok h; obtain ⟨rfl, h⟩ := h
  replace h := dCons_ok h; obtain ⟨a10_, r11_, rfl, h⟩ := h
  replace h := dSl_ok h; obtain ⟨rfl, h⟩ := h
  replace h := dNil_ok h; obtain ⟨rfl, h⟩ := h
  replace h := dNil_ok h; obtain ⟨rfl, h⟩ := h
  replace h := dBlk_ok h; obtain ⟨b12_, m13_, rfl, h⟩ := h
  replace h := dCells_ok h; obtain ⟨c14_, rfl, h⟩ := h
  replace h := dCons_ok h; obtain ⟨a15_, r16_, rfl, h⟩ := h
  replace h := dPl_ok h; obtain ⟨p1, rfl, h⟩ := h
  replace h := dCons_ok h; obtain ⟨a17_, r18_, rfl, h⟩ := h
  replace h := dInt_ok h; obtain ⟨p2, rfl, h⟩ := h
  replace h := dNil_ok h; obtain ⟨rfl, h⟩ := h
  replace h := dBlk_ok h; obtain ⟨b19_, m20_, rfl, h⟩ := h
  replace h := dList_ok h; obtain ⟨p3, rfl, h⟩ := h
  replace h := dBlk_ok h; obtain ⟨b21_, m22_, rfl, h⟩ := h
  replace h := dList_ok h; obtain ⟨p4, rfl, h⟩ := h
  replace h := dBlk_ok h; obtain ⟨b23_, m24_, rfl, h⟩ := h
  replace h := dList_ok h; obtain ⟨p5, rfl, h⟩ := h
  replace h := dEnd_ok h; obtain ⟨rfl, h⟩ := h
  refine fun_ok (nt := 45) (x := bodyOf Try.f125) (Γ := Γ125) (H := H125) (WW := W125) (rs := [.cell 4 25]) (shs := [.ag [.own .int, .own .int, .own .int]]) (cons := []) mixed Try.func125 (by decide) (by kernel_rfl) Try.ntmps125 Try.results125 (.cons (useC_ok s106) (.cons (useC_ok s112) (.cons (useC_ok s94) (GSound.nil)))) ?_ hA hN R hl
  rw [ht, e125 p1 p2 p3 p4 p5 K]
  exact h
/-! spec.DrawHeapValid -/
def G85 : Con := fun args tm K => dCons args fun a1_ r2_ => dPl .byte a1_ fun p1 => dNil r2_ <| dEnd tm <| Ms_DrawHeapValid p1 (fun r1 r2 r3 => K (.agg [.sl 0, .sl 1, .sl 2]) [⟨true, .list .int r1⟩, ⟨true, .list .int r2⟩, ⟨true, .list .int r3⟩])
def H85 : List (Nat × LH) := []
def W85 : List (Nat × List (Nat × List Nat)) := []
def Γ85 : List (Nat × Con) := [(93, useC [.pure .byte] G93), (110, useC [.pc [.pure .byte, .x]] G110), (125, useC [.pc [.pure .byte, .x], .ag [.own .int, .own .int, .own .int]] (onlyC [0] G125))]
theorem e85 (p1 : List Int) (K : TV → TMem → Prop) : TW PP 10 Γ85 H85 W85 (List.length ([] : TMem)) (bodyOf Try.f85) (endT PP 10 [.cell 2 25] [.ag [.own .int, .own .int, .own .int]] [] (List.length ([] : TMem)) K) (argsF [.pl .byte p1]) [] =
    Ms_DrawHeapValid p1 (fun r1 r2 r3 => K (.agg [.sl 0, .sl 1, .sl 2]) [⟨true, .list .int r1⟩, ⟨true, .list .int r2⟩, ⟨true, .list .int r3⟩]) := by kernel_rfl
theorem s85 : CSound PP 85 G85 := by
  intro args K c h fl A aargs hA hN R hl
  unfold G85 at h
  generalize ht : c.tm = tm at h
  replace h := dCons_ok h; obtain ⟨a1_, r2_, rfl, h⟩ := h
  replace h := dPl_ok h; obtain ⟨p1, rfl, h⟩ := h
  replace h := dNil_ok h; obtain ⟨rfl, h⟩ := h
  replace h := dEnd_ok h; obtain ⟨rfl, h⟩ := h
  refine fun_ok (nt := 10) (x := bodyOf Try.f85) (Γ := Γ85) (H := H85) (WW := W85) (rs := [.cell 2 25]) (shs := [.ag [.own .int, .own .int, .own .int]]) (cons := []) mixed Try.func85 (by decide) (by kernel_rfl) Try.ntmps85 Try.results85 (.cons (useC_ok s93) (.cons (useC_ok s110) (.cons (useC_ok (onlyC_ok s125)) (GSound.nil)))) ?_ hA hN R hl
  rw [ht, e85 p1 K]
  exact h
/-! impl.HeapValid -/
def G34 : Con := fun args tm K => dCons args fun a1_ r2_ => dAgg a1_ fun l3_ => dCons l3_ fun a4_ r5_ => dPl .int a4_ fun p1 => dCons r5_ fun a6_ r7_ => dPl .int a6_ fun p2 => dCons r7_ fun a8_ r9_ => dPl .int a8_ fun p3 => dNil r9_ <| dNil r2_ <| dEnd tm <| Mi_HeapValid p1 p2 p3 (fun r1 => K (.bool r1) [])
def H34_0 : LH where
  keep := [(1, .pc [.pure .int, .pure .int, .pure .int]), (44, .own .ints), (45, .x), (46, .x)]
  S := Int × Int × List Int × List Int × List Int × List (List Int)
  enc := fun s => ([.ptr 0 0, .sl 1, .int .i64 s.1, .int .i64 s.2.1], [⟨true, .cells [.pl .int s.2.2.1, .pl .int s.2.2.2.1, .pl .int s.2.2.2.2.1]⟩, ⟨true, .list .ints s.2.2.2.2.2⟩])
  dec := fun vs tm K => dCons vs fun a1_ r2_ => dPtr 0 a1_ <| dCons r2_ fun a3_ r4_ => dSl 1 a3_ <| dCons r4_ fun a5_ r6_ => dInt .i64 a5_ fun q0 => dCons r6_ fun a7_ r8_ => dInt .i64 a7_ fun q1 => dNil r8_ <| dBlk true tm fun b9_ m10_ => dCells b9_ fun c11_ => dCons c11_ fun a12_ r13_ => dPl .int a12_ fun q2 => dCons r13_ fun a14_ r15_ => dPl .int a14_ fun q3 => dCons r15_ fun a16_ r17_ => dPl .int a16_ fun q4 => dNil r17_ <| dBlk true m10_ fun b18_ m19_ => dList .ints b18_ fun q5 => dEnd m19_ <| K (q0, q1, q2, q3, q4, q5)
  law := by
    intro vs tm K h
    replace h := dCons_ok h; obtain ⟨a1_, r2_, rfl, h⟩ := h
    replace h := dPtr_ok h; obtain ⟨rfl, h⟩ := h
    replace h := dCons_ok h; obtain ⟨a3_, r4_, rfl, h⟩ := h
    replace h := dSl_ok h; obtain ⟨rfl, h⟩ := h
    replace h := dCons_ok h; obtain ⟨a5_, r6_, rfl, h⟩ := h
    replace h := dInt_ok h; obtain ⟨q0, rfl, h⟩ := h
    replace h := dCons_ok h; obtain ⟨a7_, r8_, rfl, h⟩ := h
    replace h := dInt_ok h; obtain ⟨q1, rfl, h⟩ := h
    replace h := dNil_ok h; obtain ⟨rfl, h⟩ := h
    replace h := dBlk_ok h; obtain ⟨b9_, m10_, rfl, h⟩ := h
    replace h := dCells_ok h; obtain ⟨c11_, rfl, h⟩ := h
    replace h := dCons_ok h; obtain ⟨a12_, r13_, rfl, h⟩ := h
    replace h := dPl_ok h; obtain ⟨q2, rfl, h⟩ := h
    replace h := dCons_ok h; obtain ⟨a14_, r15_, rfl, h⟩ := h
    replace h := dPl_ok h; obtain ⟨q3, rfl, h⟩ := h
    replace h := dCons_ok h; obtain ⟨a16_, r17_, rfl, h⟩ := h
    replace h := dPl_ok h; obtain ⟨q4, rfl, h⟩ := h
    replace h := dNil_ok h; obtain ⟨rfl, h⟩ := h
    replace h := dBlk_ok h; obtain ⟨b18_, m19_, rfl, h⟩ := h
    replace h := dList_ok h; obtain ⟨q5, rfl, h⟩ := h
    replace h := dEnd_ok h; obtain ⟨rfl, h⟩ := h
    exact ⟨(q0, q1, q2, q3, q4, q5), rfl, h⟩
def H34_2 : LH where
  keep := [(1, .pc [.pure .int, .pure .int, .pure .int]), (44, .own .ints), (45, .x), (46, .x), (50, .pure .int), (51, .x), (52, .x)]
  S := Int × Int × List Int × Int × Int × List Int × List Int × List Int × List (List Int)
  enc := fun s => ([.ptr 0 0, .sl 1, .int .i64 s.1, .int .i64 s.2.1, .pl .int s.2.2.1, .int .i64 s.2.2.2.1, .int .i64 s.2.2.2.2.1], [⟨true, .cells [.pl .int s.2.2.2.2.2.1, .pl .int s.2.2.2.2.2.2.1, .pl .int s.2.2.2.2.2.2.2.1]⟩, ⟨true, .list .ints s.2.2.2.2.2.2.2.2⟩])
  dec := fun vs tm K => dCons vs fun a1_ r2_ => dPtr 0 a1_ <| dCons r2_ fun a3_ r4_ => dSl 1 a3_ <| dCons r4_ fun a5_ r6_ => dInt .i64 a5_ fun q0 => dCons r6_ fun a7_ r8_ => dInt .i64 a7_ fun q1 => dCons r8_ fun a9_ r10_ => dPl .int a9_ fun q2 => dCons r10_ fun a11_ r12_ => dInt .i64 a11_ fun q3 => dCons r12_ fun a13_ r14_ => dInt .i64 a13_ fun q4 => dNil r14_ <| dBlk true tm fun b15_ m16_ => dCells b15_ fun c17_ => dCons c17_ fun a18_ r19_ => dPl .int a18_ fun q5 => dCons r19_ fun a20_ r21_ => dPl .int a20_ fun q6 => dCons r21_ fun a22_ r23_ => dPl .int a22_ fun q7 => dNil r23_ <| dBlk true m16_ fun b24_ m25_ => dList .ints b24_ fun q8 => dEnd m25_ <| K (q0, q1, q2, q3, q4, q5, q6, q7, q8)
  law := by
    intro vs tm K h
    replace h := dCons_ok h; obtain ⟨a1_, r2_, rfl, h⟩ := h
    replace h := dPtr_ok h; obtain ⟨rfl, h⟩ := h
    replace h := dCons_ok h; obtain ⟨a3_, r4_, rfl, h⟩ := h
    replace h := dSl_ok h; obtain ⟨rfl, h⟩ := h
    replace h := dCons_ok h; obtain ⟨a5_, r6_, rfl, h⟩ := h
    replace h := dInt_ok h; obtain ⟨q0, rfl, h⟩ := h
    replace h := dCons_ok h; obtain ⟨a7_, r8_, rfl, h⟩ := h
    replace h := dInt_ok h; obtain ⟨q1, rfl, h⟩ := h
    replace h := dCons_ok h; obtain ⟨a9_, r10_, rfl, h⟩ := h
    replace h := dPl_ok h; obtain ⟨q2, rfl, h⟩ := h
    replace h := dCons_ok h; obtain ⟨a11_, r12_, rfl, h⟩ := h
    replace h := dInt_ok h; obtain ⟨q3, rfl, h⟩ := h
    replace h := dCons_ok h; obtain ⟨a13_, r14_, rfl, h⟩ := h
    replace h := dInt_ok h; obtain ⟨q4, rfl, h⟩ := h
    replace h := dNil_ok h; obtain ⟨rfl, h⟩ := h
    replace h := dBlk_ok h; obtain ⟨b15_, m16_, rfl, h⟩ := h
    replace h := dCells_ok h; obtain ⟨c17_, rfl, h⟩ := h
    replace h := dCons_ok h; obtain ⟨a18_, r19_, rfl, h⟩ := h
    replace h := dPl_ok h; obtain ⟨q5, rfl, h⟩ := h
    replace h := dCons_ok h; obtain ⟨a20_, r21_, rfl, h⟩ := h
    replace h := dPl_ok h; obtain ⟨q6, rfl, h⟩ := h
    replace h := dCons_ok h; obtain ⟨a22_, r23_, rfl, h⟩ := h
    replace h := dPl_ok h; obtain ⟨q7, rfl, h⟩ := h
    replace h := dNil_ok h; obtain ⟨rfl, h⟩ := h
    replace h := dBlk_ok h; obtain ⟨b24_, m25_, rfl, h⟩ := h
    replace h := dList_ok h; obtain ⟨q8, rfl, h⟩ := h
    replace h := dEnd_ok h; obtain ⟨rfl, h⟩ := h
    exact ⟨(q0, q1, q2, q3, q4, q5, q6, q7, q8), rfl, h⟩
def H34 : List (Nat × LH) := [(0, H34_0), (2, H34_2)]
def W34 : List (Nat × List (Nat × List Nat)) := []
def Γ34 : List (Nat × Con) := []
theorem e34 (p1 : List Int) (p2 : List Int) (p3 : List Int) (K : TV → TMem → Prop) : TW PP 67 Γ34 H34 W34 (List.length ([] : TMem)) (bodyOf Try.f34) (endT PP 67 [.tmp 2] [.bl] [] (List.length ([] : TMem)) K) (argsF [.agg [.pl .int p1, .pl .int p2, .pl .int p3]]) [] =
    Mi_HeapValid p1 p2 p3 (fun r1 => K (.bool r1) []) := by kernel_rfl
theorem s34 : CSound PP 34 G34 := by
  intro args K c h fl A aargs hA hN R hl
  unfold G34 at h
  generalize ht : c.tm = tm at h
  replace h := dCons_ok h; obtain ⟨a1_, r2_, rfl, h⟩ := h
  replace h := dAgg_ok h; obtain ⟨l3_, rfl, h⟩ := h
  replace h := dCons_ok h; obtain ⟨a4_, r5_, rfl, h⟩ := h
  replace h := dPl_ok h; obtain ⟨p1, rfl, h⟩ := h
  replace h := dCons_ok h; obtain ⟨a6_, r7_, rfl, h⟩ := h
  replace h := dPl_ok h; obtain ⟨p2, rfl, h⟩ := h
  replace h := dCons_ok h; obtain ⟨a8_, r9_, rfl, h⟩ := h
  replace h := dPl_ok h; obtain ⟨p3, rfl, h⟩ := h
  replace h := dNil_ok h; obtain ⟨rfl, h⟩ := h
  replace h := dNil_ok h; obtain ⟨rfl, h⟩ := h
  replace h := dEnd_ok h; obtain ⟨rfl, h⟩ := h
  refine fun_ok (nt := 67) (x := bodyOf Try.f34) (Γ := Γ34) (H := H34) (WW := W34) (rs := [.tmp 2]) (shs := [.bl]) (cons := []) mixed Try.func34 (by decide) (by kernel_rfl) Try.ntmps34 Try.results34 (GSound.nil) ?_ hA hN R hl
  rw [ht, e34 p1 p2 p3 K]
  exact h
/-! slices.Index[[]int,int] -/
def G115 : Con := fun args tm K => dCons args fun a1_ r2_ => dPl .int a1_ fun p1 => dCons r2_ fun a3_ r4_ => dInt .i64 a3_ fun p2 => dNil r4_ <| dEnd tm <| M_Index_int p1 p2 (fun r1 => K (.int .i64 r1) [])
def H115_0 : LH where
  keep := [(0, .pure .int), (1, .x), (7, .x), (8, .x)]
  S := List Int × Int × Int × Int
  enc := fun s => ([.pl .int s.1, .int .i64 s.2.1, .int .i64 s.2.2.1, .int .i64 s.2.2.2], [])
  dec := fun vs tm K => dCons vs fun a1_ r2_ => dPl .int a1_ fun q0 => dCons r2_ fun a3_ r4_ => dInt .i64 a3_ fun q1 => dCons r4_ fun a5_ r6_ => dInt .i64 a5_ fun q2 => dCons r6_ fun a7_ r8_ => dInt .i64 a7_ fun q3 => dNil r8_ <| dEnd tm <| K (q0, q1, q2, q3)
  law := by
    intro vs tm K h
    replace h := dCons_ok h; obtain ⟨a1_, r2_, rfl, h⟩ := h
    replace h := dPl_ok h; obtain ⟨q0, rfl, h⟩ := h
    replace h := dCons_ok h; obtain ⟨a3_, r4_, rfl, h⟩ := h
    replace h := dInt_ok h; obtain ⟨q1, rfl, h⟩ := h
    replace h := dCons_ok h; obtain ⟨a5_, r6_, rfl, h⟩ := h
    replace h := dInt_ok h; obtain ⟨q2, rfl, h⟩ := h
    replace h := dCons_ok h; obtain ⟨a7_, r8_, rfl, h⟩ := h
    replace h := dInt_ok h; obtain ⟨q3, rfl, h⟩ := h
    replace h := dNil_ok h; obtain ⟨rfl, h⟩ := h
    replace h := dEnd_ok h; obtain ⟨rfl, h⟩ := h
    exact ⟨(q0, q1, q2, q3), rfl, h⟩
def H115 : List (Nat × LH) := [(0, H115_0)]
def W115 : List (Nat × List (Nat × List Nat)) := []
def Γ115 : List (Nat × Con) := []
theorem e115 (p1 : List Int) (p2 : Int) (K : TV → TMem → Prop) : TW PP 19 Γ115 H115 W115 (List.length ([] : TMem)) (bodyOf Try.f115) (endT PP 19 [.tmp 4] [.x] [] (List.length ([] : TMem)) K) (argsF [.pl .int p1, .int .i64 p2]) [] =
    M_Index_int p1 p2 (fun r1 => K (.int .i64 r1) []) := by kernel_rfl
theorem s115 : CSound PP 115 G115 := by
  intro args K c h fl A aargs hA hN R hl
  unfold G115 at h
  generalize ht : c.tm = tm at h
  replace h := dCons_ok h; obtain ⟨a1_, r2_, rfl, h⟩ := h
  replace h := dPl_ok h; obtain ⟨p1, rfl, h⟩ := h
  replace h := dCons_ok h; obtain ⟨a3_, r4_, rfl, h⟩ := h
  replace h := dInt_ok h; obtain ⟨p2, rfl, h⟩ := h
  replace h := dNil_ok h; obtain ⟨rfl, h⟩ := h
  replace h := dEnd_ok h; obtain ⟨rfl, h⟩ := h
  refine fun_ok (nt := 19) (x := bodyOf Try.f115) (Γ := Γ115) (H := H115) (WW := W115) (rs := [.tmp 4]) (shs := [.x]) (cons := []) mixed Try.func115 (by decide) (by kernel_rfl) Try.ntmps115 Try.results115 (GSound.nil) ?_ hA hN R hl
  rw [ht, e115 p1 p2 K]
  exact h
/-! slices.Contains[[]int,int] -/
def G107 : Con := fun args tm K => dCons args fun a1_ r2_ => dPl .int a1_ fun p1 => dCons r2_ fun a3_ r4_ => dInt .i64 a3_ fun p2 => dNil r4_ <| dEnd tm <| M_Contains_int p1 p2 (fun r1 => K (.bool r1) [])
def H107 : List (Nat × LH) := []
def W107 : List (Nat × List (Nat × List Nat)) := []
def Γ107 : List (Nat × Con) := [(115, useC [.pure .int, .x] G115)]
theorem e107 (p1 : List Int) (p2 : Int) (K : TV → TMem → Prop) : TW PP 9 Γ107 H107 W107 (List.length ([] : TMem)) (bodyOf Try.f107) (endT PP 9 [.tmp 4] [.bl] [] (List.length ([] : TMem)) K) (argsF [.pl .int p1, .int .i64 p2]) [] =
    M_Contains_int p1 p2 (fun r1 => K (.bool r1) []) := by kernel_rfl
theorem s107 : CSound PP 107 G107 := by
  intro args K c h fl A aargs hA hN R hl
  unfold G107 at h
  generalize ht : c.tm = tm at h
  replace h := dCons_ok h; obtain ⟨a1_, r2_, rfl, h⟩ := h
  replace h := dPl_ok h; obtain ⟨p1, rfl, h⟩ := h
  replace h := dCons_ok h; obtain ⟨a3_, r4_, rfl, h⟩ := h
  replace h := dInt_ok h; obtain ⟨p2, rfl, h⟩ := h
  replace h := dNil_ok h; obtain ⟨rfl, h⟩ := h
  replace h := dEnd_ok h; obtain ⟨rfl, h⟩ := h
  refine fun_ok (nt := 9) (x := bodyOf Try.f107) (Γ := Γ107) (H := H107) (WW := W107) (rs := [.tmp 4]) (shs := [.bl]) (cons := []) mixed Try.func107 (by decide) (by kernel_rfl) Try.ntmps107 Try.results107 (.cons (useC_ok s115) (GSound.nil)) ?_ hA hN R hl
  rw [ht, e107 p1 p2 K]
  exact h
/-! spec.l1Points -/
def G127 : Con := fun args tm K => dCons args fun a1_ r2_ => dInt .i64 a1_ fun p1 => dCons r2_ fun a3_ r4_ => dInt .i64 a3_ fun p2 => dNil r4_ <| dEnd tm <| Ms_l1Points p1 p2 (fun r1 => K (.bool r1) [])
def H127 : List (Nat × LH) := []
def W127 : List (Nat × List (Nat × List Nat)) := []
def Γ127 : List (Nat × Con) := []
theorem e127 (p1 : Int) (p2 : Int) (K : TV → TMem → Prop) : TW PP 12 Γ127 H127 W127 (List.length ([] : TMem)) (bodyOf Try.f127) (endT PP 12 [.tmp 4] [.bl] [] (List.length ([] : TMem)) K) (argsF [.int .i64 p1, .int .i64 p2]) [] =
    Ms_l1Points p1 p2 (fun r1 => K (.bool r1) []) := by kernel_rfl
theorem s127 : CSound PP 127 G127 := by
  intro args K c h fl A aargs hA hN R hl
  unfold G127 at h
  generalize ht : c.tm = tm at h
  replace h := dCons_ok h; obtain ⟨a1_, r2_, rfl, h⟩ := h
  replace h := dInt_ok h; obtain ⟨p1, rfl, h⟩ := h
  replace h := dCons_ok h; obtain ⟨a3_, r4_, rfl, h⟩ := h
  replace h := dInt_ok h; obtain ⟨p2, rfl, h⟩ := h
  replace h := dNil_ok h; obtain ⟨rfl, h⟩ := h
  replace h := dEnd_ok h; obtain ⟨rfl, h⟩ := h
  refine fun_ok (nt := 12) (x := bodyOf Try.f127) (Γ := Γ127) (H := H127) (WW := W127) (rs := [.tmp 4]) (shs := [.bl]) (cons := []) mixed Try.func127 (by decide) (by kernel_rfl) Try.ntmps127 Try.results127 (GSound.nil) ?_ hA hN R hl
  rw [ht, e127 p1 p2 K]
  exact h
/-! spec.HeapValid -/
def G88 : Con := fun args tm K => dCons args fun a1_ r2_ => dAgg a1_ fun l3_ => dCons l3_ fun a4_ r5_ => dPl .int a4_ fun p1 => dCons r5_ fun a6_ r7_ => dPl .int a6_ fun p2 => dCons r7_ fun a8_ r9_ => dPl .int a8_ fun p3 => dNil r9_ <| dNil r2_ <| dEnd tm <| Ms_HeapValid p1 p2 p3 (fun r1 => K (.bool r1) [])
def H88_0 : LH where
  keep := [(1, .pc [.pure .int, .pure .int, .pure .int]), (3, .x), (4, .x)]
  S := Int × Int × List Int × List Int × List Int
  enc := fun s => ([.ptr 0 0, .int .i64 s.1, .int .i64 s.2.1], [⟨true, .cells [.pl .int s.2.2.1, .pl .int s.2.2.2.1, .pl .int s.2.2.2.2]⟩])
  dec := fun vs tm K => dCons vs fun a1_ r2_ => dPtr 0 a1_ <| dCons r2_ fun a3_ r4_ => dInt .i64 a3_ fun q0 => dCons r4_ fun a5_ r6_ => dInt .i64 a5_ fun q1 => dNil r6_ <| dBlk true tm fun b7_ m8_ => dCells b7_ fun c9_ => dCons c9_ fun a10_ r11_ => dPl .int a10_ fun q2 => dCons r11_ fun a12_ r13_ => dPl .int a12_ fun q3 => dCons r13_ fun a14_ r15_ => dPl .int a14_ fun q4 => dNil r15_ <| dEnd m8_ <| K (q0, q1, q2, q3, q4)
  law := by
    intro vs tm K h
    replace h := dCons_ok h; obtain ⟨a1_, r2_, rfl, h⟩ := h
    replace h := dPtr_ok h; obtain ⟨rfl, h⟩ := h
    replace h := dCons_ok h; obtain ⟨a3_, r4_, rfl, h⟩ := h
    replace h := dInt_ok h; obtain ⟨q0, rfl, h⟩ := h
    replace h := dCons_ok h; obtain ⟨a5_, r6_, rfl, h⟩ := h
    replace h := dInt_ok h; obtain ⟨q1, rfl, h⟩ := h
    replace h := dNil_ok h; obtain ⟨rfl, h⟩ := h
    replace h := dBlk_ok h; obtain ⟨b7_, m8_, rfl, h⟩ := h
    replace h := dCells_ok h; obtain ⟨c9_, rfl, h⟩ := h
    replace h := dCons_ok h; obtain ⟨a10_, r11_, rfl, h⟩ := h
    replace h := dPl_ok h; obtain ⟨q2, rfl, h⟩ := h
    replace h := dCons_ok h; obtain ⟨a12_, r13_, rfl, h⟩ := h
    replace h := dPl_ok h; obtain ⟨q3, rfl, h⟩ := h
    replace h := dCons_ok h; obtain ⟨a14_, r15_, rfl, h⟩ := h
    replace h := dPl_ok h; obtain ⟨q4, rfl, h⟩ := h
    replace h := dNil_ok h; obtain ⟨rfl, h⟩ := h
    replace h := dEnd_ok h; obtain ⟨rfl, h⟩ := h
    exact ⟨(q0, q1, q2, q3, q4), rfl, h⟩
def H88_2 : LH where
  keep := [(1, .pc [.pure .int, .pure .int, .pure .int]), (3, .x), (5, .x)]
  S := Int × Int × List Int × List Int × List Int
  enc := fun s => ([.ptr 0 0, .int .i64 s.1, .int .i64 s.2.1], [⟨true, .cells [.pl .int s.2.2.1, .pl .int s.2.2.2.1, .pl .int s.2.2.2.2]⟩])
  dec := fun vs tm K => dCons vs fun a1_ r2_ => dPtr 0 a1_ <| dCons r2_ fun a3_ r4_ => dInt .i64 a3_ fun q0 => dCons r4_ fun a5_ r6_ => dInt .i64 a5_ fun q1 => dNil r6_ <| dBlk true tm fun b7_ m8_ => dCells b7_ fun c9_ => dCons c9_ fun a10_ r11_ => dPl .int a10_ fun q2 => dCons r11_ fun a12_ r13_ => dPl .int a12_ fun q3 => dCons r13_ fun a14_ r15_ => dPl .int a14_ fun q4 => dNil r15_ <| dEnd m8_ <| K (q0, q1, q2, q3, q4)
  law := by
    intro vs tm K h
    replace h := dCons_ok h; obtain ⟨a1_, r2_, rfl, h⟩ := h
    replace h := dPtr_ok h; obtain ⟨rfl, h⟩ := h
    replace h := dCons_ok h; obtain ⟨a3_, r4_, rfl, h⟩ := h
    replace h := dInt_ok h; obtain ⟨q0, rfl, h⟩ := h
    replace h := dCons_ok h; obtain ⟨a5_, r6_, rfl, h⟩ := h
    replace h := dInt_ok h; obtain ⟨q1, rfl, h⟩ := h
    replace h := dNil_ok h; obtain ⟨rfl, h⟩ := h
    replace h := dBlk_ok h; obtain ⟨b7_, m8_, rfl, h⟩ := h
    replace h := dCells_ok h; obtain ⟨c9_, rfl, h⟩ := h
    replace h := dCons_ok h; obtain ⟨a10_, r11_, rfl, h⟩ := h
    replace h := dPl_ok h; obtain ⟨q2, rfl, h⟩ := h
    replace h := dCons_ok h; obtain ⟨a12_, r13_, rfl, h⟩ := h
    replace h := dPl_ok h; obtain ⟨q3, rfl, h⟩ := h
    replace h := dCons_ok h; obtain ⟨a14_, r15_, rfl, h⟩ := h
    replace h := dPl_ok h; obtain ⟨q4, rfl, h⟩ := h
    replace h := dNil_ok h; obtain ⟨rfl, h⟩ := h
    replace h := dEnd_ok h; obtain ⟨rfl, h⟩ := h
    exact ⟨(q0, q1, q2, q3, q4), rfl, h⟩
def H88 : List (Nat × LH) := [(0, H88_0), (2, H88_2)]
def W88 : List (Nat × List (Nat × List Nat)) := []
def Γ88 : List (Nat × Con) := [(127, useC [.x, .x] G127)]
theorem e88 (p1 : List Int) (p2 : List Int) (p3 : List Int) (K : TV → TMem → Prop) : TW PP 72 Γ88 H88 W88 (List.length ([] : TMem)) (bodyOf Try.f88) (endT PP 72 [.tmp 2] [.bl] [] (List.length ([] : TMem)) K) (argsF [.agg [.pl .int p1, .pl .int p2, .pl .int p3]]) [] =
    Ms_HeapValid p1 p2 p3 (fun r1 => K (.bool r1) []) := by kernel_rfl
theorem s88 : CSound PP 88 G88 := by
  intro args K c h fl A aargs hA hN R hl
  unfold G88 at h
  generalize ht : c.tm = tm at h
  replace h := dCons_ok h; obtain ⟨a1_, r2_, rfl, h⟩ := h
  replace h := dAgg_ok h; obtain ⟨l3_, rfl, h⟩ := h
  replace h := dCons_ok h; obtain ⟨a4_, r5_, rfl, h⟩ := h
  replace h := dPl_ok h; obtain ⟨p1, rfl, h⟩ := h
  replace h := dCons_ok h; obtain ⟨a6_, r7_, rfl, h⟩ := h
  replace h := dPl_ok h; obtain ⟨p2, rfl, h⟩ := h
  replace h := dCons_ok h; obtain ⟨a8_, r9_, rfl, h⟩ := h
  replace h := dPl_ok h; obtain ⟨p3, rfl, h⟩ := h
  replace h := dNil_ok h; obtain ⟨rfl, h⟩ := h
  replace h := dNil_ok h; obtain ⟨rfl, h⟩ := h
  replace h := dEnd_ok h; obtain ⟨rfl, h⟩ := h
  refine fun_ok (nt := 72) (x := bodyOf Try.f88) (Γ := Γ88) (H := H88) (WW := W88) (rs := [.tmp 2]) (shs := [.bl]) (cons := []) mixed Try.func88 (by decide) (by kernel_rfl) Try.ntmps88 Try.results88 (.cons (useC_ok s127) (GSound.nil)) ?_ hA hN R hl
  rw [ht, e88 p1 p2 p3 K]
  exact h
/-! laws.ccInts -/
def G32 : Con := fun args tm K => dCons args fun a1_ r2_ => dPl .int a1_ fun p1 => dCons r2_ fun a3_ r4_ => dPl .int a3_ fun p2 => dNil r4_ <| dEnd tm <| Ml_ccInts p1 p2 (fun r1 => K (.bool r1) [])
def H32_0 : LH where
  keep := [(0, .pure .int), (1, .pure .int), (5, .x)]
  S := List Int × List Int × Int
  enc := fun s => ([.pl .int s.1, .pl .int s.2.1, .int .i64 s.2.2], [])
  dec := fun vs tm K => dCons vs fun a1_ r2_ => dPl .int a1_ fun q0 => dCons r2_ fun a3_ r4_ => dPl .int a3_ fun q1 => dCons r4_ fun a5_ r6_ => dInt .i64 a5_ fun q2 => dNil r6_ <| dEnd tm <| K (q0, q1, q2)
  law := by
    intro vs tm K h
    replace h := dCons_ok h; obtain ⟨a1_, r2_, rfl, h⟩ := h
    replace h := dPl_ok h; obtain ⟨q0, rfl, h⟩ := h
    replace h := dCons_ok h; obtain ⟨a3_, r4_, rfl, h⟩ := h
    replace h := dPl_ok h; obtain ⟨q1, rfl, h⟩ := h
    replace h := dCons_ok h; obtain ⟨a5_, r6_, rfl, h⟩ := h
    replace h := dInt_ok h; obtain ⟨q2, rfl, h⟩ := h
    replace h := dNil_ok h; obtain ⟨rfl, h⟩ := h
    replace h := dEnd_ok h; obtain ⟨rfl, h⟩ := h
    exact ⟨(q0, q1, q2), rfl, h⟩
def H32 : List (Nat × LH) := [(0, H32_0)]
def W32 : List (Nat × List (Nat × List Nat)) := []
def Γ32 : List (Nat × Con) := []
theorem e32 (p1 : List Int) (p2 : List Int) (K : TV → TMem → Prop) : TW PP 26 Γ32 H32 W32 (List.length ([] : TMem)) (bodyOf Try.f32) (endT PP 26 [.tmp 4] [.bl] [] (List.length ([] : TMem)) K) (argsF [.pl .int p1, .pl .int p2]) [] =
    Ml_ccInts p1 p2 (fun r1 => K (.bool r1) []) := by kernel_rfl
theorem s32 : CSound PP 32 G32 := by
  intro args K c h fl A aargs hA hN R hl
  unfold G32 at h
  generalize ht : c.tm = tm at h
  replace h := dCons_ok h; obtain ⟨a1_, r2_, rfl, h⟩ := h
  replace h := dPl_ok h; obtain ⟨p1, rfl, h⟩ := h
  replace h := dCons_ok h; obtain ⟨a3_, r4_, rfl, h⟩ := h
  replace h := dPl_ok h; obtain ⟨p2, rfl, h⟩ := h
  replace h := dNil_ok h; obtain ⟨rfl, h⟩ := h
  replace h := dEnd_ok h; obtain ⟨rfl, h⟩ := h
  refine fun_ok (nt := 26) (x := bodyOf Try.f32) (Γ := Γ32) (H := H32) (WW := W32) (rs := [.tmp 4]) (shs := [.bl]) (cons := []) mixed Try.func32 (by decide) (by kernel_rfl) Try.ntmps32 Try.results32 (GSound.nil) ?_ hA hN R hl
  rw [ht, e32 p1 p2 K]
  exact h
/-! impl.distances$1 -/
def G129 : Con := fun args tm K => dCons args fun a1_ r2_ => dInt .i64 a1_ fun p1 => dCons r2_ fun a3_ r4_ => dInt .i64 a3_ fun p2 => dCons r4_ fun a5_ r6_ => dPtr 0 a5_ <| dCons r6_ fun a7_ r8_ => dPtr 1 a7_ <| dNil r8_ <| dBlk true tm fun b9_ m10_ => dCells b9_ fun c11_ => dCons c11_ fun a12_ r13_ => dSl 2 a12_ <| dNil r13_ <| dBlk true m10_ fun b14_ m15_ => dCells b14_ fun c16_ => dCons c16_ fun a17_ r18_ => dSl 3 a17_ <| dNil r18_ <| dBlk true m15_ fun b19_ m20_ => dList .int b19_ fun p3 => dBlk true m20_ fun b21_ m22_ => dList .int b21_ fun p4 => dEnd m22_ <| Mi_distances_1 p1 p2 p3 p4 (fun r1 r2 => K (.tup []) [⟨true, .cells [.sl 2]⟩, ⟨true, .cells [.sl 4]⟩, ⟨true, .list .int r1⟩, ⟨true, .dead⟩, ⟨true, .list .int r2⟩])
def H129 : List (Nat × LH) := []
def W129 : List (Nat × List (Nat × List Nat)) := []
def Γ129 : List (Nat × Con) := []
theorem e129 (p1 : Int) (p2 : Int) (p3 : List Int) (p4 : List Int) (K : TV → TMem → Prop) : TW PP 23 Γ129 H129 W129 (List.length ([⟨true, .cells [.sl 2]⟩, ⟨true, .cells [.sl 3]⟩, ⟨true, .list .int p3⟩, ⟨true, .list .int p4⟩] : TMem)) (bodyOf Try.f129) (endT PP 23 [] [] [3] (List.length ([⟨true, .cells [.sl 2]⟩, ⟨true, .cells [.sl 3]⟩, ⟨true, .list .int p3⟩, ⟨true, .list .int p4⟩] : TMem)) K) (argsF [.int .i64 p1, .int .i64 p2, .ptr 0 0, .ptr 1 0]) [⟨true, .cells [.sl 2]⟩, ⟨true, .cells [.sl 3]⟩, ⟨true, .list .int p3⟩, ⟨true, .list .int p4⟩] =
    Mi_distances_1 p1 p2 p3 p4 (fun r1 r2 => K (.tup []) [⟨true, .cells [.sl 2]⟩, ⟨true, .cells [.sl 4]⟩, ⟨true, .list .int r1⟩, ⟨true, .dead⟩, ⟨true, .list .int r2⟩]) := by kernel_rfl
theorem s129 : CSound PP 129 G129 := by
  intro args K c h fl A aargs hA hN R hl
  unfold G129 at h
  generalize ht : c.tm = tm at h
  replace h := dCons_ok h; obtain ⟨a1_, r2_, rfl, h⟩ := h
  replace h := dInt_ok h; obtain ⟨p1, rfl, h⟩ := h
  replace h := dCons_ok h; obtain ⟨a3_, r4_, rfl, h⟩ := h
  replace h := dInt_ok h; obtain ⟨p2, rfl, h⟩ := h
  replace h := dCons_ok h; obtain ⟨a5_, r6_, rfl, h⟩ := h
  replace h := dPtr_ok h; obtain ⟨rfl, h⟩ := h
  replace h := dCons_ok h; obtain ⟨a7_, r8_, rfl, h⟩ := h
  replace h := dPtr_ok h; obtain ⟨rfl, h⟩ := h
  replace h := dNil_ok h; obtain ⟨rfl, h⟩ := h
  replace h := dBlk_ok h; obtain ⟨b9_, m10_, rfl, h⟩ := h
  replace h := dCells_ok h; obtain ⟨c11_, rfl, h⟩ := h
  replace h := dCons_ok h; obtain ⟨a12_, r13_, rfl, h⟩ := h
  replace h := dSl_ok h; obtain ⟨rfl, h⟩ := h
  replace h := dNil_ok h; obtain ⟨rfl, h⟩ := h
  replace h := dBlk_ok h; obtain ⟨b14_, m15_, rfl, h⟩ := h
  replace h := dCells_ok h; obtain ⟨c16_, rfl, h⟩ := h
  replace h := dCons_ok h; obtain ⟨a17_, r18_, rfl, h⟩ := h
  replace h := dSl_ok h; obtain ⟨rfl, h⟩ := h
  replace h := dNil_ok h; obtain ⟨rfl, h⟩ := h
  replace h := dBlk_ok h; obtain ⟨b19_, m20_, rfl, h⟩ := h
  replace h := dList_ok h; obtain ⟨p3, rfl, h⟩ := h
  replace h := dBlk_ok h; obtain ⟨b21_, m22_, rfl, h⟩ := h
  replace h := dList_ok h; obtain ⟨p4, rfl, h⟩ := h
  replace h := dEnd_ok h; obtain ⟨rfl, h⟩ := h
  refine fun_ok (nt := 23) (x := bodyOf Try.f129) (Γ := Γ129) (H := H129) (WW := W129) (rs := []) (shs := []) (cons := [3]) mixed Try.func129 (by decide) (by kernel_rfl) Try.ntmps129 Try.results129 (GSound.nil) ?_ hA hN R hl
  rw [ht, e129 p1 p2 p3 p4 K]
  exact h
/-! impl.distances -/
def G90 : Con := fun args tm K => dCons args fun a1_ r2_ => dAgg a1_ fun l3_ => dCons l3_ fun a4_ r5_ => dPl .int a4_ fun p1 => dCons r5_ fun a6_ r7_ => dPl .int a6_ fun p2 => dCons r7_ fun a8_ r9_ => dPl .int a8_ fun p3 => dNil r9_ <| dNil r2_ <| dEnd tm <| Mi_distances p1 p2 p3 (fun r1 => K (.sl 0) [⟨true, .list .int r1⟩])
def H90_0 : LH where
  keep := [(1, .pc [.pure .int, .pure .int, .pure .int]), (3, .pc [.own .int]), (4, .pc [.own .int]), (5, .x), (16, .pure .int), (17, .x), (18, .x)]
  S := List Int × Int × Int × List Int × List Int × List Int × List Int × List Int
  enc := fun s => ([.ptr 0 0, .ptr 1 0, .ptr 2 0, .fn 129 [] [.ptr 1 0, .ptr 2 0], .pl .int s.1, .int .i64 s.2.1, .int .i64 s.2.2.1], [⟨true, .cells [.pl .int s.2.2.2.1, .pl .int s.2.2.2.2.1, .pl .int s.2.2.2.2.2.1]⟩, ⟨true, .cells [.sl 3]⟩, ⟨true, .cells [.sl 4]⟩, ⟨true, .list .int s.2.2.2.2.2.2.1⟩, ⟨true, .list .int s.2.2.2.2.2.2.2⟩])
  dec := fun vs tm K => dCons vs fun a1_ r2_ => dPtr 0 a1_ <| dCons r2_ fun a3_ r4_ => dPtr 1 a3_ <| dCons r4_ fun a5_ r6_ => dPtr 2 a5_ <| dCons r6_ fun a7_ r8_ => dFn 129 a7_ fun x9_ y10_ => dNil x9_ <| dCons y10_ fun a11_ r12_ => dPtr 1 a11_ <| dCons r12_ fun a13_ r14_ => dPtr 2 a13_ <| dNil r14_ <| dCons r8_ fun a15_ r16_ => dPl .int a15_ fun q0 => dCons r16_ fun a17_ r18_ => dInt .i64 a17_ fun q1 => dCons r18_ fun a19_ r20_ => dInt .i64 a19_ fun q2 => dNil r20_ <| dBlk true tm fun b21_ m22_ => dCells b21_ fun c23_ => dCons c23_ fun a24_ r25_ => dPl .int a24_ fun q3 => dCons r25_ fun a26_ r27_ => dPl .int a26_ fun q4 => dCons r27_ fun a28_ r29_ => dPl .int a28_ fun q5 => dNil r29_ <| dBlk true m22_ fun b30_ m31_ => dCells b30_ fun c32_ => dCons c32_ fun a33_ r34_ => dSl 3 a33_ <| dNil r34_ <| dBlk true m31_ fun b35_ m36_ => dCells b35_ fun c37_ => dCons c37_ fun a38_ r39_ => dSl 4 a38_ <| dNil r39_ <| dBlk true m36_ fun b40_ m41_ => dList .int b40_ fun q6 => dBlk true m41_ fun b42_ m43_ => dList .int b42_ fun q7 => dEnd m43_ <| K (q0, q1, q2, q3, q4, q5, q6, q7)
  law := by
    intro vs tm K h
    replace h := dCons_ok h; obtain ⟨a1_, r2_, rfl, h⟩ := h
    replace h := dPtr_ok h; obtain ⟨rfl, h⟩ := h
    replace h := dCons_ok h; obtain ⟨a3_, r4_, rfl, h⟩ := h
    replace h := dPtr_ok h; obtain ⟨rfl, h⟩ := h
    replace h := dCons_ok h; obtain ⟨a5_, r6_, rfl, h⟩ := h
    replace h := dPtr_ok h; obtain ⟨rfl, h⟩ := h
    replace h := dCons_ok h; obtain ⟨a7_, r8_, rfl, h⟩ := h
    replace h := dFn_ok h; obtain ⟨x9_, y10_, rfl, h⟩ := h
    replace h := dNil_ok h; obtain ⟨rfl, h⟩ := h
    replace h := dCons_ok h; obtain ⟨a11_, r12_, rfl, h⟩ := h
    replace h := dPtr_ok h; obtain ⟨rfl, h⟩ := h
    replace h := dCons_ok h; obtain ⟨a13_, r14_, rfl, h⟩ := h
    replace h := dPtr_ok h; obtain ⟨rfl, h⟩ := h
    replace h := dNil_ok h; obtain ⟨rfl, h⟩ := h
    replace h := dCons_ok h; obtain ⟨a15_, r16_, rfl, h⟩ := h
    replace h := dPl_ok h; obtain ⟨q0, rfl, h⟩ := h
    replace h := dCons_ok h; obtain ⟨a17_, r18_, rfl, h⟩ := h
    replace h := dInt_ok h; obtain ⟨q1, rfl, h⟩ := h
    replace h := dCons_ok h; obtain ⟨a19_, r20_, rfl, h⟩ := h
    replace h := dInt_ok h; obtain ⟨q2, rfl, h⟩ := h
    replace h := dNil_ok h; obtain ⟨rfl, h⟩ := h
    replace h := dBlk_ok h; obtain ⟨b21_, m22_, rfl, h⟩ := h
    replace h := dCells_ok h; obtain ⟨c23_, rfl, h⟩ := h
    replace h := dCons_ok h; obtain ⟨a24_, r25_, rfl, h⟩ := h
    replace h := dPl_ok h; obtain ⟨q3, rfl, h⟩ := h
    replace h := dCons_ok h; obtain ⟨a26_, r27_, rfl, h⟩ := h
    replace h := dPl_ok h; obtain ⟨q4, rfl, h⟩ := h
    replace h := dCons_ok h; obtain ⟨a28_, r29_, rfl, h⟩ := h
    replace h := dPl_ok h; obtain ⟨q5, rfl, h⟩ := h
    replace h := dNil_ok h; obtain ⟨rfl, h⟩ := h
    replace h := dBlk_ok h; obtain ⟨b30_, m31_, rfl, h⟩ := h
    replace h := dCells_ok h; obtain ⟨c32_, rfl, h⟩ := h
    replace h := dCons_ok h; obtain ⟨a33_, r34_, rfl, h⟩ := h
    replace h := dSl_ok h; obtain ⟨rfl, h⟩ := h
    replace h := dNil_ok h; obtain ⟨rfl, h⟩ := h
    replace h := dBlk_ok h; obtain ⟨b35_, m36_, rfl, h⟩ := h
    replace h := dCells_ok h; obtain ⟨c37_, rfl, h⟩ := h
    replace h := dCons_ok h; obtain ⟨a38_, r39_, rfl, h⟩ := h
    replace h := dSl_ok h; obtain ⟨rfl, h⟩ := h
    replace h := dNil_ok h; obtain ⟨rfl, h⟩ := h
    replace h := dBlk_ok h; obtain ⟨b40_, m41_, rfl, h⟩ := h
    replace h := dList_ok h; obtain ⟨q6, rfl, h⟩ := h
    replace h := dBlk_ok h; obtain ⟨b42_, m43_, rfl, h⟩ := h
    replace h := dList_ok h; obtain ⟨q7, rfl, h⟩ := h
    replace h := dEnd_ok h; obtain ⟨rfl, h⟩ := h
    exact ⟨(q0, q1, q2, q3, q4, q5, q6, q7), rfl, h⟩
def H90_2 : LH where
  keep := [(1, .pc [.pure .int, .pure .int, .pure .int]), (3, .pc [.own .int]), (4, .pc [.own .int]), (5, .x), (8, .x)]
  S := Int × List Int × List Int × List Int × List Int × List Int
  enc := fun s => ([.ptr 0 0, .ptr 1 0, .ptr 2 0, .fn 129 [] [.ptr 1 0, .ptr 2 0], .int .i64 s.1], [⟨true, .cells [.pl .int s.2.1, .pl .int s.2.2.1, .pl .int s.2.2.2.1]⟩, ⟨true, .cells [.sl 3]⟩, ⟨true, .cells [.sl 4]⟩, ⟨true, .list .int s.2.2.2.2.1⟩, ⟨true, .list .int s.2.2.2.2.2⟩])
  dec := fun vs tm K => dCons vs fun a1_ r2_ => dPtr 0 a1_ <| dCons r2_ fun a3_ r4_ => dPtr 1 a3_ <| dCons r4_ fun a5_ r6_ => dPtr 2 a5_ <| dCons r6_ fun a7_ r8_ => dFn 129 a7_ fun x9_ y10_ => dNil x9_ <| dCons y10_ fun a11_ r12_ => dPtr 1 a11_ <| dCons r12_ fun a13_ r14_ => dPtr 2 a13_ <| dNil r14_ <| dCons r8_ fun a15_ r16_ => dInt .i64 a15_ fun q0 => dNil r16_ <| dBlk true tm fun b17_ m18_ => dCells b17_ fun c19_ => dCons c19_ fun a20_ r21_ => dPl .int a20_ fun q1 => dCons r21_ fun a22_ r23_ => dPl .int a22_ fun q2 => dCons r23_ fun a24_ r25_ => dPl .int a24_ fun q3 => dNil r25_ <| dBlk true m18_ fun b26_ m27_ => dCells b26_ fun c28_ => dCons c28_ fun a29_ r30_ => dSl 3 a29_ <| dNil r30_ <| dBlk true m27_ fun b31_ m32_ => dCells b31_ fun c33_ => dCons c33_ fun a34_ r35_ => dSl 4 a34_ <| dNil r35_ <| dBlk true m32_ fun b36_ m37_ => dList .int b36_ fun q4 => dBlk true m37_ fun b38_ m39_ => dList .int b38_ fun q5 => dEnd m39_ <| K (q0, q1, q2, q3, q4, q5)
  law := by
    intro vs tm K h
    replace h := dCons_ok h; obtain ⟨a1_, r2_, rfl, h⟩ := h
    replace h := dPtr_ok h; obtain ⟨rfl, h⟩ := h
    replace h := dCons_ok h; obtain ⟨a3_, r4_, rfl, h⟩ := h
    replace h := dPtr_ok h; obtain ⟨rfl, h⟩ := h
    replace h := dCons_ok h; obtain ⟨a5_, r6_, rfl, h⟩ := h
    replace h := dPtr_ok h; obtain ⟨rfl, h⟩ := h
    replace h := dCons_ok h; obtain ⟨a7_, r8_, rfl, h⟩ := h
    replace h := dFn_ok h; obtain ⟨x9_, y10_, rfl, h⟩ := h
    replace h := dNil_ok h; obtain ⟨rfl, h⟩ := h
    replace h := dCons_ok h; obtain ⟨a11_, r12_, rfl, h⟩ := h
    replace h := dPtr_ok h; obtain ⟨rfl, h⟩ := h
    replace h := dCons_ok h; obtain ⟨a13_, r14_, rfl, h⟩ := h
    replace h := dPtr_ok h; obtain ⟨rfl, h⟩ := h
    replace h := dNil_ok h; obtain ⟨rfl, h⟩ := h
    replace h := dCons_ok h; obtain ⟨a15_, r16_, rfl, h⟩ := h
    replace h := dInt_ok h; obtain ⟨q0, rfl, h⟩ := h
    replace h := dNil_ok h; obtain ⟨rfl, h⟩ := h
    replace h := dBlk_ok h; obtain ⟨b17_, m18_, rfl, h⟩ := h
    replace h := dCells_ok h; obtain ⟨c19_, rfl, h⟩ := h
    replace h := dCons_ok h; obtain ⟨a20_, r21_, rfl, h⟩ := h
    replace h := dPl_ok h; obtain ⟨q1, rfl, h⟩ := h
    replace h := dCons_ok h; obtain ⟨a22_, r23_, rfl, h⟩ := h
    replace h := dPl_ok h; obtain ⟨q2, rfl, h⟩ := h
    replace h := dCons_ok h; obtain ⟨a24_, r25_, rfl, h⟩ := h
    replace h := dPl_ok h; obtain ⟨q3, rfl, h⟩ := h
    replace h := dNil_ok h; obtain ⟨rfl, h⟩ := h
    replace h := dBlk_ok h; obtain ⟨b26_, m27_, rfl, h⟩ := h
    replace h := dCells_ok h; obtain ⟨c28_, rfl, h⟩ := h
    replace h := dCons_ok h; obtain ⟨a29_, r30_, rfl, h⟩ := h
    replace h := dSl_ok h; obtain ⟨rfl, h⟩ := h
    replace h := dNil_ok h; obtain ⟨rfl, h⟩ := h
    replace h := dBlk_ok h; obtain ⟨b31_, m32_, rfl, h⟩ := h
    replace h := dCells_ok h; obtain ⟨c33_, rfl, h⟩ := h
    replace h := dCons_ok h; obtain ⟨a34_, r35_, rfl, h⟩ := h
    replace h := dSl_ok h; obtain ⟨rfl, h⟩ := h
    replace h := dNil_ok h; obtain ⟨rfl, h⟩ := h
    replace h := dBlk_ok h; obtain ⟨b36_, m37_, rfl, h⟩ := h
    replace h := dList_ok h; obtain ⟨q4, rfl, h⟩ := h
    replace h := dBlk_ok h; obtain ⟨b38_, m39_, rfl, h⟩ := h
    replace h := dList_ok h; obtain ⟨q5, rfl, h⟩ := h
    replace h := dEnd_ok h; obtain ⟨rfl, h⟩ := h
    exact ⟨(q0, q1, q2, q3, q4, q5), rfl, h⟩
def H90 : List (Nat × LH) := [(0, H90_0), (2, H90_2)]
def W90 : List (Nat × List (Nat × List Nat)) := []
def Γ90 : List (Nat × Con) := [(129, useC [.x, .x, .pc [.own .int], .pc [.own .int]] G129)]
theorem e90 (p1 : List Int) (p2 : List Int) (p3 : List Int) (K : TV → TMem → Prop) : TW PP 69 Γ90 H90 W90 (List.length ([] : TMem)) (bodyOf Try.f90) (endT PP 69 [.tmp 2] [.own .int] [] (List.length ([] : TMem)) K) (argsF [.agg [.pl .int p1, .pl .int p2, .pl .int p3]]) [] =
    Mi_distances p1 p2 p3 (fun r1 => K (.sl 0) [⟨true, .list .int r1⟩]) := by kernel_rfl
theorem s90 : CSound PP 90 G90 := by
  intro args K c h fl A aargs hA hN R hl
  unfold G90 at h
  generalize ht : c.tm = tm at h
  replace h := dCons_ok h; obtain ⟨a1_, r2_, rfl, h⟩ := h
  replace h := dAgg_ok h; obtain ⟨l3_, rfl, h⟩ := h
  replace h := dCons_ok h; obtain ⟨a4_, r5_, rfl, h⟩ := h
  replace h := dPl_ok h; obtain ⟨p1, rfl, h⟩ := h
  replace h := dCons_ok h; obtain ⟨a6_, r7_, rfl, h⟩ := h
  replace h := dPl_ok h; obtain ⟨p2, rfl, h⟩ := h
  replace h := dCons_ok h; obtain ⟨a8_, r9_, rfl, h⟩ := h
  replace h := dPl_ok h; obtain ⟨p3, rfl, h⟩ := h
  replace h := dNil_ok h; obtain ⟨rfl, h⟩ := h
  replace h := dNil_ok h; obtain ⟨rfl, h⟩ := h
  replace h := dEnd_ok h; obtain ⟨rfl, h⟩ := h
  refine fun_ok (nt := 69) (x := bodyOf Try.f90) (Γ := Γ90) (H := H90) (WW := W90) (rs := [.tmp 2]) (shs := [.own .int]) (cons := []) mixed Try.func90 (by decide) (by kernel_rfl) Try.ntmps90 Try.results90 (.cons (useC_ok s129) (GSound.nil)) ?_ hA hN R hl
  rw [ht, e90 p1 p2 p3 K]
  exact h
/-! impl.Reachable -/
def G35 : Con := fun args tm K => dCons args fun a1_ r2_ => dAgg a1_ fun l3_ => dCons l3_ fun a4_ r5_ => dPl .int a4_ fun p1 => dCons r5_ fun a6_ r7_ => dPl .int a6_ fun p2 => dCons r7_ fun a8_ r9_ => dPl .int a8_ fun p3 => dNil r9_ <| dNil r2_ <| dEnd tm <| Mi_Reachable p1 p2 p3 (fun r1 => K (.sl 0) [⟨true, .list .bool r1⟩])
def H35_0 : LH where
  keep := [(3, .own .bool), (11, .own .int), (12, .x), (13, .x)]
  S := Int × Int × List Bool × List Int
  enc := fun s => ([.sl 0, .sl 1, .int .i64 s.1, .int .i64 s.2.1], [⟨true, .list .bool s.2.2.1⟩, ⟨true, .list .int s.2.2.2⟩])
  dec := fun vs tm K => dCons vs fun a1_ r2_ => dSl 0 a1_ <| dCons r2_ fun a3_ r4_ => dSl 1 a3_ <| dCons r4_ fun a5_ r6_ => dInt .i64 a5_ fun q0 => dCons r6_ fun a7_ r8_ => dInt .i64 a7_ fun q1 => dNil r8_ <| dBlk true tm fun b9_ m10_ => dList .bool b9_ fun q2 => dBlk true m10_ fun b11_ m12_ => dList .int b11_ fun q3 => dEnd m12_ <| K (q0, q1, q2, q3)
  law := by
    intro vs tm K h
    replace h := dCons_ok h; obtain ⟨a1_, r2_, rfl, h⟩ := h
    replace h := dSl_ok h; obtain ⟨rfl, h⟩ := h
    replace h := dCons_ok h; obtain ⟨a3_, r4_, rfl, h⟩ := h
    replace h := dSl_ok h; obtain ⟨rfl, h⟩ := h
    replace h := dCons_ok h; obtain ⟨a5_, r6_, rfl, h⟩ := h
    replace h := dInt_ok h; obtain ⟨q0, rfl, h⟩ := h
    replace h := dCons_ok h; obtain ⟨a7_, r8_, rfl, h⟩ := h
    replace h := dInt_ok h; obtain ⟨q1, rfl, h⟩ := h
    replace h := dNil_ok h; obtain ⟨rfl, h⟩ := h
    replace h := dBlk_ok h; obtain ⟨b9_, m10_, rfl, h⟩ := h
    replace h := dList_ok h; obtain ⟨q2, rfl, h⟩ := h
    replace h := dBlk_ok h; obtain ⟨b11_, m12_, rfl, h⟩ := h
    replace h := dList_ok h; obtain ⟨q3, rfl, h⟩ := h
    replace h := dEnd_ok h; obtain ⟨rfl, h⟩ := h
    exact ⟨(q0, q1, q2, q3), rfl, h⟩
def H35 : List (Nat × LH) := [(0, H35_0)]
def W35 : List (Nat × List (Nat × List Nat)) := []
def Γ35 : List (Nat × Con) := [(34, useC [.ag [.pure .int, .pure .int, .pure .int]] G34), (90, useC [.ag [.pure .int, .pure .int, .pure .int]] G90)]
theorem e35 (p1 : List Int) (p2 : List Int) (p3 : List Int) (K : TV → TMem → Prop) : TW PP 24 Γ35 H35 W35 (List.length ([] : TMem)) (bodyOf Try.f35) (endT PP 24 [.tmp 2] [.own .bool] [] (List.length ([] : TMem)) K) (argsF [.agg [.pl .int p1, .pl .int p2, .pl .int p3]]) [] =
    Mi_Reachable p1 p2 p3 (fun r1 => K (.sl 0) [⟨true, .list .bool r1⟩]) := by kernel_rfl
theorem s35 : CSound PP 35 G35 := by
  intro args K c h fl A aargs hA hN R hl
  unfold G35 at h
  generalize ht : c.tm = tm at h
  replace h := dCons_ok h; obtain ⟨a1_, r2_, rfl, h⟩ := h
  replace h := dAgg_ok h; obtain ⟨l3_, rfl, h⟩ := h
  replace h := dCons_ok h; obtain ⟨a4_, r5_, rfl, h⟩ := h
  replace h := dPl_ok h; obtain ⟨p1, rfl, h⟩ := h
  replace h := dCons_ok h; obtain ⟨a6_, r7_, rfl, h⟩ := h
  replace h := dPl_ok h; obtain ⟨p2, rfl, h⟩ := h
  replace h := dCons_ok h; obtain ⟨a8_, r9_, rfl, h⟩ := h
  replace h := dPl_ok h; obtain ⟨p3, rfl, h⟩ := h
  replace h := dNil_ok h; obtain ⟨rfl, h⟩ := h
  replace h := dNil_ok h; obtain ⟨rfl, h⟩ := h
  replace h := dEnd_ok h; obtain ⟨rfl, h⟩ := h
  refine fun_ok (nt := 24) (x := bodyOf Try.f35) (Γ := Γ35) (H := H35) (WW := W35) (rs := [.tmp 2]) (shs := [.own .bool]) (cons := []) mixed Try.func35 (by decide) (by kernel_rfl) Try.ntmps35 Try.results35 (.cons (useC_ok s34) (.cons (useC_ok s90) (GSound.nil))) ?_ hA hN R hl
  rw [ht, e35 p1 p2 p3 K]
  exact h
/-! spec.NewGens -/
def G60 : Con := fun args tm K => dCons args fun a1_ r2_ => dAgg a1_ fun l3_ => dCons l3_ fun a4_ r5_ => dPl .int a4_ fun p1 => dCons r5_ fun a6_ r7_ => dPl .int a6_ fun p2 => dCons r7_ fun a8_ r9_ => dPl .int a8_ fun p3 => dNil r9_ <| dNil r2_ <| dEnd tm <| Ms_NewGens p1 p2 p3 (fun r1 r2 r3 r4 r5 r6 => K (.tup [.agg [.sl 0, .sl 1, .sl 2, .sl 3, .sl 4], .bool r1]) [⟨true, .list .int r2⟩, ⟨true, .list .int r3⟩, ⟨true, .list .int r4⟩, ⟨true, .list .bool r5⟩, ⟨true, .list .int r6⟩])
def H60 : List (Nat × LH) := []
def W60 : List (Nat × List (Nat × List Nat)) := []
def Γ60 : List (Nat × Con) := [(88, useC [.ag [.pure .int, .pure .int, .pure .int]] G88), (106, useC [.ag [.pure .int, .pure .int, .pure .int]] G106)]
theorem e60 (p1 : List Int) (p2 : List Int) (p3 : List Int) (K : TV → TMem → Prop) : TW PP 16 Γ60 H60 W60 (List.length ([] : TMem)) (bodyOf Try.f60) (endT PP 16 [.cell 2 37, .tmp 3] [.ag [.own .int, .own .int, .own .int, .own .bool, .own .int], .bl] [] (List.length ([] : TMem)) K) (argsF [.agg [.pl .int p1, .pl .int p2, .pl .int p3]]) [] =
    Ms_NewGens p1 p2 p3 (fun r1 r2 r3 r4 r5 r6 => K (.tup [.agg [.sl 0, .sl 1, .sl 2, .sl 3, .sl 4], .bool r1]) [⟨true, .list .int r2⟩, ⟨true, .list .int r3⟩, ⟨true, .list .int r4⟩, ⟨true, .list .bool r5⟩, ⟨true, .list .int r6⟩]) := by kernel_rfl
theorem s60 : CSound PP 60 G60 := by
  intro args K c h fl A aargs hA hN R hl
  unfold G60 at h
  generalize ht : c.tm = tm at h
  replace h := dCons_ok h; obtain ⟨a1_, r2_, rfl, h⟩ := h
  replace h := dAgg_ok h; obtain ⟨l3_, rfl, h⟩ := h
  replace h := dCons_ok h; obtain ⟨a4_, r5_, rfl, h⟩ := h
  replace h := dPl_ok h; obtain ⟨p1, rfl, h⟩ := h
  replace h := dCons_ok h; obtain ⟨a6_, r7_, rfl, h⟩ := h
  replace h := dPl_ok h; obtain ⟨p2, rfl, h⟩ := h
  replace h := dCons_ok h; obtain ⟨a8_, r9_, rfl, h⟩ := h
  replace h := dPl_ok h; obtain ⟨p3, rfl, h⟩ := h
  replace h := dNil_ok h; obtain ⟨rfl, h⟩ := h
  replace h := dNil_ok h; obtain ⟨rfl, h⟩ := h
  replace h := dEnd_ok h; obtain ⟨rfl, h⟩ := h
  refine fun_ok (nt := 16) (x := bodyOf Try.f60) (Γ := Γ60) (H := H60) (WW := W60) (rs := [.cell 2 37, .tmp 3]) (shs := [.ag [.own .int, .own .int, .own .int, .own .bool, .own .int], .bl]) (cons := []) mixed Try.func60 (by decide) (by kernel_rfl) Try.ntmps60 Try.results60 (.cons (useC_ok s88) (.cons (useC_ok s106) (GSound.nil))) ?_ hA hN R hl
  rw [ht, e60 p1 p2 p3 K]
  exact h
/-! slices.Clone[[]int,int] -/
def G102 : Con := fun args tm K => dCons args fun a1_ r2_ => dPl .int a1_ fun p1 => dNil r2_ <| dEnd tm <| M_Clone_int p1 (fun r1 => K (.sl 0) [⟨true, .list .int r1⟩])
def H102 : List (Nat × LH) := []
def W102 : List (Nat × List (Nat × List Nat)) := []
def Γ102 : List (Nat × Con) := []
theorem e102 (p1 : List Int) (K : TV → TMem → Prop) : TW PP 8 Γ102 H102 W102 (List.length ([] : TMem)) (bodyOf Try.f102) (endT PP 8 [.tmp 2] [.own .int] [] (List.length ([] : TMem)) K) (argsF [.pl .int p1]) [] =
    M_Clone_int p1 (fun r1 => K (.sl 0) [⟨true, .list .int r1⟩]) := by kernel_rfl
theorem s102 : CSound PP 102 G102 := by
  intro args K c h fl A aargs hA hN R hl
  unfold G102 at h
  generalize ht : c.tm = tm at h
  replace h := dCons_ok h; obtain ⟨a1_, r2_, rfl, h⟩ := h
  replace h := dPl_ok h; obtain ⟨p1, rfl, h⟩ := h
  replace h := dNil_ok h; obtain ⟨rfl, h⟩ := h
  replace h := dEnd_ok h; obtain ⟨rfl, h⟩ := h
  refine fun_ok (nt := 8) (x := bodyOf Try.f102) (Γ := Γ102) (H := H102) (WW := W102) (rs := [.tmp 2]) (shs := [.own .int]) (cons := []) mixed Try.func102 (by decide) (by kernel_rfl) Try.ntmps102 Try.results102 (GSound.nil) ?_ hA hN R hl
  rw [ht, e102 p1 K]
  exact h
/-! impl.copied -/
def G113 : Con := fun args tm K => dCons args fun a1_ r2_ => dAgg a1_ fun l3_ => dCons l3_ fun a4_ r5_ => dPl .int a4_ fun p1 => dCons r5_ fun a6_ r7_ => dPl .int a6_ fun p2 => dCons r7_ fun a8_ r9_ => dPl .int a8_ fun p3 => dNil r9_ <| dNil r2_ <| dEnd tm <| Mi_copied p1 p2 p3 (fun r1 r2 r3 => K (.agg [.sl 0, .sl 1, .sl 2]) [⟨true, .list .int r1⟩, ⟨true, .list .int r2⟩, ⟨true, .list .int r3⟩])
def H113 : List (Nat × LH) := []
def W113 : List (Nat × List (Nat × List Nat)) := []
def Γ113 : List (Nat × Con) := [(102, useC [.pure .int] G102)]
theorem e113 (p1 : List Int) (p2 : List Int) (p3 : List Int) (K : TV → TMem → Prop) : TW PP 13 Γ113 H113 W113 (List.length ([] : TMem)) (bodyOf Try.f113) (endT PP 13 [.cell 2 25] [.ag [.own .int, .own .int, .own .int]] [] (List.length ([] : TMem)) K) (argsF [.agg [.pl .int p1, .pl .int p2, .pl .int p3]]) [] =
    Mi_copied p1 p2 p3 (fun r1 r2 r3 => K (.agg [.sl 0, .sl 1, .sl 2]) [⟨true, .list .int r1⟩, ⟨true, .list .int r2⟩, ⟨true, .list .int r3⟩]) := by kernel_rfl
theorem s113 : CSound PP 113 G113 := by
  intro args K c h fl A aargs hA hN R hl
  unfold G113 at h
  generalize ht : c.tm = tm at h
  replace h := dCons_ok h; obtain ⟨a1_, r2_, rfl, h⟩ := h
  replace h := dAgg_ok h; obtain ⟨l3_, rfl, h⟩ := h
  replace h := dCons_ok h; obtain ⟨a4_, r5_, rfl, h⟩ := h
  replace h := dPl_ok h; obtain ⟨p1, rfl, h⟩ := h
  replace h := dCons_ok h; obtain ⟨a6_, r7_, rfl, h⟩ := h
  replace h := dPl_ok h; obtain ⟨p2, rfl, h⟩ := h
  replace h := dCons_ok h; obtain ⟨a8_, r9_, rfl, h⟩ := h
  replace h := dPl_ok h; obtain ⟨p3, rfl, h⟩ := h
  replace h := dNil_ok h; obtain ⟨rfl, h⟩ := h
  replace h := dNil_ok h; obtain ⟨rfl, h⟩ := h
  replace h := dEnd_ok h; obtain ⟨rfl, h⟩ := h
  refine fun_ok (nt := 13) (x := bodyOf Try.f113) (Γ := Γ113) (H := H113) (WW := W113) (rs := [.cell 2 25]) (shs := [.ag [.own .int, .own .int, .own .int]]) (cons := []) mixed Try.func113 (by decide) (by kernel_rfl) Try.ntmps113 Try.results113 (.cons (useC_ok s102) (GSound.nil)) ?_ hA hN R hl
  rw [ht, e113 p1 p2 p3 K]
  exact h
/-! impl.remembered$1 -/
def G132 : Con := fun args tm K => dCons args fun a1_ r2_ => dInt .i64 a1_ fun p1 => dCons r2_ fun a3_ r4_ => dPtr 0 a3_ <| dNil r4_ <| dBlk true tm fun b5_ m6_ => dCells b5_ fun c7_ => dCons c7_ fun a8_ r9_ => dPl .bool a8_ fun p2 => dNil r9_ <| dEnd m6_ <| Mi_remembered_1 p1 p2 (fun r1 => K (.bool r1) [⟨true, .cells [.pl .bool p2]⟩])
def H132 : List (Nat × LH) := []
def W132 : List (Nat × List (Nat × List Nat)) := []
def Γ132 : List (Nat × Con) := []
theorem e132 (p1 : Int) (p2 : List Bool) (K : TV → TMem → Prop) : TW PP 13 Γ132 H132 W132 (List.length ([⟨true, .cells [.pl .bool p2]⟩] : TMem)) (bodyOf Try.f132) (endT PP 13 [.tmp 3] [.bl] [] (List.length ([⟨true, .cells [.pl .bool p2]⟩] : TMem)) K) (argsF [.int .i64 p1, .ptr 0 0]) [⟨true, .cells [.pl .bool p2]⟩] =
    Mi_remembered_1 p1 p2 (fun r1 => K (.bool r1) [⟨true, .cells [.pl .bool p2]⟩]) := by kernel_rfl
theorem s132 : CSound PP 132 G132 := by
  intro args K c h fl A aargs hA hN R hl
  unfold G132 at h
  generalize ht : c.tm = tm at h
  replace h := dCons_ok h; obtain ⟨a1_, r2_, rfl, h⟩ := h
  replace h := dInt_ok h; obtain ⟨p1, rfl, h⟩ := h
  replace h := dCons_ok h; obtain ⟨a3_, r4_, rfl, h⟩ := h
  replace h := dPtr_ok h; obtain ⟨rfl, h⟩ := h
  replace h := dNil_ok h; obtain ⟨rfl, h⟩ := h
  replace h := dBlk_ok h; obtain ⟨b5_, m6_, rfl, h⟩ := h
  replace h := dCells_ok h; obtain ⟨c7_, rfl, h⟩ := h
  replace h := dCons_ok h; obtain ⟨a8_, r9_, rfl, h⟩ := h
  replace h := dPl_ok h; obtain ⟨p2, rfl, h⟩ := h
  replace h := dNil_ok h; obtain ⟨rfl, h⟩ := h
  replace h := dEnd_ok h; obtain ⟨rfl, h⟩ := h
  refine fun_ok (nt := 13) (x := bodyOf Try.f132) (Γ := Γ132) (H := H132) (WW := W132) (rs := [.tmp 3]) (shs := [.bl]) (cons := []) mixed Try.func132 (by decide) (by kernel_rfl) Try.ntmps132 Try.results132 (GSound.nil) ?_ hA hN R hl
  rw [ht, e132 p1 p2 K]
  exact h
/-! impl.remembered -/
def G96 : Con := fun args tm K => dCons args fun a1_ r2_ => dAgg a1_ fun l3_ => dCons l3_ fun a4_ r5_ => dPl .int a4_ fun p1 => dCons r5_ fun a6_ r7_ => dPl .int a6_ fun p2 => dCons r7_ fun a8_ r9_ => dPl .int a8_ fun p3 => dNil r9_ <| dCons r2_ fun a10_ r11_ => dPl .bool a10_ fun p4 => dNil r11_ <| dEnd tm <| Mi_remembered p1 p2 p3 p4 (fun r1 => K (.sl 0) [⟨true, .list .int r1⟩])
def H96_0 : LH where
  keep := [(2, .pc [.pure .int, .pure .int, .pure .int]), (5, .x), (6, .own .int), (11, .pure .bool), (12, .x), (13, .x)]
  S := List Bool × Int × Int × List Int × List Int × List Int × List Bool × List Int
  enc := fun s => ([.ptr 0 0, .fn 132 [] [.ptr 1 0], .sl 2, .pl .bool s.1, .int .i64 s.2.1, .int .i64 s.2.2.1], [⟨true, .cells [.pl .int s.2.2.2.1, .pl .int s.2.2.2.2.1, .pl .int s.2.2.2.2.2.1]⟩, ⟨true, .cells [.pl .bool s.2.2.2.2.2.2.1]⟩, ⟨true, .list .int s.2.2.2.2.2.2.2⟩])
  dec := fun vs tm K => dCons vs fun a1_ r2_ => dPtr 0 a1_ <| dCons r2_ fun a3_ r4_ => dFn 132 a3_ fun x5_ y6_ => dNil x5_ <| dCons y6_ fun a7_ r8_ => dPtr 1 a7_ <| dNil r8_ <| dCons r4_ fun a9_ r10_ => dSl 2 a9_ <| dCons r10_ fun a11_ r12_ => dPl .bool a11_ fun q0 => dCons r12_ fun a13_ r14_ => dInt .i64 a13_ fun q1 => dCons r14_ fun a15_ r16_ => dInt .i64 a15_ fun q2 => dNil r16_ <| dBlk true tm fun b17_ m18_ => dCells b17_ fun c19_ => dCons c19_ fun a20_ r21_ => dPl .int a20_ fun q3 => dCons r21_ fun a22_ r23_ => dPl .int a22_ fun q4 => dCons r23_ fun a24_ r25_ => dPl .int a24_ fun q5 => dNil r25_ <| dBlk true m18_ fun b26_ m27_ => dCells b26_ fun c28_ => dCons c28_ fun a29_ r30_ => dPl .bool a29_ fun q6 => dNil r30_ <| dBlk true m27_ fun b31_ m32_ => dList .int b31_ fun q7 => dEnd m32_ <| K (q0, q1, q2, q3, q4, q5, q6, q7)
  law := by
    intro vs tm K h
    replace h := dCons_ok h; obtain ⟨a1_, r2_, rfl, h⟩ := h
    replace h := dPtr_ok h; obtain ⟨rfl, h⟩ := h
    replace h := dCons_ok h; obtain ⟨a3_, r4_, rfl, h⟩ := h
    replace h := dFn_ok h; obtain ⟨x5_, y6_, rfl, h⟩ := h
    replace h := dNil_ok h; obtain ⟨rfl, h⟩ := h
    replace h := dCons_ok h; obtain ⟨a7_, r8_, rfl, h⟩ := h
    replace h := dPtr_ok h; obtain ⟨rfl, h⟩ := h
    replace h := dNil_ok h; obtain ⟨rfl, h⟩ := h
    replace h := dCons_ok h; obtain ⟨a9_, r10_, rfl, h⟩ := h
    replace h := dSl_ok h; obtain ⟨rfl, h⟩ := h
    replace h := dCons_ok h; obtain ⟨a11_, r12_, rfl, h⟩ := h
    replace h := dPl_ok h; obtain ⟨q0, rfl, h⟩ := h
    replace h := dCons_ok h; obtain ⟨a13_, r14_, rfl, h⟩ := h
    replace h := dInt_ok h; obtain ⟨q1, rfl, h⟩ := h
    replace h := dCons_ok h; obtain ⟨a15_, r16_, rfl, h⟩ := h
    replace h := dInt_ok h; obtain ⟨q2, rfl, h⟩ := h
    replace h := dNil_ok h; obtain ⟨rfl, h⟩ := h
    replace h := dBlk_ok h; obtain ⟨b17_, m18_, rfl, h⟩ := h
    replace h := dCells_ok h; obtain ⟨c19_, rfl, h⟩ := h
    replace h := dCons_ok h; obtain ⟨a20_, r21_, rfl, h⟩ := h
    replace h := dPl_ok h; obtain ⟨q3, rfl, h⟩ := h
    replace h := dCons_ok h; obtain ⟨a22_, r23_, rfl, h⟩ := h
    replace h := dPl_ok h; obtain ⟨q4, rfl, h⟩ := h
    replace h := dCons_ok h; obtain ⟨a24_, r25_, rfl, h⟩ := h
    replace h := dPl_ok h; obtain ⟨q5, rfl, h⟩ := h
    replace h := dNil_ok h; obtain ⟨rfl, h⟩ := h
    replace h := dBlk_ok h; obtain ⟨b26_, m27_, rfl, h⟩ := h
    replace h := dCells_ok h; obtain ⟨c28_, rfl, h⟩ := h
    replace h := dCons_ok h; obtain ⟨a29_, r30_, rfl, h⟩ := h
    replace h := dPl_ok h; obtain ⟨q6, rfl, h⟩ := h
    replace h := dNil_ok h; obtain ⟨rfl, h⟩ := h
    replace h := dBlk_ok h; obtain ⟨b31_, m32_, rfl, h⟩ := h
    replace h := dList_ok h; obtain ⟨q7, rfl, h⟩ := h
    replace h := dEnd_ok h; obtain ⟨rfl, h⟩ := h
    exact ⟨(q0, q1, q2, q3, q4, q5, q6, q7), rfl, h⟩
def H96 : List (Nat × LH) := [(0, H96_0)]
def W96 : List (Nat × List (Nat × List Nat)) := []
def Γ96 : List (Nat × Con) := [(132, useC [.x, .pc [.pure .bool]] G132)]
theorem e96 (p1 : List Int) (p2 : List Int) (p3 : List Int) (p4 : List Bool) (K : TV → TMem → Prop) : TW PP 43 Γ96 H96 W96 (List.length ([] : TMem)) (bodyOf Try.f96) (endT PP 43 [.tmp 4] [.own .int] [] (List.length ([] : TMem)) K) (argsF [.agg [.pl .int p1, .pl .int p2, .pl .int p3], .pl .bool p4]) [] =
    Mi_remembered p1 p2 p3 p4 (fun r1 => K (.sl 0) [⟨true, .list .int r1⟩]) := by kernel_rfl
theorem s96 : CSound PP 96 G96 := by
  intro args K c h fl A aargs hA hN R hl
  unfold G96 at h
  generalize ht : c.tm = tm at h
  replace h := dCons_ok h; obtain ⟨a1_, r2_, rfl, h⟩ := h
  replace h := dAgg_ok h; obtain ⟨l3_, rfl, h⟩ := h
  replace h := dCons_ok h; obtain ⟨a4_, r5_, rfl, h⟩ := h
  replace h := dPl_ok h; obtain ⟨p1, rfl, h⟩ := h
  replace h := dCons_ok h; obtain ⟨a6_, r7_, rfl, h⟩ := h
  replace h := dPl_ok h; obtain ⟨p2, rfl, h⟩ := h
  replace h := dCons_ok h; obtain ⟨a8_, r9_, rfl, h⟩ := h
  replace h := dPl_ok h; obtain ⟨p3, rfl, h⟩ := h
  replace h := dNil_ok h; obtain ⟨rfl, h⟩ := h
  replace h := dCons_ok h; obtain ⟨a10_, r11_, rfl, h⟩ := h
  replace h := dPl_ok h; obtain ⟨p4, rfl, h⟩ := h
  replace h := dNil_ok h; obtain ⟨rfl, h⟩ := h
  replace h := dEnd_ok h; obtain ⟨rfl, h⟩ := h
  refine fun_ok (nt := 43) (x := bodyOf Try.f96) (Γ := Γ96) (H := H96) (WW := W96) (rs := [.tmp 4]) (shs := [.own .int]) (cons := []) mixed Try.func96 (by decide) (by kernel_rfl) Try.ntmps96 Try.results96 (.cons (useC_ok s132) (GSound.nil)) ?_ hA hN R hl
  rw [ht, e96 p1 p2 p3 p4 K]
  exact h
/-! slices.Equal[[]int,int] -/
def G101 : Con := fun args tm K => dCons args fun a1_ r2_ => dPl .int a1_ fun p1 => dCons r2_ fun a3_ r4_ => dPl .int a3_ fun p2 => dNil r4_ <| dEnd tm <| M_Equal_int p1 p2 (fun r1 => K (.bool r1) [])
def H101_0 : LH where
  keep := [(0, .pure .int), (1, .pure .int), (12, .x), (13, .x)]
  S := List Int × List Int × Int × Int
  enc := fun s => ([.pl .int s.1, .pl .int s.2.1, .int .i64 s.2.2.1, .int .i64 s.2.2.2], [])
  dec := fun vs tm K => dCons vs fun a1_ r2_ => dPl .int a1_ fun q0 => dCons r2_ fun a3_ r4_ => dPl .int a3_ fun q1 => dCons r4_ fun a5_ r6_ => dInt .i64 a5_ fun q2 => dCons r6_ fun a7_ r8_ => dInt .i64 a7_ fun q3 => dNil r8_ <| dEnd tm <| K (q0, q1, q2, q3)
  law := by
    intro vs tm K h
    replace h := dCons_ok h; obtain ⟨a1_, r2_, rfl, h⟩ := h
    replace h := dPl_ok h; obtain ⟨q0, rfl, h⟩ := h
    replace h := dCons_ok h; obtain ⟨a3_, r4_, rfl, h⟩ := h
    replace h := dPl_ok h; obtain ⟨q1, rfl, h⟩ := h
    replace h := dCons_ok h; obtain ⟨a5_, r6_, rfl, h⟩ := h
    replace h := dInt_ok h; obtain ⟨q2, rfl, h⟩ := h
    replace h := dCons_ok h; obtain ⟨a7_, r8_, rfl, h⟩ := h
    replace h := dInt_ok h; obtain ⟨q3, rfl, h⟩ := h
    replace h := dNil_ok h; obtain ⟨rfl, h⟩ := h
    replace h := dEnd_ok h; obtain ⟨rfl, h⟩ := h
    exact ⟨(q0, q1, q2, q3), rfl, h⟩
def H101 : List (Nat × LH) := [(0, H101_0)]
def W101 : List (Nat × List (Nat × List Nat)) := []
def Γ101 : List (Nat × Con) := []
theorem e101 (p1 : List Int) (p2 : List Int) (K : TV → TMem → Prop) : TW PP 26 Γ101 H101 W101 (List.length ([] : TMem)) (bodyOf Try.f101) (endT PP 26 [.tmp 4] [.bl] [] (List.length ([] : TMem)) K) (argsF [.pl .int p1, .pl .int p2]) [] =
    M_Equal_int p1 p2 (fun r1 => K (.bool r1) []) := by kernel_rfl
theorem s101 : CSound PP 101 G101 := by
  intro args K c h fl A aargs hA hN R hl
  unfold G101 at h
  generalize ht : c.tm = tm at h
  replace h := dCons_ok h; obtain ⟨a1_, r2_, rfl, h⟩ := h
  replace h := dPl_ok h; obtain ⟨p1, rfl, h⟩ := h
  replace h := dCons_ok h; obtain ⟨a3_, r4_, rfl, h⟩ := h
  replace h := dPl_ok h; obtain ⟨p2, rfl, h⟩ := h
  replace h := dNil_ok h; obtain ⟨rfl, h⟩ := h
  replace h := dEnd_ok h; obtain ⟨rfl, h⟩ := h
  refine fun_ok (nt := 26) (x := bodyOf Try.f101) (Γ := Γ101) (H := H101) (WW := W101) (rs := [.tmp 4]) (shs := [.bl]) (cons := []) mixed Try.func101 (by decide) (by kernel_rfl) Try.ntmps101 Try.results101 (GSound.nil) ?_ hA hN R hl
  rw [ht, e101 p1 p2 K]
  exact h
/-! impl.GensValid -/
def G42 : Con := fun args tm K => dCons args fun a1_ r2_ => dAgg a1_ fun l3_ => dCons l3_ fun a4_ r5_ => dPl .int a4_ fun p1 => dCons r5_ fun a6_ r7_ => dPl .int a6_ fun p2 => dCons r7_ fun a8_ r9_ => dPl .int a8_ fun p3 => dCons r9_ fun a10_ r11_ => dPl .bool a10_ fun p4 => dCons r11_ fun a12_ r13_ => dPl .int a12_ fun p5 => dNil r13_ <| dNil r2_ <| dEnd tm <| Mi_GensValid p1 p2 p3 p4 p5 (fun r1 => K (.bool r1) [])
def H42 : List (Nat × LH) := []
def W42 : List (Nat × List (Nat × List Nat)) := []
def Γ42 : List (Nat × Con) := [(34, useC [.ag [.pure .int, .pure .int, .pure .int]] G34), (96, useC [.ag [.pure .int, .pure .int, .pure .int], .pure .bool] G96), (101, useC [.pure .int, .pure .int] G101)]
theorem e42 (p1 : List Int) (p2 : List Int) (p3 : List Int) (p4 : List Bool) (p5 : List Int) (K : TV → TMem → Prop) : TW PP 26 Γ42 H42 W42 (List.length ([] : TMem)) (bodyOf Try.f42) (endT PP 26 [.tmp 2] [.bl] [] (List.length ([] : TMem)) K) (argsF [.agg [.pl .int p1, .pl .int p2, .pl .int p3, .pl .bool p4, .pl .int p5]]) [] =
    Mi_GensValid p1 p2 p3 p4 p5 (fun r1 => K (.bool r1) []) := by kernel_rfl
theorem s42 : CSound PP 42 G42 := by
  intro args K c h fl A aargs hA hN R hl
  unfold G42 at h
  generalize ht : c.tm = tm at h
  replace h := dCons_ok h; obtain ⟨a1_, r2_, rfl, h⟩ := h
  replace h := dAgg_ok h; obtain ⟨l3_, rfl, h⟩ := h
  replace h := dCons_ok h; obtain ⟨a4_, r5_, rfl, h⟩ := h
  replace h := dPl_ok h; obtain ⟨p1, rfl, h⟩ := h
  replace h := dCons_ok h; obtain ⟨a6_, r7_, rfl, h⟩ := h
  replace h := dPl_ok h; obtain ⟨p2, rfl, h⟩ := h
  replace h := dCons_ok h; obtain ⟨a8_, r9_, rfl, h⟩ := h
  replace h := dPl_ok h; obtain ⟨p3, rfl, h⟩ := h
  replace h := dCons_ok h; obtain ⟨a10_, r11_, rfl, h⟩ := h
  replace h := dPl_ok h; obtain ⟨p4, rfl, h⟩ := h
  replace h := dCons_ok h; obtain ⟨a12_, r13_, rfl, h⟩ := h
  replace h := dPl_ok h; obtain ⟨p5, rfl, h⟩ := h
  replace h := dNil_ok h; obtain ⟨rfl, h⟩ := h
  replace h := dNil_ok h; obtain ⟨rfl, h⟩ := h
  replace h := dEnd_ok h; obtain ⟨rfl, h⟩ := h
  refine fun_ok (nt := 26) (x := bodyOf Try.f42) (Γ := Γ42) (H := H42) (WW := W42) (rs := [.tmp 2]) (shs := [.bl]) (cons := []) mixed Try.func42 (by decide) (by kernel_rfl) Try.ntmps42 Try.results42 (.cons (useC_ok s34) (.cons (useC_ok s96) (.cons (useC_ok s101) (GSound.nil)))) ?_ hA hN R hl
  rw [ht, e42 p1 p2 p3 p4 p5 K]
  exact h
/-! slices.Clone[[]bool,bool] -/
def G95 : Con := fun args tm K => dCons args fun a1_ r2_ => dPl .bool a1_ fun p1 => dNil r2_ <| dEnd tm <| M_Clone_bool p1 (fun r1 => K (.sl 0) [⟨true, .list .bool r1⟩])
def H95 : List (Nat × LH) := []
def W95 : List (Nat × List (Nat × List Nat)) := []
def Γ95 : List (Nat × Con) := []
theorem e95 (p1 : List Bool) (K : TV → TMem → Prop) : TW PP 8 Γ95 H95 W95 (List.length ([] : TMem)) (bodyOf Try.f95) (endT PP 8 [.tmp 2] [.own .bool] [] (List.length ([] : TMem)) K) (argsF [.pl .bool p1]) [] =
    M_Clone_bool p1 (fun r1 => K (.sl 0) [⟨true, .list .bool r1⟩]) := by kernel_rfl
theorem s95 : CSound PP 95 G95 := by
  intro args K c h fl A aargs hA hN R hl
  unfold G95 at h
  generalize ht : c.tm = tm at h
  replace h := dCons_ok h; obtain ⟨a1_, r2_, rfl, h⟩ := h
  replace h := dPl_ok h; obtain ⟨p1, rfl, h⟩ := h
  replace h := dNil_ok h; obtain ⟨rfl, h⟩ := h
  replace h := dEnd_ok h; obtain ⟨rfl, h⟩ := h
  refine fun_ok (nt := 8) (x := bodyOf Try.f95) (Γ := Γ95) (H := H95) (WW := W95) (rs := [.tmp 2]) (shs := [.own .bool]) (cons := []) mixed Try.func95 (by decide) (by kernel_rfl) Try.ntmps95 Try.results95 (GSound.nil) ?_ hA hN R hl
  rw [ht, e95 p1 K]
  exact h
/-! impl.HeapSame -/
def G57 : Con := fun args tm K => dCons args fun a1_ r2_ => dAgg a1_ fun l3_ => dCons l3_ fun a4_ r5_ => dPl .int a4_ fun p1 => dCons r5_ fun a6_ r7_ => dPl .int a6_ fun p2 => dCons r7_ fun a8_ r9_ => dPl .int a8_ fun p3 => dNil r9_ <| dCons r2_ fun a10_ r11_ => dAgg a10_ fun l12_ => dCons l12_ fun a13_ r14_ => dPl .int a13_ fun p4 => dCons r14_ fun a15_ r16_ => dPl .int a15_ fun p5 => dCons r16_ fun a17_ r18_ => dPl .int a17_ fun p6 => dNil r18_ <| dNil r11_ <| dEnd tm <| Mi_HeapSame p1 p2 p3 p4 p5 p6 (fun r1 => K (.bool r1) [])
def H57 : List (Nat × LH) := []
def W57 : List (Nat × List (Nat × List Nat)) := []
def Γ57 : List (Nat × Con) := [(101, useC [.pure .int, .pure .int] G101)]
theorem e57 (p1 : List Int) (p2 : List Int) (p3 : List Int) (p4 : List Int) (p5 : List Int) (p6 : List Int) (K : TV → TMem → Prop) : TW PP 24 Γ57 H57 W57 (List.length ([] : TMem)) (bodyOf Try.f57) (endT PP 24 [.tmp 4] [.bl] [] (List.length ([] : TMem)) K) (argsF [.agg [.pl .int p1, .pl .int p2, .pl .int p3], .agg [.pl .int p4, .pl .int p5, .pl .int p6]]) [] =
    Mi_HeapSame p1 p2 p3 p4 p5 p6 (fun r1 => K (.bool r1) []) := by kernel_rfl
theorem s57 : CSound PP 57 G57 := by
  intro args K c h fl A aargs hA hN R hl
  unfold G57 at h
  generalize ht : c.tm = tm at h
  replace h := dCons_ok h; obtain ⟨a1_, r2_, rfl, h⟩ := h
  replace h := dAgg_ok h; obtain ⟨l3_, rfl, h⟩ := h
  replace h := dCons_ok h; obtain ⟨a4_, r5_, rfl, h⟩ := h
  replace h := dPl_ok h; obtain ⟨p1, rfl, h⟩ := h
  replace h := dCons_ok h; obtain ⟨a6_, r7_, rfl, h⟩ := h
  replace h := dPl_ok h; obtain ⟨p2, rfl, h⟩ := h
  replace h := dCons_ok h; obtain ⟨a8_, r9_, rfl, h⟩ := h
  replace h := dPl_ok h; obtain ⟨p3, rfl, h⟩ := h
  replace h := dNil_ok h; obtain ⟨rfl, h⟩ := h
  replace h := dCons_ok h; obtain ⟨a10_, r11_, rfl, h⟩ := h
  replace h := dAgg_ok h; obtain ⟨l12_, rfl, h⟩ := h
  replace h := dCons_ok h; obtain ⟨a13_, r14_, rfl, h⟩ := h
  replace h := dPl_ok h; obtain ⟨p4, rfl, h⟩ := h
  replace h := dCons_ok h; obtain ⟨a15_, r16_, rfl, h⟩ := h
  replace h := dPl_ok h; obtain ⟨p5, rfl, h⟩ := h
  replace h := dCons_ok h; obtain ⟨a17_, r18_, rfl, h⟩ := h
  replace h := dPl_ok h; obtain ⟨p6, rfl, h⟩ := h
  replace h := dNil_ok h; obtain ⟨rfl, h⟩ := h
  replace h := dNil_ok h; obtain ⟨rfl, h⟩ := h
  replace h := dEnd_ok h; obtain ⟨rfl, h⟩ := h
  refine fun_ok (nt := 24) (x := bodyOf Try.f57) (Γ := Γ57) (H := H57) (WW := W57) (rs := [.tmp 4]) (shs := [.bl]) (cons := []) mixed Try.func57 (by decide) (by kernel_rfl) Try.ntmps57 Try.results57 (.cons (useC_ok s101) (GSound.nil)) ?_ hA hN R hl
  rw [ht, e57 p1 p2 p3 p4 p5 p6 K]
  exact h
/-! slices.Equal[[]bool,bool] -/
def G100 : Con := fun args tm K => dCons args fun a1_ r2_ => dPl .bool a1_ fun p1 => dCons r2_ fun a3_ r4_ => dPl .bool a3_ fun p2 => dNil r4_ <| dEnd tm <| M_Equal_bool p1 p2 (fun r1 => K (.bool r1) [])
def H100_0 : LH where
  keep := [(0, .pure .bool), (1, .pure .bool), (12, .x), (13, .x)]
  S := List Bool × List Bool × Int × Int
  enc := fun s => ([.pl .bool s.1, .pl .bool s.2.1, .int .i64 s.2.2.1, .int .i64 s.2.2.2], [])
  dec := fun vs tm K => dCons vs fun a1_ r2_ => dPl .bool a1_ fun q0 => dCons r2_ fun a3_ r4_ => dPl .bool a3_ fun q1 => dCons r4_ fun a5_ r6_ => dInt .i64 a5_ fun q2 => dCons r6_ fun a7_ r8_ => dInt .i64 a7_ fun q3 => dNil r8_ <| dEnd tm <| K (q0, q1, q2, q3)
  law := by
    intro vs tm K h
    replace h := dCons_ok h; obtain ⟨a1_, r2_, rfl, h⟩ := h
    replace h := dPl_ok h; obtain ⟨q0, rfl, h⟩ := h
    replace h := dCons_ok h; obtain ⟨a3_, r4_, rfl, h⟩ := h
    replace h := dPl_ok h; obtain ⟨q1, rfl, h⟩ := h
    replace h := dCons_ok h; obtain ⟨a5_, r6_, rfl, h⟩ := h
    replace h := dInt_ok h; obtain ⟨q2, rfl, h⟩ := h
    replace h := dCons_ok h; obtain ⟨a7_, r8_, rfl, h⟩ := h
    replace h := dInt_ok h; obtain ⟨q3, rfl, h⟩ := h
    replace h := dNil_ok h; obtain ⟨rfl, h⟩ := h
    replace h := dEnd_ok h; obtain ⟨rfl, h⟩ := h
    exact ⟨(q0, q1, q2, q3), rfl, h⟩
def H100 : List (Nat × LH) := [(0, H100_0)]
def W100 : List (Nat × List (Nat × List Nat)) := []
def Γ100 : List (Nat × Con) := []
theorem e100 (p1 : List Bool) (p2 : List Bool) (K : TV → TMem → Prop) : TW PP 26 Γ100 H100 W100 (List.length ([] : TMem)) (bodyOf Try.f100) (endT PP 26 [.tmp 4] [.bl] [] (List.length ([] : TMem)) K) (argsF [.pl .bool p1, .pl .bool p2]) [] =
    M_Equal_bool p1 p2 (fun r1 => K (.bool r1) []) := by kernel_rfl
theorem s100 : CSound PP 100 G100 := by
  intro args K c h fl A aargs hA hN R hl
  unfold G100 at h
  generalize ht : c.tm = tm at h
  replace h := dCons_ok h; obtain ⟨a1_, r2_, rfl, h⟩ := h
  replace h := dPl_ok h; obtain ⟨p1, rfl, h⟩ := h
  replace h := dCons_ok h; obtain ⟨a3_, r4_, rfl, h⟩ := h
  replace h := dPl_ok h; obtain ⟨p2, rfl, h⟩ := h
  replace h := dNil_ok h; obtain ⟨rfl, h⟩ := h
  replace h := dEnd_ok h; obtain ⟨rfl, h⟩ := h
  refine fun_ok (nt := 26) (x := bodyOf Try.f100) (Γ := Γ100) (H := H100) (WW := W100) (rs := [.tmp 4]) (shs := [.bl]) (cons := []) mixed Try.func100 (by decide) (by kernel_rfl) Try.ntmps100 Try.results100 (GSound.nil) ?_ hA hN R hl
  rw [ht, e100 p1 p2 K]
  exact h
/-! impl.GensSame -/
def G41 : Con := fun args tm K => dCons args fun a1_ r2_ => dAgg a1_ fun l3_ => dCons l3_ fun a4_ r5_ => dPl .int a4_ fun p1 => dCons r5_ fun a6_ r7_ => dPl .int a6_ fun p2 => dCons r7_ fun a8_ r9_ => dPl .int a8_ fun p3 => dCons r9_ fun a10_ r11_ => dPl .bool a10_ fun p4 => dCons r11_ fun a12_ r13_ => dPl .int a12_ fun p5 => dNil r13_ <| dCons r2_ fun a14_ r15_ => dAgg a14_ fun l16_ => dCons l16_ fun a17_ r18_ => dPl .int a17_ fun p6 => dCons r18_ fun a19_ r20_ => dPl .int a19_ fun p7 => dCons r20_ fun a21_ r22_ => dPl .int a21_ fun p8 => dCons r22_ fun a23_ r24_ => dPl .bool a23_ fun p9 => dCons r24_ fun a25_ r26_ => dPl .int a25_ fun p10 => dNil r26_ <| dNil r15_ <| dEnd tm <| Mi_GensSame p1 p2 p3 p4 p5 p6 p7 p8 p9 p10 (fun r1 => K (.bool r1) [])
def H41 : List (Nat × LH) := []
def W41 : List (Nat × List (Nat × List Nat)) := []
def Γ41 : List (Nat × Con) := [(57, useC [.ag [.pure .int, .pure .int, .pure .int], .ag [.pure .int, .pure .int, .pure .int]] G57), (100, useC [.pure .bool, .pure .bool] G100), (101, useC [.pure .int, .pure .int] G101)]
theorem e41 (p1 : List Int) (p2 : List Int) (p3 : List Int) (p4 : List Bool) (p5 : List Int) (p6 : List Int) (p7 : List Int) (p8 : List Int) (p9 : List Bool) (p10 : List Int) (K : TV → TMem → Prop) : TW PP 24 Γ41 H41 W41 (List.length ([] : TMem)) (bodyOf Try.f41) (endT PP 24 [.tmp 4] [.bl] [] (List.length ([] : TMem)) K) (argsF [.agg [.pl .int p1, .pl .int p2, .pl .int p3, .pl .bool p4, .pl .int p5], .agg [.pl .int p6, .pl .int p7, .pl .int p8, .pl .bool p9, .pl .int p10]]) [] =
    Mi_GensSame p1 p2 p3 p4 p5 p6 p7 p8 p9 p10 (fun r1 => K (.bool r1) []) := by kernel_rfl
theorem s41 : CSound PP 41 G41 := by
  intro args K c h fl A aargs hA hN R hl
  unfold G41 at h
  generalize ht : c.tm = tm at h
  replace h := dCons_ok h; obtain ⟨a1_, r2_, rfl, h⟩ := h
  replace h := dAgg_ok h; obtain ⟨l3_, rfl, h⟩ := h
  replace h := dCons_ok h; obtain ⟨a4_, r5_, rfl, h⟩ := h
  replace h := dPl_ok h; obtain ⟨p1, rfl, h⟩ := h
  replace h := dCons_ok h; obtain ⟨a6_, r7_, rfl, h⟩ := h
  replace h := dPl_ok h; obtain ⟨p2, rfl, h⟩ := h
  replace h := dCons_ok h; obtain ⟨a8_, r9_, rfl, h⟩ := h
  replace h := dPl_ok h; obtain ⟨p3, rfl, h⟩ := h
  replace h := dCons_ok h; obtain ⟨a10_, r11_, rfl, h⟩ := h
  replace h := dPl_ok h; obtain ⟨p4, rfl, h⟩ := h
  replace h := dCons_ok h; obtain ⟨a12_, r13_, rfl, h⟩ := h
  replace h := dPl_ok h; obtain ⟨p5, rfl, h⟩ := h
  replace h := dNil_ok h; obtain ⟨rfl, h⟩ := h
  replace h := dCons_ok h; obtain ⟨a14_, r15_, rfl, h⟩ := h
  replace h := dAgg_ok h; obtain ⟨l16_, rfl, h⟩ := h
  replace h := dCons_ok h; obtain ⟨a17_, r18_, rfl, h⟩ := h
  replace h := dPl_ok h; obtain ⟨p6, rfl, h⟩ := h
  replace h := dCons_ok h; obtain ⟨a19_, r20_, rfl, h⟩ := h
  replace h := dPl_ok h; obtain ⟨p7, rfl, h⟩ := h
  replace h := dCons_ok h; obtain ⟨a21_, r22_, rfl, h⟩ := h
  replace h := dPl_ok h; obtain ⟨p8, rfl, h⟩ := h
  replace h := dCons_ok h; obtain ⟨a23_, r24_, rfl, h⟩ := h
  replace h := dPl_ok h; obtain ⟨p9, rfl, h⟩ := h
  replace h := dCons_ok h; obtain ⟨a25_, r26_, rfl, h⟩ := h
  replace h := dPl_ok h; obtain ⟨p10, rfl, h⟩ := h
  replace h := dNil_ok h; obtain ⟨rfl, h⟩ := h
  replace h := dNil_ok h; obtain ⟨rfl, h⟩ := h
  replace h := dEnd_ok h; obtain ⟨rfl, h⟩ := h
  refine fun_ok (nt := 24) (x := bodyOf Try.f41) (Γ := Γ41) (H := H41) (WW := W41) (rs := [.tmp 4]) (shs := [.bl]) (cons := []) mixed Try.func41 (by decide) (by kernel_rfl) Try.ntmps41 Try.results41 (.cons (useC_ok s57) (.cons (useC_ok s100) (.cons (useC_ok s101) (GSound.nil)))) ?_ hA hN R hl
  rw [ht, e41 p1 p2 p3 p4 p5 p6 p7 p8 p9 p10 K]
  exact h
/-! impl.YoungKept -/
def G44 : Con := fun args tm K => dCons args fun a1_ r2_ => dAgg a1_ fun l3_ => dCons l3_ fun a4_ r5_ => dPl .int a4_ fun p1 => dCons r5_ fun a6_ r7_ => dPl .int a6_ fun p2 => dCons r7_ fun a8_ r9_ => dPl .int a8_ fun p3 => dCons r9_ fun a10_ r11_ => dPl .bool a10_ fun p4 => dCons r11_ fun a12_ r13_ => dPl .int a12_ fun p5 => dNil r13_ <| dNil r2_ <| dEnd tm <| Mi_YoungKept p1 p2 p3 p4 p5 (fun r1 => K (.sl 0) [⟨true, .list .int r1⟩])
def H44_0 : LH where
  keep := [(1, .pc [.pure .int, .pure .int, .pure .int, .pure .bool, .pure .int]), (3, .own .bool), (4, .own .int), (24, .pure .int), (25, .x), (26, .x)]
  S := List Int × Int × Int × List Int × List Int × List Int × List Bool × List Int × List Bool × List Int
  enc := fun s => ([.ptr 0 0, .sl 1, .sl 2, .pl .int s.1, .int .i64 s.2.1, .int .i64 s.2.2.1], [⟨true, .cells [.pl .int s.2.2.2.1, .pl .int s.2.2.2.2.1, .pl .int s.2.2.2.2.2.1, .pl .bool s.2.2.2.2.2.2.1, .pl .int s.2.2.2.2.2.2.2.1]⟩, ⟨true, .list .bool s.2.2.2.2.2.2.2.2.1⟩, ⟨true, .list .int s.2.2.2.2.2.2.2.2.2⟩])
  dec := fun vs tm K => dCons vs fun a1_ r2_ => dPtr 0 a1_ <| dCons r2_ fun a3_ r4_ => dSl 1 a3_ <| dCons r4_ fun a5_ r6_ => dSl 2 a5_ <| dCons r6_ fun a7_ r8_ => dPl .int a7_ fun q0 => dCons r8_ fun a9_ r10_ => dInt .i64 a9_ fun q1 => dCons r10_ fun a11_ r12_ => dInt .i64 a11_ fun q2 => dNil r12_ <| dBlk true tm fun b13_ m14_ => dCells b13_ fun c15_ => dCons c15_ fun a16_ r17_ => dPl .int a16_ fun q3 => dCons r17_ fun a18_ r19_ => dPl .int a18_ fun q4 => dCons r19_ fun a20_ r21_ => dPl .int a20_ fun q5 => dCons r21_ fun a22_ r23_ => dPl .bool a22_ fun q6 => dCons r23_ fun a24_ r25_ => dPl .int a24_ fun q7 => dNil r25_ <| dBlk true m14_ fun b26_ m27_ => dList .bool b26_ fun q8 => dBlk true m27_ fun b28_ m29_ => dList .int b28_ fun q9 => dEnd m29_ <| K (q0, q1, q2, q3, q4, q5, q6, q7, q8, q9)
  law := by
    intro vs tm K h
    replace h := dCons_ok h; obtain ⟨a1_, r2_, rfl, h⟩ := h
    replace h := dPtr_ok h; obtain ⟨rfl, h⟩ := h
    replace h := dCons_ok h; obtain ⟨a3_, r4_, rfl, h⟩ := h
    replace h := dSl_ok h; obtain ⟨rfl, h⟩ := h
    replace h := dCons_ok h; obtain ⟨a5_, r6_, rfl, h⟩ := h
    replace h := dSl_ok h; obtain ⟨rfl, h⟩ := h
    replace h := dCons_ok h; obtain ⟨a7_, r8_, rfl, h⟩ := h
    replace h := dPl_ok h; obtain ⟨q0, rfl, h⟩ := h
    replace h := dCons_ok h; obtain ⟨a9_, r10_, rfl, h⟩ := h
    replace h := dInt_ok h; obtain ⟨q1, rfl, h⟩ := h
    replace h := dCons_ok h; obtain ⟨a11_, r12_, rfl, h⟩ := h
    replace h := dInt_ok h; obtain ⟨q2, rfl, h⟩ := h
    replace h := dNil_ok h; obtain ⟨rfl, h⟩ := h
    replace h := dBlk_ok h; obtain ⟨b13_, m14_, rfl, h⟩ := h
    replace h := dCells_ok h; obtain ⟨c15_, rfl, h⟩ := h
    replace h := dCons_ok h; obtain ⟨a16_, r17_, rfl, h⟩ := h
    replace h := dPl_ok h; obtain ⟨q3, rfl, h⟩ := h
    replace h := dCons_ok h; obtain ⟨a18_, r19_, rfl, h⟩ := h
    replace h := dPl_ok h; obtain ⟨q4, rfl, h⟩ := h
    replace h := dCons_ok h; obtain ⟨a20_, r21_, rfl, h⟩ := h
    replace h := dPl_ok h; obtain ⟨q5, rfl, h⟩ := h
    replace h := dCons_ok h; obtain ⟨a22_, r23_, rfl, h⟩ := h
    replace h := dPl_ok h; obtain ⟨q6, rfl, h⟩ := h
    replace h := dCons_ok h; obtain ⟨a24_, r25_, rfl, h⟩ := h
    replace h := dPl_ok h; obtain ⟨q7, rfl, h⟩ := h
    replace h := dNil_ok h; obtain ⟨rfl, h⟩ := h
    replace h := dBlk_ok h; obtain ⟨b26_, m27_, rfl, h⟩ := h
    replace h := dList_ok h; obtain ⟨q8, rfl, h⟩ := h
    replace h := dBlk_ok h; obtain ⟨b28_, m29_, rfl, h⟩ := h
    replace h := dList_ok h; obtain ⟨q9, rfl, h⟩ := h
    replace h := dEnd_ok h; obtain ⟨rfl, h⟩ := h
    exact ⟨(q0, q1, q2, q3, q4, q5, q6, q7, q8, q9), rfl, h⟩
def H44_2 : LH where
  keep := [(1, .pc [.pure .int, .pure .int, .pure .int, .pure .bool, .pure .int]), (3, .own .bool), (4, .own .int), (7, .x)]
  S := Int × List Int × List Int × List Int × List Bool × List Int × List Bool × List Int
  enc := fun s => ([.ptr 0 0, .sl 1, .sl 2, .int .i64 s.1], [⟨true, .cells [.pl .int s.2.1, .pl .int s.2.2.1, .pl .int s.2.2.2.1, .pl .bool s.2.2.2.2.1, .pl .int s.2.2.2.2.2.1]⟩, ⟨true, .list .bool s.2.2.2.2.2.2.1⟩, ⟨true, .list .int s.2.2.2.2.2.2.2⟩])
  dec := fun vs tm K => dCons vs fun a1_ r2_ => dPtr 0 a1_ <| dCons r2_ fun a3_ r4_ => dSl 1 a3_ <| dCons r4_ fun a5_ r6_ => dSl 2 a5_ <| dCons r6_ fun a7_ r8_ => dInt .i64 a7_ fun q0 => dNil r8_ <| dBlk true tm fun b9_ m10_ => dCells b9_ fun c11_ => dCons c11_ fun a12_ r13_ => dPl .int a12_ fun q1 => dCons r13_ fun a14_ r15_ => dPl .int a14_ fun q2 => dCons r15_ fun a16_ r17_ => dPl .int a16_ fun q3 => dCons r17_ fun a18_ r19_ => dPl .bool a18_ fun q4 => dCons r19_ fun a20_ r21_ => dPl .int a20_ fun q5 => dNil r21_ <| dBlk true m10_ fun b22_ m23_ => dList .bool b22_ fun q6 => dBlk true m23_ fun b24_ m25_ => dList .int b24_ fun q7 => dEnd m25_ <| K (q0, q1, q2, q3, q4, q5, q6, q7)
  law := by
    intro vs tm K h
    replace h := dCons_ok h; obtain ⟨a1_, r2_, rfl, h⟩ := h
    replace h := dPtr_ok h; obtain ⟨rfl, h⟩ := h
    replace h := dCons_ok h; obtain ⟨a3_, r4_, rfl, h⟩ := h
    replace h := dSl_ok h; obtain ⟨rfl, h⟩ := h
    replace h := dCons_ok h; obtain ⟨a5_, r6_, rfl, h⟩ := h
    replace h := dSl_ok h; obtain ⟨rfl, h⟩ := h
    replace h := dCons_ok h; obtain ⟨a7_, r8_, rfl, h⟩ := h
    replace h := dInt_ok h; obtain ⟨q0, rfl, h⟩ := h
    replace h := dNil_ok h; obtain ⟨rfl, h⟩ := h
    replace h := dBlk_ok h; obtain ⟨b9_, m10_, rfl, h⟩ := h
    replace h := dCells_ok h; obtain ⟨c11_, rfl, h⟩ := h
    replace h := dCons_ok h; obtain ⟨a12_, r13_, rfl, h⟩ := h
    replace h := dPl_ok h; obtain ⟨q1, rfl, h⟩ := h
    replace h := dCons_ok h; obtain ⟨a14_, r15_, rfl, h⟩ := h
    replace h := dPl_ok h; obtain ⟨q2, rfl, h⟩ := h
    replace h := dCons_ok h; obtain ⟨a16_, r17_, rfl, h⟩ := h
    replace h := dPl_ok h; obtain ⟨q3, rfl, h⟩ := h
    replace h := dCons_ok h; obtain ⟨a18_, r19_, rfl, h⟩ := h
    replace h := dPl_ok h; obtain ⟨q4, rfl, h⟩ := h
    replace h := dCons_ok h; obtain ⟨a20_, r21_, rfl, h⟩ := h
    replace h := dPl_ok h; obtain ⟨q5, rfl, h⟩ := h
    replace h := dNil_ok h; obtain ⟨rfl, h⟩ := h
    replace h := dBlk_ok h; obtain ⟨b22_, m23_, rfl, h⟩ := h
    replace h := dList_ok h; obtain ⟨q6, rfl, h⟩ := h
    replace h := dBlk_ok h; obtain ⟨b24_, m25_, rfl, h⟩ := h
    replace h := dList_ok h; obtain ⟨q7, rfl, h⟩ := h
    replace h := dEnd_ok h; obtain ⟨rfl, h⟩ := h
    exact ⟨(q0, q1, q2, q3, q4, q5, q6, q7), rfl, h⟩
def H44_4 : LH where
  keep := [(9, .own .int), (90, .own .bool), (91, .x), (92, .x)]
  S := Int × Int × List Int × List Bool
  enc := fun s => ([.sl 0, .sl 1, .int .i64 s.1, .int .i64 s.2.1], [⟨true, .list .int s.2.2.1⟩, ⟨true, .list .bool s.2.2.2⟩])
  dec := fun vs tm K => dCons vs fun a1_ r2_ => dSl 0 a1_ <| dCons r2_ fun a3_ r4_ => dSl 1 a3_ <| dCons r4_ fun a5_ r6_ => dInt .i64 a5_ fun q0 => dCons r6_ fun a7_ r8_ => dInt .i64 a7_ fun q1 => dNil r8_ <| dBlk true tm fun b9_ m10_ => dList .int b9_ fun q2 => dBlk true m10_ fun b11_ m12_ => dList .bool b11_ fun q3 => dEnd m12_ <| K (q0, q1, q2, q3)
  law := by
    intro vs tm K h
    replace h := dCons_ok h; obtain ⟨a1_, r2_, rfl, h⟩ := h
    replace h := dSl_ok h; obtain ⟨rfl, h⟩ := h
    replace h := dCons_ok h; obtain ⟨a3_, r4_, rfl, h⟩ := h
    replace h := dSl_ok h; obtain ⟨rfl, h⟩ := h
    replace h := dCons_ok h; obtain ⟨a5_, r6_, rfl, h⟩ := h
    replace h := dInt_ok h; obtain ⟨q0, rfl, h⟩ := h
    replace h := dCons_ok h; obtain ⟨a7_, r8_, rfl, h⟩ := h
    replace h := dInt_ok h; obtain ⟨q1, rfl, h⟩ := h
    replace h := dNil_ok h; obtain ⟨rfl, h⟩ := h
    replace h := dBlk_ok h; obtain ⟨b9_, m10_, rfl, h⟩ := h
    replace h := dList_ok h; obtain ⟨q2, rfl, h⟩ := h
    replace h := dBlk_ok h; obtain ⟨b11_, m12_, rfl, h⟩ := h
    replace h := dList_ok h; obtain ⟨q3, rfl, h⟩ := h
    replace h := dEnd_ok h; obtain ⟨rfl, h⟩ := h
    exact ⟨(q0, q1, q2, q3), rfl, h⟩
def H44 : List (Nat × LH) := [(0, H44_0), (2, H44_2), (4, H44_4)]
def W44 : List (Nat × List (Nat × List Nat)) := []
def Γ44 : List (Nat × Con) := [(42, useC [.ag [.pure .int, .pure .int, .pure .int, .pure .bool, .pure .int]] G42), (102, useC [.pure .int] G102)]
theorem e44 (p1 : List Int) (p2 : List Int) (p3 : List Int) (p4 : List Bool) (p5 : List Int) (K : TV → TMem → Prop) : TW PP 104 Γ44 H44 W44 (List.length ([] : TMem)) (bodyOf Try.f44) (endT PP 104 [.tmp 2] [.own .int] [] (List.length ([] : TMem)) K) (argsF [.agg [.pl .int p1, .pl .int p2, .pl .int p3, .pl .bool p4, .pl .int p5]]) [] =
    Mi_YoungKept p1 p2 p3 p4 p5 (fun r1 => K (.sl 0) [⟨true, .list .int r1⟩]) := by kernel_rfl
theorem s44 : CSound PP 44 G44 := by
  intro args K c h fl A aargs hA hN R hl
  unfold G44 at h
  generalize ht : c.tm = tm at h
  replace h := dCons_ok h; obtain ⟨a1_, r2_, rfl, h⟩ := h
  replace h := dAgg_ok h; obtain ⟨l3_, rfl, h⟩ := h
  replace h := dCons_ok h; obtain ⟨a4_, r5_, rfl, h⟩ := h
  replace h := dPl_ok h; obtain ⟨p1, rfl, h⟩ := h
  replace h := dCons_ok h; obtain ⟨a6_, r7_, rfl, h⟩ := h
  replace h := dPl_ok h; obtain ⟨p2, rfl, h⟩ := h
  replace h := dCons_ok h; obtain ⟨a8_, r9_, rfl, h⟩ := h
  replace h := dPl_ok h; obtain ⟨p3, rfl, h⟩ := h
  replace h := dCons_ok h; obtain ⟨a10_, r11_, rfl, h⟩ := h
  replace h := dPl_ok h; obtain ⟨p4, rfl, h⟩ := h
  replace h := dCons_ok h; obtain ⟨a12_, r13_, rfl, h⟩ := h
  replace h := dPl_ok h; obtain ⟨p5, rfl, h⟩ := h
  replace h := dNil_ok h; obtain ⟨rfl, h⟩ := h
  replace h := dNil_ok h; obtain ⟨rfl, h⟩ := h
  replace h := dEnd_ok h; obtain ⟨rfl, h⟩ := h
  refine fun_ok (nt := 104) (x := bodyOf Try.f44) (Γ := Γ44) (H := H44) (WW := W44) (rs := [.tmp 2]) (shs := [.own .int]) (cons := []) mixed Try.func44 (by decide) (by kernel_rfl) Try.ntmps44 Try.results44 (.cons (useC_ok s42) (.cons (useC_ok s102) (GSound.nil))) ?_ hA hN R hl
  rw [ht, e44 p1 p2 p3 p4 p5 K]
  exact h
/-! spec.DrawNewGens -/
def G58 : Con := fun args tm K => dCons args fun a1_ r2_ => dPl .byte a1_ fun p1 => dNil r2_ <| dEnd tm <| Ms_DrawNewGens p1 (fun r1 r2 r3 => K (.agg [.sl 0, .sl 1, .sl 2]) [⟨true, .list .int r1⟩, ⟨true, .list .int r2⟩, ⟨true, .list .int r3⟩])
def H58 : List (Nat × LH) := []
def W58 : List (Nat × List (Nat × List Nat)) := []
def Γ58 : List (Nat × Con) := [(85, useC [.pure .byte] G85)]
theorem e58 (p1 : List Int) (K : TV → TMem → Prop) : TW PP 5 Γ58 H58 W58 (List.length ([] : TMem)) (bodyOf Try.f58) (endT PP 5 [.cell 2 25] [.ag [.own .int, .own .int, .own .int]] [] (List.length ([] : TMem)) K) (argsF [.pl .byte p1]) [] =
    Ms_DrawNewGens p1 (fun r1 r2 r3 => K (.agg [.sl 0, .sl 1, .sl 2]) [⟨true, .list .int r1⟩, ⟨true, .list .int r2⟩, ⟨true, .list .int r3⟩]) := by kernel_rfl
theorem s58 : CSound PP 58 G58 := by
  intro args K c h fl A aargs hA hN R hl
  unfold G58 at h
  generalize ht : c.tm = tm at h
  replace h := dCons_ok h; obtain ⟨a1_, r2_, rfl, h⟩ := h
  replace h := dPl_ok h; obtain ⟨p1, rfl, h⟩ := h
  replace h := dNil_ok h; obtain ⟨rfl, h⟩ := h
  replace h := dEnd_ok h; obtain ⟨rfl, h⟩ := h
  refine fun_ok (nt := 5) (x := bodyOf Try.f58) (Γ := Γ58) (H := H58) (WW := W58) (rs := [.cell 2 25]) (shs := [.ag [.own .int, .own .int, .own .int]]) (cons := []) mixed Try.func58 (by decide) (by kernel_rfl) Try.ntmps58 Try.results58 (.cons (useC_ok s85) (GSound.nil)) ?_ hA hN R hl
  rw [ht, e58 p1 K]
  exact h
/-! impl.NewGens -/
def G59 : Con := fun args tm K => dCons args fun a1_ r2_ => dAgg a1_ fun l3_ => dCons l3_ fun a4_ r5_ => dPl .int a4_ fun p1 => dCons r5_ fun a6_ r7_ => dPl .int a6_ fun p2 => dCons r7_ fun a8_ r9_ => dPl .int a8_ fun p3 => dNil r9_ <| dNil r2_ <| dEnd tm <| Mi_NewGens p1 p2 p3 (fun r1 r2 r3 r4 r5 r6 => K (.tup [.agg [.sl 0, .sl 1, .sl 2, .sl 3, .sl 4], .bool r1]) [⟨true, .list .int r2⟩, ⟨true, .list .int r3⟩, ⟨true, .list .int r4⟩, ⟨true, .list .bool r5⟩, ⟨true, .list .int r6⟩])
def H59 : List (Nat × LH) := []
def W59 : List (Nat × List (Nat × List Nat)) := []
def Γ59 : List (Nat × Con) := [(34, useC [.ag [.pure .int, .pure .int, .pure .int]] G34), (113, useC [.ag [.pure .int, .pure .int, .pure .int]] G113)]
theorem e59 (p1 : List Int) (p2 : List Int) (p3 : List Int) (K : TV → TMem → Prop) : TW PP 15 Γ59 H59 W59 (List.length ([] : TMem)) (bodyOf Try.f59) (endT PP 15 [.cell 2 37, .tmp 3] [.ag [.own .int, .own .int, .own .int, .own .bool, .own .int], .bl] [] (List.length ([] : TMem)) K) (argsF [.agg [.pl .int p1, .pl .int p2, .pl .int p3]]) [] =
    Mi_NewGens p1 p2 p3 (fun r1 r2 r3 r4 r5 r6 => K (.tup [.agg [.sl 0, .sl 1, .sl 2, .sl 3, .sl 4], .bool r1]) [⟨true, .list .int r2⟩, ⟨true, .list .int r3⟩, ⟨true, .list .int r4⟩, ⟨true, .list .bool r5⟩, ⟨true, .list .int r6⟩]) := by kernel_rfl
theorem s59 : CSound PP 59 G59 := by
  intro args K c h fl A aargs hA hN R hl
  unfold G59 at h
  generalize ht : c.tm = tm at h
  replace h := dCons_ok h; obtain ⟨a1_, r2_, rfl, h⟩ := h
  replace h := dAgg_ok h; obtain ⟨l3_, rfl, h⟩ := h
  replace h := dCons_ok h; obtain ⟨a4_, r5_, rfl, h⟩ := h
  replace h := dPl_ok h; obtain ⟨p1, rfl, h⟩ := h
  replace h := dCons_ok h; obtain ⟨a6_, r7_, rfl, h⟩ := h
  replace h := dPl_ok h; obtain ⟨p2, rfl, h⟩ := h
  replace h := dCons_ok h; obtain ⟨a8_, r9_, rfl, h⟩ := h
  replace h := dPl_ok h; obtain ⟨p3, rfl, h⟩ := h
  replace h := dNil_ok h; obtain ⟨rfl, h⟩ := h
  replace h := dNil_ok h; obtain ⟨rfl, h⟩ := h
  replace h := dEnd_ok h; obtain ⟨rfl, h⟩ := h
  refine fun_ok (nt := 15) (x := bodyOf Try.f59) (Γ := Γ59) (H := H59) (WW := W59) (rs := [.cell 2 37, .tmp 3]) (shs := [.ag [.own .int, .own .int, .own .int, .own .bool, .own .int], .bl]) (cons := []) mixed Try.func59 (by decide) (by kernel_rfl) Try.ntmps59 Try.results59 (.cons (useC_ok s34) (.cons (useC_ok s113) (GSound.nil))) ?_ hA hN R hl
  rw [ht, e59 p1 p2 p3 K]
  exact h
/-! impl.SmallCollect -/
def G61 : Con := fun args tm K => dCons args fun a1_ r2_ => dAgg a1_ fun l3_ => dCons l3_ fun a4_ r5_ => dPl .int a4_ fun p1 => dCons r5_ fun a6_ r7_ => dPl .int a6_ fun p2 => dCons r7_ fun a8_ r9_ => dPl .int a8_ fun p3 => dCons r9_ fun a10_ r11_ => dPl .bool a10_ fun p4 => dCons r11_ fun a12_ r13_ => dPl .int a12_ fun p5 => dNil r13_ <| dNil r2_ <| dEnd tm <| Mi_SmallCollect p1 p2 p3 p4 p5 (fun r1 r2 r3 r4 r5 r6 r7 => K (.tup [.agg [.sl 0, .sl 1, .sl 2, .sl 3, .sl 4], .sl 5, .bool r1]) [⟨true, .list .int r2⟩, ⟨true, .list .int r3⟩, ⟨true, .list .int r4⟩, ⟨true, .list .bool r5⟩, ⟨true, .list .int r6⟩, ⟨true, .list .int r7⟩])
def H61_0 : LH where
  keep := [(2, .pc [.own .int, .own .int, .own .int, .own .bool, .own .int]), (5, .own .int), (6, .pc [.own .int, .own .int, .own .int, .own .bool, .own .int]), (7, .own .int), (25, .pure .bool), (26, .x), (27, .x)]
  S := List Bool × Int × Int × List Int × List Int × List Int × List Int × List Int × List Bool × List Int × List Int × List Int × List Int × List Bool × List Int
  enc := fun s => ([.ptr 0 0, .sl 1, .ptr 2 0, .sl 3, .pl .bool s.1, .int .i64 s.2.1, .int .i64 s.2.2.1], [⟨true, .cells [.sl 4, .sl 5, .sl 6, .sl 7, .sl 8]⟩, ⟨true, .list .int s.2.2.2.1⟩, ⟨true, .cells [.sl 9, .sl 10, .sl 11, .sl 12, .sl 13]⟩, ⟨true, .list .int s.2.2.2.2.1⟩, ⟨true, .list .int s.2.2.2.2.2.1⟩, ⟨true, .list .int s.2.2.2.2.2.2.1⟩, ⟨true, .list .int s.2.2.2.2.2.2.2.1⟩, ⟨true, .list .bool s.2.2.2.2.2.2.2.2.1⟩, ⟨true, .list .int s.2.2.2.2.2.2.2.2.2.1⟩, ⟨true, .list .int s.2.2.2.2.2.2.2.2.2.2.1⟩, ⟨true, .list .int s.2.2.2.2.2.2.2.2.2.2.2.1⟩, ⟨true, .list .int s.2.2.2.2.2.2.2.2.2.2.2.2.1⟩, ⟨true, .list .bool s.2.2.2.2.2.2.2.2.2.2.2.2.2.1⟩, ⟨true, .list .int s.2.2.2.2.2.2.2.2.2.2.2.2.2.2⟩])
  dec := fun vs tm K => dCons vs fun a1_ r2_ => dPtr 0 a1_ <| dCons r2_ fun a3_ r4_ => dSl 1 a3_ <| dCons r4_ fun a5_ r6_ => dPtr 2 a5_ <| dCons r6_ fun a7_ r8_ => dSl 3 a7_ <| dCons r8_ fun a9_ r10_ => dPl .bool a9_ fun q0 => dCons r10_ fun a11_ r12_ => dInt .i64 a11_ fun q1 => dCons r12_ fun a13_ r14_ => dInt .i64 a13_ fun q2 => dNil r14_ <| dBlk true tm fun b15_ m16_ => dCells b15_ fun c17_ => dCons c17_ fun a18_ r19_ => dSl 4 a18_ <| dCons r19_ fun a20_ r21_ => dSl 5 a20_ <| dCons r21_ fun a22_ r23_ => dSl 6 a22_ <| dCons r23_ fun a24_ r25_ => dSl 7 a24_ <| dCons r25_ fun a26_ r27_ => dSl 8 a26_ <| dNil r27_ <| dBlk true m16_ fun b28_ m29_ => dList .int b28_ fun q3 => dBlk true m29_ fun b30_ m31_ => dCells b30_ fun c32_ => dCons c32_ fun a33_ r34_ => dSl 9 a33_ <| dCons r34_ fun a35_ r36_ => dSl 10 a35_ <| dCons r36_ fun a37_ r38_ => dSl 11 a37_ <| dCons r38_ fun a39_ r40_ => dSl 12 a39_ <| dCons r40_ fun a41_ r42_ => dSl 13 a41_ <| dNil r42_ <| dBlk true m31_ fun b43_ m44_ => dList .int b43_ fun q4 => dBlk true m44_ fun b45_ m46_ => dList .int b45_ fun q5 => dBlk true m46_ fun b47_ m48_ => dList .int b47_ fun q6 => dBlk true m48_ fun b49_ m50_ => dList .int b49_ fun q7 => dBlk true m50_ fun b51_ m52_ => dList .bool b51_ fun q8 => dBlk true m52_ fun b53_ m54_ => dList .int b53_ fun q9 => dBlk true m54_ fun b55_ m56_ => dList .int b55_ fun q10 => dBlk true m56_ fun b57_ m58_ => dList .int b57_ fun q11 => dBlk true m58_ fun b59_ m60_ => dList .int b59_ fun q12 => dBlk true m60_ fun b61_ m62_ => dList .bool b61_ fun q13 => dBlk true m62_ fun b63_ m64_ => dList .int b63_ fun q14 => dEnd m64_ <| K (q0, q1, q2, q3, q4, q5, q6, q7, q8, q9, q10, q11, q12, q13, q14)
  law := by
    intro vs tm K h
    replace h := dCons_ok h; obtain ⟨a1_, r2_, rfl, h⟩ := h
    replace h := dPtr_ok h; obtain ⟨rfl, h⟩ := h
    replace h := dCons_ok h; obtain ⟨a3_, r4_, rfl, h⟩ := h
    replace h := dSl_ok h; obtain ⟨rfl, h⟩ := h
    replace h := dCons_ok h; obtain ⟨a5_, r6_, rfl, h⟩ := h
    replace h := dPtr_ok h; obtain ⟨rfl, h⟩ := h
    replace h := dCons_ok h; obtain ⟨a7_, r8_, rfl, h⟩ := h
    replace h := dSl_ok h; obtain ⟨rfl, h⟩ := h
    replace h := dCons_ok h; obtain ⟨a9_, r10_, rfl, h⟩ := h
    replace h := dPl_ok h; obtain ⟨q0, rfl, h⟩ := h
    replace h := dCons_ok h; obtain ⟨a11_, r12_, rfl, h⟩ := h
    replace h := dInt_ok h; obtain ⟨q1, rfl, h⟩ := h
    replace h := dCons_ok h; obtain ⟨a13_, r14_, rfl, h⟩ := h
    replace h := dInt_ok h; obtain ⟨q2, rfl, h⟩ := h
    replace h := dNil_ok h; obtain ⟨rfl, h⟩ := h
    replace h := dBlk_ok h; obtain ⟨b15_, m16_, rfl, h⟩ := h
    replace h := dCells_ok h; obtain ⟨c17_, rfl, h⟩ := h
    replace h := dCons_ok h; obtain ⟨a18_, r19_, rfl, h⟩ := h
    replace h := dSl_ok h; obtain ⟨rfl, h⟩ := h
    replace h := dCons_ok h; obtain ⟨a20_, r21_, rfl, h⟩ := h
    replace h := dSl_ok h; obtain ⟨rfl, h⟩ := h
    replace h := dCons_ok h; obtain ⟨a22_, r23_, rfl, h⟩ := h
    replace h := dSl_ok h; obtain ⟨rfl, h⟩ := h
    replace h := dCons_ok h; obtain ⟨a24_, r25_, rfl, h⟩ := h
    replace h := dSl_ok h; obtain ⟨rfl, h⟩ := h
    replace h := dCons_ok h; obtain ⟨a26_, r27_, rfl, h⟩ := h
    replace h := dSl_ok h; obtain ⟨rfl, h⟩ := h
    replace h := dNil_ok h; obtain ⟨rfl, h⟩ := h
    replace h := dBlk_ok h; obtain ⟨b28_, m29_, rfl, h⟩ := h
    replace h := dList_ok h; obtain ⟨q3, rfl, h⟩ := h
    replace h := dBlk_ok h; obtain ⟨b30_, m31_, rfl, h⟩ := h
    replace h := dCells_ok h; obtain ⟨c32_, rfl, h⟩ := h
    replace h := dCons_ok h; obtain ⟨a33_, r34_, rfl, h⟩ := h
    replace h := dSl_ok h; obtain ⟨rfl, h⟩ := h
    replace h := dCons_ok h; obtain ⟨a35_, r36_, rfl, h⟩ := h
    replace h := dSl_ok h; obtain ⟨rfl, h⟩ := h
    replace h := dCons_ok h; obtain ⟨a37_, r38_, rfl, h⟩ := h
    replace h := dSl_ok h; obtain ⟨rfl, h⟩ := h
    replace h := dCons_ok h; obtain ⟨a39_, r40_, rfl, h⟩ := h
    replace h := dSl_ok h; obtain ⟨rfl, h⟩ := h
    replace h := dCons_ok h; obtain ⟨a41_, r42_, rfl, h⟩ := h
    replace h := dSl_ok h; obtain ⟨rfl, h⟩ := h
    replace h := dNil_ok h; obtain ⟨rfl, h⟩ := h
    replace h := dBlk_ok h; obtain ⟨b43_, m44_, rfl, h⟩ := h
    replace h := dList_ok h; obtain ⟨q4, rfl, h⟩ := h
    replace h := dBlk_ok h; obtain ⟨b45_, m46_, rfl, h⟩ := h
    replace h := dList_ok h; obtain ⟨q5, rfl, h⟩ := h
    replace h := dBlk_ok h; obtain ⟨b47_, m48_, rfl, h⟩ := h
    replace h := dList_ok h; obtain ⟨q6, rfl, h⟩ := h
    replace h := dBlk_ok h; obtain ⟨b49_, m50_, rfl, h⟩ := h
    replace h := dList_ok h; obtain ⟨q7, rfl, h⟩ := h
    replace h := dBlk_ok h; obtain ⟨b51_, m52_, rfl, h⟩ := h
    replace h := dList_ok h; obtain ⟨q8, rfl, h⟩ := h
    replace h := dBlk_ok h; obtain ⟨b53_, m54_, rfl, h⟩ := h
    replace h := dList_ok h; obtain ⟨q9, rfl, h⟩ := h
    replace h := dBlk_ok h; obtain ⟨b55_, m56_, rfl, h⟩ := h
    replace h := dList_ok h; obtain ⟨q10, rfl, h⟩ := h
    replace h := dBlk_ok h; obtain ⟨b57_, m58_, rfl, h⟩ := h
    replace h := dList_ok h; obtain ⟨q11, rfl, h⟩ := h
    replace h := dBlk_ok h; obtain ⟨b59_, m60_, rfl, h⟩ := h
    replace h := dList_ok h; obtain ⟨q12, rfl, h⟩ := h
    replace h := dBlk_ok h; obtain ⟨b61_, m62_, rfl, h⟩ := h
    replace h := dList_ok h; obtain ⟨q13, rfl, h⟩ := h
    replace h := dBlk_ok h; obtain ⟨b63_, m64_, rfl, h⟩ := h
    replace h := dList_ok h; obtain ⟨q14, rfl, h⟩ := h
    replace h := dEnd_ok h; obtain ⟨rfl, h⟩ := h
    exact ⟨(q0, q1, q2, q3, q4, q5, q6, q7, q8, q9, q10, q11, q12, q13, q14), rfl, h⟩
def H61 : List (Nat × LH) := [(0, H61_0)]
def W61 : List (Nat × List (Nat × List Nat)) := [(9, [(9, [9])])]
def Γ61 : List (Nat × Con) := [(42, useC [.ag [.pure .int, .pure .int, .pure .int, .pure .bool, .pure .int]] G42), (44, useC [.ag [.pure .int, .pure .int, .pure .int, .pure .bool, .pure .int]] G44), (113, useC [.ag [.pure .int, .pure .int, .pure .int]] G113), (95, useC [.pure .bool] G95), (107, useC [.pure .int, .x] G107), (96, useC [.ag [.pure .int, .pure .int, .pure .int], .pure .bool] G96)]
theorem e61 (p1 : List Int) (p2 : List Int) (p3 : List Int) (p4 : List Bool) (p5 : List Int) (K : TV → TMem → Prop) : TW PP 65 Γ61 H61 W61 (List.length ([] : TMem)) (bodyOf Try.f61) (endT PP 65 [.cell 2 37, .tmp 3, .tmp 4] [.ag [.own .int, .own .int, .own .int, .own .bool, .own .int], .own .int, .bl] [] (List.length ([] : TMem)) K) (argsF [.agg [.pl .int p1, .pl .int p2, .pl .int p3, .pl .bool p4, .pl .int p5]]) [] =
    Mi_SmallCollect p1 p2 p3 p4 p5 (fun r1 r2 r3 r4 r5 r6 r7 => K (.tup [.agg [.sl 0, .sl 1, .sl 2, .sl 3, .sl 4], .sl 5, .bool r1]) [⟨true, .list .int r2⟩, ⟨true, .list .int r3⟩, ⟨true, .list .int r4⟩, ⟨true, .list .bool r5⟩, ⟨true, .list .int r6⟩, ⟨true, .list .int r7⟩]) := by kernel_rfl
theorem s61 : CSound PP 61 G61 := by
  intro args K c h fl A aargs hA hN R hl
  unfold G61 at h
  generalize ht : c.tm = tm at h
  replace h := dCons_ok h; obtain ⟨a1_, r2_, rfl, h⟩ := h
  replace h := dAgg_ok h; obtain ⟨l3_, rfl, h⟩ := h
  replace h := dCons_ok h; obtain ⟨a4_, r5_, rfl, h⟩ := h
  replace h := dPl_ok h; obtain ⟨p1, rfl, h⟩ := h
  replace h := dCons_ok h; obtain ⟨a6_, r7_, rfl, h⟩ := h
  replace h := dPl_ok h; obtain ⟨p2, rfl, h⟩ := h
  replace h := dCons_ok h; obtain ⟨a8_, r9_, rfl, h⟩ := h
  replace h := dPl_ok h; obtain ⟨p3, rfl, h⟩ := h
  replace h := dCons_ok h; obtain ⟨a10_, r11_, rfl, h⟩ := h
  replace h := dPl_ok h; obtain ⟨p4, rfl, h⟩ := h
  replace h := dCons_ok h; obtain ⟨a12_, r13_, rfl, h⟩ := h
  replace h := dPl_ok h; obtain ⟨p5, rfl, h⟩ := h
  replace h := dNil_ok h; obtain ⟨rfl, h⟩ := h
  replace h := dNil_ok h; obtain ⟨rfl, h⟩ := h
  replace h := dEnd_ok h; obtain ⟨rfl, h⟩ := h
  refine fun_ok (nt := 65) (x := bodyOf Try.f61) (Γ := Γ61) (H := H61) (WW := W61) (rs := [.cell 2 37, .tmp 3, .tmp 4]) (shs := [.ag [.own .int, .own .int, .own .int, .own .bool, .own .int], .own .int, .bl]) (cons := []) mixed Try.func61 (by decide) (by kernel_rfl) Try.ntmps61 Try.results61 (.cons (useC_ok s42) (.cons (useC_ok s44) (.cons (useC_ok s113) (.cons (useC_ok s95) (.cons (useC_ok s107) (.cons (useC_ok s96) (GSound.nil))))))) ?_ hA hN R hl
  rw [ht, e61 p1 p2 p3 p4 p5 K]
  exact h
/-! impl.GarbageOf -/
def G62 : Con := fun args tm K => dCons args fun a1_ r2_ => dAgg a1_ fun l3_ => dCons l3_ fun a4_ r5_ => dPl .int a4_ fun p1 => dCons r5_ fun a6_ r7_ => dPl .int a6_ fun p2 => dCons r7_ fun a8_ r9_ => dPl .int a8_ fun p3 => dNil r9_ <| dNil r2_ <| dEnd tm <| Mi_GarbageOf p1 p2 p3 (fun r1 => K (.sl 0) [⟨true, .list .int r1⟩])
def H62_0 : LH where
  keep := [(3, .own .int), (8, .own .bool), (9, .x), (10, .x)]
  S := Int × Int × List Int × List Bool
  enc := fun s => ([.sl 0, .sl 1, .int .i64 s.1, .int .i64 s.2.1], [⟨true, .list .int s.2.2.1⟩, ⟨true, .list .bool s.2.2.2⟩])
  dec := fun vs tm K => dCons vs fun a1_ r2_ => dSl 0 a1_ <| dCons r2_ fun a3_ r4_ => dSl 1 a3_ <| dCons r4_ fun a5_ r6_ => dInt .i64 a5_ fun q0 => dCons r6_ fun a7_ r8_ => dInt .i64 a7_ fun q1 => dNil r8_ <| dBlk true tm fun b9_ m10_ => dList .int b9_ fun q2 => dBlk true m10_ fun b11_ m12_ => dList .bool b11_ fun q3 => dEnd m12_ <| K (q0, q1, q2, q3)
  law := by
    intro vs tm K h
    replace h := dCons_ok h; obtain ⟨a1_, r2_, rfl, h⟩ := h
    replace h := dSl_ok h; obtain ⟨rfl, h⟩ := h
    replace h := dCons_ok h; obtain ⟨a3_, r4_, rfl, h⟩ := h
    replace h := dSl_ok h; obtain ⟨rfl, h⟩ := h
    replace h := dCons_ok h; obtain ⟨a5_, r6_, rfl, h⟩ := h
    replace h := dInt_ok h; obtain ⟨q0, rfl, h⟩ := h
    replace h := dCons_ok h; obtain ⟨a7_, r8_, rfl, h⟩ := h
    replace h := dInt_ok h; obtain ⟨q1, rfl, h⟩ := h
    replace h := dNil_ok h; obtain ⟨rfl, h⟩ := h
    replace h := dBlk_ok h; obtain ⟨b9_, m10_, rfl, h⟩ := h
    replace h := dList_ok h; obtain ⟨q2, rfl, h⟩ := h
    replace h := dBlk_ok h; obtain ⟨b11_, m12_, rfl, h⟩ := h
    replace h := dList_ok h; obtain ⟨q3, rfl, h⟩ := h
    replace h := dEnd_ok h; obtain ⟨rfl, h⟩ := h
    exact ⟨(q0, q1, q2, q3), rfl, h⟩
def H62 : List (Nat × LH) := [(0, H62_0)]
def W62 : List (Nat × List (Nat × List Nat)) := []
def Γ62 : List (Nat × Con) := [(35, useC [.ag [.pure .int, .pure .int, .pure .int]] G35)]
theorem e62 (p1 : List Int) (p2 : List Int) (p3 : List Int) (K : TV → TMem → Prop) : TW PP 23 Γ62 H62 W62 (List.length ([] : TMem)) (bodyOf Try.f62) (endT PP 23 [.tmp 2] [.own .int] [] (List.length ([] : TMem)) K) (argsF [.agg [.pl .int p1, .pl .int p2, .pl .int p3]]) [] =
    Mi_GarbageOf p1 p2 p3 (fun r1 => K (.sl 0) [⟨true, .list .int r1⟩]) := by kernel_rfl
theorem s62 : CSound PP 62 G62 := by
  intro args K c h fl A aargs hA hN R hl
  unfold G62 at h
  generalize ht : c.tm = tm at h
  replace h := dCons_ok h; obtain ⟨a1_, r2_, rfl, h⟩ := h
  replace h := dAgg_ok h; obtain ⟨l3_, rfl, h⟩ := h
  replace h := dCons_ok h; obtain ⟨a4_, r5_, rfl, h⟩ := h
  replace h := dPl_ok h; obtain ⟨p1, rfl, h⟩ := h
  replace h := dCons_ok h; obtain ⟨a6_, r7_, rfl, h⟩ := h
  replace h := dPl_ok h; obtain ⟨p2, rfl, h⟩ := h
  replace h := dCons_ok h; obtain ⟨a8_, r9_, rfl, h⟩ := h
  replace h := dPl_ok h; obtain ⟨p3, rfl, h⟩ := h
  replace h := dNil_ok h; obtain ⟨rfl, h⟩ := h
  replace h := dNil_ok h; obtain ⟨rfl, h⟩ := h
  replace h := dEnd_ok h; obtain ⟨rfl, h⟩ := h
  refine fun_ok (nt := 23) (x := bodyOf Try.f62) (Γ := Γ62) (H := H62) (WW := W62) (rs := [.tmp 2]) (shs := [.own .int]) (cons := []) mixed Try.func62 (by decide) (by kernel_rfl) Try.ntmps62 Try.results62 (.cons (useC_ok s35) (GSound.nil)) ?_ hA hN R hl
  rw [ht, e62 p1 p2 p3 K]
  exact h
/-! impl.Floating -/
def G63 : Con := fun args tm K => dCons args fun a1_ r2_ => dAgg a1_ fun l3_ => dCons l3_ fun a4_ r5_ => dPl .int a4_ fun p1 => dCons r5_ fun a6_ r7_ => dPl .int a6_ fun p2 => dCons r7_ fun a8_ r9_ => dPl .int a8_ fun p3 => dCons r9_ fun a10_ r11_ => dPl .bool a10_ fun p4 => dCons r11_ fun a12_ r13_ => dPl .int a12_ fun p5 => dNil r13_ <| dNil r2_ <| dEnd tm <| Mi_Floating p1 p2 p3 p4 p5 (fun r1 => K (.sl 0) [⟨true, .list .int r1⟩])
def H63_0 : LH where
  keep := [(1, .pc [.pure .int, .pure .int, .pure .int, .pure .bool, .pure .int]), (3, .own .int), (4, .own .int), (15, .own .int), (16, .x), (17, .x)]
  S := Int × Int × List Int × List Int × List Int × List Bool × List Int × List Int × List Int × List Int
  enc := fun s => ([.ptr 0 0, .sl 1, .sl 2, .sl 3, .int .i64 s.1, .int .i64 s.2.1], [⟨true, .cells [.pl .int s.2.2.1, .pl .int s.2.2.2.1, .pl .int s.2.2.2.2.1, .pl .bool s.2.2.2.2.2.1, .pl .int s.2.2.2.2.2.2.1]⟩, ⟨true, .list .int s.2.2.2.2.2.2.2.1⟩, ⟨true, .list .int s.2.2.2.2.2.2.2.2.1⟩, ⟨true, .list .int s.2.2.2.2.2.2.2.2.2⟩])
  dec := fun vs tm K => dCons vs fun a1_ r2_ => dPtr 0 a1_ <| dCons r2_ fun a3_ r4_ => dSl 1 a3_ <| dCons r4_ fun a5_ r6_ => dSl 2 a5_ <| dCons r6_ fun a7_ r8_ => dSl 3 a7_ <| dCons r8_ fun a9_ r10_ => dInt .i64 a9_ fun q0 => dCons r10_ fun a11_ r12_ => dInt .i64 a11_ fun q1 => dNil r12_ <| dBlk true tm fun b13_ m14_ => dCells b13_ fun c15_ => dCons c15_ fun a16_ r17_ => dPl .int a16_ fun q2 => dCons r17_ fun a18_ r19_ => dPl .int a18_ fun q3 => dCons r19_ fun a20_ r21_ => dPl .int a20_ fun q4 => dCons r21_ fun a22_ r23_ => dPl .bool a22_ fun q5 => dCons r23_ fun a24_ r25_ => dPl .int a24_ fun q6 => dNil r25_ <| dBlk true m14_ fun b26_ m27_ => dList .int b26_ fun q7 => dBlk true m27_ fun b28_ m29_ => dList .int b28_ fun q8 => dBlk true m29_ fun b30_ m31_ => dList .int b30_ fun q9 => dEnd m31_ <| K (q0, q1, q2, q3, q4, q5, q6, q7, q8, q9)
  law := by
    intro vs tm K h
    replace h := dCons_ok h; obtain ⟨a1_, r2_, rfl, h⟩ := h
    replace h := dPtr_ok h; obtain ⟨rfl, h⟩ := h
    replace h := dCons_ok h; obtain ⟨a3_, r4_, rfl, h⟩ := h
    replace h := dSl_ok h; obtain ⟨rfl, h⟩ := h
    replace h := dCons_ok h; obtain ⟨a5_, r6_, rfl, h⟩ := h
    replace h := dSl_ok h; obtain ⟨rfl, h⟩ := h
    replace h := dCons_ok h; obtain ⟨a7_, r8_, rfl, h⟩ := h
    replace h := dSl_ok h; obtain ⟨rfl, h⟩ := h
    replace h := dCons_ok h; obtain ⟨a9_, r10_, rfl, h⟩ := h
    replace h := dInt_ok h; obtain ⟨q0, rfl, h⟩ := h
    replace h := dCons_ok h; obtain ⟨a11_, r12_, rfl, h⟩ := h
    replace h := dInt_ok h; obtain ⟨q1, rfl, h⟩ := h
    replace h := dNil_ok h; obtain ⟨rfl, h⟩ := h
    replace h := dBlk_ok h; obtain ⟨b13_, m14_, rfl, h⟩ := h
    replace h := dCells_ok h; obtain ⟨c15_, rfl, h⟩ := h
    replace h := dCons_ok h; obtain ⟨a16_, r17_, rfl, h⟩ := h
    replace h := dPl_ok h; obtain ⟨q2, rfl, h⟩ := h
    replace h := dCons_ok h; obtain ⟨a18_, r19_, rfl, h⟩ := h
    replace h := dPl_ok h; obtain ⟨q3, rfl, h⟩ := h
    replace h := dCons_ok h; obtain ⟨a20_, r21_, rfl, h⟩ := h
    replace h := dPl_ok h; obtain ⟨q4, rfl, h⟩ := h
    replace h := dCons_ok h; obtain ⟨a22_, r23_, rfl, h⟩ := h
    replace h := dPl_ok h; obtain ⟨q5, rfl, h⟩ := h
    replace h := dCons_ok h; obtain ⟨a24_, r25_, rfl, h⟩ := h
    replace h := dPl_ok h; obtain ⟨q6, rfl, h⟩ := h
    replace h := dNil_ok h; obtain ⟨rfl, h⟩ := h
    replace h := dBlk_ok h; obtain ⟨b26_, m27_, rfl, h⟩ := h
    replace h := dList_ok h; obtain ⟨q7, rfl, h⟩ := h
    replace h := dBlk_ok h; obtain ⟨b28_, m29_, rfl, h⟩ := h
    replace h := dList_ok h; obtain ⟨q8, rfl, h⟩ := h
    replace h := dBlk_ok h; obtain ⟨b30_, m31_, rfl, h⟩ := h
    replace h := dList_ok h; obtain ⟨q9, rfl, h⟩ := h
    replace h := dEnd_ok h; obtain ⟨rfl, h⟩ := h
    exact ⟨(q0, q1, q2, q3, q4, q5, q6, q7, q8, q9), rfl, h⟩
def H63 : List (Nat × LH) := [(0, H63_0)]
def W63 : List (Nat × List (Nat × List Nat)) := []
def Γ63 : List (Nat × Con) := [(42, useC [.ag [.pure .int, .pure .int, .pure .int, .pure .bool, .pure .int]] G42), (44, useC [.ag [.pure .int, .pure .int, .pure .int, .pure .bool, .pure .int]] G44), (62, useC [.ag [.pure .int, .pure .int, .pure .int]] G62), (107, useC [.pure .int, .x] G107)]
theorem e63 (p1 : List Int) (p2 : List Int) (p3 : List Int) (p4 : List Bool) (p5 : List Int) (K : TV → TMem → Prop) : TW PP 37 Γ63 H63 W63 (List.length ([] : TMem)) (bodyOf Try.f63) (endT PP 37 [.tmp 2] [.own .int] [] (List.length ([] : TMem)) K) (argsF [.agg [.pl .int p1, .pl .int p2, .pl .int p3, .pl .bool p4, .pl .int p5]]) [] =
    Mi_Floating p1 p2 p3 p4 p5 (fun r1 => K (.sl 0) [⟨true, .list .int r1⟩]) := by kernel_rfl
theorem s63 : CSound PP 63 G63 := by
  intro args K c h fl A aargs hA hN R hl
  unfold G63 at h
  generalize ht : c.tm = tm at h
  replace h := dCons_ok h; obtain ⟨a1_, r2_, rfl, h⟩ := h
  replace h := dAgg_ok h; obtain ⟨l3_, rfl, h⟩ := h
  replace h := dCons_ok h; obtain ⟨a4_, r5_, rfl, h⟩ := h
  replace h := dPl_ok h; obtain ⟨p1, rfl, h⟩ := h
  replace h := dCons_ok h; obtain ⟨a6_, r7_, rfl, h⟩ := h
  replace h := dPl_ok h; obtain ⟨p2, rfl, h⟩ := h
  replace h := dCons_ok h; obtain ⟨a8_, r9_, rfl, h⟩ := h
  replace h := dPl_ok h; obtain ⟨p3, rfl, h⟩ := h
  replace h := dCons_ok h; obtain ⟨a10_, r11_, rfl, h⟩ := h
  replace h := dPl_ok h; obtain ⟨p4, rfl, h⟩ := h
  replace h := dCons_ok h; obtain ⟨a12_, r13_, rfl, h⟩ := h
  replace h := dPl_ok h; obtain ⟨p5, rfl, h⟩ := h
  replace h := dNil_ok h; obtain ⟨rfl, h⟩ := h
  replace h := dNil_ok h; obtain ⟨rfl, h⟩ := h
  replace h := dEnd_ok h; obtain ⟨rfl, h⟩ := h
  refine fun_ok (nt := 37) (x := bodyOf Try.f63) (Γ := Γ63) (H := H63) (WW := W63) (rs := [.tmp 2]) (shs := [.own .int]) (cons := []) mixed Try.func63 (by decide) (by kernel_rfl) Try.ntmps63 Try.results63 (.cons (useC_ok s42) (.cons (useC_ok s44) (.cons (useC_ok s62) (.cons (useC_ok s107) (GSound.nil))))) ?_ hA hN R hl
  rw [ht, e63 p1 p2 p3 p4 p5 K]
  exact h
/-! laws.FnNewGens -/
def G9 : Con := fun args tm K => dCons args fun a1_ r2_ => dPl .byte a1_ fun p1 => dNil r2_ <| dEnd tm <| Ml_FnNewGens p1 (fun r1 => K (.bool r1) [])
def H9 : List (Nat × LH) := []
def W9 : List (Nat × List (Nat × List Nat)) := []
def Γ9 : List (Nat × Con) := [(58, useC [.pure .byte] G58), (59, useC [.ag [.pure .int, .pure .int, .pure .int]] G59), (60, useC [.ag [.pure .int, .pure .int, .pure .int]] G60), (41, useC [.ag [.pure .int, .pure .int, .pure .int, .pure .bool, .pure .int], .ag [.pure .int, .pure .int, .pure .int, .pure .bool, .pure .int]] G41), (61, useC [.ag [.pure .int, .pure .int, .pure .int, .pure .bool, .pure .int]] G61), (42, useC [.ag [.pure .int, .pure .int, .pure .int, .pure .bool, .pure .int]] G42), (62, useC [.ag [.pure .int, .pure .int, .pure .int]] G62), (32, useC [.pure .int, .pure .int] G32), (63, useC [.ag [.pure .int, .pure .int, .pure .int, .pure .bool, .pure .int]] G63)]
theorem e9 (p1 : List Int) (K : TV → TMem → Prop) : TW PP 70 Γ9 H9 W9 (List.length ([] : TMem)) (bodyOf Try.f9) (endT PP 70 [.tmp 2] [.bl] [] (List.length ([] : TMem)) K) (argsF [.pl .byte p1]) [] =
    Ml_FnNewGens p1 (fun r1 => K (.bool r1) []) := by kernel_rfl
theorem s9 : CSound PP 9 G9 := by
  intro args K c h fl A aargs hA hN R hl
  unfold G9 at h
  generalize ht : c.tm = tm at h
  replace h := dCons_ok h; obtain ⟨a1_, r2_, rfl, h⟩ := h
  replace h := dPl_ok h; obtain ⟨p1, rfl, h⟩ := h
  replace h := dNil_ok h; obtain ⟨rfl, h⟩ := h
  replace h := dEnd_ok h; obtain ⟨rfl, h⟩ := h
  refine fun_ok (nt := 70) (x := bodyOf Try.f9) (Γ := Γ9) (H := H9) (WW := W9) (rs := [.tmp 2]) (shs := [.bl]) (cons := []) mixed Try.func9 (by decide) (by kernel_rfl) Try.ntmps9 Try.results9 (.cons (useC_ok s58) (.cons (useC_ok s59) (.cons (useC_ok s60) (.cons (useC_ok s41) (.cons (useC_ok s61) (.cons (useC_ok s42) (.cons (useC_ok s62) (.cons (useC_ok s32) (.cons (useC_ok s63) (GSound.nil)))))))))) ?_ hA hN R hl
  rw [ht, e9 p1 K]
  exact h
end Go.Ab
