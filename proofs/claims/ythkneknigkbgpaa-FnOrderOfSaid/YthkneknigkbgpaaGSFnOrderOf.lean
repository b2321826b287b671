/-
  What is proved here: that the typed models of functions of the translated program are sound.
-/
import Derived.Test.YthkneknigkbgpaaGM
import Derived.Test.YthkneknigkbgpaaProg
import Derived.KernelRfl
namespace Go.Ab
set_option linter.unusedVariables false
open Go.Proofs
noncomputable abbrev PP : Program := Try.prog
theorem mixed : PP.follows .mixedOrders = true := by kernel_rfl
/-! spec.l13Open -/
def G93 : Con := fun args tm K => dCons args fun a1_ r2_ => dPl .byte a1_ fun p1 => dNil r2_ <| dEnd tm <| Ms_l13Open p1 (fun r1 r2 => K (.ptr 0 0) [⟨true, .cells [.pl .byte r1, .int .i64 r2]⟩])
def H93 : List (Nat × LH) := []
def W93 : List (Nat × List (Nat × List Nat)) := []
def Γ93 : List (Nat × Con) := []
theorem e93 (p1 : List Int) (K : TV → TMem → Prop) : TW PP 11 Γ93 H93 W93 (List.length ([] : TMem)) (bodyOf Try.f93) (endT PP 11 [.tmp 2] [.pc [.pure .byte, .x]] [] (List.length ([] : TMem)) K) (argsF [.pl .byte p1]) [] =
    Ms_l13Open p1 (fun r1 r2 => K (.ptr 0 0) [⟨true, .cells [.pl .byte r1, .int .i64 r2]⟩]) := by kernel_rfl
theorem s93 : CSound PP 93 G93 := by
  intro args K c h fl A aargs hA hN R hl
  unfold G93 at h
  generalize ht : c.tm = tm at h
  replace h := dCons_ok h; obtain ⟨a1_, r2_, rfl, h⟩ := h
  replace h := dPl_ok h; obtain ⟨p1, rfl, h⟩ := h
  replace h := dNil_ok h; obtain ⟨rfl, h⟩ := h
  replace h := dEnd_ok h; obtain ⟨rfl, h⟩ := h
  refine fun_ok (nt := 11) (x := bodyOf Try.f93) (Γ := Γ93) (H := H93) (WW := W93) (rs := [.tmp 2]) (shs := [.pc [.pure .byte, .x]]) (cons := []) mixed Try.func93 (by decide) (by kernel_rfl) Try.ntmps93 Try.results93 (GSound.nil) ?_ hA hN R hl
  rw [ht, e93 p1 K]
  exact h
/-! (*spec.l13Rd).pick -/
def G112 : Con := fun args tm K => dCons args fun a1_ r2_ => dPtr 0 a1_ <| dCons r2_ fun a3_ r4_ => dInt .i64 a3_ fun p1 => dNil r4_ <| dBlk true tm fun b5_ m6_ => dCells b5_ fun c7_ => dCons c7_ fun a8_ r9_ => dPl .byte a8_ fun p2 => dCons r9_ fun a10_ r11_ => dInt .i64 a10_ fun p3 => dNil r11_ <| dEnd m6_ <| Ms_l13Rd_pick p1 p2 p3 (fun r1 r2 => K (.int .i64 r1) [⟨true, .cells [.pl .byte p2, .int .i64 r2]⟩])
def H112 : List (Nat × LH) := []
def W112 : List (Nat × List (Nat × List Nat)) := []
def Γ112 : List (Nat × Con) := []
theorem e112 (p1 : Int) (p2 : List Int) (p3 : Int) (K : TV → TMem → Prop) : TW PP 99 Γ112 H112 W112 (List.length ([⟨true, .cells [.pl .byte p2, .int .i64 p3]⟩] : TMem)) (bodyOf Try.f112) (endT PP 99 [.tmp 4] [.x] [] (List.length ([⟨true, .cells [.pl .byte p2, .int .i64 p3]⟩] : TMem)) K) (argsF [.ptr 0 0, .int .i64 p1]) [⟨true, .cells [.pl .byte p2, .int .i64 p3]⟩] =
    Ms_l13Rd_pick p1 p2 p3 (fun r1 r2 => K (.int .i64 r1) [⟨true, .cells [.pl .byte p2, .int .i64 r2]⟩]) := by kernel_rfl
theorem s112 : CSound PP 112 G112 := by
  intro args K c h fl A aargs hA hN R hl
  unfold G112 at h
  generalize ht : c.tm = tm at h
  replace h := dCons_ok h; obtain ⟨a1_, r2_, rfl, h⟩ := h
  replace h := dPtr_ok h; obtain ⟨rfl, h⟩ := h
  replace h := dCons_ok h; obtain ⟨a3_, r4_, rfl, h⟩ := h
  replace h := dInt_ok h; obtain ⟨p1, rfl, h⟩ := h
  replace h := dNil_ok h; obtain ⟨rfl, h⟩ := h
  replace h := dBlk_ok h; obtain ⟨b5_, m6_, rfl, h⟩ := h
  replace h := dCells_ok h; obtain ⟨c7_, rfl, h⟩ := h
  replace h := dCons_ok h; obtain ⟨a8_, r9_, rfl, h⟩ := h
  replace h := dPl_ok h; obtain ⟨p2, rfl, h⟩ := h
  replace h := dCons_ok h; obtain ⟨a10_, r11_, rfl, h⟩ := h
  replace h := dInt_ok h; obtain ⟨p3, rfl, h⟩ := h
  replace h := dNil_ok h; obtain ⟨rfl, h⟩ := h
  replace h := dEnd_ok h; obtain ⟨rfl, h⟩ := h
  refine fun_ok (nt := 99) (x := bodyOf Try.f112) (Γ := Γ112) (H := H112) (WW := W112) (rs := [.tmp 4]) (shs := [.x]) (cons := []) mixed Try.func112 (by decide) (by kernel_rfl) Try.ntmps112 Try.results112 (GSound.nil) ?_ hA hN R hl
  rw [ht, e112 p1 p2 p3 K]
  exact h
/-! (*spec.l13Rd).num -/
def G94 : Con := fun args tm K => dCons args fun a1_ r2_ => dPtr 0 a1_ <| dCons r2_ fun a3_ r4_ => dPl .int a3_ fun p1 => dNil r4_ <| dBlk true tm fun b5_ m6_ => dCells b5_ fun c7_ => dCons c7_ fun a8_ r9_ => dPl .byte a8_ fun p2 => dCons r9_ fun a10_ r11_ => dInt .i64 a10_ fun p3 => dNil r11_ <| dEnd m6_ <| Ms_l13Rd_num p1 p2 p3 (fun r1 r2 => K (.int .i64 r1) [⟨true, .cells [.pl .byte p2, .int .i64 r2]⟩])
def H94 : List (Nat × LH) := []
def W94 : List (Nat × List (Nat × List Nat)) := []
def Γ94 : List (Nat × Con) := [(112, useC [.pc [.pure .byte, .x], .x] G112)]
theorem e94 (p1 : List Int) (p2 : List Int) (p3 : Int) (K : TV → TMem → Prop) : TW PP 12 Γ94 H94 W94 (List.length ([⟨true, .cells [.pl .byte p2, .int .i64 p3]⟩] : TMem)) (bodyOf Try.f94) (endT PP 12 [.tmp 4] [.x] [] (List.length ([⟨true, .cells [.pl .byte p2, .int .i64 p3]⟩] : TMem)) K) (argsF [.ptr 0 0, .pl .int p1]) [⟨true, .cells [.pl .byte p2, .int .i64 p3]⟩] =
    Ms_l13Rd_num p1 p2 p3 (fun r1 r2 => K (.int .i64 r1) [⟨true, .cells [.pl .byte p2, .int .i64 r2]⟩]) := by kernel_rfl
theorem s94 : CSound PP 94 G94 := by
  intro args K c h fl A aargs hA hN R hl
  unfold G94 at h
  generalize ht : c.tm = tm at h
  replace h := dCons_ok h; obtain ⟨a1_, r2_, rfl, h⟩ := h
  replace h := dPtr_ok h; obtain ⟨rfl, h⟩ := h
  replace h := dCons_ok h; obtain ⟨a3_, r4_, rfl, h⟩ := h
  replace h := dPl_ok h; obtain ⟨p1, rfl, h⟩ := h
  replace h := dNil_ok h; obtain ⟨rfl, h⟩ := h
  replace h := dBlk_ok h; obtain ⟨b5_, m6_, rfl, h⟩ := h
  replace h := dCells_ok h; obtain ⟨c7_, rfl, h⟩ := h
  replace h := dCons_ok h; obtain ⟨a8_, r9_, rfl, h⟩ := h
  replace h := dPl_ok h; obtain ⟨p2, rfl, h⟩ := h
  replace h := dCons_ok h; obtain ⟨a10_, r11_, rfl, h⟩ := h
  replace h := dInt_ok h; obtain ⟨p3, rfl, h⟩ := h
  replace h := dNil_ok h; obtain ⟨rfl, h⟩ := h
  replace h := dEnd_ok h; obtain ⟨rfl, h⟩ := h
  refine fun_ok (nt := 12) (x := bodyOf Try.f94) (Γ := Γ94) (H := H94) (WW := W94) (rs := [.tmp 4]) (shs := [.x]) (cons := []) mixed Try.func94 (by decide) (by kernel_rfl) Try.ntmps94 Try.results94 (.cons (useC_ok s112) (GSound.nil)) ?_ hA hN R hl
  rw [ht, e94 p1 p2 p3 K]
  exact h
/-! spec.l1Many -/
def G116 : Con := fun args tm K => dCons args fun a1_ r2_ => dInt .i64 a1_ fun p1 => dNil r2_ <| dEnd tm <| Ms_l1Many p1 (fun r1 => K (.sl 0) [⟨true, .list .int r1⟩])
def H116_0 : LH where
  keep := [(0, .x), (3, .own .int), (4, .x)]
  S := Int × Int × List Int
  enc := fun s => ([.int .i64 s.1, .sl 0, .int .i64 s.2.1], [⟨true, .list .int s.2.2⟩])
  dec := fun vs tm K => dCons vs fun a1_ r2_ => dInt .i64 a1_ fun q0 => dCons r2_ fun a3_ r4_ => dSl 0 a3_ <| dCons r4_ fun a5_ r6_ => dInt .i64 a5_ fun q1 => dNil r6_ <| dBlk true tm fun b7_ m8_ => dList .int b7_ fun q2 => dEnd m8_ <| K (q0, q1, q2)
  law := by
    intro vs tm K h
    replace h := dCons_ok h; obtain ⟨a1_, r2_, rfl, h⟩ := h
    replace h := dInt_ok h; obtain ⟨q0, rfl, h⟩ := h
    replace h := dCons_ok h; obtain ⟨a3_, r4_, rfl, h⟩ := h
    replace h := dSl_ok h; obtain ⟨rfl, h⟩ := h
    replace h := dCons_ok h; obtain ⟨a5_, r6_, rfl, h⟩ := h
    replace h := dInt_ok h; obtain ⟨q1, rfl, h⟩ := h
    replace h := dNil_ok h; obtain ⟨rfl, h⟩ := h
    replace h := dBlk_ok h; obtain ⟨b7_, m8_, rfl, h⟩ := h
    replace h := dList_ok h; obtain ⟨q2, rfl, h⟩ := h
    replace h := dEnd_ok h; obtain ⟨rfl, h⟩ := h
    exact ⟨(q0, q1, q2), rfl, h⟩
def H116 : List (Nat × LH) := [(0, H116_0)]
def W116 : List (Nat × List (Nat × List Nat)) := []
def Γ116 : List (Nat × Con) := []
theorem e116 (p1 : Int) (K : TV → TMem → Prop) : TW PP 15 Γ116 H116 W116 (List.length ([] : TMem)) (bodyOf Try.f116) (endT PP 15 [.tmp 2] [.own .int] [] (List.length ([] : TMem)) K) (argsF [.int .i64 p1]) [] =
    Ms_l1Many p1 (fun r1 => K (.sl 0) [⟨true, .list .int r1⟩]) := by kernel_rfl
theorem s116 : CSound PP 116 G116 := by
  intro args K c h fl A aargs hA hN R hl
  unfold G116 at h
  generalize ht : c.tm = tm at h
  replace h := dCons_ok h; obtain ⟨a1_, r2_, rfl, h⟩ := h
  replace h := dInt_ok h; obtain ⟨p1, rfl, h⟩ := h
  replace h := dNil_ok h; obtain ⟨rfl, h⟩ := h
  replace h := dEnd_ok h; obtain ⟨rfl, h⟩ := h
  refine fun_ok (nt := 15) (x := bodyOf Try.f116) (Γ := Γ116) (H := H116) (WW := W116) (rs := [.tmp 2]) (shs := [.own .int]) (cons := []) mixed Try.func116 (by decide) (by kernel_rfl) Try.ntmps116 Try.results116 (GSound.nil) ?_ hA hN R hl
  rw [ht, e116 p1 K]
  exact h
/-! spec.NewHeap -/
def G138 : Con := fun args tm K => dCons args fun a1_ r2_ => dInt .i64 a1_ fun p1 => dCons r2_ fun a3_ r4_ => dInt .i64 a3_ fun p2 => dNil r4_ <| dEnd tm <| Ms_NewHeap p1 p2 (fun r1 r2 r3 r4 => K (.tup [.agg [.sl 0, .sl 1, .sl 2], .bool r1]) [⟨true, .list .int r2⟩, ⟨true, .list .int r3⟩, ⟨true, .list .int r4⟩])
def H138 : List (Nat × LH) := []
def W138 : List (Nat × List (Nat × List Nat)) := []
def Γ138 : List (Nat × Con) := [(116, useC [.x] G116)]
theorem e138 (p1 : Int) (p2 : Int) (K : TV → TMem → Prop) : TW PP 28 Γ138 H138 W138 (List.length ([] : TMem)) (bodyOf Try.f138) (endT PP 28 [.cell 4 25, .tmp 5] [.ag [.own .int, .own .int, .own .int], .bl] [] (List.length ([] : TMem)) K) (argsF [.int .i64 p1, .int .i64 p2]) [] =
    Ms_NewHeap p1 p2 (fun r1 r2 r3 r4 => K (.tup [.agg [.sl 0, .sl 1, .sl 2], .bool r1]) [⟨true, .list .int r2⟩, ⟨true, .list .int r3⟩, ⟨true, .list .int r4⟩]) := by kernel_rfl
theorem s138 : CSound PP 138 G138 := by
  intro args K c h fl A aargs hA hN R hl
  unfold G138 at h
  generalize ht : c.tm = tm at h
  replace h := dCons_ok h; obtain ⟨a1_, r2_, rfl, h⟩ := h
  replace h := dInt_ok h; obtain ⟨p1, rfl, h⟩ := h
  replace h := dCons_ok h; obtain ⟨a3_, r4_, rfl, h⟩ := h
  replace h := dInt_ok h; obtain ⟨p2, rfl, h⟩ := h
  replace h := dNil_ok h; obtain ⟨rfl, h⟩ := h
  replace h := dEnd_ok h; obtain ⟨rfl, h⟩ := h
  refine fun_ok (nt := 28) (x := bodyOf Try.f138) (Γ := Γ138) (H := H138) (WW := W138) (rs := [.cell 4 25, .tmp 5]) (shs := [.ag [.own .int, .own .int, .own .int], .bl]) (cons := []) mixed Try.func138 (by decide) (by kernel_rfl) Try.ntmps138 Try.results138 (.cons (useC_ok s116) (GSound.nil)) ?_ hA hN R hl
  rw [ht, e138 p1 p2 K]
  exact h
/-! spec.l1Draw -/
def G110 : Con := fun args tm K => dCons args fun a1_ r2_ => dPtr 0 a1_ <| dNil r2_ <| dBlk true tm fun b3_ m4_ => dCells b3_ fun c5_ => dCons c5_ fun a6_ r7_ => dPl .byte a6_ fun p1 => dCons r7_ fun a8_ r9_ => dInt .i64 a8_ fun p2 => dNil r9_ <| dEnd m4_ <| Ms_l1Draw p1 p2 (fun r1 r2 r3 r4 r5 => K (.agg [.sl 1, .sl 2, .sl 3]) [⟨true, .cells [.pl .byte r1, .int .i64 r2]⟩, ⟨true, .list .int r3⟩, ⟨true, .list .int r4⟩, ⟨true, .list .int r5⟩])
def H110_0 : LH where
  keep := [(0, .pc [.pure .byte, .x]), (2, .pc [.own .int, .own .int, .own .int]), (3, .x), (4, .pc [.own .int, .own .int, .own .int]), (6, .x)]
  S := Int × Int × List Int × Int × List Int × List Int × List Int × List Int × List Int × List Int
  enc := fun s => ([.ptr 0 0, .ptr 1 0, .int .i64 s.1, .ptr 2 0, .int .i64 s.2.1], [⟨true, .cells [.pl .byte s.2.2.1, .int .i64 s.2.2.2.1]⟩, ⟨true, .cells [.sl 3, .sl 4, .sl 5]⟩, ⟨true, .cells [.sl 6, .sl 7, .sl 8]⟩, ⟨true, .list .int s.2.2.2.2.1⟩, ⟨true, .list .int s.2.2.2.2.2.1⟩, ⟨true, .list .int s.2.2.2.2.2.2.1⟩, ⟨true, .list .int s.2.2.2.2.2.2.2.1⟩, ⟨true, .list .int s.2.2.2.2.2.2.2.2.1⟩, ⟨true, .list .int s.2.2.2.2.2.2.2.2.2⟩])
  dec := fun vs tm K => dCons vs fun a1_ r2_ => dPtr 0 a1_ <| dCons r2_ fun a3_ r4_ => dPtr 1 a3_ <| dCons r4_ fun a5_ r6_ => dInt .i64 a5_ fun q0 => dCons r6_ fun a7_ r8_ => dPtr 2 a7_ <| dCons r8_ fun a9_ r10_ => dInt .i64 a9_ fun q1 => dNil r10_ <| dBlk true tm fun b11_ m12_ => dCells b11_ fun c13_ => dCons c13_ fun a14_ r15_ => dPl .byte a14_ fun q2 => dCons r15_ fun a16_ r17_ => dInt .i64 a16_ fun q3 => dNil r17_ <| dBlk true m12_ fun b18_ m19_ => dCells b18_ fun c20_ => dCons c20_ fun a21_ r22_ => dSl 3 a21_ <| dCons r22_ fun a23_ r24_ => dSl 4 a23_ <| dCons r24_ fun a25_ r26_ => dSl 5 a25_ <| dNil r26_ <| dBlk true m19_ fun b27_ m28_ => dCells b27_ fun c29_ => dCons c29_ fun a30_ r31_ => dSl 6 a30_ <| dCons r31_ fun a32_ r33_ => dSl 7 a32_ <| dCons r33_ fun a34_ r35_ => dSl 8 a34_ <| dNil r35_ <| dBlk true m28_ fun b36_ m37_ => dList .int b36_ fun q4 => dBlk true m37_ fun b38_ m39_ => dList .int b38_ fun q5 => dBlk true m39_ fun b40_ m41_ => dList .int b40_ fun q6 => dBlk true m41_ fun b42_ m43_ => dList .int b42_ fun q7 => dBlk true m43_ fun b44_ m45_ => dList .int b44_ fun q8 => dBlk true m45_ fun b46_ m47_ => dList .int b46_ fun q9 => dEnd m47_ <| K (q0, q1, q2, q3, q4, q5, q6, q7, q8, q9)
  law := by
    intro vs tm K h
    replace h := dCons_ok h; obtain ⟨a1_, r2_, rfl, h⟩ := h
    replace h := dPtr_ok h; obtain ⟨rfl, h⟩ := h
    replace h := dCons_ok h; obtain ⟨a3_, r4_, rfl, h⟩ := h
    replace h := dPtr_ok h; obtain ⟨rfl, h⟩ := h
    replace h := dCons_ok h; obtain ⟨a5_, r6_, rfl, h⟩ := h
    replace h := dInt_ok h; obtain ⟨q0, rfl, h⟩ := h
    replace h := dCons_ok h; obtain ⟨a7_, r8_, rfl, h⟩ := h
    replace h := dPtr_ok h; obtain ⟨rfl, h⟩ := h
    replace h := dCons_ok h; obtain ⟨a9_, r10_, rfl, h⟩ := h
    replace h := dInt_ok h; obtain ⟨q1, rfl, h⟩ := h
    replace h := dNil_ok h; obtain ⟨rfl, h⟩ := h
    replace h := dBlk_ok h; obtain ⟨b11_, m12_, rfl, h⟩ := h
    replace h := dCells_ok h; obtain ⟨c13_, rfl, h⟩ := h
    replace h := dCons_ok h; obtain ⟨a14_, r15_, rfl, h⟩ := h
    replace h := dPl_ok h; obtain ⟨q2, rfl, h⟩ := h
    replace h := dCons_ok h; obtain ⟨a16_, r17_, rfl, h⟩ := h
    replace h := dInt_ok h; obtain ⟨q3, rfl, h⟩ := h
    replace h := dNil_ok h; obtain ⟨rfl, h⟩ := h
    replace h := dBlk_ok h; obtain ⟨b18_, m19_, rfl, h⟩ := h
    replace h := dCells_ok h; obtain ⟨c20_, rfl, h⟩ := h
    replace h := dCons_ok h; obtain ⟨a21_, r22_, rfl, h⟩ := h
    replace h := dSl_ok h; obtain ⟨rfl, h⟩ := h
    replace h := dCons_ok h; obtain ⟨a23_, r24_, rfl, h⟩ := h
    replace h := dSl_ok h; obtain ⟨rfl, h⟩ := h
    replace h := dCons_ok h; obtain ⟨a25_, r26_, rfl, h⟩ := h
    replace h := dSl_ok h; obtain ⟨rfl, h⟩ := h
    replace h := dNil_ok h; obtain ⟨rfl, h⟩ := h
    replace h := dBlk_ok h; obtain ⟨b27_, m28_, rfl, h⟩ := h
    replace h := dCells_ok h; obtain ⟨c29_, rfl, h⟩ := h
    replace h := dCons_ok h; obtain ⟨a30_, r31_, rfl, h⟩ := h
    replace h := dSl_ok h; obtain ⟨rfl, h⟩ := h
    replace h := dCons_ok h; obtain ⟨a32_, r33_, rfl, h⟩ := h
    replace h := dSl_ok h; obtain ⟨rfl, h⟩ := h
    replace h := dCons_ok h; obtain ⟨a34_, r35_, rfl, h⟩ := h
    replace h := dSl_ok h; obtain ⟨rfl, h⟩ := h
    replace h := dNil_ok h; obtain ⟨rfl, h⟩ := h
    replace h := dBlk_ok h; obtain ⟨b36_, m37_, rfl, h⟩ := h
    replace h := dList_ok h; obtain ⟨q4, rfl, h⟩ := h
    replace h := dBlk_ok h; obtain ⟨b38_, m39_, rfl, h⟩ := h
    replace h := dList_ok h; obtain ⟨q5, rfl, h⟩ := h
    replace h := dBlk_ok h; obtain ⟨b40_, m41_, rfl, h⟩ := h
    replace h := dList_ok h; obtain ⟨q6, rfl, h⟩ := h
    replace h := dBlk_ok h; obtain ⟨b42_, m43_, rfl, h⟩ := h
    replace h := dList_ok h; obtain ⟨q7, rfl, h⟩ := h
    replace h := dBlk_ok h; obtain ⟨b44_, m45_, rfl, h⟩ := h
    replace h := dList_ok h; obtain ⟨q8, rfl, h⟩ := h
    replace h := dBlk_ok h; obtain ⟨b46_, m47_, rfl, h⟩ := h
    replace h := dList_ok h; obtain ⟨q9, rfl, h⟩ := h
    replace h := dEnd_ok h; obtain ⟨rfl, h⟩ := h
    exact ⟨(q0, q1, q2, q3, q4, q5, q6, q7, q8, q9), rfl, h⟩
def H110_2 : LH where
  keep := [(0, .pc [.pure .byte, .x]), (2, .pc [.own .int, .own .int, .own .int]), (3, .x), (4, .pc [.own .int, .own .int, .own .int]), (7, .x)]
  S := Int × Int × List Int × Int × List Int × List Int × List Int × List Int × List Int × List Int
  enc := fun s => ([.ptr 0 0, .ptr 1 0, .int .i64 s.1, .ptr 2 0, .int .i64 s.2.1], [⟨true, .cells [.pl .byte s.2.2.1, .int .i64 s.2.2.2.1]⟩, ⟨true, .cells [.sl 3, .sl 4, .sl 5]⟩, ⟨true, .cells [.sl 6, .sl 7, .sl 8]⟩, ⟨true, .list .int s.2.2.2.2.1⟩, ⟨true, .list .int s.2.2.2.2.2.1⟩, ⟨true, .list .int s.2.2.2.2.2.2.1⟩, ⟨true, .list .int s.2.2.2.2.2.2.2.1⟩, ⟨true, .list .int s.2.2.2.2.2.2.2.2.1⟩, ⟨true, .list .int s.2.2.2.2.2.2.2.2.2⟩])
  dec := fun vs tm K => dCons vs fun a1_ r2_ => dPtr 0 a1_ <| dCons r2_ fun a3_ r4_ => dPtr 1 a3_ <| dCons r4_ fun a5_ r6_ => dInt .i64 a5_ fun q0 => dCons r6_ fun a7_ r8_ => dPtr 2 a7_ <| dCons r8_ fun a9_ r10_ => dInt .i64 a9_ fun q1 => dNil r10_ <| dBlk true tm fun b11_ m12_ => dCells b11_ fun c13_ => dCons c13_ fun a14_ r15_ => dPl .byte a14_ fun q2 => dCons r15_ fun a16_ r17_ => dInt .i64 a16_ fun q3 => dNil r17_ <| dBlk true m12_ fun b18_ m19_ => dCells b18_ fun c20_ => dCons c20_ fun a21_ r22_ => dSl 3 a21_ <| dCons r22_ fun a23_ r24_ => dSl 4 a23_ <| dCons r24_ fun a25_ r26_ => dSl 5 a25_ <| dNil r26_ <| dBlk true m19_ fun b27_ m28_ => dCells b27_ fun c29_ => dCons c29_ fun a30_ r31_ => dSl 6 a30_ <| dCons r31_ fun a32_ r33_ => dSl 7 a32_ <| dCons r33_ fun a34_ r35_ => dSl 8 a34_ <| dNil r35_ <| dBlk true m28_ fun b36_ m37_ => dList .int b36_ fun q4 => dBlk true m37_ fun b38_ m39_ => dList .int b38_ fun q5 => dBlk true m39_ fun b40_ m41_ => dList .int b40_ fun q6 => dBlk true m41_ fun b42_ m43_ => dList .int b42_ fun q7 => dBlk true m43_ fun b44_ m45_ => dList .int b44_ fun q8 => dBlk true m45_ fun b46_ m47_ => dList .int b46_ fun q9 => dEnd m47_ <| K (q0, q1, q2, q3, q4, q5, q6, q7, q8, q9)
  law := by
    intro vs tm K h
    replace h := dCons_ok h; obtain ⟨a1_, r2_, rfl, h⟩ := h
    replace h := dPtr_ok h; obtain ⟨rfl, h⟩ := h
    replace h := dCons_ok h; obtain ⟨a3_, r4_, rfl, h⟩ := h
    replace h := dPtr_ok h; obtain ⟨rfl, h⟩ := h
    replace h := dCons_ok h; obtain ⟨a5_, r6_, rfl, h⟩ := h
    replace h := dInt_ok h; obtain ⟨q0, rfl, h⟩ := h
    replace h := dCons_ok h; obtain ⟨a7_, r8_, rfl, h⟩ := h
    replace h := dPtr_ok h; obtain ⟨rfl, h⟩ := h
    replace h := dCons_ok h; obtain ⟨a9_, r10_, rfl, h⟩ := h
    replace h := dInt_ok h; obtain ⟨q1, rfl, h⟩ := h
    replace h := dNil_ok h; obtain ⟨rfl, h⟩ := h
    replace h := dBlk_ok h; obtain ⟨b11_, m12_, rfl, h⟩ := h
    replace h := dCells_ok h; obtain ⟨c13_, rfl, h⟩ := h
    replace h := dCons_ok h; obtain ⟨a14_, r15_, rfl, h⟩ := h
    replace h := dPl_ok h; obtain ⟨q2, rfl, h⟩ := h
    replace h := dCons_ok h; obtain ⟨a16_, r17_, rfl, h⟩ := h
    replace h := dInt_ok h; obtain ⟨q3, rfl, h⟩ := h
    replace h := dNil_ok h; obtain ⟨rfl, h⟩ := h
    replace h := dBlk_ok h; obtain ⟨b18_, m19_, rfl, h⟩ := h
    replace h := dCells_ok h; obtain ⟨c20_, rfl, h⟩ := h
    replace h := dCons_ok h; obtain ⟨a21_, r22_, rfl, h⟩ := h
    replace h := dSl_ok h; obtain ⟨rfl, h⟩ := h
    replace h := dCons_ok h; obtain ⟨a23_, r24_, rfl, h⟩ := h
    replace h := dSl_ok h; obtain ⟨rfl, h⟩ := h
    replace h := dCons_ok h; obtain ⟨a25_, r26_, rfl, h⟩ := h
    replace h := dSl_ok h; obtain ⟨rfl, h⟩ := h
    replace h := dNil_ok h; obtain ⟨rfl, h⟩ := h
    replace h := dBlk_ok h; obtain ⟨b27_, m28_, rfl, h⟩ := h
    replace h := dCells_ok h; obtain ⟨c29_, rfl, h⟩ := h
    replace h := dCons_ok h; obtain ⟨a30_, r31_, rfl, h⟩ := h
    replace h := dSl_ok h; obtain ⟨rfl, h⟩ := h
    replace h := dCons_ok h; obtain ⟨a32_, r33_, rfl, h⟩ := h
    replace h := dSl_ok h; obtain ⟨rfl, h⟩ := h
    replace h := dCons_ok h; obtain ⟨a34_, r35_, rfl, h⟩ := h
    replace h := dSl_ok h; obtain ⟨rfl, h⟩ := h
    replace h := dNil_ok h; obtain ⟨rfl, h⟩ := h
    replace h := dBlk_ok h; obtain ⟨b36_, m37_, rfl, h⟩ := h
    replace h := dList_ok h; obtain ⟨q4, rfl, h⟩ := h
    replace h := dBlk_ok h; obtain ⟨b38_, m39_, rfl, h⟩ := h
    replace h := dList_ok h; obtain ⟨q5, rfl, h⟩ := h
    replace h := dBlk_ok h; obtain ⟨b40_, m41_, rfl, h⟩ := h
    replace h := dList_ok h; obtain ⟨q6, rfl, h⟩ := h
    replace h := dBlk_ok h; obtain ⟨b42_, m43_, rfl, h⟩ := h
    replace h := dList_ok h; obtain ⟨q7, rfl, h⟩ := h
    replace h := dBlk_ok h; obtain ⟨b44_, m45_, rfl, h⟩ := h
    replace h := dList_ok h; obtain ⟨q8, rfl, h⟩ := h
    replace h := dBlk_ok h; obtain ⟨b46_, m47_, rfl, h⟩ := h
    replace h := dList_ok h; obtain ⟨q9, rfl, h⟩ := h
    replace h := dEnd_ok h; obtain ⟨rfl, h⟩ := h
    exact ⟨(q0, q1, q2, q3, q4, q5, q6, q7, q8, q9), rfl, h⟩
def H110 : List (Nat × LH) := [(0, H110_0), (2, H110_2)]
def W110 : List (Nat × List (Nat × List Nat)) := [(6, [(0, [6])]), (7, [(0, [6])]), (15, [(0, [6])])]
def Γ110 : List (Nat × Con) := [(94, useC [.pc [.pure .byte, .x], .pure .int] G94), (138, useC [.x, .x] G138), (112, useC [.pc [.pure .byte, .x], .x] G112)]
theorem e110 (p1 : List Int) (p2 : Int) (K : TV → TMem → Prop) : TW PP 80 Γ110 H110 W110 (List.length ([⟨true, .cells [.pl .byte p1, .int .i64 p2]⟩] : TMem)) (bodyOf Try.f110) (endT PP 80 [.cell 2 25] [.ag [.own .int, .own .int, .own .int]] [] (List.length ([⟨true, .cells [.pl .byte p1, .int .i64 p2]⟩] : TMem)) K) (argsF [.ptr 0 0]) [⟨true, .cells [.pl .byte p1, .int .i64 p2]⟩] =
    Ms_l1Draw p1 p2 (fun r1 r2 r3 r4 r5 => K (.agg [.sl 1, .sl 2, .sl 3]) [⟨true, .cells [.pl .byte r1, .int .i64 r2]⟩, ⟨true, .list .int r3⟩, ⟨true, .list .int r4⟩, ⟨true, .list .int r5⟩]) := by kernel_rfl
theorem s110 : CSound PP 110 G110 := by
  intro args K c h fl A aargs hA hN R hl
  unfold G110 at h
  generalize ht : c.tm = tm at h
  replace h := dCons_ok h; obtain ⟨a1_, r2_, rfl, h⟩ := h
  replace h := dPtr_ok h; obtain ⟨rfl, h⟩ := h
  replace h := dNil_ok h; obtain ⟨rfl, h⟩ := h
  replace h := dBlk_ok h; obtain ⟨b3_, m4_, rfl, h⟩ := h
  replace h := dCells_ok h; obtain ⟨c5_, rfl, h⟩ := h
  replace h := dCons_ok h; obtain ⟨a6_, r7_, rfl, h⟩ := h
  replace h := dPl_ok h; obtain ⟨p1, rfl, h⟩ := h
  replace h := dCons_ok h; obtain ⟨a8_, r9_, rfl, h⟩ := h
  replace h := dInt_ok h; obtain ⟨p2, rfl, h⟩ := h
  replace h := dNil_ok h; obtain ⟨rfl, h⟩ := h
  replace h := dEnd_ok h; obtain ⟨rfl, h⟩ := h
  refine fun_ok (nt := 80) (x := bodyOf Try.f110) (Γ := Γ110) (H := H110) (WW := W110) (rs := [.cell 2 25]) (shs := [.ag [.own .int, .own .int, .own .int]]) (cons := []) mixed Try.func110 (by decide) (by kernel_rfl) Try.ntmps110 Try.results110 (.cons (useC_ok s94) (.cons (useC_ok s138) (.cons (useC_ok s112) (GSound.nil)))) ?_ hA hN R hl
  rw [ht, e110 p1 p2 K]
  exact h
/-! spec.l1Copy -/
def G106 : Con := fun args tm K => dCons args fun a1_ r2_ => dAgg a1_ fun l3_ => dCons l3_ fun a4_ r5_ => dPl .int a4_ fun p1 => dCons r5_ fun a6_ r7_ => dPl .int a6_ fun p2 => dCons r7_ fun a8_ r9_ => dPl .int a8_ fun p3 => dNil r9_ <| dNil r2_ <| dEnd tm <| Ms_l1Copy p1 p2 p3 (K (.agg [.sl 0, .sl 1, .sl 2]) [⟨true, .list .int p1⟩, ⟨true, .list .int p2⟩, ⟨true, .list .int p3⟩])
def H106 : List (Nat × LH) := []
def W106 : List (Nat × List (Nat × List Nat)) := []
def Γ106 : List (Nat × Con) := []
theorem e106 (p1 : List Int) (p2 : List Int) (p3 : List Int) (K : TV → TMem → Prop) : TW PP 16 Γ106 H106 W106 (List.length ([] : TMem)) (bodyOf Try.f106) (endT PP 16 [.cell 2 25] [.ag [.own .int, .own .int, .own .int]] [] (List.length ([] : TMem)) K) (argsF [.agg [.pl .int p1, .pl .int p2, .pl .int p3]]) [] =
    Ms_l1Copy p1 p2 p3 (K (.agg [.sl 0, .sl 1, .sl 2]) [⟨true, .list .int p1⟩, ⟨true, .list .int p2⟩, ⟨true, .list .int p3⟩]) := by kernel_rfl
theorem s106 : CSound PP 106 G106 := by
  intro args K c h fl A aargs hA hN R hl
  unfold G106 at h
  generalize ht : c.tm = tm at h
  replace h := dCons_ok h; obtain ⟨a1_, r2_, rfl, h⟩ := h
  replace h := dAgg_ok h; obtain ⟨l3_, rfl, h⟩ := h
  replace h := dCons_ok h; obtain ⟨a4_, r5_, rfl, h⟩ := h
  replace h := dPl_ok h; obtain ⟨p1, rfl, h⟩ := h
  replace h := dCons_ok h; obtain ⟨a6_, r7_, rfl, h⟩ := h
  replace h := dPl_ok h; obtain ⟨p2, rfl, h⟩ := h
  replace h := dCons_ok h; obtain ⟨a8_, r9_, rfl, h⟩ := h
  replace h := dPl_ok h; obtain ⟨p3, rfl, h⟩ := h
  replace h := dNil_ok h; obtain ⟨rfl, h⟩ := h
  replace h := dNil_ok h; obtain ⟨rfl, h⟩ := h
  replace h := dEnd_ok h; obtain ⟨rfl, h⟩ := h
  refine fun_ok (nt := 16) (x := bodyOf Try.f106) (Γ := Γ106) (H := H106) (WW := W106) (rs := [.cell 2 25]) (shs := [.ag [.own .int, .own .int, .own .int]]) (cons := []) mixed Try.func106 (by decide) (by kernel_rfl) Try.ntmps106 Try.results106 (GSound.nil) ?_ hA hN R hl
  rw [ht, e106 p1 p2 p3 K]
  exact h
/-! spec.l1Wrong -/
def G125 : Con := fun args tm K => dCons args fun a1_ r2_ => dPtr 0 a1_ <| dCons r2_ fun a3_ r4_ => dAgg a3_ fun l5_ => dCons l5_ fun a6_ r7_ => dSl 1 a6_ <| dCons r7_ fun a8_ r9_ => dSl 2 a8_ <| dCons r9_ fun a10_ r11_ => dSl 3 a10_ <| dNil r11_ <| dNil r4_ <| dBlk true tm fun b12_ m13_ => dCells b12_ fun c14_ => dCons c14_ fun a15_ r16_ => dPl .byte a15_ fun p1 => dCons r16_ fun a17_ r18_ => dInt .i64 a17_ fun p2 => dNil r18_ <| dBlk false m13_ fun b19_ m20_ => dList .int b19_ fun p3 => dBlk false m20_ fun b21_ m22_ => dList .int b21_ fun p4 => dBlk false m22_ fun b23_ m24_ => dList .int b23_ fun p5 => dEnd m24_ <| Ms_l1Wrong p1 p2 p3 p4 p5 (fun r1 r2 r3 r4 => K (.agg [.sl 4, .sl 5, .sl 6]) [⟨true, .cells [.pl .byte p1, .int .i64 r1]⟩, ⟨false, .list .int p3⟩, ⟨false, .list .int p4⟩, ⟨false, .list .int p5⟩, ⟨true, .list .int r2⟩, ⟨true, .list .int r3⟩, ⟨true, .list .int r4⟩])
def H125 : List (Nat × LH) := []
def W125 : List (Nat × List (Nat × List Nat)) := [(4, [(0, [6, 9])]), (8, [(0, [4])])]
def Γ125 : List (Nat × Con) := [(106, useC [.ag [.pure .int, .pure .int, .pure .int]] G106), (112, useC [.pc [.pure .byte, .x], .x] G112), (94, useC [.pc [.pure .byte, .x], .pure .int] G94)]
theorem e125 (p1 : List Int) (p2 : Int) (p3 : List Int) (p4 : List Int) (p5 : List Int) (K : TV → TMem → Prop) : TW PP 45 Γ125 H125 W125 (List.length ([⟨true, .cells [.pl .byte p1, .int .i64 p2]⟩, ⟨false, .list .int p3⟩, ⟨false, .list .int p4⟩, ⟨false, .list .int p5⟩] : TMem)) (bodyOf Try.f125) (endT PP 45 [.cell 4 25] [.ag [.own .int, .own .int, .own .int]] [] (List.length ([⟨true, .cells [.pl .byte p1, .int .i64 p2]⟩, ⟨false, .list .int p3⟩, ⟨false, .list .int p4⟩, ⟨false, .list .int p5⟩] : TMem)) K) (argsF [.ptr 0 0, .agg [.sl 1, .sl 2, .sl 3]]) [⟨true, .cells [.pl .byte p1, .int .i64 p2]⟩, ⟨false, .list .int p3⟩, ⟨false, .list .int p4⟩, ⟨false, .list .int p5⟩] =
    Ms_l1Wrong p1 p2 p3 p4 p5 (fun r1 r2 r3 r4 => K (.agg [.sl 4, .sl 5, .sl 6]) [⟨true, .cells [.pl .byte p1, .int .i64 r1]⟩, ⟨false, .list .int p3⟩, ⟨false, .list .int p4⟩, ⟨false, .list .int p5⟩, ⟨true, .list .int r2⟩, ⟨true, .list .int r3⟩, ⟨true, .list .int r4⟩]) := by kernel_rfl
theorem s125 : CSound PP 125 G125 := by
  intro args K c h fl A aargs hA hN R hl
  unfold G125 at h
  generalize ht : c.tm = tm at h
  replace h := dCons_ok h; obtain ⟨a1_, r2_, rfl, h⟩ := h
  replace h := dPtr_ok h; obtain ⟨rfl, h⟩ := h
  replace h := dCons_ok h; obtain ⟨a3_, r4_, rfl, h⟩ := h
  replace h := dAgg_ok h; obtain ⟨l5_, rfl, h⟩ := h
  replace h := dCons_ok h; obtain ⟨a6_, r7_, rfl, h⟩ := h
  replace h := dSl_ok h; obtain ⟨rfl, h⟩ := h
  replace h := dCons_ok h; obtain ⟨a8_, r9_, rfl, h⟩ := h
  replace h := dSl_ok h; obtain ⟨rfl, h⟩ := h
  replace h := dCons_ok h; obtain ⟨a10_, r11_, rfl, h⟩ := h
  replace h := dSl_ok h; obtain ⟨rfl, h⟩ := h
  replace h := dNil_ok h; obtain ⟨rfl, h⟩ := h
  replace h := dNil_ok h; obtain ⟨rfl, h⟩ := h
  replace h := dBlk_ok h; obtain ⟨b12_, m13_, rfl, h⟩ := h
  replace h := dCells_ok h; obtain ⟨c14_, rfl, h⟩ := h
  replace h := dCons_ok h; obtain ⟨a15_, r16_, rfl, h⟩ := h
  replace h := dPl_ok h; obtain ⟨p1, rfl, h⟩ := h
  replace h := dCons_ok h; obtain ⟨a17_, r18_, rfl, h⟩ := h
  replace h := dInt_ok h; obtain ⟨p2, rfl, h⟩ := h
  replace h := dNil_ok h; obtain ⟨rfl, h⟩ := h
  replace h := dBlk_ok h; obtain ⟨b19_, m20_, rfl, h⟩ := h
  replace h := dList_ok h; obtain ⟨p3, rfl, h⟩ := h
  replace h := dBlk_ok h; obtain ⟨b21_, m22_, rfl, h⟩ := h
  replace h := dList_ok h; obtain ⟨p4, rfl, h⟩ := h
  replace h := dBlk_ok h; obtain ⟨b23_, m24_, rfl, h⟩ := h
  replace h := dList_ok h; obtain ⟨p5, rfl, h⟩ := h
  replace h := dEnd_ok h; obtain ⟨rfl, h⟩ := h
  refine fun_ok (nt := 45) (x := bodyOf Try.f125) (Γ := Γ125) (H := H125) (WW := W125) (rs := [.cell 4 25]) (shs := [.ag [.own .int, .own .int, .own .int]]) (cons := []) mixed Try.func125 (by decide) (by kernel_rfl) Try.ntmps125 Try.results125 (.cons (useC_ok s106) (.cons (useC_ok s112) (.cons (useC_ok s94) (GSound.nil)))) ?_ hA hN R hl
  rw [ht, e125 p1 p2 p3 p4 p5 K]
  exact h
/-! spec.DrawHeapValid -/
def G85 : Con := fun args tm K => dCons args fun a1_ r2_ => dPl .byte a1_ fun p1 => dNil r2_ <| dEnd tm <| Ms_DrawHeapValid p1 (fun r1 r2 r3 => K (.agg [.sl 0, .sl 1, .sl 2]) [⟨true, .list .int r1⟩, ⟨true, .list .int r2⟩, ⟨true, .list .int r3⟩])
def H85 : List (Nat × LH) := []
def W85 : List (Nat × List (Nat × List Nat)) := []
def Γ85 : List (Nat × Con) := [(93, useC [.pure .byte] G93), (110, useC [.pc [.pure .byte, .x]] G110), (125, useC [.pc [.pure .byte, .x], .ag [.own .int, .own .int, .own .int]] (onlyC [0] G125))]
theorem e85 (p1 : List Int) (K : TV → TMem → Prop) : TW PP 10 Γ85 H85 W85 (List.length ([] : TMem)) (bodyOf Try.f85) (endT PP 10 [.cell 2 25] [.ag [.own .int, .own .int, .own .int]] [] (List.length ([] : TMem)) K) (argsF [.pl .byte p1]) [] =
    Ms_DrawHeapValid p1 (fun r1 r2 r3 => K (.agg [.sl 0, .sl 1, .sl 2]) [⟨true, .list .int r1⟩, ⟨true, .list .int r2⟩, ⟨true, .list .int r3⟩]) := by kernel_rfl
theorem s85 : CSound PP 85 G85 := by
  intro args K c h fl A aargs hA hN R hl
  unfold G85 at h
  generalize ht : c.tm = tm at h
  replace h := dCons_ok h; obtain ⟨a1_, r2_, rfl, h⟩ := h
  replace h := dPl_ok h; obtain ⟨p1, rfl, h⟩ := h
  replace h := dNil_ok h; obtain ⟨rfl, h⟩ := h
  replace h := dEnd_ok h; obtain ⟨rfl, h⟩ := h
  refine fun_ok (nt := 10) (x := bodyOf Try.f85) (Γ := Γ85) (H := H85) (WW := W85) (rs := [.cell 2 25]) (shs := [.ag [.own .int, .own .int, .own .int]]) (cons := []) mixed Try.func85 (by decide) (by kernel_rfl) Try.ntmps85 Try.results85 (.cons (useC_ok s93) (.cons (useC_ok s110) (.cons (useC_ok (onlyC_ok s125)) (GSound.nil)))) ?_ hA hN R hl
  rw [ht, e85 p1 K]
  exact h
/-! spec.DrawOrderOf -/
def G30 : Con := fun args tm K => dCons args fun a1_ r2_ => dPl .byte a1_ fun p1 => dNil r2_ <| dEnd tm <| Ms_DrawOrderOf p1 (fun r1 r2 r3 => K (.agg [.sl 0, .sl 1, .sl 2]) [⟨true, .list .int r1⟩, ⟨true, .list .int r2⟩, ⟨true, .list .int r3⟩])
def H30 : List (Nat × LH) := []
def W30 : List (Nat × List (Nat × List Nat)) := []
def Γ30 : List (Nat × Con) := [(85, useC [.pure .byte] G85)]
theorem e30 (p1 : List Int) (K : TV → TMem → Prop) : TW PP 5 Γ30 H30 W30 (List.length ([] : TMem)) (bodyOf Try.f30) (endT PP 5 [.cell 2 25] [.ag [.own .int, .own .int, .own .int]] [] (List.length ([] : TMem)) K) (argsF [.pl .byte p1]) [] =
    Ms_DrawOrderOf p1 (fun r1 r2 r3 => K (.agg [.sl 0, .sl 1, .sl 2]) [⟨true, .list .int r1⟩, ⟨true, .list .int r2⟩, ⟨true, .list .int r3⟩]) := by kernel_rfl
theorem s30 : CSound PP 30 G30 := by
  intro args K c h fl A aargs hA hN R hl
  unfold G30 at h
  generalize ht : c.tm = tm at h
  replace h := dCons_ok h; obtain ⟨a1_, r2_, rfl, h⟩ := h
  replace h := dPl_ok h; obtain ⟨p1, rfl, h⟩ := h
  replace h := dNil_ok h; obtain ⟨rfl, h⟩ := h
  replace h := dEnd_ok h; obtain ⟨rfl, h⟩ := h
  refine fun_ok (nt := 5) (x := bodyOf Try.f30) (Γ := Γ30) (H := H30) (WW := W30) (rs := [.cell 2 25]) (shs := [.ag [.own .int, .own .int, .own .int]]) (cons := []) mixed Try.func30 (by decide) (by kernel_rfl) Try.ntmps30 Try.results30 (.cons (useC_ok s85) (GSound.nil)) ?_ hA hN R hl
  rw [ht, e30 p1 K]
  exact h
/-! impl.HeapValid -/
def G34 : Con := fun args tm K => dCons args fun a1_ r2_ => dAgg a1_ fun l3_ => dCons l3_ fun a4_ r5_ => dPl .int a4_ fun p1 => dCons r5_ fun a6_ r7_ => dPl .int a6_ fun p2 => dCons r7_ fun a8_ r9_ => dPl .int a8_ fun p3 => dNil r9_ <| dNil r2_ <| dEnd tm <| Mi_HeapValid p1 p2 p3 (fun r1 => K (.bool r1) [])
def H34_0 : LH where
  keep := [(1, .pc [.pure .int, .pure .int, .pure .int]), (44, .own .ints), (45, .x), (46, .x)]
  S := Int × Int × List Int × List Int × List Int × List (List Int)
  enc := fun s => ([.ptr 0 0, .sl 1, .int .i64 s.1, .int .i64 s.2.1], [⟨true, .cells [.pl .int s.2.2.1, .pl .int s.2.2.2.1, .pl .int s.2.2.2.2.1]⟩, ⟨true, .list .ints s.2.2.2.2.2⟩])
  dec := fun vs tm K => dCons vs fun a1_ r2_ => dPtr 0 a1_ <| dCons r2_ fun a3_ r4_ => dSl 1 a3_ <| dCons r4_ fun a5_ r6_ => dInt .i64 a5_ fun q0 => dCons r6_ fun a7_ r8_ => dInt .i64 a7_ fun q1 => dNil r8_ <| dBlk true tm fun b9_ m10_ => dCells b9_ fun c11_ => dCons c11_ fun a12_ r13_ => dPl .int a12_ fun q2 => dCons r13_ fun a14_ r15_ => dPl .int a14_ fun q3 => dCons r15_ fun a16_ r17_ => dPl .int a16_ fun q4 => dNil r17_ <| dBlk true m10_ fun b18_ m19_ => dList .ints b18_ fun q5 => dEnd m19_ <| K (q0, q1, q2, q3, q4, q5)
  law := by
    intro vs tm K h
    replace h := dCons_ok h; obtain ⟨a1_, r2_, rfl, h⟩ := h
    replace h := dPtr_ok h; obtain ⟨rfl, h⟩ := h
    replace h := dCons_ok h; obtain ⟨a3_, r4_, rfl, h⟩ := h
    replace h := dSl_ok h; obtain ⟨rfl, h⟩ := h
    replace h := dCons_ok h; obtain ⟨a5_, r6_, rfl, h⟩ := h
    replace h := dInt_ok h; obtain ⟨q0, rfl, h⟩ := h
    replace h := dCons_ok h; obtain ⟨a7_, r8_, rfl, h⟩ := h
    replace h := dInt_ok h; obtain ⟨q1, rfl, h⟩ := h
    replace h := dNil_ok h; obtain ⟨rfl, h⟩ := h
    replace h := dBlk_ok h; obtain ⟨b9_, m10_, rfl, h⟩ := h
    replace h := dCells_ok h; obtain ⟨c11_, rfl, h⟩ := h
    replace h := dCons_ok h; obtain ⟨a12_, r13_, rfl, h⟩ := h
    replace h := dPl_ok h; obtain ⟨q2, rfl, h⟩ := h
    replace h := dCons_ok h; obtain ⟨a14_, r15_, rfl, h⟩ := h
    replace h := dPl_ok h; obtain ⟨q3, rfl, h⟩ := h
    replace h := dCons_ok h; obtain ⟨a16_, r17_, rfl, h⟩ := h
    replace h := dPl_ok h; obtain ⟨q4, rfl, h⟩ := h
    replace h := dNil_ok h; obtain ⟨rfl, h⟩ := h
    replace h := dBlk_ok h; obtain ⟨b18_, m19_, rfl, h⟩ := h
    replace h := dList_ok h; obtain ⟨q5, rfl, h⟩ := h
    replace h := dEnd_ok h; obtain ⟨rfl, h⟩ := h
    exact ⟨(q0, q1, q2, q3, q4, q5), rfl, h⟩
def H34_2 : LH where
  keep := [(1, .pc [.pure .int, .pure .int, .pure .int]), (44, .own .ints), (45, .x), (46, .x), (50, .pure .int), (51, .x), (52, .x)]
  S := Int × Int × List Int × Int × Int × List Int × List Int × List Int × List (List Int)
  enc := fun s => ([.ptr 0 0, .sl 1, .int .i64 s.1, .int .i64 s.2.1, .pl .int s.2.2.1, .int .i64 s.2.2.2.1, .int .i64 s.2.2.2.2.1], [⟨true, .cells [.pl .int s.2.2.2.2.2.1, .pl .int s.2.2.2.2.2.2.1, .pl .int s.2.2.2.2.2.2.2.1]⟩, ⟨true, .list .ints s.2.2.2.2.2.2.2.2⟩])
  dec := fun vs tm K => dCons vs fun a1_ r2_ => dPtr 0 a1_ <| dCons r2_ fun a3_ r4_ => dSl 1 a3_ <| dCons r4_ fun a5_ r6_ => dInt .i64 a5_ fun q0 => dCons r6_ fun a7_ r8_ => dInt .i64 a7_ fun q1 => dCons r8_ fun a9_ r10_ => dPl .int a9_ fun q2 => dCons r10_ fun a11_ r12_ => dInt .i64 a11_ fun q3 => dCons r12_ fun a13_ r14_ => dInt .i64 a13_ fun q4 => dNil r14_ <| dBlk true tm fun b15_ m16_ => dCells b15_ fun c17_ => dCons c17_ fun a18_ r19_ => dPl .int a18_ fun q5 => dCons r19_ fun a20_ r21_ => dPl .int a20_ fun q6 => dCons r21_ fun a22_ r23_ => dPl .int a22_ fun q7 => dNil r23_ <| dBlk true m16_ fun b24_ m25_ => dList .ints b24_ fun q8 => dEnd m25_ <| K (q0, q1, q2, q3, q4, q5, q6, q7, q8)
  law := by
    intro vs tm K h
    replace h := dCons_ok h; obtain ⟨a1_, r2_, rfl, h⟩ := h
    replace h := dPtr_ok h; obtain ⟨rfl, h⟩ := h
    replace h := dCons_ok h; obtain ⟨a3_, r4_, rfl, h⟩ := h
    replace h := dSl_ok h; obtain ⟨rfl, h⟩ := h
    replace h := dCons_ok h; obtain ⟨a5_, r6_, rfl, h⟩ := h
    replace h := dInt_ok h; obtain ⟨q0, rfl, h⟩ := h
    replace h := dCons_ok h; obtain ⟨a7_, r8_, rfl, h⟩ := h
    replace h := dInt_ok h; obtain ⟨q1, rfl, h⟩ := h
    replace h := dCons_ok h; obtain ⟨a9_, r10_, rfl, h⟩ := h
    replace h := dPl_ok h; obtain ⟨q2, rfl, h⟩ := h
    replace h := dCons_ok h; obtain ⟨a11_, r12_, rfl, h⟩ := h
    replace h := dInt_ok h; obtain ⟨q3, rfl, h⟩ := h
    replace h := dCons_ok h; obtain ⟨a13_, r14_, rfl, h⟩ := h
    replace h := dInt_ok h; obtain ⟨q4, rfl, h⟩ := h
    replace h := dNil_ok h; obtain ⟨rfl, h⟩ := h
    replace h := dBlk_ok h; obtain ⟨b15_, m16_, rfl, h⟩ := h
    replace h := dCells_ok h; obtain ⟨c17_, rfl, h⟩ := h
    replace h := dCons_ok h; obtain ⟨a18_, r19_, rfl, h⟩ := h
    replace h := dPl_ok h; obtain ⟨q5, rfl, h⟩ := h
    replace h := dCons_ok h; obtain ⟨a20_, r21_, rfl, h⟩ := h
    replace h := dPl_ok h; obtain ⟨q6, rfl, h⟩ := h
    replace h := dCons_ok h; obtain ⟨a22_, r23_, rfl, h⟩ := h
    replace h := dPl_ok h; obtain ⟨q7, rfl, h⟩ := h
    replace h := dNil_ok h; obtain ⟨rfl, h⟩ := h
    replace h := dBlk_ok h; obtain ⟨b24_, m25_, rfl, h⟩ := h
    replace h := dList_ok h; obtain ⟨q8, rfl, h⟩ := h
    replace h := dEnd_ok h; obtain ⟨rfl, h⟩ := h
    exact ⟨(q0, q1, q2, q3, q4, q5, q6, q7, q8), rfl, h⟩
def H34 : List (Nat × LH) := [(0, H34_0), (2, H34_2)]
def W34 : List (Nat × List (Nat × List Nat)) := []
def Γ34 : List (Nat × Con) := []
theorem e34 (p1 : List Int) (p2 : List Int) (p3 : List Int) (K : TV → TMem → Prop) : TW PP 67 Γ34 H34 W34 (List.length ([] : TMem)) (bodyOf Try.f34) (endT PP 67 [.tmp 2] [.bl] [] (List.length ([] : TMem)) K) (argsF [.agg [.pl .int p1, .pl .int p2, .pl .int p3]]) [] =
    Mi_HeapValid p1 p2 p3 (fun r1 => K (.bool r1) []) := by kernel_rfl
theorem s34 : CSound PP 34 G34 := by
  intro args K c h fl A aargs hA hN R hl
  unfold G34 at h
  generalize ht : c.tm = tm at h
  replace h := dCons_ok h; obtain ⟨a1_, r2_, rfl, h⟩ := h
  replace h := dAgg_ok h; obtain ⟨l3_, rfl, h⟩ := h
  replace h := dCons_ok h; obtain ⟨a4_, r5_, rfl, h⟩ := h
  replace h := dPl_ok h; obtain ⟨p1, rfl, h⟩ := h
  replace h := dCons_ok h; obtain ⟨a6_, r7_, rfl, h⟩ := h
  replace h := dPl_ok h; obtain ⟨p2, rfl, h⟩ := h
  replace h := dCons_ok h; obtain ⟨a8_, r9_, rfl, h⟩ := h
  replace h := dPl_ok h; obtain ⟨p3, rfl, h⟩ := h
  replace h := dNil_ok h; obtain ⟨rfl, h⟩ := h
  replace h := dNil_ok h; obtain ⟨rfl, h⟩ := h
  replace h := dEnd_ok h; obtain ⟨rfl, h⟩ := h
  refine fun_ok (nt := 67) (x := bodyOf Try.f34) (Γ := Γ34) (H := H34) (WW := W34) (rs := [.tmp 2]) (shs := [.bl]) (cons := []) mixed Try.func34 (by decide) (by kernel_rfl) Try.ntmps34 Try.results34 (GSound.nil) ?_ hA hN R hl
  rw [ht, e34 p1 p2 p3 K]
  exact h
/-! slices.Index[[]int,int] -/
def G115 : Con := fun args tm K => dCons args fun a1_ r2_ => dPl .int a1_ fun p1 => dCons r2_ fun a3_ r4_ => dInt .i64 a3_ fun p2 => dNil r4_ <| dEnd tm <| M_Index_int p1 p2 (fun r1 => K (.int .i64 r1) [])
def H115_0 : LH where
  keep := [(0, .pure .int), (1, .x), (7, .x), (8, .x)]
  S := List Int × Int × Int × Int
  enc := fun s => ([.pl .int s.1, .int .i64 s.2.1, .int .i64 s.2.2.1, .int .i64 s.2.2.2], [])
  dec := fun vs tm K => dCons vs fun a1_ r2_ => dPl .int a1_ fun q0 => dCons r2_ fun a3_ r4_ => dInt .i64 a3_ fun q1 => dCons r4_ fun a5_ r6_ => dInt .i64 a5_ fun q2 => dCons r6_ fun a7_ r8_ => dInt .i64 a7_ fun q3 => dNil r8_ <| dEnd tm <| K (q0, q1, q2, q3)
  law := by
    intro vs tm K h
    replace h := dCons_ok h; obtain ⟨a1_, r2_, rfl, h⟩ := h
    replace h := dPl_ok h; obtain ⟨q0, rfl, h⟩ := h
    replace h := dCons_ok h; obtain ⟨a3_, r4_, rfl, h⟩ := h
    replace h := dInt_ok h; obtain ⟨q1, rfl, h⟩ := h
    replace h := dCons_ok h; obtain ⟨a5_, r6_, rfl, h⟩ := h
    replace h := dInt_ok h; obtain ⟨q2, rfl, h⟩ := h
    replace h := dCons_ok h; obtain ⟨a7_, r8_, rfl, h⟩ := h
    replace h := dInt_ok h; obtain ⟨q3, rfl, h⟩ := h
    replace h := dNil_ok h; obtain ⟨rfl, h⟩ := h
    replace h := dEnd_ok h; obtain ⟨rfl, h⟩ := h
    exact ⟨(q0, q1, q2, q3), rfl, h⟩
def H115 : List (Nat × LH) := [(0, H115_0)]
def W115 : List (Nat × List (Nat × List Nat)) := []
def Γ115 : List (Nat × Con) := []
theorem e115 (p1 : List Int) (p2 : Int) (K : TV → TMem → Prop) : TW PP 19 Γ115 H115 W115 (List.length ([] : TMem)) (bodyOf Try.f115) (endT PP 19 [.tmp 4] [.x] [] (List.length ([] : TMem)) K) (argsF [.pl .int p1, .int .i64 p2]) [] =
    M_Index_int p1 p2 (fun r1 => K (.int .i64 r1) []) := by kernel_rfl
theorem s115 : CSound PP 115 G115 := by
  intro args K c h fl A aargs hA hN R hl
  unfold G115 at h
  generalize ht : c.tm = tm at h
  replace h := dCons_ok h; obtain ⟨a1_, r2_, rfl, h⟩ := h
  replace h := dPl_ok h; obtain ⟨p1, rfl, h⟩ := h
  replace h := dCons_ok h; obtain ⟨a3_, r4_, rfl, h⟩ := h
  replace h := dInt_ok h; obtain ⟨p2, rfl, h⟩ := h
  replace h := dNil_ok h; obtain ⟨rfl, h⟩ := h
  replace h := dEnd_ok h; obtain ⟨rfl, h⟩ := h
  refine fun_ok (nt := 19) (x := bodyOf Try.f115) (Γ := Γ115) (H := H115) (WW := W115) (rs := [.tmp 4]) (shs := [.x]) (cons := []) mixed Try.func115 (by decide) (by kernel_rfl) Try.ntmps115 Try.results115 (GSound.nil) ?_ hA hN R hl
  rw [ht, e115 p1 p2 K]
  exact h
/-! slices.Contains[[]int,int] -/
def G107 : Con := fun args tm K => dCons args fun a1_ r2_ => dPl .int a1_ fun p1 => dCons r2_ fun a3_ r4_ => dInt .i64 a3_ fun p2 => dNil r4_ <| dEnd tm <| M_Contains_int p1 p2 (fun r1 => K (.bool r1) [])
def H107 : List (Nat × LH) := []
def W107 : List (Nat × List (Nat × List Nat)) := []
def Γ107 : List (Nat × Con) := [(115, useC [.pure .int, .x] G115)]
theorem e107 (p1 : List Int) (p2 : Int) (K : TV → TMem → Prop) : TW PP 9 Γ107 H107 W107 (List.length ([] : TMem)) (bodyOf Try.f107) (endT PP 9 [.tmp 4] [.bl] [] (List.length ([] : TMem)) K) (argsF [.pl .int p1, .int .i64 p2]) [] =
    M_Contains_int p1 p2 (fun r1 => K (.bool r1) []) := by kernel_rfl
theorem s107 : CSound PP 107 G107 := by
  intro args K c h fl A aargs hA hN R hl
  unfold G107 at h
  generalize ht : c.tm = tm at h
  replace h := dCons_ok h; obtain ⟨a1_, r2_, rfl, h⟩ := h
  replace h := dPl_ok h; obtain ⟨p1, rfl, h⟩ := h
  replace h := dCons_ok h; obtain ⟨a3_, r4_, rfl, h⟩ := h
  replace h := dInt_ok h; obtain ⟨p2, rfl, h⟩ := h
  replace h := dNil_ok h; obtain ⟨rfl, h⟩ := h
  replace h := dEnd_ok h; obtain ⟨rfl, h⟩ := h
  refine fun_ok (nt := 9) (x := bodyOf Try.f107) (Γ := Γ107) (H := H107) (WW := W107) (rs := [.tmp 4]) (shs := [.bl]) (cons := []) mixed Try.func107 (by decide) (by kernel_rfl) Try.ntmps107 Try.results107 (.cons (useC_ok s115) (GSound.nil)) ?_ hA hN R hl
  rw [ht, e107 p1 p2 K]
  exact h
/-! impl.met -/
def G86 : Con := fun args tm K => dCons args fun a1_ r2_ => dSl 0 a1_ <| dCons r2_ fun a3_ r4_ => dPl .int a3_ fun p1 => dNil r4_ <| dBlk true tm fun b5_ m6_ => dList .int b5_ fun p2 => dEnd m6_ <| Mi_met p1 p2 (fun r1 => K (.sl 1) [⟨true, .dead⟩, ⟨true, .list .int r1⟩])
def H86_0 : LH where
  keep := [(0, .mv .int), (7, .pure .int), (8, .x), (9, .x)]
  S := List Int × Int × Int × List Int
  enc := fun s => ([.sl 1, .pl .int s.1, .int .i64 s.2.1, .int .i64 s.2.2.1], [⟨true, .dead⟩, ⟨true, .list .int s.2.2.2⟩])
  dec := fun vs tm K => dCons vs fun a1_ r2_ => dSl 1 a1_ <| dCons r2_ fun a3_ r4_ => dPl .int a3_ fun q0 => dCons r4_ fun a5_ r6_ => dInt .i64 a5_ fun q1 => dCons r6_ fun a7_ r8_ => dInt .i64 a7_ fun q2 => dNil r8_ <| dBlk true tm fun b9_ m10_ => dDead b9_ <| dBlk true m10_ fun b11_ m12_ => dList .int b11_ fun q3 => dEnd m12_ <| K (q0, q1, q2, q3)
  law := by
    intro vs tm K h
    replace h := dCons_ok h; obtain ⟨a1_, r2_, rfl, h⟩ := h
    replace h := dSl_ok h; obtain ⟨rfl, h⟩ := h
    replace h := dCons_ok h; obtain ⟨a3_, r4_, rfl, h⟩ := h
    replace h := dPl_ok h; obtain ⟨q0, rfl, h⟩ := h
    replace h := dCons_ok h; obtain ⟨a5_, r6_, rfl, h⟩ := h
    replace h := dInt_ok h; obtain ⟨q1, rfl, h⟩ := h
    replace h := dCons_ok h; obtain ⟨a7_, r8_, rfl, h⟩ := h
    replace h := dInt_ok h; obtain ⟨q2, rfl, h⟩ := h
    replace h := dNil_ok h; obtain ⟨rfl, h⟩ := h
    replace h := dBlk_ok h; obtain ⟨b9_, m10_, rfl, h⟩ := h
    replace h := dDead_ok h; obtain ⟨rfl, h⟩ := h
    replace h := dBlk_ok h; obtain ⟨b11_, m12_, rfl, h⟩ := h
    replace h := dList_ok h; obtain ⟨q3, rfl, h⟩ := h
    replace h := dEnd_ok h; obtain ⟨rfl, h⟩ := h
    exact ⟨(q0, q1, q2, q3), rfl, h⟩
def H86 : List (Nat × LH) := [(0, H86_0)]
def W86 : List (Nat × List (Nat × List Nat)) := []
def Γ86 : List (Nat × Con) := [(107, useC [.pure .int, .x] G107)]
theorem e86 (p1 : List Int) (p2 : List Int) (K : TV → TMem → Prop) : TW PP 27 Γ86 H86 W86 (List.length ([⟨true, .list .int p2⟩] : TMem)) (bodyOf Try.f86) (endT PP 27 [.tmp 4] [.own .int] [0] (List.length ([⟨true, .list .int p2⟩] : TMem)) K) (argsF [.sl 0, .pl .int p1]) [⟨true, .list .int p2⟩] =
    Mi_met p1 p2 (fun r1 => K (.sl 1) [⟨true, .dead⟩, ⟨true, .list .int r1⟩]) := by kernel_rfl
theorem s86 : CSound PP 86 G86 := by
  intro args K c h fl A aargs hA hN R hl
  unfold G86 at h
  generalize ht : c.tm = tm at h
  replace h := dCons_ok h; obtain ⟨a1_, r2_, rfl, h⟩ := h
  replace h := dSl_ok h; obtain ⟨rfl, h⟩ := h
  replace h := dCons_ok h; obtain ⟨a3_, r4_, rfl, h⟩ := h
  replace h := dPl_ok h; obtain ⟨p1, rfl, h⟩ := h
  replace h := dNil_ok h; obtain ⟨rfl, h⟩ := h
  replace h := dBlk_ok h; obtain ⟨b5_, m6_, rfl, h⟩ := h
  replace h := dList_ok h; obtain ⟨p2, rfl, h⟩ := h
  replace h := dEnd_ok h; obtain ⟨rfl, h⟩ := h
  refine fun_ok (nt := 27) (x := bodyOf Try.f86) (Γ := Γ86) (H := H86) (WW := W86) (rs := [.tmp 4]) (shs := [.own .int]) (cons := [0]) mixed Try.func86 (by decide) (by kernel_rfl) Try.ntmps86 Try.results86 (.cons (useC_ok s107) (GSound.nil)) ?_ hA hN R hl
  rw [ht, e86 p1 p2 K]
  exact h
/-! slices.Clip[[]int,int] -/
def G87 : Con := fun args tm K => dCons args fun a1_ r2_ => dSl 0 a1_ <| dNil r2_ <| dBlk true tm fun b3_ m4_ => dList .int b3_ fun p1 => dEnd m4_ <| M_Clip_int p1 (fun r1 => K (.sl 1) [⟨true, .dead⟩, ⟨true, .list .int r1⟩])
def H87 : List (Nat × LH) := []
def W87 : List (Nat × List (Nat × List Nat)) := []
def Γ87 : List (Nat × Con) := []
theorem e87 (p1 : List Int) (K : TV → TMem → Prop) : TW PP 9 Γ87 H87 W87 (List.length ([⟨true, .list .int p1⟩] : TMem)) (bodyOf Try.f87) (endT PP 9 [.tmp 2] [.own .int] [] (List.length ([⟨true, .list .int p1⟩] : TMem)) K) (argsF [.sl 0]) [⟨true, .list .int p1⟩] =
    M_Clip_int p1 (fun r1 => K (.sl 1) [⟨true, .dead⟩, ⟨true, .list .int r1⟩]) := by kernel_rfl
theorem s87 : CSound PP 87 G87 := by
  intro args K c h fl A aargs hA hN R hl
  unfold G87 at h
  generalize ht : c.tm = tm at h
  replace h := dCons_ok h; obtain ⟨a1_, r2_, rfl, h⟩ := h
  replace h := dSl_ok h; obtain ⟨rfl, h⟩ := h
  replace h := dNil_ok h; obtain ⟨rfl, h⟩ := h
  replace h := dBlk_ok h; obtain ⟨b3_, m4_, rfl, h⟩ := h
  replace h := dList_ok h; obtain ⟨p1, rfl, h⟩ := h
  replace h := dEnd_ok h; obtain ⟨rfl, h⟩ := h
  refine fun_ok (nt := 9) (x := bodyOf Try.f87) (Γ := Γ87) (H := H87) (WW := W87) (rs := [.tmp 2]) (shs := [.own .int]) (cons := []) mixed Try.func87 (by decide) (by kernel_rfl) Try.ntmps87 Try.results87 (GSound.nil) ?_ hA hN R hl
  rw [ht, e87 p1 K]
  exact h
/-! impl.OrderOf -/
def G31 : Con := fun args tm K => dCons args fun a1_ r2_ => dAgg a1_ fun l3_ => dCons l3_ fun a4_ r5_ => dPl .int a4_ fun p1 => dCons r5_ fun a6_ r7_ => dPl .int a6_ fun p2 => dCons r7_ fun a8_ r9_ => dPl .int a8_ fun p3 => dNil r9_ <| dNil r2_ <| dEnd tm <| Mi_OrderOf p1 p2 p3 (fun r1 => K (.sl 0) [⟨true, .list .int r1⟩])
def H31_0 : LH where
  keep := [(1, .pc [.pure .int, .pure .int, .pure .int]), (3, .own .int), (4, .x)]
  S := Int × List Int × List Int × List Int × List Int
  enc := fun s => ([.ptr 0 0, .sl 1, .int .i64 s.1], [⟨true, .cells [.pl .int s.2.1, .pl .int s.2.2.1, .pl .int s.2.2.2.1]⟩, ⟨true, .list .int s.2.2.2.2⟩])
  dec := fun vs tm K => dCons vs fun a1_ r2_ => dPtr 0 a1_ <| dCons r2_ fun a3_ r4_ => dSl 1 a3_ <| dCons r4_ fun a5_ r6_ => dInt .i64 a5_ fun q0 => dNil r6_ <| dBlk true tm fun b7_ m8_ => dCells b7_ fun c9_ => dCons c9_ fun a10_ r11_ => dPl .int a10_ fun q1 => dCons r11_ fun a12_ r13_ => dPl .int a12_ fun q2 => dCons r13_ fun a14_ r15_ => dPl .int a14_ fun q3 => dNil r15_ <| dBlk true m8_ fun b16_ m17_ => dList .int b16_ fun q4 => dEnd m17_ <| K (q0, q1, q2, q3, q4)
  law := by
    intro vs tm K h
    replace h := dCons_ok h; obtain ⟨a1_, r2_, rfl, h⟩ := h
    replace h := dPtr_ok h; obtain ⟨rfl, h⟩ := h
    replace h := dCons_ok h; obtain ⟨a3_, r4_, rfl, h⟩ := h
    replace h := dSl_ok h; obtain ⟨rfl, h⟩ := h
    replace h := dCons_ok h; obtain ⟨a5_, r6_, rfl, h⟩ := h
    replace h := dInt_ok h; obtain ⟨q0, rfl, h⟩ := h
    replace h := dNil_ok h; obtain ⟨rfl, h⟩ := h
    replace h := dBlk_ok h; obtain ⟨b7_, m8_, rfl, h⟩ := h
    replace h := dCells_ok h; obtain ⟨c9_, rfl, h⟩ := h
    replace h := dCons_ok h; obtain ⟨a10_, r11_, rfl, h⟩ := h
    replace h := dPl_ok h; obtain ⟨q1, rfl, h⟩ := h
    replace h := dCons_ok h; obtain ⟨a12_, r13_, rfl, h⟩ := h
    replace h := dPl_ok h; obtain ⟨q2, rfl, h⟩ := h
    replace h := dCons_ok h; obtain ⟨a14_, r15_, rfl, h⟩ := h
    replace h := dPl_ok h; obtain ⟨q3, rfl, h⟩ := h
    replace h := dNil_ok h; obtain ⟨rfl, h⟩ := h
    replace h := dBlk_ok h; obtain ⟨b16_, m17_, rfl, h⟩ := h
    replace h := dList_ok h; obtain ⟨q4, rfl, h⟩ := h
    replace h := dEnd_ok h; obtain ⟨rfl, h⟩ := h
    exact ⟨(q0, q1, q2, q3, q4), rfl, h⟩
def H31 : List (Nat × LH) := [(0, H31_0)]
def W31 : List (Nat × List (Nat × List Nat)) := []
def Γ31 : List (Nat × Con) := [(34, useC [.ag [.pure .int, .pure .int, .pure .int]] G34), (86, useC [.own .int, .pure .int] G86), (87, useC [.own .int] G87)]
theorem e31 (p1 : List Int) (p2 : List Int) (p3 : List Int) (K : TV → TMem → Prop) : TW PP 39 Γ31 H31 W31 (List.length ([] : TMem)) (bodyOf Try.f31) (endT PP 39 [.tmp 2] [.own .int] [] (List.length ([] : TMem)) K) (argsF [.agg [.pl .int p1, .pl .int p2, .pl .int p3]]) [] =
    Mi_OrderOf p1 p2 p3 (fun r1 => K (.sl 0) [⟨true, .list .int r1⟩]) := by kernel_rfl
theorem s31 : CSound PP 31 G31 := by
  intro args K c h fl A aargs hA hN R hl
  unfold G31 at h
  generalize ht : c.tm = tm at h
  replace h := dCons_ok h; obtain ⟨a1_, r2_, rfl, h⟩ := h
  replace h := dAgg_ok h; obtain ⟨l3_, rfl, h⟩ := h
  replace h := dCons_ok h; obtain ⟨a4_, r5_, rfl, h⟩ := h
  replace h := dPl_ok h; obtain ⟨p1, rfl, h⟩ := h
  replace h := dCons_ok h; obtain ⟨a6_, r7_, rfl, h⟩ := h
  replace h := dPl_ok h; obtain ⟨p2, rfl, h⟩ := h
  replace h := dCons_ok h; obtain ⟨a8_, r9_, rfl, h⟩ := h
  replace h := dPl_ok h; obtain ⟨p3, rfl, h⟩ := h
  replace h := dNil_ok h; obtain ⟨rfl, h⟩ := h
  replace h := dNil_ok h; obtain ⟨rfl, h⟩ := h
  replace h := dEnd_ok h; obtain ⟨rfl, h⟩ := h
  refine fun_ok (nt := 39) (x := bodyOf Try.f31) (Γ := Γ31) (H := H31) (WW := W31) (rs := [.tmp 2]) (shs := [.own .int]) (cons := []) mixed Try.func31 (by decide) (by kernel_rfl) Try.ntmps31 Try.results31 (.cons (useC_ok s34) (.cons (useC_ok s86) (.cons (useC_ok s87) (GSound.nil)))) ?_ hA hN R hl
  rw [ht, e31 p1 p2 p3 K]
  exact h
/-! spec.l1Points -/
def G127 : Con := fun args tm K => dCons args fun a1_ r2_ => dInt .i64 a1_ fun p1 => dCons r2_ fun a3_ r4_ => dInt .i64 a3_ fun p2 => dNil r4_ <| dEnd tm <| Ms_l1Points p1 p2 (fun r1 => K (.bool r1) [])
def H127 : List (Nat × LH) := []
def W127 : List (Nat × List (Nat × List Nat)) := []
def Γ127 : List (Nat × Con) := []
theorem e127 (p1 : Int) (p2 : Int) (K : TV → TMem → Prop) : TW PP 12 Γ127 H127 W127 (List.length ([] : TMem)) (bodyOf Try.f127) (endT PP 12 [.tmp 4] [.bl] [] (List.length ([] : TMem)) K) (argsF [.int .i64 p1, .int .i64 p2]) [] =
    Ms_l1Points p1 p2 (fun r1 => K (.bool r1) []) := by kernel_rfl
theorem s127 : CSound PP 127 G127 := by
  intro args K c h fl A aargs hA hN R hl
  unfold G127 at h
  generalize ht : c.tm = tm at h
  replace h := dCons_ok h; obtain ⟨a1_, r2_, rfl, h⟩ := h
  replace h := dInt_ok h; obtain ⟨p1, rfl, h⟩ := h
  replace h := dCons_ok h; obtain ⟨a3_, r4_, rfl, h⟩ := h
  replace h := dInt_ok h; obtain ⟨p2, rfl, h⟩ := h
  replace h := dNil_ok h; obtain ⟨rfl, h⟩ := h
  replace h := dEnd_ok h; obtain ⟨rfl, h⟩ := h
  refine fun_ok (nt := 12) (x := bodyOf Try.f127) (Γ := Γ127) (H := H127) (WW := W127) (rs := [.tmp 4]) (shs := [.bl]) (cons := []) mixed Try.func127 (by decide) (by kernel_rfl) Try.ntmps127 Try.results127 (GSound.nil) ?_ hA hN R hl
  rw [ht, e127 p1 p2 K]
  exact h
/-! spec.HeapValid -/
def G88 : Con := fun args tm K => dCons args fun a1_ r2_ => dAgg a1_ fun l3_ => dCons l3_ fun a4_ r5_ => dPl .int a4_ fun p1 => dCons r5_ fun a6_ r7_ => dPl .int a6_ fun p2 => dCons r7_ fun a8_ r9_ => dPl .int a8_ fun p3 => dNil r9_ <| dNil r2_ <| dEnd tm <| Ms_HeapValid p1 p2 p3 (fun r1 => K (.bool r1) [])
def H88_0 : LH where
  keep := [(1, .pc [.pure .int, .pure .int, .pure .int]), (3, .x), (4, .x)]
  S := Int × Int × List Int × List Int × List Int
  enc := fun s => ([.ptr 0 0, .int .i64 s.1, .int .i64 s.2.1], [⟨true, .cells [.pl .int s.2.2.1, .pl .int s.2.2.2.1, .pl .int s.2.2.2.2]⟩])
  dec := fun vs tm K => dCons vs fun a1_ r2_ => dPtr 0 a1_ <| dCons r2_ fun a3_ r4_ => dInt .i64 a3_ fun q0 => dCons r4_ fun a5_ r6_ => dInt .i64 a5_ fun q1 => dNil r6_ <| dBlk true tm fun b7_ m8_ => dCells b7_ fun c9_ => dCons c9_ fun a10_ r11_ => dPl .int a10_ fun q2 => dCons r11_ fun a12_ r13_ => dPl .int a12_ fun q3 => dCons r13_ fun a14_ r15_ => dPl .int a14_ fun q4 => dNil r15_ <| dEnd m8_ <| K (q0, q1, q2, q3, q4)
  law := by
    intro vs tm K h
    replace h := dCons_ok h; obtain ⟨a1_, r2_, rfl, h⟩ := h
    replace h := dPtr_ok h; obtain ⟨rfl, h⟩ := h
    replace h := dCons_ok h; obtain ⟨a3_, r4_, rfl, h⟩ := h
    replace h := dInt_ok h; obtain ⟨q0, rfl, h⟩ := h
    replace h := dCons_ok h; obtain ⟨a5_, r6_, rfl, h⟩ := h
    replace h := dInt_ok h; obtain ⟨q1, rfl, h⟩ := h
    replace h := dNil_ok h; obtain ⟨rfl, h⟩ := h
    replace h := dBlk_ok h; obtain ⟨b7_, m8_, rfl, h⟩ := h
    replace h := dCells_ok h; obtain ⟨c9_, rfl, h⟩ := h
    replace h := dCons_ok h; obtain ⟨a10_, r11_, rfl, h⟩ := h
    replace h := dPl_ok h; obtain ⟨q2, rfl, h⟩ := h
    replace h := dCons_ok h; obtain ⟨a12_, r13_, rfl, h⟩ := h
    replace h := dPl_ok h; obtain ⟨q3, rfl, h⟩ := h
    replace h := dCons_ok h; obtain ⟨a14_, r15_, rfl, h⟩ := h
    replace h := dPl_ok h; obtain ⟨q4, rfl, h⟩ := h
    replace h := dNil_ok h; obtain ⟨rfl, h⟩ := h
    replace h := dEnd_ok h; obtain ⟨rfl, h⟩ := h
    exact ⟨(q0, q1, q2, q3, q4), rfl, h⟩
def H88_2 : LH where
  keep := [(1, .pc [.pure .int, .pure .int, .pure .int]), (3, .x), (5, .x)]
  S := Int × Int × List Int × List Int × List Int
  enc := fun s => ([.ptr 0 0, .int .i64 s.1, .int .i64 s.2.1], [⟨true, .cells [.pl .int s.2.2.1, .pl .int s.2.2.2.1, .pl .int s.2.2.2.2]⟩])
  dec := fun vs tm K => dCons vs fun a1_ r2_ => dPtr 0 a1_ <| dCons r2_ fun a3_ r4_ => dInt .i64 a3_ fun q0 => dCons r4_ fun a5_ r6_ => dInt .i64 a5_ fun q1 => dNil r6_ <| dBlk true tm fun b7_ m8_ => dCells b7_ fun c9_ => dCons c9_ fun a10_ r11_ => dPl .int a10_ fun q2 => dCons r11_ fun a12_ r13_ => dPl .int a12_ fun q3 => dCons r13_ fun a14_ r15_ => dPl .int a14_ fun q4 => dNil r15_ <| dEnd m8_ <| K (q0, q1, q2, q3, q4)
  law := by
    intro vs tm K h
    replace h := dCons_ok h; obtain ⟨a1_, r2_, rfl, h⟩ := h
    replace h := dPtr_ok h; obtain ⟨rfl, h⟩ := h
    replace h := dCons_ok h; obtain ⟨a3_, r4_, rfl, h⟩ := h
    replace h := dInt_ok h; obtain ⟨q0, rfl, h⟩ := h
    replace h := dCons_ok h; obtain ⟨a5_, r6_, rfl, h⟩ := h
    replace h := dInt_ok h; obtain ⟨q1, rfl, h⟩ := h
    replace h := dNil_ok h; obtain ⟨rfl, h⟩ := h
    replace h := dBlk_ok h; obtain ⟨b7_, m8_, rfl, h⟩ := h
    replace h := dCells_ok h; obtain ⟨c9_, rfl, h⟩ := h
    replace h := dCons_ok h; obtain ⟨a10_, r11_, rfl, h⟩ := h
    replace h := dPl_ok h; obtain ⟨q2, rfl, h⟩ := h
    replace h := dCons_ok h; obtain ⟨a12_, r13_, rfl, h⟩ := h
    replace h := dPl_ok h; obtain ⟨q3, rfl, h⟩ := h
    replace h := dCons_ok h; obtain ⟨a14_, r15_, rfl, h⟩ := h
    replace h := dPl_ok h; obtain ⟨q4, rfl, h⟩ := h
    replace h := dNil_ok h; obtain ⟨rfl, h⟩ := h
    replace h := dEnd_ok h; obtain ⟨rfl, h⟩ := h
    exact ⟨(q0, q1, q2, q3, q4), rfl, h⟩
def H88 : List (Nat × LH) := [(0, H88_0), (2, H88_2)]
def W88 : List (Nat × List (Nat × List Nat)) := []
def Γ88 : List (Nat × Con) := [(127, useC [.x, .x] G127)]
theorem e88 (p1 : List Int) (p2 : List Int) (p3 : List Int) (K : TV → TMem → Prop) : TW PP 72 Γ88 H88 W88 (List.length ([] : TMem)) (bodyOf Try.f88) (endT PP 72 [.tmp 2] [.bl] [] (List.length ([] : TMem)) K) (argsF [.agg [.pl .int p1, .pl .int p2, .pl .int p3]]) [] =
    Ms_HeapValid p1 p2 p3 (fun r1 => K (.bool r1) []) := by kernel_rfl
theorem s88 : CSound PP 88 G88 := by
  intro args K c h fl A aargs hA hN R hl
  unfold G88 at h
  generalize ht : c.tm = tm at h
  replace h := dCons_ok h; obtain ⟨a1_, r2_, rfl, h⟩ := h
  replace h := dAgg_ok h; obtain ⟨l3_, rfl, h⟩ := h
  replace h := dCons_ok h; obtain ⟨a4_, r5_, rfl, h⟩ := h
  replace h := dPl_ok h; obtain ⟨p1, rfl, h⟩ := h
  replace h := dCons_ok h; obtain ⟨a6_, r7_, rfl, h⟩ := h
  replace h := dPl_ok h; obtain ⟨p2, rfl, h⟩ := h
  replace h := dCons_ok h; obtain ⟨a8_, r9_, rfl, h⟩ := h
  replace h := dPl_ok h; obtain ⟨p3, rfl, h⟩ := h
  replace h := dNil_ok h; obtain ⟨rfl, h⟩ := h
  replace h := dNil_ok h; obtain ⟨rfl, h⟩ := h
  replace h := dEnd_ok h; obtain ⟨rfl, h⟩ := h
  refine fun_ok (nt := 72) (x := bodyOf Try.f88) (Γ := Γ88) (H := H88) (WW := W88) (rs := [.tmp 2]) (shs := [.bl]) (cons := []) mixed Try.func88 (by decide) (by kernel_rfl) Try.ntmps88 Try.results88 (.cons (useC_ok s127) (GSound.nil)) ?_ hA hN R hl
  rw [ht, e88 p1 p2 p3 K]
  exact h
/-! spec.l10At -/
def G136 : Con := fun args tm K => dCons args fun a1_ r2_ => dPl .int a1_ fun p1 => dCons r2_ fun a3_ r4_ => dInt .i64 a3_ fun p2 => dNil r4_ <| dEnd tm <| Ms_l10At p1 p2 (fun r1 => K (.int .i64 r1) [])
def H136_0 : LH where
  keep := [(0, .pure .int), (1, .x), (5, .x)]
  S := List Int × Int × Int
  enc := fun s => ([.pl .int s.1, .int .i64 s.2.1, .int .i64 s.2.2], [])
  dec := fun vs tm K => dCons vs fun a1_ r2_ => dPl .int a1_ fun q0 => dCons r2_ fun a3_ r4_ => dInt .i64 a3_ fun q1 => dCons r4_ fun a5_ r6_ => dInt .i64 a5_ fun q2 => dNil r6_ <| dEnd tm <| K (q0, q1, q2)
  law := by
    intro vs tm K h
    replace h := dCons_ok h; obtain ⟨a1_, r2_, rfl, h⟩ := h
    replace h := dPl_ok h; obtain ⟨q0, rfl, h⟩ := h
    replace h := dCons_ok h; obtain ⟨a3_, r4_, rfl, h⟩ := h
    replace h := dInt_ok h; obtain ⟨q1, rfl, h⟩ := h
    replace h := dCons_ok h; obtain ⟨a5_, r6_, rfl, h⟩ := h
    replace h := dInt_ok h; obtain ⟨q2, rfl, h⟩ := h
    replace h := dNil_ok h; obtain ⟨rfl, h⟩ := h
    replace h := dEnd_ok h; obtain ⟨rfl, h⟩ := h
    exact ⟨(q0, q1, q2), rfl, h⟩
def H136 : List (Nat × LH) := [(0, H136_0)]
def W136 : List (Nat × List (Nat × List Nat)) := []
def Γ136 : List (Nat × Con) := []
theorem e136 (p1 : List Int) (p2 : Int) (K : TV → TMem → Prop) : TW PP 19 Γ136 H136 W136 (List.length ([] : TMem)) (bodyOf Try.f136) (endT PP 19 [.tmp 4] [.x] [] (List.length ([] : TMem)) K) (argsF [.pl .int p1, .int .i64 p2]) [] =
    Ms_l10At p1 p2 (fun r1 => K (.int .i64 r1) []) := by kernel_rfl
theorem s136 : CSound PP 136 G136 := by
  intro args K c h fl A aargs hA hN R hl
  unfold G136 at h
  generalize ht : c.tm = tm at h
  replace h := dCons_ok h; obtain ⟨a1_, r2_, rfl, h⟩ := h
  replace h := dPl_ok h; obtain ⟨p1, rfl, h⟩ := h
  replace h := dCons_ok h; obtain ⟨a3_, r4_, rfl, h⟩ := h
  replace h := dInt_ok h; obtain ⟨p2, rfl, h⟩ := h
  replace h := dNil_ok h; obtain ⟨rfl, h⟩ := h
  replace h := dEnd_ok h; obtain ⟨rfl, h⟩ := h
  refine fun_ok (nt := 19) (x := bodyOf Try.f136) (Γ := Γ136) (H := H136) (WW := W136) (rs := [.tmp 4]) (shs := [.x]) (cons := []) mixed Try.func136 (by decide) (by kernel_rfl) Try.ntmps136 Try.results136 (GSound.nil) ?_ hA hN R hl
  rw [ht, e136 p1 p2 K]
  exact h
/-! spec.l10Meet -/
def G128 : Con := fun args tm K => dCons args fun a1_ r2_ => dSl 0 a1_ <| dCons r2_ fun a3_ r4_ => dInt .i64 a3_ fun p1 => dNil r4_ <| dBlk true tm fun b5_ m6_ => dList .int b5_ fun p2 => dEnd m6_ <| Ms_l10Meet p1 p2 (fun r1 => K (.sl 1) [⟨true, .dead⟩, ⟨true, .list .int r1⟩])
def H128 : List (Nat × LH) := []
def W128 : List (Nat × List (Nat × List Nat)) := []
def Γ128 : List (Nat × Con) := [(136, useC [.pure .int, .x] G136)]
theorem e128 (p1 : Int) (p2 : List Int) (K : TV → TMem → Prop) : TW PP 20 Γ128 H128 W128 (List.length ([⟨true, .list .int p2⟩] : TMem)) (bodyOf Try.f128) (endT PP 20 [.tmp 4] [.own .int] [0] (List.length ([⟨true, .list .int p2⟩] : TMem)) K) (argsF [.sl 0, .int .i64 p1]) [⟨true, .list .int p2⟩] =
    Ms_l10Meet p1 p2 (fun r1 => K (.sl 1) [⟨true, .dead⟩, ⟨true, .list .int r1⟩]) := by kernel_rfl
theorem s128 : CSound PP 128 G128 := by
  intro args K c h fl A aargs hA hN R hl
  unfold G128 at h
  generalize ht : c.tm = tm at h
  replace h := dCons_ok h; obtain ⟨a1_, r2_, rfl, h⟩ := h
  replace h := dSl_ok h; obtain ⟨rfl, h⟩ := h
  replace h := dCons_ok h; obtain ⟨a3_, r4_, rfl, h⟩ := h
  replace h := dInt_ok h; obtain ⟨p1, rfl, h⟩ := h
  replace h := dNil_ok h; obtain ⟨rfl, h⟩ := h
  replace h := dBlk_ok h; obtain ⟨b5_, m6_, rfl, h⟩ := h
  replace h := dList_ok h; obtain ⟨p2, rfl, h⟩ := h
  replace h := dEnd_ok h; obtain ⟨rfl, h⟩ := h
  refine fun_ok (nt := 20) (x := bodyOf Try.f128) (Γ := Γ128) (H := H128) (WW := W128) (rs := [.tmp 4]) (shs := [.own .int]) (cons := [0]) mixed Try.func128 (by decide) (by kernel_rfl) Try.ntmps128 Try.results128 (.cons (useC_ok s136) (GSound.nil)) ?_ hA hN R hl
  rw [ht, e128 p1 p2 K]
  exact h
/-! spec.l10Order -/
def G89 : Con := fun args tm K => dCons args fun a1_ r2_ => dAgg a1_ fun l3_ => dCons l3_ fun a4_ r5_ => dPl .int a4_ fun p1 => dCons r5_ fun a6_ r7_ => dPl .int a6_ fun p2 => dCons r7_ fun a8_ r9_ => dPl .int a8_ fun p3 => dNil r9_ <| dNil r2_ <| dEnd tm <| Ms_l10Order p1 p2 p3 (fun r1 => K (.sl 0) [⟨true, .list .int r1⟩])
def H89_0 : LH where
  keep := [(1, .pc [.pure .int, .pure .int, .pure .int]), (3, .own .int), (4, .x)]
  S := Int × List Int × List Int × List Int × List Int
  enc := fun s => ([.ptr 0 0, .sl 1, .int .i64 s.1], [⟨true, .cells [.pl .int s.2.1, .pl .int s.2.2.1, .pl .int s.2.2.2.1]⟩, ⟨true, .list .int s.2.2.2.2⟩])
  dec := fun vs tm K => dCons vs fun a1_ r2_ => dPtr 0 a1_ <| dCons r2_ fun a3_ r4_ => dSl 1 a3_ <| dCons r4_ fun a5_ r6_ => dInt .i64 a5_ fun q0 => dNil r6_ <| dBlk true tm fun b7_ m8_ => dCells b7_ fun c9_ => dCons c9_ fun a10_ r11_ => dPl .int a10_ fun q1 => dCons r11_ fun a12_ r13_ => dPl .int a12_ fun q2 => dCons r13_ fun a14_ r15_ => dPl .int a14_ fun q3 => dNil r15_ <| dBlk true m8_ fun b16_ m17_ => dList .int b16_ fun q4 => dEnd m17_ <| K (q0, q1, q2, q3, q4)
  law := by
    intro vs tm K h
    replace h := dCons_ok h; obtain ⟨a1_, r2_, rfl, h⟩ := h
    replace h := dPtr_ok h; obtain ⟨rfl, h⟩ := h
    replace h := dCons_ok h; obtain ⟨a3_, r4_, rfl, h⟩ := h
    replace h := dSl_ok h; obtain ⟨rfl, h⟩ := h
    replace h := dCons_ok h; obtain ⟨a5_, r6_, rfl, h⟩ := h
    replace h := dInt_ok h; obtain ⟨q0, rfl, h⟩ := h
    replace h := dNil_ok h; obtain ⟨rfl, h⟩ := h
    replace h := dBlk_ok h; obtain ⟨b7_, m8_, rfl, h⟩ := h
    replace h := dCells_ok h; obtain ⟨c9_, rfl, h⟩ := h
    replace h := dCons_ok h; obtain ⟨a10_, r11_, rfl, h⟩ := h
    replace h := dPl_ok h; obtain ⟨q1, rfl, h⟩ := h
    replace h := dCons_ok h; obtain ⟨a12_, r13_, rfl, h⟩ := h
    replace h := dPl_ok h; obtain ⟨q2, rfl, h⟩ := h
    replace h := dCons_ok h; obtain ⟨a14_, r15_, rfl, h⟩ := h
    replace h := dPl_ok h; obtain ⟨q3, rfl, h⟩ := h
    replace h := dNil_ok h; obtain ⟨rfl, h⟩ := h
    replace h := dBlk_ok h; obtain ⟨b16_, m17_, rfl, h⟩ := h
    replace h := dList_ok h; obtain ⟨q4, rfl, h⟩ := h
    replace h := dEnd_ok h; obtain ⟨rfl, h⟩ := h
    exact ⟨(q0, q1, q2, q3, q4), rfl, h⟩
def H89_2 : LH where
  keep := [(1, .pc [.pure .int, .pure .int, .pure .int]), (3, .own .int), (5, .x)]
  S := Int × List Int × List Int × List Int × List Int
  enc := fun s => ([.ptr 0 0, .sl 1, .int .i64 s.1], [⟨true, .cells [.pl .int s.2.1, .pl .int s.2.2.1, .pl .int s.2.2.2.1]⟩, ⟨true, .list .int s.2.2.2.2⟩])
  dec := fun vs tm K => dCons vs fun a1_ r2_ => dPtr 0 a1_ <| dCons r2_ fun a3_ r4_ => dSl 1 a3_ <| dCons r4_ fun a5_ r6_ => dInt .i64 a5_ fun q0 => dNil r6_ <| dBlk true tm fun b7_ m8_ => dCells b7_ fun c9_ => dCons c9_ fun a10_ r11_ => dPl .int a10_ fun q1 => dCons r11_ fun a12_ r13_ => dPl .int a12_ fun q2 => dCons r13_ fun a14_ r15_ => dPl .int a14_ fun q3 => dNil r15_ <| dBlk true m8_ fun b16_ m17_ => dList .int b16_ fun q4 => dEnd m17_ <| K (q0, q1, q2, q3, q4)
  law := by
    intro vs tm K h
    replace h := dCons_ok h; obtain ⟨a1_, r2_, rfl, h⟩ := h
    replace h := dPtr_ok h; obtain ⟨rfl, h⟩ := h
    replace h := dCons_ok h; obtain ⟨a3_, r4_, rfl, h⟩ := h
    replace h := dSl_ok h; obtain ⟨rfl, h⟩ := h
    replace h := dCons_ok h; obtain ⟨a5_, r6_, rfl, h⟩ := h
    replace h := dInt_ok h; obtain ⟨q0, rfl, h⟩ := h
    replace h := dNil_ok h; obtain ⟨rfl, h⟩ := h
    replace h := dBlk_ok h; obtain ⟨b7_, m8_, rfl, h⟩ := h
    replace h := dCells_ok h; obtain ⟨c9_, rfl, h⟩ := h
    replace h := dCons_ok h; obtain ⟨a10_, r11_, rfl, h⟩ := h
    replace h := dPl_ok h; obtain ⟨q1, rfl, h⟩ := h
    replace h := dCons_ok h; obtain ⟨a12_, r13_, rfl, h⟩ := h
    replace h := dPl_ok h; obtain ⟨q2, rfl, h⟩ := h
    replace h := dCons_ok h; obtain ⟨a14_, r15_, rfl, h⟩ := h
    replace h := dPl_ok h; obtain ⟨q3, rfl, h⟩ := h
    replace h := dNil_ok h; obtain ⟨rfl, h⟩ := h
    replace h := dBlk_ok h; obtain ⟨b16_, m17_, rfl, h⟩ := h
    replace h := dList_ok h; obtain ⟨q4, rfl, h⟩ := h
    replace h := dEnd_ok h; obtain ⟨rfl, h⟩ := h
    exact ⟨(q0, q1, q2, q3, q4), rfl, h⟩
def H89 : List (Nat × LH) := [(0, H89_0), (2, H89_2)]
def W89 : List (Nat × List (Nat × List Nat)) := []
def Γ89 : List (Nat × Con) := [(128, useC [.own .int, .x] G128)]
theorem e89 (p1 : List Int) (p2 : List Int) (p3 : List Int) (K : TV → TMem → Prop) : TW PP 48 Γ89 H89 W89 (List.length ([] : TMem)) (bodyOf Try.f89) (endT PP 48 [.tmp 2] [.own .int] [] (List.length ([] : TMem)) K) (argsF [.agg [.pl .int p1, .pl .int p2, .pl .int p3]]) [] =
    Ms_l10Order p1 p2 p3 (fun r1 => K (.sl 0) [⟨true, .list .int r1⟩]) := by kernel_rfl
theorem s89 : CSound PP 89 G89 := by
  intro args K c h fl A aargs hA hN R hl
  unfold G89 at h
  generalize ht : c.tm = tm at h
  replace h := dCons_ok h; obtain ⟨a1_, r2_, rfl, h⟩ := h
  replace h := dAgg_ok h; obtain ⟨l3_, rfl, h⟩ := h
  replace h := dCons_ok h; obtain ⟨a4_, r5_, rfl, h⟩ := h
  replace h := dPl_ok h; obtain ⟨p1, rfl, h⟩ := h
  replace h := dCons_ok h; obtain ⟨a6_, r7_, rfl, h⟩ := h
  replace h := dPl_ok h; obtain ⟨p2, rfl, h⟩ := h
  replace h := dCons_ok h; obtain ⟨a8_, r9_, rfl, h⟩ := h
  replace h := dPl_ok h; obtain ⟨p3, rfl, h⟩ := h
  replace h := dNil_ok h; obtain ⟨rfl, h⟩ := h
  replace h := dNil_ok h; obtain ⟨rfl, h⟩ := h
  replace h := dEnd_ok h; obtain ⟨rfl, h⟩ := h
  refine fun_ok (nt := 48) (x := bodyOf Try.f89) (Γ := Γ89) (H := H89) (WW := W89) (rs := [.tmp 2]) (shs := [.own .int]) (cons := []) mixed Try.func89 (by decide) (by kernel_rfl) Try.ntmps89 Try.results89 (.cons (useC_ok s128) (GSound.nil)) ?_ hA hN R hl
  rw [ht, e89 p1 p2 p3 K]
  exact h
/-! spec.OrderOf -/
def G33 : Con := fun args tm K => dCons args fun a1_ r2_ => dAgg a1_ fun l3_ => dCons l3_ fun a4_ r5_ => dPl .int a4_ fun p1 => dCons r5_ fun a6_ r7_ => dPl .int a6_ fun p2 => dCons r7_ fun a8_ r9_ => dPl .int a8_ fun p3 => dNil r9_ <| dNil r2_ <| dEnd tm <| Ms_OrderOf p1 p2 p3 (fun r1 => K (.sl 0) [⟨true, .list .int r1⟩])
def H33 : List (Nat × LH) := []
def W33 : List (Nat × List (Nat × List Nat)) := []
def Γ33 : List (Nat × Con) := [(88, useC [.ag [.pure .int, .pure .int, .pure .int]] G88), (89, useC [.ag [.pure .int, .pure .int, .pure .int]] G89)]
theorem e33 (p1 : List Int) (p2 : List Int) (p3 : List Int) (K : TV → TMem → Prop) : TW PP 9 Γ33 H33 W33 (List.length ([] : TMem)) (bodyOf Try.f33) (endT PP 9 [.tmp 2] [.own .int] [] (List.length ([] : TMem)) K) (argsF [.agg [.pl .int p1, .pl .int p2, .pl .int p3]]) [] =
    Ms_OrderOf p1 p2 p3 (fun r1 => K (.sl 0) [⟨true, .list .int r1⟩]) := by kernel_rfl
theorem s33 : CSound PP 33 G33 := by
  intro args K c h fl A aargs hA hN R hl
  unfold G33 at h
  generalize ht : c.tm = tm at h
  replace h := dCons_ok h; obtain ⟨a1_, r2_, rfl, h⟩ := h
  replace h := dAgg_ok h; obtain ⟨l3_, rfl, h⟩ := h
  replace h := dCons_ok h; obtain ⟨a4_, r5_, rfl, h⟩ := h
  replace h := dPl_ok h; obtain ⟨p1, rfl, h⟩ := h
  replace h := dCons_ok h; obtain ⟨a6_, r7_, rfl, h⟩ := h
  replace h := dPl_ok h; obtain ⟨p2, rfl, h⟩ := h
  replace h := dCons_ok h; obtain ⟨a8_, r9_, rfl, h⟩ := h
  replace h := dPl_ok h; obtain ⟨p3, rfl, h⟩ := h
  replace h := dNil_ok h; obtain ⟨rfl, h⟩ := h
  replace h := dNil_ok h; obtain ⟨rfl, h⟩ := h
  replace h := dEnd_ok h; obtain ⟨rfl, h⟩ := h
  refine fun_ok (nt := 9) (x := bodyOf Try.f33) (Γ := Γ33) (H := H33) (WW := W33) (rs := [.tmp 2]) (shs := [.own .int]) (cons := []) mixed Try.func33 (by decide) (by kernel_rfl) Try.ntmps33 Try.results33 (.cons (useC_ok s88) (.cons (useC_ok s89) (GSound.nil))) ?_ hA hN R hl
  rw [ht, e33 p1 p2 p3 K]
  exact h
/-! laws.ccInts -/
def G32 : Con := fun args tm K => dCons args fun a1_ r2_ => dPl .int a1_ fun p1 => dCons r2_ fun a3_ r4_ => dPl .int a3_ fun p2 => dNil r4_ <| dEnd tm <| Ml_ccInts p1 p2 (fun r1 => K (.bool r1) [])
def H32_0 : LH where
  keep := [(0, .pure .int), (1, .pure .int), (5, .x)]
  S := List Int × List Int × Int
  enc := fun s => ([.pl .int s.1, .pl .int s.2.1, .int .i64 s.2.2], [])
  dec := fun vs tm K => dCons vs fun a1_ r2_ => dPl .int a1_ fun q0 => dCons r2_ fun a3_ r4_ => dPl .int a3_ fun q1 => dCons r4_ fun a5_ r6_ => dInt .i64 a5_ fun q2 => dNil r6_ <| dEnd tm <| K (q0, q1, q2)
  law := by
    intro vs tm K h
    replace h := dCons_ok h; obtain ⟨a1_, r2_, rfl, h⟩ := h
    replace h := dPl_ok h; obtain ⟨q0, rfl, h⟩ := h
    replace h := dCons_ok h; obtain ⟨a3_, r4_, rfl, h⟩ := h
    replace h := dPl_ok h; obtain ⟨q1, rfl, h⟩ := h
    replace h := dCons_ok h; obtain ⟨a5_, r6_, rfl, h⟩ := h
    replace h := dInt_ok h; obtain ⟨q2, rfl, h⟩ := h
    replace h := dNil_ok h; obtain ⟨rfl, h⟩ := h
    replace h := dEnd_ok h; obtain ⟨rfl, h⟩ := h
    exact ⟨(q0, q1, q2), rfl, h⟩
def H32 : List (Nat × LH) := [(0, H32_0)]
def W32 : List (Nat × List (Nat × List Nat)) := []
def Γ32 : List (Nat × Con) := []
theorem e32 (p1 : List Int) (p2 : List Int) (K : TV → TMem → Prop) : TW PP 26 Γ32 H32 W32 (List.length ([] : TMem)) (bodyOf Try.f32) (endT PP 26 [.tmp 4] [.bl] [] (List.length ([] : TMem)) K) (argsF [.pl .int p1, .pl .int p2]) [] =
    Ml_ccInts p1 p2 (fun r1 => K (.bool r1) []) := by kernel_rfl
theorem s32 : CSound PP 32 G32 := by
  intro args K c h fl A aargs hA hN R hl
  unfold G32 at h
  generalize ht : c.tm = tm at h
  replace h := dCons_ok h; obtain ⟨a1_, r2_, rfl, h⟩ := h
  replace h := dPl_ok h; obtain ⟨p1, rfl, h⟩ := h
  replace h := dCons_ok h; obtain ⟨a3_, r4_, rfl, h⟩ := h
  replace h := dPl_ok h; obtain ⟨p2, rfl, h⟩ := h
  replace h := dNil_ok h; obtain ⟨rfl, h⟩ := h
  replace h := dEnd_ok h; obtain ⟨rfl, h⟩ := h
  refine fun_ok (nt := 26) (x := bodyOf Try.f32) (Γ := Γ32) (H := H32) (WW := W32) (rs := [.tmp 4]) (shs := [.bl]) (cons := []) mixed Try.func32 (by decide) (by kernel_rfl) Try.ntmps32 Try.results32 (GSound.nil) ?_ hA hN R hl
  rw [ht, e32 p1 p2 K]
  exact h
/-! impl.distances$1 -/
def G129 : Con := fun args tm K => dCons args fun a1_ r2_ => dInt .i64 a1_ fun p1 => dCons r2_ fun a3_ r4_ => dInt .i64 a3_ fun p2 => dCons r4_ fun a5_ r6_ => dPtr 0 a5_ <| dCons r6_ fun a7_ r8_ => dPtr 1 a7_ <| dNil r8_ <| dBlk true tm fun b9_ m10_ => dCells b9_ fun c11_ => dCons c11_ fun a12_ r13_ => dSl 2 a12_ <| dNil r13_ <| dBlk true m10_ fun b14_ m15_ => dCells b14_ fun c16_ => dCons c16_ fun a17_ r18_ => dSl 3 a17_ <| dNil r18_ <| dBlk true m15_ fun b19_ m20_ => dList .int b19_ fun p3 => dBlk true m20_ fun b21_ m22_ => dList .int b21_ fun p4 => dEnd m22_ <| Mi_distances_1 p1 p2 p3 p4 (fun r1 r2 => K (.tup []) [⟨true, .cells [.sl 2]⟩, ⟨true, .cells [.sl 4]⟩, ⟨true, .list .int r1⟩, ⟨true, .dead⟩, ⟨true, .list .int r2⟩])
def H129 : List (Nat × LH) := []
def W129 : List (Nat × List (Nat × List Nat)) := []
def Γ129 : List (Nat × Con) := []
theorem e129 (p1 : Int) (p2 : Int) (p3 : List Int) (p4 : List Int) (K : TV → TMem → Prop) : TW PP 23 Γ129 H129 W129 (List.length ([⟨true, .cells [.sl 2]⟩, ⟨true, .cells [.sl 3]⟩, ⟨true, .list .int p3⟩, ⟨true, .list .int p4⟩] : TMem)) (bodyOf Try.f129) (endT PP 23 [] [] [3] (List.length ([⟨true, .cells [.sl 2]⟩, ⟨true, .cells [.sl 3]⟩, ⟨true, .list .int p3⟩, ⟨true, .list .int p4⟩] : TMem)) K) (argsF [.int .i64 p1, .int .i64 p2, .ptr 0 0, .ptr 1 0]) [⟨true, .cells [.sl 2]⟩, ⟨true, .cells [.sl 3]⟩, ⟨true, .list .int p3⟩, ⟨true, .list .int p4⟩] =
    Mi_distances_1 p1 p2 p3 p4 (fun r1 r2 => K (.tup []) [⟨true, .cells [.sl 2]⟩, ⟨true, .cells [.sl 4]⟩, ⟨true, .list .int r1⟩, ⟨true, .dead⟩, ⟨true, .list .int r2⟩]) := by kernel_rfl
theorem s129 : CSound PP 129 G129 := by
  intro args K c h fl A aargs hA hN R hl
  unfold G129 at h
  generalize ht : c.tm = tm at h
  replace h := dCons_ok h; obtain ⟨a1_, r2_, rfl, h⟩ := h
  replace h := dInt_ok h; obtain ⟨p1, rfl, h⟩ := h
  replace h := dCons_ok h; obtain ⟨a3_, r4_, rfl, h⟩ := h
  replace h := dInt_ok h; obtain ⟨p2, rfl, h⟩ := h
  replace h := dCons_ok h; obtain ⟨a5_, r6_, rfl, h⟩ := h
  replace h := dPtr_ok h; obtain ⟨rfl, h⟩ := h
  replace h := dCons_ok h; obtain ⟨a7_, r8_, rfl, h⟩ := h
  replace h := dPtr_ok h; obtain ⟨rfl, h⟩ := h
  replace h := dNil_ok h; obtain ⟨rfl, h⟩ := h
  replace h := dBlk_ok h; obtain ⟨b9_, m10_, rfl, h⟩ := h
  replace h := dCells_ok h; obtain ⟨c11_, rfl, h⟩ := h
  replace h := dCons_ok h; obtain ⟨a12_, r13_, rfl, h⟩ := h
  replace h := dSl_ok h; obtain ⟨rfl, h⟩ := h
  replace h := dNil_ok h; obtain ⟨rfl, h⟩ := h
  replace h := dBlk_ok h; obtain ⟨b14_, m15_, rfl, h⟩ := h
  replace h := dCells_ok h; obtain ⟨c16_, rfl, h⟩ := h
  replace h := dCons_ok h; obtain ⟨a17_, r18_, rfl, h⟩ := h
  replace h := dSl_ok h; obtain ⟨rfl, h⟩ := h
  replace h := dNil_ok h; obtain ⟨rfl, h⟩ := h
  replace h := dBlk_ok h; obtain ⟨b19_, m20_, rfl, h⟩ := h
  replace h := dList_ok h; obtain ⟨p3, rfl, h⟩ := h
  replace h := dBlk_ok h; obtain ⟨b21_, m22_, rfl, h⟩ := h
  replace h := dList_ok h; obtain ⟨p4, rfl, h⟩ := h
  replace h := dEnd_ok h; obtain ⟨rfl, h⟩ := h
  refine fun_ok (nt := 23) (x := bodyOf Try.f129) (Γ := Γ129) (H := H129) (WW := W129) (rs := []) (shs := []) (cons := [3]) mixed Try.func129 (by decide) (by kernel_rfl) Try.ntmps129 Try.results129 (GSound.nil) ?_ hA hN R hl
  rw [ht, e129 p1 p2 p3 p4 K]
  exact h
/-! impl.distances -/
def G90 : Con := fun args tm K => dCons args fun a1_ r2_ => dAgg a1_ fun l3_ => dCons l3_ fun a4_ r5_ => dPl .int a4_ fun p1 => dCons r5_ fun a6_ r7_ => dPl .int a6_ fun p2 => dCons r7_ fun a8_ r9_ => dPl .int a8_ fun p3 => dNil r9_ <| dNil r2_ <| dEnd tm <| Mi_distances p1 p2 p3 (fun r1 => K (.sl 0) [⟨true, .list .int r1⟩])
def H90_0 : LH where
  keep := [(1, .pc [.pure .int, .pure .int, .pure .int]), (3, .pc [.own .int]), (4, .pc [.own .int]), (5, .x), (16, .pure .int), (17, .x), (18, .x)]
  S := List Int × Int × Int × List Int × List Int × List Int × List Int × List Int
  enc := fun s => ([.ptr 0 0, .ptr 1 0, .ptr 2 0, .fn 129 [] [.ptr 1 0, .ptr 2 0], .pl .int s.1, .int .i64 s.2.1, .int .i64 s.2.2.1], [⟨true, .cells [.pl .int s.2.2.2.1, .pl .int s.2.2.2.2.1, .pl .int s.2.2.2.2.2.1]⟩, ⟨true, .cells [.sl 3]⟩, ⟨true, .cells [.sl 4]⟩, ⟨true, .list .int s.2.2.2.2.2.2.1⟩, ⟨true, .list .int s.2.2.2.2.2.2.2⟩])
  dec := fun vs tm K => dCons vs fun a1_ r2_ => dPtr 0 a1_ <| dCons r2_ fun a3_ r4_ => dPtr 1 a3_ <| dCons r4_ fun a5_ r6_ => dPtr 2 a5_ <| dCons r6_ fun a7_ r8_ => dFn 129 a7_ fun x9_ y10_ => dNil x9_ <| dCons y10_ fun a11_ r12_ => dPtr 1 a11_ <| dCons r12_ fun a13_ r14_ => dPtr 2 a13_ <| dNil r14_ <| dCons r8_ fun a15_ r16_ => dPl .int a15_ fun q0 => dCons r16_ fun a17_ r18_ => dInt .i64 a17_ fun q1 => dCons r18_ fun a19_ r20_ => dInt .i64 a19_ fun q2 => dNil r20_ <| dBlk true tm fun b21_ m22_ => dCells b21_ fun c23_ => dCons c23_ fun a24_ r25_ => dPl .int a24_ fun q3 => dCons r25_ fun a26_ r27_ => dPl .int a26_ fun q4 => dCons r27_ fun a28_ r29_ => dPl .int a28_ fun q5 => dNil r29_ <| dBlk true m22_ fun b30_ m31_ => dCells b30_ fun c32_ => dCons c32_ fun a33_ r34_ => dSl 3 a33_ <| dNil r34_ <| dBlk true m31_ fun b35_ m36_ => dCells b35_ fun c37_ => dCons c37_ fun a38_ r39_ => dSl 4 a38_ <| dNil r39_ <| dBlk true m36_ fun b40_ m41_ => dList .int b40_ fun q6 => dBlk true m41_ fun b42_ m43_ => dList .int b42_ fun q7 => dEnd m43_ <| K (q0, q1, q2, q3, q4, q5, q6, q7)
  law := by
    intro vs tm K h
    replace h := dCons_ok h; obtain ⟨a1_, r2_, rfl, h⟩ := h
    replace h := dPtr_ok h; obtain ⟨rfl, h⟩ := h
    replace h := dCons_ok h; obtain ⟨a3_, r4_, rfl, h⟩ := h
    replace h := dPtr_ok h; obtain ⟨rfl, h⟩ := h
    replace h := dCons_ok h; obtain ⟨a5_, r6_, rfl, h⟩ := h
    replace h := dPtr_ok h; obtain ⟨rfl, h⟩ := h
    replace h := dCons_ok h; obtain ⟨a7_, r8_, rfl, h⟩ := h
    replace h := dFn_ok h; obtain ⟨x9_, y10_, rfl, h⟩ := h
    replace h := dNil_ok h; obtain ⟨rfl, h⟩ := h
    replace h := dCons_ok h; obtain ⟨a11_, r12_, rfl, h⟩ := h
    replace h := dPtr_ok h; obtain ⟨rfl, h⟩ := h
    replace h := dCons_ok h; obtain ⟨a13_, r14_, rfl, h⟩ := h
    replace h := dPtr_ok h; obtain ⟨rfl, h⟩ := h
    replace h := dNil_ok h; obtain ⟨rfl, h⟩ := h
    replace h := dCons_ok h; obtain ⟨a15_, r16_, rfl, h⟩ := h
    replace h := dPl_ok h; obtain ⟨q0, rfl, h⟩ := h
    replace h := dCons_ok h; obtain ⟨a17_, r18_, rfl, h⟩ := h
    replace h := dInt_ok h; obtain ⟨q1, rfl, h⟩ := h
    replace h := dCons_ok h; obtain ⟨a19_, r20_, rfl, h⟩ := h
    replace h := dInt_ok h; obtain ⟨q2, rfl, h⟩ := h
    replace h := dNil_ok h; obtain ⟨rfl, h⟩ := h
    replace h := dBlk_ok h; obtain ⟨b21_, m22_, rfl, h⟩ := h
    replace h := dCells_ok h; obtain ⟨c23_, rfl, h⟩ := h
    replace h := dCons_ok h; obtain ⟨a24_, r25_, rfl, h⟩ := h
    replace h := dPl_ok h; obtain ⟨q3, rfl, h⟩ := h
    replace h := dCons_ok h; obtain ⟨a26_, r27_, rfl, h⟩ := h
    replace h := dPl_ok h; obtain ⟨q4, rfl, h⟩ := h
    replace h := dCons_ok h; obtain ⟨a28_, r29_, rfl, h⟩ := h
    replace h := dPl_ok h; obtain ⟨q5, rfl, h⟩ := h
    replace h := dNil_ok h; obtain ⟨rfl, h⟩ := h
    replace h := dBlk_ok h; obtain ⟨b30_, m31_, rfl, h⟩ := h
    replace h := dCells_ok h; obtain ⟨c32_, rfl, h⟩ := h
    replace h := dCons_ok h; obtain ⟨a33_, r34_, rfl, h⟩ := h
    replace h := dSl_ok h; obtain ⟨rfl, h⟩ := h
    replace h := dNil_ok h; obtain ⟨rfl, h⟩ := h
    replace h := dBlk_ok h; obtain ⟨b35_, m36_, rfl, h⟩ := h
    replace h := dCells_ok h; obtain ⟨c37_, rfl, h⟩ := h
    replace h := dCons_ok h; obtain ⟨a38_, r39_, rfl, h⟩ := h
    replace h := dSl_ok h; obtain ⟨rfl, h⟩ := h
    replace h := dNil_ok h; obtain ⟨rfl, h⟩ := h
    replace h := dBlk_ok h; obtain ⟨b40_, m41_, rfl, h⟩ := h
    replace h := dList_ok h; obtain ⟨q6, rfl, h⟩ := h
    replace h := dBlk_ok h; obtain ⟨b42_, m43_, rfl, h⟩ := h
    replace h := dList_ok h; obtain ⟨q7, rfl, h⟩ := h
    replace h := dEnd_ok h; obtain ⟨rfl, h⟩ := h
    exact ⟨(q0, q1, q2, q3, q4, q5, q6, q7), rfl, h⟩
def H90_2 : LH where
  keep := [(1, .pc [.pure .int, .pure .int, .pure .int]), (3, .pc [.own .int]), (4, .pc [.own .int]), (5, .x), (8, .x)]
  S := Int × List Int × List Int × List Int × List Int × List Int
  enc := fun s => ([.ptr 0 0, .ptr 1 0, .ptr 2 0, .fn 129 [] [.ptr 1 0, .ptr 2 0], .int .i64 s.1], [⟨true, .cells [.pl .int s.2.1, .pl .int s.2.2.1, .pl .int s.2.2.2.1]⟩, ⟨true, .cells [.sl 3]⟩, ⟨true, .cells [.sl 4]⟩, ⟨true, .list .int s.2.2.2.2.1⟩, ⟨true, .list .int s.2.2.2.2.2⟩])
  dec := fun vs tm K => dCons vs fun a1_ r2_ => dPtr 0 a1_ <| dCons r2_ fun a3_ r4_ => dPtr 1 a3_ <| dCons r4_ fun a5_ r6_ => dPtr 2 a5_ <| dCons r6_ fun a7_ r8_ => dFn 129 a7_ fun x9_ y10_ => dNil x9_ <| dCons y10_ fun a11_ r12_ => dPtr 1 a11_ <| dCons r12_ fun a13_ r14_ => dPtr 2 a13_ <| dNil r14_ <| dCons r8_ fun a15_ r16_ => dInt .i64 a15_ fun q0 => dNil r16_ <| dBlk true tm fun b17_ m18_ => dCells b17_ fun c19_ => dCons c19_ fun a20_ r21_ => dPl .int a20_ fun q1 => dCons r21_ fun a22_ r23_ => dPl .int a22_ fun q2 => dCons r23_ fun a24_ r25_ => dPl .int a24_ fun q3 => dNil r25_ <| dBlk true m18_ fun b26_ m27_ => dCells b26_ fun c28_ => dCons c28_ fun a29_ r30_ => dSl 3 a29_ <| dNil r30_ <| dBlk true m27_ fun b31_ m32_ => dCells b31_ fun c33_ => dCons c33_ fun a34_ r35_ => dSl 4 a34_ <| dNil r35_ <| dBlk true m32_ fun b36_ m37_ => dList .int b36_ fun q4 => dBlk true m37_ fun b38_ m39_ => dList .int b38_ fun q5 => dEnd m39_ <| K (q0, q1, q2, q3, q4, q5)
  law := by
    intro vs tm K h
    replace h := dCons_ok h; obtain ⟨a1_, r2_, rfl, h⟩ := h
    replace h := dPtr_ok h; obtain ⟨rfl, h⟩ := h
    replace h := dCons_ok h; obtain ⟨a3_, r4_, rfl, h⟩ := h
    replace h := dPtr_ok h; obtain ⟨rfl, h⟩ := h
    replace h := dCons_ok h; obtain ⟨a5_, r6_, rfl, h⟩ := h
    replace h := dPtr_ok h; obtain ⟨rfl, h⟩ := h
    replace h := dCons_ok h; obtain ⟨a7_, r8_, rfl, h⟩ := h
    replace h := dFn_ok h; obtain ⟨x9_, y10_, rfl, h⟩ := h
    replace h := dNil_ok h; obtain ⟨rfl, h⟩ := h
    replace h := dCons_ok h; obtain ⟨a11_, r12_, rfl, h⟩ := h
    replace h := dPtr_ok h; obtain ⟨rfl, h⟩ := h
    replace h := dCons_ok h; obtain ⟨a13_, r14_, rfl, h⟩ := h
    replace h := dPtr_ok h; obtain ⟨rfl, h⟩ := h
    replace h := dNil_ok h; obtain ⟨rfl, h⟩ := h
    replace h := dCons_ok h; obtain ⟨a15_, r16_, rfl, h⟩ := h
    replace h := dInt_ok h; obtain ⟨q0, rfl, h⟩ := h
    replace h := dNil_ok h; obtain ⟨rfl, h⟩ := h
    replace h := dBlk_ok h; obtain ⟨b17_, m18_, rfl, h⟩ := h
    replace h := dCells_ok h; obtain ⟨c19_, rfl, h⟩ := h
    replace h := dCons_ok h; obtain ⟨a20_, r21_, rfl, h⟩ := h
    replace h := dPl_ok h; obtain ⟨q1, rfl, h⟩ := h
    replace h := dCons_ok h; obtain ⟨a22_, r23_, rfl, h⟩ := h
    replace h := dPl_ok h; obtain ⟨q2, rfl, h⟩ := h
    replace h := dCons_ok h; obtain ⟨a24_, r25_, rfl, h⟩ := h
    replace h := dPl_ok h; obtain ⟨q3, rfl, h⟩ := h
    replace h := dNil_ok h; obtain ⟨rfl, h⟩ := h
    replace h := dBlk_ok h; obtain ⟨b26_, m27_, rfl, h⟩ := h
    replace h := dCells_ok h; obtain ⟨c28_, rfl, h⟩ := h
    replace h := dCons_ok h; obtain ⟨a29_, r30_, rfl, h⟩ := h
    replace h := dSl_ok h; obtain ⟨rfl, h⟩ := h
    replace h := dNil_ok h; obtain ⟨rfl, h⟩ := h
    replace h := dBlk_ok h; obtain ⟨b31_, m32_, rfl, h⟩ := h
    replace h := dCells_ok h; obtain ⟨c33_, rfl, h⟩ := h
    replace h := dCons_ok h; obtain ⟨a34_, r35_, rfl, h⟩ := h
    replace h := dSl_ok h; obtain ⟨rfl, h⟩ := h
    replace h := dNil_ok h; obtain ⟨rfl, h⟩ := h
    replace h := dBlk_ok h; obtain ⟨b36_, m37_, rfl, h⟩ := h
    replace h := dList_ok h; obtain ⟨q4, rfl, h⟩ := h
    replace h := dBlk_ok h; obtain ⟨b38_, m39_, rfl, h⟩ := h
    replace h := dList_ok h; obtain ⟨q5, rfl, h⟩ := h
    replace h := dEnd_ok h; obtain ⟨rfl, h⟩ := h
    exact ⟨(q0, q1, q2, q3, q4, q5), rfl, h⟩
def H90 : List (Nat × LH) := [(0, H90_0), (2, H90_2)]
def W90 : List (Nat × List (Nat × List Nat)) := []
def Γ90 : List (Nat × Con) := [(129, useC [.x, .x, .pc [.own .int], .pc [.own .int]] G129)]
theorem e90 (p1 : List Int) (p2 : List Int) (p3 : List Int) (K : TV → TMem → Prop) : TW PP 69 Γ90 H90 W90 (List.length ([] : TMem)) (bodyOf Try.f90) (endT PP 69 [.tmp 2] [.own .int] [] (List.length ([] : TMem)) K) (argsF [.agg [.pl .int p1, .pl .int p2, .pl .int p3]]) [] =
    Mi_distances p1 p2 p3 (fun r1 => K (.sl 0) [⟨true, .list .int r1⟩]) := by kernel_rfl
theorem s90 : CSound PP 90 G90 := by
  intro args K c h fl A aargs hA hN R hl
  unfold G90 at h
  generalize ht : c.tm = tm at h
  replace h := dCons_ok h; obtain ⟨a1_, r2_, rfl, h⟩ := h
  replace h := dAgg_ok h; obtain ⟨l3_, rfl, h⟩ := h
  replace h := dCons_ok h; obtain ⟨a4_, r5_, rfl, h⟩ := h
  replace h := dPl_ok h; obtain ⟨p1, rfl, h⟩ := h
  replace h := dCons_ok h; obtain ⟨a6_, r7_, rfl, h⟩ := h
  replace h := dPl_ok h; obtain ⟨p2, rfl, h⟩ := h
  replace h := dCons_ok h; obtain ⟨a8_, r9_, rfl, h⟩ := h
  replace h := dPl_ok h; obtain ⟨p3, rfl, h⟩ := h
  replace h := dNil_ok h; obtain ⟨rfl, h⟩ := h
  replace h := dNil_ok h; obtain ⟨rfl, h⟩ := h
  replace h := dEnd_ok h; obtain ⟨rfl, h⟩ := h
  refine fun_ok (nt := 69) (x := bodyOf Try.f90) (Γ := Γ90) (H := H90) (WW := W90) (rs := [.tmp 2]) (shs := [.own .int]) (cons := []) mixed Try.func90 (by decide) (by kernel_rfl) Try.ntmps90 Try.results90 (.cons (useC_ok s129) (GSound.nil)) ?_ hA hN R hl
  rw [ht, e90 p1 p2 p3 K]
  exact h
/-! impl.Reachable -/
def G35 : Con := fun args tm K => dCons args fun a1_ r2_ => dAgg a1_ fun l3_ => dCons l3_ fun a4_ r5_ => dPl .int a4_ fun p1 => dCons r5_ fun a6_ r7_ => dPl .int a6_ fun p2 => dCons r7_ fun a8_ r9_ => dPl .int a8_ fun p3 => dNil r9_ <| dNil r2_ <| dEnd tm <| Mi_Reachable p1 p2 p3 (fun r1 => K (.sl 0) [⟨true, .list .bool r1⟩])
def H35_0 : LH where
  keep := [(3, .own .bool), (11, .own .int), (12, .x), (13, .x)]
  S := Int × Int × List Bool × List Int
  enc := fun s => ([.sl 0, .sl 1, .int .i64 s.1, .int .i64 s.2.1], [⟨true, .list .bool s.2.2.1⟩, ⟨true, .list .int s.2.2.2⟩])
  dec := fun vs tm K => dCons vs fun a1_ r2_ => dSl 0 a1_ <| dCons r2_ fun a3_ r4_ => dSl 1 a3_ <| dCons r4_ fun a5_ r6_ => dInt .i64 a5_ fun q0 => dCons r6_ fun a7_ r8_ => dInt .i64 a7_ fun q1 => dNil r8_ <| dBlk true tm fun b9_ m10_ => dList .bool b9_ fun q2 => dBlk true m10_ fun b11_ m12_ => dList .int b11_ fun q3 => dEnd m12_ <| K (q0, q1, q2, q3)
  law := by
    intro vs tm K h
    replace h := dCons_ok h; obtain ⟨a1_, r2_, rfl, h⟩ := h
    replace h := dSl_ok h; obtain ⟨rfl, h⟩ := h
    replace h := dCons_ok h; obtain ⟨a3_, r4_, rfl, h⟩ := h
    replace h := dSl_ok h; obtain ⟨rfl, h⟩ := h
    replace h := dCons_ok h; obtain ⟨a5_, r6_, rfl, h⟩ := h
    replace h := dInt_ok h; obtain ⟨q0, rfl, h⟩ := h
    replace h := dCons_ok h; obtain ⟨a7_, r8_, rfl, h⟩ := h
    replace h := dInt_ok h; obtain ⟨q1, rfl, h⟩ := h
    replace h := dNil_ok h; obtain ⟨rfl, h⟩ := h
    replace h := dBlk_ok h; obtain ⟨b9_, m10_, rfl, h⟩ := h
    replace h := dList_ok h; obtain ⟨q2, rfl, h⟩ := h
    replace h := dBlk_ok h; obtain ⟨b11_, m12_, rfl, h⟩ := h
    replace h := dList_ok h; obtain ⟨q3, rfl, h⟩ := h
    replace h := dEnd_ok h; obtain ⟨rfl, h⟩ := h
    exact ⟨(q0, q1, q2, q3), rfl, h⟩
def H35 : List (Nat × LH) := [(0, H35_0)]
def W35 : List (Nat × List (Nat × List Nat)) := []
def Γ35 : List (Nat × Con) := [(34, useC [.ag [.pure .int, .pure .int, .pure .int]] G34), (90, useC [.ag [.pure .int, .pure .int, .pure .int]] G90)]
theorem e35 (p1 : List Int) (p2 : List Int) (p3 : List Int) (K : TV → TMem → Prop) : TW PP 24 Γ35 H35 W35 (List.length ([] : TMem)) (bodyOf Try.f35) (endT PP 24 [.tmp 2] [.own .bool] [] (List.length ([] : TMem)) K) (argsF [.agg [.pl .int p1, .pl .int p2, .pl .int p3]]) [] =
    Mi_Reachable p1 p2 p3 (fun r1 => K (.sl 0) [⟨true, .list .bool r1⟩]) := by kernel_rfl
theorem s35 : CSound PP 35 G35 := by
  intro args K c h fl A aargs hA hN R hl
  unfold G35 at h
  generalize ht : c.tm = tm at h
  replace h := dCons_ok h; obtain ⟨a1_, r2_, rfl, h⟩ := h
  replace h := dAgg_ok h; obtain ⟨l3_, rfl, h⟩ := h
  replace h := dCons_ok h; obtain ⟨a4_, r5_, rfl, h⟩ := h
  replace h := dPl_ok h; obtain ⟨p1, rfl, h⟩ := h
  replace h := dCons_ok h; obtain ⟨a6_, r7_, rfl, h⟩ := h
  replace h := dPl_ok h; obtain ⟨p2, rfl, h⟩ := h
  replace h := dCons_ok h; obtain ⟨a8_, r9_, rfl, h⟩ := h
  replace h := dPl_ok h; obtain ⟨p3, rfl, h⟩ := h
  replace h := dNil_ok h; obtain ⟨rfl, h⟩ := h
  replace h := dNil_ok h; obtain ⟨rfl, h⟩ := h
  replace h := dEnd_ok h; obtain ⟨rfl, h⟩ := h
  refine fun_ok (nt := 24) (x := bodyOf Try.f35) (Γ := Γ35) (H := H35) (WW := W35) (rs := [.tmp 2]) (shs := [.own .bool]) (cons := []) mixed Try.func35 (by decide) (by kernel_rfl) Try.ntmps35 Try.results35 (.cons (useC_ok s34) (.cons (useC_ok s90) (GSound.nil))) ?_ hA hN R hl
  rw [ht, e35 p1 p2 p3 K]
  exact h
/-! impl.has -/
def G91 : Con := fun args tm K => dCons args fun a1_ r2_ => dAgg a1_ fun l3_ => dCons l3_ fun a4_ r5_ => dPl .int a4_ fun p1 => dCons r5_ fun a6_ r7_ => dPl .int a6_ fun p2 => dCons r7_ fun a8_ r9_ => dPl .int a8_ fun p3 => dNil r9_ <| dCons r2_ fun a10_ r11_ => dInt .i64 a10_ fun p4 => dNil r11_ <| dEnd tm <| Mi_has p1 p2 p3 p4 (fun r1 => K (.bool r1) [])
def H91 : List (Nat × LH) := []
def W91 : List (Nat × List (Nat × List Nat)) := []
def Γ91 : List (Nat × Con) := [(34, useC [.ag [.pure .int, .pure .int, .pure .int]] G34)]
theorem e91 (p1 : List Int) (p2 : List Int) (p3 : List Int) (p4 : Int) (K : TV → TMem → Prop) : TW PP 18 Γ91 H91 W91 (List.length ([] : TMem)) (bodyOf Try.f91) (endT PP 18 [.tmp 4] [.bl] [] (List.length ([] : TMem)) K) (argsF [.agg [.pl .int p1, .pl .int p2, .pl .int p3], .int .i64 p4]) [] =
    Mi_has p1 p2 p3 p4 (fun r1 => K (.bool r1) []) := by kernel_rfl
theorem s91 : CSound PP 91 G91 := by
  intro args K c h fl A aargs hA hN R hl
  unfold G91 at h
  generalize ht : c.tm = tm at h
  replace h := dCons_ok h; obtain ⟨a1_, r2_, rfl, h⟩ := h
  replace h := dAgg_ok h; obtain ⟨l3_, rfl, h⟩ := h
  replace h := dCons_ok h; obtain ⟨a4_, r5_, rfl, h⟩ := h
  replace h := dPl_ok h; obtain ⟨p1, rfl, h⟩ := h
  replace h := dCons_ok h; obtain ⟨a6_, r7_, rfl, h⟩ := h
  replace h := dPl_ok h; obtain ⟨p2, rfl, h⟩ := h
  replace h := dCons_ok h; obtain ⟨a8_, r9_, rfl, h⟩ := h
  replace h := dPl_ok h; obtain ⟨p3, rfl, h⟩ := h
  replace h := dNil_ok h; obtain ⟨rfl, h⟩ := h
  replace h := dCons_ok h; obtain ⟨a10_, r11_, rfl, h⟩ := h
  replace h := dInt_ok h; obtain ⟨p4, rfl, h⟩ := h
  replace h := dNil_ok h; obtain ⟨rfl, h⟩ := h
  replace h := dEnd_ok h; obtain ⟨rfl, h⟩ := h
  refine fun_ok (nt := 18) (x := bodyOf Try.f91) (Γ := Γ91) (H := H91) (WW := W91) (rs := [.tmp 4]) (shs := [.bl]) (cons := []) mixed Try.func91 (by decide) (by kernel_rfl) Try.ntmps91 Try.results91 (.cons (useC_ok s34) (GSound.nil)) ?_ hA hN R hl
  rw [ht, e91 p1 p2 p3 p4 K]
  exact h
/-! impl.DistanceOf -/
def G36 : Con := fun args tm K => dCons args fun a1_ r2_ => dAgg a1_ fun l3_ => dCons l3_ fun a4_ r5_ => dPl .int a4_ fun p1 => dCons r5_ fun a6_ r7_ => dPl .int a6_ fun p2 => dCons r7_ fun a8_ r9_ => dPl .int a8_ fun p3 => dNil r9_ <| dCons r2_ fun a10_ r11_ => dInt .i64 a10_ fun p4 => dNil r11_ <| dEnd tm <| Mi_DistanceOf p1 p2 p3 p4 (fun r1 r2 => K (.tup [.int .i64 r1, .bool r2]) [])
def H36 : List (Nat × LH) := []
def W36 : List (Nat × List (Nat × List Nat)) := []
def Γ36 : List (Nat × Con) := [(91, useC [.ag [.pure .int, .pure .int, .pure .int], .x] G91), (90, useC [.ag [.pure .int, .pure .int, .pure .int]] G90)]
theorem e36 (p1 : List Int) (p2 : List Int) (p3 : List Int) (p4 : Int) (K : TV → TMem → Prop) : TW PP 19 Γ36 H36 W36 (List.length ([] : TMem)) (bodyOf Try.f36) (endT PP 19 [.tmp 4, .tmp 5] [.x, .bl] [] (List.length ([] : TMem)) K) (argsF [.agg [.pl .int p1, .pl .int p2, .pl .int p3], .int .i64 p4]) [] =
    Mi_DistanceOf p1 p2 p3 p4 (fun r1 r2 => K (.tup [.int .i64 r1, .bool r2]) []) := by kernel_rfl
theorem s36 : CSound PP 36 G36 := by
  intro args K c h fl A aargs hA hN R hl
  unfold G36 at h
  generalize ht : c.tm = tm at h
  replace h := dCons_ok h; obtain ⟨a1_, r2_, rfl, h⟩ := h
  replace h := dAgg_ok h; obtain ⟨l3_, rfl, h⟩ := h
  replace h := dCons_ok h; obtain ⟨a4_, r5_, rfl, h⟩ := h
  replace h := dPl_ok h; obtain ⟨p1, rfl, h⟩ := h
  replace h := dCons_ok h; obtain ⟨a6_, r7_, rfl, h⟩ := h
  replace h := dPl_ok h; obtain ⟨p2, rfl, h⟩ := h
  replace h := dCons_ok h; obtain ⟨a8_, r9_, rfl, h⟩ := h
  replace h := dPl_ok h; obtain ⟨p3, rfl, h⟩ := h
  replace h := dNil_ok h; obtain ⟨rfl, h⟩ := h
  replace h := dCons_ok h; obtain ⟨a10_, r11_, rfl, h⟩ := h
  replace h := dInt_ok h; obtain ⟨p4, rfl, h⟩ := h
  replace h := dNil_ok h; obtain ⟨rfl, h⟩ := h
  replace h := dEnd_ok h; obtain ⟨rfl, h⟩ := h
  refine fun_ok (nt := 19) (x := bodyOf Try.f36) (Γ := Γ36) (H := H36) (WW := W36) (rs := [.tmp 4, .tmp 5]) (shs := [.x, .bl]) (cons := []) mixed Try.func36 (by decide) (by kernel_rfl) Try.ntmps36 Try.results36 (.cons (useC_ok s91) (.cons (useC_ok s90) (GSound.nil))) ?_ hA hN R hl
  rw [ht, e36 p1 p2 p3 p4 K]
  exact h
/-! impl.CountLive -/
def G37 : Con := fun args tm K => dCons args fun a1_ r2_ => dAgg a1_ fun l3_ => dCons l3_ fun a4_ r5_ => dPl .int a4_ fun p1 => dCons r5_ fun a6_ r7_ => dPl .int a6_ fun p2 => dCons r7_ fun a8_ r9_ => dPl .int a8_ fun p3 => dNil r9_ <| dNil r2_ <| dEnd tm <| Mi_CountLive p1 p2 p3 (fun r1 => K (.int .i64 r1) [])
def H37_0 : LH where
  keep := [(3, .x), (7, .own .bool), (8, .x), (9, .x)]
  S := Int × Int × Int × List Bool
  enc := fun s => ([.int .i64 s.1, .sl 0, .int .i64 s.2.1, .int .i64 s.2.2.1], [⟨true, .list .bool s.2.2.2⟩])
  dec := fun vs tm K => dCons vs fun a1_ r2_ => dInt .i64 a1_ fun q0 => dCons r2_ fun a3_ r4_ => dSl 0 a3_ <| dCons r4_ fun a5_ r6_ => dInt .i64 a5_ fun q1 => dCons r6_ fun a7_ r8_ => dInt .i64 a7_ fun q2 => dNil r8_ <| dBlk true tm fun b9_ m10_ => dList .bool b9_ fun q3 => dEnd m10_ <| K (q0, q1, q2, q3)
  law := by
    intro vs tm K h
    replace h := dCons_ok h; obtain ⟨a1_, r2_, rfl, h⟩ := h
    replace h := dInt_ok h; obtain ⟨q0, rfl, h⟩ := h
    replace h := dCons_ok h; obtain ⟨a3_, r4_, rfl, h⟩ := h
    replace h := dSl_ok h; obtain ⟨rfl, h⟩ := h
    replace h := dCons_ok h; obtain ⟨a5_, r6_, rfl, h⟩ := h
    replace h := dInt_ok h; obtain ⟨q1, rfl, h⟩ := h
    replace h := dCons_ok h; obtain ⟨a7_, r8_, rfl, h⟩ := h
    replace h := dInt_ok h; obtain ⟨q2, rfl, h⟩ := h
    replace h := dNil_ok h; obtain ⟨rfl, h⟩ := h
    replace h := dBlk_ok h; obtain ⟨b9_, m10_, rfl, h⟩ := h
    replace h := dList_ok h; obtain ⟨q3, rfl, h⟩ := h
    replace h := dEnd_ok h; obtain ⟨rfl, h⟩ := h
    exact ⟨(q0, q1, q2, q3), rfl, h⟩
def H37 : List (Nat × LH) := [(0, H37_0)]
def W37 : List (Nat × List (Nat × List Nat)) := []
def Γ37 : List (Nat × Con) := [(35, useC [.ag [.pure .int, .pure .int, .pure .int]] G35)]
theorem e37 (p1 : List Int) (p2 : List Int) (p3 : List Int) (K : TV → TMem → Prop) : TW PP 18 Γ37 H37 W37 (List.length ([] : TMem)) (bodyOf Try.f37) (endT PP 18 [.tmp 2] [.x] [] (List.length ([] : TMem)) K) (argsF [.agg [.pl .int p1, .pl .int p2, .pl .int p3]]) [] =
    Mi_CountLive p1 p2 p3 (fun r1 => K (.int .i64 r1) []) := by kernel_rfl
theorem s37 : CSound PP 37 G37 := by
  intro args K c h fl A aargs hA hN R hl
  unfold G37 at h
  generalize ht : c.tm = tm at h
  replace h := dCons_ok h; obtain ⟨a1_, r2_, rfl, h⟩ := h
  replace h := dAgg_ok h; obtain ⟨l3_, rfl, h⟩ := h
  replace h := dCons_ok h; obtain ⟨a4_, r5_, rfl, h⟩ := h
  replace h := dPl_ok h; obtain ⟨p1, rfl, h⟩ := h
  replace h := dCons_ok h; obtain ⟨a6_, r7_, rfl, h⟩ := h
  replace h := dPl_ok h; obtain ⟨p2, rfl, h⟩ := h
  replace h := dCons_ok h; obtain ⟨a8_, r9_, rfl, h⟩ := h
  replace h := dPl_ok h; obtain ⟨p3, rfl, h⟩ := h
  replace h := dNil_ok h; obtain ⟨rfl, h⟩ := h
  replace h := dNil_ok h; obtain ⟨rfl, h⟩ := h
  replace h := dEnd_ok h; obtain ⟨rfl, h⟩ := h
  refine fun_ok (nt := 18) (x := bodyOf Try.f37) (Γ := Γ37) (H := H37) (WW := W37) (rs := [.tmp 2]) (shs := [.x]) (cons := []) mixed Try.func37 (by decide) (by kernel_rfl) Try.ntmps37 Try.results37 (.cons (useC_ok s35) (GSound.nil)) ?_ hA hN R hl
  rw [ht, e37 p1 p2 p3 K]
  exact h
/-! laws.FnOrderOf -/
def G3 : Con := fun args tm K => dCons args fun a1_ r2_ => dPl .byte a1_ fun p1 => dNil r2_ <| dEnd tm <| Ml_FnOrderOf p1 (fun r1 => K (.bool r1) [])
def H3_0 : LH where
  keep := [(3, .pc [.own .int, .own .int, .own .int]), (4, .own .int), (5, .own .bool), (6, .own .bool), (7, .x)]
  S := Int × List Int × List Bool × List Bool × List Int × List Int × List Int
  enc := fun s => ([.ptr 0 0, .sl 1, .sl 2, .sl 3, .int .i64 s.1], [⟨true, .cells [.sl 4, .sl 5, .sl 6]⟩, ⟨true, .list .int s.2.1⟩, ⟨true, .list .bool s.2.2.1⟩, ⟨true, .list .bool s.2.2.2.1⟩, ⟨true, .list .int s.2.2.2.2.1⟩, ⟨true, .list .int s.2.2.2.2.2.1⟩, ⟨true, .list .int s.2.2.2.2.2.2⟩])
  dec := fun vs tm K => dCons vs fun a1_ r2_ => dPtr 0 a1_ <| dCons r2_ fun a3_ r4_ => dSl 1 a3_ <| dCons r4_ fun a5_ r6_ => dSl 2 a5_ <| dCons r6_ fun a7_ r8_ => dSl 3 a7_ <| dCons r8_ fun a9_ r10_ => dInt .i64 a9_ fun q0 => dNil r10_ <| dBlk true tm fun b11_ m12_ => dCells b11_ fun c13_ => dCons c13_ fun a14_ r15_ => dSl 4 a14_ <| dCons r15_ fun a16_ r17_ => dSl 5 a16_ <| dCons r17_ fun a18_ r19_ => dSl 6 a18_ <| dNil r19_ <| dBlk true m12_ fun b20_ m21_ => dList .int b20_ fun q1 => dBlk true m21_ fun b22_ m23_ => dList .bool b22_ fun q2 => dBlk true m23_ fun b24_ m25_ => dList .bool b24_ fun q3 => dBlk true m25_ fun b26_ m27_ => dList .int b26_ fun q4 => dBlk true m27_ fun b28_ m29_ => dList .int b28_ fun q5 => dBlk true m29_ fun b30_ m31_ => dList .int b30_ fun q6 => dEnd m31_ <| K (q0, q1, q2, q3, q4, q5, q6)
  law := by
    intro vs tm K h
    replace h := dCons_ok h; obtain ⟨a1_, r2_, rfl, h⟩ := h
    replace h := dPtr_ok h; obtain ⟨rfl, h⟩ := h
    replace h := dCons_ok h; obtain ⟨a3_, r4_, rfl, h⟩ := h
    replace h := dSl_ok h; obtain ⟨rfl, h⟩ := h
    replace h := dCons_ok h; obtain ⟨a5_, r6_, rfl, h⟩ := h
    replace h := dSl_ok h; obtain ⟨rfl, h⟩ := h
    replace h := dCons_ok h; obtain ⟨a7_, r8_, rfl, h⟩ := h
    replace h := dSl_ok h; obtain ⟨rfl, h⟩ := h
    replace h := dCons_ok h; obtain ⟨a9_, r10_, rfl, h⟩ := h
    replace h := dInt_ok h; obtain ⟨q0, rfl, h⟩ := h
    replace h := dNil_ok h; obtain ⟨rfl, h⟩ := h
    replace h := dBlk_ok h; obtain ⟨b11_, m12_, rfl, h⟩ := h
    replace h := dCells_ok h; obtain ⟨c13_, rfl, h⟩ := h
    replace h := dCons_ok h; obtain ⟨a14_, r15_, rfl, h⟩ := h
    replace h := dSl_ok h; obtain ⟨rfl, h⟩ := h
    replace h := dCons_ok h; obtain ⟨a16_, r17_, rfl, h⟩ := h
    replace h := dSl_ok h; obtain ⟨rfl, h⟩ := h
    replace h := dCons_ok h; obtain ⟨a18_, r19_, rfl, h⟩ := h
    replace h := dSl_ok h; obtain ⟨rfl, h⟩ := h
    replace h := dNil_ok h; obtain ⟨rfl, h⟩ := h
    replace h := dBlk_ok h; obtain ⟨b20_, m21_, rfl, h⟩ := h
    replace h := dList_ok h; obtain ⟨q1, rfl, h⟩ := h
    replace h := dBlk_ok h; obtain ⟨b22_, m23_, rfl, h⟩ := h
    replace h := dList_ok h; obtain ⟨q2, rfl, h⟩ := h
    replace h := dBlk_ok h; obtain ⟨b24_, m25_, rfl, h⟩ := h
    replace h := dList_ok h; obtain ⟨q3, rfl, h⟩ := h
    replace h := dBlk_ok h; obtain ⟨b26_, m27_, rfl, h⟩ := h
    replace h := dList_ok h; obtain ⟨q4, rfl, h⟩ := h
    replace h := dBlk_ok h; obtain ⟨b28_, m29_, rfl, h⟩ := h
    replace h := dList_ok h; obtain ⟨q5, rfl, h⟩ := h
    replace h := dBlk_ok h; obtain ⟨b30_, m31_, rfl, h⟩ := h
    replace h := dList_ok h; obtain ⟨q6, rfl, h⟩ := h
    replace h := dEnd_ok h; obtain ⟨rfl, h⟩ := h
    exact ⟨(q0, q1, q2, q3, q4, q5, q6), rfl, h⟩
def H3 : List (Nat × LH) := [(0, H3_0)]
def W3 : List (Nat × List (Nat × List Nat)) := []
def Γ3 : List (Nat × Con) := [(30, useC [.pure .byte] G30), (31, useC [.ag [.pure .int, .pure .int, .pure .int]] G31), (33, useC [.ag [.pure .int, .pure .int, .pure .int]] G33), (32, useC [.pure .int, .pure .int] G32), (34, useC [.ag [.pure .int, .pure .int, .pure .int]] G34), (35, useC [.ag [.pure .int, .pure .int, .pure .int]] G35), (36, useC [.ag [.pure .int, .pure .int, .pure .int], .x] G36), (37, useC [.ag [.pure .int, .pure .int, .pure .int]] G37)]
theorem e3 (p1 : List Int) (K : TV → TMem → Prop) : TW PP 101 Γ3 H3 W3 (List.length ([] : TMem)) (bodyOf Try.f3) (endT PP 101 [.tmp 2] [.bl] [] (List.length ([] : TMem)) K) (argsF [.pl .byte p1]) [] =
    Ml_FnOrderOf p1 (fun r1 => K (.bool r1) []) := by kernel_rfl
theorem s3 : CSound PP 3 G3 := by
  intro args K c h fl A aargs hA hN R hl
  unfold G3 at h
  generalize ht : c.tm = tm at h
  replace h := dCons_ok h; obtain ⟨a1_, r2_, rfl, h⟩ := h
  replace h := dPl_ok h; obtain ⟨p1, rfl, h⟩ := h
  replace h := dNil_ok h; obtain ⟨rfl, h⟩ := h
  replace h := dEnd_ok h; obtain ⟨rfl, h⟩ := h
  refine fun_ok (nt := 101) (x := bodyOf Try.f3) (Γ := Γ3) (H := H3) (WW := W3) (rs := [.tmp 2]) (shs := [.bl]) (cons := []) mixed Try.func3 (by decide) (by kernel_rfl) Try.ntmps3 Try.results3 (.cons (useC_ok s30) (.cons (useC_ok s31) (.cons (useC_ok s33) (.cons (useC_ok s32) (.cons (useC_ok s34) (.cons (useC_ok s35) (.cons (useC_ok s36) (.cons (useC_ok s37) (GSound.nil))))))))) ?_ hA hN R hl
  rw [ht, e3 p1 K]
  exact h
end Go.Ab
