/-
  What is proved here: that the typed models of functions of the translated program are sound.
-/
import Derived.Test.YtggomedoeahdnaaGreatDoorGM
import Derived.Test.YtggomedoeahdnaaGreatDoorProg
import Derived.KernelRfl
import Derived.Shelf.Strings.SlTrimAscii
import Derived.Test.YtggomedoeahdnaaGreatDoorLay
namespace Go.Ab
set_option linter.unusedVariables false
open Go.Proofs
noncomputable abbrev PP : Program := Tryz.prog
theorem mixed : PP.follows .mixedOrders = true := by kernel_rfl
/-! spec.l1Many -/
def G204 : Con := fun args tm K => cI .i64 args fun p1 r1_ => dNil r1_ <| dEnd tm <| Ms_l1Many p1 (fun r1 => K (.sl 0) [⟨true, .list .int r1⟩])
def H204_0 : LH where
  keep := [(0, .x), (3, .own .int), (4, .x)]
  S := Int × Int × List Int
  enc := fun s => ([.int .i64 s.1, .sl 0, .int .i64 s.2.1], [⟨true, .list .int s.2.2⟩])
  dec := fun vs tm K => cI .i64 vs fun q0 r1_ => cL 0 r1_ fun r2_ => cI .i64 r2_ fun q1 r3_ => dNil r3_ <| bL true .int tm fun q2 m4_ => dEnd m4_ <| K (q0, q1, q2)
  law := by
    intro vs tm K
    refine cI_in ?_; rintro q0 r1_ rfl
    refine cL_in ?_; rintro r2_ rfl
    refine cI_in ?_; rintro q1 r3_ rfl
    refine dN_in ?_; rintro rfl
    refine bL_in ?_; rintro q2 m4_ rfl
    refine dE_in ?_; rintro rfl
    exact fun h => ⟨(q0, q1, q2), rfl, h⟩
def H204 : List (Nat × LH) := [(0, H204_0)]
def W204 : List (Nat × List (Nat × List Nat)) := []
def Γ204 : List (Nat × Con) := []
theorem e204 (p1 : Int) (K : TV → TMem → Prop) : TW PP 15 Γ204 H204 W204 (List.length ([] : TMem)) (bodyOf Tryz.f204) (endT PP 15 [.tmp 2] [.own .int] [] (List.length ([] : TMem)) K) (argsF [.int .i64 p1]) [] =
    Ms_l1Many p1 (fun r1 => K (.sl 0) [⟨true, .list .int r1⟩]) := by kernel_rfl
theorem s204 : CSound PP 204 G204 := by
  intro args K c h fl A aargs hA hN R hl
  unfold G204 at h
  generalize ht : c.tm = tm at h
  revert h
  refine cI_in ?_; rintro p1 r1_ rfl
  refine dN_in ?_; rintro rfl
  refine dE_in ?_; rintro rfl
  intro h
  refine fun_ok (nt := 15) (x := bodyOf Tryz.f204) (Γ := Γ204) (H := H204) (WW := W204) (rs := [.tmp 2]) (shs := [.own .int]) (cons := []) mixed Tryz.func204 (by decide) (by kernel_rfl) Tryz.ntmps204 Tryz.results204 (GSound.nil) ?_ hA hN R hl
  rw [ht, e204 p1 K]
  exact h
/-! spec.l5Word -/
def G188 : Con := fun args tm K => cI .i64 args fun p1 r1_ => dNil r1_ <| dEnd tm <| Ms_l5Word p1 (fun r1 => K (.str r1) [])
def H188 : List (Nat × LH) := []
def W188 : List (Nat × List (Nat × List Nat)) := []
def Γ188 : List (Nat × Con) := []
theorem e188 (p1 : Int) (K : TV → TMem → Prop) : TW PP 15 Γ188 H188 W188 (List.length ([] : TMem)) (bodyOf Tryz.f188) (endT PP 15 [.tmp 2] [.x] [] (List.length ([] : TMem)) K) (argsF [.int .i64 p1]) [] =
    Ms_l5Word p1 (fun r1 => K (.str r1) []) := by kernel_rfl
theorem s188 : CSound PP 188 G188 := by
  intro args K c h fl A aargs hA hN R hl
  unfold G188 at h
  generalize ht : c.tm = tm at h
  revert h
  refine cI_in ?_; rintro p1 r1_ rfl
  refine dN_in ?_; rintro rfl
  refine dE_in ?_; rintro rfl
  intro h
  refine fun_ok (nt := 15) (x := bodyOf Tryz.f188) (Γ := Γ188) (H := H188) (WW := W188) (rs := [.tmp 2]) (shs := [.x]) (cons := []) mixed Tryz.func188 (by decide) (by kernel_rfl) Tryz.ntmps188 Tryz.results188 (GSound.nil) ?_ hA hN R hl
  rw [ht, e188 p1 K]
  exact h
/-! spec.l5One -/
def G189 : Con := fun args tm K => cI .i64 args fun p1 r1_ => dNil r1_ <| dEnd tm <| Ms_l5One p1 (fun r1 => K (.bool r1) [])
def H189 : List (Nat × LH) := []
def W189 : List (Nat × List (Nat × List Nat)) := []
def Γ189 : List (Nat × Con) := []
theorem e189 (p1 : Int) (K : TV → TMem → Prop) : TW PP 9 Γ189 H189 W189 (List.length ([] : TMem)) (bodyOf Tryz.f189) (endT PP 9 [.tmp 2] [.bl] [] (List.length ([] : TMem)) K) (argsF [.int .i64 p1]) [] =
    Ms_l5One p1 (fun r1 => K (.bool r1) []) := by kernel_rfl
theorem s189 : CSound PP 189 G189 := by
  intro args K c h fl A aargs hA hN R hl
  unfold G189 at h
  generalize ht : c.tm = tm at h
  revert h
  refine cI_in ?_; rintro p1 r1_ rfl
  refine dN_in ?_; rintro rfl
  refine dE_in ?_; rintro rfl
  intro h
  refine fun_ok (nt := 9) (x := bodyOf Tryz.f189) (Γ := Γ189) (H := H189) (WW := W189) (rs := [.tmp 2]) (shs := [.bl]) (cons := []) mixed Tryz.func189 (by decide) (by kernel_rfl) Tryz.ntmps189 Tryz.results189 (GSound.nil) ?_ hA hN R hl
  rw [ht, e189 p1 K]
  exact h
/-! spec.OpValid -/
def G162 : Con := fun args tm K => cA args fun l2_ r1_ => cI .i64 l2_ fun p1 r3_ => cI .i64 r3_ fun p2 r4_ => cI .i64 r4_ fun p3 r5_ => dNil r5_ <| cI .i64 r1_ fun p4 r6_ => dNil r6_ <| dEnd tm <| Ms_OpValid p1 p2 p3 p4 (fun r1 => K (.bool r1) [])
def H162 : List (Nat × LH) := []
def W162 : List (Nat × List (Nat × List Nat)) := []
def Γ162 : List (Nat × Con) := [(188, useC [.x] G188), (189, useC [.x] G189)]
theorem e162 (p1 : Int) (p2 : Int) (p3 : Int) (p4 : Int) (K : TV → TMem → Prop) : TW PP 45 Γ162 H162 W162 (List.length ([] : TMem)) (bodyOf Tryz.f162) (endT PP 45 [.tmp 4] [.bl] [] (List.length ([] : TMem)) K) (argsF [.agg [.int .i64 p1, .int .i64 p2, .int .i64 p3], .int .i64 p4]) [] =
    Ms_OpValid p1 p2 p3 p4 (fun r1 => K (.bool r1) []) := by kernel_rfl
theorem s162 : CSound PP 162 G162 := by
  intro args K c h fl A aargs hA hN R hl
  unfold G162 at h
  generalize ht : c.tm = tm at h
  revert h
  refine cA_in ?_; rintro l2_ r1_ rfl
  refine cI_in ?_; rintro p1 r3_ rfl
  refine cI_in ?_; rintro p2 r4_ rfl
  refine cI_in ?_; rintro p3 r5_ rfl
  refine dN_in ?_; rintro rfl
  refine cI_in ?_; rintro p4 r6_ rfl
  refine dN_in ?_; rintro rfl
  refine dE_in ?_; rintro rfl
  intro h
  refine fun_ok (nt := 45) (x := bodyOf Tryz.f162) (Γ := Γ162) (H := H162) (WW := W162) (rs := [.tmp 4]) (shs := [.bl]) (cons := []) mixed Tryz.func162 (by decide) (by kernel_rfl) Tryz.ntmps162 Tryz.results162 (.cons (useC_ok s188) (.cons (useC_ok s189) (GSound.nil))) ?_ hA hN R hl
  rw [ht, e162 p1 p2 p3 p4 K]
  exact h
/-! spec.l1Points -/
def G143 : Con := fun args tm K => cI .i64 args fun p1 r1_ => cI .i64 r1_ fun p2 r2_ => dNil r2_ <| dEnd tm <| Ms_l1Points p1 p2 (fun r1 => K (.bool r1) [])
def H143 : List (Nat × LH) := []
def W143 : List (Nat × List (Nat × List Nat)) := []
def Γ143 : List (Nat × Con) := []
theorem e143 (p1 : Int) (p2 : Int) (K : TV → TMem → Prop) : TW PP 12 Γ143 H143 W143 (List.length ([] : TMem)) (bodyOf Tryz.f143) (endT PP 12 [.tmp 4] [.bl] [] (List.length ([] : TMem)) K) (argsF [.int .i64 p1, .int .i64 p2]) [] =
    Ms_l1Points p1 p2 (fun r1 => K (.bool r1) []) := by kernel_rfl
theorem s143 : CSound PP 143 G143 := by
  intro args K c h fl A aargs hA hN R hl
  unfold G143 at h
  generalize ht : c.tm = tm at h
  revert h
  refine cI_in ?_; rintro p1 r1_ rfl
  refine cI_in ?_; rintro p2 r2_ rfl
  refine dN_in ?_; rintro rfl
  refine dE_in ?_; rintro rfl
  intro h
  refine fun_ok (nt := 12) (x := bodyOf Tryz.f143) (Γ := Γ143) (H := H143) (WW := W143) (rs := [.tmp 4]) (shs := [.bl]) (cons := []) mixed Tryz.func143 (by decide) (by kernel_rfl) Tryz.ntmps143 Tryz.results143 (GSound.nil) ?_ hA hN R hl
  rw [ht, e143 p1 p2 K]
  exact h
/-! spec.HeapValid -/
def G78 : Con := fun args tm K => cA args fun l2_ r1_ => cP .int l2_ fun p1 r3_ => cP .int r3_ fun p2 r4_ => cP .int r4_ fun p3 r5_ => dNil r5_ <| dNil r1_ <| dEnd tm <| Ms_HeapValid p1 p2 p3 (fun r1 => K (.bool r1) [])
def H78_0 : LH where
  keep := [(1, .pc [.pure .int, .pure .int, .pure .int]), (3, .x), (4, .x)]
  S := Int × Int × List Int × List Int × List Int
  enc := fun s => ([.ptr 0 0, .int .i64 s.1, .int .i64 s.2.1], [⟨true, .cells [.pl .int s.2.2.1, .pl .int s.2.2.2.1, .pl .int s.2.2.2.2]⟩])
  dec := fun vs tm K => cQ 0 vs fun r1_ => cI .i64 r1_ fun q0 r2_ => cI .i64 r2_ fun q1 r3_ => dNil r3_ <| bC true tm fun c5_ m4_ => cP .int c5_ fun q2 r6_ => cP .int r6_ fun q3 r7_ => cP .int r7_ fun q4 r8_ => dNil r8_ <| dEnd m4_ <| K (q0, q1, q2, q3, q4)
  law := by
    intro vs tm K
    refine cQ_in ?_; rintro r1_ rfl
    refine cI_in ?_; rintro q0 r2_ rfl
    refine cI_in ?_; rintro q1 r3_ rfl
    refine dN_in ?_; rintro rfl
    refine bC_in ?_; rintro c5_ m4_ rfl
    refine cP_in ?_; rintro q2 r6_ rfl
    refine cP_in ?_; rintro q3 r7_ rfl
    refine cP_in ?_; rintro q4 r8_ rfl
    refine dN_in ?_; rintro rfl
    refine dE_in ?_; rintro rfl
    exact fun h => ⟨(q0, q1, q2, q3, q4), rfl, h⟩
def H78_2 : LH where
  keep := [(1, .pc [.pure .int, .pure .int, .pure .int]), (3, .x), (5, .x)]
  S := Int × Int × List Int × List Int × List Int
  enc := fun s => ([.ptr 0 0, .int .i64 s.1, .int .i64 s.2.1], [⟨true, .cells [.pl .int s.2.2.1, .pl .int s.2.2.2.1, .pl .int s.2.2.2.2]⟩])
  dec := fun vs tm K => cQ 0 vs fun r1_ => cI .i64 r1_ fun q0 r2_ => cI .i64 r2_ fun q1 r3_ => dNil r3_ <| bC true tm fun c5_ m4_ => cP .int c5_ fun q2 r6_ => cP .int r6_ fun q3 r7_ => cP .int r7_ fun q4 r8_ => dNil r8_ <| dEnd m4_ <| K (q0, q1, q2, q3, q4)
  law := by
    intro vs tm K
    refine cQ_in ?_; rintro r1_ rfl
    refine cI_in ?_; rintro q0 r2_ rfl
    refine cI_in ?_; rintro q1 r3_ rfl
    refine dN_in ?_; rintro rfl
    refine bC_in ?_; rintro c5_ m4_ rfl
    refine cP_in ?_; rintro q2 r6_ rfl
    refine cP_in ?_; rintro q3 r7_ rfl
    refine cP_in ?_; rintro q4 r8_ rfl
    refine dN_in ?_; rintro rfl
    refine dE_in ?_; rintro rfl
    exact fun h => ⟨(q0, q1, q2, q3, q4), rfl, h⟩
def H78 : List (Nat × LH) := [(0, H78_0), (2, H78_2)]
def W78 : List (Nat × List (Nat × List Nat)) := []
def Γ78 : List (Nat × Con) := [(143, useC [.x, .x] G143)]
theorem e78 (p1 : List Int) (p2 : List Int) (p3 : List Int) (K : TV → TMem → Prop) : TW PP 72 Γ78 H78 W78 (List.length ([] : TMem)) (bodyOf Tryz.f78) (endT PP 72 [.tmp 2] [.bl] [] (List.length ([] : TMem)) K) (argsF [.agg [.pl .int p1, .pl .int p2, .pl .int p3]]) [] =
    Ms_HeapValid p1 p2 p3 (fun r1 => K (.bool r1) []) := by kernel_rfl
theorem s78 : CSound PP 78 G78 := by
  intro args K c h fl A aargs hA hN R hl
  unfold G78 at h
  generalize ht : c.tm = tm at h
  revert h
  refine cA_in ?_; rintro l2_ r1_ rfl
  refine cP_in ?_; rintro p1 r3_ rfl
  refine cP_in ?_; rintro p2 r4_ rfl
  refine cP_in ?_; rintro p3 r5_ rfl
  refine dN_in ?_; rintro rfl
  refine dN_in ?_; rintro rfl
  refine dE_in ?_; rintro rfl
  intro h
  refine fun_ok (nt := 72) (x := bodyOf Tryz.f78) (Γ := Γ78) (H := H78) (WW := W78) (rs := [.tmp 2]) (shs := [.bl]) (cons := []) mixed Tryz.func78 (by decide) (by kernel_rfl) Tryz.ntmps78 Tryz.results78 (.cons (useC_ok s143) (GSound.nil)) ?_ hA hN R hl
  rw [ht, e78 p1 p2 p3 K]
  exact h
/-! spec.l4At -/
def G169 : Con := fun args tm K => cP .int args fun p1 r1_ => cI .i64 r1_ fun p2 r2_ => dNil r2_ <| dEnd tm <| Ms_l4At p1 p2 (fun r1 => K (.int .i64 r1) [])
def H169_0 : LH where
  keep := [(0, .pure .int), (1, .x), (5, .x)]
  S := List Int × Int × Int
  enc := fun s => ([.pl .int s.1, .int .i64 s.2.1, .int .i64 s.2.2], [])
  dec := fun vs tm K => cP .int vs fun q0 r1_ => cI .i64 r1_ fun q1 r2_ => cI .i64 r2_ fun q2 r3_ => dNil r3_ <| dEnd tm <| K (q0, q1, q2)
  law := by
    intro vs tm K
    refine cP_in ?_; rintro q0 r1_ rfl
    refine cI_in ?_; rintro q1 r2_ rfl
    refine cI_in ?_; rintro q2 r3_ rfl
    refine dN_in ?_; rintro rfl
    refine dE_in ?_; rintro rfl
    exact fun h => ⟨(q0, q1, q2), rfl, h⟩
def H169 : List (Nat × LH) := [(0, H169_0)]
def W169 : List (Nat × List (Nat × List Nat)) := []
def Γ169 : List (Nat × Con) := []
theorem e169 (p1 : List Int) (p2 : Int) (K : TV → TMem → Prop) : TW PP 19 Γ169 H169 W169 (List.length ([] : TMem)) (bodyOf Tryz.f169) (endT PP 19 [.tmp 4] [.x] [] (List.length ([] : TMem)) K) (argsF [.pl .int p1, .int .i64 p2]) [] =
    Ms_l4At p1 p2 (fun r1 => K (.int .i64 r1) []) := by kernel_rfl
theorem s169 : CSound PP 169 G169 := by
  intro args K c h fl A aargs hA hN R hl
  unfold G169 at h
  generalize ht : c.tm = tm at h
  revert h
  refine cP_in ?_; rintro p1 r1_ rfl
  refine cI_in ?_; rintro p2 r2_ rfl
  refine dN_in ?_; rintro rfl
  refine dE_in ?_; rintro rfl
  intro h
  refine fun_ok (nt := 19) (x := bodyOf Tryz.f169) (Γ := Γ169) (H := H169) (WW := W169) (rs := [.tmp 4]) (shs := [.x]) (cons := []) mixed Tryz.func169 (by decide) (by kernel_rfl) Tryz.ntmps169 Tryz.results169 (GSound.nil) ?_ hA hN R hl
  rw [ht, e169 p1 p2 K]
  exact h
/-! spec.l4Free -/
def G195 : Con := fun args tm K => cA args fun l2_ r1_ => cP .int l2_ fun p1 r3_ => cP .int r3_ fun p2 r4_ => cP .int r4_ fun p3 r5_ => dNil r5_ <| cI .i64 r1_ fun p4 r6_ => dNil r6_ <| dEnd tm <| Ms_l4Free p1 p2 p3 p4 (fun r1 => K (.bool r1) [])
def H195 : List (Nat × LH) := []
def W195 : List (Nat × List (Nat × List Nat)) := []
def Γ195 : List (Nat × Con) := [(169, useC [.pure .int, .x] G169)]
theorem e195 (p1 : List Int) (p2 : List Int) (p3 : List Int) (p4 : Int) (K : TV → TMem → Prop) : TW PP 51 Γ195 H195 W195 (List.length ([] : TMem)) (bodyOf Tryz.f195) (endT PP 51 [.tmp 4] [.bl] [] (List.length ([] : TMem)) K) (argsF [.agg [.pl .int p1, .pl .int p2, .pl .int p3], .int .i64 p4]) [] =
    Ms_l4Free p1 p2 p3 p4 (fun r1 => K (.bool r1) []) := by kernel_rfl
theorem s195 : CSound PP 195 G195 := by
  intro args K c h fl A aargs hA hN R hl
  unfold G195 at h
  generalize ht : c.tm = tm at h
  revert h
  refine cA_in ?_; rintro l2_ r1_ rfl
  refine cP_in ?_; rintro p1 r3_ rfl
  refine cP_in ?_; rintro p2 r4_ rfl
  refine cP_in ?_; rintro p3 r5_ rfl
  refine dN_in ?_; rintro rfl
  refine cI_in ?_; rintro p4 r6_ rfl
  refine dN_in ?_; rintro rfl
  refine dE_in ?_; rintro rfl
  intro h
  refine fun_ok (nt := 51) (x := bodyOf Tryz.f195) (Γ := Γ195) (H := H195) (WW := W195) (rs := [.tmp 4]) (shs := [.bl]) (cons := []) mixed Tryz.func195 (by decide) (by kernel_rfl) Tryz.ntmps195 Tryz.results195 (.cons (useC_ok s169) (GSound.nil)) ?_ hA hN R hl
  rw [ht, e195 p1 p2 p3 p4 K]
  exact h
/-! spec.StoreValid -/
def G160 : Con := fun args tm K => cA args fun l2_ r1_ => cP .int l2_ fun p1 r3_ => cP .int r3_ fun p2 r4_ => cP .int r4_ fun p3 r5_ => cP .int r5_ fun p4 r6_ => dNil r6_ <| dNil r1_ <| dEnd tm <| Ms_StoreValid p1 p2 p3 p4 (fun r1 => K (.bool r1) [])
def H160_0 : LH where
  keep := [(1, .pc [.pure .int, .pure .int, .pure .int, .pure .int]), (3, .x)]
  S := Int × List Int × List Int × List Int × List Int
  enc := fun s => ([.ptr 0 0, .int .i64 s.1], [⟨true, .cells [.pl .int s.2.1, .pl .int s.2.2.1, .pl .int s.2.2.2.1, .pl .int s.2.2.2.2]⟩])
  dec := fun vs tm K => cQ 0 vs fun r1_ => cI .i64 r1_ fun q0 r2_ => dNil r2_ <| bC true tm fun c4_ m3_ => cP .int c4_ fun q1 r5_ => cP .int r5_ fun q2 r6_ => cP .int r6_ fun q3 r7_ => cP .int r7_ fun q4 r8_ => dNil r8_ <| dEnd m3_ <| K (q0, q1, q2, q3, q4)
  law := by
    intro vs tm K
    refine cQ_in ?_; rintro r1_ rfl
    refine cI_in ?_; rintro q0 r2_ rfl
    refine dN_in ?_; rintro rfl
    refine bC_in ?_; rintro c4_ m3_ rfl
    refine cP_in ?_; rintro q1 r5_ rfl
    refine cP_in ?_; rintro q2 r6_ rfl
    refine cP_in ?_; rintro q3 r7_ rfl
    refine cP_in ?_; rintro q4 r8_ rfl
    refine dN_in ?_; rintro rfl
    refine dE_in ?_; rintro rfl
    exact fun h => ⟨(q0, q1, q2, q3, q4), rfl, h⟩
def H160 : List (Nat × LH) := [(0, H160_0)]
def W160 : List (Nat × List (Nat × List Nat)) := []
def Γ160 : List (Nat × Con) := [(78, useC [.ag [.pure .int, .pure .int, .pure .int]] G78), (195, useC [.ag [.pure .int, .pure .int, .pure .int], .x] G195), (169, useC [.pure .int, .x] G169)]
theorem e160 (p1 : List Int) (p2 : List Int) (p3 : List Int) (p4 : List Int) (K : TV → TMem → Prop) : TW PP 47 Γ160 H160 W160 (List.length ([] : TMem)) (bodyOf Tryz.f160) (endT PP 47 [.tmp 2] [.bl] [] (List.length ([] : TMem)) K) (argsF [.agg [.pl .int p1, .pl .int p2, .pl .int p3, .pl .int p4]]) [] =
    Ms_StoreValid p1 p2 p3 p4 (fun r1 => K (.bool r1) []) := by kernel_rfl
theorem s160 : CSound PP 160 G160 := by
  intro args K c h fl A aargs hA hN R hl
  unfold G160 at h
  generalize ht : c.tm = tm at h
  revert h
  refine cA_in ?_; rintro l2_ r1_ rfl
  refine cP_in ?_; rintro p1 r3_ rfl
  refine cP_in ?_; rintro p2 r4_ rfl
  refine cP_in ?_; rintro p3 r5_ rfl
  refine cP_in ?_; rintro p4 r6_ rfl
  refine dN_in ?_; rintro rfl
  refine dN_in ?_; rintro rfl
  refine dE_in ?_; rintro rfl
  intro h
  refine fun_ok (nt := 47) (x := bodyOf Tryz.f160) (Γ := Γ160) (H := H160) (WW := W160) (rs := [.tmp 2]) (shs := [.bl]) (cons := []) mixed Tryz.func160 (by decide) (by kernel_rfl) Tryz.ntmps160 Tryz.results160 (.cons (useC_ok s78) (.cons (useC_ok s195) (.cons (useC_ok s169) (GSound.nil)))) ?_ hA hN R hl
  rw [ht, e160 p1 p2 p3 p4 K]
  exact h
/-! spec.l1Copy -/
def G163 : Con := fun args tm K => cA args fun l2_ r1_ => cP .int l2_ fun p1 r3_ => cP .int r3_ fun p2 r4_ => cP .int r4_ fun p3 r5_ => dNil r5_ <| dNil r1_ <| dEnd tm <| Ms_l1Copy p1 p2 p3 (K (.agg [.sl 0, .sl 1, .sl 2]) [⟨true, .list .int p1⟩, ⟨true, .list .int p2⟩, ⟨true, .list .int p3⟩])
def H163 : List (Nat × LH) := []
def W163 : List (Nat × List (Nat × List Nat)) := []
def Γ163 : List (Nat × Con) := []
theorem e163 (p1 : List Int) (p2 : List Int) (p3 : List Int) (K : TV → TMem → Prop) : TW PP 16 Γ163 H163 W163 (List.length ([] : TMem)) (bodyOf Tryz.f163) (endT PP 16 [.cell 2 25] [.ag [.own .int, .own .int, .own .int]] [] (List.length ([] : TMem)) K) (argsF [.agg [.pl .int p1, .pl .int p2, .pl .int p3]]) [] =
    Ms_l1Copy p1 p2 p3 (K (.agg [.sl 0, .sl 1, .sl 2]) [⟨true, .list .int p1⟩, ⟨true, .list .int p2⟩, ⟨true, .list .int p3⟩]) := by kernel_rfl
theorem s163 : CSound PP 163 G163 := by
  intro args K c h fl A aargs hA hN R hl
  unfold G163 at h
  generalize ht : c.tm = tm at h
  revert h
  refine cA_in ?_; rintro l2_ r1_ rfl
  refine cP_in ?_; rintro p1 r3_ rfl
  refine cP_in ?_; rintro p2 r4_ rfl
  refine cP_in ?_; rintro p3 r5_ rfl
  refine dN_in ?_; rintro rfl
  refine dN_in ?_; rintro rfl
  refine dE_in ?_; rintro rfl
  intro h
  refine fun_ok (nt := 16) (x := bodyOf Tryz.f163) (Γ := Γ163) (H := H163) (WW := W163) (rs := [.cell 2 25]) (shs := [.ag [.own .int, .own .int, .own .int]]) (cons := []) mixed Tryz.func163 (by decide) (by kernel_rfl) Tryz.ntmps163 Tryz.results163 (GSound.nil) ?_ hA hN R hl
  rw [ht, e163 p1 p2 p3 K]
  exact h
/-! spec.l4Copy -/
def G99 : Con := fun args tm K => cA args fun l2_ r1_ => cP .int l2_ fun p1 r3_ => cP .int r3_ fun p2 r4_ => cP .int r4_ fun p3 r5_ => cP .int r5_ fun p4 r6_ => dNil r6_ <| dNil r1_ <| dEnd tm <| Ms_l4Copy p1 p2 p3 p4 (K (.agg [.sl 0, .sl 1, .sl 2, .sl 3]) [⟨true, .list .int p1⟩, ⟨true, .list .int p2⟩, ⟨true, .list .int p3⟩, ⟨true, .list .int p4⟩])
def H99 : List (Nat × LH) := []
def W99 : List (Nat × List (Nat × List Nat)) := []
def Γ99 : List (Nat × Con) := [(163, useC [.ag [.pure .int, .pure .int, .pure .int]] G163)]
theorem e99 (p1 : List Int) (p2 : List Int) (p3 : List Int) (p4 : List Int) (K : TV → TMem → Prop) : TW PP 11 Γ99 H99 W99 (List.length ([] : TMem)) (bodyOf Tryz.f99) (endT PP 11 [.cell 2 27] [.ag [.own .int, .own .int, .own .int, .own .int]] [] (List.length ([] : TMem)) K) (argsF [.agg [.pl .int p1, .pl .int p2, .pl .int p3, .pl .int p4]]) [] =
    Ms_l4Copy p1 p2 p3 p4 (K (.agg [.sl 0, .sl 1, .sl 2, .sl 3]) [⟨true, .list .int p1⟩, ⟨true, .list .int p2⟩, ⟨true, .list .int p3⟩, ⟨true, .list .int p4⟩]) := by kernel_rfl
theorem s99 : CSound PP 99 G99 := by
  intro args K c h fl A aargs hA hN R hl
  unfold G99 at h
  generalize ht : c.tm = tm at h
  revert h
  refine cA_in ?_; rintro l2_ r1_ rfl
  refine cP_in ?_; rintro p1 r3_ rfl
  refine cP_in ?_; rintro p2 r4_ rfl
  refine cP_in ?_; rintro p3 r5_ rfl
  refine cP_in ?_; rintro p4 r6_ rfl
  refine dN_in ?_; rintro rfl
  refine dN_in ?_; rintro rfl
  refine dE_in ?_; rintro rfl
  intro h
  refine fun_ok (nt := 11) (x := bodyOf Tryz.f99) (Γ := Γ99) (H := H99) (WW := W99) (rs := [.cell 2 27]) (shs := [.ag [.own .int, .own .int, .own .int, .own .int]]) (cons := []) mixed Tryz.func99 (by decide) (by kernel_rfl) Tryz.ntmps99 Tryz.results99 (.cons (useC_ok s163) (GSound.nil)) ?_ hA hN R hl
  rw [ht, e99 p1 p2 p3 p4 K]
  exact h
/-! spec.l5Do -/
def G164 : Con := fun args tm K => cA args fun l2_ r1_ => cL 0 l2_ fun r3_ => cL 1 r3_ fun r4_ => cL 2 r4_ fun r5_ => cL 3 r5_ fun r6_ => dNil r6_ <| cA r1_ fun l8_ r7_ => cI .i64 l8_ fun p1 r9_ => cI .i64 r9_ fun p2 r10_ => cI .i64 r10_ fun p3 r11_ => dNil r11_ <| dNil r7_ <| bL true .int tm fun p4 m12_ => bL true .int m12_ fun p5 m13_ => bL true .int m13_ fun p6 m14_ => bL true .int m14_ fun p7 m15_ => dEnd m15_ <| Ms_l5Do p1 p2 p3 p4 p5 p6 p7 (fun r1 r2 r3 r4 => K (.tup [.agg [.sl 0, .sl 1, .sl 2, .sl 3], .int .i64 r1]) [⟨true, .list .int r2⟩, ⟨true, .list .int r3⟩, ⟨true, .list .int r4⟩, ⟨true, .list .int p7⟩])
def H164 : List (Nat × LH) := []
def W164 : List (Nat × List (Nat × List Nat)) := []
def Γ164 : List (Nat × Con) := []
theorem e164 (p1 : Int) (p2 : Int) (p3 : Int) (p4 : List Int) (p5 : List Int) (p6 : List Int) (p7 : List Int) (K : TV → TMem → Prop) : TW PP 89 Γ164 H164 W164 (List.length ([⟨true, .list .int p4⟩, ⟨true, .list .int p5⟩, ⟨true, .list .int p6⟩, ⟨true, .list .int p7⟩] : TMem)) (bodyOf Tryz.f164) (endT PP 89 [.cell 4 27, .tmp 5] [.ag [.own .int, .own .int, .own .int, .own .int], .x] [] (List.length ([⟨true, .list .int p4⟩, ⟨true, .list .int p5⟩, ⟨true, .list .int p6⟩, ⟨true, .list .int p7⟩] : TMem)) K) (argsF [.agg [.sl 0, .sl 1, .sl 2, .sl 3], .agg [.int .i64 p1, .int .i64 p2, .int .i64 p3]]) [⟨true, .list .int p4⟩, ⟨true, .list .int p5⟩, ⟨true, .list .int p6⟩, ⟨true, .list .int p7⟩] =
    Ms_l5Do p1 p2 p3 p4 p5 p6 p7 (fun r1 r2 r3 r4 => K (.tup [.agg [.sl 0, .sl 1, .sl 2, .sl 3], .int .i64 r1]) [⟨true, .list .int r2⟩, ⟨true, .list .int r3⟩, ⟨true, .list .int r4⟩, ⟨true, .list .int p7⟩]) := by kernel_rfl
theorem s164 : CSound PP 164 G164 := by
  intro args K c h fl A aargs hA hN R hl
  unfold G164 at h
  generalize ht : c.tm = tm at h
  revert h
  refine cA_in ?_; rintro l2_ r1_ rfl
  refine cL_in ?_; rintro r3_ rfl
  refine cL_in ?_; rintro r4_ rfl
  refine cL_in ?_; rintro r5_ rfl
  refine cL_in ?_; rintro r6_ rfl
  refine dN_in ?_; rintro rfl
  refine cA_in ?_; rintro l8_ r7_ rfl
  refine cI_in ?_; rintro p1 r9_ rfl
  refine cI_in ?_; rintro p2 r10_ rfl
  refine cI_in ?_; rintro p3 r11_ rfl
  refine dN_in ?_; rintro rfl
  refine dN_in ?_; rintro rfl
  refine bL_in ?_; rintro p4 m12_ rfl
  refine bL_in ?_; rintro p5 m13_ rfl
  refine bL_in ?_; rintro p6 m14_ rfl
  refine bL_in ?_; rintro p7 m15_ rfl
  refine dE_in ?_; rintro rfl
  intro h
  refine fun_ok (nt := 89) (x := bodyOf Tryz.f164) (Γ := Γ164) (H := H164) (WW := W164) (rs := [.cell 4 27, .tmp 5]) (shs := [.ag [.own .int, .own .int, .own .int, .own .int], .x]) (cons := []) mixed Tryz.func164 (by decide) (by kernel_rfl) Tryz.ntmps164 Tryz.results164 (GSound.nil) ?_ hA hN R hl
  rw [ht, e164 p1 p2 p3 p4 p5 p6 p7 K]
  exact h
/-! spec.AllocCell -/
def G165 : Con := fun args tm K => cA args fun l2_ r1_ => cP .int l2_ fun p1 r3_ => cP .int r3_ fun p2 r4_ => cP .int r4_ fun p3 r5_ => cP .int r5_ fun p4 r6_ => dNil r6_ <| cI .i64 r1_ fun p5 r7_ => dNil r7_ <| dEnd tm <| Ms_AllocCell p1 p2 p3 p4 p5 (fun r1 r2 r3 r4 r5 r6 => K (.tup [.agg [.sl 0, .sl 1, .sl 2, .sl 3], .int .i64 r1, .bool r2]) [⟨true, .list .int r3⟩, ⟨true, .list .int r4⟩, ⟨true, .list .int r5⟩, ⟨true, .list .int r6⟩])
def H165 : List (Nat × LH) := []
def W165 : List (Nat × List (Nat × List Nat)) := []
def Γ165 : List (Nat × Con) := [(160, useC [.ag [.pure .int, .pure .int, .pure .int, .pure .int]] G160), (99, useC [.ag [.pure .int, .pure .int, .pure .int, .pure .int]] G99)]
theorem e165 (p1 : List Int) (p2 : List Int) (p3 : List Int) (p4 : List Int) (p5 : Int) (K : TV → TMem → Prop) : TW PP 51 Γ165 H165 W165 (List.length ([] : TMem)) (bodyOf Tryz.f165) (endT PP 51 [.cell 4 27, .tmp 5, .tmp 6] [.ag [.own .int, .own .int, .own .int, .own .int], .x, .bl] [] (List.length ([] : TMem)) K) (argsF [.agg [.pl .int p1, .pl .int p2, .pl .int p3, .pl .int p4], .int .i64 p5]) [] =
    Ms_AllocCell p1 p2 p3 p4 p5 (fun r1 r2 r3 r4 r5 r6 => K (.tup [.agg [.sl 0, .sl 1, .sl 2, .sl 3], .int .i64 r1, .bool r2]) [⟨true, .list .int r3⟩, ⟨true, .list .int r4⟩, ⟨true, .list .int r5⟩, ⟨true, .list .int r6⟩]) := by kernel_rfl
theorem s165 : CSound PP 165 G165 := by
  intro args K c h fl A aargs hA hN R hl
  unfold G165 at h
  generalize ht : c.tm = tm at h
  revert h
  refine cA_in ?_; rintro l2_ r1_ rfl
  refine cP_in ?_; rintro p1 r3_ rfl
  refine cP_in ?_; rintro p2 r4_ rfl
  refine cP_in ?_; rintro p3 r5_ rfl
  refine cP_in ?_; rintro p4 r6_ rfl
  refine dN_in ?_; rintro rfl
  refine cI_in ?_; rintro p5 r7_ rfl
  refine dN_in ?_; rintro rfl
  refine dE_in ?_; rintro rfl
  intro h
  refine fun_ok (nt := 51) (x := bodyOf Tryz.f165) (Γ := Γ165) (H := H165) (WW := W165) (rs := [.cell 4 27, .tmp 5, .tmp 6]) (shs := [.ag [.own .int, .own .int, .own .int, .own .int], .x, .bl]) (cons := []) mixed Tryz.func165 (by decide) (by kernel_rfl) Tryz.ntmps165 Tryz.results165 (.cons (useC_ok s160) (.cons (useC_ok s99) (GSound.nil))) ?_ hA hN R hl
  rw [ht, e165 p1 p2 p3 p4 p5 K]
  exact h
/-! spec.RunOp -/
def G102 : Con := fun args tm K => cA args fun l2_ r1_ => cP .int l2_ fun p1 r3_ => cP .int r3_ fun p2 r4_ => cP .int r4_ fun p3 r5_ => cP .int r5_ fun p4 r6_ => dNil r6_ <| cA r1_ fun l8_ r7_ => cI .i64 l8_ fun p5 r9_ => cI .i64 r9_ fun p6 r10_ => cI .i64 r10_ fun p7 r11_ => dNil r11_ <| dNil r7_ <| dEnd tm <| Ms_RunOp p1 p2 p3 p4 p5 p6 p7 (fun r1 r2 r3 r4 r5 r6 => K (.tup [.agg [.sl 0, .sl 1, .sl 2, .sl 3], .int .i64 r1, .bool r2]) [⟨true, .list .int r3⟩, ⟨true, .list .int r4⟩, ⟨true, .list .int r5⟩, ⟨true, .list .int r6⟩])
def H102 : List (Nat × LH) := []
def W102 : List (Nat × List (Nat × List Nat)) := []
def Γ102 : List (Nat × Con) := [(160, useC [.ag [.pure .int, .pure .int, .pure .int, .pure .int]] G160), (162, useC [.ag [.x, .x, .x], .x] G162), (99, useC [.ag [.pure .int, .pure .int, .pure .int, .pure .int]] G99), (164, useC [.ag [.own .int, .own .int, .own .int, .own .int], .ag [.x, .x, .x]] G164), (165, useC [.ag [.pure .int, .pure .int, .pure .int, .pure .int], .x] G165)]
theorem e102 (p1 : List Int) (p2 : List Int) (p3 : List Int) (p4 : List Int) (p5 : Int) (p6 : Int) (p7 : Int) (K : TV → TMem → Prop) : TW PP 50 Γ102 H102 W102 (List.length ([] : TMem)) (bodyOf Tryz.f102) (endT PP 50 [.cell 4 27, .tmp 5, .tmp 6] [.ag [.own .int, .own .int, .own .int, .own .int], .x, .bl] [] (List.length ([] : TMem)) K) (argsF [.agg [.pl .int p1, .pl .int p2, .pl .int p3, .pl .int p4], .agg [.int .i64 p5, .int .i64 p6, .int .i64 p7]]) [] =
    Ms_RunOp p1 p2 p3 p4 p5 p6 p7 (fun r1 r2 r3 r4 r5 r6 => K (.tup [.agg [.sl 0, .sl 1, .sl 2, .sl 3], .int .i64 r1, .bool r2]) [⟨true, .list .int r3⟩, ⟨true, .list .int r4⟩, ⟨true, .list .int r5⟩, ⟨true, .list .int r6⟩]) := by kernel_rfl
theorem s102 : CSound PP 102 G102 := by
  intro args K c h fl A aargs hA hN R hl
  unfold G102 at h
  generalize ht : c.tm = tm at h
  revert h
  refine cA_in ?_; rintro l2_ r1_ rfl
  refine cP_in ?_; rintro p1 r3_ rfl
  refine cP_in ?_; rintro p2 r4_ rfl
  refine cP_in ?_; rintro p3 r5_ rfl
  refine cP_in ?_; rintro p4 r6_ rfl
  refine dN_in ?_; rintro rfl
  refine cA_in ?_; rintro l8_ r7_ rfl
  refine cI_in ?_; rintro p5 r9_ rfl
  refine cI_in ?_; rintro p6 r10_ rfl
  refine cI_in ?_; rintro p7 r11_ rfl
  refine dN_in ?_; rintro rfl
  refine dN_in ?_; rintro rfl
  refine dE_in ?_; rintro rfl
  intro h
  refine fun_ok (nt := 50) (x := bodyOf Tryz.f102) (Γ := Γ102) (H := H102) (WW := W102) (rs := [.cell 4 27, .tmp 5, .tmp 6]) (shs := [.ag [.own .int, .own .int, .own .int, .own .int], .x, .bl]) (cons := []) mixed Tryz.func102 (by decide) (by kernel_rfl) Tryz.ntmps102 Tryz.results102 (.cons (useC_ok s160) (.cons (useC_ok s162) (.cons (useC_ok s99) (.cons (useC_ok s164) (.cons (useC_ok s165) (GSound.nil)))))) ?_ hA hN R hl
  rw [ht, e102 p1 p2 p3 p4 p5 p6 p7 K]
  exact h
/-! spec.l7Ops -/
def G98 : Con := fun args tm K => cP .op args fun p1 r1_ => cI .i64 r1_ fun p2 r2_ => dNil r2_ <| dEnd tm <| Ms_l7Ops p1 p2 (fun r1 => K (.bool r1) [])
def H98_0 : LH where
  keep := [(0, .pure .op), (1, .x), (5, .x)]
  S := List OpV × Int × Int
  enc := fun s => ([.pl .op s.1, .int .i64 s.2.1, .int .i64 s.2.2], [])
  dec := fun vs tm K => cP .op vs fun q0 r1_ => cI .i64 r1_ fun q1 r2_ => cI .i64 r2_ fun q2 r3_ => dNil r3_ <| dEnd tm <| K (q0, q1, q2)
  law := by
    intro vs tm K
    refine cP_in ?_; rintro q0 r1_ rfl
    refine cI_in ?_; rintro q1 r2_ rfl
    refine cI_in ?_; rintro q2 r3_ rfl
    refine dN_in ?_; rintro rfl
    refine dE_in ?_; rintro rfl
    exact fun h => ⟨(q0, q1, q2), rfl, h⟩
def H98 : List (Nat × LH) := [(0, H98_0)]
def W98 : List (Nat × List (Nat × List Nat)) := []
def Γ98 : List (Nat × Con) := [(162, useC [.ag [.x, .x, .x], .x] G162)]
theorem e98 (p1 : List OpV) (p2 : Int) (K : TV → TMem → Prop) : TW PP 26 Γ98 H98 W98 (List.length ([] : TMem)) (bodyOf Tryz.f98) (endT PP 26 [.tmp 4] [.bl] [] (List.length ([] : TMem)) K) (argsF [.pl .op p1, .int .i64 p2]) [] =
    Ms_l7Ops p1 p2 (fun r1 => K (.bool r1) []) := by kernel_rfl
theorem s98 : CSound PP 98 G98 := by
  intro args K c h fl A aargs hA hN R hl
  unfold G98 at h
  generalize ht : c.tm = tm at h
  revert h
  refine cP_in ?_; rintro p1 r1_ rfl
  refine cI_in ?_; rintro p2 r2_ rfl
  refine dN_in ?_; rintro rfl
  refine dE_in ?_; rintro rfl
  intro h
  refine fun_ok (nt := 26) (x := bodyOf Tryz.f98) (Γ := Γ98) (H := H98) (WW := W98) (rs := [.tmp 4]) (shs := [.bl]) (cons := []) mixed Tryz.func98 (by decide) (by kernel_rfl) Tryz.ntmps98 Tryz.results98 (.cons (useC_ok s162) (GSound.nil)) ?_ hA hN R hl
  rw [ht, e98 p1 p2 K]
  exact h
/-! spec.ColoredValid -/
def G161 : Con := fun args tm K => cA args fun l2_ r1_ => cP .int l2_ fun p1 r3_ => cP .int r3_ fun p2 r4_ => cP .int r4_ fun p3 r5_ => cP .int r5_ fun p4 r6_ => dNil r6_ <| dNil r1_ <| dEnd tm <| Ms_ColoredValid p1 p2 p3 p4 (fun r1 => K (.bool r1) [])
def H161_0 : LH where
  keep := [(1, .pc [.pure .int, .pure .int, .pure .int, .pure .int]), (3, .x)]
  S := Int × List Int × List Int × List Int × List Int
  enc := fun s => ([.ptr 0 0, .int .i64 s.1], [⟨true, .cells [.pl .int s.2.1, .pl .int s.2.2.1, .pl .int s.2.2.2.1, .pl .int s.2.2.2.2]⟩])
  dec := fun vs tm K => cQ 0 vs fun r1_ => cI .i64 r1_ fun q0 r2_ => dNil r2_ <| bC true tm fun c4_ m3_ => cP .int c4_ fun q1 r5_ => cP .int r5_ fun q2 r6_ => cP .int r6_ fun q3 r7_ => cP .int r7_ fun q4 r8_ => dNil r8_ <| dEnd m3_ <| K (q0, q1, q2, q3, q4)
  law := by
    intro vs tm K
    refine cQ_in ?_; rintro r1_ rfl
    refine cI_in ?_; rintro q0 r2_ rfl
    refine dN_in ?_; rintro rfl
    refine bC_in ?_; rintro c4_ m3_ rfl
    refine cP_in ?_; rintro q1 r5_ rfl
    refine cP_in ?_; rintro q2 r6_ rfl
    refine cP_in ?_; rintro q3 r7_ rfl
    refine cP_in ?_; rintro q4 r8_ rfl
    refine dN_in ?_; rintro rfl
    refine dE_in ?_; rintro rfl
    exact fun h => ⟨(q0, q1, q2, q3, q4), rfl, h⟩
def H161 : List (Nat × LH) := [(0, H161_0)]
def W161 : List (Nat × List (Nat × List Nat)) := []
def Γ161 : List (Nat × Con) := [(78, useC [.ag [.pure .int, .pure .int, .pure .int]] G78)]
theorem e161 (p1 : List Int) (p2 : List Int) (p3 : List Int) (p4 : List Int) (K : TV → TMem → Prop) : TW PP 39 Γ161 H161 W161 (List.length ([] : TMem)) (bodyOf Tryz.f161) (endT PP 39 [.tmp 2] [.bl] [] (List.length ([] : TMem)) K) (argsF [.agg [.pl .int p1, .pl .int p2, .pl .int p3, .pl .int p4]]) [] =
    Ms_ColoredValid p1 p2 p3 p4 (fun r1 => K (.bool r1) []) := by kernel_rfl
theorem s161 : CSound PP 161 G161 := by
  intro args K c h fl A aargs hA hN R hl
  unfold G161 at h
  generalize ht : c.tm = tm at h
  revert h
  refine cA_in ?_; rintro l2_ r1_ rfl
  refine cP_in ?_; rintro p1 r3_ rfl
  refine cP_in ?_; rintro p2 r4_ rfl
  refine cP_in ?_; rintro p3 r5_ rfl
  refine cP_in ?_; rintro p4 r6_ rfl
  refine dN_in ?_; rintro rfl
  refine dN_in ?_; rintro rfl
  refine dE_in ?_; rintro rfl
  intro h
  refine fun_ok (nt := 39) (x := bodyOf Tryz.f161) (Γ := Γ161) (H := H161) (WW := W161) (rs := [.tmp 2]) (shs := [.bl]) (cons := []) mixed Tryz.func161 (by decide) (by kernel_rfl) Tryz.ntmps161 Tryz.results161 (.cons (useC_ok s78) (GSound.nil)) ?_ hA hN R hl
  rw [ht, e161 p1 p2 p3 p4 K]
  exact h
/-! spec.GcValid -/
def G97 : Con := fun args tm K => cA args fun l2_ r1_ => cP .int l2_ fun p1 r3_ => cP .int r3_ fun p2 r4_ => cP .int r4_ fun p3 r5_ => cP .int r5_ fun p4 r6_ => dNil r6_ <| cA r1_ fun l8_ r7_ => cI .i64 l8_ fun p5 r9_ => cP .int r9_ fun p6 r10_ => cI .i64 r10_ fun p7 r11_ => dNil r11_ <| dNil r7_ <| dEnd tm <| Ms_GcValid p1 p2 p3 p4 p5 p6 p7 (fun r1 => K (.bool r1) [])
def H97 : List (Nat × LH) := []
def W97 : List (Nat × List (Nat × List Nat)) := []
def Γ97 : List (Nat × Con) := [(160, useC [.ag [.pure .int, .pure .int, .pure .int, .pure .int]] G160), (161, useC [.ag [.pure .int, .pure .int, .pure .int, .pure .int]] G161)]
theorem e97 (p1 : List Int) (p2 : List Int) (p3 : List Int) (p4 : List Int) (p5 : Int) (p6 : List Int) (p7 : Int) (K : TV → TMem → Prop) : TW PP 48 Γ97 H97 W97 (List.length ([] : TMem)) (bodyOf Tryz.f97) (endT PP 48 [.tmp 4] [.bl] [] (List.length ([] : TMem)) K) (argsF [.agg [.pl .int p1, .pl .int p2, .pl .int p3, .pl .int p4], .agg [.int .i64 p5, .pl .int p6, .int .i64 p7]]) [] =
    Ms_GcValid p1 p2 p3 p4 p5 p6 p7 (fun r1 => K (.bool r1) []) := by kernel_rfl
theorem s97 : CSound PP 97 G97 := by
  intro args K c h fl A aargs hA hN R hl
  unfold G97 at h
  generalize ht : c.tm = tm at h
  revert h
  refine cA_in ?_; rintro l2_ r1_ rfl
  refine cP_in ?_; rintro p1 r3_ rfl
  refine cP_in ?_; rintro p2 r4_ rfl
  refine cP_in ?_; rintro p3 r5_ rfl
  refine cP_in ?_; rintro p4 r6_ rfl
  refine dN_in ?_; rintro rfl
  refine cA_in ?_; rintro l8_ r7_ rfl
  refine cI_in ?_; rintro p5 r9_ rfl
  refine cP_in ?_; rintro p6 r10_ rfl
  refine cI_in ?_; rintro p7 r11_ rfl
  refine dN_in ?_; rintro rfl
  refine dN_in ?_; rintro rfl
  refine dE_in ?_; rintro rfl
  intro h
  refine fun_ok (nt := 48) (x := bodyOf Tryz.f97) (Γ := Γ97) (H := H97) (WW := W97) (rs := [.tmp 4]) (shs := [.bl]) (cons := []) mixed Tryz.func97 (by decide) (by kernel_rfl) Tryz.ntmps97 Tryz.results97 (.cons (useC_ok s160) (.cons (useC_ok s161) (GSound.nil))) ?_ hA hN R hl
  rw [ht, e97 p1 p2 p3 p4 p5 p6 p7 K]
  exact h
/-! spec.BothValid -/
def G38 : Con := fun args tm K => cA args fun l2_ r1_ => cP .int l2_ fun p1 r3_ => cP .int r3_ fun p2 r4_ => cP .int r4_ fun p3 r5_ => cP .int r5_ fun p4 r6_ => cI .i64 r6_ fun p5 r7_ => cP .int r7_ fun p6 r8_ => cI .i64 r8_ fun p7 r9_ => cP .op r9_ fun p8 r10_ => cI .i64 r10_ fun p9 r11_ => cB r11_ fun p10 r12_ => dNil r12_ <| dNil r1_ <| dEnd tm <| Ms_BothValid p1 p2 p3 p4 p5 p6 p7 p8 p9 p10 (fun r1 => K (.bool r1) [])
def H38 : List (Nat × LH) := []
def W38 : List (Nat × List (Nat × List Nat)) := []
def Γ38 : List (Nat × Con) := [(97, useC [.ag [.pure .int, .pure .int, .pure .int, .pure .int], .ag [.x, .pure .int, .x]] G97), (98, useC [.pure .op, .x] G98)]
theorem e38 (p1 : List Int) (p2 : List Int) (p3 : List Int) (p4 : List Int) (p5 : Int) (p6 : List Int) (p7 : Int) (p8 : List OpV) (p9 : Int) (p10 : Bool) (K : TV → TMem → Prop) : TW PP 31 Γ38 H38 W38 (List.length ([] : TMem)) (bodyOf Tryz.f38) (endT PP 31 [.tmp 2] [.bl] [] (List.length ([] : TMem)) K) (argsF [.agg [.pl .int p1, .pl .int p2, .pl .int p3, .pl .int p4, .int .i64 p5, .pl .int p6, .int .i64 p7, .pl .op p8, .int .i64 p9, .bool p10]]) [] =
    Ms_BothValid p1 p2 p3 p4 p5 p6 p7 p8 p9 p10 (fun r1 => K (.bool r1) []) := by kernel_rfl
theorem s38 : CSound PP 38 G38 := by
  intro args K c h fl A aargs hA hN R hl
  unfold G38 at h
  generalize ht : c.tm = tm at h
  revert h
  refine cA_in ?_; rintro l2_ r1_ rfl
  refine cP_in ?_; rintro p1 r3_ rfl
  refine cP_in ?_; rintro p2 r4_ rfl
  refine cP_in ?_; rintro p3 r5_ rfl
  refine cP_in ?_; rintro p4 r6_ rfl
  refine cI_in ?_; rintro p5 r7_ rfl
  refine cP_in ?_; rintro p6 r8_ rfl
  refine cI_in ?_; rintro p7 r9_ rfl
  refine cP_in ?_; rintro p8 r10_ rfl
  refine cI_in ?_; rintro p9 r11_ rfl
  refine cB_in ?_; rintro p10 r12_ rfl
  refine dN_in ?_; rintro rfl
  refine dN_in ?_; rintro rfl
  refine dE_in ?_; rintro rfl
  intro h
  refine fun_ok (nt := 31) (x := bodyOf Tryz.f38) (Γ := Γ38) (H := H38) (WW := W38) (rs := [.tmp 2]) (shs := [.bl]) (cons := []) mixed Tryz.func38 (by decide) (by kernel_rfl) Tryz.ntmps38 Tryz.results38 (.cons (useC_ok s97) (.cons (useC_ok s98) (GSound.nil))) ?_ hA hN R hl
  rw [ht, e38 p1 p2 p3 p4 p5 p6 p7 p8 p9 p10 K]
  exact h
/-! spec.l6Copy -/
def G100 : Con := fun args tm K => cA args fun l2_ r1_ => cI .i64 l2_ fun p1 r3_ => cP .int r3_ fun p2 r4_ => cI .i64 r4_ fun p3 r5_ => dNil r5_ <| dNil r1_ <| dEnd tm <| Ms_l6Copy p1 p2 p3 (K (.agg [.int .i64 p1, .sl 0, .int .i64 p3]) [⟨true, .list .int p2⟩])
def H100 : List (Nat × LH) := []
def W100 : List (Nat × List (Nat × List Nat)) := []
def Γ100 : List (Nat × Con) := []
theorem e100 (p1 : Int) (p2 : List Int) (p3 : Int) (K : TV → TMem → Prop) : TW PP 12 Γ100 H100 W100 (List.length ([] : TMem)) (bodyOf Tryz.f100) (endT PP 12 [.cell 2 29] [.ag [.x, .own .int, .x]] [] (List.length ([] : TMem)) K) (argsF [.agg [.int .i64 p1, .pl .int p2, .int .i64 p3]]) [] =
    Ms_l6Copy p1 p2 p3 (K (.agg [.int .i64 p1, .sl 0, .int .i64 p3]) [⟨true, .list .int p2⟩]) := by kernel_rfl
theorem s100 : CSound PP 100 G100 := by
  intro args K c h fl A aargs hA hN R hl
  unfold G100 at h
  generalize ht : c.tm = tm at h
  revert h
  refine cA_in ?_; rintro l2_ r1_ rfl
  refine cI_in ?_; rintro p1 r3_ rfl
  refine cP_in ?_; rintro p2 r4_ rfl
  refine cI_in ?_; rintro p3 r5_ rfl
  refine dN_in ?_; rintro rfl
  refine dN_in ?_; rintro rfl
  refine dE_in ?_; rintro rfl
  intro h
  refine fun_ok (nt := 12) (x := bodyOf Tryz.f100) (Γ := Γ100) (H := H100) (WW := W100) (rs := [.cell 2 29]) (shs := [.ag [.x, .own .int, .x]]) (cons := []) mixed Tryz.func100 (by decide) (by kernel_rfl) Tryz.ntmps100 Tryz.results100 (GSound.nil) ?_ hA hN R hl
  rw [ht, e100 p1 p2 p3 K]
  exact h
/-! spec.l7Copy -/
def G39 : Con := fun args tm K => cA args fun l2_ r1_ => cP .int l2_ fun p1 r3_ => cP .int r3_ fun p2 r4_ => cP .int r4_ fun p3 r5_ => cP .int r5_ fun p4 r6_ => cI .i64 r6_ fun p5 r7_ => cP .int r7_ fun p6 r8_ => cI .i64 r8_ fun p7 r9_ => cP .op r9_ fun p8 r10_ => cI .i64 r10_ fun p9 r11_ => cB r11_ fun p10 r12_ => dNil r12_ <| dNil r1_ <| dEnd tm <| Ms_l7Copy p1 p2 p3 p4 p5 p6 p7 p8 p9 p10 (K (.agg [.sl 0, .sl 1, .sl 2, .sl 3, .int .i64 p5, .sl 4, .int .i64 p7, .sl 5, .int .i64 p9, .bool p10]) [⟨true, .list .int p1⟩, ⟨true, .list .int p2⟩, ⟨true, .list .int p3⟩, ⟨true, .list .int p4⟩, ⟨true, .list .int p6⟩, ⟨true, .list .op p8⟩])
def H39 : List (Nat × LH) := []
def W39 : List (Nat × List (Nat × List Nat)) := []
def Γ39 : List (Nat × Con) := [(99, useC [.ag [.pure .int, .pure .int, .pure .int, .pure .int]] G99), (100, useC [.ag [.x, .pure .int, .x]] G100)]
theorem e39 (p1 : List Int) (p2 : List Int) (p3 : List Int) (p4 : List Int) (p5 : Int) (p6 : List Int) (p7 : Int) (p8 : List OpV) (p9 : Int) (p10 : Bool) (K : TV → TMem → Prop) : TW PP 18 Γ39 H39 W39 (List.length ([] : TMem)) (bodyOf Tryz.f39) (endT PP 18 [.cell 2 32] [.ag [.own .int, .own .int, .own .int, .own .int, .x, .own .int, .x, .own .op, .x, .bl]] [] (List.length ([] : TMem)) K) (argsF [.agg [.pl .int p1, .pl .int p2, .pl .int p3, .pl .int p4, .int .i64 p5, .pl .int p6, .int .i64 p7, .pl .op p8, .int .i64 p9, .bool p10]]) [] =
    Ms_l7Copy p1 p2 p3 p4 p5 p6 p7 p8 p9 p10 (K (.agg [.sl 0, .sl 1, .sl 2, .sl 3, .int .i64 p5, .sl 4, .int .i64 p7, .sl 5, .int .i64 p9, .bool p10]) [⟨true, .list .int p1⟩, ⟨true, .list .int p2⟩, ⟨true, .list .int p3⟩, ⟨true, .list .int p4⟩, ⟨true, .list .int p6⟩, ⟨true, .list .op p8⟩]) := by kernel_rfl
theorem s39 : CSound PP 39 G39 := by
  intro args K c h fl A aargs hA hN R hl
  unfold G39 at h
  generalize ht : c.tm = tm at h
  revert h
  refine cA_in ?_; rintro l2_ r1_ rfl
  refine cP_in ?_; rintro p1 r3_ rfl
  refine cP_in ?_; rintro p2 r4_ rfl
  refine cP_in ?_; rintro p3 r5_ rfl
  refine cP_in ?_; rintro p4 r6_ rfl
  refine cI_in ?_; rintro p5 r7_ rfl
  refine cP_in ?_; rintro p6 r8_ rfl
  refine cI_in ?_; rintro p7 r9_ rfl
  refine cP_in ?_; rintro p8 r10_ rfl
  refine cI_in ?_; rintro p9 r11_ rfl
  refine cB_in ?_; rintro p10 r12_ rfl
  refine dN_in ?_; rintro rfl
  refine dN_in ?_; rintro rfl
  refine dE_in ?_; rintro rfl
  intro h
  refine fun_ok (nt := 18) (x := bodyOf Tryz.f39) (Γ := Γ39) (H := H39) (WW := W39) (rs := [.cell 2 32]) (shs := [.ag [.own .int, .own .int, .own .int, .own .int, .x, .own .int, .x, .own .op, .x, .bl]]) (cons := []) mixed Tryz.func39 (by decide) (by kernel_rfl) Tryz.ntmps39 Tryz.results39 (.cons (useC_ok s99) (.cons (useC_ok s100) (GSound.nil))) ?_ hA hN R hl
  rw [ht, e39 p1 p2 p3 p4 p5 p6 p7 p8 p9 p10 K]
  exact h
/-! spec.l6Swept -/
def G106 : Con := fun args tm K => cA args fun l2_ r1_ => cP .int l2_ fun p1 r3_ => cP .int r3_ fun p2 r4_ => cP .int r4_ fun p3 r5_ => cP .int r5_ fun p4 r6_ => dNil r6_ <| cA r1_ fun l8_ r7_ => cI .i64 l8_ fun p5 r9_ => cP .int r9_ fun p6 r10_ => cI .i64 r10_ fun p7 r11_ => dNil r11_ <| dNil r7_ <| dEnd tm <| Ms_l6Swept p1 p2 p3 p4 p5 p6 p7 (fun r1 => K (.int .i64 r1) [])
def H106 : List (Nat × LH) := []
def W106 : List (Nat × List (Nat × List Nat)) := []
def Γ106 : List (Nat × Con) := [(169, useC [.pure .int, .x] G169)]
theorem e106 (p1 : List Int) (p2 : List Int) (p3 : List Int) (p4 : List Int) (p5 : Int) (p6 : List Int) (p7 : Int) (K : TV → TMem → Prop) : TW PP 27 Γ106 H106 W106 (List.length ([] : TMem)) (bodyOf Tryz.f106) (endT PP 27 [.tmp 4] [.x] [] (List.length ([] : TMem)) K) (argsF [.agg [.pl .int p1, .pl .int p2, .pl .int p3, .pl .int p4], .agg [.int .i64 p5, .pl .int p6, .int .i64 p7]]) [] =
    Ms_l6Swept p1 p2 p3 p4 p5 p6 p7 (fun r1 => K (.int .i64 r1) []) := by kernel_rfl
theorem s106 : CSound PP 106 G106 := by
  intro args K c h fl A aargs hA hN R hl
  unfold G106 at h
  generalize ht : c.tm = tm at h
  revert h
  refine cA_in ?_; rintro l2_ r1_ rfl
  refine cP_in ?_; rintro p1 r3_ rfl
  refine cP_in ?_; rintro p2 r4_ rfl
  refine cP_in ?_; rintro p3 r5_ rfl
  refine cP_in ?_; rintro p4 r6_ rfl
  refine dN_in ?_; rintro rfl
  refine cA_in ?_; rintro l8_ r7_ rfl
  refine cI_in ?_; rintro p5 r9_ rfl
  refine cP_in ?_; rintro p6 r10_ rfl
  refine cI_in ?_; rintro p7 r11_ rfl
  refine dN_in ?_; rintro rfl
  refine dN_in ?_; rintro rfl
  refine dE_in ?_; rintro rfl
  intro h
  refine fun_ok (nt := 27) (x := bodyOf Tryz.f106) (Γ := Γ106) (H := H106) (WW := W106) (rs := [.tmp 4]) (shs := [.x]) (cons := []) mixed Tryz.func106 (by decide) (by kernel_rfl) Tryz.ntmps106 Tryz.results106 (.cons (useC_ok s169) (GSound.nil)) ?_ hA hN R hl
  rw [ht, e106 p1 p2 p3 p4 p5 p6 p7 K]
  exact h
/-! spec.l2Distances -/
def G196 : Con := fun args tm K => cA args fun l2_ r1_ => cP .int l2_ fun p1 r3_ => cP .int r3_ fun p2 r4_ => cP .int r4_ fun p3 r5_ => dNil r5_ <| cP .int r1_ fun p4 r6_ => dNil r6_ <| dEnd tm <| Ms_l2Distances p1 p2 p3 p4 (fun r1 => K (.sl 0) [⟨true, .list .int r1⟩])
def H196_0 : LH where
  keep := [(1, .pure .int), (2, .pc [.pure .int, .pure .int, .pure .int]), (5, .own .int), (6, .own .int), (7, .x)]
  S := List Int × Int × List Int × List Int × List Int × List Int × List Int
  enc := fun s => ([.pl .int s.1, .ptr 0 0, .sl 1, .sl 2, .int .i64 s.2.1], [⟨true, .cells [.pl .int s.2.2.1, .pl .int s.2.2.2.1, .pl .int s.2.2.2.2.1]⟩, ⟨true, .list .int s.2.2.2.2.2.1⟩, ⟨true, .list .int s.2.2.2.2.2.2⟩])
  dec := fun vs tm K => cP .int vs fun q0 r1_ => cQ 0 r1_ fun r2_ => cL 1 r2_ fun r3_ => cL 2 r3_ fun r4_ => cI .i64 r4_ fun q1 r5_ => dNil r5_ <| bC true tm fun c7_ m6_ => cP .int c7_ fun q2 r8_ => cP .int r8_ fun q3 r9_ => cP .int r9_ fun q4 r10_ => dNil r10_ <| bL true .int m6_ fun q5 m11_ => bL true .int m11_ fun q6 m12_ => dEnd m12_ <| K (q0, q1, q2, q3, q4, q5, q6)
  law := by
    intro vs tm K
    refine cP_in ?_; rintro q0 r1_ rfl
    refine cQ_in ?_; rintro r2_ rfl
    refine cL_in ?_; rintro r3_ rfl
    refine cL_in ?_; rintro r4_ rfl
    refine cI_in ?_; rintro q1 r5_ rfl
    refine dN_in ?_; rintro rfl
    refine bC_in ?_; rintro c7_ m6_ rfl
    refine cP_in ?_; rintro q2 r8_ rfl
    refine cP_in ?_; rintro q3 r9_ rfl
    refine cP_in ?_; rintro q4 r10_ rfl
    refine dN_in ?_; rintro rfl
    refine bL_in ?_; rintro q5 m11_ rfl
    refine bL_in ?_; rintro q6 m12_ rfl
    refine dE_in ?_; rintro rfl
    exact fun h => ⟨(q0, q1, q2, q3, q4, q5, q6), rfl, h⟩
def H196_2 : LH where
  keep := [(2, .pc [.pure .int, .pure .int, .pure .int]), (5, .own .int), (6, .own .int), (8, .x)]
  S := Int × List Int × List Int × List Int × List Int × List Int
  enc := fun s => ([.ptr 0 0, .sl 1, .sl 2, .int .i64 s.1], [⟨true, .cells [.pl .int s.2.1, .pl .int s.2.2.1, .pl .int s.2.2.2.1]⟩, ⟨true, .list .int s.2.2.2.2.1⟩, ⟨true, .list .int s.2.2.2.2.2⟩])
  dec := fun vs tm K => cQ 0 vs fun r1_ => cL 1 r1_ fun r2_ => cL 2 r2_ fun r3_ => cI .i64 r3_ fun q0 r4_ => dNil r4_ <| bC true tm fun c6_ m5_ => cP .int c6_ fun q1 r7_ => cP .int r7_ fun q2 r8_ => cP .int r8_ fun q3 r9_ => dNil r9_ <| bL true .int m5_ fun q4 m10_ => bL true .int m10_ fun q5 m11_ => dEnd m11_ <| K (q0, q1, q2, q3, q4, q5)
  law := by
    intro vs tm K
    refine cQ_in ?_; rintro r1_ rfl
    refine cL_in ?_; rintro r2_ rfl
    refine cL_in ?_; rintro r3_ rfl
    refine cI_in ?_; rintro q0 r4_ rfl
    refine dN_in ?_; rintro rfl
    refine bC_in ?_; rintro c6_ m5_ rfl
    refine cP_in ?_; rintro q1 r7_ rfl
    refine cP_in ?_; rintro q2 r8_ rfl
    refine cP_in ?_; rintro q3 r9_ rfl
    refine dN_in ?_; rintro rfl
    refine bL_in ?_; rintro q4 m10_ rfl
    refine bL_in ?_; rintro q5 m11_ rfl
    refine dE_in ?_; rintro rfl
    exact fun h => ⟨(q0, q1, q2, q3, q4, q5), rfl, h⟩
def H196_4 : LH where
  keep := [(2, .pc [.pure .int, .pure .int, .pure .int]), (5, .own .int), (6, .own .int), (8, .x), (9, .x), (10, .own .int), (11, .x)]
  S := Int × Int × Int × List Int × List Int × List Int × List Int × List Int × List Int
  enc := fun s => ([.ptr 0 0, .sl 1, .sl 2, .int .i64 s.1, .int .i64 s.2.1, .sl 3, .int .i64 s.2.2.1], [⟨true, .cells [.pl .int s.2.2.2.1, .pl .int s.2.2.2.2.1, .pl .int s.2.2.2.2.2.1]⟩, ⟨true, .list .int s.2.2.2.2.2.2.1⟩, ⟨true, .list .int s.2.2.2.2.2.2.2.1⟩, ⟨true, .list .int s.2.2.2.2.2.2.2.2⟩])
  dec := fun vs tm K => cQ 0 vs fun r1_ => cL 1 r1_ fun r2_ => cL 2 r2_ fun r3_ => cI .i64 r3_ fun q0 r4_ => cI .i64 r4_ fun q1 r5_ => cL 3 r5_ fun r6_ => cI .i64 r6_ fun q2 r7_ => dNil r7_ <| bC true tm fun c9_ m8_ => cP .int c9_ fun q3 r10_ => cP .int r10_ fun q4 r11_ => cP .int r11_ fun q5 r12_ => dNil r12_ <| bL true .int m8_ fun q6 m13_ => bL true .int m13_ fun q7 m14_ => bL true .int m14_ fun q8 m15_ => dEnd m15_ <| K (q0, q1, q2, q3, q4, q5, q6, q7, q8)
  law := by
    intro vs tm K
    refine cQ_in ?_; rintro r1_ rfl
    refine cL_in ?_; rintro r2_ rfl
    refine cL_in ?_; rintro r3_ rfl
    refine cI_in ?_; rintro q0 r4_ rfl
    refine cI_in ?_; rintro q1 r5_ rfl
    refine cL_in ?_; rintro r6_ rfl
    refine cI_in ?_; rintro q2 r7_ rfl
    refine dN_in ?_; rintro rfl
    refine bC_in ?_; rintro c9_ m8_ rfl
    refine cP_in ?_; rintro q3 r10_ rfl
    refine cP_in ?_; rintro q4 r11_ rfl
    refine cP_in ?_; rintro q5 r12_ rfl
    refine dN_in ?_; rintro rfl
    refine bL_in ?_; rintro q6 m13_ rfl
    refine bL_in ?_; rintro q7 m14_ rfl
    refine bL_in ?_; rintro q8 m15_ rfl
    refine dE_in ?_; rintro rfl
    exact fun h => ⟨(q0, q1, q2, q3, q4, q5, q6, q7, q8), rfl, h⟩
def H196 : List (Nat × LH) := [(0, H196_0), (2, H196_2), (4, H196_4)]
def W196 : List (Nat × List (Nat × List Nat)) := []
def Γ196 : List (Nat × Con) := [(204, useC [.x] G204)]
theorem e196 (p1 : List Int) (p2 : List Int) (p3 : List Int) (p4 : List Int) (K : TV → TMem → Prop) : TW PP 110 Γ196 H196 W196 (List.length ([] : TMem)) (bodyOf Tryz.f196) (endT PP 110 [.tmp 4] [.own .int] [] (List.length ([] : TMem)) K) (argsF [.agg [.pl .int p1, .pl .int p2, .pl .int p3], .pl .int p4]) [] =
    Ms_l2Distances p1 p2 p3 p4 (fun r1 => K (.sl 0) [⟨true, .list .int r1⟩]) := by kernel_rfl
theorem s196 : CSound PP 196 G196 := by
  intro args K c h fl A aargs hA hN R hl
  unfold G196 at h
  generalize ht : c.tm = tm at h
  revert h
  refine cA_in ?_; rintro l2_ r1_ rfl
  refine cP_in ?_; rintro p1 r3_ rfl
  refine cP_in ?_; rintro p2 r4_ rfl
  refine cP_in ?_; rintro p3 r5_ rfl
  refine dN_in ?_; rintro rfl
  refine cP_in ?_; rintro p4 r6_ rfl
  refine dN_in ?_; rintro rfl
  refine dE_in ?_; rintro rfl
  intro h
  refine fun_ok (nt := 110) (x := bodyOf Tryz.f196) (Γ := Γ196) (H := H196) (WW := W196) (rs := [.tmp 4]) (shs := [.own .int]) (cons := []) mixed Tryz.func196 (by decide) (by kernel_rfl) Tryz.ntmps196 Tryz.results196 (.cons (useC_ok s204) (GSound.nil)) ?_ hA hN R hl
  rw [ht, e196 p1 p2 p3 p4 K]
  exact h
/-! spec.Reachable -/
def G168 : Con := fun args tm K => cA args fun l2_ r1_ => cP .int l2_ fun p1 r3_ => cP .int r3_ fun p2 r4_ => cP .int r4_ fun p3 r5_ => dNil r5_ <| dNil r1_ <| dEnd tm <| Ms_Reachable p1 p2 p3 (fun r1 => K (.sl 0) [⟨true, .list .bool r1⟩])
def H168_0 : LH where
  keep := [(3, .own .bool), (4, .own .int), (5, .x)]
  S := Int × List Bool × List Int
  enc := fun s => ([.sl 0, .sl 1, .int .i64 s.1], [⟨true, .list .bool s.2.1⟩, ⟨true, .list .int s.2.2⟩])
  dec := fun vs tm K => cL 0 vs fun r1_ => cL 1 r1_ fun r2_ => cI .i64 r2_ fun q0 r3_ => dNil r3_ <| bL true .bool tm fun q1 m4_ => bL true .int m4_ fun q2 m5_ => dEnd m5_ <| K (q0, q1, q2)
  law := by
    intro vs tm K
    refine cL_in ?_; rintro r1_ rfl
    refine cL_in ?_; rintro r2_ rfl
    refine cI_in ?_; rintro q0 r3_ rfl
    refine dN_in ?_; rintro rfl
    refine bL_in ?_; rintro q1 m4_ rfl
    refine bL_in ?_; rintro q2 m5_ rfl
    refine dE_in ?_; rintro rfl
    exact fun h => ⟨(q0, q1, q2), rfl, h⟩
def H168 : List (Nat × LH) := [(0, H168_0)]
def W168 : List (Nat × List (Nat × List Nat)) := []
def Γ168 : List (Nat × Con) := [(78, useC [.ag [.pure .int, .pure .int, .pure .int]] G78), (196, useC [.ag [.pure .int, .pure .int, .pure .int], .pure .int] G196)]
theorem e168 (p1 : List Int) (p2 : List Int) (p3 : List Int) (K : TV → TMem → Prop) : TW PP 30 Γ168 H168 W168 (List.length ([] : TMem)) (bodyOf Tryz.f168) (endT PP 30 [.tmp 2] [.own .bool] [] (List.length ([] : TMem)) K) (argsF [.agg [.pl .int p1, .pl .int p2, .pl .int p3]]) [] =
    Ms_Reachable p1 p2 p3 (fun r1 => K (.sl 0) [⟨true, .list .bool r1⟩]) := by kernel_rfl
theorem s168 : CSound PP 168 G168 := by
  intro args K c h fl A aargs hA hN R hl
  unfold G168 at h
  generalize ht : c.tm = tm at h
  revert h
  refine cA_in ?_; rintro l2_ r1_ rfl
  refine cP_in ?_; rintro p1 r3_ rfl
  refine cP_in ?_; rintro p2 r4_ rfl
  refine cP_in ?_; rintro p3 r5_ rfl
  refine dN_in ?_; rintro rfl
  refine dN_in ?_; rintro rfl
  refine dE_in ?_; rintro rfl
  intro h
  refine fun_ok (nt := 30) (x := bodyOf Tryz.f168) (Γ := Γ168) (H := H168) (WW := W168) (rs := [.tmp 2]) (shs := [.own .bool]) (cons := []) mixed Tryz.func168 (by decide) (by kernel_rfl) Tryz.ntmps168 Tryz.results168 (.cons (useC_ok s78) (.cons (useC_ok s196) (GSound.nil))) ?_ hA hN R hl
  rw [ht, e168 p1 p2 p3 K]
  exact h
/-! spec.l7Live -/
def G105 : Con := fun args tm K => cA args fun l2_ r1_ => cP .int l2_ fun p1 r3_ => cP .int r3_ fun p2 r4_ => cP .int r4_ fun p3 r5_ => cP .int r5_ fun p4 r6_ => dNil r6_ <| cI .i64 r1_ fun p5 r7_ => dNil r7_ <| dEnd tm <| Ms_l7Live p1 p2 p3 p4 p5 (fun r1 => K (.bool r1) [])
def H105 : List (Nat × LH) := []
def W105 : List (Nat × List (Nat × List Nat)) := []
def Γ105 : List (Nat × Con) := [(168, useC [.ag [.pure .int, .pure .int, .pure .int]] G168)]
theorem e105 (p1 : List Int) (p2 : List Int) (p3 : List Int) (p4 : List Int) (p5 : Int) (K : TV → TMem → Prop) : TW PP 15 Γ105 H105 W105 (List.length ([] : TMem)) (bodyOf Tryz.f105) (endT PP 15 [.tmp 4] [.bl] [] (List.length ([] : TMem)) K) (argsF [.agg [.pl .int p1, .pl .int p2, .pl .int p3, .pl .int p4], .int .i64 p5]) [] =
    Ms_l7Live p1 p2 p3 p4 p5 (fun r1 => K (.bool r1) []) := by kernel_rfl
theorem s105 : CSound PP 105 G105 := by
  intro args K c h fl A aargs hA hN R hl
  unfold G105 at h
  generalize ht : c.tm = tm at h
  revert h
  refine cA_in ?_; rintro l2_ r1_ rfl
  refine cP_in ?_; rintro p1 r3_ rfl
  refine cP_in ?_; rintro p2 r4_ rfl
  refine cP_in ?_; rintro p3 r5_ rfl
  refine cP_in ?_; rintro p4 r6_ rfl
  refine dN_in ?_; rintro rfl
  refine cI_in ?_; rintro p5 r7_ rfl
  refine dN_in ?_; rintro rfl
  refine dE_in ?_; rintro rfl
  intro h
  refine fun_ok (nt := 15) (x := bodyOf Tryz.f105) (Γ := Γ105) (H := H105) (WW := W105) (rs := [.tmp 4]) (shs := [.bl]) (cons := []) mixed Tryz.func105 (by decide) (by kernel_rfl) Tryz.ntmps105 Tryz.results105 (.cons (useC_ok s168) (GSound.nil)) ?_ hA hN R hl
  rw [ht, e105 p1 p2 p3 p4 p5 K]
  exact h
/-! spec.l3Shade -/
def G167 : Con := fun args tm K => cL 0 args fun r1_ => cI .i64 r1_ fun p1 r2_ => dNil r2_ <| bL true .int tm fun p2 m3_ => dEnd m3_ <| Ms_l3Shade p1 p2 (fun r1 => K (.sl 0) [⟨true, .list .int r1⟩])
def H167 : List (Nat × LH) := []
def W167 : List (Nat × List (Nat × List Nat)) := []
def Γ167 : List (Nat × Con) := []
theorem e167 (p1 : Int) (p2 : List Int) (K : TV → TMem → Prop) : TW PP 18 Γ167 H167 W167 (List.length ([⟨true, .list .int p2⟩] : TMem)) (bodyOf Tryz.f167) (endT PP 18 [.tmp 4] [.own .int] [] (List.length ([⟨true, .list .int p2⟩] : TMem)) K) (argsF [.sl 0, .int .i64 p1]) [⟨true, .list .int p2⟩] =
    Ms_l3Shade p1 p2 (fun r1 => K (.sl 0) [⟨true, .list .int r1⟩]) := by kernel_rfl
theorem s167 : CSound PP 167 G167 := by
  intro args K c h fl A aargs hA hN R hl
  unfold G167 at h
  generalize ht : c.tm = tm at h
  revert h
  refine cL_in ?_; rintro r1_ rfl
  refine cI_in ?_; rintro p1 r2_ rfl
  refine dN_in ?_; rintro rfl
  refine bL_in ?_; rintro p2 m3_ rfl
  refine dE_in ?_; rintro rfl
  intro h
  refine fun_ok (nt := 18) (x := bodyOf Tryz.f167) (Γ := Γ167) (H := H167) (WW := W167) (rs := [.tmp 4]) (shs := [.own .int]) (cons := []) mixed Tryz.func167 (by decide) (by kernel_rfl) Tryz.ntmps167 Tryz.results167 (GSound.nil) ?_ hA hN R hl
  rw [ht, e167 p1 p2 K]
  exact h
/-! spec.l6Next -/
def G170 : Con := fun args tm K => cA args fun l2_ r1_ => cI .i64 l2_ fun p1 r3_ => cL 0 r3_ fun r4_ => cI .i64 r4_ fun p2 r5_ => dNil r5_ <| cI .i64 r1_ fun p3 r6_ => cI .i64 r6_ fun p4 r7_ => dNil r7_ <| bL false .int tm fun p5 m8_ => dEnd m8_ <| Ms_l6Next p1 p2 p3 p4 p5 (fun r1 r2 => K (.agg [.int .i64 r1, .sl 0, .int .i64 r2]) [⟨false, .list .int p5⟩])
def H170 : List (Nat × LH) := []
def W170 : List (Nat × List (Nat × List Nat)) := []
def Γ170 : List (Nat × Con) := []
theorem e170 (p1 : Int) (p2 : Int) (p3 : Int) (p4 : Int) (p5 : List Int) (K : TV → TMem → Prop) : TW PP 19 Γ170 H170 W170 (List.length ([⟨false, .list .int p5⟩] : TMem)) (bodyOf Tryz.f170) (endT PP 19 [.cell 6 29] [.ag [.x, .x, .x]] [] (List.length ([⟨false, .list .int p5⟩] : TMem)) K) (argsF [.agg [.int .i64 p1, .sl 0, .int .i64 p2], .int .i64 p3, .int .i64 p4]) [⟨false, .list .int p5⟩] =
    Ms_l6Next p1 p2 p3 p4 p5 (fun r1 r2 => K (.agg [.int .i64 r1, .sl 0, .int .i64 r2]) [⟨false, .list .int p5⟩]) := by kernel_rfl
theorem s170 : CSound PP 170 G170 := by
  intro args K c h fl A aargs hA hN R hl
  unfold G170 at h
  generalize ht : c.tm = tm at h
  revert h
  refine cA_in ?_; rintro l2_ r1_ rfl
  refine cI_in ?_; rintro p1 r3_ rfl
  refine cL_in ?_; rintro r4_ rfl
  refine cI_in ?_; rintro p2 r5_ rfl
  refine dN_in ?_; rintro rfl
  refine cI_in ?_; rintro p3 r6_ rfl
  refine cI_in ?_; rintro p4 r7_ rfl
  refine dN_in ?_; rintro rfl
  refine bL_in ?_; rintro p5 m8_ rfl
  refine dE_in ?_; rintro rfl
  intro h
  refine fun_ok (nt := 19) (x := bodyOf Tryz.f170) (Γ := Γ170) (H := H170) (WW := W170) (rs := [.cell 6 29]) (shs := [.ag [.x, .x, .x]]) (cons := []) mixed Tryz.func170 (by decide) (by kernel_rfl) Tryz.ntmps170 Tryz.results170 (GSound.nil) ?_ hA hN R hl
  rw [ht, e170 p1 p2 p3 p4 p5 K]
  exact h
/-! spec.l3First -/
def G197 : Con := fun args tm K => cA args fun l2_ r1_ => cP .int l2_ fun p1 r3_ => cP .int r3_ fun p2 r4_ => cP .int r4_ fun p3 r5_ => cP .int r5_ fun p4 r6_ => dNil r6_ <| cI .i64 r1_ fun p5 r7_ => dNil r7_ <| dEnd tm <| Ms_l3First p1 p2 p3 p4 p5 (fun r1 => K (.int .i64 r1) [])
def H197_0 : LH where
  keep := [(1, .x), (2, .pc [.pure .int, .pure .int, .pure .int, .pure .int]), (5, .x)]
  S := Int × Int × List Int × List Int × List Int × List Int
  enc := fun s => ([.int .i64 s.1, .ptr 0 0, .int .i64 s.2.1], [⟨true, .cells [.pl .int s.2.2.1, .pl .int s.2.2.2.1, .pl .int s.2.2.2.2.1, .pl .int s.2.2.2.2.2]⟩])
  dec := fun vs tm K => cI .i64 vs fun q0 r1_ => cQ 0 r1_ fun r2_ => cI .i64 r2_ fun q1 r3_ => dNil r3_ <| bC true tm fun c5_ m4_ => cP .int c5_ fun q2 r6_ => cP .int r6_ fun q3 r7_ => cP .int r7_ fun q4 r8_ => cP .int r8_ fun q5 r9_ => dNil r9_ <| dEnd m4_ <| K (q0, q1, q2, q3, q4, q5)
  law := by
    intro vs tm K
    refine cI_in ?_; rintro q0 r1_ rfl
    refine cQ_in ?_; rintro r2_ rfl
    refine cI_in ?_; rintro q1 r3_ rfl
    refine dN_in ?_; rintro rfl
    refine bC_in ?_; rintro c5_ m4_ rfl
    refine cP_in ?_; rintro q2 r6_ rfl
    refine cP_in ?_; rintro q3 r7_ rfl
    refine cP_in ?_; rintro q4 r8_ rfl
    refine cP_in ?_; rintro q5 r9_ rfl
    refine dN_in ?_; rintro rfl
    refine dE_in ?_; rintro rfl
    exact fun h => ⟨(q0, q1, q2, q3, q4, q5), rfl, h⟩
def H197 : List (Nat × LH) := [(0, H197_0)]
def W197 : List (Nat × List (Nat × List Nat)) := []
def Γ197 : List (Nat × Con) := []
theorem e197 (p1 : List Int) (p2 : List Int) (p3 : List Int) (p4 : List Int) (p5 : Int) (K : TV → TMem → Prop) : TW PP 21 Γ197 H197 W197 (List.length ([] : TMem)) (bodyOf Tryz.f197) (endT PP 21 [.tmp 4] [.x] [] (List.length ([] : TMem)) K) (argsF [.agg [.pl .int p1, .pl .int p2, .pl .int p3, .pl .int p4], .int .i64 p5]) [] =
    Ms_l3First p1 p2 p3 p4 p5 (fun r1 => K (.int .i64 r1) []) := by kernel_rfl
theorem s197 : CSound PP 197 G197 := by
  intro args K c h fl A aargs hA hN R hl
  unfold G197 at h
  generalize ht : c.tm = tm at h
  revert h
  refine cA_in ?_; rintro l2_ r1_ rfl
  refine cP_in ?_; rintro p1 r3_ rfl
  refine cP_in ?_; rintro p2 r4_ rfl
  refine cP_in ?_; rintro p3 r5_ rfl
  refine cP_in ?_; rintro p4 r6_ rfl
  refine dN_in ?_; rintro rfl
  refine cI_in ?_; rintro p5 r7_ rfl
  refine dN_in ?_; rintro rfl
  refine dE_in ?_; rintro rfl
  intro h
  refine fun_ok (nt := 21) (x := bodyOf Tryz.f197) (Γ := Γ197) (H := H197) (WW := W197) (rs := [.tmp 4]) (shs := [.x]) (cons := []) mixed Tryz.func197 (by decide) (by kernel_rfl) Tryz.ntmps197 Tryz.results197 (GSound.nil) ?_ hA hN R hl
  rw [ht, e197 p1 p2 p3 p4 p5 K]
  exact h
/-! spec.l3Black -/
def G198 : Con := fun args tm K => cA args fun l2_ r1_ => cP .int l2_ fun p1 r3_ => cP .int r3_ fun p2 r4_ => cP .int r4_ fun p3 r5_ => cL 0 r5_ fun r6_ => dNil r6_ <| cI .i64 r1_ fun p4 r7_ => dNil r7_ <| bL true .int tm fun p5 m8_ => dEnd m8_ <| Ms_l3Black p1 p2 p3 p4 p5 (fun r1 => K (.agg [.pl .int p1, .pl .int p2, .pl .int p3, .sl 0]) [⟨true, .list .int r1⟩])
def H198 : List (Nat × LH) := []
def W198 : List (Nat × List (Nat × List Nat)) := []
def Γ198 : List (Nat × Con) := [(167, useC [.own .int, .x] G167)]
theorem e198 (p1 : List Int) (p2 : List Int) (p3 : List Int) (p4 : Int) (p5 : List Int) (K : TV → TMem → Prop) : TW PP 30 Γ198 H198 W198 (List.length ([⟨true, .list .int p5⟩] : TMem)) (bodyOf Tryz.f198) (endT PP 30 [.cell 4 180] [.ag [.pure .int, .pure .int, .pure .int, .own .int]] [] (List.length ([⟨true, .list .int p5⟩] : TMem)) K) (argsF [.agg [.pl .int p1, .pl .int p2, .pl .int p3, .sl 0], .int .i64 p4]) [⟨true, .list .int p5⟩] =
    Ms_l3Black p1 p2 p3 p4 p5 (fun r1 => K (.agg [.pl .int p1, .pl .int p2, .pl .int p3, .sl 0]) [⟨true, .list .int r1⟩]) := by kernel_rfl
theorem s198 : CSound PP 198 G198 := by
  intro args K c h fl A aargs hA hN R hl
  unfold G198 at h
  generalize ht : c.tm = tm at h
  revert h
  refine cA_in ?_; rintro l2_ r1_ rfl
  refine cP_in ?_; rintro p1 r3_ rfl
  refine cP_in ?_; rintro p2 r4_ rfl
  refine cP_in ?_; rintro p3 r5_ rfl
  refine cL_in ?_; rintro r6_ rfl
  refine dN_in ?_; rintro rfl
  refine cI_in ?_; rintro p4 r7_ rfl
  refine dN_in ?_; rintro rfl
  refine bL_in ?_; rintro p5 m8_ rfl
  refine dE_in ?_; rintro rfl
  intro h
  refine fun_ok (nt := 30) (x := bodyOf Tryz.f198) (Γ := Γ198) (H := H198) (WW := W198) (rs := [.cell 4 180]) (shs := [.ag [.pure .int, .pure .int, .pure .int, .own .int]]) (cons := []) mixed Tryz.func198 (by decide) (by kernel_rfl) Tryz.ntmps198 Tryz.results198 (.cons (useC_ok s167) (GSound.nil)) ?_ hA hN R hl
  rw [ht, e198 p1 p2 p3 p4 p5 K]
  exact h
/-! spec.l6Root -/
def G199 : Con := fun args tm K => cA args fun l2_ r1_ => cP .int l2_ fun p1 r3_ => cP .int r3_ fun p2 r4_ => cP .int r4_ fun p3 r5_ => cP .int r5_ fun p4 r6_ => dNil r6_ <| cA r1_ fun l8_ r7_ => cI .i64 l8_ fun p5 r9_ => cP .int r9_ fun p6 r10_ => cI .i64 r10_ fun p7 r11_ => dNil r11_ <| dNil r7_ <| dEnd tm <| Ms_l6Root p1 p2 p3 p4 p5 p6 p7 (fun r1 => K (.int .i64 r1) [])
def H199_0 : LH where
  keep := [(2, .pc [.pure .int, .pure .int, .pure .int, .pure .int]), (3, .pc [.x, .pure .int, .x]), (5, .x)]
  S := Int × List Int × List Int × List Int × List Int × Int × List Int × Int
  enc := fun s => ([.ptr 0 0, .ptr 1 0, .int .i64 s.1], [⟨true, .cells [.pl .int s.2.1, .pl .int s.2.2.1, .pl .int s.2.2.2.1, .pl .int s.2.2.2.2.1]⟩, ⟨true, .cells [.int .i64 s.2.2.2.2.2.1, .pl .int s.2.2.2.2.2.2.1, .int .i64 s.2.2.2.2.2.2.2]⟩])
  dec := fun vs tm K => cQ 0 vs fun r1_ => cQ 1 r1_ fun r2_ => cI .i64 r2_ fun q0 r3_ => dNil r3_ <| bC true tm fun c5_ m4_ => cP .int c5_ fun q1 r6_ => cP .int r6_ fun q2 r7_ => cP .int r7_ fun q3 r8_ => cP .int r8_ fun q4 r9_ => dNil r9_ <| bC true m4_ fun c11_ m10_ => cI .i64 c11_ fun q5 r12_ => cP .int r12_ fun q6 r13_ => cI .i64 r13_ fun q7 r14_ => dNil r14_ <| dEnd m10_ <| K (q0, q1, q2, q3, q4, q5, q6, q7)
  law := by
    intro vs tm K
    refine cQ_in ?_; rintro r1_ rfl
    refine cQ_in ?_; rintro r2_ rfl
    refine cI_in ?_; rintro q0 r3_ rfl
    refine dN_in ?_; rintro rfl
    refine bC_in ?_; rintro c5_ m4_ rfl
    refine cP_in ?_; rintro q1 r6_ rfl
    refine cP_in ?_; rintro q2 r7_ rfl
    refine cP_in ?_; rintro q3 r8_ rfl
    refine cP_in ?_; rintro q4 r9_ rfl
    refine dN_in ?_; rintro rfl
    refine bC_in ?_; rintro c11_ m10_ rfl
    refine cI_in ?_; rintro q5 r12_ rfl
    refine cP_in ?_; rintro q6 r13_ rfl
    refine cI_in ?_; rintro q7 r14_ rfl
    refine dN_in ?_; rintro rfl
    refine dE_in ?_; rintro rfl
    exact fun h => ⟨(q0, q1, q2, q3, q4, q5, q6, q7), rfl, h⟩
def H199 : List (Nat × LH) := [(0, H199_0)]
def W199 : List (Nat × List (Nat × List Nat)) := []
def Γ199 : List (Nat × Con) := []
theorem e199 (p1 : List Int) (p2 : List Int) (p3 : List Int) (p4 : List Int) (p5 : Int) (p6 : List Int) (p7 : Int) (K : TV → TMem → Prop) : TW PP 32 Γ199 H199 W199 (List.length ([] : TMem)) (bodyOf Tryz.f199) (endT PP 32 [.tmp 4] [.x] [] (List.length ([] : TMem)) K) (argsF [.agg [.pl .int p1, .pl .int p2, .pl .int p3, .pl .int p4], .agg [.int .i64 p5, .pl .int p6, .int .i64 p7]]) [] =
    Ms_l6Root p1 p2 p3 p4 p5 p6 p7 (fun r1 => K (.int .i64 r1) []) := by kernel_rfl
theorem s199 : CSound PP 199 G199 := by
  intro args K c h fl A aargs hA hN R hl
  unfold G199 at h
  generalize ht : c.tm = tm at h
  revert h
  refine cA_in ?_; rintro l2_ r1_ rfl
  refine cP_in ?_; rintro p1 r3_ rfl
  refine cP_in ?_; rintro p2 r4_ rfl
  refine cP_in ?_; rintro p3 r5_ rfl
  refine cP_in ?_; rintro p4 r6_ rfl
  refine dN_in ?_; rintro rfl
  refine cA_in ?_; rintro l8_ r7_ rfl
  refine cI_in ?_; rintro p5 r9_ rfl
  refine cP_in ?_; rintro p6 r10_ rfl
  refine cI_in ?_; rintro p7 r11_ rfl
  refine dN_in ?_; rintro rfl
  refine dN_in ?_; rintro rfl
  refine dE_in ?_; rintro rfl
  intro h
  refine fun_ok (nt := 32) (x := bodyOf Tryz.f199) (Γ := Γ199) (H := H199) (WW := W199) (rs := [.tmp 4]) (shs := [.x]) (cons := []) mixed Tryz.func199 (by decide) (by kernel_rfl) Tryz.ntmps199 Tryz.results199 (GSound.nil) ?_ hA hN R hl
  rw [ht, e199 p1 p2 p3 p4 p5 p6 p7 K]
  exact h
/-! spec.l6Mark -/
def G171 : Con := fun args tm K => cA args fun l2_ r1_ => cP .int l2_ fun p1 r3_ => cP .int r3_ fun p2 r4_ => cP .int r4_ fun p3 r5_ => cP .int r5_ fun p4 r6_ => dNil r6_ <| cA r1_ fun l8_ r7_ => cI .i64 l8_ fun p5 r9_ => cL 0 r9_ fun r10_ => cI .i64 r10_ fun p6 r11_ => dNil r11_ <| dNil r7_ <| bL true .int tm fun p7 m12_ => dEnd m12_ <| Ms_l6Mark p1 p2 p3 p4 p5 p6 p7 (fun r1 r2 => K (.agg [.int .i64 r1, .sl 0, .int .i64 p6]) [⟨true, .list .int r2⟩])
def H171 : List (Nat × LH) := []
def W171 : List (Nat × List (Nat × List Nat)) := []
def Γ171 : List (Nat × Con) := [(197, useC [.ag [.pure .int, .pure .int, .pure .int, .pure .int], .x] G197), (198, useC [.ag [.pure .int, .pure .int, .pure .int, .own .int], .x] G198), (199, useC [.ag [.pure .int, .pure .int, .pure .int, .pure .int], .ag [.x, .pure .int, .x]] G199), (167, useC [.own .int, .x] G167)]
theorem e171 (p1 : List Int) (p2 : List Int) (p3 : List Int) (p4 : List Int) (p5 : Int) (p6 : Int) (p7 : List Int) (K : TV → TMem → Prop) : TW PP 41 Γ171 H171 W171 (List.length ([⟨true, .list .int p7⟩] : TMem)) (bodyOf Tryz.f171) (endT PP 41 [.cell 4 29] [.ag [.x, .own .int, .x]] [] (List.length ([⟨true, .list .int p7⟩] : TMem)) K) (argsF [.agg [.pl .int p1, .pl .int p2, .pl .int p3, .pl .int p4], .agg [.int .i64 p5, .sl 0, .int .i64 p6]]) [⟨true, .list .int p7⟩] =
    Ms_l6Mark p1 p2 p3 p4 p5 p6 p7 (fun r1 r2 => K (.agg [.int .i64 r1, .sl 0, .int .i64 p6]) [⟨true, .list .int r2⟩]) := by kernel_rfl
theorem s171 : CSound PP 171 G171 := by
  intro args K c h fl A aargs hA hN R hl
  unfold G171 at h
  generalize ht : c.tm = tm at h
  revert h
  refine cA_in ?_; rintro l2_ r1_ rfl
  refine cP_in ?_; rintro p1 r3_ rfl
  refine cP_in ?_; rintro p2 r4_ rfl
  refine cP_in ?_; rintro p3 r5_ rfl
  refine cP_in ?_; rintro p4 r6_ rfl
  refine dN_in ?_; rintro rfl
  refine cA_in ?_; rintro l8_ r7_ rfl
  refine cI_in ?_; rintro p5 r9_ rfl
  refine cL_in ?_; rintro r10_ rfl
  refine cI_in ?_; rintro p6 r11_ rfl
  refine dN_in ?_; rintro rfl
  refine dN_in ?_; rintro rfl
  refine bL_in ?_; rintro p7 m12_ rfl
  refine dE_in ?_; rintro rfl
  intro h
  refine fun_ok (nt := 41) (x := bodyOf Tryz.f171) (Γ := Γ171) (H := H171) (WW := W171) (rs := [.cell 4 29]) (shs := [.ag [.x, .own .int, .x]]) (cons := []) mixed Tryz.func171 (by decide) (by kernel_rfl) Tryz.ntmps171 Tryz.results171 (.cons (useC_ok s197) (.cons (useC_ok s198) (.cons (useC_ok s199) (.cons (useC_ok s167) (GSound.nil))))) ?_ hA hN R hl
  rw [ht, e171 p1 p2 p3 p4 p5 p6 p7 K]
  exact h
/-! spec.l4Clear -/
def G172 : Con := fun args tm K => cA args fun l2_ r1_ => cP .int l2_ fun p1 r3_ => cP .int r3_ fun p2 r4_ => cP .int r4_ fun p3 r5_ => cP .int r5_ fun p4 r6_ => dNil r6_ <| cP .int r1_ fun p5 r7_ => dNil r7_ <| dEnd tm <| Ms_l4Clear p1 p2 p3 p4 p5 (fun r1 r2 r3 r4 => K (.agg [.sl 0, .sl 1, .sl 2, .sl 3]) [⟨true, .list .int r1⟩, ⟨true, .list .int r2⟩, ⟨true, .list .int r3⟩, ⟨true, .list .int r4⟩])
def H172_0 : LH where
  keep := [(1, .pure .int), (4, .pc [.own .int, .own .int, .own .int, .own .int]), (5, .pc [.own .int, .own .int, .own .int, .own .int]), (6, .x)]
  S := List Int × Int × List Int × List Int × List Int × List Int × List Int × List Int × List Int × List Int
  enc := fun s => ([.pl .int s.1, .ptr 0 0, .ptr 1 0, .int .i64 s.2.1], [⟨true, .cells [.sl 2, .sl 3, .sl 4, .sl 5]⟩, ⟨true, .cells [.sl 6, .sl 7, .sl 8, .sl 9]⟩, ⟨true, .list .int s.2.2.1⟩, ⟨true, .list .int s.2.2.2.1⟩, ⟨true, .list .int s.2.2.2.2.1⟩, ⟨true, .list .int s.2.2.2.2.2.1⟩, ⟨true, .list .int s.2.2.2.2.2.2.1⟩, ⟨true, .list .int s.2.2.2.2.2.2.2.1⟩, ⟨true, .list .int s.2.2.2.2.2.2.2.2.1⟩, ⟨true, .list .int s.2.2.2.2.2.2.2.2.2⟩])
  dec := fun vs tm K => cP .int vs fun q0 r1_ => cQ 0 r1_ fun r2_ => cQ 1 r2_ fun r3_ => cI .i64 r3_ fun q1 r4_ => dNil r4_ <| bC true tm fun c6_ m5_ => cL 2 c6_ fun r7_ => cL 3 r7_ fun r8_ => cL 4 r8_ fun r9_ => cL 5 r9_ fun r10_ => dNil r10_ <| bC true m5_ fun c12_ m11_ => cL 6 c12_ fun r13_ => cL 7 r13_ fun r14_ => cL 8 r14_ fun r15_ => cL 9 r15_ fun r16_ => dNil r16_ <| bL true .int m11_ fun q2 m17_ => bL true .int m17_ fun q3 m18_ => bL true .int m18_ fun q4 m19_ => bL true .int m19_ fun q5 m20_ => bL true .int m20_ fun q6 m21_ => bL true .int m21_ fun q7 m22_ => bL true .int m22_ fun q8 m23_ => bL true .int m23_ fun q9 m24_ => dEnd m24_ <| K (q0, q1, q2, q3, q4, q5, q6, q7, q8, q9)
  law := by
    intro vs tm K
    refine cP_in ?_; rintro q0 r1_ rfl
    refine cQ_in ?_; rintro r2_ rfl
    refine cQ_in ?_; rintro r3_ rfl
    refine cI_in ?_; rintro q1 r4_ rfl
    refine dN_in ?_; rintro rfl
    refine bC_in ?_; rintro c6_ m5_ rfl
    refine cL_in ?_; rintro r7_ rfl
    refine cL_in ?_; rintro r8_ rfl
    refine cL_in ?_; rintro r9_ rfl
    refine cL_in ?_; rintro r10_ rfl
    refine dN_in ?_; rintro rfl
    refine bC_in ?_; rintro c12_ m11_ rfl
    refine cL_in ?_; rintro r13_ rfl
    refine cL_in ?_; rintro r14_ rfl
    refine cL_in ?_; rintro r15_ rfl
    refine cL_in ?_; rintro r16_ rfl
    refine dN_in ?_; rintro rfl
    refine bL_in ?_; rintro q2 m17_ rfl
    refine bL_in ?_; rintro q3 m18_ rfl
    refine bL_in ?_; rintro q4 m19_ rfl
    refine bL_in ?_; rintro q5 m20_ rfl
    refine bL_in ?_; rintro q6 m21_ rfl
    refine bL_in ?_; rintro q7 m22_ rfl
    refine bL_in ?_; rintro q8 m23_ rfl
    refine bL_in ?_; rintro q9 m24_ rfl
    refine dE_in ?_; rintro rfl
    exact fun h => ⟨(q0, q1, q2, q3, q4, q5, q6, q7, q8, q9), rfl, h⟩
def H172 : List (Nat × LH) := [(0, H172_0)]
def W172 : List (Nat × List (Nat × List Nat)) := []
def Γ172 : List (Nat × Con) := [(99, useC [.ag [.pure .int, .pure .int, .pure .int, .pure .int]] G99), (169, useC [.pure .int, .x] G169)]
theorem e172 (p1 : List Int) (p2 : List Int) (p3 : List Int) (p4 : List Int) (p5 : List Int) (K : TV → TMem → Prop) : TW PP 63 Γ172 H172 W172 (List.length ([] : TMem)) (bodyOf Tryz.f172) (endT PP 63 [.cell 4 27] [.ag [.own .int, .own .int, .own .int, .own .int]] [] (List.length ([] : TMem)) K) (argsF [.agg [.pl .int p1, .pl .int p2, .pl .int p3, .pl .int p4], .pl .int p5]) [] =
    Ms_l4Clear p1 p2 p3 p4 p5 (fun r1 r2 r3 r4 => K (.agg [.sl 0, .sl 1, .sl 2, .sl 3]) [⟨true, .list .int r1⟩, ⟨true, .list .int r2⟩, ⟨true, .list .int r3⟩, ⟨true, .list .int r4⟩]) := by kernel_rfl
theorem s172 : CSound PP 172 G172 := by
  intro args K c h fl A aargs hA hN R hl
  unfold G172 at h
  generalize ht : c.tm = tm at h
  revert h
  refine cA_in ?_; rintro l2_ r1_ rfl
  refine cP_in ?_; rintro p1 r3_ rfl
  refine cP_in ?_; rintro p2 r4_ rfl
  refine cP_in ?_; rintro p3 r5_ rfl
  refine cP_in ?_; rintro p4 r6_ rfl
  refine dN_in ?_; rintro rfl
  refine cP_in ?_; rintro p5 r7_ rfl
  refine dN_in ?_; rintro rfl
  refine dE_in ?_; rintro rfl
  intro h
  refine fun_ok (nt := 63) (x := bodyOf Tryz.f172) (Γ := Γ172) (H := H172) (WW := W172) (rs := [.cell 4 27]) (shs := [.ag [.own .int, .own .int, .own .int, .own .int]]) (cons := []) mixed Tryz.func172 (by decide) (by kernel_rfl) Tryz.ntmps172 Tryz.results172 (.cons (useC_ok s99) (.cons (useC_ok s169) (GSound.nil))) ?_ hA hN R hl
  rw [ht, e172 p1 p2 p3 p4 p5 K]
  exact h
/-! spec.l6Step -/
def G107 : Con := fun args tm K => cA args fun l2_ r1_ => cP .int l2_ fun p1 r3_ => cP .int r3_ fun p2 r4_ => cP .int r4_ fun p3 r5_ => cP .int r5_ fun p4 r6_ => dNil r6_ <| cA r1_ fun l8_ r7_ => cI .i64 l8_ fun p5 r9_ => cP .int r9_ fun p6 r10_ => cI .i64 r10_ fun p7 r11_ => dNil r11_ <| dNil r7_ <| dEnd tm <| Ms_l6Step p1 p2 p3 p4 p5 p6 p7 (fun r1 r2 r3 r4 r5 r6 r7 => K (.tup [.agg [.sl 0, .sl 1, .sl 2, .sl 3], .agg [.int .i64 r1, .sl 4, .int .i64 r2]]) [⟨true, .list .int r3⟩, ⟨true, .list .int r4⟩, ⟨true, .list .int r5⟩, ⟨true, .list .int r6⟩, ⟨true, .list .int r7⟩])
def H107 : List (Nat × LH) := []
def W107 : List (Nat × List (Nat × List Nat)) := [(4, [(2, [7])])]
def Γ107 : List (Nat × Con) := [(100, useC [.ag [.x, .pure .int, .x]] G100), (99, useC [.ag [.pure .int, .pure .int, .pure .int, .pure .int]] G99), (167, useC [.own .int, .x] G167), (170, useC [.ag [.x, .own .int, .x], .x, .x] (onlyC [] G170)), (171, useC [.ag [.pure .int, .pure .int, .pure .int, .pure .int], .ag [.x, .own .int, .x]] G171), (106, useC [.ag [.pure .int, .pure .int, .pure .int, .pure .int], .ag [.x, .pure .int, .x]] G106), (172, useC [.ag [.pure .int, .pure .int, .pure .int, .pure .int], .pure .int] G172)]
theorem e107 (p1 : List Int) (p2 : List Int) (p3 : List Int) (p4 : List Int) (p5 : Int) (p6 : List Int) (p7 : Int) (K : TV → TMem → Prop) : TW PP 72 Γ107 H107 W107 (List.length ([] : TMem)) (bodyOf Tryz.f107) (endT PP 72 [.cell 4 27, .cell 5 29] [.ag [.own .int, .own .int, .own .int, .own .int], .ag [.x, .own .int, .x]] [] (List.length ([] : TMem)) K) (argsF [.agg [.pl .int p1, .pl .int p2, .pl .int p3, .pl .int p4], .agg [.int .i64 p5, .pl .int p6, .int .i64 p7]]) [] =
    Ms_l6Step p1 p2 p3 p4 p5 p6 p7 (fun r1 r2 r3 r4 r5 r6 r7 => K (.tup [.agg [.sl 0, .sl 1, .sl 2, .sl 3], .agg [.int .i64 r1, .sl 4, .int .i64 r2]]) [⟨true, .list .int r3⟩, ⟨true, .list .int r4⟩, ⟨true, .list .int r5⟩, ⟨true, .list .int r6⟩, ⟨true, .list .int r7⟩]) := by kernel_rfl
theorem s107 : CSound PP 107 G107 := by
  intro args K c h fl A aargs hA hN R hl
  unfold G107 at h
  generalize ht : c.tm = tm at h
  revert h
  refine cA_in ?_; rintro l2_ r1_ rfl
  refine cP_in ?_; rintro p1 r3_ rfl
  refine cP_in ?_; rintro p2 r4_ rfl
  refine cP_in ?_; rintro p3 r5_ rfl
  refine cP_in ?_; rintro p4 r6_ rfl
  refine dN_in ?_; rintro rfl
  refine cA_in ?_; rintro l8_ r7_ rfl
  refine cI_in ?_; rintro p5 r9_ rfl
  refine cP_in ?_; rintro p6 r10_ rfl
  refine cI_in ?_; rintro p7 r11_ rfl
  refine dN_in ?_; rintro rfl
  refine dN_in ?_; rintro rfl
  refine dE_in ?_; rintro rfl
  intro h
  refine fun_ok (nt := 72) (x := bodyOf Tryz.f107) (Γ := Γ107) (H := H107) (WW := W107) (rs := [.cell 4 27, .cell 5 29]) (shs := [.ag [.own .int, .own .int, .own .int, .own .int], .ag [.x, .own .int, .x]]) (cons := []) mixed Tryz.func107 (by decide) (by kernel_rfl) Tryz.ntmps107 Tryz.results107 (.cons (useC_ok s100) (.cons (useC_ok s99) (.cons (useC_ok s167) (.cons (useC_ok (onlyC_ok s170)) (.cons (useC_ok s171) (.cons (useC_ok s106) (.cons (useC_ok s172) (GSound.nil)))))))) ?_ hA hN R hl
  rw [ht, e107 p1 p2 p3 p4 p5 p6 p7 K]
  exact h
/-! spec.l7Gc -/
def G41 : Con := fun args tm K => cA args fun l2_ r1_ => cP .int l2_ fun p1 r3_ => cP .int r3_ fun p2 r4_ => cP .int r4_ fun p3 r5_ => cP .int r5_ fun p4 r6_ => cI .i64 r6_ fun p5 r7_ => cP .int r7_ fun p6 r8_ => cI .i64 r8_ fun p7 r9_ => cP .op r9_ fun p8 r10_ => cI .i64 r10_ fun p9 r11_ => cB r11_ fun p10 r12_ => dNil r12_ <| dNil r1_ <| dEnd tm <| Ms_l7Gc p1 p2 p3 p4 p5 p6 p7 p8 p9 p10 (fun r1 r2 r3 r4 r5 r6 r7 r8 => K (.agg [.sl 0, .sl 1, .sl 2, .sl 3, .int .i64 r1, .sl 4, .int .i64 r2, .sl 5, .int .i64 p9, .bool r3]) [⟨true, .list .int r4⟩, ⟨true, .list .int r5⟩, ⟨true, .list .int r6⟩, ⟨true, .list .int r7⟩, ⟨true, .list .int r8⟩, ⟨true, .list .op p8⟩])
def H41 : List (Nat × LH) := []
def W41 : List (Nat × List (Nat × List Nat)) := []
def Γ41 : List (Nat × Con) := [(39, useC [.ag [.pure .int, .pure .int, .pure .int, .pure .int, .x, .pure .int, .x, .pure .op, .x, .bl]] G39), (106, useC [.ag [.pure .int, .pure .int, .pure .int, .pure .int], .ag [.x, .pure .int, .x]] G106), (105, useC [.ag [.pure .int, .pure .int, .pure .int, .pure .int], .x] G105), (107, useC [.ag [.pure .int, .pure .int, .pure .int, .pure .int], .ag [.x, .pure .int, .x]] G107)]
theorem e41 (p1 : List Int) (p2 : List Int) (p3 : List Int) (p4 : List Int) (p5 : Int) (p6 : List Int) (p7 : Int) (p8 : List OpV) (p9 : Int) (p10 : Bool) (K : TV → TMem → Prop) : TW PP 31 Γ41 H41 W41 (List.length ([] : TMem)) (bodyOf Tryz.f41) (endT PP 31 [.cell 2 32] [.ag [.own .int, .own .int, .own .int, .own .int, .x, .own .int, .x, .own .op, .x, .bl]] [] (List.length ([] : TMem)) K) (argsF [.agg [.pl .int p1, .pl .int p2, .pl .int p3, .pl .int p4, .int .i64 p5, .pl .int p6, .int .i64 p7, .pl .op p8, .int .i64 p9, .bool p10]]) [] =
    Ms_l7Gc p1 p2 p3 p4 p5 p6 p7 p8 p9 p10 (fun r1 r2 r3 r4 r5 r6 r7 r8 => K (.agg [.sl 0, .sl 1, .sl 2, .sl 3, .int .i64 r1, .sl 4, .int .i64 r2, .sl 5, .int .i64 p9, .bool r3]) [⟨true, .list .int r4⟩, ⟨true, .list .int r5⟩, ⟨true, .list .int r6⟩, ⟨true, .list .int r7⟩, ⟨true, .list .int r8⟩, ⟨true, .list .op p8⟩]) := by kernel_rfl
theorem s41 : CSound PP 41 G41 := by
  intro args K c h fl A aargs hA hN R hl
  unfold G41 at h
  generalize ht : c.tm = tm at h
  revert h
  refine cA_in ?_; rintro l2_ r1_ rfl
  refine cP_in ?_; rintro p1 r3_ rfl
  refine cP_in ?_; rintro p2 r4_ rfl
  refine cP_in ?_; rintro p3 r5_ rfl
  refine cP_in ?_; rintro p4 r6_ rfl
  refine cI_in ?_; rintro p5 r7_ rfl
  refine cP_in ?_; rintro p6 r8_ rfl
  refine cI_in ?_; rintro p7 r9_ rfl
  refine cP_in ?_; rintro p8 r10_ rfl
  refine cI_in ?_; rintro p9 r11_ rfl
  refine cB_in ?_; rintro p10 r12_ rfl
  refine dN_in ?_; rintro rfl
  refine dN_in ?_; rintro rfl
  refine dE_in ?_; rintro rfl
  intro h
  refine fun_ok (nt := 31) (x := bodyOf Tryz.f41) (Γ := Γ41) (H := H41) (WW := W41) (rs := [.cell 2 32]) (shs := [.ag [.own .int, .own .int, .own .int, .own .int, .x, .own .int, .x, .own .op, .x, .bl]]) (cons := []) mixed Tryz.func41 (by decide) (by kernel_rfl) Tryz.ntmps41 Tryz.results41 (.cons (useC_ok s39) (.cons (useC_ok s106) (.cons (useC_ok s105) (.cons (useC_ok s107) (GSound.nil))))) ?_ hA hN R hl
  rw [ht, e41 p1 p2 p3 p4 p5 p6 p7 p8 p9 p10 K]
  exact h
/-! spec.TargetOf -/
def G101 : Con := fun args tm K => cA args fun l2_ r1_ => cP .int l2_ fun p1 r3_ => cP .int r3_ fun p2 r4_ => cP .int r4_ fun p3 r5_ => cP .int r5_ fun p4 r6_ => dNil r6_ <| cA r1_ fun l8_ r7_ => cI .i64 l8_ fun p5 r9_ => cI .i64 r9_ fun p6 r10_ => cI .i64 r10_ fun p7 r11_ => dNil r11_ <| dNil r7_ <| dEnd tm <| Ms_TargetOf p1 p2 p3 p4 p5 p6 p7 (fun r1 => K (.int .i64 r1) [])
def H101 : List (Nat × LH) := []
def W101 : List (Nat × List (Nat × List Nat)) := []
def Γ101 : List (Nat × Con) := [(160, useC [.ag [.pure .int, .pure .int, .pure .int, .pure .int]] G160), (162, useC [.ag [.x, .x, .x], .x] G162)]
theorem e101 (p1 : List Int) (p2 : List Int) (p3 : List Int) (p4 : List Int) (p5 : Int) (p6 : Int) (p7 : Int) (K : TV → TMem → Prop) : TW PP 44 Γ101 H101 W101 (List.length ([] : TMem)) (bodyOf Tryz.f101) (endT PP 44 [.tmp 4] [.x] [] (List.length ([] : TMem)) K) (argsF [.agg [.pl .int p1, .pl .int p2, .pl .int p3, .pl .int p4], .agg [.int .i64 p5, .int .i64 p6, .int .i64 p7]]) [] =
    Ms_TargetOf p1 p2 p3 p4 p5 p6 p7 (fun r1 => K (.int .i64 r1) []) := by kernel_rfl
theorem s101 : CSound PP 101 G101 := by
  intro args K c h fl A aargs hA hN R hl
  unfold G101 at h
  generalize ht : c.tm = tm at h
  revert h
  refine cA_in ?_; rintro l2_ r1_ rfl
  refine cP_in ?_; rintro p1 r3_ rfl
  refine cP_in ?_; rintro p2 r4_ rfl
  refine cP_in ?_; rintro p3 r5_ rfl
  refine cP_in ?_; rintro p4 r6_ rfl
  refine dN_in ?_; rintro rfl
  refine cA_in ?_; rintro l8_ r7_ rfl
  refine cI_in ?_; rintro p5 r9_ rfl
  refine cI_in ?_; rintro p6 r10_ rfl
  refine cI_in ?_; rintro p7 r11_ rfl
  refine dN_in ?_; rintro rfl
  refine dN_in ?_; rintro rfl
  refine dE_in ?_; rintro rfl
  intro h
  refine fun_ok (nt := 44) (x := bodyOf Tryz.f101) (Γ := Γ101) (H := H101) (WW := W101) (rs := [.tmp 4]) (shs := [.x]) (cons := []) mixed Tryz.func101 (by decide) (by kernel_rfl) Tryz.ntmps101 Tryz.results101 (.cons (useC_ok s160) (.cons (useC_ok s162) (GSound.nil))) ?_ hA hN R hl
  rw [ht, e101 p1 p2 p3 p4 p5 p6 p7 K]
  exact h
/-! spec.l1Cell -/
def G166 : Con := fun args tm K => cA args fun l2_ r1_ => cP .int l2_ fun p1 r3_ => cP .int r3_ fun p2 r4_ => cP .int r4_ fun p3 r5_ => dNil r5_ <| cI .i64 r1_ fun p4 r6_ => dNil r6_ <| dEnd tm <| Ms_l1Cell p1 p2 p3 p4 (fun r1 => K (.bool r1) [])
def H166 : List (Nat × LH) := []
def W166 : List (Nat × List (Nat × List Nat)) := []
def Γ166 : List (Nat × Con) := [(78, useC [.ag [.pure .int, .pure .int, .pure .int]] G78)]
theorem e166 (p1 : List Int) (p2 : List Int) (p3 : List Int) (p4 : Int) (K : TV → TMem → Prop) : TW PP 18 Γ166 H166 W166 (List.length ([] : TMem)) (bodyOf Tryz.f166) (endT PP 18 [.tmp 4] [.bl] [] (List.length ([] : TMem)) K) (argsF [.agg [.pl .int p1, .pl .int p2, .pl .int p3], .int .i64 p4]) [] =
    Ms_l1Cell p1 p2 p3 p4 (fun r1 => K (.bool r1) []) := by kernel_rfl
theorem s166 : CSound PP 166 G166 := by
  intro args K c h fl A aargs hA hN R hl
  unfold G166 at h
  generalize ht : c.tm = tm at h
  revert h
  refine cA_in ?_; rintro l2_ r1_ rfl
  refine cP_in ?_; rintro p1 r3_ rfl
  refine cP_in ?_; rintro p2 r4_ rfl
  refine cP_in ?_; rintro p3 r5_ rfl
  refine dN_in ?_; rintro rfl
  refine cI_in ?_; rintro p4 r6_ rfl
  refine dN_in ?_; rintro rfl
  refine dE_in ?_; rintro rfl
  intro h
  refine fun_ok (nt := 18) (x := bodyOf Tryz.f166) (Γ := Γ166) (H := H166) (WW := W166) (rs := [.tmp 4]) (shs := [.bl]) (cons := []) mixed Tryz.func166 (by decide) (by kernel_rfl) Tryz.ntmps166 Tryz.results166 (.cons (useC_ok s78) (GSound.nil)) ?_ hA hN R hl
  rw [ht, e166 p1 p2 p3 p4 K]
  exact h
/-! spec.ColorNew -/
def G103 : Con := fun args tm K => cA args fun l2_ r1_ => cP .int l2_ fun p1 r3_ => cP .int r3_ fun p2 r4_ => cP .int r4_ fun p3 r5_ => cP .int r5_ fun p4 r6_ => dNil r6_ <| cA r1_ fun l8_ r7_ => cI .i64 l8_ fun p5 r9_ => cP .int r9_ fun p6 r10_ => cI .i64 r10_ fun p7 r11_ => dNil r11_ <| cI .i64 r7_ fun p8 r12_ => dNil r12_ <| dEnd tm <| Ms_ColorNew p1 p2 p3 p4 p5 p6 p7 p8 (fun r1 r2 r3 r4 => K (.tup [.agg [.int .i64 r1, .sl 0, .int .i64 r2], .bool r3]) [⟨true, .list .int r4⟩])
def H103 : List (Nat × LH) := []
def W103 : List (Nat × List (Nat × List Nat)) := []
def Γ103 : List (Nat × Con) := [(97, useC [.ag [.pure .int, .pure .int, .pure .int, .pure .int], .ag [.x, .pure .int, .x]] G97), (166, useC [.ag [.pure .int, .pure .int, .pure .int], .x] G166), (100, useC [.ag [.x, .pure .int, .x]] G100)]
theorem e103 (p1 : List Int) (p2 : List Int) (p3 : List Int) (p4 : List Int) (p5 : Int) (p6 : List Int) (p7 : Int) (p8 : Int) (K : TV → TMem → Prop) : TW PP 51 Γ103 H103 W103 (List.length ([] : TMem)) (bodyOf Tryz.f103) (endT PP 51 [.cell 6 29, .tmp 7] [.ag [.x, .own .int, .x], .bl] [] (List.length ([] : TMem)) K) (argsF [.agg [.pl .int p1, .pl .int p2, .pl .int p3, .pl .int p4], .agg [.int .i64 p5, .pl .int p6, .int .i64 p7], .int .i64 p8]) [] =
    Ms_ColorNew p1 p2 p3 p4 p5 p6 p7 p8 (fun r1 r2 r3 r4 => K (.tup [.agg [.int .i64 r1, .sl 0, .int .i64 r2], .bool r3]) [⟨true, .list .int r4⟩]) := by kernel_rfl
theorem s103 : CSound PP 103 G103 := by
  intro args K c h fl A aargs hA hN R hl
  unfold G103 at h
  generalize ht : c.tm = tm at h
  revert h
  refine cA_in ?_; rintro l2_ r1_ rfl
  refine cP_in ?_; rintro p1 r3_ rfl
  refine cP_in ?_; rintro p2 r4_ rfl
  refine cP_in ?_; rintro p3 r5_ rfl
  refine cP_in ?_; rintro p4 r6_ rfl
  refine dN_in ?_; rintro rfl
  refine cA_in ?_; rintro l8_ r7_ rfl
  refine cI_in ?_; rintro p5 r9_ rfl
  refine cP_in ?_; rintro p6 r10_ rfl
  refine cI_in ?_; rintro p7 r11_ rfl
  refine dN_in ?_; rintro rfl
  refine cI_in ?_; rintro p8 r12_ rfl
  refine dN_in ?_; rintro rfl
  refine dE_in ?_; rintro rfl
  intro h
  refine fun_ok (nt := 51) (x := bodyOf Tryz.f103) (Γ := Γ103) (H := H103) (WW := W103) (rs := [.cell 6 29, .tmp 7]) (shs := [.ag [.x, .own .int, .x], .bl]) (cons := []) mixed Tryz.func103 (by decide) (by kernel_rfl) Tryz.ntmps103 Tryz.results103 (.cons (useC_ok s97) (.cons (useC_ok s166) (.cons (useC_ok s100) (GSound.nil)))) ?_ hA hN R hl
  rw [ht, e103 p1 p2 p3 p4 p5 p6 p7 p8 K]
  exact h
/-! spec.ShadeGc -/
def G104 : Con := fun args tm K => cA args fun l2_ r1_ => cP .int l2_ fun p1 r3_ => cP .int r3_ fun p2 r4_ => cP .int r4_ fun p3 r5_ => cP .int r5_ fun p4 r6_ => dNil r6_ <| cA r1_ fun l8_ r7_ => cI .i64 l8_ fun p5 r9_ => cP .int r9_ fun p6 r10_ => cI .i64 r10_ fun p7 r11_ => dNil r11_ <| cI .i64 r7_ fun p8 r12_ => dNil r12_ <| dEnd tm <| Ms_ShadeGc p1 p2 p3 p4 p5 p6 p7 p8 (fun r1 r2 r3 r4 => K (.tup [.agg [.int .i64 r1, .sl 0, .int .i64 r2], .bool r3]) [⟨true, .list .int r4⟩])
def H104 : List (Nat × LH) := []
def W104 : List (Nat × List (Nat × List Nat)) := []
def Γ104 : List (Nat × Con) := [(97, useC [.ag [.pure .int, .pure .int, .pure .int, .pure .int], .ag [.x, .pure .int, .x]] G97), (166, useC [.ag [.pure .int, .pure .int, .pure .int], .x] G166), (100, useC [.ag [.x, .pure .int, .x]] G100), (167, useC [.own .int, .x] G167)]
theorem e104 (p1 : List Int) (p2 : List Int) (p3 : List Int) (p4 : List Int) (p5 : Int) (p6 : List Int) (p7 : Int) (p8 : Int) (K : TV → TMem → Prop) : TW PP 37 Γ104 H104 W104 (List.length ([] : TMem)) (bodyOf Tryz.f104) (endT PP 37 [.cell 6 29, .tmp 7] [.ag [.x, .own .int, .x], .bl] [] (List.length ([] : TMem)) K) (argsF [.agg [.pl .int p1, .pl .int p2, .pl .int p3, .pl .int p4], .agg [.int .i64 p5, .pl .int p6, .int .i64 p7], .int .i64 p8]) [] =
    Ms_ShadeGc p1 p2 p3 p4 p5 p6 p7 p8 (fun r1 r2 r3 r4 => K (.tup [.agg [.int .i64 r1, .sl 0, .int .i64 r2], .bool r3]) [⟨true, .list .int r4⟩]) := by kernel_rfl
theorem s104 : CSound PP 104 G104 := by
  intro args K c h fl A aargs hA hN R hl
  unfold G104 at h
  generalize ht : c.tm = tm at h
  revert h
  refine cA_in ?_; rintro l2_ r1_ rfl
  refine cP_in ?_; rintro p1 r3_ rfl
  refine cP_in ?_; rintro p2 r4_ rfl
  refine cP_in ?_; rintro p3 r5_ rfl
  refine cP_in ?_; rintro p4 r6_ rfl
  refine dN_in ?_; rintro rfl
  refine cA_in ?_; rintro l8_ r7_ rfl
  refine cI_in ?_; rintro p5 r9_ rfl
  refine cP_in ?_; rintro p6 r10_ rfl
  refine cI_in ?_; rintro p7 r11_ rfl
  refine dN_in ?_; rintro rfl
  refine cI_in ?_; rintro p8 r12_ rfl
  refine dN_in ?_; rintro rfl
  refine dE_in ?_; rintro rfl
  intro h
  refine fun_ok (nt := 37) (x := bodyOf Tryz.f104) (Γ := Γ104) (H := H104) (WW := W104) (rs := [.cell 6 29, .tmp 7]) (shs := [.ag [.x, .own .int, .x], .bl]) (cons := []) mixed Tryz.func104 (by decide) (by kernel_rfl) Tryz.ntmps104 Tryz.results104 (.cons (useC_ok s97) (.cons (useC_ok s166) (.cons (useC_ok s100) (.cons (useC_ok s167) (GSound.nil))))) ?_ hA hN R hl
  rw [ht, e104 p1 p2 p3 p4 p5 p6 p7 p8 K]
  exact h
/-! spec.l7Op -/
def G40 : Con := fun args tm K => cA args fun l2_ r1_ => cP .int l2_ fun p1 r3_ => cP .int r3_ fun p2 r4_ => cP .int r4_ fun p3 r5_ => cP .int r5_ fun p4 r6_ => cI .i64 r6_ fun p5 r7_ => cP .int r7_ fun p6 r8_ => cI .i64 r8_ fun p7 r9_ => cP .op r9_ fun p8 r10_ => cI .i64 r10_ fun p9 r11_ => cB r11_ fun p10 r12_ => dNil r12_ <| cB r1_ fun p11 r13_ => dNil r13_ <| dEnd tm <| Ms_l7Op p1 p2 p3 p4 p5 p6 p7 p8 p9 p10 p11 (fun r1 r2 r3 r4 r5 r6 r7 r8 => K (.agg [.sl 0, .sl 1, .sl 2, .sl 3, .int .i64 r1, .sl 4, .int .i64 r2, .sl 5, .int .i64 r3, .bool p10]) [⟨true, .list .int r4⟩, ⟨true, .list .int r5⟩, ⟨true, .list .int r6⟩, ⟨true, .list .int r7⟩, ⟨true, .list .int r8⟩, ⟨true, .list .op p8⟩])
def H40 : List (Nat × LH) := []
def W40 : List (Nat × List (Nat × List Nat)) := []
def Γ40 : List (Nat × Con) := [(39, useC [.ag [.pure .int, .pure .int, .pure .int, .pure .int, .x, .pure .int, .x, .pure .op, .x, .bl]] G39), (101, useC [.ag [.pure .int, .pure .int, .pure .int, .pure .int], .ag [.x, .x, .x]] G101), (102, useC [.ag [.pure .int, .pure .int, .pure .int, .pure .int], .ag [.x, .x, .x]] G102), (103, useC [.ag [.pure .int, .pure .int, .pure .int, .pure .int], .ag [.x, .pure .int, .x], .x] G103), (104, useC [.ag [.pure .int, .pure .int, .pure .int, .pure .int], .ag [.x, .pure .int, .x], .x] G104)]
theorem e40 (p1 : List Int) (p2 : List Int) (p3 : List Int) (p4 : List Int) (p5 : Int) (p6 : List Int) (p7 : Int) (p8 : List OpV) (p9 : Int) (p10 : Bool) (p11 : Bool) (K : TV → TMem → Prop) : TW PP 79 Γ40 H40 W40 (List.length ([] : TMem)) (bodyOf Tryz.f40) (endT PP 79 [.cell 4 32] [.ag [.own .int, .own .int, .own .int, .own .int, .x, .own .int, .x, .own .op, .x, .bl]] [] (List.length ([] : TMem)) K) (argsF [.agg [.pl .int p1, .pl .int p2, .pl .int p3, .pl .int p4, .int .i64 p5, .pl .int p6, .int .i64 p7, .pl .op p8, .int .i64 p9, .bool p10], .bool p11]) [] =
    Ms_l7Op p1 p2 p3 p4 p5 p6 p7 p8 p9 p10 p11 (fun r1 r2 r3 r4 r5 r6 r7 r8 => K (.agg [.sl 0, .sl 1, .sl 2, .sl 3, .int .i64 r1, .sl 4, .int .i64 r2, .sl 5, .int .i64 r3, .bool p10]) [⟨true, .list .int r4⟩, ⟨true, .list .int r5⟩, ⟨true, .list .int r6⟩, ⟨true, .list .int r7⟩, ⟨true, .list .int r8⟩, ⟨true, .list .op p8⟩]) := by kernel_rfl
theorem s40 : CSound PP 40 G40 := by
  intro args K c h fl A aargs hA hN R hl
  unfold G40 at h
  generalize ht : c.tm = tm at h
  revert h
  refine cA_in ?_; rintro l2_ r1_ rfl
  refine cP_in ?_; rintro p1 r3_ rfl
  refine cP_in ?_; rintro p2 r4_ rfl
  refine cP_in ?_; rintro p3 r5_ rfl
  refine cP_in ?_; rintro p4 r6_ rfl
  refine cI_in ?_; rintro p5 r7_ rfl
  refine cP_in ?_; rintro p6 r8_ rfl
  refine cI_in ?_; rintro p7 r9_ rfl
  refine cP_in ?_; rintro p8 r10_ rfl
  refine cI_in ?_; rintro p9 r11_ rfl
  refine cB_in ?_; rintro p10 r12_ rfl
  refine dN_in ?_; rintro rfl
  refine cB_in ?_; rintro p11 r13_ rfl
  refine dN_in ?_; rintro rfl
  refine dE_in ?_; rintro rfl
  intro h
  refine fun_ok (nt := 79) (x := bodyOf Tryz.f40) (Γ := Γ40) (H := H40) (WW := W40) (rs := [.cell 4 32]) (shs := [.ag [.own .int, .own .int, .own .int, .own .int, .x, .own .int, .x, .own .op, .x, .bl]]) (cons := []) mixed Tryz.func40 (by decide) (by kernel_rfl) Tryz.ntmps40 Tryz.results40 (.cons (useC_ok s39) (.cons (useC_ok s101) (.cons (useC_ok s102) (.cons (useC_ok s103) (.cons (useC_ok s104) (GSound.nil)))))) ?_ hA hN R hl
  rw [ht, e40 p1 p2 p3 p4 p5 p6 p7 p8 p9 p10 p11 K]
  exact h
/-! spec.RunBoth -/
def G14 : Con := fun args tm K => cA args fun l2_ r1_ => cP .int l2_ fun p1 r3_ => cP .int r3_ fun p2 r4_ => cP .int r4_ fun p3 r5_ => cP .int r5_ fun p4 r6_ => cI .i64 r6_ fun p5 r7_ => cP .int r7_ fun p6 r8_ => cI .i64 r8_ fun p7 r9_ => cP .op r9_ fun p8 r10_ => cI .i64 r10_ fun p9 r11_ => cB r11_ fun p10 r12_ => dNil r12_ <| cS r1_ fun p11 r13_ => cB r13_ fun p12 r14_ => dNil r14_ <| dEnd tm <| Ms_RunBoth p1 p2 p3 p4 p5 p6 p7 p8 p9 p10 p11 p12 (fun r1 r2 r3 r4 r5 r6 r7 r8 r9 r10 r11 => K (.tup [.agg [.sl 0, .sl 1, .sl 2, .sl 3, .int .i64 r1, .sl 4, .int .i64 r2, .sl 5, .int .i64 r3, .bool r4], .bool r5]) [⟨true, .list .int r6⟩, ⟨true, .list .int r7⟩, ⟨true, .list .int r8⟩, ⟨true, .list .int r9⟩, ⟨true, .list .int r10⟩, ⟨true, .list .op r11⟩])
def H14_0 : LH where
  keep := [(1, .x), (2, .bl), (6, .pc [.own .int, .own .int, .own .int, .own .int, .x, .own .int, .x, .own .op, .x, .bl]), (8, .pc [.own .int, .own .int, .own .int, .own .int, .x, .own .int, .x, .own .op, .x, .bl]), (9, .x)]
  S := List UInt8 × Bool × Int × Int × Int × Int × Bool × Int × Int × Int × Bool × List Int × List Int × List Int × List Int × List Int × List OpV × List Int × List Int × List Int × List Int × List Int × List OpV
  enc := fun s => ([.str s.1, .bool s.2.1, .ptr 0 0, .ptr 1 0, .int .i64 s.2.2.1], [⟨true, .cells [.sl 2, .sl 3, .sl 4, .sl 5, .int .i64 s.2.2.2.1, .sl 6, .int .i64 s.2.2.2.2.1, .sl 7, .int .i64 s.2.2.2.2.2.1, .bool s.2.2.2.2.2.2.1]⟩, ⟨true, .cells [.sl 8, .sl 9, .sl 10, .sl 11, .int .i64 s.2.2.2.2.2.2.2.1, .sl 12, .int .i64 s.2.2.2.2.2.2.2.2.1, .sl 13, .int .i64 s.2.2.2.2.2.2.2.2.2.1, .bool s.2.2.2.2.2.2.2.2.2.2.1]⟩, ⟨true, .list .int s.2.2.2.2.2.2.2.2.2.2.2.1⟩, ⟨true, .list .int s.2.2.2.2.2.2.2.2.2.2.2.2.1⟩, ⟨true, .list .int s.2.2.2.2.2.2.2.2.2.2.2.2.2.1⟩, ⟨true, .list .int s.2.2.2.2.2.2.2.2.2.2.2.2.2.2.1⟩, ⟨true, .list .int s.2.2.2.2.2.2.2.2.2.2.2.2.2.2.2.1⟩, ⟨true, .list .op s.2.2.2.2.2.2.2.2.2.2.2.2.2.2.2.2.1⟩, ⟨true, .list .int s.2.2.2.2.2.2.2.2.2.2.2.2.2.2.2.2.2.1⟩, ⟨true, .list .int s.2.2.2.2.2.2.2.2.2.2.2.2.2.2.2.2.2.2.1⟩, ⟨true, .list .int s.2.2.2.2.2.2.2.2.2.2.2.2.2.2.2.2.2.2.2.1⟩, ⟨true, .list .int s.2.2.2.2.2.2.2.2.2.2.2.2.2.2.2.2.2.2.2.2.1⟩, ⟨true, .list .int s.2.2.2.2.2.2.2.2.2.2.2.2.2.2.2.2.2.2.2.2.2.1⟩, ⟨true, .list .op s.2.2.2.2.2.2.2.2.2.2.2.2.2.2.2.2.2.2.2.2.2.2⟩])
  dec := fun vs tm K => cS vs fun q0 r1_ => cB r1_ fun q1 r2_ => cQ 0 r2_ fun r3_ => cQ 1 r3_ fun r4_ => cI .i64 r4_ fun q2 r5_ => dNil r5_ <| bC true tm fun c7_ m6_ => cL 2 c7_ fun r8_ => cL 3 r8_ fun r9_ => cL 4 r9_ fun r10_ => cL 5 r10_ fun r11_ => cI .i64 r11_ fun q3 r12_ => cL 6 r12_ fun r13_ => cI .i64 r13_ fun q4 r14_ => cL 7 r14_ fun r15_ => cI .i64 r15_ fun q5 r16_ => cB r16_ fun q6 r17_ => dNil r17_ <| bC true m6_ fun c19_ m18_ => cL 8 c19_ fun r20_ => cL 9 r20_ fun r21_ => cL 10 r21_ fun r22_ => cL 11 r22_ fun r23_ => cI .i64 r23_ fun q7 r24_ => cL 12 r24_ fun r25_ => cI .i64 r25_ fun q8 r26_ => cL 13 r26_ fun r27_ => cI .i64 r27_ fun q9 r28_ => cB r28_ fun q10 r29_ => dNil r29_ <| bL true .int m18_ fun q11 m30_ => bL true .int m30_ fun q12 m31_ => bL true .int m31_ fun q13 m32_ => bL true .int m32_ fun q14 m33_ => bL true .int m33_ fun q15 m34_ => bL true .op m34_ fun q16 m35_ => bL true .int m35_ fun q17 m36_ => bL true .int m36_ fun q18 m37_ => bL true .int m37_ fun q19 m38_ => bL true .int m38_ fun q20 m39_ => bL true .int m39_ fun q21 m40_ => bL true .op m40_ fun q22 m41_ => dEnd m41_ <| K (q0, q1, q2, q3, q4, q5, q6, q7, q8, q9, q10, q11, q12, q13, q14, q15, q16, q17, q18, q19, q20, q21, q22)
  law := by
    intro vs tm K
    refine cS_in ?_; rintro q0 r1_ rfl
    refine cB_in ?_; rintro q1 r2_ rfl
    refine cQ_in ?_; rintro r3_ rfl
    refine cQ_in ?_; rintro r4_ rfl
    refine cI_in ?_; rintro q2 r5_ rfl
    refine dN_in ?_; rintro rfl
    refine bC_in ?_; rintro c7_ m6_ rfl
    refine cL_in ?_; rintro r8_ rfl
    refine cL_in ?_; rintro r9_ rfl
    refine cL_in ?_; rintro r10_ rfl
    refine cL_in ?_; rintro r11_ rfl
    refine cI_in ?_; rintro q3 r12_ rfl
    refine cL_in ?_; rintro r13_ rfl
    refine cI_in ?_; rintro q4 r14_ rfl
    refine cL_in ?_; rintro r15_ rfl
    refine cI_in ?_; rintro q5 r16_ rfl
    refine cB_in ?_; rintro q6 r17_ rfl
    refine dN_in ?_; rintro rfl
    refine bC_in ?_; rintro c19_ m18_ rfl
    refine cL_in ?_; rintro r20_ rfl
    refine cL_in ?_; rintro r21_ rfl
    refine cL_in ?_; rintro r22_ rfl
    refine cL_in ?_; rintro r23_ rfl
    refine cI_in ?_; rintro q7 r24_ rfl
    refine cL_in ?_; rintro r25_ rfl
    refine cI_in ?_; rintro q8 r26_ rfl
    refine cL_in ?_; rintro r27_ rfl
    refine cI_in ?_; rintro q9 r28_ rfl
    refine cB_in ?_; rintro q10 r29_ rfl
    refine dN_in ?_; rintro rfl
    refine bL_in ?_; rintro q11 m30_ rfl
    refine bL_in ?_; rintro q12 m31_ rfl
    refine bL_in ?_; rintro q13 m32_ rfl
    refine bL_in ?_; rintro q14 m33_ rfl
    refine bL_in ?_; rintro q15 m34_ rfl
    refine bL_in ?_; rintro q16 m35_ rfl
    refine bL_in ?_; rintro q17 m36_ rfl
    refine bL_in ?_; rintro q18 m37_ rfl
    refine bL_in ?_; rintro q19 m38_ rfl
    refine bL_in ?_; rintro q20 m39_ rfl
    refine bL_in ?_; rintro q21 m40_ rfl
    refine bL_in ?_; rintro q22 m41_ rfl
    refine dE_in ?_; rintro rfl
    exact fun h => ⟨(q0, q1, q2, q3, q4, q5, q6, q7, q8, q9, q10, q11, q12, q13, q14, q15, q16, q17, q18, q19, q20, q21, q22), rfl, h⟩
def H14 : List (Nat × LH) := [(0, H14_0)]
def W14 : List (Nat × List (Nat × List Nat)) := []
def Γ14 : List (Nat × Con) := [(38, useC [.ag [.pure .int, .pure .int, .pure .int, .pure .int, .x, .pure .int, .x, .pure .op, .x, .bl]] G38), (39, useC [.ag [.pure .int, .pure .int, .pure .int, .pure .int, .x, .pure .int, .x, .pure .op, .x, .bl]] G39), (41, useC [.ag [.pure .int, .pure .int, .pure .int, .pure .int, .x, .pure .int, .x, .pure .op, .x, .bl]] G41), (40, useC [.ag [.pure .int, .pure .int, .pure .int, .pure .int, .x, .pure .int, .x, .pure .op, .x, .bl], .bl] G40)]
theorem e14 (p1 : List Int) (p2 : List Int) (p3 : List Int) (p4 : List Int) (p5 : Int) (p6 : List Int) (p7 : Int) (p8 : List OpV) (p9 : Int) (p10 : Bool) (p11 : List UInt8) (p12 : Bool) (K : TV → TMem → Prop) : TW PP 56 Γ14 H14 W14 (List.length ([] : TMem)) (bodyOf Tryz.f14) (endT PP 56 [.cell 6 32, .tmp 7] [.ag [.own .int, .own .int, .own .int, .own .int, .x, .own .int, .x, .own .op, .x, .bl], .bl] [] (List.length ([] : TMem)) K) (argsF [.agg [.pl .int p1, .pl .int p2, .pl .int p3, .pl .int p4, .int .i64 p5, .pl .int p6, .int .i64 p7, .pl .op p8, .int .i64 p9, .bool p10], .str p11, .bool p12]) [] =
    Ms_RunBoth p1 p2 p3 p4 p5 p6 p7 p8 p9 p10 p11 p12 (fun r1 r2 r3 r4 r5 r6 r7 r8 r9 r10 r11 => K (.tup [.agg [.sl 0, .sl 1, .sl 2, .sl 3, .int .i64 r1, .sl 4, .int .i64 r2, .sl 5, .int .i64 r3, .bool r4], .bool r5]) [⟨true, .list .int r6⟩, ⟨true, .list .int r7⟩, ⟨true, .list .int r8⟩, ⟨true, .list .int r9⟩, ⟨true, .list .int r10⟩, ⟨true, .list .op r11⟩]) := by kernel_rfl
theorem s14 : CSound PP 14 G14 := by
  intro args K c h fl A aargs hA hN R hl
  unfold G14 at h
  generalize ht : c.tm = tm at h
  revert h
  refine cA_in ?_; rintro l2_ r1_ rfl
  refine cP_in ?_; rintro p1 r3_ rfl
  refine cP_in ?_; rintro p2 r4_ rfl
  refine cP_in ?_; rintro p3 r5_ rfl
  refine cP_in ?_; rintro p4 r6_ rfl
  refine cI_in ?_; rintro p5 r7_ rfl
  refine cP_in ?_; rintro p6 r8_ rfl
  refine cI_in ?_; rintro p7 r9_ rfl
  refine cP_in ?_; rintro p8 r10_ rfl
  refine cI_in ?_; rintro p9 r11_ rfl
  refine cB_in ?_; rintro p10 r12_ rfl
  refine dN_in ?_; rintro rfl
  refine cS_in ?_; rintro p11 r13_ rfl
  refine cB_in ?_; rintro p12 r14_ rfl
  refine dN_in ?_; rintro rfl
  refine dE_in ?_; rintro rfl
  intro h
  refine fun_ok (nt := 56) (x := bodyOf Tryz.f14) (Γ := Γ14) (H := H14) (WW := W14) (rs := [.cell 6 32, .tmp 7]) (shs := [.ag [.own .int, .own .int, .own .int, .own .int, .x, .own .int, .x, .own .op, .x, .bl], .bl]) (cons := []) mixed Tryz.func14 (by decide) (by kernel_rfl) Tryz.ntmps14 Tryz.results14 (.cons (useC_ok s38) (.cons (useC_ok s39) (.cons (useC_ok s41) (.cons (useC_ok s40) (GSound.nil))))) ?_ hA hN R hl
  rw [ht, e14 p1 p2 p3 p4 p5 p6 p7 p8 p9 p10 p11 p12 K]
  exact h
/-! impl.HeapValid -/
def G74 : Con := fun args tm K => cA args fun l2_ r1_ => cP .int l2_ fun p1 r3_ => cP .int r3_ fun p2 r4_ => cP .int r4_ fun p3 r5_ => dNil r5_ <| dNil r1_ <| dEnd tm <| Mi_HeapValid p1 p2 p3 (fun r1 => K (.bool r1) [])
def H74_0 : LH where
  keep := [(1, .pc [.pure .int, .pure .int, .pure .int]), (44, .own .ints), (45, .x), (46, .x)]
  S := Int × Int × List Int × List Int × List Int × List (List Int)
  enc := fun s => ([.ptr 0 0, .sl 1, .int .i64 s.1, .int .i64 s.2.1], [⟨true, .cells [.pl .int s.2.2.1, .pl .int s.2.2.2.1, .pl .int s.2.2.2.2.1]⟩, ⟨true, .list .ints s.2.2.2.2.2⟩])
  dec := fun vs tm K => cQ 0 vs fun r1_ => cL 1 r1_ fun r2_ => cI .i64 r2_ fun q0 r3_ => cI .i64 r3_ fun q1 r4_ => dNil r4_ <| bC true tm fun c6_ m5_ => cP .int c6_ fun q2 r7_ => cP .int r7_ fun q3 r8_ => cP .int r8_ fun q4 r9_ => dNil r9_ <| bL true .ints m5_ fun q5 m10_ => dEnd m10_ <| K (q0, q1, q2, q3, q4, q5)
  law := by
    intro vs tm K
    refine cQ_in ?_; rintro r1_ rfl
    refine cL_in ?_; rintro r2_ rfl
    refine cI_in ?_; rintro q0 r3_ rfl
    refine cI_in ?_; rintro q1 r4_ rfl
    refine dN_in ?_; rintro rfl
    refine bC_in ?_; rintro c6_ m5_ rfl
    refine cP_in ?_; rintro q2 r7_ rfl
    refine cP_in ?_; rintro q3 r8_ rfl
    refine cP_in ?_; rintro q4 r9_ rfl
    refine dN_in ?_; rintro rfl
    refine bL_in ?_; rintro q5 m10_ rfl
    refine dE_in ?_; rintro rfl
    exact fun h => ⟨(q0, q1, q2, q3, q4, q5), rfl, h⟩
def H74_2 : LH where
  keep := [(1, .pc [.pure .int, .pure .int, .pure .int]), (44, .own .ints), (45, .x), (46, .x), (50, .pure .int), (51, .x), (52, .x)]
  S := Int × Int × List Int × Int × Int × List Int × List Int × List Int × List (List Int)
  enc := fun s => ([.ptr 0 0, .sl 1, .int .i64 s.1, .int .i64 s.2.1, .pl .int s.2.2.1, .int .i64 s.2.2.2.1, .int .i64 s.2.2.2.2.1], [⟨true, .cells [.pl .int s.2.2.2.2.2.1, .pl .int s.2.2.2.2.2.2.1, .pl .int s.2.2.2.2.2.2.2.1]⟩, ⟨true, .list .ints s.2.2.2.2.2.2.2.2⟩])
  dec := fun vs tm K => cQ 0 vs fun r1_ => cL 1 r1_ fun r2_ => cI .i64 r2_ fun q0 r3_ => cI .i64 r3_ fun q1 r4_ => cP .int r4_ fun q2 r5_ => cI .i64 r5_ fun q3 r6_ => cI .i64 r6_ fun q4 r7_ => dNil r7_ <| bC true tm fun c9_ m8_ => cP .int c9_ fun q5 r10_ => cP .int r10_ fun q6 r11_ => cP .int r11_ fun q7 r12_ => dNil r12_ <| bL true .ints m8_ fun q8 m13_ => dEnd m13_ <| K (q0, q1, q2, q3, q4, q5, q6, q7, q8)
  law := by
    intro vs tm K
    refine cQ_in ?_; rintro r1_ rfl
    refine cL_in ?_; rintro r2_ rfl
    refine cI_in ?_; rintro q0 r3_ rfl
    refine cI_in ?_; rintro q1 r4_ rfl
    refine cP_in ?_; rintro q2 r5_ rfl
    refine cI_in ?_; rintro q3 r6_ rfl
    refine cI_in ?_; rintro q4 r7_ rfl
    refine dN_in ?_; rintro rfl
    refine bC_in ?_; rintro c9_ m8_ rfl
    refine cP_in ?_; rintro q5 r10_ rfl
    refine cP_in ?_; rintro q6 r11_ rfl
    refine cP_in ?_; rintro q7 r12_ rfl
    refine dN_in ?_; rintro rfl
    refine bL_in ?_; rintro q8 m13_ rfl
    refine dE_in ?_; rintro rfl
    exact fun h => ⟨(q0, q1, q2, q3, q4, q5, q6, q7, q8), rfl, h⟩
def H74 : List (Nat × LH) := [(0, H74_0), (2, H74_2)]
def W74 : List (Nat × List (Nat × List Nat)) := []
def Γ74 : List (Nat × Con) := []
theorem e74 (p1 : List Int) (p2 : List Int) (p3 : List Int) (K : TV → TMem → Prop) : TW PP 67 Γ74 H74 W74 (List.length ([] : TMem)) (bodyOf Tryz.f74) (endT PP 67 [.tmp 2] [.bl] [] (List.length ([] : TMem)) K) (argsF [.agg [.pl .int p1, .pl .int p2, .pl .int p3]]) [] =
    Mi_HeapValid p1 p2 p3 (fun r1 => K (.bool r1) []) := by kernel_rfl
theorem s74 : CSound PP 74 G74 := by
  intro args K c h fl A aargs hA hN R hl
  unfold G74 at h
  generalize ht : c.tm = tm at h
  revert h
  refine cA_in ?_; rintro l2_ r1_ rfl
  refine cP_in ?_; rintro p1 r3_ rfl
  refine cP_in ?_; rintro p2 r4_ rfl
  refine cP_in ?_; rintro p3 r5_ rfl
  refine dN_in ?_; rintro rfl
  refine dN_in ?_; rintro rfl
  refine dE_in ?_; rintro rfl
  intro h
  refine fun_ok (nt := 67) (x := bodyOf Tryz.f74) (Γ := Γ74) (H := H74) (WW := W74) (rs := [.tmp 2]) (shs := [.bl]) (cons := []) mixed Tryz.func74 (by decide) (by kernel_rfl) Tryz.ntmps74 Tryz.results74 (GSound.nil) ?_ hA hN R hl
  rw [ht, e74 p1 p2 p3 K]
  exact h
/-! slices.Grow[[]int,int] -/
def G200 : Con := fun args tm K => cT .nil args fun r1_ => cI .i64 r1_ fun p1 r2_ => dNil r2_ <| dEnd tm <| M_Grow_int p1 (fun r1 => K (.sl 0) [⟨true, .list .int r1⟩])
def H200 : List (Nat × LH) := []
def W200 : List (Nat × List (Nat × List Nat)) := []
def Γ200 : List (Nat × Con) := []
theorem e200 (p1 : Int) (K : TV → TMem → Prop) : TW PP 27 Γ200 H200 W200 (List.length ([] : TMem)) (bodyOf Tryz.f200) (endT PP 27 [.tmp 4] [.own .int] [] (List.length ([] : TMem)) K) (argsF [.nil, .int .i64 p1]) [] =
    M_Grow_int p1 (fun r1 => K (.sl 0) [⟨true, .list .int r1⟩]) := by kernel_rfl
theorem s200 : CSound PP 200 G200 := by
  intro args K c h fl A aargs hA hN R hl
  unfold G200 at h
  generalize ht : c.tm = tm at h
  revert h
  refine cT_in ?_; rintro r1_ rfl
  refine cI_in ?_; rintro p1 r2_ rfl
  refine dN_in ?_; rintro rfl
  refine dE_in ?_; rintro rfl
  intro h
  simp only [AT.tv] at hl
  refine fun_ok (nt := 27) (x := bodyOf Tryz.f200) (Γ := Γ200) (H := H200) (WW := W200) (rs := [.tmp 4]) (shs := [.own .int]) (cons := []) mixed Tryz.func200 (by decide) (by kernel_rfl) Tryz.ntmps200 Tryz.results200 (GSound.nil) ?_ hA hN R hl
  rw [ht, e200 p1 K]
  exact h
/-! slices.Concat[[]int,int] -/
def G173 : Con := fun args tm K => cP .ints args fun p1 r1_ => dNil r1_ <| dEnd tm <| M_Concat_int p1 (fun r1 => K (.sl 0) [⟨true, .list .int r1⟩])
def H173_0 : LH where
  keep := [(0, .pure .ints), (3, .x), (9, .pure .ints), (10, .x), (11, .x)]
  S := List (List Int) × Int × List (List Int) × Int × Int
  enc := fun s => ([.pl .ints s.1, .int .i64 s.2.1, .pl .ints s.2.2.1, .int .i64 s.2.2.2.1, .int .i64 s.2.2.2.2], [])
  dec := fun vs tm K => cP .ints vs fun q0 r1_ => cI .i64 r1_ fun q1 r2_ => cP .ints r2_ fun q2 r3_ => cI .i64 r3_ fun q3 r4_ => cI .i64 r4_ fun q4 r5_ => dNil r5_ <| dEnd tm <| K (q0, q1, q2, q3, q4)
  law := by
    intro vs tm K
    refine cP_in ?_; rintro q0 r1_ rfl
    refine cI_in ?_; rintro q1 r2_ rfl
    refine cP_in ?_; rintro q2 r3_ rfl
    refine cI_in ?_; rintro q3 r4_ rfl
    refine cI_in ?_; rintro q4 r5_ rfl
    refine dN_in ?_; rintro rfl
    refine dE_in ?_; rintro rfl
    exact fun h => ⟨(q0, q1, q2, q3, q4), rfl, h⟩
def H173_2 : LH where
  keep := [(6, .own .int), (25, .pure .ints), (26, .x), (27, .x)]
  S := List (List Int) × Int × Int × List Int
  enc := fun s => ([.sl 0, .pl .ints s.1, .int .i64 s.2.1, .int .i64 s.2.2.1], [⟨true, .list .int s.2.2.2⟩])
  dec := fun vs tm K => cL 0 vs fun r1_ => cP .ints r1_ fun q0 r2_ => cI .i64 r2_ fun q1 r3_ => cI .i64 r3_ fun q2 r4_ => dNil r4_ <| bL true .int tm fun q3 m5_ => dEnd m5_ <| K (q0, q1, q2, q3)
  law := by
    intro vs tm K
    refine cL_in ?_; rintro r1_ rfl
    refine cP_in ?_; rintro q0 r2_ rfl
    refine cI_in ?_; rintro q1 r3_ rfl
    refine cI_in ?_; rintro q2 r4_ rfl
    refine dN_in ?_; rintro rfl
    refine bL_in ?_; rintro q3 m5_ rfl
    refine dE_in ?_; rintro rfl
    exact fun h => ⟨(q0, q1, q2, q3), rfl, h⟩
def H173 : List (Nat × LH) := [(0, H173_0), (2, H173_2)]
def W173 : List (Nat × List (Nat × List Nat)) := []
def Γ173 : List (Nat × Con) := [(200, useC [.x, .x] G200)]
theorem e173 (p1 : List (List Int)) (K : TV → TMem → Prop) : TW PP 36 Γ173 H173 W173 (List.length ([] : TMem)) (bodyOf Tryz.f173) (endT PP 36 [.tmp 2] [.own .int] [] (List.length ([] : TMem)) K) (argsF [.pl .ints p1]) [] =
    M_Concat_int p1 (fun r1 => K (.sl 0) [⟨true, .list .int r1⟩]) := by kernel_rfl
theorem s173 : CSound PP 173 G173 := by
  intro args K c h fl A aargs hA hN R hl
  unfold G173 at h
  generalize ht : c.tm = tm at h
  revert h
  refine cP_in ?_; rintro p1 r1_ rfl
  refine dN_in ?_; rintro rfl
  refine dE_in ?_; rintro rfl
  intro h
  refine fun_ok (nt := 36) (x := bodyOf Tryz.f173) (Γ := Γ173) (H := H173) (WW := W173) (rs := [.tmp 2]) (shs := [.own .int]) (cons := []) mixed Tryz.func173 (by decide) (by kernel_rfl) Tryz.ntmps173 Tryz.results173 (.cons (useC_ok s200) (GSound.nil)) ?_ hA hN R hl
  rw [ht, e173 p1 K]
  exact h
/-! impl.CountsOf -/
def G109 : Con := fun args tm K => cA args fun l2_ r1_ => cP .int l2_ fun p1 r3_ => cP .int r3_ fun p2 r4_ => cP .int r4_ fun p3 r5_ => dNil r5_ <| dNil r1_ <| dEnd tm <| Mi_CountsOf p1 p2 p3 (fun r1 => K (.sl 0) [⟨true, .list .int r1⟩])
def H109_0 : LH where
  keep := [(3, .own .int), (20, .own .int), (21, .x), (22, .x)]
  S := Int × Int × List Int × List Int
  enc := fun s => ([.sl 0, .sl 1, .int .i64 s.1, .int .i64 s.2.1], [⟨true, .list .int s.2.2.1⟩, ⟨true, .list .int s.2.2.2⟩])
  dec := fun vs tm K => cL 0 vs fun r1_ => cL 1 r1_ fun r2_ => cI .i64 r2_ fun q0 r3_ => cI .i64 r3_ fun q1 r4_ => dNil r4_ <| bL true .int tm fun q2 m5_ => bL true .int m5_ fun q3 m6_ => dEnd m6_ <| K (q0, q1, q2, q3)
  law := by
    intro vs tm K
    refine cL_in ?_; rintro r1_ rfl
    refine cL_in ?_; rintro r2_ rfl
    refine cI_in ?_; rintro q0 r3_ rfl
    refine cI_in ?_; rintro q1 r4_ rfl
    refine dN_in ?_; rintro rfl
    refine bL_in ?_; rintro q2 m5_ rfl
    refine bL_in ?_; rintro q3 m6_ rfl
    refine dE_in ?_; rintro rfl
    exact fun h => ⟨(q0, q1, q2, q3), rfl, h⟩
def H109 : List (Nat × LH) := [(0, H109_0)]
def W109 : List (Nat × List (Nat × List Nat)) := []
def Γ109 : List (Nat × Con) := [(74, useC [.ag [.pure .int, .pure .int, .pure .int]] G74), (173, useC [.pure .ints] G173)]
theorem e109 (p1 : List Int) (p2 : List Int) (p3 : List Int) (K : TV → TMem → Prop) : TW PP 36 Γ109 H109 W109 (List.length ([] : TMem)) (bodyOf Tryz.f109) (endT PP 36 [.tmp 2] [.own .int] [] (List.length ([] : TMem)) K) (argsF [.agg [.pl .int p1, .pl .int p2, .pl .int p3]]) [] =
    Mi_CountsOf p1 p2 p3 (fun r1 => K (.sl 0) [⟨true, .list .int r1⟩]) := by kernel_rfl
theorem s109 : CSound PP 109 G109 := by
  intro args K c h fl A aargs hA hN R hl
  unfold G109 at h
  generalize ht : c.tm = tm at h
  revert h
  refine cA_in ?_; rintro l2_ r1_ rfl
  refine cP_in ?_; rintro p1 r3_ rfl
  refine cP_in ?_; rintro p2 r4_ rfl
  refine cP_in ?_; rintro p3 r5_ rfl
  refine dN_in ?_; rintro rfl
  refine dN_in ?_; rintro rfl
  refine dE_in ?_; rintro rfl
  intro h
  refine fun_ok (nt := 36) (x := bodyOf Tryz.f109) (Γ := Γ109) (H := H109) (WW := W109) (rs := [.tmp 2]) (shs := [.own .int]) (cons := []) mixed Tryz.func109 (by decide) (by kernel_rfl) Tryz.ntmps109 Tryz.results109 (.cons (useC_ok s74) (.cons (useC_ok s173) (GSound.nil))) ?_ hA hN R hl
  rw [ht, e109 p1 p2 p3 K]
  exact h
/-! slices.Index[[]int,int] -/
def G110 : Con := fun args tm K => cP .int args fun p1 r1_ => cI .i64 r1_ fun p2 r2_ => dNil r2_ <| dEnd tm <| M_Index_int p1 p2 (fun r1 => K (.int .i64 r1) [])
def H110_0 : LH where
  keep := [(0, .pure .int), (1, .x), (7, .x), (8, .x)]
  S := List Int × Int × Int × Int
  enc := fun s => ([.pl .int s.1, .int .i64 s.2.1, .int .i64 s.2.2.1, .int .i64 s.2.2.2], [])
  dec := fun vs tm K => cP .int vs fun q0 r1_ => cI .i64 r1_ fun q1 r2_ => cI .i64 r2_ fun q2 r3_ => cI .i64 r3_ fun q3 r4_ => dNil r4_ <| dEnd tm <| K (q0, q1, q2, q3)
  law := by
    intro vs tm K
    refine cP_in ?_; rintro q0 r1_ rfl
    refine cI_in ?_; rintro q1 r2_ rfl
    refine cI_in ?_; rintro q2 r3_ rfl
    refine cI_in ?_; rintro q3 r4_ rfl
    refine dN_in ?_; rintro rfl
    refine dE_in ?_; rintro rfl
    exact fun h => ⟨(q0, q1, q2, q3), rfl, h⟩
def H110 : List (Nat × LH) := [(0, H110_0)]
def W110 : List (Nat × List (Nat × List Nat)) := []
def Γ110 : List (Nat × Con) := []
theorem e110 (p1 : List Int) (p2 : Int) (K : TV → TMem → Prop) : TW PP 19 Γ110 H110 W110 (List.length ([] : TMem)) (bodyOf Tryz.f110) (endT PP 19 [.tmp 4] [.x] [] (List.length ([] : TMem)) K) (argsF [.pl .int p1, .int .i64 p2]) [] =
    M_Index_int p1 p2 (fun r1 => K (.int .i64 r1) []) := by kernel_rfl
theorem s110 : CSound PP 110 G110 := by
  intro args K c h fl A aargs hA hN R hl
  unfold G110 at h
  generalize ht : c.tm = tm at h
  revert h
  refine cP_in ?_; rintro p1 r1_ rfl
  refine cI_in ?_; rintro p2 r2_ rfl
  refine dN_in ?_; rintro rfl
  refine dE_in ?_; rintro rfl
  intro h
  refine fun_ok (nt := 19) (x := bodyOf Tryz.f110) (Γ := Γ110) (H := H110) (WW := W110) (rs := [.tmp 4]) (shs := [.x]) (cons := []) mixed Tryz.func110 (by decide) (by kernel_rfl) Tryz.ntmps110 Tryz.results110 (GSound.nil) ?_ hA hN R hl
  rw [ht, e110 p1 p2 K]
  exact h
/-! slices.Contains[[]int,int] -/
def G47 : Con := fun args tm K => cP .int args fun p1 r1_ => cI .i64 r1_ fun p2 r2_ => dNil r2_ <| dEnd tm <| M_Contains_int p1 p2 (fun r1 => K (.bool r1) [])
def H47 : List (Nat × LH) := []
def W47 : List (Nat × List (Nat × List Nat)) := []
def Γ47 : List (Nat × Con) := [(110, useC [.pure .int, .x] G110)]
theorem e47 (p1 : List Int) (p2 : Int) (K : TV → TMem → Prop) : TW PP 9 Γ47 H47 W47 (List.length ([] : TMem)) (bodyOf Tryz.f47) (endT PP 9 [.tmp 4] [.bl] [] (List.length ([] : TMem)) K) (argsF [.pl .int p1, .int .i64 p2]) [] =
    M_Contains_int p1 p2 (fun r1 => K (.bool r1) []) := by kernel_rfl
theorem s47 : CSound PP 47 G47 := by
  intro args K c h fl A aargs hA hN R hl
  unfold G47 at h
  generalize ht : c.tm = tm at h
  revert h
  refine cP_in ?_; rintro p1 r1_ rfl
  refine cI_in ?_; rintro p2 r2_ rfl
  refine dN_in ?_; rintro rfl
  refine dE_in ?_; rintro rfl
  intro h
  refine fun_ok (nt := 9) (x := bodyOf Tryz.f47) (Γ := Γ47) (H := H47) (WW := W47) (rs := [.tmp 4]) (shs := [.bl]) (cons := []) mixed Tryz.func47 (by decide) (by kernel_rfl) Tryz.ntmps47 Tryz.results47 (.cons (useC_ok s110) (GSound.nil)) ?_ hA hN R hl
  rw [ht, e47 p1 p2 K]
  exact h
/-! impl.StoreValid -/
def G45 : Con := fun args tm K => cA args fun l2_ r1_ => cP .int l2_ fun p1 r3_ => cP .int r3_ fun p2 r4_ => cP .int r4_ fun p3 r5_ => cP .int r5_ fun p4 r6_ => dNil r6_ <| dNil r1_ <| dEnd tm <| Mi_StoreValid p1 p2 p3 p4 (fun r1 => K (.bool r1) [])
def H45_0 : LH where
  keep := [(1, .pc [.pure .int, .pure .int, .pure .int, .pure .int]), (3, .own .int), (14, .pure .int), (15, .x), (16, .x)]
  S := List Int × Int × Int × List Int × List Int × List Int × List Int × List Int
  enc := fun s => ([.ptr 0 0, .sl 1, .pl .int s.1, .int .i64 s.2.1, .int .i64 s.2.2.1], [⟨true, .cells [.pl .int s.2.2.2.1, .pl .int s.2.2.2.2.1, .pl .int s.2.2.2.2.2.1, .pl .int s.2.2.2.2.2.2.1]⟩, ⟨true, .list .int s.2.2.2.2.2.2.2⟩])
  dec := fun vs tm K => cQ 0 vs fun r1_ => cL 1 r1_ fun r2_ => cP .int r2_ fun q0 r3_ => cI .i64 r3_ fun q1 r4_ => cI .i64 r4_ fun q2 r5_ => dNil r5_ <| bC true tm fun c7_ m6_ => cP .int c7_ fun q3 r8_ => cP .int r8_ fun q4 r9_ => cP .int r9_ fun q5 r10_ => cP .int r10_ fun q6 r11_ => dNil r11_ <| bL true .int m6_ fun q7 m12_ => dEnd m12_ <| K (q0, q1, q2, q3, q4, q5, q6, q7)
  law := by
    intro vs tm K
    refine cQ_in ?_; rintro r1_ rfl
    refine cL_in ?_; rintro r2_ rfl
    refine cP_in ?_; rintro q0 r3_ rfl
    refine cI_in ?_; rintro q1 r4_ rfl
    refine cI_in ?_; rintro q2 r5_ rfl
    refine dN_in ?_; rintro rfl
    refine bC_in ?_; rintro c7_ m6_ rfl
    refine cP_in ?_; rintro q3 r8_ rfl
    refine cP_in ?_; rintro q4 r9_ rfl
    refine cP_in ?_; rintro q5 r10_ rfl
    refine cP_in ?_; rintro q6 r11_ rfl
    refine dN_in ?_; rintro rfl
    refine bL_in ?_; rintro q7 m12_ rfl
    refine dE_in ?_; rintro rfl
    exact fun h => ⟨(q0, q1, q2, q3, q4, q5, q6, q7), rfl, h⟩
def H45 : List (Nat × LH) := [(0, H45_0)]
def W45 : List (Nat × List (Nat × List Nat)) := []
def Γ45 : List (Nat × Con) := [(74, useC [.ag [.pure .int, .pure .int, .pure .int]] G74), (109, useC [.ag [.pure .int, .pure .int, .pure .int]] G109), (47, useC [.pure .int, .x] G47)]
theorem e45 (p1 : List Int) (p2 : List Int) (p3 : List Int) (p4 : List Int) (K : TV → TMem → Prop) : TW PP 63 Γ45 H45 W45 (List.length ([] : TMem)) (bodyOf Tryz.f45) (endT PP 63 [.tmp 2] [.bl] [] (List.length ([] : TMem)) K) (argsF [.agg [.pl .int p1, .pl .int p2, .pl .int p3, .pl .int p4]]) [] =
    Mi_StoreValid p1 p2 p3 p4 (fun r1 => K (.bool r1) []) := by kernel_rfl
theorem s45 : CSound PP 45 G45 := by
  intro args K c h fl A aargs hA hN R hl
  unfold G45 at h
  generalize ht : c.tm = tm at h
  revert h
  refine cA_in ?_; rintro l2_ r1_ rfl
  refine cP_in ?_; rintro p1 r3_ rfl
  refine cP_in ?_; rintro p2 r4_ rfl
  refine cP_in ?_; rintro p3 r5_ rfl
  refine cP_in ?_; rintro p4 r6_ rfl
  refine dN_in ?_; rintro rfl
  refine dN_in ?_; rintro rfl
  refine dE_in ?_; rintro rfl
  intro h
  refine fun_ok (nt := 63) (x := bodyOf Tryz.f45) (Γ := Γ45) (H := H45) (WW := W45) (rs := [.tmp 2]) (shs := [.bl]) (cons := []) mixed Tryz.func45 (by decide) (by kernel_rfl) Tryz.ntmps45 Tryz.results45 (.cons (useC_ok s74) (.cons (useC_ok s109) (.cons (useC_ok s47) (GSound.nil)))) ?_ hA hN R hl
  rw [ht, e45 p1 p2 p3 p4 K]
  exact h
/-! impl.colorsOk -/
def G151 : Con := fun args tm K => cP .int args fun p1 r1_ => cI .i64 r1_ fun p2 r2_ => dNil r2_ <| dEnd tm <| Mi_colorsOk p1 p2 (fun r1 => K (.bool r1) [])
def H151_0 : LH where
  keep := [(0, .pure .int), (1, .x), (7, .pure .int), (8, .x), (9, .x)]
  S := List Int × Int × List Int × Int × Int
  enc := fun s => ([.pl .int s.1, .int .i64 s.2.1, .pl .int s.2.2.1, .int .i64 s.2.2.2.1, .int .i64 s.2.2.2.2], [])
  dec := fun vs tm K => cP .int vs fun q0 r1_ => cI .i64 r1_ fun q1 r2_ => cP .int r2_ fun q2 r3_ => cI .i64 r3_ fun q3 r4_ => cI .i64 r4_ fun q4 r5_ => dNil r5_ <| dEnd tm <| K (q0, q1, q2, q3, q4)
  law := by
    intro vs tm K
    refine cP_in ?_; rintro q0 r1_ rfl
    refine cI_in ?_; rintro q1 r2_ rfl
    refine cP_in ?_; rintro q2 r3_ rfl
    refine cI_in ?_; rintro q3 r4_ rfl
    refine cI_in ?_; rintro q4 r5_ rfl
    refine dN_in ?_; rintro rfl
    refine dE_in ?_; rintro rfl
    exact fun h => ⟨(q0, q1, q2, q3, q4), rfl, h⟩
def H151 : List (Nat × LH) := [(0, H151_0)]
def W151 : List (Nat × List (Nat × List Nat)) := []
def Γ151 : List (Nat × Con) := []
theorem e151 (p1 : List Int) (p2 : Int) (K : TV → TMem → Prop) : TW PP 24 Γ151 H151 W151 (List.length ([] : TMem)) (bodyOf Tryz.f151) (endT PP 24 [.tmp 4] [.bl] [] (List.length ([] : TMem)) K) (argsF [.pl .int p1, .int .i64 p2]) [] =
    Mi_colorsOk p1 p2 (fun r1 => K (.bool r1) []) := by kernel_rfl
theorem s151 : CSound PP 151 G151 := by
  intro args K c h fl A aargs hA hN R hl
  unfold G151 at h
  generalize ht : c.tm = tm at h
  revert h
  refine cP_in ?_; rintro p1 r1_ rfl
  refine cI_in ?_; rintro p2 r2_ rfl
  refine dN_in ?_; rintro rfl
  refine dE_in ?_; rintro rfl
  intro h
  refine fun_ok (nt := 24) (x := bodyOf Tryz.f151) (Γ := Γ151) (H := H151) (WW := W151) (rs := [.tmp 4]) (shs := [.bl]) (cons := []) mixed Tryz.func151 (by decide) (by kernel_rfl) Tryz.ntmps151 Tryz.results151 (GSound.nil) ?_ hA hN R hl
  rw [ht, e151 p1 p2 K]
  exact h
/-! impl.GcValid -/
def G91 : Con := fun args tm K => cA args fun l2_ r1_ => cP .int l2_ fun p1 r3_ => cP .int r3_ fun p2 r4_ => cP .int r4_ fun p3 r5_ => cP .int r5_ fun p4 r6_ => dNil r6_ <| cA r1_ fun l8_ r7_ => cI .i64 l8_ fun p5 r9_ => cP .int r9_ fun p6 r10_ => cI .i64 r10_ fun p7 r11_ => dNil r11_ <| dNil r7_ <| dEnd tm <| Mi_GcValid p1 p2 p3 p4 p5 p6 p7 (fun r1 => K (.bool r1) [])
def H91 : List (Nat × LH) := []
def W91 : List (Nat × List (Nat × List Nat)) := []
def Γ91 : List (Nat × Con) := [(45, useC [.ag [.pure .int, .pure .int, .pure .int, .pure .int]] G45), (151, useC [.pure .int, .x] G151)]
theorem e91 (p1 : List Int) (p2 : List Int) (p3 : List Int) (p4 : List Int) (p5 : Int) (p6 : List Int) (p7 : Int) (K : TV → TMem → Prop) : TW PP 49 Γ91 H91 W91 (List.length ([] : TMem)) (bodyOf Tryz.f91) (endT PP 49 [.tmp 4] [.bl] [] (List.length ([] : TMem)) K) (argsF [.agg [.pl .int p1, .pl .int p2, .pl .int p3, .pl .int p4], .agg [.int .i64 p5, .pl .int p6, .int .i64 p7]]) [] =
    Mi_GcValid p1 p2 p3 p4 p5 p6 p7 (fun r1 => K (.bool r1) []) := by kernel_rfl
theorem s91 : CSound PP 91 G91 := by
  intro args K c h fl A aargs hA hN R hl
  unfold G91 at h
  generalize ht : c.tm = tm at h
  revert h
  refine cA_in ?_; rintro l2_ r1_ rfl
  refine cP_in ?_; rintro p1 r3_ rfl
  refine cP_in ?_; rintro p2 r4_ rfl
  refine cP_in ?_; rintro p3 r5_ rfl
  refine cP_in ?_; rintro p4 r6_ rfl
  refine dN_in ?_; rintro rfl
  refine cA_in ?_; rintro l8_ r7_ rfl
  refine cI_in ?_; rintro p5 r9_ rfl
  refine cP_in ?_; rintro p6 r10_ rfl
  refine cI_in ?_; rintro p7 r11_ rfl
  refine dN_in ?_; rintro rfl
  refine dN_in ?_; rintro rfl
  refine dE_in ?_; rintro rfl
  intro h
  refine fun_ok (nt := 49) (x := bodyOf Tryz.f91) (Γ := Γ91) (H := H91) (WW := W91) (rs := [.tmp 4]) (shs := [.bl]) (cons := []) mixed Tryz.func91 (by decide) (by kernel_rfl) Tryz.ntmps91 Tryz.results91 (.cons (useC_ok s45) (.cons (useC_ok s151) (GSound.nil))) ?_ hA hN R hl
  rw [ht, e91 p1 p2 p3 p4 p5 p6 p7 K]
  exact h
/-! impl.OpValid -/
def G136 : Con := fun args tm K => cA args fun l2_ r1_ => cI .i64 l2_ fun p1 r3_ => cI .i64 r3_ fun p2 r4_ => cI .i64 r4_ fun p3 r5_ => dNil r5_ <| cI .i64 r1_ fun p4 r6_ => dNil r6_ <| dEnd tm <| Mi_OpValid p1 p2 p3 p4 (fun r1 => K (.bool r1) [])
def H136 : List (Nat × LH) := []
def W136 : List (Nat × List (Nat × List Nat)) := []
def Γ136 : List (Nat × Con) := []
theorem e136 (p1 : Int) (p2 : Int) (p3 : Int) (p4 : Int) (K : TV → TMem → Prop) : TW PP 54 Γ136 H136 W136 (List.length ([] : TMem)) (bodyOf Tryz.f136) (endT PP 54 [.tmp 4] [.bl] [] (List.length ([] : TMem)) K) (argsF [.agg [.int .i64 p1, .int .i64 p2, .int .i64 p3], .int .i64 p4]) [] =
    Mi_OpValid p1 p2 p3 p4 (fun r1 => K (.bool r1) []) := by kernel_rfl
theorem s136 : CSound PP 136 G136 := by
  intro args K c h fl A aargs hA hN R hl
  unfold G136 at h
  generalize ht : c.tm = tm at h
  revert h
  refine cA_in ?_; rintro l2_ r1_ rfl
  refine cI_in ?_; rintro p1 r3_ rfl
  refine cI_in ?_; rintro p2 r4_ rfl
  refine cI_in ?_; rintro p3 r5_ rfl
  refine dN_in ?_; rintro rfl
  refine cI_in ?_; rintro p4 r6_ rfl
  refine dN_in ?_; rintro rfl
  refine dE_in ?_; rintro rfl
  intro h
  refine fun_ok (nt := 54) (x := bodyOf Tryz.f136) (Γ := Γ136) (H := H136) (WW := W136) (rs := [.tmp 4]) (shs := [.bl]) (cons := []) mixed Tryz.func136 (by decide) (by kernel_rfl) Tryz.ntmps136 Tryz.results136 (GSound.nil) ?_ hA hN R hl
  rw [ht, e136 p1 p2 p3 p4 K]
  exact h
/-! impl.opsOk -/
def G66 : Con := fun args tm K => cP .op args fun p1 r1_ => cI .i64 r1_ fun p2 r2_ => dNil r2_ <| dEnd tm <| Mi_opsOk p1 p2 (fun r1 => K (.bool r1) [])
def H66_0 : LH where
  keep := [(0, .pure .op), (1, .x), (7, .pure .op), (8, .x), (9, .x)]
  S := List OpV × Int × List OpV × Int × Int
  enc := fun s => ([.pl .op s.1, .int .i64 s.2.1, .pl .op s.2.2.1, .int .i64 s.2.2.2.1, .int .i64 s.2.2.2.2], [])
  dec := fun vs tm K => cP .op vs fun q0 r1_ => cI .i64 r1_ fun q1 r2_ => cP .op r2_ fun q2 r3_ => cI .i64 r3_ fun q3 r4_ => cI .i64 r4_ fun q4 r5_ => dNil r5_ <| dEnd tm <| K (q0, q1, q2, q3, q4)
  law := by
    intro vs tm K
    refine cP_in ?_; rintro q0 r1_ rfl
    refine cI_in ?_; rintro q1 r2_ rfl
    refine cP_in ?_; rintro q2 r3_ rfl
    refine cI_in ?_; rintro q3 r4_ rfl
    refine cI_in ?_; rintro q4 r5_ rfl
    refine dN_in ?_; rintro rfl
    refine dE_in ?_; rintro rfl
    exact fun h => ⟨(q0, q1, q2, q3, q4), rfl, h⟩
def H66 : List (Nat × LH) := [(0, H66_0)]
def W66 : List (Nat × List (Nat × List Nat)) := []
def Γ66 : List (Nat × Con) := [(136, useC [.ag [.x, .x, .x], .x] G136)]
theorem e66 (p1 : List OpV) (p2 : Int) (K : TV → TMem → Prop) : TW PP 21 Γ66 H66 W66 (List.length ([] : TMem)) (bodyOf Tryz.f66) (endT PP 21 [.tmp 4] [.bl] [] (List.length ([] : TMem)) K) (argsF [.pl .op p1, .int .i64 p2]) [] =
    Mi_opsOk p1 p2 (fun r1 => K (.bool r1) []) := by kernel_rfl
theorem s66 : CSound PP 66 G66 := by
  intro args K c h fl A aargs hA hN R hl
  unfold G66 at h
  generalize ht : c.tm = tm at h
  revert h
  refine cP_in ?_; rintro p1 r1_ rfl
  refine cI_in ?_; rintro p2 r2_ rfl
  refine dN_in ?_; rintro rfl
  refine dE_in ?_; rintro rfl
  intro h
  refine fun_ok (nt := 21) (x := bodyOf Tryz.f66) (Γ := Γ66) (H := H66) (WW := W66) (rs := [.tmp 4]) (shs := [.bl]) (cons := []) mixed Tryz.func66 (by decide) (by kernel_rfl) Tryz.ntmps66 Tryz.results66 (.cons (useC_ok s136) (GSound.nil)) ?_ hA hN R hl
  rw [ht, e66 p1 p2 K]
  exact h
/-! impl.BothValid -/
def G34 : Con := fun args tm K => cA args fun l2_ r1_ => cP .int l2_ fun p1 r3_ => cP .int r3_ fun p2 r4_ => cP .int r4_ fun p3 r5_ => cP .int r5_ fun p4 r6_ => cI .i64 r6_ fun p5 r7_ => cP .int r7_ fun p6 r8_ => cI .i64 r8_ fun p7 r9_ => cP .op r9_ fun p8 r10_ => cI .i64 r10_ fun p9 r11_ => cB r11_ fun p10 r12_ => dNil r12_ <| dNil r1_ <| dEnd tm <| Mi_BothValid p1 p2 p3 p4 p5 p6 p7 p8 p9 p10 (fun r1 => K (.bool r1) [])
def H34 : List (Nat × LH) := []
def W34 : List (Nat × List (Nat × List Nat)) := []
def Γ34 : List (Nat × Con) := [(91, useC [.ag [.pure .int, .pure .int, .pure .int, .pure .int], .ag [.x, .pure .int, .x]] G91), (66, useC [.pure .op, .x] G66)]
theorem e34 (p1 : List Int) (p2 : List Int) (p3 : List Int) (p4 : List Int) (p5 : Int) (p6 : List Int) (p7 : Int) (p8 : List OpV) (p9 : Int) (p10 : Bool) (K : TV → TMem → Prop) : TW PP 31 Γ34 H34 W34 (List.length ([] : TMem)) (bodyOf Tryz.f34) (endT PP 31 [.tmp 2] [.bl] [] (List.length ([] : TMem)) K) (argsF [.agg [.pl .int p1, .pl .int p2, .pl .int p3, .pl .int p4, .int .i64 p5, .pl .int p6, .int .i64 p7, .pl .op p8, .int .i64 p9, .bool p10]]) [] =
    Mi_BothValid p1 p2 p3 p4 p5 p6 p7 p8 p9 p10 (fun r1 => K (.bool r1) []) := by kernel_rfl
theorem s34 : CSound PP 34 G34 := by
  intro args K c h fl A aargs hA hN R hl
  unfold G34 at h
  generalize ht : c.tm = tm at h
  revert h
  refine cA_in ?_; rintro l2_ r1_ rfl
  refine cP_in ?_; rintro p1 r3_ rfl
  refine cP_in ?_; rintro p2 r4_ rfl
  refine cP_in ?_; rintro p3 r5_ rfl
  refine cP_in ?_; rintro p4 r6_ rfl
  refine cI_in ?_; rintro p5 r7_ rfl
  refine cP_in ?_; rintro p6 r8_ rfl
  refine cI_in ?_; rintro p7 r9_ rfl
  refine cP_in ?_; rintro p8 r10_ rfl
  refine cI_in ?_; rintro p9 r11_ rfl
  refine cB_in ?_; rintro p10 r12_ rfl
  refine dN_in ?_; rintro rfl
  refine dN_in ?_; rintro rfl
  refine dE_in ?_; rintro rfl
  intro h
  refine fun_ok (nt := 31) (x := bodyOf Tryz.f34) (Γ := Γ34) (H := H34) (WW := W34) (rs := [.tmp 2]) (shs := [.bl]) (cons := []) mixed Tryz.func34 (by decide) (by kernel_rfl) Tryz.ntmps34 Tryz.results34 (.cons (useC_ok s91) (.cons (useC_ok s66) (GSound.nil))) ?_ hA hN R hl
  rw [ht, e34 p1 p2 p3 p4 p5 p6 p7 p8 p9 p10 K]
  exact h
/-! slices.Clone[[]int,int] -/
def G92 : Con := fun args tm K => cP .int args fun p1 r1_ => dNil r1_ <| dEnd tm <| M_Clone_int p1 (fun r1 => K (.sl 0) [⟨true, .list .int r1⟩])
def H92 : List (Nat × LH) := []
def W92 : List (Nat × List (Nat × List Nat)) := []
def Γ92 : List (Nat × Con) := []
theorem e92 (p1 : List Int) (K : TV → TMem → Prop) : TW PP 8 Γ92 H92 W92 (List.length ([] : TMem)) (bodyOf Tryz.f92) (endT PP 8 [.tmp 2] [.own .int] [] (List.length ([] : TMem)) K) (argsF [.pl .int p1]) [] =
    M_Clone_int p1 (fun r1 => K (.sl 0) [⟨true, .list .int r1⟩]) := by kernel_rfl
theorem s92 : CSound PP 92 G92 := by
  intro args K c h fl A aargs hA hN R hl
  unfold G92 at h
  generalize ht : c.tm = tm at h
  revert h
  refine cP_in ?_; rintro p1 r1_ rfl
  refine dN_in ?_; rintro rfl
  refine dE_in ?_; rintro rfl
  intro h
  refine fun_ok (nt := 8) (x := bodyOf Tryz.f92) (Γ := Γ92) (H := H92) (WW := W92) (rs := [.tmp 2]) (shs := [.own .int]) (cons := []) mixed Tryz.func92 (by decide) (by kernel_rfl) Tryz.ntmps92 Tryz.results92 (GSound.nil) ?_ hA hN R hl
  rw [ht, e92 p1 K]
  exact h
/-! impl.copied -/
def G137 : Con := fun args tm K => cA args fun l2_ r1_ => cP .int l2_ fun p1 r3_ => cP .int r3_ fun p2 r4_ => cP .int r4_ fun p3 r5_ => dNil r5_ <| dNil r1_ <| dEnd tm <| Mi_copied p1 p2 p3 (fun r1 r2 r3 => K (.agg [.sl 0, .sl 1, .sl 2]) [⟨true, .list .int r1⟩, ⟨true, .list .int r2⟩, ⟨true, .list .int r3⟩])
def H137 : List (Nat × LH) := []
def W137 : List (Nat × List (Nat × List Nat)) := []
def Γ137 : List (Nat × Con) := [(92, useC [.pure .int] G92)]
theorem e137 (p1 : List Int) (p2 : List Int) (p3 : List Int) (K : TV → TMem → Prop) : TW PP 13 Γ137 H137 W137 (List.length ([] : TMem)) (bodyOf Tryz.f137) (endT PP 13 [.cell 2 25] [.ag [.own .int, .own .int, .own .int]] [] (List.length ([] : TMem)) K) (argsF [.agg [.pl .int p1, .pl .int p2, .pl .int p3]]) [] =
    Mi_copied p1 p2 p3 (fun r1 r2 r3 => K (.agg [.sl 0, .sl 1, .sl 2]) [⟨true, .list .int r1⟩, ⟨true, .list .int r2⟩, ⟨true, .list .int r3⟩]) := by kernel_rfl
theorem s137 : CSound PP 137 G137 := by
  intro args K c h fl A aargs hA hN R hl
  unfold G137 at h
  generalize ht : c.tm = tm at h
  revert h
  refine cA_in ?_; rintro l2_ r1_ rfl
  refine cP_in ?_; rintro p1 r3_ rfl
  refine cP_in ?_; rintro p2 r4_ rfl
  refine cP_in ?_; rintro p3 r5_ rfl
  refine dN_in ?_; rintro rfl
  refine dN_in ?_; rintro rfl
  refine dE_in ?_; rintro rfl
  intro h
  refine fun_ok (nt := 13) (x := bodyOf Tryz.f137) (Γ := Γ137) (H := H137) (WW := W137) (rs := [.cell 2 25]) (shs := [.ag [.own .int, .own .int, .own .int]]) (cons := []) mixed Tryz.func137 (by decide) (by kernel_rfl) Tryz.ntmps137 Tryz.results137 (.cons (useC_ok s92) (GSound.nil)) ?_ hA hN R hl
  rw [ht, e137 p1 p2 p3 K]
  exact h
/-! impl.again -/
def G67 : Con := fun args tm K => cA args fun l2_ r1_ => cP .int l2_ fun p1 r3_ => cP .int r3_ fun p2 r4_ => cP .int r4_ fun p3 r5_ => cP .int r5_ fun p4 r6_ => dNil r6_ <| dNil r1_ <| dEnd tm <| Mi_again p1 p2 p3 p4 (fun r1 r2 r3 r4 => K (.agg [.sl 0, .sl 1, .sl 2, .sl 3]) [⟨true, .list .int r1⟩, ⟨true, .list .int r2⟩, ⟨true, .list .int r3⟩, ⟨true, .list .int r4⟩])
def H67 : List (Nat × LH) := []
def W67 : List (Nat × List (Nat × List Nat)) := []
def Γ67 : List (Nat × Con) := [(137, useC [.ag [.pure .int, .pure .int, .pure .int]] G137), (92, useC [.pure .int] G92)]
theorem e67 (p1 : List Int) (p2 : List Int) (p3 : List Int) (p4 : List Int) (K : TV → TMem → Prop) : TW PP 10 Γ67 H67 W67 (List.length ([] : TMem)) (bodyOf Tryz.f67) (endT PP 10 [.cell 2 27] [.ag [.own .int, .own .int, .own .int, .own .int]] [] (List.length ([] : TMem)) K) (argsF [.agg [.pl .int p1, .pl .int p2, .pl .int p3, .pl .int p4]]) [] =
    Mi_again p1 p2 p3 p4 (fun r1 r2 r3 r4 => K (.agg [.sl 0, .sl 1, .sl 2, .sl 3]) [⟨true, .list .int r1⟩, ⟨true, .list .int r2⟩, ⟨true, .list .int r3⟩, ⟨true, .list .int r4⟩]) := by kernel_rfl
theorem s67 : CSound PP 67 G67 := by
  intro args K c h fl A aargs hA hN R hl
  unfold G67 at h
  generalize ht : c.tm = tm at h
  revert h
  refine cA_in ?_; rintro l2_ r1_ rfl
  refine cP_in ?_; rintro p1 r3_ rfl
  refine cP_in ?_; rintro p2 r4_ rfl
  refine cP_in ?_; rintro p3 r5_ rfl
  refine cP_in ?_; rintro p4 r6_ rfl
  refine dN_in ?_; rintro rfl
  refine dN_in ?_; rintro rfl
  refine dE_in ?_; rintro rfl
  intro h
  refine fun_ok (nt := 10) (x := bodyOf Tryz.f67) (Γ := Γ67) (H := H67) (WW := W67) (rs := [.cell 2 27]) (shs := [.ag [.own .int, .own .int, .own .int, .own .int]]) (cons := []) mixed Tryz.func67 (by decide) (by kernel_rfl) Tryz.ntmps67 Tryz.results67 (.cons (useC_ok s137) (.cons (useC_ok s92) (GSound.nil))) ?_ hA hN R hl
  rw [ht, e67 p1 p2 p3 p4 K]
  exact h
/-! slices.Clone[[]impl.Op,impl.Op] -/
def G86 : Con := fun args tm K => cP .op args fun p1 r1_ => dNil r1_ <| dEnd tm <| M_Clone_Op p1 (fun r1 => K (.sl 0) [⟨true, .list .op r1⟩])
def H86 : List (Nat × LH) := []
def W86 : List (Nat × List (Nat × List Nat)) := []
def Γ86 : List (Nat × Con) := []
theorem e86 (p1 : List OpV) (K : TV → TMem → Prop) : TW PP 8 Γ86 H86 W86 (List.length ([] : TMem)) (bodyOf Tryz.f86) (endT PP 8 [.tmp 2] [.own .op] [] (List.length ([] : TMem)) K) (argsF [.pl .op p1]) [] =
    M_Clone_Op p1 (fun r1 => K (.sl 0) [⟨true, .list .op r1⟩]) := by kernel_rfl
theorem s86 : CSound PP 86 G86 := by
  intro args K c h fl A aargs hA hN R hl
  unfold G86 at h
  generalize ht : c.tm = tm at h
  revert h
  refine cP_in ?_; rintro p1 r1_ rfl
  refine dN_in ?_; rintro rfl
  refine dE_in ?_; rintro rfl
  intro h
  refine fun_ok (nt := 8) (x := bodyOf Tryz.f86) (Γ := Γ86) (H := H86) (WW := W86) (rs := [.tmp 2]) (shs := [.own .op]) (cons := []) mixed Tryz.func86 (by decide) (by kernel_rfl) Tryz.ntmps86 Tryz.results86 (GSound.nil) ?_ hA hN R hl
  rw [ht, e86 p1 K]
  exact h
/-! impl.anew -/
def G35 : Con := fun args tm K => cA args fun l2_ r1_ => cP .int l2_ fun p1 r3_ => cP .int r3_ fun p2 r4_ => cP .int r4_ fun p3 r5_ => cP .int r5_ fun p4 r6_ => cI .i64 r6_ fun p5 r7_ => cP .int r7_ fun p6 r8_ => cI .i64 r8_ fun p7 r9_ => cP .op r9_ fun p8 r10_ => cI .i64 r10_ fun p9 r11_ => cB r11_ fun p10 r12_ => dNil r12_ <| dNil r1_ <| dEnd tm <| Mi_anew p1 p2 p3 p4 p5 p6 p7 p8 p9 p10 (fun r1 r2 r3 r4 r5 r6 => K (.agg [.sl 0, .sl 1, .sl 2, .sl 3, .int .i64 p5, .sl 4, .int .i64 p7, .sl 5, .int .i64 p9, .bool p10]) [⟨true, .list .int r1⟩, ⟨true, .list .int r2⟩, ⟨true, .list .int r3⟩, ⟨true, .list .int r4⟩, ⟨true, .list .int r5⟩, ⟨true, .list .op r6⟩])
def H35 : List (Nat × LH) := []
def W35 : List (Nat × List (Nat × List Nat)) := []
def Γ35 : List (Nat × Con) := [(67, useC [.ag [.pure .int, .pure .int, .pure .int, .pure .int]] G67), (92, useC [.pure .int] G92), (86, useC [.pure .op] G86)]
theorem e35 (p1 : List Int) (p2 : List Int) (p3 : List Int) (p4 : List Int) (p5 : Int) (p6 : List Int) (p7 : Int) (p8 : List OpV) (p9 : Int) (p10 : Bool) (K : TV → TMem → Prop) : TW PP 18 Γ35 H35 W35 (List.length ([] : TMem)) (bodyOf Tryz.f35) (endT PP 18 [.cell 2 32] [.ag [.own .int, .own .int, .own .int, .own .int, .x, .own .int, .x, .own .op, .x, .bl]] [] (List.length ([] : TMem)) K) (argsF [.agg [.pl .int p1, .pl .int p2, .pl .int p3, .pl .int p4, .int .i64 p5, .pl .int p6, .int .i64 p7, .pl .op p8, .int .i64 p9, .bool p10]]) [] =
    Mi_anew p1 p2 p3 p4 p5 p6 p7 p8 p9 p10 (fun r1 r2 r3 r4 r5 r6 => K (.agg [.sl 0, .sl 1, .sl 2, .sl 3, .int .i64 p5, .sl 4, .int .i64 p7, .sl 5, .int .i64 p9, .bool p10]) [⟨true, .list .int r1⟩, ⟨true, .list .int r2⟩, ⟨true, .list .int r3⟩, ⟨true, .list .int r4⟩, ⟨true, .list .int r5⟩, ⟨true, .list .op r6⟩]) := by kernel_rfl
theorem s35 : CSound PP 35 G35 := by
  intro args K c h fl A aargs hA hN R hl
  unfold G35 at h
  generalize ht : c.tm = tm at h
  revert h
  refine cA_in ?_; rintro l2_ r1_ rfl
  refine cP_in ?_; rintro p1 r3_ rfl
  refine cP_in ?_; rintro p2 r4_ rfl
  refine cP_in ?_; rintro p3 r5_ rfl
  refine cP_in ?_; rintro p4 r6_ rfl
  refine cI_in ?_; rintro p5 r7_ rfl
  refine cP_in ?_; rintro p6 r8_ rfl
  refine cI_in ?_; rintro p7 r9_ rfl
  refine cP_in ?_; rintro p8 r10_ rfl
  refine cI_in ?_; rintro p9 r11_ rfl
  refine cB_in ?_; rintro p10 r12_ rfl
  refine dN_in ?_; rintro rfl
  refine dN_in ?_; rintro rfl
  refine dE_in ?_; rintro rfl
  intro h
  refine fun_ok (nt := 18) (x := bodyOf Tryz.f35) (Γ := Γ35) (H := H35) (WW := W35) (rs := [.cell 2 32]) (shs := [.ag [.own .int, .own .int, .own .int, .own .int, .x, .own .int, .x, .own .op, .x, .bl]]) (cons := []) mixed Tryz.func35 (by decide) (by kernel_rfl) Tryz.ntmps35 Tryz.results35 (.cons (useC_ok s67) (.cons (useC_ok s92) (.cons (useC_ok s86) (GSound.nil)))) ?_ hA hN R hl
  rw [ht, e35 p1 p2 p3 p4 p5 p6 p7 p8 p9 p10 K]
  exact h
/-! impl.TargetOf -/
def G152 : Con := fun args tm K => cA args fun l2_ r1_ => cP .int l2_ fun p1 r3_ => cP .int r3_ fun p2 r4_ => cP .int r4_ fun p3 r5_ => cP .int r5_ fun p4 r6_ => dNil r6_ <| cA r1_ fun l8_ r7_ => cI .i64 l8_ fun p5 r9_ => cI .i64 r9_ fun p6 r10_ => cI .i64 r10_ fun p7 r11_ => dNil r11_ <| dNil r7_ <| dEnd tm <| Mi_TargetOf p1 p2 p3 p4 p5 p6 p7 (fun r1 => K (.int .i64 r1) [])
def H152 : List (Nat × LH) := []
def W152 : List (Nat × List (Nat × List Nat)) := []
def Γ152 : List (Nat × Con) := [(45, useC [.ag [.pure .int, .pure .int, .pure .int, .pure .int]] G45), (136, useC [.ag [.x, .x, .x], .x] G136)]
theorem e152 (p1 : List Int) (p2 : List Int) (p3 : List Int) (p4 : List Int) (p5 : Int) (p6 : Int) (p7 : Int) (K : TV → TMem → Prop) : TW PP 44 Γ152 H152 W152 (List.length ([] : TMem)) (bodyOf Tryz.f152) (endT PP 44 [.tmp 4] [.x] [] (List.length ([] : TMem)) K) (argsF [.agg [.pl .int p1, .pl .int p2, .pl .int p3, .pl .int p4], .agg [.int .i64 p5, .int .i64 p6, .int .i64 p7]]) [] =
    Mi_TargetOf p1 p2 p3 p4 p5 p6 p7 (fun r1 => K (.int .i64 r1) []) := by kernel_rfl
theorem s152 : CSound PP 152 G152 := by
  intro args K c h fl A aargs hA hN R hl
  unfold G152 at h
  generalize ht : c.tm = tm at h
  revert h
  refine cA_in ?_; rintro l2_ r1_ rfl
  refine cP_in ?_; rintro p1 r3_ rfl
  refine cP_in ?_; rintro p2 r4_ rfl
  refine cP_in ?_; rintro p3 r5_ rfl
  refine cP_in ?_; rintro p4 r6_ rfl
  refine dN_in ?_; rintro rfl
  refine cA_in ?_; rintro l8_ r7_ rfl
  refine cI_in ?_; rintro p5 r9_ rfl
  refine cI_in ?_; rintro p6 r10_ rfl
  refine cI_in ?_; rintro p7 r11_ rfl
  refine dN_in ?_; rintro rfl
  refine dN_in ?_; rintro rfl
  refine dE_in ?_; rintro rfl
  intro h
  refine fun_ok (nt := 44) (x := bodyOf Tryz.f152) (Γ := Γ152) (H := H152) (WW := W152) (rs := [.tmp 4]) (shs := [.x]) (cons := []) mixed Tryz.func152 (by decide) (by kernel_rfl) Tryz.ntmps152 Tryz.results152 (.cons (useC_ok s45) (.cons (useC_ok s136) (GSound.nil))) ?_ hA hN R hl
  rw [ht, e152 p1 p2 p3 p4 p5 p6 p7 K]
  exact h
/-! impl.AllocCell -/
def G138 : Con := fun args tm K => cA args fun l2_ r1_ => cP .int l2_ fun p1 r3_ => cP .int r3_ fun p2 r4_ => cP .int r4_ fun p3 r5_ => cP .int r5_ fun p4 r6_ => dNil r6_ <| cI .i64 r1_ fun p5 r7_ => dNil r7_ <| dEnd tm <| Mi_AllocCell p1 p2 p3 p4 p5 (fun r1 r2 r3 r4 r5 r6 => K (.tup [.agg [.sl 0, .sl 1, .sl 2, .sl 3], .int .i64 r1, .bool r2]) [⟨true, .list .int r3⟩, ⟨true, .list .int r4⟩, ⟨true, .list .int r5⟩, ⟨true, .list .int r6⟩])
def H138 : List (Nat × LH) := []
def W138 : List (Nat × List (Nat × List Nat)) := []
def Γ138 : List (Nat × Con) := [(45, useC [.ag [.pure .int, .pure .int, .pure .int, .pure .int]] G45), (67, useC [.ag [.pure .int, .pure .int, .pure .int, .pure .int]] G67)]
theorem e138 (p1 : List Int) (p2 : List Int) (p3 : List Int) (p4 : List Int) (p5 : Int) (K : TV → TMem → Prop) : TW PP 48 Γ138 H138 W138 (List.length ([] : TMem)) (bodyOf Tryz.f138) (endT PP 48 [.cell 4 27, .tmp 5, .tmp 6] [.ag [.own .int, .own .int, .own .int, .own .int], .x, .bl] [] (List.length ([] : TMem)) K) (argsF [.agg [.pl .int p1, .pl .int p2, .pl .int p3, .pl .int p4], .int .i64 p5]) [] =
    Mi_AllocCell p1 p2 p3 p4 p5 (fun r1 r2 r3 r4 r5 r6 => K (.tup [.agg [.sl 0, .sl 1, .sl 2, .sl 3], .int .i64 r1, .bool r2]) [⟨true, .list .int r3⟩, ⟨true, .list .int r4⟩, ⟨true, .list .int r5⟩, ⟨true, .list .int r6⟩]) := by kernel_rfl
theorem s138 : CSound PP 138 G138 := by
  intro args K c h fl A aargs hA hN R hl
  unfold G138 at h
  generalize ht : c.tm = tm at h
  revert h
  refine cA_in ?_; rintro l2_ r1_ rfl
  refine cP_in ?_; rintro p1 r3_ rfl
  refine cP_in ?_; rintro p2 r4_ rfl
  refine cP_in ?_; rintro p3 r5_ rfl
  refine cP_in ?_; rintro p4 r6_ rfl
  refine dN_in ?_; rintro rfl
  refine cI_in ?_; rintro p5 r7_ rfl
  refine dN_in ?_; rintro rfl
  refine dE_in ?_; rintro rfl
  intro h
  refine fun_ok (nt := 48) (x := bodyOf Tryz.f138) (Γ := Γ138) (H := H138) (WW := W138) (rs := [.cell 4 27, .tmp 5, .tmp 6]) (shs := [.ag [.own .int, .own .int, .own .int, .own .int], .x, .bl]) (cons := []) mixed Tryz.func138 (by decide) (by kernel_rfl) Tryz.ntmps138 Tryz.results138 (.cons (useC_ok s45) (.cons (useC_ok s67) (GSound.nil))) ?_ hA hN R hl
  rw [ht, e138 p1 p2 p3 p4 p5 K]
  exact h
/-! impl.RunOp -/
def G68 : Con := fun args tm K => cA args fun l2_ r1_ => cP .int l2_ fun p1 r3_ => cP .int r3_ fun p2 r4_ => cP .int r4_ fun p3 r5_ => cP .int r5_ fun p4 r6_ => dNil r6_ <| cA r1_ fun l8_ r7_ => cI .i64 l8_ fun p5 r9_ => cI .i64 r9_ fun p6 r10_ => cI .i64 r10_ fun p7 r11_ => dNil r11_ <| dNil r7_ <| dEnd tm <| Mi_RunOp p1 p2 p3 p4 p5 p6 p7 (fun r1 r2 r3 r4 r5 r6 => K (.tup [.agg [.sl 0, .sl 1, .sl 2, .sl 3], .int .i64 r1, .bool r2]) [⟨true, .list .int r3⟩, ⟨true, .list .int r4⟩, ⟨true, .list .int r5⟩, ⟨true, .list .int r6⟩])
def H68 : List (Nat × LH) := []
def W68 : List (Nat × List (Nat × List Nat)) := []
def Γ68 : List (Nat × Con) := [(45, useC [.ag [.pure .int, .pure .int, .pure .int, .pure .int]] G45), (136, useC [.ag [.x, .x, .x], .x] G136), (67, useC [.ag [.pure .int, .pure .int, .pure .int, .pure .int]] G67), (138, useC [.ag [.pure .int, .pure .int, .pure .int, .pure .int], .x] G138)]
theorem e68 (p1 : List Int) (p2 : List Int) (p3 : List Int) (p4 : List Int) (p5 : Int) (p6 : Int) (p7 : Int) (K : TV → TMem → Prop) : TW PP 133 Γ68 H68 W68 (List.length ([] : TMem)) (bodyOf Tryz.f68) (endT PP 133 [.cell 4 27, .tmp 5, .tmp 6] [.ag [.own .int, .own .int, .own .int, .own .int], .x, .bl] [] (List.length ([] : TMem)) K) (argsF [.agg [.pl .int p1, .pl .int p2, .pl .int p3, .pl .int p4], .agg [.int .i64 p5, .int .i64 p6, .int .i64 p7]]) [] =
    Mi_RunOp p1 p2 p3 p4 p5 p6 p7 (fun r1 r2 r3 r4 r5 r6 => K (.tup [.agg [.sl 0, .sl 1, .sl 2, .sl 3], .int .i64 r1, .bool r2]) [⟨true, .list .int r3⟩, ⟨true, .list .int r4⟩, ⟨true, .list .int r5⟩, ⟨true, .list .int r6⟩]) := by kernel_rfl
theorem s68 : CSound PP 68 G68 := by
  intro args K c h fl A aargs hA hN R hl
  unfold G68 at h
  generalize ht : c.tm = tm at h
  revert h
  refine cA_in ?_; rintro l2_ r1_ rfl
  refine cP_in ?_; rintro p1 r3_ rfl
  refine cP_in ?_; rintro p2 r4_ rfl
  refine cP_in ?_; rintro p3 r5_ rfl
  refine cP_in ?_; rintro p4 r6_ rfl
  refine dN_in ?_; rintro rfl
  refine cA_in ?_; rintro l8_ r7_ rfl
  refine cI_in ?_; rintro p5 r9_ rfl
  refine cI_in ?_; rintro p6 r10_ rfl
  refine cI_in ?_; rintro p7 r11_ rfl
  refine dN_in ?_; rintro rfl
  refine dN_in ?_; rintro rfl
  refine dE_in ?_; rintro rfl
  intro h
  refine fun_ok (nt := 133) (x := bodyOf Tryz.f68) (Γ := Γ68) (H := H68) (WW := W68) (rs := [.cell 4 27, .tmp 5, .tmp 6]) (shs := [.ag [.own .int, .own .int, .own .int, .own .int], .x, .bl]) (cons := []) mixed Tryz.func68 (by decide) (by kernel_rfl) Tryz.ntmps68 Tryz.results68 (.cons (useC_ok s45) (.cons (useC_ok s136) (.cons (useC_ok s67) (.cons (useC_ok s138) (GSound.nil))))) ?_ hA hN R hl
  rw [ht, e68 p1 p2 p3 p4 p5 p6 p7 K]
  exact h
/-! impl.has -/
def G193 : Con := fun args tm K => cA args fun l2_ r1_ => cP .int l2_ fun p1 r3_ => cP .int r3_ fun p2 r4_ => cP .int r4_ fun p3 r5_ => dNil r5_ <| cI .i64 r1_ fun p4 r6_ => dNil r6_ <| dEnd tm <| Mi_has p1 p2 p3 p4 (fun r1 => K (.bool r1) [])
def H193 : List (Nat × LH) := []
def W193 : List (Nat × List (Nat × List Nat)) := []
def Γ193 : List (Nat × Con) := [(74, useC [.ag [.pure .int, .pure .int, .pure .int]] G74)]
theorem e193 (p1 : List Int) (p2 : List Int) (p3 : List Int) (p4 : Int) (K : TV → TMem → Prop) : TW PP 18 Γ193 H193 W193 (List.length ([] : TMem)) (bodyOf Tryz.f193) (endT PP 18 [.tmp 4] [.bl] [] (List.length ([] : TMem)) K) (argsF [.agg [.pl .int p1, .pl .int p2, .pl .int p3], .int .i64 p4]) [] =
    Mi_has p1 p2 p3 p4 (fun r1 => K (.bool r1) []) := by kernel_rfl
theorem s193 : CSound PP 193 G193 := by
  intro args K c h fl A aargs hA hN R hl
  unfold G193 at h
  generalize ht : c.tm = tm at h
  revert h
  refine cA_in ?_; rintro l2_ r1_ rfl
  refine cP_in ?_; rintro p1 r3_ rfl
  refine cP_in ?_; rintro p2 r4_ rfl
  refine cP_in ?_; rintro p3 r5_ rfl
  refine dN_in ?_; rintro rfl
  refine cI_in ?_; rintro p4 r6_ rfl
  refine dN_in ?_; rintro rfl
  refine dE_in ?_; rintro rfl
  intro h
  refine fun_ok (nt := 18) (x := bodyOf Tryz.f193) (Γ := Γ193) (H := H193) (WW := W193) (rs := [.tmp 4]) (shs := [.bl]) (cons := []) mixed Tryz.func193 (by decide) (by kernel_rfl) Tryz.ntmps193 Tryz.results193 (.cons (useC_ok s74) (GSound.nil)) ?_ hA hN R hl
  rw [ht, e193 p1 p2 p3 p4 K]
  exact h
/-! impl.ColorNew -/
def G153 : Con := fun args tm K => cA args fun l2_ r1_ => cP .int l2_ fun p1 r3_ => cP .int r3_ fun p2 r4_ => cP .int r4_ fun p3 r5_ => cP .int r5_ fun p4 r6_ => dNil r6_ <| cA r1_ fun l8_ r7_ => cI .i64 l8_ fun p5 r9_ => cP .int r9_ fun p6 r10_ => cI .i64 r10_ fun p7 r11_ => dNil r11_ <| cI .i64 r7_ fun p8 r12_ => dNil r12_ <| dEnd tm <| Mi_ColorNew p1 p2 p3 p4 p5 p6 p7 p8 (fun r1 r2 r3 r4 => K (.tup [.agg [.int .i64 r1, .sl 0, .int .i64 r2], .bool r3]) [⟨true, .list .int r4⟩])
def H153 : List (Nat × LH) := []
def W153 : List (Nat × List (Nat × List Nat)) := []
def Γ153 : List (Nat × Con) := [(91, useC [.ag [.pure .int, .pure .int, .pure .int, .pure .int], .ag [.x, .pure .int, .x]] G91), (193, useC [.ag [.pure .int, .pure .int, .pure .int], .x] G193), (92, useC [.pure .int] G92)]
theorem e153 (p1 : List Int) (p2 : List Int) (p3 : List Int) (p4 : List Int) (p5 : Int) (p6 : List Int) (p7 : Int) (p8 : Int) (K : TV → TMem → Prop) : TW PP 52 Γ153 H153 W153 (List.length ([] : TMem)) (bodyOf Tryz.f153) (endT PP 52 [.cell 6 29, .tmp 7] [.ag [.x, .own .int, .x], .bl] [] (List.length ([] : TMem)) K) (argsF [.agg [.pl .int p1, .pl .int p2, .pl .int p3, .pl .int p4], .agg [.int .i64 p5, .pl .int p6, .int .i64 p7], .int .i64 p8]) [] =
    Mi_ColorNew p1 p2 p3 p4 p5 p6 p7 p8 (fun r1 r2 r3 r4 => K (.tup [.agg [.int .i64 r1, .sl 0, .int .i64 r2], .bool r3]) [⟨true, .list .int r4⟩]) := by kernel_rfl
theorem s153 : CSound PP 153 G153 := by
  intro args K c h fl A aargs hA hN R hl
  unfold G153 at h
  generalize ht : c.tm = tm at h
  revert h
  refine cA_in ?_; rintro l2_ r1_ rfl
  refine cP_in ?_; rintro p1 r3_ rfl
  refine cP_in ?_; rintro p2 r4_ rfl
  refine cP_in ?_; rintro p3 r5_ rfl
  refine cP_in ?_; rintro p4 r6_ rfl
  refine dN_in ?_; rintro rfl
  refine cA_in ?_; rintro l8_ r7_ rfl
  refine cI_in ?_; rintro p5 r9_ rfl
  refine cP_in ?_; rintro p6 r10_ rfl
  refine cI_in ?_; rintro p7 r11_ rfl
  refine dN_in ?_; rintro rfl
  refine cI_in ?_; rintro p8 r12_ rfl
  refine dN_in ?_; rintro rfl
  refine dE_in ?_; rintro rfl
  intro h
  refine fun_ok (nt := 52) (x := bodyOf Tryz.f153) (Γ := Γ153) (H := H153) (WW := W153) (rs := [.cell 6 29, .tmp 7]) (shs := [.ag [.x, .own .int, .x], .bl]) (cons := []) mixed Tryz.func153 (by decide) (by kernel_rfl) Tryz.ntmps153 Tryz.results153 (.cons (useC_ok s91) (.cons (useC_ok s193) (.cons (useC_ok s92) (GSound.nil)))) ?_ hA hN R hl
  rw [ht, e153 p1 p2 p3 p4 p5 p6 p7 p8 K]
  exact h
/-! impl.shade -/
def G156 : Con := fun args tm K => cL 0 args fun r1_ => cI .i64 r1_ fun p1 r2_ => dNil r2_ <| bL true .int tm fun p2 m3_ => dEnd m3_ <| Mi_shade p1 p2 (fun r1 => K (.tup []) [⟨true, .list .int r1⟩])
def H156 : List (Nat × LH) := []
def W156 : List (Nat × List (Nat × List Nat)) := []
def Γ156 : List (Nat × Con) := []
theorem e156 (p1 : Int) (p2 : List Int) (K : TV → TMem → Prop) : TW PP 16 Γ156 H156 W156 (List.length ([⟨true, .list .int p2⟩] : TMem)) (bodyOf Tryz.f156) (endT PP 16 [] [] [] (List.length ([⟨true, .list .int p2⟩] : TMem)) K) (argsF [.sl 0, .int .i64 p1]) [⟨true, .list .int p2⟩] =
    Mi_shade p1 p2 (fun r1 => K (.tup []) [⟨true, .list .int r1⟩]) := by kernel_rfl
theorem s156 : CSound PP 156 G156 := by
  intro args K c h fl A aargs hA hN R hl
  unfold G156 at h
  generalize ht : c.tm = tm at h
  revert h
  refine cL_in ?_; rintro r1_ rfl
  refine cI_in ?_; rintro p1 r2_ rfl
  refine dN_in ?_; rintro rfl
  refine bL_in ?_; rintro p2 m3_ rfl
  refine dE_in ?_; rintro rfl
  intro h
  refine fun_ok (nt := 16) (x := bodyOf Tryz.f156) (Γ := Γ156) (H := H156) (WW := W156) (rs := []) (shs := []) (cons := []) mixed Tryz.func156 (by decide) (by kernel_rfl) Tryz.ntmps156 Tryz.results156 (GSound.nil) ?_ hA hN R hl
  rw [ht, e156 p1 p2 K]
  exact h
/-! impl.ShadeGc -/
def G154 : Con := fun args tm K => cA args fun l2_ r1_ => cP .int l2_ fun p1 r3_ => cP .int r3_ fun p2 r4_ => cP .int r4_ fun p3 r5_ => cP .int r5_ fun p4 r6_ => dNil r6_ <| cA r1_ fun l8_ r7_ => cI .i64 l8_ fun p5 r9_ => cP .int r9_ fun p6 r10_ => cI .i64 r10_ fun p7 r11_ => dNil r11_ <| cI .i64 r7_ fun p8 r12_ => dNil r12_ <| dEnd tm <| Mi_ShadeGc p1 p2 p3 p4 p5 p6 p7 p8 (fun r1 r2 r3 r4 => K (.tup [.agg [.int .i64 r1, .sl 0, .int .i64 r2], .bool r3]) [⟨true, .list .int r4⟩])
def H154 : List (Nat × LH) := []
def W154 : List (Nat × List (Nat × List Nat)) := []
def Γ154 : List (Nat × Con) := [(91, useC [.ag [.pure .int, .pure .int, .pure .int, .pure .int], .ag [.x, .pure .int, .x]] G91), (193, useC [.ag [.pure .int, .pure .int, .pure .int], .x] G193), (92, useC [.pure .int] G92), (156, useC [.own .int, .x] G156)]
theorem e154 (p1 : List Int) (p2 : List Int) (p3 : List Int) (p4 : List Int) (p5 : Int) (p6 : List Int) (p7 : Int) (p8 : Int) (K : TV → TMem → Prop) : TW PP 37 Γ154 H154 W154 (List.length ([] : TMem)) (bodyOf Tryz.f154) (endT PP 37 [.cell 6 29, .tmp 7] [.ag [.x, .own .int, .x], .bl] [] (List.length ([] : TMem)) K) (argsF [.agg [.pl .int p1, .pl .int p2, .pl .int p3, .pl .int p4], .agg [.int .i64 p5, .pl .int p6, .int .i64 p7], .int .i64 p8]) [] =
    Mi_ShadeGc p1 p2 p3 p4 p5 p6 p7 p8 (fun r1 r2 r3 r4 => K (.tup [.agg [.int .i64 r1, .sl 0, .int .i64 r2], .bool r3]) [⟨true, .list .int r4⟩]) := by kernel_rfl
theorem s154 : CSound PP 154 G154 := by
  intro args K c h fl A aargs hA hN R hl
  unfold G154 at h
  generalize ht : c.tm = tm at h
  revert h
  refine cA_in ?_; rintro l2_ r1_ rfl
  refine cP_in ?_; rintro p1 r3_ rfl
  refine cP_in ?_; rintro p2 r4_ rfl
  refine cP_in ?_; rintro p3 r5_ rfl
  refine cP_in ?_; rintro p4 r6_ rfl
  refine dN_in ?_; rintro rfl
  refine cA_in ?_; rintro l8_ r7_ rfl
  refine cI_in ?_; rintro p5 r9_ rfl
  refine cP_in ?_; rintro p6 r10_ rfl
  refine cI_in ?_; rintro p7 r11_ rfl
  refine dN_in ?_; rintro rfl
  refine cI_in ?_; rintro p8 r12_ rfl
  refine dN_in ?_; rintro rfl
  refine dE_in ?_; rintro rfl
  intro h
  refine fun_ok (nt := 37) (x := bodyOf Tryz.f154) (Γ := Γ154) (H := H154) (WW := W154) (rs := [.cell 6 29, .tmp 7]) (shs := [.ag [.x, .own .int, .x], .bl]) (cons := []) mixed Tryz.func154 (by decide) (by kernel_rfl) Tryz.ntmps154 Tryz.results154 (.cons (useC_ok s91) (.cons (useC_ok s193) (.cons (useC_ok s92) (.cons (useC_ok s156) (GSound.nil))))) ?_ hA hN R hl
  rw [ht, e154 p1 p2 p3 p4 p5 p6 p7 p8 K]
  exact h
/-! impl.step -/
def G93 : Con := fun args tm K => cA args fun l2_ r1_ => cP .int l2_ fun p1 r3_ => cP .int r3_ fun p2 r4_ => cP .int r4_ fun p3 r5_ => cP .int r5_ fun p4 r6_ => cI .i64 r6_ fun p5 r7_ => cP .int r7_ fun p6 r8_ => cI .i64 r8_ fun p7 r9_ => cP .op r9_ fun p8 r10_ => cI .i64 r10_ fun p9 r11_ => cB r11_ fun p10 r12_ => dNil r12_ <| cB r1_ fun p11 r13_ => dNil r13_ <| dEnd tm <| Mi_step p1 p2 p3 p4 p5 p6 p7 p8 p9 p10 p11 (fun r1 r2 r3 r4 r5 r6 r7 r8 r9 r10 r11 r12 => K (.tup [.agg [.sl 0, .sl 1, .sl 2, .sl 3, .int .i64 r1, .sl 4, .int .i64 r2, .sl 5, .int .i64 r3, .bool r4], .int .i64 r5, .bool r6]) [⟨true, .list .int r7⟩, ⟨true, .list .int r8⟩, ⟨true, .list .int r9⟩, ⟨true, .list .int r10⟩, ⟨true, .list .int r11⟩, ⟨true, .list .op r12⟩])
def H93_1000004 : LH where
  keep := [(1, .bl), (2, .pc [.own .int, .own .int, .own .int, .own .int, .x, .own .int, .x, .own .op, .x, .bl]), (4, .pc [.own .int, .own .int, .own .int, .own .int, .x, .own .int, .x, .own .op, .x, .bl])]
  S := Bool × Int × Int × Int × Bool × Int × Int × Int × Bool × List Int × List Int × List Int × List Int × List Int × List OpV × List Int × List Int × List Int × List Int × List Int × List OpV
  enc := fun s => ([.bool s.1, .ptr 0 0, .ptr 1 0], [⟨true, .cells [.sl 2, .sl 3, .sl 4, .sl 5, .int .i64 s.2.1, .sl 6, .int .i64 s.2.2.1, .sl 7, .int .i64 s.2.2.2.1, .bool s.2.2.2.2.1]⟩, ⟨true, .cells [.sl 8, .sl 9, .sl 10, .sl 11, .int .i64 s.2.2.2.2.2.1, .sl 12, .int .i64 s.2.2.2.2.2.2.1, .sl 13, .int .i64 s.2.2.2.2.2.2.2.1, .bool s.2.2.2.2.2.2.2.2.1]⟩, ⟨true, .list .int s.2.2.2.2.2.2.2.2.2.1⟩, ⟨true, .list .int s.2.2.2.2.2.2.2.2.2.2.1⟩, ⟨true, .list .int s.2.2.2.2.2.2.2.2.2.2.2.1⟩, ⟨true, .list .int s.2.2.2.2.2.2.2.2.2.2.2.2.1⟩, ⟨true, .list .int s.2.2.2.2.2.2.2.2.2.2.2.2.2.1⟩, ⟨true, .list .op s.2.2.2.2.2.2.2.2.2.2.2.2.2.2.1⟩, ⟨true, .list .int s.2.2.2.2.2.2.2.2.2.2.2.2.2.2.2.1⟩, ⟨true, .list .int s.2.2.2.2.2.2.2.2.2.2.2.2.2.2.2.2.1⟩, ⟨true, .list .int s.2.2.2.2.2.2.2.2.2.2.2.2.2.2.2.2.2.1⟩, ⟨true, .list .int s.2.2.2.2.2.2.2.2.2.2.2.2.2.2.2.2.2.2.1⟩, ⟨true, .list .int s.2.2.2.2.2.2.2.2.2.2.2.2.2.2.2.2.2.2.2.1⟩, ⟨true, .list .op s.2.2.2.2.2.2.2.2.2.2.2.2.2.2.2.2.2.2.2.2⟩])
  dec := fun vs tm K => cB vs fun q0 r1_ => cQ 0 r1_ fun r2_ => cQ 1 r2_ fun r3_ => dNil r3_ <| bC true tm fun c5_ m4_ => cL 2 c5_ fun r6_ => cL 3 r6_ fun r7_ => cL 4 r7_ fun r8_ => cL 5 r8_ fun r9_ => cI .i64 r9_ fun q1 r10_ => cL 6 r10_ fun r11_ => cI .i64 r11_ fun q2 r12_ => cL 7 r12_ fun r13_ => cI .i64 r13_ fun q3 r14_ => cB r14_ fun q4 r15_ => dNil r15_ <| bC true m4_ fun c17_ m16_ => cL 8 c17_ fun r18_ => cL 9 r18_ fun r19_ => cL 10 r19_ fun r20_ => cL 11 r20_ fun r21_ => cI .i64 r21_ fun q5 r22_ => cL 12 r22_ fun r23_ => cI .i64 r23_ fun q6 r24_ => cL 13 r24_ fun r25_ => cI .i64 r25_ fun q7 r26_ => cB r26_ fun q8 r27_ => dNil r27_ <| bL true .int m16_ fun q9 m28_ => bL true .int m28_ fun q10 m29_ => bL true .int m29_ fun q11 m30_ => bL true .int m30_ fun q12 m31_ => bL true .int m31_ fun q13 m32_ => bL true .op m32_ fun q14 m33_ => bL true .int m33_ fun q15 m34_ => bL true .int m34_ fun q16 m35_ => bL true .int m35_ fun q17 m36_ => bL true .int m36_ fun q18 m37_ => bL true .int m37_ fun q19 m38_ => bL true .op m38_ fun q20 m39_ => dEnd m39_ <| K (q0, q1, q2, q3, q4, q5, q6, q7, q8, q9, q10, q11, q12, q13, q14, q15, q16, q17, q18, q19, q20)
  law := by
    intro vs tm K
    refine cB_in ?_; rintro q0 r1_ rfl
    refine cQ_in ?_; rintro r2_ rfl
    refine cQ_in ?_; rintro r3_ rfl
    refine dN_in ?_; rintro rfl
    refine bC_in ?_; rintro c5_ m4_ rfl
    refine cL_in ?_; rintro r6_ rfl
    refine cL_in ?_; rintro r7_ rfl
    refine cL_in ?_; rintro r8_ rfl
    refine cL_in ?_; rintro r9_ rfl
    refine cI_in ?_; rintro q1 r10_ rfl
    refine cL_in ?_; rintro r11_ rfl
    refine cI_in ?_; rintro q2 r12_ rfl
    refine cL_in ?_; rintro r13_ rfl
    refine cI_in ?_; rintro q3 r14_ rfl
    refine cB_in ?_; rintro q4 r15_ rfl
    refine dN_in ?_; rintro rfl
    refine bC_in ?_; rintro c17_ m16_ rfl
    refine cL_in ?_; rintro r18_ rfl
    refine cL_in ?_; rintro r19_ rfl
    refine cL_in ?_; rintro r20_ rfl
    refine cL_in ?_; rintro r21_ rfl
    refine cI_in ?_; rintro q5 r22_ rfl
    refine cL_in ?_; rintro r23_ rfl
    refine cI_in ?_; rintro q6 r24_ rfl
    refine cL_in ?_; rintro r25_ rfl
    refine cI_in ?_; rintro q7 r26_ rfl
    refine cB_in ?_; rintro q8 r27_ rfl
    refine dN_in ?_; rintro rfl
    refine bL_in ?_; rintro q9 m28_ rfl
    refine bL_in ?_; rintro q10 m29_ rfl
    refine bL_in ?_; rintro q11 m30_ rfl
    refine bL_in ?_; rintro q12 m31_ rfl
    refine bL_in ?_; rintro q13 m32_ rfl
    refine bL_in ?_; rintro q14 m33_ rfl
    refine bL_in ?_; rintro q15 m34_ rfl
    refine bL_in ?_; rintro q16 m35_ rfl
    refine bL_in ?_; rintro q17 m36_ rfl
    refine bL_in ?_; rintro q18 m37_ rfl
    refine bL_in ?_; rintro q19 m38_ rfl
    refine bL_in ?_; rintro q20 m39_ rfl
    refine dE_in ?_; rintro rfl
    exact fun h => ⟨(q0, q1, q2, q3, q4, q5, q6, q7, q8, q9, q10, q11, q12, q13, q14, q15, q16, q17, q18, q19, q20), rfl, h⟩
def H93_1000007 : LH where
  keep := [(1, .bl), (2, .pc [.own .int, .own .int, .own .int, .own .int, .x, .own .int, .x, .own .op, .x, .bl]), (4, .pc [.own .int, .own .int, .own .int, .own .int, .x, .own .int, .x, .own .op, .x, .bl]), (7, .pc [.x, .x, .x]), (8, .x), (9, .pc [.own .int, .own .int, .own .int, .own .int]), (10, .x)]
  S := Bool × Int × Int × Int × Int × Int × Bool × Int × Int × Int × Bool × Int × Int × Int × List Int × List Int × List Int × List Int × List Int × List OpV × List Int × List Int × List Int × List Int × List Int × List OpV × List Int × List Int × List Int × List Int
  enc := fun s => ([.bool s.1, .ptr 0 0, .ptr 1 0, .ptr 2 0, .int .i64 s.2.1, .ptr 3 0, .int .i64 s.2.2.1], [⟨true, .cells [.sl 4, .sl 5, .sl 6, .sl 7, .int .i64 s.2.2.2.1, .sl 8, .int .i64 s.2.2.2.2.1, .sl 9, .int .i64 s.2.2.2.2.2.1, .bool s.2.2.2.2.2.2.1]⟩, ⟨true, .cells [.sl 10, .sl 11, .sl 12, .sl 13, .int .i64 s.2.2.2.2.2.2.2.1, .sl 14, .int .i64 s.2.2.2.2.2.2.2.2.1, .sl 15, .int .i64 s.2.2.2.2.2.2.2.2.2.1, .bool s.2.2.2.2.2.2.2.2.2.2.1]⟩, ⟨true, .cells [.int .i64 s.2.2.2.2.2.2.2.2.2.2.2.1, .int .i64 s.2.2.2.2.2.2.2.2.2.2.2.2.1, .int .i64 s.2.2.2.2.2.2.2.2.2.2.2.2.2.1]⟩, ⟨true, .cells [.sl 16, .sl 17, .sl 18, .sl 19]⟩, ⟨true, .list .int s.2.2.2.2.2.2.2.2.2.2.2.2.2.2.1⟩, ⟨true, .list .int s.2.2.2.2.2.2.2.2.2.2.2.2.2.2.2.1⟩, ⟨true, .list .int s.2.2.2.2.2.2.2.2.2.2.2.2.2.2.2.2.1⟩, ⟨true, .list .int s.2.2.2.2.2.2.2.2.2.2.2.2.2.2.2.2.2.1⟩, ⟨true, .list .int s.2.2.2.2.2.2.2.2.2.2.2.2.2.2.2.2.2.2.1⟩, ⟨true, .list .op s.2.2.2.2.2.2.2.2.2.2.2.2.2.2.2.2.2.2.2.1⟩, ⟨true, .list .int s.2.2.2.2.2.2.2.2.2.2.2.2.2.2.2.2.2.2.2.2.1⟩, ⟨true, .list .int s.2.2.2.2.2.2.2.2.2.2.2.2.2.2.2.2.2.2.2.2.2.1⟩, ⟨true, .list .int s.2.2.2.2.2.2.2.2.2.2.2.2.2.2.2.2.2.2.2.2.2.2.1⟩, ⟨true, .list .int s.2.2.2.2.2.2.2.2.2.2.2.2.2.2.2.2.2.2.2.2.2.2.2.1⟩, ⟨true, .list .int s.2.2.2.2.2.2.2.2.2.2.2.2.2.2.2.2.2.2.2.2.2.2.2.2.1⟩, ⟨true, .list .op s.2.2.2.2.2.2.2.2.2.2.2.2.2.2.2.2.2.2.2.2.2.2.2.2.2.1⟩, ⟨true, .list .int s.2.2.2.2.2.2.2.2.2.2.2.2.2.2.2.2.2.2.2.2.2.2.2.2.2.2.1⟩, ⟨true, .list .int s.2.2.2.2.2.2.2.2.2.2.2.2.2.2.2.2.2.2.2.2.2.2.2.2.2.2.2.1⟩, ⟨true, .list .int s.2.2.2.2.2.2.2.2.2.2.2.2.2.2.2.2.2.2.2.2.2.2.2.2.2.2.2.2.1⟩, ⟨true, .list .int s.2.2.2.2.2.2.2.2.2.2.2.2.2.2.2.2.2.2.2.2.2.2.2.2.2.2.2.2.2⟩])
  dec := fun vs tm K => cB vs fun q0 r1_ => cQ 0 r1_ fun r2_ => cQ 1 r2_ fun r3_ => cQ 2 r3_ fun r4_ => cI .i64 r4_ fun q1 r5_ => cQ 3 r5_ fun r6_ => cI .i64 r6_ fun q2 r7_ => dNil r7_ <| bC true tm fun c9_ m8_ => cL 4 c9_ fun r10_ => cL 5 r10_ fun r11_ => cL 6 r11_ fun r12_ => cL 7 r12_ fun r13_ => cI .i64 r13_ fun q3 r14_ => cL 8 r14_ fun r15_ => cI .i64 r15_ fun q4 r16_ => cL 9 r16_ fun r17_ => cI .i64 r17_ fun q5 r18_ => cB r18_ fun q6 r19_ => dNil r19_ <| bC true m8_ fun c21_ m20_ => cL 10 c21_ fun r22_ => cL 11 r22_ fun r23_ => cL 12 r23_ fun r24_ => cL 13 r24_ fun r25_ => cI .i64 r25_ fun q7 r26_ => cL 14 r26_ fun r27_ => cI .i64 r27_ fun q8 r28_ => cL 15 r28_ fun r29_ => cI .i64 r29_ fun q9 r30_ => cB r30_ fun q10 r31_ => dNil r31_ <| bC true m20_ fun c33_ m32_ => cI .i64 c33_ fun q11 r34_ => cI .i64 r34_ fun q12 r35_ => cI .i64 r35_ fun q13 r36_ => dNil r36_ <| bC true m32_ fun c38_ m37_ => cL 16 c38_ fun r39_ => cL 17 r39_ fun r40_ => cL 18 r40_ fun r41_ => cL 19 r41_ fun r42_ => dNil r42_ <| bL true .int m37_ fun q14 m43_ => bL true .int m43_ fun q15 m44_ => bL true .int m44_ fun q16 m45_ => bL true .int m45_ fun q17 m46_ => bL true .int m46_ fun q18 m47_ => bL true .op m47_ fun q19 m48_ => bL true .int m48_ fun q20 m49_ => bL true .int m49_ fun q21 m50_ => bL true .int m50_ fun q22 m51_ => bL true .int m51_ fun q23 m52_ => bL true .int m52_ fun q24 m53_ => bL true .op m53_ fun q25 m54_ => bL true .int m54_ fun q26 m55_ => bL true .int m55_ fun q27 m56_ => bL true .int m56_ fun q28 m57_ => bL true .int m57_ fun q29 m58_ => dEnd m58_ <| K (q0, q1, q2, q3, q4, q5, q6, q7, q8, q9, q10, q11, q12, q13, q14, q15, q16, q17, q18, q19, q20, q21, q22, q23, q24, q25, q26, q27, q28, q29)
  law := by
    intro vs tm K
    refine cB_in ?_; rintro q0 r1_ rfl
    refine cQ_in ?_; rintro r2_ rfl
    refine cQ_in ?_; rintro r3_ rfl
    refine cQ_in ?_; rintro r4_ rfl
    refine cI_in ?_; rintro q1 r5_ rfl
    refine cQ_in ?_; rintro r6_ rfl
    refine cI_in ?_; rintro q2 r7_ rfl
    refine dN_in ?_; rintro rfl
    refine bC_in ?_; rintro c9_ m8_ rfl
    refine cL_in ?_; rintro r10_ rfl
    refine cL_in ?_; rintro r11_ rfl
    refine cL_in ?_; rintro r12_ rfl
    refine cL_in ?_; rintro r13_ rfl
    refine cI_in ?_; rintro q3 r14_ rfl
    refine cL_in ?_; rintro r15_ rfl
    refine cI_in ?_; rintro q4 r16_ rfl
    refine cL_in ?_; rintro r17_ rfl
    refine cI_in ?_; rintro q5 r18_ rfl
    refine cB_in ?_; rintro q6 r19_ rfl
    refine dN_in ?_; rintro rfl
    refine bC_in ?_; rintro c21_ m20_ rfl
    refine cL_in ?_; rintro r22_ rfl
    refine cL_in ?_; rintro r23_ rfl
    refine cL_in ?_; rintro r24_ rfl
    refine cL_in ?_; rintro r25_ rfl
    refine cI_in ?_; rintro q7 r26_ rfl
    refine cL_in ?_; rintro r27_ rfl
    refine cI_in ?_; rintro q8 r28_ rfl
    refine cL_in ?_; rintro r29_ rfl
    refine cI_in ?_; rintro q9 r30_ rfl
    refine cB_in ?_; rintro q10 r31_ rfl
    refine dN_in ?_; rintro rfl
    refine bC_in ?_; rintro c33_ m32_ rfl
    refine cI_in ?_; rintro q11 r34_ rfl
    refine cI_in ?_; rintro q12 r35_ rfl
    refine cI_in ?_; rintro q13 r36_ rfl
    refine dN_in ?_; rintro rfl
    refine bC_in ?_; rintro c38_ m37_ rfl
    refine cL_in ?_; rintro r39_ rfl
    refine cL_in ?_; rintro r40_ rfl
    refine cL_in ?_; rintro r41_ rfl
    refine cL_in ?_; rintro r42_ rfl
    refine dN_in ?_; rintro rfl
    refine bL_in ?_; rintro q14 m43_ rfl
    refine bL_in ?_; rintro q15 m44_ rfl
    refine bL_in ?_; rintro q16 m45_ rfl
    refine bL_in ?_; rintro q17 m46_ rfl
    refine bL_in ?_; rintro q18 m47_ rfl
    refine bL_in ?_; rintro q19 m48_ rfl
    refine bL_in ?_; rintro q20 m49_ rfl
    refine bL_in ?_; rintro q21 m50_ rfl
    refine bL_in ?_; rintro q22 m51_ rfl
    refine bL_in ?_; rintro q23 m52_ rfl
    refine bL_in ?_; rintro q24 m53_ rfl
    refine bL_in ?_; rintro q25 m54_ rfl
    refine bL_in ?_; rintro q26 m55_ rfl
    refine bL_in ?_; rintro q27 m56_ rfl
    refine bL_in ?_; rintro q28 m57_ rfl
    refine bL_in ?_; rintro q29 m58_ rfl
    refine dE_in ?_; rintro rfl
    exact fun h => ⟨(q0, q1, q2, q3, q4, q5, q6, q7, q8, q9, q10, q11, q12, q13, q14, q15, q16, q17, q18, q19, q20, q21, q22, q23, q24, q25, q26, q27, q28, q29), rfl, h⟩
def H93_1000015 : LH where
  keep := [(2, .pc [.own .int, .own .int, .own .int, .own .int, .x, .own .int, .x, .own .op, .x, .bl]), (4, .pc [.own .int, .own .int, .own .int, .own .int, .x, .own .int, .x, .own .op, .x, .bl]), (10, .x)]
  S := Int × Int × Int × Int × Bool × Int × Int × Int × Bool × List Int × List Int × List Int × List Int × List Int × List OpV × List Int × List Int × List Int × List Int × List Int × List OpV
  enc := fun s => ([.ptr 0 0, .ptr 1 0, .int .i64 s.1], [⟨true, .cells [.sl 2, .sl 3, .sl 4, .sl 5, .int .i64 s.2.1, .sl 6, .int .i64 s.2.2.1, .sl 7, .int .i64 s.2.2.2.1, .bool s.2.2.2.2.1]⟩, ⟨true, .cells [.sl 8, .sl 9, .sl 10, .sl 11, .int .i64 s.2.2.2.2.2.1, .sl 12, .int .i64 s.2.2.2.2.2.2.1, .sl 13, .int .i64 s.2.2.2.2.2.2.2.1, .bool s.2.2.2.2.2.2.2.2.1]⟩, ⟨true, .list .int s.2.2.2.2.2.2.2.2.2.1⟩, ⟨true, .list .int s.2.2.2.2.2.2.2.2.2.2.1⟩, ⟨true, .list .int s.2.2.2.2.2.2.2.2.2.2.2.1⟩, ⟨true, .list .int s.2.2.2.2.2.2.2.2.2.2.2.2.1⟩, ⟨true, .list .int s.2.2.2.2.2.2.2.2.2.2.2.2.2.1⟩, ⟨true, .list .op s.2.2.2.2.2.2.2.2.2.2.2.2.2.2.1⟩, ⟨true, .list .int s.2.2.2.2.2.2.2.2.2.2.2.2.2.2.2.1⟩, ⟨true, .list .int s.2.2.2.2.2.2.2.2.2.2.2.2.2.2.2.2.1⟩, ⟨true, .list .int s.2.2.2.2.2.2.2.2.2.2.2.2.2.2.2.2.2.1⟩, ⟨true, .list .int s.2.2.2.2.2.2.2.2.2.2.2.2.2.2.2.2.2.2.1⟩, ⟨true, .list .int s.2.2.2.2.2.2.2.2.2.2.2.2.2.2.2.2.2.2.2.1⟩, ⟨true, .list .op s.2.2.2.2.2.2.2.2.2.2.2.2.2.2.2.2.2.2.2.2⟩])
  dec := fun vs tm K => cQ 0 vs fun r1_ => cQ 1 r1_ fun r2_ => cI .i64 r2_ fun q0 r3_ => dNil r3_ <| bC true tm fun c5_ m4_ => cL 2 c5_ fun r6_ => cL 3 r6_ fun r7_ => cL 4 r7_ fun r8_ => cL 5 r8_ fun r9_ => cI .i64 r9_ fun q1 r10_ => cL 6 r10_ fun r11_ => cI .i64 r11_ fun q2 r12_ => cL 7 r12_ fun r13_ => cI .i64 r13_ fun q3 r14_ => cB r14_ fun q4 r15_ => dNil r15_ <| bC true m4_ fun c17_ m16_ => cL 8 c17_ fun r18_ => cL 9 r18_ fun r19_ => cL 10 r19_ fun r20_ => cL 11 r20_ fun r21_ => cI .i64 r21_ fun q5 r22_ => cL 12 r22_ fun r23_ => cI .i64 r23_ fun q6 r24_ => cL 13 r24_ fun r25_ => cI .i64 r25_ fun q7 r26_ => cB r26_ fun q8 r27_ => dNil r27_ <| bL true .int m16_ fun q9 m28_ => bL true .int m28_ fun q10 m29_ => bL true .int m29_ fun q11 m30_ => bL true .int m30_ fun q12 m31_ => bL true .int m31_ fun q13 m32_ => bL true .op m32_ fun q14 m33_ => bL true .int m33_ fun q15 m34_ => bL true .int m34_ fun q16 m35_ => bL true .int m35_ fun q17 m36_ => bL true .int m36_ fun q18 m37_ => bL true .int m37_ fun q19 m38_ => bL true .op m38_ fun q20 m39_ => dEnd m39_ <| K (q0, q1, q2, q3, q4, q5, q6, q7, q8, q9, q10, q11, q12, q13, q14, q15, q16, q17, q18, q19, q20)
  law := by
    intro vs tm K
    refine cQ_in ?_; rintro r1_ rfl
    refine cQ_in ?_; rintro r2_ rfl
    refine cI_in ?_; rintro q0 r3_ rfl
    refine dN_in ?_; rintro rfl
    refine bC_in ?_; rintro c5_ m4_ rfl
    refine cL_in ?_; rintro r6_ rfl
    refine cL_in ?_; rintro r7_ rfl
    refine cL_in ?_; rintro r8_ rfl
    refine cL_in ?_; rintro r9_ rfl
    refine cI_in ?_; rintro q1 r10_ rfl
    refine cL_in ?_; rintro r11_ rfl
    refine cI_in ?_; rintro q2 r12_ rfl
    refine cL_in ?_; rintro r13_ rfl
    refine cI_in ?_; rintro q3 r14_ rfl
    refine cB_in ?_; rintro q4 r15_ rfl
    refine dN_in ?_; rintro rfl
    refine bC_in ?_; rintro c17_ m16_ rfl
    refine cL_in ?_; rintro r18_ rfl
    refine cL_in ?_; rintro r19_ rfl
    refine cL_in ?_; rintro r20_ rfl
    refine cL_in ?_; rintro r21_ rfl
    refine cI_in ?_; rintro q5 r22_ rfl
    refine cL_in ?_; rintro r23_ rfl
    refine cI_in ?_; rintro q6 r24_ rfl
    refine cL_in ?_; rintro r25_ rfl
    refine cI_in ?_; rintro q7 r26_ rfl
    refine cB_in ?_; rintro q8 r27_ rfl
    refine dN_in ?_; rintro rfl
    refine bL_in ?_; rintro q9 m28_ rfl
    refine bL_in ?_; rintro q10 m29_ rfl
    refine bL_in ?_; rintro q11 m30_ rfl
    refine bL_in ?_; rintro q12 m31_ rfl
    refine bL_in ?_; rintro q13 m32_ rfl
    refine bL_in ?_; rintro q14 m33_ rfl
    refine bL_in ?_; rintro q15 m34_ rfl
    refine bL_in ?_; rintro q16 m35_ rfl
    refine bL_in ?_; rintro q17 m36_ rfl
    refine bL_in ?_; rintro q18 m37_ rfl
    refine bL_in ?_; rintro q19 m38_ rfl
    refine bL_in ?_; rintro q20 m39_ rfl
    refine dE_in ?_; rintro rfl
    exact fun h => ⟨(q0, q1, q2, q3, q4, q5, q6, q7, q8, q9, q10, q11, q12, q13, q14, q15, q16, q17, q18, q19, q20), rfl, h⟩
def H93 : List (Nat × LH) := [(1000004, H93_1000004), (1000007, H93_1000007), (1000015, H93_1000015)]
def W93 : List (Nat × List (Nat × List Nat)) := []
def Γ93 : List (Nat × Con) := [(34, useC [.ag [.pure .int, .pure .int, .pure .int, .pure .int, .x, .pure .int, .x, .pure .op, .x, .bl]] G34), (35, useC [.ag [.pure .int, .pure .int, .pure .int, .pure .int, .x, .pure .int, .x, .pure .op, .x, .bl]] G35), (152, useC [.ag [.pure .int, .pure .int, .pure .int, .pure .int], .ag [.x, .x, .x]] G152), (68, useC [.ag [.pure .int, .pure .int, .pure .int, .pure .int], .ag [.x, .x, .x]] G68), (153, useC [.ag [.pure .int, .pure .int, .pure .int, .pure .int], .ag [.x, .pure .int, .x], .x] G153), (154, useC [.ag [.pure .int, .pure .int, .pure .int, .pure .int], .ag [.x, .pure .int, .x], .x] G154)]
theorem q93_15 (s : H93_1000015.S) (K : TV → TMem → Prop) : segT PP 95 Γ93 H93 W93 0 (sufC 11 (bodyOf Tryz.f93)) (endT PP 95 [.cell 4 32, .tmp 5, .tmp 6] [.ag [.own .int, .own .int, .own .int, .own .int, .x, .own .int, .x, .own .op, .x, .bl], .x, .bl] [] 0 K) (frameOf H93_1000015.keep (H93_1000015.enc s).1) (H93_1000015.enc s).2 =
    Mi_step_c15 s.1 s.2.1 s.2.2.1 s.2.2.2.1 s.2.2.2.2.1 s.2.2.2.2.2.1 s.2.2.2.2.2.2.1 s.2.2.2.2.2.2.2.1 s.2.2.2.2.2.2.2.2.1 s.2.2.2.2.2.2.2.2.2.1 s.2.2.2.2.2.2.2.2.2.2.1 s.2.2.2.2.2.2.2.2.2.2.2.1 s.2.2.2.2.2.2.2.2.2.2.2.2.1 s.2.2.2.2.2.2.2.2.2.2.2.2.2.1 s.2.2.2.2.2.2.2.2.2.2.2.2.2.2.1 s.2.2.2.2.2.2.2.2.2.2.2.2.2.2.2.1 s.2.2.2.2.2.2.2.2.2.2.2.2.2.2.2.2.1 s.2.2.2.2.2.2.2.2.2.2.2.2.2.2.2.2.2.1 s.2.2.2.2.2.2.2.2.2.2.2.2.2.2.2.2.2.2.1 s.2.2.2.2.2.2.2.2.2.2.2.2.2.2.2.2.2.2.2.1 s.2.2.2.2.2.2.2.2.2.2.2.2.2.2.2.2.2.2.2.2 (fun r1 r2 r3 r4 r5 r6 r7 r8 r9 r10 r11 r12 => K (.tup [.agg [.sl 0, .sl 1, .sl 2, .sl 3, .int .i64 r1, .sl 4, .int .i64 r2, .sl 5, .int .i64 r3, .bool r4], .int .i64 r5, .bool r6]) [⟨true, .list .int r7⟩, ⟨true, .list .int r8⟩, ⟨true, .list .int r9⟩, ⟨true, .list .int r10⟩, ⟨true, .list .int r11⟩, ⟨true, .list .op r12⟩]) := by kernel_rfl
theorem j93_15 (K : TV → TMem → Prop) (ts : TFrm) (tm : TMem) : (headT 0 H93_1000015 ts tm fun s => Mi_step_c15 s.1 s.2.1 s.2.2.1 s.2.2.2.1 s.2.2.2.2.1 s.2.2.2.2.2.1 s.2.2.2.2.2.2.1 s.2.2.2.2.2.2.2.1 s.2.2.2.2.2.2.2.2.1 s.2.2.2.2.2.2.2.2.2.1 s.2.2.2.2.2.2.2.2.2.2.1 s.2.2.2.2.2.2.2.2.2.2.2.1 s.2.2.2.2.2.2.2.2.2.2.2.2.1 s.2.2.2.2.2.2.2.2.2.2.2.2.2.1 s.2.2.2.2.2.2.2.2.2.2.2.2.2.2.1 s.2.2.2.2.2.2.2.2.2.2.2.2.2.2.2.1 s.2.2.2.2.2.2.2.2.2.2.2.2.2.2.2.2.1 s.2.2.2.2.2.2.2.2.2.2.2.2.2.2.2.2.2.1 s.2.2.2.2.2.2.2.2.2.2.2.2.2.2.2.2.2.2.1 s.2.2.2.2.2.2.2.2.2.2.2.2.2.2.2.2.2.2.2.1 s.2.2.2.2.2.2.2.2.2.2.2.2.2.2.2.2.2.2.2.2 (fun r1 r2 r3 r4 r5 r6 r7 r8 r9 r10 r11 r12 => K (.tup [.agg [.sl 0, .sl 1, .sl 2, .sl 3, .int .i64 r1, .sl 4, .int .i64 r2, .sl 5, .int .i64 r3, .bool r4], .int .i64 r5, .bool r6]) [⟨true, .list .int r7⟩, ⟨true, .list .int r8⟩, ⟨true, .list .int r9⟩, ⟨true, .list .int r10⟩, ⟨true, .list .int r11⟩, ⟨true, .list .op r12⟩])) = TW PP 95 Γ93 H93 W93 0 (sufC 11 (bodyOf Tryz.f93)) (endT PP 95 [.cell 4 32, .tmp 5, .tmp 6] [.ag [.own .int, .own .int, .own .int, .own .int, .x, .own .int, .x, .own .op, .x, .bl], .x, .bl] [] 0 K) ts tm :=
  TW_seg (by kernel_rfl : regOf (sufC 11 (bodyOf Tryz.f93)) = some 15) (by kernel_rfl) (fun s => q93_15 s K) ts tm
theorem r93_7 (s : H93_1000007.S) (K : TV → TMem → Prop) : segN PP 95 Γ93 H93 W93 0 4 (sufC 6 (bodyOf Tryz.f93)) (fun ts tm => headT 0 H93_1000015 ts tm fun s => Mi_step_c15 s.1 s.2.1 s.2.2.1 s.2.2.2.1 s.2.2.2.2.1 s.2.2.2.2.2.1 s.2.2.2.2.2.2.1 s.2.2.2.2.2.2.2.1 s.2.2.2.2.2.2.2.2.1 s.2.2.2.2.2.2.2.2.2.1 s.2.2.2.2.2.2.2.2.2.2.1 s.2.2.2.2.2.2.2.2.2.2.2.1 s.2.2.2.2.2.2.2.2.2.2.2.2.1 s.2.2.2.2.2.2.2.2.2.2.2.2.2.1 s.2.2.2.2.2.2.2.2.2.2.2.2.2.2.1 s.2.2.2.2.2.2.2.2.2.2.2.2.2.2.2.1 s.2.2.2.2.2.2.2.2.2.2.2.2.2.2.2.2.1 s.2.2.2.2.2.2.2.2.2.2.2.2.2.2.2.2.2.1 s.2.2.2.2.2.2.2.2.2.2.2.2.2.2.2.2.2.2.1 s.2.2.2.2.2.2.2.2.2.2.2.2.2.2.2.2.2.2.2.1 s.2.2.2.2.2.2.2.2.2.2.2.2.2.2.2.2.2.2.2.2 (fun r1 r2 r3 r4 r5 r6 r7 r8 r9 r10 r11 r12 => K (.tup [.agg [.sl 0, .sl 1, .sl 2, .sl 3, .int .i64 r1, .sl 4, .int .i64 r2, .sl 5, .int .i64 r3, .bool r4], .int .i64 r5, .bool r6]) [⟨true, .list .int r7⟩, ⟨true, .list .int r8⟩, ⟨true, .list .int r9⟩, ⟨true, .list .int r10⟩, ⟨true, .list .int r11⟩, ⟨true, .list .op r12⟩])) (endT PP 95 [.cell 4 32, .tmp 5, .tmp 6] [.ag [.own .int, .own .int, .own .int, .own .int, .x, .own .int, .x, .own .op, .x, .bl], .x, .bl] [] 0 K) (frameOf H93_1000007.keep (H93_1000007.enc s).1) (H93_1000007.enc s).2 =
    Mi_step_c7 s.1 s.2.1 s.2.2.1 s.2.2.2.1 s.2.2.2.2.1 s.2.2.2.2.2.1 s.2.2.2.2.2.2.1 s.2.2.2.2.2.2.2.1 s.2.2.2.2.2.2.2.2.1 s.2.2.2.2.2.2.2.2.2.1 s.2.2.2.2.2.2.2.2.2.2.1 s.2.2.2.2.2.2.2.2.2.2.2.1 s.2.2.2.2.2.2.2.2.2.2.2.2.1 s.2.2.2.2.2.2.2.2.2.2.2.2.2.1 s.2.2.2.2.2.2.2.2.2.2.2.2.2.2.1 s.2.2.2.2.2.2.2.2.2.2.2.2.2.2.2.1 s.2.2.2.2.2.2.2.2.2.2.2.2.2.2.2.2.1 s.2.2.2.2.2.2.2.2.2.2.2.2.2.2.2.2.2.1 s.2.2.2.2.2.2.2.2.2.2.2.2.2.2.2.2.2.2.1 s.2.2.2.2.2.2.2.2.2.2.2.2.2.2.2.2.2.2.2.1 s.2.2.2.2.2.2.2.2.2.2.2.2.2.2.2.2.2.2.2.2.1 s.2.2.2.2.2.2.2.2.2.2.2.2.2.2.2.2.2.2.2.2.2.1 s.2.2.2.2.2.2.2.2.2.2.2.2.2.2.2.2.2.2.2.2.2.2.1 s.2.2.2.2.2.2.2.2.2.2.2.2.2.2.2.2.2.2.2.2.2.2.2.1 s.2.2.2.2.2.2.2.2.2.2.2.2.2.2.2.2.2.2.2.2.2.2.2.2.1 s.2.2.2.2.2.2.2.2.2.2.2.2.2.2.2.2.2.2.2.2.2.2.2.2.2.1 s.2.2.2.2.2.2.2.2.2.2.2.2.2.2.2.2.2.2.2.2.2.2.2.2.2.2.1 s.2.2.2.2.2.2.2.2.2.2.2.2.2.2.2.2.2.2.2.2.2.2.2.2.2.2.2.1 s.2.2.2.2.2.2.2.2.2.2.2.2.2.2.2.2.2.2.2.2.2.2.2.2.2.2.2.2.1 s.2.2.2.2.2.2.2.2.2.2.2.2.2.2.2.2.2.2.2.2.2.2.2.2.2.2.2.2.2 (fun r1 r2 r3 r4 r5 r6 r7 r8 r9 r10 r11 r12 => K (.tup [.agg [.sl 0, .sl 1, .sl 2, .sl 3, .int .i64 r1, .sl 4, .int .i64 r2, .sl 5, .int .i64 r3, .bool r4], .int .i64 r5, .bool r6]) [⟨true, .list .int r7⟩, ⟨true, .list .int r8⟩, ⟨true, .list .int r9⟩, ⟨true, .list .int r10⟩, ⟨true, .list .int r11⟩, ⟨true, .list .op r12⟩]) := by kernel_rfl
theorem q93_7 (s : H93_1000007.S) (K : TV → TMem → Prop) : segT PP 95 Γ93 H93 W93 0 (sufC 6 (bodyOf Tryz.f93)) (endT PP 95 [.cell 4 32, .tmp 5, .tmp 6] [.ag [.own .int, .own .int, .own .int, .own .int, .x, .own .int, .x, .own .op, .x, .bl], .x, .bl] [] 0 K) (frameOf H93_1000007.keep (H93_1000007.enc s).1) (H93_1000007.enc s).2 =
    Mi_step_c7 s.1 s.2.1 s.2.2.1 s.2.2.2.1 s.2.2.2.2.1 s.2.2.2.2.2.1 s.2.2.2.2.2.2.1 s.2.2.2.2.2.2.2.1 s.2.2.2.2.2.2.2.2.1 s.2.2.2.2.2.2.2.2.2.1 s.2.2.2.2.2.2.2.2.2.2.1 s.2.2.2.2.2.2.2.2.2.2.2.1 s.2.2.2.2.2.2.2.2.2.2.2.2.1 s.2.2.2.2.2.2.2.2.2.2.2.2.2.1 s.2.2.2.2.2.2.2.2.2.2.2.2.2.2.1 s.2.2.2.2.2.2.2.2.2.2.2.2.2.2.2.1 s.2.2.2.2.2.2.2.2.2.2.2.2.2.2.2.2.1 s.2.2.2.2.2.2.2.2.2.2.2.2.2.2.2.2.2.1 s.2.2.2.2.2.2.2.2.2.2.2.2.2.2.2.2.2.2.1 s.2.2.2.2.2.2.2.2.2.2.2.2.2.2.2.2.2.2.2.1 s.2.2.2.2.2.2.2.2.2.2.2.2.2.2.2.2.2.2.2.2.1 s.2.2.2.2.2.2.2.2.2.2.2.2.2.2.2.2.2.2.2.2.2.1 s.2.2.2.2.2.2.2.2.2.2.2.2.2.2.2.2.2.2.2.2.2.2.1 s.2.2.2.2.2.2.2.2.2.2.2.2.2.2.2.2.2.2.2.2.2.2.2.1 s.2.2.2.2.2.2.2.2.2.2.2.2.2.2.2.2.2.2.2.2.2.2.2.2.1 s.2.2.2.2.2.2.2.2.2.2.2.2.2.2.2.2.2.2.2.2.2.2.2.2.2.1 s.2.2.2.2.2.2.2.2.2.2.2.2.2.2.2.2.2.2.2.2.2.2.2.2.2.2.1 s.2.2.2.2.2.2.2.2.2.2.2.2.2.2.2.2.2.2.2.2.2.2.2.2.2.2.2.1 s.2.2.2.2.2.2.2.2.2.2.2.2.2.2.2.2.2.2.2.2.2.2.2.2.2.2.2.2.1 s.2.2.2.2.2.2.2.2.2.2.2.2.2.2.2.2.2.2.2.2.2.2.2.2.2.2.2.2.2 (fun r1 r2 r3 r4 r5 r6 r7 r8 r9 r10 r11 r12 => K (.tup [.agg [.sl 0, .sl 1, .sl 2, .sl 3, .int .i64 r1, .sl 4, .int .i64 r2, .sl 5, .int .i64 r3, .bool r4], .int .i64 r5, .bool r6]) [⟨true, .list .int r7⟩, ⟨true, .list .int r8⟩, ⟨true, .list .int r9⟩, ⟨true, .list .int r10⟩, ⟨true, .list .int r11⟩, ⟨true, .list .op r12⟩]) :=
  (segN_eq (by kernel_rfl) fun ts tm => (j93_15 K ts tm).trans (congrArg (fun c => TW PP 95 Γ93 H93 W93 0 c (endT PP 95 [.cell 4 32, .tmp 5, .tmp 6] [.ag [.own .int, .own .int, .own .int, .own .int, .x, .own .int, .x, .own .op, .x, .bl], .x, .bl] [] 0 K) ts tm) (sufC_split 6 4 11 rfl _))).trans (r93_7 s K)
theorem j93_7 (K : TV → TMem → Prop) (ts : TFrm) (tm : TMem) : (headT 0 H93_1000007 ts tm fun s => Mi_step_c7 s.1 s.2.1 s.2.2.1 s.2.2.2.1 s.2.2.2.2.1 s.2.2.2.2.2.1 s.2.2.2.2.2.2.1 s.2.2.2.2.2.2.2.1 s.2.2.2.2.2.2.2.2.1 s.2.2.2.2.2.2.2.2.2.1 s.2.2.2.2.2.2.2.2.2.2.1 s.2.2.2.2.2.2.2.2.2.2.2.1 s.2.2.2.2.2.2.2.2.2.2.2.2.1 s.2.2.2.2.2.2.2.2.2.2.2.2.2.1 s.2.2.2.2.2.2.2.2.2.2.2.2.2.2.1 s.2.2.2.2.2.2.2.2.2.2.2.2.2.2.2.1 s.2.2.2.2.2.2.2.2.2.2.2.2.2.2.2.2.1 s.2.2.2.2.2.2.2.2.2.2.2.2.2.2.2.2.2.1 s.2.2.2.2.2.2.2.2.2.2.2.2.2.2.2.2.2.2.1 s.2.2.2.2.2.2.2.2.2.2.2.2.2.2.2.2.2.2.2.1 s.2.2.2.2.2.2.2.2.2.2.2.2.2.2.2.2.2.2.2.2.1 s.2.2.2.2.2.2.2.2.2.2.2.2.2.2.2.2.2.2.2.2.2.1 s.2.2.2.2.2.2.2.2.2.2.2.2.2.2.2.2.2.2.2.2.2.2.1 s.2.2.2.2.2.2.2.2.2.2.2.2.2.2.2.2.2.2.2.2.2.2.2.1 s.2.2.2.2.2.2.2.2.2.2.2.2.2.2.2.2.2.2.2.2.2.2.2.2.1 s.2.2.2.2.2.2.2.2.2.2.2.2.2.2.2.2.2.2.2.2.2.2.2.2.2.1 s.2.2.2.2.2.2.2.2.2.2.2.2.2.2.2.2.2.2.2.2.2.2.2.2.2.2.1 s.2.2.2.2.2.2.2.2.2.2.2.2.2.2.2.2.2.2.2.2.2.2.2.2.2.2.2.1 s.2.2.2.2.2.2.2.2.2.2.2.2.2.2.2.2.2.2.2.2.2.2.2.2.2.2.2.2.1 s.2.2.2.2.2.2.2.2.2.2.2.2.2.2.2.2.2.2.2.2.2.2.2.2.2.2.2.2.2 (fun r1 r2 r3 r4 r5 r6 r7 r8 r9 r10 r11 r12 => K (.tup [.agg [.sl 0, .sl 1, .sl 2, .sl 3, .int .i64 r1, .sl 4, .int .i64 r2, .sl 5, .int .i64 r3, .bool r4], .int .i64 r5, .bool r6]) [⟨true, .list .int r7⟩, ⟨true, .list .int r8⟩, ⟨true, .list .int r9⟩, ⟨true, .list .int r10⟩, ⟨true, .list .int r11⟩, ⟨true, .list .op r12⟩])) = TW PP 95 Γ93 H93 W93 0 (sufC 6 (bodyOf Tryz.f93)) (endT PP 95 [.cell 4 32, .tmp 5, .tmp 6] [.ag [.own .int, .own .int, .own .int, .own .int, .x, .own .int, .x, .own .op, .x, .bl], .x, .bl] [] 0 K) ts tm :=
  TW_seg (by kernel_rfl : regOf (sufC 6 (bodyOf Tryz.f93)) = some 7) (by kernel_rfl) (fun s => q93_7 s K) ts tm
theorem r93_4 (s : H93_1000004.S) (K : TV → TMem → Prop) : segN PP 95 Γ93 H93 W93 0 2 (sufC 3 (bodyOf Tryz.f93)) (fun ts tm => headT 0 H93_1000007 ts tm fun s => Mi_step_c7 s.1 s.2.1 s.2.2.1 s.2.2.2.1 s.2.2.2.2.1 s.2.2.2.2.2.1 s.2.2.2.2.2.2.1 s.2.2.2.2.2.2.2.1 s.2.2.2.2.2.2.2.2.1 s.2.2.2.2.2.2.2.2.2.1 s.2.2.2.2.2.2.2.2.2.2.1 s.2.2.2.2.2.2.2.2.2.2.2.1 s.2.2.2.2.2.2.2.2.2.2.2.2.1 s.2.2.2.2.2.2.2.2.2.2.2.2.2.1 s.2.2.2.2.2.2.2.2.2.2.2.2.2.2.1 s.2.2.2.2.2.2.2.2.2.2.2.2.2.2.2.1 s.2.2.2.2.2.2.2.2.2.2.2.2.2.2.2.2.1 s.2.2.2.2.2.2.2.2.2.2.2.2.2.2.2.2.2.1 s.2.2.2.2.2.2.2.2.2.2.2.2.2.2.2.2.2.2.1 s.2.2.2.2.2.2.2.2.2.2.2.2.2.2.2.2.2.2.2.1 s.2.2.2.2.2.2.2.2.2.2.2.2.2.2.2.2.2.2.2.2.1 s.2.2.2.2.2.2.2.2.2.2.2.2.2.2.2.2.2.2.2.2.2.1 s.2.2.2.2.2.2.2.2.2.2.2.2.2.2.2.2.2.2.2.2.2.2.1 s.2.2.2.2.2.2.2.2.2.2.2.2.2.2.2.2.2.2.2.2.2.2.2.1 s.2.2.2.2.2.2.2.2.2.2.2.2.2.2.2.2.2.2.2.2.2.2.2.2.1 s.2.2.2.2.2.2.2.2.2.2.2.2.2.2.2.2.2.2.2.2.2.2.2.2.2.1 s.2.2.2.2.2.2.2.2.2.2.2.2.2.2.2.2.2.2.2.2.2.2.2.2.2.2.1 s.2.2.2.2.2.2.2.2.2.2.2.2.2.2.2.2.2.2.2.2.2.2.2.2.2.2.2.1 s.2.2.2.2.2.2.2.2.2.2.2.2.2.2.2.2.2.2.2.2.2.2.2.2.2.2.2.2.1 s.2.2.2.2.2.2.2.2.2.2.2.2.2.2.2.2.2.2.2.2.2.2.2.2.2.2.2.2.2 (fun r1 r2 r3 r4 r5 r6 r7 r8 r9 r10 r11 r12 => K (.tup [.agg [.sl 0, .sl 1, .sl 2, .sl 3, .int .i64 r1, .sl 4, .int .i64 r2, .sl 5, .int .i64 r3, .bool r4], .int .i64 r5, .bool r6]) [⟨true, .list .int r7⟩, ⟨true, .list .int r8⟩, ⟨true, .list .int r9⟩, ⟨true, .list .int r10⟩, ⟨true, .list .int r11⟩, ⟨true, .list .op r12⟩])) (endT PP 95 [.cell 4 32, .tmp 5, .tmp 6] [.ag [.own .int, .own .int, .own .int, .own .int, .x, .own .int, .x, .own .op, .x, .bl], .x, .bl] [] 0 K) (frameOf H93_1000004.keep (H93_1000004.enc s).1) (H93_1000004.enc s).2 =
    Mi_step_c4 s.1 s.2.1 s.2.2.1 s.2.2.2.1 s.2.2.2.2.1 s.2.2.2.2.2.1 s.2.2.2.2.2.2.1 s.2.2.2.2.2.2.2.1 s.2.2.2.2.2.2.2.2.1 s.2.2.2.2.2.2.2.2.2.1 s.2.2.2.2.2.2.2.2.2.2.1 s.2.2.2.2.2.2.2.2.2.2.2.1 s.2.2.2.2.2.2.2.2.2.2.2.2.1 s.2.2.2.2.2.2.2.2.2.2.2.2.2.1 s.2.2.2.2.2.2.2.2.2.2.2.2.2.2.1 s.2.2.2.2.2.2.2.2.2.2.2.2.2.2.2.1 s.2.2.2.2.2.2.2.2.2.2.2.2.2.2.2.2.1 s.2.2.2.2.2.2.2.2.2.2.2.2.2.2.2.2.2.1 s.2.2.2.2.2.2.2.2.2.2.2.2.2.2.2.2.2.2.1 s.2.2.2.2.2.2.2.2.2.2.2.2.2.2.2.2.2.2.2.1 s.2.2.2.2.2.2.2.2.2.2.2.2.2.2.2.2.2.2.2.2 (fun r1 r2 r3 r4 r5 r6 r7 r8 r9 r10 r11 r12 => K (.tup [.agg [.sl 0, .sl 1, .sl 2, .sl 3, .int .i64 r1, .sl 4, .int .i64 r2, .sl 5, .int .i64 r3, .bool r4], .int .i64 r5, .bool r6]) [⟨true, .list .int r7⟩, ⟨true, .list .int r8⟩, ⟨true, .list .int r9⟩, ⟨true, .list .int r10⟩, ⟨true, .list .int r11⟩, ⟨true, .list .op r12⟩]) := by kernel_rfl
theorem q93_4 (s : H93_1000004.S) (K : TV → TMem → Prop) : segT PP 95 Γ93 H93 W93 0 (sufC 3 (bodyOf Tryz.f93)) (endT PP 95 [.cell 4 32, .tmp 5, .tmp 6] [.ag [.own .int, .own .int, .own .int, .own .int, .x, .own .int, .x, .own .op, .x, .bl], .x, .bl] [] 0 K) (frameOf H93_1000004.keep (H93_1000004.enc s).1) (H93_1000004.enc s).2 =
    Mi_step_c4 s.1 s.2.1 s.2.2.1 s.2.2.2.1 s.2.2.2.2.1 s.2.2.2.2.2.1 s.2.2.2.2.2.2.1 s.2.2.2.2.2.2.2.1 s.2.2.2.2.2.2.2.2.1 s.2.2.2.2.2.2.2.2.2.1 s.2.2.2.2.2.2.2.2.2.2.1 s.2.2.2.2.2.2.2.2.2.2.2.1 s.2.2.2.2.2.2.2.2.2.2.2.2.1 s.2.2.2.2.2.2.2.2.2.2.2.2.2.1 s.2.2.2.2.2.2.2.2.2.2.2.2.2.2.1 s.2.2.2.2.2.2.2.2.2.2.2.2.2.2.2.1 s.2.2.2.2.2.2.2.2.2.2.2.2.2.2.2.2.1 s.2.2.2.2.2.2.2.2.2.2.2.2.2.2.2.2.2.1 s.2.2.2.2.2.2.2.2.2.2.2.2.2.2.2.2.2.2.1 s.2.2.2.2.2.2.2.2.2.2.2.2.2.2.2.2.2.2.2.1 s.2.2.2.2.2.2.2.2.2.2.2.2.2.2.2.2.2.2.2.2 (fun r1 r2 r3 r4 r5 r6 r7 r8 r9 r10 r11 r12 => K (.tup [.agg [.sl 0, .sl 1, .sl 2, .sl 3, .int .i64 r1, .sl 4, .int .i64 r2, .sl 5, .int .i64 r3, .bool r4], .int .i64 r5, .bool r6]) [⟨true, .list .int r7⟩, ⟨true, .list .int r8⟩, ⟨true, .list .int r9⟩, ⟨true, .list .int r10⟩, ⟨true, .list .int r11⟩, ⟨true, .list .op r12⟩]) :=
  (segN_eq (by kernel_rfl) fun ts tm => (j93_7 K ts tm).trans (congrArg (fun c => TW PP 95 Γ93 H93 W93 0 c (endT PP 95 [.cell 4 32, .tmp 5, .tmp 6] [.ag [.own .int, .own .int, .own .int, .own .int, .x, .own .int, .x, .own .op, .x, .bl], .x, .bl] [] 0 K) ts tm) (sufC_split 3 2 6 rfl _))).trans (r93_4 s K)
theorem j93_4 (K : TV → TMem → Prop) (ts : TFrm) (tm : TMem) : (headT 0 H93_1000004 ts tm fun s => Mi_step_c4 s.1 s.2.1 s.2.2.1 s.2.2.2.1 s.2.2.2.2.1 s.2.2.2.2.2.1 s.2.2.2.2.2.2.1 s.2.2.2.2.2.2.2.1 s.2.2.2.2.2.2.2.2.1 s.2.2.2.2.2.2.2.2.2.1 s.2.2.2.2.2.2.2.2.2.2.1 s.2.2.2.2.2.2.2.2.2.2.2.1 s.2.2.2.2.2.2.2.2.2.2.2.2.1 s.2.2.2.2.2.2.2.2.2.2.2.2.2.1 s.2.2.2.2.2.2.2.2.2.2.2.2.2.2.1 s.2.2.2.2.2.2.2.2.2.2.2.2.2.2.2.1 s.2.2.2.2.2.2.2.2.2.2.2.2.2.2.2.2.1 s.2.2.2.2.2.2.2.2.2.2.2.2.2.2.2.2.2.1 s.2.2.2.2.2.2.2.2.2.2.2.2.2.2.2.2.2.2.1 s.2.2.2.2.2.2.2.2.2.2.2.2.2.2.2.2.2.2.2.1 s.2.2.2.2.2.2.2.2.2.2.2.2.2.2.2.2.2.2.2.2 (fun r1 r2 r3 r4 r5 r6 r7 r8 r9 r10 r11 r12 => K (.tup [.agg [.sl 0, .sl 1, .sl 2, .sl 3, .int .i64 r1, .sl 4, .int .i64 r2, .sl 5, .int .i64 r3, .bool r4], .int .i64 r5, .bool r6]) [⟨true, .list .int r7⟩, ⟨true, .list .int r8⟩, ⟨true, .list .int r9⟩, ⟨true, .list .int r10⟩, ⟨true, .list .int r11⟩, ⟨true, .list .op r12⟩])) = TW PP 95 Γ93 H93 W93 0 (sufC 3 (bodyOf Tryz.f93)) (endT PP 95 [.cell 4 32, .tmp 5, .tmp 6] [.ag [.own .int, .own .int, .own .int, .own .int, .x, .own .int, .x, .own .op, .x, .bl], .x, .bl] [] 0 K) ts tm :=
  TW_seg (by kernel_rfl : regOf (sufC 3 (bodyOf Tryz.f93)) = some 4) (by kernel_rfl) (fun s => q93_4 s K) ts tm
theorem ea93 (p1 : List Int) (p2 : List Int) (p3 : List Int) (p4 : List Int) (p5 : Int) (p6 : List Int) (p7 : Int) (p8 : List OpV) (p9 : Int) (p10 : Bool) (p11 : Bool) (K : TV → TMem → Prop) : TWn PP 95 Γ93 H93 W93 0 3 (bodyOf Tryz.f93) (fun ts tm => headT 0 H93_1000004 ts tm fun s => Mi_step_c4 s.1 s.2.1 s.2.2.1 s.2.2.2.1 s.2.2.2.2.1 s.2.2.2.2.2.1 s.2.2.2.2.2.2.1 s.2.2.2.2.2.2.2.1 s.2.2.2.2.2.2.2.2.1 s.2.2.2.2.2.2.2.2.2.1 s.2.2.2.2.2.2.2.2.2.2.1 s.2.2.2.2.2.2.2.2.2.2.2.1 s.2.2.2.2.2.2.2.2.2.2.2.2.1 s.2.2.2.2.2.2.2.2.2.2.2.2.2.1 s.2.2.2.2.2.2.2.2.2.2.2.2.2.2.1 s.2.2.2.2.2.2.2.2.2.2.2.2.2.2.2.1 s.2.2.2.2.2.2.2.2.2.2.2.2.2.2.2.2.1 s.2.2.2.2.2.2.2.2.2.2.2.2.2.2.2.2.2.1 s.2.2.2.2.2.2.2.2.2.2.2.2.2.2.2.2.2.2.1 s.2.2.2.2.2.2.2.2.2.2.2.2.2.2.2.2.2.2.2.1 s.2.2.2.2.2.2.2.2.2.2.2.2.2.2.2.2.2.2.2.2 (fun r1 r2 r3 r4 r5 r6 r7 r8 r9 r10 r11 r12 => K (.tup [.agg [.sl 0, .sl 1, .sl 2, .sl 3, .int .i64 r1, .sl 4, .int .i64 r2, .sl 5, .int .i64 r3, .bool r4], .int .i64 r5, .bool r6]) [⟨true, .list .int r7⟩, ⟨true, .list .int r8⟩, ⟨true, .list .int r9⟩, ⟨true, .list .int r10⟩, ⟨true, .list .int r11⟩, ⟨true, .list .op r12⟩])) (endT PP 95 [.cell 4 32, .tmp 5, .tmp 6] [.ag [.own .int, .own .int, .own .int, .own .int, .x, .own .int, .x, .own .op, .x, .bl], .x, .bl] [] 0 K) (argsF [.agg [.pl .int p1, .pl .int p2, .pl .int p3, .pl .int p4, .int .i64 p5, .pl .int p6, .int .i64 p7, .pl .op p8, .int .i64 p9, .bool p10], .bool p11]) [] =
    Mi_step p1 p2 p3 p4 p5 p6 p7 p8 p9 p10 p11 (fun r1 r2 r3 r4 r5 r6 r7 r8 r9 r10 r11 r12 => K (.tup [.agg [.sl 0, .sl 1, .sl 2, .sl 3, .int .i64 r1, .sl 4, .int .i64 r2, .sl 5, .int .i64 r3, .bool r4], .int .i64 r5, .bool r6]) [⟨true, .list .int r7⟩, ⟨true, .list .int r8⟩, ⟨true, .list .int r9⟩, ⟨true, .list .int r10⟩, ⟨true, .list .int r11⟩, ⟨true, .list .op r12⟩]) := by kernel_rfl
theorem e93 (p1 : List Int) (p2 : List Int) (p3 : List Int) (p4 : List Int) (p5 : Int) (p6 : List Int) (p7 : Int) (p8 : List OpV) (p9 : Int) (p10 : Bool) (p11 : Bool) (K : TV → TMem → Prop) : TW PP 95 Γ93 H93 W93 (List.length ([] : TMem)) (bodyOf Tryz.f93) (endT PP 95 [.cell 4 32, .tmp 5, .tmp 6] [.ag [.own .int, .own .int, .own .int, .own .int, .x, .own .int, .x, .own .op, .x, .bl], .x, .bl] [] (List.length ([] : TMem)) K) (argsF [.agg [.pl .int p1, .pl .int p2, .pl .int p3, .pl .int p4, .int .i64 p5, .pl .int p6, .int .i64 p7, .pl .op p8, .int .i64 p9, .bool p10], .bool p11]) [] =
    Mi_step p1 p2 p3 p4 p5 p6 p7 p8 p9 p10 p11 (fun r1 r2 r3 r4 r5 r6 r7 r8 r9 r10 r11 r12 => K (.tup [.agg [.sl 0, .sl 1, .sl 2, .sl 3, .int .i64 r1, .sl 4, .int .i64 r2, .sl 5, .int .i64 r3, .bool r4], .int .i64 r5, .bool r6]) [⟨true, .list .int r7⟩, ⟨true, .list .int r8⟩, ⟨true, .list .int r9⟩, ⟨true, .list .int r10⟩, ⟨true, .list .int r11⟩, ⟨true, .list .op r12⟩]) :=
  (congrFun (congrFun (TWn_eq 3 _ (by kernel_rfl) fun ts tm => j93_4 K ts tm) _) _).trans (ea93 p1 p2 p3 p4 p5 p6 p7 p8 p9 p10 p11 K)
theorem s93 : CSound PP 93 G93 := by
  intro args K c h fl A aargs hA hN R hl
  unfold G93 at h
  generalize ht : c.tm = tm at h
  revert h
  refine cA_in ?_; rintro l2_ r1_ rfl
  refine cP_in ?_; rintro p1 r3_ rfl
  refine cP_in ?_; rintro p2 r4_ rfl
  refine cP_in ?_; rintro p3 r5_ rfl
  refine cP_in ?_; rintro p4 r6_ rfl
  refine cI_in ?_; rintro p5 r7_ rfl
  refine cP_in ?_; rintro p6 r8_ rfl
  refine cI_in ?_; rintro p7 r9_ rfl
  refine cP_in ?_; rintro p8 r10_ rfl
  refine cI_in ?_; rintro p9 r11_ rfl
  refine cB_in ?_; rintro p10 r12_ rfl
  refine dN_in ?_; rintro rfl
  refine cB_in ?_; rintro p11 r13_ rfl
  refine dN_in ?_; rintro rfl
  refine dE_in ?_; rintro rfl
  intro h
  refine fun_ok (nt := 95) (x := bodyOf Tryz.f93) (Γ := Γ93) (H := H93) (WW := W93) (rs := [.cell 4 32, .tmp 5, .tmp 6]) (shs := [.ag [.own .int, .own .int, .own .int, .own .int, .x, .own .int, .x, .own .op, .x, .bl], .x, .bl]) (cons := []) mixed Tryz.func93 (by decide) (by kernel_rfl) Tryz.ntmps93 Tryz.results93 (.cons (useC_ok s34) (.cons (useC_ok s35) (.cons (useC_ok s152) (.cons (useC_ok s68) (.cons (useC_ok s153) (.cons (useC_ok s154) (GSound.nil))))))) ?_ hA hN R hl
  rw [ht, e93 p1 p2 p3 p4 p5 p6 p7 p8 p9 p10 p11 K]
  exact h
/-! impl.StepOp -/
def G36 : Con := fun args tm K => cA args fun l2_ r1_ => cP .int l2_ fun p1 r3_ => cP .int r3_ fun p2 r4_ => cP .int r4_ fun p3 r5_ => cP .int r5_ fun p4 r6_ => cI .i64 r6_ fun p5 r7_ => cP .int r7_ fun p6 r8_ => cI .i64 r8_ fun p7 r9_ => cP .op r9_ fun p8 r10_ => cI .i64 r10_ fun p9 r11_ => cB r11_ fun p10 r12_ => dNil r12_ <| cB r1_ fun p11 r13_ => dNil r13_ <| dEnd tm <| Mi_StepOp p1 p2 p3 p4 p5 p6 p7 p8 p9 p10 p11 (fun r1 r2 r3 r4 r5 r6 r7 r8 r9 r10 r11 => K (.tup [.agg [.sl 0, .sl 1, .sl 2, .sl 3, .int .i64 r1, .sl 4, .int .i64 r2, .sl 5, .int .i64 r3, .bool r4], .bool r5]) [⟨true, .list .int r6⟩, ⟨true, .list .int r7⟩, ⟨true, .list .int r8⟩, ⟨true, .list .int r9⟩, ⟨true, .list .int r10⟩, ⟨true, .list .op r11⟩])
def H36 : List (Nat × LH) := []
def W36 : List (Nat × List (Nat × List Nat)) := []
def Γ36 : List (Nat × Con) := [(93, useC [.ag [.pure .int, .pure .int, .pure .int, .pure .int, .x, .pure .int, .x, .pure .op, .x, .bl], .bl] G93)]
theorem e36 (p1 : List Int) (p2 : List Int) (p3 : List Int) (p4 : List Int) (p5 : Int) (p6 : List Int) (p7 : Int) (p8 : List OpV) (p9 : Int) (p10 : Bool) (p11 : Bool) (K : TV → TMem → Prop) : TW PP 18 Γ36 H36 W36 (List.length ([] : TMem)) (bodyOf Tryz.f36) (endT PP 18 [.cell 4 32, .tmp 5] [.ag [.own .int, .own .int, .own .int, .own .int, .x, .own .int, .x, .own .op, .x, .bl], .bl] [] (List.length ([] : TMem)) K) (argsF [.agg [.pl .int p1, .pl .int p2, .pl .int p3, .pl .int p4, .int .i64 p5, .pl .int p6, .int .i64 p7, .pl .op p8, .int .i64 p9, .bool p10], .bool p11]) [] =
    Mi_StepOp p1 p2 p3 p4 p5 p6 p7 p8 p9 p10 p11 (fun r1 r2 r3 r4 r5 r6 r7 r8 r9 r10 r11 => K (.tup [.agg [.sl 0, .sl 1, .sl 2, .sl 3, .int .i64 r1, .sl 4, .int .i64 r2, .sl 5, .int .i64 r3, .bool r4], .bool r5]) [⟨true, .list .int r6⟩, ⟨true, .list .int r7⟩, ⟨true, .list .int r8⟩, ⟨true, .list .int r9⟩, ⟨true, .list .int r10⟩, ⟨true, .list .op r11⟩]) := by kernel_rfl
theorem s36 : CSound PP 36 G36 := by
  intro args K c h fl A aargs hA hN R hl
  unfold G36 at h
  generalize ht : c.tm = tm at h
  revert h
  refine cA_in ?_; rintro l2_ r1_ rfl
  refine cP_in ?_; rintro p1 r3_ rfl
  refine cP_in ?_; rintro p2 r4_ rfl
  refine cP_in ?_; rintro p3 r5_ rfl
  refine cP_in ?_; rintro p4 r6_ rfl
  refine cI_in ?_; rintro p5 r7_ rfl
  refine cP_in ?_; rintro p6 r8_ rfl
  refine cI_in ?_; rintro p7 r9_ rfl
  refine cP_in ?_; rintro p8 r10_ rfl
  refine cI_in ?_; rintro p9 r11_ rfl
  refine cB_in ?_; rintro p10 r12_ rfl
  refine dN_in ?_; rintro rfl
  refine cB_in ?_; rintro p11 r13_ rfl
  refine dN_in ?_; rintro rfl
  refine dE_in ?_; rintro rfl
  intro h
  refine fun_ok (nt := 18) (x := bodyOf Tryz.f36) (Γ := Γ36) (H := H36) (WW := W36) (rs := [.cell 4 32, .tmp 5]) (shs := [.ag [.own .int, .own .int, .own .int, .own .int, .x, .own .int, .x, .own .op, .x, .bl], .bl]) (cons := []) mixed Tryz.func36 (by decide) (by kernel_rfl) Tryz.ntmps36 Tryz.results36 (.cons (useC_ok s93) (GSound.nil)) ?_ hA hN R hl
  rw [ht, e36 p1 p2 p3 p4 p5 p6 p7 p8 p9 p10 p11 K]
  exact h
/-! impl.SweptCell -/
def G94 : Con := fun args tm K => cA args fun l2_ r1_ => cP .int l2_ fun p1 r3_ => cP .int r3_ fun p2 r4_ => cP .int r4_ fun p3 r5_ => cP .int r5_ fun p4 r6_ => dNil r6_ <| cA r1_ fun l8_ r7_ => cI .i64 l8_ fun p5 r9_ => cP .int r9_ fun p6 r10_ => cI .i64 r10_ fun p7 r11_ => dNil r11_ <| dNil r7_ <| dEnd tm <| Mi_SweptCell p1 p2 p3 p4 p5 p6 p7 (fun r1 => K (.int .i64 r1) [])
def H94 : List (Nat × LH) := []
def W94 : List (Nat × List (Nat × List Nat)) := []
def Γ94 : List (Nat × Con) := [(91, useC [.ag [.pure .int, .pure .int, .pure .int, .pure .int], .ag [.x, .pure .int, .x]] G91), (47, useC [.pure .int, .x] G47)]
theorem e94 (p1 : List Int) (p2 : List Int) (p3 : List Int) (p4 : List Int) (p5 : Int) (p6 : List Int) (p7 : Int) (K : TV → TMem → Prop) : TW PP 32 Γ94 H94 W94 (List.length ([] : TMem)) (bodyOf Tryz.f94) (endT PP 32 [.tmp 4] [.x] [] (List.length ([] : TMem)) K) (argsF [.agg [.pl .int p1, .pl .int p2, .pl .int p3, .pl .int p4], .agg [.int .i64 p5, .pl .int p6, .int .i64 p7]]) [] =
    Mi_SweptCell p1 p2 p3 p4 p5 p6 p7 (fun r1 => K (.int .i64 r1) []) := by kernel_rfl
theorem s94 : CSound PP 94 G94 := by
  intro args K c h fl A aargs hA hN R hl
  unfold G94 at h
  generalize ht : c.tm = tm at h
  revert h
  refine cA_in ?_; rintro l2_ r1_ rfl
  refine cP_in ?_; rintro p1 r3_ rfl
  refine cP_in ?_; rintro p2 r4_ rfl
  refine cP_in ?_; rintro p3 r5_ rfl
  refine cP_in ?_; rintro p4 r6_ rfl
  refine dN_in ?_; rintro rfl
  refine cA_in ?_; rintro l8_ r7_ rfl
  refine cI_in ?_; rintro p5 r9_ rfl
  refine cP_in ?_; rintro p6 r10_ rfl
  refine cI_in ?_; rintro p7 r11_ rfl
  refine dN_in ?_; rintro rfl
  refine dN_in ?_; rintro rfl
  refine dE_in ?_; rintro rfl
  intro h
  refine fun_ok (nt := 32) (x := bodyOf Tryz.f94) (Γ := Γ94) (H := H94) (WW := W94) (rs := [.tmp 4]) (shs := [.x]) (cons := []) mixed Tryz.func94 (by decide) (by kernel_rfl) Tryz.ntmps94 Tryz.results94 (.cons (useC_ok s91) (.cons (useC_ok s47) (GSound.nil))) ?_ hA hN R hl
  rw [ht, e94 p1 p2 p3 p4 p5 p6 p7 K]
  exact h
/-! impl.distances$1 -/
def G194 : Con := fun args tm K => cI .i64 args fun p1 r1_ => cI .i64 r1_ fun p2 r2_ => cQ 0 r2_ fun r3_ => cQ 1 r3_ fun r4_ => dNil r4_ <| bC true tm fun c6_ m5_ => cL 2 c6_ fun r7_ => dNil r7_ <| bC true m5_ fun c9_ m8_ => cL 3 c9_ fun r10_ => dNil r10_ <| bL true .int m8_ fun p3 m11_ => bL true .int m11_ fun p4 m12_ => dEnd m12_ <| Mi_distances_1 p1 p2 p3 p4 (fun r1 r2 => K (.tup []) [⟨true, .cells [.sl 2]⟩, ⟨true, .cells [.sl 4]⟩, ⟨true, .list .int r1⟩, ⟨true, .dead⟩, ⟨true, .list .int r2⟩])
def H194 : List (Nat × LH) := []
def W194 : List (Nat × List (Nat × List Nat)) := []
def Γ194 : List (Nat × Con) := []
theorem e194 (p1 : Int) (p2 : Int) (p3 : List Int) (p4 : List Int) (K : TV → TMem → Prop) : TW PP 23 Γ194 H194 W194 (List.length ([⟨true, .cells [.sl 2]⟩, ⟨true, .cells [.sl 3]⟩, ⟨true, .list .int p3⟩, ⟨true, .list .int p4⟩] : TMem)) (bodyOf Tryz.f194) (endT PP 23 [] [] [3] (List.length ([⟨true, .cells [.sl 2]⟩, ⟨true, .cells [.sl 3]⟩, ⟨true, .list .int p3⟩, ⟨true, .list .int p4⟩] : TMem)) K) (argsF [.int .i64 p1, .int .i64 p2, .ptr 0 0, .ptr 1 0]) [⟨true, .cells [.sl 2]⟩, ⟨true, .cells [.sl 3]⟩, ⟨true, .list .int p3⟩, ⟨true, .list .int p4⟩] =
    Mi_distances_1 p1 p2 p3 p4 (fun r1 r2 => K (.tup []) [⟨true, .cells [.sl 2]⟩, ⟨true, .cells [.sl 4]⟩, ⟨true, .list .int r1⟩, ⟨true, .dead⟩, ⟨true, .list .int r2⟩]) := by kernel_rfl
theorem s194 : CSound PP 194 G194 := by
  intro args K c h fl A aargs hA hN R hl
  unfold G194 at h
  generalize ht : c.tm = tm at h
  revert h
  refine cI_in ?_; rintro p1 r1_ rfl
  refine cI_in ?_; rintro p2 r2_ rfl
  refine cQ_in ?_; rintro r3_ rfl
  refine cQ_in ?_; rintro r4_ rfl
  refine dN_in ?_; rintro rfl
  refine bC_in ?_; rintro c6_ m5_ rfl
  refine cL_in ?_; rintro r7_ rfl
  refine dN_in ?_; rintro rfl
  refine bC_in ?_; rintro c9_ m8_ rfl
  refine cL_in ?_; rintro r10_ rfl
  refine dN_in ?_; rintro rfl
  refine bL_in ?_; rintro p3 m11_ rfl
  refine bL_in ?_; rintro p4 m12_ rfl
  refine dE_in ?_; rintro rfl
  intro h
  refine fun_ok (nt := 23) (x := bodyOf Tryz.f194) (Γ := Γ194) (H := H194) (WW := W194) (rs := []) (shs := []) (cons := [3]) mixed Tryz.func194 (by decide) (by kernel_rfl) Tryz.ntmps194 Tryz.results194 (GSound.nil) ?_ hA hN R hl
  rw [ht, e194 p1 p2 p3 p4 K]
  exact h
/-! impl.distances -/
def G155 : Con := fun args tm K => cA args fun l2_ r1_ => cP .int l2_ fun p1 r3_ => cP .int r3_ fun p2 r4_ => cP .int r4_ fun p3 r5_ => dNil r5_ <| dNil r1_ <| dEnd tm <| Mi_distances p1 p2 p3 (fun r1 => K (.sl 0) [⟨true, .list .int r1⟩])
def H155_0 : LH where
  keep := [(1, .pc [.pure .int, .pure .int, .pure .int]), (3, .pc [.own .int]), (4, .pc [.own .int]), (5, .x), (16, .pure .int), (17, .x), (18, .x)]
  S := List Int × Int × Int × List Int × List Int × List Int × List Int × List Int
  enc := fun s => ([.ptr 0 0, .ptr 1 0, .ptr 2 0, .fn 194 [] [.ptr 1 0, .ptr 2 0], .pl .int s.1, .int .i64 s.2.1, .int .i64 s.2.2.1], [⟨true, .cells [.pl .int s.2.2.2.1, .pl .int s.2.2.2.2.1, .pl .int s.2.2.2.2.2.1]⟩, ⟨true, .cells [.sl 3]⟩, ⟨true, .cells [.sl 4]⟩, ⟨true, .list .int s.2.2.2.2.2.2.1⟩, ⟨true, .list .int s.2.2.2.2.2.2.2⟩])
  dec := fun vs tm K => cQ 0 vs fun r1_ => cQ 1 r1_ fun r2_ => cQ 2 r2_ fun r3_ => dCons r3_ fun a5_ r4_ => dFn 194 a5_ fun x6_ y7_ => dNil x6_ <| cQ 1 y7_ fun r8_ => cQ 2 r8_ fun r9_ => dNil r9_ <| cP .int r4_ fun q0 r10_ => cI .i64 r10_ fun q1 r11_ => cI .i64 r11_ fun q2 r12_ => dNil r12_ <| bC true tm fun c14_ m13_ => cP .int c14_ fun q3 r15_ => cP .int r15_ fun q4 r16_ => cP .int r16_ fun q5 r17_ => dNil r17_ <| bC true m13_ fun c19_ m18_ => cL 3 c19_ fun r20_ => dNil r20_ <| bC true m18_ fun c22_ m21_ => cL 4 c22_ fun r23_ => dNil r23_ <| bL true .int m21_ fun q6 m24_ => bL true .int m24_ fun q7 m25_ => dEnd m25_ <| K (q0, q1, q2, q3, q4, q5, q6, q7)
  law := by
    intro vs tm K
    refine cQ_in ?_; rintro r1_ rfl
    refine cQ_in ?_; rintro r2_ rfl
    refine cQ_in ?_; rintro r3_ rfl
    refine dCons_in ?_; rintro a5_ r4_ rfl
    refine dFn_in ?_; rintro x6_ y7_ rfl
    refine dN_in ?_; rintro rfl
    refine cQ_in ?_; rintro r8_ rfl
    refine cQ_in ?_; rintro r9_ rfl
    refine dN_in ?_; rintro rfl
    refine cP_in ?_; rintro q0 r10_ rfl
    refine cI_in ?_; rintro q1 r11_ rfl
    refine cI_in ?_; rintro q2 r12_ rfl
    refine dN_in ?_; rintro rfl
    refine bC_in ?_; rintro c14_ m13_ rfl
    refine cP_in ?_; rintro q3 r15_ rfl
    refine cP_in ?_; rintro q4 r16_ rfl
    refine cP_in ?_; rintro q5 r17_ rfl
    refine dN_in ?_; rintro rfl
    refine bC_in ?_; rintro c19_ m18_ rfl
    refine cL_in ?_; rintro r20_ rfl
    refine dN_in ?_; rintro rfl
    refine bC_in ?_; rintro c22_ m21_ rfl
    refine cL_in ?_; rintro r23_ rfl
    refine dN_in ?_; rintro rfl
    refine bL_in ?_; rintro q6 m24_ rfl
    refine bL_in ?_; rintro q7 m25_ rfl
    refine dE_in ?_; rintro rfl
    exact fun h => ⟨(q0, q1, q2, q3, q4, q5, q6, q7), rfl, h⟩
def H155_2 : LH where
  keep := [(1, .pc [.pure .int, .pure .int, .pure .int]), (3, .pc [.own .int]), (4, .pc [.own .int]), (5, .x), (8, .x)]
  S := Int × List Int × List Int × List Int × List Int × List Int
  enc := fun s => ([.ptr 0 0, .ptr 1 0, .ptr 2 0, .fn 194 [] [.ptr 1 0, .ptr 2 0], .int .i64 s.1], [⟨true, .cells [.pl .int s.2.1, .pl .int s.2.2.1, .pl .int s.2.2.2.1]⟩, ⟨true, .cells [.sl 3]⟩, ⟨true, .cells [.sl 4]⟩, ⟨true, .list .int s.2.2.2.2.1⟩, ⟨true, .list .int s.2.2.2.2.2⟩])
  dec := fun vs tm K => cQ 0 vs fun r1_ => cQ 1 r1_ fun r2_ => cQ 2 r2_ fun r3_ => dCons r3_ fun a5_ r4_ => dFn 194 a5_ fun x6_ y7_ => dNil x6_ <| cQ 1 y7_ fun r8_ => cQ 2 r8_ fun r9_ => dNil r9_ <| cI .i64 r4_ fun q0 r10_ => dNil r10_ <| bC true tm fun c12_ m11_ => cP .int c12_ fun q1 r13_ => cP .int r13_ fun q2 r14_ => cP .int r14_ fun q3 r15_ => dNil r15_ <| bC true m11_ fun c17_ m16_ => cL 3 c17_ fun r18_ => dNil r18_ <| bC true m16_ fun c20_ m19_ => cL 4 c20_ fun r21_ => dNil r21_ <| bL true .int m19_ fun q4 m22_ => bL true .int m22_ fun q5 m23_ => dEnd m23_ <| K (q0, q1, q2, q3, q4, q5)
  law := by
    intro vs tm K
    refine cQ_in ?_; rintro r1_ rfl
    refine cQ_in ?_; rintro r2_ rfl
    refine cQ_in ?_; rintro r3_ rfl
    refine dCons_in ?_; rintro a5_ r4_ rfl
    refine dFn_in ?_; rintro x6_ y7_ rfl
    refine dN_in ?_; rintro rfl
    refine cQ_in ?_; rintro r8_ rfl
    refine cQ_in ?_; rintro r9_ rfl
    refine dN_in ?_; rintro rfl
    refine cI_in ?_; rintro q0 r10_ rfl
    refine dN_in ?_; rintro rfl
    refine bC_in ?_; rintro c12_ m11_ rfl
    refine cP_in ?_; rintro q1 r13_ rfl
    refine cP_in ?_; rintro q2 r14_ rfl
    refine cP_in ?_; rintro q3 r15_ rfl
    refine dN_in ?_; rintro rfl
    refine bC_in ?_; rintro c17_ m16_ rfl
    refine cL_in ?_; rintro r18_ rfl
    refine dN_in ?_; rintro rfl
    refine bC_in ?_; rintro c20_ m19_ rfl
    refine cL_in ?_; rintro r21_ rfl
    refine dN_in ?_; rintro rfl
    refine bL_in ?_; rintro q4 m22_ rfl
    refine bL_in ?_; rintro q5 m23_ rfl
    refine dE_in ?_; rintro rfl
    exact fun h => ⟨(q0, q1, q2, q3, q4, q5), rfl, h⟩
def H155 : List (Nat × LH) := [(0, H155_0), (2, H155_2)]
def W155 : List (Nat × List (Nat × List Nat)) := []
def Γ155 : List (Nat × Con) := [(194, useC [.x, .x, .pc [.own .int], .pc [.own .int]] G194)]
theorem e155 (p1 : List Int) (p2 : List Int) (p3 : List Int) (K : TV → TMem → Prop) : TW PP 69 Γ155 H155 W155 (List.length ([] : TMem)) (bodyOf Tryz.f155) (endT PP 69 [.tmp 2] [.own .int] [] (List.length ([] : TMem)) K) (argsF [.agg [.pl .int p1, .pl .int p2, .pl .int p3]]) [] =
    Mi_distances p1 p2 p3 (fun r1 => K (.sl 0) [⟨true, .list .int r1⟩]) := by kernel_rfl
theorem s155 : CSound PP 155 G155 := by
  intro args K c h fl A aargs hA hN R hl
  unfold G155 at h
  generalize ht : c.tm = tm at h
  revert h
  refine cA_in ?_; rintro l2_ r1_ rfl
  refine cP_in ?_; rintro p1 r3_ rfl
  refine cP_in ?_; rintro p2 r4_ rfl
  refine cP_in ?_; rintro p3 r5_ rfl
  refine dN_in ?_; rintro rfl
  refine dN_in ?_; rintro rfl
  refine dE_in ?_; rintro rfl
  intro h
  refine fun_ok (nt := 69) (x := bodyOf Tryz.f155) (Γ := Γ155) (H := H155) (WW := W155) (rs := [.tmp 2]) (shs := [.own .int]) (cons := []) mixed Tryz.func155 (by decide) (by kernel_rfl) Tryz.ntmps155 Tryz.results155 (.cons (useC_ok s194) (GSound.nil)) ?_ hA hN R hl
  rw [ht, e155 p1 p2 p3 K]
  exact h
/-! impl.Reachable -/
def G95 : Con := fun args tm K => cA args fun l2_ r1_ => cP .int l2_ fun p1 r3_ => cP .int r3_ fun p2 r4_ => cP .int r4_ fun p3 r5_ => dNil r5_ <| dNil r1_ <| dEnd tm <| Mi_Reachable p1 p2 p3 (fun r1 => K (.sl 0) [⟨true, .list .bool r1⟩])
def H95_0 : LH where
  keep := [(3, .own .bool), (11, .own .int), (12, .x), (13, .x)]
  S := Int × Int × List Bool × List Int
  enc := fun s => ([.sl 0, .sl 1, .int .i64 s.1, .int .i64 s.2.1], [⟨true, .list .bool s.2.2.1⟩, ⟨true, .list .int s.2.2.2⟩])
  dec := fun vs tm K => cL 0 vs fun r1_ => cL 1 r1_ fun r2_ => cI .i64 r2_ fun q0 r3_ => cI .i64 r3_ fun q1 r4_ => dNil r4_ <| bL true .bool tm fun q2 m5_ => bL true .int m5_ fun q3 m6_ => dEnd m6_ <| K (q0, q1, q2, q3)
  law := by
    intro vs tm K
    refine cL_in ?_; rintro r1_ rfl
    refine cL_in ?_; rintro r2_ rfl
    refine cI_in ?_; rintro q0 r3_ rfl
    refine cI_in ?_; rintro q1 r4_ rfl
    refine dN_in ?_; rintro rfl
    refine bL_in ?_; rintro q2 m5_ rfl
    refine bL_in ?_; rintro q3 m6_ rfl
    refine dE_in ?_; rintro rfl
    exact fun h => ⟨(q0, q1, q2, q3), rfl, h⟩
def H95 : List (Nat × LH) := [(0, H95_0)]
def W95 : List (Nat × List (Nat × List Nat)) := []
def Γ95 : List (Nat × Con) := [(74, useC [.ag [.pure .int, .pure .int, .pure .int]] G74), (155, useC [.ag [.pure .int, .pure .int, .pure .int]] G155)]
theorem e95 (p1 : List Int) (p2 : List Int) (p3 : List Int) (K : TV → TMem → Prop) : TW PP 24 Γ95 H95 W95 (List.length ([] : TMem)) (bodyOf Tryz.f95) (endT PP 24 [.tmp 2] [.own .bool] [] (List.length ([] : TMem)) K) (argsF [.agg [.pl .int p1, .pl .int p2, .pl .int p3]]) [] =
    Mi_Reachable p1 p2 p3 (fun r1 => K (.sl 0) [⟨true, .list .bool r1⟩]) := by kernel_rfl
theorem s95 : CSound PP 95 G95 := by
  intro args K c h fl A aargs hA hN R hl
  unfold G95 at h
  generalize ht : c.tm = tm at h
  revert h
  refine cA_in ?_; rintro l2_ r1_ rfl
  refine cP_in ?_; rintro p1 r3_ rfl
  refine cP_in ?_; rintro p2 r4_ rfl
  refine cP_in ?_; rintro p3 r5_ rfl
  refine dN_in ?_; rintro rfl
  refine dN_in ?_; rintro rfl
  refine dE_in ?_; rintro rfl
  intro h
  refine fun_ok (nt := 24) (x := bodyOf Tryz.f95) (Γ := Γ95) (H := H95) (WW := W95) (rs := [.tmp 2]) (shs := [.own .bool]) (cons := []) mixed Tryz.func95 (by decide) (by kernel_rfl) Tryz.ntmps95 Tryz.results95 (.cons (useC_ok s74) (.cons (useC_ok s155) (GSound.nil))) ?_ hA hN R hl
  rw [ht, e95 p1 p2 p3 K]
  exact h
/-! impl.look -/
def G157 : Con := fun args tm K => cA args fun l2_ r1_ => cP .int l2_ fun p1 r3_ => cP .int r3_ fun p2 r4_ => cP .int r4_ fun p3 r5_ => dNil r5_ <| cL 0 r1_ fun r6_ => dNil r6_ <| bL true .int tm fun p4 m7_ => dEnd m7_ <| Mi_look p1 p2 p3 p4 (fun r1 r2 => K (.bool r1) [⟨true, .list .int r2⟩])
def H157 : List (Nat × LH) := []
def W157 : List (Nat × List (Nat × List Nat)) := []
def Γ157 : List (Nat × Con) := [(110, useC [.pure .int, .x] G110), (156, useC [.own .int, .x] G156)]
theorem e157 (p1 : List Int) (p2 : List Int) (p3 : List Int) (p4 : List Int) (K : TV → TMem → Prop) : TW PP 27 Γ157 H157 W157 (List.length ([⟨true, .list .int p4⟩] : TMem)) (bodyOf Tryz.f157) (endT PP 27 [.tmp 4] [.bl] [] (List.length ([⟨true, .list .int p4⟩] : TMem)) K) (argsF [.agg [.pl .int p1, .pl .int p2, .pl .int p3], .sl 0]) [⟨true, .list .int p4⟩] =
    Mi_look p1 p2 p3 p4 (fun r1 r2 => K (.bool r1) [⟨true, .list .int r2⟩]) := by kernel_rfl
theorem s157 : CSound PP 157 G157 := by
  intro args K c h fl A aargs hA hN R hl
  unfold G157 at h
  generalize ht : c.tm = tm at h
  revert h
  refine cA_in ?_; rintro l2_ r1_ rfl
  refine cP_in ?_; rintro p1 r3_ rfl
  refine cP_in ?_; rintro p2 r4_ rfl
  refine cP_in ?_; rintro p3 r5_ rfl
  refine dN_in ?_; rintro rfl
  refine cL_in ?_; rintro r6_ rfl
  refine dN_in ?_; rintro rfl
  refine bL_in ?_; rintro p4 m7_ rfl
  refine dE_in ?_; rintro rfl
  intro h
  refine fun_ok (nt := 27) (x := bodyOf Tryz.f157) (Γ := Γ157) (H := H157) (WW := W157) (rs := [.tmp 4]) (shs := [.bl]) (cons := []) mixed Tryz.func157 (by decide) (by kernel_rfl) Tryz.ntmps157 Tryz.results157 (.cons (useC_ok s110) (.cons (useC_ok s156) (GSound.nil))) ?_ hA hN R hl
  rw [ht, e157 p1 p2 p3 p4 K]
  exact h
/-! impl.StepGc$1 -/
def G159 : Con := fun args tm K => cI .i64 args fun p1 r1_ => cQ 0 r1_ fun r2_ => dNil r2_ <| bC false tm fun c4_ m3_ => cI .i64 c4_ fun p2 r5_ => cL 1 r5_ fun r6_ => cI .i64 r6_ fun p3 r7_ => dNil r7_ <| bL false .int m3_ fun p4 m8_ => dEnd m8_ <| Mi_StepGc_1 p1 p2 p3 p4 (fun r1 => K (.bool r1) [⟨false, .cells [.int .i64 p2, .sl 1, .int .i64 p3]⟩, ⟨false, .list .int p4⟩])
def H159 : List (Nat × LH) := []
def W159 : List (Nat × List (Nat × List Nat)) := []
def Γ159 : List (Nat × Con) := []
theorem e159 (p1 : Int) (p2 : Int) (p3 : Int) (p4 : List Int) (K : TV → TMem → Prop) : TW PP 14 Γ159 H159 W159 (List.length ([⟨false, .cells [.int .i64 p2, .sl 1, .int .i64 p3]⟩, ⟨false, .list .int p4⟩] : TMem)) (bodyOf Tryz.f159) (endT PP 14 [.tmp 3] [.bl] [] (List.length ([⟨false, .cells [.int .i64 p2, .sl 1, .int .i64 p3]⟩, ⟨false, .list .int p4⟩] : TMem)) K) (argsF [.int .i64 p1, .ptr 0 0]) [⟨false, .cells [.int .i64 p2, .sl 1, .int .i64 p3]⟩, ⟨false, .list .int p4⟩] =
    Mi_StepGc_1 p1 p2 p3 p4 (fun r1 => K (.bool r1) [⟨false, .cells [.int .i64 p2, .sl 1, .int .i64 p3]⟩, ⟨false, .list .int p4⟩]) := by kernel_rfl
theorem s159 : CSound PP 159 G159 := by
  intro args K c h fl A aargs hA hN R hl
  unfold G159 at h
  generalize ht : c.tm = tm at h
  revert h
  refine cI_in ?_; rintro p1 r1_ rfl
  refine cQ_in ?_; rintro r2_ rfl
  refine dN_in ?_; rintro rfl
  refine bC_in ?_; rintro c4_ m3_ rfl
  refine cI_in ?_; rintro p2 r5_ rfl
  refine cL_in ?_; rintro r6_ rfl
  refine cI_in ?_; rintro p3 r7_ rfl
  refine dN_in ?_; rintro rfl
  refine bL_in ?_; rintro p4 m8_ rfl
  refine dE_in ?_; rintro rfl
  intro h
  refine fun_ok (nt := 14) (x := bodyOf Tryz.f159) (Γ := Γ159) (H := H159) (WW := W159) (rs := [.tmp 3]) (shs := [.bl]) (cons := []) mixed Tryz.func159 (by decide) (by kernel_rfl) Tryz.ntmps159 Tryz.results159 (GSound.nil) ?_ hA hN R hl
  rw [ht, e159 p1 p2 p3 p4 K]
  exact h
/-! slices.IndexFunc[[]int,int] -/
def G158 : Con := fun args tm K => cP .int args fun p1 r1_ => dCons r1_ fun a3_ r2_ => dFn 159 a3_ fun x4_ y5_ => dNil x4_ <| cQ 0 y5_ fun r6_ => dNil r6_ <| dNil r2_ <| bC false tm fun c8_ m7_ => cI .i64 c8_ fun p2 r9_ => cL 1 r9_ fun r10_ => cI .i64 r10_ fun p3 r11_ => dNil r11_ <| bL false .int m7_ fun p4 m12_ => dEnd m12_ <| M_IndexFunc_int p1 p2 p3 p4 (fun r1 r2 r3 r4 => K (.int .i64 r1) [⟨false, .cells [.int .i64 r2, .sl 1, .int .i64 r3]⟩, ⟨false, .list .int r4⟩])
def H158_0 : LH where
  keep := [(0, .pure .int), (1, .x), (7, .x), (8, .x)]
  S := List Int × Int × Int × Int × Int × List Int
  enc := fun s => ([.pl .int s.1, .fn 159 [] [.ptr 0 0], .int .i64 s.2.1, .int .i64 s.2.2.1], [⟨false, .cells [.int .i64 s.2.2.2.1, .sl 1, .int .i64 s.2.2.2.2.1]⟩, ⟨false, .list .int s.2.2.2.2.2⟩])
  dec := fun vs tm K => cP .int vs fun q0 r1_ => dCons r1_ fun a3_ r2_ => dFn 159 a3_ fun x4_ y5_ => dNil x4_ <| cQ 0 y5_ fun r6_ => dNil r6_ <| cI .i64 r2_ fun q1 r7_ => cI .i64 r7_ fun q2 r8_ => dNil r8_ <| bC false tm fun c10_ m9_ => cI .i64 c10_ fun q3 r11_ => cL 1 r11_ fun r12_ => cI .i64 r12_ fun q4 r13_ => dNil r13_ <| bL false .int m9_ fun q5 m14_ => dEnd m14_ <| K (q0, q1, q2, q3, q4, q5)
  law := by
    intro vs tm K
    refine cP_in ?_; rintro q0 r1_ rfl
    refine dCons_in ?_; rintro a3_ r2_ rfl
    refine dFn_in ?_; rintro x4_ y5_ rfl
    refine dN_in ?_; rintro rfl
    refine cQ_in ?_; rintro r6_ rfl
    refine dN_in ?_; rintro rfl
    refine cI_in ?_; rintro q1 r7_ rfl
    refine cI_in ?_; rintro q2 r8_ rfl
    refine dN_in ?_; rintro rfl
    refine bC_in ?_; rintro c10_ m9_ rfl
    refine cI_in ?_; rintro q3 r11_ rfl
    refine cL_in ?_; rintro r12_ rfl
    refine cI_in ?_; rintro q4 r13_ rfl
    refine dN_in ?_; rintro rfl
    refine bL_in ?_; rintro q5 m14_ rfl
    refine dE_in ?_; rintro rfl
    exact fun h => ⟨(q0, q1, q2, q3, q4, q5), rfl, h⟩
def H158 : List (Nat × LH) := [(0, H158_0)]
def W158 : List (Nat × List (Nat × List Nat)) := []
def Γ158 : List (Nat × Con) := [(159, useC [.x, .pc [.x, .own .int, .x]] (onlyC [] G159))]
theorem e158 (p1 : List Int) (p2 : Int) (p3 : Int) (p4 : List Int) (K : TV → TMem → Prop) : TW PP 19 Γ158 H158 W158 (List.length ([⟨false, .cells [.int .i64 p2, .sl 1, .int .i64 p3]⟩, ⟨false, .list .int p4⟩] : TMem)) (bodyOf Tryz.f158) (endT PP 19 [.tmp 4] [.x] [] (List.length ([⟨false, .cells [.int .i64 p2, .sl 1, .int .i64 p3]⟩, ⟨false, .list .int p4⟩] : TMem)) K) (argsF [.pl .int p1, .fn 159 [] [.ptr 0 0]]) [⟨false, .cells [.int .i64 p2, .sl 1, .int .i64 p3]⟩, ⟨false, .list .int p4⟩] =
    M_IndexFunc_int p1 p2 p3 p4 (fun r1 r2 r3 r4 => K (.int .i64 r1) [⟨false, .cells [.int .i64 r2, .sl 1, .int .i64 r3]⟩, ⟨false, .list .int r4⟩]) := by kernel_rfl
theorem s158 : CSound PP 158 G158 := by
  intro args K c h fl A aargs hA hN R hl
  unfold G158 at h
  generalize ht : c.tm = tm at h
  revert h
  refine cP_in ?_; rintro p1 r1_ rfl
  refine dCons_in ?_; rintro a3_ r2_ rfl
  refine dFn_in ?_; rintro x4_ y5_ rfl
  refine dN_in ?_; rintro rfl
  refine cQ_in ?_; rintro r6_ rfl
  refine dN_in ?_; rintro rfl
  refine dN_in ?_; rintro rfl
  refine bC_in ?_; rintro c8_ m7_ rfl
  refine cI_in ?_; rintro p2 r9_ rfl
  refine cL_in ?_; rintro r10_ rfl
  refine cI_in ?_; rintro p3 r11_ rfl
  refine dN_in ?_; rintro rfl
  refine bL_in ?_; rintro p4 m12_ rfl
  refine dE_in ?_; rintro rfl
  intro h
  refine fun_ok (nt := 19) (x := bodyOf Tryz.f158) (Γ := Γ158) (H := H158) (WW := W158) (rs := [.tmp 4]) (shs := [.x]) (cons := []) mixed Tryz.func158 (by decide) (by kernel_rfl) Tryz.ntmps158 Tryz.results158 (.cons (useC_ok (onlyC_ok s159)) (GSound.nil)) ?_ hA hN R hl
  rw [ht, e158 p1 p2 p3 p4 K]
  exact h
/-! (*impl.Store).clear -/
def G84 : Con := fun args tm K => cQ 0 args fun r1_ => cP .int r1_ fun p1 r2_ => dNil r2_ <| bC true tm fun c4_ m3_ => cL 1 c4_ fun r5_ => cL 2 r5_ fun r6_ => cL 3 r6_ fun r7_ => cL 4 r7_ fun r8_ => dNil r8_ <| bL true .int m3_ fun p2 m9_ => bL true .int m9_ fun p3 m10_ => bL true .int m10_ fun p4 m11_ => bL true .int m11_ fun p5 m12_ => dEnd m12_ <| Mi_Store_clear p1 p2 p3 p4 p5 (fun r1 r2 r3 r4 => K (.tup []) [⟨true, .cells [.sl 1, .sl 2, .sl 3, .sl 5]⟩, ⟨true, .list .int r1⟩, ⟨true, .list .int r2⟩, ⟨true, .list .int r3⟩, ⟨true, .dead⟩, ⟨true, .list .int r4⟩])
def H84_0 : LH where
  keep := [(0, .pc [.own .int, .own .int, .own .int, .mv .int]), (7, .pure .int), (8, .x), (9, .x)]
  S := List Int × Int × Int × List Int × List Int × List Int × List Int
  enc := fun s => ([.ptr 0 0, .pl .int s.1, .int .i64 s.2.1, .int .i64 s.2.2.1], [⟨true, .cells [.sl 1, .sl 2, .sl 3, .sl 5]⟩, ⟨true, .list .int s.2.2.2.1⟩, ⟨true, .list .int s.2.2.2.2.1⟩, ⟨true, .list .int s.2.2.2.2.2.1⟩, ⟨true, .dead⟩, ⟨true, .list .int s.2.2.2.2.2.2⟩])
  dec := fun vs tm K => cQ 0 vs fun r1_ => cP .int r1_ fun q0 r2_ => cI .i64 r2_ fun q1 r3_ => cI .i64 r3_ fun q2 r4_ => dNil r4_ <| bC true tm fun c6_ m5_ => cL 1 c6_ fun r7_ => cL 2 r7_ fun r8_ => cL 3 r8_ fun r9_ => cL 5 r9_ fun r10_ => dNil r10_ <| bL true .int m5_ fun q3 m11_ => bL true .int m11_ fun q4 m12_ => bL true .int m12_ fun q5 m13_ => bD true m13_ fun m14_ => bL true .int m14_ fun q6 m15_ => dEnd m15_ <| K (q0, q1, q2, q3, q4, q5, q6)
  law := by
    intro vs tm K
    refine cQ_in ?_; rintro r1_ rfl
    refine cP_in ?_; rintro q0 r2_ rfl
    refine cI_in ?_; rintro q1 r3_ rfl
    refine cI_in ?_; rintro q2 r4_ rfl
    refine dN_in ?_; rintro rfl
    refine bC_in ?_; rintro c6_ m5_ rfl
    refine cL_in ?_; rintro r7_ rfl
    refine cL_in ?_; rintro r8_ rfl
    refine cL_in ?_; rintro r9_ rfl
    refine cL_in ?_; rintro r10_ rfl
    refine dN_in ?_; rintro rfl
    refine bL_in ?_; rintro q3 m11_ rfl
    refine bL_in ?_; rintro q4 m12_ rfl
    refine bL_in ?_; rintro q5 m13_ rfl
    refine bD_in ?_; rintro m14_ rfl
    refine bL_in ?_; rintro q6 m15_ rfl
    refine dE_in ?_; rintro rfl
    exact fun h => ⟨(q0, q1, q2, q3, q4, q5, q6), rfl, h⟩
def H84_2 : LH where
  keep := [(0, .pc [.own .int, .own .int, .own .int, .own .int]), (5, .x), (7, .pure .int), (8, .x), (9, .x), (32, .x), (33, .x)]
  S := Int × List Int × Int × Int × Int × Int × List Int × List Int × List Int × List Int
  enc := fun s => ([.ptr 0 0, .int .i64 s.1, .pl .int s.2.1, .int .i64 s.2.2.1, .int .i64 s.2.2.2.1, .int .i64 s.2.2.2.2.1, .int .i64 s.2.2.2.2.2.1], [⟨true, .cells [.sl 1, .sl 2, .sl 3, .sl 5]⟩, ⟨true, .list .int s.2.2.2.2.2.2.1⟩, ⟨true, .list .int s.2.2.2.2.2.2.2.1⟩, ⟨true, .list .int s.2.2.2.2.2.2.2.2.1⟩, ⟨true, .dead⟩, ⟨true, .list .int s.2.2.2.2.2.2.2.2.2⟩])
  dec := fun vs tm K => cQ 0 vs fun r1_ => cI .i64 r1_ fun q0 r2_ => cP .int r2_ fun q1 r3_ => cI .i64 r3_ fun q2 r4_ => cI .i64 r4_ fun q3 r5_ => cI .i64 r5_ fun q4 r6_ => cI .i64 r6_ fun q5 r7_ => dNil r7_ <| bC true tm fun c9_ m8_ => cL 1 c9_ fun r10_ => cL 2 r10_ fun r11_ => cL 3 r11_ fun r12_ => cL 5 r12_ fun r13_ => dNil r13_ <| bL true .int m8_ fun q6 m14_ => bL true .int m14_ fun q7 m15_ => bL true .int m15_ fun q8 m16_ => bD true m16_ fun m17_ => bL true .int m17_ fun q9 m18_ => dEnd m18_ <| K (q0, q1, q2, q3, q4, q5, q6, q7, q8, q9)
  law := by
    intro vs tm K
    refine cQ_in ?_; rintro r1_ rfl
    refine cI_in ?_; rintro q0 r2_ rfl
    refine cP_in ?_; rintro q1 r3_ rfl
    refine cI_in ?_; rintro q2 r4_ rfl
    refine cI_in ?_; rintro q3 r5_ rfl
    refine cI_in ?_; rintro q4 r6_ rfl
    refine cI_in ?_; rintro q5 r7_ rfl
    refine dN_in ?_; rintro rfl
    refine bC_in ?_; rintro c9_ m8_ rfl
    refine cL_in ?_; rintro r10_ rfl
    refine cL_in ?_; rintro r11_ rfl
    refine cL_in ?_; rintro r12_ rfl
    refine cL_in ?_; rintro r13_ rfl
    refine dN_in ?_; rintro rfl
    refine bL_in ?_; rintro q6 m14_ rfl
    refine bL_in ?_; rintro q7 m15_ rfl
    refine bL_in ?_; rintro q8 m16_ rfl
    refine bD_in ?_; rintro m17_ rfl
    refine bL_in ?_; rintro q9 m18_ rfl
    refine dE_in ?_; rintro rfl
    exact fun h => ⟨(q0, q1, q2, q3, q4, q5, q6, q7, q8, q9), rfl, h⟩
def H84 : List (Nat × LH) := [(0, H84_0), (2, H84_2)]
def W84 : List (Nat × List (Nat × List Nat)) := []
def Γ84 : List (Nat × Con) := []
theorem e84 (p1 : List Int) (p2 : List Int) (p3 : List Int) (p4 : List Int) (p5 : List Int) (K : TV → TMem → Prop) : TW PP 82 Γ84 H84 W84 (List.length ([⟨true, .cells [.sl 1, .sl 2, .sl 3, .sl 4]⟩, ⟨true, .list .int p2⟩, ⟨true, .list .int p3⟩, ⟨true, .list .int p4⟩, ⟨true, .list .int p5⟩] : TMem)) (bodyOf Tryz.f84) (endT PP 82 [] [] [4] (List.length ([⟨true, .cells [.sl 1, .sl 2, .sl 3, .sl 4]⟩, ⟨true, .list .int p2⟩, ⟨true, .list .int p3⟩, ⟨true, .list .int p4⟩, ⟨true, .list .int p5⟩] : TMem)) K) (argsF [.ptr 0 0, .pl .int p1]) [⟨true, .cells [.sl 1, .sl 2, .sl 3, .sl 4]⟩, ⟨true, .list .int p2⟩, ⟨true, .list .int p3⟩, ⟨true, .list .int p4⟩, ⟨true, .list .int p5⟩] =
    Mi_Store_clear p1 p2 p3 p4 p5 (fun r1 r2 r3 r4 => K (.tup []) [⟨true, .cells [.sl 1, .sl 2, .sl 3, .sl 5]⟩, ⟨true, .list .int r1⟩, ⟨true, .list .int r2⟩, ⟨true, .list .int r3⟩, ⟨true, .dead⟩, ⟨true, .list .int r4⟩]) := by kernel_rfl
theorem s84 : CSound PP 84 G84 := by
  intro args K c h fl A aargs hA hN R hl
  unfold G84 at h
  generalize ht : c.tm = tm at h
  revert h
  refine cQ_in ?_; rintro r1_ rfl
  refine cP_in ?_; rintro p1 r2_ rfl
  refine dN_in ?_; rintro rfl
  refine bC_in ?_; rintro c4_ m3_ rfl
  refine cL_in ?_; rintro r5_ rfl
  refine cL_in ?_; rintro r6_ rfl
  refine cL_in ?_; rintro r7_ rfl
  refine cL_in ?_; rintro r8_ rfl
  refine dN_in ?_; rintro rfl
  refine bL_in ?_; rintro p2 m9_ rfl
  refine bL_in ?_; rintro p3 m10_ rfl
  refine bL_in ?_; rintro p4 m11_ rfl
  refine bL_in ?_; rintro p5 m12_ rfl
  refine dE_in ?_; rintro rfl
  intro h
  refine fun_ok (nt := 82) (x := bodyOf Tryz.f84) (Γ := Γ84) (H := H84) (WW := W84) (rs := []) (shs := []) (cons := [4]) mixed Tryz.func84 (by decide) (by kernel_rfl) Tryz.ntmps84 Tryz.results84 (GSound.nil) ?_ hA hN R hl
  rw [ht, e84 p1 p2 p3 p4 p5 K]
  exact h
/-! impl.StepGc -/
def G96 : Con := fun args tm K => cA args fun l2_ r1_ => cP .int l2_ fun p1 r3_ => cP .int r3_ fun p2 r4_ => cP .int r4_ fun p3 r5_ => cP .int r5_ fun p4 r6_ => dNil r6_ <| cA r1_ fun l8_ r7_ => cI .i64 l8_ fun p5 r9_ => cP .int r9_ fun p6 r10_ => cI .i64 r10_ fun p7 r11_ => dNil r11_ <| dNil r7_ <| dEnd tm <| Mi_StepGc p1 p2 p3 p4 p5 p6 p7 (fun r1 r2 r3 r4 r5 r6 r7 r8 => K (.tup [.agg [.sl 0, .sl 1, .sl 2, .sl 3], .agg [.int .i64 r1, .sl 4, .int .i64 r2], .bool r3]) [⟨true, .list .int r4⟩, ⟨true, .list .int r5⟩, ⟨true, .list .int r6⟩, ⟨true, .list .int r7⟩, ⟨true, .list .int r8⟩])
def H96_1000004 : LH where
  keep := [(2, .pc [.pure .int, .pure .int, .pure .int, .pure .int]), (3, .pc [.x, .pure .int, .x]), (4, .pc [.own .int, .own .int, .own .int, .own .int]), (5, .pc [.x, .own .int, .x]), (7, .x)]
  S := Int × List Int × List Int × List Int × List Int × Int × List Int × Int × Int × Int × List Int × List Int × List Int × List Int × List Int
  enc := fun s => ([.ptr 0 0, .ptr 1 0, .ptr 2 0, .ptr 3 0, .int .i64 s.1], [⟨true, .cells [.pl .int s.2.1, .pl .int s.2.2.1, .pl .int s.2.2.2.1, .pl .int s.2.2.2.2.1]⟩, ⟨true, .cells [.int .i64 s.2.2.2.2.2.1, .pl .int s.2.2.2.2.2.2.1, .int .i64 s.2.2.2.2.2.2.2.1]⟩, ⟨true, .cells [.sl 4, .sl 5, .sl 6, .sl 7]⟩, ⟨true, .cells [.int .i64 s.2.2.2.2.2.2.2.2.1, .sl 8, .int .i64 s.2.2.2.2.2.2.2.2.2.1]⟩, ⟨true, .list .int s.2.2.2.2.2.2.2.2.2.2.1⟩, ⟨true, .list .int s.2.2.2.2.2.2.2.2.2.2.2.1⟩, ⟨true, .list .int s.2.2.2.2.2.2.2.2.2.2.2.2.1⟩, ⟨true, .list .int s.2.2.2.2.2.2.2.2.2.2.2.2.2.1⟩, ⟨true, .list .int s.2.2.2.2.2.2.2.2.2.2.2.2.2.2⟩])
  dec := fun vs tm K => cQ 0 vs fun r1_ => cQ 1 r1_ fun r2_ => cQ 2 r2_ fun r3_ => cQ 3 r3_ fun r4_ => cI .i64 r4_ fun q0 r5_ => dNil r5_ <| bC true tm fun c7_ m6_ => cP .int c7_ fun q1 r8_ => cP .int r8_ fun q2 r9_ => cP .int r9_ fun q3 r10_ => cP .int r10_ fun q4 r11_ => dNil r11_ <| bC true m6_ fun c13_ m12_ => cI .i64 c13_ fun q5 r14_ => cP .int r14_ fun q6 r15_ => cI .i64 r15_ fun q7 r16_ => dNil r16_ <| bC true m12_ fun c18_ m17_ => cL 4 c18_ fun r19_ => cL 5 r19_ fun r20_ => cL 6 r20_ fun r21_ => cL 7 r21_ fun r22_ => dNil r22_ <| bC true m17_ fun c24_ m23_ => cI .i64 c24_ fun q8 r25_ => cL 8 r25_ fun r26_ => cI .i64 r26_ fun q9 r27_ => dNil r27_ <| bL true .int m23_ fun q10 m28_ => bL true .int m28_ fun q11 m29_ => bL true .int m29_ fun q12 m30_ => bL true .int m30_ fun q13 m31_ => bL true .int m31_ fun q14 m32_ => dEnd m32_ <| K (q0, q1, q2, q3, q4, q5, q6, q7, q8, q9, q10, q11, q12, q13, q14)
  law := by
    intro vs tm K
    refine cQ_in ?_; rintro r1_ rfl
    refine cQ_in ?_; rintro r2_ rfl
    refine cQ_in ?_; rintro r3_ rfl
    refine cQ_in ?_; rintro r4_ rfl
    refine cI_in ?_; rintro q0 r5_ rfl
    refine dN_in ?_; rintro rfl
    refine bC_in ?_; rintro c7_ m6_ rfl
    refine cP_in ?_; rintro q1 r8_ rfl
    refine cP_in ?_; rintro q2 r9_ rfl
    refine cP_in ?_; rintro q3 r10_ rfl
    refine cP_in ?_; rintro q4 r11_ rfl
    refine dN_in ?_; rintro rfl
    refine bC_in ?_; rintro c13_ m12_ rfl
    refine cI_in ?_; rintro q5 r14_ rfl
    refine cP_in ?_; rintro q6 r15_ rfl
    refine cI_in ?_; rintro q7 r16_ rfl
    refine dN_in ?_; rintro rfl
    refine bC_in ?_; rintro c18_ m17_ rfl
    refine cL_in ?_; rintro r19_ rfl
    refine cL_in ?_; rintro r20_ rfl
    refine cL_in ?_; rintro r21_ rfl
    refine cL_in ?_; rintro r22_ rfl
    refine dN_in ?_; rintro rfl
    refine bC_in ?_; rintro c24_ m23_ rfl
    refine cI_in ?_; rintro q8 r25_ rfl
    refine cL_in ?_; rintro r26_ rfl
    refine cI_in ?_; rintro q9 r27_ rfl
    refine dN_in ?_; rintro rfl
    refine bL_in ?_; rintro q10 m28_ rfl
    refine bL_in ?_; rintro q11 m29_ rfl
    refine bL_in ?_; rintro q12 m30_ rfl
    refine bL_in ?_; rintro q13 m31_ rfl
    refine bL_in ?_; rintro q14 m32_ rfl
    refine dE_in ?_; rintro rfl
    exact fun h => ⟨(q0, q1, q2, q3, q4, q5, q6, q7, q8, q9, q10, q11, q12, q13, q14), rfl, h⟩
def H96_1000027 : LH where
  keep := [(2, .pc [.own .int, .own .int, .own .int, .own .int]), (3, .pc [.x, .own .int, .x]), (4, .pc [.own .int, .own .int, .own .int, .own .int]), (5, .pc [.x, .own .int, .x])]
  S := Int × Int × Int × Int × List Int × List Int × List Int × List Int × List Int × List Int × List Int × List Int × List Int × List Int
  enc := fun s => ([.ptr 0 0, .ptr 1 0, .ptr 2 0, .ptr 3 0], [⟨true, .cells [.sl 4, .sl 5, .sl 6, .sl 7]⟩, ⟨true, .cells [.int .i64 s.1, .sl 8, .int .i64 s.2.1]⟩, ⟨true, .cells [.sl 9, .sl 10, .sl 11, .sl 12]⟩, ⟨true, .cells [.int .i64 s.2.2.1, .sl 13, .int .i64 s.2.2.2.1]⟩, ⟨true, .list .int s.2.2.2.2.1⟩, ⟨true, .list .int s.2.2.2.2.2.1⟩, ⟨true, .list .int s.2.2.2.2.2.2.1⟩, ⟨true, .list .int s.2.2.2.2.2.2.2.1⟩, ⟨true, .list .int s.2.2.2.2.2.2.2.2.1⟩, ⟨true, .list .int s.2.2.2.2.2.2.2.2.2.1⟩, ⟨true, .list .int s.2.2.2.2.2.2.2.2.2.2.1⟩, ⟨true, .list .int s.2.2.2.2.2.2.2.2.2.2.2.1⟩, ⟨true, .list .int s.2.2.2.2.2.2.2.2.2.2.2.2.1⟩, ⟨true, .list .int s.2.2.2.2.2.2.2.2.2.2.2.2.2⟩])
  dec := fun vs tm K => cQ 0 vs fun r1_ => cQ 1 r1_ fun r2_ => cQ 2 r2_ fun r3_ => cQ 3 r3_ fun r4_ => dNil r4_ <| bC true tm fun c6_ m5_ => cL 4 c6_ fun r7_ => cL 5 r7_ fun r8_ => cL 6 r8_ fun r9_ => cL 7 r9_ fun r10_ => dNil r10_ <| bC true m5_ fun c12_ m11_ => cI .i64 c12_ fun q0 r13_ => cL 8 r13_ fun r14_ => cI .i64 r14_ fun q1 r15_ => dNil r15_ <| bC true m11_ fun c17_ m16_ => cL 9 c17_ fun r18_ => cL 10 r18_ fun r19_ => cL 11 r19_ fun r20_ => cL 12 r20_ fun r21_ => dNil r21_ <| bC true m16_ fun c23_ m22_ => cI .i64 c23_ fun q2 r24_ => cL 13 r24_ fun r25_ => cI .i64 r25_ fun q3 r26_ => dNil r26_ <| bL true .int m22_ fun q4 m27_ => bL true .int m27_ fun q5 m28_ => bL true .int m28_ fun q6 m29_ => bL true .int m29_ fun q7 m30_ => bL true .int m30_ fun q8 m31_ => bL true .int m31_ fun q9 m32_ => bL true .int m32_ fun q10 m33_ => bL true .int m33_ fun q11 m34_ => bL true .int m34_ fun q12 m35_ => bL true .int m35_ fun q13 m36_ => dEnd m36_ <| K (q0, q1, q2, q3, q4, q5, q6, q7, q8, q9, q10, q11, q12, q13)
  law := by
    intro vs tm K
    refine cQ_in ?_; rintro r1_ rfl
    refine cQ_in ?_; rintro r2_ rfl
    refine cQ_in ?_; rintro r3_ rfl
    refine cQ_in ?_; rintro r4_ rfl
    refine dN_in ?_; rintro rfl
    refine bC_in ?_; rintro c6_ m5_ rfl
    refine cL_in ?_; rintro r7_ rfl
    refine cL_in ?_; rintro r8_ rfl
    refine cL_in ?_; rintro r9_ rfl
    refine cL_in ?_; rintro r10_ rfl
    refine dN_in ?_; rintro rfl
    refine bC_in ?_; rintro c12_ m11_ rfl
    refine cI_in ?_; rintro q0 r13_ rfl
    refine cL_in ?_; rintro r14_ rfl
    refine cI_in ?_; rintro q1 r15_ rfl
    refine dN_in ?_; rintro rfl
    refine bC_in ?_; rintro c17_ m16_ rfl
    refine cL_in ?_; rintro r18_ rfl
    refine cL_in ?_; rintro r19_ rfl
    refine cL_in ?_; rintro r20_ rfl
    refine cL_in ?_; rintro r21_ rfl
    refine dN_in ?_; rintro rfl
    refine bC_in ?_; rintro c23_ m22_ rfl
    refine cI_in ?_; rintro q2 r24_ rfl
    refine cL_in ?_; rintro r25_ rfl
    refine cI_in ?_; rintro q3 r26_ rfl
    refine dN_in ?_; rintro rfl
    refine bL_in ?_; rintro q4 m27_ rfl
    refine bL_in ?_; rintro q5 m28_ rfl
    refine bL_in ?_; rintro q6 m29_ rfl
    refine bL_in ?_; rintro q7 m30_ rfl
    refine bL_in ?_; rintro q8 m31_ rfl
    refine bL_in ?_; rintro q9 m32_ rfl
    refine bL_in ?_; rintro q10 m33_ rfl
    refine bL_in ?_; rintro q11 m34_ rfl
    refine bL_in ?_; rintro q12 m35_ rfl
    refine bL_in ?_; rintro q13 m36_ rfl
    refine dE_in ?_; rintro rfl
    exact fun h => ⟨(q0, q1, q2, q3, q4, q5, q6, q7, q8, q9, q10, q11, q12, q13), rfl, h⟩
def H96 : List (Nat × LH) := [(1000004, H96_1000004), (1000027, H96_1000027)]
def W96 : List (Nat × List (Nat × List Nat)) := [(27, [(2, [2])])]
def Γ96 : List (Nat × Con) := [(94, useC [.ag [.pure .int, .pure .int, .pure .int, .pure .int], .ag [.x, .pure .int, .x]] G94), (91, useC [.ag [.pure .int, .pure .int, .pure .int, .pure .int], .ag [.x, .pure .int, .x]] G91), (47, useC [.pure .int, .x] G47), (67, useC [.ag [.pure .int, .pure .int, .pure .int, .pure .int]] G67), (92, useC [.pure .int] G92), (156, useC [.own .int, .x] G156), (157, useC [.ag [.pure .int, .pure .int, .pure .int], .own .int] G157), (158, useC [.pure .int, .x] (onlyC [] G158)), (84, useC [.pc [.own .int, .own .int, .own .int, .own .int], .pure .int] G84)]
theorem q96_27 (s : H96_1000027.S) (K : TV → TMem → Prop) : segT PP 119 Γ96 H96 W96 0 (sufC 6 (bodyOf Tryz.f96)) (endT PP 119 [.cell 4 27, .cell 5 29, .tmp 6] [.ag [.own .int, .own .int, .own .int, .own .int], .ag [.x, .own .int, .x], .bl] [] 0 K) (frameOf H96_1000027.keep (H96_1000027.enc s).1) (H96_1000027.enc s).2 =
    Mi_StepGc_c27 s.1 s.2.1 s.2.2.1 s.2.2.2.1 s.2.2.2.2.1 s.2.2.2.2.2.1 s.2.2.2.2.2.2.1 s.2.2.2.2.2.2.2.1 s.2.2.2.2.2.2.2.2.1 s.2.2.2.2.2.2.2.2.2.1 s.2.2.2.2.2.2.2.2.2.2.1 s.2.2.2.2.2.2.2.2.2.2.2.1 s.2.2.2.2.2.2.2.2.2.2.2.2.1 s.2.2.2.2.2.2.2.2.2.2.2.2.2 (fun r1 r2 r3 r4 r5 r6 r7 r8 => K (.tup [.agg [.sl 0, .sl 1, .sl 2, .sl 3], .agg [.int .i64 r1, .sl 4, .int .i64 r2], .bool r3]) [⟨true, .list .int r4⟩, ⟨true, .list .int r5⟩, ⟨true, .list .int r6⟩, ⟨true, .list .int r7⟩, ⟨true, .list .int r8⟩]) := by kernel_rfl
theorem j96_27 (K : TV → TMem → Prop) (ts : TFrm) (tm : TMem) : (headT 0 H96_1000027 ts tm fun s => Mi_StepGc_c27 s.1 s.2.1 s.2.2.1 s.2.2.2.1 s.2.2.2.2.1 s.2.2.2.2.2.1 s.2.2.2.2.2.2.1 s.2.2.2.2.2.2.2.1 s.2.2.2.2.2.2.2.2.1 s.2.2.2.2.2.2.2.2.2.1 s.2.2.2.2.2.2.2.2.2.2.1 s.2.2.2.2.2.2.2.2.2.2.2.1 s.2.2.2.2.2.2.2.2.2.2.2.2.1 s.2.2.2.2.2.2.2.2.2.2.2.2.2 (fun r1 r2 r3 r4 r5 r6 r7 r8 => K (.tup [.agg [.sl 0, .sl 1, .sl 2, .sl 3], .agg [.int .i64 r1, .sl 4, .int .i64 r2], .bool r3]) [⟨true, .list .int r4⟩, ⟨true, .list .int r5⟩, ⟨true, .list .int r6⟩, ⟨true, .list .int r7⟩, ⟨true, .list .int r8⟩])) = TW PP 119 Γ96 H96 W96 0 (sufC 6 (bodyOf Tryz.f96)) (endT PP 119 [.cell 4 27, .cell 5 29, .tmp 6] [.ag [.own .int, .own .int, .own .int, .own .int], .ag [.x, .own .int, .x], .bl] [] 0 K) ts tm :=
  TW_seg (by kernel_rfl : regOf (sufC 6 (bodyOf Tryz.f96)) = some 27) (by kernel_rfl) (fun s => q96_27 s K) ts tm
theorem r96_4 (s : H96_1000004.S) (K : TV → TMem → Prop) : segN PP 119 Γ96 H96 W96 0 2 (sufC 3 (bodyOf Tryz.f96)) (fun ts tm => headT 0 H96_1000027 ts tm fun s => Mi_StepGc_c27 s.1 s.2.1 s.2.2.1 s.2.2.2.1 s.2.2.2.2.1 s.2.2.2.2.2.1 s.2.2.2.2.2.2.1 s.2.2.2.2.2.2.2.1 s.2.2.2.2.2.2.2.2.1 s.2.2.2.2.2.2.2.2.2.1 s.2.2.2.2.2.2.2.2.2.2.1 s.2.2.2.2.2.2.2.2.2.2.2.1 s.2.2.2.2.2.2.2.2.2.2.2.2.1 s.2.2.2.2.2.2.2.2.2.2.2.2.2 (fun r1 r2 r3 r4 r5 r6 r7 r8 => K (.tup [.agg [.sl 0, .sl 1, .sl 2, .sl 3], .agg [.int .i64 r1, .sl 4, .int .i64 r2], .bool r3]) [⟨true, .list .int r4⟩, ⟨true, .list .int r5⟩, ⟨true, .list .int r6⟩, ⟨true, .list .int r7⟩, ⟨true, .list .int r8⟩])) (endT PP 119 [.cell 4 27, .cell 5 29, .tmp 6] [.ag [.own .int, .own .int, .own .int, .own .int], .ag [.x, .own .int, .x], .bl] [] 0 K) (frameOf H96_1000004.keep (H96_1000004.enc s).1) (H96_1000004.enc s).2 =
    Mi_StepGc_c4 s.1 s.2.1 s.2.2.1 s.2.2.2.1 s.2.2.2.2.1 s.2.2.2.2.2.1 s.2.2.2.2.2.2.1 s.2.2.2.2.2.2.2.1 s.2.2.2.2.2.2.2.2.1 s.2.2.2.2.2.2.2.2.2.1 s.2.2.2.2.2.2.2.2.2.2.1 s.2.2.2.2.2.2.2.2.2.2.2.1 s.2.2.2.2.2.2.2.2.2.2.2.2.1 s.2.2.2.2.2.2.2.2.2.2.2.2.2.1 s.2.2.2.2.2.2.2.2.2.2.2.2.2.2 (fun r1 r2 r3 r4 r5 r6 r7 r8 => K (.tup [.agg [.sl 0, .sl 1, .sl 2, .sl 3], .agg [.int .i64 r1, .sl 4, .int .i64 r2], .bool r3]) [⟨true, .list .int r4⟩, ⟨true, .list .int r5⟩, ⟨true, .list .int r6⟩, ⟨true, .list .int r7⟩, ⟨true, .list .int r8⟩]) := by kernel_rfl
theorem q96_4 (s : H96_1000004.S) (K : TV → TMem → Prop) : segT PP 119 Γ96 H96 W96 0 (sufC 3 (bodyOf Tryz.f96)) (endT PP 119 [.cell 4 27, .cell 5 29, .tmp 6] [.ag [.own .int, .own .int, .own .int, .own .int], .ag [.x, .own .int, .x], .bl] [] 0 K) (frameOf H96_1000004.keep (H96_1000004.enc s).1) (H96_1000004.enc s).2 =
    Mi_StepGc_c4 s.1 s.2.1 s.2.2.1 s.2.2.2.1 s.2.2.2.2.1 s.2.2.2.2.2.1 s.2.2.2.2.2.2.1 s.2.2.2.2.2.2.2.1 s.2.2.2.2.2.2.2.2.1 s.2.2.2.2.2.2.2.2.2.1 s.2.2.2.2.2.2.2.2.2.2.1 s.2.2.2.2.2.2.2.2.2.2.2.1 s.2.2.2.2.2.2.2.2.2.2.2.2.1 s.2.2.2.2.2.2.2.2.2.2.2.2.2.1 s.2.2.2.2.2.2.2.2.2.2.2.2.2.2 (fun r1 r2 r3 r4 r5 r6 r7 r8 => K (.tup [.agg [.sl 0, .sl 1, .sl 2, .sl 3], .agg [.int .i64 r1, .sl 4, .int .i64 r2], .bool r3]) [⟨true, .list .int r4⟩, ⟨true, .list .int r5⟩, ⟨true, .list .int r6⟩, ⟨true, .list .int r7⟩, ⟨true, .list .int r8⟩]) :=
  (segN_eq (by kernel_rfl) fun ts tm => (j96_27 K ts tm).trans (congrArg (fun c => TW PP 119 Γ96 H96 W96 0 c (endT PP 119 [.cell 4 27, .cell 5 29, .tmp 6] [.ag [.own .int, .own .int, .own .int, .own .int], .ag [.x, .own .int, .x], .bl] [] 0 K) ts tm) (sufC_split 3 2 6 rfl _))).trans (r96_4 s K)
theorem j96_4 (K : TV → TMem → Prop) (ts : TFrm) (tm : TMem) : (headT 0 H96_1000004 ts tm fun s => Mi_StepGc_c4 s.1 s.2.1 s.2.2.1 s.2.2.2.1 s.2.2.2.2.1 s.2.2.2.2.2.1 s.2.2.2.2.2.2.1 s.2.2.2.2.2.2.2.1 s.2.2.2.2.2.2.2.2.1 s.2.2.2.2.2.2.2.2.2.1 s.2.2.2.2.2.2.2.2.2.2.1 s.2.2.2.2.2.2.2.2.2.2.2.1 s.2.2.2.2.2.2.2.2.2.2.2.2.1 s.2.2.2.2.2.2.2.2.2.2.2.2.2.1 s.2.2.2.2.2.2.2.2.2.2.2.2.2.2 (fun r1 r2 r3 r4 r5 r6 r7 r8 => K (.tup [.agg [.sl 0, .sl 1, .sl 2, .sl 3], .agg [.int .i64 r1, .sl 4, .int .i64 r2], .bool r3]) [⟨true, .list .int r4⟩, ⟨true, .list .int r5⟩, ⟨true, .list .int r6⟩, ⟨true, .list .int r7⟩, ⟨true, .list .int r8⟩])) = TW PP 119 Γ96 H96 W96 0 (sufC 3 (bodyOf Tryz.f96)) (endT PP 119 [.cell 4 27, .cell 5 29, .tmp 6] [.ag [.own .int, .own .int, .own .int, .own .int], .ag [.x, .own .int, .x], .bl] [] 0 K) ts tm :=
  TW_seg (by kernel_rfl : regOf (sufC 3 (bodyOf Tryz.f96)) = some 4) (by kernel_rfl) (fun s => q96_4 s K) ts tm
theorem ea96 (p1 : List Int) (p2 : List Int) (p3 : List Int) (p4 : List Int) (p5 : Int) (p6 : List Int) (p7 : Int) (K : TV → TMem → Prop) : TWn PP 119 Γ96 H96 W96 0 3 (bodyOf Tryz.f96) (fun ts tm => headT 0 H96_1000004 ts tm fun s => Mi_StepGc_c4 s.1 s.2.1 s.2.2.1 s.2.2.2.1 s.2.2.2.2.1 s.2.2.2.2.2.1 s.2.2.2.2.2.2.1 s.2.2.2.2.2.2.2.1 s.2.2.2.2.2.2.2.2.1 s.2.2.2.2.2.2.2.2.2.1 s.2.2.2.2.2.2.2.2.2.2.1 s.2.2.2.2.2.2.2.2.2.2.2.1 s.2.2.2.2.2.2.2.2.2.2.2.2.1 s.2.2.2.2.2.2.2.2.2.2.2.2.2.1 s.2.2.2.2.2.2.2.2.2.2.2.2.2.2 (fun r1 r2 r3 r4 r5 r6 r7 r8 => K (.tup [.agg [.sl 0, .sl 1, .sl 2, .sl 3], .agg [.int .i64 r1, .sl 4, .int .i64 r2], .bool r3]) [⟨true, .list .int r4⟩, ⟨true, .list .int r5⟩, ⟨true, .list .int r6⟩, ⟨true, .list .int r7⟩, ⟨true, .list .int r8⟩])) (endT PP 119 [.cell 4 27, .cell 5 29, .tmp 6] [.ag [.own .int, .own .int, .own .int, .own .int], .ag [.x, .own .int, .x], .bl] [] 0 K) (argsF [.agg [.pl .int p1, .pl .int p2, .pl .int p3, .pl .int p4], .agg [.int .i64 p5, .pl .int p6, .int .i64 p7]]) [] =
    Mi_StepGc p1 p2 p3 p4 p5 p6 p7 (fun r1 r2 r3 r4 r5 r6 r7 r8 => K (.tup [.agg [.sl 0, .sl 1, .sl 2, .sl 3], .agg [.int .i64 r1, .sl 4, .int .i64 r2], .bool r3]) [⟨true, .list .int r4⟩, ⟨true, .list .int r5⟩, ⟨true, .list .int r6⟩, ⟨true, .list .int r7⟩, ⟨true, .list .int r8⟩]) := by kernel_rfl
theorem e96 (p1 : List Int) (p2 : List Int) (p3 : List Int) (p4 : List Int) (p5 : Int) (p6 : List Int) (p7 : Int) (K : TV → TMem → Prop) : TW PP 119 Γ96 H96 W96 (List.length ([] : TMem)) (bodyOf Tryz.f96) (endT PP 119 [.cell 4 27, .cell 5 29, .tmp 6] [.ag [.own .int, .own .int, .own .int, .own .int], .ag [.x, .own .int, .x], .bl] [] (List.length ([] : TMem)) K) (argsF [.agg [.pl .int p1, .pl .int p2, .pl .int p3, .pl .int p4], .agg [.int .i64 p5, .pl .int p6, .int .i64 p7]]) [] =
    Mi_StepGc p1 p2 p3 p4 p5 p6 p7 (fun r1 r2 r3 r4 r5 r6 r7 r8 => K (.tup [.agg [.sl 0, .sl 1, .sl 2, .sl 3], .agg [.int .i64 r1, .sl 4, .int .i64 r2], .bool r3]) [⟨true, .list .int r4⟩, ⟨true, .list .int r5⟩, ⟨true, .list .int r6⟩, ⟨true, .list .int r7⟩, ⟨true, .list .int r8⟩]) :=
  (congrFun (congrFun (TWn_eq 3 _ (by kernel_rfl) fun ts tm => j96_4 K ts tm) _) _).trans (ea96 p1 p2 p3 p4 p5 p6 p7 K)
theorem s96 : CSound PP 96 G96 := by
  intro args K c h fl A aargs hA hN R hl
  unfold G96 at h
  generalize ht : c.tm = tm at h
  revert h
  refine cA_in ?_; rintro l2_ r1_ rfl
  refine cP_in ?_; rintro p1 r3_ rfl
  refine cP_in ?_; rintro p2 r4_ rfl
  refine cP_in ?_; rintro p3 r5_ rfl
  refine cP_in ?_; rintro p4 r6_ rfl
  refine dN_in ?_; rintro rfl
  refine cA_in ?_; rintro l8_ r7_ rfl
  refine cI_in ?_; rintro p5 r9_ rfl
  refine cP_in ?_; rintro p6 r10_ rfl
  refine cI_in ?_; rintro p7 r11_ rfl
  refine dN_in ?_; rintro rfl
  refine dN_in ?_; rintro rfl
  refine dE_in ?_; rintro rfl
  intro h
  refine fun_ok (nt := 119) (x := bodyOf Tryz.f96) (Γ := Γ96) (H := H96) (WW := W96) (rs := [.cell 4 27, .cell 5 29, .tmp 6]) (shs := [.ag [.own .int, .own .int, .own .int, .own .int], .ag [.x, .own .int, .x], .bl]) (cons := []) mixed Tryz.func96 (by decide) (by kernel_rfl) Tryz.ntmps96 Tryz.results96 (.cons (useC_ok s94) (.cons (useC_ok s91) (.cons (useC_ok s47) (.cons (useC_ok s67) (.cons (useC_ok s92) (.cons (useC_ok s156) (.cons (useC_ok s157) (.cons (useC_ok (onlyC_ok s158)) (.cons (useC_ok s84) (GSound.nil)))))))))) ?_ hA hN R hl
  rw [ht, e96 p1 p2 p3 p4 p5 p6 p7 K]
  exact h
/-! impl.StepBoth -/
def G37 : Con := fun args tm K => cA args fun l2_ r1_ => cP .int l2_ fun p1 r3_ => cP .int r3_ fun p2 r4_ => cP .int r4_ fun p3 r5_ => cP .int r5_ fun p4 r6_ => cI .i64 r6_ fun p5 r7_ => cP .int r7_ fun p6 r8_ => cI .i64 r8_ fun p7 r9_ => cP .op r9_ fun p8 r10_ => cI .i64 r10_ fun p9 r11_ => cB r11_ fun p10 r12_ => dNil r12_ <| dNil r1_ <| dEnd tm <| Mi_StepBoth p1 p2 p3 p4 p5 p6 p7 p8 p9 p10 (fun r1 r2 r3 r4 r5 r6 r7 r8 r9 r10 r11 => K (.tup [.agg [.sl 0, .sl 1, .sl 2, .sl 3, .int .i64 r1, .sl 4, .int .i64 r2, .sl 5, .int .i64 r3, .bool r4], .bool r5]) [⟨true, .list .int r6⟩, ⟨true, .list .int r7⟩, ⟨true, .list .int r8⟩, ⟨true, .list .int r9⟩, ⟨true, .list .int r10⟩, ⟨true, .list .op r11⟩])
def H37 : List (Nat × LH) := []
def W37 : List (Nat × List (Nat × List Nat)) := []
def Γ37 : List (Nat × Con) := [(34, useC [.ag [.pure .int, .pure .int, .pure .int, .pure .int, .x, .pure .int, .x, .pure .op, .x, .bl]] G34), (35, useC [.ag [.pure .int, .pure .int, .pure .int, .pure .int, .x, .pure .int, .x, .pure .op, .x, .bl]] G35), (94, useC [.ag [.pure .int, .pure .int, .pure .int, .pure .int], .ag [.x, .pure .int, .x]] G94), (95, useC [.ag [.pure .int, .pure .int, .pure .int]] G95), (96, useC [.ag [.pure .int, .pure .int, .pure .int, .pure .int], .ag [.x, .pure .int, .x]] G96)]
theorem e37 (p1 : List Int) (p2 : List Int) (p3 : List Int) (p4 : List Int) (p5 : Int) (p6 : List Int) (p7 : Int) (p8 : List OpV) (p9 : Int) (p10 : Bool) (K : TV → TMem → Prop) : TW PP 45 Γ37 H37 W37 (List.length ([] : TMem)) (bodyOf Tryz.f37) (endT PP 45 [.cell 2 32, .tmp 3] [.ag [.own .int, .own .int, .own .int, .own .int, .x, .own .int, .x, .own .op, .x, .bl], .bl] [] (List.length ([] : TMem)) K) (argsF [.agg [.pl .int p1, .pl .int p2, .pl .int p3, .pl .int p4, .int .i64 p5, .pl .int p6, .int .i64 p7, .pl .op p8, .int .i64 p9, .bool p10]]) [] =
    Mi_StepBoth p1 p2 p3 p4 p5 p6 p7 p8 p9 p10 (fun r1 r2 r3 r4 r5 r6 r7 r8 r9 r10 r11 => K (.tup [.agg [.sl 0, .sl 1, .sl 2, .sl 3, .int .i64 r1, .sl 4, .int .i64 r2, .sl 5, .int .i64 r3, .bool r4], .bool r5]) [⟨true, .list .int r6⟩, ⟨true, .list .int r7⟩, ⟨true, .list .int r8⟩, ⟨true, .list .int r9⟩, ⟨true, .list .int r10⟩, ⟨true, .list .op r11⟩]) := by kernel_rfl
theorem s37 : CSound PP 37 G37 := by
  intro args K c h fl A aargs hA hN R hl
  unfold G37 at h
  generalize ht : c.tm = tm at h
  revert h
  refine cA_in ?_; rintro l2_ r1_ rfl
  refine cP_in ?_; rintro p1 r3_ rfl
  refine cP_in ?_; rintro p2 r4_ rfl
  refine cP_in ?_; rintro p3 r5_ rfl
  refine cP_in ?_; rintro p4 r6_ rfl
  refine cI_in ?_; rintro p5 r7_ rfl
  refine cP_in ?_; rintro p6 r8_ rfl
  refine cI_in ?_; rintro p7 r9_ rfl
  refine cP_in ?_; rintro p8 r10_ rfl
  refine cI_in ?_; rintro p9 r11_ rfl
  refine cB_in ?_; rintro p10 r12_ rfl
  refine dN_in ?_; rintro rfl
  refine dN_in ?_; rintro rfl
  refine dE_in ?_; rintro rfl
  intro h
  refine fun_ok (nt := 45) (x := bodyOf Tryz.f37) (Γ := Γ37) (H := H37) (WW := W37) (rs := [.cell 2 32, .tmp 3]) (shs := [.ag [.own .int, .own .int, .own .int, .own .int, .x, .own .int, .x, .own .op, .x, .bl], .bl]) (cons := []) mixed Tryz.func37 (by decide) (by kernel_rfl) Tryz.ntmps37 Tryz.results37 (.cons (useC_ok s34) (.cons (useC_ok s35) (.cons (useC_ok s94) (.cons (useC_ok s95) (.cons (useC_ok s96) (GSound.nil)))))) ?_ hA hN R hl
  rw [ht, e37 p1 p2 p3 p4 p5 p6 p7 p8 p9 p10 K]
  exact h
theorem enters48 : Enters PP 48 := ⟨_, Tryz.func48, by decide, rfl⟩
def G48 : Con := conSS M_strings_Trim
theorem s48 : CSound PP 48 G48 := conSS_ok enters48 fun s cut w h => by
  have hc := Go.Proofs.Any.strings_Trim_laid Tryz.lays160 (by kernel_rfl) s cut w (by simpa using h.1) (by simpa using h.2.1) (Go.Proofs.ascii_of_all h.2.2)
  change Calls PP 48 _ _ _ at hc
  exact hc
/-! impl.RunBoth -/
def G12 : Con := fun args tm K => cA args fun l2_ r1_ => cP .int l2_ fun p1 r3_ => cP .int r3_ fun p2 r4_ => cP .int r4_ fun p3 r5_ => cP .int r5_ fun p4 r6_ => cI .i64 r6_ fun p5 r7_ => cP .int r7_ fun p6 r8_ => cI .i64 r8_ fun p7 r9_ => cP .op r9_ fun p8 r10_ => cI .i64 r10_ fun p9 r11_ => cB r11_ fun p10 r12_ => dNil r12_ <| cS r1_ fun p11 r13_ => cB r13_ fun p12 r14_ => dNil r14_ <| dEnd tm <| Mi_RunBoth p1 p2 p3 p4 p5 p6 p7 p8 p9 p10 p11 p12 (fun r1 r2 r3 r4 r5 r6 r7 r8 r9 r10 r11 => K (.tup [.agg [.sl 0, .sl 1, .sl 2, .sl 3, .int .i64 r1, .sl 4, .int .i64 r2, .sl 5, .int .i64 r3, .bool r4], .bool r5]) [⟨true, .list .int r6⟩, ⟨true, .list .int r7⟩, ⟨true, .list .int r8⟩, ⟨true, .list .int r9⟩, ⟨true, .list .int r10⟩, ⟨true, .list .op r11⟩])
def H12_0 : LH where
  keep := [(1, .x), (2, .bl), (3, .pc [.own .int, .own .int, .own .int, .own .int, .x, .own .int, .x, .own .op, .x, .bl]), (6, .pc [.own .int, .own .int, .own .int, .own .int, .x, .own .int, .x, .own .op, .x, .bl]), (28, .x), (29, .x)]
  S := List UInt8 × Bool × Int × Int × Int × Int × Int × Bool × Int × Int × Int × Bool × List Int × List Int × List Int × List Int × List Int × List OpV × List Int × List Int × List Int × List Int × List Int × List OpV
  enc := fun s => ([.str s.1, .bool s.2.1, .ptr 0 0, .ptr 1 0, .int .i64 s.2.2.1, .int .i64 s.2.2.2.1], [⟨true, .cells [.sl 2, .sl 3, .sl 4, .sl 5, .int .i64 s.2.2.2.2.1, .sl 6, .int .i64 s.2.2.2.2.2.1, .sl 7, .int .i64 s.2.2.2.2.2.2.1, .bool s.2.2.2.2.2.2.2.1]⟩, ⟨true, .cells [.sl 8, .sl 9, .sl 10, .sl 11, .int .i64 s.2.2.2.2.2.2.2.2.1, .sl 12, .int .i64 s.2.2.2.2.2.2.2.2.2.1, .sl 13, .int .i64 s.2.2.2.2.2.2.2.2.2.2.1, .bool s.2.2.2.2.2.2.2.2.2.2.2.1]⟩, ⟨true, .list .int s.2.2.2.2.2.2.2.2.2.2.2.2.1⟩, ⟨true, .list .int s.2.2.2.2.2.2.2.2.2.2.2.2.2.1⟩, ⟨true, .list .int s.2.2.2.2.2.2.2.2.2.2.2.2.2.2.1⟩, ⟨true, .list .int s.2.2.2.2.2.2.2.2.2.2.2.2.2.2.2.1⟩, ⟨true, .list .int s.2.2.2.2.2.2.2.2.2.2.2.2.2.2.2.2.1⟩, ⟨true, .list .op s.2.2.2.2.2.2.2.2.2.2.2.2.2.2.2.2.2.1⟩, ⟨true, .list .int s.2.2.2.2.2.2.2.2.2.2.2.2.2.2.2.2.2.2.1⟩, ⟨true, .list .int s.2.2.2.2.2.2.2.2.2.2.2.2.2.2.2.2.2.2.2.1⟩, ⟨true, .list .int s.2.2.2.2.2.2.2.2.2.2.2.2.2.2.2.2.2.2.2.2.1⟩, ⟨true, .list .int s.2.2.2.2.2.2.2.2.2.2.2.2.2.2.2.2.2.2.2.2.2.1⟩, ⟨true, .list .int s.2.2.2.2.2.2.2.2.2.2.2.2.2.2.2.2.2.2.2.2.2.2.1⟩, ⟨true, .list .op s.2.2.2.2.2.2.2.2.2.2.2.2.2.2.2.2.2.2.2.2.2.2.2⟩])
  dec := fun vs tm K => cS vs fun q0 r1_ => cB r1_ fun q1 r2_ => cQ 0 r2_ fun r3_ => cQ 1 r3_ fun r4_ => cI .i64 r4_ fun q2 r5_ => cI .i64 r5_ fun q3 r6_ => dNil r6_ <| bC true tm fun c8_ m7_ => cL 2 c8_ fun r9_ => cL 3 r9_ fun r10_ => cL 4 r10_ fun r11_ => cL 5 r11_ fun r12_ => cI .i64 r12_ fun q4 r13_ => cL 6 r13_ fun r14_ => cI .i64 r14_ fun q5 r15_ => cL 7 r15_ fun r16_ => cI .i64 r16_ fun q6 r17_ => cB r17_ fun q7 r18_ => dNil r18_ <| bC true m7_ fun c20_ m19_ => cL 8 c20_ fun r21_ => cL 9 r21_ fun r22_ => cL 10 r22_ fun r23_ => cL 11 r23_ fun r24_ => cI .i64 r24_ fun q8 r25_ => cL 12 r25_ fun r26_ => cI .i64 r26_ fun q9 r27_ => cL 13 r27_ fun r28_ => cI .i64 r28_ fun q10 r29_ => cB r29_ fun q11 r30_ => dNil r30_ <| bL true .int m19_ fun q12 m31_ => bL true .int m31_ fun q13 m32_ => bL true .int m32_ fun q14 m33_ => bL true .int m33_ fun q15 m34_ => bL true .int m34_ fun q16 m35_ => bL true .op m35_ fun q17 m36_ => bL true .int m36_ fun q18 m37_ => bL true .int m37_ fun q19 m38_ => bL true .int m38_ fun q20 m39_ => bL true .int m39_ fun q21 m40_ => bL true .int m40_ fun q22 m41_ => bL true .op m41_ fun q23 m42_ => dEnd m42_ <| K (q0, q1, q2, q3, q4, q5, q6, q7, q8, q9, q10, q11, q12, q13, q14, q15, q16, q17, q18, q19, q20, q21, q22, q23)
  law := by
    intro vs tm K
    refine cS_in ?_; rintro q0 r1_ rfl
    refine cB_in ?_; rintro q1 r2_ rfl
    refine cQ_in ?_; rintro r3_ rfl
    refine cQ_in ?_; rintro r4_ rfl
    refine cI_in ?_; rintro q2 r5_ rfl
    refine cI_in ?_; rintro q3 r6_ rfl
    refine dN_in ?_; rintro rfl
    refine bC_in ?_; rintro c8_ m7_ rfl
    refine cL_in ?_; rintro r9_ rfl
    refine cL_in ?_; rintro r10_ rfl
    refine cL_in ?_; rintro r11_ rfl
    refine cL_in ?_; rintro r12_ rfl
    refine cI_in ?_; rintro q4 r13_ rfl
    refine cL_in ?_; rintro r14_ rfl
    refine cI_in ?_; rintro q5 r15_ rfl
    refine cL_in ?_; rintro r16_ rfl
    refine cI_in ?_; rintro q6 r17_ rfl
    refine cB_in ?_; rintro q7 r18_ rfl
    refine dN_in ?_; rintro rfl
    refine bC_in ?_; rintro c20_ m19_ rfl
    refine cL_in ?_; rintro r21_ rfl
    refine cL_in ?_; rintro r22_ rfl
    refine cL_in ?_; rintro r23_ rfl
    refine cL_in ?_; rintro r24_ rfl
    refine cI_in ?_; rintro q8 r25_ rfl
    refine cL_in ?_; rintro r26_ rfl
    refine cI_in ?_; rintro q9 r27_ rfl
    refine cL_in ?_; rintro r28_ rfl
    refine cI_in ?_; rintro q10 r29_ rfl
    refine cB_in ?_; rintro q11 r30_ rfl
    refine dN_in ?_; rintro rfl
    refine bL_in ?_; rintro q12 m31_ rfl
    refine bL_in ?_; rintro q13 m32_ rfl
    refine bL_in ?_; rintro q14 m33_ rfl
    refine bL_in ?_; rintro q15 m34_ rfl
    refine bL_in ?_; rintro q16 m35_ rfl
    refine bL_in ?_; rintro q17 m36_ rfl
    refine bL_in ?_; rintro q18 m37_ rfl
    refine bL_in ?_; rintro q19 m38_ rfl
    refine bL_in ?_; rintro q20 m39_ rfl
    refine bL_in ?_; rintro q21 m40_ rfl
    refine bL_in ?_; rintro q22 m41_ rfl
    refine bL_in ?_; rintro q23 m42_ rfl
    refine dE_in ?_; rintro rfl
    exact fun h => ⟨(q0, q1, q2, q3, q4, q5, q6, q7, q8, q9, q10, q11, q12, q13, q14, q15, q16, q17, q18, q19, q20, q21, q22, q23), rfl, h⟩
def H12 : List (Nat × LH) := [(0, H12_0)]
def W12 : List (Nat × List (Nat × List Nat)) := []
def Γ12 : List (Nat × Con) := [(34, useC [.ag [.pure .int, .pure .int, .pure .int, .pure .int, .x, .pure .int, .x, .pure .op, .x, .bl]] G34), (48, useC [.x, .x] G48), (35, useC [.ag [.pure .int, .pure .int, .pure .int, .pure .int, .x, .pure .int, .x, .pure .op, .x, .bl]] G35), (36, useC [.ag [.pure .int, .pure .int, .pure .int, .pure .int, .x, .pure .int, .x, .pure .op, .x, .bl], .bl] G36), (37, useC [.ag [.pure .int, .pure .int, .pure .int, .pure .int, .x, .pure .int, .x, .pure .op, .x, .bl]] G37)]
theorem e12 (p1 : List Int) (p2 : List Int) (p3 : List Int) (p4 : List Int) (p5 : Int) (p6 : List Int) (p7 : Int) (p8 : List OpV) (p9 : Int) (p10 : Bool) (p11 : List UInt8) (p12 : Bool) (K : TV → TMem → Prop) : TW PP 52 Γ12 H12 W12 (List.length ([] : TMem)) (bodyOf Tryz.f12) (endT PP 52 [.cell 6 32, .tmp 7] [.ag [.own .int, .own .int, .own .int, .own .int, .x, .own .int, .x, .own .op, .x, .bl], .bl] [] (List.length ([] : TMem)) K) (argsF [.agg [.pl .int p1, .pl .int p2, .pl .int p3, .pl .int p4, .int .i64 p5, .pl .int p6, .int .i64 p7, .pl .op p8, .int .i64 p9, .bool p10], .str p11, .bool p12]) [] =
    Mi_RunBoth p1 p2 p3 p4 p5 p6 p7 p8 p9 p10 p11 p12 (fun r1 r2 r3 r4 r5 r6 r7 r8 r9 r10 r11 => K (.tup [.agg [.sl 0, .sl 1, .sl 2, .sl 3, .int .i64 r1, .sl 4, .int .i64 r2, .sl 5, .int .i64 r3, .bool r4], .bool r5]) [⟨true, .list .int r6⟩, ⟨true, .list .int r7⟩, ⟨true, .list .int r8⟩, ⟨true, .list .int r9⟩, ⟨true, .list .int r10⟩, ⟨true, .list .op r11⟩]) := by kernel_rfl
theorem s12 : CSound PP 12 G12 := by
  intro args K c h fl A aargs hA hN R hl
  unfold G12 at h
  generalize ht : c.tm = tm at h
  revert h
  refine cA_in ?_; rintro l2_ r1_ rfl
  refine cP_in ?_; rintro p1 r3_ rfl
  refine cP_in ?_; rintro p2 r4_ rfl
  refine cP_in ?_; rintro p3 r5_ rfl
  refine cP_in ?_; rintro p4 r6_ rfl
  refine cI_in ?_; rintro p5 r7_ rfl
  refine cP_in ?_; rintro p6 r8_ rfl
  refine cI_in ?_; rintro p7 r9_ rfl
  refine cP_in ?_; rintro p8 r10_ rfl
  refine cI_in ?_; rintro p9 r11_ rfl
  refine cB_in ?_; rintro p10 r12_ rfl
  refine dN_in ?_; rintro rfl
  refine cS_in ?_; rintro p11 r13_ rfl
  refine cB_in ?_; rintro p12 r14_ rfl
  refine dN_in ?_; rintro rfl
  refine dE_in ?_; rintro rfl
  intro h
  refine fun_ok (nt := 52) (x := bodyOf Tryz.f12) (Γ := Γ12) (H := H12) (WW := W12) (rs := [.cell 6 32, .tmp 7]) (shs := [.ag [.own .int, .own .int, .own .int, .own .int, .x, .own .int, .x, .own .op, .x, .bl], .bl]) (cons := []) mixed Tryz.func12 (by decide) (by kernel_rfl) Tryz.ntmps12 Tryz.results12 (.cons (useC_ok s34) (.cons (useC_ok s48) (.cons (useC_ok s35) (.cons (useC_ok s36) (.cons (useC_ok s37) (GSound.nil)))))) ?_ hA hN R hl
  rw [ht, e12 p1 p2 p3 p4 p5 p6 p7 p8 p9 p10 p11 p12 K]
  exact h
/-! laws.szIntS -/
def G119 : Con := fun args tm K => cP .int args fun p1 r1_ => cI .i64 r1_ fun p2 r2_ => dNil r2_ <| dEnd tm <| Ml_szIntS p1 p2 (fun r1 => K (.int .i64 r1) [])
def H119 : List (Nat × LH) := []
def W119 : List (Nat × List (Nat × List Nat)) := []
def Γ119 : List (Nat × Con) := []
theorem e119 (p1 : List Int) (p2 : Int) (K : TV → TMem → Prop) : TW PP 12 Γ119 H119 W119 (List.length ([] : TMem)) (bodyOf Tryz.f119) (endT PP 12 [.tmp 4] [.x] [] (List.length ([] : TMem)) K) (argsF [.pl .int p1, .int .i64 p2]) [] =
    Ml_szIntS p1 p2 (fun r1 => K (.int .i64 r1) []) := by kernel_rfl
theorem s119 : CSound PP 119 G119 := by
  intro args K c h fl A aargs hA hN R hl
  unfold G119 at h
  generalize ht : c.tm = tm at h
  revert h
  refine cP_in ?_; rintro p1 r1_ rfl
  refine cI_in ?_; rintro p2 r2_ rfl
  refine dN_in ?_; rintro rfl
  refine dE_in ?_; rintro rfl
  intro h
  refine fun_ok (nt := 12) (x := bodyOf Tryz.f119) (Γ := Γ119) (H := H119) (WW := W119) (rs := [.tmp 4]) (shs := [.x]) (cons := []) mixed Tryz.func119 (by decide) (by kernel_rfl) Tryz.ntmps119 Tryz.results119 (GSound.nil) ?_ hA hN R hl
  rw [ht, e119 p1 p2 K]
  exact h
/-! laws.szHeap -/
def G118 : Con := fun args tm K => cA args fun l2_ r1_ => cP .int l2_ fun p1 r3_ => cP .int r3_ fun p2 r4_ => cP .int r4_ fun p3 r5_ => dNil r5_ <| cI .i64 r1_ fun p4 r6_ => dNil r6_ <| dEnd tm <| Ml_szHeap p1 p2 p3 p4 (fun r1 => K (.int .i64 r1) [])
def H118 : List (Nat × LH) := []
def W118 : List (Nat × List (Nat × List Nat)) := []
def Γ118 : List (Nat × Con) := [(119, useC [.pure .int, .x] G119)]
theorem e118 (p1 : List Int) (p2 : List Int) (p3 : List Int) (p4 : Int) (K : TV → TMem → Prop) : TW PP 24 Γ118 H118 W118 (List.length ([] : TMem)) (bodyOf Tryz.f118) (endT PP 24 [.tmp 4] [.x] [] (List.length ([] : TMem)) K) (argsF [.agg [.pl .int p1, .pl .int p2, .pl .int p3], .int .i64 p4]) [] =
    Ml_szHeap p1 p2 p3 p4 (fun r1 => K (.int .i64 r1) []) := by kernel_rfl
theorem s118 : CSound PP 118 G118 := by
  intro args K c h fl A aargs hA hN R hl
  unfold G118 at h
  generalize ht : c.tm = tm at h
  revert h
  refine cA_in ?_; rintro l2_ r1_ rfl
  refine cP_in ?_; rintro p1 r3_ rfl
  refine cP_in ?_; rintro p2 r4_ rfl
  refine cP_in ?_; rintro p3 r5_ rfl
  refine dN_in ?_; rintro rfl
  refine cI_in ?_; rintro p4 r6_ rfl
  refine dN_in ?_; rintro rfl
  refine dE_in ?_; rintro rfl
  intro h
  refine fun_ok (nt := 24) (x := bodyOf Tryz.f118) (Γ := Γ118) (H := H118) (WW := W118) (rs := [.tmp 4]) (shs := [.x]) (cons := []) mixed Tryz.func118 (by decide) (by kernel_rfl) Tryz.ntmps118 Tryz.results118 (.cons (useC_ok s119) (GSound.nil)) ?_ hA hN R hl
  rw [ht, e118 p1 p2 p3 p4 K]
  exact h
/-! laws.szStore -/
def G49 : Con := fun args tm K => cA args fun l2_ r1_ => cP .int l2_ fun p1 r3_ => cP .int r3_ fun p2 r4_ => cP .int r4_ fun p3 r5_ => cP .int r5_ fun p4 r6_ => dNil r6_ <| cI .i64 r1_ fun p5 r7_ => dNil r7_ <| dEnd tm <| Ml_szStore p1 p2 p3 p4 p5 (fun r1 => K (.int .i64 r1) [])
def H49 : List (Nat × LH) := []
def W49 : List (Nat × List (Nat × List Nat)) := []
def Γ49 : List (Nat × Con) := [(118, useC [.ag [.pure .int, .pure .int, .pure .int], .x] G118), (119, useC [.pure .int, .x] G119)]
theorem e49 (p1 : List Int) (p2 : List Int) (p3 : List Int) (p4 : List Int) (p5 : Int) (K : TV → TMem → Prop) : TW PP 18 Γ49 H49 W49 (List.length ([] : TMem)) (bodyOf Tryz.f49) (endT PP 18 [.tmp 4] [.x] [] (List.length ([] : TMem)) K) (argsF [.agg [.pl .int p1, .pl .int p2, .pl .int p3, .pl .int p4], .int .i64 p5]) [] =
    Ml_szStore p1 p2 p3 p4 p5 (fun r1 => K (.int .i64 r1) []) := by kernel_rfl
theorem s49 : CSound PP 49 G49 := by
  intro args K c h fl A aargs hA hN R hl
  unfold G49 at h
  generalize ht : c.tm = tm at h
  revert h
  refine cA_in ?_; rintro l2_ r1_ rfl
  refine cP_in ?_; rintro p1 r3_ rfl
  refine cP_in ?_; rintro p2 r4_ rfl
  refine cP_in ?_; rintro p3 r5_ rfl
  refine cP_in ?_; rintro p4 r6_ rfl
  refine dN_in ?_; rintro rfl
  refine cI_in ?_; rintro p5 r7_ rfl
  refine dN_in ?_; rintro rfl
  refine dE_in ?_; rintro rfl
  intro h
  refine fun_ok (nt := 18) (x := bodyOf Tryz.f49) (Γ := Γ49) (H := H49) (WW := W49) (rs := [.tmp 4]) (shs := [.x]) (cons := []) mixed Tryz.func49 (by decide) (by kernel_rfl) Tryz.ntmps49 Tryz.results49 (.cons (useC_ok s118) (.cons (useC_ok s119) (GSound.nil))) ?_ hA hN R hl
  rw [ht, e49 p1 p2 p3 p4 p5 K]
  exact h
/-! laws.szGc -/
def G50 : Con := fun args tm K => cA args fun l2_ r1_ => cI .i64 l2_ fun p1 r3_ => cP .int r3_ fun p2 r4_ => cI .i64 r4_ fun p3 r5_ => dNil r5_ <| cI .i64 r1_ fun p4 r6_ => dNil r6_ <| dEnd tm <| Ml_szGc p1 p2 p3 p4 (fun r1 => K (.int .i64 r1) [])
def H50 : List (Nat × LH) := []
def W50 : List (Nat × List (Nat × List Nat)) := []
def Γ50 : List (Nat × Con) := [(119, useC [.pure .int, .x] G119)]
theorem e50 (p1 : Int) (p2 : List Int) (p3 : Int) (p4 : Int) (K : TV → TMem → Prop) : TW PP 12 Γ50 H50 W50 (List.length ([] : TMem)) (bodyOf Tryz.f50) (endT PP 12 [.tmp 4] [.x] [] (List.length ([] : TMem)) K) (argsF [.agg [.int .i64 p1, .pl .int p2, .int .i64 p3], .int .i64 p4]) [] =
    Ml_szGc p1 p2 p3 p4 (fun r1 => K (.int .i64 r1) []) := by kernel_rfl
theorem s50 : CSound PP 50 G50 := by
  intro args K c h fl A aargs hA hN R hl
  unfold G50 at h
  generalize ht : c.tm = tm at h
  revert h
  refine cA_in ?_; rintro l2_ r1_ rfl
  refine cI_in ?_; rintro p1 r3_ rfl
  refine cP_in ?_; rintro p2 r4_ rfl
  refine cI_in ?_; rintro p3 r5_ rfl
  refine dN_in ?_; rintro rfl
  refine cI_in ?_; rintro p4 r6_ rfl
  refine dN_in ?_; rintro rfl
  refine dE_in ?_; rintro rfl
  intro h
  refine fun_ok (nt := 12) (x := bodyOf Tryz.f50) (Γ := Γ50) (H := H50) (WW := W50) (rs := [.tmp 4]) (shs := [.x]) (cons := []) mixed Tryz.func50 (by decide) (by kernel_rfl) Tryz.ntmps50 Tryz.results50 (.cons (useC_ok s119) (GSound.nil)) ?_ hA hN R hl
  rw [ht, e50 p1 p2 p3 p4 K]
  exact h
/-! laws.szOpS -/
def G51 : Con := fun args tm K => cP .op args fun p1 r1_ => cI .i64 r1_ fun p2 r2_ => dNil r2_ <| dEnd tm <| Ml_szOpS p1 p2 (fun r1 => K (.int .i64 r1) [])
def H51 : List (Nat × LH) := []
def W51 : List (Nat × List (Nat × List Nat)) := []
def Γ51 : List (Nat × Con) := []
theorem e51 (p1 : List OpV) (p2 : Int) (K : TV → TMem → Prop) : TW PP 12 Γ51 H51 W51 (List.length ([] : TMem)) (bodyOf Tryz.f51) (endT PP 12 [.tmp 4] [.x] [] (List.length ([] : TMem)) K) (argsF [.pl .op p1, .int .i64 p2]) [] =
    Ml_szOpS p1 p2 (fun r1 => K (.int .i64 r1) []) := by kernel_rfl
theorem s51 : CSound PP 51 G51 := by
  intro args K c h fl A aargs hA hN R hl
  unfold G51 at h
  generalize ht : c.tm = tm at h
  revert h
  refine cP_in ?_; rintro p1 r1_ rfl
  refine cI_in ?_; rintro p2 r2_ rfl
  refine dN_in ?_; rintro rfl
  refine dE_in ?_; rintro rfl
  intro h
  refine fun_ok (nt := 12) (x := bodyOf Tryz.f51) (Γ := Γ51) (H := H51) (WW := W51) (rs := [.tmp 4]) (shs := [.x]) (cons := []) mixed Tryz.func51 (by decide) (by kernel_rfl) Tryz.ntmps51 Tryz.results51 (GSound.nil) ?_ hA hN R hl
  rw [ht, e51 p1 p2 K]
  exact h
/-! laws.szBoth -/
def G13 : Con := fun args tm K => cA args fun l2_ r1_ => cP .int l2_ fun p1 r3_ => cP .int r3_ fun p2 r4_ => cP .int r4_ fun p3 r5_ => cP .int r5_ fun p4 r6_ => cI .i64 r6_ fun p5 r7_ => cP .int r7_ fun p6 r8_ => cI .i64 r8_ fun p7 r9_ => cP .op r9_ fun p8 r10_ => cI .i64 r10_ fun p9 r11_ => cB r11_ fun p10 r12_ => dNil r12_ <| cI .i64 r1_ fun p11 r13_ => dNil r13_ <| dEnd tm <| Ml_szBoth p1 p2 p3 p4 p5 p6 p7 p8 p9 p10 p11 (fun r1 => K (.int .i64 r1) [])
def H13 : List (Nat × LH) := []
def W13 : List (Nat × List (Nat × List Nat)) := []
def Γ13 : List (Nat × Con) := [(49, useC [.ag [.pure .int, .pure .int, .pure .int, .pure .int], .x] G49), (50, useC [.ag [.x, .pure .int, .x], .x] G50), (51, useC [.pure .op, .x] G51)]
theorem e13 (p1 : List Int) (p2 : List Int) (p3 : List Int) (p4 : List Int) (p5 : Int) (p6 : List Int) (p7 : Int) (p8 : List OpV) (p9 : Int) (p10 : Bool) (p11 : Int) (K : TV → TMem → Prop) : TW PP 24 Γ13 H13 W13 (List.length ([] : TMem)) (bodyOf Tryz.f13) (endT PP 24 [.tmp 4] [.x] [] (List.length ([] : TMem)) K) (argsF [.agg [.pl .int p1, .pl .int p2, .pl .int p3, .pl .int p4, .int .i64 p5, .pl .int p6, .int .i64 p7, .pl .op p8, .int .i64 p9, .bool p10], .int .i64 p11]) [] =
    Ml_szBoth p1 p2 p3 p4 p5 p6 p7 p8 p9 p10 p11 (fun r1 => K (.int .i64 r1) []) := by kernel_rfl
theorem s13 : CSound PP 13 G13 := by
  intro args K c h fl A aargs hA hN R hl
  unfold G13 at h
  generalize ht : c.tm = tm at h
  revert h
  refine cA_in ?_; rintro l2_ r1_ rfl
  refine cP_in ?_; rintro p1 r3_ rfl
  refine cP_in ?_; rintro p2 r4_ rfl
  refine cP_in ?_; rintro p3 r5_ rfl
  refine cP_in ?_; rintro p4 r6_ rfl
  refine cI_in ?_; rintro p5 r7_ rfl
  refine cP_in ?_; rintro p6 r8_ rfl
  refine cI_in ?_; rintro p7 r9_ rfl
  refine cP_in ?_; rintro p8 r10_ rfl
  refine cI_in ?_; rintro p9 r11_ rfl
  refine cB_in ?_; rintro p10 r12_ rfl
  refine dN_in ?_; rintro rfl
  refine cI_in ?_; rintro p11 r13_ rfl
  refine dN_in ?_; rintro rfl
  refine dE_in ?_; rintro rfl
  intro h
  refine fun_ok (nt := 24) (x := bodyOf Tryz.f13) (Γ := Γ13) (H := H13) (WW := W13) (rs := [.tmp 4]) (shs := [.x]) (cons := []) mixed Tryz.func13 (by decide) (by kernel_rfl) Tryz.ntmps13 Tryz.results13 (.cons (useC_ok s49) (.cons (useC_ok s50) (.cons (useC_ok s51) (GSound.nil)))) ?_ hA hN R hl
  rw [ht, e13 p1 p2 p3 p4 p5 p6 p7 p8 p9 p10 p11 K]
  exact h
/-! laws.toIntS -/
def G121 : Con := fun args tm K => cP .int args fun p1 r1_ => dNil r1_ <| dEnd tm <| Ml_toIntS p1 (fun r1 => K (.sl 0) [⟨true, .list .int r1⟩])
def H121_0 : LH where
  keep := [(0, .pure .int), (3, .own .int), (4, .x)]
  S := List Int × Int × List Int
  enc := fun s => ([.pl .int s.1, .sl 0, .int .i64 s.2.1], [⟨true, .list .int s.2.2⟩])
  dec := fun vs tm K => cP .int vs fun q0 r1_ => cL 0 r1_ fun r2_ => cI .i64 r2_ fun q1 r3_ => dNil r3_ <| bL true .int tm fun q2 m4_ => dEnd m4_ <| K (q0, q1, q2)
  law := by
    intro vs tm K
    refine cP_in ?_; rintro q0 r1_ rfl
    refine cL_in ?_; rintro r2_ rfl
    refine cI_in ?_; rintro q1 r3_ rfl
    refine dN_in ?_; rintro rfl
    refine bL_in ?_; rintro q2 m4_ rfl
    refine dE_in ?_; rintro rfl
    exact fun h => ⟨(q0, q1, q2), rfl, h⟩
def H121 : List (Nat × LH) := [(0, H121_0)]
def W121 : List (Nat × List (Nat × List Nat)) := []
def Γ121 : List (Nat × Con) := []
theorem e121 (p1 : List Int) (K : TV → TMem → Prop) : TW PP 22 Γ121 H121 W121 (List.length ([] : TMem)) (bodyOf Tryz.f121) (endT PP 22 [.tmp 2] [.own .int] [] (List.length ([] : TMem)) K) (argsF [.pl .int p1]) [] =
    Ml_toIntS p1 (fun r1 => K (.sl 0) [⟨true, .list .int r1⟩]) := by kernel_rfl
theorem s121 : CSound PP 121 G121 := by
  intro args K c h fl A aargs hA hN R hl
  unfold G121 at h
  generalize ht : c.tm = tm at h
  revert h
  refine cP_in ?_; rintro p1 r1_ rfl
  refine dN_in ?_; rintro rfl
  refine dE_in ?_; rintro rfl
  intro h
  refine fun_ok (nt := 22) (x := bodyOf Tryz.f121) (Γ := Γ121) (H := H121) (WW := W121) (rs := [.tmp 2]) (shs := [.own .int]) (cons := []) mixed Tryz.func121 (by decide) (by kernel_rfl) Tryz.ntmps121 Tryz.results121 (GSound.nil) ?_ hA hN R hl
  rw [ht, e121 p1 K]
  exact h
/-! laws.toHeap -/
def G120 : Con := fun args tm K => cA args fun l2_ r1_ => cP .int l2_ fun p1 r3_ => cP .int r3_ fun p2 r4_ => cP .int r4_ fun p3 r5_ => dNil r5_ <| dNil r1_ <| dEnd tm <| Ml_toHeap p1 p2 p3 (fun r1 r2 r3 => K (.agg [.sl 0, .sl 1, .sl 2]) [⟨true, .list .int r1⟩, ⟨true, .list .int r2⟩, ⟨true, .list .int r3⟩])
def H120 : List (Nat × LH) := []
def W120 : List (Nat × List (Nat × List Nat)) := []
def Γ120 : List (Nat × Con) := [(121, useC [.pure .int] G121)]
theorem e120 (p1 : List Int) (p2 : List Int) (p3 : List Int) (K : TV → TMem → Prop) : TW PP 17 Γ120 H120 W120 (List.length ([] : TMem)) (bodyOf Tryz.f120) (endT PP 17 [.cell 2 25] [.ag [.own .int, .own .int, .own .int]] [] (List.length ([] : TMem)) K) (argsF [.agg [.pl .int p1, .pl .int p2, .pl .int p3]]) [] =
    Ml_toHeap p1 p2 p3 (fun r1 r2 r3 => K (.agg [.sl 0, .sl 1, .sl 2]) [⟨true, .list .int r1⟩, ⟨true, .list .int r2⟩, ⟨true, .list .int r3⟩]) := by kernel_rfl
theorem s120 : CSound PP 120 G120 := by
  intro args K c h fl A aargs hA hN R hl
  unfold G120 at h
  generalize ht : c.tm = tm at h
  revert h
  refine cA_in ?_; rintro l2_ r1_ rfl
  refine cP_in ?_; rintro p1 r3_ rfl
  refine cP_in ?_; rintro p2 r4_ rfl
  refine cP_in ?_; rintro p3 r5_ rfl
  refine dN_in ?_; rintro rfl
  refine dN_in ?_; rintro rfl
  refine dE_in ?_; rintro rfl
  intro h
  refine fun_ok (nt := 17) (x := bodyOf Tryz.f120) (Γ := Γ120) (H := H120) (WW := W120) (rs := [.cell 2 25]) (shs := [.ag [.own .int, .own .int, .own .int]]) (cons := []) mixed Tryz.func120 (by decide) (by kernel_rfl) Tryz.ntmps120 Tryz.results120 (.cons (useC_ok s121) (GSound.nil)) ?_ hA hN R hl
  rw [ht, e120 p1 p2 p3 K]
  exact h
/-! laws.toStore -/
def G52 : Con := fun args tm K => cA args fun l2_ r1_ => cP .int l2_ fun p1 r3_ => cP .int r3_ fun p2 r4_ => cP .int r4_ fun p3 r5_ => cP .int r5_ fun p4 r6_ => dNil r6_ <| dNil r1_ <| dEnd tm <| Ml_toStore p1 p2 p3 p4 (fun r1 r2 r3 r4 => K (.agg [.sl 0, .sl 1, .sl 2, .sl 3]) [⟨true, .list .int r1⟩, ⟨true, .list .int r2⟩, ⟨true, .list .int r3⟩, ⟨true, .list .int r4⟩])
def H52 : List (Nat × LH) := []
def W52 : List (Nat × List (Nat × List Nat)) := []
def Γ52 : List (Nat × Con) := [(120, useC [.ag [.pure .int, .pure .int, .pure .int]] G120), (121, useC [.pure .int] G121)]
theorem e52 (p1 : List Int) (p2 : List Int) (p3 : List Int) (p4 : List Int) (K : TV → TMem → Prop) : TW PP 13 Γ52 H52 W52 (List.length ([] : TMem)) (bodyOf Tryz.f52) (endT PP 13 [.cell 2 27] [.ag [.own .int, .own .int, .own .int, .own .int]] [] (List.length ([] : TMem)) K) (argsF [.agg [.pl .int p1, .pl .int p2, .pl .int p3, .pl .int p4]]) [] =
    Ml_toStore p1 p2 p3 p4 (fun r1 r2 r3 r4 => K (.agg [.sl 0, .sl 1, .sl 2, .sl 3]) [⟨true, .list .int r1⟩, ⟨true, .list .int r2⟩, ⟨true, .list .int r3⟩, ⟨true, .list .int r4⟩]) := by kernel_rfl
theorem s52 : CSound PP 52 G52 := by
  intro args K c h fl A aargs hA hN R hl
  unfold G52 at h
  generalize ht : c.tm = tm at h
  revert h
  refine cA_in ?_; rintro l2_ r1_ rfl
  refine cP_in ?_; rintro p1 r3_ rfl
  refine cP_in ?_; rintro p2 r4_ rfl
  refine cP_in ?_; rintro p3 r5_ rfl
  refine cP_in ?_; rintro p4 r6_ rfl
  refine dN_in ?_; rintro rfl
  refine dN_in ?_; rintro rfl
  refine dE_in ?_; rintro rfl
  intro h
  refine fun_ok (nt := 13) (x := bodyOf Tryz.f52) (Γ := Γ52) (H := H52) (WW := W52) (rs := [.cell 2 27]) (shs := [.ag [.own .int, .own .int, .own .int, .own .int]]) (cons := []) mixed Tryz.func52 (by decide) (by kernel_rfl) Tryz.ntmps52 Tryz.results52 (.cons (useC_ok s120) (.cons (useC_ok s121) (GSound.nil))) ?_ hA hN R hl
  rw [ht, e52 p1 p2 p3 p4 K]
  exact h
/-! laws.toGc -/
def G53 : Con := fun args tm K => cA args fun l2_ r1_ => cI .i64 l2_ fun p1 r3_ => cP .int r3_ fun p2 r4_ => cI .i64 r4_ fun p3 r5_ => dNil r5_ <| dNil r1_ <| dEnd tm <| Ml_toGc p1 p2 p3 (fun r1 => K (.agg [.int .i64 p1, .sl 0, .int .i64 p3]) [⟨true, .list .int r1⟩])
def H53 : List (Nat × LH) := []
def W53 : List (Nat × List (Nat × List Nat)) := []
def Γ53 : List (Nat × Con) := [(121, useC [.pure .int] G121)]
theorem e53 (p1 : Int) (p2 : List Int) (p3 : Int) (K : TV → TMem → Prop) : TW PP 15 Γ53 H53 W53 (List.length ([] : TMem)) (bodyOf Tryz.f53) (endT PP 15 [.cell 2 29] [.ag [.x, .own .int, .x]] [] (List.length ([] : TMem)) K) (argsF [.agg [.int .i64 p1, .pl .int p2, .int .i64 p3]]) [] =
    Ml_toGc p1 p2 p3 (fun r1 => K (.agg [.int .i64 p1, .sl 0, .int .i64 p3]) [⟨true, .list .int r1⟩]) := by kernel_rfl
theorem s53 : CSound PP 53 G53 := by
  intro args K c h fl A aargs hA hN R hl
  unfold G53 at h
  generalize ht : c.tm = tm at h
  revert h
  refine cA_in ?_; rintro l2_ r1_ rfl
  refine cI_in ?_; rintro p1 r3_ rfl
  refine cP_in ?_; rintro p2 r4_ rfl
  refine cI_in ?_; rintro p3 r5_ rfl
  refine dN_in ?_; rintro rfl
  refine dN_in ?_; rintro rfl
  refine dE_in ?_; rintro rfl
  intro h
  refine fun_ok (nt := 15) (x := bodyOf Tryz.f53) (Γ := Γ53) (H := H53) (WW := W53) (rs := [.cell 2 29]) (shs := [.ag [.x, .own .int, .x]]) (cons := []) mixed Tryz.func53 (by decide) (by kernel_rfl) Tryz.ntmps53 Tryz.results53 (.cons (useC_ok s121) (GSound.nil)) ?_ hA hN R hl
  rw [ht, e53 p1 p2 p3 K]
  exact h
/-! laws.toOp -/
def G122 : Con := fun args tm K => cA args fun l2_ r1_ => cI .i64 l2_ fun p1 r3_ => cI .i64 r3_ fun p2 r4_ => cI .i64 r4_ fun p3 r5_ => dNil r5_ <| dNil r1_ <| dEnd tm <| Ml_toOp p1 p2 p3 (K (.agg [.int .i64 p1, .int .i64 p2, .int .i64 p3]) [])
def H122 : List (Nat × LH) := []
def W122 : List (Nat × List (Nat × List Nat)) := []
def Γ122 : List (Nat × Con) := []
theorem e122 (p1 : Int) (p2 : Int) (p3 : Int) (K : TV → TMem → Prop) : TW PP 14 Γ122 H122 W122 (List.length ([] : TMem)) (bodyOf Tryz.f122) (endT PP 14 [.cell 2 79] [.ag [.x, .x, .x]] [] (List.length ([] : TMem)) K) (argsF [.agg [.int .i64 p1, .int .i64 p2, .int .i64 p3]]) [] =
    Ml_toOp p1 p2 p3 (K (.agg [.int .i64 p1, .int .i64 p2, .int .i64 p3]) []) := by kernel_rfl
theorem s122 : CSound PP 122 G122 := by
  intro args K c h fl A aargs hA hN R hl
  unfold G122 at h
  generalize ht : c.tm = tm at h
  revert h
  refine cA_in ?_; rintro l2_ r1_ rfl
  refine cI_in ?_; rintro p1 r3_ rfl
  refine cI_in ?_; rintro p2 r4_ rfl
  refine cI_in ?_; rintro p3 r5_ rfl
  refine dN_in ?_; rintro rfl
  refine dN_in ?_; rintro rfl
  refine dE_in ?_; rintro rfl
  intro h
  refine fun_ok (nt := 14) (x := bodyOf Tryz.f122) (Γ := Γ122) (H := H122) (WW := W122) (rs := [.cell 2 79]) (shs := [.ag [.x, .x, .x]]) (cons := []) mixed Tryz.func122 (by decide) (by kernel_rfl) Tryz.ntmps122 Tryz.results122 (GSound.nil) ?_ hA hN R hl
  rw [ht, e122 p1 p2 p3 K]
  exact h
/-! laws.toOpS -/
def G54 : Con := fun args tm K => cP .op args fun p1 r1_ => dNil r1_ <| dEnd tm <| Ml_toOpS p1 (fun r1 => K (.sl 0) [⟨true, .list .op r1⟩])
def H54_0 : LH where
  keep := [(0, .pure .op), (3, .own .op), (4, .x)]
  S := List OpV × Int × List OpV
  enc := fun s => ([.pl .op s.1, .sl 0, .int .i64 s.2.1], [⟨true, .list .op s.2.2⟩])
  dec := fun vs tm K => cP .op vs fun q0 r1_ => cL 0 r1_ fun r2_ => cI .i64 r2_ fun q1 r3_ => dNil r3_ <| bL true .op tm fun q2 m4_ => dEnd m4_ <| K (q0, q1, q2)
  law := by
    intro vs tm K
    refine cP_in ?_; rintro q0 r1_ rfl
    refine cL_in ?_; rintro r2_ rfl
    refine cI_in ?_; rintro q1 r3_ rfl
    refine dN_in ?_; rintro rfl
    refine bL_in ?_; rintro q2 m4_ rfl
    refine dE_in ?_; rintro rfl
    exact fun h => ⟨(q0, q1, q2), rfl, h⟩
def H54 : List (Nat × LH) := [(0, H54_0)]
def W54 : List (Nat × List (Nat × List Nat)) := []
def Γ54 : List (Nat × Con) := [(122, useC [.ag [.x, .x, .x]] G122)]
theorem e54 (p1 : List OpV) (K : TV → TMem → Prop) : TW PP 23 Γ54 H54 W54 (List.length ([] : TMem)) (bodyOf Tryz.f54) (endT PP 23 [.tmp 2] [.own .op] [] (List.length ([] : TMem)) K) (argsF [.pl .op p1]) [] =
    Ml_toOpS p1 (fun r1 => K (.sl 0) [⟨true, .list .op r1⟩]) := by kernel_rfl
theorem s54 : CSound PP 54 G54 := by
  intro args K c h fl A aargs hA hN R hl
  unfold G54 at h
  generalize ht : c.tm = tm at h
  revert h
  refine cP_in ?_; rintro p1 r1_ rfl
  refine dN_in ?_; rintro rfl
  refine dE_in ?_; rintro rfl
  intro h
  refine fun_ok (nt := 23) (x := bodyOf Tryz.f54) (Γ := Γ54) (H := H54) (WW := W54) (rs := [.tmp 2]) (shs := [.own .op]) (cons := []) mixed Tryz.func54 (by decide) (by kernel_rfl) Tryz.ntmps54 Tryz.results54 (.cons (useC_ok s122) (GSound.nil)) ?_ hA hN R hl
  rw [ht, e54 p1 K]
  exact h
/-! laws.toBoth -/
def G15 : Con := fun args tm K => cA args fun l2_ r1_ => cP .int l2_ fun p1 r3_ => cP .int r3_ fun p2 r4_ => cP .int r4_ fun p3 r5_ => cP .int r5_ fun p4 r6_ => cI .i64 r6_ fun p5 r7_ => cP .int r7_ fun p6 r8_ => cI .i64 r8_ fun p7 r9_ => cP .op r9_ fun p8 r10_ => cI .i64 r10_ fun p9 r11_ => cB r11_ fun p10 r12_ => dNil r12_ <| dNil r1_ <| dEnd tm <| Ml_toBoth p1 p2 p3 p4 p5 p6 p7 p8 p9 p10 (fun r1 r2 r3 r4 r5 r6 => K (.agg [.sl 0, .sl 1, .sl 2, .sl 3, .int .i64 p5, .sl 4, .int .i64 p7, .sl 5, .int .i64 p9, .bool p10]) [⟨true, .list .int r1⟩, ⟨true, .list .int r2⟩, ⟨true, .list .int r3⟩, ⟨true, .list .int r4⟩, ⟨true, .list .int r5⟩, ⟨true, .list .op r6⟩])
def H15 : List (Nat × LH) := []
def W15 : List (Nat × List (Nat × List Nat)) := []
def Γ15 : List (Nat × Con) := [(52, useC [.ag [.pure .int, .pure .int, .pure .int, .pure .int]] G52), (53, useC [.ag [.x, .pure .int, .x]] G53), (54, useC [.pure .op] G54)]
theorem e15 (p1 : List Int) (p2 : List Int) (p3 : List Int) (p4 : List Int) (p5 : Int) (p6 : List Int) (p7 : Int) (p8 : List OpV) (p9 : Int) (p10 : Bool) (K : TV → TMem → Prop) : TW PP 23 Γ15 H15 W15 (List.length ([] : TMem)) (bodyOf Tryz.f15) (endT PP 23 [.cell 2 32] [.ag [.own .int, .own .int, .own .int, .own .int, .x, .own .int, .x, .own .op, .x, .bl]] [] (List.length ([] : TMem)) K) (argsF [.agg [.pl .int p1, .pl .int p2, .pl .int p3, .pl .int p4, .int .i64 p5, .pl .int p6, .int .i64 p7, .pl .op p8, .int .i64 p9, .bool p10]]) [] =
    Ml_toBoth p1 p2 p3 p4 p5 p6 p7 p8 p9 p10 (fun r1 r2 r3 r4 r5 r6 => K (.agg [.sl 0, .sl 1, .sl 2, .sl 3, .int .i64 p5, .sl 4, .int .i64 p7, .sl 5, .int .i64 p9, .bool p10]) [⟨true, .list .int r1⟩, ⟨true, .list .int r2⟩, ⟨true, .list .int r3⟩, ⟨true, .list .int r4⟩, ⟨true, .list .int r5⟩, ⟨true, .list .op r6⟩]) := by kernel_rfl
theorem s15 : CSound PP 15 G15 := by
  intro args K c h fl A aargs hA hN R hl
  unfold G15 at h
  generalize ht : c.tm = tm at h
  revert h
  refine cA_in ?_; rintro l2_ r1_ rfl
  refine cP_in ?_; rintro p1 r3_ rfl
  refine cP_in ?_; rintro p2 r4_ rfl
  refine cP_in ?_; rintro p3 r5_ rfl
  refine cP_in ?_; rintro p4 r6_ rfl
  refine cI_in ?_; rintro p5 r7_ rfl
  refine cP_in ?_; rintro p6 r8_ rfl
  refine cI_in ?_; rintro p7 r9_ rfl
  refine cP_in ?_; rintro p8 r10_ rfl
  refine cI_in ?_; rintro p9 r11_ rfl
  refine cB_in ?_; rintro p10 r12_ rfl
  refine dN_in ?_; rintro rfl
  refine dN_in ?_; rintro rfl
  refine dE_in ?_; rintro rfl
  intro h
  refine fun_ok (nt := 23) (x := bodyOf Tryz.f15) (Γ := Γ15) (H := H15) (WW := W15) (rs := [.cell 2 32]) (shs := [.ag [.own .int, .own .int, .own .int, .own .int, .x, .own .int, .x, .own .op, .x, .bl]]) (cons := []) mixed Tryz.func15 (by decide) (by kernel_rfl) Tryz.ntmps15 Tryz.results15 (.cons (useC_ok s52) (.cons (useC_ok s53) (.cons (useC_ok s54) (GSound.nil)))) ?_ hA hN R hl
  rw [ht, e15 p1 p2 p3 p4 p5 p6 p7 p8 p9 p10 K]
  exact h
/-! laws.eqIntS -/
def G124 : Con := fun args tm K => cP .int args fun p1 r1_ => cP .int r1_ fun p2 r2_ => dNil r2_ <| dEnd tm <| Ml_eqIntS p1 p2 (fun r1 => K (.bool r1) [])
def H124_0 : LH where
  keep := [(0, .pure .int), (1, .pure .int), (5, .x)]
  S := List Int × List Int × Int
  enc := fun s => ([.pl .int s.1, .pl .int s.2.1, .int .i64 s.2.2], [])
  dec := fun vs tm K => cP .int vs fun q0 r1_ => cP .int r1_ fun q1 r2_ => cI .i64 r2_ fun q2 r3_ => dNil r3_ <| dEnd tm <| K (q0, q1, q2)
  law := by
    intro vs tm K
    refine cP_in ?_; rintro q0 r1_ rfl
    refine cP_in ?_; rintro q1 r2_ rfl
    refine cI_in ?_; rintro q2 r3_ rfl
    refine dN_in ?_; rintro rfl
    refine dE_in ?_; rintro rfl
    exact fun h => ⟨(q0, q1, q2), rfl, h⟩
def H124 : List (Nat × LH) := [(0, H124_0)]
def W124 : List (Nat × List (Nat × List Nat)) := []
def Γ124 : List (Nat × Con) := []
theorem e124 (p1 : List Int) (p2 : List Int) (K : TV → TMem → Prop) : TW PP 26 Γ124 H124 W124 (List.length ([] : TMem)) (bodyOf Tryz.f124) (endT PP 26 [.tmp 4] [.bl] [] (List.length ([] : TMem)) K) (argsF [.pl .int p1, .pl .int p2]) [] =
    Ml_eqIntS p1 p2 (fun r1 => K (.bool r1) []) := by kernel_rfl
theorem s124 : CSound PP 124 G124 := by
  intro args K c h fl A aargs hA hN R hl
  unfold G124 at h
  generalize ht : c.tm = tm at h
  revert h
  refine cP_in ?_; rintro p1 r1_ rfl
  refine cP_in ?_; rintro p2 r2_ rfl
  refine dN_in ?_; rintro rfl
  refine dE_in ?_; rintro rfl
  intro h
  refine fun_ok (nt := 26) (x := bodyOf Tryz.f124) (Γ := Γ124) (H := H124) (WW := W124) (rs := [.tmp 4]) (shs := [.bl]) (cons := []) mixed Tryz.func124 (by decide) (by kernel_rfl) Tryz.ntmps124 Tryz.results124 (GSound.nil) ?_ hA hN R hl
  rw [ht, e124 p1 p2 K]
  exact h
end Go.Ab
