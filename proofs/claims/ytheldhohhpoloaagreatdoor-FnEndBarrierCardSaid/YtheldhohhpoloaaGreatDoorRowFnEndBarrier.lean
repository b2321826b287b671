/-
  What is proved here: the row of the law FnEndBarrier: whatever the input, it returns true and leaves its arguments as they were. No condition.
-/
import Derived.Test.YtheldhohhpoloaaGreatDoorCards
import Derived.Test.YtheldhohhpoloaaGreatDoorTie
import Derived.LaidMore
import Derived.Lay
import Derived.SevenTiedAt
import Derived.Stop.Joined
import Derived.Test.YtheldhohhpoloaaGreatDoorT21
import Derived.Shelf.Vars
import Derived.Test.YtheldhohhpoloaaGreatDoorRows
import Derived.Test.YtheldhohhpoloaaGreatDoorT15
import Derived.Test.YtheldhohhpoloaaGreatDoorPAFnEndBarrierP1
import Derived.Test.YtheldhohhpoloaaGreatDoorGSFnEndBarrier
import Derived.WalkKit
import Derived.ProofKit
import Derived.OpenShut
import Derived.ShutString
import Derived.ChangeOld
import Derived.Below
import Derived.SizedLaws
namespace Go.Proofs.YtheldhohhpoloaaGreatDoor.fnEndBarrier
open Go.ChangeShapes Go.WideShapes Go.ChangeAt Go.RowKit Go.Ab
set_option linter.unusedVariables false
theorem own : ownKnob Tryz.prog.godebug = none := by kernel_rfl
theorem laidOut : laidOutB Tryz.prog = true := by kernel_rfl
/-- The variables that the texts know of. -/
def gcs (k : Int) : Nat → List AVal := fun g => if g = 3 then [.int .i64 k] else []
theorem gsome : ∀ g, g < 4 → g < Tryz.prog.globals.size ∧ (((begin Tryz.prog (fun _ _ => 0) default).world.heap[g]?).bind Obj.row?).isSome = true := by
  intro g hg
  rcases (show g = 0 ∨ g = 1 ∨ g = 2 ∨ g = 3 by omega) with rfl | rfl | rfl | rfl <;> exact ⟨of_decide_eq_true (by kernel_rfl), by kernel_rfl⟩
theorem GPk (k : Int) : GP (Mem.glob (gcs k)).blk := ⟨fun p hp => (by cases hp), fun g hg => by rw [List.mem_singleton.1 hg]; exact ⟨by decide, k, rfl⟩⟩
set_option maxRecDepth 100000 in
theorem lifted (os : Os) (started : os.Started) (H : Type) (enc : TypeId × Value → H) :
    ReturnsInHanded {} Tryz.checked os 8 .any (fun w args => (Rows.fnEndBarrierSpec.pre enc Tryz.prog Tryz.f8 Rows.fnEndBarrierRow.domain false w args ∧ laidMetH Tryz.prog Rows.fnEndBarrierRow.laid w) ∧ sizedMet enc Tryz.prog Tryz.f8 (OpenSpec.ofChange Rows.fnEndBarrierSpec) false w args) (Rows.fnEndBarrierSpec.post enc Tryz.prog Tryz.f8 false true false false) := by
  refine handed_and_shaped (C := Tryz.checked) (X := fun w _ => laidMetH Tryz.prog Rows.fnEndBarrierRow.laid w) (fun _ _ _ hh h => h.of_heap hh) own started (by kernel_rfl) Tryz.func8
    (ChangeSpec.witness_shaped (enc := enc) (C := Tryz.checked) (os := os) (X := fun w _ => laidMetH Tryz.prog Rows.fnEndBarrierRow.laid w) false (World.laidAll Tryz.prog os Rows.fnEndBarrierRow.laid) #[.slice none 0 0] 8 (World.laidAll_os _ _ _)
      (World.shaped_of_ZipB (by kernel_rfl) (by kernel_rfl)) (by kernel_rfl) (by kernel_rfl) (by kernel_rfl)
      (by rw [MakeChecks.laidMetH_plain _ _ _ (by kernel_rfl)]; exact laidMet_laidAll _ (by kernel_rfl) (by kernel_rfl))) ?_
  intro W base args ds gs before hval0 hW hcnd hsz0 hX hsh _
  have hval : ∀ (j : Nat) t v, Tryz.f8.params[j]? = some t → args[j]? = some v → Value.okWide Tryz.prog W .any base t v := hval0
  have hW' := hW
  obtain ⟨p, q, hA0, hV, rfl, hfz, hnd⟩ := hW
  have hA : DataW.TrodAll enc Tryz.prog W 0 (fun _ => true) true Tryz.f8.params.toList args.toList ds p := hA0
  rw [Tryz.params8] at hA hval
  obtain ⟨v0, vs0, d0, ds0, p0, q0, hargs, rfl, rfl, h0, r0⟩ := trodAll_cons hA
  obtain ⟨rfl, rfl, rfl⟩ := trodAll_nil r0
  obtain rfl : args = #[v0] := by cases args; simp_all
  obtain ⟨rfl, rfl⟩ := trodVars_none hV
  obtain ⟨k3, hk3⟩ := cell_of_shapedOpen_int (P := Tryz.prog) (g := 3) (t := 3) (zero := #[.int .i64 0]) hsh (of_decide_eq_true (by kernel_rfl)) (by kernel_rfl) rfl (by kernel_rfl) (by kernel_rfl) Tryz.underlying3
  have O0 := op0_glob (W := W) (f := gcs k3) (fun g hg => ⟨shaped_lt2 hsh (gsome g hg).1 (gsome g hg).2, fun i a ha => by
    unfold gcs at ha
    split at ha
    · rename_i e; subst e
      obtain rfl : i = 0 := by have := getElem?_lt ha; simpa using this
      simp at ha; subst ha
      exact ⟨_, hk3, .int _ _⟩
    · simp at ha⟩) (GPk k3)
  obtain ⟨ad0, len0, cap0, rfl⟩ := okWide_slice Tryz.underlying22 (hval 0 22 v0 rfl rfl)
  have k0 := h0
  have lt0 : ∀ x ∈ p0, x.block < W.heap.size := by obtain ⟨m, hm⟩ := k0; exact DataW.trod_lt m _ _ _ hm
  obtain ⟨fu0, hf0⟩ := h0
  obtain ⟨xx1, m1, b1, z0, O1, e1, l1, L0, V0, ⟨hx2, wx3⟩⟩ := (opens_bytes Tryz.underlying22 Tryz.underlying5 (by kernel_rfl)) _ enc W (Mem.glob (gcs k3)) gInj fu0 _ _ O0 hf0
  obtain ⟨c0, rfl, Q0⟩ := one_of L0
  clear hA0 hval0 hsz0
  have hK : Ml_FnEndBarrier xx1 (fun r1 => TV.bool r1 = TV.bool true) := by apply law_FnEndBarrier <;> first | assumption | rfl
  obtain ⟨MM, hMM⟩ : ∃ M, M = @Ml_FnEndBarrier := ⟨_, rfl⟩
  rw [← hMM] at hK
  have hL := (lv_cons (lv_get V0) (lv_nil _))
  obtain ⟨m', hd⟩ := law_true s8 O1 hL (show B8 (xx1, ()) (fun r _ => r = TV.bool true) from (by unfold B8; rw [← hMM]; exact hK))
  clear hMM hK hL
  refine (hd.2.2 b1 W _ ((LRel.nil b1).push (Q0)) O1.sim (op0_free O1)).mono fun e W' ⟨cv, β', he, hr, hp⟩ => ?_
  subst he
  cases back_bool hr
  have bel := hp.below
  exact ⟨_, rfl, _, _, _, [], _, [], hW', trodAll_mk1 (shut_bool Tryz.underlying4 _), (trodAll_cons_mk (Below.trod laidOut (by kernel_rfl) (of_decide_eq_true (by kernel_rfl)) k0 bel lt0) trodAll_mk0), rfl, bel.frame _, fun h => by cases h⟩
def iw0 : List Char := [Char.ofNat 104, Char.ofNat 97, Char.ofNat 114, Char.ofNat 110, Char.ofNat 101, Char.ofNat 115, Char.ofNat 115]
def iw1 : List Char := [Char.ofNat 48, Char.ofNat 101, Char.ofNat 51, Char.ofNat 100, Char.ofNat 100, Char.ofNat 53, Char.ofNat 98, Char.ofNat 52, Char.ofNat 55, Char.ofNat 50, Char.ofNat 99, Char.ofNat 55, Char.ofNat 56, Char.ofNat 53, Char.ofNat 53, Char.ofNat 102, Char.ofNat 101, Char.ofNat 48, Char.ofNat 54, Char.ofNat 56, Char.ofNat 102, Char.ofNat 99, Char.ofNat 48, Char.ofNat 50, Char.ofNat 57, Char.ofNat 51, Char.ofNat 101, Char.ofNat 55, Char.ofNat 53, Char.ofNat 56, Char.ofNat 49, Char.ofNat 97, Char.ofNat 99, Char.ofNat 54, Char.ofNat 101, Char.ofNat 48, Char.ofNat 50, Char.ofNat 99, Char.ofNat 54, Char.ofNat 98, Char.ofNat 98, Char.ofNat 98, Char.ofNat 48, Char.ofNat 99, Char.ofNat 98, Char.ofNat 100, Char.ofNat 100, Char.ofNat 52, Char.ofNat 48, Char.ofNat 99, Char.ofNat 52, Char.ofNat 102, Char.ofNat 52, Char.ofNat 50, Char.ofNat 52, Char.ofNat 99, Char.ofNat 101, Char.ofNat 56, Char.ofNat 50, Char.ofNat 101, Char.ofNat 50, Char.ofNat 52, Char.ofNat 48, Char.ofNat 101]
def iw2 : List Char := [Char.ofNat 99, Char.ofNat 117, Char.ofNat 116]
def iw3 : List Char := [Char.ofNat 97, Char.ofNat 116]
def iw4 : List Char := [Char.ofNat 108, Char.ofNat 111, Char.ofNat 111, Char.ofNat 112, Char.ofNat 46, Char.ofNat 101, Char.ofNat 120, Char.ofNat 97, Char.ofNat 109, Char.ofNat 112, Char.ofNat 108, Char.ofNat 101, Char.ofNat 47, Char.ofNat 99, Char.ofNat 101, Char.ofNat 108, Char.ofNat 108, Char.ofNat 99, Char.ofNat 111, Char.ofNat 108, Char.ofNat 108, Char.ofNat 101, Char.ofNat 99, Char.ofNat 116, Char.ofNat 111, Char.ofNat 114, Char.ofNat 47, Char.ofNat 108, Char.ofNat 97, Char.ofNat 119, Char.ofNat 115, Char.ofNat 46, Char.ofNat 70, Char.ofNat 110, Char.ofNat 83, Char.ofNat 104, Char.ofNat 111, Char.ofNat 114, Char.ofNat 116, Char.ofNat 76, Char.ofNat 111, Char.ofNat 115, Char.ofNat 115]
def iw5 : List Char := [Char.ofNat 108, Char.ofNat 111, Char.ofNat 111, Char.ofNat 112, Char.ofNat 46, Char.ofNat 101, Char.ofNat 120, Char.ofNat 97, Char.ofNat 109, Char.ofNat 112, Char.ofNat 108, Char.ofNat 101, Char.ofNat 47, Char.ofNat 99, Char.ofNat 101, Char.ofNat 108, Char.ofNat 108, Char.ofNat 99, Char.ofNat 111, Char.ofNat 108, Char.ofNat 108, Char.ofNat 101, Char.ofNat 99, Char.ofNat 116, Char.ofNat 111, Char.ofNat 114, Char.ofNat 47, Char.ofNat 108, Char.ofNat 97, Char.ofNat 119, Char.ofNat 115, Char.ofNat 46, Char.ofNat 70, Char.ofNat 110, Char.ofNat 67, Char.ofNat 97, Char.ofNat 110, Char.ofNat 76, Char.ofNat 111, Char.ofNat 115, Char.ofNat 101]
def iw6 : List Char := [Char.ofNat 108, Char.ofNat 111, Char.ofNat 111, Char.ofNat 112, Char.ofNat 46, Char.ofNat 101, Char.ofNat 120, Char.ofNat 97, Char.ofNat 109, Char.ofNat 112, Char.ofNat 108, Char.ofNat 101, Char.ofNat 47, Char.ofNat 99, Char.ofNat 101, Char.ofNat 108, Char.ofNat 108, Char.ofNat 99, Char.ofNat 111, Char.ofNat 108, Char.ofNat 108, Char.ofNat 101, Char.ofNat 99, Char.ofNat 116, Char.ofNat 111, Char.ofNat 114, Char.ofNat 47, Char.ofNat 108, Char.ofNat 97, Char.ofNat 119, Char.ofNat 115, Char.ofNat 46, Char.ofNat 70, Char.ofNat 110, Char.ofNat 69, Char.ofNat 110, Char.ofNat 100, Char.ofNat 83, Char.ofNat 116, Char.ofNat 111, Char.ofNat 114, Char.ofNat 101, Char.ofNat 115]
def iw7 : List Char := [Char.ofNat 108, Char.ofNat 111, Char.ofNat 111, Char.ofNat 112, Char.ofNat 46, Char.ofNat 101, Char.ofNat 120, Char.ofNat 97, Char.ofNat 109, Char.ofNat 112, Char.ofNat 108, Char.ofNat 101, Char.ofNat 47, Char.ofNat 99, Char.ofNat 101, Char.ofNat 108, Char.ofNat 108, Char.ofNat 99, Char.ofNat 111, Char.ofNat 108, Char.ofNat 108, Char.ofNat 101, Char.ofNat 99, Char.ofNat 116, Char.ofNat 111, Char.ofNat 114, Char.ofNat 47, Char.ofNat 108, Char.ofNat 97, Char.ofNat 119, Char.ofNat 115, Char.ofNat 46, Char.ofNat 70, Char.ofNat 110, Char.ofNat 69, Char.ofNat 120, Char.ofNat 97, Char.ofNat 99, Char.ofNat 116, Char.ofNat 69, Char.ofNat 110, Char.ofNat 100, Char.ofNat 83, Char.ofNat 116, Char.ofNat 111, Char.ofNat 114, Char.ofNat 101, Char.ofNat 115]
def iw8 : List Char := [Char.ofNat 108, Char.ofNat 111, Char.ofNat 111, Char.ofNat 112, Char.ofNat 46, Char.ofNat 101, Char.ofNat 120, Char.ofNat 97, Char.ofNat 109, Char.ofNat 112, Char.ofNat 108, Char.ofNat 101, Char.ofNat 47, Char.ofNat 99, Char.ofNat 101, Char.ofNat 108, Char.ofNat 108, Char.ofNat 99, Char.ofNat 111, Char.ofNat 108, Char.ofNat 108, Char.ofNat 101, Char.ofNat 99, Char.ofNat 116, Char.ofNat 111, Char.ofNat 114, Char.ofNat 47, Char.ofNat 108, Char.ofNat 97, Char.ofNat 119, Char.ofNat 115, Char.ofNat 46, Char.ofNat 70, Char.ofNat 110, Char.ofNat 69, Char.ofNat 118, Char.ofNat 101, Char.ofNat 114, Char.ofNat 121, Char.ofNat 83, Char.ofNat 99, Char.ofNat 104, Char.ofNat 101, Char.ofNat 100, Char.ofNat 117, Char.ofNat 108, Char.ofNat 101]
def iw9 : List Char := [Char.ofNat 108, Char.ofNat 111, Char.ofNat 111, Char.ofNat 112, Char.ofNat 46, Char.ofNat 101, Char.ofNat 120, Char.ofNat 97, Char.ofNat 109, Char.ofNat 112, Char.ofNat 108, Char.ofNat 101, Char.ofNat 47, Char.ofNat 99, Char.ofNat 101, Char.ofNat 108, Char.ofNat 108, Char.ofNat 99, Char.ofNat 111, Char.ofNat 108, Char.ofNat 108, Char.ofNat 101, Char.ofNat 99, Char.ofNat 116, Char.ofNat 111, Char.ofNat 114, Char.ofNat 47, Char.ofNat 108, Char.ofNat 97, Char.ofNat 119, Char.ofNat 115, Char.ofNat 46, Char.ofNat 70, Char.ofNat 110, Char.ofNat 69, Char.ofNat 110, Char.ofNat 100, Char.ofNat 66, Char.ofNat 97, Char.ofNat 114, Char.ofNat 114, Char.ofNat 105, Char.ofNat 101, Char.ofNat 114]
def iw10 : List Char := [Char.ofNat 108, Char.ofNat 111, Char.ofNat 111, Char.ofNat 112, Char.ofNat 46, Char.ofNat 101, Char.ofNat 120, Char.ofNat 97, Char.ofNat 109, Char.ofNat 112, Char.ofNat 108, Char.ofNat 101, Char.ofNat 47, Char.ofNat 99, Char.ofNat 101, Char.ofNat 108, Char.ofNat 108, Char.ofNat 99, Char.ofNat 111, Char.ofNat 108, Char.ofNat 108, Char.ofNat 101, Char.ofNat 99, Char.ofNat 116, Char.ofNat 111, Char.ofNat 114, Char.ofNat 47, Char.ofNat 108, Char.ofNat 97, Char.ofNat 119, Char.ofNat 115, Char.ofNat 46, Char.ofNat 70, Char.ofNat 110, Char.ofNat 69, Char.ofNat 110, Char.ofNat 100, Char.ofNat 82, Char.ofNat 117, Char.ofNat 110]
theorem ws_app : ∀ (w r : List Char), (w.all fun c => c != Char.ofNat 32) = true → wordsSigns (w ++ Char.ofNat 32 :: r) = w :: wordsSigns r
  | [], r, _ => rfl
  | c :: w, r, h => by
    simp only [List.all_cons, Bool.and_eq_true, bne_iff_ne] at h
    have ih := ws_app w r h.2
    rw [List.cons_append, wordsSigns, ih]
    exact h.1
theorem ws_end : ∀ (w : List Char), (w.all fun c => c != Char.ofNat 32) = true → wordsSigns w = [w]
  | [], _ => rfl
  | c :: w, h => by
    simp only [List.all_cons, Bool.and_eq_true, bne_iff_ne] at h
    have ih := ws_end w h.2
    rw [wordsSigns, ih]
    exact h.1
def initL : List Char := (iw0 ++ Char.ofNat 32 :: (iw1 ++ Char.ofNat 32 :: (iw2 ++ Char.ofNat 32 :: (iw3 ++ Char.ofNat 32 :: (iw4 ++ Char.ofNat 32 :: (iw5 ++ Char.ofNat 32 :: (iw6 ++ Char.ofNat 32 :: (iw7 ++ Char.ofNat 32 :: (iw8 ++ Char.ofNat 32 :: (iw9 ++ Char.ofNat 32 :: iw10))))))))))
theorem initE : Tryz.prog.initOrder = String.ofList initL := by kernel_rfl
theorem initT : Tryz.prog.initOrder.toList = initL := by rw [initE, String.toList_ofList]
theorem initW : wordsSigns initL = [iw0, iw1, iw2, iw3, iw4, iw5, iw6, iw7, iw8, iw9, iw10] := ((ws_app iw0 _ (by kernel_rfl)).trans (congrArg (iw0 :: ·) ((ws_app iw1 _ (by kernel_rfl)).trans (congrArg (iw1 :: ·) ((ws_app iw2 _ (by kernel_rfl)).trans (congrArg (iw2 :: ·) ((ws_app iw3 _ (by kernel_rfl)).trans (congrArg (iw3 :: ·) ((ws_app iw4 _ (by kernel_rfl)).trans (congrArg (iw4 :: ·) ((ws_app iw5 _ (by kernel_rfl)).trans (congrArg (iw5 :: ·) ((ws_app iw6 _ (by kernel_rfl)).trans (congrArg (iw6 :: ·) ((ws_app iw7 _ (by kernel_rfl)).trans (congrArg (iw7 :: ·) ((ws_app iw8 _ (by kernel_rfl)).trans (congrArg (iw8 :: ·) ((ws_app iw9 _ (by kernel_rfl)).trans (congrArg (iw9 :: ·) (ws_end iw10 (by kernel_rfl))))))))))))))))))))))
theorem initB : behindMainWord [iw0, iw1, iw2, iw3, iw4, iw5, iw6, iw7, iw8, iw9, iw10] = [iw2, iw3, iw4, iw5, iw6, iw7, iw8, iw9, iw10] := by kernel_rfl
theorem initS : stripLifts liftWords [iw2, iw3, iw4, iw5, iw6, iw7, iw8, iw9, iw10] = ([], [iw2, iw3, iw4, iw5, iw6, iw7, iw8, iw9, iw10]) := by kernel_rfl
theorem may_of (P : Program) (c : List Char) (rest : List (List Char)) (h : behindMainWord (wordsSigns P.initOrder.toList) = c :: rest) (hs : stripLifts liftWords (c :: rest) = ([], c :: rest)) (hc : c = "cut".toList) (hl : P.laysLater = false) (hr : P.bearsReflect = false) (hd : P.doorFits [] = true) : P.mayEnter = true := by
  unfold Program.mayEnter
  rw [h]
  dsimp only
  rw [hs]
  dsimp only
  rw [hd, hl, hr, hc]
  simp
theorem lift_of (P : Program) (c : List Char) (rest : List (List Char)) (h : behindMainWord (wordsSigns P.initOrder.toList) = c :: rest) (hs : stripLifts liftWords (c :: rest) = ([], c :: rest)) (hn : (some c == some "carried".toList) = false) : P.liftsFinal = false := by
  have hh : P.headLifts = [] := by
    unfold Program.headLifts
    rw [h, hs]
    show (if _ then ([] : List String) else []) = []
    split <;> rfl
  unfold Program.liftsFinal
  rw [h, hh]
  simp only [List.head?_cons, hn]
  simp
theorem make_of (P : Program) (c : List Char) (rest : List (List Char)) (h : behindMainWord (wordsSigns P.initOrder.toList) = c :: rest) (h1 : (c == "gc".toList || c == "spec".toList) = false) (h2 : (c == "cut".toList) = true) : P.make = some .cut := by
  unfold Program.make
  rw [h]
  dsimp only
  rw [h1, h2]
  simp
theorem initH : behindMainWord (wordsSigns Tryz.prog.initOrder.toList) = [iw2, iw3, iw4, iw5, iw6, iw7, iw8, iw9, iw10] := by rw [initT, initW, initB]
theorem may : Tryz.prog.mayEnter = true := may_of _ iw2 _ initH initS (by kernel_rfl) (by kernel_rfl) (by kernel_rfl) (by kernel_rfl)
theorem lift : Tryz.prog.liftsFinal = false := lift_of _ iw2 _ initH initS (by kernel_rfl)
theorem made : Tryz.prog.make = some .cut := make_of _ iw2 _ initH (by kernel_rfl) (by kernel_rfl)
theorem closed : joinedFacts Tryz.prog 8 Tryz.f8 Rows.fnEndBarrierSpec Rows.fnEndBarrierRow = true := by
  unfold joinedFacts
  rw [may, lift, made]
  kernel_rfl
theorem over : Rows.fnEndBarrierRow.holds Tryz.pinned (OpenSpec.ofChange Rows.fnEndBarrierSpec) :=
  OpenClaim.holds_of_wide 8 Tryz.f8 rfl rfl rfl rfl rfl rfl rfl ⟨rfl, rfl, rfl, rfl, rfl⟩ rfl rfl rfl rfl rfl (by kernel_rfl) Tryz.func8 closed
    (of_decide_eq_true (by kernel_rfl)) (by unfold Func.isWrapper; first | (rw [if_pos (by decide +kernel)]; kernel_rfl) | (rw [if_neg (by decide +kernel)]; exact ⟨rfl, rfl⟩))
    (fun os started H enc _ => lifted os started H enc)
theorem proved : Rows.FnEndBarrierSaid := over
end Go.Proofs.YtheldhohhpoloaaGreatDoor.fnEndBarrier
namespace Go.Proofs.YtheldhohhpoloaaGreatDoor
/-- The tied card, under a short name, for the claim. -/
theorem fnEndBarrier_holds : Rows.FnEndBarrierCardSaid :=
  Claim7.holds_tied_plain_at .later [] [.data, .data, .data, .data, .pinned] true (true, "0e3dd5b472c7855fe068fc0293e7581ac6e02c6bbb0cbdd40c4f424ce82e240e") false fnEndBarrier.proved (fun _ h => by cases h) (by kernel_rfl) (fun _ h => by cases h) fnEndBarrier_row_tie rfl ⟨rfl, rfl⟩ (by kernel_rfl) rfl
    (fun f fn hf hfn => by
      obtain rfl : f = 8 := Option.some.inj ((show Tryz.prog.funcNamed "loop.example/cellcollector/laws.FnEndBarrier" = some 8 by kernel_rfl).symm.trans hf) |>.symm
      obtain rfl : fn = Tryz.f8 := (Option.some.inj (Tryz.func8.symm.trans hfn)).symm
      exact ⟨by kernel_rfl, fun j t ht => by
        rw [Tryz.params8] at ht
        have hm : t ∈ [22] := by simpa using Array.mem_of_getElem? ht
        have hall : ([22].all fun u => !Tryz.prog.wantsStandIn u) = true := by kernel_rfl
        exact (show Tryz.prog.wantsStandIn t = false by simpa using List.all_eq_true.1 hall t hm)⟩)
    (by kernel_rfl)
#print axioms fnEndBarrier_holds
end Go.Proofs.YtheldhohhpoloaaGreatDoor
