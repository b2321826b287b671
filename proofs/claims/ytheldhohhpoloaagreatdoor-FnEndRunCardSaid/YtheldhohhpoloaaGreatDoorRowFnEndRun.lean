/-
  What is proved here: the row of the law FnEndRun: whatever the input, it returns true and leaves its arguments as they were. No condition.
-/
import Derived.Test.YtheldhohhpoloaaGreatDoorCards
import Derived.Test.YtheldhohhpoloaaGreatDoorTie
import Derived.LaidMore
import Derived.Lay
import Derived.SevenTiedAt
import Derived.Stop.Joined
import Derived.Test.YtheldhohhpoloaaGreatDoorRows
import Derived.Test.YtheldhohhpoloaaGreatDoorT15
import Derived.Test.YtheldhohhpoloaaGreatDoorPAFnEndRunP1
import Derived.Test.YtheldhohhpoloaaGreatDoorGSFnEndRun
import Derived.WalkKit
import Derived.ProofKit
import Derived.OpenShut
import Derived.ShutString
import Derived.ChangeOld
import Derived.Below
import Derived.SizedLaws
namespace Go.Proofs.YtheldhohhpoloaaGreatDoor.fnEndRun
open Go.ChangeShapes Go.WideShapes Go.ChangeAt Go.RowKit Go.Ab
set_option linter.unusedVariables false
theorem own : ownKnob Tryz.prog.godebug = none := by kernel_rfl
theorem laidOut : laidOutB Tryz.prog = true := by kernel_rfl
theorem GP0 : GP Mem.empty.blk := ⟨fun p hp => (by cases hp), fun g hg => (by cases hg)⟩
set_option maxRecDepth 100000 in
theorem lifted (os : Os) (started : os.Started) (H : Type) (enc : TypeId × Value → H) :
    ReturnsInHanded {} Tryz.checked os 9 .any (fun w args => (Rows.fnEndRunSpec.pre enc Tryz.prog Tryz.f9 Rows.fnEndRunRow.domain false w args ∧ laidMetH Tryz.prog Rows.fnEndRunRow.laid w) ∧ sizedMet enc Tryz.prog Tryz.f9 (OpenSpec.ofChange Rows.fnEndRunSpec) false w args) (Rows.fnEndRunSpec.post enc Tryz.prog Tryz.f9 false true false false) := by
  refine returnsInHanded_of_change_and (C := Tryz.checked) (X := fun w _ => laidMetH Tryz.prog Rows.fnEndRunRow.laid w) (fun _ _ _ hh h => h.of_heap hh) own started (by kernel_rfl) Tryz.func9
    (ChangeSpec.witness_shaped (enc := enc) (C := Tryz.checked) (os := os) (X := fun w _ => laidMetH Tryz.prog Rows.fnEndRunRow.laid w) false (World.laidAll Tryz.prog os Rows.fnEndRunRow.laid) #[.slice none 0 0] 8 (World.laidAll_os _ _ _)
      (World.shaped_of_ZipB (by kernel_rfl) (by kernel_rfl)) (by kernel_rfl) (by kernel_rfl) (by kernel_rfl)
      (by rw [MakeChecks.laidMetH_plain _ _ _ (by kernel_rfl)]; exact laidMet_laidAll _ (by kernel_rfl) (by kernel_rfl))) ?_
  intro W base args ds gs before hval0 hW hcnd hsz0 _ _
  have hval : ∀ (j : Nat) t v, Tryz.f9.params[j]? = some t → args[j]? = some v → Value.okWide Tryz.prog W .any base t v := hval0
  have hW' := hW
  obtain ⟨p, q, hA0, hV, rfl, hfz, hnd⟩ := hW
  have hA : DataW.TrodAll enc Tryz.prog W 0 (fun _ => true) true Tryz.f9.params.toList args.toList ds p := hA0
  rw [Tryz.params9] at hA hval
  obtain ⟨v0, vs0, d0, ds0, p0, q0, hargs, rfl, rfl, h0, r0⟩ := trodAll_cons hA
  obtain ⟨rfl, rfl, rfl⟩ := trodAll_nil r0
  obtain rfl : args = #[v0] := by cases args; simp_all
  obtain ⟨rfl, rfl⟩ := trodVars_none hV
  have O0 := op0_empty W rfl GP0
  obtain ⟨ad0, len0, cap0, rfl⟩ := okWide_slice Tryz.underlying22 (hval 0 22 v0 rfl rfl)
  have k0 := h0
  have lt0 : ∀ x ∈ p0, x.block < W.heap.size := by obtain ⟨m, hm⟩ := k0; exact DataW.trod_lt m _ _ _ hm
  obtain ⟨fu0, hf0⟩ := h0
  obtain ⟨xx1, m1, b1, z0, O1, e1, l1, L0, V0, ⟨hx2, wx3⟩⟩ := (opens_bytes Tryz.underlying22 Tryz.underlying5 (by kernel_rfl)) _ enc W Mem.empty (fun _ => none) fu0 _ _ O0 hf0
  obtain ⟨c0, rfl, Q0⟩ := one_of L0
  clear hA0 hval0 hsz0
  have hK : Ml_FnEndRun xx1 (fun r1 => TV.bool r1 = TV.bool true) := by apply law_FnEndRun <;> first | assumption | rfl
  obtain ⟨MM, hMM⟩ : ∃ M, M = @Ml_FnEndRun := ⟨_, rfl⟩
  rw [← hMM] at hK
  have hL := (lv_cons (lv_get V0) (lv_nil _))
  obtain ⟨m', hd⟩ := law_true s9 O1 hL (show B9 (xx1, ()) (fun r _ => r = TV.bool true) from (by unfold B9; rw [← hMM]; exact hK))
  clear hMM hK hL
  refine (hd.2.2 b1 W _ ((LRel.nil b1).push (Q0)) O1.sim (op0_free O1)).mono fun e W' ⟨cv, β', he, hr, hp⟩ => ?_
  subst he
  cases back_bool hr
  have bel := hp.below
  exact ⟨_, rfl, _, _, _, [], _, [], hW', trodAll_mk1 (shut_bool Tryz.underlying4 _), (trodAll_cons_mk (Below.trod laidOut (by kernel_rfl) (of_decide_eq_true (by kernel_rfl)) k0 bel lt0) trodAll_mk0), rfl, bel.frame _, fun h => by cases h⟩
def iw0 : List Char := [Char.ofNat 104, Char.ofNat 97, Char.ofNat 114, Char.ofNat 110, Char.ofNat 101, Char.ofNat 115, Char.ofNat 115]
def iw1 : List Char := [Char.ofNat 48, Char.ofNat 101, Char.ofNat 51, Char.ofNat 100, Char.ofNat 100, Char.ofNat 53, Char.ofNat 98, Char.ofNat 52, Char.ofNat 55, Char.ofNat 50, Char.ofNat 99, Char.ofNat 55, Char.ofNat 56, Char.ofNat 53, Char.ofNat 53, Char.ofNat 102, Char.ofNat 101, Char.ofNat 48, Char.ofNat 54, Char.ofNat 56, Char.ofNat 102, Char.ofNat 99, Char.ofNat 48, Char.ofNat 50, Char.ofNat 57, Char.ofNat 51, Char.ofNat 101, Char.ofNat 55, Char.ofNat 53, Char.ofNat 56, Char.ofNat 49, Char.ofNat 97, Char.ofNat 99, Char.ofNat 54, Char.ofNat 101, Char.ofNat 48, Char.ofNat 50, Char.ofNat 99, Char.ofNat 54, Char.ofNat 98, Char.ofNat 98, Char.ofNat 98, Char.ofNat 48, Char.ofNat 99, Char.ofNat 98, Char.ofNat 100, Char.ofNat 100, Char.ofNat 52, Char.ofNat 48, Char.ofNat 99, Char.ofNat 52, Char.ofNat 102, Char.ofNat 52, Char.ofNat 50, Char.ofNat 52, Char.ofNat 99, Char.ofNat 101, Char.ofNat 56, Char.ofNat 50, Char.ofNat 101, Char.ofNat 50, Char.ofNat 52, Char.ofNat 48, Char.ofNat 101]
def iw2 : List Char := [Char.ofNat 99, Char.ofNat 117, Char.ofNat 116]
def iw3 : List Char := [Char.ofNat 97, Char.ofNat 116]
def iw4 : List Char := [Char.ofNat 108, Char.ofNat 111, Char.ofNat 111, Char.ofNat 112, Char.ofNat 46, Char.ofNat 101, Char.ofNat 120, Char.ofNat 97, Char.ofNat 109, Char.ofNat 112, Char.ofNat 108, Char.ofNat 101, Char.ofNat 47, Char.ofNat 99, Char.ofNat 101, Char.ofNat 108, Char.ofNat 108, Char.ofNat 99, Char.ofNat 111, Char.ofNat 108, Char.ofNat 108, Char.ofNat 101, Char.ofNat 99, Char.ofNat 116, Char.ofNat 111, Char.ofNat 114, Char.ofNat 47, Char.ofNat 108, Char.ofNat 97, Char.ofNat 119, Char.ofNat 115, Char.ofNat 46, Char.ofNat 70, Char.ofNat 110, Char.ofNat 83, Char.ofNat 104, Char.ofNat 111, Char.ofNat 114, Char.ofNat 116, Char.ofNat 76, Char.ofNat 111, Char.ofNat 115, Char.ofNat 115]
def iw5 : List Char := [Char.ofNat 108, Char.ofNat 111, Char.ofNat 111, Char.ofNat 112, Char.ofNat 46, Char.ofNat 101, Char.ofNat 120, Char.ofNat 97, Char.ofNat 109, Char.ofNat 112, Char.ofNat 108, Char.ofNat 101, Char.ofNat 47, Char.ofNat 99, Char.ofNat 101, Char.ofNat 108, Char.ofNat 108, Char.ofNat 99, Char.ofNat 111, Char.ofNat 108, Char.ofNat 108, Char.ofNat 101, Char.ofNat 99, Char.ofNat 116, Char.ofNat 111, Char.ofNat 114, Char.ofNat 47, Char.ofNat 108, Char.ofNat 97, Char.ofNat 119, Char.ofNat 115, Char.ofNat 46, Char.ofNat 70, Char.ofNat 110, Char.ofNat 67, Char.ofNat 97, Char.ofNat 110, Char.ofNat 76, Char.ofNat 111, Char.ofNat 115, Char.ofNat 101]
def iw6 : List Char := [Char.ofNat 108, Char.ofNat 111, Char.ofNat 111, Char.ofNat 112, Char.ofNat 46, Char.ofNat 101, Char.ofNat 120, Char.ofNat 97, Char.ofNat 109, Char.ofNat 112, Char.ofNat 108, Char.ofNat 101, Char.ofNat 47, Char.ofNat 99, Char.ofNat 101, Char.ofNat 108, Char.ofNat 108, Char.ofNat 99, Char.ofNat 111, Char.ofNat 108, Char.ofNat 108, Char.ofNat 101, Char.ofNat 99, Char.ofNat 116, Char.ofNat 111, Char.ofNat 114, Char.ofNat 47, Char.ofNat 108, Char.ofNat 97, Char.ofNat 119, Char.ofNat 115, Char.ofNat 46, Char.ofNat 70, Char.ofNat 110, Char.ofNat 69, Char.ofNat 110, Char.ofNat 100, Char.ofNat 83, Char.ofNat 116, Char.ofNat 111, Char.ofNat 114, Char.ofNat 101, Char.ofNat 115]
def iw7 : List Char := [Char.ofNat 108, Char.ofNat 111, Char.ofNat 111, Char.ofNat 112, Char.ofNat 46, Char.ofNat 101, Char.ofNat 120, Char.ofNat 97, Char.ofNat 109, Char.ofNat 112, Char.ofNat 108, Char.ofNat 101, Char.ofNat 47, Char.ofNat 99, Char.ofNat 101, Char.ofNat 108, Char.ofNat 108, Char.ofNat 99, Char.ofNat 111, Char.ofNat 108, Char.ofNat 108, Char.ofNat 101, Char.ofNat 99, Char.ofNat 116, Char.ofNat 111, Char.ofNat 114, Char.ofNat 47, Char.ofNat 108, Char.ofNat 97, Char.ofNat 119, Char.ofNat 115, Char.ofNat 46, Char.ofNat 70, Char.ofNat 110, Char.ofNat 69, Char.ofNat 120, Char.ofNat 97, Char.ofNat 99, Char.ofNat 116, Char.ofNat 69, Char.ofNat 110, Char.ofNat 100, Char.ofNat 83, Char.ofNat 116, Char.ofNat 111, Char.ofNat 114, Char.ofNat 101, Char.ofNat 115]
def iw8 : List Char := [Char.ofNat 108, Char.ofNat 111, Char.ofNat 111, Char.ofNat 112, Char.ofNat 46, Char.ofNat 101, Char.ofNat 120, Char.ofNat 97, Char.ofNat 109, Char.ofNat 112, Char.ofNat 108, Char.ofNat 101, Char.ofNat 47, Char.ofNat 99, Char.ofNat 101, Char.ofNat 108, Char.ofNat 108, Char.ofNat 99, Char.ofNat 111, Char.ofNat 108, Char.ofNat 108, Char.ofNat 101, Char.ofNat 99, Char.ofNat 116, Char.ofNat 111, Char.ofNat 114, Char.ofNat 47, Char.ofNat 108, Char.ofNat 97, Char.ofNat 119, Char.ofNat 115, Char.ofNat 46, Char.ofNat 70, Char.ofNat 110, Char.ofNat 69, Char.ofNat 118, Char.ofNat 101, Char.ofNat 114, Char.ofNat 121, Char.ofNat 83, Char.ofNat 99, Char.ofNat 104, Char.ofNat 101, Char.ofNat 100, Char.ofNat 117, Char.ofNat 108, Char.ofNat 101]
def iw9 : List Char := [Char.ofNat 108, Char.ofNat 111, Char.ofNat 111, Char.ofNat 112, Char.ofNat 46, Char.ofNat 101, Char.ofNat 120, Char.ofNat 97, Char.ofNat 109, Char.ofNat 112, Char.ofNat 108, Char.ofNat 101, Char.ofNat 47, Char.ofNat 99, Char.ofNat 101, Char.ofNat 108, Char.ofNat 108, Char.ofNat 99, Char.ofNat 111, Char.ofNat 108, Char.ofNat 108, Char.ofNat 101, Char.ofNat 99, Char.ofNat 116, Char.ofNat 111, Char.ofNat 114, Char.ofNat 47, Char.ofNat 108, Char.ofNat 97, Char.ofNat 119, Char.ofNat 115, Char.ofNat 46, Char.ofNat 70, Char.ofNat 110, Char.ofNat 69, Char.ofNat 110, Char.ofNat 100, Char.ofNat 66, Char.ofNat 97, Char.ofNat 114, Char.ofNat 114, Char.ofNat 105, Char.ofNat 101, Char.ofNat 114]
def iw10 : List Char := [Char.ofNat 108, Char.ofNat 111, Char.ofNat 111, Char.ofNat 112, Char.ofNat 46, Char.ofNat 101, Char.ofNat 120, Char.ofNat 97, Char.ofNat 109, Char.ofNat 112, Char.ofNat 108, Char.ofNat 101, Char.ofNat 47, Char.ofNat 99, Char.ofNat 101, Char.ofNat 108, Char.ofNat 108, Char.ofNat 99, Char.ofNat 111, Char.ofNat 108, Char.ofNat 108, Char.ofNat 101, Char.ofNat 99, Char.ofNat 116, Char.ofNat 111, Char.ofNat 114, Char.ofNat 47, Char.ofNat 108, Char.ofNat 97, Char.ofNat 119, Char.ofNat 115, Char.ofNat 46, Char.ofNat 70, Char.ofNat 110, Char.ofNat 69, Char.ofNat 110, Char.ofNat 100, Char.ofNat 82, Char.ofNat 117, Char.ofNat 110]
theorem ws_app : ∀ (w r : List Char), (w.all fun c => c != Char.ofNat 32) = true → wordsSigns (w ++ Char.ofNat 32 :: r) = w :: wordsSigns r
  | [], r, _ => rfl
  | c :: w, r, h => by
    simp only [List.all_cons, Bool.and_eq_true, bne_iff_ne] at h
    have ih := ws_app w r h.2
    rw [List.cons_append, wordsSigns, ih]
    exact h.1
theorem ws_end : ∀ (w : List Char), (w.all fun c => c != Char.ofNat 32) = true → wordsSigns w = [w]
  | [], _ => rfl
  | c :: w, h => by
    simp only [List.all_cons, Bool.and_eq_true, bne_iff_ne] at h
    have ih := ws_end w h.2
    rw [wordsSigns, ih]
    exact h.1
def initL : List Char := (iw0 ++ Char.ofNat 32 :: (iw1 ++ Char.ofNat 32 :: (iw2 ++ Char.ofNat 32 :: (iw3 ++ Char.ofNat 32 :: (iw4 ++ Char.ofNat 32 :: (iw5 ++ Char.ofNat 32 :: (iw6 ++ Char.ofNat 32 :: (iw7 ++ Char.ofNat 32 :: (iw8 ++ Char.ofNat 32 :: (iw9 ++ Char.ofNat 32 :: iw10))))))))))
theorem initE : Tryz.prog.initOrder = String.ofList initL := by kernel_rfl
theorem initT : Tryz.prog.initOrder.toList = initL := by rw [initE, String.toList_ofList]
theorem initW : wordsSigns initL = [iw0, iw1, iw2, iw3, iw4, iw5, iw6, iw7, iw8, iw9, iw10] := ((ws_app iw0 _ (by kernel_rfl)).trans (congrArg (iw0 :: ·) ((ws_app iw1 _ (by kernel_rfl)).trans (congrArg (iw1 :: ·) ((ws_app iw2 _ (by kernel_rfl)).trans (congrArg (iw2 :: ·) ((ws_app iw3 _ (by kernel_rfl)).trans (congrArg (iw3 :: ·) ((ws_app iw4 _ (by kernel_rfl)).trans (congrArg (iw4 :: ·) ((ws_app iw5 _ (by kernel_rfl)).trans (congrArg (iw5 :: ·) ((ws_app iw6 _ (by kernel_rfl)).trans (congrArg (iw6 :: ·) ((ws_app iw7 _ (by kernel_rfl)).trans (congrArg (iw7 :: ·) ((ws_app iw8 _ (by kernel_rfl)).trans (congrArg (iw8 :: ·) ((ws_app iw9 _ (by kernel_rfl)).trans (congrArg (iw9 :: ·) (ws_end iw10 (by kernel_rfl))))))))))))))))))))))
theorem initB : behindMainWord [iw0, iw1, iw2, iw3, iw4, iw5, iw6, iw7, iw8, iw9, iw10] = [iw2, iw3, iw4, iw5, iw6, iw7, iw8, iw9, iw10] := by kernel_rfl
theorem initS : stripLifts liftWords [iw2, iw3, iw4, iw5, iw6, iw7, iw8, iw9, iw10] = ([], [iw2, iw3, iw4, iw5, iw6, iw7, iw8, iw9, iw10]) := by kernel_rfl
theorem may_of (P : Program) (c : List Char) (rest : List (List Char)) (h : behindMainWord (wordsSigns P.initOrder.toList) = c :: rest) (hs : stripLifts liftWords (c :: rest) = ([], c :: rest)) (hc : c = "cut".toList) (hl : P.laysLater = false) (hr : P.bearsReflect = false) (hd : P.doorFits [] = true) : P.mayEnter = true := by
  unfold Program.mayEnter
  rw [h]
  dsimp only
  rw [hs]
  dsimp only
  rw [hd, hl, hr, hc]
  simp
theorem lift_of (P : Program) (c : List Char) (rest : List (List Char)) (h : behindMainWord (wordsSigns P.initOrder.toList) = c :: rest) (hs : stripLifts liftWords (c :: rest) = ([], c :: rest)) (hn : (some c == some "carried".toList) = false) : P.liftsFinal = false := by
  have hh : P.headLifts = [] := by
    unfold Program.headLifts
    rw [h, hs]
    show (if _ then ([] : List String) else []) = []
    split <;> rfl
  unfold Program.liftsFinal
  rw [h, hh]
  simp only [List.head?_cons, hn]
  simp
theorem make_of (P : Program) (c : List Char) (rest : List (List Char)) (h : behindMainWord (wordsSigns P.initOrder.toList) = c :: rest) (h1 : (c == "gc".toList || c == "spec".toList) = false) (h2 : (c == "cut".toList) = true) : P.make = some .cut := by
  unfold Program.make
  rw [h]
  dsimp only
  rw [h1, h2]
  simp
theorem initH : behindMainWord (wordsSigns Tryz.prog.initOrder.toList) = [iw2, iw3, iw4, iw5, iw6, iw7, iw8, iw9, iw10] := by rw [initT, initW, initB]
theorem may : Tryz.prog.mayEnter = true := may_of _ iw2 _ initH initS (by kernel_rfl) (by kernel_rfl) (by kernel_rfl) (by kernel_rfl)
theorem lift : Tryz.prog.liftsFinal = false := lift_of _ iw2 _ initH initS (by kernel_rfl)
theorem made : Tryz.prog.make = some .cut := make_of _ iw2 _ initH (by kernel_rfl) (by kernel_rfl)
theorem closed : joinedFacts Tryz.prog 9 Tryz.f9 Rows.fnEndRunSpec Rows.fnEndRunRow = true := by
  unfold joinedFacts
  rw [may, lift, made]
  kernel_rfl
theorem over : Rows.fnEndRunRow.holds Tryz.pinned (OpenSpec.ofChange Rows.fnEndRunSpec) :=
  OpenClaim.holds_of_wide 9 Tryz.f9 rfl rfl rfl rfl rfl rfl rfl ⟨rfl, rfl, rfl, rfl, rfl⟩ rfl rfl rfl rfl rfl (by kernel_rfl) Tryz.func9 closed
    (of_decide_eq_true (by kernel_rfl)) (by unfold Func.isWrapper; first | (rw [if_pos (by decide +kernel)]; kernel_rfl) | (rw [if_neg (by decide +kernel)]; exact ⟨rfl, rfl⟩))
    (fun os started H enc _ => lifted os started H enc)
theorem proved : Rows.FnEndRunSaid := over
end Go.Proofs.YtheldhohhpoloaaGreatDoor.fnEndRun
namespace Go.Proofs.YtheldhohhpoloaaGreatDoor
/-- The tied card, under a short name, for the claim. -/
theorem fnEndRun_holds : Rows.FnEndRunCardSaid :=
  Claim7.holds_tied_plain_at .later [] [.data, .data, .data, .data, .pinned] true (true, "0e3dd5b472c7855fe068fc0293e7581ac6e02c6bbb0cbdd40c4f424ce82e240e") false fnEndRun.proved (fun _ h => by cases h) (by kernel_rfl) (fun _ h => by cases h) fnEndRun_row_tie rfl ⟨rfl, rfl⟩ (by kernel_rfl) rfl
    (fun f fn hf hfn => by
      obtain rfl : f = 9 := Option.some.inj ((show Tryz.prog.funcNamed "loop.example/cellcollector/laws.FnEndRun" = some 9 by kernel_rfl).symm.trans hf) |>.symm
      obtain rfl : fn = Tryz.f9 := (Option.some.inj (Tryz.func9.symm.trans hfn)).symm
      exact ⟨by kernel_rfl, fun j t ht => by
        rw [Tryz.params9] at ht
        have hm : t ∈ [22] := by simpa using Array.mem_of_getElem? ht
        have hall : ([22].all fun u => !Tryz.prog.wantsStandIn u) = true := by kernel_rfl
        exact (show Tryz.prog.wantsStandIn t = false by simpa using List.all_eq_true.1 hall t hm)⟩)
    (by kernel_rfl)
#print axioms fnEndRun_holds
end Go.Proofs.YtheldhohhpoloaaGreatDoor
