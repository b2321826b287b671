/-
  What is proved here: the row of the law FnExactEndStores: whatever the input, it returns true and leaves its arguments as they were. No condition.
-/
import Derived.Test.YtheldhohhpoloaaGreatDoorCards
import Derived.Test.YtheldhohhpoloaaGreatDoorTie
import Derived.LaidMore
import Derived.Lay
import Derived.SevenTiedAt
import Derived.Stop.Joined
import Derived.Test.YtheldhohhpoloaaGreatDoorRows
import Derived.Test.YtheldhohhpoloaaGreatDoorT18
import Derived.Test.YtheldhohhpoloaaGreatDoorPAFnExactEndStoresP1
import Derived.Test.YtheldhohhpoloaaGreatDoorGSFnExactEndStores
import Derived.WalkKit
import Derived.ProofKit
import Derived.OpenShut
import Derived.ShutString
import Derived.ChangeOld
import Derived.Below
import Derived.SizedLaws
namespace Go.Proofs.YtheldhohhpoloaaGreatDoor.fnExactEndStores
open Go.ChangeShapes Go.WideShapes Go.ChangeAt Go.RowKit Go.Ab
set_option linter.unusedVariables false
theorem own : ownKnob Tryz.prog.godebug = none := by kernel_rfl
theorem laidOut : laidOutB Tryz.prog = true := by kernel_rfl
theorem GP0 : GP Mem.empty.blk := ⟨fun p hp => (by cases hp), fun g hg => (by cases hg)⟩
set_option maxRecDepth 100000 in
theorem lifted (os : Os) (started : os.Started) (H : Type) (enc : TypeId × Value → H) :
    ReturnsInHanded {} Tryz.checked os 6 .any (fun w args => (Rows.fnExactEndStoresSpec.pre enc Tryz.prog Tryz.f6 Rows.fnExactEndStoresRow.domain false w args ∧ laidMetH Tryz.prog Rows.fnExactEndStoresRow.laid w) ∧ sizedMet enc Tryz.prog Tryz.f6 (OpenSpec.ofChange Rows.fnExactEndStoresSpec) false w args) (Rows.fnExactEndStoresSpec.post enc Tryz.prog Tryz.f6 false true false false) := by
  refine returnsInHanded_of_change_and (C := Tryz.checked) (X := fun w _ => laidMetH Tryz.prog Rows.fnExactEndStoresRow.laid w) (fun _ _ _ hh h => h.of_heap hh) own started (by kernel_rfl) Tryz.func6
    (ChangeSpec.witness_shaped (enc := enc) (C := Tryz.checked) (os := os) (X := fun w _ => laidMetH Tryz.prog Rows.fnExactEndStoresRow.laid w) false (World.laidAll Tryz.prog os Rows.fnExactEndStoresRow.laid) #[.agg #[.slice none 0 0, .slice none 0 0, .slice none 0 0, .slice none 0 0, .int .i64 0, .slice none 0 0, .int .i64 0, .slice none 0 0, .int .i64 0, .bool false], .bool false] 8 (World.laidAll_os _ _ _)
      (World.shaped_of_ZipB (by kernel_rfl) (by kernel_rfl)) (by kernel_rfl) (by kernel_rfl) (by kernel_rfl)
      (by rw [MakeChecks.laidMetH_plain _ _ _ (by kernel_rfl)]; exact laidMet_laidAll _ (by kernel_rfl) (by kernel_rfl))) ?_
  intro W base args ds gs before hval0 hW hcnd hsz0 hX _
  have hval : ∀ (j : Nat) t v, Tryz.f6.params[j]? = some t → args[j]? = some v → Value.okWide Tryz.prog W .any base t v := hval0
  have hW' := hW
  obtain ⟨p, q, hA0, hV, rfl, hfz, hnd⟩ := hW
  have hA : DataW.TrodAll enc Tryz.prog W 0 (fun _ => true) true Tryz.f6.params.toList args.toList ds p := hA0
  rw [Tryz.params6] at hA hval
  obtain ⟨v0, vs0, d0, ds0, p0, q0, hargs, rfl, rfl, h0, r0⟩ := trodAll_cons hA
  obtain ⟨v1, vs1, d1, ds1, p1, q1, rfl, rfl, rfl, h1, r1⟩ := trodAll_cons r0
  obtain ⟨rfl, rfl, rfl⟩ := trodAll_nil r1
  obtain rfl : args = #[v0, v1] := by cases args; simp_all
  obtain ⟨rfl, rfl⟩ := trodVars_none hV
  have O0 := op0_empty W rfl GP0
  obtain ⟨us0, rfl⟩ := okW_struct Tryz.underlying54 (hval 0 54 v0 rfl rfl)
  have k0 := h0
  have lt0 : ∀ x ∈ p0, x.block < W.heap.size := by obtain ⟨m, hm⟩ := k0; exact DataW.trod_lt m _ _ _ hm
  obtain ⟨fu0, hf0⟩ := h0
  obtain ⟨⟨⟨⟨xx1, xx4, xx7, _⟩, xx10, _⟩, ⟨xx13, xx15, xx18, _⟩, xx20, xx22, xx24, _⟩, m1, b1, z0, O1, e1, l1, L0, V0, ⟨⟨⟨⟨hx2, wx3⟩, ⟨hx5, wx6⟩, ⟨hx8, wx9⟩, _⟩, ⟨hx11, wx12⟩, _⟩, ⟨wx14, ⟨hx16, wx17⟩, wx19, _⟩, hx21, wx23, wx25, _⟩⟩ := (opens_struct Tryz.underlying54 (opensF_cons (by kernel_rfl) (opens_struct Tryz.underlying50 (opensF_cons (by kernel_rfl) (opens_struct Tryz.underlying48 (opensF_cons (by kernel_rfl) (opens_ints Tryz.underlying23 Tryz.underlying3 (by kernel_rfl)) (opensF_cons (by kernel_rfl) (opens_ints Tryz.underlying23 Tryz.underlying3 (by kernel_rfl)) (opensF_cons (by kernel_rfl) (opens_ints Tryz.underlying23 Tryz.underlying3 (by kernel_rfl)) (opensF_nil (by kernel_rfl)))))) (opensF_cons (by kernel_rfl) (opens_ints Tryz.underlying23 Tryz.underlying3 (by kernel_rfl)) (opensF_nil (by kernel_rfl))))) (opensF_cons (by kernel_rfl) (opens_struct Tryz.underlying51 (opensF_cons (by kernel_rfl) (opens_int Tryz.underlying3) (opensF_cons (by kernel_rfl) (opens_ints Tryz.underlying23 Tryz.underlying3 (by kernel_rfl)) (opensF_cons (by kernel_rfl) (opens_int Tryz.underlying3) (opensF_nil (by kernel_rfl)))))) (opensF_cons (by kernel_rfl) (opens_ops Tryz.underlying52 Tryz.underlying159 rfl rfl rfl Tryz.underlying3 Tryz.underlying3 Tryz.underlying3 (by kernel_rfl) (by kernel_rfl) (by kernel_rfl) (by kernel_rfl)) (opensF_cons (by kernel_rfl) (opens_int Tryz.underlying3) (opensF_cons (by kernel_rfl) (opens_bool Tryz.underlying4) (opensF_nil (by kernel_rfl)))))))) _ enc W Mem.empty (fun _ => none) fu0 _ _ O0 hf0
  obtain ⟨a1, rfl, rfl, rfl⟩ := open_bool Tryz.underlying4 (hval 1 4 v1 rfl rfl) h1
  clear hA0 hval0 hsz0
  have hK : Ml_FnExactEndStores xx1 xx4 xx7 xx10 xx13 xx15 xx18 xx20 xx22 xx24 a1 (fun r1 => TV.bool r1 = TV.bool true) := by apply law_FnExactEndStores <;> first | assumption | rfl
  obtain ⟨MM, hMM⟩ : ∃ M, M = @Ml_FnExactEndStores := ⟨_, rfl⟩
  rw [← hMM] at hK
  have hL := (lv_cons (rv_struct V0) (lv_cons (.bool a1) (lv_nil _)))
  obtain ⟨m', hd⟩ := law_true s6 O1 hL (show B6 (xx1, xx4, xx7, xx10, xx13, xx15, xx18, xx20, xx22, xx24, a1, ()) (fun r _ => r = TV.bool true) from (by unfold B6; rw [← hMM]; exact hK))
  clear hMM hK hL
  refine (hd.2.2 b1 W _ (((LRel.nil b1).push (arg_struct L0)).push (.bool a1)) O1.sim (op0_free O1)).mono fun e W' ⟨cv, β', he, hr, hp⟩ => ?_
  subst he
  cases back_bool hr
  have bel := hp.below
  exact ⟨_, rfl, _, _, _, [], _, [], hW', trodAll_mk1 (shut_bool Tryz.underlying4 _), (trodAll_cons_mk (Below.trod laidOut (by kernel_rfl) (of_decide_eq_true (by kernel_rfl)) k0 bel lt0) (trodAll_cons_mk (shut_bool Tryz.underlying4 _) trodAll_mk0)), rfl, bel.frame _, fun h => by cases h⟩
def iw0 : List Char := [Char.ofNat 104, Char.ofNat 97, Char.ofNat 114, Char.ofNat 110, Char.ofNat 101, Char.ofNat 115, Char.ofNat 115]
def iw1 : List Char := [Char.ofNat 48, Char.ofNat 101, Char.ofNat 51, Char.ofNat 100, Char.ofNat 100, Char.ofNat 53, Char.ofNat 98, Char.ofNat 52, Char.ofNat 55, Char.ofNat 50, Char.ofNat 99, Char.ofNat 55, Char.ofNat 56, Char.ofNat 53, Char.ofNat 53, Char.ofNat 102, Char.ofNat 101, Char.ofNat 48, Char.ofNat 54, Char.ofNat 56, Char.ofNat 102, Char.ofNat 99, Char.ofNat 48, Char.ofNat 50, Char.ofNat 57, Char.ofNat 51, Char.ofNat 101, Char.ofNat 55, Char.ofNat 53, Char.ofNat 56, Char.ofNat 49, Char.ofNat 97, Char.ofNat 99, Char.ofNat 54, Char.ofNat 101, Char.ofNat 48, Char.ofNat 50, Char.ofNat 99, Char.ofNat 54, Char.ofNat 98, Char.ofNat 98, Char.ofNat 98, Char.ofNat 48, Char.ofNat 99, Char.ofNat 98, Char.ofNat 100, Char.ofNat 100, Char.ofNat 52, Char.ofNat 48, Char.ofNat 99, Char.ofNat 52, Char.ofNat 102, Char.ofNat 52, Char.ofNat 50, Char.ofNat 52, Char.ofNat 99, Char.ofNat 101, Char.ofNat 56, Char.ofNat 50, Char.ofNat 101, Char.ofNat 50, Char.ofNat 52, Char.ofNat 48, Char.ofNat 101]
def iw2 : List Char := [Char.ofNat 99, Char.ofNat 117, Char.ofNat 116]
def iw3 : List Char := [Char.ofNat 97, Char.ofNat 116]
def iw4 : List Char := [Char.ofNat 108, Char.ofNat 111, Char.ofNat 111, Char.ofNat 112, Char.ofNat 46, Char.ofNat 101, Char.ofNat 120, Char.ofNat 97, Char.ofNat 109, Char.ofNat 112, Char.ofNat 108, Char.ofNat 101, Char.ofNat 47, Char.ofNat 99, Char.ofNat 101, Char.ofNat 108, Char.ofNat 108, Char.ofNat 99, Char.ofNat 111, Char.ofNat 108, Char.ofNat 108, Char.ofNat 101, Char.ofNat 99, Char.ofNat 116, Char.ofNat 111, Char.ofNat 114, Char.ofNat 47, Char.ofNat 108, Char.ofNat 97, Char.ofNat 119, Char.ofNat 115, Char.ofNat 46, Char.ofNat 70, Char.ofNat 110, Char.ofNat 83, Char.ofNat 104, Char.ofNat 111, Char.ofNat 114, Char.ofNat 116, Char.ofNat 76, Char.ofNat 111, Char.ofNat 115, Char.ofNat 115]
def iw5 : List Char := [Char.ofNat 108, Char.ofNat 111, Char.ofNat 111, Char.ofNat 112, Char.ofNat 46, Char.ofNat 101, Char.ofNat 120, Char.ofNat 97, Char.ofNat 109, Char.ofNat 112, Char.ofNat 108, Char.ofNat 101, Char.ofNat 47, Char.ofNat 99, Char.ofNat 101, Char.ofNat 108, Char.ofNat 108, Char.ofNat 99, Char.ofNat 111, Char.ofNat 108, Char.ofNat 108, Char.ofNat 101, Char.ofNat 99, Char.ofNat 116, Char.ofNat 111, Char.ofNat 114, Char.ofNat 47, Char.ofNat 108, Char.ofNat 97, Char.ofNat 119, Char.ofNat 115, Char.ofNat 46, Char.ofNat 70, Char.ofNat 110, Char.ofNat 67, Char.ofNat 97, Char.ofNat 110, Char.ofNat 76, Char.ofNat 111, Char.ofNat 115, Char.ofNat 101]
def iw6 : List Char := [Char.ofNat 108, Char.ofNat 111, Char.ofNat 111, Char.ofNat 112, Char.ofNat 46, Char.ofNat 101, Char.ofNat 120, Char.ofNat 97, Char.ofNat 109, Char.ofNat 112, Char.ofNat 108, Char.ofNat 101, Char.ofNat 47, Char.ofNat 99, Char.ofNat 101, Char.ofNat 108, Char.ofNat 108, Char.ofNat 99, Char.ofNat 111, Char.ofNat 108, Char.ofNat 108, Char.ofNat 101, Char.ofNat 99, Char.ofNat 116, Char.ofNat 111, Char.ofNat 114, Char.ofNat 47, Char.ofNat 108, Char.ofNat 97, Char.ofNat 119, Char.ofNat 115, Char.ofNat 46, Char.ofNat 70, Char.ofNat 110, Char.ofNat 69, Char.ofNat 110, Char.ofNat 100, Char.ofNat 83, Char.ofNat 116, Char.ofNat 111, Char.ofNat 114, Char.ofNat 101, Char.ofNat 115]
def iw7 : List Char := [Char.ofNat 108, Char.ofNat 111, Char.ofNat 111, Char.ofNat 112, Char.ofNat 46, Char.ofNat 101, Char.ofNat 120, Char.ofNat 97, Char.ofNat 109, Char.ofNat 112, Char.ofNat 108, Char.ofNat 101, Char.ofNat 47, Char.ofNat 99, Char.ofNat 101, Char.ofNat 108, Char.ofNat 108, Char.ofNat 99, Char.ofNat 111, Char.ofNat 108, Char.ofNat 108, Char.ofNat 101, Char.ofNat 99, Char.ofNat 116, Char.ofNat 111, Char.ofNat 114, Char.ofNat 47, Char.ofNat 108, Char.ofNat 97, Char.ofNat 119, Char.ofNat 115, Char.ofNat 46, Char.ofNat 70, Char.ofNat 110, Char.ofNat 69, Char.ofNat 120, Char.ofNat 97, Char.ofNat 99, Char.ofNat 116, Char.ofNat 69, Char.ofNat 110, Char.ofNat 100, Char.ofNat 83, Char.ofNat 116, Char.ofNat 111, Char.ofNat 114, Char.ofNat 101, Char.ofNat 115]
def iw8 : List Char := [Char.ofNat 108, Char.ofNat 111, Char.ofNat 111, Char.ofNat 112, Char.ofNat 46, Char.ofNat 101, Char.ofNat 120, Char.ofNat 97, Char.ofNat 109, Char.ofNat 112, Char.ofNat 108, Char.ofNat 101, Char.ofNat 47, Char.ofNat 99, Char.ofNat 101, Char.ofNat 108, Char.ofNat 108, Char.ofNat 99, Char.ofNat 111, Char.ofNat 108, Char.ofNat 108, Char.ofNat 101, Char.ofNat 99, Char.ofNat 116, Char.ofNat 111, Char.ofNat 114, Char.ofNat 47, Char.ofNat 108, Char.ofNat 97, Char.ofNat 119, Char.ofNat 115, Char.ofNat 46, Char.ofNat 70, Char.ofNat 110, Char.ofNat 69, Char.ofNat 118, Char.ofNat 101, Char.ofNat 114, Char.ofNat 121, Char.ofNat 83, Char.ofNat 99, Char.ofNat 104, Char.ofNat 101, Char.ofNat 100, Char.ofNat 117, Char.ofNat 108, Char.ofNat 101]
def iw9 : List Char := [Char.ofNat 108, Char.ofNat 111, Char.ofNat 111, Char.ofNat 112, Char.ofNat 46, Char.ofNat 101, Char.ofNat 120, Char.ofNat 97, Char.ofNat 109, Char.ofNat 112, Char.ofNat 108, Char.ofNat 101, Char.ofNat 47, Char.ofNat 99, Char.ofNat 101, Char.ofNat 108, Char.ofNat 108, Char.ofNat 99, Char.ofNat 111, Char.ofNat 108, Char.ofNat 108, Char.ofNat 101, Char.ofNat 99, Char.ofNat 116, Char.ofNat 111, Char.ofNat 114, Char.ofNat 47, Char.ofNat 108, Char.ofNat 97, Char.ofNat 119, Char.ofNat 115, Char.ofNat 46, Char.ofNat 70, Char.ofNat 110, Char.ofNat 69, Char.ofNat 110, Char.ofNat 100, Char.ofNat 66, Char.ofNat 97, Char.ofNat 114, Char.ofNat 114, Char.ofNat 105, Char.ofNat 101, Char.ofNat 114]
def iw10 : List Char := [Char.ofNat 108, Char.ofNat 111, Char.ofNat 111, Char.ofNat 112, Char.ofNat 46, Char.ofNat 101, Char.ofNat 120, Char.ofNat 97, Char.ofNat 109, Char.ofNat 112, Char.ofNat 108, Char.ofNat 101, Char.ofNat 47, Char.ofNat 99, Char.ofNat 101, Char.ofNat 108, Char.ofNat 108, Char.ofNat 99, Char.ofNat 111, Char.ofNat 108, Char.ofNat 108, Char.ofNat 101, Char.ofNat 99, Char.ofNat 116, Char.ofNat 111, Char.ofNat 114, Char.ofNat 47, Char.ofNat 108, Char.ofNat 97, Char.ofNat 119, Char.ofNat 115, Char.ofNat 46, Char.ofNat 70, Char.ofNat 110, Char.ofNat 69, Char.ofNat 110, Char.ofNat 100, Char.ofNat 82, Char.ofNat 117, Char.ofNat 110]
theorem ws_app : ∀ (w r : List Char), (w.all fun c => c != Char.ofNat 32) = true → wordsSigns (w ++ Char.ofNat 32 :: r) = w :: wordsSigns r
  | [], r, _ => rfl
  | c :: w, r, h => by
    simp only [List.all_cons, Bool.and_eq_true, bne_iff_ne] at h
    have ih := ws_app w r h.2
    rw [List.cons_append, wordsSigns, ih]
    exact h.1
theorem ws_end : ∀ (w : List Char), (w.all fun c => c != Char.ofNat 32) = true → wordsSigns w = [w]
  | [], _ => rfl
  | c :: w, h => by
    simp only [List.all_cons, Bool.and_eq_true, bne_iff_ne] at h
    have ih := ws_end w h.2
    rw [wordsSigns, ih]
    exact h.1
def initL : List Char := (iw0 ++ Char.ofNat 32 :: (iw1 ++ Char.ofNat 32 :: (iw2 ++ Char.ofNat 32 :: (iw3 ++ Char.ofNat 32 :: (iw4 ++ Char.ofNat 32 :: (iw5 ++ Char.ofNat 32 :: (iw6 ++ Char.ofNat 32 :: (iw7 ++ Char.ofNat 32 :: (iw8 ++ Char.ofNat 32 :: (iw9 ++ Char.ofNat 32 :: iw10))))))))))
theorem initE : Tryz.prog.initOrder = String.ofList initL := by kernel_rfl
theorem initT : Tryz.prog.initOrder.toList = initL := by rw [initE, String.toList_ofList]
theorem initW : wordsSigns initL = [iw0, iw1, iw2, iw3, iw4, iw5, iw6, iw7, iw8, iw9, iw10] := ((ws_app iw0 _ (by kernel_rfl)).trans (congrArg (iw0 :: ·) ((ws_app iw1 _ (by kernel_rfl)).trans (congrArg (iw1 :: ·) ((ws_app iw2 _ (by kernel_rfl)).trans (congrArg (iw2 :: ·) ((ws_app iw3 _ (by kernel_rfl)).trans (congrArg (iw3 :: ·) ((ws_app iw4 _ (by kernel_rfl)).trans (congrArg (iw4 :: ·) ((ws_app iw5 _ (by kernel_rfl)).trans (congrArg (iw5 :: ·) ((ws_app iw6 _ (by kernel_rfl)).trans (congrArg (iw6 :: ·) ((ws_app iw7 _ (by kernel_rfl)).trans (congrArg (iw7 :: ·) ((ws_app iw8 _ (by kernel_rfl)).trans (congrArg (iw8 :: ·) ((ws_app iw9 _ (by kernel_rfl)).trans (congrArg (iw9 :: ·) (ws_end iw10 (by kernel_rfl))))))))))))))))))))))
theorem initB : behindMainWord [iw0, iw1, iw2, iw3, iw4, iw5, iw6, iw7, iw8, iw9, iw10] = [iw2, iw3, iw4, iw5, iw6, iw7, iw8, iw9, iw10] := by kernel_rfl
theorem initS : stripLifts liftWords [iw2, iw3, iw4, iw5, iw6, iw7, iw8, iw9, iw10] = ([], [iw2, iw3, iw4, iw5, iw6, iw7, iw8, iw9, iw10]) := by kernel_rfl
theorem may_of (P : Program) (c : List Char) (rest : List (List Char)) (h : behindMainWord (wordsSigns P.initOrder.toList) = c :: rest) (hs : stripLifts liftWords (c :: rest) = ([], c :: rest)) (hc : c = "cut".toList) (hl : P.laysLater = false) (hr : P.bearsReflect = false) (hd : P.doorFits [] = true) : P.mayEnter = true := by
  unfold Program.mayEnter
  rw [h]
  dsimp only
  rw [hs]
  dsimp only
  rw [hd, hl, hr, hc]
  simp
theorem lift_of (P : Program) (c : List Char) (rest : List (List Char)) (h : behindMainWord (wordsSigns P.initOrder.toList) = c :: rest) (hs : stripLifts liftWords (c :: rest) = ([], c :: rest)) (hn : (some c == some "carried".toList) = false) : P.liftsFinal = false := by
  have hh : P.headLifts = [] := by
    unfold Program.headLifts
    rw [h, hs]
    show (if _ then ([] : List String) else []) = []
    split <;> rfl
  unfold Program.liftsFinal
  rw [h, hh]
  simp only [List.head?_cons, hn]
  simp
theorem make_of (P : Program) (c : List Char) (rest : List (List Char)) (h : behindMainWord (wordsSigns P.initOrder.toList) = c :: rest) (h1 : (c == "gc".toList || c == "spec".toList) = false) (h2 : (c == "cut".toList) = true) : P.make = some .cut := by
  unfold Program.make
  rw [h]
  dsimp only
  rw [h1, h2]
  simp
theorem initH : behindMainWord (wordsSigns Tryz.prog.initOrder.toList) = [iw2, iw3, iw4, iw5, iw6, iw7, iw8, iw9, iw10] := by rw [initT, initW, initB]
theorem may : Tryz.prog.mayEnter = true := may_of _ iw2 _ initH initS (by kernel_rfl) (by kernel_rfl) (by kernel_rfl) (by kernel_rfl)
theorem lift : Tryz.prog.liftsFinal = false := lift_of _ iw2 _ initH initS (by kernel_rfl)
theorem made : Tryz.prog.make = some .cut := make_of _ iw2 _ initH (by kernel_rfl) (by kernel_rfl)
theorem closed : joinedFacts Tryz.prog 6 Tryz.f6 Rows.fnExactEndStoresSpec Rows.fnExactEndStoresRow = true := by
  unfold joinedFacts
  rw [may, lift, made]
  kernel_rfl
theorem over : Rows.fnExactEndStoresRow.holds Tryz.pinned (OpenSpec.ofChange Rows.fnExactEndStoresSpec) :=
  OpenClaim.holds_of_wide 6 Tryz.f6 rfl rfl rfl rfl rfl rfl rfl ⟨rfl, rfl, rfl, rfl, rfl⟩ rfl rfl rfl rfl rfl (by kernel_rfl) Tryz.func6 closed
    (of_decide_eq_true (by kernel_rfl)) (by unfold Func.isWrapper; first | (rw [if_pos (by decide +kernel)]; kernel_rfl) | (rw [if_neg (by decide +kernel)]; exact ⟨rfl, rfl⟩))
    (fun os started H enc _ => lifted os started H enc)
theorem proved : Rows.FnExactEndStoresSaid := over
end Go.Proofs.YtheldhohhpoloaaGreatDoor.fnExactEndStores
namespace Go.Proofs.YtheldhohhpoloaaGreatDoor
/-- The tied card, under a short name, for the claim. -/
theorem fnExactEndStores_holds : Rows.FnExactEndStoresCardSaid :=
  Claim7.holds_tied_plain_at .later [] [.data, .data, .data] true (true, "0e3dd5b472c7855fe068fc0293e7581ac6e02c6bbb0cbdd40c4f424ce82e240e") false fnExactEndStores.proved (fun _ h => by cases h) (by kernel_rfl) (fun _ h => by cases h) fnExactEndStores_row_tie rfl ⟨rfl, rfl⟩ (by kernel_rfl) rfl
    (fun f fn hf hfn => by
      obtain rfl : f = 6 := Option.some.inj ((show Tryz.prog.funcNamed "loop.example/cellcollector/laws.FnExactEndStores" = some 6 by kernel_rfl).symm.trans hf) |>.symm
      obtain rfl : fn = Tryz.f6 := (Option.some.inj (Tryz.func6.symm.trans hfn)).symm
      exact ⟨by kernel_rfl, fun j t ht => by
        rw [Tryz.params6] at ht
        have hm : t ∈ [54, 4] := by simpa using Array.mem_of_getElem? ht
        have hall : ([54, 4].all fun u => !Tryz.prog.wantsStandIn u) = true := by kernel_rfl
        exact (show Tryz.prog.wantsStandIn t = false by simpa using List.all_eq_true.1 hall t hm)⟩)
    (by kernel_rfl)
#print axioms fnExactEndStores_holds
end Go.Proofs.YtheldhohhpoloaaGreatDoor
