/-
  What is proved here: the row of the law FnDropLive: whatever the input, it returns true and leaves its arguments as they were. No condition.
-/
import Derived.Test.YtljnohoaeecjcaaRows
import Derived.Test.YtljnohoaeecjcaaT15
import Derived.Test.YtljnohoaeecjcaaPAFnDropLive
import Derived.Test.YtljnohoaeecjcaaGSFnDropLive
import Derived.WalkKit
import Derived.ProofKit
import Derived.OpenShut
import Derived.ShutString
import Derived.ChangeOld
import Derived.Below
import Derived.SizedLaws
namespace Go.Proofs.Ytljnohoaeecjcaa.fnDropLive
open Go.ChangeShapes Go.WideShapes Go.ChangeAt Go.RowKit Go.Ab
set_option linter.unusedVariables false
theorem own : ownKnob Try.prog.godebug = none := by kernel_rfl
theorem laidOut : laidOutB Try.prog = true := by kernel_rfl
set_option maxRecDepth 100000 in
theorem lifted (os : Os) (started : os.Started) (H : Type) (enc : TypeId × Value → H) :
    ReturnsInHanded {} Try.checked os 3 .any (Rows.fnDropLiveSpec.pre6 enc Try.prog Try.f3 Rows.fnDropLiveRow.domain false) (Rows.fnDropLiveSpec.post enc Try.prog Try.f3 false true false false) := by
  refine returnsInHanded_of_change_sized (C := Try.checked) own started (by kernel_rfl) Try.func3
    (ChangeSpec.witness6 (enc := enc) (C := Try.checked) false ⟨#[], #[.slice none 0 0], []⟩ 8 (by kernel_rfl) (by kernel_rfl) (by kernel_rfl) (by kernel_rfl)) ?_
  intro W base args ds gs before hval0 hW hcnd hsz0 _
  have hval : ∀ (j : Nat) t v, Try.f3.params[j]? = some t → args[j]? = some v → Value.okWide Try.prog W .any base t v := hval0
  have hW' := hW
  obtain ⟨p, q, hA0, hV, rfl, hfz, hnd⟩ := hW
  have hA : DataW.TrodAll enc Try.prog W 0 (fun _ => true) true Try.f3.params.toList args.toList ds p := hA0
  rw [Try.params3] at hA hval
  obtain ⟨v0, vs0, d0, ds0, p0, q0, hargs, rfl, rfl, h0, r0⟩ := trodAll_cons hA
  obtain ⟨rfl, rfl, rfl⟩ := trodAll_nil r0
  obtain rfl : args = #[v0] := by cases args; simp_all
  obtain ⟨rfl, rfl⟩ := trodVars_none hV
  have O0 := op0_empty W
  obtain ⟨ad0, len0, cap0, rfl⟩ := okWide_slice Try.underlying22 (hval 0 22 v0 rfl rfl)
  have k0 := h0
  have lt0 : ∀ x ∈ p0, x.block < W.heap.size := by obtain ⟨m, hm⟩ := k0; exact DataW.trod_lt m _ _ _ hm
  obtain ⟨fu0, hf0⟩ := h0
  obtain ⟨xx1, m1, b1, z0, O1, e1, l1, L0, V0, ⟨hx2, wx3⟩⟩ := (opens_bytes Try.underlying22 Try.underlying5 (by kernel_rfl)) _ enc W Mem.empty (fun _ => none) fu0 _ _ O0 hf0
  obtain ⟨c0, rfl, Q0⟩ := one_of L0
  clear hA0 hval0 hsz0
  have hK : Ml_FnDropLive xx1 (fun r1 => TV.bool r1 = TV.bool true) := by apply law_FnDropLive <;> first | assumption | rfl
  obtain ⟨MM, hMM⟩ : ∃ M, M = @Ml_FnDropLive := ⟨_, rfl⟩
  rw [← hMM] at hK
  have hL := (lv_cons (lv_get V0) (lv_nil _))
  obtain ⟨m', hd⟩ := law_true s3 O1 hL (show B3 (xx1, ()) (fun r _ => r = TV.bool true) from (by unfold B3; rw [← hMM]; exact hK))
  clear hMM hK hL
  refine (hd.2.2 b1 W _ ((LRel.nil b1).push (Q0)) O1.sim (op0_free O1)).mono fun e W' ⟨cv, β', he, hr, hp⟩ => ?_
  subst he
  cases back_bool hr
  have bel := hp.below
  exact ⟨_, rfl, _, _, _, [], _, [], hW', trodAll_mk1 (shut_bool Try.underlying4 _), (trodAll_cons_mk (Below.trod laidOut (by kernel_rfl) (of_decide_eq_true (by kernel_rfl)) k0 bel lt0) trodAll_mk0), rfl, bel.frame _, fun h => by cases h⟩
def iw0 : List Char := [Char.ofNat 104, Char.ofNat 97, Char.ofNat 114, Char.ofNat 110, Char.ofNat 101, Char.ofNat 115, Char.ofNat 115]
def iw1 : List Char := [Char.ofNat 99, Char.ofNat 97, Char.ofNat 49, Char.ofNat 54, Char.ofNat 56, Char.ofNat 57, Char.ofNat 49, Char.ofNat 52, Char.ofNat 52, Char.ofNat 56, Char.ofNat 53, Char.ofNat 50, Char.ofNat 98, Char.ofNat 55, Char.ofNat 54, Char.ofNat 49, Char.ofNat 53, Char.ofNat 51, Char.ofNat 52, Char.ofNat 99, Char.ofNat 98, Char.ofNat 54, Char.ofNat 56, Char.ofNat 48, Char.ofNat 52, Char.ofNat 55, Char.ofNat 55, Char.ofNat 54, Char.ofNat 57, Char.ofNat 53, Char.ofNat 57, Char.ofNat 99, Char.ofNat 98, Char.ofNat 53, Char.ofNat 55, Char.ofNat 102, Char.ofNat 102, Char.ofNat 55, Char.ofNat 101, Char.ofNat 49, Char.ofNat 57, Char.ofNat 102, Char.ofNat 97, Char.ofNat 48, Char.ofNat 102, Char.ofNat 48, Char.ofNat 100, Char.ofNat 49, Char.ofNat 97, Char.ofNat 49, Char.ofNat 54, Char.ofNat 97, Char.ofNat 48, Char.ofNat 102, Char.ofNat 48, Char.ofNat 52, Char.ofNat 99, Char.ofNat 53, Char.ofNat 101, Char.ofNat 53, Char.ofNat 50, Char.ofNat 51, Char.ofNat 57, Char.ofNat 50]
def iw2 : List Char := [Char.ofNat 99, Char.ofNat 117, Char.ofNat 116]
def iw3 : List Char := [Char.ofNat 97, Char.ofNat 116]
def iw4 : List Char := [Char.ofNat 108, Char.ofNat 111, Char.ofNat 111, Char.ofNat 112, Char.ofNat 46, Char.ofNat 101, Char.ofNat 120, Char.ofNat 97, Char.ofNat 109, Char.ofNat 112, Char.ofNat 108, Char.ofNat 101, Char.ofNat 47, Char.ofNat 99, Char.ofNat 101, Char.ofNat 108, Char.ofNat 108, Char.ofNat 99, Char.ofNat 111, Char.ofNat 108, Char.ofNat 108, Char.ofNat 101, Char.ofNat 99, Char.ofNat 116, Char.ofNat 111, Char.ofNat 114, Char.ofNat 47, Char.ofNat 108, Char.ofNat 97, Char.ofNat 119, Char.ofNat 115, Char.ofNat 46, Char.ofNat 70, Char.ofNat 110, Char.ofNat 68, Char.ofNat 114, Char.ofNat 111, Char.ofNat 112, Char.ofNat 76, Char.ofNat 105, Char.ofNat 118, Char.ofNat 101]
theorem ws_app : ∀ (w r : List Char), (w.all fun c => c != Char.ofNat 32) = true → wordsSigns (w ++ Char.ofNat 32 :: r) = w :: wordsSigns r
  | [], r, _ => rfl
  | c :: w, r, h => by
    simp only [List.all_cons, Bool.and_eq_true, bne_iff_ne] at h
    have ih := ws_app w r h.2
    rw [List.cons_append, wordsSigns, ih]
    exact h.1
theorem ws_end : ∀ (w : List Char), (w.all fun c => c != Char.ofNat 32) = true → wordsSigns w = [w]
  | [], _ => rfl
  | c :: w, h => by
    simp only [List.all_cons, Bool.and_eq_true, bne_iff_ne] at h
    have ih := ws_end w h.2
    rw [wordsSigns, ih]
    exact h.1
def initL : List Char := (iw0 ++ Char.ofNat 32 :: (iw1 ++ Char.ofNat 32 :: (iw2 ++ Char.ofNat 32 :: (iw3 ++ Char.ofNat 32 :: iw4))))
theorem initE : Try.prog.initOrder = String.ofList initL := by kernel_rfl
theorem initT : Try.prog.initOrder.toList = initL := by rw [initE, String.toList_ofList]
theorem initW : wordsSigns initL = [iw0, iw1, iw2, iw3, iw4] := ((ws_app iw0 _ (by kernel_rfl)).trans (congrArg (iw0 :: ·) ((ws_app iw1 _ (by kernel_rfl)).trans (congrArg (iw1 :: ·) ((ws_app iw2 _ (by kernel_rfl)).trans (congrArg (iw2 :: ·) ((ws_app iw3 _ (by kernel_rfl)).trans (congrArg (iw3 :: ·) (ws_end iw4 (by kernel_rfl))))))))))
theorem initB : behindMainWord [iw0, iw1, iw2, iw3, iw4] = [iw2, iw3, iw4] := by kernel_rfl
theorem initS : stripLifts liftWords [iw2, iw3, iw4] = ([], [iw2, iw3, iw4]) := by kernel_rfl
theorem may_of (P : Program) (c : List Char) (rest : List (List Char)) (h : behindMainWord (wordsSigns P.initOrder.toList) = c :: rest) (hs : stripLifts liftWords (c :: rest) = ([], c :: rest)) (hc : c = "cut".toList) (hl : P.laysLater = false) (hr : P.bearsReflect = false) (hd : P.doorFits [] = true) : P.mayEnter = true := by
  unfold Program.mayEnter
  rw [h]
  dsimp only
  rw [hs]
  dsimp only
  rw [hd, hl, hr, hc]
  simp
theorem lift_of (P : Program) (c : List Char) (rest : List (List Char)) (h : behindMainWord (wordsSigns P.initOrder.toList) = c :: rest) (hs : stripLifts liftWords (c :: rest) = ([], c :: rest)) (hn : (some c == some "carried".toList) = false) : P.liftsFinal = false := by
  have hh : P.headLifts = [] := by
    unfold Program.headLifts
    rw [h, hs]
    show (if _ then ([] : List String) else []) = []
    split <;> rfl
  unfold Program.liftsFinal
  rw [h, hh]
  simp only [List.head?_cons, hn]
  simp
theorem make_of (P : Program) (c : List Char) (rest : List (List Char)) (h : behindMainWord (wordsSigns P.initOrder.toList) = c :: rest) (h1 : (c == "gc".toList || c == "spec".toList) = false) (h2 : (c == "cut".toList) = true) : P.make = some .cut := by
  unfold Program.make
  rw [h]
  dsimp only
  rw [h1, h2]
  simp
theorem initH : behindMainWord (wordsSigns Try.prog.initOrder.toList) = [iw2, iw3, iw4] := by rw [initT, initW, initB]
theorem may : Try.prog.mayEnter = true := may_of _ iw2 _ initH initS (by kernel_rfl) (by kernel_rfl) (by kernel_rfl) (by kernel_rfl)
theorem lift : Try.prog.liftsFinal = false := lift_of _ iw2 _ initH initS (by kernel_rfl)
theorem made : Try.prog.make = some .cut := make_of _ iw2 _ initH (by kernel_rfl) (by kernel_rfl)
theorem closed : joinedFacts Try.prog 3 Try.f3 Rows.fnDropLiveSpec Rows.fnDropLiveRow = true := by
  unfold joinedFacts
  rw [may, lift, made]
  kernel_rfl
theorem over : Rows.fnDropLiveRow.holds Try.pinned (OpenSpec.ofChange Rows.fnDropLiveSpec) :=
  OpenClaim.holds_of_wide 3 Try.f3 rfl rfl rfl rfl rfl rfl rfl ⟨rfl, rfl, rfl, rfl, rfl⟩ rfl rfl rfl rfl rfl (by kernel_rfl) Try.func3 closed
    (of_decide_eq_true (by kernel_rfl)) (by unfold Func.isWrapper; first | (rw [if_pos (by decide +kernel)]; kernel_rfl) | (rw [if_neg (by decide +kernel)]; exact ⟨rfl, rfl⟩))
    (fun os started H enc _ => lifted os started H enc)
theorem proved : Rows.FnDropLiveSaid := over
end Go.Proofs.Ytljnohoaeecjcaa.fnDropLive
namespace Go.Proofs.Ytljnohoaeecjcaa
/-- The row, under a short name, for the claim. -/
theorem fnDropLive_holds : Rows.FnDropLiveSaid := fnDropLive.proved
#print axioms fnDropLive_holds
end Go.Proofs.Ytljnohoaeecjcaa
