/-
  What is proved here: the row of the law FnExactCopyHeap: whatever the input, it returns true and leaves its arguments as they were. No condition.
-/
import Derived.Test.YtldakbacfokohaaRows
import Derived.Test.YtldakbacfokohaaT15
import Derived.Test.YtldakbacfokohaaPAFnExactCopyHeap
import Derived.Test.YtldakbacfokohaaGSFnExactCopyHeap
import Derived.WalkKit
import Derived.ProofKit
import Derived.OpenShut
import Derived.ShutString
import Derived.ChangeOld
import Derived.Below
import Derived.SizedLaws
namespace Go.Proofs.Ytldakbacfokohaa.fnExactCopyHeap
open Go.ChangeShapes Go.WideShapes Go.ChangeAt Go.RowKit Go.Ab
set_option linter.unusedVariables false
theorem own : ownKnob Try.prog.godebug = none := by kernel_rfl
theorem laidOut : laidOutB Try.prog = true := by kernel_rfl
set_option maxRecDepth 100000 in
theorem lifted (os : Os) (started : os.Started) (H : Type) (enc : TypeId × Value → H) :
    ReturnsInHanded {} Try.checked os 7 .any (Rows.fnExactCopyHeapSpec.pre6 enc Try.prog Try.f7 Rows.fnExactCopyHeapRow.domain false) (Rows.fnExactCopyHeapSpec.post enc Try.prog Try.f7 false true false false) := by
  refine returnsInHanded_of_change_sized (C := Try.checked) own started (by kernel_rfl) Try.func7
    (ChangeSpec.witness6 (enc := enc) (C := Try.checked) false ⟨#[], #[.agg #[.slice none 0 0, .slice none 0 0, .slice none 0 0]], []⟩ 8 (by kernel_rfl) (by kernel_rfl) (by kernel_rfl) (by kernel_rfl)) ?_
  intro W base args ds gs before hval0 hW hcnd hsz0 _
  have hval : ∀ (j : Nat) t v, Try.f7.params[j]? = some t → args[j]? = some v → Value.okWide Try.prog W .any base t v := hval0
  have hW' := hW
  obtain ⟨p, q, hA0, hV, rfl, hfz, hnd⟩ := hW
  have hA : DataW.TrodAll enc Try.prog W 0 (fun _ => true) true Try.f7.params.toList args.toList ds p := hA0
  rw [Try.params7] at hA hval
  obtain ⟨v0, vs0, d0, ds0, p0, q0, hargs, rfl, rfl, h0, r0⟩ := trodAll_cons hA
  obtain ⟨rfl, rfl, rfl⟩ := trodAll_nil r0
  obtain rfl : args = #[v0] := by cases args; simp_all
  obtain ⟨rfl, rfl⟩ := trodVars_none hV
  have O0 := op0_empty W
  obtain ⟨us0, rfl⟩ := okW_struct Try.underlying24 (hval 0 24 v0 rfl rfl)
  have k0 := h0
  have lt0 : ∀ x ∈ p0, x.block < W.heap.size := by obtain ⟨m, hm⟩ := k0; exact DataW.trod_lt m _ _ _ hm
  obtain ⟨fu0, hf0⟩ := h0
  obtain ⟨⟨xx1, xx4, xx7, _⟩, m1, b1, z0, O1, e1, l1, L0, V0, ⟨⟨hx2, wx3⟩, ⟨hx5, wx6⟩, ⟨hx8, wx9⟩, _⟩⟩ := (opens_struct Try.underlying24 (opensF_cons (by kernel_rfl) (opens_ints Try.underlying22 Try.underlying3 (by kernel_rfl)) (opensF_cons (by kernel_rfl) (opens_ints Try.underlying22 Try.underlying3 (by kernel_rfl)) (opensF_cons (by kernel_rfl) (opens_ints Try.underlying22 Try.underlying3 (by kernel_rfl)) (opensF_nil (by kernel_rfl)))))) _ enc W Mem.empty (fun _ => none) fu0 _ _ O0 hf0
  clear hA0 hval0 hsz0
  have hK : Ml_FnExactCopyHeap xx1 xx4 xx7 (fun r1 => TV.bool r1 = TV.bool true) := by apply law_FnExactCopyHeap <;> first | assumption | rfl
  obtain ⟨MM, hMM⟩ : ∃ M, M = @Ml_FnExactCopyHeap := ⟨_, rfl⟩
  rw [← hMM] at hK
  have hL := (lv_cons (rv_struct V0) (lv_nil _))
  obtain ⟨m', hd⟩ := law_true s7 O1 hL (by unfold G7; rw [← hMM]; exact hK)
  clear hMM hK hL
  refine (hd.2.2 b1 W _ ((LRel.nil b1).push (arg_struct L0)) O1.sim (op0_free O1)).mono fun e W' ⟨cv, β', he, hr, hp⟩ => ?_
  subst he
  cases back_bool hr
  have bel := hp.below
  exact ⟨_, rfl, _, _, _, [], _, [], hW', trodAll_mk1 (shut_bool Try.underlying4 _), (trodAll_cons_mk (Below.trod laidOut (by kernel_rfl) (of_decide_eq_true (by kernel_rfl)) k0 bel lt0) trodAll_mk0), rfl, bel.frame _, fun h => by cases h⟩
def iw0 : List Char := [Char.ofNat 104, Char.ofNat 97, Char.ofNat 114, Char.ofNat 110, Char.ofNat 101, Char.ofNat 115, Char.ofNat 115]
def iw1 : List Char := [Char.ofNat 98, Char.ofNat 50, Char.ofNat 98, Char.ofNat 53, Char.ofNat 102, Char.ofNat 49, Char.ofNat 100, Char.ofNat 54, Char.ofNat 55, Char.ofNat 54, Char.ofNat 102, Char.ofNat 52, Char.ofNat 101, Char.ofNat 51, Char.ofNat 56, Char.ofNat 57, Char.ofNat 99, Char.ofNat 101, Char.ofNat 56, Char.ofNat 100, Char.ofNat 50, Char.ofNat 56, Char.ofNat 100, Char.ofNat 52, Char.ofNat 100, Char.ofNat 51, Char.ofNat 53, Char.ofNat 54, Char.ofNat 53, Char.ofNat 57, Char.ofNat 55, Char.ofNat 51, Char.ofNat 56, Char.ofNat 50, Char.ofNat 57, Char.ofNat 51, Char.ofNat 48, Char.ofNat 50, Char.ofNat 51, Char.ofNat 53, Char.ofNat 55, Char.ofNat 56, Char.ofNat 53, Char.ofNat 99, Char.ofNat 51, Char.ofNat 102, Char.ofNat 97, Char.ofNat 49, Char.ofNat 97, Char.ofNat 98, Char.ofNat 48, Char.ofNat 53, Char.ofNat 56, Char.ofNat 102, Char.ofNat 48, Char.ofNat 53, Char.ofNat 99, Char.ofNat 99, Char.ofNat 52, Char.ofNat 100, Char.ofNat 54, Char.ofNat 101, Char.ofNat 52, Char.ofNat 53]
def iw2 : List Char := [Char.ofNat 99, Char.ofNat 117, Char.ofNat 116]
def iw3 : List Char := [Char.ofNat 97, Char.ofNat 116]
def iw4 : List Char := [Char.ofNat 108, Char.ofNat 111, Char.ofNat 111, Char.ofNat 112, Char.ofNat 46, Char.ofNat 101, Char.ofNat 120, Char.ofNat 97, Char.ofNat 109, Char.ofNat 112, Char.ofNat 108, Char.ofNat 101, Char.ofNat 47, Char.ofNat 99, Char.ofNat 101, Char.ofNat 108, Char.ofNat 108, Char.ofNat 99, Char.ofNat 111, Char.ofNat 108, Char.ofNat 108, Char.ofNat 101, Char.ofNat 99, Char.ofNat 116, Char.ofNat 111, Char.ofNat 114, Char.ofNat 47, Char.ofNat 108, Char.ofNat 97, Char.ofNat 119, Char.ofNat 115, Char.ofNat 46, Char.ofNat 70, Char.ofNat 110, Char.ofNat 69, Char.ofNat 120, Char.ofNat 97, Char.ofNat 99, Char.ofNat 116, Char.ofNat 77, Char.ofNat 111, Char.ofNat 118, Char.ofNat 101, Char.ofNat 67, Char.ofNat 101, Char.ofNat 108, Char.ofNat 108, Char.ofNat 115]
def iw5 : List Char := [Char.ofNat 108, Char.ofNat 111, Char.ofNat 111, Char.ofNat 112, Char.ofNat 46, Char.ofNat 101, Char.ofNat 120, Char.ofNat 97, Char.ofNat 109, Char.ofNat 112, Char.ofNat 108, Char.ofNat 101, Char.ofNat 47, Char.ofNat 99, Char.ofNat 101, Char.ofNat 108, Char.ofNat 108, Char.ofNat 99, Char.ofNat 111, Char.ofNat 108, Char.ofNat 108, Char.ofNat 101, Char.ofNat 99, Char.ofNat 116, Char.ofNat 111, Char.ofNat 114, Char.ofNat 47, Char.ofNat 108, Char.ofNat 97, Char.ofNat 119, Char.ofNat 115, Char.ofNat 46, Char.ofNat 70, Char.ofNat 110, Char.ofNat 77, Char.ofNat 111, Char.ofNat 118, Char.ofNat 101, Char.ofNat 79, Char.ofNat 114, Char.ofNat 100, Char.ofNat 101, Char.ofNat 114]
def iw6 : List Char := [Char.ofNat 108, Char.ofNat 111, Char.ofNat 111, Char.ofNat 112, Char.ofNat 46, Char.ofNat 101, Char.ofNat 120, Char.ofNat 97, Char.ofNat 109, Char.ofNat 112, Char.ofNat 108, Char.ofNat 101, Char.ofNat 47, Char.ofNat 99, Char.ofNat 101, Char.ofNat 108, Char.ofNat 108, Char.ofNat 99, Char.ofNat 111, Char.ofNat 108, Char.ofNat 108, Char.ofNat 101, Char.ofNat 99, Char.ofNat 116, Char.ofNat 111, Char.ofNat 114, Char.ofNat 47, Char.ofNat 108, Char.ofNat 97, Char.ofNat 119, Char.ofNat 115, Char.ofNat 46, Char.ofNat 70, Char.ofNat 110, Char.ofNat 67, Char.ofNat 111, Char.ofNat 112, Char.ofNat 121, Char.ofNat 79, Char.ofNat 114, Char.ofNat 100, Char.ofNat 101, Char.ofNat 114]
def iw7 : List Char := [Char.ofNat 108, Char.ofNat 111, Char.ofNat 111, Char.ofNat 112, Char.ofNat 46, Char.ofNat 101, Char.ofNat 120, Char.ofNat 97, Char.ofNat 109, Char.ofNat 112, Char.ofNat 108, Char.ofNat 101, Char.ofNat 47, Char.ofNat 99, Char.ofNat 101, Char.ofNat 108, Char.ofNat 108, Char.ofNat 99, Char.ofNat 111, Char.ofNat 108, Char.ofNat 108, Char.ofNat 101, Char.ofNat 99, Char.ofNat 116, Char.ofNat 111, Char.ofNat 114, Char.ofNat 47, Char.ofNat 108, Char.ofNat 97, Char.ofNat 119, Char.ofNat 115, Char.ofNat 46, Char.ofNat 70, Char.ofNat 110, Char.ofNat 77, Char.ofNat 111, Char.ofNat 118, Char.ofNat 101, Char.ofNat 76, Char.ofNat 105, Char.ofNat 118, Char.ofNat 101]
def iw8 : List Char := [Char.ofNat 108, Char.ofNat 111, Char.ofNat 111, Char.ofNat 112, Char.ofNat 46, Char.ofNat 101, Char.ofNat 120, Char.ofNat 97, Char.ofNat 109, Char.ofNat 112, Char.ofNat 108, Char.ofNat 101, Char.ofNat 47, Char.ofNat 99, Char.ofNat 101, Char.ofNat 108, Char.ofNat 108, Char.ofNat 99, Char.ofNat 111, Char.ofNat 108, Char.ofNat 108, Char.ofNat 101, Char.ofNat 99, Char.ofNat 116, Char.ofNat 111, Char.ofNat 114, Char.ofNat 47, Char.ofNat 108, Char.ofNat 97, Char.ofNat 119, Char.ofNat 115, Char.ofNat 46, Char.ofNat 70, Char.ofNat 110, Char.ofNat 69, Char.ofNat 120, Char.ofNat 97, Char.ofNat 99, Char.ofNat 116, Char.ofNat 67, Char.ofNat 111, Char.ofNat 112, Char.ofNat 121, Char.ofNat 72, Char.ofNat 101, Char.ofNat 97, Char.ofNat 112]
def iw9 : List Char := [Char.ofNat 108, Char.ofNat 111, Char.ofNat 111, Char.ofNat 112, Char.ofNat 46, Char.ofNat 101, Char.ofNat 120, Char.ofNat 97, Char.ofNat 109, Char.ofNat 112, Char.ofNat 108, Char.ofNat 101, Char.ofNat 47, Char.ofNat 99, Char.ofNat 101, Char.ofNat 108, Char.ofNat 108, Char.ofNat 99, Char.ofNat 111, Char.ofNat 108, Char.ofNat 108, Char.ofNat 101, Char.ofNat 99, Char.ofNat 116, Char.ofNat 111, Char.ofNat 114, Char.ofNat 47, Char.ofNat 108, Char.ofNat 97, Char.ofNat 119, Char.ofNat 115, Char.ofNat 46, Char.ofNat 70, Char.ofNat 110, Char.ofNat 69, Char.ofNat 120, Char.ofNat 97, Char.ofNat 99, Char.ofNat 116, Char.ofNat 72, Char.ofNat 101, Char.ofNat 97, Char.ofNat 112, Char.ofNat 115, Char.ofNat 65, Char.ofNat 108, Char.ofNat 105, Char.ofNat 107, Char.ofNat 101]
def iw10 : List Char := [Char.ofNat 108, Char.ofNat 111, Char.ofNat 111, Char.ofNat 112, Char.ofNat 46, Char.ofNat 101, Char.ofNat 120, Char.ofNat 97, Char.ofNat 109, Char.ofNat 112, Char.ofNat 108, Char.ofNat 101, Char.ofNat 47, Char.ofNat 99, Char.ofNat 101, Char.ofNat 108, Char.ofNat 108, Char.ofNat 99, Char.ofNat 111, Char.ofNat 108, Char.ofNat 108, Char.ofNat 101, Char.ofNat 99, Char.ofNat 116, Char.ofNat 111, Char.ofNat 114, Char.ofNat 47, Char.ofNat 108, Char.ofNat 97, Char.ofNat 119, Char.ofNat 115, Char.ofNat 46, Char.ofNat 70, Char.ofNat 110, Char.ofNat 67, Char.ofNat 111, Char.ofNat 112, Char.ofNat 121, Char.ofNat 87, Char.ofNat 104, Char.ofNat 101, Char.ofNat 114, Char.ofNat 101]
def iw11 : List Char := [Char.ofNat 108, Char.ofNat 111, Char.ofNat 111, Char.ofNat 112, Char.ofNat 46, Char.ofNat 101, Char.ofNat 120, Char.ofNat 97, Char.ofNat 109, Char.ofNat 112, Char.ofNat 108, Char.ofNat 101, Char.ofNat 47, Char.ofNat 99, Char.ofNat 101, Char.ofNat 108, Char.ofNat 108, Char.ofNat 99, Char.ofNat 111, Char.ofNat 108, Char.ofNat 108, Char.ofNat 101, Char.ofNat 99, Char.ofNat 116, Char.ofNat 111, Char.ofNat 114, Char.ofNat 47, Char.ofNat 108, Char.ofNat 97, Char.ofNat 119, Char.ofNat 115, Char.ofNat 46, Char.ofNat 70, Char.ofNat 110, Char.ofNat 67, Char.ofNat 111, Char.ofNat 112, Char.ofNat 121, Char.ofNat 72, Char.ofNat 101, Char.ofNat 97, Char.ofNat 112]
def iw12 : List Char := [Char.ofNat 108, Char.ofNat 111, Char.ofNat 111, Char.ofNat 112, Char.ofNat 46, Char.ofNat 101, Char.ofNat 120, Char.ofNat 97, Char.ofNat 109, Char.ofNat 112, Char.ofNat 108, Char.ofNat 101, Char.ofNat 47, Char.ofNat 99, Char.ofNat 101, Char.ofNat 108, Char.ofNat 108, Char.ofNat 99, Char.ofNat 111, Char.ofNat 108, Char.ofNat 108, Char.ofNat 101, Char.ofNat 99, Char.ofNat 116, Char.ofNat 111, Char.ofNat 114, Char.ofNat 47, Char.ofNat 108, Char.ofNat 97, Char.ofNat 119, Char.ofNat 115, Char.ofNat 46, Char.ofNat 70, Char.ofNat 110, Char.ofNat 77, Char.ofNat 111, Char.ofNat 118, Char.ofNat 101, Char.ofNat 67, Char.ofNat 101, Char.ofNat 108, Char.ofNat 108, Char.ofNat 115]
def iw13 : List Char := [Char.ofNat 108, Char.ofNat 111, Char.ofNat 111, Char.ofNat 112, Char.ofNat 46, Char.ofNat 101, Char.ofNat 120, Char.ofNat 97, Char.ofNat 109, Char.ofNat 112, Char.ofNat 108, Char.ofNat 101, Char.ofNat 47, Char.ofNat 99, Char.ofNat 101, Char.ofNat 108, Char.ofNat 108, Char.ofNat 99, Char.ofNat 111, Char.ofNat 108, Char.ofNat 108, Char.ofNat 101, Char.ofNat 99, Char.ofNat 116, Char.ofNat 111, Char.ofNat 114, Char.ofNat 47, Char.ofNat 108, Char.ofNat 97, Char.ofNat 119, Char.ofNat 115, Char.ofNat 46, Char.ofNat 70, Char.ofNat 110, Char.ofNat 72, Char.ofNat 101, Char.ofNat 97, Char.ofNat 112, Char.ofNat 115, Char.ofNat 65, Char.ofNat 108, Char.ofNat 105, Char.ofNat 107, Char.ofNat 101]
def iw14 : List Char := [Char.ofNat 108, Char.ofNat 111, Char.ofNat 111, Char.ofNat 112, Char.ofNat 46, Char.ofNat 101, Char.ofNat 120, Char.ofNat 97, Char.ofNat 109, Char.ofNat 112, Char.ofNat 108, Char.ofNat 101, Char.ofNat 47, Char.ofNat 99, Char.ofNat 101, Char.ofNat 108, Char.ofNat 108, Char.ofNat 99, Char.ofNat 111, Char.ofNat 108, Char.ofNat 108, Char.ofNat 101, Char.ofNat 99, Char.ofNat 116, Char.ofNat 111, Char.ofNat 114, Char.ofNat 47, Char.ofNat 108, Char.ofNat 97, Char.ofNat 119, Char.ofNat 115, Char.ofNat 46, Char.ofNat 70, Char.ofNat 110, Char.ofNat 67, Char.ofNat 111, Char.ofNat 112, Char.ofNat 121, Char.ofNat 67, Char.ofNat 111, Char.ofNat 117, Char.ofNat 110, Char.ofNat 116]
def iw15 : List Char := [Char.ofNat 108, Char.ofNat 111, Char.ofNat 111, Char.ofNat 112, Char.ofNat 46, Char.ofNat 101, Char.ofNat 120, Char.ofNat 97, Char.ofNat 109, Char.ofNat 112, Char.ofNat 108, Char.ofNat 101, Char.ofNat 47, Char.ofNat 99, Char.ofNat 101, Char.ofNat 108, Char.ofNat 108, Char.ofNat 99, Char.ofNat 111, Char.ofNat 108, Char.ofNat 108, Char.ofNat 101, Char.ofNat 99, Char.ofNat 116, Char.ofNat 111, Char.ofNat 114, Char.ofNat 47, Char.ofNat 108, Char.ofNat 97, Char.ofNat 119, Char.ofNat 115, Char.ofNat 46, Char.ofNat 70, Char.ofNat 110, Char.ofNat 65, Char.ofNat 108, Char.ofNat 105, Char.ofNat 107, Char.ofNat 101, Char.ofNat 67, Char.ofNat 111, Char.ofNat 112, Char.ofNat 121]
def iw16 : List Char := [Char.ofNat 108, Char.ofNat 111, Char.ofNat 111, Char.ofNat 112, Char.ofNat 46, Char.ofNat 101, Char.ofNat 120, Char.ofNat 97, Char.ofNat 109, Char.ofNat 112, Char.ofNat 108, Char.ofNat 101, Char.ofNat 47, Char.ofNat 99, Char.ofNat 101, Char.ofNat 108, Char.ofNat 108, Char.ofNat 99, Char.ofNat 111, Char.ofNat 108, Char.ofNat 108, Char.ofNat 101, Char.ofNat 99, Char.ofNat 116, Char.ofNat 111, Char.ofNat 114, Char.ofNat 47, Char.ofNat 108, Char.ofNat 97, Char.ofNat 119, Char.ofNat 115, Char.ofNat 46, Char.ofNat 70, Char.ofNat 110, Char.ofNat 83, Char.ofNat 109, Char.ofNat 97, Char.ofNat 108, Char.ofNat 108, Char.ofNat 67, Char.ofNat 111, Char.ofNat 108, Char.ofNat 108, Char.ofNat 101, Char.ofNat 99, Char.ofNat 116]
def iw17 : List Char := [Char.ofNat 108, Char.ofNat 111, Char.ofNat 111, Char.ofNat 112, Char.ofNat 46, Char.ofNat 101, Char.ofNat 120, Char.ofNat 97, Char.ofNat 109, Char.ofNat 112, Char.ofNat 108, Char.ofNat 101, Char.ofNat 47, Char.ofNat 99, Char.ofNat 101, Char.ofNat 108, Char.ofNat 108, Char.ofNat 99, Char.ofNat 111, Char.ofNat 108, Char.ofNat 108, Char.ofNat 101, Char.ofNat 99, Char.ofNat 116, Char.ofNat 111, Char.ofNat 114, Char.ofNat 47, Char.ofNat 108, Char.ofNat 97, Char.ofNat 119, Char.ofNat 115, Char.ofNat 46, Char.ofNat 70, Char.ofNat 110, Char.ofNat 68, Char.ofNat 114, Char.ofNat 111, Char.ofNat 112, Char.ofNat 76, Char.ofNat 105, Char.ofNat 118, Char.ofNat 101]
theorem ws_app : ∀ (w r : List Char), (w.all fun c => c != Char.ofNat 32) = true → wordsSigns (w ++ Char.ofNat 32 :: r) = w :: wordsSigns r
  | [], r, _ => rfl
  | c :: w, r, h => by
    simp only [List.all_cons, Bool.and_eq_true, bne_iff_ne] at h
    have ih := ws_app w r h.2
    rw [List.cons_append, wordsSigns, ih]
    exact h.1
theorem ws_end : ∀ (w : List Char), (w.all fun c => c != Char.ofNat 32) = true → wordsSigns w = [w]
  | [], _ => rfl
  | c :: w, h => by
    simp only [List.all_cons, Bool.and_eq_true, bne_iff_ne] at h
    have ih := ws_end w h.2
    rw [wordsSigns, ih]
    exact h.1
def initL : List Char := (iw0 ++ Char.ofNat 32 :: (iw1 ++ Char.ofNat 32 :: (iw2 ++ Char.ofNat 32 :: (iw3 ++ Char.ofNat 32 :: (iw4 ++ Char.ofNat 32 :: (iw5 ++ Char.ofNat 32 :: (iw6 ++ Char.ofNat 32 :: (iw7 ++ Char.ofNat 32 :: (iw8 ++ Char.ofNat 32 :: (iw9 ++ Char.ofNat 32 :: (iw10 ++ Char.ofNat 32 :: (iw11 ++ Char.ofNat 32 :: (iw12 ++ Char.ofNat 32 :: (iw13 ++ Char.ofNat 32 :: (iw14 ++ Char.ofNat 32 :: (iw15 ++ Char.ofNat 32 :: (iw16 ++ Char.ofNat 32 :: iw17)))))))))))))))))
theorem initE : Try.prog.initOrder = String.ofList initL := by kernel_rfl
theorem initT : Try.prog.initOrder.toList = initL := by rw [initE, String.toList_ofList]
theorem initW : wordsSigns initL = [iw0, iw1, iw2, iw3, iw4, iw5, iw6, iw7, iw8, iw9, iw10, iw11, iw12, iw13, iw14, iw15, iw16, iw17] := ((ws_app iw0 _ (by kernel_rfl)).trans (congrArg (iw0 :: ·) ((ws_app iw1 _ (by kernel_rfl)).trans (congrArg (iw1 :: ·) ((ws_app iw2 _ (by kernel_rfl)).trans (congrArg (iw2 :: ·) ((ws_app iw3 _ (by kernel_rfl)).trans (congrArg (iw3 :: ·) ((ws_app iw4 _ (by kernel_rfl)).trans (congrArg (iw4 :: ·) ((ws_app iw5 _ (by kernel_rfl)).trans (congrArg (iw5 :: ·) ((ws_app iw6 _ (by kernel_rfl)).trans (congrArg (iw6 :: ·) ((ws_app iw7 _ (by kernel_rfl)).trans (congrArg (iw7 :: ·) ((ws_app iw8 _ (by kernel_rfl)).trans (congrArg (iw8 :: ·) ((ws_app iw9 _ (by kernel_rfl)).trans (congrArg (iw9 :: ·) ((ws_app iw10 _ (by kernel_rfl)).trans (congrArg (iw10 :: ·) ((ws_app iw11 _ (by kernel_rfl)).trans (congrArg (iw11 :: ·) ((ws_app iw12 _ (by kernel_rfl)).trans (congrArg (iw12 :: ·) ((ws_app iw13 _ (by kernel_rfl)).trans (congrArg (iw13 :: ·) ((ws_app iw14 _ (by kernel_rfl)).trans (congrArg (iw14 :: ·) ((ws_app iw15 _ (by kernel_rfl)).trans (congrArg (iw15 :: ·) ((ws_app iw16 _ (by kernel_rfl)).trans (congrArg (iw16 :: ·) (ws_end iw17 (by kernel_rfl))))))))))))))))))))))))))))))))))))
theorem initB : behindMainWord [iw0, iw1, iw2, iw3, iw4, iw5, iw6, iw7, iw8, iw9, iw10, iw11, iw12, iw13, iw14, iw15, iw16, iw17] = [iw2, iw3, iw4, iw5, iw6, iw7, iw8, iw9, iw10, iw11, iw12, iw13, iw14, iw15, iw16, iw17] := by kernel_rfl
theorem initS : stripLifts liftWords [iw2, iw3, iw4, iw5, iw6, iw7, iw8, iw9, iw10, iw11, iw12, iw13, iw14, iw15, iw16, iw17] = ([], [iw2, iw3, iw4, iw5, iw6, iw7, iw8, iw9, iw10, iw11, iw12, iw13, iw14, iw15, iw16, iw17]) := by kernel_rfl
theorem may_of (P : Program) (c : List Char) (rest : List (List Char)) (h : behindMainWord (wordsSigns P.initOrder.toList) = c :: rest) (hs : stripLifts liftWords (c :: rest) = ([], c :: rest)) (hc : c = "cut".toList) (hl : P.laysLater = false) (hr : P.bearsReflect = false) (hd : P.doorFits [] = true) : P.mayEnter = true := by
  unfold Program.mayEnter
  rw [h]
  dsimp only
  rw [hs]
  dsimp only
  rw [hd, hl, hr, hc]
  simp
theorem lift_of (P : Program) (c : List Char) (rest : List (List Char)) (h : behindMainWord (wordsSigns P.initOrder.toList) = c :: rest) (hs : stripLifts liftWords (c :: rest) = ([], c :: rest)) (hn : (some c == some "carried".toList) = false) : P.liftsFinal = false := by
  have hh : P.headLifts = [] := by
    unfold Program.headLifts
    rw [h, hs]
    show (if _ then ([] : List String) else []) = []
    split <;> rfl
  unfold Program.liftsFinal
  rw [h, hh]
  simp only [List.head?_cons, hn]
  simp
theorem make_of (P : Program) (c : List Char) (rest : List (List Char)) (h : behindMainWord (wordsSigns P.initOrder.toList) = c :: rest) (h1 : (c == "gc".toList || c == "spec".toList) = false) (h2 : (c == "cut".toList) = true) : P.make = some .cut := by
  unfold Program.make
  rw [h]
  dsimp only
  rw [h1, h2]
  simp
theorem initH : behindMainWord (wordsSigns Try.prog.initOrder.toList) = [iw2, iw3, iw4, iw5, iw6, iw7, iw8, iw9, iw10, iw11, iw12, iw13, iw14, iw15, iw16, iw17] := by rw [initT, initW, initB]
theorem may : Try.prog.mayEnter = true := may_of _ iw2 _ initH initS (by kernel_rfl) (by kernel_rfl) (by kernel_rfl) (by kernel_rfl)
theorem lift : Try.prog.liftsFinal = false := lift_of _ iw2 _ initH initS (by kernel_rfl)
theorem made : Try.prog.make = some .cut := make_of _ iw2 _ initH (by kernel_rfl) (by kernel_rfl)
theorem closed : joinedFacts Try.prog 7 Try.f7 Rows.fnExactCopyHeapSpec Rows.fnExactCopyHeapRow = true := by
  unfold joinedFacts
  rw [may, lift, made]
  kernel_rfl
theorem over : Rows.fnExactCopyHeapRow.holds Try.pinned (OpenSpec.ofChange Rows.fnExactCopyHeapSpec) :=
  OpenClaim.holds_of_wide 7 Try.f7 rfl rfl rfl rfl rfl rfl rfl ⟨rfl, rfl, rfl, rfl, rfl⟩ rfl rfl rfl rfl rfl (by kernel_rfl) Try.func7 closed
    (of_decide_eq_true (by kernel_rfl)) (by unfold Func.isWrapper; first | (rw [if_pos (by decide +kernel)]; kernel_rfl) | (rw [if_neg (by decide +kernel)]; exact ⟨rfl, rfl⟩))
    (fun os started H enc _ => lifted os started H enc)
theorem proved : Rows.FnExactCopyHeapSaid := over
end Go.Proofs.Ytldakbacfokohaa.fnExactCopyHeap
namespace Go.Proofs.Ytldakbacfokohaa
/-- The row, under a short name, for the claim. -/
theorem fnExactCopyHeap_holds : Rows.FnExactCopyHeapSaid := fnExactCopyHeap.proved
#print axioms fnExactCopyHeap_holds
end Go.Proofs.Ytldakbacfokohaa
