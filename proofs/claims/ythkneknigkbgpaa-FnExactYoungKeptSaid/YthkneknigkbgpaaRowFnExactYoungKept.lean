/-
  What is proved here: the row of the law FnExactYoungKept: whatever the input, it returns true and leaves its arguments as they were. No condition.
-/
import Derived.Test.YthkneknigkbgpaaRows
import Derived.Test.YthkneknigkbgpaaT15
import Derived.Test.YthkneknigkbgpaaPAFnExactYoungKept
import Derived.Test.YthkneknigkbgpaaGSFnExactYoungKept
import Derived.WalkKit
import Derived.ProofKit
import Derived.OpenShut
import Derived.ShutString
import Derived.ChangeOld
import Derived.Below
import Derived.SizedLaws
namespace Go.Proofs.Ythkneknigkbgpaa.fnExactYoungKept
open Go.ChangeShapes Go.WideShapes Go.ChangeAt Go.RowKit Go.Ab
set_option linter.unusedVariables false
theorem own : ownKnob Try.prog.godebug = none := by kernel_rfl
theorem laidOut : laidOutB Try.prog = true := by kernel_rfl
set_option maxRecDepth 100000 in
theorem lifted (os : Os) (started : os.Started) (H : Type) (enc : TypeId × Value → H) :
    ReturnsInHanded {} Try.checked os 16 .any (Rows.fnExactYoungKeptSpec.pre6 enc Try.prog Try.f16 Rows.fnExactYoungKeptRow.domain false) (Rows.fnExactYoungKeptSpec.post enc Try.prog Try.f16 false true false false) := by
  refine returnsInHanded_of_change_sized (C := Try.checked) own started (by kernel_rfl) Try.func16
    (ChangeSpec.witness6 (enc := enc) (C := Try.checked) false ⟨#[], #[.agg #[.slice none 0 0, .slice none 0 0, .slice none 0 0, .slice none 0 0, .slice none 0 0]], []⟩ 8 (by kernel_rfl) (by kernel_rfl) (by kernel_rfl) (by kernel_rfl)) ?_
  intro W base args ds gs before hval0 hW hcnd hsz0 _
  have hval : ∀ (j : Nat) t v, Try.f16.params[j]? = some t → args[j]? = some v → Value.okWide Try.prog W .any base t v := hval0
  have hW' := hW
  obtain ⟨p, q, hA0, hV, rfl, hfz, hnd⟩ := hW
  have hA : DataW.TrodAll enc Try.prog W 0 (fun _ => true) true Try.f16.params.toList args.toList ds p := hA0
  rw [Try.params16] at hA hval
  obtain ⟨v0, vs0, d0, ds0, p0, q0, hargs, rfl, rfl, h0, r0⟩ := trodAll_cons hA
  obtain ⟨rfl, rfl, rfl⟩ := trodAll_nil r0
  obtain rfl : args = #[v0] := by cases args; simp_all
  obtain ⟨rfl, rfl⟩ := trodVars_none hV
  have O0 := op0_empty W
  obtain ⟨us0, rfl⟩ := okW_struct Try.underlying66 (hval 0 66 v0 rfl rfl)
  have k0 := h0
  have lt0 : ∀ x ∈ p0, x.block < W.heap.size := by obtain ⟨m, hm⟩ := k0; exact DataW.trod_lt m _ _ _ hm
  obtain ⟨fu0, hf0⟩ := h0
  obtain ⟨⟨⟨xx1, xx4, xx7, _⟩, xx10, xx13, _⟩, m1, b1, z0, O1, e1, l1, L0, V0, ⟨⟨⟨hx2, wx3⟩, ⟨hx5, wx6⟩, ⟨hx8, wx9⟩, _⟩, ⟨hx11, wx12⟩, ⟨hx14, wx15⟩, _⟩⟩ := (opens_struct Try.underlying66 (opensF_cons (by kernel_rfl) (opens_struct Try.underlying46 (opensF_cons (by kernel_rfl) (opens_ints Try.underlying23 Try.underlying3 (by kernel_rfl)) (opensF_cons (by kernel_rfl) (opens_ints Try.underlying23 Try.underlying3 (by kernel_rfl)) (opensF_cons (by kernel_rfl) (opens_ints Try.underlying23 Try.underlying3 (by kernel_rfl)) (opensF_nil (by kernel_rfl)))))) (opensF_cons (by kernel_rfl) (opens_bools Try.underlying30 Try.underlying4 (by kernel_rfl)) (opensF_cons (by kernel_rfl) (opens_ints Try.underlying23 Try.underlying3 (by kernel_rfl)) (opensF_nil (by kernel_rfl)))))) _ enc W Mem.empty (fun _ => none) fu0 _ _ O0 hf0
  clear hA0 hval0 hsz0
  have hK : Ml_FnExactYoungKept xx1 xx4 xx7 xx10 xx13 (fun r1 => TV.bool r1 = TV.bool true) := by apply law_FnExactYoungKept <;> first | assumption | rfl
  obtain ⟨MM, hMM⟩ : ∃ M, M = @Ml_FnExactYoungKept := ⟨_, rfl⟩
  rw [← hMM] at hK
  have hL := (lv_cons (rv_struct V0) (lv_nil _))
  obtain ⟨m', hd⟩ := law_true s16 O1 hL (by unfold G16; rw [← hMM]; exact hK)
  clear hMM hK hL
  refine (hd.2.2 b1 W _ ((LRel.nil b1).push (arg_struct L0)) O1.sim (op0_free O1)).mono fun e W' ⟨cv, β', he, hr, hp⟩ => ?_
  subst he
  cases back_bool hr
  have bel := hp.below
  exact ⟨_, rfl, _, _, _, [], _, [], hW', trodAll_mk1 (shut_bool Try.underlying4 _), (trodAll_cons_mk (Below.trod laidOut (by kernel_rfl) (of_decide_eq_true (by kernel_rfl)) k0 bel lt0) trodAll_mk0), rfl, bel.frame _, fun h => by cases h⟩
theorem over : Rows.fnExactYoungKeptRow.holds Try.pinned (OpenSpec.ofChange Rows.fnExactYoungKeptSpec) :=
  OpenClaim.holds_of_wide 16 Try.f16 rfl rfl rfl rfl rfl rfl rfl ⟨rfl, rfl, rfl, rfl, rfl⟩ rfl rfl rfl rfl rfl (by kernel_rfl) Try.func16 (by kernel_rfl)
    (of_decide_eq_true (by kernel_rfl)) (by unfold Func.isWrapper; first | (rw [if_pos (by decide +kernel)]; kernel_rfl) | (rw [if_neg (by decide +kernel)]; exact ⟨rfl, rfl⟩))
    (fun os started H enc _ => lifted os started H enc)
theorem proved : Rows.FnExactYoungKeptSaid := over
end Go.Proofs.Ythkneknigkbgpaa.fnExactYoungKept
namespace Go.Proofs.Ythkneknigkbgpaa
/-- The row, under a short name, for the claim. -/
theorem fnExactYoungKept_holds : Rows.FnExactYoungKeptSaid := fnExactYoungKept.proved
#print axioms fnExactYoungKept_holds
end Go.Proofs.Ythkneknigkbgpaa
