/-
  What is proved here: the row of the law FnPutYoung: whatever the input, it returns true and leaves its arguments as they were. No condition.
-/
import Derived.Test.YthkneknigkbgpaaRows
import Derived.Test.YthkneknigkbgpaaT15
import Derived.Test.YthkneknigkbgpaaPAFnPutYoung
import Derived.Test.YthkneknigkbgpaaGSFnPutYoung
import Derived.WalkKit
import Derived.ProofKit
import Derived.OpenShut
import Derived.ShutString
import Derived.ChangeOld
import Derived.Below
import Derived.SizedLaws
namespace Go.Proofs.Ythkneknigkbgpaa.fnPutYoung
open Go.ChangeShapes Go.WideShapes Go.ChangeAt Go.RowKit Go.Ab
set_option linter.unusedVariables false
theorem own : ownKnob Try.prog.godebug = none := by kernel_rfl
theorem laidOut : laidOutB Try.prog = true := by kernel_rfl
set_option maxRecDepth 100000 in
theorem lifted (os : Os) (started : os.Started) (H : Type) (enc : TypeId × Value → H) :
    ReturnsInHanded {} Try.checked os 4 .any (Rows.fnPutYoungSpec.pre6 enc Try.prog Try.f4 Rows.fnPutYoungRow.domain false) (Rows.fnPutYoungSpec.post enc Try.prog Try.f4 false true false false) := by
  refine returnsInHanded_of_change_sized (C := Try.checked) own started (by kernel_rfl) Try.func4
    (ChangeSpec.witness6 (enc := enc) (C := Try.checked) false ⟨#[], #[.slice none 0 0], []⟩ 8 (by kernel_rfl) (by kernel_rfl) (by kernel_rfl) (by kernel_rfl)) ?_
  intro W base args ds gs before hval0 hW hcnd hsz0 _
  have hval : ∀ (j : Nat) t v, Try.f4.params[j]? = some t → args[j]? = some v → Value.okWide Try.prog W .any base t v := hval0
  have hW' := hW
  obtain ⟨p, q, hA0, hV, rfl, hfz, hnd⟩ := hW
  have hA : DataW.TrodAll enc Try.prog W 0 (fun _ => true) true Try.f4.params.toList args.toList ds p := hA0
  rw [Try.params4] at hA hval
  obtain ⟨v0, vs0, d0, ds0, p0, q0, hargs, rfl, rfl, h0, r0⟩ := trodAll_cons hA
  obtain ⟨rfl, rfl, rfl⟩ := trodAll_nil r0
  obtain rfl : args = #[v0] := by cases args; simp_all
  obtain ⟨rfl, rfl⟩ := trodVars_none hV
  have O0 := op0_empty W
  obtain ⟨ad0, len0, cap0, rfl⟩ := okWide_slice Try.underlying22 (hval 0 22 v0 rfl rfl)
  have k0 := h0
  have lt0 : ∀ x ∈ p0, x.block < W.heap.size := by obtain ⟨m, hm⟩ := k0; exact DataW.trod_lt m _ _ _ hm
  obtain ⟨fu0, hf0⟩ := h0
  obtain ⟨xx1, m1, b1, z0, O1, e1, l1, L0, V0, ⟨hx2, wx3⟩⟩ := (opens_bytes Try.underlying22 Try.underlying5 (by kernel_rfl)) _ enc W Mem.empty (fun _ => none) fu0 _ _ O0 hf0
  obtain ⟨c0, rfl, Q0⟩ := one_of L0
  clear hA0 hval0 hsz0
  have hK : Ml_FnPutYoung xx1 (fun r1 => TV.bool r1 = TV.bool true) := by apply law_FnPutYoung <;> first | assumption | rfl
  obtain ⟨MM, hMM⟩ : ∃ M, M = @Ml_FnPutYoung := ⟨_, rfl⟩
  rw [← hMM] at hK
  have hL := (lv_cons (lv_get V0) (lv_nil _))
  obtain ⟨m', hd⟩ := law_true s4 O1 hL (by unfold G4; rw [← hMM]; exact hK)
  clear hMM hK hL
  refine (hd.2.2 b1 W _ ((LRel.nil b1).push (Q0)) O1.sim (op0_free O1)).mono fun e W' ⟨cv, β', he, hr, hp⟩ => ?_
  subst he
  cases back_bool hr
  have bel := hp.below
  exact ⟨_, rfl, _, _, _, [], _, [], hW', trodAll_mk1 (shut_bool Try.underlying4 _), (trodAll_cons_mk (Below.trod laidOut (by kernel_rfl) (of_decide_eq_true (by kernel_rfl)) k0 bel lt0) trodAll_mk0), rfl, bel.frame _, fun h => by cases h⟩
theorem over : Rows.fnPutYoungRow.holds Try.pinned (OpenSpec.ofChange Rows.fnPutYoungSpec) :=
  OpenClaim.holds_of_wide 4 Try.f4 rfl rfl rfl rfl rfl rfl rfl ⟨rfl, rfl, rfl, rfl, rfl⟩ rfl rfl rfl rfl rfl (by kernel_rfl) Try.func4 (by kernel_rfl)
    (of_decide_eq_true (by kernel_rfl)) (by unfold Func.isWrapper; first | (rw [if_pos (by decide +kernel)]; kernel_rfl) | (rw [if_neg (by decide +kernel)]; exact ⟨rfl, rfl⟩))
    (fun os started H enc _ => lifted os started H enc)
theorem proved : Rows.FnPutYoungSaid := over
end Go.Proofs.Ythkneknigkbgpaa.fnPutYoung
namespace Go.Proofs.Ythkneknigkbgpaa
/-- The row, under a short name, for the claim. -/
theorem fnPutYoung_holds : Rows.FnPutYoungSaid := fnPutYoung.proved
#print axioms fnPutYoung_holds
end Go.Proofs.Ythkneknigkbgpaa
