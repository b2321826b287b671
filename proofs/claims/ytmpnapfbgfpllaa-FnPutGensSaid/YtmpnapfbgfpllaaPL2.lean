/-
  What is proved here: the models of the laws FnExactOrderOf, FnExactCopyStep and FnExactNewGens return true. Conditions: the arguments' lengths are those of slices.
-/
import Derived.Test.YtmpnapfbgfpllaaP4
namespace Go.Ab
set_option linter.unusedVariables false
set_option linter.unusedSimpArgs false

theorem neStep {a b : Int} {P Q : Prop} (e : a = b) (h : Q) : ((a != b) = true → P) ∧ ((a != b) = false → Q) := br_f (by simp [e]) h
theorem eqStep {a : Bool} {P Q : Prop} (h : Q) : ((!(a == a)) = true → P) ∧ ((!(a == a)) = false → Q) := br_f (by simp) h

theorem law_FnExactOrderOf {p q r : List Int} (hp : p.length ≤ maxLen) (hq : q.length ≤ maxLen) (hr : r.length ≤ maxLen) {K : Bool → Prop} (hK : K true) : Ml_FnExactOrderOf p q r K := by
  unfold Ml_FnExactOrderOf
  refine L_szHeap (by decide) (by decide) hp hq hr (szStop hK) fun y a1 b1 c1 c2 c3 => szStep a1 ?_
  refine L_toHeap c1 c2 c3 (L_sOrderOf (L_toHeap c1 c2 c3 (L_iOrderOf ?_)))
  have ho : (if HVp p q r then ordF p q r else []).length ≤ 8 := by
    split
    · rename_i h; have := (ordF_cells h).len; have := h.l8; omega
    · simp
  generalize ho' : (if HVp p q r then ordF p q r else []) = o at ho
  refine L_eqIntS (by omega) (step_t (by simp) (L_toHeap c1 c2 c3 (L_eqHeap_same (by omega) (by omega) (by omega) (step_t rfl (L_markHeap (by decide) (by decide) (by omega) (by omega) (by omega) (szStep (by omega) ?_))))))
  refine L_eqIntS (by omega) (step_t (by simp) (L_markIntS (by decide) (by decide) (by omega) (L_heldIntS (by decide) (by decide) (by omega) (szStep (by omega) (neStep rfl ?_)))))
  refine L_toHeap c1 c2 c3 (L_iOrderOf ?_)
  rw [ho']
  exact L_eqIntS (by omega) (step_t (by simp) (L_heldIntS (by decide) (by decide) (by omega) (szStep (by omega) (neStep rfl hK))))

theorem stepO_len (l r s : List Int) (i : Nat) : (stepO l r s i).length ≤ s.length + 2 := by
  have h1 := meet_len (l.getD (s.getD i 0).toNat 0) s
  have h2 := meet_len (r.getD (s.getD i 0).toNat 0) (meet (l.getD (s.getD i 0).toNat 0) s)
  unfold stepO
  omega
theorem L_csBoth {l r ro s : List Int} {a : Int} {K : Bool → List Int → Prop} {M : (Bool → List Int → Prop) → Prop} (hM : ∀ K : Bool → List Int → Prop, (CSp l r ro s a → K true (stepO l r s a.toNat)) → (¬ CSp l r ro s a → K false []) → M K)
    (hK : K (decide (CSp l r ro s a)) (if CSp l r ro s a then stepO l r s a.toNat else [])) : M K :=
  hM K (fun h => by simpa [h] using hK) (fun h => by simpa [h] using hK)
theorem law_FnExactCopyStep {p q r s : List Int} {a : Int} (hp : p.length ≤ maxLen) (hq : q.length ≤ maxLen) (hr : r.length ≤ maxLen) (hs : s.length ≤ maxLen) {K : Bool → Prop} (hK : K true) : Ml_FnExactCopyStep p q r s a K := by
  unfold Ml_FnExactCopyStep
  refine br (fun _ => hK) fun c4 => ?_
  have c4 : s.length ≤ 1048576 := by have := of_decide_eq_false c4; simp only [len_eq] at this; omega
  refine L_szHeap (by decide) (by decide) hp hq hr (szStop hK) fun y a1 b1 c1 c2 c3 => szStep a1 ?_
  have hI : ∀ K : Bool → List Int → Prop, K (decide (CSp p q r s a)) (if CSp p q r s a then stepO p q s a.toNat else []) → Mi_CopyStep p q r s a K := fun K hK => L_csBoth (fun K h1 h2 => L_iCopyStep (by omega) h1 h2) hK
  have hS : ∀ K : Bool → List Int → Prop, K (decide (CSp p q r s a)) (if CSp p q r s a then stepO p q s a.toNat else []) → Ms_CopyStep p q r s a K := fun K hK => L_csBoth (fun K h1 h2 => L_sCopyStep (by omega) h1 h2) hK
  have ho : (if CSp p q r s a then stepO p q s a.toNat else []).length ≤ 2097152 := by
    split
    · have := stepO_len p q s a.toNat; omega
    · simp
  generalize (if CSp p q r s a then stepO p q s a.toNat else []) = o at hI hS ho
  generalize decide (CSp p q r s a) = b at hI hS
  refine L_toHeap c1 c2 c3 (L_toIntS c4 (hS _ (L_toHeap c1 c2 c3 (L_toIntS c4 (hI _ ?_)))))
  refine L_eqIntS (by omega) (step_t (by simp) (eqStep (L_toHeap c1 c2 c3 (L_eqHeap_same (by omega) (by omega) (by omega) (step_t rfl (L_toIntS c4 (L_eqIntS (by omega) (step_t (by simp) ?_))))))))
  refine L_markHeap (by decide) (by decide) (by omega) (by omega) (by omega) (L_markIntS (by omega) (by omega) (by omega) (szStep (by omega) (L_eqIntS (by omega) (step_t (by simp) (eqStep ?_)))))
  refine L_markIntS (by decide) (by decide) (by omega) (L_heldIntS (by decide) (by decide) (by omega) (szStep (by omega) (neStep rfl ?_)))
  exact L_toHeap c1 c2 c3 (L_toIntS c4 (hI _ (L_eqIntS (by omega) (step_t (by simp) (eqStep (L_heldIntS (by decide) (by decide) (by omega) (szStep (by omega) (neStep rfl hK))))))))

theorem law_FnExactNewGens {p q r : List Int} (hp : p.length ≤ maxLen) (hq : q.length ≤ maxLen) (hr : r.length ≤ maxLen) {K : Bool → Prop} (hK : K true) : Ml_FnExactNewGens p q r K := by
  unfold Ml_FnExactNewGens
  refine L_szHeap (by decide) (by decide) hp hq hr (szStop hK) fun y a1 b1 c1 c2 c3 => szStep a1 ?_
  refine L_toHeap c1 c2 c3 ?_
  by_cases hv : HVp p q r
  · have h8 := hv.l8
    refine L_sNewGens (fun _ => ?_) fun h => absurd hv h
    refine L_toHeap c1 c2 c3 (L_iNewGens (fun _ => ?_) fun h => absurd hv h)
    have e : ∀ K : Bool → Prop, K true → Ml_eqGens p q r (List.replicate p.length false) [] p q r (List.replicate p.length false) [] K := fun K hK => L_eqGens_same (by omega) (by omega) (by omega) (by simp; omega) (by simp) hK
    refine e _ (step_t rfl (eqStep (L_toHeap c1 c2 c3 (L_eqHeap_same (by omega) (by omega) (by omega) (step_t rfl (L_markHeap (by decide) (by decide) (by omega) (by omega) (by omega) (szStep (by omega) ?_)))))))
    refine e _ (step_t rfl (eqStep (L_markGens (by decide) (by decide) (by omega) (by omega) (by omega) (by simp; omega) (by simp) (L_heldGens (by decide) (by decide) (by omega) (by omega) (by omega) (by simp; omega) (by simp) (szStep (by omega) (neStep rfl ?_))))))
    refine L_toHeap c1 c2 c3 (L_iNewGens (fun _ => ?_) fun h => absurd hv h)
    exact e _ (step_t rfl (eqStep (L_heldGens (by decide) (by decide) (by omega) (by omega) (by omega) (by simp; omega) (by simp) (szStep (by omega) (neStep rfl hK)))))
  · refine L_sNewGens (fun h => absurd h hv) fun _ => ?_
    refine L_toHeap c1 c2 c3 (L_iNewGens (fun h => absurd h hv) fun _ => ?_)
    have e : ∀ K : Bool → Prop, K true → Ml_eqGens [] [] [] [] [] [] [] [] [] [] K := fun K hK => L_eqGens_same (by simp) (by simp) (by simp) (by simp) (by simp) hK
    refine e _ (step_t rfl (eqStep (L_toHeap c1 c2 c3 (L_eqHeap_same (by omega) (by omega) (by omega) (step_t rfl (L_markHeap (by decide) (by decide) (by omega) (by omega) (by omega) (szStep (by omega) ?_)))))))
    refine e _ (step_t rfl (eqStep (L_markGens (by decide) (by decide) (by simp) (by simp) (by simp) (by simp) (by simp) (L_heldGens (by decide) (by decide) (by simp) (by simp) (by simp) (by simp) (by simp) (szStep (by simp) (neStep rfl ?_))))))
    refine L_toHeap c1 c2 c3 (L_iNewGens (fun h => absurd h hv) fun _ => ?_)
    exact e _ (step_t rfl (eqStep (L_heldGens (by decide) (by decide) (by simp) (by simp) (by simp) (by simp) (by simp) (szStep (by simp) (neStep rfl hK)))))
end Go.Ab
