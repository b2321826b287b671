/-
  What is proved here: both sides take the same steps of copying, make the same generations and put pointers alike. No condition beyond those written in each statement.
-/
import Derived.Test.YtmpnapfbgfpllaaP3
namespace Go.Ab
set_option linter.unusedVariables false
set_option linter.unusedSimpArgs false

theorem L_Clone_int {l : List Int} {K : List Int → Prop} (hl : l.length ≤ 2 ^ 36) (hK : K l) : M_Clone_int l K := by
  intro b hb
  refine br (fun h => ?_) fun _ => ⟨hl, hK⟩
  have : l.length = 0 := Classical.byContradiction fun hh => by rw [hb hh] at h; cases h
  rwa [List.length_eq_zero_iff.1 this] at hK
theorem L_Clone_bool {l : List Bool} {K : List Bool → Prop} (hl : l.length ≤ 2 ^ 36) (hK : K l) : M_Clone_bool l K := by
  intro b hb
  refine br (fun h => ?_) fun _ => ⟨hl, hK⟩
  have : l.length = 0 := Classical.byContradiction fun hh => by rw [hb hh] at h; cases h
  rwa [List.length_eq_zero_iff.1 this] at hK
theorem L_copied {l r ro : List Int} {K : List Int → List Int → List Int → Prop} (hv : HVp l r ro) (hK : K l r ro) : Mi_copied l r ro K := by
  have := hv.l8; have := hv.lr; have := hv.r3
  exact L_Clone_int (by omega) (L_Clone_int (by omega) (L_Clone_int (by omega) hK))
theorem L_l1Copy {l r ro : List Int} {K : Prop} (hv : HVp l r ro) (hK : K) : Ms_l1Copy l r ro K := by
  have := hv.l8; have := hv.lr; have := hv.r3
  exact ⟨by omega, by omega, by omega, hK⟩
theorem L_iNewGens {l r ro : List Int} {K : Bool → List Int → List Int → List Int → List Bool → List Int → Prop} (hy : HVp l r ro → K true l r ro (List.replicate l.length false) []) (hn : ¬ HVp l r ro → K false [] [] [] [] []) : Mi_NewGens l r ro K := by
  refine L_iHeapValid (br (fun h => ?_) fun h => ?_)
  · simp at h; exact hn h
  · simp at h; have := h.l8; exact L_copied h ⟨⟨by simp [len_eq], rfl, by simp [len_eq]; omega⟩, by simpa [len_eq] using hy h⟩
theorem L_sNewGens {l r ro : List Int} {K : Bool → List Int → List Int → List Int → List Bool → List Int → Prop} (hy : HVp l r ro → K true l r ro (List.replicate l.length false) []) (hn : ¬ HVp l r ro → K false [] [] [] [] []) : Ms_NewGens l r ro K := by
  refine L_sHeapValid (br (fun h => ?_) fun h => ?_)
  · simp at h; exact hn h
  · simp at h; have := h.l8; exact L_l1Copy h ⟨⟨by simp [len_eq], rfl, by simp [len_eq]; omega⟩, by simpa [len_eq] using hy h⟩
theorem L_has {l r ro : List Int} {c : Int} {K : Bool → Prop} (hK : K (decide (HVp l r ro ∧ 0 ≤ c ∧ c < l.length))) : Mi_has l r ro c K := by
  refine L_iHeapValid (br (fun h => br (fun h1 => ?_) fun h1 => ?_) fun h => ?_)
  · simp only [decide_eq_true_eq, ge_iff_le] at h h1
    have e : decide (c < len l) = decide (HVp l r ro ∧ 0 ≤ c ∧ c < l.length) := decide_eq_decide.2 ⟨fun hh => ⟨h, h1, hh⟩, fun hh => hh.2.2⟩
    rw [e]; exact hK
  · simp only [decide_eq_true_eq, ge_iff_le, decide_eq_false_iff_not] at h h1; rw [decide_eq_false (fun hh => h1 hh.2.1)] at hK; exact hK
  · simp at h; simpa [h] using hK
theorem L_l1Cell {l r ro : List Int} {c : Int} {K : Bool → Prop} (hK : K (decide (HVp l r ro ∧ 0 ≤ c ∧ c < l.length))) : Ms_l1Cell l r ro c K := by
  refine L_sHeapValid (br (fun h => br (fun h1 => ?_) fun h1 => ?_) fun h => ?_)
  · simp only [decide_eq_true_eq, ge_iff_le] at h h1
    have e : decide (c < len l) = decide (HVp l r ro ∧ 0 ≤ c ∧ c < l.length) := decide_eq_decide.2 ⟨fun hh => ⟨h, h1, hh⟩, fun hh => hh.2.2⟩
    rw [e]; exact hK
  · simp only [decide_eq_true_eq, ge_iff_le, decide_eq_false_iff_not] at h h1; rw [decide_eq_false (fun hh => h1 hh.2.1)] at hK; exact hK
  · simp at h; simpa [h] using hK
theorem L_pointer {l r ro : List Int} {c : Int} {K : Bool → Prop} (hK : K (decide (okP l.length c))) : Mi_pointer l r ro c K := L_l1Points (n := l.length) hK
/-- May this pointer be put? -/
structure PutP (l r ro : List Int) (c x : Int) : Prop where
  h : HVp l r ro
  c0 : 0 ≤ c
  c1 : c < l.length
  x : okP l.length x
instance (l r ro : List Int) (c x : Int) : Decidable (PutP l r ro c x) := decidable_of_iff (HVp l r ro ∧ 0 ≤ c ∧ c < l.length ∧ okP l.length x) ⟨fun ⟨a, b, c, d⟩ => ⟨a, b, c, d⟩, fun ⟨a, b, c, d⟩ => ⟨a, b, c, d⟩⟩
theorem L_iPutLeft {l r ro : List Int} {c x : Int} {K : Bool → List Int → List Int → List Int → Prop} (hy : PutP l r ro c x → K true (l.set c.toNat x) r ro) (hn : ¬ PutP l r ro c x → K false [] [] []) : Mi_PutLeft l r ro c x K := by
  refine L_has (br (fun h => hn fun hh => ?_) fun h => L_pointer (br (fun h1 => hn fun hh => ?_) fun h1 => ?_))
  · simp only [Bool.not_eq_true', decide_eq_false_iff_not] at h; exact h ⟨hh.h, hh.c0, hh.c1⟩
  · simp only [Bool.not_eq_true', decide_eq_false_iff_not] at h1; exact h1 hh.x
  · simp only [Bool.not_eq_false', decide_eq_true_eq] at h h1
    exact L_copied h.1 ⟨⟨h.2.1, h.2.2⟩, hy ⟨h.1, h.2.1, h.2.2, h1⟩⟩
theorem L_sPutLeft {l r ro : List Int} {c x : Int} {K : Bool → List Int → List Int → List Int → Prop} (hy : PutP l r ro c x → K true (l.set c.toNat x) r ro) (hn : ¬ PutP l r ro c x → K false [] [] []) : Ms_PutLeft l r ro c x K := by
  refine L_l1Cell (br (fun h => hn fun hh => ?_) fun h => L_l1Points (n := l.length) (br (fun h1 => hn fun hh => ?_) fun h1 => ?_))
  · simp only [Bool.not_eq_true', decide_eq_false_iff_not] at h; exact h ⟨hh.h, hh.c0, hh.c1⟩
  · simp only [Bool.not_eq_true', decide_eq_false_iff_not] at h1; exact h1 hh.x
  · simp only [Bool.not_eq_false', decide_eq_true_eq] at h h1
    exact L_l1Copy h.1 ⟨⟨h.2.1, h.2.2⟩, hy ⟨h.1, h.2.1, h.2.2, h1⟩⟩
theorem PutP.valid {l r ro : List Int} {c x : Int} (h : PutP l r ro c x) : HVp (l.set c.toNat x) r ro := by
  have := h.h
  refine ⟨by simpa using this.lr, by simpa using this.l1, by simpa using this.l8, this.r1, this.r3, fun y hy => ?_, fun y hy => by simpa using this.okr y hy, fun y hy => by simpa using this.oko y hy⟩
  simp only [List.length_set]
  rcases List.mem_or_eq_of_mem_set hy with hy | rfl
  · exact this.okl y hy
  · exact h.x
theorem L_iPutGens {l r ro re : List Int} {old : List Bool} {c x : Int} {K : Bool → List Int → List Int → List Int → List Bool → List Int → Prop} (hr : re.length < 2 ^ 62) (hy : PutP l r ro c x → GVp l r ro old re → K true (l.set c.toNat x) r ro old (rem (l.set c.toNat x) r old))
    (hn : ¬ (PutP l r ro c x ∧ GVp l r ro old re) → K false [] [] [] [] []) : Mi_PutGens l r ro old re c x K := by
  refine L_iPutLeft (fun h => L_iGensValid hr (br (fun h1 => ?_) fun h1 => br_f rfl ?_)) fun h => L_iGensValid hr (br (fun h1 => ?_) fun h1 => br_t rfl ?_)
  · simp only [Bool.not_eq_true', decide_eq_false_iff_not] at h1; exact hn fun hh => h1 hh.2
  · simp only [Bool.not_eq_false', decide_eq_true_eq] at h1
    have := h1.o; have := h1.h.l8
    exact L_Clone_bool (by omega) (L_remembered h.valid (by simpa using h1.o) (hy h h1))
  · exact hn fun hh => h hh.1
  · exact hn fun hh => h hh.1
theorem L_sPutGens {l r ro re : List Int} {old : List Bool} {c x : Int} {K : Bool → List Int → List Int → List Int → List Bool → List Int → Prop} (hr : re.length < 2 ^ 62) (hy : PutP l r ro c x → GVp l r ro old re → K true (l.set c.toNat x) r ro old (rem (l.set c.toNat x) r old))
    (hn : ¬ (PutP l r ro c x ∧ GVp l r ro old re) → K false [] [] [] [] []) : Ms_PutGens l r ro old re c x K := by
  refine L_sPutLeft (fun h => L_sGensValid hr (br (fun h1 => ?_) fun h1 => br_f rfl ?_)) fun h => L_sGensValid hr (br (fun h1 => ?_) fun h1 => br_t rfl ?_)
  · simp only [Bool.not_eq_true', decide_eq_false_iff_not] at h1; exact hn fun hh => h1 hh.2
  · simp only [Bool.not_eq_false', decide_eq_true_eq] at h1
    have := h1.o; have := h1.h.l8
    exact ⟨by omega, L_l11Remember h.valid (by simpa using h1.o) (hy h h1)⟩
  · exact hn fun hh => h hh.1
  · exact hn fun hh => h hh.1

/-! Steps of copying. -/
theorem cells_iff {n : Nat} {s : List Int} : CellsP n s ↔ ∀ i, i < s.length → 0 ≤ s.getD i 0 ∧ s.getD i 0 < n ∧ s.getD i 0 ∉ s.take i := by
  constructor
  · intro h i hi
    refine ⟨(h.get hi).1, (h.get hi).2, fun hm => ?_⟩
    obtain ⟨j, hj, he⟩ := List.getElem_of_mem hm
    rw [List.getElem_take] at he
    rw [getD_lt hi] at he
    have hjs : j < s.length := by simp at hj; omega
    have := (List.getElem_inj (h₀ := hjs) (h₁ := hi) h.nd).1 he
    simp at hj; omega
  · intro h
    refine ⟨?_, fun x hx => ?_⟩
    · rw [List.nodup_iff_pairwise_ne, List.pairwise_iff_getElem]
      intro i j hi hj hij he
      refine (h j hj).2.2 ?_
      rw [getD_lt hj, ← he]
      exact List.mem_take_iff_getElem.2 ⟨i, by omega, rfl⟩
    · obtain ⟨i, hi, rfl⟩ := List.getElem_of_mem hx
      have := h i hi
      rw [getD_lt hi] at this
      exact ⟨this.1, this.2.1⟩
theorem sub_nat {α : Type} (l : List α) (i : Nat) : sub l 0 (i : Int) = l.take i := by simp [sub]
theorem L_l10Cells {l r ro s : List Int} {K : Bool → Prop} (hs : s.length < 2 ^ 60) (hK : K (decide (HVp l r ro ∧ CellsP l.length s))) : Ms_l10Cells l r ro s K := by
  have no : ¬ (HVp l r ro ∧ CellsP l.length s) → K false := fun h => by rwa [decide_eq_false h] at hK
  refine L_sHeapValid (br (fun h => no fun hh => ?_) fun h => br (fun h1 => no fun hh => ?_) fun h1 => ?_)
  · simp only [Bool.not_eq_true', decide_eq_false_iff_not] at h; exact h hh.1
  · have h1 := of_decide_eq_true h1; simp only [len_eq] at h1; have := hh.2.len; omega
  simp only [Bool.not_eq_false', decide_eq_true_eq] at h
  refine LoopP_for (fun i st => st = (s, (i : Int), l, r, ro) ∧ ∀ j, j < i → 0 ≤ s.getD j 0 ∧ s.getD j 0 < l.length ∧ s.getD j 0 ∉ s.take j) s.length ⟨rfl, by omega⟩ ?_ ?_
  · rintro i _ hi ⟨rfl, hj⟩ Kb hKb
    refine br_t (by simp [len_eq]; exact hi) ⟨by simp [inB_nat]; exact hi, br (fun h1 => no fun hh => ?_) fun h1 => ⟨by simp [inB_nat]; exact hi, br (fun h2 => no fun hh => ?_) fun h2 => ⟨⟨by omega, by dsimp only; omega, by dsimp only [len_eq]; omega⟩, by simp [inB_nat]; exact hi, ?_⟩⟩⟩
    · have h1 := of_decide_eq_true h1; simp only [gI_nat] at h1; have := hh.2.get hi; omega
    · have h2 := of_decide_eq_true h2; simp only [gI_nat, len_eq] at h2; have := hh.2.get hi; omega
    · have h1 := of_decide_eq_false h1
      have h2 := of_decide_eq_false h2
      simp only [gI_nat, len_eq] at h1 h2
      simp only [gI_nat, sub_nat]
      refine L_l10At (by simp; omega) (br (fun h3 => no fun hh => ?_) fun h3 => hKb _ ⟨by rw [iadd_nat (by omega)], fun j hji => ?_⟩)
      · have h3 := of_decide_eq_true h3
        have := (cells_iff.1 hh.2 i hi).2.2
        rw [← atL_neg] at this; omega
      · have h3 := of_decide_eq_false h3
        rcases Nat.lt_succ_iff_lt_or_eq.1 hji with e | e
        · exact hj j e
        · subst e; exact ⟨by omega, by omega, by rw [← atL_neg]; omega⟩
  · rintro _ ⟨rfl, hj⟩ Kb
    refine br_f (by simp [len_eq]) ?_
    rwa [decide_eq_true ⟨h, cells_iff.2 hj⟩] at hK
/-- May this step be taken? -/
structure CSp (l r ro s : List Int) (at_ : Int) : Prop where
  h : HVp l r ro
  c : CellsP l.length s
  a0 : 0 ≤ at_
  a1 : at_ < s.length
instance (l r ro s : List Int) (a : Int) : Decidable (CSp l r ro s a) := decidable_of_iff (HVp l r ro ∧ CellsP l.length s ∧ 0 ≤ a ∧ a < s.length) ⟨fun ⟨a, b, c, d⟩ => ⟨a, b, c, d⟩, fun ⟨a, b, c, d⟩ => ⟨a, b, c, d⟩⟩
theorem L_sCopyStep {l r ro s : List Int} {a : Int} {K : Bool → List Int → Prop} (hs : s.length < 2 ^ 60) (hy : CSp l r ro s a → K true (stepO l r s a.toNat)) (hn : ¬ CSp l r ro s a → K false []) : Ms_CopyStep l r ro s a K := by
  refine L_l10Cells hs (br (fun h => hn fun hh => ?_) fun h => br (fun h1 => hn fun hh => ?_) fun h1 => br (fun h2 => hn fun hh => ?_) fun h2 => ?_)
  · simp only [Bool.not_eq_true', decide_eq_false_iff_not] at h; exact h ⟨hh.h, hh.c⟩
  · have h1 := of_decide_eq_true h1; have := hh.a0; omega
  · have h2 := of_decide_eq_true h2; simp only [len_eq] at h2; have := hh.a1; omega
  simp only [Bool.not_eq_false', decide_eq_true_eq] at h
  have h1 := of_decide_eq_false h1
  have h2 := of_decide_eq_false h2
  simp only [len_eq] at h2
  obtain ⟨k, rfl⟩ := Int.eq_ofNat_of_zero_le (show 0 ≤ a by omega)
  have hk : k < s.length := by omega
  have hg := h.2.get hk
  have hl := h.2.len
  have h8 := h.1.l8
  have hlr := h.1.lr
  have hm := meet_len (l.getD (s.getD k 0).toNat 0) s
  have := hy ⟨h.1, h.2, by omega, by omega⟩
  refine ⟨by omega, ⟨by omega, by omega⟩, ⟨by simp only [gI_nat]; omega, by simp only [gI_nat]; omega⟩, L_l10Meet (by omega) ⟨⟨by omega, by omega⟩, ⟨by simp only [gI_nat]; omega, by simp only [gI_nat]; omega⟩, L_l10Meet ?_ ?_⟩⟩
  · simp only [gI_at, Int.toNat_natCast]; omega
  · simpa only [gI_at, Int.toNat_natCast, stepO] using this
theorem L_iCopyStep {l r ro s : List Int} {a : Int} {K : Bool → List Int → Prop} (hs : s.length < 2 ^ 60) (hy : CSp l r ro s a → K true (stepO l r s a.toNat)) (hn : ¬ CSp l r ro s a → K false []) : Mi_CopyStep l r ro s a K := by
  refine L_iHeapValid (br (fun h => hn fun hh => ?_) fun h => br (fun h1 => hn fun hh => ?_) fun h1 => br (fun h2 => hn fun hh => ?_) fun h2 => ?_)
  · simp only [Bool.not_eq_true', decide_eq_false_iff_not] at h; exact h hh.h
  · have h1 := of_decide_eq_true h1; have := hh.a0; omega
  · have h2 := of_decide_eq_true h2; simp only [len_eq] at h2; have := hh.a1; omega
  simp only [Bool.not_eq_false', decide_eq_true_eq] at h
  have h1 := of_decide_eq_false h1
  have h2 := of_decide_eq_false h2
  simp only [len_eq] at h2
  refine LoopP_for (fun i st => st = (s, a, s, len s, (i : Int), l, r, ro) ∧ ∀ j, j < i → 0 ≤ s.getD j 0 ∧ s.getD j 0 < l.length ∧ s.getD j 0 ∉ s.take j) s.length ⟨rfl, by omega⟩ ?_ ?_
  · rintro i _ hi ⟨rfl, hj⟩ Kb hKb
    refine br_t (by simp [len_eq]; exact hi) ⟨by simp [inB_nat]; exact hi, L_has (br (fun h3 => hn fun hh => ?_) fun h3 => ⟨⟨by omega, by dsimp only; omega, by dsimp only [len_eq]; omega⟩, ?_⟩)⟩
    · simp only [Bool.not_eq_true', decide_eq_false_iff_not, gI_nat] at h3; exact h3 ⟨hh.h, hh.c.get hi⟩
    · simp only [Bool.not_eq_false', decide_eq_true_eq, gI_nat] at h3
      simp only [gI_nat, sub_nat]
      refine L_Contains_int (by simp; omega) (br (fun h4 => hn fun hh => ?_) fun h4 => hKb _ ⟨by rw [iadd_nat (by omega)], fun j hji => ?_⟩)
      · exact (cells_iff.1 hh.c i hi).2.2 (of_decide_eq_true h4)
      · rcases Nat.lt_succ_iff_lt_or_eq.1 hji with e | e
        · exact hj j e
        · subst e; exact ⟨h3.2.1, h3.2.2, of_decide_eq_false h4⟩
  · rintro _ ⟨rfl, hj⟩ Kb
    refine br_f (by simp [len_eq]) ?_
    have hc := cells_iff.2 hj
    obtain ⟨k, rfl⟩ := Int.eq_ofNat_of_zero_le (show 0 ≤ a by omega)
    have hk : k < s.length := by omega
    have hg := hc.get hk
    have hl := hc.len
    have h8 := h.l8
    have hlr := h.lr
    have := hy ⟨h, hc, by omega, by omega⟩
    refine L_Clone_int (by dsimp only; omega) ⟨⟨by dsimp only; omega, by dsimp only; omega⟩, ⟨by simp only [gI_nat]; omega, by simp only [gI_nat]; omega⟩, ⟨by dsimp only; omega, by dsimp only; omega⟩, ⟨by simp only [gI_nat]; omega, by simp only [gI_nat]; omega⟩, L_met (by dsimp only [List.length_cons, List.length_nil]; omega) ?_⟩
    simpa only [gI_at, Int.toNat_natCast, stepO, metL, List.foldl_cons, List.foldl_nil] using this
end Go.Ab
