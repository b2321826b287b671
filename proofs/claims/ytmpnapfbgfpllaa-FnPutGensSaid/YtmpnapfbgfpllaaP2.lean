/-
  What is proved here: both sides say alike whether a heap or generations are valid, and what is remembered. No condition beyond those written in each statement.
-/
import Derived.Test.YtmpnapfbgfpllaaP1
namespace Go.Ab
set_option linter.unusedVariables false
set_option linter.unusedSimpArgs false

def okP (n : Nat) (x : Int) : Prop := -1 ≤ x ∧ x < n
instance (n : Nat) (x : Int) : Decidable (okP n x) := inferInstanceAs (Decidable (_ ∧ _))
/-- A valid heap. -/
structure HVp (l r ro : List Int) : Prop where
  lr : l.length = r.length
  l1 : 1 ≤ l.length
  l8 : l.length ≤ 8
  r1 : 1 ≤ ro.length
  r3 : ro.length ≤ 3
  okl : ∀ x ∈ l, okP l.length x
  okr : ∀ x ∈ r, okP l.length x
  oko : ∀ x ∈ ro, okP l.length x
instance (l r ro : List Int) : Decidable (HVp l r ro) :=
  decidable_of_iff (l.length = r.length ∧ 1 ≤ l.length ∧ l.length ≤ 8 ∧ 1 ≤ ro.length ∧ ro.length ≤ 3 ∧ (∀ x ∈ l, okP l.length x) ∧ (∀ x ∈ r, okP l.length x) ∧ (∀ x ∈ ro, okP l.length x))
    ⟨fun ⟨a, b, c, d, e, f, g, h⟩ => ⟨a, b, c, d, e, f, g, h⟩, fun ⟨a, b, c, d, e, f, g, h⟩ => ⟨a, b, c, d, e, f, g, h⟩⟩

theorem all_getD {α : Type} (d : α) {l : List α} {p : α → Prop} (h : ∀ j, j < l.length → p (l.getD j d)) : ∀ x ∈ l, p x := by
  intro x hx
  obtain ⟨i, hi, rfl⟩ := List.getElem_of_mem hx
  have := h i hi
  rwa [getD_lt hi] at this
theorem getD_mem {α : Type} (d : α) {l : List α} {i : Nat} (h : i < l.length) : l.getD i d ∈ l := by rw [getD_lt h]; exact List.getElem_mem h

theorem L_l1Points {a : Int} {n : Nat} {K : Bool → Prop} (hK : K (decide (okP n a))) : Ms_l1Points a n K := by
  refine br (fun h => ?_) fun h => ?_
  · simp at h; simpa [okP, h] using hK
  · simp at h; rw [decide_eq_false (fun hh => by have := hh.1; omega)] at hK; exact hK

theorem L_sHeapValid {l r ro : List Int} {K : Bool → Prop} (hK : K (decide (HVp l r ro))) : Ms_HeapValid l r ro K := by
  have no : ¬ HVp l r ro → K false := fun h => by rwa [decide_eq_false h] at hK
  have yes : HVp l r ro → K true := fun h => by rwa [decide_eq_true h] at hK
  refine br (fun h => no fun hh => ?_) fun h1 => br (fun h => no fun hh => ?_) fun h2 => br (fun h => no fun hh => ?_) fun h3 => br (fun h => no fun hh => ?_) fun h4 => br (fun h => no fun hh => ?_) fun h5 => ?_
  · have := hh.l1; replace h := of_decide_eq_true h; simp only [len_eq] at h; omega
  · have := hh.l8; simp [len_eq] at h; omega
  · have := hh.lr; simp [len_eq] at h; omega
  · have := hh.r1; replace h := of_decide_eq_true h; simp only [len_eq] at h; omega
  · have := hh.r3; simp [len_eq] at h; omega
  replace h1 : 1 ≤ l.length := by have := of_decide_eq_false h1; simp only [len_eq] at this; omega
  replace h2 : l.length ≤ 8 := by have := of_decide_eq_false h2; simp only [len_eq] at this; omega
  replace h3 : r.length = l.length := by simp [len_eq] at h3; omega
  replace h4 : 1 ≤ ro.length := by have := of_decide_eq_false h4; simp only [len_eq] at this; omega
  replace h5 : ro.length ≤ 3 := by have := of_decide_eq_false h5; simp only [len_eq] at this; omega
  refine LoopP_for (fun i s => s = (len l, (i : Int), l, r, ro) ∧ ∀ j, j < i → okP l.length (l.getD j 0) ∧ okP l.length (r.getD j 0)) l.length ⟨rfl, by omega⟩ ?_ ?_
  · rintro i _ hi ⟨rfl, hj⟩ Kb hKb
    refine br_t (by simp [len_eq]; exact hi) ⟨by simp [inB_nat]; exact hi, ?_⟩
    refine L_l1Points (br (fun h => no fun hh => ?_) fun h => ⟨by simp [inB_nat]; omega, L_l1Points (br (fun h' => no fun hh => ?_) fun h' => hKb _ ⟨by rw [iadd_nat (by omega)], fun j hji => ?_⟩)⟩)
    · simp [-List.getD_eq_getElem?_getD, gI_nat] at h; exact h (hh.okl _ (getD_mem 0 hi))
    · simp [-List.getD_eq_getElem?_getD, gI_nat] at h'; exact h' (hh.okr _ (getD_mem 0 (by omega)))
    · simp [-List.getD_eq_getElem?_getD, gI_nat] at h h'
      rcases Nat.lt_succ_iff_lt_or_eq.1 hji with e | e
      · exact hj j e
      · subst e; exact ⟨h, h'⟩
  · rintro _ ⟨rfl, hj⟩ Kb
    refine br_f (by simp [len_eq]) ?_
    refine LoopP_for (fun i s => s = (len l, (i : Int), l, r, ro) ∧ ∀ j, j < i → okP l.length (ro.getD j 0)) ro.length ⟨rfl, by omega⟩ ?_ ?_
    · rintro i _ hi ⟨rfl, hk⟩ Kb hKb
      refine br_t (by simp [len_eq]; exact hi) ⟨by simp [inB_nat]; exact hi, ?_⟩
      refine L_l1Points (br (fun h => no fun hh => ?_) fun h => hKb _ ⟨by rw [iadd_nat (by omega)], fun j hji => ?_⟩)
      · simp [-List.getD_eq_getElem?_getD, gI_nat] at h; exact h (hh.oko _ (getD_mem 0 hi))
      · simp [-List.getD_eq_getElem?_getD, gI_nat] at h
        rcases Nat.lt_succ_iff_lt_or_eq.1 hji with e | e
        · exact hk j e
        · subst e; exact h
    · rintro _ ⟨rfl, hk⟩ Kb
      refine br_f (by simp [len_eq]) (yes ⟨h3.symm, h1, h2, h4, h5, all_getD 0 fun j h => (hj j h).1, all_getD 0 fun j h => (hj j (by omega)).2, all_getD 0 hk⟩)

theorem L_iHeapValid {l r ro : List Int} {K : Bool → Prop} (hK : K (decide (HVp l r ro))) : Mi_HeapValid l r ro K := by
  have no : ¬ HVp l r ro → K false := fun h => by rwa [decide_eq_false h] at hK
  have yes : HVp l r ro → K true := fun h => by rwa [decide_eq_true h] at hK
  refine br (fun h => no fun hh => ?_) fun h3 => br (fun h => no fun hh => ?_) fun h1 => br (fun h => no fun hh => ?_) fun h2 => br (fun h => no fun hh => ?_) fun h4 => br (fun h => no fun hh => ?_) fun h5 => ?_
  · have := hh.lr; simp [len_eq] at h; omega
  · have := hh.l1; replace h := of_decide_eq_true h; simp only [len_eq] at h; omega
  · have := hh.l8; simp [len_eq] at h; omega
  · have := hh.r1; replace h := of_decide_eq_true h; simp only [len_eq] at h; omega
  · have := hh.r3; simp [len_eq] at h; omega
  replace h1 : 1 ≤ l.length := by have := of_decide_eq_false h1; simp only [len_eq] at this; omega
  replace h2 : l.length ≤ 8 := by have := of_decide_eq_false h2; simp only [len_eq] at this; omega
  replace h3 : r.length = l.length := by simp [len_eq] at h3; omega
  replace h4 : 1 ≤ ro.length := by have := of_decide_eq_false h4; simp only [len_eq] at this; omega
  replace h5 : ro.length ≤ 3 := by have := of_decide_eq_false h5; simp only [len_eq] at this; omega
  have hlen : ∀ i, i < 3 → (([l, r, ro] : List (List Int)).getD i []).length ≤ 8 := by
    intro i hi
    match i, hi with
    | 0, _ => exact h2
    | 1, _ => show r.length ≤ 8; omega
    | 2, _ => show ro.length ≤ 8; omega
  have hmem : HVp l r ro → ∀ i, i < 3 → ∀ x ∈ ([l, r, ro] : List (List Int)).getD i [], okP l.length x := by
    intro hh i hi
    match i, hi with
    | 0, _ => exact hh.okl
    | 1, _ => exact hh.okr
    | 2, _ => exact hh.oko
  refine LoopP_for (fun i s => s = (3, (i : Int), l, r, ro, [l, r, ro]) ∧ ∀ j, j < i → ∀ x ∈ ([l, r, ro] : List (List Int)).getD j [], okP l.length x) 3 ⟨rfl, by omega⟩ ?_ ?_
  · rintro i _ hi ⟨rfl, hj⟩ Kb hKb
    have hg : gL [l, r, ro] (i : Int) = ([l, r, ro] : List (List Int)).getD i [] := by simp [gL, EK.dflt]
    refine br_t (by simp; omega) ⟨by simp [inB_nat]; exact hi, ?_⟩
    simp only [hg]
    have hl := hlen i hi
    have hm := fun hh => hmem hh i hi
    generalize hq : ([l, r, ro] : List (List Int)).getD i [] = q at hl hm
    refine LoopP_for (fun k s => s = (3, (i : Int), q, len q, (k : Int), l, r, ro, [l, r, ro]) ∧ ∀ j, j < k → okP l.length (q.getD j 0)) q.length ⟨rfl, by omega⟩ ?_ ?_
    · rintro k _ hk ⟨rfl, hkj⟩ Kb' hKb'
      refine br_t (by simp [len_eq]; exact hk) ⟨by simp [inB_nat]; exact hk, br (fun h => no fun hh => ?_) fun h => br (fun h' => no fun hh => ?_) fun h' => hKb' _ ⟨by rw [iadd_nat (by omega)], fun j hji => ?_⟩⟩
      · have := of_decide_eq_true h; simp only [gI_nat] at this; have := (hm hh _ (getD_mem 0 hk)).1; omega
      · have := of_decide_eq_true h'; simp only [gI_nat, len_eq] at this; have := (hm hh _ (getD_mem 0 hk)).2; omega
      · have a := of_decide_eq_false h
        have b := of_decide_eq_false h'
        simp only [gI_nat, len_eq] at a b
        rcases Nat.lt_succ_iff_lt_or_eq.1 hji with e | e
        · exact hkj j e
        · subst e; exact ⟨by omega, by omega⟩
    · rintro _ ⟨rfl, hkj⟩ Kb'
      refine br_f (by simp [len_eq]) (hKb _ ⟨by rw [iadd_nat (by omega)], fun j hji => ?_⟩)
      rcases Nat.lt_succ_iff_lt_or_eq.1 hji with e | e
      · exact hj j e
      · subst e; rw [hq]; exact all_getD 0 hkj
  · rintro _ ⟨rfl, hj⟩ Kb
    refine br_f (by simp) (yes ⟨h3.symm, h1, h2, h4, h5, hj 0 (by omega), hj 1 (by omega), hj 2 (by omega)⟩)

theorem HVp.gl {l r ro : List Int} (h : HVp l r ro) {i : Nat} (hi : i < l.length) : okP l.length (l.getD i 0) := h.okl _ (getD_mem 0 hi)
theorem HVp.gr {l r ro : List Int} (h : HVp l r ro) {i : Nat} (hi : i < l.length) : okP l.length (r.getD i 0) := h.okr _ (getD_mem 0 (by rw [← h.lr]; exact hi))
theorem HVp.go {l r ro : List Int} (h : HVp l r ro) {i : Nat} (hi : i < ro.length) : okP l.length (ro.getD i 0) := h.oko _ (getD_mem 0 hi)

/-- Does a pointer lead to a young cell? -/
def yg (old : List Bool) (x : Int) : Bool := x != -1 && !(old.getD x.toNat false)
theorem L_l11Young {old : List Bool} {x : Int} {K : Bool → Prop} (hx : okP old.length x) (hK : K (yg old x)) : Ms_l11Young old x K := by
  refine br (fun h => ⟨⟨?_, hx.2⟩, ?_⟩) fun h => ?_
  · have := hx.1; simp at h; omega
  · simpa [yg, h, gB, EK.dflt] using hK
  · simpa [yg, h] using hK
theorem L_remembered_1 {old : List Bool} {x : Int} {K : Bool → Prop} (hx : okP old.length x) (hK : K (yg old x)) : Mi_remembered_1 x old K := by
  refine br (fun h => ⟨⟨?_, hx.2⟩, ?_⟩) fun h => ?_
  · have := hx.1; simp at h; omega
  · simpa [yg, h, gB, EK.dflt] using hK
  · simpa [yg, h] using hK
/-- Is an old cell remembered? -/
def isRem (l r : List Int) (old : List Bool) (i : Nat) : Bool := old.getD i false && (yg old (l.getD i 0) || yg old (r.getD i 0))
def remU (l r : List Int) (old : List Bool) (n : Nat) : List Int := ((List.range n).filter (isRem l r old)).map fun (i : Nat) => (i : Int)
def rem (l r : List Int) (old : List Bool) : List Int := remU l r old old.length
theorem remU_succ (l r : List Int) (old : List Bool) (n : Nat) : remU l r old (n + 1) = if isRem l r old n then remU l r old n ++ [(n : Int)] else remU l r old n := by
  unfold remU
  rw [List.range_succ, List.filter_append]
  cases h : isRem l r old n <;> simp [h]
theorem remU_len (l r : List Int) (old : List Bool) (n : Nat) : (remU l r old n).length ≤ n := by
  unfold remU
  rw [List.length_map]
  exact Nat.le_trans (List.length_filter_le _ _) (by simp)

theorem L_l11Remember {l r ro : List Int} {old : List Bool} {K : List Int → Prop} (hv : HVp l r ro) (ho : old.length = l.length) (hK : K (rem l r old)) : Ms_l11Remember l r ro old K := by
  have h8 := hv.l8
  refine LoopP_for (fun i s => s = (old, (i : Int), l, r, ro, remU l r old i)) old.length rfl ?_ ?_
  · rintro i _ hi rfl Kb hKb
    have hlen := remU_len l r old i
    have hs := remU_succ l r old i
    have e : iadd (i : Int) 1 = ((i + 1 : Nat) : Int) := iadd_nat (by omega)
    refine br_t (by simp [len_eq]; exact hi) ⟨by simp [inB_nat]; exact hi, br (fun h => ?_) fun h => ?_⟩
    · simp only [gB_nat] at h
      refine ⟨by simp [inB_nat]; omega, L_l11Young (by simp only [gI_nat]; rw [ho]; exact hv.gl (by omega)) (br (fun h1 => ⟨by simp; omega, hKb _ ?_⟩) fun h1 => ⟨by have := hv.lr; simp [inB_nat]; omega, L_l11Young (by simp only [gI_nat]; rw [ho]; exact hv.gr (by omega)) (br (fun h2 => ⟨by simp; omega, hKb _ ?_⟩) fun h2 => hKb _ ?_)⟩)⟩
      · simp only [gI_nat] at h1; rw [e, hs, if_pos (by simp only [isRem, h, h1, Bool.true_or, Bool.and_true])]
      · simp only [gI_nat] at h1 h2; rw [e, hs, if_pos (by simp only [isRem, h, h1, h2, Bool.or_true, Bool.and_true])]
      · simp only [gI_nat] at h1 h2; rw [e, hs, if_neg (by simp only [isRem, h1, h2, Bool.or_false, Bool.and_false]; simp)]
    · simp only [gB_nat] at h
      refine hKb _ ?_
      rw [e, hs, if_neg (by simp only [isRem, h, Bool.false_and]; simp)]
  · rintro _ rfl Kb
    exact br_f (by simp [len_eq]) hK
theorem L_remembered {l r ro : List Int} {old : List Bool} {K : List Int → Prop} (hv : HVp l r ro) (ho : old.length = l.length) (hK : K (rem l r old)) : Mi_remembered l r ro old K := by
  have h8 := hv.l8
  refine LoopP_for (fun i s => s = (old, len old, (i : Int), l, r, ro, old, remU l r old i)) old.length rfl ?_ ?_
  · rintro i _ hi rfl Kb hKb
    have hlen := remU_len l r old i
    have hs := remU_succ l r old i
    have e : iadd (i : Int) 1 = ((i + 1 : Nat) : Int) := iadd_nat (by omega)
    refine br_t (by simp [len_eq]; exact hi) ⟨by simp [inB_nat]; exact hi, br (fun h => ?_) fun h => ?_⟩
    · simp only [gB_nat] at h
      refine ⟨by simp [inB_nat]; omega, L_remembered_1 (by simp only [gI_nat]; rw [ho]; exact hv.gl (by omega)) (br (fun h1 => ⟨by simp; omega, hKb _ ?_⟩) fun h1 => ⟨by have := hv.lr; simp [inB_nat]; omega, L_remembered_1 (by simp only [gI_nat]; rw [ho]; exact hv.gr (by omega)) (br (fun h2 => ⟨by simp; omega, hKb _ ?_⟩) fun h2 => hKb _ ?_)⟩)⟩
      · simp only [gI_nat] at h1; rw [e, hs, if_pos (by simp only [isRem, h, h1, Bool.true_or, Bool.and_true])]
      · simp only [gI_nat] at h1 h2; rw [e, hs, if_pos (by simp only [isRem, h, h1, h2, Bool.or_true, Bool.and_true])]
      · simp only [gI_nat] at h1 h2; rw [e, hs, if_neg (by simp only [isRem, h1, h2, Bool.or_false, Bool.and_false]; simp)]
    · simp only [gB_nat] at h
      refine hKb _ ?_
      rw [e, hs, if_neg (by simp only [isRem, h, Bool.false_and]; simp)]
  · rintro _ rfl Kb
    exact br_f (by simp [len_eq]) hK

/-- Valid generations. -/
structure GVp (l r ro : List Int) (old : List Bool) (re : List Int) : Prop where
  h : HVp l r ro
  o : old.length = l.length
  m : re = rem l r old
instance (l r ro : List Int) (old : List Bool) (re : List Int) : Decidable (GVp l r ro old re) := decidable_of_iff (HVp l r ro ∧ old.length = l.length ∧ re = rem l r old) ⟨fun ⟨a, b, c⟩ => ⟨a, b, c⟩, fun ⟨a, b, c⟩ => ⟨a, b, c⟩⟩
theorem L_sGensValid {l r ro re : List Int} {old : List Bool} {K : Bool → Prop} (hr : re.length < 2 ^ 62) (hK : K (decide (GVp l r ro old re))) : Ms_GensValid l r ro old re K := by
  have no : ¬ GVp l r ro old re → K false := fun h => by rwa [decide_eq_false h] at hK
  refine L_sHeapValid (br (fun h1 => br (fun h2 => ?_) fun h2 => no fun hh => ?_) fun h1 => no fun hh => ?_)
  · have h1 := of_decide_eq_true h1
    have h2 : old.length = l.length := by simp [len_eq] at h2; omega
    refine L_l11Remember h1 h2 (L_l1Ints hr ?_)
    have : decide (re = rem l r old) = decide (GVp l r ro old re) := decide_eq_decide.2 ⟨fun h => ⟨h1, h2, h⟩, fun h => h.m⟩
    rw [this]; exact hK
  · have := hh.o; simp [len_eq] at h2; omega
  · exact of_decide_eq_false h1 hh.h
theorem L_iGensValid {l r ro re : List Int} {old : List Bool} {K : Bool → Prop} (hr : re.length < 2 ^ 62) (hK : K (decide (GVp l r ro old re))) : Mi_GensValid l r ro old re K := by
  have no : ¬ GVp l r ro old re → K false := fun h => by rwa [decide_eq_false h] at hK
  refine L_iHeapValid (br (fun h1 => br (fun h2 => ?_) fun h2 => no fun hh => ?_) fun h1 => no fun hh => ?_)
  · have h1 := of_decide_eq_true h1
    have h2 : old.length = l.length := by simp [len_eq] at h2; omega
    refine L_remembered h1 h2 (L_Equal_int hr ?_)
    have : decide (re = rem l r old) = decide (GVp l r ro old re) := decide_eq_decide.2 ⟨fun h => ⟨h1, h2, h⟩, fun h => h.m⟩
    rw [this]; exact hK
  · have := hh.o; simp [len_eq] at h2; omega
  · exact of_decide_eq_false h1 hh.h
end Go.Ab
