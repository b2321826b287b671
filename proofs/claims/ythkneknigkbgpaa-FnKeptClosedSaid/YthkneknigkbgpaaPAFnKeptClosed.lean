/-
  What is proved here: the plain laws that the law FnKeptClosed needs: what its functions compute, and that its model returns true. Conditions: those written in each statement.
-/
import Derived.Test.YthkneknigkbgpaaGM
namespace Go.Ab
set_option linter.unusedVariables false
set_option linter.unusedSimpArgs false
theorem wrap64 {x : Int} (h1 : -9223372036854775808 ≤ x) (h2 : x < 9223372036854775808) : IntKind.i64.wrap x = x := by
  simp [IntKind.wrap, IntKind.signed, IntKind.bits]
  split <;> omega
theorem iadd_eq {a b : Int} (h1 : -9223372036854775808 ≤ a + b) (h2 : a + b < 9223372036854775808) : iadd a b = a + b := wrap64 h1 h2
theorem isub_eq {a b : Int} (h1 : -9223372036854775808 ≤ a - b) (h2 : a - b < 9223372036854775808) : isub a b = a - b := wrap64 h1 h2
theorem imul_eq {a b : Int} (h1 : -9223372036854775808 ≤ a * b) (h2 : a * b < 9223372036854775808) : imul a b = a * b := wrap64 h1 h2
theorem iadd_nat {i : Nat} (h : i < 2 ^ 62) : iadd (i : Int) 1 = ((i + 1 : Nat) : Int) := by rw [iadd_eq] <;> omega
theorem inB_nat {i n : Nat} : inB (i : Int) n = (i < n) := by simp [inB]
theorem gI_nat (l : List Int) (i : Nat) : gI l (i : Int) = l.getD i 0 := by simp [gI, EK.dflt]
theorem gB_nat (l : List Bool) (i : Nat) : gB l (i : Int) = l.getD i false := by simp [gB, EK.dflt]
theorem uL_nat {α : Type} (l : List α) (i : Nat) (v : α) : uL l (i : Int) v = l.set i v := by simp [uL]
theorem len_eq {α : Type} (l : List α) : len l = (l.length : Int) := rfl
/-- A loop that counts. -/
theorem LoopP_for {S : Type} {body : S → (S → Prop) → (S → Prop) → Prop} {Kx : S → Prop} {s : S} (J : Nat → S → Prop) (n : Nat) (h0 : J 0 s)
    (step : ∀ i s, i < n → J i s → ∀ Kb : S → Prop, (∀ s', J (i + 1) s' → Kb s') → body s Kb Kx) (last : ∀ s, J n s → ∀ Kb : S → Prop, body s Kb Kx) : LoopP body s Kx := by
  suffices hh : ∀ k i s, n - i < k → i ≤ n → J i s → itP body k s Kx from ⟨n + 1, hh _ 0 s (by omega) (by omega) h0⟩
  intro k
  induction k with
  | zero => intro i s h; omega
  | succ k ih =>
    intro i s hk hi hj
    by_cases e : i = n
    · subst e; exact last s hj _
    · exact step i s (by omega) hj _ fun s' h' => ih (i + 1) s' (by omega) (by omega) h'
theorem br {b : Bool} {P Q : Prop} (h1 : b = true → P) (h2 : b = false → Q) : (b = true → P) ∧ (b = false → Q) := ⟨h1, h2⟩
theorem br_t {b : Bool} {P Q : Prop} (h : b = true) (hp : P) : (b = true → P) ∧ (b = false → Q) := ⟨fun _ => hp, fun h' => by rw [h] at h'; cases h'⟩
theorem br_f {b : Bool} {P Q : Prop} (h : b = false) (hq : Q) : (b = true → P) ∧ (b = false → Q) := ⟨fun h' => (by rw [h] at h'; cases h'), fun _ => hq⟩
theorem getD_lt {α : Type} {l : List α} {i : Nat} {d : α} (h : i < l.length) : l.getD i d = l[i] := by simp [List.getD_eq_getElem?_getD, h]
theorem eqL_iff {α : Type} (d : α) (p q : List α) (h : p.length = q.length) (hj : ∀ j, j < p.length → p.getD j d = q.getD j d) : p = q := by
  apply List.ext_getElem h
  intro i h1 h2
  have := hj i h1
  rwa [getD_lt h1, getD_lt h2] at this
/-- Two lists are compared. -/
theorem eqLoop3 {α : Type} [DecidableEq α] (d : α) (p1 p2 : List α) (hb : p1.length < 2 ^ 62) (K : Bool → Prop) (hK : K (decide (p1 = p2))) (hl : p1.length = p2.length) :
    (LoopP (S := List α × List α × Int) (fun s1 Kb1 Kx1 =>
(((decide (s1.2.2 < (len s1.1))) = true →
((inB s1.2.2 (List.length s1.1)) ∧
((inB s1.2.2 (List.length s1.2.1)) ∧
((((s1.1.getD s1.2.2.toNat d) != (s1.2.1.getD s1.2.2.toNat d)) = true →
(K false)) ∧
(((s1.1.getD s1.2.2.toNat d) != (s1.2.1.getD s1.2.2.toNat d)) = false →
(Kb1 (s1.1, s1.2.1, (iadd s1.2.2 1)))))))) ∧
((decide (s1.2.2 < (len s1.1))) = false →
(Kx1 (s1.1, s1.2.1, s1.2.2)))))
(p1, p2, 0) fun s1 => (K true)) := by
  refine LoopP_for (fun i s => s = (p1, p2, (i : Int)) ∧ ∀ j, j < i → p1.getD j d = p2.getD j d) p1.length ⟨rfl, by omega⟩ ?_ ?_
  · rintro i _ hi ⟨rfl, hj⟩ Kb hKb
    refine br_t (by simp [len_eq]; exact hi) ⟨by simp [inB_nat]; exact hi, by simp [inB_nat]; omega, br (fun h => ?_) fun h => ?_⟩
    · simp at h
      have : p1 ≠ p2 := fun e => h (by rw [e])
      simpa [this] using hK
    · simp at h
      refine hKb _ ⟨by rw [iadd_nat (by omega)], fun j hji => ?_⟩
      rcases Nat.lt_succ_iff_lt_or_eq.1 hji with e | e
      · exact hj j e
      · subst e; exact h
  · rintro _ ⟨rfl, hj⟩ Kb
    refine br_f (by simp [len_eq]) ?_
    have := eqL_iff d p1 p2 hl hj
    simpa [this] using hK
theorem eqLoop4 {α : Type} [DecidableEq α] (d : α) (p1 p2 : List α) (hb : p1.length < 2 ^ 62) (K : Bool → Prop) (hK : K (decide (p1 = p2))) (hl : p1.length = p2.length) :
    (LoopP (S := List α × List α × Int × Int) (fun s1 Kb1 Kx1 =>
(((decide (s1.2.2.2 < s1.2.2.1)) = true →
((inB s1.2.2.2 (List.length s1.1)) ∧
((inB s1.2.2.2 (List.length s1.2.1)) ∧
((((s1.1.getD s1.2.2.2.toNat d) != (s1.2.1.getD s1.2.2.2.toNat d)) = true →
(K false)) ∧
(((s1.1.getD s1.2.2.2.toNat d) != (s1.2.1.getD s1.2.2.2.toNat d)) = false →
(Kb1 (s1.1, s1.2.1, s1.2.2.1, (iadd s1.2.2.2 1)))))))) ∧
((decide (s1.2.2.2 < s1.2.2.1)) = false →
(Kx1 (s1.1, s1.2.1, s1.2.2.1, s1.2.2.2)))))
(p1, p2, len p1, 0) fun s1 => (K true)) := by
  refine LoopP_for (fun i s => s = (p1, p2, len p1, (i : Int)) ∧ ∀ j, j < i → p1.getD j d = p2.getD j d) p1.length ⟨rfl, by omega⟩ ?_ ?_
  · rintro i _ hi ⟨rfl, hj⟩ Kb hKb
    refine br_t (by simp [len_eq]; exact hi) ⟨by simp [inB_nat]; exact hi, by simp [inB_nat]; omega, br (fun h => ?_) fun h => ?_⟩
    · simp at h
      have : p1 ≠ p2 := fun e => h (by rw [e])
      simpa [this] using hK
    · simp at h
      refine hKb _ ⟨by rw [iadd_nat (by omega)], fun j hji => ?_⟩
      rcases Nat.lt_succ_iff_lt_or_eq.1 hji with e | e
      · exact hj j e
      · subst e; exact h
  · rintro _ ⟨rfl, hj⟩ Kb
    refine br_f (by simp [len_eq]) ?_
    have := eqL_iff d p1 p2 hl hj
    simpa [this] using hK
theorem eqGate {α : Type} [DecidableEq α] {p1 p2 : List α} {K : Bool → Prop} {P : Prop} (hK : K (decide (p1 = p2))) (h : p1.length = p2.length → P) :
    (((len p1) != (len p2)) = true → (K false)) ∧ (((len p1) != (len p2)) = false → P) := by
  refine br (fun e => ?_) fun e => h ?_
  · have : p1 ≠ p2 := by rintro rfl; simp at e
    simpa [this] using hK
  · simp [len_eq] at e; omega
theorem L_l1Ints {p q : List Int} {K : Bool → Prop} (hp : p.length < 2 ^ 62) (hK : K (decide (p = q))) : Ms_l1Ints p q K := eqGate hK fun hl => eqLoop3 0 p q hp K hK hl
theorem L_ccInts {p q : List Int} {K : Bool → Prop} (hp : p.length < 2 ^ 62) (hK : K (decide (p = q))) : Ml_ccInts p q K := eqGate hK fun hl => eqLoop3 0 p q hp K hK hl
theorem L_Equal_int {p q : List Int} {K : Bool → Prop} (hp : p.length < 2 ^ 62) (hK : K (decide (p = q))) : M_Equal_int p q K := eqGate hK fun hl => eqLoop4 0 p q hp K hK hl
theorem step_t {b : Bool} {P Q : Prop} (h : b = true) (hq : Q) : ((!b) = true → P) ∧ ((!b) = false → Q) := br_f (by simp [h]) hq
def okP (n : Nat) (x : Int) : Prop := -1 ≤ x ∧ x < n
instance (n : Nat) (x : Int) : Decidable (okP n x) := inferInstanceAs (Decidable (_ ∧ _))
/-- A valid heap. -/
structure HVp (l r ro : List Int) : Prop where
  lr : l.length = r.length
  l1 : 1 ≤ l.length
  l8 : l.length ≤ 8
  r1 : 1 ≤ ro.length
  r3 : ro.length ≤ 3
  okl : ∀ x ∈ l, okP l.length x
  okr : ∀ x ∈ r, okP l.length x
  oko : ∀ x ∈ ro, okP l.length x
instance (l r ro : List Int) : Decidable (HVp l r ro) :=
  decidable_of_iff (l.length = r.length ∧ 1 ≤ l.length ∧ l.length ≤ 8 ∧ 1 ≤ ro.length ∧ ro.length ≤ 3 ∧ (∀ x ∈ l, okP l.length x) ∧ (∀ x ∈ r, okP l.length x) ∧ (∀ x ∈ ro, okP l.length x))
    ⟨fun ⟨a, b, c, d, e, f, g, h⟩ => ⟨a, b, c, d, e, f, g, h⟩, fun ⟨a, b, c, d, e, f, g, h⟩ => ⟨a, b, c, d, e, f, g, h⟩⟩
theorem all_getD {α : Type} (d : α) {l : List α} {p : α → Prop} (h : ∀ j, j < l.length → p (l.getD j d)) : ∀ x ∈ l, p x := by
  intro x hx
  obtain ⟨i, hi, rfl⟩ := List.getElem_of_mem hx
  have := h i hi
  rwa [getD_lt hi] at this
theorem getD_mem {α : Type} (d : α) {l : List α} {i : Nat} (h : i < l.length) : l.getD i d ∈ l := by rw [getD_lt h]; exact List.getElem_mem h
theorem L_l1Points {a : Int} {n : Nat} {K : Bool → Prop} (hK : K (decide (okP n a))) : Ms_l1Points a n K := by
  refine br (fun h => ?_) fun h => ?_
  · simp at h; simpa [okP, h] using hK
  · simp at h; rw [decide_eq_false (fun hh => by have := hh.1; omega)] at hK; exact hK
theorem L_sHeapValid {l r ro : List Int} {K : Bool → Prop} (hK : K (decide (HVp l r ro))) : Ms_HeapValid l r ro K := by
  have no : ¬ HVp l r ro → K false := fun h => by rwa [decide_eq_false h] at hK
  have yes : HVp l r ro → K true := fun h => by rwa [decide_eq_true h] at hK
  refine br (fun h => no fun hh => ?_) fun h1 => br (fun h => no fun hh => ?_) fun h2 => br (fun h => no fun hh => ?_) fun h3 => br (fun h => no fun hh => ?_) fun h4 => br (fun h => no fun hh => ?_) fun h5 => ?_
  · have := hh.l1; replace h := of_decide_eq_true h; simp only [len_eq] at h; omega
  · have := hh.l8; simp [len_eq] at h; omega
  · have := hh.lr; simp [len_eq] at h; omega
  · have := hh.r1; replace h := of_decide_eq_true h; simp only [len_eq] at h; omega
  · have := hh.r3; simp [len_eq] at h; omega
  replace h1 : 1 ≤ l.length := by have := of_decide_eq_false h1; simp only [len_eq] at this; omega
  replace h2 : l.length ≤ 8 := by have := of_decide_eq_false h2; simp only [len_eq] at this; omega
  replace h3 : r.length = l.length := by simp [len_eq] at h3; omega
  replace h4 : 1 ≤ ro.length := by have := of_decide_eq_false h4; simp only [len_eq] at this; omega
  replace h5 : ro.length ≤ 3 := by have := of_decide_eq_false h5; simp only [len_eq] at this; omega
  refine LoopP_for (fun i s => s = (len l, (i : Int), l, r, ro) ∧ ∀ j, j < i → okP l.length (l.getD j 0) ∧ okP l.length (r.getD j 0)) l.length ⟨rfl, by omega⟩ ?_ ?_
  · rintro i _ hi ⟨rfl, hj⟩ Kb hKb
    refine br_t (by simp [len_eq]; exact hi) ⟨by simp [inB_nat]; exact hi, ?_⟩
    refine L_l1Points (br (fun h => no fun hh => ?_) fun h => ⟨by simp [inB_nat]; omega, L_l1Points (br (fun h' => no fun hh => ?_) fun h' => hKb _ ⟨by rw [iadd_nat (by omega)], fun j hji => ?_⟩)⟩)
    · simp [-List.getD_eq_getElem?_getD, gI_nat] at h; exact h (hh.okl _ (getD_mem 0 hi))
    · simp [-List.getD_eq_getElem?_getD, gI_nat] at h'; exact h' (hh.okr _ (getD_mem 0 (by omega)))
    · simp [-List.getD_eq_getElem?_getD, gI_nat] at h h'
      rcases Nat.lt_succ_iff_lt_or_eq.1 hji with e | e
      · exact hj j e
      · subst e; exact ⟨h, h'⟩
  · rintro _ ⟨rfl, hj⟩ Kb
    refine br_f (by simp [len_eq]) ?_
    refine LoopP_for (fun i s => s = (len l, (i : Int), l, r, ro) ∧ ∀ j, j < i → okP l.length (ro.getD j 0)) ro.length ⟨rfl, by omega⟩ ?_ ?_
    · rintro i _ hi ⟨rfl, hk⟩ Kb hKb
      refine br_t (by simp [len_eq]; exact hi) ⟨by simp [inB_nat]; exact hi, ?_⟩
      refine L_l1Points (br (fun h => no fun hh => ?_) fun h => hKb _ ⟨by rw [iadd_nat (by omega)], fun j hji => ?_⟩)
      · simp [-List.getD_eq_getElem?_getD, gI_nat] at h; exact h (hh.oko _ (getD_mem 0 hi))
      · simp [-List.getD_eq_getElem?_getD, gI_nat] at h
        rcases Nat.lt_succ_iff_lt_or_eq.1 hji with e | e
        · exact hk j e
        · subst e; exact h
    · rintro _ ⟨rfl, hk⟩ Kb
      refine br_f (by simp [len_eq]) (yes ⟨h3.symm, h1, h2, h4, h5, all_getD 0 fun j h => (hj j h).1, all_getD 0 fun j h => (hj j (by omega)).2, all_getD 0 hk⟩)
theorem L_iHeapValid {l r ro : List Int} {K : Bool → Prop} (hK : K (decide (HVp l r ro))) : Mi_HeapValid l r ro K := by
  have no : ¬ HVp l r ro → K false := fun h => by rwa [decide_eq_false h] at hK
  have yes : HVp l r ro → K true := fun h => by rwa [decide_eq_true h] at hK
  refine br (fun h => no fun hh => ?_) fun h3 => br (fun h => no fun hh => ?_) fun h1 => br (fun h => no fun hh => ?_) fun h2 => br (fun h => no fun hh => ?_) fun h4 => br (fun h => no fun hh => ?_) fun h5 => ?_
  · have := hh.lr; simp [len_eq] at h; omega
  · have := hh.l1; replace h := of_decide_eq_true h; simp only [len_eq] at h; omega
  · have := hh.l8; simp [len_eq] at h; omega
  · have := hh.r1; replace h := of_decide_eq_true h; simp only [len_eq] at h; omega
  · have := hh.r3; simp [len_eq] at h; omega
  replace h1 : 1 ≤ l.length := by have := of_decide_eq_false h1; simp only [len_eq] at this; omega
  replace h2 : l.length ≤ 8 := by have := of_decide_eq_false h2; simp only [len_eq] at this; omega
  replace h3 : r.length = l.length := by simp [len_eq] at h3; omega
  replace h4 : 1 ≤ ro.length := by have := of_decide_eq_false h4; simp only [len_eq] at this; omega
  replace h5 : ro.length ≤ 3 := by have := of_decide_eq_false h5; simp only [len_eq] at this; omega
  have hlen : ∀ i, i < 3 → (([l, r, ro] : List (List Int)).getD i []).length ≤ 8 := by
    intro i hi
    match i, hi with
    | 0, _ => exact h2
    | 1, _ => show r.length ≤ 8; omega
    | 2, _ => show ro.length ≤ 8; omega
  have hmem : HVp l r ro → ∀ i, i < 3 → ∀ x ∈ ([l, r, ro] : List (List Int)).getD i [], okP l.length x := by
    intro hh i hi
    match i, hi with
    | 0, _ => exact hh.okl
    | 1, _ => exact hh.okr
    | 2, _ => exact hh.oko
  refine LoopP_for (fun i s => s = (3, (i : Int), l, r, ro, [l, r, ro]) ∧ ∀ j, j < i → ∀ x ∈ ([l, r, ro] : List (List Int)).getD j [], okP l.length x) 3 ⟨rfl, by omega⟩ ?_ ?_
  · rintro i _ hi ⟨rfl, hj⟩ Kb hKb
    have hg : gL [l, r, ro] (i : Int) = ([l, r, ro] : List (List Int)).getD i [] := by simp [gL, EK.dflt]
    refine br_t (by simp; omega) ⟨by simp [inB_nat]; exact hi, ?_⟩
    simp only [hg]
    have hl := hlen i hi
    have hm := fun hh => hmem hh i hi
    generalize hq : ([l, r, ro] : List (List Int)).getD i [] = q at hl hm
    refine LoopP_for (fun k s => s = (3, (i : Int), q, len q, (k : Int), l, r, ro, [l, r, ro]) ∧ ∀ j, j < k → okP l.length (q.getD j 0)) q.length ⟨rfl, by omega⟩ ?_ ?_
    · rintro k _ hk ⟨rfl, hkj⟩ Kb' hKb'
      refine br_t (by simp [len_eq]; exact hk) ⟨by simp [inB_nat]; exact hk, br (fun h => no fun hh => ?_) fun h => br (fun h' => no fun hh => ?_) fun h' => hKb' _ ⟨by rw [iadd_nat (by omega)], fun j hji => ?_⟩⟩
      · have := of_decide_eq_true h; simp only [gI_nat] at this; have := (hm hh _ (getD_mem 0 hk)).1; omega
      · have := of_decide_eq_true h'; simp only [gI_nat, len_eq] at this; have := (hm hh _ (getD_mem 0 hk)).2; omega
      · have a := of_decide_eq_false h
        have b := of_decide_eq_false h'
        simp only [gI_nat, len_eq] at a b
        rcases Nat.lt_succ_iff_lt_or_eq.1 hji with e | e
        · exact hkj j e
        · subst e; exact ⟨by omega, by omega⟩
    · rintro _ ⟨rfl, hkj⟩ Kb'
      refine br_f (by simp [len_eq]) (hKb _ ⟨by rw [iadd_nat (by omega)], fun j hji => ?_⟩)
      rcases Nat.lt_succ_iff_lt_or_eq.1 hji with e | e
      · exact hj j e
      · subst e; rw [hq]; exact all_getD 0 hkj
  · rintro _ ⟨rfl, hj⟩ Kb
    refine br_f (by simp) (yes ⟨h3.symm, h1, h2, h4, h5, hj 0 (by omega), hj 1 (by omega), hj 2 (by omega)⟩)
theorem HVp.gl {l r ro : List Int} (h : HVp l r ro) {i : Nat} (hi : i < l.length) : okP l.length (l.getD i 0) := h.okl _ (getD_mem 0 hi)
theorem HVp.gr {l r ro : List Int} (h : HVp l r ro) {i : Nat} (hi : i < l.length) : okP l.length (r.getD i 0) := h.okr _ (getD_mem 0 (by rw [← h.lr]; exact hi))
/-- Does a pointer lead to a young cell? -/
def yg (old : List Bool) (x : Int) : Bool := x != -1 && !(old.getD x.toNat false)
theorem L_l11Young {old : List Bool} {x : Int} {K : Bool → Prop} (hx : okP old.length x) (hK : K (yg old x)) : Ms_l11Young old x K := by
  refine br (fun h => ⟨⟨?_, hx.2⟩, ?_⟩) fun h => ?_
  · have := hx.1; simp at h; omega
  · simpa [yg, h, gB, EK.dflt] using hK
  · simpa [yg, h] using hK
theorem L_remembered_1 {old : List Bool} {x : Int} {K : Bool → Prop} (hx : okP old.length x) (hK : K (yg old x)) : Mi_remembered_1 x old K := by
  refine br (fun h => ⟨⟨?_, hx.2⟩, ?_⟩) fun h => ?_
  · have := hx.1; simp at h; omega
  · simpa [yg, h, gB, EK.dflt] using hK
  · simpa [yg, h] using hK
/-- Is an old cell remembered? -/
def isRem (l r : List Int) (old : List Bool) (i : Nat) : Bool := old.getD i false && (yg old (l.getD i 0) || yg old (r.getD i 0))
def remU (l r : List Int) (old : List Bool) (n : Nat) : List Int := ((List.range n).filter (isRem l r old)).map fun (i : Nat) => (i : Int)
def rem (l r : List Int) (old : List Bool) : List Int := remU l r old old.length
theorem remU_succ (l r : List Int) (old : List Bool) (n : Nat) : remU l r old (n + 1) = if isRem l r old n then remU l r old n ++ [(n : Int)] else remU l r old n := by
  unfold remU
  rw [List.range_succ, List.filter_append]
  cases h : isRem l r old n <;> simp [h]
theorem remU_len (l r : List Int) (old : List Bool) (n : Nat) : (remU l r old n).length ≤ n := by
  unfold remU
  rw [List.length_map]
  exact Nat.le_trans (List.length_filter_le _ _) (by simp)
theorem L_l11Remember {l r ro : List Int} {old : List Bool} {K : List Int → Prop} (hv : HVp l r ro) (ho : old.length = l.length) (hK : K (rem l r old)) : Ms_l11Remember l r ro old K := by
  have h8 := hv.l8
  refine LoopP_for (fun i s => s = (old, (i : Int), l, r, ro, remU l r old i)) old.length rfl ?_ ?_
  · rintro i _ hi rfl Kb hKb
    have hlen := remU_len l r old i
    have hs := remU_succ l r old i
    have e : iadd (i : Int) 1 = ((i + 1 : Nat) : Int) := iadd_nat (by omega)
    refine br_t (by simp [len_eq]; exact hi) ⟨by simp [inB_nat]; exact hi, br (fun h => ?_) fun h => ?_⟩
    · simp only [gB_nat] at h
      refine ⟨by simp [inB_nat]; omega, L_l11Young (by simp only [gI_nat]; rw [ho]; exact hv.gl (by omega)) (br (fun h1 => ⟨by simp; omega, hKb _ ?_⟩) fun h1 => ⟨by have := hv.lr; simp [inB_nat]; omega, L_l11Young (by simp only [gI_nat]; rw [ho]; exact hv.gr (by omega)) (br (fun h2 => ⟨by simp; omega, hKb _ ?_⟩) fun h2 => hKb _ ?_)⟩)⟩
      · simp only [gI_nat] at h1; rw [e, hs, if_pos (by simp only [isRem, h, h1, Bool.true_or, Bool.and_true])]
      · simp only [gI_nat] at h1 h2; rw [e, hs, if_pos (by simp only [isRem, h, h1, h2, Bool.or_true, Bool.and_true])]
      · simp only [gI_nat] at h1 h2; rw [e, hs, if_neg (by simp only [isRem, h1, h2, Bool.or_false, Bool.and_false]; simp)]
    · simp only [gB_nat] at h
      refine hKb _ ?_
      rw [e, hs, if_neg (by simp only [isRem, h, Bool.false_and]; simp)]
  · rintro _ rfl Kb
    exact br_f (by simp [len_eq]) hK
theorem L_remembered {l r ro : List Int} {old : List Bool} {K : List Int → Prop} (hv : HVp l r ro) (ho : old.length = l.length) (hK : K (rem l r old)) : Mi_remembered l r ro old K := by
  have h8 := hv.l8
  refine LoopP_for (fun i s => s = (old, len old, (i : Int), l, r, ro, old, remU l r old i)) old.length rfl ?_ ?_
  · rintro i _ hi rfl Kb hKb
    have hlen := remU_len l r old i
    have hs := remU_succ l r old i
    have e : iadd (i : Int) 1 = ((i + 1 : Nat) : Int) := iadd_nat (by omega)
    refine br_t (by simp [len_eq]; exact hi) ⟨by simp [inB_nat]; exact hi, br (fun h => ?_) fun h => ?_⟩
    · simp only [gB_nat] at h
      refine ⟨by simp [inB_nat]; omega, L_remembered_1 (by simp only [gI_nat]; rw [ho]; exact hv.gl (by omega)) (br (fun h1 => ⟨by simp; omega, hKb _ ?_⟩) fun h1 => ⟨by have := hv.lr; simp [inB_nat]; omega, L_remembered_1 (by simp only [gI_nat]; rw [ho]; exact hv.gr (by omega)) (br (fun h2 => ⟨by simp; omega, hKb _ ?_⟩) fun h2 => hKb _ ?_)⟩)⟩
      · simp only [gI_nat] at h1; rw [e, hs, if_pos (by simp only [isRem, h, h1, Bool.true_or, Bool.and_true])]
      · simp only [gI_nat] at h1 h2; rw [e, hs, if_pos (by simp only [isRem, h, h1, h2, Bool.or_true, Bool.and_true])]
      · simp only [gI_nat] at h1 h2; rw [e, hs, if_neg (by simp only [isRem, h1, h2, Bool.or_false, Bool.and_false]; simp)]
    · simp only [gB_nat] at h
      refine hKb _ ?_
      rw [e, hs, if_neg (by simp only [isRem, h, Bool.false_and]; simp)]
  · rintro _ rfl Kb
    exact br_f (by simp [len_eq]) hK
/-- Valid generations. -/
structure GVp (l r ro : List Int) (old : List Bool) (re : List Int) : Prop where
  h : HVp l r ro
  o : old.length = l.length
  m : re = rem l r old
instance (l r ro : List Int) (old : List Bool) (re : List Int) : Decidable (GVp l r ro old re) := decidable_of_iff (HVp l r ro ∧ old.length = l.length ∧ re = rem l r old) ⟨fun ⟨a, b, c⟩ => ⟨a, b, c⟩, fun ⟨a, b, c⟩ => ⟨a, b, c⟩⟩
theorem L_sGensValid {l r ro re : List Int} {old : List Bool} {K : Bool → Prop} (hr : re.length < 2 ^ 62) (hK : K (decide (GVp l r ro old re))) : Ms_GensValid l r ro old re K := by
  have no : ¬ GVp l r ro old re → K false := fun h => by rwa [decide_eq_false h] at hK
  refine L_sHeapValid (br (fun h1 => br (fun h2 => ?_) fun h2 => no fun hh => ?_) fun h1 => no fun hh => ?_)
  · have h1 := of_decide_eq_true h1
    have h2 : old.length = l.length := by simp [len_eq] at h2; omega
    refine L_l11Remember h1 h2 (L_l1Ints hr ?_)
    have : decide (re = rem l r old) = decide (GVp l r ro old re) := decide_eq_decide.2 ⟨fun h => ⟨h1, h2, h⟩, fun h => h.m⟩
    rw [this]; exact hK
  · have := hh.o; simp [len_eq] at h2; omega
  · exact of_decide_eq_false h1 hh.h
theorem L_iGensValid {l r ro re : List Int} {old : List Bool} {K : Bool → Prop} (hr : re.length < 2 ^ 62) (hK : K (decide (GVp l r ro old re))) : Mi_GensValid l r ro old re K := by
  have no : ¬ GVp l r ro old re → K false := fun h => by rwa [decide_eq_false h] at hK
  refine L_iHeapValid (br (fun h1 => br (fun h2 => ?_) fun h2 => no fun hh => ?_) fun h1 => no fun hh => ?_)
  · have h1 := of_decide_eq_true h1
    have h2 : old.length = l.length := by simp [len_eq] at h2; omega
    refine L_remembered h1 h2 (L_Equal_int hr ?_)
    have : decide (re = rem l r old) = decide (GVp l r ro old re) := decide_eq_decide.2 ⟨fun h => ⟨h1, h2, h⟩, fun h => h.m⟩
    rw [this]; exact hK
  · have := hh.o; simp [len_eq] at h2; omega
  · exact of_decide_eq_false h1 hh.h
theorem nodup_len : ∀ (n : Nat) (l : List Nat), l.Nodup → (∀ x ∈ l, x < n) → l.length ≤ n
  | 0, l, _, h => by
    cases l with
    | nil => simp
    | cons a l => exact absurd (h a (by simp)) (by omega)
  | n + 1, l, hn, h => by
    by_cases hm : n ∈ l
    · have h1 := nodup_len n (l.erase n) (hn.erase n) fun x hx => by
        have h2 := (List.Nodup.mem_erase_iff hn).1 hx
        have := h x h2.2
        omega
      rw [List.length_erase_of_mem hm] at h1
      omega
    · have := nodup_len n l hn fun x hx => by
        have h2 := h x hx
        have : x ≠ n := fun e => hm (e ▸ hx)
        omega
      omega
/-- Different cells of a heap of n cells. -/
structure CellsP (n : Nat) (s : List Int) : Prop where
  nd : s.Nodup
  ok : ∀ x ∈ s, 0 ≤ x ∧ x < n
instance (n : Nat) (s : List Int) : Decidable (CellsP n s) := decidable_of_iff (s.Nodup ∧ ∀ x ∈ s, 0 ≤ x ∧ x < n) ⟨fun ⟨a, b⟩ => ⟨a, b⟩, fun ⟨a, b⟩ => ⟨a, b⟩⟩
theorem CellsP.len {n : Nat} {s : List Int} (h : CellsP n s) : s.length ≤ n := by
  have h1 : (s.map Int.toNat).Nodup := by
    rw [List.nodup_iff_pairwise_ne, List.pairwise_map]
    refine (List.nodup_iff_pairwise_ne.1 h.nd).imp_of_mem ?_
    intro a b ha hb hab
    have := h.ok a ha; have := h.ok b hb
    omega
  have := nodup_len n _ h1 fun x hx => by
    obtain ⟨a, ha, rfl⟩ := List.mem_map.1 hx
    have := h.ok a ha
    omega
  simpa using this
theorem HVp.atl {l r ro : List Int} (h : HVp l r ro) {x : Int} (h0 : 0 ≤ x) (h1 : x < l.length) : okP l.length (l.getD x.toNat 0) := h.gl (by omega)
theorem HVp.atr {l r ro : List Int} (h : HVp l r ro) {x : Int} (h0 : 0 ≤ x) (h1 : x < l.length) : okP l.length (r.getD x.toNat 0) := h.gr (by omega)
theorem gI_at {l : List Int} {x : Int} : gI l x = l.getD x.toNat 0 := rfl
theorem L_Clone_int {l : List Int} {K : List Int → Prop} (hl : l.length ≤ 2 ^ 36) (hK : K l) : M_Clone_int l K := by
  intro b hb
  refine br (fun h => ?_) fun _ => ⟨hl, hK⟩
  have : l.length = 0 := Classical.byContradiction fun hh => by rw [hb hh] at h; cases h
  rwa [List.length_eq_zero_iff.1 this] at hK
theorem L_l1Copy {l r ro : List Int} {K : Prop} (hv : HVp l r ro) (hK : K) : Ms_l1Copy l r ro K := by
  have := hv.l8; have := hv.lr; have := hv.r3
  exact ⟨by omega, by omega, by omega, hK⟩
theorem L_sNewGens {l r ro : List Int} {K : Bool → List Int → List Int → List Int → List Bool → List Int → Prop} (hy : HVp l r ro → K true l r ro (List.replicate l.length false) []) (hn : ¬ HVp l r ro → K false [] [] [] [] []) : Ms_NewGens l r ro K := by
  refine L_sHeapValid (br (fun h => ?_) fun h => ?_)
  · simp at h; exact hn h
  · simp at h; have := h.l8; exact L_l1Copy h ⟨⟨by simp [len_eq], rfl, by simp [len_eq]; omega⟩, by simpa [len_eq] using hy h⟩
/-- A reader that may draw k more times. -/
structure RdOk (b : List Int) (p : Int) (k : Nat) : Prop where
  by_ : ∀ x ∈ b, 0 ≤ x ∧ x < 256
  len : b.length ≤ 2000
  p0 : 0 ≤ p
  pk : p + k ≤ 1099511627776
theorem RdOk.le {b : List Int} {p : Int} {k k' : Nat} (h : RdOk b p k) (hk : k' ≤ k) : RdOk b p k' := ⟨h.by_, h.len, h.p0, by have := h.pk; omega⟩
theorem RdOk.gY {b : List Int} {p : Int} {k : Nat} (h : RdOk b p k) {i : Int} (h0 : 0 ≤ i) (h1 : i < b.length) : 0 ≤ gY b i ∧ gY b i < 256 := by
  unfold Ab.gY
  exact h.by_ _ (getD_mem _ (by omega))
theorem xor_pos {a b : Int} (ha : 0 ≤ a) (ha' : a < 4611686018427387904) (hb : 0 ≤ b) (hb' : b < 4611686018427387904) :
    0 ≤ IntKind.wrap .i64 (((BitVec.ofInt (IntKind.bits .i64) a ^^^ BitVec.ofInt (IntKind.bits .i64) b).toNat : Int)) := by
  obtain ⟨x, rfl⟩ := Int.eq_ofNat_of_zero_le ha
  obtain ⟨y, rfl⟩ := Int.eq_ofNat_of_zero_le hb
  have hx : x < 2 ^ 62 := by omega
  have hy : y < 2 ^ 62 := by omega
  have h1 : x % 2 ^ 64 = x := Nat.mod_eq_of_lt (by omega)
  have h2 : y % 2 ^ 64 = y := Nat.mod_eq_of_lt (by omega)
  have h3 : (BitVec.ofInt (IntKind.bits .i64) (x : Int) ^^^ BitVec.ofInt (IntKind.bits .i64) (y : Int)).toNat = x ^^^ y := by
    rw [BitVec.toNat_xor]
    have e1 : (BitVec.ofInt (IntKind.bits .i64) (x : Int)).toNat = x % 2 ^ 64 := by simp [BitVec.toNat_ofInt, IntKind.bits]
    have e2 : (BitVec.ofInt (IntKind.bits .i64) (y : Int)).toNat = y % 2 ^ 64 := by simp [BitVec.toNat_ofInt, IntKind.bits]
    rw [e1, e2, h1, h2]
  rw [h3]
  have h4 : x ^^^ y < 2 ^ 62 := Nat.xor_lt_two_pow hx hy
  rw [wrap64 (by omega) (by omega)]
  omega
theorem tmod_in {x n : Int} (hx : 0 ≤ x) (hn : 1 ≤ n) : 0 ≤ x.tmod n ∧ x.tmod n < n := by
  rw [Int.tmod_eq_emod_of_nonneg hx]
  exact ⟨Int.emod_nonneg _ (by omega), Int.emod_lt_of_pos _ (by omega)⟩
theorem L_pick {n : Int} {b : List Int} {p : Int} {k : Nat} {K : Int → Int → Prop} (h : RdOk b p (k + 1)) (hK : ∀ v, 0 ≤ v → (1 ≤ n → v < n) → RdOk b (p + 1) k → K v (p + 1)) : Ms_l13Rd_pick n b p K := by
  have hp := h.p0
  have hk := h.pk
  have hl := h.len
  have e1 : iadd p 1 = p + 1 := iadd_eq (by omega) (by omega)
  have e2 : isub (p + 1) 1 = p := by rw [isub_eq (by omega) (by omega)]; omega
  have hr : RdOk b (p + 1) k := ⟨h.by_, h.len, by omega, by omega⟩
  unfold Ms_l13Rd_pick
  rw [e1, e2]
  refine br (fun h1 => hK 0 (by omega) (fun _ => by omega) hr) fun h1 => br (fun h2 => hK 0 (by omega) (fun _ => by omega) hr) fun h2 => ?_
  have h1 : 1 ≤ n := by have := of_decide_eq_false h1; omega
  have h2 : 0 < b.length := by simp [len_eq] at h2; exact List.length_pos_iff.2 h2
  refine br (fun h3 => ?_) fun h3 => ?_
  · have h3 : p < b.length := by have := of_decide_eq_true h3; simp only [len_eq] at this; omega
    have hg := h.gY hp h3
    refine ⟨⟨hp, h3⟩, by omega, ?_⟩
    have e3 : IntKind.wrap .i64 (gY b p) = gY b p := wrap64 (by omega) (by omega)
    have := tmod_in hg.1 h1
    dsimp only
    rw [e3]
    exact hK _ this.1 (fun _ => this.2) hr
  · have hl' : len b ≠ 0 := by simp only [len_eq]; omega
    have hl1 : (1 : Int) ≤ len b := by simp only [len_eq]; omega
    have hl2 : len b ≤ 2000 := by simp only [len_eq]; omega
    have m1 := tmod_in hp hl1
    have e4 : imul p 7 = p * 7 := imul_eq (by omega) (by omega)
    have e5 : iadd (p * 7) 3 = p * 7 + 3 := iadd_eq (by omega) (by omega)
    have m2 := tmod_in (show 0 ≤ p * 7 + 3 by omega) hl1
    have hg1 := h.gY (i := p.tmod (len b)) m1.1 m1.2
    have hg2 := h.gY (i := (p * 7 + 3).tmod (len b)) m2.1 m2.2
    have e6 : IntKind.wrap .i64 (gY b (p.tmod (len b))) = gY b (p.tmod (len b)) := wrap64 (by omega) (by omega)
    have e7 : IntKind.wrap .i64 (gY b ((p * 7 + 3).tmod (len b))) = gY b ((p * 7 + 3).tmod (len b)) := wrap64 (by omega) (by omega)
    rw [e4, e5]
    refine ⟨hl', ⟨m1.1, m1.2⟩, ?_⟩
    dsimp only
    refine ⟨hl', ⟨m2.1, m2.2⟩, ?_⟩
    rw [e6, e7]
    generalize gY b (p.tmod (len b)) = x1 at hg1
    generalize gY b ((p * 7 + 3).tmod (len b)) = x2 at hg2
    have q0 : 0 ≤ p.tdiv (len b) := Int.tdiv_nonneg hp (by omega)
    have q1 : p.tdiv (len b) ≤ p := by rw [Int.tdiv_eq_ediv_of_nonneg hp]; exact Int.ediv_le_self _ hp
    have f1 : imul x1 131 = x1 * 131 := imul_eq (by omega) (by omega)
    have f2 : imul x2 1117 = x2 * 1117 := imul_eq (by omega) (by omega)
    have f3 : imul p 29 = p * 29 := imul_eq (by omega) (by omega)
    have f4 : iquo p (len b) = p.tdiv (len b) := wrap64 (by omega) (by omega)
    rw [f1, f2, f3, f4]
    generalize p.tdiv (len b) = q at q0 q1
    have f5 : imul q 53 = q * 53 := imul_eq (by omega) (by omega)
    have f6 : iadd (x1 * 131) (x2 * 1117) = x1 * 131 + x2 * 1117 := iadd_eq (by omega) (by omega)
    have f7 : iadd (x1 * 131 + x2 * 1117) (p * 29) = x1 * 131 + x2 * 1117 + p * 29 := iadd_eq (by omega) (by omega)
    have f8 : iadd (x1 * 131 + x2 * 1117 + p * 29) (q * 53) = x1 * 131 + x2 * 1117 + p * 29 + q * 53 := iadd_eq (by omega) (by omega)
    rw [f5, f6, f7, f8]
    have g0 : 0 ≤ x1 * 131 + x2 * 1117 + p * 29 + q * 53 := by omega
    have g1 : x1 * 131 + x2 * 1117 + p * 29 + q * 53 < 4611686018427387904 := by omega
    generalize x1 * 131 + x2 * 1117 + p * 29 + q * 53 = x at g0 g1
    have r0 : 0 ≤ x.tdiv 64 := Int.tdiv_nonneg g0 (by omega)
    have r1 : x.tdiv 64 ≤ x := by rw [Int.tdiv_eq_ediv_of_nonneg g0]; exact Int.ediv_le_self _ g0
    have f9 : iquo x 64 = x.tdiv 64 := wrap64 (by omega) (by omega)
    refine ⟨hl', by omega, by omega, ?_⟩
    rw [f9]
    have := tmod_in (xor_pos g0 g1 r0 (by omega)) h1
    exact hK _ this.1 (fun _ => this.2) hr
theorem L_num {l b : List Int} {p : Int} {k : Nat} {K : Int → Int → Prop} (h : RdOk b p (k + 1)) (hl : 1 ≤ l.length) (hK : ∀ v, v ∈ l → RdOk b (p + 1) k → K v (p + 1)) : Ms_l13Rd_num l b p K := by
  refine L_pick h fun v h0 h1 hr => ?_
  have h1 := h1 (by simp only [len_eq]; omega)
  simp only [len_eq] at h1
  exact ⟨⟨h0, h1⟩, hK _ (getD_mem 0 (by omega)) hr⟩
theorem L_l13Open {c : List Int} {K : List Int → Int → Prop} (hc : ∀ x ∈ c, U8 x) (hK : ∀ b, RdOk b 0 1000000 → K b 0) : Ms_l13Open c K := by
  have h8 : ∀ x ∈ c, 0 ≤ x ∧ x < 256 := fun x hx => by
    have := hc x hx
    simp [U8, Lit.wf, IntKind.min, IntKind.max, IntKind.signed, IntKind.bits] at this
    omega
  refine br (fun h => ⟨⟨by omega, by omega, ?_⟩, hK _ ⟨fun x hx => ?_, ?_, by omega, by omega⟩⟩) fun h => hK _ ⟨h8, ?_, by omega, by omega⟩
  · have := of_decide_eq_true h; omega
  · simp only [sub] at hx; exact h8 x (List.mem_of_mem_take (List.mem_of_mem_drop hx))
  · simp [sub]; omega
  · have := of_decide_eq_false h; simp only [len_eq] at this; omega
theorem L_l1Many {n : Nat} {K : List Int → Prop} (hn : n ≤ 8) (hK : K (List.replicate n (-1))) : Ms_l1Many n K := by
  refine LoopP_for (fun i s => s = ((n : Int), (i : Int), List.replicate i (-1))) n rfl ?_ ?_
  · rintro i _ hi rfl Kb hKb
    refine br_t (by simp; omega) ⟨by simp; omega, hKb _ ?_⟩
    rw [iadd_nat (by omega), ← List.replicate_succ']
  · rintro _ rfl Kb
    exact br_f (by simp) hK
theorem L_sNewHeap {n m : Nat} {K : Bool → List Int → List Int → List Int → Prop} (hn : 1 ≤ n) (hn8 : n ≤ 8) (hm : 1 ≤ m) (hm3 : m ≤ 3) (hK : K true (List.replicate n (-1)) (List.replicate n (-1)) (List.replicate m (-1))) : Ms_NewHeap n m K :=
  br_f (by simp; omega) (br_f (by simp; omega) (br_f (by simp; omega) (br_f (by simp; omega) (L_l1Many hn8 (L_l1Many hn8 (L_l1Many (by omega) hK))))))
theorem ok_set {n : Nat} {l : List Int} {i : Nat} {v : Int} (h : ∀ x ∈ l, okP n x) (hv : okP n v) : ∀ x ∈ l.set i v, okP n x := fun x hx => by
  rcases List.mem_or_eq_of_mem_set hx with hx | rfl
  · exact h x hx
  · exact hv
theorem ok_rep {n m : Nat} : ∀ x ∈ List.replicate m (-1 : Int), okP n x := fun x hx => by
  have := (List.mem_replicate.1 hx).2
  subst this
  exact ⟨by omega, by omega⟩
theorem L_l1Draw {b : List Int} {p : Int} {k : Nat} {K : List Int → Int → List Int → List Int → List Int → Prop} (h : RdOk b p (k + 21)) (hK : ∀ p' l r ro, RdOk b p' k → HVp l r ro → K b p' l r ro) : Ms_l1Draw b p K := by
  refine L_num (k := k + 20) h (by simp) fun y1 hy1 h1 => L_num (k := k + 19) h1 (by simp) fun y3 hy3 h2 => ?_
  have ha : 1 ≤ y1 ∧ y1 ≤ 8 := by simp at hy1; omega
  have hb : 1 ≤ y3 ∧ y3 ≤ 3 := by simp at hy3; omega
  obtain ⟨n, rfl⟩ := Int.eq_ofNat_of_zero_le (show 0 ≤ y1 by omega)
  obtain ⟨m, rfl⟩ := Int.eq_ofNat_of_zero_le (show 0 ≤ y3 by omega)
  refine L_sNewHeap (by omega) (by omega) (by omega) (by omega) ?_
  refine LoopP_for (fun i s => ∃ p' L R, s = ((n : Int), (i : Int), b, p', [], [], [], L, R, List.replicate m (-1)) ∧ RdOk b p' (k + 3 + 2 * (n - i)) ∧ L.length = n ∧ R.length = n ∧ (∀ x ∈ L, okP n x) ∧ ∀ x ∈ R, okP n x) n
    ⟨_, _, _, rfl, h2.le (by omega), by simp, by simp, ok_rep, ok_rep⟩ ?_ ?_
  · rintro i _ hi ⟨p', L, R, rfl, hr, hL, hR, oL, oR⟩ Kb hKb
    have e1 : iadd (n : Int) 2 = n + 2 := iadd_eq (by omega) (by omega)
    refine br_t (by simp; omega) ?_
    dsimp only
    rw [e1]
    refine L_pick (k := k + 3 + 2 * (n - (i + 1)) + 1) (hr.le (by omega)) fun v hv0 hv1 hr1 => ⟨by rw [inB_nat]; omega, L_pick (k := k + 3 + 2 * (n - (i + 1))) hr1 fun w hw0 hw1 hr2 => ⟨by rw [inB_nat]; omega, by rw [inB_nat, uL_nat, List.length_set]; omega, ?_⟩⟩
    have hv1 := hv1 (by omega)
    have hw1 := hw1 (by omega)
    have e2 : isub v 1 = v - 1 := isub_eq (by omega) (by omega)
    have e3 : isub w 2 = w - 2 := isub_eq (by omega) (by omega)
    have g1 : (L.set i (v - 1)).getD i 0 = v - 1 := by rw [getD_lt (by rw [List.length_set]; omega)]; simp
    have g2 : (R.set i (w - 2)).getD i 0 = w - 2 := by rw [getD_lt (by rw [List.length_set]; omega)]; simp
    simp only [e2, e3, uL_nat, gI_nat, g1, g2, List.set_set, inB_nat, List.length_set, hL, hR, hi, true_and]
    have key : ∀ L' R', L'.length = n → R'.length = n → (∀ x ∈ L', okP n x) → (∀ x ∈ R', okP n x) → Kb ((n : Int), iadd (i : Int) 1, b, p' + 1 + 1, [], [], [], L', R', List.replicate m (-1)) := fun L' R' a1 a2 a3 a4 => hKb _ ⟨_, L', R', by rw [iadd_nat (by omega)], hr2, a1, a2, a3, a4⟩
    have m1 : okP n (-1) := ⟨by omega, by omega⟩
    refine br (fun c1 => br (fun c2 => ?_) fun c2 => ?_) fun c1 => br (fun c2 => ?_) fun c2 => ?_
    · exact key _ _ (by simpa using hL) (by simpa using hR) (ok_set oL m1) (ok_set oR m1)
    · exact key _ _ (by simpa using hL) (by simpa using hR) (ok_set oL m1) (ok_set oR ⟨by have := of_decide_eq_false c2; omega, by omega⟩)
    · exact key _ _ (by simpa using hL) (by simpa using hR) (ok_set oL ⟨by omega, by have := of_decide_eq_false c1; omega⟩) (ok_set oR m1)
    · exact key _ _ (by simpa using hL) (by simpa using hR) (ok_set oL ⟨by omega, by have := of_decide_eq_false c1; omega⟩) (ok_set oR ⟨by have := of_decide_eq_false c2; omega, by omega⟩)
  · rintro _ ⟨p', L, R, rfl, hr, hL, hR, oL, oR⟩ Kb
    refine br_f (by simp) ?_
    have e1 : iadd (n : Int) 1 = n + 1 := iadd_eq (by omega) (by omega)
    refine LoopP_for (fun i s => ∃ p' ro, s = ((n : Int), (i : Int), b, p', [], [], [], L, R, ro) ∧ RdOk b p' (k + (m - i)) ∧ ro.length = m ∧ ∀ x ∈ ro, okP n x) m ⟨_, _, rfl, hr.le (by omega), by simp, ok_rep⟩ ?_ ?_
    · rintro i _ hi ⟨p', ro, rfl, hr, hro, oro⟩ Kb hKb
      refine br_t (by simp [len_eq, hro]; omega) ?_
      dsimp only
      rw [e1]
      refine L_pick (k := k + (m - (i + 1))) (hr.le (by omega)) fun v hv0 hv1 hr1 => ⟨by rw [inB_nat]; omega, hKb _ ⟨_, ro.set i (v - 1), ?_, hr1, by simpa using hro, ok_set oro ?_⟩⟩
      · rw [iadd_nat (by omega), isub_eq (by omega) (by have := hv1 (by omega); omega), uL_nat]
      · have := hv1 (by omega); exact ⟨by omega, by omega⟩
    · rintro _ ⟨p', ro, rfl, hr, hro, oro⟩ Kb
      refine br_f (by simp [len_eq, hro]) ?_
      dsimp only
      exact (hK _ _ _ _ (hr.le (by omega)) ⟨by omega, by omega, by omega, by omega, by omega, by rw [hL]; exact oL, by rw [hL]; exact oR, by rw [hL]; exact oro⟩)
theorem eqN {v : Int} {n : Int} {P Q : Prop} (h1 : v = n → P) (h2 : v ≠ n → Q) : ((v == n) = true → P) ∧ ((v == n) = false → Q) := br (fun h => h1 (by simpa using h)) fun h => h2 (by simpa using h)
theorem rem_len (l r : List Int) (old : List Bool) : (rem l r old).length ≤ old.length := remU_len l r old _
theorem L_l11Draw {b : List Int} {p : Int} {k : Nat} {K : List Int → Int → List Int → List Int → List Int → List Bool → List Int → Prop} (h : RdOk b p (k + 29)) (hK : ∀ p' l r ro old re, RdOk b p' k → GVp l r ro old re → K b p' l r ro old re) : Ms_l11Draw b p K := by
  refine L_l1Draw (k := k + 8) h fun p' l r ro hr hv => L_sNewGens (fun _ => ?_) fun hh => absurd hv hh
  have h8 := hv.l8
  refine LoopP_for (fun i s => ∃ p' old, s = ((i : Int), b, p', [], [], [], [], [], l, r, ro, l, r, ro, old, []) ∧ RdOk b p' (k + (l.length - i)) ∧ old.length = l.length) l.length ⟨_, _, rfl, hr.le (by omega), by simp⟩ ?_ ?_
  · rintro i _ hi ⟨p', old, rfl, hr, ho⟩ Kb hKb
    refine br_t (by simp [len_eq, ho]; omega) (L_pick (k := k + (l.length - (i + 1))) (hr.le (by omega)) fun v v0 v1 hr2 => ⟨by rw [inB_nat]; dsimp only; omega, hKb _ ⟨_, old.set i (v == 0), ?_, hr2, by simpa using ho⟩⟩)
    rw [iadd_nat (by omega)]; simp only [uL_nat]
  · rintro _ ⟨p', old, rfl, hr, ho⟩ Kb
    refine br_f (by simp [len_eq, ho]) (L_l11Remember hv ho ?_)
    exact hK _ _ _ _ _ _ (hr.le (by omega)) ⟨hv, ho, rfl⟩
theorem L_l11Wrong {b l r ro re : List Int} {old : List Bool} {p : Int} {k : Nat} {K : Int → List Bool → List Int → Prop} (hv : HVp l r ro) (h : RdOk b p (k + 2)) (ho1 : 1 ≤ old.length) (ho : old.length ≤ 1000) (hre : re.length ≤ 1000)
    (hK : ∀ p' old' re', RdOk b p' k → 1 ≤ old'.length → old'.length ≤ old.length + 1 → re'.length ≤ re.length + 1 → K p' old' re') : Ms_l11Wrong b p l r ro old re K := by
  refine L_l1Copy hv ⟨by omega, by omega, L_pick (k := k + 1) h fun v v0 v1 hr => eqN (fun _ => ?_) fun _ => eqN (fun _ => ?_) fun _ => eqN (fun _ => ?_) fun _ => ?_⟩
  · refine L_pick (k := k) hr fun w w0 w1 hr2 => ?_
    have w1 := w1 (by simp only [len_eq]; omega)
    simp only [len_eq] at w1
    exact ⟨⟨w0, w1⟩, ⟨w0, w1⟩, hK _ _ _ hr2 (by simp [uL]; omega) (by simp [uL]) (by omega)⟩
  · exact L_num (k := k) hr (by simp) fun u hu hr2 => ⟨by simp; omega, hK _ _ _ hr2 ho1 (by omega) (by simp)⟩
  · exact ⟨by simp; omega, hK _ _ _ (hr.le (by omega)) (by simp) (by simp) (by omega)⟩
  · exact hK _ _ _ (hr.le (by omega)) ho1 (by omega) (by omega)
theorem GVp.old1 {l r ro re : List Int} {old : List Bool} (h : GVp l r ro old re) : 1 ≤ old.length := by rw [h.o]; exact h.h.l1
theorem GVp.old8 {l r ro re : List Int} {old : List Bool} (h : GVp l r ro old re) : old.length ≤ 8 := by rw [h.o]; exact h.h.l8
theorem GVp.re8 {l r ro re : List Int} {old : List Bool} (h : GVp l r ro old re) : re.length ≤ 8 := by rw [h.m]; have := rem_len l r old; have := h.old8; omega
theorem L_l11Case {c : List Int} {K : List Int → List Int → List Int → List Bool → List Int → Prop} (hc : ∀ x ∈ c, U8 x) (hK : ∀ l r ro old re, HVp l r ro → old.length ≤ 10 → re.length ≤ 10 → K l r ro old re) : Ms_l11Case c K :=
  L_l13Open hc fun b hb => L_l11Draw (k := 100) (hb.le (by omega)) fun p l r ro old re hr hv =>
    have h1 := hv.old8; have h2 := hv.re8
    L_l11Wrong (k := 98) hv.h hr hv.old1 (by omega) (by omega) fun p' old' re' hr' a1 a2 a3 => hK _ _ _ _ _ hv.h (by omega) (by omega)
theorem rem_get {l r : List Int} {old : List Bool} {i : Nat} (hi : i < (rem l r old).length) : ∃ c : Nat, (rem l r old).getD i 0 = c ∧ c < old.length ∧ isRem l r old c = true := by
  have hm := getD_mem 0 hi
  unfold rem remU at hm ⊢
  obtain ⟨c, hc, he⟩ := List.mem_map.1 hm
  have := List.mem_filter.1 hc
  exact ⟨c, he.symm, by simpa using this.1, this.2⟩
def yk (l r : List Int) (old : List Bool) : Nat → Nat → List Bool → List Int → List Bool
  | 0, i, kept, op => kept
  | f + 1, i, kept, op =>
    if i < op.length then
      (if yg old (op.getD i 0) = true ∧ kept.getD (op.getD i 0).toNat false = false then yk l r old f (i + 1) (kept.set (op.getD i 0).toNat true) (op ++ [l.getD (op.getD i 0).toNat 0, r.getD (op.getD i 0).toNat 0]) else yk l r old f (i + 1) kept op)
    else kept
def openL (l r ro re : List Int) : List Int := ro ++ re.flatMap fun c => [l.getD c.toNat 0, r.getD c.toNat 0]
def keptF (l r ro : List Int) (old : List Bool) (re : List Int) : List Bool := yk l r old ((openL l r ro re).length + 2 * old.length + 1) 0 (List.replicate old.length false) (openL l r ro re)
def idxs (kept : List Bool) (n : Nat) : List Int := ((List.range n).filter fun i => kept.getD i false).map fun (i : Nat) => (i : Int)
theorem idxs_succ (kept : List Bool) (n : Nat) : idxs kept (n + 1) = if kept.getD n false then idxs kept n ++ [(n : Int)] else idxs kept n := by
  unfold idxs
  rw [List.range_succ, List.filter_append]
  cases h : kept.getD n false <;> simp [-List.getD_eq_getElem?_getD, h]
theorem idxs_len (kept : List Bool) (n : Nat) : (idxs kept n).length ≤ n := by
  unfold idxs
  rw [List.length_map]
  exact Nat.le_trans (List.length_filter_le _ _) (by simp)
theorem count_set : ∀ {l : List Bool} {i : Nat}, i < l.length → l.getD i false = false → (l.set i true).count true = l.count true + 1
  | [], i, h, _ => by simp at h
  | a :: l, 0, _, h => by
    simp at h; subst h; simp
  | a :: l, i + 1, h, h1 => by
    have := count_set (l := l) (i := i) (by simpa using h) (by simpa using h1)
    rw [List.set_cons_succ, List.count_cons, List.count_cons, this]
    omega
theorem yk_len {l r : List Int} {old : List Bool} : ∀ (f i : Nat) (kept : List Bool) (op : List Int), (yk l r old f i kept op).length = kept.length
  | 0, i, kept, op => rfl
  | f + 1, i, kept, op => by
    simp only [yk]
    split
    · split
      · rw [yk_len]; simp
      · rw [yk_len]
    · rfl
theorem keptF_len (l r ro : List Int) (old : List Bool) (re : List Int) : (keptF l r ro old re).length = old.length := by simp [keptF, yk_len]
theorem openL_len (l r ro re : List Int) : (openL l r ro re).length = ro.length + 2 * re.length := by
  unfold openL
  rw [List.length_append]
  congr 1
  induction re with
  | nil => rfl
  | cons a re ih => simp only [List.flatMap_cons, List.length_append, List.length_cons, List.length_nil, ih]; omega
theorem openL_succ {l r ro re : List Int} {i : Nat} (h : i < re.length) : openL l r ro (re.take (i + 1)) = openL l r ro (re.take i) ++ [l.getD (re.getD i 0).toNat 0, r.getD (re.getD i 0).toNat 0] := by
  unfold openL
  rw [List.take_add_one, List.getElem?_eq_getElem h, getD_lt h, List.flatMap_append, List.append_assoc]
  simp
theorem yg_ok {old : List Bool} {x : Int} (hx : okP old.length x) (h : yg old x = true) : 0 ≤ x ∧ x < old.length := by
  simp only [yg, Bool.and_eq_true, bne_iff_ne] at h
  have := hx.1; have := hx.2
  exact ⟨by omega, by omega⟩
theorem openL_ok {l r ro re : List Int} {old : List Bool} (h : GVp l r ro old re) {i : Nat} (hi : i ≤ re.length) : ∀ x ∈ openL l r ro (re.take i), okP l.length x := by
  intro x hx
  unfold openL at hx
  rcases List.mem_append.1 hx with hx | hx
  · exact h.h.oko x hx
  · obtain ⟨c, hc, hx⟩ := List.mem_flatMap.1 hx
    have hc := List.mem_of_mem_take hc
    obtain ⟨j, hj, rfl⟩ := List.getElem_of_mem hc
    have hm := h.m
    subst hm
    obtain ⟨c, h1, h2, h3⟩ := rem_get hj
    rw [getD_lt hj] at h1
    rw [h1] at hx
    have h2 : c < l.length := by rw [← h.o]; exact h2
    simp only [Int.toNat_natCast, List.mem_cons, List.not_mem_nil, or_false] at hx
    rcases hx with rfl | rfl
    · exact h.h.gl h2
    · exact h.h.gr h2
theorem GVp.rget {l r ro re : List Int} {old : List Bool} (h : GVp l r ro old re) {i : Nat} (hi : i < re.length) : 0 ≤ re.getD i 0 ∧ re.getD i 0 < l.length := by
  have hm := h.m
  subst hm
  obtain ⟨c, h1, h2, h3⟩ := rem_get hi
  rw [h1]
  have := h.o
  omega
theorem ykStep {l r ro re : List Int} {old : List Bool} (h : GVp l r ro old re) {i f L0 : Nat} {kept : List Bool} {op : List Int} {F : List Bool} (hk : kept.length = l.length) (hop : ∀ x ∈ op, okP l.length x) (hi : i < op.length) (hc : op.length ≤ L0 + 2 * kept.count true)
    (hF : yk l r old (f + 1) i kept op = F) :
    (yg old (op.getD i 0) = true → kept.getD (op.getD i 0).toNat false = false → 0 ≤ op.getD i 0 ∧ op.getD i 0 < l.length ∧ (kept.set (op.getD i 0).toNat true).length = l.length ∧ (∀ x ∈ op ++ [l.getD (op.getD i 0).toNat 0, r.getD (op.getD i 0).toNat 0], okP l.length x) ∧
      (op ++ [l.getD (op.getD i 0).toNat 0, r.getD (op.getD i 0).toNat 0]).length ≤ L0 + 2 * (kept.set (op.getD i 0).toNat true).count true ∧ yk l r old f (i + 1) (kept.set (op.getD i 0).toNat true) (op ++ [l.getD (op.getD i 0).toNat 0, r.getD (op.getD i 0).toNat 0]) = F) ∧
    (¬ (yg old (op.getD i 0) = true ∧ kept.getD (op.getD i 0).toNat false = false) → yk l r old f (i + 1) kept op = F) := by
  have hx := hop _ (getD_mem 0 hi)
  constructor
  · intro h1 h2
    have hy := yg_ok (by rw [h.o]; exact hx) h1
    rw [h.o] at hy
    refine ⟨hy.1, hy.2, by simpa using hk, fun x hx => ?_, ?_, ?_⟩
    · rcases List.mem_append.1 hx with hx | hx
      · exact hop x hx
      · simp only [List.mem_cons, List.not_mem_nil, or_false] at hx
        rcases hx with rfl | rfl
        · exact h.h.gl (by omega)
        · exact h.h.gr (by omega)
    · rw [count_set (by omega) h2, List.length_append]
      simp only [List.length_cons, List.length_nil]
      omega
    · simpa only [yk, if_pos hi, if_pos (And.intro h1 h2)] using hF
  · intro hn
    simpa only [yk, if_pos hi, if_neg hn] using hF
theorem L_iYoungKept {l r ro re : List Int} {old : List Bool} {K : List Int → Prop} (hr : re.length < 2 ^ 62) (hy : GVp l r ro old re → K (idxs (keptF l r ro old re) old.length)) (hn : ¬ GVp l r ro old re → K []) : Mi_YoungKept l r ro old re K := by
  refine L_iGensValid hr (br (fun h => hn ?_) fun h => ?_)
  · simpa using h
  have h : GVp l r ro old re := by simpa using h
  have hK := hy h
  have h8 := h.h.l8; have h1 := h.h.l1; have h3 := h.h.r3; have hre := h.re8; have ho := h.o; have hlr := h.h.lr
  refine ⟨⟨by simp [len_eq], rfl, by simp only [len_eq]; omega⟩, L_Clone_int (by omega) ?_⟩
  refine LoopP_for (fun i s => s = (re, len re, (i : Int), l, r, ro, old, re, List.replicate (Int.toNat (len old)) false, openL l r ro (re.take i))) re.length (by simp [openL]) ?_ ?_
  · rintro i _ hi rfl Kb hKb
    have hg := h.rget hi
    have ht : (re.take i).length ≤ 8 := by rw [List.length_take]; omega
    have hol := openL_len l r ro (re.take i)
    refine br_t (by simp [len_eq]; exact hi) ⟨by rw [inB_nat]; exact hi, ⟨by simp only [gI_nat]; omega, by simp only [gI_nat]; omega⟩, ⟨by simp only [gI_nat]; omega, by simp only [gI_nat]; omega⟩, ?_, hKb _ ?_⟩
    · dsimp only [List.length_cons, List.length_nil]; omega
    · rw [iadd_nat (by omega), openL_succ hi]; simp only [gI_at, Int.toNat_natCast]
  rintro _ rfl Kb
  refine br_f (by simp [len_eq]) ?_
  simp only [List.take_length, len_eq, Int.toNat_natCast]
  have hol := openL_len l r ro re
  refine LoopP_inv (fun s => ∃ (i : Nat) (kept : List Bool) (op : List Int), s = ((i : Int), l, r, ro, old, re, kept, op) ∧ kept.length = l.length ∧ (∀ x ∈ op, okP l.length x) ∧ i ≤ op.length ∧ op.length ≤ (openL l r ro re).length + 2 * kept.count true ∧
    yk l r old ((openL l r ro re).length + 2 * old.length + 1 - i) i kept op = keptF l r ro old re) (fun s => (openL l r ro re).length + 2 * old.length + 1 - s.1.toNat) ?_ ⟨0, _, _, rfl, by simpa using ho, by have := openL_ok h (Nat.le_refl re.length); rwa [List.take_length] at this, by omega, by omega, rfl⟩
  rintro _ ⟨i, kept, op, rfl, hk, hop, hi, hc, hF⟩ Kb hKb
  have hcl : kept.count true ≤ l.length := by rw [← hk]; exact List.count_le_length
  have e1 : iadd (i : Int) 1 = ((i + 1 : Nat) : Int) := iadd_nat (by omega)
  have hm : i < op.length → (openL l r ro re).length + 2 * old.length + 1 - (i + 1) < (openL l r ro re).length + 2 * old.length + 1 - i := by omega
  refine br (fun h' => ?_) fun h' => ?_
  · have hio : i < op.length := by have := of_decide_eq_true h'; simp only [len_eq] at this; omega
    obtain ⟨f, hf⟩ : ∃ f, (openL l r ro re).length + 2 * old.length + 1 - i = f + 1 := ⟨(openL l r ro re).length + 2 * old.length - i, by omega⟩
    have hf' : (openL l r ro re).length + 2 * old.length + 1 - (i + 1) = f := by omega
    rw [hf] at hF
    have hs := ykStep h hk hop hio hc hF
    have hx := hop _ (getD_mem 0 hio)
    have hskip : ¬ (yg old (op.getD i 0) = true ∧ kept.getD (op.getD i 0).toNat false = false) → Kb (iadd (i : Int) 1, l, r, ro, old, re, kept, op) := fun hn =>
      hKb _ ⟨i + 1, kept, op, by rw [e1], hk, hop, by omega, hc, by rw [hf']; exact hs.2 hn⟩ (by simp only [e1, Int.toNat_natCast]; omega)
    refine ⟨by rw [inB_nat]; exact hio, br (fun g => hskip ?_) fun g => ?_⟩
    · simp only [gI_nat, beq_iff_eq] at g; simp [-List.getD_eq_getElem?_getD, yg, g]
    simp only [gI_nat, beq_eq_false_iff_ne] at g
    have hx0 : 0 ≤ op.getD i 0 := by have := hx.1; omega
    have hx1 := hx.2
    refine ⟨⟨by simp only [gI_nat]; omega, by simp only [gI_nat]; omega⟩, br (fun g1 => hskip ?_) fun g1 => ⟨⟨by simp only [gI_nat]; omega, by simp only [gI_nat]; omega⟩, br (fun g2 => hskip ?_) fun g2 => ?_⟩⟩
    · simp only [gI_nat, gB, EK.dflt] at g1; rintro ⟨q1, q2⟩; simp only [yg, g1, Bool.not_true, Bool.and_false] at q1; cases q1
    · simp only [gI_nat, gB, EK.dflt] at g2; rintro ⟨q1, q2⟩; rw [g2] at q2; cases q2
    simp only [gI_nat, gB, EK.dflt] at g1 g2
    obtain ⟨q0, q1, q2, q3, q4, q5⟩ := hs.1 (by simp only [yg, g1, Bool.and_eq_true, bne_iff_ne]; exact ⟨g, rfl⟩) g2
    refine ⟨⟨by simp only [gI_nat]; omega, by simp only [gI_nat]; omega⟩, ⟨by simp only [gI_nat]; omega, by simp only [gI_nat]; omega⟩, ⟨by simp only [gI_nat]; omega, by simp only [gI_nat]; omega⟩, ?_, hKb _ ⟨i + 1, kept.set (op.getD i 0).toNat true, op ++ [l.getD (op.getD i 0).toNat 0, r.getD (op.getD i 0).toNat 0], ?_, q2, q3, ?_, q4, by rw [hf']; exact q5⟩ ?_⟩
    · dsimp only [List.length_cons, List.length_nil]; omega
    · rw [e1]; simp only [gI_at, Int.toNat_natCast, uL]
    · rw [List.length_append]; simp only [List.length_cons, List.length_nil]; omega
    · simp only [e1, Int.toNat_natCast]; omega
  · have hio : ¬ i < op.length := by have := of_decide_eq_false h'; simp only [len_eq] at this; omega
    have hkF : kept = keptF l r ro old re := by
      rw [← hF]
      cases (openL l r ro re).length + 2 * old.length + 1 - i with
      | zero => rfl
      | succ f => simp only [yk, if_neg hio]
    rw [← hkF] at hK
    have hko : kept.length = old.length := by omega
    refine LoopP_for (fun j s => s = (len kept, (j : Int), idxs kept j, kept)) kept.length rfl ?_ ?_
    · rintro j _ hj rfl Kb' hKb'
      have hil := idxs_len kept j
      have hs := idxs_succ kept j
      refine br_t (by simp [len_eq]; exact hj) ⟨by rw [inB_nat]; exact hj, br (fun g => ⟨by simp; omega, hKb' _ ?_⟩) fun g => hKb' _ ?_⟩
      · simp only [gB_nat] at g; rw [hs, if_pos g, iadd_nat (by omega)]
      · simp only [gB_nat] at g; rw [hs, if_neg (by rw [g]; simp), iadd_nat (by omega)]
    · rintro _ rfl Kb'
      refine br_f (by simp [len_eq]) ?_
      rw [hko]; exact hK
theorem okP.cell {n : Nat} {x : Int} (h : okP n x) (hn : x ≠ -1) : 0 ≤ x ∧ x < n := by have := h.1; exact ⟨by omega, h.2⟩
theorem pre_getD {s s' : List Int} (h : ∃ t, s' = s ++ t) {i : Nat} (hi : i < s.length) : s'.getD i 0 = s.getD i 0 := by
  obtain ⟨t, rfl⟩ := h
  rw [List.getD_eq_getElem?_getD, List.getElem?_append_left hi, List.getD_eq_getElem?_getD]
theorem getD_set {l : List Bool} {i j : Nat} {v : Bool} (hi : i < l.length) : (l.set i v).getD j false = if i = j then v else l.getD j false := by
  rw [List.getD_eq_getElem?_getD, List.getElem?_set]
  by_cases e : i = j
  · subst e; simp [hi]
  · rw [if_neg e, if_neg e, List.getD_eq_getElem?_getD]
theorem yk_inv {l r ro re : List Int} {old : List Bool} (h : GVp l r ro old re) {L0 : Nat} : ∀ (f i : Nat) (kept : List Bool) (op : List Int), kept.length = l.length → (∀ x ∈ op, okP l.length x) → i ≤ op.length → op.length ≤ L0 + 2 * kept.count true → L0 + 2 * l.length + 1 ≤ f + i →
    (∀ y : Nat, kept.getD y false = true → l.getD y 0 ∈ op ∧ r.getD y 0 ∈ op) → (∀ j, j < i → yg old (op.getD j 0) = true → kept.getD (op.getD j 0).toNat false = true) →
    ∃ op' : List Int, (∀ x ∈ op, x ∈ op') ∧ (∀ y : Nat, (yk l r old f i kept op).getD y false = true → l.getD y 0 ∈ op' ∧ r.getD y 0 ∈ op') ∧ ∀ x ∈ op', yg old x = true → (yk l r old f i kept op).getD x.toNat false = true
  | 0, i, kept, op, hk, hop, hi, hc, hf, hb, hd => by
    have : kept.count true ≤ l.length := by rw [← hk]; exact List.count_le_length
    omega
  | f + 1, i, kept, op, hk, hop, hi, hc, hf, hb, hd => by
    by_cases hio : i < op.length
    · have hs := ykStep (f := f) h hk hop hio hc rfl
      simp only [yk, if_pos hio] at hs ⊢
      by_cases q : yg old (op.getD i 0) = true ∧ kept.getD (op.getD i 0).toNat false = false
      · rw [if_pos q]
        obtain ⟨q0, q1, q2, q3, q4, _⟩ := hs.1 q.1 q.2
        have hpre : ∀ j, j < op.length → (op ++ [l.getD (op.getD i 0).toNat 0, r.getD (op.getD i 0).toNat 0]).getD j 0 = op.getD j 0 := fun j hj => pre_getD ⟨_, rfl⟩ hj
        obtain ⟨op', h1, h2, h3⟩ := yk_inv h (L0 := L0) f (i + 1) _ _ q2 q3 (by rw [List.length_append]; omega) q4 (by omega) (fun y hy => by
          rw [getD_set (by omega)] at hy
          by_cases e : (op.getD i 0).toNat = y
          · subst e; simp
          · rw [if_neg e] at hy; have := hb y hy; exact ⟨List.mem_append_left _ this.1, List.mem_append_left _ this.2⟩) (fun j hj hy => by
          rw [hpre j (by omega)] at hy ⊢
          rw [getD_set (by omega)]
          by_cases e : j = i
          · subst e; rw [if_pos rfl]
          · have := hd j (by omega) hy
            split
            · rfl
            · exact this)
        exact ⟨op', fun x hx => h1 x (List.mem_append_left _ hx), h2, h3⟩
      · rw [if_neg q]
        refine yk_inv h (L0 := L0) f (i + 1) kept op hk hop (by omega) hc (by omega) hb (fun j hj hy => ?_)
        by_cases e : j = i
        · subst e
          cases hk' : kept.getD (op.getD j 0).toNat false with
          | true => rfl
          | false => exact absurd ⟨hy, hk'⟩ q
        · exact hd j (by omega) hy
    · simp only [yk, if_neg hio]
      exact ⟨op, fun x hx => hx, hb, fun x hx hy => by
        obtain ⟨j, hj, rfl⟩ := List.getElem_of_mem hx
        have := hd j (by omega)
        rw [getD_lt hj] at this
        exact this hy⟩
theorem mem_openL {l r ro re : List Int} {x : Int} : x ∈ openL l r ro re ↔ x ∈ ro ∨ ∃ c ∈ re, x = l.getD c.toNat 0 ∨ x = r.getD c.toNat 0 := by
  unfold openL
  rw [List.mem_append, List.mem_flatMap]
  simp
/-- Keeping is closed. -/
structure KClosed (l r ro : List Int) (old : List Bool) (re : List Int) (F : List Bool) : Prop where
  ro : ∀ x ∈ ro, yg old x = true → F.getD x.toNat false = true
  re : ∀ c ∈ re, (yg old (l.getD c.toNat 0) = true → F.getD (l.getD c.toNat 0).toNat false = true) ∧ (yg old (r.getD c.toNat 0) = true → F.getD (r.getD c.toNat 0).toNat false = true)
  k : ∀ y : Nat, F.getD y false = true → (yg old (l.getD y 0) = true → F.getD (l.getD y 0).toNat false = true) ∧ (yg old (r.getD y 0) = true → F.getD (r.getD y 0).toNat false = true)
theorem kept_closed {l r ro re : List Int} {old : List Bool} (h : GVp l r ro old re) : KClosed l r ro old re (keptF l r ro old re) := by
  have hop := openL_ok h (Nat.le_refl _)
  rw [List.take_length] at hop
  have h0 : ∀ y : Nat, (List.replicate old.length false).getD y false = false := fun y => by
    by_cases e : y < old.length
    · rw [getD_lt (by simpa using e)]; simp
    · rw [List.getD_eq_getElem?_getD, List.getElem?_eq_none (by simp; omega)]; rfl
  obtain ⟨op', h1, h2, h3⟩ := yk_inv h (L0 := (openL l r ro re).length) ((openL l r ro re).length + 2 * old.length + 1) 0 (List.replicate old.length false) (openL l r ro re) (by simpa using h.o) hop (by omega) (by omega) (by have := h.o; omega)
    (fun y hy => by rw [h0] at hy; cases hy) (fun j hj => by omega)
  refine ⟨fun x hx hy => h3 x (h1 x (mem_openL.2 (.inl hx))) hy, fun c hc => ⟨fun hy => h3 _ (h1 _ (mem_openL.2 (.inr ⟨c, hc, .inl rfl⟩))) hy, fun hy => h3 _ (h1 _ (mem_openL.2 (.inr ⟨c, hc, .inr rfl⟩))) hy⟩, fun y hy => ⟨fun hy' => h3 _ (h2 y hy).1 hy', fun hy' => h3 _ (h2 y hy).2 hy'⟩⟩
theorem yg_iff {old : List Bool} {x : Int} : yg old x = true ↔ x ≠ -1 ∧ old.getD x.toNat false = false := by
  simp only [yg, Bool.and_eq_true, bne_iff_ne, Bool.not_eq_true']
theorem filt_mem {p : Nat → Bool} {n c : Nat} : ((c : Int) ∈ ((List.range n).filter p).map fun (i : Nat) => (i : Int)) ↔ c < n ∧ p c = true := by
  constructor
  · intro h
    obtain ⟨d, hd, he⟩ := List.mem_map.1 h
    have := List.mem_filter.1 hd
    have e : d = c := by omega
    subst e
    exact ⟨by simpa using this.1, this.2⟩
  · rintro ⟨h1, h2⟩
    exact List.mem_map.2 ⟨c, List.mem_filter.2 ⟨by simpa using h1, h2⟩, rfl⟩
theorem L_l11Kept {l r ro re : List Int} {old : List Bool} {K : List Bool → Prop} (h : GVp l r ro old re) (hK : K (keptF l r ro old re)) : Ms_l11Kept l r ro old re K := by
  have h8 := h.h.l8; have h1 := h.h.l1; have h3 := h.h.r3; have hre := h.re8; have ho := h.o; have hlr := h.h.lr
  refine ⟨by omega, ?_⟩
  refine LoopP_for (fun i s => s = ((i : Int), l, r, ro, old, re, openL l r ro (re.take i))) re.length (by simp [openL]) ?_ ?_
  · rintro i _ hi rfl Kb hKb
    have hg := h.rget hi
    have ht : (re.take i).length ≤ 8 := by rw [List.length_take]; omega
    have hol := openL_len l r ro (re.take i)
    refine br_t (by simp [len_eq]; exact hi) ⟨by rw [inB_nat]; exact hi, ⟨by simp only [gI_nat]; omega, by simp only [gI_nat]; omega⟩, by rw [inB_nat]; exact hi, ⟨by simp only [gI_nat]; omega, by simp only [gI_nat]; omega⟩, ?_, hKb _ ?_⟩
    · dsimp only [List.length_cons, List.length_nil]; omega
    · rw [iadd_nat (by omega), openL_succ hi]; simp only [gI_at, Int.toNat_natCast]
  rintro _ rfl Kb
  refine br_f (by simp [len_eq]) ⟨⟨by simp [len_eq], rfl, by simp only [len_eq]; omega⟩, ?_⟩
  simp only [List.take_length, len_eq, Int.toNat_natCast]
  have hol := openL_len l r ro re
  refine LoopP_inv (fun s => ∃ (i : Nat) (kept : List Bool) (op : List Int), s = ((i : Int), l, r, ro, old, re, op, kept) ∧ kept.length = l.length ∧ (∀ x ∈ op, okP l.length x) ∧ i ≤ op.length ∧ op.length ≤ (openL l r ro re).length + 2 * kept.count true ∧
    yk l r old ((openL l r ro re).length + 2 * old.length + 1 - i) i kept op = keptF l r ro old re) (fun s => (openL l r ro re).length + 2 * old.length + 1 - s.1.toNat) ?_ ⟨0, _, _, rfl, by simpa using ho, by have := openL_ok h (Nat.le_refl re.length); rwa [List.take_length] at this, by omega, by omega, rfl⟩
  rintro _ ⟨i, kept, op, rfl, hk, hop, hi, hc, hF⟩ Kb hKb
  have hcl : kept.count true ≤ l.length := by rw [← hk]; exact List.count_le_length
  have e1 : iadd (i : Int) 1 = ((i + 1 : Nat) : Int) := iadd_nat (by omega)
  refine br (fun h' => ?_) fun h' => ?_
  · have hio : i < op.length := by have := of_decide_eq_true h'; simp only at this; omega
    obtain ⟨f, hf⟩ : ∃ f, (openL l r ro re).length + 2 * old.length + 1 - i = f + 1 := ⟨(openL l r ro re).length + 2 * old.length - i, by omega⟩
    have hf' : (openL l r ro re).length + 2 * old.length + 1 - (i + 1) = f := by omega
    rw [hf] at hF
    have hs := ykStep h hk hop hio hc hF
    have hx := hop _ (getD_mem 0 hio)
    have hskip : ¬ (yg old (op.getD i 0) = true ∧ kept.getD (op.getD i 0).toNat false = false) → Kb (iadd (i : Int) 1, l, r, ro, old, re, op, kept) := fun hn =>
      hKb _ ⟨i + 1, kept, op, by rw [e1], hk, hop, by omega, hc, by rw [hf']; exact hs.2 hn⟩ (by simp only [e1, Int.toNat_natCast]; omega)
    refine ⟨by rw [inB_nat]; exact hio, L_l11Young (by simp only [gI_nat]; rw [ho]; exact hx) (br (fun g => hskip ?_) fun g => ?_)⟩
    · simp only [gI_nat, Bool.not_eq_true'] at g; rintro ⟨q1, _⟩; rw [g] at q1; cases q1
    simp only [gI_nat, Bool.not_eq_false'] at g
    have hne := (yg_iff.1 g).1
    have hx0 := (hx.cell hne).1
    have hx1 := hx.2
    refine ⟨⟨by simp only [gI_nat]; omega, by simp only [gI_nat]; omega⟩, br (fun g2 => hskip ?_) fun g2 => ?_⟩
    · simp only [gI_nat, gB, EK.dflt] at g2; rintro ⟨q1, q2⟩; rw [g2] at q2; cases q2
    simp only [gI_nat, gB, EK.dflt] at g2
    obtain ⟨q0, q1, q2, q3, q4, q5⟩ := hs.1 g g2
    refine ⟨⟨by simp only [gI_nat]; omega, by simp only [gI_nat]; omega⟩, ⟨by simp only [gI_nat]; omega, by simp only [gI_nat]; omega⟩, ⟨by simp only [gI_nat]; omega, by simp only [gI_nat]; omega⟩, ?_, hKb _ ⟨i + 1, kept.set (op.getD i 0).toNat true, op ++ [l.getD (op.getD i 0).toNat 0, r.getD (op.getD i 0).toNat 0], ?_, q2, q3, ?_, q4, by rw [hf']; exact q5⟩ ?_⟩
    · dsimp only [List.length_cons, List.length_nil]; omega
    · rw [e1]; simp only [gI_at, Int.toNat_natCast, uL]
    · rw [List.length_append]; simp only [List.length_cons, List.length_nil]; omega
    · simp only [e1, Int.toNat_natCast]; omega
  · have hio : ¬ i < op.length := by have := of_decide_eq_false h'; simp only at this; omega
    have hkF : kept = keptF l r ro old re := by
      rw [← hF]
      cases (openL l r ro re).length + 2 * old.length + 1 - i with
      | zero => rfl
      | succ f => simp only [yk, if_neg hio]
    rw [← hkF] at hK
    exact hK
theorem L_sYoungKept {l r ro re : List Int} {old : List Bool} {K : List Int → Prop} (hr : re.length < 2 ^ 62) (hy : GVp l r ro old re → K (idxs (keptF l r ro old re) old.length)) (hn : ¬ GVp l r ro old re → K []) : Ms_YoungKept l r ro old re K := by
  refine L_sGensValid hr (br (fun h => hn (by simpa using h)) fun h => ?_)
  have h : GVp l r ro old re := by simpa using h
  have hK := hy h
  refine L_l11Kept h ?_
  have hkl := keptF_len l r ro old re
  have h8 := h.old8
  generalize keptF l r ro old re = kept at hK hkl
  refine LoopP_for (fun j s => s = ((j : Int), idxs kept j, kept)) kept.length rfl ?_ ?_
  · rintro j _ hj rfl Kb' hKb'
    have hil := idxs_len kept j
    have hs := idxs_succ kept j
    refine br_t (by simp [len_eq]; exact hj) ⟨by rw [inB_nat]; exact hj, br (fun g => ⟨by simp; omega, hKb' _ ?_⟩) fun g => hKb' _ ?_⟩
    · simp only [gB_nat] at g; rw [hs, if_pos g, iadd_nat (by omega)]
    · simp only [gB_nat] at g; rw [hs, if_neg (by rw [g]; simp), iadd_nat (by omega)]
  · rintro _ rfl Kb'
    refine br_f (by simp [len_eq]) ?_
    rw [hkl]; exact hK
theorem mem_idxs {F : List Bool} {n i : Nat} (hi : i < n) : ((i : Int) ∈ idxs F n) ↔ F.getD i false = true := by
  have := @filt_mem (fun i => F.getD i false) n i
  unfold idxs
  rw [this]
  exact ⟨fun h => h.2, fun h => ⟨hi, h⟩⟩
theorem L_DrawYoungKept {c : List Int} {K : List Int → List Int → List Int → List Bool → List Int → Prop} (hc : ∀ x ∈ c, U8 x) (hK : ∀ l r ro old re, HVp l r ro → old.length ≤ 10 → re.length ≤ 10 → K l r ro old re) : Ms_DrawYoungKept c K := L_l11Case hc hK
theorem ccSame {p : List Int} {K : Bool → Prop} (hp : p.length < 2 ^ 62) (hK : K true) : Ml_ccInts p p K := L_ccInts hp (by simpa using hK)
theorem marks {ks : List Int} {n : Nat} (hn : n ≤ 8) (hk : ks.length ≤ 8) (hks : ∀ x ∈ ks, 0 ≤ x ∧ x < n) {i : Nat} (hi : i < ks.length) {t : List Bool} (ht : t.length = n) (hj : ∀ j : Nat, j < n → (t.getD j false = true ↔ (j : Int) ∈ ks.take i)) :
    (t.set (ks.getD i 0).toNat true).length = n ∧ ∀ j : Nat, j < n → ((t.set (ks.getD i 0).toNat true).getD j false = true ↔ (j : Int) ∈ ks.take (i + 1)) := by
  have hb := hks _ (getD_mem 0 hi)
  refine ⟨by simpa using ht, fun j hjn => ?_⟩
  rw [getD_set (by omega), List.take_add_one, List.getElem?_eq_getElem hi]
  have e : ks.getD i 0 = ks[i] := getD_lt hi
  by_cases q : (ks.getD i 0).toNat = j
  · rw [if_pos q]
    simp only [true_iff, List.mem_append, Option.toList, List.mem_singleton]
    right
    rw [← e]; omega
  · rw [if_neg q, hj j hjn]
    simp only [List.mem_append, Option.toList, List.mem_singleton]
    constructor
    · exact .inl
    · rintro (h | h)
      · exact h
      · exfalso; rw [← e] at h; omega
theorem chkP {n : Nat} {a : Int} {t old : List Bool} {P Rest : Prop} (ha : okP n a) (ht : t.length = n) (ho : old.length = n) (hc : yg old a = true → t.getD a.toNat false = true) (hr : Rest) :
    (((a != (-1)) = true → ((inB a t.length) ∧ (((!(gB t a)) = true → ((inB a old.length) ∧ (((!(gB old a)) = true → P) ∧ ((!(gB old a)) = false → Rest)))) ∧ ((!(gB t a)) = false → Rest)))) ∧ ((a != (-1)) = false → Rest)) := by
  refine br (fun h => ?_) fun _ => hr
  have h : a ≠ -1 := by simpa using h
  have hcell := ha.cell h
  refine ⟨by rw [ht]; exact hcell, br (fun h2 => ⟨by rw [ho]; exact hcell, br (fun h3 => ?_) fun _ => hr⟩) fun _ => hr⟩
  exfalso
  have h2 : t.getD a.toNat false = false := by simpa only [gB, EK.dflt, Bool.not_eq_true'] using h2
  have h3 : old.getD a.toNat false = false := by simpa only [gB, EK.dflt, Bool.not_eq_true'] using h3
  have := hc (yg_iff.2 ⟨h, h3⟩)
  rw [h2] at this; cases this
theorem law_FnKeptClosed {c : List Int} (hc : ∀ x ∈ c, U8 x) {K : Bool → Prop} (hK : K true) : Ml_FnKeptClosed c K := by
  unfold Ml_FnKeptClosed
  refine br (fun _ => hK) fun _ => L_DrawYoungKept hc fun l r ro old re hv ho hre => ?_
  obtain ⟨ks, hk8, ho10, hks, hln, hcl, hI, hS⟩ : ∃ ks : List Int, ks.length ≤ 8 ∧ old.length ≤ 10 ∧ (∀ x ∈ ks, 0 ≤ x ∧ x < l.length ∧ x < old.length) ∧ (ks ≠ [] → old.length = l.length) ∧ (∀ x ∈ ks, (yg old (l.getD x.toNat 0) = true → l.getD x.toNat 0 ∈ ks) ∧ (yg old (r.getD x.toNat 0) = true → r.getD x.toNat 0 ∈ ks)) ∧
      (∀ K : List Int → Prop, K ks → Mi_YoungKept l r ro old re K) ∧ (∀ K : List Int → Prop, K ks → Ms_YoungKept l r ro old re K) := by
    by_cases h : GVp l r ro old re
    · have hkc := kept_closed h
      have hlr := h.h.lr
      have hil := idxs_len (keptF l r ro old re) old.length
      have h8 := h.old8
      have hmem : ∀ x ∈ idxs (keptF l r ro old re) old.length, 0 ≤ x ∧ x < old.length ∧ (keptF l r ro old re).getD x.toNat false = true := by
        intro x hx
        obtain ⟨k, hk, rfl⟩ := List.mem_map.1 hx
        have := List.mem_filter.1 hk
        simp only [List.mem_range] at this
        exact ⟨by omega, by omega, by simpa using this.2⟩
      have hol := h.o
      have hin : ∀ x : Int, 0 ≤ x → x < old.length → (keptF l r ro old re).getD x.toNat false = true → x ∈ idxs (keptF l r ro old re) old.length := fun x x0 x1 hx => by
        have := (mem_idxs (F := keptF l r ro old re) (n := old.length) (i := x.toNat) (by omega)).2 hx
        rwa [Int.toNat_of_nonneg x0] at this
      refine ⟨idxs (keptF l r ro old re) old.length, by omega, by omega, fun x hx => ?_, fun _ => hol, fun x hx => ?_, fun K hK => L_iYoungKept (by omega) (fun _ => hK) fun hh => absurd h hh, fun K hK => L_sYoungKept (by omega) (fun _ => hK) fun hh => absurd h hh⟩
      · have := hmem x hx; omega
      · obtain ⟨x0, x1, x2⟩ := hmem x hx
        have ol := h.h.atl x0 (by omega)
        have or_ := h.h.atr x0 (by omega)
        have := hkc.k _ x2
        refine ⟨fun hy => ?_, fun hy => ?_⟩
        · have hcell := ol.cell (yg_iff.1 hy).1
          exact hin _ hcell.1 (by omega) (this.1 hy)
        · have hcell := or_.cell (yg_iff.1 hy).1
          exact hin _ hcell.1 (by omega) (this.2 hy)
    · exact ⟨[], by simp, ho, by simp, by simp, by simp, fun K hK => L_iYoungKept (by omega) (fun hh => absurd hh h) fun _ => hK, fun K hK => L_sYoungKept (by omega) (fun hh => absurd hh h) fun _ => hK⟩
  refine hI _ (hS _ (ccSame (by omega) (step_t rfl ⟨⟨by simp [len_eq], rfl, by simp only [len_eq]; omega⟩, ?_⟩)))
  have hlr := hv.lr
  refine LoopP_for (fun i s => ∃ t, s = ((i : Int), ks, t, l, r, ro, old, re) ∧ t.length = old.length ∧ ∀ j : Nat, j < old.length → (t.getD j false = true ↔ (j : Int) ∈ ks.take i)) ks.length ⟨_, rfl, by simp [len_eq], fun j hj => by
    rw [getD_lt (by simpa [len_eq] using hj)]; simp⟩ ?_ ?_
  · rintro i _ hi ⟨t, rfl, ht, hj⟩ Kb hKb
    have hb := hks _ (getD_mem 0 hi)
    have hon : old.length ≤ 8 := by have := hln (List.ne_nil_of_length_pos (by omega)); have := hv.l8; omega
    refine br_t (by simp [len_eq]; exact hi) ⟨by rw [inB_nat]; exact hi, ⟨by simp only [gI_nat]; omega, by simp only [gI_nat]; omega⟩, hKb _ ⟨_, ?_, marks hon (by omega) (fun x hx => ⟨(hks x hx).1, (hks x hx).2.2⟩) hi ht hj⟩⟩
    rw [iadd_nat (by omega)]; simp only [gI_nat, uL]
  rintro _ ⟨t, rfl, ht, hj⟩ Kb
  refine br_f (by simp [len_eq]) ?_
  rw [List.take_length] at hj
  refine LoopP_for (fun i s => s = ((i : Int), ks, t, l, r, ro, old, re)) ks.length rfl ?_ ?_
  · rintro i _ hi rfl Kb hKb
    have e1 : iadd (i : Int) 1 = ((i + 1 : Nat) : Int) := iadd_nat (by omega)
    have fin := hKb ((i + 1 : Nat), ks, t, l, r, ro, old, re) rfl
    have hm := getD_mem 0 hi
    have hb := hks _ hm
    have hon := hln (List.ne_nil_of_length_pos (by omega))
    have ol := hv.atl hb.1 hb.2.1
    have or_ := hv.atr hb.1 hb.2.1
    have hc2 := hcl _ hm
    have iK : inB (i : Int) ks.length := by rw [inB_nat]; exact hi
    have toT : ∀ x, okP l.length x → (yg old x = true → x ∈ ks) → yg old x = true → t.getD x.toNat false = true := fun x hx h1 h2 => by
      have hcell := hx.cell (yg_iff.1 h2).1
      refine (hj _ (by omega)).2 ?_
      rw [Int.toNat_of_nonneg hcell.1]; exact h1 h2
    refine br_t (by simp [len_eq]; exact hi) ⟨iK, ⟨by simp only [gI_nat]; omega, by simp only [gI_nat]; omega⟩, iK, ⟨by simp only [gI_nat]; omega, by simp only [gI_nat]; omega⟩, ?_⟩
    simp only [gI_at, Int.toNat_natCast, e1]
    exact chkP ol (by omega) (by omega) (toT _ ol hc2.1) (chkP or_ (by omega) (by omega) (toT _ or_ hc2.2) fin)
  · rintro _ rfl Kb
    exact br_f (by simp [len_eq]) hK
end Go.Ab
