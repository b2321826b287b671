/-
  What is proved here: the plain laws that the law FnExactMoveCells needs: what its functions compute, and that its model returns true. Conditions: those written in each statement.
-/
import Derived.Test.YtldakbacfokohaaGM
namespace Go.Ab
set_option linter.unusedVariables false
set_option linter.unusedSimpArgs false
theorem wrap64 {x : Int} (h1 : -9223372036854775808 ≤ x) (h2 : x < 9223372036854775808) : IntKind.i64.wrap x = x := by
  simp [IntKind.wrap, IntKind.signed, IntKind.bits]
  split <;> omega
theorem iadd_eq {a b : Int} (h1 : -9223372036854775808 ≤ a + b) (h2 : a + b < 9223372036854775808) : iadd a b = a + b := wrap64 h1 h2
theorem isub_eq {a b : Int} (h1 : -9223372036854775808 ≤ a - b) (h2 : a - b < 9223372036854775808) : isub a b = a - b := wrap64 h1 h2
theorem iadd_nat {i : Nat} (h : i < 2 ^ 62) : iadd (i : Int) 1 = ((i + 1 : Nat) : Int) := by rw [iadd_eq] <;> omega
theorem inB_nat {i n : Nat} : inB (i : Int) n = (i < n) := by simp [inB]
theorem gI_nat (l : List Int) (i : Nat) : gI l (i : Int) = l.getD i 0 := by simp [gI, EK.dflt]
theorem uL_nat {α : Type} (l : List α) (i : Nat) (v : α) : uL l (i : Int) v = l.set i v := by simp [uL]
theorem len_eq {α : Type} (l : List α) : len l = (l.length : Int) := rfl
/-- A loop that counts. -/
theorem LoopP_for {S : Type} {body : S → (S → Prop) → (S → Prop) → Prop} {Kx : S → Prop} {s : S} (J : Nat → S → Prop) (n : Nat) (h0 : J 0 s)
    (step : ∀ i s, i < n → J i s → ∀ Kb : S → Prop, (∀ s', J (i + 1) s' → Kb s') → body s Kb Kx) (last : ∀ s, J n s → ∀ Kb : S → Prop, body s Kb Kx) : LoopP body s Kx := by
  suffices hh : ∀ k i s, n - i < k → i ≤ n → J i s → itP body k s Kx from ⟨n + 1, hh _ 0 s (by omega) (by omega) h0⟩
  intro k
  induction k with
  | zero => intro i s h; omega
  | succ k ih =>
    intro i s hk hi hj
    by_cases e : i = n
    · subst e; exact last s hj _
    · exact step i s (by omega) hj _ fun s' h' => ih (i + 1) s' (by omega) (by omega) h'
theorem br {b : Bool} {P Q : Prop} (h1 : b = true → P) (h2 : b = false → Q) : (b = true → P) ∧ (b = false → Q) := ⟨h1, h2⟩
theorem br_t {b : Bool} {P Q : Prop} (h : b = true) (hp : P) : (b = true → P) ∧ (b = false → Q) := ⟨fun _ => hp, fun h' => by rw [h] at h'; cases h'⟩
theorem br_f {b : Bool} {P Q : Prop} (h : b = false) (hq : Q) : (b = true → P) ∧ (b = false → Q) := ⟨fun h' => (by rw [h] at h'; cases h'), fun _ => hq⟩
theorem getD_lt {α : Type} {l : List α} {i : Nat} {d : α} (h : i < l.length) : l.getD i d = l[i] := by simp [List.getD_eq_getElem?_getD, h]
theorem eqL_iff {α : Type} (d : α) (p q : List α) (h : p.length = q.length) (hj : ∀ j, j < p.length → p.getD j d = q.getD j d) : p = q := by
  apply List.ext_getElem h
  intro i h1 h2
  have := hj i h1
  rwa [getD_lt h1, getD_lt h2] at this
/-- Two lists are compared. -/
theorem eqLoop3 {α : Type} [DecidableEq α] (d : α) (p1 p2 : List α) (hb : p1.length < 2 ^ 62) (K : Bool → Prop) (hK : K (decide (p1 = p2))) (hl : p1.length = p2.length) :
    (LoopP (S := List α × List α × Int) (fun s1 Kb1 Kx1 =>
(((decide (s1.2.2 < (len s1.1))) = true →
((inB s1.2.2 (List.length s1.1)) ∧
((inB s1.2.2 (List.length s1.2.1)) ∧
((((s1.1.getD s1.2.2.toNat d) != (s1.2.1.getD s1.2.2.toNat d)) = true →
(K false)) ∧
(((s1.1.getD s1.2.2.toNat d) != (s1.2.1.getD s1.2.2.toNat d)) = false →
(Kb1 (s1.1, s1.2.1, (iadd s1.2.2 1)))))))) ∧
((decide (s1.2.2 < (len s1.1))) = false →
(Kx1 (s1.1, s1.2.1, s1.2.2)))))
(p1, p2, 0) fun s1 => (K true)) := by
  refine LoopP_for (fun i s => s = (p1, p2, (i : Int)) ∧ ∀ j, j < i → p1.getD j d = p2.getD j d) p1.length ⟨rfl, by omega⟩ ?_ ?_
  · rintro i _ hi ⟨rfl, hj⟩ Kb hKb
    refine br_t (by simp [len_eq]; exact hi) ⟨by simp [inB_nat]; exact hi, by simp [inB_nat]; omega, br (fun h => ?_) fun h => ?_⟩
    · simp at h
      have : p1 ≠ p2 := fun e => h (by rw [e])
      simpa [this] using hK
    · simp at h
      refine hKb _ ⟨by rw [iadd_nat (by omega)], fun j hji => ?_⟩
      rcases Nat.lt_succ_iff_lt_or_eq.1 hji with e | e
      · exact hj j e
      · subst e; exact h
  · rintro _ ⟨rfl, hj⟩ Kb
    refine br_f (by simp [len_eq]) ?_
    have := eqL_iff d p1 p2 hl hj
    simpa [this] using hK
theorem eqGate {α : Type} [DecidableEq α] {p1 p2 : List α} {K : Bool → Prop} {P : Prop} (hK : K (decide (p1 = p2))) (h : p1.length = p2.length → P) :
    (((len p1) != (len p2)) = true → (K false)) ∧ (((len p1) != (len p2)) = false → P) := by
  refine br (fun e => ?_) fun e => h ?_
  · have : p1 ≠ p2 := by rintro rfl; simp at e
    simpa [this] using hK
  · simp [len_eq] at e; omega
/-- A list is copied, element by element. -/
theorem cpLoop {α : Type} (d : α) (p1 : List α) (hb : p1.length < 2 ^ 62) (K : List α → Prop) (hK : K p1) :
    (LoopP (S := List α × Int × List α) (fun s1 Kb1 Kx1 =>
(((decide (s1.2.1 < (len s1.1))) = true →
((inB s1.2.1 (List.length s1.1)) ∧
((inB s1.2.1 (List.length s1.2.2)) ∧
(Kb1 (s1.1, (iadd s1.2.1 1), (uL s1.2.2 s1.2.1 (s1.1.getD s1.2.1.toNat d))))))) ∧
((decide (s1.2.1 < (len s1.1))) = false →
(Kx1 (s1.1, s1.2.1, s1.2.2)))))
(p1, 0, (List.replicate (Int.toNat (len p1)) d)) fun s1 => (K s1.2.2)) := by
  refine LoopP_for (fun i s => ∃ t, s = (p1, (i : Int), t) ∧ t.length = p1.length ∧ ∀ j, j < i → t.getD j d = p1.getD j d) p1.length ⟨_, rfl, by simp [len_eq], by omega⟩ ?_ ?_
  · rintro i _ hi ⟨t, rfl, ht, hj⟩ Kb hKb
    refine br_t (by simp [len_eq]; exact hi) ⟨by simp [inB_nat]; exact hi, by simp [inB_nat]; omega, hKb _ ⟨_, by rw [iadd_nat (by omega)], ?_, fun j hji => ?_⟩⟩
    · simp [uL, ht]
    · simp only [uL_nat, Int.toNat_natCast]
      rw [List.getD_eq_getElem?_getD, List.getElem?_set]
      by_cases e : i = j
      · subst e; simp [ht, hi]
      · rw [if_neg e, ← List.getD_eq_getElem?_getD]; exact hj j (by omega)
  · rintro _ ⟨t, rfl, ht, hj⟩ Kb
    refine br_f (by simp [len_eq]) ?_
    rw [show p1 = t from (eqL_iff d t p1 ht (fun j h => hj j (by omega))).symm] at hK
    exact hK
theorem L_szIntS {p : List Int} {n : Int} {K : Int → Prop} (h0 : 0 ≤ n) (hn : n ≤ 1048576) (hp : p.length ≤ maxLen) (h1 : K (-1)) (h2 : ∀ y, 0 ≤ y → y ≤ n → p.length ≤ 1048576 → K y) : Ml_szIntS p n K := by
  have hs : isub n (len p) = n - p.length := by rw [isub_eq] <;> simp only [len_eq] <;> simp only [maxLen] at hp <;> omega
  unfold Ml_szIntS
  rw [hs]
  refine br (fun _ => h1) fun h => ?_
  simp at h
  exact h2 _ (by omega) (by omega) (by omega)
theorem szStep {y : Int} {P Q : Prop} (hy : 0 ≤ y) (h : Q) : (decide (y < 0) = true → P) ∧ (decide (y < 0) = false → Q) := br_f (by simp; omega) h
theorem szStop {P Q : Prop} (h : P) : (decide ((-1 : Int) < 0) = true → P) ∧ (decide ((-1 : Int) < 0) = false → Q) := br_t (by decide) h
theorem L_szHeap {p q r : List Int} {n : Int} {K : Int → Prop} (h0 : 0 ≤ n) (hn : n ≤ 1048576) (hp : p.length ≤ maxLen) (hq : q.length ≤ maxLen) (hr : r.length ≤ maxLen) (h1 : K (-1))
    (h2 : ∀ y, 0 ≤ y → y ≤ n → p.length ≤ 1048576 → q.length ≤ 1048576 → r.length ≤ 1048576 → K y) : Ml_szHeap p q r n K := by
  unfold Ml_szHeap
  refine L_szIntS h0 hn hp (szStop h1) fun y a1 b1 c1 => szStep a1 ?_
  refine L_szIntS a1 (by omega) hq (szStop h1) fun z a2 b2 c2 => szStep a2 ?_
  exact L_szIntS a2 (by omega) hr (szStop h1) fun w a3 b3 c3 => szStep a3 (h2 w a3 (by omega) c1 c2 c3)
theorem L_toIntS {p : List Int} {K : List Int → Prop} (hp : p.length ≤ 1048576) (hK : K p) : Ml_toIntS p K :=
  ⟨⟨by simp [len_eq], rfl, by simp [len_eq]; omega⟩, cpLoop (0 : Int) p (by omega) K hK⟩
theorem L_toHeap {p q r : List Int} {K : List Int → List Int → List Int → Prop} (hp : p.length ≤ 1048576) (hq : q.length ≤ 1048576) (hr : r.length ≤ 1048576) (hK : K p q r) : Ml_toHeap p q r K :=
  L_toIntS hp (L_toIntS hq (L_toIntS hr hK))
theorem L_eqIntS {p q : List Int} {K : Bool → Prop} (hp : p.length < 2 ^ 62) (hK : K (decide (p = q))) : Ml_eqIntS p q K := eqGate hK fun hl => eqLoop3 0 p q hp K hK hl
theorem step_t {b : Bool} {P Q : Prop} (h : b = true) (hq : Q) : ((!b) = true → P) ∧ ((!b) = false → Q) := br_f (by simp [h]) hq
theorem L_eqHeap_same {p q r : List Int} {K : Bool → Prop} (hp : p.length < 2 ^ 62) (hq : q.length < 2 ^ 62) (hr : r.length < 2 ^ 62) (hK : K true) : Ml_eqHeap p q r p q r K :=
  L_eqIntS hp (step_t (by simp) (L_eqIntS hq (step_t (by simp) (L_eqIntS hr (step_t (by simp) hK)))))
def seqI (k : Int) (n : Nat) : List Int := (List.range n).map fun (i : Nat) => k + i
theorem seqI_getD {k : Int} {n j : Nat} (h : j < n) : (seqI k n).getD j 0 = k + j := by simp [seqI, List.getD_eq_getElem?_getD, h]
@[simp] theorem seqI_len (k : Int) (n : Nat) : (seqI k n).length = n := by simp [seqI]
theorem L_markIntS {k : Int} {p : List Int} {K : Int → List Int → Prop} (h0 : 0 ≤ k) (hk : k < 2 ^ 60) (hp : p.length < 2 ^ 60) (hK : K (k + p.length) (seqI k p.length)) : Ml_markIntS k p K := by
  unfold Ml_markIntS
  refine LoopP_for (fun i s => ∃ t, s = (k + (i : Int), (i : Int), t) ∧ t.length = p.length ∧ ∀ j, j < i → t.getD j 0 = k + j) p.length ⟨p, by simp, rfl, by omega⟩ ?_ ?_
  · rintro i _ hi ⟨t, rfl, ht, hj⟩ Kb hKb
    refine br_t (by simp [len_eq, ht]; exact hi) ⟨by simp [inB_nat, ht]; exact hi, hKb _ ⟨uL t i (k + i), ?_, by simp [uL, ht], fun j hji => ?_⟩⟩
    · simp only [Prod.mk.injEq, and_true]
      refine ⟨?_, iadd_nat (by omega)⟩
      rw [iadd_eq] <;> push_cast <;> omega
    · simp only [uL_nat]
      rw [List.getD_eq_getElem?_getD, List.getElem?_set]
      by_cases e : i = j
      · subst e; simp [ht, hi]
      · rw [if_neg e, ← List.getD_eq_getElem?_getD]; exact hj j (by omega)
  · rintro _ ⟨t, rfl, ht, hj⟩ Kb
    refine br_f (by simp [len_eq, ht]) ?_
    have : t = seqI k p.length := eqL_iff 0 _ _ (by simp [ht]) fun j h => by rw [hj j (by omega), seqI_getD (by omega)]
    subst this
    exact hK
theorem L_heldIntS {k : Int} {n : Nat} {K : Int → Prop} (h0 : 0 ≤ k) (hk : k < 2 ^ 60) (hn : n < 2 ^ 60) (hK : K (k + n)) : Ml_heldIntS (seqI k n) k K := by
  unfold Ml_heldIntS
  refine LoopP_for (fun i s => s = (seqI k n, k + (i : Int), (i : Int))) n (by simp) ?_ ?_
  · rintro i _ hi rfl Kb hKb
    refine br_t (by simp [len_eq]; exact hi) ⟨by simp [inB_nat]; exact hi, br_f (by simp only [gI_nat, seqI_getD hi, bne_self_eq_false]) (hKb _ ?_)⟩
    simp only [Prod.mk.injEq, true_and]
    refine ⟨?_, iadd_nat (by omega)⟩
    rw [iadd_eq] <;> push_cast <;> omega
  · rintro _ rfl Kb
    exact br_f (by simp [len_eq]) hK
theorem L_markHeap {k : Int} {p q r : List Int} {K : Int → List Int → List Int → List Int → Prop} (h0 : 0 ≤ k) (hk : k < 2 ^ 58) (hp : p.length < 2 ^ 58) (hq : q.length < 2 ^ 58) (hr : r.length < 2 ^ 58)
    (hK : K (k + p.length + q.length + r.length) (seqI k p.length) (seqI (k + p.length) q.length) (seqI (k + p.length + q.length) r.length)) : Ml_markHeap k p q r K :=
  L_markIntS h0 (by omega) (by omega) (L_markIntS (by omega) (by omega) (by omega) (L_markIntS (by omega) (by omega) (by omega) hK))
theorem L_heldHeap {k : Int} {a b c : Nat} {K : Int → Prop} (h0 : 0 ≤ k) (hk : k < 2 ^ 58) (ha : a < 2 ^ 58) (hb : b < 2 ^ 58) (hc : c < 2 ^ 58) (hK : K (k + a + b + c)) :
    Ml_heldHeap (seqI k a) (seqI (k + a) b) (seqI (k + a + b) c) k K :=
  L_heldIntS h0 (by omega) (by omega) (szStep (by omega) (L_heldIntS (by omega) (by omega) (by omega) (szStep (by omega) (L_heldIntS (by omega) (by omega) (by omega) (szStep (by omega) hK)))))
def okP (n : Nat) (x : Int) : Prop := -1 ≤ x ∧ x < n
instance (n : Nat) (x : Int) : Decidable (okP n x) := inferInstanceAs (Decidable (_ ∧ _))
/-- A valid heap. -/
structure HVp (l r ro : List Int) : Prop where
  lr : l.length = r.length
  l1 : 1 ≤ l.length
  l8 : l.length ≤ 8
  r1 : 1 ≤ ro.length
  r3 : ro.length ≤ 3
  okl : ∀ x ∈ l, okP l.length x
  okr : ∀ x ∈ r, okP l.length x
  oko : ∀ x ∈ ro, okP l.length x
instance (l r ro : List Int) : Decidable (HVp l r ro) :=
  decidable_of_iff (l.length = r.length ∧ 1 ≤ l.length ∧ l.length ≤ 8 ∧ 1 ≤ ro.length ∧ ro.length ≤ 3 ∧ (∀ x ∈ l, okP l.length x) ∧ (∀ x ∈ r, okP l.length x) ∧ (∀ x ∈ ro, okP l.length x))
    ⟨fun ⟨a, b, c, d, e, f, g, h⟩ => ⟨a, b, c, d, e, f, g, h⟩, fun ⟨a, b, c, d, e, f, g, h⟩ => ⟨a, b, c, d, e, f, g, h⟩⟩
theorem all_getD {α : Type} (d : α) {l : List α} {p : α → Prop} (h : ∀ j, j < l.length → p (l.getD j d)) : ∀ x ∈ l, p x := by
  intro x hx
  obtain ⟨i, hi, rfl⟩ := List.getElem_of_mem hx
  have := h i hi
  rwa [getD_lt hi] at this
theorem getD_mem {α : Type} (d : α) {l : List α} {i : Nat} (h : i < l.length) : l.getD i d ∈ l := by rw [getD_lt h]; exact List.getElem_mem h
theorem L_l1Points {a : Int} {n : Nat} {K : Bool → Prop} (hK : K (decide (okP n a))) : Ms_l1Points a n K := by
  refine br (fun h => ?_) fun h => ?_
  · simp at h; simpa [okP, h] using hK
  · simp at h; rw [decide_eq_false (fun hh => by have := hh.1; omega)] at hK; exact hK
theorem L_sHeapValid {l r ro : List Int} {K : Bool → Prop} (hK : K (decide (HVp l r ro))) : Ms_HeapValid l r ro K := by
  have no : ¬ HVp l r ro → K false := fun h => by rwa [decide_eq_false h] at hK
  have yes : HVp l r ro → K true := fun h => by rwa [decide_eq_true h] at hK
  refine br (fun h => no fun hh => ?_) fun h1 => br (fun h => no fun hh => ?_) fun h2 => br (fun h => no fun hh => ?_) fun h3 => br (fun h => no fun hh => ?_) fun h4 => br (fun h => no fun hh => ?_) fun h5 => ?_
  · have := hh.l1; replace h := of_decide_eq_true h; simp only [len_eq] at h; omega
  · have := hh.l8; simp [len_eq] at h; omega
  · have := hh.lr; simp [len_eq] at h; omega
  · have := hh.r1; replace h := of_decide_eq_true h; simp only [len_eq] at h; omega
  · have := hh.r3; simp [len_eq] at h; omega
  replace h1 : 1 ≤ l.length := by have := of_decide_eq_false h1; simp only [len_eq] at this; omega
  replace h2 : l.length ≤ 8 := by have := of_decide_eq_false h2; simp only [len_eq] at this; omega
  replace h3 : r.length = l.length := by simp [len_eq] at h3; omega
  replace h4 : 1 ≤ ro.length := by have := of_decide_eq_false h4; simp only [len_eq] at this; omega
  replace h5 : ro.length ≤ 3 := by have := of_decide_eq_false h5; simp only [len_eq] at this; omega
  refine LoopP_for (fun i s => s = (len l, (i : Int), l, r, ro) ∧ ∀ j, j < i → okP l.length (l.getD j 0) ∧ okP l.length (r.getD j 0)) l.length ⟨rfl, by omega⟩ ?_ ?_
  · rintro i _ hi ⟨rfl, hj⟩ Kb hKb
    refine br_t (by simp [len_eq]; exact hi) ⟨by simp [inB_nat]; exact hi, ?_⟩
    refine L_l1Points (br (fun h => no fun hh => ?_) fun h => ⟨by simp [inB_nat]; omega, L_l1Points (br (fun h' => no fun hh => ?_) fun h' => hKb _ ⟨by rw [iadd_nat (by omega)], fun j hji => ?_⟩)⟩)
    · simp [-List.getD_eq_getElem?_getD, gI_nat] at h; exact h (hh.okl _ (getD_mem 0 hi))
    · simp [-List.getD_eq_getElem?_getD, gI_nat] at h'; exact h' (hh.okr _ (getD_mem 0 (by omega)))
    · simp [-List.getD_eq_getElem?_getD, gI_nat] at h h'
      rcases Nat.lt_succ_iff_lt_or_eq.1 hji with e | e
      · exact hj j e
      · subst e; exact ⟨h, h'⟩
  · rintro _ ⟨rfl, hj⟩ Kb
    refine br_f (by simp [len_eq]) ?_
    refine LoopP_for (fun i s => s = (len l, (i : Int), l, r, ro) ∧ ∀ j, j < i → okP l.length (ro.getD j 0)) ro.length ⟨rfl, by omega⟩ ?_ ?_
    · rintro i _ hi ⟨rfl, hk⟩ Kb hKb
      refine br_t (by simp [len_eq]; exact hi) ⟨by simp [inB_nat]; exact hi, ?_⟩
      refine L_l1Points (br (fun h => no fun hh => ?_) fun h => hKb _ ⟨by rw [iadd_nat (by omega)], fun j hji => ?_⟩)
      · simp [-List.getD_eq_getElem?_getD, gI_nat] at h; exact h (hh.oko _ (getD_mem 0 hi))
      · simp [-List.getD_eq_getElem?_getD, gI_nat] at h
        rcases Nat.lt_succ_iff_lt_or_eq.1 hji with e | e
        · exact hk j e
        · subst e; exact h
    · rintro _ ⟨rfl, hk⟩ Kb
      refine br_f (by simp [len_eq]) (yes ⟨h3.symm, h1, h2, h4, h5, all_getD 0 fun j h => (hj j h).1, all_getD 0 fun j h => (hj j (by omega)).2, all_getD 0 hk⟩)
theorem L_iHeapValid {l r ro : List Int} {K : Bool → Prop} (hK : K (decide (HVp l r ro))) : Mi_HeapValid l r ro K := by
  have no : ¬ HVp l r ro → K false := fun h => by rwa [decide_eq_false h] at hK
  have yes : HVp l r ro → K true := fun h => by rwa [decide_eq_true h] at hK
  refine br (fun h => no fun hh => ?_) fun h3 => br (fun h => no fun hh => ?_) fun h1 => br (fun h => no fun hh => ?_) fun h2 => br (fun h => no fun hh => ?_) fun h4 => br (fun h => no fun hh => ?_) fun h5 => ?_
  · have := hh.lr; simp [len_eq] at h; omega
  · have := hh.l1; replace h := of_decide_eq_true h; simp only [len_eq] at h; omega
  · have := hh.l8; simp [len_eq] at h; omega
  · have := hh.r1; replace h := of_decide_eq_true h; simp only [len_eq] at h; omega
  · have := hh.r3; simp [len_eq] at h; omega
  replace h1 : 1 ≤ l.length := by have := of_decide_eq_false h1; simp only [len_eq] at this; omega
  replace h2 : l.length ≤ 8 := by have := of_decide_eq_false h2; simp only [len_eq] at this; omega
  replace h3 : r.length = l.length := by simp [len_eq] at h3; omega
  replace h4 : 1 ≤ ro.length := by have := of_decide_eq_false h4; simp only [len_eq] at this; omega
  replace h5 : ro.length ≤ 3 := by have := of_decide_eq_false h5; simp only [len_eq] at this; omega
  have hlen : ∀ i, i < 3 → (([l, r, ro] : List (List Int)).getD i []).length ≤ 8 := by
    intro i hi
    match i, hi with
    | 0, _ => exact h2
    | 1, _ => show r.length ≤ 8; omega
    | 2, _ => show ro.length ≤ 8; omega
  have hmem : HVp l r ro → ∀ i, i < 3 → ∀ x ∈ ([l, r, ro] : List (List Int)).getD i [], okP l.length x := by
    intro hh i hi
    match i, hi with
    | 0, _ => exact hh.okl
    | 1, _ => exact hh.okr
    | 2, _ => exact hh.oko
  refine LoopP_for (fun i s => s = (3, (i : Int), l, r, ro, [l, r, ro]) ∧ ∀ j, j < i → ∀ x ∈ ([l, r, ro] : List (List Int)).getD j [], okP l.length x) 3 ⟨rfl, by omega⟩ ?_ ?_
  · rintro i _ hi ⟨rfl, hj⟩ Kb hKb
    have hg : gL [l, r, ro] (i : Int) = ([l, r, ro] : List (List Int)).getD i [] := by simp [gL, EK.dflt]
    refine br_t (by simp; omega) ⟨by simp [inB_nat]; exact hi, ?_⟩
    simp only [hg]
    have hl := hlen i hi
    have hm := fun hh => hmem hh i hi
    generalize hq : ([l, r, ro] : List (List Int)).getD i [] = q at hl hm
    refine LoopP_for (fun k s => s = (3, (i : Int), q, len q, (k : Int), l, r, ro, [l, r, ro]) ∧ ∀ j, j < k → okP l.length (q.getD j 0)) q.length ⟨rfl, by omega⟩ ?_ ?_
    · rintro k _ hk ⟨rfl, hkj⟩ Kb' hKb'
      refine br_t (by simp [len_eq]; exact hk) ⟨by simp [inB_nat]; exact hk, br (fun h => no fun hh => ?_) fun h => br (fun h' => no fun hh => ?_) fun h' => hKb' _ ⟨by rw [iadd_nat (by omega)], fun j hji => ?_⟩⟩
      · have := of_decide_eq_true h; simp only [gI_nat] at this; have := (hm hh _ (getD_mem 0 hk)).1; omega
      · have := of_decide_eq_true h'; simp only [gI_nat, len_eq] at this; have := (hm hh _ (getD_mem 0 hk)).2; omega
      · have a := of_decide_eq_false h
        have b := of_decide_eq_false h'
        simp only [gI_nat, len_eq] at a b
        rcases Nat.lt_succ_iff_lt_or_eq.1 hji with e | e
        · exact hkj j e
        · subst e; exact ⟨by omega, by omega⟩
    · rintro _ ⟨rfl, hkj⟩ Kb'
      refine br_f (by simp [len_eq]) (hKb _ ⟨by rw [iadd_nat (by omega)], fun j hji => ?_⟩)
      rcases Nat.lt_succ_iff_lt_or_eq.1 hji with e | e
      · exact hj j e
      · subst e; rw [hq]; exact all_getD 0 hkj
  · rintro _ ⟨rfl, hj⟩ Kb
    refine br_f (by simp) (yes ⟨h3.symm, h1, h2, h4, h5, hj 0 (by omega), hj 1 (by omega), hj 2 (by omega)⟩)
theorem HVp.gl {l r ro : List Int} (h : HVp l r ro) {i : Nat} (hi : i < l.length) : okP l.length (l.getD i 0) := h.okl _ (getD_mem 0 hi)
theorem HVp.gr {l r ro : List Int} (h : HVp l r ro) {i : Nat} (hi : i < l.length) : okP l.length (r.getD i 0) := h.okr _ (getD_mem 0 (by rw [← h.lr]; exact hi))
theorem HVp.go {l r ro : List Int} (h : HVp l r ro) {i : Nat} (hi : i < ro.length) : okP l.length (ro.getD i 0) := h.oko _ (getD_mem 0 hi)
theorem nodup_len : ∀ (n : Nat) (l : List Nat), l.Nodup → (∀ x ∈ l, x < n) → l.length ≤ n
  | 0, l, _, h => by
    cases l with
    | nil => simp
    | cons a l => exact absurd (h a (by simp)) (by omega)
  | n + 1, l, hn, h => by
    by_cases hm : n ∈ l
    · have h1 := nodup_len n (l.erase n) (hn.erase n) fun x hx => by
        have h2 := (List.Nodup.mem_erase_iff hn).1 hx
        have := h x h2.2
        omega
      rw [List.length_erase_of_mem hm] at h1
      omega
    · have := nodup_len n l hn fun x hx => by
        have h2 := h x hx
        have : x ≠ n := fun e => hm (e ▸ hx)
        omega
      omega
/-- Different cells of a heap of n cells. -/
structure CellsP (n : Nat) (s : List Int) : Prop where
  nd : s.Nodup
  ok : ∀ x ∈ s, 0 ≤ x ∧ x < n
instance (n : Nat) (s : List Int) : Decidable (CellsP n s) := decidable_of_iff (s.Nodup ∧ ∀ x ∈ s, 0 ≤ x ∧ x < n) ⟨fun ⟨a, b⟩ => ⟨a, b⟩, fun ⟨a, b⟩ => ⟨a, b⟩⟩
theorem CellsP.len {n : Nat} {s : List Int} (h : CellsP n s) : s.length ≤ n := by
  have h1 : (s.map Int.toNat).Nodup := by
    rw [List.nodup_iff_pairwise_ne, List.pairwise_map]
    refine (List.nodup_iff_pairwise_ne.1 h.nd).imp_of_mem ?_
    intro a b ha hb hab
    have := h.ok a ha; have := h.ok b hb
    omega
  have := nodup_len n _ h1 fun x hx => by
    obtain ⟨a, ha, rfl⟩ := List.mem_map.1 hx
    have := h.ok a ha
    omega
  simpa using this
theorem CellsP.get {n : Nat} {s : List Int} (h : CellsP n s) {i : Nat} (hi : i < s.length) : 0 ≤ s.getD i 0 ∧ s.getD i 0 < n := h.ok _ (getD_mem 0 hi)
/-- Where is this number in the list? -/
def atL (l : List Int) (x : Int) : Int := if x ∈ l then ((l.idxOf x : Nat) : Int) else -1
theorem idxOf_first : ∀ {l : List Int} {x : Int} {i : Nat}, i < l.length → l.getD i 0 = x → (∀ j, j < i → l.getD j 0 ≠ x) → l.idxOf x = i
  | [], x, i, h, _, _ => by simp at h
  | a :: l, x, 0, _, h, _ => by
    simp at h
    subst h
    simp
  | a :: l, x, i + 1, h, h1, h2 => by
    have ha : a ≠ x := by simpa using h2 0 (by omega)
    rw [List.idxOf_cons]
    have : (a == x) = false := by simpa using ha
    rw [this]
    simp only [cond_false]
    rw [idxOf_first (by simpa using h) (by simpa using h1) fun j hj => by simpa using h2 (j + 1) (by omega)]
theorem atL_some {l : List Int} {x : Int} {i : Nat} (h : i < l.length) (h1 : l.getD i 0 = x) (h2 : ∀ j, j < i → l.getD j 0 ≠ x) : atL l x = i := by
  unfold atL
  rw [if_pos (by rw [← h1]; exact getD_mem 0 h), idxOf_first h h1 h2]
theorem atL_none {l : List Int} {x : Int} (h : ∀ j, j < l.length → l.getD j 0 ≠ x) : atL l x = -1 := by
  unfold atL
  rw [if_neg]
  intro hm
  obtain ⟨i, hi, rfl⟩ := List.getElem_of_mem hm
  exact h i hi (getD_lt hi)
theorem atL_neg {l : List Int} {x : Int} : (atL l x < 0) ↔ x ∉ l := by
  unfold atL
  split
  · rename_i h; simp only [h, not_true, iff_false]; omega
  · rename_i h; simp [h]
theorem L_l10At {l : List Int} {x : Int} {K : Int → Prop} (hl : l.length < 2 ^ 62) (hK : K (atL l x)) : Ms_l10At l x K := by
  refine LoopP_for (fun i s => s = (l, x, (i : Int)) ∧ ∀ j, j < i → l.getD j 0 ≠ x) l.length ⟨rfl, by omega⟩ ?_ ?_
  · rintro i _ hi ⟨rfl, hj⟩ Kb hKb
    refine br_t (by simp [len_eq]; exact hi) ⟨by simp [inB_nat]; exact hi, br (fun h => ?_) fun h => hKb _ ⟨by rw [iadd_nat (by omega)], fun j hji => ?_⟩⟩
    · simp only [gI_nat, beq_iff_eq] at h
      rwa [atL_some hi h hj] at hK
    · simp only [gI_nat, beq_eq_false_iff_ne] at h
      rcases Nat.lt_succ_iff_lt_or_eq.1 hji with e | e
      · exact hj j e
      · subst e; exact h
  · rintro _ ⟨rfl, hj⟩ Kb
    refine br_f (by simp [len_eq]) ?_
    rwa [atL_none hj] at hK
theorem L_Index_int {l : List Int} {x : Int} {K : Int → Prop} (hl : l.length < 2 ^ 62) (hK : K (atL l x)) : M_Index_int l x K := by
  refine LoopP_for (fun i s => s = (l, x, len l, (i : Int)) ∧ ∀ j, j < i → l.getD j 0 ≠ x) l.length ⟨rfl, by omega⟩ ?_ ?_
  · rintro i _ hi ⟨rfl, hj⟩ Kb hKb
    refine br_t (by simp [len_eq]; exact hi) ⟨by simp [inB_nat]; exact hi, br (fun h => ?_) fun h => hKb _ ⟨by rw [iadd_nat (by omega)], fun j hji => ?_⟩⟩
    · simp only [gI_nat, beq_iff_eq] at h
      rwa [atL_some hi h.symm hj] at hK
    · simp only [gI_nat, beq_eq_false_iff_ne] at h
      rcases Nat.lt_succ_iff_lt_or_eq.1 hji with e | e
      · exact hj j e
      · subst e; exact fun e => h e.symm
  · rintro _ ⟨rfl, hj⟩ Kb
    refine br_f (by simp [len_eq]) ?_
    rwa [atL_none hj] at hK
theorem L_Contains_int {l : List Int} {x : Int} {K : Bool → Prop} (hl : l.length < 2 ^ 62) (hK : K (decide (x ∈ l))) : M_Contains_int l x K := by
  refine L_Index_int hl ?_
  have : decide (atL l x ≥ 0) = decide (x ∈ l) := by
    have := @atL_neg l x
    by_cases h : x ∈ l
    · simp only [h, not_true, iff_false] at this; simp [h]; omega
    · simp only [h, not_false_eq_true, iff_true] at this; simp [h]; omega
  rw [this]; exact hK
/-- A cell is met. -/
def meet (x : Int) (s : List Int) : List Int := if x ≠ -1 ∧ x ∉ s then s ++ [x] else s
theorem meet_mem {x y : Int} {s : List Int} (h : y ∈ meet x s) : y ∈ s ∨ (y = x ∧ x ≠ -1) := by
  unfold meet at h
  split at h
  · rename_i hh
    rcases List.mem_append.1 h with h | h
    · exact .inl h
    · simp at h; exact .inr ⟨h, hh.1⟩
  · exact .inl h
theorem meet_in {x : Int} {s : List Int} (h : x = -1 ∨ x ∈ s) : meet x s = s := by
  unfold meet
  rw [if_neg]
  rintro ⟨a, b⟩
  rcases h with h | h
  · exact a h
  · exact b h
theorem CellsP.meet {n : Nat} {x : Int} {s : List Int} (h : CellsP n s) (hx : okP n x) : CellsP n (meet x s) := by
  refine ⟨?_, fun y hy => ?_⟩
  · unfold Ab.meet
    split
    · rename_i hh
      rw [List.nodup_append]
      exact ⟨h.nd, by simp, fun a ha b hb => by simp at hb; subst hb; exact fun e => hh.2 (e ▸ ha)⟩
    · exact h.nd
  · rcases meet_mem hy with hy | ⟨rfl, hne⟩
    · exact h.ok y hy
    · have := hx.1; exact ⟨by omega, hx.2⟩
def metL (ps s : List Int) : List Int := ps.foldl (fun s p => meet p s) s
/-- A step of copying. -/
def stepO (l r s : List Int) (i : Nat) : List Int := meet (r.getD (s.getD i 0).toNat 0) (meet (l.getD (s.getD i 0).toNat 0) s)
def bfs (l r : List Int) : Nat → Nat → List Int → List Int
  | 0, i, s => s
  | f + 1, i, s => if i < s.length then bfs l r f (i + 1) (stepO l r s i) else s
def ordF (l r ro : List Int) : List Int := bfs l r (l.length + 1) 0 (metL ro [])
theorem gI_at {l : List Int} {x : Int} : gI l x = l.getD x.toNat 0 := rfl
theorem L_l1Copy {l r ro : List Int} {K : Prop} (hv : HVp l r ro) (hK : K) : Ms_l1Copy l r ro K := by
  have := hv.l8; have := hv.lr; have := hv.r3
  exact ⟨by omega, by omega, by omega, hK⟩
theorem L_has {l r ro : List Int} {c : Int} {K : Bool → Prop} (hK : K (decide (HVp l r ro ∧ 0 ≤ c ∧ c < l.length))) : Mi_has l r ro c K := by
  refine L_iHeapValid (br (fun h => br (fun h1 => ?_) fun h1 => ?_) fun h => ?_)
  · simp only [decide_eq_true_eq, ge_iff_le] at h h1
    have e : decide (c < len l) = decide (HVp l r ro ∧ 0 ≤ c ∧ c < l.length) := decide_eq_decide.2 ⟨fun hh => ⟨h, h1, hh⟩, fun hh => hh.2.2⟩
    rw [e]; exact hK
  · simp only [decide_eq_true_eq, ge_iff_le, decide_eq_false_iff_not] at h h1; rw [decide_eq_false (fun hh => h1 hh.2.1)] at hK; exact hK
  · simp at h; simpa [h] using hK
theorem cells_iff {n : Nat} {s : List Int} : CellsP n s ↔ ∀ i, i < s.length → 0 ≤ s.getD i 0 ∧ s.getD i 0 < n ∧ s.getD i 0 ∉ s.take i := by
  constructor
  · intro h i hi
    refine ⟨(h.get hi).1, (h.get hi).2, fun hm => ?_⟩
    obtain ⟨j, hj, he⟩ := List.getElem_of_mem hm
    rw [List.getElem_take] at he
    rw [getD_lt hi] at he
    have hjs : j < s.length := by simp at hj; omega
    have := (List.getElem_inj (h₀ := hjs) (h₁ := hi) h.nd).1 he
    simp at hj; omega
  · intro h
    refine ⟨?_, fun x hx => ?_⟩
    · rw [List.nodup_iff_pairwise_ne, List.pairwise_iff_getElem]
      intro i j hi hj hij he
      refine (h j hj).2.2 ?_
      rw [getD_lt hj, ← he]
      exact List.mem_take_iff_getElem.2 ⟨i, by omega, rfl⟩
    · obtain ⟨i, hi, rfl⟩ := List.getElem_of_mem hx
      have := h i hi
      rw [getD_lt hi] at this
      exact ⟨this.1, this.2.1⟩
theorem sub_nat {α : Type} (l : List α) (i : Nat) : sub l 0 (i : Int) = l.take i := by simp [sub]
theorem L_l10Cells {l r ro s : List Int} {K : Bool → Prop} (hs : s.length < 2 ^ 60) (hK : K (decide (HVp l r ro ∧ CellsP l.length s))) : Ms_l10Cells l r ro s K := by
  have no : ¬ (HVp l r ro ∧ CellsP l.length s) → K false := fun h => by rwa [decide_eq_false h] at hK
  refine L_sHeapValid (br (fun h => no fun hh => ?_) fun h => br (fun h1 => no fun hh => ?_) fun h1 => ?_)
  · simp only [Bool.not_eq_true', decide_eq_false_iff_not] at h; exact h hh.1
  · have h1 := of_decide_eq_true h1; simp only [len_eq] at h1; have := hh.2.len; omega
  simp only [Bool.not_eq_false', decide_eq_true_eq] at h
  refine LoopP_for (fun i st => st = (s, (i : Int), l, r, ro) ∧ ∀ j, j < i → 0 ≤ s.getD j 0 ∧ s.getD j 0 < l.length ∧ s.getD j 0 ∉ s.take j) s.length ⟨rfl, by omega⟩ ?_ ?_
  · rintro i _ hi ⟨rfl, hj⟩ Kb hKb
    refine br_t (by simp [len_eq]; exact hi) ⟨by simp [inB_nat]; exact hi, br (fun h1 => no fun hh => ?_) fun h1 => ⟨by simp [inB_nat]; exact hi, br (fun h2 => no fun hh => ?_) fun h2 => ⟨⟨by omega, by dsimp only; omega, by dsimp only [len_eq]; omega⟩, by simp [inB_nat]; exact hi, ?_⟩⟩⟩
    · have h1 := of_decide_eq_true h1; simp only [gI_nat] at h1; have := hh.2.get hi; omega
    · have h2 := of_decide_eq_true h2; simp only [gI_nat, len_eq] at h2; have := hh.2.get hi; omega
    · have h1 := of_decide_eq_false h1
      have h2 := of_decide_eq_false h2
      simp only [gI_nat, len_eq] at h1 h2
      simp only [gI_nat, sub_nat]
      refine L_l10At (by simp; omega) (br (fun h3 => no fun hh => ?_) fun h3 => hKb _ ⟨by rw [iadd_nat (by omega)], fun j hji => ?_⟩)
      · have h3 := of_decide_eq_true h3
        have := (cells_iff.1 hh.2 i hi).2.2
        rw [← atL_neg] at this; omega
      · have h3 := of_decide_eq_false h3
        rcases Nat.lt_succ_iff_lt_or_eq.1 hji with e | e
        · exact hj j e
        · subst e; exact ⟨by omega, by omega, by rw [← atL_neg]; omega⟩
  · rintro _ ⟨rfl, hj⟩ Kb
    refine br_f (by simp [len_eq]) ?_
    rwa [decide_eq_true ⟨h, cells_iff.2 hj⟩] at hK
/-- Pointers lead to this cell from one of S. -/
inductive Rc (l r : List Int) (S : Int → Prop) : Int → Prop where
  | base {x : Int} (h : S x) (hn : x ≠ -1) : Rc l r S x
  | left {y : Int} (h : Rc l r S y) (hn : l.getD y.toNat 0 ≠ -1) : Rc l r S (l.getD y.toNat 0)
  | right {y : Int} (h : Rc l r S y) (hn : r.getD y.toNat 0 ≠ -1) : Rc l r S (r.getD y.toNat 0)
theorem okP.cell {n : Nat} {x : Int} (h : okP n x) (hn : x ≠ -1) : 0 ≤ x ∧ x < n := by have := h.1; exact ⟨by omega, h.2⟩
theorem Rc.mono {l r : List Int} {S S' : Int → Prop} (hS : ∀ x, S x → S' x) {x : Int} (h : Rc l r S x) : Rc l r S' x := by
  induction h with
  | base h hn => exact .base (hS _ h) hn
  | left h hn ih => exact .left ih hn
  | right h hn ih => exact .right ih hn
theorem pre_getD {s s' : List Int} (h : ∃ t, s' = s ++ t) {i : Nat} (hi : i < s.length) : s'.getD i 0 = s.getD i 0 := by
  obtain ⟨t, rfl⟩ := h
  rw [List.getD_eq_getElem?_getD, List.getElem?_append_left hi, List.getD_eq_getElem?_getD]
def dm (p far : Int) (st : List Int × List Int) : List Int × List Int := if p ≠ -1 ∧ st.1.getD p.toNat 0 = 0 then (st.1.set p.toNat far, st.2 ++ [p]) else st
structure DInv (n : Nat) (st : List Int × List Int) : Prop where
  len : st.1.length = n
  c : CellsP n st.2
  m : ∀ c : Nat, c < n → (st.1.getD c 0 ≠ 0 ↔ (c : Int) ∈ st.2)
  pos : ∀ c : Nat, c < n → 0 ≤ st.1.getD c 0
  up : ∀ c : Nat, c < n → st.1.getD c 0 ≤ st.2.length
theorem set_getD {l : List Int} {i j : Nat} {v : Int} (hi : i < l.length) : (l.set i v).getD j 0 = if i = j then v else l.getD j 0 := by
  rw [List.getD_eq_getElem?_getD, List.getElem?_set]
  by_cases e : i = j
  · subst e; simp [hi]
  · rw [if_neg e, if_neg e, List.getD_eq_getElem?_getD]
theorem DInv.meet {n : Nat} {st : List Int × List Int} (h : DInv n st) {p far : Int} (hp : okP n p) (h1 : 1 ≤ far) (h2 : far ≤ st.2.length + 1) : DInv n (dm p far st) ∧ (dm p far st).2 = meet p st.2 := by
  have hc2 : CellsP n (Ab.meet p st.2) := h.c.meet hp
  unfold dm
  by_cases q : p ≠ -1 ∧ st.1.getD p.toNat 0 = 0
  · obtain ⟨q0, q1⟩ := q
    have hpc := hp.cell q0
    obtain ⟨k, rfl⟩ := Int.eq_ofNat_of_zero_le hpc.1
    have hk : k < n := by omega
    have hnm : (k : Int) ∉ st.2 := fun hm => by
      have := (h.m k hk).2 hm
      simp only [Int.toNat_natCast] at q1
      exact this q1
    rw [if_pos ⟨q0, q1⟩]
    have e : Ab.meet (k : Int) st.2 = st.2 ++ [(k : Int)] := by unfold Ab.meet; rw [if_pos ⟨q0, hnm⟩]
    rw [e] at hc2 ⊢
    simp only [Int.toNat_natCast]
    refine ⟨⟨by simpa using h.len, hc2, fun c hc => ?_, fun c hc => ?_, fun c hc => ?_⟩, trivial⟩
    · show (st.1.set k far).getD c 0 ≠ 0 ↔ _
      rw [set_getD (by rw [h.len]; exact hk)]
      by_cases e : k = c
      · subst e; rw [if_pos rfl]; simp; omega
      · rw [if_neg e, h.m c hc]
        simp
        intro hh; omega
    · show 0 ≤ (st.1.set k far).getD c 0
      rw [set_getD (by rw [h.len]; exact hk)]
      split
      · omega
      · exact h.pos c hc
    · show (st.1.set k far).getD c 0 ≤ ((st.2 ++ [(k : Int)]).length : Int)
      rw [set_getD (by rw [h.len]; exact hk), List.length_append]
      have := h.up c hc
      split <;> simp only [List.length_singleton] <;> push_cast <;> omega
  · rw [if_neg q]
    refine ⟨h, ?_⟩
    by_cases q0 : p = -1
    · rw [meet_in (.inl q0)]
    · have hpc := hp.cell q0
      have q1 : st.1.getD p.toNat 0 ≠ 0 := fun hh => q ⟨q0, hh⟩
      have := (h.m p.toNat (by omega)).1 q1
      rw [meet_in (.inr (by rwa [Int.toNat_of_nonneg hpc.1] at this))]
/-- The values that stand do not fall along the order of meeting, and none is above this one. -/
structure DMon (out op : List Int) (top : Int) : Prop where
  mono : ∀ j k, j < k → k < op.length → out.getD (op.getD j 0).toNat 0 ≤ out.getD (op.getD k 0).toNat 0
  top : ∀ k, k < op.length → out.getD (op.getD k 0).toNat 0 ≤ top
theorem DMon.meet {n : Nat} {st : List Int × List Int} (h : DInv n st) {p far : Int} (hp : okP n p) (hm : DMon st.1 st.2 far) : DMon (dm p far st).1 (dm p far st).2 far := by
  unfold dm
  by_cases q : p ≠ -1 ∧ st.1.getD p.toNat 0 = 0
  · rw [if_pos q]
    have hpc := hp.cell q.1
    have hold : ∀ j, j < st.2.length → (st.1.set p.toNat far).getD ((st.2 ++ [p]).getD j 0).toNat 0 = st.1.getD (st.2.getD j 0).toNat 0 := by
      intro j hj
      rw [pre_getD ⟨[p], rfl⟩ hj, set_getD (by rw [h.len]; omega), if_neg]
      intro e
      have hg := h.c.get hj
      have hmm : ((st.2.getD j 0).toNat : Int) ∈ st.2 := by rw [Int.toNat_of_nonneg hg.1]; exact getD_mem 0 hj
      have := (h.m (st.2.getD j 0).toNat (by omega)).2 hmm
      rw [← e] at this
      exact this q.2
    have hnew : (st.1.set p.toNat far).getD ((st.2 ++ [p]).getD st.2.length 0).toNat 0 = far := by
      have : (st.2 ++ [p]).getD st.2.length 0 = p := by simp [List.getD_eq_getElem?_getD]
      rw [this, set_getD (by rw [h.len]; omega), if_pos rfl]
    refine ⟨fun j k hjk hk => ?_, fun k hk => ?_⟩
    · simp only [List.length_append, List.length_singleton] at hk
      show (st.1.set p.toNat far).getD ((st.2 ++ [p]).getD j 0).toNat 0 ≤ (st.1.set p.toNat far).getD ((st.2 ++ [p]).getD k 0).toNat 0
      rw [hold j (by omega)]
      by_cases e : k < st.2.length
      · rw [hold k e]; exact hm.mono j k hjk e
      · have e : k = st.2.length := by omega
        rw [e, hnew]
        exact hm.top j (by omega)
    · simp only [List.length_append, List.length_singleton] at hk
      show (st.1.set p.toNat far).getD ((st.2 ++ [p]).getD k 0).toNat 0 ≤ far
      by_cases e : k < st.2.length
      · rw [hold k e]; exact hm.top k e
      · have e : k = st.2.length := by omega
        rw [e, hnew]; exact Int.le_refl _
  · rw [if_neg q]; exact hm
/-- New numbers for the cells D. -/
structure Renum (l r ro l' r' ro' : List Int) (φ : Int → Int) (D : Int → Prop) : Prop where
  none : φ (-1) = -1
  hro : ro' = ro.map φ
  inj : ∀ x y, (D x ∨ x = -1) → (D y ∨ y = -1) → φ x = φ y → x = y
  hl : ∀ y, D y → l'.getD (φ y).toNat 0 = φ (l.getD y.toNat 0)
  hr : ∀ y, D y → r'.getD (φ y).toNat 0 = φ (r.getD y.toNat 0)
  dro : ∀ x ∈ ro, D x ∨ x = -1
  dl : ∀ y, D y → D (l.getD y.toNat 0) ∨ l.getD y.toNat 0 = -1
  dr : ∀ y, D y → D (r.getD y.toNat 0) ∨ r.getD y.toNat 0 = -1
section renum
variable {l r ro l' r' ro' : List Int} {φ : Int → Int} {D : Int → Prop}
theorem Renum.ne (h : Renum l r ro l' r' ro' φ D) {x : Int} (hx : D x ∨ x = -1) (hn : x ≠ -1) : φ x ≠ -1 := fun e => hn (h.inj x (-1) hx (.inr rfl) (by rw [e, h.none]))
theorem Renum.mem (h : Renum l r ro l' r' ro' φ D) {x : Int} {s : List Int} (hx : D x ∨ x = -1) (hs : ∀ y ∈ s, D y) : φ x ∈ s.map φ ↔ x ∈ s := by
  constructor
  · intro hm
    obtain ⟨y, hy, he⟩ := List.mem_map.1 hm
    have := h.inj y x (.inl (hs y hy)) hx he
    rwa [← this]
  · exact fun hm => List.mem_map_of_mem hm
theorem Renum.meet (h : Renum l r ro l' r' ro' φ D) {x : Int} {s : List Int} (hx : D x ∨ x = -1) (hs : ∀ y ∈ s, D y) : Ab.meet (φ x) (s.map φ) = (Ab.meet x s).map φ ∧ ∀ y ∈ Ab.meet x s, D y := by
  have hm := h.mem hx hs
  unfold Ab.meet
  by_cases q : x ≠ -1 ∧ x ∉ s
  · rw [if_pos q, if_pos ⟨h.ne hx q.1, fun e => q.2 (hm.1 e)⟩]
    refine ⟨by simp, fun y hy => ?_⟩
    rcases List.mem_append.1 hy with hy | hy
    · exact hs y hy
    · simp at hy; subst hy; exact hx.resolve_right q.1
  · rw [if_neg q, if_neg]
    · exact ⟨rfl, hs⟩
    · rintro ⟨q1, q2⟩
      refine q ⟨fun e => q1 (by rw [e, h.none]), fun e => q2 (hm.2 e)⟩
end renum
theorem atL_nth {n : Nat} {s : List Int} (h : CellsP n s) {i : Nat} (hi : i < s.length) : atL s (s.getD i 0) = i := by
  refine atL_some hi rfl fun j hj e => ?_
  rw [getD_lt hi, getD_lt (by omega)] at e
  have := (List.getElem_inj (h₀ := show j < s.length by omega) (h₁ := hi) h.nd).1 e
  omega
def canL (l o : List Int) : List Int := o.map fun c => atL o (l.getD c.toNat 0)
theorem canL_len (l o : List Int) : (canL l o).length = o.length := by simp [canL]
structure AlikeP (l r ro l' r' ro' : List Int) : Prop where
  a : HVp l r ro
  b : HVp l' r' ro'
  cl : canL l (ordF l r ro) = canL l' (ordF l' r' ro')
  cr : canL r (ordF l r ro) = canL r' (ordF l' r' ro')
  co : ro.map (atL (ordF l r ro)) = ro'.map (atL (ordF l' r' ro'))
instance (l r ro l' r' ro' : List Int) : Decidable (AlikeP l r ro l' r' ro') :=
  decidable_of_iff (HVp l r ro ∧ HVp l' r' ro' ∧ canL l (ordF l r ro) = canL l' (ordF l' r' ro') ∧ canL r (ordF l r ro) = canL r' (ordF l' r' ro') ∧ ro.map (atL (ordF l r ro)) = ro'.map (atL (ordF l' r' ro')))
    ⟨fun ⟨a, b, c, d, e⟩ => ⟨a, b, c, d, e⟩, fun ⟨a, b, c, d, e⟩ => ⟨a, b, c, d, e⟩⟩
theorem AlikeP.len {l r ro l' r' ro' : List Int} (h : AlikeP l r ro l' r' ro') : (ordF l r ro).length = (ordF l' r' ro').length := by
  have := congrArg List.length h.cl
  rwa [canL_len, canL_len] at this
theorem AlikeP.symm {l r ro l' r' ro' : List Int} (h : AlikeP l r ro l' r' ro') : AlikeP l' r' ro' l r ro := ⟨h.b, h.a, h.cl.symm, h.cr.symm, h.co.symm⟩
structure MoveP (l r ro to : List Int) : Prop where
  h : HVp l r ro
  c : CellsP l.length to
  n : to.length = l.length
instance (l r ro to : List Int) : Decidable (MoveP l r ro to) := decidable_of_iff (HVp l r ro ∧ CellsP l.length to ∧ to.length = l.length) ⟨fun ⟨a, b, c⟩ => ⟨a, b, c⟩, fun ⟨a, b, c⟩ => ⟨a, b, c⟩⟩
def goes (to : List Int) (p : Int) : Int := if p = -1 then -1 else to.getD p.toNat 0
def mvL (to l : List Int) : List Int := (List.range to.length).map fun (c : Nat) => goes to (l.getD (to.idxOf (c : Int)) 0)
theorem mvL_len (to l : List Int) : (mvL to l).length = to.length := by simp [mvL]
theorem mvL_getD {to l : List Int} {c : Nat} (hc : c < to.length) : (mvL to l).getD c 0 = goes to (l.getD (to.idxOf (c : Int)) 0) := by
  rw [getD_lt (by rw [mvL_len]; exact hc)]; simp [mvL]
theorem idxOf_nth {n : Nat} {s : List Int} (h : CellsP n s) {i : Nat} (hi : i < s.length) : s.idxOf (s.getD i 0) = i := by
  have := atL_nth h hi
  unfold atL at this
  rw [if_pos (getD_mem 0 hi)] at this
  omega
theorem full {n : Nat} {s : List Int} (h : CellsP n s) (hn : s.length = n) {c : Nat} (hc : c < n) : (c : Int) ∈ s := by
  refine Classical.byContradiction fun hm => ?_
  have h2 : CellsP n (meet (c : Int) s) := h.meet ⟨by omega, by omega⟩
  have := h2.len
  unfold meet at this
  rw [if_pos ⟨by omega, hm⟩, List.length_append] at this
  simp at this
  omega
section moves
variable {l r ro to : List Int}
theorem MoveP.pt (h : MoveP l r ro to) {x : Int} (hx : okP l.length x) : x = -1 ∨ (0 ≤ x ∧ x < to.length) := by
  by_cases q : x = -1
  · exact .inl q
  · have := hx.cell q; have := h.n; exact .inr ⟨by omega, by omega⟩
theorem MoveP.get (h : MoveP l r ro to) {q : List Int} {y : Int} (h0 : 0 ≤ y) (h1 : y < l.length) : (mvL to q).getD (goes to y).toNat 0 = goes to (q.getD y.toNat 0) := by
  have hn := h.n
  have hg := h.c.get (i := y.toNat) (by omega)
  have e : goes to y = to.getD y.toNat 0 := by unfold goes; rw [if_neg (by omega)]
  rw [e, mvL_getD (by omega), Int.toNat_of_nonneg hg.1, idxOf_nth h.c (by omega)]
end moves
def e2 (x : Int) : Int := if x = 0 then -1 else x
theorem setC_get' {α : Type} : ∀ (vs l : List α) (o i : Nat), o + vs.length ≤ l.length → (setC l o vs)[i]? = if o ≤ i ∧ i < o + vs.length then vs[i - o]? else l[i]? := by
  intro vs
  induction vs with
  | nil => intro l o i _; rw [if_neg (by simp)]; rfl
  | cons v vs ih =>
    intro l o i h
    simp only [List.length_cons] at h
    rw [setC, ih _ _ _ (by simp; omega)]
    by_cases h1 : o + 1 ≤ i ∧ i < o + 1 + vs.length
    · rw [if_pos h1, if_pos (by simp; omega)]
      rw [show i - o = (i - (o + 1)) + 1 by omega]; simp
    · rw [if_neg h1]
      by_cases h2 : i = o
      · subst h2
        rw [if_pos (by simp), List.getElem?_set_self (by omega)]; simp
      · rw [if_neg (by simp; omega), List.getElem?_set_ne (fun e => h2 e.symm)]
theorem setC_rep {v z : Int} {m k n : Nat} (h : m + k ≤ n) : setC (List.replicate m v ++ List.replicate (n - m) z) m (List.replicate k v) = List.replicate (m + k) v ++ List.replicate (n - (m + k)) z := by
  apply List.ext_getElem?
  intro i
  rw [setC_get' _ _ _ _ (by simp; omega)]
  simp only [List.length_replicate, List.getElem?_append, List.getElem?_replicate]
  repeat' split
  all_goals first
    | rfl
    | omega
theorem L_Mul1 {n : Nat} {K : Int → Int → Prop} (h8 : n ≤ 8) (hK : K 0 n) : M_math_bits_Mul (IntKind.wrap .u64 (len [(-1 : Int)])) (IntKind.wrap .u64 (n : Int)) K := by
  unfold M_math_bits_Mul M_math_bits_Mul64
  have e : n = 0 ∨ n = 1 ∨ n = 2 ∨ n = 3 ∨ n = 4 ∨ n = 5 ∨ n = 6 ∨ n = 7 ∨ n = 8 := by omega
  refine ⟨by decide, by decide, by decide, by decide, by decide, ?_⟩
  rcases e with rfl | rfl | rfl | rfl | rfl | rfl | rfl | rfl | rfl <;> exact hK
theorem L_Repeat {n : Nat} {K : List Int → Prop} (h1 : 1 ≤ n) (h8 : n ≤ 8) (hK : K (List.replicate n (-1))) : M_Repeat_int [(-1)] (n : Int) K := by
  have w : IntKind.wrap .i64 (n : Int) = n := wrap64 (by omega) (by omega)
  refine br_f (by simp) (L_Mul1 h8 (br_f (by decide) (br_f (by simp; omega) ⟨by rw [w]; omega, ?_⟩)))
  rw [w]
  simp only [Int.toNat_natCast, List.length_replicate, List.length_singleton]
  refine ⟨by omega, ?_⟩
  have e0 : setC (List.replicate n (0 : Int)) (Int.toNat 0) (List.take (Int.toNat ((n : Int) - 0)) [(-1 : Int)]) = List.replicate 1 (-1) ++ List.replicate (n - 1) 0 := by
    rw [show (Int.toNat ((n : Int) - 0)) = (n - 1) + 1 by omega]
    have := setC_rep (v := (-1)) (z := 0) (m := 0) (k := 1) (n := n) (by omega)
    simpa using this
  rw [e0, show Nat.min 1 (Int.toNat ((n : Int) - 0)) = 1 by have : Nat.min 1 (Int.toNat ((n : Int) - 0)) = min 1 (Int.toNat ((n : Int) - 0)) := rfl; rw [this]; omega]
  refine LoopP_inv (fun s => ∃ m : Nat, 1 ≤ m ∧ m ≤ n ∧ s = ((m : Int), List.replicate m (-1) ++ List.replicate (n - m) 0)) (fun s => n - s.1.toNat) ?_ ⟨1, by omega, h1, rfl⟩
  rintro _ ⟨m, hm1, hmn, rfl⟩ Kb hKb
  have hlen : (List.replicate m (-1 : Int) ++ List.replicate (n - m) 0).length = n := by simp; omega
  refine br (fun h => ?_) fun h => ?_
  · have hlt : m < n := by have := of_decide_eq_true h; simp only [len_eq, hlen] at this; omega
    have hsub : sub (List.replicate m (-1 : Int) ++ List.replicate (n - m) 0) 0 (m : Int) = List.replicate m (-1) := by simp [sub]
    simp only [hlen, hsub, List.length_replicate]
    refine ⟨by omega, by omega, by omega, ?_⟩
    have htk : List.take (Int.toNat ((n : Int) - (m : Int))) (List.replicate m (-1 : Int)) = List.replicate (min (n - m) m) (-1) := by
      rw [List.take_replicate]; congr 1; omega
    rw [htk, Int.toNat_natCast, setC_rep (by omega)]
    have hk : Nat.min m (Int.toNat ((n : Int) - (m : Int))) = min (n - m) m := by
      have : Nat.min m (Int.toNat ((n : Int) - (m : Int))) = min m (Int.toNat ((n : Int) - (m : Int))) := rfl
      rw [this]; omega
    rw [hk]
    have hi : iadd (m : Int) ((min (n - m) m : Nat) : Int) = ((m + min (n - m) m : Nat) : Int) := by rw [iadd_eq (by omega) (by omega)]; omega
    exact hKb _ ⟨m + min (n - m) m, by omega, by omega, by rw [hi]⟩ (by simp only [hi, Int.toNat_natCast]; omega)
  · have : m = n := by have := of_decide_eq_false h; simp only [len_eq, hlen] at this; omega
    subst this
    simpa using hK
theorem L_NewHeap {n q : Nat} {K : Bool → List Int → List Int → List Int → Prop} (h1 : 1 ≤ n) (h8 : n ≤ 8) (q1 : 1 ≤ q) (q3 : q ≤ 3) (hK : K true (List.replicate n (-1)) (List.replicate n (-1)) (List.replicate q (-1))) : Mi_NewHeap (n : Int) (q : Int) K :=
  br_f (by simp; omega) (br_f (by simp; omega) (br_f (by simp; omega) (br_f (by simp; omega) (L_Repeat h1 h8 (L_Repeat h1 h8 (L_Repeat q1 (by omega) hK))))))
def stL (f : Nat → Int) (d : List Int) (i : Nat) : List Int := (List.range d.length).map fun j => if j < i then f j else d.getD j 0
theorem stL_len (f : Nat → Int) (d : List Int) (i : Nat) : (stL f d i).length = d.length := by simp [stL]
theorem stL_getD {f : Nat → Int} {d : List Int} {i j : Nat} (hj : j < d.length) : (stL f d i).getD j 0 = if j < i then f j else d.getD j 0 := by
  rw [getD_lt (by rw [stL_len]; exact hj)]; simp [stL]
theorem stL_zero (f : Nat → Int) (d : List Int) : stL f d 0 = d := by
  refine eqL_iff 0 _ _ (stL_len _ _ _) fun j hj => ?_
  rw [stL_len] at hj
  rw [stL_getD hj, if_neg (by omega)]
theorem getI_set {l : List Int} {i j : Nat} {v : Int} (hj : j < l.length) : (l.set i v).getD j 0 = if i = j then v else l.getD j 0 := by
  rw [List.getD_eq_getElem?_getD, List.getD_eq_getElem?_getD, List.getElem?_set]
  split
  · rename_i e; subst e; rw [if_pos hj]; rfl
  · rfl
theorem stL_succ {f : Nat → Int} {d : List Int} {i : Nat} (hi : i < d.length) : (stL f d i).set i (f i) = stL f d (i + 1) := by
  refine eqL_iff 0 _ _ (by simp [stL_len]) fun j hj => ?_
  rw [List.length_set, stL_len] at hj
  rw [getI_set (by rw [stL_len]; exact hj), stL_getD hj, stL_getD hj]
  repeat' split
  all_goals first
    | rfl
    | omega
    | (rename_i e _; subst e; rfl)
theorem stL_all {f : Nat → Int} {d : List Int} {i : Nat} (hi : d.length ≤ i) : stL f d i = (List.range d.length).map f := by
  unfold stL
  refine List.map_congr_left fun j hj => ?_
  rw [if_pos (by have : j < d.length := by simpa using hj
                 omega)]
theorem map_stL {f : Int → Int} {q : List Int} : (List.range q.length).map (fun j => f (q.getD j 0)) = q.map f := by
  refine eqL_iff 0 _ _ (by simp) fun j hj => ?_
  have hj : j < q.length := by simpa using hj
  rw [getD_lt (l := (List.range q.length).map _) (by simpa using hj), getD_lt (l := q.map f) (by simpa using hj)]
  simp [List.getD_eq_getElem?_getD, hj]
/-- The first i cells have moved. -/
def pm (to q d : List Int) (i : Nat) : List Int := (List.range to.length).map fun (c : Nat) => if to.idxOf (c : Int) < i then goes to (q.getD (to.idxOf (c : Int)) 0) else d.getD c 0
theorem pm_len (to q d : List Int) (i : Nat) : (pm to q d i).length = to.length := by simp [pm]
theorem pm_getD {to q d : List Int} {i c : Nat} (hc : c < to.length) : (pm to q d i).getD c 0 = if to.idxOf (c : Int) < i then goes to (q.getD (to.idxOf (c : Int)) 0) else d.getD c 0 := by
  rw [getD_lt (by rw [pm_len]; exact hc)]; simp [pm]
theorem pm_zero {to q d : List Int} (h : d.length = to.length) : pm to q d 0 = d := by
  refine eqL_iff 0 _ _ (by rw [pm_len, h]) fun j hj => ?_
  rw [pm_len] at hj
  rw [pm_getD hj, if_neg (by omega)]
theorem pm_succ {to q d : List Int} {n i : Nat} (h : CellsP n to) (hi : i < to.length) (hn : to.length = n) : (pm to q d i).set (to.getD i 0).toNat (goes to (q.getD i 0)) = pm to q d (i + 1) := by
  have hg := h.get hi
  refine eqL_iff 0 _ _ (by simp [pm_len]) fun j hj => ?_
  rw [List.length_set, pm_len] at hj
  rw [getI_set (by rw [pm_len]; exact hj), pm_getD hj, pm_getD hj]
  by_cases e : (to.getD i 0).toNat = j
  · have e2 : to.getD i 0 = (j : Int) := by omega
    have := idxOf_nth h hi
    rw [e2] at this
    rw [if_pos e, this, if_pos (by omega)]
  · rw [if_neg e]
    have hne : to.idxOf (j : Int) ≠ i := by
      intro e3
      have hm := full h hn (c := j) (by omega)
      have : to.getD (to.idxOf (j : Int)) 0 = j := by rw [getD_lt (List.idxOf_lt_length_of_mem hm)]; exact List.getElem_idxOf _
      rw [e3] at this
      omega
    by_cases e4 : to.idxOf (j : Int) < i
    · rw [if_pos e4, if_pos (by omega)]
    · rw [if_neg e4, if_neg (by omega)]
theorem pm_all {to q d : List Int} {n : Nat} (h : CellsP n to) (hn : to.length = n) : pm to q d to.length = mvL to q := by
  unfold pm mvL
  refine List.map_congr_left fun c hc => ?_
  have hc : c < to.length := by simpa using hc
  rw [if_pos (List.idxOf_lt_length_of_mem (full h hn (by omega)))]
theorem L_MoveCells_1 {p : Int} {to : List Int} {K : Int → Prop} (hp : p = -1 ∨ (0 ≤ p ∧ p < to.length)) (hK : K (goes to p)) : Mi_MoveCells_1 p to K := by
  refine br (fun h => ?_) fun h => ?_
  · have h : p = -1 := by simpa using h
    rw [goes, if_pos h] at hK; exact hK
  · have h : p ≠ -1 := by simpa using h
    rw [goes, if_neg h] at hK
    exact ⟨hp.resolve_left h, hK⟩
theorem L_iMoveCells {l r ro to : List Int} {K : Bool → List Int → List Int → List Int → Prop} (hs : to.length < 2 ^ 60) (hy : MoveP l r ro to → K true (mvL to l) (mvL to r) (ro.map (goes to))) (hn : ¬ MoveP l r ro to → K false [] [] []) : Mi_MoveCells l r ro to K := by
  refine L_iHeapValid (br (fun h => hn fun hh => ?_) fun h => br (fun h1 => hn fun hh => ?_) fun h1 => ?_)
  · simp only [Bool.not_eq_true', decide_eq_false_iff_not] at h; exact h hh.h
  · simp only [len_eq, bne_iff_ne] at h1; exact h1 (by rw [hh.n])
  simp only [Bool.not_eq_false', decide_eq_true_eq] at h
  have hlen : to.length = l.length := by simp only [len_eq, bne_eq_false_iff_eq] at h1; omega
  refine LoopP_for (fun i st => st = (to, len to, (i : Int), l, r, ro, to, [], [], []) ∧ ∀ j, j < i → 0 ≤ to.getD j 0 ∧ to.getD j 0 < l.length ∧ to.getD j 0 ∉ to.take j) to.length ⟨rfl, by omega⟩ ?_ ?_
  · rintro i _ hi ⟨rfl, hj⟩ Kb hKb
    refine br_t (by simp [len_eq]; exact hi) ⟨by simp [inB_nat]; exact hi, L_has (br (fun h3 => hn fun hh => ?_) fun h3 => ⟨⟨by omega, by dsimp only; omega, by dsimp only [len_eq]; omega⟩, ?_⟩)⟩
    · simp only [Bool.not_eq_true', decide_eq_false_iff_not, gI_nat] at h3; exact h3 ⟨hh.h, hh.c.get hi⟩
    · simp only [Bool.not_eq_false', decide_eq_true_eq, gI_nat] at h3
      simp only [gI_nat, sub_nat]
      refine L_Contains_int (by simp; omega) (br (fun h4 => hn fun hh => ?_) fun h4 => hKb _ ⟨by rw [iadd_nat (by omega)], fun j hji => ?_⟩)
      · exact (cells_iff.1 hh.c i hi).2.2 (of_decide_eq_true h4)
      · rcases Nat.lt_succ_iff_lt_or_eq.1 hji with e | e
        · exact hj j e
        · subst e; exact ⟨h3.2.1, h3.2.2, of_decide_eq_false h4⟩
  · rintro _ ⟨rfl, hj⟩ Kb
    refine br_f (by simp [len_eq]) ?_
    have hc := cells_iff.2 hj
    have hM : MoveP l r ro to := ⟨h, hc, hlen⟩
    have hlr := h.lr
    simp only [len_eq]
    refine L_NewHeap h.l1 h.l8 h.r1 h.r3 ?_
    refine LoopP_for (fun i st => st = (to, (to.length : Int), (i : Int), l, r, ro, to, [], [], [], pm to l (List.replicate l.length (-1)) i, pm to r (List.replicate l.length (-1)) i, List.replicate ro.length (-1))) to.length ?_ ?_ ?_
    · rw [pm_zero (by simp [hlen]), pm_zero (by simp [hlen])]; rfl
    · rintro i _ hi rfl Kb hKb
      have hg := hc.get hi
      refine br_t (by simp; exact hi) ⟨by rw [inB_nat]; exact hi, by rw [inB_nat]; dsimp only; omega, L_MoveCells_1 (by simp only [gI_nat]; exact hM.pt (h.gl (by omega))) ⟨by rw [inB_nat]; dsimp only; omega, L_MoveCells_1 (by simp only [gI_nat]; exact hM.pt (h.gr (by omega))) ⟨?_, ?_, hKb _ ?_⟩⟩⟩
      · simp only [gI_nat, pm_len]; exact ⟨hg.1, by omega⟩
      · simp only [gI_nat, pm_len]; exact ⟨hg.1, by omega⟩
      · simp only [gI_nat]
        rw [iadd_nat (by omega), ← pm_succ hc hi hlen, ← pm_succ hc hi hlen]
        rfl
    · rintro _ rfl Kb
      refine br_f (by simp) ?_
      simp only [pm_all hc hlen, len_eq]
      refine LoopP_for (fun i st => st = (ro, (ro.length : Int), (i : Int), to, [], [], [], mvL to l, mvL to r, stL (fun j => goes to (ro.getD j 0)) (List.replicate ro.length (-1)) i)) ro.length ?_ ?_ ?_
      · rw [stL_zero]; rfl
      · rintro i _ hi rfl Kb hKb
        refine br_t (by simp; exact hi) ⟨by rw [inB_nat]; exact hi, L_MoveCells_1 (by simp only [gI_nat]; exact hM.pt (h.go hi)) ⟨by rw [inB_nat]; dsimp only; rw [stL_len]; simpa using hi, hKb _ ?_⟩⟩
        simp only [gI_nat, uL_nat]
        rw [iadd_nat (by have := h.r3; omega), ← stL_succ (by simpa using hi)]
      · rintro _ rfl Kb
        refine br_f (by simp) ?_
        have e : stL (fun j => goes to (ro.getD j 0)) (List.replicate ro.length (-1)) ro.length = ro.map (goes to) := by
          rw [stL_all (by simp)]; simp only [List.length_replicate]; exact map_stL
        show K true (mvL to l) (mvL to r) _
        rw [e]
        exact hy hM
theorem L_sMoveCells {l r ro to : List Int} {K : Bool → List Int → List Int → List Int → Prop} (hs : to.length < 2 ^ 60) (hy : MoveP l r ro to → K true (mvL to l) (mvL to r) (ro.map (goes to))) (hn : ¬ MoveP l r ro to → K false [] [] []) : Ms_MoveCells l r ro to K := by
  refine L_l10Cells hs (br (fun h => hn fun hh => ?_) fun h => br (fun h1 => hn fun hh => ?_) fun h1 => ?_)
  · simp only [Bool.not_eq_true', decide_eq_false_iff_not] at h; exact h ⟨hh.h, hh.c⟩
  · simp only [len_eq, bne_iff_ne] at h1; exact h1 (by rw [hh.n])
  simp only [Bool.not_eq_false', decide_eq_true_eq] at h
  obtain ⟨h, hc⟩ := h
  have hlen : to.length = l.length := by simp only [len_eq, bne_eq_false_iff_eq] at h1; omega
  have hM : MoveP l r ro to := ⟨h, hc, hlen⟩
  have hlr := h.lr
  have h8 := h.l8
  refine L_l1Copy h ?_
  refine LoopP_for (fun i st => st = (to, (i : Int), l, r, ro, [], [], [], pm to l l i, pm to r r i, ro)) to.length ?_ ?_ ?_
  · rw [pm_zero hlen.symm, pm_zero (by omega)]; rfl
  · rintro i _ hi rfl Kb hKb
    have hg := hc.get hi
    have hl := hM.pt (h.gl (i := i) (by omega))
    have hr := hM.pt (h.gr (i := i) (by omega))
    -- what is set at last
    have fin : Kb (to, iadd (i : Int) 1, l, r, ro, [], [], [], (pm to l l i).set (to.getD i 0).toNat (goes to (l.getD i 0)), (pm to r r i).set (to.getD i 0).toNat (goes to (r.getD i 0)), ro) := by
      refine hKb _ ?_
      rw [iadd_nat (by omega), pm_succ hc hi hlen, pm_succ hc hi hlen]
    have b1 : inB (i : Int) to.length := by rw [inB_nat]; exact hi
    have b2 : inB (to.getD i 0) to.length := ⟨hg.1, by omega⟩
    have b3 : inB (i : Int) l.length := by rw [inB_nat]; omega
    have b4 : inB (i : Int) r.length := by rw [inB_nat]; omega
    refine br_t (by simp [len_eq]; exact hi) ?_
    simp only [gI_nat, pm_len, uL, List.length_set, List.set_set]
    refine ⟨b1, b2, b1, b2, b3, br (fun e => ⟨b1, b3, ?_, b2, b4, br (fun e2 => ⟨b1, b4, ?_, b2, ?_⟩) fun e2 => ?_⟩) fun e => ⟨b4, br (fun e2 => ⟨b1, b4, ?_, b2, ?_⟩) fun e2 => ?_⟩⟩
    all_goals simp only [bne_iff_ne, ne_eq, bne_eq_false_iff_eq] at e
    all_goals try simp only [bne_iff_ne, ne_eq, bne_eq_false_iff_eq] at e2
    · exact hl.resolve_left e
    · exact hr.resolve_left e2
    · simpa only [goes, if_neg e, if_neg e2, gI_at] using fin
    · simpa only [goes, if_neg e, if_pos e2, gI_at] using fin
    · exact hr.resolve_left e2
    · simpa only [goes, if_pos e, if_neg e2, gI_at] using fin
    · simpa only [goes, if_pos e, if_pos e2, gI_at] using fin
  · rintro _ rfl Kb
    refine br_f (by simp [len_eq]) ?_
    simp only [pm_all hc hlen]
    refine LoopP_for (fun i st => st = (to, (i : Int), l, r, ro, [], [], [], mvL to l, mvL to r, stL (fun j => goes to (ro.getD j 0)) ro i)) ro.length ?_ ?_ ?_
    · rw [stL_zero]; rfl
    · rintro i _ hi rfl Kb hKb
      have h3 := h.r3
      have hp := hM.pt (h.go hi)
      have fin : Kb (to, iadd (i : Int) 1, l, r, ro, [], [], [], mvL to l, mvL to r, (stL (fun j => goes to (ro.getD j 0)) ro i).set i (goes to (ro.getD i 0))) := by
        refine hKb _ ?_
        rw [iadd_nat (by omega), ← stL_succ hi]
      have b1 : inB (i : Int) ro.length := by rw [inB_nat]; exact hi
      refine br_t (by simp [len_eq]; exact hi) ⟨b1, br (fun e => ?_) fun e => ?_⟩
      · have e : ro.getD i 0 ≠ -1 := by simpa only [gI_nat, bne_iff_ne, ne_eq] using e
        simp only [gI_nat, stL_len, uL_nat]
        refine ⟨b1, hp.resolve_left e, b1, ?_⟩
        simpa only [goes, if_neg e, gI_at] using fin
      · have e : ro.getD i 0 = -1 := by simpa only [gI_nat, bne_eq_false_iff_eq] using e
        have e2 : (stL (fun j => goes to (ro.getD j 0)) ro i).set i (goes to (ro.getD i 0)) = stL (fun j => goes to (ro.getD j 0)) ro i := by
          refine eqL_iff 0 _ _ (by simp) fun j hj => ?_
          rw [List.length_set, stL_len] at hj
          rw [getI_set (by rw [stL_len]; exact hj), stL_getD hj]
          split
          · rename_i e3; subst e3; rw [if_neg (by omega), e]; rfl
          · rfl
        rw [e2] at fin
        exact fin
    · rintro _ rfl Kb
      refine br_f (by simp [len_eq]) ?_
      have e : stL (fun j => goes to (ro.getD j 0)) ro ro.length = ro.map (goes to) := by
        rw [stL_all (Nat.le_refl _)]; exact map_stL
      show K true (mvL to l) (mvL to r) _
      rw [e]
      exact hy hM
theorem neStep {a b : Int} {P Q : Prop} (e : a = b) (h : Q) : ((a != b) = true → P) ∧ ((a != b) = false → Q) := br_f (by simp [e]) h
theorem eqStep {a : Bool} {P Q : Prop} (h : Q) : ((!(a == a)) = true → P) ∧ ((!(a == a)) = false → Q) := br_f (by simp) h
theorem law_FnExactMoveCells {p q r s : List Int} (hp : p.length ≤ maxLen) (hq : q.length ≤ maxLen) (hr : r.length ≤ maxLen) (hs : s.length ≤ maxLen) {K : Bool → Prop} (hK : K true) : Ml_FnExactMoveCells p q r s K := by
  unfold Ml_FnExactMoveCells
  refine br (fun _ => hK) fun c4 => ?_
  have c4 : s.length ≤ 1048576 := by have := of_decide_eq_false c4; simp only [len_eq] at this; omega
  refine L_szHeap (by decide) (by decide) hp hq hr (szStop hK) fun y a1 b1 c1 c2 c3 => szStep a1 ?_
  have key : ∃ b x y z, (∀ K : Bool → List Int → List Int → List Int → Prop, K b x y z → Ms_MoveCells p q r s K) ∧ (∀ K : Bool → List Int → List Int → List Int → Prop, K b x y z → Mi_MoveCells p q r s K) ∧ x.length ≤ 1048576 ∧ y.length ≤ 1048576 ∧ z.length ≤ 1048576 := by
    by_cases h : MoveP p q r s
    · refine ⟨true, _, _, _, fun K hK => L_sMoveCells (by omega) (fun _ => hK) fun hh => absurd h hh, fun K hK => L_iMoveCells (by omega) (fun _ => hK) fun hh => absurd h hh, ?_, ?_, ?_⟩
      · rw [mvL_len]; exact c4
      · rw [mvL_len]; exact c4
      · simpa using c3
    · exact ⟨false, [], [], [], fun K hK => L_sMoveCells (by omega) (fun hh => absurd hh h) fun _ => hK, fun K hK => L_iMoveCells (by omega) (fun hh => absurd hh h) fun _ => hK, by simp, by simp, by simp⟩
  obtain ⟨b, x, y, z, hS, hI, d1, d2, d3⟩ := key
  have e : ∀ K : Bool → Prop, K true → Ml_eqHeap x y z x y z K := fun K hK => L_eqHeap_same (by omega) (by omega) (by omega) hK
  refine L_toHeap c1 c2 c3 (L_toIntS c4 (hS _ (L_toHeap c1 c2 c3 (L_toIntS c4 (hI _ ?_)))))
  refine e _ (step_t rfl (eqStep (L_toHeap c1 c2 c3 (L_eqHeap_same (by omega) (by omega) (by omega) (step_t rfl (L_toIntS c4 (L_eqIntS (by omega) (step_t (by simp) ?_))))))))
  refine L_markHeap (by decide) (by decide) (by omega) (by omega) (by omega) (L_markIntS (by omega) (by omega) (by omega) (szStep (by omega) (e _ (step_t rfl (eqStep ?_)))))
  refine L_markHeap (by decide) (by decide) (by omega) (by omega) (by omega) (L_heldHeap (by decide) (by decide) (by omega) (by omega) (by omega) (szStep (by omega) (neStep rfl ?_)))
  exact L_toHeap c1 c2 c3 (L_toIntS c4 (hI _ (e _ (step_t rfl (eqStep (L_heldHeap (by decide) (by decide) (by omega) (by omega) (by omega) (szStep (by omega) (neStep rfl hK))))))))
end Go.Ab
