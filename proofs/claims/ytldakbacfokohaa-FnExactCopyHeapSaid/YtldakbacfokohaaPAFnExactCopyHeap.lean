/-
  What is proved here: the plain laws that the law FnExactCopyHeap needs: what its functions compute, and that its model returns true. Conditions: those written in each statement.
-/
import Derived.Test.YtldakbacfokohaaGM
namespace Go.Ab
set_option linter.unusedVariables false
set_option linter.unusedSimpArgs false
theorem wrap64 {x : Int} (h1 : -9223372036854775808 ≤ x) (h2 : x < 9223372036854775808) : IntKind.i64.wrap x = x := by
  simp [IntKind.wrap, IntKind.signed, IntKind.bits]
  split <;> omega
theorem iadd_eq {a b : Int} (h1 : -9223372036854775808 ≤ a + b) (h2 : a + b < 9223372036854775808) : iadd a b = a + b := wrap64 h1 h2
theorem isub_eq {a b : Int} (h1 : -9223372036854775808 ≤ a - b) (h2 : a - b < 9223372036854775808) : isub a b = a - b := wrap64 h1 h2
theorem iadd_nat {i : Nat} (h : i < 2 ^ 62) : iadd (i : Int) 1 = ((i + 1 : Nat) : Int) := by rw [iadd_eq] <;> omega
theorem inB_nat {i n : Nat} : inB (i : Int) n = (i < n) := by simp [inB]
theorem gI_nat (l : List Int) (i : Nat) : gI l (i : Int) = l.getD i 0 := by simp [gI, EK.dflt]
theorem uL_nat {α : Type} (l : List α) (i : Nat) (v : α) : uL l (i : Int) v = l.set i v := by simp [uL]
theorem len_eq {α : Type} (l : List α) : len l = (l.length : Int) := rfl
/-- A loop that counts. -/
theorem LoopP_for {S : Type} {body : S → (S → Prop) → (S → Prop) → Prop} {Kx : S → Prop} {s : S} (J : Nat → S → Prop) (n : Nat) (h0 : J 0 s)
    (step : ∀ i s, i < n → J i s → ∀ Kb : S → Prop, (∀ s', J (i + 1) s' → Kb s') → body s Kb Kx) (last : ∀ s, J n s → ∀ Kb : S → Prop, body s Kb Kx) : LoopP body s Kx := by
  suffices hh : ∀ k i s, n - i < k → i ≤ n → J i s → itP body k s Kx from ⟨n + 1, hh _ 0 s (by omega) (by omega) h0⟩
  intro k
  induction k with
  | zero => intro i s h; omega
  | succ k ih =>
    intro i s hk hi hj
    by_cases e : i = n
    · subst e; exact last s hj _
    · exact step i s (by omega) hj _ fun s' h' => ih (i + 1) s' (by omega) (by omega) h'
theorem br {b : Bool} {P Q : Prop} (h1 : b = true → P) (h2 : b = false → Q) : (b = true → P) ∧ (b = false → Q) := ⟨h1, h2⟩
theorem br_t {b : Bool} {P Q : Prop} (h : b = true) (hp : P) : (b = true → P) ∧ (b = false → Q) := ⟨fun _ => hp, fun h' => by rw [h] at h'; cases h'⟩
theorem br_f {b : Bool} {P Q : Prop} (h : b = false) (hq : Q) : (b = true → P) ∧ (b = false → Q) := ⟨fun h' => (by rw [h] at h'; cases h'), fun _ => hq⟩
theorem getD_lt {α : Type} {l : List α} {i : Nat} {d : α} (h : i < l.length) : l.getD i d = l[i] := by simp [List.getD_eq_getElem?_getD, h]
theorem eqL_iff {α : Type} (d : α) (p q : List α) (h : p.length = q.length) (hj : ∀ j, j < p.length → p.getD j d = q.getD j d) : p = q := by
  apply List.ext_getElem h
  intro i h1 h2
  have := hj i h1
  rwa [getD_lt h1, getD_lt h2] at this
/-- Two lists are compared. -/
theorem eqLoop3 {α : Type} [DecidableEq α] (d : α) (p1 p2 : List α) (hb : p1.length < 2 ^ 62) (K : Bool → Prop) (hK : K (decide (p1 = p2))) (hl : p1.length = p2.length) :
    (LoopP (S := List α × List α × Int) (fun s1 Kb1 Kx1 =>
(((decide (s1.2.2 < (len s1.1))) = true →
((inB s1.2.2 (List.length s1.1)) ∧
((inB s1.2.2 (List.length s1.2.1)) ∧
((((s1.1.getD s1.2.2.toNat d) != (s1.2.1.getD s1.2.2.toNat d)) = true →
(K false)) ∧
(((s1.1.getD s1.2.2.toNat d) != (s1.2.1.getD s1.2.2.toNat d)) = false →
(Kb1 (s1.1, s1.2.1, (iadd s1.2.2 1)))))))) ∧
((decide (s1.2.2 < (len s1.1))) = false →
(Kx1 (s1.1, s1.2.1, s1.2.2)))))
(p1, p2, 0) fun s1 => (K true)) := by
  refine LoopP_for (fun i s => s = (p1, p2, (i : Int)) ∧ ∀ j, j < i → p1.getD j d = p2.getD j d) p1.length ⟨rfl, by omega⟩ ?_ ?_
  · rintro i _ hi ⟨rfl, hj⟩ Kb hKb
    refine br_t (by simp [len_eq]; exact hi) ⟨by simp [inB_nat]; exact hi, by simp [inB_nat]; omega, br (fun h => ?_) fun h => ?_⟩
    · simp at h
      have : p1 ≠ p2 := fun e => h (by rw [e])
      simpa [this] using hK
    · simp at h
      refine hKb _ ⟨by rw [iadd_nat (by omega)], fun j hji => ?_⟩
      rcases Nat.lt_succ_iff_lt_or_eq.1 hji with e | e
      · exact hj j e
      · subst e; exact h
  · rintro _ ⟨rfl, hj⟩ Kb
    refine br_f (by simp [len_eq]) ?_
    have := eqL_iff d p1 p2 hl hj
    simpa [this] using hK
theorem eqGate {α : Type} [DecidableEq α] {p1 p2 : List α} {K : Bool → Prop} {P : Prop} (hK : K (decide (p1 = p2))) (h : p1.length = p2.length → P) :
    (((len p1) != (len p2)) = true → (K false)) ∧ (((len p1) != (len p2)) = false → P) := by
  refine br (fun e => ?_) fun e => h ?_
  · have : p1 ≠ p2 := by rintro rfl; simp at e
    simpa [this] using hK
  · simp [len_eq] at e; omega
/-- A list is copied, element by element. -/
theorem cpLoop {α : Type} (d : α) (p1 : List α) (hb : p1.length < 2 ^ 62) (K : List α → Prop) (hK : K p1) :
    (LoopP (S := List α × Int × List α) (fun s1 Kb1 Kx1 =>
(((decide (s1.2.1 < (len s1.1))) = true →
((inB s1.2.1 (List.length s1.1)) ∧
((inB s1.2.1 (List.length s1.2.2)) ∧
(Kb1 (s1.1, (iadd s1.2.1 1), (uL s1.2.2 s1.2.1 (s1.1.getD s1.2.1.toNat d))))))) ∧
((decide (s1.2.1 < (len s1.1))) = false →
(Kx1 (s1.1, s1.2.1, s1.2.2)))))
(p1, 0, (List.replicate (Int.toNat (len p1)) d)) fun s1 => (K s1.2.2)) := by
  refine LoopP_for (fun i s => ∃ t, s = (p1, (i : Int), t) ∧ t.length = p1.length ∧ ∀ j, j < i → t.getD j d = p1.getD j d) p1.length ⟨_, rfl, by simp [len_eq], by omega⟩ ?_ ?_
  · rintro i _ hi ⟨t, rfl, ht, hj⟩ Kb hKb
    refine br_t (by simp [len_eq]; exact hi) ⟨by simp [inB_nat]; exact hi, by simp [inB_nat]; omega, hKb _ ⟨_, by rw [iadd_nat (by omega)], ?_, fun j hji => ?_⟩⟩
    · simp [uL, ht]
    · simp only [uL_nat, Int.toNat_natCast]
      rw [List.getD_eq_getElem?_getD, List.getElem?_set]
      by_cases e : i = j
      · subst e; simp [ht, hi]
      · rw [if_neg e, ← List.getD_eq_getElem?_getD]; exact hj j (by omega)
  · rintro _ ⟨t, rfl, ht, hj⟩ Kb
    refine br_f (by simp [len_eq]) ?_
    rw [show p1 = t from (eqL_iff d t p1 ht (fun j h => hj j (by omega))).symm] at hK
    exact hK
theorem L_szIntS {p : List Int} {n : Int} {K : Int → Prop} (h0 : 0 ≤ n) (hn : n ≤ 1048576) (hp : p.length ≤ maxLen) (h1 : K (-1)) (h2 : ∀ y, 0 ≤ y → y ≤ n → p.length ≤ 1048576 → K y) : Ml_szIntS p n K := by
  have hs : isub n (len p) = n - p.length := by rw [isub_eq] <;> simp only [len_eq] <;> simp only [maxLen] at hp <;> omega
  unfold Ml_szIntS
  rw [hs]
  refine br (fun _ => h1) fun h => ?_
  simp at h
  exact h2 _ (by omega) (by omega) (by omega)
theorem szStep {y : Int} {P Q : Prop} (hy : 0 ≤ y) (h : Q) : (decide (y < 0) = true → P) ∧ (decide (y < 0) = false → Q) := br_f (by simp; omega) h
theorem szStop {P Q : Prop} (h : P) : (decide ((-1 : Int) < 0) = true → P) ∧ (decide ((-1 : Int) < 0) = false → Q) := br_t (by decide) h
theorem L_szHeap {p q r : List Int} {n : Int} {K : Int → Prop} (h0 : 0 ≤ n) (hn : n ≤ 1048576) (hp : p.length ≤ maxLen) (hq : q.length ≤ maxLen) (hr : r.length ≤ maxLen) (h1 : K (-1))
    (h2 : ∀ y, 0 ≤ y → y ≤ n → p.length ≤ 1048576 → q.length ≤ 1048576 → r.length ≤ 1048576 → K y) : Ml_szHeap p q r n K := by
  unfold Ml_szHeap
  refine L_szIntS h0 hn hp (szStop h1) fun y a1 b1 c1 => szStep a1 ?_
  refine L_szIntS a1 (by omega) hq (szStop h1) fun z a2 b2 c2 => szStep a2 ?_
  exact L_szIntS a2 (by omega) hr (szStop h1) fun w a3 b3 c3 => szStep a3 (h2 w a3 (by omega) c1 c2 c3)
theorem L_toIntS {p : List Int} {K : List Int → Prop} (hp : p.length ≤ 1048576) (hK : K p) : Ml_toIntS p K :=
  ⟨⟨by simp [len_eq], rfl, by simp [len_eq]; omega⟩, cpLoop (0 : Int) p (by omega) K hK⟩
theorem L_toHeap {p q r : List Int} {K : List Int → List Int → List Int → Prop} (hp : p.length ≤ 1048576) (hq : q.length ≤ 1048576) (hr : r.length ≤ 1048576) (hK : K p q r) : Ml_toHeap p q r K :=
  L_toIntS hp (L_toIntS hq (L_toIntS hr hK))
theorem L_eqIntS {p q : List Int} {K : Bool → Prop} (hp : p.length < 2 ^ 62) (hK : K (decide (p = q))) : Ml_eqIntS p q K := eqGate hK fun hl => eqLoop3 0 p q hp K hK hl
theorem step_t {b : Bool} {P Q : Prop} (h : b = true) (hq : Q) : ((!b) = true → P) ∧ ((!b) = false → Q) := br_f (by simp [h]) hq
theorem L_eqHeap_same {p q r : List Int} {K : Bool → Prop} (hp : p.length < 2 ^ 62) (hq : q.length < 2 ^ 62) (hr : r.length < 2 ^ 62) (hK : K true) : Ml_eqHeap p q r p q r K :=
  L_eqIntS hp (step_t (by simp) (L_eqIntS hq (step_t (by simp) (L_eqIntS hr (step_t (by simp) hK)))))
def seqI (k : Int) (n : Nat) : List Int := (List.range n).map fun (i : Nat) => k + i
theorem seqI_getD {k : Int} {n j : Nat} (h : j < n) : (seqI k n).getD j 0 = k + j := by simp [seqI, List.getD_eq_getElem?_getD, h]
@[simp] theorem seqI_len (k : Int) (n : Nat) : (seqI k n).length = n := by simp [seqI]
theorem L_markIntS {k : Int} {p : List Int} {K : Int → List Int → Prop} (h0 : 0 ≤ k) (hk : k < 2 ^ 60) (hp : p.length < 2 ^ 60) (hK : K (k + p.length) (seqI k p.length)) : Ml_markIntS k p K := by
  unfold Ml_markIntS
  refine LoopP_for (fun i s => ∃ t, s = (k + (i : Int), (i : Int), t) ∧ t.length = p.length ∧ ∀ j, j < i → t.getD j 0 = k + j) p.length ⟨p, by simp, rfl, by omega⟩ ?_ ?_
  · rintro i _ hi ⟨t, rfl, ht, hj⟩ Kb hKb
    refine br_t (by simp [len_eq, ht]; exact hi) ⟨by simp [inB_nat, ht]; exact hi, hKb _ ⟨uL t i (k + i), ?_, by simp [uL, ht], fun j hji => ?_⟩⟩
    · simp only [Prod.mk.injEq, and_true]
      refine ⟨?_, iadd_nat (by omega)⟩
      rw [iadd_eq] <;> push_cast <;> omega
    · simp only [uL_nat]
      rw [List.getD_eq_getElem?_getD, List.getElem?_set]
      by_cases e : i = j
      · subst e; simp [ht, hi]
      · rw [if_neg e, ← List.getD_eq_getElem?_getD]; exact hj j (by omega)
  · rintro _ ⟨t, rfl, ht, hj⟩ Kb
    refine br_f (by simp [len_eq, ht]) ?_
    have : t = seqI k p.length := eqL_iff 0 _ _ (by simp [ht]) fun j h => by rw [hj j (by omega), seqI_getD (by omega)]
    subst this
    exact hK
theorem L_heldIntS {k : Int} {n : Nat} {K : Int → Prop} (h0 : 0 ≤ k) (hk : k < 2 ^ 60) (hn : n < 2 ^ 60) (hK : K (k + n)) : Ml_heldIntS (seqI k n) k K := by
  unfold Ml_heldIntS
  refine LoopP_for (fun i s => s = (seqI k n, k + (i : Int), (i : Int))) n (by simp) ?_ ?_
  · rintro i _ hi rfl Kb hKb
    refine br_t (by simp [len_eq]; exact hi) ⟨by simp [inB_nat]; exact hi, br_f (by simp only [gI_nat, seqI_getD hi, bne_self_eq_false]) (hKb _ ?_)⟩
    simp only [Prod.mk.injEq, true_and]
    refine ⟨?_, iadd_nat (by omega)⟩
    rw [iadd_eq] <;> push_cast <;> omega
  · rintro _ rfl Kb
    exact br_f (by simp [len_eq]) hK
theorem L_markHeap {k : Int} {p q r : List Int} {K : Int → List Int → List Int → List Int → Prop} (h0 : 0 ≤ k) (hk : k < 2 ^ 58) (hp : p.length < 2 ^ 58) (hq : q.length < 2 ^ 58) (hr : r.length < 2 ^ 58)
    (hK : K (k + p.length + q.length + r.length) (seqI k p.length) (seqI (k + p.length) q.length) (seqI (k + p.length + q.length) r.length)) : Ml_markHeap k p q r K :=
  L_markIntS h0 (by omega) (by omega) (L_markIntS (by omega) (by omega) (by omega) (L_markIntS (by omega) (by omega) (by omega) hK))
theorem L_heldHeap {k : Int} {a b c : Nat} {K : Int → Prop} (h0 : 0 ≤ k) (hk : k < 2 ^ 58) (ha : a < 2 ^ 58) (hb : b < 2 ^ 58) (hc : c < 2 ^ 58) (hK : K (k + a + b + c)) :
    Ml_heldHeap (seqI k a) (seqI (k + a) b) (seqI (k + a + b) c) k K :=
  L_heldIntS h0 (by omega) (by omega) (szStep (by omega) (L_heldIntS (by omega) (by omega) (by omega) (szStep (by omega) (L_heldIntS (by omega) (by omega) (by omega) (szStep (by omega) hK)))))
def okP (n : Nat) (x : Int) : Prop := -1 ≤ x ∧ x < n
instance (n : Nat) (x : Int) : Decidable (okP n x) := inferInstanceAs (Decidable (_ ∧ _))
/-- A valid heap. -/
structure HVp (l r ro : List Int) : Prop where
  lr : l.length = r.length
  l1 : 1 ≤ l.length
  l8 : l.length ≤ 8
  r1 : 1 ≤ ro.length
  r3 : ro.length ≤ 3
  okl : ∀ x ∈ l, okP l.length x
  okr : ∀ x ∈ r, okP l.length x
  oko : ∀ x ∈ ro, okP l.length x
instance (l r ro : List Int) : Decidable (HVp l r ro) :=
  decidable_of_iff (l.length = r.length ∧ 1 ≤ l.length ∧ l.length ≤ 8 ∧ 1 ≤ ro.length ∧ ro.length ≤ 3 ∧ (∀ x ∈ l, okP l.length x) ∧ (∀ x ∈ r, okP l.length x) ∧ (∀ x ∈ ro, okP l.length x))
    ⟨fun ⟨a, b, c, d, e, f, g, h⟩ => ⟨a, b, c, d, e, f, g, h⟩, fun ⟨a, b, c, d, e, f, g, h⟩ => ⟨a, b, c, d, e, f, g, h⟩⟩
theorem all_getD {α : Type} (d : α) {l : List α} {p : α → Prop} (h : ∀ j, j < l.length → p (l.getD j d)) : ∀ x ∈ l, p x := by
  intro x hx
  obtain ⟨i, hi, rfl⟩ := List.getElem_of_mem hx
  have := h i hi
  rwa [getD_lt hi] at this
theorem getD_mem {α : Type} (d : α) {l : List α} {i : Nat} (h : i < l.length) : l.getD i d ∈ l := by rw [getD_lt h]; exact List.getElem_mem h
theorem L_l1Points {a : Int} {n : Nat} {K : Bool → Prop} (hK : K (decide (okP n a))) : Ms_l1Points a n K := by
  refine br (fun h => ?_) fun h => ?_
  · simp at h; simpa [okP, h] using hK
  · simp at h; rw [decide_eq_false (fun hh => by have := hh.1; omega)] at hK; exact hK
theorem L_sHeapValid {l r ro : List Int} {K : Bool → Prop} (hK : K (decide (HVp l r ro))) : Ms_HeapValid l r ro K := by
  have no : ¬ HVp l r ro → K false := fun h => by rwa [decide_eq_false h] at hK
  have yes : HVp l r ro → K true := fun h => by rwa [decide_eq_true h] at hK
  refine br (fun h => no fun hh => ?_) fun h1 => br (fun h => no fun hh => ?_) fun h2 => br (fun h => no fun hh => ?_) fun h3 => br (fun h => no fun hh => ?_) fun h4 => br (fun h => no fun hh => ?_) fun h5 => ?_
  · have := hh.l1; replace h := of_decide_eq_true h; simp only [len_eq] at h; omega
  · have := hh.l8; simp [len_eq] at h; omega
  · have := hh.lr; simp [len_eq] at h; omega
  · have := hh.r1; replace h := of_decide_eq_true h; simp only [len_eq] at h; omega
  · have := hh.r3; simp [len_eq] at h; omega
  replace h1 : 1 ≤ l.length := by have := of_decide_eq_false h1; simp only [len_eq] at this; omega
  replace h2 : l.length ≤ 8 := by have := of_decide_eq_false h2; simp only [len_eq] at this; omega
  replace h3 : r.length = l.length := by simp [len_eq] at h3; omega
  replace h4 : 1 ≤ ro.length := by have := of_decide_eq_false h4; simp only [len_eq] at this; omega
  replace h5 : ro.length ≤ 3 := by have := of_decide_eq_false h5; simp only [len_eq] at this; omega
  refine LoopP_for (fun i s => s = (len l, (i : Int), l, r, ro) ∧ ∀ j, j < i → okP l.length (l.getD j 0) ∧ okP l.length (r.getD j 0)) l.length ⟨rfl, by omega⟩ ?_ ?_
  · rintro i _ hi ⟨rfl, hj⟩ Kb hKb
    refine br_t (by simp [len_eq]; exact hi) ⟨by simp [inB_nat]; exact hi, ?_⟩
    refine L_l1Points (br (fun h => no fun hh => ?_) fun h => ⟨by simp [inB_nat]; omega, L_l1Points (br (fun h' => no fun hh => ?_) fun h' => hKb _ ⟨by rw [iadd_nat (by omega)], fun j hji => ?_⟩)⟩)
    · simp [-List.getD_eq_getElem?_getD, gI_nat] at h; exact h (hh.okl _ (getD_mem 0 hi))
    · simp [-List.getD_eq_getElem?_getD, gI_nat] at h'; exact h' (hh.okr _ (getD_mem 0 (by omega)))
    · simp [-List.getD_eq_getElem?_getD, gI_nat] at h h'
      rcases Nat.lt_succ_iff_lt_or_eq.1 hji with e | e
      · exact hj j e
      · subst e; exact ⟨h, h'⟩
  · rintro _ ⟨rfl, hj⟩ Kb
    refine br_f (by simp [len_eq]) ?_
    refine LoopP_for (fun i s => s = (len l, (i : Int), l, r, ro) ∧ ∀ j, j < i → okP l.length (ro.getD j 0)) ro.length ⟨rfl, by omega⟩ ?_ ?_
    · rintro i _ hi ⟨rfl, hk⟩ Kb hKb
      refine br_t (by simp [len_eq]; exact hi) ⟨by simp [inB_nat]; exact hi, ?_⟩
      refine L_l1Points (br (fun h => no fun hh => ?_) fun h => hKb _ ⟨by rw [iadd_nat (by omega)], fun j hji => ?_⟩)
      · simp [-List.getD_eq_getElem?_getD, gI_nat] at h; exact h (hh.oko _ (getD_mem 0 hi))
      · simp [-List.getD_eq_getElem?_getD, gI_nat] at h
        rcases Nat.lt_succ_iff_lt_or_eq.1 hji with e | e
        · exact hk j e
        · subst e; exact h
    · rintro _ ⟨rfl, hk⟩ Kb
      refine br_f (by simp [len_eq]) (yes ⟨h3.symm, h1, h2, h4, h5, all_getD 0 fun j h => (hj j h).1, all_getD 0 fun j h => (hj j (by omega)).2, all_getD 0 hk⟩)
theorem L_iHeapValid {l r ro : List Int} {K : Bool → Prop} (hK : K (decide (HVp l r ro))) : Mi_HeapValid l r ro K := by
  have no : ¬ HVp l r ro → K false := fun h => by rwa [decide_eq_false h] at hK
  have yes : HVp l r ro → K true := fun h => by rwa [decide_eq_true h] at hK
  refine br (fun h => no fun hh => ?_) fun h3 => br (fun h => no fun hh => ?_) fun h1 => br (fun h => no fun hh => ?_) fun h2 => br (fun h => no fun hh => ?_) fun h4 => br (fun h => no fun hh => ?_) fun h5 => ?_
  · have := hh.lr; simp [len_eq] at h; omega
  · have := hh.l1; replace h := of_decide_eq_true h; simp only [len_eq] at h; omega
  · have := hh.l8; simp [len_eq] at h; omega
  · have := hh.r1; replace h := of_decide_eq_true h; simp only [len_eq] at h; omega
  · have := hh.r3; simp [len_eq] at h; omega
  replace h1 : 1 ≤ l.length := by have := of_decide_eq_false h1; simp only [len_eq] at this; omega
  replace h2 : l.length ≤ 8 := by have := of_decide_eq_false h2; simp only [len_eq] at this; omega
  replace h3 : r.length = l.length := by simp [len_eq] at h3; omega
  replace h4 : 1 ≤ ro.length := by have := of_decide_eq_false h4; simp only [len_eq] at this; omega
  replace h5 : ro.length ≤ 3 := by have := of_decide_eq_false h5; simp only [len_eq] at this; omega
  have hlen : ∀ i, i < 3 → (([l, r, ro] : List (List Int)).getD i []).length ≤ 8 := by
    intro i hi
    match i, hi with
    | 0, _ => exact h2
    | 1, _ => show r.length ≤ 8; omega
    | 2, _ => show ro.length ≤ 8; omega
  have hmem : HVp l r ro → ∀ i, i < 3 → ∀ x ∈ ([l, r, ro] : List (List Int)).getD i [], okP l.length x := by
    intro hh i hi
    match i, hi with
    | 0, _ => exact hh.okl
    | 1, _ => exact hh.okr
    | 2, _ => exact hh.oko
  refine LoopP_for (fun i s => s = (3, (i : Int), l, r, ro, [l, r, ro]) ∧ ∀ j, j < i → ∀ x ∈ ([l, r, ro] : List (List Int)).getD j [], okP l.length x) 3 ⟨rfl, by omega⟩ ?_ ?_
  · rintro i _ hi ⟨rfl, hj⟩ Kb hKb
    have hg : gL [l, r, ro] (i : Int) = ([l, r, ro] : List (List Int)).getD i [] := by simp [gL, EK.dflt]
    refine br_t (by simp; omega) ⟨by simp [inB_nat]; exact hi, ?_⟩
    simp only [hg]
    have hl := hlen i hi
    have hm := fun hh => hmem hh i hi
    generalize hq : ([l, r, ro] : List (List Int)).getD i [] = q at hl hm
    refine LoopP_for (fun k s => s = (3, (i : Int), q, len q, (k : Int), l, r, ro, [l, r, ro]) ∧ ∀ j, j < k → okP l.length (q.getD j 0)) q.length ⟨rfl, by omega⟩ ?_ ?_
    · rintro k _ hk ⟨rfl, hkj⟩ Kb' hKb'
      refine br_t (by simp [len_eq]; exact hk) ⟨by simp [inB_nat]; exact hk, br (fun h => no fun hh => ?_) fun h => br (fun h' => no fun hh => ?_) fun h' => hKb' _ ⟨by rw [iadd_nat (by omega)], fun j hji => ?_⟩⟩
      · have := of_decide_eq_true h; simp only [gI_nat] at this; have := (hm hh _ (getD_mem 0 hk)).1; omega
      · have := of_decide_eq_true h'; simp only [gI_nat, len_eq] at this; have := (hm hh _ (getD_mem 0 hk)).2; omega
      · have a := of_decide_eq_false h
        have b := of_decide_eq_false h'
        simp only [gI_nat, len_eq] at a b
        rcases Nat.lt_succ_iff_lt_or_eq.1 hji with e | e
        · exact hkj j e
        · subst e; exact ⟨by omega, by omega⟩
    · rintro _ ⟨rfl, hkj⟩ Kb'
      refine br_f (by simp [len_eq]) (hKb _ ⟨by rw [iadd_nat (by omega)], fun j hji => ?_⟩)
      rcases Nat.lt_succ_iff_lt_or_eq.1 hji with e | e
      · exact hj j e
      · subst e; rw [hq]; exact all_getD 0 hkj
  · rintro _ ⟨rfl, hj⟩ Kb
    refine br_f (by simp) (yes ⟨h3.symm, h1, h2, h4, h5, hj 0 (by omega), hj 1 (by omega), hj 2 (by omega)⟩)
theorem HVp.gl {l r ro : List Int} (h : HVp l r ro) {i : Nat} (hi : i < l.length) : okP l.length (l.getD i 0) := h.okl _ (getD_mem 0 hi)
theorem HVp.gr {l r ro : List Int} (h : HVp l r ro) {i : Nat} (hi : i < l.length) : okP l.length (r.getD i 0) := h.okr _ (getD_mem 0 (by rw [← h.lr]; exact hi))
theorem nodup_len : ∀ (n : Nat) (l : List Nat), l.Nodup → (∀ x ∈ l, x < n) → l.length ≤ n
  | 0, l, _, h => by
    cases l with
    | nil => simp
    | cons a l => exact absurd (h a (by simp)) (by omega)
  | n + 1, l, hn, h => by
    by_cases hm : n ∈ l
    · have h1 := nodup_len n (l.erase n) (hn.erase n) fun x hx => by
        have h2 := (List.Nodup.mem_erase_iff hn).1 hx
        have := h x h2.2
        omega
      rw [List.length_erase_of_mem hm] at h1
      omega
    · have := nodup_len n l hn fun x hx => by
        have h2 := h x hx
        have : x ≠ n := fun e => hm (e ▸ hx)
        omega
      omega
/-- Different cells of a heap of n cells. -/
structure CellsP (n : Nat) (s : List Int) : Prop where
  nd : s.Nodup
  ok : ∀ x ∈ s, 0 ≤ x ∧ x < n
instance (n : Nat) (s : List Int) : Decidable (CellsP n s) := decidable_of_iff (s.Nodup ∧ ∀ x ∈ s, 0 ≤ x ∧ x < n) ⟨fun ⟨a, b⟩ => ⟨a, b⟩, fun ⟨a, b⟩ => ⟨a, b⟩⟩
theorem CellsP.len {n : Nat} {s : List Int} (h : CellsP n s) : s.length ≤ n := by
  have h1 : (s.map Int.toNat).Nodup := by
    rw [List.nodup_iff_pairwise_ne, List.pairwise_map]
    refine (List.nodup_iff_pairwise_ne.1 h.nd).imp_of_mem ?_
    intro a b ha hb hab
    have := h.ok a ha; have := h.ok b hb
    omega
  have := nodup_len n _ h1 fun x hx => by
    obtain ⟨a, ha, rfl⟩ := List.mem_map.1 hx
    have := h.ok a ha
    omega
  simpa using this
theorem CellsP.get {n : Nat} {s : List Int} (h : CellsP n s) {i : Nat} (hi : i < s.length) : 0 ≤ s.getD i 0 ∧ s.getD i 0 < n := h.ok _ (getD_mem 0 hi)
/-- Where is this number in the list? -/
def atL (l : List Int) (x : Int) : Int := if x ∈ l then ((l.idxOf x : Nat) : Int) else -1
theorem idxOf_first : ∀ {l : List Int} {x : Int} {i : Nat}, i < l.length → l.getD i 0 = x → (∀ j, j < i → l.getD j 0 ≠ x) → l.idxOf x = i
  | [], x, i, h, _, _ => by simp at h
  | a :: l, x, 0, _, h, _ => by
    simp at h
    subst h
    simp
  | a :: l, x, i + 1, h, h1, h2 => by
    have ha : a ≠ x := by simpa using h2 0 (by omega)
    rw [List.idxOf_cons]
    have : (a == x) = false := by simpa using ha
    rw [this]
    simp only [cond_false]
    rw [idxOf_first (by simpa using h) (by simpa using h1) fun j hj => by simpa using h2 (j + 1) (by omega)]
theorem atL_some {l : List Int} {x : Int} {i : Nat} (h : i < l.length) (h1 : l.getD i 0 = x) (h2 : ∀ j, j < i → l.getD j 0 ≠ x) : atL l x = i := by
  unfold atL
  rw [if_pos (by rw [← h1]; exact getD_mem 0 h), idxOf_first h h1 h2]
theorem atL_none {l : List Int} {x : Int} (h : ∀ j, j < l.length → l.getD j 0 ≠ x) : atL l x = -1 := by
  unfold atL
  rw [if_neg]
  intro hm
  obtain ⟨i, hi, rfl⟩ := List.getElem_of_mem hm
  exact h i hi (getD_lt hi)
theorem atL_neg {l : List Int} {x : Int} : (atL l x < 0) ↔ x ∉ l := by
  unfold atL
  split
  · rename_i h; simp only [h, not_true, iff_false]; omega
  · rename_i h; simp [h]
theorem L_l10At {l : List Int} {x : Int} {K : Int → Prop} (hl : l.length < 2 ^ 62) (hK : K (atL l x)) : Ms_l10At l x K := by
  refine LoopP_for (fun i s => s = (l, x, (i : Int)) ∧ ∀ j, j < i → l.getD j 0 ≠ x) l.length ⟨rfl, by omega⟩ ?_ ?_
  · rintro i _ hi ⟨rfl, hj⟩ Kb hKb
    refine br_t (by simp [len_eq]; exact hi) ⟨by simp [inB_nat]; exact hi, br (fun h => ?_) fun h => hKb _ ⟨by rw [iadd_nat (by omega)], fun j hji => ?_⟩⟩
    · simp only [gI_nat, beq_iff_eq] at h
      rwa [atL_some hi h hj] at hK
    · simp only [gI_nat, beq_eq_false_iff_ne] at h
      rcases Nat.lt_succ_iff_lt_or_eq.1 hji with e | e
      · exact hj j e
      · subst e; exact h
  · rintro _ ⟨rfl, hj⟩ Kb
    refine br_f (by simp [len_eq]) ?_
    rwa [atL_none hj] at hK
theorem L_Index_int {l : List Int} {x : Int} {K : Int → Prop} (hl : l.length < 2 ^ 62) (hK : K (atL l x)) : M_Index_int l x K := by
  refine LoopP_for (fun i s => s = (l, x, len l, (i : Int)) ∧ ∀ j, j < i → l.getD j 0 ≠ x) l.length ⟨rfl, by omega⟩ ?_ ?_
  · rintro i _ hi ⟨rfl, hj⟩ Kb hKb
    refine br_t (by simp [len_eq]; exact hi) ⟨by simp [inB_nat]; exact hi, br (fun h => ?_) fun h => hKb _ ⟨by rw [iadd_nat (by omega)], fun j hji => ?_⟩⟩
    · simp only [gI_nat, beq_iff_eq] at h
      rwa [atL_some hi h.symm hj] at hK
    · simp only [gI_nat, beq_eq_false_iff_ne] at h
      rcases Nat.lt_succ_iff_lt_or_eq.1 hji with e | e
      · exact hj j e
      · subst e; exact fun e => h e.symm
  · rintro _ ⟨rfl, hj⟩ Kb
    refine br_f (by simp [len_eq]) ?_
    rwa [atL_none hj] at hK
theorem L_Contains_int {l : List Int} {x : Int} {K : Bool → Prop} (hl : l.length < 2 ^ 62) (hK : K (decide (x ∈ l))) : M_Contains_int l x K := by
  refine L_Index_int hl ?_
  have : decide (atL l x ≥ 0) = decide (x ∈ l) := by
    have := @atL_neg l x
    by_cases h : x ∈ l
    · simp only [h, not_true, iff_false] at this; simp [h]; omega
    · simp only [h, not_false_eq_true, iff_true] at this; simp [h]; omega
  rw [this]; exact hK
/-- A cell is met. -/
def meet (x : Int) (s : List Int) : List Int := if x ≠ -1 ∧ x ∉ s then s ++ [x] else s
theorem meet_len (x : Int) (s : List Int) : (meet x s).length ≤ s.length + 1 := by unfold meet; split <;> simp
theorem meet_pre (x : Int) (s : List Int) : ∃ t, meet x s = s ++ t := by
  unfold meet
  split
  · exact ⟨_, rfl⟩
  · exact ⟨[], by simp⟩
theorem meet_mem {x y : Int} {s : List Int} (h : y ∈ meet x s) : y ∈ s ∨ (y = x ∧ x ≠ -1) := by
  unfold meet at h
  split at h
  · rename_i hh
    rcases List.mem_append.1 h with h | h
    · exact .inl h
    · simp at h; exact .inr ⟨h, hh.1⟩
  · exact .inl h
theorem meet_in {x : Int} {s : List Int} (h : x = -1 ∨ x ∈ s) : meet x s = s := by
  unfold meet
  rw [if_neg]
  rintro ⟨a, b⟩
  rcases h with h | h
  · exact a h
  · exact b h
theorem CellsP.meet {n : Nat} {x : Int} {s : List Int} (h : CellsP n s) (hx : okP n x) : CellsP n (meet x s) := by
  refine ⟨?_, fun y hy => ?_⟩
  · unfold Ab.meet
    split
    · rename_i hh
      rw [List.nodup_append]
      exact ⟨h.nd, by simp, fun a ha b hb => by simp at hb; subst hb; exact fun e => hh.2 (e ▸ ha)⟩
    · exact h.nd
  · rcases meet_mem hy with hy | ⟨rfl, hne⟩
    · exact h.ok y hy
    · have := hx.1; exact ⟨by omega, hx.2⟩
theorem L_l10Meet {x : Int} {s : List Int} {K : List Int → Prop} (hs : s.length < 2 ^ 36) (hK : K (meet x s)) : Ms_l10Meet x s K := by
  refine br (fun h => L_l10At (by omega) (br (fun h1 => ⟨by omega, by simp; omega, ?_⟩) fun h1 => ?_)) fun h => ?_
  · have h1 := of_decide_eq_true h1
    rw [atL_neg] at h1
    simp at h
    rwa [meet, if_pos ⟨h, h1⟩] at hK
  · have h1 := of_decide_eq_false h1
    rw [atL_neg] at h1
    rwa [meet_in (.inr (Classical.byContradiction h1))] at hK
  · simp at h
    rwa [meet_in (.inl h)] at hK
def metL (ps s : List Int) : List Int := ps.foldl (fun s p => meet p s) s
theorem metL_len : ∀ (ps s : List Int), (metL ps s).length ≤ s.length + ps.length
  | [], s => by simp [metL]
  | p :: ps, s => by
    have h1 := metL_len ps (meet p s)
    have h2 := meet_len p s
    simp only [metL, List.foldl_cons, List.length_cons] at h1 ⊢
    omega
theorem metL_succ {ps s : List Int} {i : Nat} (h : i < ps.length) : metL (ps.take (i + 1)) s = meet (ps.getD i 0) (metL (ps.take i) s) := by
  unfold metL
  rw [List.take_add_one, List.getElem?_eq_getElem h, getD_lt h, List.foldl_append]
  rfl
theorem L_met {ps s : List Int} {K : List Int → Prop} (hs : s.length + ps.length < 2 ^ 36) (hK : K (metL ps s)) : Mi_met ps s K := by
  refine LoopP_for (fun i st => st = (ps, len ps, (i : Int), metL (ps.take i) s)) ps.length rfl ?_ ?_
  · rintro i _ hi rfl Kb hKb
    have e : iadd (i : Int) 1 = ((i + 1 : Nat) : Int) := iadd_nat (by omega)
    have h1 := metL_len (ps.take i) s
    have h2 : (ps.take i).length ≤ ps.length := by simp; omega
    refine br_t (by simp [len_eq]; exact hi) ⟨by simp [inB_nat]; exact hi, br (fun h => L_Contains_int (by dsimp only; omega) (br (fun h1 => ⟨by simp only [List.length_singleton]; omega, hKb _ ?_⟩) fun h1 => hKb _ ?_)) fun h => hKb _ ?_⟩
    · simp only [gI_nat, bne_iff_ne] at h h1 ⊢
      rw [e, metL_succ hi, meet, if_pos ⟨h, by simpa using h1⟩]
    · simp only [gI_nat, bne_iff_ne] at h h1 ⊢
      rw [e, metL_succ hi, meet_in (.inr (by simpa using h1))]
    · simp only [gI_nat, bne_eq_false_iff_eq] at h ⊢
      rw [e, metL_succ hi, meet_in (.inl h)]
  · rintro _ rfl Kb
    refine br_f (by simp [len_eq]) ?_
    simpa using hK
/-- A step of copying. -/
def stepO (l r s : List Int) (i : Nat) : List Int := meet (r.getD (s.getD i 0).toNat 0) (meet (l.getD (s.getD i 0).toNat 0) s)
def bfs (l r : List Int) : Nat → Nat → List Int → List Int
  | 0, i, s => s
  | f + 1, i, s => if i < s.length then bfs l r f (i + 1) (stepO l r s i) else s
def ordF (l r ro : List Int) : List Int := bfs l r (l.length + 1) 0 (metL ro [])
theorem bfs_end {l r s : List Int} {f i : Nat} (h : ¬ i < s.length) : bfs l r f i s = s := by
  cases f with
  | zero => rfl
  | succ f => simp [bfs, h]
theorem HVp.atl {l r ro : List Int} (h : HVp l r ro) {x : Int} (h0 : 0 ≤ x) (h1 : x < l.length) : okP l.length (l.getD x.toNat 0) := h.gl (by omega)
theorem HVp.atr {l r ro : List Int} (h : HVp l r ro) {x : Int} (h0 : 0 ≤ x) (h1 : x < l.length) : okP l.length (r.getD x.toNat 0) := h.gr (by omega)
theorem CellsP.step {l r ro s : List Int} (hv : HVp l r ro) (h : CellsP l.length s) {i : Nat} (hi : i < s.length) : CellsP l.length (stepO l r s i) := by
  have := h.get hi
  exact (h.meet (hv.atl this.1 this.2)).meet (hv.atr this.1 this.2)
theorem metL_cells {n : Nat} : ∀ {ps s : List Int}, CellsP n s → (∀ x ∈ ps, okP n x) → CellsP n (metL ps s)
  | [], s, h, _ => h
  | p :: ps, s, h, hp => metL_cells (ps := ps) (h.meet (hp p (by simp))) fun x hx => hp x (by simp [hx])
theorem cells_nil (n : Nat) : CellsP n [] := ⟨by simp, by simp⟩
theorem bfs_cells {l r ro : List Int} (hv : HVp l r ro) : ∀ (f i : Nat) (s : List Int), CellsP l.length s → CellsP l.length (bfs l r f i s)
  | 0, i, s, h => h
  | f + 1, i, s, h => by
    simp only [bfs]
    split
    · rename_i hi; exact bfs_cells hv f (i + 1) _ (h.step hv hi)
    · exact h
theorem ordF_cells {l r ro : List Int} (hv : HVp l r ro) : CellsP l.length (ordF l r ro) := bfs_cells hv _ _ _ (metL_cells (cells_nil _) hv.oko)
theorem gI_at {l : List Int} {x : Int} : gI l x = l.getD x.toNat 0 := rfl
theorem meet_getD {x : Int} {s : List Int} {i : Nat} (hi : i < s.length) : (meet x s).getD i 0 = s.getD i 0 := by
  obtain ⟨t, ht⟩ := meet_pre x s
  rw [ht, List.getD_eq_getElem?_getD, List.getElem?_append_left hi, List.getD_eq_getElem?_getD]
theorem L_l10Order {l r ro : List Int} {K : List Int → Prop} (hv : HVp l r ro) (hK : K (ordF l r ro)) : Ms_l10Order l r ro K := by
  have h8 := hv.l8
  have h3 := hv.r3
  refine LoopP_for (fun i st => st = ((i : Int), l, r, ro, metL (ro.take i) [])) ro.length rfl ?_ ?_
  · rintro i _ hi rfl Kb hKb
    have h1 := metL_len (ro.take i) []
    refine br_t (by simp [len_eq]; exact hi) ⟨by simp [inB_nat]; exact hi, L_l10Meet (by simp only [List.length_take, List.length_nil] at h1; dsimp only; omega) (hKb _ ?_)⟩
    rw [iadd_nat (by omega), metL_succ hi, gI_nat]
  · rintro _ rfl Kb
    refine br_f (by simp [len_eq]) ?_
    simp only [List.take_length]
    refine LoopP_inv (fun st => ∃ (i : Nat) (s : List Int), st = ((i : Int), l, r, ro, s) ∧ CellsP l.length s ∧ i ≤ l.length ∧ bfs l r (l.length + 1 - i) i s = ordF l r ro) (fun st => l.length + 1 - st.1.toNat) ?_ ⟨0, _, rfl, metL_cells (cells_nil _) hv.oko, by omega, rfl⟩
    rintro _ ⟨i, s, rfl, hc, hi, he⟩ Kb hKb
    have hl := hc.len
    refine br (fun h => ?_) fun h => ?_
    · have h : i < s.length := by have := of_decide_eq_true h; simp only [len_eq] at this; omega
      have hg := hc.get h
      have hg' := hg
      rw [← meet_getD (x := l.getD (s.getD i 0).toNat 0) h] at hg'
      have hlr := hv.lr
      have hm := meet_len (l.getD (s.getD i 0).toNat 0) s
      refine ⟨by simp [inB_nat]; exact h, ⟨by simp only [gI_nat]; omega, by simp only [gI_nat]; omega⟩, L_l10Meet (by dsimp only; omega) ?_⟩
      simp only [gI_at, Int.toNat_natCast]
      obtain ⟨t, ht⟩ := meet_pre (l.getD (s.getD i 0).toNat 0) s
      refine ⟨by rw [inB_nat, ht, List.length_append]; omega, ⟨hg'.1, by omega⟩, L_l10Meet (by omega) (hKb _ ⟨i + 1, stepO l r s i, ?_, hc.step hv h, by omega, ?_⟩ ?_)⟩
      · rw [iadd_nat (by omega), meet_getD h]; rfl
      · have e : l.length + 1 - i = (l.length + 1 - (i + 1)) + 1 := by omega
        rw [e] at he
        simpa [bfs, h] using he
      · simp only [iadd_nat (show i < 2 ^ 62 by omega), Int.toNat_natCast]; omega
    · have h : ¬ i < s.length := by have := of_decide_eq_false h; simp only [len_eq] at this; omega
      rw [bfs_end h] at he
      rw [← he] at hK
      exact hK
theorem sub_all {α : Type} (l : List α) : sub l 0 (len l) = l := by simp [sub, len_eq]
theorem L_Clip_int {l : List Int} {K : List Int → Prop} (hK : K l) : M_Clip_int l K := by
  refine ⟨⟨by omega, by simp [len_eq], by omega, by omega⟩, ?_⟩
  rw [sub_all]; exact hK
theorem L_iOrderOf {l r ro : List Int} {K : List Int → Prop} (hK : K (if HVp l r ro then ordF l r ro else [])) : Mi_OrderOf l r ro K := by
  refine L_iHeapValid (br (fun h => ?_) fun h => ?_)
  · simp at h; simpa [h] using hK
  simp at h
  have hv := h
  have hK : K (ordF l r ro) := by simpa [h] using hK
  have h8 := hv.l8
  have h3 := hv.r3
  refine L_met (by simp; omega) ?_
  refine LoopP_inv (fun st => ∃ (i : Nat) (s : List Int), st = ((i : Int), l, r, ro, s) ∧ CellsP l.length s ∧ i ≤ l.length ∧ bfs l r (l.length + 1 - i) i s = ordF l r ro) (fun st => l.length + 1 - st.1.toNat) ?_ ⟨0, _, rfl, metL_cells (cells_nil _) hv.oko, by omega, rfl⟩
  rintro _ ⟨i, s, rfl, hc, hi, he⟩ Kb hKb
  have hl := hc.len
  refine br (fun h => ?_) fun h => ?_
  · have h : i < s.length := by have := of_decide_eq_true h; simp only [len_eq] at this; omega
    have hg := hc.get h
    have hlr := hv.lr
    refine ⟨by simp [inB_nat]; exact h, ⟨by simp only [gI_nat]; omega, by simp only [gI_nat]; omega⟩, by simp [inB_nat]; exact h, ⟨by simp only [gI_nat]; omega, by simp only [gI_nat]; omega⟩, L_met (by dsimp only [List.length_cons, List.length_nil]; omega) (hKb _ ⟨i + 1, stepO l r s i, ?_, hc.step hv h, by omega, ?_⟩ ?_)⟩
    · simp only [gI_at, Int.toNat_natCast]
      rw [iadd_nat (by omega)]; rfl
    · have e : l.length + 1 - i = (l.length + 1 - (i + 1)) + 1 := by omega
      rw [e] at he
      simpa [bfs, h] using he
    · simp only [iadd_nat (show i < 2 ^ 62 by omega), Int.toNat_natCast]; omega
  · have h : ¬ i < s.length := by have := of_decide_eq_false h; simp only [len_eq] at this; omega
    rw [bfs_end h] at he
    rw [← he] at hK
    exact L_Clip_int hK
theorem L_l1Many {n : Nat} {K : List Int → Prop} (hn : n ≤ 8) (hK : K (List.replicate n (-1))) : Ms_l1Many n K := by
  refine LoopP_for (fun i s => s = ((n : Int), (i : Int), List.replicate i (-1))) n rfl ?_ ?_
  · rintro i _ hi rfl Kb hKb
    refine br_t (by simp; omega) ⟨by simp; omega, hKb _ ?_⟩
    rw [iadd_nat (by omega), ← List.replicate_succ']
  · rintro _ rfl Kb
    exact br_f (by simp) hK
/-- Pointers lead to this cell from one of S. -/
inductive Rc (l r : List Int) (S : Int → Prop) : Int → Prop where
  | base {x : Int} (h : S x) (hn : x ≠ -1) : Rc l r S x
  | left {y : Int} (h : Rc l r S y) (hn : l.getD y.toNat 0 ≠ -1) : Rc l r S (l.getD y.toNat 0)
  | right {y : Int} (h : Rc l r S y) (hn : r.getD y.toNat 0 ≠ -1) : Rc l r S (r.getD y.toNat 0)
theorem okP.cell {n : Nat} {x : Int} (h : okP n x) (hn : x ≠ -1) : 0 ≤ x ∧ x < n := by have := h.1; exact ⟨by omega, h.2⟩
theorem Rc.ok {l r ro : List Int} {S : Int → Prop} (hv : HVp l r ro) (hS : ∀ x, S x → okP l.length x) {x : Int} (h : Rc l r S x) : 0 ≤ x ∧ x < l.length := by
  induction h with
  | base h hn => exact (hS _ h).cell hn
  | left h hn ih => exact (hv.atl ih.1 ih.2).cell hn
  | right h hn ih => exact (hv.atr ih.1 ih.2).cell hn
theorem neg_not_mem {n : Nat} {s : List Int} (h : CellsP n s) : (-1 : Int) ∉ s := fun hm => by have := (h.ok _ hm).1; omega
theorem atL_nil {s : List Int} {x : Int} (h : x ∉ s) : atL s x = -1 := by unfold atL; rw [if_neg h]
theorem atL_nth {n : Nat} {s : List Int} (h : CellsP n s) {i : Nat} (hi : i < s.length) : atL s (s.getD i 0) = i := by
  refine atL_some hi rfl fun j hj e => ?_
  rw [getD_lt hi, getD_lt (by omega)] at e
  have := (List.getElem_inj (h₀ := show j < s.length by omega) (h₁ := hi) h.nd).1 e
  omega
def canL (l o : List Int) : List Int := o.map fun c => atL o (l.getD c.toNat 0)
def cpL (l o : List Int) (n : Nat) : List Int := (List.range n).map fun i => if i < o.length then atL o (l.getD (o.getD i 0).toNat 0) else -1
def cpW (o : List Int) (n : Nat) : List Int := (List.range n).map fun (c : Nat) => atL o (c : Int)
theorem cpL_len (l o : List Int) (n : Nat) : (cpL l o n).length = n := by simp [cpL]
theorem cpW_len (o : List Int) (n : Nat) : (cpW o n).length = n := by simp [cpW]
theorem canL_len (l o : List Int) : (canL l o).length = o.length := by simp [canL]
structure AlikeP (l r ro l' r' ro' : List Int) : Prop where
  a : HVp l r ro
  b : HVp l' r' ro'
  cl : canL l (ordF l r ro) = canL l' (ordF l' r' ro')
  cr : canL r (ordF l r ro) = canL r' (ordF l' r' ro')
  co : ro.map (atL (ordF l r ro)) = ro'.map (atL (ordF l' r' ro'))
instance (l r ro l' r' ro' : List Int) : Decidable (AlikeP l r ro l' r' ro') :=
  decidable_of_iff (HVp l r ro ∧ HVp l' r' ro' ∧ canL l (ordF l r ro) = canL l' (ordF l' r' ro') ∧ canL r (ordF l r ro) = canL r' (ordF l' r' ro') ∧ ro.map (atL (ordF l r ro)) = ro'.map (atL (ordF l' r' ro')))
    ⟨fun ⟨a, b, c, d, e⟩ => ⟨a, b, c, d, e⟩, fun ⟨a, b, c, d, e⟩ => ⟨a, b, c, d, e⟩⟩
theorem AlikeP.len {l r ro l' r' ro' : List Int} (h : AlikeP l r ro l' r' ro') : (ordF l r ro).length = (ordF l' r' ro').length := by
  have := congrArg List.length h.cl
  rwa [canL_len, canL_len] at this
theorem AlikeP.symm {l r ro l' r' ro' : List Int} (h : AlikeP l r ro l' r' ro') : AlikeP l' r' ro' l r ro := ⟨h.b, h.a, h.cl.symm, h.cr.symm, h.co.symm⟩
structure MoveP (l r ro to : List Int) : Prop where
  h : HVp l r ro
  c : CellsP l.length to
  n : to.length = l.length
instance (l r ro to : List Int) : Decidable (MoveP l r ro to) := decidable_of_iff (HVp l r ro ∧ CellsP l.length to ∧ to.length = l.length) ⟨fun ⟨a, b, c⟩ => ⟨a, b, c⟩, fun ⟨a, b, c⟩ => ⟨a, b, c⟩⟩
def goes (to : List Int) (p : Int) : Int := if p = -1 then -1 else to.getD p.toNat 0
def mvL (to l : List Int) : List Int := (List.range to.length).map fun (c : Nat) => goes to (l.getD (to.idxOf (c : Int)) 0)
theorem mvL_len (to l : List Int) : (mvL to l).length = to.length := by simp [mvL]
theorem mvL_getD {to l : List Int} {c : Nat} (hc : c < to.length) : (mvL to l).getD c 0 = goes to (l.getD (to.idxOf (c : Int)) 0) := by
  rw [getD_lt (by rw [mvL_len]; exact hc)]; simp [mvL]
theorem idxOf_nth {n : Nat} {s : List Int} (h : CellsP n s) {i : Nat} (hi : i < s.length) : s.idxOf (s.getD i 0) = i := by
  have := atL_nth h hi
  unfold atL at this
  rw [if_pos (getD_mem 0 hi)] at this
  omega
section moves
variable {l r ro to : List Int}
theorem MoveP.get (h : MoveP l r ro to) {q : List Int} {y : Int} (h0 : 0 ≤ y) (h1 : y < l.length) : (mvL to q).getD (goes to y).toNat 0 = goes to (q.getD y.toNat 0) := by
  have hn := h.n
  have hg := h.c.get (i := y.toNat) (by omega)
  have e : goes to y = to.getD y.toNat 0 := by unfold goes; rw [if_neg (by omega)]
  rw [e, mvL_getD (by omega), Int.toNat_of_nonneg hg.1, idxOf_nth h.c (by omega)]
end moves
theorem map_range_succ {α : Type} (f : Nat → α) (i : Nat) : (List.range (i + 1)).map f = (List.range i).map f ++ [f i] := by rw [List.range_succ, List.map_append]; rfl
def e2 (x : Int) : Int := if x = 0 then -1 else x
theorem setC_get' {α : Type} : ∀ (vs l : List α) (o i : Nat), o + vs.length ≤ l.length → (setC l o vs)[i]? = if o ≤ i ∧ i < o + vs.length then vs[i - o]? else l[i]? := by
  intro vs
  induction vs with
  | nil => intro l o i _; rw [if_neg (by simp)]; rfl
  | cons v vs ih =>
    intro l o i h
    simp only [List.length_cons] at h
    rw [setC, ih _ _ _ (by simp; omega)]
    by_cases h1 : o + 1 ≤ i ∧ i < o + 1 + vs.length
    · rw [if_pos h1, if_pos (by simp; omega)]
      rw [show i - o = (i - (o + 1)) + 1 by omega]; simp
    · rw [if_neg h1]
      by_cases h2 : i = o
      · subst h2
        rw [if_pos (by simp), List.getElem?_set_self (by omega)]; simp
      · rw [if_neg (by simp; omega), List.getElem?_set_ne (fun e => h2 e.symm)]
theorem setC_rep {v z : Int} {m k n : Nat} (h : m + k ≤ n) : setC (List.replicate m v ++ List.replicate (n - m) z) m (List.replicate k v) = List.replicate (m + k) v ++ List.replicate (n - (m + k)) z := by
  apply List.ext_getElem?
  intro i
  rw [setC_get' _ _ _ _ (by simp; omega)]
  simp only [List.length_replicate, List.getElem?_append, List.getElem?_replicate]
  repeat' split
  all_goals first
    | rfl
    | omega
theorem L_Mul1 {n : Nat} {K : Int → Int → Prop} (h8 : n ≤ 8) (hK : K 0 n) : M_math_bits_Mul (IntKind.wrap .u64 (len [(-1 : Int)])) (IntKind.wrap .u64 (n : Int)) K := by
  unfold M_math_bits_Mul M_math_bits_Mul64
  have e : n = 0 ∨ n = 1 ∨ n = 2 ∨ n = 3 ∨ n = 4 ∨ n = 5 ∨ n = 6 ∨ n = 7 ∨ n = 8 := by omega
  refine ⟨by decide, by decide, by decide, by decide, by decide, ?_⟩
  rcases e with rfl | rfl | rfl | rfl | rfl | rfl | rfl | rfl | rfl <;> exact hK
theorem L_Repeat {n : Nat} {K : List Int → Prop} (h1 : 1 ≤ n) (h8 : n ≤ 8) (hK : K (List.replicate n (-1))) : M_Repeat_int [(-1)] (n : Int) K := by
  have w : IntKind.wrap .i64 (n : Int) = n := wrap64 (by omega) (by omega)
  refine br_f (by simp) (L_Mul1 h8 (br_f (by decide) (br_f (by simp; omega) ⟨by rw [w]; omega, ?_⟩)))
  rw [w]
  simp only [Int.toNat_natCast, List.length_replicate, List.length_singleton]
  refine ⟨by omega, ?_⟩
  have e0 : setC (List.replicate n (0 : Int)) (Int.toNat 0) (List.take (Int.toNat ((n : Int) - 0)) [(-1 : Int)]) = List.replicate 1 (-1) ++ List.replicate (n - 1) 0 := by
    rw [show (Int.toNat ((n : Int) - 0)) = (n - 1) + 1 by omega]
    have := setC_rep (v := (-1)) (z := 0) (m := 0) (k := 1) (n := n) (by omega)
    simpa using this
  rw [e0, show Nat.min 1 (Int.toNat ((n : Int) - 0)) = 1 by have : Nat.min 1 (Int.toNat ((n : Int) - 0)) = min 1 (Int.toNat ((n : Int) - 0)) := rfl; rw [this]; omega]
  refine LoopP_inv (fun s => ∃ m : Nat, 1 ≤ m ∧ m ≤ n ∧ s = ((m : Int), List.replicate m (-1) ++ List.replicate (n - m) 0)) (fun s => n - s.1.toNat) ?_ ⟨1, by omega, h1, rfl⟩
  rintro _ ⟨m, hm1, hmn, rfl⟩ Kb hKb
  have hlen : (List.replicate m (-1 : Int) ++ List.replicate (n - m) 0).length = n := by simp; omega
  refine br (fun h => ?_) fun h => ?_
  · have hlt : m < n := by have := of_decide_eq_true h; simp only [len_eq, hlen] at this; omega
    have hsub : sub (List.replicate m (-1 : Int) ++ List.replicate (n - m) 0) 0 (m : Int) = List.replicate m (-1) := by simp [sub]
    simp only [hlen, hsub, List.length_replicate]
    refine ⟨by omega, by omega, by omega, ?_⟩
    have htk : List.take (Int.toNat ((n : Int) - (m : Int))) (List.replicate m (-1 : Int)) = List.replicate (min (n - m) m) (-1) := by
      rw [List.take_replicate]; congr 1; omega
    rw [htk, Int.toNat_natCast, setC_rep (by omega)]
    have hk : Nat.min m (Int.toNat ((n : Int) - (m : Int))) = min (n - m) m := by
      have : Nat.min m (Int.toNat ((n : Int) - (m : Int))) = min m (Int.toNat ((n : Int) - (m : Int))) := rfl
      rw [this]; omega
    rw [hk]
    have hi : iadd (m : Int) ((min (n - m) m : Nat) : Int) = ((m + min (n - m) m : Nat) : Int) := by rw [iadd_eq (by omega) (by omega)]; omega
    exact hKb _ ⟨m + min (n - m) m, by omega, by omega, by rw [hi]⟩ (by simp only [hi, Int.toNat_natCast]; omega)
  · have : m = n := by have := of_decide_eq_false h; simp only [len_eq, hlen] at this; omega
    subst this
    simpa using hK
theorem L_NewHeap {n q : Nat} {K : Bool → List Int → List Int → List Int → Prop} (h1 : 1 ≤ n) (h8 : n ≤ 8) (q1 : 1 ≤ q) (q3 : q ≤ 3) (hK : K true (List.replicate n (-1)) (List.replicate n (-1)) (List.replicate q (-1))) : Mi_NewHeap (n : Int) (q : Int) K :=
  br_f (by simp; omega) (br_f (by simp; omega) (br_f (by simp; omega) (br_f (by simp; omega) (L_Repeat h1 h8 (L_Repeat h1 h8 (L_Repeat q1 (by omega) hK))))))
def stL (f : Nat → Int) (d : List Int) (i : Nat) : List Int := (List.range d.length).map fun j => if j < i then f j else d.getD j 0
theorem stL_len (f : Nat → Int) (d : List Int) (i : Nat) : (stL f d i).length = d.length := by simp [stL]
theorem stL_getD {f : Nat → Int} {d : List Int} {i j : Nat} (hj : j < d.length) : (stL f d i).getD j 0 = if j < i then f j else d.getD j 0 := by
  rw [getD_lt (by rw [stL_len]; exact hj)]; simp [stL]
theorem stL_zero (f : Nat → Int) (d : List Int) : stL f d 0 = d := by
  refine eqL_iff 0 _ _ (stL_len _ _ _) fun j hj => ?_
  rw [stL_len] at hj
  rw [stL_getD hj, if_neg (by omega)]
theorem getI_set {l : List Int} {i j : Nat} {v : Int} (hj : j < l.length) : (l.set i v).getD j 0 = if i = j then v else l.getD j 0 := by
  rw [List.getD_eq_getElem?_getD, List.getD_eq_getElem?_getD, List.getElem?_set]
  split
  · rename_i e; subst e; rw [if_pos hj]; rfl
  · rfl
theorem stL_succ {f : Nat → Int} {d : List Int} {i : Nat} (hi : i < d.length) : (stL f d i).set i (f i) = stL f d (i + 1) := by
  refine eqL_iff 0 _ _ (by simp [stL_len]) fun j hj => ?_
  rw [List.length_set, stL_len] at hj
  rw [getI_set (by rw [stL_len]; exact hj), stL_getD hj, stL_getD hj]
  repeat' split
  all_goals first
    | rfl
    | omega
    | (rename_i e _; subst e; rfl)
theorem stL_all {f : Nat → Int} {d : List Int} {i : Nat} (hi : d.length ≤ i) : stL f d i = (List.range d.length).map f := by
  unfold stL
  refine List.map_congr_left fun j hj => ?_
  rw [if_pos (by have : j < d.length := by simpa using hj
                 omega)]
theorem map_stL {f : Int → Int} {q : List Int} : (List.range q.length).map (fun j => f (q.getD j 0)) = q.map f := by
  refine eqL_iff 0 _ _ (by simp) fun j hj => ?_
  have hj : j < q.length := by simpa using hj
  rw [getD_lt (l := (List.range q.length).map _) (by simpa using hj), getD_lt (l := q.map f) (by simpa using hj)]
  simp [List.getD_eq_getElem?_getD, hj]
theorem L_CopyHeap_1 {p : Int} {o : List Int} {K : Int → Prop} (ho : o.length < 2 ^ 62) (hK : K (atL o p)) : Mi_CopyHeap_1 p o K := L_Index_int ho hK
theorem L_l10To {p : Int} {o : List Int} {K : Int → Prop} (ho : o.length < 2 ^ 62) (hn : (-1 : Int) ∉ o) (hK : K (atL o p)) : Ms_l10To o p K := by
  refine br (fun h => ?_) fun h => L_l10At ho hK
  have h : p = -1 := by simpa using h
  subst h
  rwa [atL_nil hn] at hK
theorem cpL_st {q o : List Int} {n : Nat} (h : o.length ≤ n) : stL (fun j => atL o (q.getD (o.getD j 0).toNat 0)) (List.replicate n (-1)) o.length = cpL q o n := by
  unfold stL cpL
  rw [List.length_replicate]
  refine List.map_congr_left fun j hj => ?_
  have hj : j < n := by simpa using hj
  split
  · rfl
  · simp [List.getD_eq_getElem?_getD, List.getElem?_replicate, hj]
/-- Where the first i cells that are met have gone. -/
def pw (o : List Int) (n i : Nat) : List Int := (List.range n).map fun (c : Nat) => if o.idxOf (c : Int) < i then ((o.idxOf (c : Int) : Nat) : Int) else -1
theorem pw_len (o : List Int) (n i : Nat) : (pw o n i).length = n := by simp [pw]
theorem pw_getD {o : List Int} {n i c : Nat} (hc : c < n) : (pw o n i).getD c 0 = if o.idxOf (c : Int) < i then ((o.idxOf (c : Int) : Nat) : Int) else -1 := by
  rw [getD_lt (by rw [pw_len]; exact hc)]; simp [pw]
theorem pw_zero {o : List Int} {n : Nat} : pw o n 0 = List.replicate n (-1) := by
  refine eqL_iff 0 _ _ (by simp [pw_len]) fun j hj => ?_
  rw [pw_len] at hj
  rw [pw_getD hj, if_neg (by omega), getD_lt (by simpa using hj)]
  simp
theorem pw_succ {o : List Int} {n i : Nat} (h : CellsP n o) (hi : i < o.length) : (pw o n i).set (o.getD i 0).toNat (i : Int) = pw o n (i + 1) := by
  have hg := h.get hi
  refine eqL_iff 0 _ _ (by simp [pw_len]) fun j hj => ?_
  rw [List.length_set, pw_len] at hj
  rw [getI_set (by rw [pw_len]; exact hj), pw_getD hj, pw_getD hj]
  by_cases e : (o.getD i 0).toNat = j
  · have e2 : o.getD i 0 = (j : Int) := by omega
    have := idxOf_nth h hi
    rw [e2] at this
    rw [if_pos e, this, if_pos (by omega)]
  · rw [if_neg e]
    have hne : o.idxOf (j : Int) ≠ i := by
      intro e3
      have : o.getD (o.idxOf (j : Int)) 0 = j := by rw [getD_lt (by omega)]; exact List.getElem_idxOf _
      rw [e3] at this
      omega
    by_cases e4 : o.idxOf (j : Int) < i
    · rw [if_pos e4, if_pos (by omega)]
    · rw [if_neg e4, if_neg (by omega)]
theorem pw_all {o : List Int} {n : Nat} : pw o n o.length = cpW o n := by
  unfold pw cpW
  refine List.map_congr_left fun c hc => ?_
  unfold atL
  by_cases h : (c : Int) ∈ o
  · rw [if_pos h, if_pos (List.idxOf_lt_length_of_mem h)]
  · rw [if_neg h, if_neg (by rw [List.idxOf_eq_length h]; omega)]
theorem L_iCopyHeap {l r ro : List Int} {K : Bool → List Int → List Int → List Int → List Int → Prop} (hy : HVp l r ro → K true (cpL l (ordF l r ro) l.length) (cpL r (ordF l r ro) l.length) (ro.map (atL (ordF l r ro))) (cpW (ordF l r ro) l.length)) (hn : ¬ HVp l r ro → K false [] [] [] []) : Mi_CopyHeap l r ro K := by
  refine L_iHeapValid (br (fun h => hn (by simpa using h)) fun h => ?_)
  have h : HVp l r ro := by simpa using h
  have h8 := h.l8; have hlr := h.lr; have h3 := h.r3
  have hc := ordF_cells h
  have hol := hc.len
  simp only [len_eq]
  refine L_NewHeap h.l1 h.l8 h.r1 h.r3 (L_iOrderOf ?_)
  rw [if_pos h]
  generalize ho : ordF l r ro = o at hc hol hy
  refine LoopP_for (fun i st => st = ((o.length : Int), (i : Int), l, r, ro, o, [], [], [], stL (fun j => atL o (l.getD (o.getD j 0).toNat 0)) (List.replicate l.length (-1)) i, stL (fun j => atL o (r.getD (o.getD j 0).toNat 0)) (List.replicate l.length (-1)) i, List.replicate ro.length (-1))) o.length ?_ ?_ ?_
  · rw [stL_zero, stL_zero]; rfl
  · rintro i _ hi rfl Kb hKb
    have hg := hc.get hi
    refine br_t (by simp; exact hi) ⟨by rw [inB_nat]; exact hi, ⟨by simp only [gI_nat]; exact hg.1, by simp only [gI_nat]; exact hg.2⟩, L_CopyHeap_1 (by dsimp only; omega) ⟨⟨by simp only [gI_nat]; exact hg.1, by simp only [gI_nat]; omega⟩, L_CopyHeap_1 (by dsimp only; omega) ⟨?_, ?_, hKb _ ?_⟩⟩⟩
    · rw [inB_nat]; dsimp only; rw [stL_len, List.length_replicate]; omega
    · rw [inB_nat]; dsimp only; rw [stL_len, List.length_replicate]; omega
    · simp only [uL_nat]
      rw [iadd_nat (by omega), ← stL_succ (by rw [List.length_replicate]; omega), ← stL_succ (by rw [List.length_replicate]; omega)]
      simp only [gI_at, Int.toNat_natCast]
  · rintro _ rfl Kb
    refine br_f (by simp) ?_
    simp only [cpL_st hol, len_eq]
    refine LoopP_for (fun i st => st = (ro, (ro.length : Int), (i : Int), l, r, ro, [], [], [], cpL l o l.length, cpL r o l.length, stL (fun j => atL o (ro.getD j 0)) (List.replicate ro.length (-1)) i, o)) ro.length ?_ ?_ ?_
    · rw [stL_zero]; rfl
    · rintro i _ hi rfl Kb hKb
      refine br_t (by simp; exact hi) ⟨by rw [inB_nat]; exact hi, L_CopyHeap_1 (by dsimp only; omega) ⟨by rw [inB_nat]; dsimp only; rw [stL_len]; simpa using hi, hKb _ ?_⟩⟩
      simp only [uL_nat]
      rw [iadd_nat (by omega), ← stL_succ (by simpa using hi), gI_nat]
    · rintro _ rfl Kb
      refine br_f (by simp) ?_
      have e : stL (fun j => atL o (ro.getD j 0)) (List.replicate ro.length (-1)) ro.length = ro.map (atL o) := by
        rw [stL_all (by simp)]; simp only [List.length_replicate]; exact map_stL
      simp only [e]
      refine LoopP_for (fun i st => st = ((l.length : Int), (i : Int), (List.range i).map fun (c : Nat) => atL o (c : Int), [], [], [], cpL l o l.length, cpL r o l.length, ro.map (atL o), o)) l.length rfl ?_ ?_
      · rintro i _ hi rfl Kb hKb
        refine br_t (by simp; exact hi) (L_CopyHeap_1 (by dsimp only; omega) ⟨by simp; omega, hKb _ ?_⟩)
        rw [iadd_nat (by omega), map_range_succ]
      · rintro _ rfl Kb
        exact br_f (by simp) (hy h)
theorem L_sCopyHeap {l r ro : List Int} {K : Bool → List Int → List Int → List Int → List Int → Prop} (hy : HVp l r ro → K true (cpL l (ordF l r ro) l.length) (cpL r (ordF l r ro) l.length) (ro.map (atL (ordF l r ro))) (cpW (ordF l r ro) l.length)) (hn : ¬ HVp l r ro → K false [] [] [] []) : Ms_CopyHeap l r ro K := by
  refine L_sHeapValid (br (fun h => hn (by simpa using h)) fun h => ?_)
  have h : HVp l r ro := by simpa using h
  have h8 := h.l8; have hlr := h.lr; have h3 := h.r3
  have hc := ordF_cells h
  have hol := hc.len
  have hng := neg_not_mem hc
  refine L_l10Order h ?_
  generalize ho : ordF l r ro = o at hc hol hy hng
  simp only [len_eq]
  refine L_l1Many h.l8 (L_l1Many h.l8 (L_l1Many h.l8 ?_))
  refine LoopP_for (fun i st => st = ((i : Int), l, r, ro, o, pw o l.length i, [], [], [], stL (fun j => atL o (l.getD (o.getD j 0).toNat 0)) (List.replicate l.length (-1)) i, stL (fun j => atL o (r.getD (o.getD j 0).toNat 0)) (List.replicate l.length (-1)) i, [])) o.length ?_ ?_ ?_
  · rw [stL_zero, stL_zero, pw_zero]; rfl
  · rintro i _ hi rfl Kb hKb
    have hg := hc.get hi
    have b1 : inB (i : Int) o.length := by rw [inB_nat]; exact hi
    have b2 : inB (i : Int) l.length := by rw [inB_nat]; omega
    refine br_t (by simp; exact hi) ?_
    simp only [gI_nat, stL_len, pw_len, List.length_replicate]
    refine ⟨b1, hg, L_l10To (by omega) hng ⟨b2, b1, ⟨hg.1, by omega⟩, L_l10To (by omega) hng ⟨b2, b1, hg, hKb _ ?_⟩⟩⟩
    simp only [uL_nat]
    rw [iadd_nat (by omega), ← stL_succ (by rw [List.length_replicate]; omega), ← stL_succ (by rw [List.length_replicate]; omega), ← pw_succ hc hi]
    simp only [gI_at, uL]
  · rintro _ rfl Kb
    refine br_f (by simp) ?_
    simp only [cpL_st hol, pw_all]
    refine LoopP_for (fun i st => st = ((i : Int), l, r, ro, o, cpW o l.length, [], [], [], cpL l o l.length, cpL r o l.length, (List.range i).map fun j => atL o (ro.getD j 0))) ro.length rfl ?_ ?_
    · rintro i _ hi rfl Kb hKb
      refine br_t (by simp; exact hi) ⟨by rw [inB_nat]; exact hi, L_l10To (by dsimp only; omega) hng ⟨by simp; omega, hKb _ ?_⟩⟩
      rw [iadd_nat (by omega), map_range_succ, gI_nat]
    · rintro _ rfl Kb
      refine br_f (by simp) ?_
      have := hy h
      rw [← map_stL] at this
      exact this
theorem neStep {a b : Int} {P Q : Prop} (e : a = b) (h : Q) : ((a != b) = true → P) ∧ ((a != b) = false → Q) := br_f (by simp [e]) h
theorem eqStep {a : Bool} {P Q : Prop} (h : Q) : ((!(a == a)) = true → P) ∧ ((!(a == a)) = false → Q) := br_f (by simp) h
theorem law_FnExactCopyHeap {p q r : List Int} (hp : p.length ≤ maxLen) (hq : q.length ≤ maxLen) (hr : r.length ≤ maxLen) {K : Bool → Prop} (hK : K true) : Ml_FnExactCopyHeap p q r K := by
  unfold Ml_FnExactCopyHeap
  refine L_szHeap (by decide) (by decide) hp hq hr (szStop hK) fun y a1 b1 c1 c2 c3 => szStep a1 ?_
  have key : ∃ b x y z w, (∀ K : Bool → List Int → List Int → List Int → List Int → Prop, K b x y z w → Ms_CopyHeap p q r K) ∧ (∀ K : Bool → List Int → List Int → List Int → List Int → Prop, K b x y z w → Mi_CopyHeap p q r K) ∧ x.length ≤ 1048576 ∧ y.length ≤ 1048576 ∧ z.length ≤ 1048576 ∧ w.length ≤ 1048576 := by
    by_cases h : HVp p q r
    · refine ⟨true, _, _, _, _, fun K hK => L_sCopyHeap (fun _ => hK) fun hh => absurd h hh, fun K hK => L_iCopyHeap (fun _ => hK) fun hh => absurd h hh, ?_, ?_, ?_, ?_⟩
      · rw [cpL_len]; exact c1
      · rw [cpL_len]; exact c1
      · simpa using c3
      · rw [cpW_len]; exact c1
    · exact ⟨false, [], [], [], [], fun K hK => L_sCopyHeap (fun hh => absurd hh h) fun _ => hK, fun K hK => L_iCopyHeap (fun hh => absurd hh h) fun _ => hK, by simp, by simp, by simp, by simp⟩
  obtain ⟨b, x, y, z, w, hS, hI, d1, d2, d3, d4⟩ := key
  have e : ∀ K : Bool → Prop, K true → Ml_eqHeap x y z x y z K := fun K hK => L_eqHeap_same (by omega) (by omega) (by omega) hK
  have e2 : ∀ K : Bool → Prop, K true → Ml_eqIntS w w K := fun K hK => L_eqIntS (by omega) (by simpa using hK)
  refine L_toHeap c1 c2 c3 (hS _ (L_toHeap c1 c2 c3 (hI _ ?_)))
  refine e _ (step_t rfl (e2 _ (step_t rfl (eqStep (L_toHeap c1 c2 c3 (L_eqHeap_same (by omega) (by omega) (by omega) (step_t rfl ?_)))))))
  refine L_markHeap (by decide) (by decide) (by omega) (by omega) (by omega) (szStep (by omega) (e _ (step_t rfl (e2 _ (step_t rfl (eqStep ?_))))))
  refine L_markHeap (by decide) (by decide) (by omega) (by omega) (by omega) (L_markIntS (by omega) (by omega) (by omega) (L_heldHeap (by decide) (by decide) (by omega) (by omega) (by omega) (szStep (by omega) (L_heldIntS (by omega) (by omega) (by omega) (szStep (by omega) (neStep rfl ?_))))))
  exact L_toHeap c1 c2 c3 (hI _ (e _ (step_t rfl (e2 _ (step_t rfl (eqStep (L_heldHeap (by decide) (by decide) (by omega) (by omega) (by omega) (szStep (by omega) (L_heldIntS (by omega) (by omega) (by omega) (szStep (by omega) (neStep rfl hK)))))))))))
end Go.Ab
