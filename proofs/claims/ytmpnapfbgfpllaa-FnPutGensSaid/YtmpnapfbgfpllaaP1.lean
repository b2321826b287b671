/-
  What is proved here: what the laws' helpers do: sizes, copies, comparisons, marks. No condition beyond those written in each statement.
-/
import Derived.Test.YtmpnapfbgfpllaaP0
import Derived.Test.YtmpnapfbgfpllaaGM
namespace Go.Ab
set_option linter.unusedVariables false
set_option linter.unusedSimpArgs false

theorem L_szIntS {p : List Int} {n : Int} {K : Int → Prop} (h0 : 0 ≤ n) (hn : n ≤ 1048576) (hp : p.length ≤ maxLen) (h1 : K (-1)) (h2 : ∀ y, 0 ≤ y → y ≤ n → p.length ≤ 1048576 → K y) : Ml_szIntS p n K := by
  have hs : isub n (len p) = n - p.length := by rw [isub_eq] <;> simp only [len_eq] <;> simp only [maxLen] at hp <;> omega
  unfold Ml_szIntS
  rw [hs]
  refine br (fun _ => h1) fun h => ?_
  simp at h
  exact h2 _ (by omega) (by omega) (by omega)
theorem L_szBoolS {p : List Bool} {n : Int} {K : Int → Prop} (h0 : 0 ≤ n) (hn : n ≤ 1048576) (hp : p.length ≤ maxLen) (h1 : K (-1)) (h2 : ∀ y, 0 ≤ y → y ≤ n → p.length ≤ 1048576 → K y) : Ml_szBoolS p n K := by
  have hs : isub n (len p) = n - p.length := by rw [isub_eq] <;> simp only [len_eq] <;> simp only [maxLen] at hp <;> omega
  unfold Ml_szBoolS
  rw [hs]
  refine br (fun _ => h1) fun h => ?_
  simp at h
  exact h2 _ (by omega) (by omega) (by omega)
theorem szStep {y : Int} {P Q : Prop} (hy : 0 ≤ y) (h : Q) : (decide (y < 0) = true → P) ∧ (decide (y < 0) = false → Q) := br_f (by simp; omega) h
theorem szStop {P Q : Prop} (h : P) : (decide ((-1 : Int) < 0) = true → P) ∧ (decide ((-1 : Int) < 0) = false → Q) := br_t (by decide) h

theorem L_szHeap {p q r : List Int} {n : Int} {K : Int → Prop} (h0 : 0 ≤ n) (hn : n ≤ 1048576) (hp : p.length ≤ maxLen) (hq : q.length ≤ maxLen) (hr : r.length ≤ maxLen) (h1 : K (-1))
    (h2 : ∀ y, 0 ≤ y → y ≤ n → p.length ≤ 1048576 → q.length ≤ 1048576 → r.length ≤ 1048576 → K y) : Ml_szHeap p q r n K := by
  unfold Ml_szHeap
  refine L_szIntS h0 hn hp (szStop h1) fun y a1 b1 c1 => szStep a1 ?_
  refine L_szIntS a1 (by omega) hq (szStop h1) fun z a2 b2 c2 => szStep a2 ?_
  exact L_szIntS a2 (by omega) hr (szStop h1) fun w a3 b3 c3 => szStep a3 (h2 w a3 (by omega) c1 c2 c3)
theorem L_szGens {p q r s : List Int} {o : List Bool} {n : Int} {K : Int → Prop} (h0 : 0 ≤ n) (hn : n ≤ 1048576) (hp : p.length ≤ maxLen) (hq : q.length ≤ maxLen) (hr : r.length ≤ maxLen) (ho : o.length ≤ maxLen) (hs : s.length ≤ maxLen) (h1 : K (-1))
    (h2 : ∀ y, 0 ≤ y → y ≤ n → p.length ≤ 1048576 → q.length ≤ 1048576 → r.length ≤ 1048576 → o.length ≤ 1048576 → s.length ≤ 1048576 → K y) : Ml_szGens p q r o s n K := by
  unfold Ml_szGens
  refine L_szHeap h0 hn hp hq hr (szStop h1) fun y a1 b1 c1 c2 c3 => szStep a1 ?_
  refine L_szBoolS a1 (by omega) ho (szStop h1) fun z a2 b2 c4 => szStep a2 ?_
  exact L_szIntS a2 (by omega) hs (szStop h1) fun w a3 b3 c5 => szStep a3 (h2 w a3 (by omega) c1 c2 c3 c4 c5)

theorem L_toIntS {p : List Int} {K : List Int → Prop} (hp : p.length ≤ 1048576) (hK : K p) : Ml_toIntS p K :=
  ⟨⟨by simp [len_eq], rfl, by simp [len_eq]; omega⟩, cpLoop (0 : Int) p (by omega) K hK⟩
theorem L_toBoolS {p : List Bool} {K : List Bool → Prop} (hp : p.length ≤ 1048576) (hK : K p) : Ml_toBoolS p K :=
  ⟨⟨by simp [len_eq], rfl, by simp [len_eq]; omega⟩, cpLoop false p (by omega) K hK⟩
theorem L_toHeap {p q r : List Int} {K : List Int → List Int → List Int → Prop} (hp : p.length ≤ 1048576) (hq : q.length ≤ 1048576) (hr : r.length ≤ 1048576) (hK : K p q r) : Ml_toHeap p q r K :=
  L_toIntS hp (L_toIntS hq (L_toIntS hr hK))
theorem L_toGens {p q r s : List Int} {o : List Bool} {K : List Int → List Int → List Int → List Bool → List Int → Prop} (hp : p.length ≤ 1048576) (hq : q.length ≤ 1048576) (hr : r.length ≤ 1048576) (ho : o.length ≤ 1048576) (hs : s.length ≤ 1048576) (hK : K p q r o s) : Ml_toGens p q r o s K :=
  L_toHeap hp hq hr (L_toBoolS ho (L_toIntS hs hK))

/-! Comparisons. -/
theorem L_l1Ints {p q : List Int} {K : Bool → Prop} (hp : p.length < 2 ^ 62) (hK : K (decide (p = q))) : Ms_l1Ints p q K := eqGate hK fun hl => eqLoop3 0 p q hp K hK hl
theorem L_eqIntS {p q : List Int} {K : Bool → Prop} (hp : p.length < 2 ^ 62) (hK : K (decide (p = q))) : Ml_eqIntS p q K := eqGate hK fun hl => eqLoop3 0 p q hp K hK hl
theorem L_ccInts {p q : List Int} {K : Bool → Prop} (hp : p.length < 2 ^ 62) (hK : K (decide (p = q))) : Ml_ccInts p q K := eqGate hK fun hl => eqLoop3 0 p q hp K hK hl
theorem L_eqBoolS {p q : List Bool} {K : Bool → Prop} (hp : p.length < 2 ^ 62) (hK : K (decide (p = q))) : Ml_eqBoolS p q K := eqGate hK fun hl => eqLoop3 false p q hp K hK hl
theorem L_Equal_int {p q : List Int} {K : Bool → Prop} (hp : p.length < 2 ^ 62) (hK : K (decide (p = q))) : M_Equal_int p q K := eqGate hK fun hl => eqLoop4 0 p q hp K hK hl
theorem L_Equal_bool {p q : List Bool} {K : Bool → Prop} (hp : p.length < 2 ^ 62) (hK : K (decide (p = q))) : M_Equal_bool p q K := eqGate hK fun hl => eqLoop4 false p q hp K hK hl

theorem L_sHeapSame {p q r p' q' r' : List Int} {K : Bool → Prop} (hp : p.length < 2 ^ 62) (hq : q.length < 2 ^ 62) (hr : r.length < 2 ^ 62) (hK : K (decide (p = p' ∧ q = q' ∧ r = r'))) : Ms_HeapSame p q r p' q' r' K := by
  refine L_l1Ints hp (br (fun h1 => L_l1Ints hq (br (fun h2 => L_l1Ints hr ?_) fun h2 => ?_)) fun h1 => ?_)
  · simp at h1 h2; simpa [h1, h2] using hK
  · simp at h1 h2; simpa [h1, h2] using hK
  · simp at h1; simpa [h1] using hK
theorem L_iHeapSame {p q r p' q' r' : List Int} {K : Bool → Prop} (hp : p.length < 2 ^ 62) (hq : q.length < 2 ^ 62) (hr : r.length < 2 ^ 62) (hK : K (decide (p = p' ∧ q = q' ∧ r = r'))) : Mi_HeapSame p q r p' q' r' K := by
  refine L_Equal_int hp (br (fun h1 => L_Equal_int hq (br (fun h2 => L_Equal_int hr ?_) fun h2 => ?_)) fun h1 => ?_)
  · simp at h1 h2; simpa [h1, h2] using hK
  · simp at h1 h2; simpa [h1, h2] using hK
  · simp at h1; simpa [h1] using hK
theorem L_iGensSame {p q r s p' q' r' s' : List Int} {o o' : List Bool} {K : Bool → Prop} (hp : p.length < 2 ^ 62) (hq : q.length < 2 ^ 62) (hr : r.length < 2 ^ 62) (ho : o.length < 2 ^ 62) (hs : s.length < 2 ^ 62)
    (hK : K (decide ((p = p' ∧ q = q' ∧ r = r') ∧ o = o' ∧ s = s'))) : Mi_GensSame p q r o s p' q' r' o' s' K := by
  refine L_iHeapSame hp hq hr (br (fun h1 => L_Equal_bool ho (br (fun h2 => L_Equal_int hs ?_) fun h2 => ?_)) fun h1 => ?_)
  · simp only [decide_eq_true_eq] at h1 h2; simpa [h1, h2] using hK
  · simp only [decide_eq_true_eq, decide_eq_false_iff_not] at h1 h2; simpa [h1, h2] using hK
  · simp only [decide_eq_false_iff_not] at h1; rw [decide_eq_false (fun hh => h1 hh.1)] at hK; exact hK
theorem gensLoop {p1 p2 p3 p5 p6 p7 p8 p10 : List Int} {p4 p9 : List Bool} (hb : p4.length < 2 ^ 62) {K : Bool → Prop} (hK : K (decide (p4 = p9))) (hl : p4.length = p9.length) :
    (LoopP (S := Int × List Int × List Int × List Int × List Bool × List Int × List Int × List Int × List Int × List Bool × List Int) (fun s3 Kb3 Kx3 =>
(((decide (s3.1 < (len s3.2.2.2.2.1))) = true →
((inB s3.1 (List.length s3.2.2.2.2.1)) ∧
((inB s3.1 (List.length s3.2.2.2.2.2.2.2.2.2.1)) ∧
(let v4 : Bool := (!((gB s3.2.2.2.2.1 s3.1) == (gB s3.2.2.2.2.2.2.2.2.2.1 s3.1)));
((v4 = true →
(K false)) ∧
(v4 = false →
(Kb3 ((iadd s3.1 1), s3.2.1, s3.2.2.1, s3.2.2.2.1, s3.2.2.2.2.1, s3.2.2.2.2.2.1, s3.2.2.2.2.2.2.1, s3.2.2.2.2.2.2.2.1, s3.2.2.2.2.2.2.2.2.1, s3.2.2.2.2.2.2.2.2.2.1, s3.2.2.2.2.2.2.2.2.2.2)))))))) ∧
((decide (s3.1 < (len s3.2.2.2.2.1))) = false →
(Kx3 (s3.1, s3.2.1, s3.2.2.1, s3.2.2.2.1, s3.2.2.2.2.1, s3.2.2.2.2.2.1, s3.2.2.2.2.2.2.1, s3.2.2.2.2.2.2.2.1, s3.2.2.2.2.2.2.2.2.1, s3.2.2.2.2.2.2.2.2.2.1, s3.2.2.2.2.2.2.2.2.2.2)))))
(0, p1, p2, p3, p4, p5, p6, p7, p8, p9, p10) fun s3 =>
(K true)) := by
  refine LoopP_for (fun i s => s = ((i : Int), p1, p2, p3, p4, p5, p6, p7, p8, p9, p10) ∧ ∀ j, j < i → p4.getD j false = p9.getD j false) p4.length ⟨rfl, by omega⟩ ?_ ?_
  · rintro i _ hi ⟨rfl, hj⟩ Kb hKb
    refine br_t (by simp [len_eq]; exact hi) ⟨by simp [inB_nat]; exact hi, by simp [inB_nat]; omega, br (fun h => ?_) fun h => ?_⟩
    · simp [gB_nat] at h
      have : p4 ≠ p9 := fun e => h (by rw [e])
      simpa [this] using hK
    · simp only [gB_nat, Bool.not_eq_false', beq_iff_eq] at h
      refine hKb _ ⟨by rw [iadd_nat (by omega)], fun j hji => ?_⟩
      rcases Nat.lt_succ_iff_lt_or_eq.1 hji with e | e
      · exact hj j e
      · subst e; exact h
  · rintro _ ⟨rfl, hj⟩ Kb
    refine br_f (by simp [len_eq]) ?_
    have := eqL_iff false p4 p9 hl hj
    simpa [this] using hK
theorem L_sGensSame {p q r s p' q' r' s' : List Int} {o o' : List Bool} {K : Bool → Prop} (hp : p.length < 2 ^ 62) (hq : q.length < 2 ^ 62) (hr : r.length < 2 ^ 62) (ho : o.length < 2 ^ 62) (hs : s.length < 2 ^ 62)
    (hK : K (decide ((p = p' ∧ q = q' ∧ r = r') ∧ o = o' ∧ s = s'))) : Ms_GensSame p q r o s p' q' r' o' s' K := by
  refine L_sHeapSame hp hq hr (br (fun h1 => ?_) fun h1 => ?_)
  · simp only [Bool.not_eq_true', decide_eq_false_iff_not] at h1
    rw [decide_eq_false (fun hh => h1 hh.1)] at hK; exact hK
  simp only [Bool.not_eq_false', decide_eq_true_eq] at h1
  refine L_l1Ints hs (br (fun h2 => ?_) fun h2 => ?_)
  · simp only [Bool.not_eq_true', decide_eq_false_iff_not] at h2
    rw [decide_eq_false (fun hh => h2 hh.2.2)] at hK; exact hK
  simp only [Bool.not_eq_false', decide_eq_true_eq] at h2
  have hK : K (decide (o = o')) := by simpa [h1, h2] using hK
  exact eqGate hK fun hl => gensLoop ho hK hl

theorem step_t {b : Bool} {P Q : Prop} (h : b = true) (hq : Q) : ((!b) = true → P) ∧ ((!b) = false → Q) := br_f (by simp [h]) hq
theorem L_eqHeap_same {p q r : List Int} {K : Bool → Prop} (hp : p.length < 2 ^ 62) (hq : q.length < 2 ^ 62) (hr : r.length < 2 ^ 62) (hK : K true) : Ml_eqHeap p q r p q r K :=
  L_eqIntS hp (step_t (by simp) (L_eqIntS hq (step_t (by simp) (L_eqIntS hr (step_t (by simp) hK)))))
theorem L_eqGens_same {p q r s : List Int} {o : List Bool} {K : Bool → Prop} (hp : p.length < 2 ^ 62) (hq : q.length < 2 ^ 62) (hr : r.length < 2 ^ 62) (ho : o.length < 2 ^ 62) (hs : s.length < 2 ^ 62) (hK : K true) : Ml_eqGens p q r o s p q r o s K :=
  L_eqHeap_same hp hq hr (step_t rfl (L_eqBoolS ho (step_t (by simp) (L_eqIntS hs (step_t (by simp) hK)))))

/-! Marks. -/
def seqI (k : Int) (n : Nat) : List Int := (List.range n).map fun (i : Nat) => k + i
def seqB (k : Int) (n : Nat) : List Bool := (List.range n).map fun (i : Nat) => (k + i).tmod 3 == 0
theorem seqI_getD {k : Int} {n j : Nat} (h : j < n) : (seqI k n).getD j 0 = k + j := by simp [seqI, List.getD_eq_getElem?_getD, h]
theorem seqB_getD {k : Int} {n j : Nat} (h : j < n) : (seqB k n).getD j false = ((k + j).tmod 3 == 0) := by simp [seqB, List.getD_eq_getElem?_getD, h]
@[simp] theorem seqI_len (k : Int) (n : Nat) : (seqI k n).length = n := by simp [seqI]
@[simp] theorem seqB_len (k : Int) (n : Nat) : (seqB k n).length = n := by simp [seqB]
theorem L_markIntS {k : Int} {p : List Int} {K : Int → List Int → Prop} (h0 : 0 ≤ k) (hk : k < 2 ^ 60) (hp : p.length < 2 ^ 60) (hK : K (k + p.length) (seqI k p.length)) : Ml_markIntS k p K := by
  unfold Ml_markIntS
  refine LoopP_for (fun i s => ∃ t, s = (k + (i : Int), (i : Int), t) ∧ t.length = p.length ∧ ∀ j, j < i → t.getD j 0 = k + j) p.length ⟨p, by simp, rfl, by omega⟩ ?_ ?_
  · rintro i _ hi ⟨t, rfl, ht, hj⟩ Kb hKb
    refine br_t (by simp [len_eq, ht]; exact hi) ⟨by simp [inB_nat, ht]; exact hi, hKb _ ⟨uL t i (k + i), ?_, by simp [uL, ht], fun j hji => ?_⟩⟩
    · simp only [Prod.mk.injEq, and_true]
      refine ⟨?_, iadd_nat (by omega)⟩
      rw [iadd_eq] <;> push_cast <;> omega
    · simp only [uL_nat]
      rw [List.getD_eq_getElem?_getD, List.getElem?_set]
      by_cases e : i = j
      · subst e; simp [ht, hi]
      · rw [if_neg e, ← List.getD_eq_getElem?_getD]; exact hj j (by omega)
  · rintro _ ⟨t, rfl, ht, hj⟩ Kb
    refine br_f (by simp [len_eq, ht]) ?_
    have : t = seqI k p.length := eqL_iff 0 _ _ (by simp [ht]) fun j h => by rw [hj j (by omega), seqI_getD (by omega)]
    subst this
    exact hK
theorem L_markBoolS {k : Int} {p : List Bool} {K : Int → List Bool → Prop} (h0 : 0 ≤ k) (hk : k < 2 ^ 60) (hp : p.length < 2 ^ 60) (hK : K (k + p.length) (seqB k p.length)) : Ml_markBoolS k p K := by
  unfold Ml_markBoolS
  refine LoopP_for (fun i s => ∃ t, s = (k + (i : Int), (i : Int), t) ∧ t.length = p.length ∧ ∀ j, j < i → t.getD j false = ((k + j).tmod 3 == 0)) p.length ⟨p, by simp, rfl, by omega⟩ ?_ ?_
  · rintro i _ hi ⟨t, rfl, ht, hj⟩ Kb hKb
    refine br_t (by simp [len_eq, ht]; exact hi) ⟨by decide, by simp [inB_nat, ht]; exact hi, hKb _ ⟨uL t i ((k + i).tmod 3 == 0), ?_, by simp [uL, ht], fun j hji => ?_⟩⟩
    · simp only [Prod.mk.injEq, and_true]
      refine ⟨?_, iadd_nat (by omega)⟩
      rw [iadd_eq] <;> push_cast <;> omega
    · simp only [uL_nat]
      rw [List.getD_eq_getElem?_getD, List.getElem?_set]
      by_cases e : i = j
      · subst e; simp [ht, hi]
      · rw [if_neg e, ← List.getD_eq_getElem?_getD]; exact hj j (by omega)
  · rintro _ ⟨t, rfl, ht, hj⟩ Kb
    refine br_f (by simp [len_eq, ht]) ?_
    have : t = seqB k p.length := eqL_iff false _ _ (by simp [ht]) fun j h => by rw [hj j (by omega), seqB_getD (by omega)]
    subst this
    exact hK
theorem L_heldIntS {k : Int} {n : Nat} {K : Int → Prop} (h0 : 0 ≤ k) (hk : k < 2 ^ 60) (hn : n < 2 ^ 60) (hK : K (k + n)) : Ml_heldIntS (seqI k n) k K := by
  unfold Ml_heldIntS
  refine LoopP_for (fun i s => s = (seqI k n, k + (i : Int), (i : Int))) n (by simp) ?_ ?_
  · rintro i _ hi rfl Kb hKb
    refine br_t (by simp [len_eq]; exact hi) ⟨by simp [inB_nat]; exact hi, br_f (by simp only [gI_nat, seqI_getD hi, bne_self_eq_false]) (hKb _ ?_)⟩
    simp only [Prod.mk.injEq, true_and]
    refine ⟨?_, iadd_nat (by omega)⟩
    rw [iadd_eq] <;> push_cast <;> omega
  · rintro _ rfl Kb
    exact br_f (by simp [len_eq]) hK
theorem L_heldBoolS {k : Int} {n : Nat} {K : Int → Prop} (h0 : 0 ≤ k) (hk : k < 2 ^ 60) (hn : n < 2 ^ 60) (hK : K (k + n)) : Ml_heldBoolS (seqB k n) k K := by
  unfold Ml_heldBoolS
  refine LoopP_for (fun i s => s = (seqB k n, k + (i : Int), (i : Int))) n (by simp) ?_ ?_
  · rintro i _ hi rfl Kb hKb
    refine br_t (by simp [len_eq]; exact hi) ⟨by simp [inB_nat]; exact hi, by decide, br_f (by simp only [gB_nat, seqB_getD hi, beq_self_eq_true, Bool.not_true]) (hKb _ ?_)⟩
    simp only [Prod.mk.injEq, true_and]
    refine ⟨?_, iadd_nat (by omega)⟩
    rw [iadd_eq] <;> push_cast <;> omega
  · rintro _ rfl Kb
    exact br_f (by simp [len_eq]) hK
theorem L_markHeap {k : Int} {p q r : List Int} {K : Int → List Int → List Int → List Int → Prop} (h0 : 0 ≤ k) (hk : k < 2 ^ 58) (hp : p.length < 2 ^ 58) (hq : q.length < 2 ^ 58) (hr : r.length < 2 ^ 58)
    (hK : K (k + p.length + q.length + r.length) (seqI k p.length) (seqI (k + p.length) q.length) (seqI (k + p.length + q.length) r.length)) : Ml_markHeap k p q r K :=
  L_markIntS h0 (by omega) (by omega) (L_markIntS (by omega) (by omega) (by omega) (L_markIntS (by omega) (by omega) (by omega) hK))
theorem L_heldHeap {k : Int} {a b c : Nat} {K : Int → Prop} (h0 : 0 ≤ k) (hk : k < 2 ^ 58) (ha : a < 2 ^ 58) (hb : b < 2 ^ 58) (hc : c < 2 ^ 58) (hK : K (k + a + b + c)) :
    Ml_heldHeap (seqI k a) (seqI (k + a) b) (seqI (k + a + b) c) k K :=
  L_heldIntS h0 (by omega) (by omega) (szStep (by omega) (L_heldIntS (by omega) (by omega) (by omega) (szStep (by omega) (L_heldIntS (by omega) (by omega) (by omega) (szStep (by omega) hK)))))
theorem L_markGens {k : Int} {p q r s : List Int} {o : List Bool} {K : Int → List Int → List Int → List Int → List Bool → List Int → Prop} (h0 : 0 ≤ k) (hk : k < 2 ^ 56) (hp : p.length < 2 ^ 56) (hq : q.length < 2 ^ 56) (hr : r.length < 2 ^ 56) (ho : o.length < 2 ^ 56) (hs : s.length < 2 ^ 56)
    (hK : K (k + p.length + q.length + r.length + o.length + s.length) (seqI k p.length) (seqI (k + p.length) q.length) (seqI (k + p.length + q.length) r.length) (seqB (k + p.length + q.length + r.length) o.length) (seqI (k + p.length + q.length + r.length + o.length) s.length)) : Ml_markGens k p q r o s K :=
  L_markHeap h0 (by omega) (by omega) (by omega) (by omega) (L_markBoolS (by omega) (by omega) (by omega) (L_markIntS (by omega) (by omega) (by omega) hK))
theorem L_heldGens {k : Int} {a b c d e : Nat} {K : Int → Prop} (h0 : 0 ≤ k) (hk : k < 2 ^ 56) (ha : a < 2 ^ 56) (hb : b < 2 ^ 56) (hc : c < 2 ^ 56) (hd : d < 2 ^ 56) (he : e < 2 ^ 56) (hK : K (k + a + b + c + d + e)) :
    Ml_heldGens (seqI k a) (seqI (k + a) b) (seqI (k + a + b) c) (seqB (k + a + b + c) d) (seqI (k + a + b + c + d) e) k K :=
  L_heldHeap h0 (by omega) (by omega) (by omega) (by omega) (szStep (by omega) (L_heldBoolS (by omega) (by omega) (by omega) (szStep (by omega) (L_heldIntS (by omega) (by omega) (by omega) (szStep (by omega) hK)))))
end Go.Ab
