/-
  What is proved here: the plain laws that the law FnExactSmallCollect needs: what its functions compute, and that its model returns true. Conditions: those written in each statement.
-/
import Derived.Test.YthkneknigkbgpaaGM
namespace Go.Ab
set_option linter.unusedVariables false
set_option linter.unusedSimpArgs false
theorem wrap64 {x : Int} (h1 : -9223372036854775808 ≤ x) (h2 : x < 9223372036854775808) : IntKind.i64.wrap x = x := by
  simp [IntKind.wrap, IntKind.signed, IntKind.bits]
  split <;> omega
theorem iadd_eq {a b : Int} (h1 : -9223372036854775808 ≤ a + b) (h2 : a + b < 9223372036854775808) : iadd a b = a + b := wrap64 h1 h2
theorem isub_eq {a b : Int} (h1 : -9223372036854775808 ≤ a - b) (h2 : a - b < 9223372036854775808) : isub a b = a - b := wrap64 h1 h2
theorem iadd_nat {i : Nat} (h : i < 2 ^ 62) : iadd (i : Int) 1 = ((i + 1 : Nat) : Int) := by rw [iadd_eq] <;> omega
theorem inB_nat {i n : Nat} : inB (i : Int) n = (i < n) := by simp [inB]
theorem gI_nat (l : List Int) (i : Nat) : gI l (i : Int) = l.getD i 0 := by simp [gI, EK.dflt]
theorem gB_nat (l : List Bool) (i : Nat) : gB l (i : Int) = l.getD i false := by simp [gB, EK.dflt]
theorem uL_nat {α : Type} (l : List α) (i : Nat) (v : α) : uL l (i : Int) v = l.set i v := by simp [uL]
theorem len_eq {α : Type} (l : List α) : len l = (l.length : Int) := rfl
/-- A loop that counts. -/
theorem LoopP_for {S : Type} {body : S → (S → Prop) → (S → Prop) → Prop} {Kx : S → Prop} {s : S} (J : Nat → S → Prop) (n : Nat) (h0 : J 0 s)
    (step : ∀ i s, i < n → J i s → ∀ Kb : S → Prop, (∀ s', J (i + 1) s' → Kb s') → body s Kb Kx) (last : ∀ s, J n s → ∀ Kb : S → Prop, body s Kb Kx) : LoopP body s Kx := by
  suffices hh : ∀ k i s, n - i < k → i ≤ n → J i s → itP body k s Kx from ⟨n + 1, hh _ 0 s (by omega) (by omega) h0⟩
  intro k
  induction k with
  | zero => intro i s h; omega
  | succ k ih =>
    intro i s hk hi hj
    by_cases e : i = n
    · subst e; exact last s hj _
    · exact step i s (by omega) hj _ fun s' h' => ih (i + 1) s' (by omega) (by omega) h'
theorem br {b : Bool} {P Q : Prop} (h1 : b = true → P) (h2 : b = false → Q) : (b = true → P) ∧ (b = false → Q) := ⟨h1, h2⟩
theorem br_t {b : Bool} {P Q : Prop} (h : b = true) (hp : P) : (b = true → P) ∧ (b = false → Q) := ⟨fun _ => hp, fun h' => by rw [h] at h'; cases h'⟩
theorem br_f {b : Bool} {P Q : Prop} (h : b = false) (hq : Q) : (b = true → P) ∧ (b = false → Q) := ⟨fun h' => (by rw [h] at h'; cases h'), fun _ => hq⟩
theorem getD_lt {α : Type} {l : List α} {i : Nat} {d : α} (h : i < l.length) : l.getD i d = l[i] := by simp [List.getD_eq_getElem?_getD, h]
theorem eqL_iff {α : Type} (d : α) (p q : List α) (h : p.length = q.length) (hj : ∀ j, j < p.length → p.getD j d = q.getD j d) : p = q := by
  apply List.ext_getElem h
  intro i h1 h2
  have := hj i h1
  rwa [getD_lt h1, getD_lt h2] at this
/-- Two lists are compared. -/
theorem eqLoop3 {α : Type} [DecidableEq α] (d : α) (p1 p2 : List α) (hb : p1.length < 2 ^ 62) (K : Bool → Prop) (hK : K (decide (p1 = p2))) (hl : p1.length = p2.length) :
    (LoopP (S := List α × List α × Int) (fun s1 Kb1 Kx1 =>
(((decide (s1.2.2 < (len s1.1))) = true →
((inB s1.2.2 (List.length s1.1)) ∧
((inB s1.2.2 (List.length s1.2.1)) ∧
((((s1.1.getD s1.2.2.toNat d) != (s1.2.1.getD s1.2.2.toNat d)) = true →
(K false)) ∧
(((s1.1.getD s1.2.2.toNat d) != (s1.2.1.getD s1.2.2.toNat d)) = false →
(Kb1 (s1.1, s1.2.1, (iadd s1.2.2 1)))))))) ∧
((decide (s1.2.2 < (len s1.1))) = false →
(Kx1 (s1.1, s1.2.1, s1.2.2)))))
(p1, p2, 0) fun s1 => (K true)) := by
  refine LoopP_for (fun i s => s = (p1, p2, (i : Int)) ∧ ∀ j, j < i → p1.getD j d = p2.getD j d) p1.length ⟨rfl, by omega⟩ ?_ ?_
  · rintro i _ hi ⟨rfl, hj⟩ Kb hKb
    refine br_t (by simp [len_eq]; exact hi) ⟨by simp [inB_nat]; exact hi, by simp [inB_nat]; omega, br (fun h => ?_) fun h => ?_⟩
    · simp at h
      have : p1 ≠ p2 := fun e => h (by rw [e])
      simpa [this] using hK
    · simp at h
      refine hKb _ ⟨by rw [iadd_nat (by omega)], fun j hji => ?_⟩
      rcases Nat.lt_succ_iff_lt_or_eq.1 hji with e | e
      · exact hj j e
      · subst e; exact h
  · rintro _ ⟨rfl, hj⟩ Kb
    refine br_f (by simp [len_eq]) ?_
    have := eqL_iff d p1 p2 hl hj
    simpa [this] using hK
theorem eqLoop4 {α : Type} [DecidableEq α] (d : α) (p1 p2 : List α) (hb : p1.length < 2 ^ 62) (K : Bool → Prop) (hK : K (decide (p1 = p2))) (hl : p1.length = p2.length) :
    (LoopP (S := List α × List α × Int × Int) (fun s1 Kb1 Kx1 =>
(((decide (s1.2.2.2 < s1.2.2.1)) = true →
((inB s1.2.2.2 (List.length s1.1)) ∧
((inB s1.2.2.2 (List.length s1.2.1)) ∧
((((s1.1.getD s1.2.2.2.toNat d) != (s1.2.1.getD s1.2.2.2.toNat d)) = true →
(K false)) ∧
(((s1.1.getD s1.2.2.2.toNat d) != (s1.2.1.getD s1.2.2.2.toNat d)) = false →
(Kb1 (s1.1, s1.2.1, s1.2.2.1, (iadd s1.2.2.2 1)))))))) ∧
((decide (s1.2.2.2 < s1.2.2.1)) = false →
(Kx1 (s1.1, s1.2.1, s1.2.2.1, s1.2.2.2)))))
(p1, p2, len p1, 0) fun s1 => (K true)) := by
  refine LoopP_for (fun i s => s = (p1, p2, len p1, (i : Int)) ∧ ∀ j, j < i → p1.getD j d = p2.getD j d) p1.length ⟨rfl, by omega⟩ ?_ ?_
  · rintro i _ hi ⟨rfl, hj⟩ Kb hKb
    refine br_t (by simp [len_eq]; exact hi) ⟨by simp [inB_nat]; exact hi, by simp [inB_nat]; omega, br (fun h => ?_) fun h => ?_⟩
    · simp at h
      have : p1 ≠ p2 := fun e => h (by rw [e])
      simpa [this] using hK
    · simp at h
      refine hKb _ ⟨by rw [iadd_nat (by omega)], fun j hji => ?_⟩
      rcases Nat.lt_succ_iff_lt_or_eq.1 hji with e | e
      · exact hj j e
      · subst e; exact h
  · rintro _ ⟨rfl, hj⟩ Kb
    refine br_f (by simp [len_eq]) ?_
    have := eqL_iff d p1 p2 hl hj
    simpa [this] using hK
theorem eqGate {α : Type} [DecidableEq α] {p1 p2 : List α} {K : Bool → Prop} {P : Prop} (hK : K (decide (p1 = p2))) (h : p1.length = p2.length → P) :
    (((len p1) != (len p2)) = true → (K false)) ∧ (((len p1) != (len p2)) = false → P) := by
  refine br (fun e => ?_) fun e => h ?_
  · have : p1 ≠ p2 := by rintro rfl; simp at e
    simpa [this] using hK
  · simp [len_eq] at e; omega
/-- A list is copied, element by element. -/
theorem cpLoop {α : Type} (d : α) (p1 : List α) (hb : p1.length < 2 ^ 62) (K : List α → Prop) (hK : K p1) :
    (LoopP (S := List α × Int × List α) (fun s1 Kb1 Kx1 =>
(((decide (s1.2.1 < (len s1.1))) = true →
((inB s1.2.1 (List.length s1.1)) ∧
((inB s1.2.1 (List.length s1.2.2)) ∧
(Kb1 (s1.1, (iadd s1.2.1 1), (uL s1.2.2 s1.2.1 (s1.1.getD s1.2.1.toNat d))))))) ∧
((decide (s1.2.1 < (len s1.1))) = false →
(Kx1 (s1.1, s1.2.1, s1.2.2)))))
(p1, 0, (List.replicate (Int.toNat (len p1)) d)) fun s1 => (K s1.2.2)) := by
  refine LoopP_for (fun i s => ∃ t, s = (p1, (i : Int), t) ∧ t.length = p1.length ∧ ∀ j, j < i → t.getD j d = p1.getD j d) p1.length ⟨_, rfl, by simp [len_eq], by omega⟩ ?_ ?_
  · rintro i _ hi ⟨t, rfl, ht, hj⟩ Kb hKb
    refine br_t (by simp [len_eq]; exact hi) ⟨by simp [inB_nat]; exact hi, by simp [inB_nat]; omega, hKb _ ⟨_, by rw [iadd_nat (by omega)], ?_, fun j hji => ?_⟩⟩
    · simp [uL, ht]
    · simp only [uL_nat, Int.toNat_natCast]
      rw [List.getD_eq_getElem?_getD, List.getElem?_set]
      by_cases e : i = j
      · subst e; simp [ht, hi]
      · rw [if_neg e, ← List.getD_eq_getElem?_getD]; exact hj j (by omega)
  · rintro _ ⟨t, rfl, ht, hj⟩ Kb
    refine br_f (by simp [len_eq]) ?_
    rw [show p1 = t from (eqL_iff d t p1 ht (fun j h => hj j (by omega))).symm] at hK
    exact hK
theorem L_szIntS {p : List Int} {n : Int} {K : Int → Prop} (h0 : 0 ≤ n) (hn : n ≤ 1048576) (hp : p.length ≤ maxLen) (h1 : K (-1)) (h2 : ∀ y, 0 ≤ y → y ≤ n → p.length ≤ 1048576 → K y) : Ml_szIntS p n K := by
  have hs : isub n (len p) = n - p.length := by rw [isub_eq] <;> simp only [len_eq] <;> simp only [maxLen] at hp <;> omega
  unfold Ml_szIntS
  rw [hs]
  refine br (fun _ => h1) fun h => ?_
  simp at h
  exact h2 _ (by omega) (by omega) (by omega)
theorem L_szBoolS {p : List Bool} {n : Int} {K : Int → Prop} (h0 : 0 ≤ n) (hn : n ≤ 1048576) (hp : p.length ≤ maxLen) (h1 : K (-1)) (h2 : ∀ y, 0 ≤ y → y ≤ n → p.length ≤ 1048576 → K y) : Ml_szBoolS p n K := by
  have hs : isub n (len p) = n - p.length := by rw [isub_eq] <;> simp only [len_eq] <;> simp only [maxLen] at hp <;> omega
  unfold Ml_szBoolS
  rw [hs]
  refine br (fun _ => h1) fun h => ?_
  simp at h
  exact h2 _ (by omega) (by omega) (by omega)
theorem szStep {y : Int} {P Q : Prop} (hy : 0 ≤ y) (h : Q) : (decide (y < 0) = true → P) ∧ (decide (y < 0) = false → Q) := br_f (by simp; omega) h
theorem szStop {P Q : Prop} (h : P) : (decide ((-1 : Int) < 0) = true → P) ∧ (decide ((-1 : Int) < 0) = false → Q) := br_t (by decide) h
theorem L_szHeap {p q r : List Int} {n : Int} {K : Int → Prop} (h0 : 0 ≤ n) (hn : n ≤ 1048576) (hp : p.length ≤ maxLen) (hq : q.length ≤ maxLen) (hr : r.length ≤ maxLen) (h1 : K (-1))
    (h2 : ∀ y, 0 ≤ y → y ≤ n → p.length ≤ 1048576 → q.length ≤ 1048576 → r.length ≤ 1048576 → K y) : Ml_szHeap p q r n K := by
  unfold Ml_szHeap
  refine L_szIntS h0 hn hp (szStop h1) fun y a1 b1 c1 => szStep a1 ?_
  refine L_szIntS a1 (by omega) hq (szStop h1) fun z a2 b2 c2 => szStep a2 ?_
  exact L_szIntS a2 (by omega) hr (szStop h1) fun w a3 b3 c3 => szStep a3 (h2 w a3 (by omega) c1 c2 c3)
theorem L_szGens {p q r s : List Int} {o : List Bool} {n : Int} {K : Int → Prop} (h0 : 0 ≤ n) (hn : n ≤ 1048576) (hp : p.length ≤ maxLen) (hq : q.length ≤ maxLen) (hr : r.length ≤ maxLen) (ho : o.length ≤ maxLen) (hs : s.length ≤ maxLen) (h1 : K (-1))
    (h2 : ∀ y, 0 ≤ y → y ≤ n → p.length ≤ 1048576 → q.length ≤ 1048576 → r.length ≤ 1048576 → o.length ≤ 1048576 → s.length ≤ 1048576 → K y) : Ml_szGens p q r o s n K := by
  unfold Ml_szGens
  refine L_szHeap h0 hn hp hq hr (szStop h1) fun y a1 b1 c1 c2 c3 => szStep a1 ?_
  refine L_szBoolS a1 (by omega) ho (szStop h1) fun z a2 b2 c4 => szStep a2 ?_
  exact L_szIntS a2 (by omega) hs (szStop h1) fun w a3 b3 c5 => szStep a3 (h2 w a3 (by omega) c1 c2 c3 c4 c5)
theorem L_toIntS {p : List Int} {K : List Int → Prop} (hp : p.length ≤ 1048576) (hK : K p) : Ml_toIntS p K :=
  ⟨⟨by simp [len_eq], rfl, by simp [len_eq]; omega⟩, cpLoop (0 : Int) p (by omega) K hK⟩
theorem L_toBoolS {p : List Bool} {K : List Bool → Prop} (hp : p.length ≤ 1048576) (hK : K p) : Ml_toBoolS p K :=
  ⟨⟨by simp [len_eq], rfl, by simp [len_eq]; omega⟩, cpLoop false p (by omega) K hK⟩
theorem L_toHeap {p q r : List Int} {K : List Int → List Int → List Int → Prop} (hp : p.length ≤ 1048576) (hq : q.length ≤ 1048576) (hr : r.length ≤ 1048576) (hK : K p q r) : Ml_toHeap p q r K :=
  L_toIntS hp (L_toIntS hq (L_toIntS hr hK))
theorem L_toGens {p q r s : List Int} {o : List Bool} {K : List Int → List Int → List Int → List Bool → List Int → Prop} (hp : p.length ≤ 1048576) (hq : q.length ≤ 1048576) (hr : r.length ≤ 1048576) (ho : o.length ≤ 1048576) (hs : s.length ≤ 1048576) (hK : K p q r o s) : Ml_toGens p q r o s K :=
  L_toHeap hp hq hr (L_toBoolS ho (L_toIntS hs hK))
theorem L_l1Ints {p q : List Int} {K : Bool → Prop} (hp : p.length < 2 ^ 62) (hK : K (decide (p = q))) : Ms_l1Ints p q K := eqGate hK fun hl => eqLoop3 0 p q hp K hK hl
theorem L_eqIntS {p q : List Int} {K : Bool → Prop} (hp : p.length < 2 ^ 62) (hK : K (decide (p = q))) : Ml_eqIntS p q K := eqGate hK fun hl => eqLoop3 0 p q hp K hK hl
theorem L_eqBoolS {p q : List Bool} {K : Bool → Prop} (hp : p.length < 2 ^ 62) (hK : K (decide (p = q))) : Ml_eqBoolS p q K := eqGate hK fun hl => eqLoop3 false p q hp K hK hl
theorem L_Equal_int {p q : List Int} {K : Bool → Prop} (hp : p.length < 2 ^ 62) (hK : K (decide (p = q))) : M_Equal_int p q K := eqGate hK fun hl => eqLoop4 0 p q hp K hK hl
theorem step_t {b : Bool} {P Q : Prop} (h : b = true) (hq : Q) : ((!b) = true → P) ∧ ((!b) = false → Q) := br_f (by simp [h]) hq
theorem L_eqHeap_same {p q r : List Int} {K : Bool → Prop} (hp : p.length < 2 ^ 62) (hq : q.length < 2 ^ 62) (hr : r.length < 2 ^ 62) (hK : K true) : Ml_eqHeap p q r p q r K :=
  L_eqIntS hp (step_t (by simp) (L_eqIntS hq (step_t (by simp) (L_eqIntS hr (step_t (by simp) hK)))))
theorem L_eqGens_same {p q r s : List Int} {o : List Bool} {K : Bool → Prop} (hp : p.length < 2 ^ 62) (hq : q.length < 2 ^ 62) (hr : r.length < 2 ^ 62) (ho : o.length < 2 ^ 62) (hs : s.length < 2 ^ 62) (hK : K true) : Ml_eqGens p q r o s p q r o s K :=
  L_eqHeap_same hp hq hr (step_t rfl (L_eqBoolS ho (step_t (by simp) (L_eqIntS hs (step_t (by simp) hK)))))
def seqI (k : Int) (n : Nat) : List Int := (List.range n).map fun (i : Nat) => k + i
def seqB (k : Int) (n : Nat) : List Bool := (List.range n).map fun (i : Nat) => (k + i).tmod 3 == 0
theorem seqI_getD {k : Int} {n j : Nat} (h : j < n) : (seqI k n).getD j 0 = k + j := by simp [seqI, List.getD_eq_getElem?_getD, h]
theorem seqB_getD {k : Int} {n j : Nat} (h : j < n) : (seqB k n).getD j false = ((k + j).tmod 3 == 0) := by simp [seqB, List.getD_eq_getElem?_getD, h]
@[simp] theorem seqI_len (k : Int) (n : Nat) : (seqI k n).length = n := by simp [seqI]
@[simp] theorem seqB_len (k : Int) (n : Nat) : (seqB k n).length = n := by simp [seqB]
theorem L_markIntS {k : Int} {p : List Int} {K : Int → List Int → Prop} (h0 : 0 ≤ k) (hk : k < 2 ^ 60) (hp : p.length < 2 ^ 60) (hK : K (k + p.length) (seqI k p.length)) : Ml_markIntS k p K := by
  unfold Ml_markIntS
  refine LoopP_for (fun i s => ∃ t, s = (k + (i : Int), (i : Int), t) ∧ t.length = p.length ∧ ∀ j, j < i → t.getD j 0 = k + j) p.length ⟨p, by simp, rfl, by omega⟩ ?_ ?_
  · rintro i _ hi ⟨t, rfl, ht, hj⟩ Kb hKb
    refine br_t (by simp [len_eq, ht]; exact hi) ⟨by simp [inB_nat, ht]; exact hi, hKb _ ⟨uL t i (k + i), ?_, by simp [uL, ht], fun j hji => ?_⟩⟩
    · simp only [Prod.mk.injEq, and_true]
      refine ⟨?_, iadd_nat (by omega)⟩
      rw [iadd_eq] <;> push_cast <;> omega
    · simp only [uL_nat]
      rw [List.getD_eq_getElem?_getD, List.getElem?_set]
      by_cases e : i = j
      · subst e; simp [ht, hi]
      · rw [if_neg e, ← List.getD_eq_getElem?_getD]; exact hj j (by omega)
  · rintro _ ⟨t, rfl, ht, hj⟩ Kb
    refine br_f (by simp [len_eq, ht]) ?_
    have : t = seqI k p.length := eqL_iff 0 _ _ (by simp [ht]) fun j h => by rw [hj j (by omega), seqI_getD (by omega)]
    subst this
    exact hK
theorem L_markBoolS {k : Int} {p : List Bool} {K : Int → List Bool → Prop} (h0 : 0 ≤ k) (hk : k < 2 ^ 60) (hp : p.length < 2 ^ 60) (hK : K (k + p.length) (seqB k p.length)) : Ml_markBoolS k p K := by
  unfold Ml_markBoolS
  refine LoopP_for (fun i s => ∃ t, s = (k + (i : Int), (i : Int), t) ∧ t.length = p.length ∧ ∀ j, j < i → t.getD j false = ((k + j).tmod 3 == 0)) p.length ⟨p, by simp, rfl, by omega⟩ ?_ ?_
  · rintro i _ hi ⟨t, rfl, ht, hj⟩ Kb hKb
    refine br_t (by simp [len_eq, ht]; exact hi) ⟨by decide, by simp [inB_nat, ht]; exact hi, hKb _ ⟨uL t i ((k + i).tmod 3 == 0), ?_, by simp [uL, ht], fun j hji => ?_⟩⟩
    · simp only [Prod.mk.injEq, and_true]
      refine ⟨?_, iadd_nat (by omega)⟩
      rw [iadd_eq] <;> push_cast <;> omega
    · simp only [uL_nat]
      rw [List.getD_eq_getElem?_getD, List.getElem?_set]
      by_cases e : i = j
      · subst e; simp [ht, hi]
      · rw [if_neg e, ← List.getD_eq_getElem?_getD]; exact hj j (by omega)
  · rintro _ ⟨t, rfl, ht, hj⟩ Kb
    refine br_f (by simp [len_eq, ht]) ?_
    have : t = seqB k p.length := eqL_iff false _ _ (by simp [ht]) fun j h => by rw [hj j (by omega), seqB_getD (by omega)]
    subst this
    exact hK
theorem L_heldIntS {k : Int} {n : Nat} {K : Int → Prop} (h0 : 0 ≤ k) (hk : k < 2 ^ 60) (hn : n < 2 ^ 60) (hK : K (k + n)) : Ml_heldIntS (seqI k n) k K := by
  unfold Ml_heldIntS
  refine LoopP_for (fun i s => s = (seqI k n, k + (i : Int), (i : Int))) n (by simp) ?_ ?_
  · rintro i _ hi rfl Kb hKb
    refine br_t (by simp [len_eq]; exact hi) ⟨by simp [inB_nat]; exact hi, br_f (by simp only [gI_nat, seqI_getD hi, bne_self_eq_false]) (hKb _ ?_)⟩
    simp only [Prod.mk.injEq, true_and]
    refine ⟨?_, iadd_nat (by omega)⟩
    rw [iadd_eq] <;> push_cast <;> omega
  · rintro _ rfl Kb
    exact br_f (by simp [len_eq]) hK
theorem L_heldBoolS {k : Int} {n : Nat} {K : Int → Prop} (h0 : 0 ≤ k) (hk : k < 2 ^ 60) (hn : n < 2 ^ 60) (hK : K (k + n)) : Ml_heldBoolS (seqB k n) k K := by
  unfold Ml_heldBoolS
  refine LoopP_for (fun i s => s = (seqB k n, k + (i : Int), (i : Int))) n (by simp) ?_ ?_
  · rintro i _ hi rfl Kb hKb
    refine br_t (by simp [len_eq]; exact hi) ⟨by simp [inB_nat]; exact hi, by decide, br_f (by simp only [gB_nat, seqB_getD hi, beq_self_eq_true, Bool.not_true]) (hKb _ ?_)⟩
    simp only [Prod.mk.injEq, true_and]
    refine ⟨?_, iadd_nat (by omega)⟩
    rw [iadd_eq] <;> push_cast <;> omega
  · rintro _ rfl Kb
    exact br_f (by simp [len_eq]) hK
theorem L_markHeap {k : Int} {p q r : List Int} {K : Int → List Int → List Int → List Int → Prop} (h0 : 0 ≤ k) (hk : k < 2 ^ 58) (hp : p.length < 2 ^ 58) (hq : q.length < 2 ^ 58) (hr : r.length < 2 ^ 58)
    (hK : K (k + p.length + q.length + r.length) (seqI k p.length) (seqI (k + p.length) q.length) (seqI (k + p.length + q.length) r.length)) : Ml_markHeap k p q r K :=
  L_markIntS h0 (by omega) (by omega) (L_markIntS (by omega) (by omega) (by omega) (L_markIntS (by omega) (by omega) (by omega) hK))
theorem L_heldHeap {k : Int} {a b c : Nat} {K : Int → Prop} (h0 : 0 ≤ k) (hk : k < 2 ^ 58) (ha : a < 2 ^ 58) (hb : b < 2 ^ 58) (hc : c < 2 ^ 58) (hK : K (k + a + b + c)) :
    Ml_heldHeap (seqI k a) (seqI (k + a) b) (seqI (k + a + b) c) k K :=
  L_heldIntS h0 (by omega) (by omega) (szStep (by omega) (L_heldIntS (by omega) (by omega) (by omega) (szStep (by omega) (L_heldIntS (by omega) (by omega) (by omega) (szStep (by omega) hK)))))
theorem L_markGens {k : Int} {p q r s : List Int} {o : List Bool} {K : Int → List Int → List Int → List Int → List Bool → List Int → Prop} (h0 : 0 ≤ k) (hk : k < 2 ^ 56) (hp : p.length < 2 ^ 56) (hq : q.length < 2 ^ 56) (hr : r.length < 2 ^ 56) (ho : o.length < 2 ^ 56) (hs : s.length < 2 ^ 56)
    (hK : K (k + p.length + q.length + r.length + o.length + s.length) (seqI k p.length) (seqI (k + p.length) q.length) (seqI (k + p.length + q.length) r.length) (seqB (k + p.length + q.length + r.length) o.length) (seqI (k + p.length + q.length + r.length + o.length) s.length)) : Ml_markGens k p q r o s K :=
  L_markHeap h0 (by omega) (by omega) (by omega) (by omega) (L_markBoolS (by omega) (by omega) (by omega) (L_markIntS (by omega) (by omega) (by omega) hK))
theorem L_heldGens {k : Int} {a b c d e : Nat} {K : Int → Prop} (h0 : 0 ≤ k) (hk : k < 2 ^ 56) (ha : a < 2 ^ 56) (hb : b < 2 ^ 56) (hc : c < 2 ^ 56) (hd : d < 2 ^ 56) (he : e < 2 ^ 56) (hK : K (k + a + b + c + d + e)) :
    Ml_heldGens (seqI k a) (seqI (k + a) b) (seqI (k + a + b) c) (seqB (k + a + b + c) d) (seqI (k + a + b + c + d) e) k K :=
  L_heldHeap h0 (by omega) (by omega) (by omega) (by omega) (szStep (by omega) (L_heldBoolS (by omega) (by omega) (by omega) (szStep (by omega) (L_heldIntS (by omega) (by omega) (by omega) (szStep (by omega) hK)))))
def okP (n : Nat) (x : Int) : Prop := -1 ≤ x ∧ x < n
instance (n : Nat) (x : Int) : Decidable (okP n x) := inferInstanceAs (Decidable (_ ∧ _))
/-- A valid heap. -/
structure HVp (l r ro : List Int) : Prop where
  lr : l.length = r.length
  l1 : 1 ≤ l.length
  l8 : l.length ≤ 8
  r1 : 1 ≤ ro.length
  r3 : ro.length ≤ 3
  okl : ∀ x ∈ l, okP l.length x
  okr : ∀ x ∈ r, okP l.length x
  oko : ∀ x ∈ ro, okP l.length x
instance (l r ro : List Int) : Decidable (HVp l r ro) :=
  decidable_of_iff (l.length = r.length ∧ 1 ≤ l.length ∧ l.length ≤ 8 ∧ 1 ≤ ro.length ∧ ro.length ≤ 3 ∧ (∀ x ∈ l, okP l.length x) ∧ (∀ x ∈ r, okP l.length x) ∧ (∀ x ∈ ro, okP l.length x))
    ⟨fun ⟨a, b, c, d, e, f, g, h⟩ => ⟨a, b, c, d, e, f, g, h⟩, fun ⟨a, b, c, d, e, f, g, h⟩ => ⟨a, b, c, d, e, f, g, h⟩⟩
theorem all_getD {α : Type} (d : α) {l : List α} {p : α → Prop} (h : ∀ j, j < l.length → p (l.getD j d)) : ∀ x ∈ l, p x := by
  intro x hx
  obtain ⟨i, hi, rfl⟩ := List.getElem_of_mem hx
  have := h i hi
  rwa [getD_lt hi] at this
theorem getD_mem {α : Type} (d : α) {l : List α} {i : Nat} (h : i < l.length) : l.getD i d ∈ l := by rw [getD_lt h]; exact List.getElem_mem h
theorem L_l1Points {a : Int} {n : Nat} {K : Bool → Prop} (hK : K (decide (okP n a))) : Ms_l1Points a n K := by
  refine br (fun h => ?_) fun h => ?_
  · simp at h; simpa [okP, h] using hK
  · simp at h; rw [decide_eq_false (fun hh => by have := hh.1; omega)] at hK; exact hK
theorem L_sHeapValid {l r ro : List Int} {K : Bool → Prop} (hK : K (decide (HVp l r ro))) : Ms_HeapValid l r ro K := by
  have no : ¬ HVp l r ro → K false := fun h => by rwa [decide_eq_false h] at hK
  have yes : HVp l r ro → K true := fun h => by rwa [decide_eq_true h] at hK
  refine br (fun h => no fun hh => ?_) fun h1 => br (fun h => no fun hh => ?_) fun h2 => br (fun h => no fun hh => ?_) fun h3 => br (fun h => no fun hh => ?_) fun h4 => br (fun h => no fun hh => ?_) fun h5 => ?_
  · have := hh.l1; replace h := of_decide_eq_true h; simp only [len_eq] at h; omega
  · have := hh.l8; simp [len_eq] at h; omega
  · have := hh.lr; simp [len_eq] at h; omega
  · have := hh.r1; replace h := of_decide_eq_true h; simp only [len_eq] at h; omega
  · have := hh.r3; simp [len_eq] at h; omega
  replace h1 : 1 ≤ l.length := by have := of_decide_eq_false h1; simp only [len_eq] at this; omega
  replace h2 : l.length ≤ 8 := by have := of_decide_eq_false h2; simp only [len_eq] at this; omega
  replace h3 : r.length = l.length := by simp [len_eq] at h3; omega
  replace h4 : 1 ≤ ro.length := by have := of_decide_eq_false h4; simp only [len_eq] at this; omega
  replace h5 : ro.length ≤ 3 := by have := of_decide_eq_false h5; simp only [len_eq] at this; omega
  refine LoopP_for (fun i s => s = (len l, (i : Int), l, r, ro) ∧ ∀ j, j < i → okP l.length (l.getD j 0) ∧ okP l.length (r.getD j 0)) l.length ⟨rfl, by omega⟩ ?_ ?_
  · rintro i _ hi ⟨rfl, hj⟩ Kb hKb
    refine br_t (by simp [len_eq]; exact hi) ⟨by simp [inB_nat]; exact hi, ?_⟩
    refine L_l1Points (br (fun h => no fun hh => ?_) fun h => ⟨by simp [inB_nat]; omega, L_l1Points (br (fun h' => no fun hh => ?_) fun h' => hKb _ ⟨by rw [iadd_nat (by omega)], fun j hji => ?_⟩)⟩)
    · simp [-List.getD_eq_getElem?_getD, gI_nat] at h; exact h (hh.okl _ (getD_mem 0 hi))
    · simp [-List.getD_eq_getElem?_getD, gI_nat] at h'; exact h' (hh.okr _ (getD_mem 0 (by omega)))
    · simp [-List.getD_eq_getElem?_getD, gI_nat] at h h'
      rcases Nat.lt_succ_iff_lt_or_eq.1 hji with e | e
      · exact hj j e
      · subst e; exact ⟨h, h'⟩
  · rintro _ ⟨rfl, hj⟩ Kb
    refine br_f (by simp [len_eq]) ?_
    refine LoopP_for (fun i s => s = (len l, (i : Int), l, r, ro) ∧ ∀ j, j < i → okP l.length (ro.getD j 0)) ro.length ⟨rfl, by omega⟩ ?_ ?_
    · rintro i _ hi ⟨rfl, hk⟩ Kb hKb
      refine br_t (by simp [len_eq]; exact hi) ⟨by simp [inB_nat]; exact hi, ?_⟩
      refine L_l1Points (br (fun h => no fun hh => ?_) fun h => hKb _ ⟨by rw [iadd_nat (by omega)], fun j hji => ?_⟩)
      · simp [-List.getD_eq_getElem?_getD, gI_nat] at h; exact h (hh.oko _ (getD_mem 0 hi))
      · simp [-List.getD_eq_getElem?_getD, gI_nat] at h
        rcases Nat.lt_succ_iff_lt_or_eq.1 hji with e | e
        · exact hk j e
        · subst e; exact h
    · rintro _ ⟨rfl, hk⟩ Kb
      refine br_f (by simp [len_eq]) (yes ⟨h3.symm, h1, h2, h4, h5, all_getD 0 fun j h => (hj j h).1, all_getD 0 fun j h => (hj j (by omega)).2, all_getD 0 hk⟩)
theorem L_iHeapValid {l r ro : List Int} {K : Bool → Prop} (hK : K (decide (HVp l r ro))) : Mi_HeapValid l r ro K := by
  have no : ¬ HVp l r ro → K false := fun h => by rwa [decide_eq_false h] at hK
  have yes : HVp l r ro → K true := fun h => by rwa [decide_eq_true h] at hK
  refine br (fun h => no fun hh => ?_) fun h3 => br (fun h => no fun hh => ?_) fun h1 => br (fun h => no fun hh => ?_) fun h2 => br (fun h => no fun hh => ?_) fun h4 => br (fun h => no fun hh => ?_) fun h5 => ?_
  · have := hh.lr; simp [len_eq] at h; omega
  · have := hh.l1; replace h := of_decide_eq_true h; simp only [len_eq] at h; omega
  · have := hh.l8; simp [len_eq] at h; omega
  · have := hh.r1; replace h := of_decide_eq_true h; simp only [len_eq] at h; omega
  · have := hh.r3; simp [len_eq] at h; omega
  replace h1 : 1 ≤ l.length := by have := of_decide_eq_false h1; simp only [len_eq] at this; omega
  replace h2 : l.length ≤ 8 := by have := of_decide_eq_false h2; simp only [len_eq] at this; omega
  replace h3 : r.length = l.length := by simp [len_eq] at h3; omega
  replace h4 : 1 ≤ ro.length := by have := of_decide_eq_false h4; simp only [len_eq] at this; omega
  replace h5 : ro.length ≤ 3 := by have := of_decide_eq_false h5; simp only [len_eq] at this; omega
  have hlen : ∀ i, i < 3 → (([l, r, ro] : List (List Int)).getD i []).length ≤ 8 := by
    intro i hi
    match i, hi with
    | 0, _ => exact h2
    | 1, _ => show r.length ≤ 8; omega
    | 2, _ => show ro.length ≤ 8; omega
  have hmem : HVp l r ro → ∀ i, i < 3 → ∀ x ∈ ([l, r, ro] : List (List Int)).getD i [], okP l.length x := by
    intro hh i hi
    match i, hi with
    | 0, _ => exact hh.okl
    | 1, _ => exact hh.okr
    | 2, _ => exact hh.oko
  refine LoopP_for (fun i s => s = (3, (i : Int), l, r, ro, [l, r, ro]) ∧ ∀ j, j < i → ∀ x ∈ ([l, r, ro] : List (List Int)).getD j [], okP l.length x) 3 ⟨rfl, by omega⟩ ?_ ?_
  · rintro i _ hi ⟨rfl, hj⟩ Kb hKb
    have hg : gL [l, r, ro] (i : Int) = ([l, r, ro] : List (List Int)).getD i [] := by simp [gL, EK.dflt]
    refine br_t (by simp; omega) ⟨by simp [inB_nat]; exact hi, ?_⟩
    simp only [hg]
    have hl := hlen i hi
    have hm := fun hh => hmem hh i hi
    generalize hq : ([l, r, ro] : List (List Int)).getD i [] = q at hl hm
    refine LoopP_for (fun k s => s = (3, (i : Int), q, len q, (k : Int), l, r, ro, [l, r, ro]) ∧ ∀ j, j < k → okP l.length (q.getD j 0)) q.length ⟨rfl, by omega⟩ ?_ ?_
    · rintro k _ hk ⟨rfl, hkj⟩ Kb' hKb'
      refine br_t (by simp [len_eq]; exact hk) ⟨by simp [inB_nat]; exact hk, br (fun h => no fun hh => ?_) fun h => br (fun h' => no fun hh => ?_) fun h' => hKb' _ ⟨by rw [iadd_nat (by omega)], fun j hji => ?_⟩⟩
      · have := of_decide_eq_true h; simp only [gI_nat] at this; have := (hm hh _ (getD_mem 0 hk)).1; omega
      · have := of_decide_eq_true h'; simp only [gI_nat, len_eq] at this; have := (hm hh _ (getD_mem 0 hk)).2; omega
      · have a := of_decide_eq_false h
        have b := of_decide_eq_false h'
        simp only [gI_nat, len_eq] at a b
        rcases Nat.lt_succ_iff_lt_or_eq.1 hji with e | e
        · exact hkj j e
        · subst e; exact ⟨by omega, by omega⟩
    · rintro _ ⟨rfl, hkj⟩ Kb'
      refine br_f (by simp [len_eq]) (hKb _ ⟨by rw [iadd_nat (by omega)], fun j hji => ?_⟩)
      rcases Nat.lt_succ_iff_lt_or_eq.1 hji with e | e
      · exact hj j e
      · subst e; rw [hq]; exact all_getD 0 hkj
  · rintro _ ⟨rfl, hj⟩ Kb
    refine br_f (by simp) (yes ⟨h3.symm, h1, h2, h4, h5, hj 0 (by omega), hj 1 (by omega), hj 2 (by omega)⟩)
theorem HVp.gl {l r ro : List Int} (h : HVp l r ro) {i : Nat} (hi : i < l.length) : okP l.length (l.getD i 0) := h.okl _ (getD_mem 0 hi)
theorem HVp.gr {l r ro : List Int} (h : HVp l r ro) {i : Nat} (hi : i < l.length) : okP l.length (r.getD i 0) := h.okr _ (getD_mem 0 (by rw [← h.lr]; exact hi))
/-- Does a pointer lead to a young cell? -/
def yg (old : List Bool) (x : Int) : Bool := x != -1 && !(old.getD x.toNat false)
theorem L_l11Young {old : List Bool} {x : Int} {K : Bool → Prop} (hx : okP old.length x) (hK : K (yg old x)) : Ms_l11Young old x K := by
  refine br (fun h => ⟨⟨?_, hx.2⟩, ?_⟩) fun h => ?_
  · have := hx.1; simp at h; omega
  · simpa [yg, h, gB, EK.dflt] using hK
  · simpa [yg, h] using hK
theorem L_remembered_1 {old : List Bool} {x : Int} {K : Bool → Prop} (hx : okP old.length x) (hK : K (yg old x)) : Mi_remembered_1 x old K := by
  refine br (fun h => ⟨⟨?_, hx.2⟩, ?_⟩) fun h => ?_
  · have := hx.1; simp at h; omega
  · simpa [yg, h, gB, EK.dflt] using hK
  · simpa [yg, h] using hK
/-- Is an old cell remembered? -/
def isRem (l r : List Int) (old : List Bool) (i : Nat) : Bool := old.getD i false && (yg old (l.getD i 0) || yg old (r.getD i 0))
def remU (l r : List Int) (old : List Bool) (n : Nat) : List Int := ((List.range n).filter (isRem l r old)).map fun (i : Nat) => (i : Int)
def rem (l r : List Int) (old : List Bool) : List Int := remU l r old old.length
theorem remU_succ (l r : List Int) (old : List Bool) (n : Nat) : remU l r old (n + 1) = if isRem l r old n then remU l r old n ++ [(n : Int)] else remU l r old n := by
  unfold remU
  rw [List.range_succ, List.filter_append]
  cases h : isRem l r old n <;> simp [h]
theorem remU_len (l r : List Int) (old : List Bool) (n : Nat) : (remU l r old n).length ≤ n := by
  unfold remU
  rw [List.length_map]
  exact Nat.le_trans (List.length_filter_le _ _) (by simp)
theorem L_l11Remember {l r ro : List Int} {old : List Bool} {K : List Int → Prop} (hv : HVp l r ro) (ho : old.length = l.length) (hK : K (rem l r old)) : Ms_l11Remember l r ro old K := by
  have h8 := hv.l8
  refine LoopP_for (fun i s => s = (old, (i : Int), l, r, ro, remU l r old i)) old.length rfl ?_ ?_
  · rintro i _ hi rfl Kb hKb
    have hlen := remU_len l r old i
    have hs := remU_succ l r old i
    have e : iadd (i : Int) 1 = ((i + 1 : Nat) : Int) := iadd_nat (by omega)
    refine br_t (by simp [len_eq]; exact hi) ⟨by simp [inB_nat]; exact hi, br (fun h => ?_) fun h => ?_⟩
    · simp only [gB_nat] at h
      refine ⟨by simp [inB_nat]; omega, L_l11Young (by simp only [gI_nat]; rw [ho]; exact hv.gl (by omega)) (br (fun h1 => ⟨by simp; omega, hKb _ ?_⟩) fun h1 => ⟨by have := hv.lr; simp [inB_nat]; omega, L_l11Young (by simp only [gI_nat]; rw [ho]; exact hv.gr (by omega)) (br (fun h2 => ⟨by simp; omega, hKb _ ?_⟩) fun h2 => hKb _ ?_)⟩)⟩
      · simp only [gI_nat] at h1; rw [e, hs, if_pos (by simp only [isRem, h, h1, Bool.true_or, Bool.and_true])]
      · simp only [gI_nat] at h1 h2; rw [e, hs, if_pos (by simp only [isRem, h, h1, h2, Bool.or_true, Bool.and_true])]
      · simp only [gI_nat] at h1 h2; rw [e, hs, if_neg (by simp only [isRem, h1, h2, Bool.or_false, Bool.and_false]; simp)]
    · simp only [gB_nat] at h
      refine hKb _ ?_
      rw [e, hs, if_neg (by simp only [isRem, h, Bool.false_and]; simp)]
  · rintro _ rfl Kb
    exact br_f (by simp [len_eq]) hK
theorem L_remembered {l r ro : List Int} {old : List Bool} {K : List Int → Prop} (hv : HVp l r ro) (ho : old.length = l.length) (hK : K (rem l r old)) : Mi_remembered l r ro old K := by
  have h8 := hv.l8
  refine LoopP_for (fun i s => s = (old, len old, (i : Int), l, r, ro, old, remU l r old i)) old.length rfl ?_ ?_
  · rintro i _ hi rfl Kb hKb
    have hlen := remU_len l r old i
    have hs := remU_succ l r old i
    have e : iadd (i : Int) 1 = ((i + 1 : Nat) : Int) := iadd_nat (by omega)
    refine br_t (by simp [len_eq]; exact hi) ⟨by simp [inB_nat]; exact hi, br (fun h => ?_) fun h => ?_⟩
    · simp only [gB_nat] at h
      refine ⟨by simp [inB_nat]; omega, L_remembered_1 (by simp only [gI_nat]; rw [ho]; exact hv.gl (by omega)) (br (fun h1 => ⟨by simp; omega, hKb _ ?_⟩) fun h1 => ⟨by have := hv.lr; simp [inB_nat]; omega, L_remembered_1 (by simp only [gI_nat]; rw [ho]; exact hv.gr (by omega)) (br (fun h2 => ⟨by simp; omega, hKb _ ?_⟩) fun h2 => hKb _ ?_)⟩)⟩
      · simp only [gI_nat] at h1; rw [e, hs, if_pos (by simp only [isRem, h, h1, Bool.true_or, Bool.and_true])]
      · simp only [gI_nat] at h1 h2; rw [e, hs, if_pos (by simp only [isRem, h, h1, h2, Bool.or_true, Bool.and_true])]
      · simp only [gI_nat] at h1 h2; rw [e, hs, if_neg (by simp only [isRem, h1, h2, Bool.or_false, Bool.and_false]; simp)]
    · simp only [gB_nat] at h
      refine hKb _ ?_
      rw [e, hs, if_neg (by simp only [isRem, h, Bool.false_and]; simp)]
  · rintro _ rfl Kb
    exact br_f (by simp [len_eq]) hK
/-- Valid generations. -/
structure GVp (l r ro : List Int) (old : List Bool) (re : List Int) : Prop where
  h : HVp l r ro
  o : old.length = l.length
  m : re = rem l r old
instance (l r ro : List Int) (old : List Bool) (re : List Int) : Decidable (GVp l r ro old re) := decidable_of_iff (HVp l r ro ∧ old.length = l.length ∧ re = rem l r old) ⟨fun ⟨a, b, c⟩ => ⟨a, b, c⟩, fun ⟨a, b, c⟩ => ⟨a, b, c⟩⟩
theorem L_sGensValid {l r ro re : List Int} {old : List Bool} {K : Bool → Prop} (hr : re.length < 2 ^ 62) (hK : K (decide (GVp l r ro old re))) : Ms_GensValid l r ro old re K := by
  have no : ¬ GVp l r ro old re → K false := fun h => by rwa [decide_eq_false h] at hK
  refine L_sHeapValid (br (fun h1 => br (fun h2 => ?_) fun h2 => no fun hh => ?_) fun h1 => no fun hh => ?_)
  · have h1 := of_decide_eq_true h1
    have h2 : old.length = l.length := by simp [len_eq] at h2; omega
    refine L_l11Remember h1 h2 (L_l1Ints hr ?_)
    have : decide (re = rem l r old) = decide (GVp l r ro old re) := decide_eq_decide.2 ⟨fun h => ⟨h1, h2, h⟩, fun h => h.m⟩
    rw [this]; exact hK
  · have := hh.o; simp [len_eq] at h2; omega
  · exact of_decide_eq_false h1 hh.h
theorem L_iGensValid {l r ro re : List Int} {old : List Bool} {K : Bool → Prop} (hr : re.length < 2 ^ 62) (hK : K (decide (GVp l r ro old re))) : Mi_GensValid l r ro old re K := by
  have no : ¬ GVp l r ro old re → K false := fun h => by rwa [decide_eq_false h] at hK
  refine L_iHeapValid (br (fun h1 => br (fun h2 => ?_) fun h2 => no fun hh => ?_) fun h1 => no fun hh => ?_)
  · have h1 := of_decide_eq_true h1
    have h2 : old.length = l.length := by simp [len_eq] at h2; omega
    refine L_remembered h1 h2 (L_Equal_int hr ?_)
    have : decide (re = rem l r old) = decide (GVp l r ro old re) := decide_eq_decide.2 ⟨fun h => ⟨h1, h2, h⟩, fun h => h.m⟩
    rw [this]; exact hK
  · have := hh.o; simp [len_eq] at h2; omega
  · exact of_decide_eq_false h1 hh.h
/-- Where is this number in the list? -/
def atL (l : List Int) (x : Int) : Int := if x ∈ l then ((l.idxOf x : Nat) : Int) else -1
theorem idxOf_first : ∀ {l : List Int} {x : Int} {i : Nat}, i < l.length → l.getD i 0 = x → (∀ j, j < i → l.getD j 0 ≠ x) → l.idxOf x = i
  | [], x, i, h, _, _ => by simp at h
  | a :: l, x, 0, _, h, _ => by
    simp at h
    subst h
    simp
  | a :: l, x, i + 1, h, h1, h2 => by
    have ha : a ≠ x := by simpa using h2 0 (by omega)
    rw [List.idxOf_cons]
    have : (a == x) = false := by simpa using ha
    rw [this]
    simp only [cond_false]
    rw [idxOf_first (by simpa using h) (by simpa using h1) fun j hj => by simpa using h2 (j + 1) (by omega)]
theorem atL_some {l : List Int} {x : Int} {i : Nat} (h : i < l.length) (h1 : l.getD i 0 = x) (h2 : ∀ j, j < i → l.getD j 0 ≠ x) : atL l x = i := by
  unfold atL
  rw [if_pos (by rw [← h1]; exact getD_mem 0 h), idxOf_first h h1 h2]
theorem atL_none {l : List Int} {x : Int} (h : ∀ j, j < l.length → l.getD j 0 ≠ x) : atL l x = -1 := by
  unfold atL
  rw [if_neg]
  intro hm
  obtain ⟨i, hi, rfl⟩ := List.getElem_of_mem hm
  exact h i hi (getD_lt hi)
theorem atL_neg {l : List Int} {x : Int} : (atL l x < 0) ↔ x ∉ l := by
  unfold atL
  split
  · rename_i h; simp only [h, not_true, iff_false]; omega
  · rename_i h; simp [h]
theorem L_Index_int {l : List Int} {x : Int} {K : Int → Prop} (hl : l.length < 2 ^ 62) (hK : K (atL l x)) : M_Index_int l x K := by
  refine LoopP_for (fun i s => s = (l, x, len l, (i : Int)) ∧ ∀ j, j < i → l.getD j 0 ≠ x) l.length ⟨rfl, by omega⟩ ?_ ?_
  · rintro i _ hi ⟨rfl, hj⟩ Kb hKb
    refine br_t (by simp [len_eq]; exact hi) ⟨by simp [inB_nat]; exact hi, br (fun h => ?_) fun h => hKb _ ⟨by rw [iadd_nat (by omega)], fun j hji => ?_⟩⟩
    · simp only [gI_nat, beq_iff_eq] at h
      rwa [atL_some hi h.symm hj] at hK
    · simp only [gI_nat, beq_eq_false_iff_ne] at h
      rcases Nat.lt_succ_iff_lt_or_eq.1 hji with e | e
      · exact hj j e
      · subst e; exact fun e => h e.symm
  · rintro _ ⟨rfl, hj⟩ Kb
    refine br_f (by simp [len_eq]) ?_
    rwa [atL_none hj] at hK
theorem L_Contains_int {l : List Int} {x : Int} {K : Bool → Prop} (hl : l.length < 2 ^ 62) (hK : K (decide (x ∈ l))) : M_Contains_int l x K := by
  refine L_Index_int hl ?_
  have : decide (atL l x ≥ 0) = decide (x ∈ l) := by
    have := @atL_neg l x
    by_cases h : x ∈ l
    · simp only [h, not_true, iff_false] at this; simp [h]; omega
    · simp only [h, not_false_eq_true, iff_true] at this; simp [h]; omega
  rw [this]; exact hK
/-- A cell is met. -/
def meet (x : Int) (s : List Int) : List Int := if x ≠ -1 ∧ x ∉ s then s ++ [x] else s
def metL (ps s : List Int) : List Int := ps.foldl (fun s p => meet p s) s
/-- A step of copying. -/
def stepO (l r s : List Int) (i : Nat) : List Int := meet (r.getD (s.getD i 0).toNat 0) (meet (l.getD (s.getD i 0).toNat 0) s)
def bfs (l r : List Int) : Nat → Nat → List Int → List Int
  | 0, i, s => s
  | f + 1, i, s => if i < s.length then bfs l r f (i + 1) (stepO l r s i) else s
def ordF (l r ro : List Int) : List Int := bfs l r (l.length + 1) 0 (metL ro [])
theorem gI_at {l : List Int} {x : Int} : gI l x = l.getD x.toNat 0 := rfl
theorem L_Clone_int {l : List Int} {K : List Int → Prop} (hl : l.length ≤ 2 ^ 36) (hK : K l) : M_Clone_int l K := by
  intro b hb
  refine br (fun h => ?_) fun _ => ⟨hl, hK⟩
  have : l.length = 0 := Classical.byContradiction fun hh => by rw [hb hh] at h; cases h
  rwa [List.length_eq_zero_iff.1 this] at hK
theorem L_Clone_bool {l : List Bool} {K : List Bool → Prop} (hl : l.length ≤ 2 ^ 36) (hK : K l) : M_Clone_bool l K := by
  intro b hb
  refine br (fun h => ?_) fun _ => ⟨hl, hK⟩
  have : l.length = 0 := Classical.byContradiction fun hh => by rw [hb hh] at h; cases h
  rwa [List.length_eq_zero_iff.1 this] at hK
theorem L_copied {l r ro : List Int} {K : List Int → List Int → List Int → Prop} (hv : HVp l r ro) (hK : K l r ro) : Mi_copied l r ro K := by
  have := hv.l8; have := hv.lr; have := hv.r3
  exact L_Clone_int (by omega) (L_Clone_int (by omega) (L_Clone_int (by omega) hK))
theorem L_l1Copy {l r ro : List Int} {K : Prop} (hv : HVp l r ro) (hK : K) : Ms_l1Copy l r ro K := by
  have := hv.l8; have := hv.lr; have := hv.r3
  exact ⟨by omega, by omega, by omega, hK⟩
theorem rem_len (l r : List Int) (old : List Bool) : (rem l r old).length ≤ old.length := remU_len l r old _
theorem GVp.old8 {l r ro re : List Int} {old : List Bool} (h : GVp l r ro old re) : old.length ≤ 8 := by rw [h.o]; exact h.h.l8
theorem GVp.re8 {l r ro re : List Int} {old : List Bool} (h : GVp l r ro old re) : re.length ≤ 8 := by rw [h.m]; have := rem_len l r old; have := h.old8; omega
theorem rem_get {l r : List Int} {old : List Bool} {i : Nat} (hi : i < (rem l r old).length) : ∃ c : Nat, (rem l r old).getD i 0 = c ∧ c < old.length ∧ isRem l r old c = true := by
  have hm := getD_mem 0 hi
  unfold rem remU at hm ⊢
  obtain ⟨c, hc, he⟩ := List.mem_map.1 hm
  have := List.mem_filter.1 hc
  exact ⟨c, he.symm, by simpa using this.1, this.2⟩
theorem mem_rem {l r : List Int} {old : List Bool} {c : Nat} (hc : c < old.length) (h : isRem l r old c = true) : (c : Int) ∈ rem l r old := by
  unfold rem remU
  exact List.mem_map.2 ⟨c, List.mem_filter.2 ⟨by simpa using hc, h⟩, rfl⟩
def yk (l r : List Int) (old : List Bool) : Nat → Nat → List Bool → List Int → List Bool
  | 0, i, kept, op => kept
  | f + 1, i, kept, op =>
    if i < op.length then
      (if yg old (op.getD i 0) = true ∧ kept.getD (op.getD i 0).toNat false = false then yk l r old f (i + 1) (kept.set (op.getD i 0).toNat true) (op ++ [l.getD (op.getD i 0).toNat 0, r.getD (op.getD i 0).toNat 0]) else yk l r old f (i + 1) kept op)
    else kept
def openL (l r ro re : List Int) : List Int := ro ++ re.flatMap fun c => [l.getD c.toNat 0, r.getD c.toNat 0]
def keptF (l r ro : List Int) (old : List Bool) (re : List Int) : List Bool := yk l r old ((openL l r ro re).length + 2 * old.length + 1) 0 (List.replicate old.length false) (openL l r ro re)
def idxs (kept : List Bool) (n : Nat) : List Int := ((List.range n).filter fun i => kept.getD i false).map fun (i : Nat) => (i : Int)
theorem idxs_succ (kept : List Bool) (n : Nat) : idxs kept (n + 1) = if kept.getD n false then idxs kept n ++ [(n : Int)] else idxs kept n := by
  unfold idxs
  rw [List.range_succ, List.filter_append]
  cases h : kept.getD n false <;> simp [-List.getD_eq_getElem?_getD, h]
theorem idxs_len (kept : List Bool) (n : Nat) : (idxs kept n).length ≤ n := by
  unfold idxs
  rw [List.length_map]
  exact Nat.le_trans (List.length_filter_le _ _) (by simp)
theorem count_set : ∀ {l : List Bool} {i : Nat}, i < l.length → l.getD i false = false → (l.set i true).count true = l.count true + 1
  | [], i, h, _ => by simp at h
  | a :: l, 0, _, h => by
    simp at h; subst h; simp
  | a :: l, i + 1, h, h1 => by
    have := count_set (l := l) (i := i) (by simpa using h) (by simpa using h1)
    rw [List.set_cons_succ, List.count_cons, List.count_cons, this]
    omega
theorem yk_len {l r : List Int} {old : List Bool} : ∀ (f i : Nat) (kept : List Bool) (op : List Int), (yk l r old f i kept op).length = kept.length
  | 0, i, kept, op => rfl
  | f + 1, i, kept, op => by
    simp only [yk]
    split
    · split
      · rw [yk_len]; simp
      · rw [yk_len]
    · rfl
theorem keptF_len (l r ro : List Int) (old : List Bool) (re : List Int) : (keptF l r ro old re).length = old.length := by simp [keptF, yk_len]
theorem openL_len (l r ro re : List Int) : (openL l r ro re).length = ro.length + 2 * re.length := by
  unfold openL
  rw [List.length_append]
  congr 1
  induction re with
  | nil => rfl
  | cons a re ih => simp only [List.flatMap_cons, List.length_append, List.length_cons, List.length_nil, ih]; omega
theorem openL_succ {l r ro re : List Int} {i : Nat} (h : i < re.length) : openL l r ro (re.take (i + 1)) = openL l r ro (re.take i) ++ [l.getD (re.getD i 0).toNat 0, r.getD (re.getD i 0).toNat 0] := by
  unfold openL
  rw [List.take_add_one, List.getElem?_eq_getElem h, getD_lt h, List.flatMap_append, List.append_assoc]
  simp
theorem yg_ok {old : List Bool} {x : Int} (hx : okP old.length x) (h : yg old x = true) : 0 ≤ x ∧ x < old.length := by
  simp only [yg, Bool.and_eq_true, bne_iff_ne] at h
  have := hx.1; have := hx.2
  exact ⟨by omega, by omega⟩
theorem openL_ok {l r ro re : List Int} {old : List Bool} (h : GVp l r ro old re) {i : Nat} (hi : i ≤ re.length) : ∀ x ∈ openL l r ro (re.take i), okP l.length x := by
  intro x hx
  unfold openL at hx
  rcases List.mem_append.1 hx with hx | hx
  · exact h.h.oko x hx
  · obtain ⟨c, hc, hx⟩ := List.mem_flatMap.1 hx
    have hc := List.mem_of_mem_take hc
    obtain ⟨j, hj, rfl⟩ := List.getElem_of_mem hc
    have hm := h.m
    subst hm
    obtain ⟨c, h1, h2, h3⟩ := rem_get hj
    rw [getD_lt hj] at h1
    rw [h1] at hx
    have h2 : c < l.length := by rw [← h.o]; exact h2
    simp only [Int.toNat_natCast, List.mem_cons, List.not_mem_nil, or_false] at hx
    rcases hx with rfl | rfl
    · exact h.h.gl h2
    · exact h.h.gr h2
theorem GVp.rget {l r ro re : List Int} {old : List Bool} (h : GVp l r ro old re) {i : Nat} (hi : i < re.length) : 0 ≤ re.getD i 0 ∧ re.getD i 0 < l.length := by
  have hm := h.m
  subst hm
  obtain ⟨c, h1, h2, h3⟩ := rem_get hi
  rw [h1]
  have := h.o
  omega
theorem ykStep {l r ro re : List Int} {old : List Bool} (h : GVp l r ro old re) {i f L0 : Nat} {kept : List Bool} {op : List Int} {F : List Bool} (hk : kept.length = l.length) (hop : ∀ x ∈ op, okP l.length x) (hi : i < op.length) (hc : op.length ≤ L0 + 2 * kept.count true)
    (hF : yk l r old (f + 1) i kept op = F) :
    (yg old (op.getD i 0) = true → kept.getD (op.getD i 0).toNat false = false → 0 ≤ op.getD i 0 ∧ op.getD i 0 < l.length ∧ (kept.set (op.getD i 0).toNat true).length = l.length ∧ (∀ x ∈ op ++ [l.getD (op.getD i 0).toNat 0, r.getD (op.getD i 0).toNat 0], okP l.length x) ∧
      (op ++ [l.getD (op.getD i 0).toNat 0, r.getD (op.getD i 0).toNat 0]).length ≤ L0 + 2 * (kept.set (op.getD i 0).toNat true).count true ∧ yk l r old f (i + 1) (kept.set (op.getD i 0).toNat true) (op ++ [l.getD (op.getD i 0).toNat 0, r.getD (op.getD i 0).toNat 0]) = F) ∧
    (¬ (yg old (op.getD i 0) = true ∧ kept.getD (op.getD i 0).toNat false = false) → yk l r old f (i + 1) kept op = F) := by
  have hx := hop _ (getD_mem 0 hi)
  constructor
  · intro h1 h2
    have hy := yg_ok (by rw [h.o]; exact hx) h1
    rw [h.o] at hy
    refine ⟨hy.1, hy.2, by simpa using hk, fun x hx => ?_, ?_, ?_⟩
    · rcases List.mem_append.1 hx with hx | hx
      · exact hop x hx
      · simp only [List.mem_cons, List.not_mem_nil, or_false] at hx
        rcases hx with rfl | rfl
        · exact h.h.gl (by omega)
        · exact h.h.gr (by omega)
    · rw [count_set (by omega) h2, List.length_append]
      simp only [List.length_cons, List.length_nil]
      omega
    · simpa only [yk, if_pos hi, if_pos (And.intro h1 h2)] using hF
  · intro hn
    simpa only [yk, if_pos hi, if_neg hn] using hF
theorem L_iYoungKept {l r ro re : List Int} {old : List Bool} {K : List Int → Prop} (hr : re.length < 2 ^ 62) (hy : GVp l r ro old re → K (idxs (keptF l r ro old re) old.length)) (hn : ¬ GVp l r ro old re → K []) : Mi_YoungKept l r ro old re K := by
  refine L_iGensValid hr (br (fun h => hn ?_) fun h => ?_)
  · simpa using h
  have h : GVp l r ro old re := by simpa using h
  have hK := hy h
  have h8 := h.h.l8; have h1 := h.h.l1; have h3 := h.h.r3; have hre := h.re8; have ho := h.o; have hlr := h.h.lr
  refine ⟨⟨by simp [len_eq], rfl, by simp only [len_eq]; omega⟩, L_Clone_int (by omega) ?_⟩
  refine LoopP_for (fun i s => s = (re, len re, (i : Int), l, r, ro, old, re, List.replicate (Int.toNat (len old)) false, openL l r ro (re.take i))) re.length (by simp [openL]) ?_ ?_
  · rintro i _ hi rfl Kb hKb
    have hg := h.rget hi
    have ht : (re.take i).length ≤ 8 := by rw [List.length_take]; omega
    have hol := openL_len l r ro (re.take i)
    refine br_t (by simp [len_eq]; exact hi) ⟨by rw [inB_nat]; exact hi, ⟨by simp only [gI_nat]; omega, by simp only [gI_nat]; omega⟩, ⟨by simp only [gI_nat]; omega, by simp only [gI_nat]; omega⟩, ?_, hKb _ ?_⟩
    · dsimp only [List.length_cons, List.length_nil]; omega
    · rw [iadd_nat (by omega), openL_succ hi]; simp only [gI_at, Int.toNat_natCast]
  rintro _ rfl Kb
  refine br_f (by simp [len_eq]) ?_
  simp only [List.take_length, len_eq, Int.toNat_natCast]
  have hol := openL_len l r ro re
  refine LoopP_inv (fun s => ∃ (i : Nat) (kept : List Bool) (op : List Int), s = ((i : Int), l, r, ro, old, re, kept, op) ∧ kept.length = l.length ∧ (∀ x ∈ op, okP l.length x) ∧ i ≤ op.length ∧ op.length ≤ (openL l r ro re).length + 2 * kept.count true ∧
    yk l r old ((openL l r ro re).length + 2 * old.length + 1 - i) i kept op = keptF l r ro old re) (fun s => (openL l r ro re).length + 2 * old.length + 1 - s.1.toNat) ?_ ⟨0, _, _, rfl, by simpa using ho, by have := openL_ok h (Nat.le_refl re.length); rwa [List.take_length] at this, by omega, by omega, rfl⟩
  rintro _ ⟨i, kept, op, rfl, hk, hop, hi, hc, hF⟩ Kb hKb
  have hcl : kept.count true ≤ l.length := by rw [← hk]; exact List.count_le_length
  have e1 : iadd (i : Int) 1 = ((i + 1 : Nat) : Int) := iadd_nat (by omega)
  have hm : i < op.length → (openL l r ro re).length + 2 * old.length + 1 - (i + 1) < (openL l r ro re).length + 2 * old.length + 1 - i := by omega
  refine br (fun h' => ?_) fun h' => ?_
  · have hio : i < op.length := by have := of_decide_eq_true h'; simp only [len_eq] at this; omega
    obtain ⟨f, hf⟩ : ∃ f, (openL l r ro re).length + 2 * old.length + 1 - i = f + 1 := ⟨(openL l r ro re).length + 2 * old.length - i, by omega⟩
    have hf' : (openL l r ro re).length + 2 * old.length + 1 - (i + 1) = f := by omega
    rw [hf] at hF
    have hs := ykStep h hk hop hio hc hF
    have hx := hop _ (getD_mem 0 hio)
    have hskip : ¬ (yg old (op.getD i 0) = true ∧ kept.getD (op.getD i 0).toNat false = false) → Kb (iadd (i : Int) 1, l, r, ro, old, re, kept, op) := fun hn =>
      hKb _ ⟨i + 1, kept, op, by rw [e1], hk, hop, by omega, hc, by rw [hf']; exact hs.2 hn⟩ (by simp only [e1, Int.toNat_natCast]; omega)
    refine ⟨by rw [inB_nat]; exact hio, br (fun g => hskip ?_) fun g => ?_⟩
    · simp only [gI_nat, beq_iff_eq] at g; simp [-List.getD_eq_getElem?_getD, yg, g]
    simp only [gI_nat, beq_eq_false_iff_ne] at g
    have hx0 : 0 ≤ op.getD i 0 := by have := hx.1; omega
    have hx1 := hx.2
    refine ⟨⟨by simp only [gI_nat]; omega, by simp only [gI_nat]; omega⟩, br (fun g1 => hskip ?_) fun g1 => ⟨⟨by simp only [gI_nat]; omega, by simp only [gI_nat]; omega⟩, br (fun g2 => hskip ?_) fun g2 => ?_⟩⟩
    · simp only [gI_nat, gB, EK.dflt] at g1; rintro ⟨q1, q2⟩; simp only [yg, g1, Bool.not_true, Bool.and_false] at q1; cases q1
    · simp only [gI_nat, gB, EK.dflt] at g2; rintro ⟨q1, q2⟩; rw [g2] at q2; cases q2
    simp only [gI_nat, gB, EK.dflt] at g1 g2
    obtain ⟨q0, q1, q2, q3, q4, q5⟩ := hs.1 (by simp only [yg, g1, Bool.and_eq_true, bne_iff_ne]; exact ⟨g, rfl⟩) g2
    refine ⟨⟨by simp only [gI_nat]; omega, by simp only [gI_nat]; omega⟩, ⟨by simp only [gI_nat]; omega, by simp only [gI_nat]; omega⟩, ⟨by simp only [gI_nat]; omega, by simp only [gI_nat]; omega⟩, ?_, hKb _ ⟨i + 1, kept.set (op.getD i 0).toNat true, op ++ [l.getD (op.getD i 0).toNat 0, r.getD (op.getD i 0).toNat 0], ?_, q2, q3, ?_, q4, by rw [hf']; exact q5⟩ ?_⟩
    · dsimp only [List.length_cons, List.length_nil]; omega
    · rw [e1]; simp only [gI_at, Int.toNat_natCast, uL]
    · rw [List.length_append]; simp only [List.length_cons, List.length_nil]; omega
    · simp only [e1, Int.toNat_natCast]; omega
  · have hio : ¬ i < op.length := by have := of_decide_eq_false h'; simp only [len_eq] at this; omega
    have hkF : kept = keptF l r ro old re := by
      rw [← hF]
      cases (openL l r ro re).length + 2 * old.length + 1 - i with
      | zero => rfl
      | succ f => simp only [yk, if_neg hio]
    rw [← hkF] at hK
    have hko : kept.length = old.length := by omega
    refine LoopP_for (fun j s => s = (len kept, (j : Int), idxs kept j, kept)) kept.length rfl ?_ ?_
    · rintro j _ hj rfl Kb' hKb'
      have hil := idxs_len kept j
      have hs := idxs_succ kept j
      refine br_t (by simp [len_eq]; exact hj) ⟨by rw [inB_nat]; exact hj, br (fun g => ⟨by simp; omega, hKb' _ ?_⟩) fun g => hKb' _ ?_⟩
      · simp only [gB_nat] at g; rw [hs, if_pos g, iadd_nat (by omega)]
      · simp only [gB_nat] at g; rw [hs, if_neg (by rw [g]; simp), iadd_nat (by omega)]
    · rintro _ rfl Kb'
      refine br_f (by simp [len_eq]) ?_
      rw [hko]; exact hK
theorem okP.cell {n : Nat} {x : Int} (h : okP n x) (hn : x ≠ -1) : 0 ≤ x ∧ x < n := by have := h.1; exact ⟨by omega, h.2⟩
theorem pre_getD {s s' : List Int} (h : ∃ t, s' = s ++ t) {i : Nat} (hi : i < s.length) : s'.getD i 0 = s.getD i 0 := by
  obtain ⟨t, rfl⟩ := h
  rw [List.getD_eq_getElem?_getD, List.getElem?_append_left hi, List.getD_eq_getElem?_getD]
theorem set_getD {l : List Int} {i j : Nat} {v : Int} (hi : i < l.length) : (l.set i v).getD j 0 = if i = j then v else l.getD j 0 := by
  rw [List.getD_eq_getElem?_getD, List.getElem?_set]
  by_cases e : i = j
  · subst e; simp [hi]
  · rw [if_neg e, if_neg e, List.getD_eq_getElem?_getD]
theorem getD_set {l : List Bool} {i j : Nat} {v : Bool} (hi : i < l.length) : (l.set i v).getD j false = if i = j then v else l.getD j false := by
  rw [List.getD_eq_getElem?_getD, List.getElem?_set]
  by_cases e : i = j
  · subst e; simp [hi]
  · rw [if_neg e, if_neg e, List.getD_eq_getElem?_getD]
theorem yk_inv {l r ro re : List Int} {old : List Bool} (h : GVp l r ro old re) {L0 : Nat} : ∀ (f i : Nat) (kept : List Bool) (op : List Int), kept.length = l.length → (∀ x ∈ op, okP l.length x) → i ≤ op.length → op.length ≤ L0 + 2 * kept.count true → L0 + 2 * l.length + 1 ≤ f + i →
    (∀ y : Nat, kept.getD y false = true → l.getD y 0 ∈ op ∧ r.getD y 0 ∈ op) → (∀ j, j < i → yg old (op.getD j 0) = true → kept.getD (op.getD j 0).toNat false = true) →
    ∃ op' : List Int, (∀ x ∈ op, x ∈ op') ∧ (∀ y : Nat, (yk l r old f i kept op).getD y false = true → l.getD y 0 ∈ op' ∧ r.getD y 0 ∈ op') ∧ ∀ x ∈ op', yg old x = true → (yk l r old f i kept op).getD x.toNat false = true
  | 0, i, kept, op, hk, hop, hi, hc, hf, hb, hd => by
    have : kept.count true ≤ l.length := by rw [← hk]; exact List.count_le_length
    omega
  | f + 1, i, kept, op, hk, hop, hi, hc, hf, hb, hd => by
    by_cases hio : i < op.length
    · have hs := ykStep (f := f) h hk hop hio hc rfl
      simp only [yk, if_pos hio] at hs ⊢
      by_cases q : yg old (op.getD i 0) = true ∧ kept.getD (op.getD i 0).toNat false = false
      · rw [if_pos q]
        obtain ⟨q0, q1, q2, q3, q4, _⟩ := hs.1 q.1 q.2
        have hpre : ∀ j, j < op.length → (op ++ [l.getD (op.getD i 0).toNat 0, r.getD (op.getD i 0).toNat 0]).getD j 0 = op.getD j 0 := fun j hj => pre_getD ⟨_, rfl⟩ hj
        obtain ⟨op', h1, h2, h3⟩ := yk_inv h (L0 := L0) f (i + 1) _ _ q2 q3 (by rw [List.length_append]; omega) q4 (by omega) (fun y hy => by
          rw [getD_set (by omega)] at hy
          by_cases e : (op.getD i 0).toNat = y
          · subst e; simp
          · rw [if_neg e] at hy; have := hb y hy; exact ⟨List.mem_append_left _ this.1, List.mem_append_left _ this.2⟩) (fun j hj hy => by
          rw [hpre j (by omega)] at hy ⊢
          rw [getD_set (by omega)]
          by_cases e : j = i
          · subst e; rw [if_pos rfl]
          · have := hd j (by omega) hy
            split
            · rfl
            · exact this)
        exact ⟨op', fun x hx => h1 x (List.mem_append_left _ hx), h2, h3⟩
      · rw [if_neg q]
        refine yk_inv h (L0 := L0) f (i + 1) kept op hk hop (by omega) hc (by omega) hb (fun j hj hy => ?_)
        by_cases e : j = i
        · subst e
          cases hk' : kept.getD (op.getD j 0).toNat false with
          | true => rfl
          | false => exact absurd ⟨hy, hk'⟩ q
        · exact hd j (by omega) hy
    · simp only [yk, if_neg hio]
      exact ⟨op, fun x hx => hx, hb, fun x hx hy => by
        obtain ⟨j, hj, rfl⟩ := List.getElem_of_mem hx
        have := hd j (by omega)
        rw [getD_lt hj] at this
        exact this hy⟩
theorem yk_sound {l r : List Int} {old : List Bool} {R : Int → Prop} (hR : ∀ y, R y → yg old y = true → (l.getD y.toNat 0 ≠ -1 → R (l.getD y.toNat 0)) ∧ (r.getD y.toNat 0 ≠ -1 → R (r.getD y.toNat 0))) : ∀ (f i : Nat) (kept : List Bool) (op : List Int), (∀ x ∈ op, x ≠ -1 → R x) → (∀ x ∈ op, x = -1 ∨ 0 ≤ x) →
    (∀ x ∈ l, x = -1 ∨ 0 ≤ x) → (∀ x ∈ r, x = -1 ∨ 0 ≤ x) → (∀ y : Nat, kept.getD y false = true → R y ∧ yg old y = true) → ∀ y : Nat, (yk l r old f i kept op).getD y false = true → R y ∧ yg old y = true
  | 0, i, kept, op, _, _, _, _, hk => hk
  | f + 1, i, kept, op, ho, hop, hl, hr, hk => by
    simp only [yk]
    split
    · rename_i hi
      split
      · rename_i q
        have hm := getD_mem 0 hi
        have hne : op.getD i 0 ≠ -1 := fun e => by have := q.1; simp only [yg, e, bne_self_eq_false, Bool.false_and] at this; cases this
        have hx := ho _ hm hne
        have h0 : 0 ≤ op.getD i 0 := (hop _ hm).resolve_left hne
        have hgd : ∀ (q : List Int) (k : Nat), (∀ x ∈ q, x = -1 ∨ 0 ≤ x) → q.getD k 0 = -1 ∨ 0 ≤ q.getD k 0 := fun q k hq => by
          by_cases hkq : k < q.length
          · exact hq _ (getD_mem 0 hkq)
          · rw [List.getD_eq_getElem?_getD, List.getElem?_eq_none (by omega)]; exact .inr (Int.le_refl _)
        refine yk_sound hR f (i + 1) _ _ (fun x hx' hn => ?_) (fun x hx' => ?_) hl hr (fun y hy => ?_)
        · rcases List.mem_append.1 hx' with hx' | hx'
          · exact ho x hx' hn
          · simp only [List.mem_cons, List.not_mem_nil, or_false] at hx'
            rcases hx' with rfl | rfl
            · exact (hR _ hx q.1).1 hn
            · exact (hR _ hx q.1).2 hn
        · rcases List.mem_append.1 hx' with hx' | hx'
          · exact hop x hx'
          · simp only [List.mem_cons, List.not_mem_nil, or_false] at hx'
            rcases hx' with rfl | rfl
            · exact hgd _ _ hl
            · exact hgd _ _ hr
        · by_cases e : (op.getD i 0).toNat = y
          · subst e
            rw [Int.toNat_of_nonneg h0]
            exact ⟨hx, q.1⟩
          · refine hk y ?_
            rw [List.getD_eq_getElem?_getD, List.getElem?_set_ne e, ← List.getD_eq_getElem?_getD] at hy
            exact hy
      · exact yk_sound hR f (i + 1) _ _ ho hop hl hr hk
    · exact hk
theorem okP.sg {n : Nat} {x : Int} (h : okP n x) : x = -1 ∨ 0 ≤ x := by have := h.1; omega
theorem mem_openL {l r ro re : List Int} {x : Int} : x ∈ openL l r ro re ↔ x ∈ ro ∨ ∃ c ∈ re, x = l.getD c.toNat 0 ∨ x = r.getD c.toNat 0 := by
  unfold openL
  rw [List.mem_append, List.mem_flatMap]
  simp
/-- Kept cells are young, and of any kind that young cells hand on. -/
theorem kept_sound {l r ro re : List Int} {old : List Bool} (h : GVp l r ro old re) {R : Int → Prop} (h0 : ∀ x ∈ ro, x ≠ -1 → R x) (h1 : ∀ c ∈ re, (l.getD c.toNat 0 ≠ -1 → R (l.getD c.toNat 0)) ∧ (r.getD c.toNat 0 ≠ -1 → R (r.getD c.toNat 0)))
    (hR : ∀ y, R y → yg old y = true → (l.getD y.toNat 0 ≠ -1 → R (l.getD y.toNat 0)) ∧ (r.getD y.toNat 0 ≠ -1 → R (r.getD y.toNat 0))) {y : Nat} (hy : (keptF l r ro old re).getD y false = true) : R y ∧ yg old y = true := by
  have hop := openL_ok h (Nat.le_refl _)
  rw [List.take_length] at hop
  refine yk_sound hR _ _ _ _ (fun x hx hn => ?_) (fun x hx => (hop x hx).sg) (fun x hx => (h.h.okl x hx).sg) (fun x hx => (h.h.okr x hx).sg) (fun y hy => ?_) y hy
  · rcases mem_openL.1 hx with hx | ⟨c, hc, rfl | rfl⟩
    · exact h0 x hx hn
    · exact (h1 c hc).1 hn
    · exact (h1 c hc).2 hn
  · exfalso
    by_cases e : y < old.length
    · rw [getD_lt (by simpa using e)] at hy; simp at hy
    · rw [List.getD_eq_getElem?_getD, List.getElem?_eq_none (by simp; omega)] at hy; cases hy
theorem kept_young {l r ro re : List Int} {old : List Bool} (h : GVp l r ro old re) {y : Nat} (hy : (keptF l r ro old re).getD y false = true) : y < old.length ∧ old.getD y false = false := by
  have h1 := (kept_sound h (R := fun _ => True) (fun _ _ _ => trivial) (fun _ _ => ⟨fun _ => trivial, fun _ => trivial⟩) (fun _ _ _ => ⟨fun _ => trivial, fun _ => trivial⟩) hy).2
  have h2 : y < (keptF l r ro old re).length := by
    rcases Nat.lt_or_ge y (keptF l r ro old re).length with q | q
    · exact q
    · rw [List.getD_eq_getElem?_getD, List.getElem?_eq_none q] at hy; cases hy
  rw [keptF_len] at h2
  simp only [yg, Bool.and_eq_true, Int.toNat_natCast, Bool.not_eq_true'] at h1
  exact ⟨h2, h1.2⟩
/-- Keeping is closed. -/
structure KClosed (l r ro : List Int) (old : List Bool) (re : List Int) (F : List Bool) : Prop where
  ro : ∀ x ∈ ro, yg old x = true → F.getD x.toNat false = true
  re : ∀ c ∈ re, (yg old (l.getD c.toNat 0) = true → F.getD (l.getD c.toNat 0).toNat false = true) ∧ (yg old (r.getD c.toNat 0) = true → F.getD (r.getD c.toNat 0).toNat false = true)
  k : ∀ y : Nat, F.getD y false = true → (yg old (l.getD y 0) = true → F.getD (l.getD y 0).toNat false = true) ∧ (yg old (r.getD y 0) = true → F.getD (r.getD y 0).toNat false = true)
theorem kept_closed {l r ro re : List Int} {old : List Bool} (h : GVp l r ro old re) : KClosed l r ro old re (keptF l r ro old re) := by
  have hop := openL_ok h (Nat.le_refl _)
  rw [List.take_length] at hop
  have h0 : ∀ y : Nat, (List.replicate old.length false).getD y false = false := fun y => by
    by_cases e : y < old.length
    · rw [getD_lt (by simpa using e)]; simp
    · rw [List.getD_eq_getElem?_getD, List.getElem?_eq_none (by simp; omega)]; rfl
  obtain ⟨op', h1, h2, h3⟩ := yk_inv h (L0 := (openL l r ro re).length) ((openL l r ro re).length + 2 * old.length + 1) 0 (List.replicate old.length false) (openL l r ro re) (by simpa using h.o) hop (by omega) (by omega) (by have := h.o; omega)
    (fun y hy => by rw [h0] at hy; cases hy) (fun j hj => by omega)
  refine ⟨fun x hx hy => h3 x (h1 x (mem_openL.2 (.inl hx))) hy, fun c hc => ⟨fun hy => h3 _ (h1 _ (mem_openL.2 (.inr ⟨c, hc, .inl rfl⟩))) hy, fun hy => h3 _ (h1 _ (mem_openL.2 (.inr ⟨c, hc, .inr rfl⟩))) hy⟩, fun y hy => ⟨fun hy' => h3 _ (h2 y hy).1 hy', fun hy' => h3 _ (h2 y hy).2 hy'⟩⟩
theorem yg_iff {old : List Bool} {x : Int} : yg old x = true ↔ x ≠ -1 ∧ old.getD x.toNat false = false := by
  simp only [yg, Bool.and_eq_true, bne_iff_ne, Bool.not_eq_true']
/-- A cell that an old live one points to is old, or kept. -/
theorem GVp.remd {l r ro re : List Int} {old : List Bool} (h : GVp l r ro old re) {y : Nat} (hy : y < l.length) (ho : old.getD y false = true) (hg : yg old (l.getD y 0) = true ∨ yg old (r.getD y 0) = true) : (y : Int) ∈ re := by
  rw [h.m]
  refine mem_rem (by rw [h.o]; exact hy) ?_
  simp only [isRem, ho, Bool.true_and, Bool.or_eq_true]
  exact hg
def canL (l o : List Int) : List Int := o.map fun c => atL o (l.getD c.toNat 0)
structure AlikeP (l r ro l' r' ro' : List Int) : Prop where
  a : HVp l r ro
  b : HVp l' r' ro'
  cl : canL l (ordF l r ro) = canL l' (ordF l' r' ro')
  cr : canL r (ordF l r ro) = canL r' (ordF l' r' ro')
  co : ro.map (atL (ordF l r ro)) = ro'.map (atL (ordF l' r' ro'))
instance (l r ro l' r' ro' : List Int) : Decidable (AlikeP l r ro l' r' ro') :=
  decidable_of_iff (HVp l r ro ∧ HVp l' r' ro' ∧ canL l (ordF l r ro) = canL l' (ordF l' r' ro') ∧ canL r (ordF l r ro) = canL r' (ordF l' r' ro') ∧ ro.map (atL (ordF l r ro)) = ro'.map (atL (ordF l' r' ro')))
    ⟨fun ⟨a, b, c, d, e⟩ => ⟨a, b, c, d, e⟩, fun ⟨a, b, c, d, e⟩ => ⟨a, b, c, d, e⟩⟩
theorem AlikeP.symm {l r ro l' r' ro' : List Int} (h : AlikeP l r ro l' r' ro') : AlikeP l' r' ro' l r ro := ⟨h.b, h.a, h.cl.symm, h.cr.symm, h.co.symm⟩
def isGone (old F : List Bool) (i : Nat) : Bool := !(old.getD i false) && !(F.getD i false)
def clr (l : List Int) (g : Nat → Bool) : List Int := (List.range l.length).map fun i => if g i then -1 else l.getD i 0
def old2 (old F : List Bool) : List Bool := (List.range old.length).map fun i => old.getD i false || F.getD i false
def goneU (old F : List Bool) (n : Nat) : List Int := ((List.range n).filter (isGone old F)).map fun (i : Nat) => (i : Int)
theorem clr_len (l : List Int) (g : Nat → Bool) : (clr l g).length = l.length := by simp [clr]
theorem clr_getD {l : List Int} {g : Nat → Bool} {i : Nat} (hi : i < l.length) : (clr l g).getD i 0 = if g i then -1 else l.getD i 0 := by
  rw [getD_lt (by rw [clr_len]; exact hi)]; simp [clr]
theorem old2_len (old F : List Bool) : (old2 old F).length = old.length := by simp [old2]
theorem old2_getD {old F : List Bool} {i : Nat} (hi : i < old.length) : (old2 old F).getD i false = (old.getD i false || F.getD i false) := by
  rw [getD_lt (by rw [old2_len]; exact hi)]; simp [old2]
theorem goneU_succ (old F : List Bool) (n : Nat) : goneU old F (n + 1) = if isGone old F n then goneU old F n ++ [(n : Int)] else goneU old F n := by
  unfold goneU
  rw [List.range_succ, List.filter_append]
  cases h : isGone old F n <;> simp [h]
theorem goneU_len (old F : List Bool) (n : Nat) : (goneU old F n).length ≤ n := by
  unfold goneU
  rw [List.length_map]
  exact Nat.le_trans (List.length_filter_le _ _) (by simp)
theorem filt_mem {p : Nat → Bool} {n c : Nat} : ((c : Int) ∈ ((List.range n).filter p).map fun (i : Nat) => (i : Int)) ↔ c < n ∧ p c = true := by
  constructor
  · intro h
    obtain ⟨d, hd, he⟩ := List.mem_map.1 h
    have := List.mem_filter.1 hd
    have e : d = c := by omega
    subst e
    exact ⟨by simpa using this.1, this.2⟩
  · rintro ⟨h1, h2⟩
    exact List.mem_map.2 ⟨c, List.mem_filter.2 ⟨by simpa using h1, h2⟩, rfl⟩
section sc
variable {l r ro re : List Int} {old : List Bool}
theorem clr_ok {n : Nat} {q : List Int} {g : Nat → Bool} (h : ∀ x ∈ q, okP n x) : ∀ x ∈ clr q g, okP n x := by
  intro x hx
  obtain ⟨i, hi, rfl⟩ := List.mem_map.1 hx
  split
  · exact ⟨by omega, by omega⟩
  · exact h _ (getD_mem 0 (by simpa using hi))
theorem sc_valid (h : HVp l r ro) (g : Nat → Bool) : HVp (clr l g) (clr r g) ro :=
  ⟨by rw [clr_len, clr_len]; exact h.lr, by rw [clr_len]; exact h.l1, by rw [clr_len]; exact h.l8, h.r1, h.r3, by rw [clr_len]; exact clr_ok h.okl, by rw [clr_len]; exact clr_ok h.okr, by rw [clr_len]; exact h.oko⟩
/-- Nothing is remembered after a small collection. -/
theorem sc_rem (h : GVp l r ro old re) : rem (clr l (isGone old (keptF l r ro old re))) (clr r (isGone old (keptF l r ro old re))) (old2 old (keptF l r ro old re)) = [] := by
  have hc := kept_closed h
  have hlr := h.h.lr
  have ho := h.o
  unfold rem remU
  rw [List.filter_eq_nil_iff.2]
  · rfl
  intro i hi
  simp only [List.mem_range, old2_len] at hi
  -- no pointer of an old cell leads to a young one
  have key : ∀ q : List Int, q.length = l.length → (∀ x ∈ q, okP l.length x) → (∀ y : Nat, y < l.length → old.getD y false = true → yg old (q.getD y 0) = true → (keptF l r ro old re).getD (q.getD y 0).toNat false = true) →
      (∀ y : Nat, (keptF l r ro old re).getD y false = true → yg old (q.getD y 0) = true → (keptF l r ro old re).getD (q.getD y 0).toNat false = true) →
      (old2 old (keptF l r ro old re)).getD i false = true → yg (old2 old (keptF l r ro old re)) ((clr q (isGone old (keptF l r ro old re))).getD i 0) = false := by
    intro q hq hok h1 h2 hi2
    rw [old2_getD hi, Bool.or_eq_true] at hi2
    rw [clr_getD (by omega)]
    have hng : isGone old (keptF l r ro old re) i = false := by
      unfold isGone
      rcases hi2 with e | e
      · rw [e]; rfl
      · rw [e]; simp
    rw [hng]
    simp only [Bool.false_eq_true, if_false]
    have hx := hok _ (getD_mem 0 (by omega : i < q.length))
    cases hyg : yg (old2 old (keptF l r ro old re)) (q.getD i 0) with
    | false => rfl
    | true =>
      have hy := yg_iff.1 hyg
      have hcell := hx.cell hy.1
      have hlt : (q.getD i 0).toNat < old.length := by omega
      rw [old2_getD hlt, Bool.or_eq_false_iff] at hy
      have hyo : yg old (q.getD i 0) = true := yg_iff.2 ⟨hy.1, hy.2.1⟩
      have := hy.2.2
      rcases hi2 with e | e
      · rw [h1 i (by omega) e hyo] at this; cases this
      · rw [h2 i e hyo] at this; cases this
  intro hh
  simp only [isRem, Bool.and_eq_true, Bool.or_eq_true] at hh
  obtain ⟨a, b⟩ := hh
  rcases b with b | b
  · rw [key l rfl h.h.okl (fun y hy h1 h2 => by have := (hc.re _ (h.remd hy h1 (.inl h2))).1; simp only [Int.toNat_natCast] at this; exact this h2) (fun y h1 h2 => (hc.k y h1).1 h2) a] at b; cases b
  · rw [key r hlr.symm h.h.okr (fun y hy h1 h2 => by have := (hc.re _ (h.remd hy h1 (.inr h2))).2; simp only [Int.toNat_natCast] at this; exact this h2) (fun y h1 h2 => (hc.k y h1).2 h2) a] at b; cases b
end sc
theorem L_l11Kept {l r ro re : List Int} {old : List Bool} {K : List Bool → Prop} (h : GVp l r ro old re) (hK : K (keptF l r ro old re)) : Ms_l11Kept l r ro old re K := by
  have h8 := h.h.l8; have h1 := h.h.l1; have h3 := h.h.r3; have hre := h.re8; have ho := h.o; have hlr := h.h.lr
  refine ⟨by omega, ?_⟩
  refine LoopP_for (fun i s => s = ((i : Int), l, r, ro, old, re, openL l r ro (re.take i))) re.length (by simp [openL]) ?_ ?_
  · rintro i _ hi rfl Kb hKb
    have hg := h.rget hi
    have ht : (re.take i).length ≤ 8 := by rw [List.length_take]; omega
    have hol := openL_len l r ro (re.take i)
    refine br_t (by simp [len_eq]; exact hi) ⟨by rw [inB_nat]; exact hi, ⟨by simp only [gI_nat]; omega, by simp only [gI_nat]; omega⟩, by rw [inB_nat]; exact hi, ⟨by simp only [gI_nat]; omega, by simp only [gI_nat]; omega⟩, ?_, hKb _ ?_⟩
    · dsimp only [List.length_cons, List.length_nil]; omega
    · rw [iadd_nat (by omega), openL_succ hi]; simp only [gI_at, Int.toNat_natCast]
  rintro _ rfl Kb
  refine br_f (by simp [len_eq]) ⟨⟨by simp [len_eq], rfl, by simp only [len_eq]; omega⟩, ?_⟩
  simp only [List.take_length, len_eq, Int.toNat_natCast]
  have hol := openL_len l r ro re
  refine LoopP_inv (fun s => ∃ (i : Nat) (kept : List Bool) (op : List Int), s = ((i : Int), l, r, ro, old, re, op, kept) ∧ kept.length = l.length ∧ (∀ x ∈ op, okP l.length x) ∧ i ≤ op.length ∧ op.length ≤ (openL l r ro re).length + 2 * kept.count true ∧
    yk l r old ((openL l r ro re).length + 2 * old.length + 1 - i) i kept op = keptF l r ro old re) (fun s => (openL l r ro re).length + 2 * old.length + 1 - s.1.toNat) ?_ ⟨0, _, _, rfl, by simpa using ho, by have := openL_ok h (Nat.le_refl re.length); rwa [List.take_length] at this, by omega, by omega, rfl⟩
  rintro _ ⟨i, kept, op, rfl, hk, hop, hi, hc, hF⟩ Kb hKb
  have hcl : kept.count true ≤ l.length := by rw [← hk]; exact List.count_le_length
  have e1 : iadd (i : Int) 1 = ((i + 1 : Nat) : Int) := iadd_nat (by omega)
  refine br (fun h' => ?_) fun h' => ?_
  · have hio : i < op.length := by have := of_decide_eq_true h'; simp only at this; omega
    obtain ⟨f, hf⟩ : ∃ f, (openL l r ro re).length + 2 * old.length + 1 - i = f + 1 := ⟨(openL l r ro re).length + 2 * old.length - i, by omega⟩
    have hf' : (openL l r ro re).length + 2 * old.length + 1 - (i + 1) = f := by omega
    rw [hf] at hF
    have hs := ykStep h hk hop hio hc hF
    have hx := hop _ (getD_mem 0 hio)
    have hskip : ¬ (yg old (op.getD i 0) = true ∧ kept.getD (op.getD i 0).toNat false = false) → Kb (iadd (i : Int) 1, l, r, ro, old, re, op, kept) := fun hn =>
      hKb _ ⟨i + 1, kept, op, by rw [e1], hk, hop, by omega, hc, by rw [hf']; exact hs.2 hn⟩ (by simp only [e1, Int.toNat_natCast]; omega)
    refine ⟨by rw [inB_nat]; exact hio, L_l11Young (by simp only [gI_nat]; rw [ho]; exact hx) (br (fun g => hskip ?_) fun g => ?_)⟩
    · simp only [gI_nat, Bool.not_eq_true'] at g; rintro ⟨q1, _⟩; rw [g] at q1; cases q1
    simp only [gI_nat, Bool.not_eq_false'] at g
    have hne := (yg_iff.1 g).1
    have hx0 := (hx.cell hne).1
    have hx1 := hx.2
    refine ⟨⟨by simp only [gI_nat]; omega, by simp only [gI_nat]; omega⟩, br (fun g2 => hskip ?_) fun g2 => ?_⟩
    · simp only [gI_nat, gB, EK.dflt] at g2; rintro ⟨q1, q2⟩; rw [g2] at q2; cases q2
    simp only [gI_nat, gB, EK.dflt] at g2
    obtain ⟨q0, q1, q2, q3, q4, q5⟩ := hs.1 g g2
    refine ⟨⟨by simp only [gI_nat]; omega, by simp only [gI_nat]; omega⟩, ⟨by simp only [gI_nat]; omega, by simp only [gI_nat]; omega⟩, ⟨by simp only [gI_nat]; omega, by simp only [gI_nat]; omega⟩, ?_, hKb _ ⟨i + 1, kept.set (op.getD i 0).toNat true, op ++ [l.getD (op.getD i 0).toNat 0, r.getD (op.getD i 0).toNat 0], ?_, q2, q3, ?_, q4, by rw [hf']; exact q5⟩ ?_⟩
    · dsimp only [List.length_cons, List.length_nil]; omega
    · rw [e1]; simp only [gI_at, Int.toNat_natCast, uL]
    · rw [List.length_append]; simp only [List.length_cons, List.length_nil]; omega
    · simp only [e1, Int.toNat_natCast]; omega
  · have hio : ¬ i < op.length := by have := of_decide_eq_false h'; simp only at this; omega
    have hkF : kept = keptF l r ro old re := by
      rw [← hF]
      cases (openL l r ro re).length + 2 * old.length + 1 - i with
      | zero => rfl
      | succ f => simp only [yk, if_neg hio]
    rw [← hkF] at hK
    exact hK
def clrU (l : List Int) (g : Nat → Bool) (i : Nat) : List Int := (List.range l.length).map fun j => if decide (j < i) && g j then -1 else l.getD j 0
def old2U (old F : List Bool) (i : Nat) : List Bool := (List.range old.length).map fun j => old.getD j false || (decide (j < i) && F.getD j false)
theorem clrU_len (l : List Int) (g : Nat → Bool) (i : Nat) : (clrU l g i).length = l.length := by simp [clrU]
theorem old2U_len (old F : List Bool) (i : Nat) : (old2U old F i).length = old.length := by simp [old2U]
theorem clrU_getD {l : List Int} {g : Nat → Bool} {i j : Nat} (hj : j < l.length) : (clrU l g i).getD j 0 = if decide (j < i) && g j then -1 else l.getD j 0 := by
  rw [getD_lt (by rw [clrU_len]; exact hj)]; simp [clrU]
theorem old2U_getD {old F : List Bool} {i j : Nat} (hj : j < old.length) : (old2U old F i).getD j false = (old.getD j false || (decide (j < i) && F.getD j false)) := by
  rw [getD_lt (by rw [old2U_len]; exact hj)]; simp [old2U]
theorem clrU_zero (l : List Int) (g : Nat → Bool) : clrU l g 0 = l := eqL_iff 0 _ _ (clrU_len _ _ _) fun j hj => by
  rw [clrU_len] at hj
  rw [clrU_getD hj]; simp
theorem clrU_all (l : List Int) (g : Nat → Bool) : clrU l g l.length = clr l g := eqL_iff 0 _ _ (by rw [clrU_len, clr_len]) fun j hj => by
  rw [clrU_len] at hj
  rw [clrU_getD hj, clr_getD hj, decide_eq_true hj, Bool.true_and]
theorem clrU_t {l : List Int} {g : Nat → Bool} {i : Nat} (hi : i < l.length) (h : g i = true) : (clrU l g i).set i (-1) = clrU l g (i + 1) := eqL_iff 0 _ _ (by simp [clrU_len]) fun j hj => by
  rw [List.length_set, clrU_len] at hj
  rw [set_getD (by rw [clrU_len]; exact hi), clrU_getD hj, clrU_getD hj]
  by_cases e : i = j
  · subst e; simp [h]
  · rw [if_neg e]
    have : decide (j < i + 1) = decide (j < i) := decide_eq_decide.2 (by omega)
    rw [this]
theorem clrU_f {l : List Int} {g : Nat → Bool} {i : Nat} (h : g i = false) : clrU l g (i + 1) = clrU l g i := eqL_iff 0 _ _ (by rw [clrU_len, clrU_len]) fun j hj => by
  rw [clrU_len] at hj
  rw [clrU_getD hj, clrU_getD hj]
  by_cases e : i = j
  · subst e; simp [h]
  · have : decide (j < i + 1) = decide (j < i) := decide_eq_decide.2 (by omega)
    rw [this]
theorem old2U_zero (old F : List Bool) : old2U old F 0 = old := eqL_iff false _ _ (old2U_len _ _ _) fun j hj => by
  rw [old2U_len] at hj
  rw [old2U_getD hj]; simp
theorem old2U_all (old F : List Bool) : old2U old F old.length = old2 old F := eqL_iff false _ _ (by rw [old2U_len, old2_len]) fun j hj => by
  rw [old2U_len] at hj
  rw [old2U_getD hj, old2_getD hj, decide_eq_true hj, Bool.true_and]
theorem old2U_t {old F : List Bool} {i : Nat} (hi : i < old.length) (h : F.getD i false = true) : (old2U old F i).set i true = old2U old F (i + 1) := eqL_iff false _ _ (by simp [old2U_len]) fun j hj => by
  rw [List.length_set, old2U_len] at hj
  rw [getD_set (by rw [old2U_len]; exact hi), old2U_getD hj, old2U_getD hj]
  by_cases e : i = j
  · subst e
    rw [if_pos rfl, h, decide_eq_true (Nat.lt_succ_self _)]; simp
  · rw [if_neg e]
    have : decide (j < i + 1) = decide (j < i) := decide_eq_decide.2 (by omega)
    rw [this]
theorem old2U_f {old F : List Bool} {i : Nat} (h : F.getD i false = false ∨ old.getD i false = true) : old2U old F (i + 1) = old2U old F i := eqL_iff false _ _ (by rw [old2U_len, old2U_len]) fun j hj => by
  rw [old2U_len] at hj
  rw [old2U_getD hj, old2U_getD hj]
  by_cases e : i = j
  · subst e
    rcases h with h | h
    · rw [h, Bool.and_false, Bool.and_false]
    · rw [h, Bool.true_or, Bool.true_or]
  · have : decide (j < i + 1) = decide (j < i) := decide_eq_decide.2 (by omega)
    rw [this]
theorem mem_idxs {F : List Bool} {n i : Nat} (hi : i < n) : ((i : Int) ∈ idxs F n) ↔ F.getD i false = true := by
  have := @filt_mem (fun i => F.getD i false) n i
  unfold idxs
  rw [this]
  exact ⟨fun h => h.2, fun h => ⟨hi, h⟩⟩
theorem L_iSmallCollect {l r ro re : List Int} {old : List Bool} {K : Bool → List Int → List Int → List Int → List Bool → List Int → List Int → Prop} (hr : re.length < 2 ^ 62)
    (hy : GVp l r ro old re → K true (clr l (isGone old (keptF l r ro old re))) (clr r (isGone old (keptF l r ro old re))) ro (old2 old (keptF l r ro old re)) [] (goneU old (keptF l r ro old re) old.length)) (hn : ¬ GVp l r ro old re → K false [] [] [] [] [] []) : Mi_SmallCollect l r ro old re K := by
  refine L_iGensValid hr (br (fun h => hn (by simpa using h)) fun h => ?_)
  have h : GVp l r ro old re := by simpa using h
  have hK := hy h
  have h8 := h.old8; have ho := h.o; have hlr := h.h.lr
  refine L_iYoungKept hr (fun _ => ?_) fun hh => absurd h hh
  refine L_copied h.h (L_Clone_bool (by omega) ?_)
  have hrem := sc_rem h
  have hval := sc_valid h.h (isGone old (keptF l r ro old re))
  have hyoung : ∀ y, (keptF l r ro old re).getD y false = true → old.getD y false = false := fun y hy => (kept_young h hy).2
  generalize keptF l r ro old re = F at *
  have hil : (idxs F old.length).length ≤ 8 := by have := idxs_len F old.length; omega
  refine LoopP_for (fun i s => s = (old, len old, (i : Int), idxs F old.length, goneU old F i, [], [], [], [], [], clrU l (isGone old F) i, clrU r (isGone old F) i, ro, old2U old F i, [])) old.length (by rw [clrU_zero, clrU_zero, old2U_zero]; rfl) ?_ ?_
  · rintro i _ hi rfl Kb hKb
    have hgl := goneU_len old F i
    have hgs := goneU_succ old F i
    have e1 : iadd (i : Int) 1 = ((i + 1 : Nat) : Int) := iadd_nat (by omega)
    refine br_t (by simp [len_eq]; exact hi) ⟨by rw [inB_nat]; exact hi, br (fun g => hKb _ ?_) fun g => L_Contains_int (by dsimp only; omega) (br (fun g2 => ⟨by rw [inB_nat]; dsimp only; rw [old2U_len]; exact hi, hKb _ ?_⟩) fun g2 => ⟨by rw [inB_nat]; dsimp only; rw [clrU_len]; omega, by rw [inB_nat]; dsimp only; rw [clrU_len]; omega, by simp only [List.length_singleton]; omega, hKb _ ?_⟩)⟩
    · simp only [gB_nat] at g
      have q : isGone old F i = false := by unfold isGone; rw [g]; rfl
      rw [e1, hgs, if_neg (by rw [q]; simp), clrU_f q, clrU_f q, old2U_f (.inr g)]
    · simp only [gB_nat] at g
      have g2 : F.getD i false = true := (mem_idxs hi).1 (by simpa using g2)
      have q : isGone old F i = false := by unfold isGone; rw [g2, Bool.not_true, Bool.and_false]
      rw [e1, hgs, if_neg (by rw [q]; simp), clrU_f q, clrU_f q]
      simp only [uL_nat]
      rw [old2U_t hi g2]
    · simp only [gB_nat] at g
      have g2 : F.getD i false = false := by
        have := fun hh => (of_decide_eq_false g2) ((mem_idxs hi).2 hh)
        cases q : F.getD i false with
        | false => rfl
        | true => exact absurd q this
      have q : isGone old F i = true := by unfold isGone; rw [g, g2]; rfl
      rw [e1, hgs, if_pos q, old2U_f (.inl g2)]
      simp only [uL_nat]
      rw [clrU_t (by omega) q, clrU_t (by omega) q]
  · rintro _ rfl Kb
    refine br_f (by simp [len_eq]) ?_
    have c1 : clrU l (isGone old F) old.length = clr l (isGone old F) := by rw [ho]; exact clrU_all _ _
    have c2 : clrU r (isGone old F) old.length = clr r (isGone old F) := by rw [ho, hlr]; exact clrU_all _ _
    simp only [c1, c2, old2U_all]
    refine L_remembered hval (by rw [old2_len, clr_len]; exact ho) ?_
    rw [hrem]; exact hK
theorem L_sSmallCollect {l r ro re : List Int} {old : List Bool} {K : Bool → List Int → List Int → List Int → List Bool → List Int → List Int → Prop} (hr : re.length < 2 ^ 62)
    (hy : GVp l r ro old re → K true (clr l (isGone old (keptF l r ro old re))) (clr r (isGone old (keptF l r ro old re))) ro (old2 old (keptF l r ro old re)) [] (goneU old (keptF l r ro old re) old.length)) (hn : ¬ GVp l r ro old re → K false [] [] [] [] [] []) : Ms_SmallCollect l r ro old re K := by
  refine L_sGensValid hr (br (fun h => hn (by simpa using h)) fun h => ?_)
  have h : GVp l r ro old re := by simpa using h
  have hK := hy h
  have h8 := h.old8; have ho := h.o; have hlr := h.h.lr
  refine L_l11Kept h (L_l1Copy h.h ⟨by omega, ?_⟩)
  have hrem := sc_rem h
  have hval := sc_valid h.h (isGone old (keptF l r ro old re))
  have hfl := keptF_len l r ro old re
  generalize keptF l r ro old re = F at *
  refine LoopP_for (fun i s => s = ((i : Int), l, r, ro, old, re, goneU old F i, F, [], [], [], [], [], clrU l (isGone old F) i, clrU r (isGone old F) i, ro, old2U old F i, [])) F.length (by rw [clrU_zero, clrU_zero, old2U_zero]; rfl) ?_ ?_
  · rintro i _ hi rfl Kb hKb
    have hgl := goneU_len old F i
    have hgs := goneU_succ old F i
    have e1 : iadd (i : Int) 1 = ((i + 1 : Nat) : Int) := iadd_nat (by omega)
    have iF : inB (i : Int) F.length := by rw [inB_nat]; exact hi
    have iO : inB (i : Int) old.length := by rw [inB_nat]; omega
    have i1 : inB (i : Int) (clrU l (isGone old F) i).length := by rw [inB_nat, clrU_len]; omega
    have i2 : inB (i : Int) (clrU r (isGone old F) i).length := by rw [inB_nat, clrU_len]; omega
    have i3 : inB (i : Int) (old2U old F i).length := by rw [inB_nat, old2U_len]; omega
    refine br_t (by simp [len_eq]; exact hi) ⟨iF, br (fun g => ⟨i3, iF, br (fun g2 => ⟨iO, br (fun g3 => ⟨by simp only [List.length_singleton]; omega, i1, i2, hKb _ ?_⟩) fun g3 => hKb _ ?_⟩) fun g2 => hKb _ ?_⟩) fun g => ⟨iF, br (fun g2 => ⟨iO, br (fun g3 => ⟨by simp only [List.length_singleton]; omega, i1, i2, hKb _ ?_⟩) fun g3 => hKb _ ?_⟩) fun g2 => hKb _ ?_⟩⟩
    · simp only [gB_nat] at g g2; rw [g] at g2; cases g2
    · simp only [gB_nat] at g g2; rw [g] at g2; cases g2
    · simp only [gB_nat] at g
      have q : isGone old F i = false := by unfold isGone; rw [g, Bool.not_true, Bool.and_false]
      rw [e1, hgs, if_neg (by rw [q]; simp), clrU_f q, clrU_f q]
      simp only [uL_nat]
      rw [old2U_t (by omega) g]
    · simp only [gB_nat, Bool.not_eq_true'] at g g3
      have q : isGone old F i = true := by unfold isGone; rw [g, g3]; rfl
      rw [e1, hgs, if_pos q, old2U_f (.inl g)]
      simp only [uL_nat]
      rw [clrU_t (by omega) q, clrU_t (by omega) q]
    · simp only [gB_nat, Bool.not_eq_false'] at g g3
      have q : isGone old F i = false := by unfold isGone; rw [g3]; rfl
      rw [e1, hgs, if_neg (by rw [q]; simp), clrU_f q, clrU_f q, old2U_f (.inr g3)]
    · simp only [gB_nat] at g g2; rw [g] at g2; cases g2
  · rintro _ rfl Kb
    refine br_f (by simp [len_eq]) ?_
    have c1 : clrU l (isGone old F) F.length = clr l (isGone old F) := by rw [hfl, ho]; exact clrU_all _ _
    have c2 : clrU r (isGone old F) F.length = clr r (isGone old F) := by rw [hfl, ho, hlr]; exact clrU_all _ _
    have c3 : old2U old F F.length = old2 old F := by rw [hfl]; exact old2U_all _ _
    simp only [c1, c2, c3]
    refine L_l11Remember hval (by rw [old2_len, clr_len]; exact ho) ?_
    rw [hrem, hfl]; exact hK
def e2 (x : Int) : Int := if x = 0 then -1 else x
theorem neStep {a b : Int} {P Q : Prop} (e : a = b) (h : Q) : ((a != b) = true → P) ∧ ((a != b) = false → Q) := br_f (by simp [e]) h
theorem eqStep {a : Bool} {P Q : Prop} (h : Q) : ((!(a == a)) = true → P) ∧ ((!(a == a)) = false → Q) := br_f (by simp) h
theorem scEx {l r ro re : List Int} {old : List Bool} (hr : re.length < 2 ^ 62) : ∃ (b : Bool) (l' r' ro' : List Int) (o' : List Bool) (re' g : List Int), (l'.length ≤ l.length ∧ r'.length ≤ r.length ∧ ro'.length ≤ ro.length ∧ o'.length ≤ old.length ∧ re'.length ≤ re.length ∧ g.length ≤ old.length) ∧
    (∀ K : Bool → List Int → List Int → List Int → List Bool → List Int → List Int → Prop, K b l' r' ro' o' re' g → Mi_SmallCollect l r ro old re K) ∧ (∀ K : Bool → List Int → List Int → List Int → List Bool → List Int → List Int → Prop, K b l' r' ro' o' re' g → Ms_SmallCollect l r ro old re K) := by
  by_cases h : GVp l r ro old re
  · exact ⟨_, _, _, _, _, _, _, ⟨by rw [clr_len]; exact Nat.le_refl _, by rw [clr_len]; exact Nat.le_refl _, Nat.le_refl _, by rw [old2_len]; exact Nat.le_refl _, by simp, goneU_len _ _ _⟩, fun K hK => L_iSmallCollect hr (fun _ => hK) fun hh => absurd h hh, fun K hK => L_sSmallCollect hr (fun _ => hK) fun hh => absurd h hh⟩
  · exact ⟨false, [], [], [], [], [], [], ⟨by simp, by simp, by simp, by simp, by simp, by simp⟩, fun K hK => L_iSmallCollect hr (fun hh => absurd hh h) fun _ => hK, fun K hK => L_sSmallCollect hr (fun hh => absurd hh h) fun _ => hK⟩
theorem law_FnExactSmallCollect {p q r s : List Int} {o : List Bool} (hp : p.length ≤ maxLen) (hq : q.length ≤ maxLen) (hr : r.length ≤ maxLen) (ho : o.length ≤ maxLen) (hs : s.length ≤ maxLen) {K : Bool → Prop} (hK : K true) : Ml_FnExactSmallCollect p q r o s K := by
  unfold Ml_FnExactSmallCollect
  refine L_szGens (by decide) (by decide) hp hq hr ho hs (szStop hK) fun y a1 b1 c1 c2 c3 c4 c5 => szStep a1 ?_
  obtain ⟨b, l', r', ro', o', re', g, ⟨d1, d2, d3, d4, d5, d6⟩, hI, hS⟩ := scEx (l := p) (r := q) (ro := r) (re := s) (old := o) (by omega)
  have e : ∀ K : Bool → Prop, K true → Ml_eqGens l' r' ro' o' re' l' r' ro' o' re' K := fun K hK => L_eqGens_same (by omega) (by omega) (by omega) (by omega) (by omega) hK
  have e2 : ∀ K : Bool → Prop, K true → Ml_eqIntS g g K := fun K hK => L_eqIntS (by omega) (by simpa using hK)
  refine L_toGens c1 c2 c3 c4 c5 (hS _ (L_toGens c1 c2 c3 c4 c5 (hI _ (e _ (step_t rfl (e2 _ (step_t rfl (eqStep ?_))))))))
  refine L_toGens c1 c2 c3 c4 c5 (L_eqGens_same (by omega) (by omega) (by omega) (by omega) (by omega) (step_t rfl (L_markGens (by decide) (by decide) (by omega) (by omega) (by omega) (by omega) (by omega) (szStep (by omega) (e _ (step_t rfl (e2 _ (step_t rfl (eqStep ?_)))))))))
  refine L_markGens (by decide) (by decide) (by omega) (by omega) (by omega) (by omega) (by omega) (L_markIntS (by omega) (by omega) (by omega) (L_heldGens (by decide) (by decide) (by omega) (by omega) (by omega) (by omega) (by omega) (szStep (by omega) (L_heldIntS (by omega) (by omega) (by omega) (szStep (by omega) (neStep rfl ?_))))))
  exact L_toGens c1 c2 c3 c4 c5 (hI _ (e _ (step_t rfl (e2 _ (step_t rfl (eqStep (L_heldGens (by decide) (by decide) (by omega) (by omega) (by omega) (by omega) (by omega) (szStep (by omega) (L_heldIntS (by omega) (by omega) (by omega) (szStep (by omega) (neStep rfl hK)))))))))))
end Go.Ab
