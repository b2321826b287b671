/-
  What is proved here: the plain laws that the law FnExactYoungKept needs: what its functions compute, and that its model returns true. Conditions: those written in each statement.
-/
import Derived.Test.YthkneknigkbgpaaGM
namespace Go.Ab
set_option linter.unusedVariables false
set_option linter.unusedSimpArgs false
theorem wrap64 {x : Int} (h1 : -9223372036854775808 ≤ x) (h2 : x < 9223372036854775808) : IntKind.i64.wrap x = x := by
  simp [IntKind.wrap, IntKind.signed, IntKind.bits]
  split <;> omega
theorem iadd_eq {a b : Int} (h1 : -9223372036854775808 ≤ a + b) (h2 : a + b < 9223372036854775808) : iadd a b = a + b := wrap64 h1 h2
theorem isub_eq {a b : Int} (h1 : -9223372036854775808 ≤ a - b) (h2 : a - b < 9223372036854775808) : isub a b = a - b := wrap64 h1 h2
theorem iadd_nat {i : Nat} (h : i < 2 ^ 62) : iadd (i : Int) 1 = ((i + 1 : Nat) : Int) := by rw [iadd_eq] <;> omega
theorem inB_nat {i n : Nat} : inB (i : Int) n = (i < n) := by simp [inB]
theorem gI_nat (l : List Int) (i : Nat) : gI l (i : Int) = l.getD i 0 := by simp [gI, EK.dflt]
theorem gB_nat (l : List Bool) (i : Nat) : gB l (i : Int) = l.getD i false := by simp [gB, EK.dflt]
theorem uL_nat {α : Type} (l : List α) (i : Nat) (v : α) : uL l (i : Int) v = l.set i v := by simp [uL]
theorem len_eq {α : Type} (l : List α) : len l = (l.length : Int) := rfl
/-- A loop that counts. -/
theorem LoopP_for {S : Type} {body : S → (S → Prop) → (S → Prop) → Prop} {Kx : S → Prop} {s : S} (J : Nat → S → Prop) (n : Nat) (h0 : J 0 s)
    (step : ∀ i s, i < n → J i s → ∀ Kb : S → Prop, (∀ s', J (i + 1) s' → Kb s') → body s Kb Kx) (last : ∀ s, J n s → ∀ Kb : S → Prop, body s Kb Kx) : LoopP body s Kx := by
  suffices hh : ∀ k i s, n - i < k → i ≤ n → J i s → itP body k s Kx from ⟨n + 1, hh _ 0 s (by omega) (by omega) h0⟩
  intro k
  induction k with
  | zero => intro i s h; omega
  | succ k ih =>
    intro i s hk hi hj
    by_cases e : i = n
    · subst e; exact last s hj _
    · exact step i s (by omega) hj _ fun s' h' => ih (i + 1) s' (by omega) (by omega) h'
theorem br {b : Bool} {P Q : Prop} (h1 : b = true → P) (h2 : b = false → Q) : (b = true → P) ∧ (b = false → Q) := ⟨h1, h2⟩
theorem br_t {b : Bool} {P Q : Prop} (h : b = true) (hp : P) : (b = true → P) ∧ (b = false → Q) := ⟨fun _ => hp, fun h' => by rw [h] at h'; cases h'⟩
theorem br_f {b : Bool} {P Q : Prop} (h : b = false) (hq : Q) : (b = true → P) ∧ (b = false → Q) := ⟨fun h' => (by rw [h] at h'; cases h'), fun _ => hq⟩
theorem getD_lt {α : Type} {l : List α} {i : Nat} {d : α} (h : i < l.length) : l.getD i d = l[i] := by simp [List.getD_eq_getElem?_getD, h]
theorem eqL_iff {α : Type} (d : α) (p q : List α) (h : p.length = q.length) (hj : ∀ j, j < p.length → p.getD j d = q.getD j d) : p = q := by
  apply List.ext_getElem h
  intro i h1 h2
  have := hj i h1
  rwa [getD_lt h1, getD_lt h2] at this
/-- Two lists are compared. -/
theorem eqLoop3 {α : Type} [DecidableEq α] (d : α) (p1 p2 : List α) (hb : p1.length < 2 ^ 62) (K : Bool → Prop) (hK : K (decide (p1 = p2))) (hl : p1.length = p2.length) :
    (LoopP (S := List α × List α × Int) (fun s1 Kb1 Kx1 =>
(((decide (s1.2.2 < (len s1.1))) = true →
((inB s1.2.2 (List.length s1.1)) ∧
((inB s1.2.2 (List.length s1.2.1)) ∧
((((s1.1.getD s1.2.2.toNat d) != (s1.2.1.getD s1.2.2.toNat d)) = true →
(K false)) ∧
(((s1.1.getD s1.2.2.toNat d) != (s1.2.1.getD s1.2.2.toNat d)) = false →
(Kb1 (s1.1, s1.2.1, (iadd s1.2.2 1)))))))) ∧
((decide (s1.2.2 < (len s1.1))) = false →
(Kx1 (s1.1, s1.2.1, s1.2.2)))))
(p1, p2, 0) fun s1 => (K true)) := by
  refine LoopP_for (fun i s => s = (p1, p2, (i : Int)) ∧ ∀ j, j < i → p1.getD j d = p2.getD j d) p1.length ⟨rfl, by omega⟩ ?_ ?_
  · rintro i _ hi ⟨rfl, hj⟩ Kb hKb
    refine br_t (by simp [len_eq]; exact hi) ⟨by simp [inB_nat]; exact hi, by simp [inB_nat]; omega, br (fun h => ?_) fun h => ?_⟩
    · simp at h
      have : p1 ≠ p2 := fun e => h (by rw [e])
      simpa [this] using hK
    · simp at h
      refine hKb _ ⟨by rw [iadd_nat (by omega)], fun j hji => ?_⟩
      rcases Nat.lt_succ_iff_lt_or_eq.1 hji with e | e
      · exact hj j e
      · subst e; exact h
  · rintro _ ⟨rfl, hj⟩ Kb
    refine br_f (by simp [len_eq]) ?_
    have := eqL_iff d p1 p2 hl hj
    simpa [this] using hK
theorem eqLoop4 {α : Type} [DecidableEq α] (d : α) (p1 p2 : List α) (hb : p1.length < 2 ^ 62) (K : Bool → Prop) (hK : K (decide (p1 = p2))) (hl : p1.length = p2.length) :
    (LoopP (S := List α × List α × Int × Int) (fun s1 Kb1 Kx1 =>
(((decide (s1.2.2.2 < s1.2.2.1)) = true →
((inB s1.2.2.2 (List.length s1.1)) ∧
((inB s1.2.2.2 (List.length s1.2.1)) ∧
((((s1.1.getD s1.2.2.2.toNat d) != (s1.2.1.getD s1.2.2.2.toNat d)) = true →
(K false)) ∧
(((s1.1.getD s1.2.2.2.toNat d) != (s1.2.1.getD s1.2.2.2.toNat d)) = false →
(Kb1 (s1.1, s1.2.1, s1.2.2.1, (iadd s1.2.2.2 1)))))))) ∧
((decide (s1.2.2.2 < s1.2.2.1)) = false →
(Kx1 (s1.1, s1.2.1, s1.2.2.1, s1.2.2.2)))))
(p1, p2, len p1, 0) fun s1 => (K true)) := by
  refine LoopP_for (fun i s => s = (p1, p2, len p1, (i : Int)) ∧ ∀ j, j < i → p1.getD j d = p2.getD j d) p1.length ⟨rfl, by omega⟩ ?_ ?_
  · rintro i _ hi ⟨rfl, hj⟩ Kb hKb
    refine br_t (by simp [len_eq]; exact hi) ⟨by simp [inB_nat]; exact hi, by simp [inB_nat]; omega, br (fun h => ?_) fun h => ?_⟩
    · simp at h
      have : p1 ≠ p2 := fun e => h (by rw [e])
      simpa [this] using hK
    · simp at h
      refine hKb _ ⟨by rw [iadd_nat (by omega)], fun j hji => ?_⟩
      rcases Nat.lt_succ_iff_lt_or_eq.1 hji with e | e
      · exact hj j e
      · subst e; exact h
  · rintro _ ⟨rfl, hj⟩ Kb
    refine br_f (by simp [len_eq]) ?_
    have := eqL_iff d p1 p2 hl hj
    simpa [this] using hK
theorem eqGate {α : Type} [DecidableEq α] {p1 p2 : List α} {K : Bool → Prop} {P : Prop} (hK : K (decide (p1 = p2))) (h : p1.length = p2.length → P) :
    (((len p1) != (len p2)) = true → (K false)) ∧ (((len p1) != (len p2)) = false → P) := by
  refine br (fun e => ?_) fun e => h ?_
  · have : p1 ≠ p2 := by rintro rfl; simp at e
    simpa [this] using hK
  · simp [len_eq] at e; omega
/-- A list is copied, element by element. -/
theorem cpLoop {α : Type} (d : α) (p1 : List α) (hb : p1.length < 2 ^ 62) (K : List α → Prop) (hK : K p1) :
    (LoopP (S := List α × Int × List α) (fun s1 Kb1 Kx1 =>
(((decide (s1.2.1 < (len s1.1))) = true →
((inB s1.2.1 (List.length s1.1)) ∧
((inB s1.2.1 (List.length s1.2.2)) ∧
(Kb1 (s1.1, (iadd s1.2.1 1), (uL s1.2.2 s1.2.1 (s1.1.getD s1.2.1.toNat d))))))) ∧
((decide (s1.2.1 < (len s1.1))) = false →
(Kx1 (s1.1, s1.2.1, s1.2.2)))))
(p1, 0, (List.replicate (Int.toNat (len p1)) d)) fun s1 => (K s1.2.2)) := by
  refine LoopP_for (fun i s => ∃ t, s = (p1, (i : Int), t) ∧ t.length = p1.length ∧ ∀ j, j < i → t.getD j d = p1.getD j d) p1.length ⟨_, rfl, by simp [len_eq], by omega⟩ ?_ ?_
  · rintro i _ hi ⟨t, rfl, ht, hj⟩ Kb hKb
    refine br_t (by simp [len_eq]; exact hi) ⟨by simp [inB_nat]; exact hi, by simp [inB_nat]; omega, hKb _ ⟨_, by rw [iadd_nat (by omega)], ?_, fun j hji => ?_⟩⟩
    · simp [uL, ht]
    · simp only [uL_nat, Int.toNat_natCast]
      rw [List.getD_eq_getElem?_getD, List.getElem?_set]
      by_cases e : i = j
      · subst e; simp [ht, hi]
      · rw [if_neg e, ← List.getD_eq_getElem?_getD]; exact hj j (by omega)
  · rintro _ ⟨t, rfl, ht, hj⟩ Kb
    refine br_f (by simp [len_eq]) ?_
    rw [show p1 = t from (eqL_iff d t p1 ht (fun j h => hj j (by omega))).symm] at hK
    exact hK
theorem L_szIntS {p : List Int} {n : Int} {K : Int → Prop} (h0 : 0 ≤ n) (hn : n ≤ 1048576) (hp : p.length ≤ maxLen) (h1 : K (-1)) (h2 : ∀ y, 0 ≤ y → y ≤ n → p.length ≤ 1048576 → K y) : Ml_szIntS p n K := by
  have hs : isub n (len p) = n - p.length := by rw [isub_eq] <;> simp only [len_eq] <;> simp only [maxLen] at hp <;> omega
  unfold Ml_szIntS
  rw [hs]
  refine br (fun _ => h1) fun h => ?_
  simp at h
  exact h2 _ (by omega) (by omega) (by omega)
theorem L_szBoolS {p : List Bool} {n : Int} {K : Int → Prop} (h0 : 0 ≤ n) (hn : n ≤ 1048576) (hp : p.length ≤ maxLen) (h1 : K (-1)) (h2 : ∀ y, 0 ≤ y → y ≤ n → p.length ≤ 1048576 → K y) : Ml_szBoolS p n K := by
  have hs : isub n (len p) = n - p.length := by rw [isub_eq] <;> simp only [len_eq] <;> simp only [maxLen] at hp <;> omega
  unfold Ml_szBoolS
  rw [hs]
  refine br (fun _ => h1) fun h => ?_
  simp at h
  exact h2 _ (by omega) (by omega) (by omega)
theorem szStep {y : Int} {P Q : Prop} (hy : 0 ≤ y) (h : Q) : (decide (y < 0) = true → P) ∧ (decide (y < 0) = false → Q) := br_f (by simp; omega) h
theorem szStop {P Q : Prop} (h : P) : (decide ((-1 : Int) < 0) = true → P) ∧ (decide ((-1 : Int) < 0) = false → Q) := br_t (by decide) h
theorem L_szHeap {p q r : List Int} {n : Int} {K : Int → Prop} (h0 : 0 ≤ n) (hn : n ≤ 1048576) (hp : p.length ≤ maxLen) (hq : q.length ≤ maxLen) (hr : r.length ≤ maxLen) (h1 : K (-1))
    (h2 : ∀ y, 0 ≤ y → y ≤ n → p.length ≤ 1048576 → q.length ≤ 1048576 → r.length ≤ 1048576 → K y) : Ml_szHeap p q r n K := by
  unfold Ml_szHeap
  refine L_szIntS h0 hn hp (szStop h1) fun y a1 b1 c1 => szStep a1 ?_
  refine L_szIntS a1 (by omega) hq (szStop h1) fun z a2 b2 c2 => szStep a2 ?_
  exact L_szIntS a2 (by omega) hr (szStop h1) fun w a3 b3 c3 => szStep a3 (h2 w a3 (by omega) c1 c2 c3)
theorem L_szGens {p q r s : List Int} {o : List Bool} {n : Int} {K : Int → Prop} (h0 : 0 ≤ n) (hn : n ≤ 1048576) (hp : p.length ≤ maxLen) (hq : q.length ≤ maxLen) (hr : r.length ≤ maxLen) (ho : o.length ≤ maxLen) (hs : s.length ≤ maxLen) (h1 : K (-1))
    (h2 : ∀ y, 0 ≤ y → y ≤ n → p.length ≤ 1048576 → q.length ≤ 1048576 → r.length ≤ 1048576 → o.length ≤ 1048576 → s.length ≤ 1048576 → K y) : Ml_szGens p q r o s n K := by
  unfold Ml_szGens
  refine L_szHeap h0 hn hp hq hr (szStop h1) fun y a1 b1 c1 c2 c3 => szStep a1 ?_
  refine L_szBoolS a1 (by omega) ho (szStop h1) fun z a2 b2 c4 => szStep a2 ?_
  exact L_szIntS a2 (by omega) hs (szStop h1) fun w a3 b3 c5 => szStep a3 (h2 w a3 (by omega) c1 c2 c3 c4 c5)
theorem L_toIntS {p : List Int} {K : List Int → Prop} (hp : p.length ≤ 1048576) (hK : K p) : Ml_toIntS p K :=
  ⟨⟨by simp [len_eq], rfl, by simp [len_eq]; omega⟩, cpLoop (0 : Int) p (by omega) K hK⟩
theorem L_toBoolS {p : List Bool} {K : List Bool → Prop} (hp : p.length ≤ 1048576) (hK : K p) : Ml_toBoolS p K :=
  ⟨⟨by simp [len_eq], rfl, by simp [len_eq]; omega⟩, cpLoop false p (by omega) K hK⟩
theorem L_toHeap {p q r : List Int} {K : List Int → List Int → List Int → Prop} (hp : p.length ≤ 1048576) (hq : q.length ≤ 1048576) (hr : r.length ≤ 1048576) (hK : K p q r) : Ml_toHeap p q r K :=
  L_toIntS hp (L_toIntS hq (L_toIntS hr hK))
theorem L_toGens {p q r s : List Int} {o : List Bool} {K : List Int → List Int → List Int → List Bool → List Int → Prop} (hp : p.length ≤ 1048576) (hq : q.length ≤ 1048576) (hr : r.length ≤ 1048576) (ho : o.length ≤ 1048576) (hs : s.length ≤ 1048576) (hK : K p q r o s) : Ml_toGens p q r o s K :=
  L_toHeap hp hq hr (L_toBoolS ho (L_toIntS hs hK))
theorem L_l1Ints {p q : List Int} {K : Bool → Prop} (hp : p.length < 2 ^ 62) (hK : K (decide (p = q))) : Ms_l1Ints p q K := eqGate hK fun hl => eqLoop3 0 p q hp K hK hl
theorem L_eqIntS {p q : List Int} {K : Bool → Prop} (hp : p.length < 2 ^ 62) (hK : K (decide (p = q))) : Ml_eqIntS p q K := eqGate hK fun hl => eqLoop3 0 p q hp K hK hl
theorem L_eqBoolS {p q : List Bool} {K : Bool → Prop} (hp : p.length < 2 ^ 62) (hK : K (decide (p = q))) : Ml_eqBoolS p q K := eqGate hK fun hl => eqLoop3 false p q hp K hK hl
theorem L_Equal_int {p q : List Int} {K : Bool → Prop} (hp : p.length < 2 ^ 62) (hK : K (decide (p = q))) : M_Equal_int p q K := eqGate hK fun hl => eqLoop4 0 p q hp K hK hl
theorem step_t {b : Bool} {P Q : Prop} (h : b = true) (hq : Q) : ((!b) = true → P) ∧ ((!b) = false → Q) := br_f (by simp [h]) hq
theorem L_eqHeap_same {p q r : List Int} {K : Bool → Prop} (hp : p.length < 2 ^ 62) (hq : q.length < 2 ^ 62) (hr : r.length < 2 ^ 62) (hK : K true) : Ml_eqHeap p q r p q r K :=
  L_eqIntS hp (step_t (by simp) (L_eqIntS hq (step_t (by simp) (L_eqIntS hr (step_t (by simp) hK)))))
theorem L_eqGens_same {p q r s : List Int} {o : List Bool} {K : Bool → Prop} (hp : p.length < 2 ^ 62) (hq : q.length < 2 ^ 62) (hr : r.length < 2 ^ 62) (ho : o.length < 2 ^ 62) (hs : s.length < 2 ^ 62) (hK : K true) : Ml_eqGens p q r o s p q r o s K :=
  L_eqHeap_same hp hq hr (step_t rfl (L_eqBoolS ho (step_t (by simp) (L_eqIntS hs (step_t (by simp) hK)))))
def seqI (k : Int) (n : Nat) : List Int := (List.range n).map fun (i : Nat) => k + i
def seqB (k : Int) (n : Nat) : List Bool := (List.range n).map fun (i : Nat) => (k + i).tmod 3 == 0
theorem seqI_getD {k : Int} {n j : Nat} (h : j < n) : (seqI k n).getD j 0 = k + j := by simp [seqI, List.getD_eq_getElem?_getD, h]
theorem seqB_getD {k : Int} {n j : Nat} (h : j < n) : (seqB k n).getD j false = ((k + j).tmod 3 == 0) := by simp [seqB, List.getD_eq_getElem?_getD, h]
@[simp] theorem seqI_len (k : Int) (n : Nat) : (seqI k n).length = n := by simp [seqI]
@[simp] theorem seqB_len (k : Int) (n : Nat) : (seqB k n).length = n := by simp [seqB]
theorem L_markIntS {k : Int} {p : List Int} {K : Int → List Int → Prop} (h0 : 0 ≤ k) (hk : k < 2 ^ 60) (hp : p.length < 2 ^ 60) (hK : K (k + p.length) (seqI k p.length)) : Ml_markIntS k p K := by
  unfold Ml_markIntS
  refine LoopP_for (fun i s => ∃ t, s = (k + (i : Int), (i : Int), t) ∧ t.length = p.length ∧ ∀ j, j < i → t.getD j 0 = k + j) p.length ⟨p, by simp, rfl, by omega⟩ ?_ ?_
  · rintro i _ hi ⟨t, rfl, ht, hj⟩ Kb hKb
    refine br_t (by simp [len_eq, ht]; exact hi) ⟨by simp [inB_nat, ht]; exact hi, hKb _ ⟨uL t i (k + i), ?_, by simp [uL, ht], fun j hji => ?_⟩⟩
    · simp only [Prod.mk.injEq, and_true]
      refine ⟨?_, iadd_nat (by omega)⟩
      rw [iadd_eq] <;> push_cast <;> omega
    · simp only [uL_nat]
      rw [List.getD_eq_getElem?_getD, List.getElem?_set]
      by_cases e : i = j
      · subst e; simp [ht, hi]
      · rw [if_neg e, ← List.getD_eq_getElem?_getD]; exact hj j (by omega)
  · rintro _ ⟨t, rfl, ht, hj⟩ Kb
    refine br_f (by simp [len_eq, ht]) ?_
    have : t = seqI k p.length := eqL_iff 0 _ _ (by simp [ht]) fun j h => by rw [hj j (by omega), seqI_getD (by omega)]
    subst this
    exact hK
theorem L_markBoolS {k : Int} {p : List Bool} {K : Int → List Bool → Prop} (h0 : 0 ≤ k) (hk : k < 2 ^ 60) (hp : p.length < 2 ^ 60) (hK : K (k + p.length) (seqB k p.length)) : Ml_markBoolS k p K := by
  unfold Ml_markBoolS
  refine LoopP_for (fun i s => ∃ t, s = (k + (i : Int), (i : Int), t) ∧ t.length = p.length ∧ ∀ j, j < i → t.getD j false = ((k + j).tmod 3 == 0)) p.length ⟨p, by simp, rfl, by omega⟩ ?_ ?_
  · rintro i _ hi ⟨t, rfl, ht, hj⟩ Kb hKb
    refine br_t (by simp [len_eq, ht]; exact hi) ⟨by decide, by simp [inB_nat, ht]; exact hi, hKb _ ⟨uL t i ((k + i).tmod 3 == 0), ?_, by simp [uL, ht], fun j hji => ?_⟩⟩
    · simp only [Prod.mk.injEq, and_true]
      refine ⟨?_, iadd_nat (by omega)⟩
      rw [iadd_eq] <;> push_cast <;> omega
    · simp only [uL_nat]
      rw [List.getD_eq_getElem?_getD, List.getElem?_set]
      by_cases e : i = j
      · subst e; simp [ht, hi]
      · rw [if_neg e, ← List.getD_eq_getElem?_getD]; exact hj j (by omega)
  · rintro _ ⟨t, rfl, ht, hj⟩ Kb
    refine br_f (by simp [len_eq, ht]) ?_
    have : t = seqB k p.length := eqL_iff false _ _ (by simp [ht]) fun j h => by rw [hj j (by omega), seqB_getD (by omega)]
    subst this
    exact hK
theorem L_heldIntS {k : Int} {n : Nat} {K : Int → Prop} (h0 : 0 ≤ k) (hk : k < 2 ^ 60) (hn : n < 2 ^ 60) (hK : K (k + n)) : Ml_heldIntS (seqI k n) k K := by
  unfold Ml_heldIntS
  refine LoopP_for (fun i s => s = (seqI k n, k + (i : Int), (i : Int))) n (by simp) ?_ ?_
  · rintro i _ hi rfl Kb hKb
    refine br_t (by simp [len_eq]; exact hi) ⟨by simp [inB_nat]; exact hi, br_f (by simp only [gI_nat, seqI_getD hi, bne_self_eq_false]) (hKb _ ?_)⟩
    simp only [Prod.mk.injEq, true_and]
    refine ⟨?_, iadd_nat (by omega)⟩
    rw [iadd_eq] <;> push_cast <;> omega
  · rintro _ rfl Kb
    exact br_f (by simp [len_eq]) hK
theorem L_markHeap {k : Int} {p q r : List Int} {K : Int → List Int → List Int → List Int → Prop} (h0 : 0 ≤ k) (hk : k < 2 ^ 58) (hp : p.length < 2 ^ 58) (hq : q.length < 2 ^ 58) (hr : r.length < 2 ^ 58)
    (hK : K (k + p.length + q.length + r.length) (seqI k p.length) (seqI (k + p.length) q.length) (seqI (k + p.length + q.length) r.length)) : Ml_markHeap k p q r K :=
  L_markIntS h0 (by omega) (by omega) (L_markIntS (by omega) (by omega) (by omega) (L_markIntS (by omega) (by omega) (by omega) hK))
theorem L_markGens {k : Int} {p q r s : List Int} {o : List Bool} {K : Int → List Int → List Int → List Int → List Bool → List Int → Prop} (h0 : 0 ≤ k) (hk : k < 2 ^ 56) (hp : p.length < 2 ^ 56) (hq : q.length < 2 ^ 56) (hr : r.length < 2 ^ 56) (ho : o.length < 2 ^ 56) (hs : s.length < 2 ^ 56)
    (hK : K (k + p.length + q.length + r.length + o.length + s.length) (seqI k p.length) (seqI (k + p.length) q.length) (seqI (k + p.length + q.length) r.length) (seqB (k + p.length + q.length + r.length) o.length) (seqI (k + p.length + q.length + r.length + o.length) s.length)) : Ml_markGens k p q r o s K :=
  L_markHeap h0 (by omega) (by omega) (by omega) (by omega) (L_markBoolS (by omega) (by omega) (by omega) (L_markIntS (by omega) (by omega) (by omega) hK))
def okP (n : Nat) (x : Int) : Prop := -1 ≤ x ∧ x < n
instance (n : Nat) (x : Int) : Decidable (okP n x) := inferInstanceAs (Decidable (_ ∧ _))
/-- A valid heap. -/
structure HVp (l r ro : List Int) : Prop where
  lr : l.length = r.length
  l1 : 1 ≤ l.length
  l8 : l.length ≤ 8
  r1 : 1 ≤ ro.length
  r3 : ro.length ≤ 3
  okl : ∀ x ∈ l, okP l.length x
  okr : ∀ x ∈ r, okP l.length x
  oko : ∀ x ∈ ro, okP l.length x
instance (l r ro : List Int) : Decidable (HVp l r ro) :=
  decidable_of_iff (l.length = r.length ∧ 1 ≤ l.length ∧ l.length ≤ 8 ∧ 1 ≤ ro.length ∧ ro.length ≤ 3 ∧ (∀ x ∈ l, okP l.length x) ∧ (∀ x ∈ r, okP l.length x) ∧ (∀ x ∈ ro, okP l.length x))
    ⟨fun ⟨a, b, c, d, e, f, g, h⟩ => ⟨a, b, c, d, e, f, g, h⟩, fun ⟨a, b, c, d, e, f, g, h⟩ => ⟨a, b, c, d, e, f, g, h⟩⟩
theorem all_getD {α : Type} (d : α) {l : List α} {p : α → Prop} (h : ∀ j, j < l.length → p (l.getD j d)) : ∀ x ∈ l, p x := by
  intro x hx
  obtain ⟨i, hi, rfl⟩ := List.getElem_of_mem hx
  have := h i hi
  rwa [getD_lt hi] at this
theorem getD_mem {α : Type} (d : α) {l : List α} {i : Nat} (h : i < l.length) : l.getD i d ∈ l := by rw [getD_lt h]; exact List.getElem_mem h
theorem L_l1Points {a : Int} {n : Nat} {K : Bool → Prop} (hK : K (decide (okP n a))) : Ms_l1Points a n K := by
  refine br (fun h => ?_) fun h => ?_
  · simp at h; simpa [okP, h] using hK
  · simp at h; rw [decide_eq_false (fun hh => by have := hh.1; omega)] at hK; exact hK
theorem L_sHeapValid {l r ro : List Int} {K : Bool → Prop} (hK : K (decide (HVp l r ro))) : Ms_HeapValid l r ro K := by
  have no : ¬ HVp l r ro → K false := fun h => by rwa [decide_eq_false h] at hK
  have yes : HVp l r ro → K true := fun h => by rwa [decide_eq_true h] at hK
  refine br (fun h => no fun hh => ?_) fun h1 => br (fun h => no fun hh => ?_) fun h2 => br (fun h => no fun hh => ?_) fun h3 => br (fun h => no fun hh => ?_) fun h4 => br (fun h => no fun hh => ?_) fun h5 => ?_
  · have := hh.l1; replace h := of_decide_eq_true h; simp only [len_eq] at h; omega
  · have := hh.l8; simp [len_eq] at h; omega
  · have := hh.lr; simp [len_eq] at h; omega
  · have := hh.r1; replace h := of_decide_eq_true h; simp only [len_eq] at h; omega
  · have := hh.r3; simp [len_eq] at h; omega
  replace h1 : 1 ≤ l.length := by have := of_decide_eq_false h1; simp only [len_eq] at this; omega
  replace h2 : l.length ≤ 8 := by have := of_decide_eq_false h2; simp only [len_eq] at this; omega
  replace h3 : r.length = l.length := by simp [len_eq] at h3; omega
  replace h4 : 1 ≤ ro.length := by have := of_decide_eq_false h4; simp only [len_eq] at this; omega
  replace h5 : ro.length ≤ 3 := by have := of_decide_eq_false h5; simp only [len_eq] at this; omega
  refine LoopP_for (fun i s => s = (len l, (i : Int), l, r, ro) ∧ ∀ j, j < i → okP l.length (l.getD j 0) ∧ okP l.length (r.getD j 0)) l.length ⟨rfl, by omega⟩ ?_ ?_
  · rintro i _ hi ⟨rfl, hj⟩ Kb hKb
    refine br_t (by simp [len_eq]; exact hi) ⟨by simp [inB_nat]; exact hi, ?_⟩
    refine L_l1Points (br (fun h => no fun hh => ?_) fun h => ⟨by simp [inB_nat]; omega, L_l1Points (br (fun h' => no fun hh => ?_) fun h' => hKb _ ⟨by rw [iadd_nat (by omega)], fun j hji => ?_⟩)⟩)
    · simp [-List.getD_eq_getElem?_getD, gI_nat] at h; exact h (hh.okl _ (getD_mem 0 hi))
    · simp [-List.getD_eq_getElem?_getD, gI_nat] at h'; exact h' (hh.okr _ (getD_mem 0 (by omega)))
    · simp [-List.getD_eq_getElem?_getD, gI_nat] at h h'
      rcases Nat.lt_succ_iff_lt_or_eq.1 hji with e | e
      · exact hj j e
      · subst e; exact ⟨h, h'⟩
  · rintro _ ⟨rfl, hj⟩ Kb
    refine br_f (by simp [len_eq]) ?_
    refine LoopP_for (fun i s => s = (len l, (i : Int), l, r, ro) ∧ ∀ j, j < i → okP l.length (ro.getD j 0)) ro.length ⟨rfl, by omega⟩ ?_ ?_
    · rintro i _ hi ⟨rfl, hk⟩ Kb hKb
      refine br_t (by simp [len_eq]; exact hi) ⟨by simp [inB_nat]; exact hi, ?_⟩
      refine L_l1Points (br (fun h => no fun hh => ?_) fun h => hKb _ ⟨by rw [iadd_nat (by omega)], fun j hji => ?_⟩)
      · simp [-List.getD_eq_getElem?_getD, gI_nat] at h; exact h (hh.oko _ (getD_mem 0 hi))
      · simp [-List.getD_eq_getElem?_getD, gI_nat] at h
        rcases Nat.lt_succ_iff_lt_or_eq.1 hji with e | e
        · exact hk j e
        · subst e; exact h
    · rintro _ ⟨rfl, hk⟩ Kb
      refine br_f (by simp [len_eq]) (yes ⟨h3.symm, h1, h2, h4, h5, all_getD 0 fun j h => (hj j h).1, all_getD 0 fun j h => (hj j (by omega)).2, all_getD 0 hk⟩)
theorem L_iHeapValid {l r ro : List Int} {K : Bool → Prop} (hK : K (decide (HVp l r ro))) : Mi_HeapValid l r ro K := by
  have no : ¬ HVp l r ro → K false := fun h => by rwa [decide_eq_false h] at hK
  have yes : HVp l r ro → K true := fun h => by rwa [decide_eq_true h] at hK
  refine br (fun h => no fun hh => ?_) fun h3 => br (fun h => no fun hh => ?_) fun h1 => br (fun h => no fun hh => ?_) fun h2 => br (fun h => no fun hh => ?_) fun h4 => br (fun h => no fun hh => ?_) fun h5 => ?_
  · have := hh.lr; simp [len_eq] at h; omega
  · have := hh.l1; replace h := of_decide_eq_true h; simp only [len_eq] at h; omega
  · have := hh.l8; simp [len_eq] at h; omega
  · have := hh.r1; replace h := of_decide_eq_true h; simp only [len_eq] at h; omega
  · have := hh.r3; simp [len_eq] at h; omega
  replace h1 : 1 ≤ l.length := by have := of_decide_eq_false h1; simp only [len_eq] at this; omega
  replace h2 : l.length ≤ 8 := by have := of_decide_eq_false h2; simp only [len_eq] at this; omega
  replace h3 : r.length = l.length := by simp [len_eq] at h3; omega
  replace h4 : 1 ≤ ro.length := by have := of_decide_eq_false h4; simp only [len_eq] at this; omega
  replace h5 : ro.length ≤ 3 := by have := of_decide_eq_false h5; simp only [len_eq] at this; omega
  have hlen : ∀ i, i < 3 → (([l, r, ro] : List (List Int)).getD i []).length ≤ 8 := by
    intro i hi
    match i, hi with
    | 0, _ => exact h2
    | 1, _ => show r.length ≤ 8; omega
    | 2, _ => show ro.length ≤ 8; omega
  have hmem : HVp l r ro → ∀ i, i < 3 → ∀ x ∈ ([l, r, ro] : List (List Int)).getD i [], okP l.length x := by
    intro hh i hi
    match i, hi with
    | 0, _ => exact hh.okl
    | 1, _ => exact hh.okr
    | 2, _ => exact hh.oko
  refine LoopP_for (fun i s => s = (3, (i : Int), l, r, ro, [l, r, ro]) ∧ ∀ j, j < i → ∀ x ∈ ([l, r, ro] : List (List Int)).getD j [], okP l.length x) 3 ⟨rfl, by omega⟩ ?_ ?_
  · rintro i _ hi ⟨rfl, hj⟩ Kb hKb
    have hg : gL [l, r, ro] (i : Int) = ([l, r, ro] : List (List Int)).getD i [] := by simp [gL, EK.dflt]
    refine br_t (by simp; omega) ⟨by simp [inB_nat]; exact hi, ?_⟩
    simp only [hg]
    have hl := hlen i hi
    have hm := fun hh => hmem hh i hi
    generalize hq : ([l, r, ro] : List (List Int)).getD i [] = q at hl hm
    refine LoopP_for (fun k s => s = (3, (i : Int), q, len q, (k : Int), l, r, ro, [l, r, ro]) ∧ ∀ j, j < k → okP l.length (q.getD j 0)) q.length ⟨rfl, by omega⟩ ?_ ?_
    · rintro k _ hk ⟨rfl, hkj⟩ Kb' hKb'
      refine br_t (by simp [len_eq]; exact hk) ⟨by simp [inB_nat]; exact hk, br (fun h => no fun hh => ?_) fun h => br (fun h' => no fun hh => ?_) fun h' => hKb' _ ⟨by rw [iadd_nat (by omega)], fun j hji => ?_⟩⟩
      · have := of_decide_eq_true h; simp only [gI_nat] at this; have := (hm hh _ (getD_mem 0 hk)).1; omega
      · have := of_decide_eq_true h'; simp only [gI_nat, len_eq] at this; have := (hm hh _ (getD_mem 0 hk)).2; omega
      · have a := of_decide_eq_false h
        have b := of_decide_eq_false h'
        simp only [gI_nat, len_eq] at a b
        rcases Nat.lt_succ_iff_lt_or_eq.1 hji with e | e
        · exact hkj j e
        · subst e; exact ⟨by omega, by omega⟩
    · rintro _ ⟨rfl, hkj⟩ Kb'
      refine br_f (by simp [len_eq]) (hKb _ ⟨by rw [iadd_nat (by omega)], fun j hji => ?_⟩)
      rcases Nat.lt_succ_iff_lt_or_eq.1 hji with e | e
      · exact hj j e
      · subst e; rw [hq]; exact all_getD 0 hkj
  · rintro _ ⟨rfl, hj⟩ Kb
    refine br_f (by simp) (yes ⟨h3.symm, h1, h2, h4, h5, hj 0 (by omega), hj 1 (by omega), hj 2 (by omega)⟩)
theorem HVp.gl {l r ro : List Int} (h : HVp l r ro) {i : Nat} (hi : i < l.length) : okP l.length (l.getD i 0) := h.okl _ (getD_mem 0 hi)
theorem HVp.gr {l r ro : List Int} (h : HVp l r ro) {i : Nat} (hi : i < l.length) : okP l.length (r.getD i 0) := h.okr _ (getD_mem 0 (by rw [← h.lr]; exact hi))
/-- Does a pointer lead to a young cell? -/
def yg (old : List Bool) (x : Int) : Bool := x != -1 && !(old.getD x.toNat false)
theorem L_l11Young {old : List Bool} {x : Int} {K : Bool → Prop} (hx : okP old.length x) (hK : K (yg old x)) : Ms_l11Young old x K := by
  refine br (fun h => ⟨⟨?_, hx.2⟩, ?_⟩) fun h => ?_
  · have := hx.1; simp at h; omega
  · simpa [yg, h, gB, EK.dflt] using hK
  · simpa [yg, h] using hK
theorem L_remembered_1 {old : List Bool} {x : Int} {K : Bool → Prop} (hx : okP old.length x) (hK : K (yg old x)) : Mi_remembered_1 x old K := by
  refine br (fun h => ⟨⟨?_, hx.2⟩, ?_⟩) fun h => ?_
  · have := hx.1; simp at h; omega
  · simpa [yg, h, gB, EK.dflt] using hK
  · simpa [yg, h] using hK
/-- Is an old cell remembered? -/
def isRem (l r : List Int) (old : List Bool) (i : Nat) : Bool := old.getD i false && (yg old (l.getD i 0) || yg old (r.getD i 0))
def remU (l r : List Int) (old : List Bool) (n : Nat) : List Int := ((List.range n).filter (isRem l r old)).map fun (i : Nat) => (i : Int)
def rem (l r : List Int) (old : List Bool) : List Int := remU l r old old.length
theorem remU_succ (l r : List Int) (old : List Bool) (n : Nat) : remU l r old (n + 1) = if isRem l r old n then remU l r old n ++ [(n : Int)] else remU l r old n := by
  unfold remU
  rw [List.range_succ, List.filter_append]
  cases h : isRem l r old n <;> simp [h]
theorem remU_len (l r : List Int) (old : List Bool) (n : Nat) : (remU l r old n).length ≤ n := by
  unfold remU
  rw [List.length_map]
  exact Nat.le_trans (List.length_filter_le _ _) (by simp)
theorem L_l11Remember {l r ro : List Int} {old : List Bool} {K : List Int → Prop} (hv : HVp l r ro) (ho : old.length = l.length) (hK : K (rem l r old)) : Ms_l11Remember l r ro old K := by
  have h8 := hv.l8
  refine LoopP_for (fun i s => s = (old, (i : Int), l, r, ro, remU l r old i)) old.length rfl ?_ ?_
  · rintro i _ hi rfl Kb hKb
    have hlen := remU_len l r old i
    have hs := remU_succ l r old i
    have e : iadd (i : Int) 1 = ((i + 1 : Nat) : Int) := iadd_nat (by omega)
    refine br_t (by simp [len_eq]; exact hi) ⟨by simp [inB_nat]; exact hi, br (fun h => ?_) fun h => ?_⟩
    · simp only [gB_nat] at h
      refine ⟨by simp [inB_nat]; omega, L_l11Young (by simp only [gI_nat]; rw [ho]; exact hv.gl (by omega)) (br (fun h1 => ⟨by simp; omega, hKb _ ?_⟩) fun h1 => ⟨by have := hv.lr; simp [inB_nat]; omega, L_l11Young (by simp only [gI_nat]; rw [ho]; exact hv.gr (by omega)) (br (fun h2 => ⟨by simp; omega, hKb _ ?_⟩) fun h2 => hKb _ ?_)⟩)⟩
      · simp only [gI_nat] at h1; rw [e, hs, if_pos (by simp only [isRem, h, h1, Bool.true_or, Bool.and_true])]
      · simp only [gI_nat] at h1 h2; rw [e, hs, if_pos (by simp only [isRem, h, h1, h2, Bool.or_true, Bool.and_true])]
      · simp only [gI_nat] at h1 h2; rw [e, hs, if_neg (by simp only [isRem, h1, h2, Bool.or_false, Bool.and_false]; simp)]
    · simp only [gB_nat] at h
      refine hKb _ ?_
      rw [e, hs, if_neg (by simp only [isRem, h, Bool.false_and]; simp)]
  · rintro _ rfl Kb
    exact br_f (by simp [len_eq]) hK
theorem L_remembered {l r ro : List Int} {old : List Bool} {K : List Int → Prop} (hv : HVp l r ro) (ho : old.length = l.length) (hK : K (rem l r old)) : Mi_remembered l r ro old K := by
  have h8 := hv.l8
  refine LoopP_for (fun i s => s = (old, len old, (i : Int), l, r, ro, old, remU l r old i)) old.length rfl ?_ ?_
  · rintro i _ hi rfl Kb hKb
    have hlen := remU_len l r old i
    have hs := remU_succ l r old i
    have e : iadd (i : Int) 1 = ((i + 1 : Nat) : Int) := iadd_nat (by omega)
    refine br_t (by simp [len_eq]; exact hi) ⟨by simp [inB_nat]; exact hi, br (fun h => ?_) fun h => ?_⟩
    · simp only [gB_nat] at h
      refine ⟨by simp [inB_nat]; omega, L_remembered_1 (by simp only [gI_nat]; rw [ho]; exact hv.gl (by omega)) (br (fun h1 => ⟨by simp; omega, hKb _ ?_⟩) fun h1 => ⟨by have := hv.lr; simp [inB_nat]; omega, L_remembered_1 (by simp only [gI_nat]; rw [ho]; exact hv.gr (by omega)) (br (fun h2 => ⟨by simp; omega, hKb _ ?_⟩) fun h2 => hKb _ ?_)⟩)⟩
      · simp only [gI_nat] at h1; rw [e, hs, if_pos (by simp only [isRem, h, h1, Bool.true_or, Bool.and_true])]
      · simp only [gI_nat] at h1 h2; rw [e, hs, if_pos (by simp only [isRem, h, h1, h2, Bool.or_true, Bool.and_true])]
      · simp only [gI_nat] at h1 h2; rw [e, hs, if_neg (by simp only [isRem, h1, h2, Bool.or_false, Bool.and_false]; simp)]
    · simp only [gB_nat] at h
      refine hKb _ ?_
      rw [e, hs, if_neg (by simp only [isRem, h, Bool.false_and]; simp)]
  · rintro _ rfl Kb
    exact br_f (by simp [len_eq]) hK
/-- Valid generations. -/
structure GVp (l r ro : List Int) (old : List Bool) (re : List Int) : Prop where
  h : HVp l r ro
  o : old.length = l.length
  m : re = rem l r old
instance (l r ro : List Int) (old : List Bool) (re : List Int) : Decidable (GVp l r ro old re) := decidable_of_iff (HVp l r ro ∧ old.length = l.length ∧ re = rem l r old) ⟨fun ⟨a, b, c⟩ => ⟨a, b, c⟩, fun ⟨a, b, c⟩ => ⟨a, b, c⟩⟩
theorem L_sGensValid {l r ro re : List Int} {old : List Bool} {K : Bool → Prop} (hr : re.length < 2 ^ 62) (hK : K (decide (GVp l r ro old re))) : Ms_GensValid l r ro old re K := by
  have no : ¬ GVp l r ro old re → K false := fun h => by rwa [decide_eq_false h] at hK
  refine L_sHeapValid (br (fun h1 => br (fun h2 => ?_) fun h2 => no fun hh => ?_) fun h1 => no fun hh => ?_)
  · have h1 := of_decide_eq_true h1
    have h2 : old.length = l.length := by simp [len_eq] at h2; omega
    refine L_l11Remember h1 h2 (L_l1Ints hr ?_)
    have : decide (re = rem l r old) = decide (GVp l r ro old re) := decide_eq_decide.2 ⟨fun h => ⟨h1, h2, h⟩, fun h => h.m⟩
    rw [this]; exact hK
  · have := hh.o; simp [len_eq] at h2; omega
  · exact of_decide_eq_false h1 hh.h
theorem L_iGensValid {l r ro re : List Int} {old : List Bool} {K : Bool → Prop} (hr : re.length < 2 ^ 62) (hK : K (decide (GVp l r ro old re))) : Mi_GensValid l r ro old re K := by
  have no : ¬ GVp l r ro old re → K false := fun h => by rwa [decide_eq_false h] at hK
  refine L_iHeapValid (br (fun h1 => br (fun h2 => ?_) fun h2 => no fun hh => ?_) fun h1 => no fun hh => ?_)
  · have h1 := of_decide_eq_true h1
    have h2 : old.length = l.length := by simp [len_eq] at h2; omega
    refine L_remembered h1 h2 (L_Equal_int hr ?_)
    have : decide (re = rem l r old) = decide (GVp l r ro old re) := decide_eq_decide.2 ⟨fun h => ⟨h1, h2, h⟩, fun h => h.m⟩
    rw [this]; exact hK
  · have := hh.o; simp [len_eq] at h2; omega
  · exact of_decide_eq_false h1 hh.h
theorem gI_at {l : List Int} {x : Int} : gI l x = l.getD x.toNat 0 := rfl
theorem L_Clone_int {l : List Int} {K : List Int → Prop} (hl : l.length ≤ 2 ^ 36) (hK : K l) : M_Clone_int l K := by
  intro b hb
  refine br (fun h => ?_) fun _ => ⟨hl, hK⟩
  have : l.length = 0 := Classical.byContradiction fun hh => by rw [hb hh] at h; cases h
  rwa [List.length_eq_zero_iff.1 this] at hK
theorem rem_len (l r : List Int) (old : List Bool) : (rem l r old).length ≤ old.length := remU_len l r old _
theorem GVp.old8 {l r ro re : List Int} {old : List Bool} (h : GVp l r ro old re) : old.length ≤ 8 := by rw [h.o]; exact h.h.l8
theorem GVp.re8 {l r ro re : List Int} {old : List Bool} (h : GVp l r ro old re) : re.length ≤ 8 := by rw [h.m]; have := rem_len l r old; have := h.old8; omega
theorem rem_get {l r : List Int} {old : List Bool} {i : Nat} (hi : i < (rem l r old).length) : ∃ c : Nat, (rem l r old).getD i 0 = c ∧ c < old.length ∧ isRem l r old c = true := by
  have hm := getD_mem 0 hi
  unfold rem remU at hm ⊢
  obtain ⟨c, hc, he⟩ := List.mem_map.1 hm
  have := List.mem_filter.1 hc
  exact ⟨c, he.symm, by simpa using this.1, this.2⟩
def yk (l r : List Int) (old : List Bool) : Nat → Nat → List Bool → List Int → List Bool
  | 0, i, kept, op => kept
  | f + 1, i, kept, op =>
    if i < op.length then
      (if yg old (op.getD i 0) = true ∧ kept.getD (op.getD i 0).toNat false = false then yk l r old f (i + 1) (kept.set (op.getD i 0).toNat true) (op ++ [l.getD (op.getD i 0).toNat 0, r.getD (op.getD i 0).toNat 0]) else yk l r old f (i + 1) kept op)
    else kept
def openL (l r ro re : List Int) : List Int := ro ++ re.flatMap fun c => [l.getD c.toNat 0, r.getD c.toNat 0]
def keptF (l r ro : List Int) (old : List Bool) (re : List Int) : List Bool := yk l r old ((openL l r ro re).length + 2 * old.length + 1) 0 (List.replicate old.length false) (openL l r ro re)
def idxs (kept : List Bool) (n : Nat) : List Int := ((List.range n).filter fun i => kept.getD i false).map fun (i : Nat) => (i : Int)
theorem idxs_succ (kept : List Bool) (n : Nat) : idxs kept (n + 1) = if kept.getD n false then idxs kept n ++ [(n : Int)] else idxs kept n := by
  unfold idxs
  rw [List.range_succ, List.filter_append]
  cases h : kept.getD n false <;> simp [-List.getD_eq_getElem?_getD, h]
theorem idxs_len (kept : List Bool) (n : Nat) : (idxs kept n).length ≤ n := by
  unfold idxs
  rw [List.length_map]
  exact Nat.le_trans (List.length_filter_le _ _) (by simp)
theorem count_set : ∀ {l : List Bool} {i : Nat}, i < l.length → l.getD i false = false → (l.set i true).count true = l.count true + 1
  | [], i, h, _ => by simp at h
  | a :: l, 0, _, h => by
    simp at h; subst h; simp
  | a :: l, i + 1, h, h1 => by
    have := count_set (l := l) (i := i) (by simpa using h) (by simpa using h1)
    rw [List.set_cons_succ, List.count_cons, List.count_cons, this]
    omega
theorem yk_len {l r : List Int} {old : List Bool} : ∀ (f i : Nat) (kept : List Bool) (op : List Int), (yk l r old f i kept op).length = kept.length
  | 0, i, kept, op => rfl
  | f + 1, i, kept, op => by
    simp only [yk]
    split
    · split
      · rw [yk_len]; simp
      · rw [yk_len]
    · rfl
theorem keptF_len (l r ro : List Int) (old : List Bool) (re : List Int) : (keptF l r ro old re).length = old.length := by simp [keptF, yk_len]
theorem openL_len (l r ro re : List Int) : (openL l r ro re).length = ro.length + 2 * re.length := by
  unfold openL
  rw [List.length_append]
  congr 1
  induction re with
  | nil => rfl
  | cons a re ih => simp only [List.flatMap_cons, List.length_append, List.length_cons, List.length_nil, ih]; omega
theorem openL_succ {l r ro re : List Int} {i : Nat} (h : i < re.length) : openL l r ro (re.take (i + 1)) = openL l r ro (re.take i) ++ [l.getD (re.getD i 0).toNat 0, r.getD (re.getD i 0).toNat 0] := by
  unfold openL
  rw [List.take_add_one, List.getElem?_eq_getElem h, getD_lt h, List.flatMap_append, List.append_assoc]
  simp
theorem yg_ok {old : List Bool} {x : Int} (hx : okP old.length x) (h : yg old x = true) : 0 ≤ x ∧ x < old.length := by
  simp only [yg, Bool.and_eq_true, bne_iff_ne] at h
  have := hx.1; have := hx.2
  exact ⟨by omega, by omega⟩
theorem openL_ok {l r ro re : List Int} {old : List Bool} (h : GVp l r ro old re) {i : Nat} (hi : i ≤ re.length) : ∀ x ∈ openL l r ro (re.take i), okP l.length x := by
  intro x hx
  unfold openL at hx
  rcases List.mem_append.1 hx with hx | hx
  · exact h.h.oko x hx
  · obtain ⟨c, hc, hx⟩ := List.mem_flatMap.1 hx
    have hc := List.mem_of_mem_take hc
    obtain ⟨j, hj, rfl⟩ := List.getElem_of_mem hc
    have hm := h.m
    subst hm
    obtain ⟨c, h1, h2, h3⟩ := rem_get hj
    rw [getD_lt hj] at h1
    rw [h1] at hx
    have h2 : c < l.length := by rw [← h.o]; exact h2
    simp only [Int.toNat_natCast, List.mem_cons, List.not_mem_nil, or_false] at hx
    rcases hx with rfl | rfl
    · exact h.h.gl h2
    · exact h.h.gr h2
theorem GVp.rget {l r ro re : List Int} {old : List Bool} (h : GVp l r ro old re) {i : Nat} (hi : i < re.length) : 0 ≤ re.getD i 0 ∧ re.getD i 0 < l.length := by
  have hm := h.m
  subst hm
  obtain ⟨c, h1, h2, h3⟩ := rem_get hi
  rw [h1]
  have := h.o
  omega
theorem ykStep {l r ro re : List Int} {old : List Bool} (h : GVp l r ro old re) {i f L0 : Nat} {kept : List Bool} {op : List Int} {F : List Bool} (hk : kept.length = l.length) (hop : ∀ x ∈ op, okP l.length x) (hi : i < op.length) (hc : op.length ≤ L0 + 2 * kept.count true)
    (hF : yk l r old (f + 1) i kept op = F) :
    (yg old (op.getD i 0) = true → kept.getD (op.getD i 0).toNat false = false → 0 ≤ op.getD i 0 ∧ op.getD i 0 < l.length ∧ (kept.set (op.getD i 0).toNat true).length = l.length ∧ (∀ x ∈ op ++ [l.getD (op.getD i 0).toNat 0, r.getD (op.getD i 0).toNat 0], okP l.length x) ∧
      (op ++ [l.getD (op.getD i 0).toNat 0, r.getD (op.getD i 0).toNat 0]).length ≤ L0 + 2 * (kept.set (op.getD i 0).toNat true).count true ∧ yk l r old f (i + 1) (kept.set (op.getD i 0).toNat true) (op ++ [l.getD (op.getD i 0).toNat 0, r.getD (op.getD i 0).toNat 0]) = F) ∧
    (¬ (yg old (op.getD i 0) = true ∧ kept.getD (op.getD i 0).toNat false = false) → yk l r old f (i + 1) kept op = F) := by
  have hx := hop _ (getD_mem 0 hi)
  constructor
  · intro h1 h2
    have hy := yg_ok (by rw [h.o]; exact hx) h1
    rw [h.o] at hy
    refine ⟨hy.1, hy.2, by simpa using hk, fun x hx => ?_, ?_, ?_⟩
    · rcases List.mem_append.1 hx with hx | hx
      · exact hop x hx
      · simp only [List.mem_cons, List.not_mem_nil, or_false] at hx
        rcases hx with rfl | rfl
        · exact h.h.gl (by omega)
        · exact h.h.gr (by omega)
    · rw [count_set (by omega) h2, List.length_append]
      simp only [List.length_cons, List.length_nil]
      omega
    · simpa only [yk, if_pos hi, if_pos (And.intro h1 h2)] using hF
  · intro hn
    simpa only [yk, if_pos hi, if_neg hn] using hF
theorem L_iYoungKept {l r ro re : List Int} {old : List Bool} {K : List Int → Prop} (hr : re.length < 2 ^ 62) (hy : GVp l r ro old re → K (idxs (keptF l r ro old re) old.length)) (hn : ¬ GVp l r ro old re → K []) : Mi_YoungKept l r ro old re K := by
  refine L_iGensValid hr (br (fun h => hn ?_) fun h => ?_)
  · simpa using h
  have h : GVp l r ro old re := by simpa using h
  have hK := hy h
  have h8 := h.h.l8; have h1 := h.h.l1; have h3 := h.h.r3; have hre := h.re8; have ho := h.o; have hlr := h.h.lr
  refine ⟨⟨by simp [len_eq], rfl, by simp only [len_eq]; omega⟩, L_Clone_int (by omega) ?_⟩
  refine LoopP_for (fun i s => s = (re, len re, (i : Int), l, r, ro, old, re, List.replicate (Int.toNat (len old)) false, openL l r ro (re.take i))) re.length (by simp [openL]) ?_ ?_
  · rintro i _ hi rfl Kb hKb
    have hg := h.rget hi
    have ht : (re.take i).length ≤ 8 := by rw [List.length_take]; omega
    have hol := openL_len l r ro (re.take i)
    refine br_t (by simp [len_eq]; exact hi) ⟨by rw [inB_nat]; exact hi, ⟨by simp only [gI_nat]; omega, by simp only [gI_nat]; omega⟩, ⟨by simp only [gI_nat]; omega, by simp only [gI_nat]; omega⟩, ?_, hKb _ ?_⟩
    · dsimp only [List.length_cons, List.length_nil]; omega
    · rw [iadd_nat (by omega), openL_succ hi]; simp only [gI_at, Int.toNat_natCast]
  rintro _ rfl Kb
  refine br_f (by simp [len_eq]) ?_
  simp only [List.take_length, len_eq, Int.toNat_natCast]
  have hol := openL_len l r ro re
  refine LoopP_inv (fun s => ∃ (i : Nat) (kept : List Bool) (op : List Int), s = ((i : Int), l, r, ro, old, re, kept, op) ∧ kept.length = l.length ∧ (∀ x ∈ op, okP l.length x) ∧ i ≤ op.length ∧ op.length ≤ (openL l r ro re).length + 2 * kept.count true ∧
    yk l r old ((openL l r ro re).length + 2 * old.length + 1 - i) i kept op = keptF l r ro old re) (fun s => (openL l r ro re).length + 2 * old.length + 1 - s.1.toNat) ?_ ⟨0, _, _, rfl, by simpa using ho, by have := openL_ok h (Nat.le_refl re.length); rwa [List.take_length] at this, by omega, by omega, rfl⟩
  rintro _ ⟨i, kept, op, rfl, hk, hop, hi, hc, hF⟩ Kb hKb
  have hcl : kept.count true ≤ l.length := by rw [← hk]; exact List.count_le_length
  have e1 : iadd (i : Int) 1 = ((i + 1 : Nat) : Int) := iadd_nat (by omega)
  have hm : i < op.length → (openL l r ro re).length + 2 * old.length + 1 - (i + 1) < (openL l r ro re).length + 2 * old.length + 1 - i := by omega
  refine br (fun h' => ?_) fun h' => ?_
  · have hio : i < op.length := by have := of_decide_eq_true h'; simp only [len_eq] at this; omega
    obtain ⟨f, hf⟩ : ∃ f, (openL l r ro re).length + 2 * old.length + 1 - i = f + 1 := ⟨(openL l r ro re).length + 2 * old.length - i, by omega⟩
    have hf' : (openL l r ro re).length + 2 * old.length + 1 - (i + 1) = f := by omega
    rw [hf] at hF
    have hs := ykStep h hk hop hio hc hF
    have hx := hop _ (getD_mem 0 hio)
    have hskip : ¬ (yg old (op.getD i 0) = true ∧ kept.getD (op.getD i 0).toNat false = false) → Kb (iadd (i : Int) 1, l, r, ro, old, re, kept, op) := fun hn =>
      hKb _ ⟨i + 1, kept, op, by rw [e1], hk, hop, by omega, hc, by rw [hf']; exact hs.2 hn⟩ (by simp only [e1, Int.toNat_natCast]; omega)
    refine ⟨by rw [inB_nat]; exact hio, br (fun g => hskip ?_) fun g => ?_⟩
    · simp only [gI_nat, beq_iff_eq] at g; simp [-List.getD_eq_getElem?_getD, yg, g]
    simp only [gI_nat, beq_eq_false_iff_ne] at g
    have hx0 : 0 ≤ op.getD i 0 := by have := hx.1; omega
    have hx1 := hx.2
    refine ⟨⟨by simp only [gI_nat]; omega, by simp only [gI_nat]; omega⟩, br (fun g1 => hskip ?_) fun g1 => ⟨⟨by simp only [gI_nat]; omega, by simp only [gI_nat]; omega⟩, br (fun g2 => hskip ?_) fun g2 => ?_⟩⟩
    · simp only [gI_nat, gB, EK.dflt] at g1; rintro ⟨q1, q2⟩; simp only [yg, g1, Bool.not_true, Bool.and_false] at q1; cases q1
    · simp only [gI_nat, gB, EK.dflt] at g2; rintro ⟨q1, q2⟩; rw [g2] at q2; cases q2
    simp only [gI_nat, gB, EK.dflt] at g1 g2
    obtain ⟨q0, q1, q2, q3, q4, q5⟩ := hs.1 (by simp only [yg, g1, Bool.and_eq_true, bne_iff_ne]; exact ⟨g, rfl⟩) g2
    refine ⟨⟨by simp only [gI_nat]; omega, by simp only [gI_nat]; omega⟩, ⟨by simp only [gI_nat]; omega, by simp only [gI_nat]; omega⟩, ⟨by simp only [gI_nat]; omega, by simp only [gI_nat]; omega⟩, ?_, hKb _ ⟨i + 1, kept.set (op.getD i 0).toNat true, op ++ [l.getD (op.getD i 0).toNat 0, r.getD (op.getD i 0).toNat 0], ?_, q2, q3, ?_, q4, by rw [hf']; exact q5⟩ ?_⟩
    · dsimp only [List.length_cons, List.length_nil]; omega
    · rw [e1]; simp only [gI_at, Int.toNat_natCast, uL]
    · rw [List.length_append]; simp only [List.length_cons, List.length_nil]; omega
    · simp only [e1, Int.toNat_natCast]; omega
  · have hio : ¬ i < op.length := by have := of_decide_eq_false h'; simp only [len_eq] at this; omega
    have hkF : kept = keptF l r ro old re := by
      rw [← hF]
      cases (openL l r ro re).length + 2 * old.length + 1 - i with
      | zero => rfl
      | succ f => simp only [yk, if_neg hio]
    rw [← hkF] at hK
    have hko : kept.length = old.length := by omega
    refine LoopP_for (fun j s => s = (len kept, (j : Int), idxs kept j, kept)) kept.length rfl ?_ ?_
    · rintro j _ hj rfl Kb' hKb'
      have hil := idxs_len kept j
      have hs := idxs_succ kept j
      refine br_t (by simp [len_eq]; exact hj) ⟨by rw [inB_nat]; exact hj, br (fun g => ⟨by simp; omega, hKb' _ ?_⟩) fun g => hKb' _ ?_⟩
      · simp only [gB_nat] at g; rw [hs, if_pos g, iadd_nat (by omega)]
      · simp only [gB_nat] at g; rw [hs, if_neg (by rw [g]; simp), iadd_nat (by omega)]
    · rintro _ rfl Kb'
      refine br_f (by simp [len_eq]) ?_
      rw [hko]; exact hK
theorem okP.cell {n : Nat} {x : Int} (h : okP n x) (hn : x ≠ -1) : 0 ≤ x ∧ x < n := by have := h.1; exact ⟨by omega, h.2⟩
theorem yg_iff {old : List Bool} {x : Int} : yg old x = true ↔ x ≠ -1 ∧ old.getD x.toNat false = false := by
  simp only [yg, Bool.and_eq_true, bne_iff_ne, Bool.not_eq_true']
theorem L_l11Kept {l r ro re : List Int} {old : List Bool} {K : List Bool → Prop} (h : GVp l r ro old re) (hK : K (keptF l r ro old re)) : Ms_l11Kept l r ro old re K := by
  have h8 := h.h.l8; have h1 := h.h.l1; have h3 := h.h.r3; have hre := h.re8; have ho := h.o; have hlr := h.h.lr
  refine ⟨by omega, ?_⟩
  refine LoopP_for (fun i s => s = ((i : Int), l, r, ro, old, re, openL l r ro (re.take i))) re.length (by simp [openL]) ?_ ?_
  · rintro i _ hi rfl Kb hKb
    have hg := h.rget hi
    have ht : (re.take i).length ≤ 8 := by rw [List.length_take]; omega
    have hol := openL_len l r ro (re.take i)
    refine br_t (by simp [len_eq]; exact hi) ⟨by rw [inB_nat]; exact hi, ⟨by simp only [gI_nat]; omega, by simp only [gI_nat]; omega⟩, by rw [inB_nat]; exact hi, ⟨by simp only [gI_nat]; omega, by simp only [gI_nat]; omega⟩, ?_, hKb _ ?_⟩
    · dsimp only [List.length_cons, List.length_nil]; omega
    · rw [iadd_nat (by omega), openL_succ hi]; simp only [gI_at, Int.toNat_natCast]
  rintro _ rfl Kb
  refine br_f (by simp [len_eq]) ⟨⟨by simp [len_eq], rfl, by simp only [len_eq]; omega⟩, ?_⟩
  simp only [List.take_length, len_eq, Int.toNat_natCast]
  have hol := openL_len l r ro re
  refine LoopP_inv (fun s => ∃ (i : Nat) (kept : List Bool) (op : List Int), s = ((i : Int), l, r, ro, old, re, op, kept) ∧ kept.length = l.length ∧ (∀ x ∈ op, okP l.length x) ∧ i ≤ op.length ∧ op.length ≤ (openL l r ro re).length + 2 * kept.count true ∧
    yk l r old ((openL l r ro re).length + 2 * old.length + 1 - i) i kept op = keptF l r ro old re) (fun s => (openL l r ro re).length + 2 * old.length + 1 - s.1.toNat) ?_ ⟨0, _, _, rfl, by simpa using ho, by have := openL_ok h (Nat.le_refl re.length); rwa [List.take_length] at this, by omega, by omega, rfl⟩
  rintro _ ⟨i, kept, op, rfl, hk, hop, hi, hc, hF⟩ Kb hKb
  have hcl : kept.count true ≤ l.length := by rw [← hk]; exact List.count_le_length
  have e1 : iadd (i : Int) 1 = ((i + 1 : Nat) : Int) := iadd_nat (by omega)
  refine br (fun h' => ?_) fun h' => ?_
  · have hio : i < op.length := by have := of_decide_eq_true h'; simp only at this; omega
    obtain ⟨f, hf⟩ : ∃ f, (openL l r ro re).length + 2 * old.length + 1 - i = f + 1 := ⟨(openL l r ro re).length + 2 * old.length - i, by omega⟩
    have hf' : (openL l r ro re).length + 2 * old.length + 1 - (i + 1) = f := by omega
    rw [hf] at hF
    have hs := ykStep h hk hop hio hc hF
    have hx := hop _ (getD_mem 0 hio)
    have hskip : ¬ (yg old (op.getD i 0) = true ∧ kept.getD (op.getD i 0).toNat false = false) → Kb (iadd (i : Int) 1, l, r, ro, old, re, op, kept) := fun hn =>
      hKb _ ⟨i + 1, kept, op, by rw [e1], hk, hop, by omega, hc, by rw [hf']; exact hs.2 hn⟩ (by simp only [e1, Int.toNat_natCast]; omega)
    refine ⟨by rw [inB_nat]; exact hio, L_l11Young (by simp only [gI_nat]; rw [ho]; exact hx) (br (fun g => hskip ?_) fun g => ?_)⟩
    · simp only [gI_nat, Bool.not_eq_true'] at g; rintro ⟨q1, _⟩; rw [g] at q1; cases q1
    simp only [gI_nat, Bool.not_eq_false'] at g
    have hne := (yg_iff.1 g).1
    have hx0 := (hx.cell hne).1
    have hx1 := hx.2
    refine ⟨⟨by simp only [gI_nat]; omega, by simp only [gI_nat]; omega⟩, br (fun g2 => hskip ?_) fun g2 => ?_⟩
    · simp only [gI_nat, gB, EK.dflt] at g2; rintro ⟨q1, q2⟩; rw [g2] at q2; cases q2
    simp only [gI_nat, gB, EK.dflt] at g2
    obtain ⟨q0, q1, q2, q3, q4, q5⟩ := hs.1 g g2
    refine ⟨⟨by simp only [gI_nat]; omega, by simp only [gI_nat]; omega⟩, ⟨by simp only [gI_nat]; omega, by simp only [gI_nat]; omega⟩, ⟨by simp only [gI_nat]; omega, by simp only [gI_nat]; omega⟩, ?_, hKb _ ⟨i + 1, kept.set (op.getD i 0).toNat true, op ++ [l.getD (op.getD i 0).toNat 0, r.getD (op.getD i 0).toNat 0], ?_, q2, q3, ?_, q4, by rw [hf']; exact q5⟩ ?_⟩
    · dsimp only [List.length_cons, List.length_nil]; omega
    · rw [e1]; simp only [gI_at, Int.toNat_natCast, uL]
    · rw [List.length_append]; simp only [List.length_cons, List.length_nil]; omega
    · simp only [e1, Int.toNat_natCast]; omega
  · have hio : ¬ i < op.length := by have := of_decide_eq_false h'; simp only at this; omega
    have hkF : kept = keptF l r ro old re := by
      rw [← hF]
      cases (openL l r ro re).length + 2 * old.length + 1 - i with
      | zero => rfl
      | succ f => simp only [yk, if_neg hio]
    rw [← hkF] at hK
    exact hK
theorem L_sYoungKept {l r ro re : List Int} {old : List Bool} {K : List Int → Prop} (hr : re.length < 2 ^ 62) (hy : GVp l r ro old re → K (idxs (keptF l r ro old re) old.length)) (hn : ¬ GVp l r ro old re → K []) : Ms_YoungKept l r ro old re K := by
  refine L_sGensValid hr (br (fun h => hn (by simpa using h)) fun h => ?_)
  have h : GVp l r ro old re := by simpa using h
  have hK := hy h
  refine L_l11Kept h ?_
  have hkl := keptF_len l r ro old re
  have h8 := h.old8
  generalize keptF l r ro old re = kept at hK hkl
  refine LoopP_for (fun j s => s = ((j : Int), idxs kept j, kept)) kept.length rfl ?_ ?_
  · rintro j _ hj rfl Kb' hKb'
    have hil := idxs_len kept j
    have hs := idxs_succ kept j
    refine br_t (by simp [len_eq]; exact hj) ⟨by rw [inB_nat]; exact hj, br (fun g => ⟨by simp; omega, hKb' _ ?_⟩) fun g => hKb' _ ?_⟩
    · simp only [gB_nat] at g; rw [hs, if_pos g, iadd_nat (by omega)]
    · simp only [gB_nat] at g; rw [hs, if_neg (by rw [g]; simp), iadd_nat (by omega)]
  · rintro _ rfl Kb'
    refine br_f (by simp [len_eq]) ?_
    rw [hkl]; exact hK
theorem neStep {a b : Int} {P Q : Prop} (e : a = b) (h : Q) : ((a != b) = true → P) ∧ ((a != b) = false → Q) := br_f (by simp [e]) h
theorem law_FnExactYoungKept {p q r s : List Int} {o : List Bool} (hp : p.length ≤ maxLen) (hq : q.length ≤ maxLen) (hr : r.length ≤ maxLen) (ho : o.length ≤ maxLen) (hs : s.length ≤ maxLen) {K : Bool → Prop} (hK : K true) : Ml_FnExactYoungKept p q r o s K := by
  unfold Ml_FnExactYoungKept
  refine L_szGens (by decide) (by decide) hp hq hr ho hs (szStop hK) fun y a1 b1 c1 c2 c3 c4 c5 => szStep a1 ?_
  have hex : ∃ k : List Int, k.length ≤ 1048576 ∧ (∀ K : List Int → Prop, K k → Mi_YoungKept p q r o s K) ∧ (∀ K : List Int → Prop, K k → Ms_YoungKept p q r o s K) := by
    by_cases h : GVp p q r o s
    · exact ⟨idxs (keptF p q r o s) o.length, by have := idxs_len (keptF p q r o s) o.length; omega, fun K hK => L_iYoungKept (by omega) (fun _ => hK) fun hh => absurd h hh, fun K hK => L_sYoungKept (by omega) (fun _ => hK) fun hh => absurd h hh⟩
    · exact ⟨[], by simp, fun K hK => L_iYoungKept (by omega) (fun hh => absurd hh h) fun _ => hK, fun K hK => L_sYoungKept (by omega) (fun hh => absurd hh h) fun _ => hK⟩
  obtain ⟨k, hk, hI, hS⟩ := hex
  refine L_toGens c1 c2 c3 c4 c5 (hS _ (L_toGens c1 c2 c3 c4 c5 (hI _ ?_)))
  refine L_eqIntS (by omega) (step_t (by simp) (L_toGens c1 c2 c3 c4 c5 (L_eqGens_same (by omega) (by omega) (by omega) (by omega) (by omega) (step_t rfl (L_markGens (by decide) (by decide) (by omega) (by omega) (by omega) (by omega) (by omega) (szStep (by omega) ?_))))))
  refine L_eqIntS (by omega) (step_t (by simp) (L_markIntS (by decide) (by decide) (by omega) (L_heldIntS (by decide) (by decide) (by omega) (szStep (by omega) (neStep rfl ?_)))))
  refine L_toGens c1 c2 c3 c4 c5 (hI _ ?_)
  exact L_eqIntS (by omega) (step_t (by simp) (L_heldIntS (by decide) (by decide) (by omega) (szStep (by omega) (neStep rfl hK))))
end Go.Ab
