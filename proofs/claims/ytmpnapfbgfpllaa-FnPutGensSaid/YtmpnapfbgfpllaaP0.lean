/-
  What is proved here: rules for the words of the models and for their loops. No condition beyond those written in each statement.
-/
import Derived.Test.YtmpnapfbgfpllaaT14
namespace Go.Ab
set_option linter.unusedVariables false
set_option linter.unusedSimpArgs false

theorem wrap64 {x : Int} (h1 : -9223372036854775808 ≤ x) (h2 : x < 9223372036854775808) : IntKind.i64.wrap x = x := by
  simp [IntKind.wrap, IntKind.signed, IntKind.bits]
  split <;> omega
theorem iadd_eq {a b : Int} (h1 : -9223372036854775808 ≤ a + b) (h2 : a + b < 9223372036854775808) : iadd a b = a + b := wrap64 h1 h2
theorem isub_eq {a b : Int} (h1 : -9223372036854775808 ≤ a - b) (h2 : a - b < 9223372036854775808) : isub a b = a - b := wrap64 h1 h2
theorem imul_eq {a b : Int} (h1 : -9223372036854775808 ≤ a * b) (h2 : a * b < 9223372036854775808) : imul a b = a * b := wrap64 h1 h2
theorem iadd_nat {i : Nat} (h : i < 2 ^ 62) : iadd (i : Int) 1 = ((i + 1 : Nat) : Int) := by rw [iadd_eq] <;> omega
theorem inB_nat {i n : Nat} : inB (i : Int) n = (i < n) := by simp [inB]
theorem gI_nat (l : List Int) (i : Nat) : gI l (i : Int) = l.getD i 0 := by simp [gI, EK.dflt]
theorem gB_nat (l : List Bool) (i : Nat) : gB l (i : Int) = l.getD i false := by simp [gB, EK.dflt]
theorem uL_nat {α : Type} (l : List α) (i : Nat) (v : α) : uL l (i : Int) v = l.set i v := by simp [uL]
theorem len_eq {α : Type} (l : List α) : len l = (l.length : Int) := rfl

/-- A loop that counts. -/
theorem LoopP_for {S : Type} {body : S → (S → Prop) → (S → Prop) → Prop} {Kx : S → Prop} {s : S} (J : Nat → S → Prop) (n : Nat) (h0 : J 0 s)
    (step : ∀ i s, i < n → J i s → ∀ Kb : S → Prop, (∀ s', J (i + 1) s' → Kb s') → body s Kb Kx) (last : ∀ s, J n s → ∀ Kb : S → Prop, body s Kb Kx) : LoopP body s Kx := by
  suffices hh : ∀ k i s, n - i < k → i ≤ n → J i s → itP body k s Kx from ⟨n + 1, hh _ 0 s (by omega) (by omega) h0⟩
  intro k
  induction k with
  | zero => intro i s h; omega
  | succ k ih =>
    intro i s hk hi hj
    by_cases e : i = n
    · subst e; exact last s hj _
    · exact step i s (by omega) hj _ fun s' h' => ih (i + 1) s' (by omega) (by omega) h'
theorem br {b : Bool} {P Q : Prop} (h1 : b = true → P) (h2 : b = false → Q) : (b = true → P) ∧ (b = false → Q) := ⟨h1, h2⟩
theorem br_t {b : Bool} {P Q : Prop} (h : b = true) (hp : P) : (b = true → P) ∧ (b = false → Q) := ⟨fun _ => hp, fun h' => by rw [h] at h'; cases h'⟩
theorem br_f {b : Bool} {P Q : Prop} (h : b = false) (hq : Q) : (b = true → P) ∧ (b = false → Q) := ⟨fun h' => (by rw [h] at h'; cases h'), fun _ => hq⟩

theorem getD_lt {α : Type} {l : List α} {i : Nat} {d : α} (h : i < l.length) : l.getD i d = l[i] := by simp [List.getD_eq_getElem?_getD, h]
theorem eqL_iff {α : Type} (d : α) (p q : List α) (h : p.length = q.length) (hj : ∀ j, j < p.length → p.getD j d = q.getD j d) : p = q := by
  apply List.ext_getElem h
  intro i h1 h2
  have := hj i h1
  rwa [getD_lt h1, getD_lt h2] at this

/-- Two lists are compared. -/
theorem eqLoop3 {α : Type} [DecidableEq α] (d : α) (p1 p2 : List α) (hb : p1.length < 2 ^ 62) (K : Bool → Prop) (hK : K (decide (p1 = p2))) (hl : p1.length = p2.length) :
    (LoopP (S := List α × List α × Int) (fun s1 Kb1 Kx1 =>
(((decide (s1.2.2 < (len s1.1))) = true →
((inB s1.2.2 (List.length s1.1)) ∧
((inB s1.2.2 (List.length s1.2.1)) ∧
((((s1.1.getD s1.2.2.toNat d) != (s1.2.1.getD s1.2.2.toNat d)) = true →
(K false)) ∧
(((s1.1.getD s1.2.2.toNat d) != (s1.2.1.getD s1.2.2.toNat d)) = false →
(Kb1 (s1.1, s1.2.1, (iadd s1.2.2 1)))))))) ∧
((decide (s1.2.2 < (len s1.1))) = false →
(Kx1 (s1.1, s1.2.1, s1.2.2)))))
(p1, p2, 0) fun s1 => (K true)) := by
  refine LoopP_for (fun i s => s = (p1, p2, (i : Int)) ∧ ∀ j, j < i → p1.getD j d = p2.getD j d) p1.length ⟨rfl, by omega⟩ ?_ ?_
  · rintro i _ hi ⟨rfl, hj⟩ Kb hKb
    refine br_t (by simp [len_eq]; exact hi) ⟨by simp [inB_nat]; exact hi, by simp [inB_nat]; omega, br (fun h => ?_) fun h => ?_⟩
    · simp at h
      have : p1 ≠ p2 := fun e => h (by rw [e])
      simpa [this] using hK
    · simp at h
      refine hKb _ ⟨by rw [iadd_nat (by omega)], fun j hji => ?_⟩
      rcases Nat.lt_succ_iff_lt_or_eq.1 hji with e | e
      · exact hj j e
      · subst e; exact h
  · rintro _ ⟨rfl, hj⟩ Kb
    refine br_f (by simp [len_eq]) ?_
    have := eqL_iff d p1 p2 hl hj
    simpa [this] using hK
theorem eqLoop4 {α : Type} [DecidableEq α] (d : α) (p1 p2 : List α) (hb : p1.length < 2 ^ 62) (K : Bool → Prop) (hK : K (decide (p1 = p2))) (hl : p1.length = p2.length) :
    (LoopP (S := List α × List α × Int × Int) (fun s1 Kb1 Kx1 =>
(((decide (s1.2.2.2 < s1.2.2.1)) = true →
((inB s1.2.2.2 (List.length s1.1)) ∧
((inB s1.2.2.2 (List.length s1.2.1)) ∧
((((s1.1.getD s1.2.2.2.toNat d) != (s1.2.1.getD s1.2.2.2.toNat d)) = true →
(K false)) ∧
(((s1.1.getD s1.2.2.2.toNat d) != (s1.2.1.getD s1.2.2.2.toNat d)) = false →
(Kb1 (s1.1, s1.2.1, s1.2.2.1, (iadd s1.2.2.2 1)))))))) ∧
((decide (s1.2.2.2 < s1.2.2.1)) = false →
(Kx1 (s1.1, s1.2.1, s1.2.2.1, s1.2.2.2)))))
(p1, p2, len p1, 0) fun s1 => (K true)) := by
  refine LoopP_for (fun i s => s = (p1, p2, len p1, (i : Int)) ∧ ∀ j, j < i → p1.getD j d = p2.getD j d) p1.length ⟨rfl, by omega⟩ ?_ ?_
  · rintro i _ hi ⟨rfl, hj⟩ Kb hKb
    refine br_t (by simp [len_eq]; exact hi) ⟨by simp [inB_nat]; exact hi, by simp [inB_nat]; omega, br (fun h => ?_) fun h => ?_⟩
    · simp at h
      have : p1 ≠ p2 := fun e => h (by rw [e])
      simpa [this] using hK
    · simp at h
      refine hKb _ ⟨by rw [iadd_nat (by omega)], fun j hji => ?_⟩
      rcases Nat.lt_succ_iff_lt_or_eq.1 hji with e | e
      · exact hj j e
      · subst e; exact h
  · rintro _ ⟨rfl, hj⟩ Kb
    refine br_f (by simp [len_eq]) ?_
    have := eqL_iff d p1 p2 hl hj
    simpa [this] using hK
theorem eqGate {α : Type} [DecidableEq α] {p1 p2 : List α} {K : Bool → Prop} {P : Prop} (hK : K (decide (p1 = p2))) (h : p1.length = p2.length → P) :
    (((len p1) != (len p2)) = true → (K false)) ∧ (((len p1) != (len p2)) = false → P) := by
  refine br (fun e => ?_) fun e => h ?_
  · have : p1 ≠ p2 := by rintro rfl; simp at e
    simpa [this] using hK
  · simp [len_eq] at e; omega

/-- A list is copied, element by element. -/
theorem cpLoop {α : Type} (d : α) (p1 : List α) (hb : p1.length < 2 ^ 62) (K : List α → Prop) (hK : K p1) :
    (LoopP (S := List α × Int × List α) (fun s1 Kb1 Kx1 =>
(((decide (s1.2.1 < (len s1.1))) = true →
((inB s1.2.1 (List.length s1.1)) ∧
((inB s1.2.1 (List.length s1.2.2)) ∧
(Kb1 (s1.1, (iadd s1.2.1 1), (uL s1.2.2 s1.2.1 (s1.1.getD s1.2.1.toNat d))))))) ∧
((decide (s1.2.1 < (len s1.1))) = false →
(Kx1 (s1.1, s1.2.1, s1.2.2)))))
(p1, 0, (List.replicate (Int.toNat (len p1)) d)) fun s1 => (K s1.2.2)) := by
  refine LoopP_for (fun i s => ∃ t, s = (p1, (i : Int), t) ∧ t.length = p1.length ∧ ∀ j, j < i → t.getD j d = p1.getD j d) p1.length ⟨_, rfl, by simp [len_eq], by omega⟩ ?_ ?_
  · rintro i _ hi ⟨t, rfl, ht, hj⟩ Kb hKb
    refine br_t (by simp [len_eq]; exact hi) ⟨by simp [inB_nat]; exact hi, by simp [inB_nat]; omega, hKb _ ⟨_, by rw [iadd_nat (by omega)], ?_, fun j hji => ?_⟩⟩
    · simp [uL, ht]
    · simp only [uL_nat, Int.toNat_natCast]
      rw [List.getD_eq_getElem?_getD, List.getElem?_set]
      by_cases e : i = j
      · subst e; simp [ht, hi]
      · rw [if_neg e, ← List.getD_eq_getElem?_getD]; exact hj j (by omega)
  · rintro _ ⟨t, rfl, ht, hj⟩ Kb
    refine br_f (by simp [len_eq]) ?_
    rw [show p1 = t from (eqL_iff d t p1 ht (fun j h => hj j (by omega))).symm] at hK
    exact hK
end Go.Ab
