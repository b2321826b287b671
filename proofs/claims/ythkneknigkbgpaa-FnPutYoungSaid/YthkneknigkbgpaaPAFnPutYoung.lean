/-
  What is proved here: the plain laws that the law FnPutYoung needs: what its functions compute, and that its model returns true. Conditions: those written in each statement.
-/
import Derived.Test.YthkneknigkbgpaaGM
namespace Go.Ab
set_option linter.unusedVariables false
set_option linter.unusedSimpArgs false
theorem wrap64 {x : Int} (h1 : -9223372036854775808 ≤ x) (h2 : x < 9223372036854775808) : IntKind.i64.wrap x = x := by
  simp [IntKind.wrap, IntKind.signed, IntKind.bits]
  split <;> omega
theorem iadd_eq {a b : Int} (h1 : -9223372036854775808 ≤ a + b) (h2 : a + b < 9223372036854775808) : iadd a b = a + b := wrap64 h1 h2
theorem isub_eq {a b : Int} (h1 : -9223372036854775808 ≤ a - b) (h2 : a - b < 9223372036854775808) : isub a b = a - b := wrap64 h1 h2
theorem imul_eq {a b : Int} (h1 : -9223372036854775808 ≤ a * b) (h2 : a * b < 9223372036854775808) : imul a b = a * b := wrap64 h1 h2
theorem iadd_nat {i : Nat} (h : i < 2 ^ 62) : iadd (i : Int) 1 = ((i + 1 : Nat) : Int) := by rw [iadd_eq] <;> omega
theorem inB_nat {i n : Nat} : inB (i : Int) n = (i < n) := by simp [inB]
theorem gI_nat (l : List Int) (i : Nat) : gI l (i : Int) = l.getD i 0 := by simp [gI, EK.dflt]
theorem gB_nat (l : List Bool) (i : Nat) : gB l (i : Int) = l.getD i false := by simp [gB, EK.dflt]
theorem uL_nat {α : Type} (l : List α) (i : Nat) (v : α) : uL l (i : Int) v = l.set i v := by simp [uL]
theorem len_eq {α : Type} (l : List α) : len l = (l.length : Int) := rfl
/-- A loop that counts. -/
theorem LoopP_for {S : Type} {body : S → (S → Prop) → (S → Prop) → Prop} {Kx : S → Prop} {s : S} (J : Nat → S → Prop) (n : Nat) (h0 : J 0 s)
    (step : ∀ i s, i < n → J i s → ∀ Kb : S → Prop, (∀ s', J (i + 1) s' → Kb s') → body s Kb Kx) (last : ∀ s, J n s → ∀ Kb : S → Prop, body s Kb Kx) : LoopP body s Kx := by
  suffices hh : ∀ k i s, n - i < k → i ≤ n → J i s → itP body k s Kx from ⟨n + 1, hh _ 0 s (by omega) (by omega) h0⟩
  intro k
  induction k with
  | zero => intro i s h; omega
  | succ k ih =>
    intro i s hk hi hj
    by_cases e : i = n
    · subst e; exact last s hj _
    · exact step i s (by omega) hj _ fun s' h' => ih (i + 1) s' (by omega) (by omega) h'
theorem br {b : Bool} {P Q : Prop} (h1 : b = true → P) (h2 : b = false → Q) : (b = true → P) ∧ (b = false → Q) := ⟨h1, h2⟩
theorem br_t {b : Bool} {P Q : Prop} (h : b = true) (hp : P) : (b = true → P) ∧ (b = false → Q) := ⟨fun _ => hp, fun h' => by rw [h] at h'; cases h'⟩
theorem br_f {b : Bool} {P Q : Prop} (h : b = false) (hq : Q) : (b = true → P) ∧ (b = false → Q) := ⟨fun h' => (by rw [h] at h'; cases h'), fun _ => hq⟩
theorem getD_lt {α : Type} {l : List α} {i : Nat} {d : α} (h : i < l.length) : l.getD i d = l[i] := by simp [List.getD_eq_getElem?_getD, h]
theorem eqL_iff {α : Type} (d : α) (p q : List α) (h : p.length = q.length) (hj : ∀ j, j < p.length → p.getD j d = q.getD j d) : p = q := by
  apply List.ext_getElem h
  intro i h1 h2
  have := hj i h1
  rwa [getD_lt h1, getD_lt h2] at this
/-- Two lists are compared. -/
theorem eqLoop3 {α : Type} [DecidableEq α] (d : α) (p1 p2 : List α) (hb : p1.length < 2 ^ 62) (K : Bool → Prop) (hK : K (decide (p1 = p2))) (hl : p1.length = p2.length) :
    (LoopP (S := List α × List α × Int) (fun s1 Kb1 Kx1 =>
(((decide (s1.2.2 < (len s1.1))) = true →
((inB s1.2.2 (List.length s1.1)) ∧
((inB s1.2.2 (List.length s1.2.1)) ∧
((((s1.1.getD s1.2.2.toNat d) != (s1.2.1.getD s1.2.2.toNat d)) = true →
(K false)) ∧
(((s1.1.getD s1.2.2.toNat d) != (s1.2.1.getD s1.2.2.toNat d)) = false →
(Kb1 (s1.1, s1.2.1, (iadd s1.2.2 1)))))))) ∧
((decide (s1.2.2 < (len s1.1))) = false →
(Kx1 (s1.1, s1.2.1, s1.2.2)))))
(p1, p2, 0) fun s1 => (K true)) := by
  refine LoopP_for (fun i s => s = (p1, p2, (i : Int)) ∧ ∀ j, j < i → p1.getD j d = p2.getD j d) p1.length ⟨rfl, by omega⟩ ?_ ?_
  · rintro i _ hi ⟨rfl, hj⟩ Kb hKb
    refine br_t (by simp [len_eq]; exact hi) ⟨by simp [inB_nat]; exact hi, by simp [inB_nat]; omega, br (fun h => ?_) fun h => ?_⟩
    · simp at h
      have : p1 ≠ p2 := fun e => h (by rw [e])
      simpa [this] using hK
    · simp at h
      refine hKb _ ⟨by rw [iadd_nat (by omega)], fun j hji => ?_⟩
      rcases Nat.lt_succ_iff_lt_or_eq.1 hji with e | e
      · exact hj j e
      · subst e; exact h
  · rintro _ ⟨rfl, hj⟩ Kb
    refine br_f (by simp [len_eq]) ?_
    have := eqL_iff d p1 p2 hl hj
    simpa [this] using hK
theorem eqLoop4 {α : Type} [DecidableEq α] (d : α) (p1 p2 : List α) (hb : p1.length < 2 ^ 62) (K : Bool → Prop) (hK : K (decide (p1 = p2))) (hl : p1.length = p2.length) :
    (LoopP (S := List α × List α × Int × Int) (fun s1 Kb1 Kx1 =>
(((decide (s1.2.2.2 < s1.2.2.1)) = true →
((inB s1.2.2.2 (List.length s1.1)) ∧
((inB s1.2.2.2 (List.length s1.2.1)) ∧
((((s1.1.getD s1.2.2.2.toNat d) != (s1.2.1.getD s1.2.2.2.toNat d)) = true →
(K false)) ∧
(((s1.1.getD s1.2.2.2.toNat d) != (s1.2.1.getD s1.2.2.2.toNat d)) = false →
(Kb1 (s1.1, s1.2.1, s1.2.2.1, (iadd s1.2.2.2 1)))))))) ∧
((decide (s1.2.2.2 < s1.2.2.1)) = false →
(Kx1 (s1.1, s1.2.1, s1.2.2.1, s1.2.2.2)))))
(p1, p2, len p1, 0) fun s1 => (K true)) := by
  refine LoopP_for (fun i s => s = (p1, p2, len p1, (i : Int)) ∧ ∀ j, j < i → p1.getD j d = p2.getD j d) p1.length ⟨rfl, by omega⟩ ?_ ?_
  · rintro i _ hi ⟨rfl, hj⟩ Kb hKb
    refine br_t (by simp [len_eq]; exact hi) ⟨by simp [inB_nat]; exact hi, by simp [inB_nat]; omega, br (fun h => ?_) fun h => ?_⟩
    · simp at h
      have : p1 ≠ p2 := fun e => h (by rw [e])
      simpa [this] using hK
    · simp at h
      refine hKb _ ⟨by rw [iadd_nat (by omega)], fun j hji => ?_⟩
      rcases Nat.lt_succ_iff_lt_or_eq.1 hji with e | e
      · exact hj j e
      · subst e; exact h
  · rintro _ ⟨rfl, hj⟩ Kb
    refine br_f (by simp [len_eq]) ?_
    have := eqL_iff d p1 p2 hl hj
    simpa [this] using hK
theorem eqGate {α : Type} [DecidableEq α] {p1 p2 : List α} {K : Bool → Prop} {P : Prop} (hK : K (decide (p1 = p2))) (h : p1.length = p2.length → P) :
    (((len p1) != (len p2)) = true → (K false)) ∧ (((len p1) != (len p2)) = false → P) := by
  refine br (fun e => ?_) fun e => h ?_
  · have : p1 ≠ p2 := by rintro rfl; simp at e
    simpa [this] using hK
  · simp [len_eq] at e; omega
theorem L_l1Ints {p q : List Int} {K : Bool → Prop} (hp : p.length < 2 ^ 62) (hK : K (decide (p = q))) : Ms_l1Ints p q K := eqGate hK fun hl => eqLoop3 0 p q hp K hK hl
theorem L_ccInts {p q : List Int} {K : Bool → Prop} (hp : p.length < 2 ^ 62) (hK : K (decide (p = q))) : Ml_ccInts p q K := eqGate hK fun hl => eqLoop3 0 p q hp K hK hl
theorem L_Equal_int {p q : List Int} {K : Bool → Prop} (hp : p.length < 2 ^ 62) (hK : K (decide (p = q))) : M_Equal_int p q K := eqGate hK fun hl => eqLoop4 0 p q hp K hK hl
theorem L_Equal_bool {p q : List Bool} {K : Bool → Prop} (hp : p.length < 2 ^ 62) (hK : K (decide (p = q))) : M_Equal_bool p q K := eqGate hK fun hl => eqLoop4 false p q hp K hK hl
theorem L_iHeapSame {p q r p' q' r' : List Int} {K : Bool → Prop} (hp : p.length < 2 ^ 62) (hq : q.length < 2 ^ 62) (hr : r.length < 2 ^ 62) (hK : K (decide (p = p' ∧ q = q' ∧ r = r'))) : Mi_HeapSame p q r p' q' r' K := by
  refine L_Equal_int hp (br (fun h1 => L_Equal_int hq (br (fun h2 => L_Equal_int hr ?_) fun h2 => ?_)) fun h1 => ?_)
  · simp at h1 h2; simpa [h1, h2] using hK
  · simp at h1 h2; simpa [h1, h2] using hK
  · simp at h1; simpa [h1] using hK
theorem L_iGensSame {p q r s p' q' r' s' : List Int} {o o' : List Bool} {K : Bool → Prop} (hp : p.length < 2 ^ 62) (hq : q.length < 2 ^ 62) (hr : r.length < 2 ^ 62) (ho : o.length < 2 ^ 62) (hs : s.length < 2 ^ 62)
    (hK : K (decide ((p = p' ∧ q = q' ∧ r = r') ∧ o = o' ∧ s = s'))) : Mi_GensSame p q r o s p' q' r' o' s' K := by
  refine L_iHeapSame hp hq hr (br (fun h1 => L_Equal_bool ho (br (fun h2 => L_Equal_int hs ?_) fun h2 => ?_)) fun h1 => ?_)
  · simp only [decide_eq_true_eq] at h1 h2; simpa [h1, h2] using hK
  · simp only [decide_eq_true_eq, decide_eq_false_iff_not] at h1 h2; simpa [h1, h2] using hK
  · simp only [decide_eq_false_iff_not] at h1; rw [decide_eq_false (fun hh => h1 hh.1)] at hK; exact hK
theorem step_t {b : Bool} {P Q : Prop} (h : b = true) (hq : Q) : ((!b) = true → P) ∧ ((!b) = false → Q) := br_f (by simp [h]) hq
def okP (n : Nat) (x : Int) : Prop := -1 ≤ x ∧ x < n
instance (n : Nat) (x : Int) : Decidable (okP n x) := inferInstanceAs (Decidable (_ ∧ _))
/-- A valid heap. -/
structure HVp (l r ro : List Int) : Prop where
  lr : l.length = r.length
  l1 : 1 ≤ l.length
  l8 : l.length ≤ 8
  r1 : 1 ≤ ro.length
  r3 : ro.length ≤ 3
  okl : ∀ x ∈ l, okP l.length x
  okr : ∀ x ∈ r, okP l.length x
  oko : ∀ x ∈ ro, okP l.length x
instance (l r ro : List Int) : Decidable (HVp l r ro) :=
  decidable_of_iff (l.length = r.length ∧ 1 ≤ l.length ∧ l.length ≤ 8 ∧ 1 ≤ ro.length ∧ ro.length ≤ 3 ∧ (∀ x ∈ l, okP l.length x) ∧ (∀ x ∈ r, okP l.length x) ∧ (∀ x ∈ ro, okP l.length x))
    ⟨fun ⟨a, b, c, d, e, f, g, h⟩ => ⟨a, b, c, d, e, f, g, h⟩, fun ⟨a, b, c, d, e, f, g, h⟩ => ⟨a, b, c, d, e, f, g, h⟩⟩
theorem all_getD {α : Type} (d : α) {l : List α} {p : α → Prop} (h : ∀ j, j < l.length → p (l.getD j d)) : ∀ x ∈ l, p x := by
  intro x hx
  obtain ⟨i, hi, rfl⟩ := List.getElem_of_mem hx
  have := h i hi
  rwa [getD_lt hi] at this
theorem getD_mem {α : Type} (d : α) {l : List α} {i : Nat} (h : i < l.length) : l.getD i d ∈ l := by rw [getD_lt h]; exact List.getElem_mem h
theorem L_l1Points {a : Int} {n : Nat} {K : Bool → Prop} (hK : K (decide (okP n a))) : Ms_l1Points a n K := by
  refine br (fun h => ?_) fun h => ?_
  · simp at h; simpa [okP, h] using hK
  · simp at h; rw [decide_eq_false (fun hh => by have := hh.1; omega)] at hK; exact hK
theorem L_sHeapValid {l r ro : List Int} {K : Bool → Prop} (hK : K (decide (HVp l r ro))) : Ms_HeapValid l r ro K := by
  have no : ¬ HVp l r ro → K false := fun h => by rwa [decide_eq_false h] at hK
  have yes : HVp l r ro → K true := fun h => by rwa [decide_eq_true h] at hK
  refine br (fun h => no fun hh => ?_) fun h1 => br (fun h => no fun hh => ?_) fun h2 => br (fun h => no fun hh => ?_) fun h3 => br (fun h => no fun hh => ?_) fun h4 => br (fun h => no fun hh => ?_) fun h5 => ?_
  · have := hh.l1; replace h := of_decide_eq_true h; simp only [len_eq] at h; omega
  · have := hh.l8; simp [len_eq] at h; omega
  · have := hh.lr; simp [len_eq] at h; omega
  · have := hh.r1; replace h := of_decide_eq_true h; simp only [len_eq] at h; omega
  · have := hh.r3; simp [len_eq] at h; omega
  replace h1 : 1 ≤ l.length := by have := of_decide_eq_false h1; simp only [len_eq] at this; omega
  replace h2 : l.length ≤ 8 := by have := of_decide_eq_false h2; simp only [len_eq] at this; omega
  replace h3 : r.length = l.length := by simp [len_eq] at h3; omega
  replace h4 : 1 ≤ ro.length := by have := of_decide_eq_false h4; simp only [len_eq] at this; omega
  replace h5 : ro.length ≤ 3 := by have := of_decide_eq_false h5; simp only [len_eq] at this; omega
  refine LoopP_for (fun i s => s = (len l, (i : Int), l, r, ro) ∧ ∀ j, j < i → okP l.length (l.getD j 0) ∧ okP l.length (r.getD j 0)) l.length ⟨rfl, by omega⟩ ?_ ?_
  · rintro i _ hi ⟨rfl, hj⟩ Kb hKb
    refine br_t (by simp [len_eq]; exact hi) ⟨by simp [inB_nat]; exact hi, ?_⟩
    refine L_l1Points (br (fun h => no fun hh => ?_) fun h => ⟨by simp [inB_nat]; omega, L_l1Points (br (fun h' => no fun hh => ?_) fun h' => hKb _ ⟨by rw [iadd_nat (by omega)], fun j hji => ?_⟩)⟩)
    · simp [-List.getD_eq_getElem?_getD, gI_nat] at h; exact h (hh.okl _ (getD_mem 0 hi))
    · simp [-List.getD_eq_getElem?_getD, gI_nat] at h'; exact h' (hh.okr _ (getD_mem 0 (by omega)))
    · simp [-List.getD_eq_getElem?_getD, gI_nat] at h h'
      rcases Nat.lt_succ_iff_lt_or_eq.1 hji with e | e
      · exact hj j e
      · subst e; exact ⟨h, h'⟩
  · rintro _ ⟨rfl, hj⟩ Kb
    refine br_f (by simp [len_eq]) ?_
    refine LoopP_for (fun i s => s = (len l, (i : Int), l, r, ro) ∧ ∀ j, j < i → okP l.length (ro.getD j 0)) ro.length ⟨rfl, by omega⟩ ?_ ?_
    · rintro i _ hi ⟨rfl, hk⟩ Kb hKb
      refine br_t (by simp [len_eq]; exact hi) ⟨by simp [inB_nat]; exact hi, ?_⟩
      refine L_l1Points (br (fun h => no fun hh => ?_) fun h => hKb _ ⟨by rw [iadd_nat (by omega)], fun j hji => ?_⟩)
      · simp [-List.getD_eq_getElem?_getD, gI_nat] at h; exact h (hh.oko _ (getD_mem 0 hi))
      · simp [-List.getD_eq_getElem?_getD, gI_nat] at h
        rcases Nat.lt_succ_iff_lt_or_eq.1 hji with e | e
        · exact hk j e
        · subst e; exact h
    · rintro _ ⟨rfl, hk⟩ Kb
      refine br_f (by simp [len_eq]) (yes ⟨h3.symm, h1, h2, h4, h5, all_getD 0 fun j h => (hj j h).1, all_getD 0 fun j h => (hj j (by omega)).2, all_getD 0 hk⟩)
theorem L_iHeapValid {l r ro : List Int} {K : Bool → Prop} (hK : K (decide (HVp l r ro))) : Mi_HeapValid l r ro K := by
  have no : ¬ HVp l r ro → K false := fun h => by rwa [decide_eq_false h] at hK
  have yes : HVp l r ro → K true := fun h => by rwa [decide_eq_true h] at hK
  refine br (fun h => no fun hh => ?_) fun h3 => br (fun h => no fun hh => ?_) fun h1 => br (fun h => no fun hh => ?_) fun h2 => br (fun h => no fun hh => ?_) fun h4 => br (fun h => no fun hh => ?_) fun h5 => ?_
  · have := hh.lr; simp [len_eq] at h; omega
  · have := hh.l1; replace h := of_decide_eq_true h; simp only [len_eq] at h; omega
  · have := hh.l8; simp [len_eq] at h; omega
  · have := hh.r1; replace h := of_decide_eq_true h; simp only [len_eq] at h; omega
  · have := hh.r3; simp [len_eq] at h; omega
  replace h1 : 1 ≤ l.length := by have := of_decide_eq_false h1; simp only [len_eq] at this; omega
  replace h2 : l.length ≤ 8 := by have := of_decide_eq_false h2; simp only [len_eq] at this; omega
  replace h3 : r.length = l.length := by simp [len_eq] at h3; omega
  replace h4 : 1 ≤ ro.length := by have := of_decide_eq_false h4; simp only [len_eq] at this; omega
  replace h5 : ro.length ≤ 3 := by have := of_decide_eq_false h5; simp only [len_eq] at this; omega
  have hlen : ∀ i, i < 3 → (([l, r, ro] : List (List Int)).getD i []).length ≤ 8 := by
    intro i hi
    match i, hi with
    | 0, _ => exact h2
    | 1, _ => show r.length ≤ 8; omega
    | 2, _ => show ro.length ≤ 8; omega
  have hmem : HVp l r ro → ∀ i, i < 3 → ∀ x ∈ ([l, r, ro] : List (List Int)).getD i [], okP l.length x := by
    intro hh i hi
    match i, hi with
    | 0, _ => exact hh.okl
    | 1, _ => exact hh.okr
    | 2, _ => exact hh.oko
  refine LoopP_for (fun i s => s = (3, (i : Int), l, r, ro, [l, r, ro]) ∧ ∀ j, j < i → ∀ x ∈ ([l, r, ro] : List (List Int)).getD j [], okP l.length x) 3 ⟨rfl, by omega⟩ ?_ ?_
  · rintro i _ hi ⟨rfl, hj⟩ Kb hKb
    have hg : gL [l, r, ro] (i : Int) = ([l, r, ro] : List (List Int)).getD i [] := by simp [gL, EK.dflt]
    refine br_t (by simp; omega) ⟨by simp [inB_nat]; exact hi, ?_⟩
    simp only [hg]
    have hl := hlen i hi
    have hm := fun hh => hmem hh i hi
    generalize hq : ([l, r, ro] : List (List Int)).getD i [] = q at hl hm
    refine LoopP_for (fun k s => s = (3, (i : Int), q, len q, (k : Int), l, r, ro, [l, r, ro]) ∧ ∀ j, j < k → okP l.length (q.getD j 0)) q.length ⟨rfl, by omega⟩ ?_ ?_
    · rintro k _ hk ⟨rfl, hkj⟩ Kb' hKb'
      refine br_t (by simp [len_eq]; exact hk) ⟨by simp [inB_nat]; exact hk, br (fun h => no fun hh => ?_) fun h => br (fun h' => no fun hh => ?_) fun h' => hKb' _ ⟨by rw [iadd_nat (by omega)], fun j hji => ?_⟩⟩
      · have := of_decide_eq_true h; simp only [gI_nat] at this; have := (hm hh _ (getD_mem 0 hk)).1; omega
      · have := of_decide_eq_true h'; simp only [gI_nat, len_eq] at this; have := (hm hh _ (getD_mem 0 hk)).2; omega
      · have a := of_decide_eq_false h
        have b := of_decide_eq_false h'
        simp only [gI_nat, len_eq] at a b
        rcases Nat.lt_succ_iff_lt_or_eq.1 hji with e | e
        · exact hkj j e
        · subst e; exact ⟨by omega, by omega⟩
    · rintro _ ⟨rfl, hkj⟩ Kb'
      refine br_f (by simp [len_eq]) (hKb _ ⟨by rw [iadd_nat (by omega)], fun j hji => ?_⟩)
      rcases Nat.lt_succ_iff_lt_or_eq.1 hji with e | e
      · exact hj j e
      · subst e; rw [hq]; exact all_getD 0 hkj
  · rintro _ ⟨rfl, hj⟩ Kb
    refine br_f (by simp) (yes ⟨h3.symm, h1, h2, h4, h5, hj 0 (by omega), hj 1 (by omega), hj 2 (by omega)⟩)
theorem HVp.gl {l r ro : List Int} (h : HVp l r ro) {i : Nat} (hi : i < l.length) : okP l.length (l.getD i 0) := h.okl _ (getD_mem 0 hi)
theorem HVp.gr {l r ro : List Int} (h : HVp l r ro) {i : Nat} (hi : i < l.length) : okP l.length (r.getD i 0) := h.okr _ (getD_mem 0 (by rw [← h.lr]; exact hi))
/-- Does a pointer lead to a young cell? -/
def yg (old : List Bool) (x : Int) : Bool := x != -1 && !(old.getD x.toNat false)
theorem L_l11Young {old : List Bool} {x : Int} {K : Bool → Prop} (hx : okP old.length x) (hK : K (yg old x)) : Ms_l11Young old x K := by
  refine br (fun h => ⟨⟨?_, hx.2⟩, ?_⟩) fun h => ?_
  · have := hx.1; simp at h; omega
  · simpa [yg, h, gB, EK.dflt] using hK
  · simpa [yg, h] using hK
theorem L_remembered_1 {old : List Bool} {x : Int} {K : Bool → Prop} (hx : okP old.length x) (hK : K (yg old x)) : Mi_remembered_1 x old K := by
  refine br (fun h => ⟨⟨?_, hx.2⟩, ?_⟩) fun h => ?_
  · have := hx.1; simp at h; omega
  · simpa [yg, h, gB, EK.dflt] using hK
  · simpa [yg, h] using hK
/-- Is an old cell remembered? -/
def isRem (l r : List Int) (old : List Bool) (i : Nat) : Bool := old.getD i false && (yg old (l.getD i 0) || yg old (r.getD i 0))
def remU (l r : List Int) (old : List Bool) (n : Nat) : List Int := ((List.range n).filter (isRem l r old)).map fun (i : Nat) => (i : Int)
def rem (l r : List Int) (old : List Bool) : List Int := remU l r old old.length
theorem remU_succ (l r : List Int) (old : List Bool) (n : Nat) : remU l r old (n + 1) = if isRem l r old n then remU l r old n ++ [(n : Int)] else remU l r old n := by
  unfold remU
  rw [List.range_succ, List.filter_append]
  cases h : isRem l r old n <;> simp [h]
theorem remU_len (l r : List Int) (old : List Bool) (n : Nat) : (remU l r old n).length ≤ n := by
  unfold remU
  rw [List.length_map]
  exact Nat.le_trans (List.length_filter_le _ _) (by simp)
theorem L_l11Remember {l r ro : List Int} {old : List Bool} {K : List Int → Prop} (hv : HVp l r ro) (ho : old.length = l.length) (hK : K (rem l r old)) : Ms_l11Remember l r ro old K := by
  have h8 := hv.l8
  refine LoopP_for (fun i s => s = (old, (i : Int), l, r, ro, remU l r old i)) old.length rfl ?_ ?_
  · rintro i _ hi rfl Kb hKb
    have hlen := remU_len l r old i
    have hs := remU_succ l r old i
    have e : iadd (i : Int) 1 = ((i + 1 : Nat) : Int) := iadd_nat (by omega)
    refine br_t (by simp [len_eq]; exact hi) ⟨by simp [inB_nat]; exact hi, br (fun h => ?_) fun h => ?_⟩
    · simp only [gB_nat] at h
      refine ⟨by simp [inB_nat]; omega, L_l11Young (by simp only [gI_nat]; rw [ho]; exact hv.gl (by omega)) (br (fun h1 => ⟨by simp; omega, hKb _ ?_⟩) fun h1 => ⟨by have := hv.lr; simp [inB_nat]; omega, L_l11Young (by simp only [gI_nat]; rw [ho]; exact hv.gr (by omega)) (br (fun h2 => ⟨by simp; omega, hKb _ ?_⟩) fun h2 => hKb _ ?_)⟩)⟩
      · simp only [gI_nat] at h1; rw [e, hs, if_pos (by simp only [isRem, h, h1, Bool.true_or, Bool.and_true])]
      · simp only [gI_nat] at h1 h2; rw [e, hs, if_pos (by simp only [isRem, h, h1, h2, Bool.or_true, Bool.and_true])]
      · simp only [gI_nat] at h1 h2; rw [e, hs, if_neg (by simp only [isRem, h1, h2, Bool.or_false, Bool.and_false]; simp)]
    · simp only [gB_nat] at h
      refine hKb _ ?_
      rw [e, hs, if_neg (by simp only [isRem, h, Bool.false_and]; simp)]
  · rintro _ rfl Kb
    exact br_f (by simp [len_eq]) hK
theorem L_remembered {l r ro : List Int} {old : List Bool} {K : List Int → Prop} (hv : HVp l r ro) (ho : old.length = l.length) (hK : K (rem l r old)) : Mi_remembered l r ro old K := by
  have h8 := hv.l8
  refine LoopP_for (fun i s => s = (old, len old, (i : Int), l, r, ro, old, remU l r old i)) old.length rfl ?_ ?_
  · rintro i _ hi rfl Kb hKb
    have hlen := remU_len l r old i
    have hs := remU_succ l r old i
    have e : iadd (i : Int) 1 = ((i + 1 : Nat) : Int) := iadd_nat (by omega)
    refine br_t (by simp [len_eq]; exact hi) ⟨by simp [inB_nat]; exact hi, br (fun h => ?_) fun h => ?_⟩
    · simp only [gB_nat] at h
      refine ⟨by simp [inB_nat]; omega, L_remembered_1 (by simp only [gI_nat]; rw [ho]; exact hv.gl (by omega)) (br (fun h1 => ⟨by simp; omega, hKb _ ?_⟩) fun h1 => ⟨by have := hv.lr; simp [inB_nat]; omega, L_remembered_1 (by simp only [gI_nat]; rw [ho]; exact hv.gr (by omega)) (br (fun h2 => ⟨by simp; omega, hKb _ ?_⟩) fun h2 => hKb _ ?_)⟩)⟩
      · simp only [gI_nat] at h1; rw [e, hs, if_pos (by simp only [isRem, h, h1, Bool.true_or, Bool.and_true])]
      · simp only [gI_nat] at h1 h2; rw [e, hs, if_pos (by simp only [isRem, h, h1, h2, Bool.or_true, Bool.and_true])]
      · simp only [gI_nat] at h1 h2; rw [e, hs, if_neg (by simp only [isRem, h1, h2, Bool.or_false, Bool.and_false]; simp)]
    · simp only [gB_nat] at h
      refine hKb _ ?_
      rw [e, hs, if_neg (by simp only [isRem, h, Bool.false_and]; simp)]
  · rintro _ rfl Kb
    exact br_f (by simp [len_eq]) hK
/-- Valid generations. -/
structure GVp (l r ro : List Int) (old : List Bool) (re : List Int) : Prop where
  h : HVp l r ro
  o : old.length = l.length
  m : re = rem l r old
instance (l r ro : List Int) (old : List Bool) (re : List Int) : Decidable (GVp l r ro old re) := decidable_of_iff (HVp l r ro ∧ old.length = l.length ∧ re = rem l r old) ⟨fun ⟨a, b, c⟩ => ⟨a, b, c⟩, fun ⟨a, b, c⟩ => ⟨a, b, c⟩⟩
theorem L_sGensValid {l r ro re : List Int} {old : List Bool} {K : Bool → Prop} (hr : re.length < 2 ^ 62) (hK : K (decide (GVp l r ro old re))) : Ms_GensValid l r ro old re K := by
  have no : ¬ GVp l r ro old re → K false := fun h => by rwa [decide_eq_false h] at hK
  refine L_sHeapValid (br (fun h1 => br (fun h2 => ?_) fun h2 => no fun hh => ?_) fun h1 => no fun hh => ?_)
  · have h1 := of_decide_eq_true h1
    have h2 : old.length = l.length := by simp [len_eq] at h2; omega
    refine L_l11Remember h1 h2 (L_l1Ints hr ?_)
    have : decide (re = rem l r old) = decide (GVp l r ro old re) := decide_eq_decide.2 ⟨fun h => ⟨h1, h2, h⟩, fun h => h.m⟩
    rw [this]; exact hK
  · have := hh.o; simp [len_eq] at h2; omega
  · exact of_decide_eq_false h1 hh.h
theorem L_iGensValid {l r ro re : List Int} {old : List Bool} {K : Bool → Prop} (hr : re.length < 2 ^ 62) (hK : K (decide (GVp l r ro old re))) : Mi_GensValid l r ro old re K := by
  have no : ¬ GVp l r ro old re → K false := fun h => by rwa [decide_eq_false h] at hK
  refine L_iHeapValid (br (fun h1 => br (fun h2 => ?_) fun h2 => no fun hh => ?_) fun h1 => no fun hh => ?_)
  · have h1 := of_decide_eq_true h1
    have h2 : old.length = l.length := by simp [len_eq] at h2; omega
    refine L_remembered h1 h2 (L_Equal_int hr ?_)
    have : decide (re = rem l r old) = decide (GVp l r ro old re) := decide_eq_decide.2 ⟨fun h => ⟨h1, h2, h⟩, fun h => h.m⟩
    rw [this]; exact hK
  · have := hh.o; simp [len_eq] at h2; omega
  · exact of_decide_eq_false h1 hh.h
theorem nodup_len : ∀ (n : Nat) (l : List Nat), l.Nodup → (∀ x ∈ l, x < n) → l.length ≤ n
  | 0, l, _, h => by
    cases l with
    | nil => simp
    | cons a l => exact absurd (h a (by simp)) (by omega)
  | n + 1, l, hn, h => by
    by_cases hm : n ∈ l
    · have h1 := nodup_len n (l.erase n) (hn.erase n) fun x hx => by
        have h2 := (List.Nodup.mem_erase_iff hn).1 hx
        have := h x h2.2
        omega
      rw [List.length_erase_of_mem hm] at h1
      omega
    · have := nodup_len n l hn fun x hx => by
        have h2 := h x hx
        have : x ≠ n := fun e => hm (e ▸ hx)
        omega
      omega
/-- Different cells of a heap of n cells. -/
structure CellsP (n : Nat) (s : List Int) : Prop where
  nd : s.Nodup
  ok : ∀ x ∈ s, 0 ≤ x ∧ x < n
instance (n : Nat) (s : List Int) : Decidable (CellsP n s) := decidable_of_iff (s.Nodup ∧ ∀ x ∈ s, 0 ≤ x ∧ x < n) ⟨fun ⟨a, b⟩ => ⟨a, b⟩, fun ⟨a, b⟩ => ⟨a, b⟩⟩
theorem CellsP.len {n : Nat} {s : List Int} (h : CellsP n s) : s.length ≤ n := by
  have h1 : (s.map Int.toNat).Nodup := by
    rw [List.nodup_iff_pairwise_ne, List.pairwise_map]
    refine (List.nodup_iff_pairwise_ne.1 h.nd).imp_of_mem ?_
    intro a b ha hb hab
    have := h.ok a ha; have := h.ok b hb
    omega
  have := nodup_len n _ h1 fun x hx => by
    obtain ⟨a, ha, rfl⟩ := List.mem_map.1 hx
    have := h.ok a ha
    omega
  simpa using this
theorem CellsP.get {n : Nat} {s : List Int} (h : CellsP n s) {i : Nat} (hi : i < s.length) : 0 ≤ s.getD i 0 ∧ s.getD i 0 < n := h.ok _ (getD_mem 0 hi)
/-- Where is this number in the list? -/
def atL (l : List Int) (x : Int) : Int := if x ∈ l then ((l.idxOf x : Nat) : Int) else -1
theorem idxOf_first : ∀ {l : List Int} {x : Int} {i : Nat}, i < l.length → l.getD i 0 = x → (∀ j, j < i → l.getD j 0 ≠ x) → l.idxOf x = i
  | [], x, i, h, _, _ => by simp at h
  | a :: l, x, 0, _, h, _ => by
    simp at h
    subst h
    simp
  | a :: l, x, i + 1, h, h1, h2 => by
    have ha : a ≠ x := by simpa using h2 0 (by omega)
    rw [List.idxOf_cons]
    have : (a == x) = false := by simpa using ha
    rw [this]
    simp only [cond_false]
    rw [idxOf_first (by simpa using h) (by simpa using h1) fun j hj => by simpa using h2 (j + 1) (by omega)]
theorem atL_some {l : List Int} {x : Int} {i : Nat} (h : i < l.length) (h1 : l.getD i 0 = x) (h2 : ∀ j, j < i → l.getD j 0 ≠ x) : atL l x = i := by
  unfold atL
  rw [if_pos (by rw [← h1]; exact getD_mem 0 h), idxOf_first h h1 h2]
/-- A cell is met. -/
def meet (x : Int) (s : List Int) : List Int := if x ≠ -1 ∧ x ∉ s then s ++ [x] else s
theorem meet_mem {x y : Int} {s : List Int} (h : y ∈ meet x s) : y ∈ s ∨ (y = x ∧ x ≠ -1) := by
  unfold meet at h
  split at h
  · rename_i hh
    rcases List.mem_append.1 h with h | h
    · exact .inl h
    · simp at h; exact .inr ⟨h, hh.1⟩
  · exact .inl h
theorem meet_in {x : Int} {s : List Int} (h : x = -1 ∨ x ∈ s) : meet x s = s := by
  unfold meet
  rw [if_neg]
  rintro ⟨a, b⟩
  rcases h with h | h
  · exact a h
  · exact b h
theorem CellsP.meet {n : Nat} {x : Int} {s : List Int} (h : CellsP n s) (hx : okP n x) : CellsP n (meet x s) := by
  refine ⟨?_, fun y hy => ?_⟩
  · unfold Ab.meet
    split
    · rename_i hh
      rw [List.nodup_append]
      exact ⟨h.nd, by simp, fun a ha b hb => by simp at hb; subst hb; exact fun e => hh.2 (e ▸ ha)⟩
    · exact h.nd
  · rcases meet_mem hy with hy | ⟨rfl, hne⟩
    · exact h.ok y hy
    · have := hx.1; exact ⟨by omega, hx.2⟩
def metL (ps s : List Int) : List Int := ps.foldl (fun s p => meet p s) s
/-- A step of copying. -/
def stepO (l r s : List Int) (i : Nat) : List Int := meet (r.getD (s.getD i 0).toNat 0) (meet (l.getD (s.getD i 0).toNat 0) s)
def bfs (l r : List Int) : Nat → Nat → List Int → List Int
  | 0, i, s => s
  | f + 1, i, s => if i < s.length then bfs l r f (i + 1) (stepO l r s i) else s
def ordF (l r ro : List Int) : List Int := bfs l r (l.length + 1) 0 (metL ro [])
theorem L_Clone_int {l : List Int} {K : List Int → Prop} (hl : l.length ≤ 2 ^ 36) (hK : K l) : M_Clone_int l K := by
  intro b hb
  refine br (fun h => ?_) fun _ => ⟨hl, hK⟩
  have : l.length = 0 := Classical.byContradiction fun hh => by rw [hb hh] at h; cases h
  rwa [List.length_eq_zero_iff.1 this] at hK
theorem L_Clone_bool {l : List Bool} {K : List Bool → Prop} (hl : l.length ≤ 2 ^ 36) (hK : K l) : M_Clone_bool l K := by
  intro b hb
  refine br (fun h => ?_) fun _ => ⟨hl, hK⟩
  have : l.length = 0 := Classical.byContradiction fun hh => by rw [hb hh] at h; cases h
  rwa [List.length_eq_zero_iff.1 this] at hK
theorem L_copied {l r ro : List Int} {K : List Int → List Int → List Int → Prop} (hv : HVp l r ro) (hK : K l r ro) : Mi_copied l r ro K := by
  have := hv.l8; have := hv.lr; have := hv.r3
  exact L_Clone_int (by omega) (L_Clone_int (by omega) (L_Clone_int (by omega) hK))
theorem L_l1Copy {l r ro : List Int} {K : Prop} (hv : HVp l r ro) (hK : K) : Ms_l1Copy l r ro K := by
  have := hv.l8; have := hv.lr; have := hv.r3
  exact ⟨by omega, by omega, by omega, hK⟩
theorem L_sNewGens {l r ro : List Int} {K : Bool → List Int → List Int → List Int → List Bool → List Int → Prop} (hy : HVp l r ro → K true l r ro (List.replicate l.length false) []) (hn : ¬ HVp l r ro → K false [] [] [] [] []) : Ms_NewGens l r ro K := by
  refine L_sHeapValid (br (fun h => ?_) fun h => ?_)
  · simp at h; exact hn h
  · simp at h; have := h.l8; exact L_l1Copy h ⟨⟨by simp [len_eq], rfl, by simp [len_eq]; omega⟩, by simpa [len_eq] using hy h⟩
theorem L_has {l r ro : List Int} {c : Int} {K : Bool → Prop} (hK : K (decide (HVp l r ro ∧ 0 ≤ c ∧ c < l.length))) : Mi_has l r ro c K := by
  refine L_iHeapValid (br (fun h => br (fun h1 => ?_) fun h1 => ?_) fun h => ?_)
  · simp only [decide_eq_true_eq, ge_iff_le] at h h1
    have e : decide (c < len l) = decide (HVp l r ro ∧ 0 ≤ c ∧ c < l.length) := decide_eq_decide.2 ⟨fun hh => ⟨h, h1, hh⟩, fun hh => hh.2.2⟩
    rw [e]; exact hK
  · simp only [decide_eq_true_eq, ge_iff_le, decide_eq_false_iff_not] at h h1; rw [decide_eq_false (fun hh => h1 hh.2.1)] at hK; exact hK
  · simp at h; simpa [h] using hK
theorem L_l1Cell {l r ro : List Int} {c : Int} {K : Bool → Prop} (hK : K (decide (HVp l r ro ∧ 0 ≤ c ∧ c < l.length))) : Ms_l1Cell l r ro c K := by
  refine L_sHeapValid (br (fun h => br (fun h1 => ?_) fun h1 => ?_) fun h => ?_)
  · simp only [decide_eq_true_eq, ge_iff_le] at h h1
    have e : decide (c < len l) = decide (HVp l r ro ∧ 0 ≤ c ∧ c < l.length) := decide_eq_decide.2 ⟨fun hh => ⟨h, h1, hh⟩, fun hh => hh.2.2⟩
    rw [e]; exact hK
  · simp only [decide_eq_true_eq, ge_iff_le, decide_eq_false_iff_not] at h h1; rw [decide_eq_false (fun hh => h1 hh.2.1)] at hK; exact hK
  · simp at h; simpa [h] using hK
theorem L_pointer {l r ro : List Int} {c : Int} {K : Bool → Prop} (hK : K (decide (okP l.length c))) : Mi_pointer l r ro c K := L_l1Points (n := l.length) hK
/-- May this pointer be put? -/
structure PutP (l r ro : List Int) (c x : Int) : Prop where
  h : HVp l r ro
  c0 : 0 ≤ c
  c1 : c < l.length
  x : okP l.length x
instance (l r ro : List Int) (c x : Int) : Decidable (PutP l r ro c x) := decidable_of_iff (HVp l r ro ∧ 0 ≤ c ∧ c < l.length ∧ okP l.length x) ⟨fun ⟨a, b, c, d⟩ => ⟨a, b, c, d⟩, fun ⟨a, b, c, d⟩ => ⟨a, b, c, d⟩⟩
theorem L_iPutLeft {l r ro : List Int} {c x : Int} {K : Bool → List Int → List Int → List Int → Prop} (hy : PutP l r ro c x → K true (l.set c.toNat x) r ro) (hn : ¬ PutP l r ro c x → K false [] [] []) : Mi_PutLeft l r ro c x K := by
  refine L_has (br (fun h => hn fun hh => ?_) fun h => L_pointer (br (fun h1 => hn fun hh => ?_) fun h1 => ?_))
  · simp only [Bool.not_eq_true', decide_eq_false_iff_not] at h; exact h ⟨hh.h, hh.c0, hh.c1⟩
  · simp only [Bool.not_eq_true', decide_eq_false_iff_not] at h1; exact h1 hh.x
  · simp only [Bool.not_eq_false', decide_eq_true_eq] at h h1
    exact L_copied h.1 ⟨⟨h.2.1, h.2.2⟩, hy ⟨h.1, h.2.1, h.2.2, h1⟩⟩
theorem L_sPutLeft {l r ro : List Int} {c x : Int} {K : Bool → List Int → List Int → List Int → Prop} (hy : PutP l r ro c x → K true (l.set c.toNat x) r ro) (hn : ¬ PutP l r ro c x → K false [] [] []) : Ms_PutLeft l r ro c x K := by
  refine L_l1Cell (br (fun h => hn fun hh => ?_) fun h => L_l1Points (n := l.length) (br (fun h1 => hn fun hh => ?_) fun h1 => ?_))
  · simp only [Bool.not_eq_true', decide_eq_false_iff_not] at h; exact h ⟨hh.h, hh.c0, hh.c1⟩
  · simp only [Bool.not_eq_true', decide_eq_false_iff_not] at h1; exact h1 hh.x
  · simp only [Bool.not_eq_false', decide_eq_true_eq] at h h1
    exact L_l1Copy h.1 ⟨⟨h.2.1, h.2.2⟩, hy ⟨h.1, h.2.1, h.2.2, h1⟩⟩
theorem PutP.valid {l r ro : List Int} {c x : Int} (h : PutP l r ro c x) : HVp (l.set c.toNat x) r ro := by
  have := h.h
  refine ⟨by simpa using this.lr, by simpa using this.l1, by simpa using this.l8, this.r1, this.r3, fun y hy => ?_, fun y hy => by simpa using this.okr y hy, fun y hy => by simpa using this.oko y hy⟩
  simp only [List.length_set]
  rcases List.mem_or_eq_of_mem_set hy with hy | rfl
  · exact this.okl y hy
  · exact h.x
theorem L_iPutGens {l r ro re : List Int} {old : List Bool} {c x : Int} {K : Bool → List Int → List Int → List Int → List Bool → List Int → Prop} (hr : re.length < 2 ^ 62) (hy : PutP l r ro c x → GVp l r ro old re → K true (l.set c.toNat x) r ro old (rem (l.set c.toNat x) r old))
    (hn : ¬ (PutP l r ro c x ∧ GVp l r ro old re) → K false [] [] [] [] []) : Mi_PutGens l r ro old re c x K := by
  refine L_iPutLeft (fun h => L_iGensValid hr (br (fun h1 => ?_) fun h1 => br_f rfl ?_)) fun h => L_iGensValid hr (br (fun h1 => ?_) fun h1 => br_t rfl ?_)
  · simp only [Bool.not_eq_true', decide_eq_false_iff_not] at h1; exact hn fun hh => h1 hh.2
  · simp only [Bool.not_eq_false', decide_eq_true_eq] at h1
    have := h1.o; have := h1.h.l8
    exact L_Clone_bool (by omega) (L_remembered h.valid (by simpa using h1.o) (hy h h1))
  · exact hn fun hh => h hh.1
  · exact hn fun hh => h hh.1
theorem L_sPutGens {l r ro re : List Int} {old : List Bool} {c x : Int} {K : Bool → List Int → List Int → List Int → List Bool → List Int → Prop} (hr : re.length < 2 ^ 62) (hy : PutP l r ro c x → GVp l r ro old re → K true (l.set c.toNat x) r ro old (rem (l.set c.toNat x) r old))
    (hn : ¬ (PutP l r ro c x ∧ GVp l r ro old re) → K false [] [] [] [] []) : Ms_PutGens l r ro old re c x K := by
  refine L_sPutLeft (fun h => L_sGensValid hr (br (fun h1 => ?_) fun h1 => br_f rfl ?_)) fun h => L_sGensValid hr (br (fun h1 => ?_) fun h1 => br_t rfl ?_)
  · simp only [Bool.not_eq_true', decide_eq_false_iff_not] at h1; exact hn fun hh => h1 hh.2
  · simp only [Bool.not_eq_false', decide_eq_true_eq] at h1
    have := h1.o; have := h1.h.l8
    exact ⟨by omega, L_l11Remember h.valid (by simpa using h1.o) (hy h h1)⟩
  · exact hn fun hh => h hh.1
  · exact hn fun hh => h hh.1
/-- A reader that may draw k more times. -/
structure RdOk (b : List Int) (p : Int) (k : Nat) : Prop where
  by_ : ∀ x ∈ b, 0 ≤ x ∧ x < 256
  len : b.length ≤ 2000
  p0 : 0 ≤ p
  pk : p + k ≤ 1099511627776
theorem RdOk.le {b : List Int} {p : Int} {k k' : Nat} (h : RdOk b p k) (hk : k' ≤ k) : RdOk b p k' := ⟨h.by_, h.len, h.p0, by have := h.pk; omega⟩
theorem RdOk.gY {b : List Int} {p : Int} {k : Nat} (h : RdOk b p k) {i : Int} (h0 : 0 ≤ i) (h1 : i < b.length) : 0 ≤ gY b i ∧ gY b i < 256 := by
  unfold Ab.gY
  exact h.by_ _ (getD_mem _ (by omega))
theorem xor_pos {a b : Int} (ha : 0 ≤ a) (ha' : a < 4611686018427387904) (hb : 0 ≤ b) (hb' : b < 4611686018427387904) :
    0 ≤ IntKind.wrap .i64 (((BitVec.ofInt (IntKind.bits .i64) a ^^^ BitVec.ofInt (IntKind.bits .i64) b).toNat : Int)) := by
  obtain ⟨x, rfl⟩ := Int.eq_ofNat_of_zero_le ha
  obtain ⟨y, rfl⟩ := Int.eq_ofNat_of_zero_le hb
  have hx : x < 2 ^ 62 := by omega
  have hy : y < 2 ^ 62 := by omega
  have h1 : x % 2 ^ 64 = x := Nat.mod_eq_of_lt (by omega)
  have h2 : y % 2 ^ 64 = y := Nat.mod_eq_of_lt (by omega)
  have h3 : (BitVec.ofInt (IntKind.bits .i64) (x : Int) ^^^ BitVec.ofInt (IntKind.bits .i64) (y : Int)).toNat = x ^^^ y := by
    rw [BitVec.toNat_xor]
    have e1 : (BitVec.ofInt (IntKind.bits .i64) (x : Int)).toNat = x % 2 ^ 64 := by simp [BitVec.toNat_ofInt, IntKind.bits]
    have e2 : (BitVec.ofInt (IntKind.bits .i64) (y : Int)).toNat = y % 2 ^ 64 := by simp [BitVec.toNat_ofInt, IntKind.bits]
    rw [e1, e2, h1, h2]
  rw [h3]
  have h4 : x ^^^ y < 2 ^ 62 := Nat.xor_lt_two_pow hx hy
  rw [wrap64 (by omega) (by omega)]
  omega
theorem tmod_in {x n : Int} (hx : 0 ≤ x) (hn : 1 ≤ n) : 0 ≤ x.tmod n ∧ x.tmod n < n := by
  rw [Int.tmod_eq_emod_of_nonneg hx]
  exact ⟨Int.emod_nonneg _ (by omega), Int.emod_lt_of_pos _ (by omega)⟩
theorem L_pick {n : Int} {b : List Int} {p : Int} {k : Nat} {K : Int → Int → Prop} (h : RdOk b p (k + 1)) (hK : ∀ v, 0 ≤ v → (1 ≤ n → v < n) → RdOk b (p + 1) k → K v (p + 1)) : Ms_l13Rd_pick n b p K := by
  have hp := h.p0
  have hk := h.pk
  have hl := h.len
  have e1 : iadd p 1 = p + 1 := iadd_eq (by omega) (by omega)
  have e2 : isub (p + 1) 1 = p := by rw [isub_eq (by omega) (by omega)]; omega
  have hr : RdOk b (p + 1) k := ⟨h.by_, h.len, by omega, by omega⟩
  unfold Ms_l13Rd_pick
  rw [e1, e2]
  refine br (fun h1 => hK 0 (by omega) (fun _ => by omega) hr) fun h1 => br (fun h2 => hK 0 (by omega) (fun _ => by omega) hr) fun h2 => ?_
  have h1 : 1 ≤ n := by have := of_decide_eq_false h1; omega
  have h2 : 0 < b.length := by simp [len_eq] at h2; exact List.length_pos_iff.2 h2
  refine br (fun h3 => ?_) fun h3 => ?_
  · have h3 : p < b.length := by have := of_decide_eq_true h3; simp only [len_eq] at this; omega
    have hg := h.gY hp h3
    refine ⟨⟨hp, h3⟩, by omega, ?_⟩
    have e3 : IntKind.wrap .i64 (gY b p) = gY b p := wrap64 (by omega) (by omega)
    have := tmod_in hg.1 h1
    dsimp only
    rw [e3]
    exact hK _ this.1 (fun _ => this.2) hr
  · have hl' : len b ≠ 0 := by simp only [len_eq]; omega
    have hl1 : (1 : Int) ≤ len b := by simp only [len_eq]; omega
    have hl2 : len b ≤ 2000 := by simp only [len_eq]; omega
    have m1 := tmod_in hp hl1
    have e4 : imul p 7 = p * 7 := imul_eq (by omega) (by omega)
    have e5 : iadd (p * 7) 3 = p * 7 + 3 := iadd_eq (by omega) (by omega)
    have m2 := tmod_in (show 0 ≤ p * 7 + 3 by omega) hl1
    have hg1 := h.gY (i := p.tmod (len b)) m1.1 m1.2
    have hg2 := h.gY (i := (p * 7 + 3).tmod (len b)) m2.1 m2.2
    have e6 : IntKind.wrap .i64 (gY b (p.tmod (len b))) = gY b (p.tmod (len b)) := wrap64 (by omega) (by omega)
    have e7 : IntKind.wrap .i64 (gY b ((p * 7 + 3).tmod (len b))) = gY b ((p * 7 + 3).tmod (len b)) := wrap64 (by omega) (by omega)
    rw [e4, e5]
    refine ⟨hl', ⟨m1.1, m1.2⟩, ?_⟩
    dsimp only
    refine ⟨hl', ⟨m2.1, m2.2⟩, ?_⟩
    rw [e6, e7]
    generalize gY b (p.tmod (len b)) = x1 at hg1
    generalize gY b ((p * 7 + 3).tmod (len b)) = x2 at hg2
    have q0 : 0 ≤ p.tdiv (len b) := Int.tdiv_nonneg hp (by omega)
    have q1 : p.tdiv (len b) ≤ p := by rw [Int.tdiv_eq_ediv_of_nonneg hp]; exact Int.ediv_le_self _ hp
    have f1 : imul x1 131 = x1 * 131 := imul_eq (by omega) (by omega)
    have f2 : imul x2 1117 = x2 * 1117 := imul_eq (by omega) (by omega)
    have f3 : imul p 29 = p * 29 := imul_eq (by omega) (by omega)
    have f4 : iquo p (len b) = p.tdiv (len b) := wrap64 (by omega) (by omega)
    rw [f1, f2, f3, f4]
    generalize p.tdiv (len b) = q at q0 q1
    have f5 : imul q 53 = q * 53 := imul_eq (by omega) (by omega)
    have f6 : iadd (x1 * 131) (x2 * 1117) = x1 * 131 + x2 * 1117 := iadd_eq (by omega) (by omega)
    have f7 : iadd (x1 * 131 + x2 * 1117) (p * 29) = x1 * 131 + x2 * 1117 + p * 29 := iadd_eq (by omega) (by omega)
    have f8 : iadd (x1 * 131 + x2 * 1117 + p * 29) (q * 53) = x1 * 131 + x2 * 1117 + p * 29 + q * 53 := iadd_eq (by omega) (by omega)
    rw [f5, f6, f7, f8]
    have g0 : 0 ≤ x1 * 131 + x2 * 1117 + p * 29 + q * 53 := by omega
    have g1 : x1 * 131 + x2 * 1117 + p * 29 + q * 53 < 4611686018427387904 := by omega
    generalize x1 * 131 + x2 * 1117 + p * 29 + q * 53 = x at g0 g1
    have r0 : 0 ≤ x.tdiv 64 := Int.tdiv_nonneg g0 (by omega)
    have r1 : x.tdiv 64 ≤ x := by rw [Int.tdiv_eq_ediv_of_nonneg g0]; exact Int.ediv_le_self _ g0
    have f9 : iquo x 64 = x.tdiv 64 := wrap64 (by omega) (by omega)
    refine ⟨hl', by omega, by omega, ?_⟩
    rw [f9]
    have := tmod_in (xor_pos g0 g1 r0 (by omega)) h1
    exact hK _ this.1 (fun _ => this.2) hr
theorem L_num {l b : List Int} {p : Int} {k : Nat} {K : Int → Int → Prop} (h : RdOk b p (k + 1)) (hl : 1 ≤ l.length) (hK : ∀ v, v ∈ l → RdOk b (p + 1) k → K v (p + 1)) : Ms_l13Rd_num l b p K := by
  refine L_pick h fun v h0 h1 hr => ?_
  have h1 := h1 (by simp only [len_eq]; omega)
  simp only [len_eq] at h1
  exact ⟨⟨h0, h1⟩, hK _ (getD_mem 0 (by omega)) hr⟩
theorem L_l13Open {c : List Int} {K : List Int → Int → Prop} (hc : ∀ x ∈ c, U8 x) (hK : ∀ b, RdOk b 0 1000000 → K b 0) : Ms_l13Open c K := by
  have h8 : ∀ x ∈ c, 0 ≤ x ∧ x < 256 := fun x hx => by
    have := hc x hx
    simp [U8, Lit.wf, IntKind.min, IntKind.max, IntKind.signed, IntKind.bits] at this
    omega
  refine br (fun h => ⟨⟨by omega, by omega, ?_⟩, hK _ ⟨fun x hx => ?_, ?_, by omega, by omega⟩⟩) fun h => hK _ ⟨h8, ?_, by omega, by omega⟩
  · have := of_decide_eq_true h; omega
  · simp only [sub] at hx; exact h8 x (List.mem_of_mem_take (List.mem_of_mem_drop hx))
  · simp [sub]; omega
  · have := of_decide_eq_false h; simp only [len_eq] at this; omega
theorem L_l1Many {n : Nat} {K : List Int → Prop} (hn : n ≤ 8) (hK : K (List.replicate n (-1))) : Ms_l1Many n K := by
  refine LoopP_for (fun i s => s = ((n : Int), (i : Int), List.replicate i (-1))) n rfl ?_ ?_
  · rintro i _ hi rfl Kb hKb
    refine br_t (by simp; omega) ⟨by simp; omega, hKb _ ?_⟩
    rw [iadd_nat (by omega), ← List.replicate_succ']
  · rintro _ rfl Kb
    exact br_f (by simp) hK
theorem L_sNewHeap {n m : Nat} {K : Bool → List Int → List Int → List Int → Prop} (hn : 1 ≤ n) (hn8 : n ≤ 8) (hm : 1 ≤ m) (hm3 : m ≤ 3) (hK : K true (List.replicate n (-1)) (List.replicate n (-1)) (List.replicate m (-1))) : Ms_NewHeap n m K :=
  br_f (by simp; omega) (br_f (by simp; omega) (br_f (by simp; omega) (br_f (by simp; omega) (L_l1Many hn8 (L_l1Many hn8 (L_l1Many (by omega) hK))))))
theorem ok_set {n : Nat} {l : List Int} {i : Nat} {v : Int} (h : ∀ x ∈ l, okP n x) (hv : okP n v) : ∀ x ∈ l.set i v, okP n x := fun x hx => by
  rcases List.mem_or_eq_of_mem_set hx with hx | rfl
  · exact h x hx
  · exact hv
theorem ok_rep {n m : Nat} : ∀ x ∈ List.replicate m (-1 : Int), okP n x := fun x hx => by
  have := (List.mem_replicate.1 hx).2
  subst this
  exact ⟨by omega, by omega⟩
theorem L_l1Draw {b : List Int} {p : Int} {k : Nat} {K : List Int → Int → List Int → List Int → List Int → Prop} (h : RdOk b p (k + 21)) (hK : ∀ p' l r ro, RdOk b p' k → HVp l r ro → K b p' l r ro) : Ms_l1Draw b p K := by
  refine L_num (k := k + 20) h (by simp) fun y1 hy1 h1 => L_num (k := k + 19) h1 (by simp) fun y3 hy3 h2 => ?_
  have ha : 1 ≤ y1 ∧ y1 ≤ 8 := by simp at hy1; omega
  have hb : 1 ≤ y3 ∧ y3 ≤ 3 := by simp at hy3; omega
  obtain ⟨n, rfl⟩ := Int.eq_ofNat_of_zero_le (show 0 ≤ y1 by omega)
  obtain ⟨m, rfl⟩ := Int.eq_ofNat_of_zero_le (show 0 ≤ y3 by omega)
  refine L_sNewHeap (by omega) (by omega) (by omega) (by omega) ?_
  refine LoopP_for (fun i s => ∃ p' L R, s = ((n : Int), (i : Int), b, p', [], [], [], L, R, List.replicate m (-1)) ∧ RdOk b p' (k + 3 + 2 * (n - i)) ∧ L.length = n ∧ R.length = n ∧ (∀ x ∈ L, okP n x) ∧ ∀ x ∈ R, okP n x) n
    ⟨_, _, _, rfl, h2.le (by omega), by simp, by simp, ok_rep, ok_rep⟩ ?_ ?_
  · rintro i _ hi ⟨p', L, R, rfl, hr, hL, hR, oL, oR⟩ Kb hKb
    have e1 : iadd (n : Int) 2 = n + 2 := iadd_eq (by omega) (by omega)
    refine br_t (by simp; omega) ?_
    dsimp only
    rw [e1]
    refine L_pick (k := k + 3 + 2 * (n - (i + 1)) + 1) (hr.le (by omega)) fun v hv0 hv1 hr1 => ⟨by rw [inB_nat]; omega, L_pick (k := k + 3 + 2 * (n - (i + 1))) hr1 fun w hw0 hw1 hr2 => ⟨by rw [inB_nat]; omega, by rw [inB_nat, uL_nat, List.length_set]; omega, ?_⟩⟩
    have hv1 := hv1 (by omega)
    have hw1 := hw1 (by omega)
    have e2 : isub v 1 = v - 1 := isub_eq (by omega) (by omega)
    have e3 : isub w 2 = w - 2 := isub_eq (by omega) (by omega)
    have g1 : (L.set i (v - 1)).getD i 0 = v - 1 := by rw [getD_lt (by rw [List.length_set]; omega)]; simp
    have g2 : (R.set i (w - 2)).getD i 0 = w - 2 := by rw [getD_lt (by rw [List.length_set]; omega)]; simp
    simp only [e2, e3, uL_nat, gI_nat, g1, g2, List.set_set, inB_nat, List.length_set, hL, hR, hi, true_and]
    have key : ∀ L' R', L'.length = n → R'.length = n → (∀ x ∈ L', okP n x) → (∀ x ∈ R', okP n x) → Kb ((n : Int), iadd (i : Int) 1, b, p' + 1 + 1, [], [], [], L', R', List.replicate m (-1)) := fun L' R' a1 a2 a3 a4 => hKb _ ⟨_, L', R', by rw [iadd_nat (by omega)], hr2, a1, a2, a3, a4⟩
    have m1 : okP n (-1) := ⟨by omega, by omega⟩
    refine br (fun c1 => br (fun c2 => ?_) fun c2 => ?_) fun c1 => br (fun c2 => ?_) fun c2 => ?_
    · exact key _ _ (by simpa using hL) (by simpa using hR) (ok_set oL m1) (ok_set oR m1)
    · exact key _ _ (by simpa using hL) (by simpa using hR) (ok_set oL m1) (ok_set oR ⟨by have := of_decide_eq_false c2; omega, by omega⟩)
    · exact key _ _ (by simpa using hL) (by simpa using hR) (ok_set oL ⟨by omega, by have := of_decide_eq_false c1; omega⟩) (ok_set oR m1)
    · exact key _ _ (by simpa using hL) (by simpa using hR) (ok_set oL ⟨by omega, by have := of_decide_eq_false c1; omega⟩) (ok_set oR ⟨by have := of_decide_eq_false c2; omega, by omega⟩)
  · rintro _ ⟨p', L, R, rfl, hr, hL, hR, oL, oR⟩ Kb
    refine br_f (by simp) ?_
    have e1 : iadd (n : Int) 1 = n + 1 := iadd_eq (by omega) (by omega)
    refine LoopP_for (fun i s => ∃ p' ro, s = ((n : Int), (i : Int), b, p', [], [], [], L, R, ro) ∧ RdOk b p' (k + (m - i)) ∧ ro.length = m ∧ ∀ x ∈ ro, okP n x) m ⟨_, _, rfl, hr.le (by omega), by simp, ok_rep⟩ ?_ ?_
    · rintro i _ hi ⟨p', ro, rfl, hr, hro, oro⟩ Kb hKb
      refine br_t (by simp [len_eq, hro]; omega) ?_
      dsimp only
      rw [e1]
      refine L_pick (k := k + (m - (i + 1))) (hr.le (by omega)) fun v hv0 hv1 hr1 => ⟨by rw [inB_nat]; omega, hKb _ ⟨_, ro.set i (v - 1), ?_, hr1, by simpa using hro, ok_set oro ?_⟩⟩
      · rw [iadd_nat (by omega), isub_eq (by omega) (by have := hv1 (by omega); omega), uL_nat]
      · have := hv1 (by omega); exact ⟨by omega, by omega⟩
    · rintro _ ⟨p', ro, rfl, hr, hro, oro⟩ Kb
      refine br_f (by simp [len_eq, hro]) ?_
      dsimp only
      exact (hK _ _ _ _ (hr.le (by omega)) ⟨by omega, by omega, by omega, by omega, by omega, by rw [hL]; exact oL, by rw [hL]; exact oR, by rw [hL]; exact oro⟩)
theorem eqN {v : Int} {n : Int} {P Q : Prop} (h1 : v = n → P) (h2 : v ≠ n → Q) : ((v == n) = true → P) ∧ ((v == n) = false → Q) := br (fun h => h1 (by simpa using h)) fun h => h2 (by simpa using h)
theorem rem_len (l r : List Int) (old : List Bool) : (rem l r old).length ≤ old.length := remU_len l r old _
theorem L_l11Draw {b : List Int} {p : Int} {k : Nat} {K : List Int → Int → List Int → List Int → List Int → List Bool → List Int → Prop} (h : RdOk b p (k + 29)) (hK : ∀ p' l r ro old re, RdOk b p' k → GVp l r ro old re → K b p' l r ro old re) : Ms_l11Draw b p K := by
  refine L_l1Draw (k := k + 8) h fun p' l r ro hr hv => L_sNewGens (fun _ => ?_) fun hh => absurd hv hh
  have h8 := hv.l8
  refine LoopP_for (fun i s => ∃ p' old, s = ((i : Int), b, p', [], [], [], [], [], l, r, ro, l, r, ro, old, []) ∧ RdOk b p' (k + (l.length - i)) ∧ old.length = l.length) l.length ⟨_, _, rfl, hr.le (by omega), by simp⟩ ?_ ?_
  · rintro i _ hi ⟨p', old, rfl, hr, ho⟩ Kb hKb
    refine br_t (by simp [len_eq, ho]; omega) (L_pick (k := k + (l.length - (i + 1))) (hr.le (by omega)) fun v v0 v1 hr2 => ⟨by rw [inB_nat]; dsimp only; omega, hKb _ ⟨_, old.set i (v == 0), ?_, hr2, by simpa using ho⟩⟩)
    rw [iadd_nat (by omega)]; simp only [uL_nat]
  · rintro _ ⟨p', old, rfl, hr, ho⟩ Kb
    refine br_f (by simp [len_eq, ho]) (L_l11Remember hv ho ?_)
    exact hK _ _ _ _ _ _ (hr.le (by omega)) ⟨hv, ho, rfl⟩
theorem L_l11Wrong {b l r ro re : List Int} {old : List Bool} {p : Int} {k : Nat} {K : Int → List Bool → List Int → Prop} (hv : HVp l r ro) (h : RdOk b p (k + 2)) (ho1 : 1 ≤ old.length) (ho : old.length ≤ 1000) (hre : re.length ≤ 1000)
    (hK : ∀ p' old' re', RdOk b p' k → 1 ≤ old'.length → old'.length ≤ old.length + 1 → re'.length ≤ re.length + 1 → K p' old' re') : Ms_l11Wrong b p l r ro old re K := by
  refine L_l1Copy hv ⟨by omega, by omega, L_pick (k := k + 1) h fun v v0 v1 hr => eqN (fun _ => ?_) fun _ => eqN (fun _ => ?_) fun _ => eqN (fun _ => ?_) fun _ => ?_⟩
  · refine L_pick (k := k) hr fun w w0 w1 hr2 => ?_
    have w1 := w1 (by simp only [len_eq]; omega)
    simp only [len_eq] at w1
    exact ⟨⟨w0, w1⟩, ⟨w0, w1⟩, hK _ _ _ hr2 (by simp [uL]; omega) (by simp [uL]) (by omega)⟩
  · exact L_num (k := k) hr (by simp) fun u hu hr2 => ⟨by simp; omega, hK _ _ _ hr2 ho1 (by omega) (by simp)⟩
  · exact ⟨by simp; omega, hK _ _ _ (hr.le (by omega)) (by simp) (by simp) (by omega)⟩
  · exact hK _ _ _ (hr.le (by omega)) ho1 (by omega) (by omega)
theorem GVp.old1 {l r ro re : List Int} {old : List Bool} (h : GVp l r ro old re) : 1 ≤ old.length := by rw [h.o]; exact h.h.l1
theorem GVp.old8 {l r ro re : List Int} {old : List Bool} (h : GVp l r ro old re) : old.length ≤ 8 := by rw [h.o]; exact h.h.l8
theorem GVp.re8 {l r ro re : List Int} {old : List Bool} (h : GVp l r ro old re) : re.length ≤ 8 := by rw [h.m]; have := rem_len l r old; have := h.old8; omega
theorem L_l11Case {c : List Int} {K : List Int → List Int → List Int → List Bool → List Int → Prop} (hc : ∀ x ∈ c, U8 x) (hK : ∀ l r ro old re, HVp l r ro → old.length ≤ 10 → re.length ≤ 10 → K l r ro old re) : Ms_l11Case c K :=
  L_l13Open hc fun b hb => L_l11Draw (k := 100) (hb.le (by omega)) fun p l r ro old re hr hv =>
    have h1 := hv.old8; have h2 := hv.re8
    L_l11Wrong (k := 98) hv.h hr hv.old1 (by omega) (by omega) fun p' old' re' hr' a1 a2 a3 => hK _ _ _ _ _ hv.h (by omega) (by omega)
theorem L_DrawPutGens {c : List Int} {K : Int → Int → List Int → List Int → List Int → List Bool → List Int → Prop} (hc : ∀ x ∈ c, U8 x) (hK : ∀ a x l r ro old re, HVp l r ro → old.length ≤ 10 → re.length ≤ 10 → K a x l r ro old re) : Ms_DrawPutGens c K :=
  L_l11Case hc fun l r ro old re hv ho hr => L_l13Open hc fun b hb => L_num (k := 100) (hb.le (by omega)) (by simp) fun a ha h1 => L_num (k := 99) h1 (by simp) fun x hx h2 => hK _ _ _ _ _ _ _ hv ho hr
/-- Pointers lead to this cell from one of S. -/
inductive Rc (l r : List Int) (S : Int → Prop) : Int → Prop where
  | base {x : Int} (h : S x) (hn : x ≠ -1) : Rc l r S x
  | left {y : Int} (h : Rc l r S y) (hn : l.getD y.toNat 0 ≠ -1) : Rc l r S (l.getD y.toNat 0)
  | right {y : Int} (h : Rc l r S y) (hn : r.getD y.toNat 0 ≠ -1) : Rc l r S (r.getD y.toNat 0)
theorem okP.cell {n : Nat} {x : Int} (h : okP n x) (hn : x ≠ -1) : 0 ≤ x ∧ x < n := by have := h.1; exact ⟨by omega, h.2⟩
theorem Rc.mono {l r : List Int} {S S' : Int → Prop} (hS : ∀ x, S x → S' x) {x : Int} (h : Rc l r S x) : Rc l r S' x := by
  induction h with
  | base h hn => exact .base (hS _ h) hn
  | left h hn ih => exact .left ih hn
  | right h hn ih => exact .right ih hn
theorem pre_getD {s s' : List Int} (h : ∃ t, s' = s ++ t) {i : Nat} (hi : i < s.length) : s'.getD i 0 = s.getD i 0 := by
  obtain ⟨t, rfl⟩ := h
  rw [List.getD_eq_getElem?_getD, List.getElem?_append_left hi, List.getD_eq_getElem?_getD]
def dm (p far : Int) (st : List Int × List Int) : List Int × List Int := if p ≠ -1 ∧ st.1.getD p.toNat 0 = 0 then (st.1.set p.toNat far, st.2 ++ [p]) else st
structure DInv (n : Nat) (st : List Int × List Int) : Prop where
  len : st.1.length = n
  c : CellsP n st.2
  m : ∀ c : Nat, c < n → (st.1.getD c 0 ≠ 0 ↔ (c : Int) ∈ st.2)
  pos : ∀ c : Nat, c < n → 0 ≤ st.1.getD c 0
  up : ∀ c : Nat, c < n → st.1.getD c 0 ≤ st.2.length
theorem set_getD {l : List Int} {i j : Nat} {v : Int} (hi : i < l.length) : (l.set i v).getD j 0 = if i = j then v else l.getD j 0 := by
  rw [List.getD_eq_getElem?_getD, List.getElem?_set]
  by_cases e : i = j
  · subst e; simp [hi]
  · rw [if_neg e, if_neg e, List.getD_eq_getElem?_getD]
theorem DInv.meet {n : Nat} {st : List Int × List Int} (h : DInv n st) {p far : Int} (hp : okP n p) (h1 : 1 ≤ far) (h2 : far ≤ st.2.length + 1) : DInv n (dm p far st) ∧ (dm p far st).2 = meet p st.2 := by
  have hc2 : CellsP n (Ab.meet p st.2) := h.c.meet hp
  unfold dm
  by_cases q : p ≠ -1 ∧ st.1.getD p.toNat 0 = 0
  · obtain ⟨q0, q1⟩ := q
    have hpc := hp.cell q0
    obtain ⟨k, rfl⟩ := Int.eq_ofNat_of_zero_le hpc.1
    have hk : k < n := by omega
    have hnm : (k : Int) ∉ st.2 := fun hm => by
      have := (h.m k hk).2 hm
      simp only [Int.toNat_natCast] at q1
      exact this q1
    rw [if_pos ⟨q0, q1⟩]
    have e : Ab.meet (k : Int) st.2 = st.2 ++ [(k : Int)] := by unfold Ab.meet; rw [if_pos ⟨q0, hnm⟩]
    rw [e] at hc2 ⊢
    simp only [Int.toNat_natCast]
    refine ⟨⟨by simpa using h.len, hc2, fun c hc => ?_, fun c hc => ?_, fun c hc => ?_⟩, trivial⟩
    · show (st.1.set k far).getD c 0 ≠ 0 ↔ _
      rw [set_getD (by rw [h.len]; exact hk)]
      by_cases e : k = c
      · subst e; rw [if_pos rfl]; simp; omega
      · rw [if_neg e, h.m c hc]
        simp
        intro hh; omega
    · show 0 ≤ (st.1.set k far).getD c 0
      rw [set_getD (by rw [h.len]; exact hk)]
      split
      · omega
      · exact h.pos c hc
    · show (st.1.set k far).getD c 0 ≤ ((st.2 ++ [(k : Int)]).length : Int)
      rw [set_getD (by rw [h.len]; exact hk), List.length_append]
      have := h.up c hc
      split <;> simp only [List.length_singleton] <;> push_cast <;> omega
  · rw [if_neg q]
    refine ⟨h, ?_⟩
    by_cases q0 : p = -1
    · rw [meet_in (.inl q0)]
    · have hpc := hp.cell q0
      have q1 : st.1.getD p.toNat 0 ≠ 0 := fun hh => q ⟨q0, hh⟩
      have := (h.m p.toNat (by omega)).1 q1
      rw [meet_in (.inr (by rwa [Int.toNat_of_nonneg hpc.1] at this))]
/-- The values that stand do not fall along the order of meeting, and none is above this one. -/
structure DMon (out op : List Int) (top : Int) : Prop where
  mono : ∀ j k, j < k → k < op.length → out.getD (op.getD j 0).toNat 0 ≤ out.getD (op.getD k 0).toNat 0
  top : ∀ k, k < op.length → out.getD (op.getD k 0).toNat 0 ≤ top
theorem DMon.meet {n : Nat} {st : List Int × List Int} (h : DInv n st) {p far : Int} (hp : okP n p) (hm : DMon st.1 st.2 far) : DMon (dm p far st).1 (dm p far st).2 far := by
  unfold dm
  by_cases q : p ≠ -1 ∧ st.1.getD p.toNat 0 = 0
  · rw [if_pos q]
    have hpc := hp.cell q.1
    have hold : ∀ j, j < st.2.length → (st.1.set p.toNat far).getD ((st.2 ++ [p]).getD j 0).toNat 0 = st.1.getD (st.2.getD j 0).toNat 0 := by
      intro j hj
      rw [pre_getD ⟨[p], rfl⟩ hj, set_getD (by rw [h.len]; omega), if_neg]
      intro e
      have hg := h.c.get hj
      have hmm : ((st.2.getD j 0).toNat : Int) ∈ st.2 := by rw [Int.toNat_of_nonneg hg.1]; exact getD_mem 0 hj
      have := (h.m (st.2.getD j 0).toNat (by omega)).2 hmm
      rw [← e] at this
      exact this q.2
    have hnew : (st.1.set p.toNat far).getD ((st.2 ++ [p]).getD st.2.length 0).toNat 0 = far := by
      have : (st.2 ++ [p]).getD st.2.length 0 = p := by simp [List.getD_eq_getElem?_getD]
      rw [this, set_getD (by rw [h.len]; omega), if_pos rfl]
    refine ⟨fun j k hjk hk => ?_, fun k hk => ?_⟩
    · simp only [List.length_append, List.length_singleton] at hk
      show (st.1.set p.toNat far).getD ((st.2 ++ [p]).getD j 0).toNat 0 ≤ (st.1.set p.toNat far).getD ((st.2 ++ [p]).getD k 0).toNat 0
      rw [hold j (by omega)]
      by_cases e : k < st.2.length
      · rw [hold k e]; exact hm.mono j k hjk e
      · have e : k = st.2.length := by omega
        rw [e, hnew]
        exact hm.top j (by omega)
    · simp only [List.length_append, List.length_singleton] at hk
      show (st.1.set p.toNat far).getD ((st.2 ++ [p]).getD k 0).toNat 0 ≤ far
      by_cases e : k < st.2.length
      · rw [hold k e]; exact hm.top k e
      · have e : k = st.2.length := by omega
        rw [e, hnew]; exact Int.le_refl _
  · rw [if_neg q]; exact hm
/-- New numbers for the cells D. -/
structure Renum (l r ro l' r' ro' : List Int) (φ : Int → Int) (D : Int → Prop) : Prop where
  none : φ (-1) = -1
  hro : ro' = ro.map φ
  inj : ∀ x y, (D x ∨ x = -1) → (D y ∨ y = -1) → φ x = φ y → x = y
  hl : ∀ y, D y → l'.getD (φ y).toNat 0 = φ (l.getD y.toNat 0)
  hr : ∀ y, D y → r'.getD (φ y).toNat 0 = φ (r.getD y.toNat 0)
  dro : ∀ x ∈ ro, D x ∨ x = -1
  dl : ∀ y, D y → D (l.getD y.toNat 0) ∨ l.getD y.toNat 0 = -1
  dr : ∀ y, D y → D (r.getD y.toNat 0) ∨ r.getD y.toNat 0 = -1
section renum
variable {l r ro l' r' ro' : List Int} {φ : Int → Int} {D : Int → Prop}
theorem Renum.ne (h : Renum l r ro l' r' ro' φ D) {x : Int} (hx : D x ∨ x = -1) (hn : x ≠ -1) : φ x ≠ -1 := fun e => hn (h.inj x (-1) hx (.inr rfl) (by rw [e, h.none]))
theorem Renum.mem (h : Renum l r ro l' r' ro' φ D) {x : Int} {s : List Int} (hx : D x ∨ x = -1) (hs : ∀ y ∈ s, D y) : φ x ∈ s.map φ ↔ x ∈ s := by
  constructor
  · intro hm
    obtain ⟨y, hy, he⟩ := List.mem_map.1 hm
    have := h.inj y x (.inl (hs y hy)) hx he
    rwa [← this]
  · exact fun hm => List.mem_map_of_mem hm
theorem Renum.meet (h : Renum l r ro l' r' ro' φ D) {x : Int} {s : List Int} (hx : D x ∨ x = -1) (hs : ∀ y ∈ s, D y) : Ab.meet (φ x) (s.map φ) = (Ab.meet x s).map φ ∧ ∀ y ∈ Ab.meet x s, D y := by
  have hm := h.mem hx hs
  unfold Ab.meet
  by_cases q : x ≠ -1 ∧ x ∉ s
  · rw [if_pos q, if_pos ⟨h.ne hx q.1, fun e => q.2 (hm.1 e)⟩]
    refine ⟨by simp, fun y hy => ?_⟩
    rcases List.mem_append.1 hy with hy | hy
    · exact hs y hy
    · simp at hy; subst hy; exact hx.resolve_right q.1
  · rw [if_neg q, if_neg]
    · exact ⟨rfl, hs⟩
    · rintro ⟨q1, q2⟩
      refine q ⟨fun e => q1 (by rw [e, h.none]), fun e => q2 (hm.2 e)⟩
end renum
theorem atL_nth {n : Nat} {s : List Int} (h : CellsP n s) {i : Nat} (hi : i < s.length) : atL s (s.getD i 0) = i := by
  refine atL_some hi rfl fun j hj e => ?_
  rw [getD_lt hi, getD_lt (by omega)] at e
  have := (List.getElem_inj (h₀ := show j < s.length by omega) (h₁ := hi) h.nd).1 e
  omega
def canL (l o : List Int) : List Int := o.map fun c => atL o (l.getD c.toNat 0)
theorem canL_len (l o : List Int) : (canL l o).length = o.length := by simp [canL]
structure AlikeP (l r ro l' r' ro' : List Int) : Prop where
  a : HVp l r ro
  b : HVp l' r' ro'
  cl : canL l (ordF l r ro) = canL l' (ordF l' r' ro')
  cr : canL r (ordF l r ro) = canL r' (ordF l' r' ro')
  co : ro.map (atL (ordF l r ro)) = ro'.map (atL (ordF l' r' ro'))
instance (l r ro l' r' ro' : List Int) : Decidable (AlikeP l r ro l' r' ro') :=
  decidable_of_iff (HVp l r ro ∧ HVp l' r' ro' ∧ canL l (ordF l r ro) = canL l' (ordF l' r' ro') ∧ canL r (ordF l r ro) = canL r' (ordF l' r' ro') ∧ ro.map (atL (ordF l r ro)) = ro'.map (atL (ordF l' r' ro')))
    ⟨fun ⟨a, b, c, d, e⟩ => ⟨a, b, c, d, e⟩, fun ⟨a, b, c, d, e⟩ => ⟨a, b, c, d, e⟩⟩
theorem AlikeP.len {l r ro l' r' ro' : List Int} (h : AlikeP l r ro l' r' ro') : (ordF l r ro).length = (ordF l' r' ro').length := by
  have := congrArg List.length h.cl
  rwa [canL_len, canL_len] at this
theorem AlikeP.symm {l r ro l' r' ro' : List Int} (h : AlikeP l r ro l' r' ro') : AlikeP l' r' ro' l r ro := ⟨h.b, h.a, h.cl.symm, h.cr.symm, h.co.symm⟩
structure MoveP (l r ro to : List Int) : Prop where
  h : HVp l r ro
  c : CellsP l.length to
  n : to.length = l.length
instance (l r ro to : List Int) : Decidable (MoveP l r ro to) := decidable_of_iff (HVp l r ro ∧ CellsP l.length to ∧ to.length = l.length) ⟨fun ⟨a, b, c⟩ => ⟨a, b, c⟩, fun ⟨a, b, c⟩ => ⟨a, b, c⟩⟩
def goes (to : List Int) (p : Int) : Int := if p = -1 then -1 else to.getD p.toNat 0
def mvL (to l : List Int) : List Int := (List.range to.length).map fun (c : Nat) => goes to (l.getD (to.idxOf (c : Int)) 0)
theorem mvL_len (to l : List Int) : (mvL to l).length = to.length := by simp [mvL]
theorem mvL_getD {to l : List Int} {c : Nat} (hc : c < to.length) : (mvL to l).getD c 0 = goes to (l.getD (to.idxOf (c : Int)) 0) := by
  rw [getD_lt (by rw [mvL_len]; exact hc)]; simp [mvL]
theorem idxOf_nth {n : Nat} {s : List Int} (h : CellsP n s) {i : Nat} (hi : i < s.length) : s.idxOf (s.getD i 0) = i := by
  have := atL_nth h hi
  unfold atL at this
  rw [if_pos (getD_mem 0 hi)] at this
  omega
theorem full {n : Nat} {s : List Int} (h : CellsP n s) (hn : s.length = n) {c : Nat} (hc : c < n) : (c : Int) ∈ s := by
  refine Classical.byContradiction fun hm => ?_
  have h2 : CellsP n (meet (c : Int) s) := h.meet ⟨by omega, by omega⟩
  have := h2.len
  unfold meet at this
  rw [if_pos ⟨by omega, hm⟩, List.length_append] at this
  simp at this
  omega
theorem goes_ok {n : Nat} {to : List Int} (h : CellsP n to) {p : Int} (hp : p = -1 ∨ (0 ≤ p ∧ p < to.length)) : okP n (goes to p) := by
  unfold goes
  split
  · exact ⟨by omega, by omega⟩
  · rename_i hh
    have := hp.resolve_left hh
    have := h.get (i := p.toNat) (by omega)
    exact ⟨by omega, by omega⟩
section moves
variable {l r ro to : List Int}
theorem MoveP.pt (h : MoveP l r ro to) {x : Int} (hx : okP l.length x) : x = -1 ∨ (0 ≤ x ∧ x < to.length) := by
  by_cases q : x = -1
  · exact .inl q
  · have := hx.cell q; have := h.n; exact .inr ⟨by omega, by omega⟩
theorem MoveP.idx (h : MoveP l r ro to) {c : Nat} (hc : c < to.length) : to.idxOf (c : Int) < to.length ∧ to.getD (to.idxOf (c : Int)) 0 = c := by
  have hm := full h.c h.n (c := c) (by rw [← h.n]; exact hc)
  have hl := List.idxOf_lt_length_of_mem hm
  exact ⟨hl, by rw [getD_lt hl]; exact List.getElem_idxOf _⟩
theorem MoveP.okv (h : MoveP l r ro to) {q : List Int} (hq : q.length = l.length) (hok : ∀ x ∈ q, okP l.length x) : ∀ x ∈ mvL to q, okP to.length x := by
  intro x hx
  obtain ⟨c, hc, rfl⟩ := List.mem_map.1 hx
  have hc : c < to.length := by simpa using hc
  have hi := h.idx hc
  have := h.n
  exact (by rw [h.n]; exact goes_ok h.c (h.pt (hok _ (getD_mem 0 (by omega)))))
theorem MoveP.valid (h : MoveP l r ro to) : HVp (mvL to l) (mvL to r) (ro.map (goes to)) := by
  have hn := h.n
  have hlr := h.h.lr
  refine ⟨by rw [mvL_len, mvL_len], by rw [mvL_len]; have := h.h.l1; omega, by rw [mvL_len]; have := h.h.l8; omega, by simpa using h.h.r1, by simpa using h.h.r3, ?_, ?_, ?_⟩
  · rw [mvL_len]; exact h.okv rfl h.h.okl
  · rw [mvL_len]; exact h.okv hlr.symm h.h.okr
  · rw [mvL_len]
    intro x hx
    obtain ⟨y, hy, rfl⟩ := List.mem_map.1 hx
    rw [hn]
    exact goes_ok h.c (h.pt (h.h.oko y hy))
theorem MoveP.get (h : MoveP l r ro to) {q : List Int} {y : Int} (h0 : 0 ≤ y) (h1 : y < l.length) : (mvL to q).getD (goes to y).toNat 0 = goes to (q.getD y.toNat 0) := by
  have hn := h.n
  have hg := h.c.get (i := y.toNat) (by omega)
  have e : goes to y = to.getD y.toNat 0 := by unfold goes; rw [if_neg (by omega)]
  rw [e, mvL_getD (by omega), Int.toNat_of_nonneg hg.1, idxOf_nth h.c (by omega)]
end moves
theorem filt_congr {p q : Nat → Bool} {n : Nat} (h : ∀ i, i < n → p i = q i) : (List.range n).filter p = (List.range n).filter q := List.filter_congr fun i hi => h i (by simpa using hi)
theorem eqStep {a : Bool} {P Q : Prop} (h : Q) : ((!(a == a)) = true → P) ∧ ((!(a == a)) = false → Q) := br_f (by simp) h
theorem rem_set_young {l r : List Int} {old : List Bool} {k : Nat} {x : Int} (hk : k < l.length) (hy : old.getD k false = false) : rem (l.set k x) r old = rem l r old := by
  unfold rem remU
  congr 1
  refine filt_congr fun i hi => ?_
  unfold isRem
  by_cases e : k = i
  · subst e; rw [hy]; rfl
  · rw [set_getD hk, if_neg e]
theorem law_FnPutYoung {c : List Int} (hc : ∀ x ∈ c, U8 x) {K : Bool → Prop} (hK : K true) : Ml_FnPutYoung c K := by
  unfold Ml_FnPutYoung
  refine br (fun _ => hK) fun _ => L_DrawPutGens hc fun a x l r ro old re hv ho hre => ?_
  have h8 := hv.l8; have hlr := hv.lr; have h3 := hv.r3
  by_cases h : PutP l r ro a x ∧ GVp l r ro old re
  rotate_left
  · refine L_iPutGens (by omega) (fun h1 h2 => absurd ⟨h1, h2⟩ h) fun _ => L_sPutGens (by omega) (fun h1 h2 => absurd ⟨h1, h2⟩ h) fun _ => ?_
    have e : ∀ K : Bool → Prop, K true → Mi_GensSame [] [] [] [] [] [] [] [] [] [] K := fun K hK => L_iGensSame (by simp) (by simp) (by simp) (by simp) (by simp) (by simpa using hK)
    exact e _ (step_t rfl (eqStep (br_t rfl (e _ (br_t rfl (by simpa using hK))))))
  obtain ⟨hp, hg⟩ := h
  have ha0 := hp.c0; have ha1 := hp.c1
  refine L_iPutGens (by omega) (fun _ _ => ?_) fun hh => absurd ⟨hp, hg⟩ hh
  refine L_sPutGens (by omega) (fun _ _ => ?_) fun hh => absurd ⟨hp, hg⟩ hh
  have hrl : (rem (l.set a.toNat x) r old).length ≤ 8 := by have := rem_len (l.set a.toNat x) r old; have := hg.old8; omega
  have ho8 := hg.old8
  have hgo := hg.o
  have hgv : GVp (l.set a.toNat x) r ro old (rem (l.set a.toNat x) r old) := ⟨hp.valid, by simpa using hg.o, rfl⟩
  refine L_iGensSame (by simp; omega) (by omega) (by omega) (by omega) (by omega) (step_t (by simp) (eqStep (br_f rfl ⟨⟨ha0, by omega⟩, br (fun h => L_iGensValid (by omega) (by simpa [hgv] using hK)) fun h => ?_⟩)))
  have hy : old.getD a.toNat false = false := by simpa only [gB, EK.dflt] using h
  rw [rem_set_young (by omega) hy, ← hg.m]
  have := hg.re8
  exact L_ccInts (by omega) (by simpa using hK)
end Go.Ab
