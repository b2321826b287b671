/-
  What is proved here: the plain laws that the law FnDropLive needs: what its functions compute, and that its model returns true. Conditions: those written in each statement.
-/
import Derived.Test.YtljnohoaeecjcaaGM
namespace Go.Ab
set_option linter.unusedVariables false
set_option linter.unusedSimpArgs false
theorem wrap64 {x : Int} (h1 : -9223372036854775808 ≤ x) (h2 : x < 9223372036854775808) : IntKind.i64.wrap x = x := by
  simp [IntKind.wrap, IntKind.signed, IntKind.bits]
  split <;> omega
theorem iadd_eq {a b : Int} (h1 : -9223372036854775808 ≤ a + b) (h2 : a + b < 9223372036854775808) : iadd a b = a + b := wrap64 h1 h2
theorem isub_eq {a b : Int} (h1 : -9223372036854775808 ≤ a - b) (h2 : a - b < 9223372036854775808) : isub a b = a - b := wrap64 h1 h2
theorem imul_eq {a b : Int} (h1 : -9223372036854775808 ≤ a * b) (h2 : a * b < 9223372036854775808) : imul a b = a * b := wrap64 h1 h2
theorem iadd_nat {i : Nat} (h : i < 2 ^ 62) : iadd (i : Int) 1 = ((i + 1 : Nat) : Int) := by rw [iadd_eq] <;> omega
theorem inB_nat {i n : Nat} : inB (i : Int) n = (i < n) := by simp [inB]
theorem gI_nat (l : List Int) (i : Nat) : gI l (i : Int) = l.getD i 0 := by simp [gI, EK.dflt]
theorem gB_nat (l : List Bool) (i : Nat) : gB l (i : Int) = l.getD i false := by simp [gB, EK.dflt]
theorem uL_nat {α : Type} (l : List α) (i : Nat) (v : α) : uL l (i : Int) v = l.set i v := by simp [uL]
theorem len_eq {α : Type} (l : List α) : len l = (l.length : Int) := rfl
/-- A loop that counts. -/
theorem LoopP_for {S : Type} {body : S → (S → Prop) → (S → Prop) → Prop} {Kx : S → Prop} {s : S} (J : Nat → S → Prop) (n : Nat) (h0 : J 0 s)
    (step : ∀ i s, i < n → J i s → ∀ Kb : S → Prop, (∀ s', J (i + 1) s' → Kb s') → body s Kb Kx) (last : ∀ s, J n s → ∀ Kb : S → Prop, body s Kb Kx) : LoopP body s Kx := by
  suffices hh : ∀ k i s, n - i < k → i ≤ n → J i s → itP body k s Kx from ⟨n + 1, hh _ 0 s (by omega) (by omega) h0⟩
  intro k
  induction k with
  | zero => intro i s h; omega
  | succ k ih =>
    intro i s hk hi hj
    by_cases e : i = n
    · subst e; exact last s hj _
    · exact step i s (by omega) hj _ fun s' h' => ih (i + 1) s' (by omega) (by omega) h'
theorem br {b : Bool} {P Q : Prop} (h1 : b = true → P) (h2 : b = false → Q) : (b = true → P) ∧ (b = false → Q) := ⟨h1, h2⟩
theorem br_t {b : Bool} {P Q : Prop} (h : b = true) (hp : P) : (b = true → P) ∧ (b = false → Q) := ⟨fun _ => hp, fun h' => by rw [h] at h'; cases h'⟩
theorem br_f {b : Bool} {P Q : Prop} (h : b = false) (hq : Q) : (b = true → P) ∧ (b = false → Q) := ⟨fun h' => (by rw [h] at h'; cases h'), fun _ => hq⟩
theorem getD_lt {α : Type} {l : List α} {i : Nat} {d : α} (h : i < l.length) : l.getD i d = l[i] := by simp [List.getD_eq_getElem?_getD, h]
theorem eqL_iff {α : Type} (d : α) (p q : List α) (h : p.length = q.length) (hj : ∀ j, j < p.length → p.getD j d = q.getD j d) : p = q := by
  apply List.ext_getElem h
  intro i h1 h2
  have := hj i h1
  rwa [getD_lt h1, getD_lt h2] at this
/-- Two lists are compared. -/
theorem eqLoop3 {α : Type} [DecidableEq α] (d : α) (p1 p2 : List α) (hb : p1.length < 2 ^ 62) (K : Bool → Prop) (hK : K (decide (p1 = p2))) (hl : p1.length = p2.length) :
    (LoopP (S := List α × List α × Int) (fun s1 Kb1 Kx1 =>
(((decide (s1.2.2 < (len s1.1))) = true →
((inB s1.2.2 (List.length s1.1)) ∧
((inB s1.2.2 (List.length s1.2.1)) ∧
((((s1.1.getD s1.2.2.toNat d) != (s1.2.1.getD s1.2.2.toNat d)) = true →
(K false)) ∧
(((s1.1.getD s1.2.2.toNat d) != (s1.2.1.getD s1.2.2.toNat d)) = false →
(Kb1 (s1.1, s1.2.1, (iadd s1.2.2 1)))))))) ∧
((decide (s1.2.2 < (len s1.1))) = false →
(Kx1 (s1.1, s1.2.1, s1.2.2)))))
(p1, p2, 0) fun s1 => (K true)) := by
  refine LoopP_for (fun i s => s = (p1, p2, (i : Int)) ∧ ∀ j, j < i → p1.getD j d = p2.getD j d) p1.length ⟨rfl, by omega⟩ ?_ ?_
  · rintro i _ hi ⟨rfl, hj⟩ Kb hKb
    refine br_t (by simp [len_eq]; exact hi) ⟨by simp [inB_nat]; exact hi, by simp [inB_nat]; omega, br (fun h => ?_) fun h => ?_⟩
    · simp at h
      have : p1 ≠ p2 := fun e => h (by rw [e])
      simpa [this] using hK
    · simp at h
      refine hKb _ ⟨by rw [iadd_nat (by omega)], fun j hji => ?_⟩
      rcases Nat.lt_succ_iff_lt_or_eq.1 hji with e | e
      · exact hj j e
      · subst e; exact h
  · rintro _ ⟨rfl, hj⟩ Kb
    refine br_f (by simp [len_eq]) ?_
    have := eqL_iff d p1 p2 hl hj
    simpa [this] using hK
theorem eqLoop4 {α : Type} [DecidableEq α] (d : α) (p1 p2 : List α) (hb : p1.length < 2 ^ 62) (K : Bool → Prop) (hK : K (decide (p1 = p2))) (hl : p1.length = p2.length) :
    (LoopP (S := List α × List α × Int × Int) (fun s1 Kb1 Kx1 =>
(((decide (s1.2.2.2 < s1.2.2.1)) = true →
((inB s1.2.2.2 (List.length s1.1)) ∧
((inB s1.2.2.2 (List.length s1.2.1)) ∧
((((s1.1.getD s1.2.2.2.toNat d) != (s1.2.1.getD s1.2.2.2.toNat d)) = true →
(K false)) ∧
(((s1.1.getD s1.2.2.2.toNat d) != (s1.2.1.getD s1.2.2.2.toNat d)) = false →
(Kb1 (s1.1, s1.2.1, s1.2.2.1, (iadd s1.2.2.2 1)))))))) ∧
((decide (s1.2.2.2 < s1.2.2.1)) = false →
(Kx1 (s1.1, s1.2.1, s1.2.2.1, s1.2.2.2)))))
(p1, p2, len p1, 0) fun s1 => (K true)) := by
  refine LoopP_for (fun i s => s = (p1, p2, len p1, (i : Int)) ∧ ∀ j, j < i → p1.getD j d = p2.getD j d) p1.length ⟨rfl, by omega⟩ ?_ ?_
  · rintro i _ hi ⟨rfl, hj⟩ Kb hKb
    refine br_t (by simp [len_eq]; exact hi) ⟨by simp [inB_nat]; exact hi, by simp [inB_nat]; omega, br (fun h => ?_) fun h => ?_⟩
    · simp at h
      have : p1 ≠ p2 := fun e => h (by rw [e])
      simpa [this] using hK
    · simp at h
      refine hKb _ ⟨by rw [iadd_nat (by omega)], fun j hji => ?_⟩
      rcases Nat.lt_succ_iff_lt_or_eq.1 hji with e | e
      · exact hj j e
      · subst e; exact h
  · rintro _ ⟨rfl, hj⟩ Kb
    refine br_f (by simp [len_eq]) ?_
    have := eqL_iff d p1 p2 hl hj
    simpa [this] using hK
theorem eqGate {α : Type} [DecidableEq α] {p1 p2 : List α} {K : Bool → Prop} {P : Prop} (hK : K (decide (p1 = p2))) (h : p1.length = p2.length → P) :
    (((len p1) != (len p2)) = true → (K false)) ∧ (((len p1) != (len p2)) = false → P) := by
  refine br (fun e => ?_) fun e => h ?_
  · have : p1 ≠ p2 := by rintro rfl; simp at e
    simpa [this] using hK
  · simp [len_eq] at e; omega
theorem L_l1Ints {p q : List Int} {K : Bool → Prop} (hp : p.length < 2 ^ 62) (hK : K (decide (p = q))) : Ms_l1Ints p q K := eqGate hK fun hl => eqLoop3 0 p q hp K hK hl
theorem L_Equal_int {p q : List Int} {K : Bool → Prop} (hp : p.length < 2 ^ 62) (hK : K (decide (p = q))) : M_Equal_int p q K := eqGate hK fun hl => eqLoop4 0 p q hp K hK hl
theorem L_iHeapSame {p q r p' q' r' : List Int} {K : Bool → Prop} (hp : p.length < 2 ^ 62) (hq : q.length < 2 ^ 62) (hr : r.length < 2 ^ 62) (hK : K (decide (p = p' ∧ q = q' ∧ r = r'))) : Mi_HeapSame p q r p' q' r' K := by
  refine L_Equal_int hp (br (fun h1 => L_Equal_int hq (br (fun h2 => L_Equal_int hr ?_) fun h2 => ?_)) fun h1 => ?_)
  · simp at h1 h2; simpa [h1, h2] using hK
  · simp at h1 h2; simpa [h1, h2] using hK
  · simp at h1; simpa [h1] using hK
def okP (n : Nat) (x : Int) : Prop := -1 ≤ x ∧ x < n
instance (n : Nat) (x : Int) : Decidable (okP n x) := inferInstanceAs (Decidable (_ ∧ _))
/-- A valid heap. -/
structure HVp (l r ro : List Int) : Prop where
  lr : l.length = r.length
  l1 : 1 ≤ l.length
  l8 : l.length ≤ 8
  r1 : 1 ≤ ro.length
  r3 : ro.length ≤ 3
  okl : ∀ x ∈ l, okP l.length x
  okr : ∀ x ∈ r, okP l.length x
  oko : ∀ x ∈ ro, okP l.length x
instance (l r ro : List Int) : Decidable (HVp l r ro) :=
  decidable_of_iff (l.length = r.length ∧ 1 ≤ l.length ∧ l.length ≤ 8 ∧ 1 ≤ ro.length ∧ ro.length ≤ 3 ∧ (∀ x ∈ l, okP l.length x) ∧ (∀ x ∈ r, okP l.length x) ∧ (∀ x ∈ ro, okP l.length x))
    ⟨fun ⟨a, b, c, d, e, f, g, h⟩ => ⟨a, b, c, d, e, f, g, h⟩, fun ⟨a, b, c, d, e, f, g, h⟩ => ⟨a, b, c, d, e, f, g, h⟩⟩
theorem all_getD {α : Type} (d : α) {l : List α} {p : α → Prop} (h : ∀ j, j < l.length → p (l.getD j d)) : ∀ x ∈ l, p x := by
  intro x hx
  obtain ⟨i, hi, rfl⟩ := List.getElem_of_mem hx
  have := h i hi
  rwa [getD_lt hi] at this
theorem getD_mem {α : Type} (d : α) {l : List α} {i : Nat} (h : i < l.length) : l.getD i d ∈ l := by rw [getD_lt h]; exact List.getElem_mem h
theorem L_l1Points {a : Int} {n : Nat} {K : Bool → Prop} (hK : K (decide (okP n a))) : Ms_l1Points a n K := by
  refine br (fun h => ?_) fun h => ?_
  · simp at h; simpa [okP, h] using hK
  · simp at h; rw [decide_eq_false (fun hh => by have := hh.1; omega)] at hK; exact hK
theorem L_sHeapValid {l r ro : List Int} {K : Bool → Prop} (hK : K (decide (HVp l r ro))) : Ms_HeapValid l r ro K := by
  have no : ¬ HVp l r ro → K false := fun h => by rwa [decide_eq_false h] at hK
  have yes : HVp l r ro → K true := fun h => by rwa [decide_eq_true h] at hK
  refine br (fun h => no fun hh => ?_) fun h1 => br (fun h => no fun hh => ?_) fun h2 => br (fun h => no fun hh => ?_) fun h3 => br (fun h => no fun hh => ?_) fun h4 => br (fun h => no fun hh => ?_) fun h5 => ?_
  · have := hh.l1; replace h := of_decide_eq_true h; simp only [len_eq] at h; omega
  · have := hh.l8; simp [len_eq] at h; omega
  · have := hh.lr; simp [len_eq] at h; omega
  · have := hh.r1; replace h := of_decide_eq_true h; simp only [len_eq] at h; omega
  · have := hh.r3; simp [len_eq] at h; omega
  replace h1 : 1 ≤ l.length := by have := of_decide_eq_false h1; simp only [len_eq] at this; omega
  replace h2 : l.length ≤ 8 := by have := of_decide_eq_false h2; simp only [len_eq] at this; omega
  replace h3 : r.length = l.length := by simp [len_eq] at h3; omega
  replace h4 : 1 ≤ ro.length := by have := of_decide_eq_false h4; simp only [len_eq] at this; omega
  replace h5 : ro.length ≤ 3 := by have := of_decide_eq_false h5; simp only [len_eq] at this; omega
  refine LoopP_for (fun i s => s = (len l, (i : Int), l, r, ro) ∧ ∀ j, j < i → okP l.length (l.getD j 0) ∧ okP l.length (r.getD j 0)) l.length ⟨rfl, by omega⟩ ?_ ?_
  · rintro i _ hi ⟨rfl, hj⟩ Kb hKb
    refine br_t (by simp [len_eq]; exact hi) ⟨by simp [inB_nat]; exact hi, ?_⟩
    refine L_l1Points (br (fun h => no fun hh => ?_) fun h => ⟨by simp [inB_nat]; omega, L_l1Points (br (fun h' => no fun hh => ?_) fun h' => hKb _ ⟨by rw [iadd_nat (by omega)], fun j hji => ?_⟩)⟩)
    · simp [-List.getD_eq_getElem?_getD, gI_nat] at h; exact h (hh.okl _ (getD_mem 0 hi))
    · simp [-List.getD_eq_getElem?_getD, gI_nat] at h'; exact h' (hh.okr _ (getD_mem 0 (by omega)))
    · simp [-List.getD_eq_getElem?_getD, gI_nat] at h h'
      rcases Nat.lt_succ_iff_lt_or_eq.1 hji with e | e
      · exact hj j e
      · subst e; exact ⟨h, h'⟩
  · rintro _ ⟨rfl, hj⟩ Kb
    refine br_f (by simp [len_eq]) ?_
    refine LoopP_for (fun i s => s = (len l, (i : Int), l, r, ro) ∧ ∀ j, j < i → okP l.length (ro.getD j 0)) ro.length ⟨rfl, by omega⟩ ?_ ?_
    · rintro i _ hi ⟨rfl, hk⟩ Kb hKb
      refine br_t (by simp [len_eq]; exact hi) ⟨by simp [inB_nat]; exact hi, ?_⟩
      refine L_l1Points (br (fun h => no fun hh => ?_) fun h => hKb _ ⟨by rw [iadd_nat (by omega)], fun j hji => ?_⟩)
      · simp [-List.getD_eq_getElem?_getD, gI_nat] at h; exact h (hh.oko _ (getD_mem 0 hi))
      · simp [-List.getD_eq_getElem?_getD, gI_nat] at h
        rcases Nat.lt_succ_iff_lt_or_eq.1 hji with e | e
        · exact hk j e
        · subst e; exact h
    · rintro _ ⟨rfl, hk⟩ Kb
      refine br_f (by simp [len_eq]) (yes ⟨h3.symm, h1, h2, h4, h5, all_getD 0 fun j h => (hj j h).1, all_getD 0 fun j h => (hj j (by omega)).2, all_getD 0 hk⟩)
theorem L_iHeapValid {l r ro : List Int} {K : Bool → Prop} (hK : K (decide (HVp l r ro))) : Mi_HeapValid l r ro K := by
  have no : ¬ HVp l r ro → K false := fun h => by rwa [decide_eq_false h] at hK
  have yes : HVp l r ro → K true := fun h => by rwa [decide_eq_true h] at hK
  refine br (fun h => no fun hh => ?_) fun h3 => br (fun h => no fun hh => ?_) fun h1 => br (fun h => no fun hh => ?_) fun h2 => br (fun h => no fun hh => ?_) fun h4 => br (fun h => no fun hh => ?_) fun h5 => ?_
  · have := hh.lr; simp [len_eq] at h; omega
  · have := hh.l1; replace h := of_decide_eq_true h; simp only [len_eq] at h; omega
  · have := hh.l8; simp [len_eq] at h; omega
  · have := hh.r1; replace h := of_decide_eq_true h; simp only [len_eq] at h; omega
  · have := hh.r3; simp [len_eq] at h; omega
  replace h1 : 1 ≤ l.length := by have := of_decide_eq_false h1; simp only [len_eq] at this; omega
  replace h2 : l.length ≤ 8 := by have := of_decide_eq_false h2; simp only [len_eq] at this; omega
  replace h3 : r.length = l.length := by simp [len_eq] at h3; omega
  replace h4 : 1 ≤ ro.length := by have := of_decide_eq_false h4; simp only [len_eq] at this; omega
  replace h5 : ro.length ≤ 3 := by have := of_decide_eq_false h5; simp only [len_eq] at this; omega
  have hlen : ∀ i, i < 3 → (([l, r, ro] : List (List Int)).getD i []).length ≤ 8 := by
    intro i hi
    match i, hi with
    | 0, _ => exact h2
    | 1, _ => show r.length ≤ 8; omega
    | 2, _ => show ro.length ≤ 8; omega
  have hmem : HVp l r ro → ∀ i, i < 3 → ∀ x ∈ ([l, r, ro] : List (List Int)).getD i [], okP l.length x := by
    intro hh i hi
    match i, hi with
    | 0, _ => exact hh.okl
    | 1, _ => exact hh.okr
    | 2, _ => exact hh.oko
  refine LoopP_for (fun i s => s = (3, (i : Int), l, r, ro, [l, r, ro]) ∧ ∀ j, j < i → ∀ x ∈ ([l, r, ro] : List (List Int)).getD j [], okP l.length x) 3 ⟨rfl, by omega⟩ ?_ ?_
  · rintro i _ hi ⟨rfl, hj⟩ Kb hKb
    have hg : gL [l, r, ro] (i : Int) = ([l, r, ro] : List (List Int)).getD i [] := by simp [gL, EK.dflt]
    refine br_t (by simp; omega) ⟨by simp [inB_nat]; exact hi, ?_⟩
    simp only [hg]
    have hl := hlen i hi
    have hm := fun hh => hmem hh i hi
    generalize hq : ([l, r, ro] : List (List Int)).getD i [] = q at hl hm
    refine LoopP_for (fun k s => s = (3, (i : Int), q, len q, (k : Int), l, r, ro, [l, r, ro]) ∧ ∀ j, j < k → okP l.length (q.getD j 0)) q.length ⟨rfl, by omega⟩ ?_ ?_
    · rintro k _ hk ⟨rfl, hkj⟩ Kb' hKb'
      refine br_t (by simp [len_eq]; exact hk) ⟨by simp [inB_nat]; exact hk, br (fun h => no fun hh => ?_) fun h => br (fun h' => no fun hh => ?_) fun h' => hKb' _ ⟨by rw [iadd_nat (by omega)], fun j hji => ?_⟩⟩
      · have := of_decide_eq_true h; simp only [gI_nat] at this; have := (hm hh _ (getD_mem 0 hk)).1; omega
      · have := of_decide_eq_true h'; simp only [gI_nat, len_eq] at this; have := (hm hh _ (getD_mem 0 hk)).2; omega
      · have a := of_decide_eq_false h
        have b := of_decide_eq_false h'
        simp only [gI_nat, len_eq] at a b
        rcases Nat.lt_succ_iff_lt_or_eq.1 hji with e | e
        · exact hkj j e
        · subst e; exact ⟨by omega, by omega⟩
    · rintro _ ⟨rfl, hkj⟩ Kb'
      refine br_f (by simp [len_eq]) (hKb _ ⟨by rw [iadd_nat (by omega)], fun j hji => ?_⟩)
      rcases Nat.lt_succ_iff_lt_or_eq.1 hji with e | e
      · exact hj j e
      · subst e; rw [hq]; exact all_getD 0 hkj
  · rintro _ ⟨rfl, hj⟩ Kb
    refine br_f (by simp) (yes ⟨h3.symm, h1, h2, h4, h5, hj 0 (by omega), hj 1 (by omega), hj 2 (by omega)⟩)
theorem HVp.gl {l r ro : List Int} (h : HVp l r ro) {i : Nat} (hi : i < l.length) : okP l.length (l.getD i 0) := h.okl _ (getD_mem 0 hi)
theorem HVp.gr {l r ro : List Int} (h : HVp l r ro) {i : Nat} (hi : i < l.length) : okP l.length (r.getD i 0) := h.okr _ (getD_mem 0 (by rw [← h.lr]; exact hi))
theorem HVp.go {l r ro : List Int} (h : HVp l r ro) {i : Nat} (hi : i < ro.length) : okP l.length (ro.getD i 0) := h.oko _ (getD_mem 0 hi)
theorem nodup_len : ∀ (n : Nat) (l : List Nat), l.Nodup → (∀ x ∈ l, x < n) → l.length ≤ n
  | 0, l, _, h => by
    cases l with
    | nil => simp
    | cons a l => exact absurd (h a (by simp)) (by omega)
  | n + 1, l, hn, h => by
    by_cases hm : n ∈ l
    · have h1 := nodup_len n (l.erase n) (hn.erase n) fun x hx => by
        have h2 := (List.Nodup.mem_erase_iff hn).1 hx
        have := h x h2.2
        omega
      rw [List.length_erase_of_mem hm] at h1
      omega
    · have := nodup_len n l hn fun x hx => by
        have h2 := h x hx
        have : x ≠ n := fun e => hm (e ▸ hx)
        omega
      omega
/-- Different cells of a heap of n cells. -/
structure CellsP (n : Nat) (s : List Int) : Prop where
  nd : s.Nodup
  ok : ∀ x ∈ s, 0 ≤ x ∧ x < n
instance (n : Nat) (s : List Int) : Decidable (CellsP n s) := decidable_of_iff (s.Nodup ∧ ∀ x ∈ s, 0 ≤ x ∧ x < n) ⟨fun ⟨a, b⟩ => ⟨a, b⟩, fun ⟨a, b⟩ => ⟨a, b⟩⟩
theorem CellsP.len {n : Nat} {s : List Int} (h : CellsP n s) : s.length ≤ n := by
  have h1 : (s.map Int.toNat).Nodup := by
    rw [List.nodup_iff_pairwise_ne, List.pairwise_map]
    refine (List.nodup_iff_pairwise_ne.1 h.nd).imp_of_mem ?_
    intro a b ha hb hab
    have := h.ok a ha; have := h.ok b hb
    omega
  have := nodup_len n _ h1 fun x hx => by
    obtain ⟨a, ha, rfl⟩ := List.mem_map.1 hx
    have := h.ok a ha
    omega
  simpa using this
theorem CellsP.get {n : Nat} {s : List Int} (h : CellsP n s) {i : Nat} (hi : i < s.length) : 0 ≤ s.getD i 0 ∧ s.getD i 0 < n := h.ok _ (getD_mem 0 hi)
/-- Where is this number in the list? -/
def atL (l : List Int) (x : Int) : Int := if x ∈ l then ((l.idxOf x : Nat) : Int) else -1
theorem idxOf_first : ∀ {l : List Int} {x : Int} {i : Nat}, i < l.length → l.getD i 0 = x → (∀ j, j < i → l.getD j 0 ≠ x) → l.idxOf x = i
  | [], x, i, h, _, _ => by simp at h
  | a :: l, x, 0, _, h, _ => by
    simp at h
    subst h
    simp
  | a :: l, x, i + 1, h, h1, h2 => by
    have ha : a ≠ x := by simpa using h2 0 (by omega)
    rw [List.idxOf_cons]
    have : (a == x) = false := by simpa using ha
    rw [this]
    simp only [cond_false]
    rw [idxOf_first (by simpa using h) (by simpa using h1) fun j hj => by simpa using h2 (j + 1) (by omega)]
theorem atL_some {l : List Int} {x : Int} {i : Nat} (h : i < l.length) (h1 : l.getD i 0 = x) (h2 : ∀ j, j < i → l.getD j 0 ≠ x) : atL l x = i := by
  unfold atL
  rw [if_pos (by rw [← h1]; exact getD_mem 0 h), idxOf_first h h1 h2]
theorem atL_none {l : List Int} {x : Int} (h : ∀ j, j < l.length → l.getD j 0 ≠ x) : atL l x = -1 := by
  unfold atL
  rw [if_neg]
  intro hm
  obtain ⟨i, hi, rfl⟩ := List.getElem_of_mem hm
  exact h i hi (getD_lt hi)
theorem atL_neg {l : List Int} {x : Int} : (atL l x < 0) ↔ x ∉ l := by
  unfold atL
  split
  · rename_i h; simp only [h, not_true, iff_false]; omega
  · rename_i h; simp [h]
theorem L_Index_int {l : List Int} {x : Int} {K : Int → Prop} (hl : l.length < 2 ^ 62) (hK : K (atL l x)) : M_Index_int l x K := by
  refine LoopP_for (fun i s => s = (l, x, len l, (i : Int)) ∧ ∀ j, j < i → l.getD j 0 ≠ x) l.length ⟨rfl, by omega⟩ ?_ ?_
  · rintro i _ hi ⟨rfl, hj⟩ Kb hKb
    refine br_t (by simp [len_eq]; exact hi) ⟨by simp [inB_nat]; exact hi, br (fun h => ?_) fun h => hKb _ ⟨by rw [iadd_nat (by omega)], fun j hji => ?_⟩⟩
    · simp only [gI_nat, beq_iff_eq] at h
      rwa [atL_some hi h.symm hj] at hK
    · simp only [gI_nat, beq_eq_false_iff_ne] at h
      rcases Nat.lt_succ_iff_lt_or_eq.1 hji with e | e
      · exact hj j e
      · subst e; exact fun e => h e.symm
  · rintro _ ⟨rfl, hj⟩ Kb
    refine br_f (by simp [len_eq]) ?_
    rwa [atL_none hj] at hK
theorem L_Contains_int {l : List Int} {x : Int} {K : Bool → Prop} (hl : l.length < 2 ^ 62) (hK : K (decide (x ∈ l))) : M_Contains_int l x K := by
  refine L_Index_int hl ?_
  have : decide (atL l x ≥ 0) = decide (x ∈ l) := by
    have := @atL_neg l x
    by_cases h : x ∈ l
    · simp only [h, not_true, iff_false] at this; simp [h]; omega
    · simp only [h, not_false_eq_true, iff_true] at this; simp [h]; omega
  rw [this]; exact hK
/-- A cell is met. -/
def meet (x : Int) (s : List Int) : List Int := if x ≠ -1 ∧ x ∉ s then s ++ [x] else s
theorem meet_len (x : Int) (s : List Int) : (meet x s).length ≤ s.length + 1 := by unfold meet; split <;> simp
theorem meet_pre (x : Int) (s : List Int) : ∃ t, meet x s = s ++ t := by
  unfold meet
  split
  · exact ⟨_, rfl⟩
  · exact ⟨[], by simp⟩
theorem meet_mem {x y : Int} {s : List Int} (h : y ∈ meet x s) : y ∈ s ∨ (y = x ∧ x ≠ -1) := by
  unfold meet at h
  split at h
  · rename_i hh
    rcases List.mem_append.1 h with h | h
    · exact .inl h
    · simp at h; exact .inr ⟨h, hh.1⟩
  · exact .inl h
theorem mem_meet {x : Int} {s : List Int} (h : x ≠ -1) : x ∈ meet x s := by
  unfold meet
  by_cases hs : x ∈ s
  · rw [if_neg (fun hh => hh.2 hs)]; exact hs
  · rw [if_pos ⟨h, hs⟩]; simp
theorem meet_in {x : Int} {s : List Int} (h : x = -1 ∨ x ∈ s) : meet x s = s := by
  unfold meet
  rw [if_neg]
  rintro ⟨a, b⟩
  rcases h with h | h
  · exact a h
  · exact b h
theorem CellsP.meet {n : Nat} {x : Int} {s : List Int} (h : CellsP n s) (hx : okP n x) : CellsP n (meet x s) := by
  refine ⟨?_, fun y hy => ?_⟩
  · unfold Ab.meet
    split
    · rename_i hh
      rw [List.nodup_append]
      exact ⟨h.nd, by simp, fun a ha b hb => by simp at hb; subst hb; exact fun e => hh.2 (e ▸ ha)⟩
    · exact h.nd
  · rcases meet_mem hy with hy | ⟨rfl, hne⟩
    · exact h.ok y hy
    · have := hx.1; exact ⟨by omega, hx.2⟩
def metL (ps s : List Int) : List Int := ps.foldl (fun s p => meet p s) s
theorem metL_len : ∀ (ps s : List Int), (metL ps s).length ≤ s.length + ps.length
  | [], s => by simp [metL]
  | p :: ps, s => by
    have h1 := metL_len ps (meet p s)
    have h2 := meet_len p s
    simp only [metL, List.foldl_cons, List.length_cons] at h1 ⊢
    omega
theorem metL_succ {ps s : List Int} {i : Nat} (h : i < ps.length) : metL (ps.take (i + 1)) s = meet (ps.getD i 0) (metL (ps.take i) s) := by
  unfold metL
  rw [List.take_add_one, List.getElem?_eq_getElem h, getD_lt h, List.foldl_append]
  rfl
theorem L_met {ps s : List Int} {K : List Int → Prop} (hs : s.length + ps.length < 2 ^ 36) (hK : K (metL ps s)) : Mi_met ps s K := by
  refine LoopP_for (fun i st => st = (ps, len ps, (i : Int), metL (ps.take i) s)) ps.length rfl ?_ ?_
  · rintro i _ hi rfl Kb hKb
    have e : iadd (i : Int) 1 = ((i + 1 : Nat) : Int) := iadd_nat (by omega)
    have h1 := metL_len (ps.take i) s
    have h2 : (ps.take i).length ≤ ps.length := by simp; omega
    refine br_t (by simp [len_eq]; exact hi) ⟨by simp [inB_nat]; exact hi, br (fun h => L_Contains_int (by dsimp only; omega) (br (fun h1 => ⟨by simp only [List.length_singleton]; omega, hKb _ ?_⟩) fun h1 => hKb _ ?_)) fun h => hKb _ ?_⟩
    · simp only [gI_nat, bne_iff_ne] at h h1 ⊢
      rw [e, metL_succ hi, meet, if_pos ⟨h, by simpa using h1⟩]
    · simp only [gI_nat, bne_iff_ne] at h h1 ⊢
      rw [e, metL_succ hi, meet_in (.inr (by simpa using h1))]
    · simp only [gI_nat, bne_eq_false_iff_eq] at h ⊢
      rw [e, metL_succ hi, meet_in (.inl h)]
  · rintro _ rfl Kb
    refine br_f (by simp [len_eq]) ?_
    simpa using hK
/-- A step of copying. -/
def stepO (l r s : List Int) (i : Nat) : List Int := meet (r.getD (s.getD i 0).toNat 0) (meet (l.getD (s.getD i 0).toNat 0) s)
def bfs (l r : List Int) : Nat → Nat → List Int → List Int
  | 0, i, s => s
  | f + 1, i, s => if i < s.length then bfs l r f (i + 1) (stepO l r s i) else s
def ordF (l r ro : List Int) : List Int := bfs l r (l.length + 1) 0 (metL ro [])
theorem bfs_end {l r s : List Int} {f i : Nat} (h : ¬ i < s.length) : bfs l r f i s = s := by
  cases f with
  | zero => rfl
  | succ f => simp [bfs, h]
theorem HVp.atl {l r ro : List Int} (h : HVp l r ro) {x : Int} (h0 : 0 ≤ x) (h1 : x < l.length) : okP l.length (l.getD x.toNat 0) := h.gl (by omega)
theorem HVp.atr {l r ro : List Int} (h : HVp l r ro) {x : Int} (h0 : 0 ≤ x) (h1 : x < l.length) : okP l.length (r.getD x.toNat 0) := h.gr (by omega)
theorem CellsP.step {l r ro s : List Int} (hv : HVp l r ro) (h : CellsP l.length s) {i : Nat} (hi : i < s.length) : CellsP l.length (stepO l r s i) := by
  have := h.get hi
  exact (h.meet (hv.atl this.1 this.2)).meet (hv.atr this.1 this.2)
theorem metL_cells {n : Nat} : ∀ {ps s : List Int}, CellsP n s → (∀ x ∈ ps, okP n x) → CellsP n (metL ps s)
  | [], s, h, _ => h
  | p :: ps, s, h, hp => metL_cells (ps := ps) (h.meet (hp p (by simp))) fun x hx => hp x (by simp [hx])
theorem cells_nil (n : Nat) : CellsP n [] := ⟨by simp, by simp⟩
theorem bfs_cells {l r ro : List Int} (hv : HVp l r ro) : ∀ (f i : Nat) (s : List Int), CellsP l.length s → CellsP l.length (bfs l r f i s)
  | 0, i, s, h => h
  | f + 1, i, s, h => by
    simp only [bfs]
    split
    · rename_i hi; exact bfs_cells hv f (i + 1) _ (h.step hv hi)
    · exact h
theorem ordF_cells {l r ro : List Int} (hv : HVp l r ro) : CellsP l.length (ordF l r ro) := bfs_cells hv _ _ _ (metL_cells (cells_nil _) hv.oko)
theorem gI_at {l : List Int} {x : Int} : gI l x = l.getD x.toNat 0 := rfl
theorem sub_all {α : Type} (l : List α) : sub l 0 (len l) = l := by simp [sub, len_eq]
theorem L_Clip_int {l : List Int} {K : List Int → Prop} (hK : K l) : M_Clip_int l K := by
  refine ⟨⟨by omega, by simp [len_eq], by omega, by omega⟩, ?_⟩
  rw [sub_all]; exact hK
theorem L_iOrderOf {l r ro : List Int} {K : List Int → Prop} (hK : K (if HVp l r ro then ordF l r ro else [])) : Mi_OrderOf l r ro K := by
  refine L_iHeapValid (br (fun h => ?_) fun h => ?_)
  · simp at h; simpa [h] using hK
  simp at h
  have hv := h
  have hK : K (ordF l r ro) := by simpa [h] using hK
  have h8 := hv.l8
  have h3 := hv.r3
  refine L_met (by simp; omega) ?_
  refine LoopP_inv (fun st => ∃ (i : Nat) (s : List Int), st = ((i : Int), l, r, ro, s) ∧ CellsP l.length s ∧ i ≤ l.length ∧ bfs l r (l.length + 1 - i) i s = ordF l r ro) (fun st => l.length + 1 - st.1.toNat) ?_ ⟨0, _, rfl, metL_cells (cells_nil _) hv.oko, by omega, rfl⟩
  rintro _ ⟨i, s, rfl, hc, hi, he⟩ Kb hKb
  have hl := hc.len
  refine br (fun h => ?_) fun h => ?_
  · have h : i < s.length := by have := of_decide_eq_true h; simp only [len_eq] at this; omega
    have hg := hc.get h
    have hlr := hv.lr
    refine ⟨by simp [inB_nat]; exact h, ⟨by simp only [gI_nat]; omega, by simp only [gI_nat]; omega⟩, by simp [inB_nat]; exact h, ⟨by simp only [gI_nat]; omega, by simp only [gI_nat]; omega⟩, L_met (by dsimp only [List.length_cons, List.length_nil]; omega) (hKb _ ⟨i + 1, stepO l r s i, ?_, hc.step hv h, by omega, ?_⟩ ?_)⟩
    · simp only [gI_at, Int.toNat_natCast]
      rw [iadd_nat (by omega)]; rfl
    · have e : l.length + 1 - i = (l.length + 1 - (i + 1)) + 1 := by omega
      rw [e] at he
      simpa [bfs, h] using he
    · simp only [iadd_nat (show i < 2 ^ 62 by omega), Int.toNat_natCast]; omega
  · have h : ¬ i < s.length := by have := of_decide_eq_false h; simp only [len_eq] at this; omega
    rw [bfs_end h] at he
    rw [← he] at hK
    exact L_Clip_int hK
theorem L_Clone_int {l : List Int} {K : List Int → Prop} (hl : l.length ≤ 2 ^ 36) (hK : K l) : M_Clone_int l K := by
  intro b hb
  refine br (fun h => ?_) fun _ => ⟨hl, hK⟩
  have : l.length = 0 := Classical.byContradiction fun hh => by rw [hb hh] at h; cases h
  rwa [List.length_eq_zero_iff.1 this] at hK
theorem L_copied {l r ro : List Int} {K : List Int → List Int → List Int → Prop} (hv : HVp l r ro) (hK : K l r ro) : Mi_copied l r ro K := by
  have := hv.l8; have := hv.lr; have := hv.r3
  exact L_Clone_int (by omega) (L_Clone_int (by omega) (L_Clone_int (by omega) hK))
theorem L_l1Copy {l r ro : List Int} {K : Prop} (hv : HVp l r ro) (hK : K) : Ms_l1Copy l r ro K := by
  have := hv.l8; have := hv.lr; have := hv.r3
  exact ⟨by omega, by omega, by omega, hK⟩
/-- May this pointer be put? -/
structure PutP (l r ro : List Int) (c x : Int) : Prop where
  h : HVp l r ro
  c0 : 0 ≤ c
  c1 : c < l.length
  x : okP l.length x
instance (l r ro : List Int) (c x : Int) : Decidable (PutP l r ro c x) := decidable_of_iff (HVp l r ro ∧ 0 ≤ c ∧ c < l.length ∧ okP l.length x) ⟨fun ⟨a, b, c, d⟩ => ⟨a, b, c, d⟩, fun ⟨a, b, c, d⟩ => ⟨a, b, c, d⟩⟩
theorem PutP.valid {l r ro : List Int} {c x : Int} (h : PutP l r ro c x) : HVp (l.set c.toNat x) r ro := by
  have := h.h
  refine ⟨by simpa using this.lr, by simpa using this.l1, by simpa using this.l8, this.r1, this.r3, fun y hy => ?_, fun y hy => by simpa using this.okr y hy, fun y hy => by simpa using this.oko y hy⟩
  simp only [List.length_set]
  rcases List.mem_or_eq_of_mem_set hy with hy | rfl
  · exact this.okl y hy
  · exact h.x
theorem cells_iff {n : Nat} {s : List Int} : CellsP n s ↔ ∀ i, i < s.length → 0 ≤ s.getD i 0 ∧ s.getD i 0 < n ∧ s.getD i 0 ∉ s.take i := by
  constructor
  · intro h i hi
    refine ⟨(h.get hi).1, (h.get hi).2, fun hm => ?_⟩
    obtain ⟨j, hj, he⟩ := List.getElem_of_mem hm
    rw [List.getElem_take] at he
    rw [getD_lt hi] at he
    have hjs : j < s.length := by simp at hj; omega
    have := (List.getElem_inj (h₀ := hjs) (h₁ := hi) h.nd).1 he
    simp at hj; omega
  · intro h
    refine ⟨?_, fun x hx => ?_⟩
    · rw [List.nodup_iff_pairwise_ne, List.pairwise_iff_getElem]
      intro i j hi hj hij he
      refine (h j hj).2.2 ?_
      rw [getD_lt hj, ← he]
      exact List.mem_take_iff_getElem.2 ⟨i, by omega, rfl⟩
    · obtain ⟨i, hi, rfl⟩ := List.getElem_of_mem hx
      have := h i hi
      rw [getD_lt hi] at this
      exact ⟨this.1, this.2.1⟩
theorem sub_nat {α : Type} (l : List α) (i : Nat) : sub l 0 (i : Int) = l.take i := by simp [sub]
/-- A reader that may draw k more times. -/
structure RdOk (b : List Int) (p : Int) (k : Nat) : Prop where
  by_ : ∀ x ∈ b, 0 ≤ x ∧ x < 256
  len : b.length ≤ 2000
  p0 : 0 ≤ p
  pk : p + k ≤ 1099511627776
theorem RdOk.le {b : List Int} {p : Int} {k k' : Nat} (h : RdOk b p k) (hk : k' ≤ k) : RdOk b p k' := ⟨h.by_, h.len, h.p0, by have := h.pk; omega⟩
theorem RdOk.gY {b : List Int} {p : Int} {k : Nat} (h : RdOk b p k) {i : Int} (h0 : 0 ≤ i) (h1 : i < b.length) : 0 ≤ gY b i ∧ gY b i < 256 := by
  unfold Ab.gY
  exact h.by_ _ (getD_mem _ (by omega))
theorem xor_pos {a b : Int} (ha : 0 ≤ a) (ha' : a < 4611686018427387904) (hb : 0 ≤ b) (hb' : b < 4611686018427387904) :
    0 ≤ IntKind.wrap .i64 (((BitVec.ofInt (IntKind.bits .i64) a ^^^ BitVec.ofInt (IntKind.bits .i64) b).toNat : Int)) := by
  obtain ⟨x, rfl⟩ := Int.eq_ofNat_of_zero_le ha
  obtain ⟨y, rfl⟩ := Int.eq_ofNat_of_zero_le hb
  have hx : x < 2 ^ 62 := by omega
  have hy : y < 2 ^ 62 := by omega
  have h1 : x % 2 ^ 64 = x := Nat.mod_eq_of_lt (by omega)
  have h2 : y % 2 ^ 64 = y := Nat.mod_eq_of_lt (by omega)
  have h3 : (BitVec.ofInt (IntKind.bits .i64) (x : Int) ^^^ BitVec.ofInt (IntKind.bits .i64) (y : Int)).toNat = x ^^^ y := by
    rw [BitVec.toNat_xor]
    have e1 : (BitVec.ofInt (IntKind.bits .i64) (x : Int)).toNat = x % 2 ^ 64 := by simp [BitVec.toNat_ofInt, IntKind.bits]
    have e2 : (BitVec.ofInt (IntKind.bits .i64) (y : Int)).toNat = y % 2 ^ 64 := by simp [BitVec.toNat_ofInt, IntKind.bits]
    rw [e1, e2, h1, h2]
  rw [h3]
  have h4 : x ^^^ y < 2 ^ 62 := Nat.xor_lt_two_pow hx hy
  rw [wrap64 (by omega) (by omega)]
  omega
theorem tmod_in {x n : Int} (hx : 0 ≤ x) (hn : 1 ≤ n) : 0 ≤ x.tmod n ∧ x.tmod n < n := by
  rw [Int.tmod_eq_emod_of_nonneg hx]
  exact ⟨Int.emod_nonneg _ (by omega), Int.emod_lt_of_pos _ (by omega)⟩
theorem L_pick {n : Int} {b : List Int} {p : Int} {k : Nat} {K : Int → Int → Prop} (h : RdOk b p (k + 1)) (hK : ∀ v, 0 ≤ v → (1 ≤ n → v < n) → RdOk b (p + 1) k → K v (p + 1)) : Ms_l13Rd_pick n b p K := by
  have hp := h.p0
  have hk := h.pk
  have hl := h.len
  have e1 : iadd p 1 = p + 1 := iadd_eq (by omega) (by omega)
  have e2 : isub (p + 1) 1 = p := by rw [isub_eq (by omega) (by omega)]; omega
  have hr : RdOk b (p + 1) k := ⟨h.by_, h.len, by omega, by omega⟩
  unfold Ms_l13Rd_pick
  rw [e1, e2]
  refine br (fun h1 => hK 0 (by omega) (fun _ => by omega) hr) fun h1 => br (fun h2 => hK 0 (by omega) (fun _ => by omega) hr) fun h2 => ?_
  have h1 : 1 ≤ n := by have := of_decide_eq_false h1; omega
  have h2 : 0 < b.length := by simp [len_eq] at h2; exact List.length_pos_iff.2 h2
  refine br (fun h3 => ?_) fun h3 => ?_
  · have h3 : p < b.length := by have := of_decide_eq_true h3; simp only [len_eq] at this; omega
    have hg := h.gY hp h3
    refine ⟨⟨hp, h3⟩, by omega, ?_⟩
    have e3 : IntKind.wrap .i64 (gY b p) = gY b p := wrap64 (by omega) (by omega)
    have := tmod_in hg.1 h1
    dsimp only
    rw [e3]
    exact hK _ this.1 (fun _ => this.2) hr
  · have hl' : len b ≠ 0 := by simp only [len_eq]; omega
    have hl1 : (1 : Int) ≤ len b := by simp only [len_eq]; omega
    have hl2 : len b ≤ 2000 := by simp only [len_eq]; omega
    have m1 := tmod_in hp hl1
    have e4 : imul p 7 = p * 7 := imul_eq (by omega) (by omega)
    have e5 : iadd (p * 7) 3 = p * 7 + 3 := iadd_eq (by omega) (by omega)
    have m2 := tmod_in (show 0 ≤ p * 7 + 3 by omega) hl1
    have hg1 := h.gY (i := p.tmod (len b)) m1.1 m1.2
    have hg2 := h.gY (i := (p * 7 + 3).tmod (len b)) m2.1 m2.2
    have e6 : IntKind.wrap .i64 (gY b (p.tmod (len b))) = gY b (p.tmod (len b)) := wrap64 (by omega) (by omega)
    have e7 : IntKind.wrap .i64 (gY b ((p * 7 + 3).tmod (len b))) = gY b ((p * 7 + 3).tmod (len b)) := wrap64 (by omega) (by omega)
    rw [e4, e5]
    refine ⟨hl', ⟨m1.1, m1.2⟩, ?_⟩
    dsimp only
    refine ⟨hl', ⟨m2.1, m2.2⟩, ?_⟩
    rw [e6, e7]
    generalize gY b (p.tmod (len b)) = x1 at hg1
    generalize gY b ((p * 7 + 3).tmod (len b)) = x2 at hg2
    have q0 : 0 ≤ p.tdiv (len b) := Int.tdiv_nonneg hp (by omega)
    have q1 : p.tdiv (len b) ≤ p := by rw [Int.tdiv_eq_ediv_of_nonneg hp]; exact Int.ediv_le_self _ hp
    have f1 : imul x1 131 = x1 * 131 := imul_eq (by omega) (by omega)
    have f2 : imul x2 1117 = x2 * 1117 := imul_eq (by omega) (by omega)
    have f3 : imul p 29 = p * 29 := imul_eq (by omega) (by omega)
    have f4 : iquo p (len b) = p.tdiv (len b) := wrap64 (by omega) (by omega)
    rw [f1, f2, f3, f4]
    generalize p.tdiv (len b) = q at q0 q1
    have f5 : imul q 53 = q * 53 := imul_eq (by omega) (by omega)
    have f6 : iadd (x1 * 131) (x2 * 1117) = x1 * 131 + x2 * 1117 := iadd_eq (by omega) (by omega)
    have f7 : iadd (x1 * 131 + x2 * 1117) (p * 29) = x1 * 131 + x2 * 1117 + p * 29 := iadd_eq (by omega) (by omega)
    have f8 : iadd (x1 * 131 + x2 * 1117 + p * 29) (q * 53) = x1 * 131 + x2 * 1117 + p * 29 + q * 53 := iadd_eq (by omega) (by omega)
    rw [f5, f6, f7, f8]
    have g0 : 0 ≤ x1 * 131 + x2 * 1117 + p * 29 + q * 53 := by omega
    have g1 : x1 * 131 + x2 * 1117 + p * 29 + q * 53 < 4611686018427387904 := by omega
    generalize x1 * 131 + x2 * 1117 + p * 29 + q * 53 = x at g0 g1
    have r0 : 0 ≤ x.tdiv 64 := Int.tdiv_nonneg g0 (by omega)
    have r1 : x.tdiv 64 ≤ x := by rw [Int.tdiv_eq_ediv_of_nonneg g0]; exact Int.ediv_le_self _ g0
    have f9 : iquo x 64 = x.tdiv 64 := wrap64 (by omega) (by omega)
    refine ⟨hl', by omega, by omega, ?_⟩
    rw [f9]
    have := tmod_in (xor_pos g0 g1 r0 (by omega)) h1
    exact hK _ this.1 (fun _ => this.2) hr
theorem L_num {l b : List Int} {p : Int} {k : Nat} {K : Int → Int → Prop} (h : RdOk b p (k + 1)) (hl : 1 ≤ l.length) (hK : ∀ v, v ∈ l → RdOk b (p + 1) k → K v (p + 1)) : Ms_l13Rd_num l b p K := by
  refine L_pick h fun v h0 h1 hr => ?_
  have h1 := h1 (by simp only [len_eq]; omega)
  simp only [len_eq] at h1
  exact ⟨⟨h0, h1⟩, hK _ (getD_mem 0 (by omega)) hr⟩
theorem L_l13Open {c : List Int} {K : List Int → Int → Prop} (hc : ∀ x ∈ c, U8 x) (hK : ∀ b, RdOk b 0 1000000 → K b 0) : Ms_l13Open c K := by
  have h8 : ∀ x ∈ c, 0 ≤ x ∧ x < 256 := fun x hx => by
    have := hc x hx
    simp [U8, Lit.wf, IntKind.min, IntKind.max, IntKind.signed, IntKind.bits] at this
    omega
  refine br (fun h => ⟨⟨by omega, by omega, ?_⟩, hK _ ⟨fun x hx => ?_, ?_, by omega, by omega⟩⟩) fun h => hK _ ⟨h8, ?_, by omega, by omega⟩
  · have := of_decide_eq_true h; omega
  · simp only [sub] at hx; exact h8 x (List.mem_of_mem_take (List.mem_of_mem_drop hx))
  · simp [sub]; omega
  · have := of_decide_eq_false h; simp only [len_eq] at this; omega
theorem L_l1Many {n : Nat} {K : List Int → Prop} (hn : n ≤ 8) (hK : K (List.replicate n (-1))) : Ms_l1Many n K := by
  refine LoopP_for (fun i s => s = ((n : Int), (i : Int), List.replicate i (-1))) n rfl ?_ ?_
  · rintro i _ hi rfl Kb hKb
    refine br_t (by simp; omega) ⟨by simp; omega, hKb _ ?_⟩
    rw [iadd_nat (by omega), ← List.replicate_succ']
  · rintro _ rfl Kb
    exact br_f (by simp) hK
theorem L_sNewHeap {n m : Nat} {K : Bool → List Int → List Int → List Int → Prop} (hn : 1 ≤ n) (hn8 : n ≤ 8) (hm : 1 ≤ m) (hm3 : m ≤ 3) (hK : K true (List.replicate n (-1)) (List.replicate n (-1)) (List.replicate m (-1))) : Ms_NewHeap n m K :=
  br_f (by simp; omega) (br_f (by simp; omega) (br_f (by simp; omega) (br_f (by simp; omega) (L_l1Many hn8 (L_l1Many hn8 (L_l1Many (by omega) hK))))))
theorem ok_set {n : Nat} {l : List Int} {i : Nat} {v : Int} (h : ∀ x ∈ l, okP n x) (hv : okP n v) : ∀ x ∈ l.set i v, okP n x := fun x hx => by
  rcases List.mem_or_eq_of_mem_set hx with hx | rfl
  · exact h x hx
  · exact hv
theorem eqN {v : Int} {n : Int} {P Q : Prop} (h1 : v = n → P) (h2 : v ≠ n → Q) : ((v == n) = true → P) ∧ ((v == n) = false → Q) := br (fun h => h1 (by simpa using h)) fun h => h2 (by simpa using h)
theorem count_set : ∀ {l : List Bool} {i : Nat}, i < l.length → l.getD i false = false → (l.set i true).count true = l.count true + 1
  | [], i, h, _ => by simp at h
  | a :: l, 0, _, h => by
    simp at h; subst h; simp
  | a :: l, i + 1, h, h1 => by
    have := count_set (l := l) (i := i) (by simpa using h) (by simpa using h1)
    rw [List.set_cons_succ, List.count_cons, List.count_cons, this]
    omega
/-- Pointers lead to this cell from one of S. -/
inductive Rc (l r : List Int) (S : Int → Prop) : Int → Prop where
  | base {x : Int} (h : S x) (hn : x ≠ -1) : Rc l r S x
  | left {y : Int} (h : Rc l r S y) (hn : l.getD y.toNat 0 ≠ -1) : Rc l r S (l.getD y.toNat 0)
  | right {y : Int} (h : Rc l r S y) (hn : r.getD y.toNat 0 ≠ -1) : Rc l r S (r.getD y.toNat 0)
theorem okP.cell {n : Nat} {x : Int} (h : okP n x) (hn : x ≠ -1) : 0 ≤ x ∧ x < n := by have := h.1; exact ⟨by omega, h.2⟩
theorem Rc.ok {l r ro : List Int} {S : Int → Prop} (hv : HVp l r ro) (hS : ∀ x, S x → okP l.length x) {x : Int} (h : Rc l r S x) : 0 ≤ x ∧ x < l.length := by
  induction h with
  | base h hn => exact (hS _ h).cell hn
  | left h hn ih => exact (hv.atl ih.1 ih.2).cell hn
  | right h hn ih => exact (hv.atr ih.1 ih.2).cell hn
theorem Rc.mono {l r : List Int} {S S' : Int → Prop} (hS : ∀ x, S x → S' x) {x : Int} (h : Rc l r S x) : Rc l r S' x := by
  induction h with
  | base h hn => exact .base (hS _ h) hn
  | left h hn ih => exact .left ih hn
  | right h hn ih => exact .right ih hn
theorem mem_meet_iff {x y : Int} {s : List Int} : y ∈ meet x s ↔ y ∈ s ∨ (y = x ∧ x ≠ -1) := by
  refine ⟨meet_mem, fun h => ?_⟩
  rcases h with h | ⟨rfl, h⟩
  · obtain ⟨t, ht⟩ := meet_pre x s
    rw [ht]; exact List.mem_append_left _ h
  · exact mem_meet h
theorem mem_metL_iff : ∀ {ps s : List Int} {y : Int}, y ∈ metL ps s ↔ y ∈ s ∨ (y ∈ ps ∧ y ≠ -1)
  | [], s, y => by simp [metL]
  | p :: ps, s, y => by
    have := @mem_metL_iff ps (meet p s) y
    have e : metL (p :: ps) s = metL ps (meet p s) := rfl
    rw [e, this, mem_meet_iff]
    constructor
    · rintro ((h | ⟨rfl, h⟩) | ⟨h, h2⟩)
      · exact .inl h
      · exact .inr ⟨by simp, h⟩
      · exact .inr ⟨by simp [h], h2⟩
    · rintro (h | ⟨h, h2⟩)
      · exact .inl (.inl h)
      · rcases List.mem_cons.1 h with rfl | h
        · exact .inl (.inr ⟨rfl, h2⟩)
        · exact .inr ⟨h, h2⟩
theorem mem_stepO {l r s : List Int} {i : Nat} {y : Int} : y ∈ stepO l r s i ↔ y ∈ s ∨ (y = l.getD (s.getD i 0).toNat 0 ∧ y ≠ -1) ∨ (y = r.getD (s.getD i 0).toNat 0 ∧ y ≠ -1) := by
  unfold stepO
  rw [mem_meet_iff, mem_meet_iff]
  constructor
  · rintro ((h | ⟨rfl, h⟩) | ⟨rfl, h⟩)
    · exact .inl h
    · exact .inr (.inl ⟨rfl, h⟩)
    · exact .inr (.inr ⟨rfl, h⟩)
  · rintro (h | ⟨rfl, h⟩ | ⟨rfl, h⟩)
    · exact .inl (.inl h)
    · exact .inl (.inr ⟨rfl, h⟩)
    · exact .inr ⟨rfl, h⟩
theorem stepO_pre' (l r s : List Int) (i : Nat) : ∃ t, stepO l r s i = s ++ t := by
  unfold stepO
  obtain ⟨t1, h1⟩ := meet_pre (l.getD (s.getD i 0).toNat 0) s
  obtain ⟨t2, h2⟩ := meet_pre (r.getD (s.getD i 0).toNat 0) (meet (l.getD (s.getD i 0).toNat 0) s)
  rw [h2, h1]
  exact ⟨t1 ++ t2, by simp⟩
theorem pre_getD {s s' : List Int} (h : ∃ t, s' = s ++ t) {i : Nat} (hi : i < s.length) : s'.getD i 0 = s.getD i 0 := by
  obtain ⟨t, rfl⟩ := h
  rw [List.getD_eq_getElem?_getD, List.getElem?_append_left hi, List.getD_eq_getElem?_getD]
theorem bfs_sound {l r : List Int} {R : Int → Prop} (hR : ∀ y, R y → (l.getD y.toNat 0 ≠ -1 → R (l.getD y.toNat 0)) ∧ (r.getD y.toNat 0 ≠ -1 → R (r.getD y.toNat 0))) : ∀ (f i : Nat) (s : List Int), (∀ x ∈ s, R x) → ∀ x ∈ bfs l r f i s, R x
  | 0, i, s, h => h
  | f + 1, i, s, h => by
    simp only [bfs]
    split
    · rename_i hi
      refine bfs_sound hR f (i + 1) _ fun x hx => ?_
      have hs := h _ (getD_mem 0 hi)
      rcases mem_stepO.1 hx with hx | ⟨rfl, hn⟩ | ⟨rfl, hn⟩
      · exact h x hx
      · exact (hR _ hs).1 hn
      · exact (hR _ hs).2 hn
    · exact h
/-- What the first k cells point to has been met. -/
def Done (l r s : List Int) (k : Nat) : Prop := ∀ j, j < k → j < s.length → (l.getD (s.getD j 0).toNat 0 = -1 ∨ l.getD (s.getD j 0).toNat 0 ∈ s) ∧ (r.getD (s.getD j 0).toNat 0 = -1 ∨ r.getD (s.getD j 0).toNat 0 ∈ s)
theorem Done.step {l r s : List Int} {i : Nat} (h : Done l r s i) (hi : i < s.length) : Done l r (stepO l r s i) (i + 1) := by
  intro j hj hjs
  have hp := stepO_pre' l r s i
  have hm : ∀ x, x ∈ s → x ∈ stepO l r s i := fun x hx => mem_stepO.2 (.inl hx)
  by_cases e : j < i
  · rw [pre_getD hp (by omega)]
    have := h j e (by omega)
    exact ⟨this.1.imp id (hm _), this.2.imp id (hm _)⟩
  · have e : j = i := by omega
    subst e
    rw [pre_getD hp hi]
    refine ⟨?_, ?_⟩
    · by_cases q : l.getD (s.getD j 0).toNat 0 = -1
      · exact .inl q
      · exact .inr (mem_stepO.2 (.inr (.inl ⟨rfl, q⟩)))
    · by_cases q : r.getD (s.getD j 0).toNat 0 = -1
      · exact .inl q
      · exact .inr (mem_stepO.2 (.inr (.inr ⟨rfl, q⟩)))
theorem bfs_done {l r ro : List Int} (hv : HVp l r ro) : ∀ (f i : Nat) (s : List Int), CellsP l.length s → i ≤ s.length → l.length + 1 ≤ f + i → Done l r s i → Done l r (bfs l r f i s) (bfs l r f i s).length
  | 0, i, s, hc, hi, hf, hd => by have := hc.len; omega
  | f + 1, i, s, hc, hi, hf, hd => by
    simp only [bfs]
    split
    · rename_i h
      obtain ⟨t, ht⟩ := stepO_pre' l r s i
      exact bfs_done hv f (i + 1) _ (hc.step hv h) (by rw [ht, List.length_append]; omega) (by omega) (hd.step h)
    · rename_i h
      have : i = s.length := by omega
      subst this
      exact hd
theorem bfs_mem {l r : List Int} {f i : Nat} {s : List Int} {x : Int} (h : x ∈ s) : x ∈ bfs l r f i s := by
  induction f generalizing i s with
  | zero => exact h
  | succ f ih =>
    simp only [bfs]
    split
    · exact ih (mem_stepO.2 (.inl h))
    · exact h
theorem mem_ordF {l r ro : List Int} (hv : HVp l r ro) {x : Int} : x ∈ ordF l r ro ↔ Rc l r (· ∈ ro) x := by
  constructor
  · intro h
    refine bfs_sound (R := Rc l r (· ∈ ro)) (fun y hy => ⟨fun hn => .left hy hn, fun hn => .right hy hn⟩) _ _ _ (fun x hx => ?_) x h
    rcases mem_metL_iff.1 hx with hx | ⟨hx, hn⟩
    · cases hx
    · exact .base hx hn
  · have hd : Done l r (ordF l r ro) (ordF l r ro).length := bfs_done hv _ _ _ (metL_cells (cells_nil _) hv.oko) (by omega) (by omega) (fun j hj => by omega)
    have hcl : ∀ y, y ∈ ordF l r ro → (l.getD y.toNat 0 = -1 ∨ l.getD y.toNat 0 ∈ ordF l r ro) ∧ (r.getD y.toNat 0 = -1 ∨ r.getD y.toNat 0 ∈ ordF l r ro) := by
      intro y hy
      obtain ⟨j, hj, rfl⟩ := List.getElem_of_mem hy
      have := hd j hj hj
      rwa [getD_lt hj] at this
    intro h
    induction h with
    | base h hn => exact bfs_mem (mem_metL_iff.2 (.inr ⟨h, hn⟩))
    | left h hn ih => exact ((hcl _ ih).1).resolve_left hn
    | right h hn ih => exact ((hcl _ ih).2).resolve_left hn
def dm (p far : Int) (st : List Int × List Int) : List Int × List Int := if p ≠ -1 ∧ st.1.getD p.toNat 0 = 0 then (st.1.set p.toNat far, st.2 ++ [p]) else st
structure DInv (n : Nat) (st : List Int × List Int) : Prop where
  len : st.1.length = n
  c : CellsP n st.2
  m : ∀ c : Nat, c < n → (st.1.getD c 0 ≠ 0 ↔ (c : Int) ∈ st.2)
  pos : ∀ c : Nat, c < n → 0 ≤ st.1.getD c 0
  up : ∀ c : Nat, c < n → st.1.getD c 0 ≤ st.2.length
theorem set_getD {l : List Int} {i j : Nat} {v : Int} (hi : i < l.length) : (l.set i v).getD j 0 = if i = j then v else l.getD j 0 := by
  rw [List.getD_eq_getElem?_getD, List.getElem?_set]
  by_cases e : i = j
  · subst e; simp [hi]
  · rw [if_neg e, if_neg e, List.getD_eq_getElem?_getD]
theorem DInv.meet {n : Nat} {st : List Int × List Int} (h : DInv n st) {p far : Int} (hp : okP n p) (h1 : 1 ≤ far) (h2 : far ≤ st.2.length + 1) : DInv n (dm p far st) ∧ (dm p far st).2 = meet p st.2 := by
  have hc2 : CellsP n (Ab.meet p st.2) := h.c.meet hp
  unfold dm
  by_cases q : p ≠ -1 ∧ st.1.getD p.toNat 0 = 0
  · obtain ⟨q0, q1⟩ := q
    have hpc := hp.cell q0
    obtain ⟨k, rfl⟩ := Int.eq_ofNat_of_zero_le hpc.1
    have hk : k < n := by omega
    have hnm : (k : Int) ∉ st.2 := fun hm => by
      have := (h.m k hk).2 hm
      simp only [Int.toNat_natCast] at q1
      exact this q1
    rw [if_pos ⟨q0, q1⟩]
    have e : Ab.meet (k : Int) st.2 = st.2 ++ [(k : Int)] := by unfold Ab.meet; rw [if_pos ⟨q0, hnm⟩]
    rw [e] at hc2 ⊢
    simp only [Int.toNat_natCast]
    refine ⟨⟨by simpa using h.len, hc2, fun c hc => ?_, fun c hc => ?_, fun c hc => ?_⟩, trivial⟩
    · show (st.1.set k far).getD c 0 ≠ 0 ↔ _
      rw [set_getD (by rw [h.len]; exact hk)]
      by_cases e : k = c
      · subst e; rw [if_pos rfl]; simp; omega
      · rw [if_neg e, h.m c hc]
        simp
        intro hh; omega
    · show 0 ≤ (st.1.set k far).getD c 0
      rw [set_getD (by rw [h.len]; exact hk)]
      split
      · omega
      · exact h.pos c hc
    · show (st.1.set k far).getD c 0 ≤ ((st.2 ++ [(k : Int)]).length : Int)
      rw [set_getD (by rw [h.len]; exact hk), List.length_append]
      have := h.up c hc
      split <;> simp only [List.length_singleton] <;> push_cast <;> omega
  · rw [if_neg q]
    refine ⟨h, ?_⟩
    by_cases q0 : p = -1
    · rw [meet_in (.inl q0)]
    · have hpc := hp.cell q0
      have q1 : st.1.getD p.toNat 0 ≠ 0 := fun hh => q ⟨q0, hh⟩
      have := (h.m p.toNat (by omega)).1 q1
      rw [meet_in (.inr (by rwa [Int.toNat_of_nonneg hpc.1] at this))]
theorem dm_keep {p far : Int} {st : List Int × List Int} {c : Nat} (h : st.1.getD c 0 ≠ 0) (hl : p ≠ -1 → 0 ≤ p ∧ p < st.1.length) : (dm p far st).1.getD c 0 = st.1.getD c 0 := by
  unfold dm
  split
  · rename_i q
    have := hl q.1
    show (st.1.set p.toNat far).getD c 0 = _
    rw [set_getD (by omega), if_neg]
    intro e
    rw [e] at q
    exact h q.2
  · rfl
/-- The values that stand do not fall along the order of meeting, and none is above this one. -/
structure DMon (out op : List Int) (top : Int) : Prop where
  mono : ∀ j k, j < k → k < op.length → out.getD (op.getD j 0).toNat 0 ≤ out.getD (op.getD k 0).toNat 0
  top : ∀ k, k < op.length → out.getD (op.getD k 0).toNat 0 ≤ top
theorem DMon.meet {n : Nat} {st : List Int × List Int} (h : DInv n st) {p far : Int} (hp : okP n p) (hm : DMon st.1 st.2 far) : DMon (dm p far st).1 (dm p far st).2 far := by
  unfold dm
  by_cases q : p ≠ -1 ∧ st.1.getD p.toNat 0 = 0
  · rw [if_pos q]
    have hpc := hp.cell q.1
    have hold : ∀ j, j < st.2.length → (st.1.set p.toNat far).getD ((st.2 ++ [p]).getD j 0).toNat 0 = st.1.getD (st.2.getD j 0).toNat 0 := by
      intro j hj
      rw [pre_getD ⟨[p], rfl⟩ hj, set_getD (by rw [h.len]; omega), if_neg]
      intro e
      have hg := h.c.get hj
      have hmm : ((st.2.getD j 0).toNat : Int) ∈ st.2 := by rw [Int.toNat_of_nonneg hg.1]; exact getD_mem 0 hj
      have := (h.m (st.2.getD j 0).toNat (by omega)).2 hmm
      rw [← e] at this
      exact this q.2
    have hnew : (st.1.set p.toNat far).getD ((st.2 ++ [p]).getD st.2.length 0).toNat 0 = far := by
      have : (st.2 ++ [p]).getD st.2.length 0 = p := by simp [List.getD_eq_getElem?_getD]
      rw [this, set_getD (by rw [h.len]; omega), if_pos rfl]
    refine ⟨fun j k hjk hk => ?_, fun k hk => ?_⟩
    · simp only [List.length_append, List.length_singleton] at hk
      show (st.1.set p.toNat far).getD ((st.2 ++ [p]).getD j 0).toNat 0 ≤ (st.1.set p.toNat far).getD ((st.2 ++ [p]).getD k 0).toNat 0
      rw [hold j (by omega)]
      by_cases e : k < st.2.length
      · rw [hold k e]; exact hm.mono j k hjk e
      · have e : k = st.2.length := by omega
        rw [e, hnew]
        exact hm.top j (by omega)
    · simp only [List.length_append, List.length_singleton] at hk
      show (st.1.set p.toNat far).getD ((st.2 ++ [p]).getD k 0).toNat 0 ≤ far
      by_cases e : k < st.2.length
      · rw [hold k e]; exact hm.top k e
      · have e : k = st.2.length := by omega
        rw [e, hnew]; exact Int.le_refl _
  · rw [if_neg q]; exact hm
/-- A step over one cell that was met. -/
def dst (l r : List Int) (st : List Int × List Int) (i : Nat) : List Int × List Int :=
  let c := (st.2.getD i 0).toNat
  dm (r.getD c 0) (st.1.getD c 0 + 1) (dm (l.getD c 0) (st.1.getD c 0 + 1) st)
def dbfs (l r : List Int) : Nat → Nat → List Int × List Int → List Int × List Int
  | 0, i, st => st
  | f + 1, i, st => if i < st.2.length then dbfs l r f (i + 1) (dst l r st i) else st
def drs (ps : List Int) (st : List Int × List Int) : List Int × List Int := ps.foldl (fun st p => dm p 1 st) st
def distF (l r ro : List Int) : List Int := (dbfs l r (l.length + 1) 0 (drs ro (List.replicate l.length 0, []))).1
theorem DInv.step {l r ro : List Int} (hv : HVp l r ro) {st : List Int × List Int} (h : DInv l.length st) {i : Nat} (hi : i < st.2.length) (hm : DMon st.1 st.2 (st.1.getD (st.2.getD i 0).toNat 0 + 1)) :
    DInv l.length (dst l r st i) ∧ (dst l r st i).2 = stepO l r st.2 i ∧ (dst l r st i).1.getD (st.2.getD i 0).toNat 0 = st.1.getD (st.2.getD i 0).toNat 0 ∧ DMon (dst l r st i).1 (dst l r st i).2 (st.1.getD (st.2.getD i 0).toNat 0 + 1) ∧
    (dm (l.getD (st.2.getD i 0).toNat 0) (st.1.getD (st.2.getD i 0).toNat 0 + 1) st).1.getD (st.2.getD i 0).toNat 0 = st.1.getD (st.2.getD i 0).toNat 0 := by
  have hg := h.c.get hi
  have hmm : ((st.2.getD i 0).toNat : Int) ∈ st.2 := by rw [Int.toNat_of_nonneg hg.1]; exact getD_mem 0 hi
  have hne := (h.m (st.2.getD i 0).toNat (by omega)).2 hmm
  have hpos := h.pos (st.2.getD i 0).toNat (by omega)
  have hup := h.up (st.2.getD i 0).toNat (by omega)
  have ol := hv.atl hg.1 hg.2
  have or_ := hv.atr hg.1 hg.2
  obtain ⟨h1, e1⟩ := h.meet (p := l.getD (st.2.getD i 0).toNat 0) (far := st.1.getD (st.2.getD i 0).toNat 0 + 1) ol (by omega) (by omega)
  have k1 : (dm (l.getD (st.2.getD i 0).toNat 0) (st.1.getD (st.2.getD i 0).toNat 0 + 1) st).1.getD (st.2.getD i 0).toNat 0 = st.1.getD (st.2.getD i 0).toNat 0 := dm_keep hne (fun q => by rw [h.len]; exact ol.cell q)
  have hlen : st.2.length ≤ (dm (l.getD (st.2.getD i 0).toNat 0) (st.1.getD (st.2.getD i 0).toNat 0 + 1) st).2.length := by
    rw [e1]; obtain ⟨t, ht⟩ := meet_pre (l.getD (st.2.getD i 0).toNat 0) st.2; rw [ht, List.length_append]; omega
  obtain ⟨h2, e2⟩ := h1.meet (p := r.getD (st.2.getD i 0).toNat 0) (far := st.1.getD (st.2.getD i 0).toNat 0 + 1) or_ (by omega) (by omega)
  refine ⟨h2, ?_, ?_, DMon.meet h1 or_ (DMon.meet h ol hm), k1⟩
  · show (dm _ _ (dm _ _ st)).2 = _
    rw [e2, e1]; rfl
  · show (dm _ _ (dm _ _ st)).1.getD _ 0 = _
    rw [dm_keep (by rw [k1]; exact hne) (fun q => by rw [h1.len]; exact or_.cell q), k1]
theorem dbfs_inv {l r ro : List Int} (hv : HVp l r ro) : ∀ (f i : Nat) (st : List Int × List Int), DInv l.length st → (i < st.2.length → DMon st.1 st.2 (st.1.getD (st.2.getD i 0).toNat 0 + 1)) → (∀ j k, j < k → k < st.2.length → st.1.getD (st.2.getD j 0).toNat 0 ≤ st.1.getD (st.2.getD k 0).toNat 0) →
    DInv l.length (dbfs l r f i st) ∧ (dbfs l r f i st).2 = bfs l r f i st.2 ∧ ∀ j k, j < k → k < (dbfs l r f i st).2.length → (dbfs l r f i st).1.getD ((dbfs l r f i st).2.getD j 0).toNat 0 ≤ (dbfs l r f i st).1.getD ((dbfs l r f i st).2.getD k 0).toNat 0
  | 0, i, st, h, hm, hmo => ⟨h, rfl, hmo⟩
  | f + 1, i, st, h, hm, hmo => by
    simp only [dbfs, bfs]
    by_cases hi : i < st.2.length
    · rw [if_pos hi, if_pos hi]
      obtain ⟨h1, e1, k1, m1, _⟩ := h.step hv hi (hm hi)
      rw [← e1]
      refine dbfs_inv hv f (i + 1) _ h1 (fun hi1 => ⟨m1.mono, fun k hk => ?_⟩) m1.mono
      have a1 := m1.top k hk
      have a2 := m1.mono i (i + 1) (by omega) hi1
      have a3 : (dst l r st i).2.getD i 0 = st.2.getD i 0 := by rw [e1]; exact pre_getD (stepO_pre' l r st.2 i) hi
      rw [a3, k1] at a2
      omega
    · rw [if_neg hi, if_neg hi]
      exact ⟨h, rfl, hmo⟩
theorem drs_inv {n : Nat} : ∀ {ps : List Int} {st : List Int × List Int}, DInv n st → (∀ x ∈ ps, okP n x) → DMon st.1 st.2 1 → DInv n (drs ps st) ∧ (drs ps st).2 = metL ps st.2 ∧ DMon (drs ps st).1 (drs ps st).2 1
  | [], st, h, _, hm => ⟨h, rfl, hm⟩
  | p :: ps, st, h, hp, hm => by
    obtain ⟨h1, e1⟩ := h.meet (p := p) (far := 1) (hp p (by simp)) (by omega) (by omega)
    have := drs_inv (ps := ps) h1 (fun x hx => hp x (by simp [hx])) (DMon.meet h (hp p (by simp)) hm)
    rw [e1] at this
    exact this
theorem dinv0 (n : Nat) : DInv n (List.replicate n 0, []) := by
  have h0 : ∀ c : Nat, (List.replicate n (0 : Int)).getD c 0 = 0 := fun c => by
    by_cases h : c < n
    · rw [getD_lt (by simpa using h)]; simp
    · rw [List.getD_eq_getElem?_getD, List.getElem?_eq_none (by simp; omega)]; rfl
  exact ⟨by simp, cells_nil n, fun c hc => by rw [h0]; simp, fun c hc => by rw [h0]; omega, fun c hc => by rw [h0]; simp⟩
theorem distF_inv {l r ro : List Int} (hv : HVp l r ro) : ∃ st : List Int × List Int, st.1 = distF l r ro ∧ st.2 = ordF l r ro ∧ DInv l.length st ∧ ∀ j k, j < k → k < st.2.length → st.1.getD (st.2.getD j 0).toNat 0 ≤ st.1.getD (st.2.getD k 0).toNat 0 := by
  obtain ⟨h1, e1, m1⟩ := drs_inv (dinv0 l.length) hv.oko ⟨fun j k _ hk => by simp at hk, fun k hk => by simp at hk⟩
  have hlow : ∀ k, k < (drs ro (List.replicate l.length 0, [])).2.length → 1 ≤ (drs ro (List.replicate l.length 0, [])).1.getD ((drs ro (List.replicate l.length 0, [])).2.getD k 0).toNat 0 := by
    intro k hk
    have hg := h1.c.get hk
    have hmm : (((drs ro (List.replicate l.length 0, [])).2.getD k 0).toNat : Int) ∈ (drs ro (List.replicate l.length 0, [])).2 := by rw [Int.toNat_of_nonneg hg.1]; exact getD_mem 0 hk
    have h2 := (h1.m _ (by omega)).2 hmm
    have h3 := h1.pos ((drs ro (List.replicate l.length 0, [])).2.getD k 0).toNat (by omega)
    omega
  obtain ⟨h2, e2, m2⟩ := dbfs_inv hv (l.length + 1) 0 _ h1 (fun hi => ⟨m1.mono, fun k hk => by have := m1.top k hk; have := hlow 0 hi; omega⟩) m1.mono
  refine ⟨_, rfl, ?_, h2, m2⟩
  rw [e2, e1]; rfl
theorem distF_pos {l r ro : List Int} (hv : HVp l r ro) {c : Nat} (hc : c < l.length) : 0 < (distF l r ro).getD c 0 ↔ (c : Int) ∈ ordF l r ro := by
  obtain ⟨st, e1, e2, h, _⟩ := distF_inv hv
  have a := h.m c hc
  have b := h.pos c hc
  rw [e1] at a b
  rw [e2] at a
  rw [← a]
  omega
theorem bfs_more {l r ro : List Int} (hv : HVp l r ro) : ∀ (f i : Nat) (s : List Int) (k : Nat), CellsP l.length s → i ≤ s.length → l.length + 1 ≤ f + i → bfs l r (f + k) i s = bfs l r f i s
  | 0, i, s, k, hc, hi, hf => by have := hc.len; omega
  | f + 1, i, s, k, hc, hi, hf => by
    rw [show f + 1 + k = (f + k) + 1 by omega]
    simp only [bfs]
    split
    · rename_i h
      obtain ⟨t, ht⟩ := stepO_pre' l r s i
      exact bfs_more hv f (i + 1) _ k (hc.step hv h) (by rw [ht, List.length_append]; omega) (by omega)
    · rfl
/-- New numbers for the cells D. -/
structure Renum (l r ro l' r' ro' : List Int) (φ : Int → Int) (D : Int → Prop) : Prop where
  none : φ (-1) = -1
  hro : ro' = ro.map φ
  inj : ∀ x y, (D x ∨ x = -1) → (D y ∨ y = -1) → φ x = φ y → x = y
  hl : ∀ y, D y → l'.getD (φ y).toNat 0 = φ (l.getD y.toNat 0)
  hr : ∀ y, D y → r'.getD (φ y).toNat 0 = φ (r.getD y.toNat 0)
  dro : ∀ x ∈ ro, D x ∨ x = -1
  dl : ∀ y, D y → D (l.getD y.toNat 0) ∨ l.getD y.toNat 0 = -1
  dr : ∀ y, D y → D (r.getD y.toNat 0) ∨ r.getD y.toNat 0 = -1
section renum
variable {l r ro l' r' ro' : List Int} {φ : Int → Int} {D : Int → Prop}
theorem Renum.ne (h : Renum l r ro l' r' ro' φ D) {x : Int} (hx : D x ∨ x = -1) (hn : x ≠ -1) : φ x ≠ -1 := fun e => hn (h.inj x (-1) hx (.inr rfl) (by rw [e, h.none]))
theorem Renum.mem (h : Renum l r ro l' r' ro' φ D) {x : Int} {s : List Int} (hx : D x ∨ x = -1) (hs : ∀ y ∈ s, D y) : φ x ∈ s.map φ ↔ x ∈ s := by
  constructor
  · intro hm
    obtain ⟨y, hy, he⟩ := List.mem_map.1 hm
    have := h.inj y x (.inl (hs y hy)) hx he
    rwa [← this]
  · exact fun hm => List.mem_map_of_mem hm
theorem Renum.meet (h : Renum l r ro l' r' ro' φ D) {x : Int} {s : List Int} (hx : D x ∨ x = -1) (hs : ∀ y ∈ s, D y) : Ab.meet (φ x) (s.map φ) = (Ab.meet x s).map φ ∧ ∀ y ∈ Ab.meet x s, D y := by
  have hm := h.mem hx hs
  unfold Ab.meet
  by_cases q : x ≠ -1 ∧ x ∉ s
  · rw [if_pos q, if_pos ⟨h.ne hx q.1, fun e => q.2 (hm.1 e)⟩]
    refine ⟨by simp, fun y hy => ?_⟩
    rcases List.mem_append.1 hy with hy | hy
    · exact hs y hy
    · simp at hy; subst hy; exact hx.resolve_right q.1
  · rw [if_neg q, if_neg]
    · exact ⟨rfl, hs⟩
    · rintro ⟨q1, q2⟩
      refine q ⟨fun e => q1 (by rw [e, h.none]), fun e => q2 (hm.2 e)⟩
theorem Renum.metL (h : Renum l r ro l' r' ro' φ D) : ∀ {ps s : List Int}, (∀ x ∈ ps, D x ∨ x = -1) → (∀ y ∈ s, D y) → Ab.metL (ps.map φ) (s.map φ) = (Ab.metL ps s).map φ ∧ ∀ y ∈ Ab.metL ps s, D y
  | [], s, _, hs => ⟨rfl, hs⟩
  | p :: ps, s, hp, hs => by
    obtain ⟨e, hd⟩ := h.meet (hp p (by simp)) hs
    have := Renum.metL h (ps := ps) (s := Ab.meet p s) (fun x hx => hp x (by simp [hx])) hd
    rw [← e] at this
    exact this
theorem map_getD (φ : Int → Int) {s : List Int} {i : Nat} (hi : i < s.length) : (s.map φ).getD i 0 = φ (s.getD i 0) := by
  rw [getD_lt (by simpa using hi), getD_lt hi, List.getElem_map]
theorem Renum.bfs (h : Renum l r ro l' r' ro' φ D) : ∀ (f i : Nat) (s : List Int), (∀ y ∈ s, D y) → Ab.bfs l' r' f i (s.map φ) = (Ab.bfs l r f i s).map φ
  | 0, i, s, _ => rfl
  | f + 1, i, s, hs => by
    simp only [Ab.bfs, List.length_map]
    split
    · rename_i hi
      have hd := hs _ (getD_mem 0 hi)
      have e : stepO l' r' (s.map φ) i = (stepO l r s i).map φ ∧ ∀ y ∈ stepO l r s i, D y := by
        unfold stepO
        rw [map_getD φ hi, h.hl _ hd, h.hr _ hd]
        obtain ⟨e1, d1⟩ := h.meet (h.dl _ hd) hs
        rw [e1]
        exact h.meet (h.dr _ hd) d1
      rw [e.1]
      exact Renum.bfs h f (i + 1) _ e.2
    · rfl
theorem Renum.ordF (h : Renum l r ro l' r' ro' φ D) (hv : HVp l r ro) (hv' : HVp l' r' ro') : Ab.ordF l' r' ro' = (Ab.ordF l r ro).map φ := by
  obtain ⟨e, hd⟩ := h.metL (ps := ro) (s := []) h.dro (by simp)
  have hb := h.bfs (l.length + 1 + (l'.length + 1)) 0 (Ab.metL ro []) hd
  rw [← e] at hb
  have c1 := metL_cells (cells_nil l.length) hv.oko
  have c2 := metL_cells (cells_nil l'.length) hv'.oko
  rw [bfs_more hv (l.length + 1) 0 _ (l'.length + 1) c1 (by omega) (by omega), h.hro.symm, show l.length + 1 + (l'.length + 1) = (l'.length + 1) + (l.length + 1) by omega] at hb
  rw [List.map_nil, bfs_more hv' (l'.length + 1) 0 _ (l.length + 1) c2 (by omega) (by omega)] at hb
  exact hb
end renum
theorem atL_map {φ : Int → Int} {x : Int} : ∀ {s : List Int}, (∀ y ∈ s, φ y = φ x → y = x) → atL (s.map φ) (φ x) = atL s x := by
  intro s hs
  by_cases hx : x ∈ s
  · obtain ⟨i, hi, hj⟩ : ∃ i, i < s.length ∧ s.getD i 0 = x ∧ ∀ j, j < i → s.getD j 0 ≠ x := by
      refine ⟨s.idxOf x, List.idxOf_lt_length_of_mem hx, ?_, fun j hj => ?_⟩
      · rw [getD_lt (List.idxOf_lt_length_of_mem hx)]; exact List.getElem_idxOf _
      · have hjl : j < s.length := Nat.lt_trans hj (List.idxOf_lt_length_of_mem hx)
        rw [getD_lt hjl]
        intro e
        have := List.not_of_lt_findIdx (p := (· == x)) (xs := s) (i := j) hj
        simp [e] at this
    rw [atL_some hi hj.1 hj.2, atL_some (l := s.map φ) (i := i) (by simpa using hi) (by rw [map_getD φ hi, hj.1]) (fun j hji => by
      have hjl : j < s.length := by omega
      rw [map_getD φ hjl]
      intro e
      exact hj.2 j hji (hs _ (getD_mem 0 hjl) e))]
  · rw [atL_none (l := s.map φ) (fun j hj => by
      simp only [List.length_map] at hj
      rw [map_getD φ hj]
      intro e
      exact hx (hs _ (getD_mem 0 hj) e ▸ getD_mem 0 hj))]
    unfold atL; rw [if_neg hx]
theorem atL_nth {n : Nat} {s : List Int} (h : CellsP n s) {i : Nat} (hi : i < s.length) : atL s (s.getD i 0) = i := by
  refine atL_some hi rfl fun j hj e => ?_
  rw [getD_lt hi, getD_lt (by omega)] at e
  have := (List.getElem_inj (h₀ := show j < s.length by omega) (h₁ := hi) h.nd).1 e
  omega
theorem ordF_cl {l r ro : List Int} (hv : HVp l r ro) {y : Int} (h : y ∈ ordF l r ro) : (l.getD y.toNat 0 ∈ ordF l r ro ∨ l.getD y.toNat 0 = -1) ∧ (r.getD y.toNat 0 ∈ ordF l r ro ∨ r.getD y.toNat 0 = -1) := by
  have := (mem_ordF hv).1 h
  refine ⟨?_, ?_⟩
  · by_cases q : l.getD y.toNat 0 = -1
    · exact .inr q
    · exact .inl ((mem_ordF hv).2 (.left this q))
  · by_cases q : r.getD y.toNat 0 = -1
    · exact .inr q
    · exact .inl ((mem_ordF hv).2 (.right this q))
theorem ordF_ro {l r ro : List Int} (hv : HVp l r ro) {x : Int} (h : x ∈ ro) : x ∈ ordF l r ro ∨ x = -1 := by
  by_cases q : x = -1
  · exact .inr q
  · exact .inl ((mem_ordF hv).2 (.base h q))
def canL (l o : List Int) : List Int := o.map fun c => atL o (l.getD c.toNat 0)
def cpL (l o : List Int) (n : Nat) : List Int := (List.range n).map fun i => if i < o.length then atL o (l.getD (o.getD i 0).toNat 0) else -1
def cpW (o : List Int) (n : Nat) : List Int := (List.range n).map fun (c : Nat) => atL o (c : Int)
theorem cpL_len (l o : List Int) (n : Nat) : (cpL l o n).length = n := by simp [cpL]
theorem cpL_getD {l o : List Int} {n i : Nat} (hi : i < n) : (cpL l o n).getD i 0 = if i < o.length then atL o (l.getD (o.getD i 0).toNat 0) else -1 := by
  rw [getD_lt (by rw [cpL_len]; exact hi)]; simp [cpL]
theorem canL_len (l o : List Int) : (canL l o).length = o.length := by simp [canL]
theorem canL_getD {l o : List Int} {i : Nat} (hi : i < o.length) : (canL l o).getD i 0 = atL o (l.getD (o.getD i 0).toNat 0) := by
  rw [getD_lt (by rw [canL_len]; exact hi), getD_lt hi]; simp [canL]
theorem cpL_take {l o : List Int} {n : Nat} (h : o.length ≤ n) : (cpL l o n).take o.length = canL l o := by
  refine eqL_iff 0 _ _ (by rw [List.length_take, cpL_len, canL_len]; omega) fun j hj => ?_
  rw [List.length_take, cpL_len] at hj
  have hj' : j < o.length := by omega
  rw [canL_getD hj', List.getD_eq_getElem?_getD, List.getElem?_take, if_pos hj', ← List.getD_eq_getElem?_getD, cpL_getD (by omega), if_pos hj']
structure AlikeP (l r ro l' r' ro' : List Int) : Prop where
  a : HVp l r ro
  b : HVp l' r' ro'
  cl : canL l (ordF l r ro) = canL l' (ordF l' r' ro')
  cr : canL r (ordF l r ro) = canL r' (ordF l' r' ro')
  co : ro.map (atL (ordF l r ro)) = ro'.map (atL (ordF l' r' ro'))
instance (l r ro l' r' ro' : List Int) : Decidable (AlikeP l r ro l' r' ro') :=
  decidable_of_iff (HVp l r ro ∧ HVp l' r' ro' ∧ canL l (ordF l r ro) = canL l' (ordF l' r' ro') ∧ canL r (ordF l r ro) = canL r' (ordF l' r' ro') ∧ ro.map (atL (ordF l r ro)) = ro'.map (atL (ordF l' r' ro')))
    ⟨fun ⟨a, b, c, d, e⟩ => ⟨a, b, c, d, e⟩, fun ⟨a, b, c, d, e⟩ => ⟨a, b, c, d, e⟩⟩
theorem AlikeP.len {l r ro l' r' ro' : List Int} (h : AlikeP l r ro l' r' ro') : (ordF l r ro).length = (ordF l' r' ro').length := by
  have := congrArg List.length h.cl
  rwa [canL_len, canL_len] at this
theorem AlikeP.symm {l r ro l' r' ro' : List Int} (h : AlikeP l r ro l' r' ro') : AlikeP l' r' ro' l r ro := ⟨h.b, h.a, h.cl.symm, h.cr.symm, h.co.symm⟩
theorem Renum.alike {l r ro l' r' ro' : List Int} {φ : Int → Int} {D : Int → Prop} (h : Renum l r ro l' r' ro' φ D) (hv : HVp l r ro) (hv' : HVp l' r' ro') (hD : ∀ x ∈ Ab.ordF l r ro, D x) : AlikeP l r ro l' r' ro' := by
  have ho := h.ordF hv hv'
  have hm : ∀ x, (D x ∨ x = -1) → atL ((Ab.ordF l r ro).map φ) (φ x) = atL (Ab.ordF l r ro) x := fun x hx => atL_map fun y hy e => h.inj y x (.inl (hD y hy)) hx e
  refine ⟨hv, hv', ?_, ?_, ?_⟩
  · rw [ho]
    unfold canL
    rw [List.map_map]
    refine List.map_congr_left fun c hc => ?_
    show _ = atL _ (l'.getD (φ c).toNat 0)
    rw [h.hl c (hD c hc), hm _ (h.dl c (hD c hc))]
  · rw [ho]
    unfold canL
    rw [List.map_map]
    refine List.map_congr_left fun c hc => ?_
    show _ = atL _ (r'.getD (φ c).toNat 0)
    rw [h.hr c (hD c hc), hm _ (h.dr c (hD c hc))]
  · rw [ho, h.hro, List.map_map]
    refine List.map_congr_left fun x hx => ?_
    show _ = atL _ (φ x)
    rw [hm _ (h.dro x hx)]
structure MoveP (l r ro to : List Int) : Prop where
  h : HVp l r ro
  c : CellsP l.length to
  n : to.length = l.length
instance (l r ro to : List Int) : Decidable (MoveP l r ro to) := decidable_of_iff (HVp l r ro ∧ CellsP l.length to ∧ to.length = l.length) ⟨fun ⟨a, b, c⟩ => ⟨a, b, c⟩, fun ⟨a, b, c⟩ => ⟨a, b, c⟩⟩
def goes (to : List Int) (p : Int) : Int := if p = -1 then -1 else to.getD p.toNat 0
def mvL (to l : List Int) : List Int := (List.range to.length).map fun (c : Nat) => goes to (l.getD (to.idxOf (c : Int)) 0)
theorem mvL_len (to l : List Int) : (mvL to l).length = to.length := by simp [mvL]
theorem mvL_getD {to l : List Int} {c : Nat} (hc : c < to.length) : (mvL to l).getD c 0 = goes to (l.getD (to.idxOf (c : Int)) 0) := by
  rw [getD_lt (by rw [mvL_len]; exact hc)]; simp [mvL]
theorem idxOf_nth {n : Nat} {s : List Int} (h : CellsP n s) {i : Nat} (hi : i < s.length) : s.idxOf (s.getD i 0) = i := by
  have := atL_nth h hi
  unfold atL at this
  rw [if_pos (getD_mem 0 hi)] at this
  omega
theorem full {n : Nat} {s : List Int} (h : CellsP n s) (hn : s.length = n) {c : Nat} (hc : c < n) : (c : Int) ∈ s := by
  refine Classical.byContradiction fun hm => ?_
  have h2 : CellsP n (meet (c : Int) s) := h.meet ⟨by omega, by omega⟩
  have := h2.len
  unfold meet at this
  rw [if_pos ⟨by omega, hm⟩, List.length_append] at this
  simp at this
  omega
theorem goes_ok {n : Nat} {to : List Int} (h : CellsP n to) {p : Int} (hp : p = -1 ∨ (0 ≤ p ∧ p < to.length)) : okP n (goes to p) := by
  unfold goes
  split
  · exact ⟨by omega, by omega⟩
  · rename_i hh
    have := hp.resolve_left hh
    have := h.get (i := p.toNat) (by omega)
    exact ⟨by omega, by omega⟩
section moves
variable {l r ro to : List Int}
theorem MoveP.pt (h : MoveP l r ro to) {x : Int} (hx : okP l.length x) : x = -1 ∨ (0 ≤ x ∧ x < to.length) := by
  by_cases q : x = -1
  · exact .inl q
  · have := hx.cell q; have := h.n; exact .inr ⟨by omega, by omega⟩
theorem MoveP.idx (h : MoveP l r ro to) {c : Nat} (hc : c < to.length) : to.idxOf (c : Int) < to.length ∧ to.getD (to.idxOf (c : Int)) 0 = c := by
  have hm := full h.c h.n (c := c) (by rw [← h.n]; exact hc)
  have hl := List.idxOf_lt_length_of_mem hm
  exact ⟨hl, by rw [getD_lt hl]; exact List.getElem_idxOf _⟩
theorem MoveP.okv (h : MoveP l r ro to) {q : List Int} (hq : q.length = l.length) (hok : ∀ x ∈ q, okP l.length x) : ∀ x ∈ mvL to q, okP to.length x := by
  intro x hx
  obtain ⟨c, hc, rfl⟩ := List.mem_map.1 hx
  have hc : c < to.length := by simpa using hc
  have hi := h.idx hc
  have := h.n
  exact (by rw [h.n]; exact goes_ok h.c (h.pt (hok _ (getD_mem 0 (by omega)))))
theorem MoveP.valid (h : MoveP l r ro to) : HVp (mvL to l) (mvL to r) (ro.map (goes to)) := by
  have hn := h.n
  have hlr := h.h.lr
  refine ⟨by rw [mvL_len, mvL_len], by rw [mvL_len]; have := h.h.l1; omega, by rw [mvL_len]; have := h.h.l8; omega, by simpa using h.h.r1, by simpa using h.h.r3, ?_, ?_, ?_⟩
  · rw [mvL_len]; exact h.okv rfl h.h.okl
  · rw [mvL_len]; exact h.okv hlr.symm h.h.okr
  · rw [mvL_len]
    intro x hx
    obtain ⟨y, hy, rfl⟩ := List.mem_map.1 hx
    rw [hn]
    exact goes_ok h.c (h.pt (h.h.oko y hy))
theorem MoveP.get (h : MoveP l r ro to) {q : List Int} {y : Int} (h0 : 0 ≤ y) (h1 : y < l.length) : (mvL to q).getD (goes to y).toNat 0 = goes to (q.getD y.toNat 0) := by
  have hn := h.n
  have hg := h.c.get (i := y.toNat) (by omega)
  have e : goes to y = to.getD y.toNat 0 := by unfold goes; rw [if_neg (by omega)]
  rw [e, mvL_getD (by omega), Int.toNat_of_nonneg hg.1, idxOf_nth h.c (by omega)]
theorem MoveP.renum (h : MoveP l r ro to) : Renum l r ro (mvL to l) (mvL to r) (ro.map (goes to)) (goes to) (fun x => 0 ≤ x ∧ x < l.length) := by
  have hn := h.n
  have hlr := h.h.lr
  have hcell : ∀ x, okP l.length x → (0 ≤ x ∧ x < l.length) ∨ x = -1 := fun x hx => by
    by_cases q : x = -1
    · exact .inr q
    · exact .inl (hx.cell q)
  have hg0 : ∀ x : Int, 0 ≤ x → x < l.length → 0 ≤ goes to x ∧ goes to x = to.getD x.toNat 0 := fun x h0 h1 => by
    have hg := h.c.get (i := x.toNat) (by omega)
    have e : goes to x = to.getD x.toNat 0 := by unfold goes; rw [if_neg (by omega)]
    rw [e]; exact ⟨hg.1, rfl⟩
  refine ⟨by simp [goes], rfl, fun x y hx hy e => ?_, fun y hy => h.get hy.1 hy.2, fun y hy => h.get hy.1 hy.2, fun x hx => hcell x (h.h.oko x hx), fun y hy => hcell _ (h.h.atl hy.1 hy.2), fun y hy => hcell _ (h.h.atr hy.1 hy.2)⟩
  rcases hx with hx | rfl
  · have ex := hg0 x hx.1 hx.2
    rcases hy with hy | rfl
    · have ey := hg0 y hy.1 hy.2
      rw [ex.2, ey.2] at e
      have a := idxOf_nth h.c (i := x.toNat) (by omega)
      have b := idxOf_nth h.c (i := y.toNat) (by omega)
      rw [e, b] at a
      omega
    · rw [e] at ex; simp [goes] at ex
  · rcases hy with hy | rfl
    · have ey := hg0 y hy.1 hy.2
      rw [← e] at ey; simp [goes] at ey
    · rfl
theorem MoveP.alike (h : MoveP l r ro to) : AlikeP l r ro (mvL to l) (mvL to r) (ro.map (goes to)) := h.renum.alike h.h h.valid fun x hx => (ordF_cells h.h).ok x hx
end moves
theorem countP_cast {o : List Int} {n : Nat} (h : CellsP n o) (p : Nat → Bool) : o.countP (fun c => p c.toNat) = (List.range n).countP fun (i : Nat) => decide ((i : Int) ∈ o) && p i := by
  have h1 : o.countP (fun c => p c.toNat) = (o.map Int.toNat).countP p := by rw [List.countP_map]; rfl
  have h2 : (o.map Int.toNat).Perm ((List.range n).filter fun i => decide ((i : Int) ∈ o)) := by
    refine (List.perm_ext_iff_of_nodup ?_ (List.Nodup.sublist List.filter_sublist List.nodup_range)).2 fun a => ?_
    · rw [List.nodup_iff_pairwise_ne, List.pairwise_map]
      refine (List.nodup_iff_pairwise_ne.1 h.nd).imp_of_mem ?_
      intro a b ha hb hab
      have := h.ok a ha; have := h.ok b hb
      omega
    · simp only [List.mem_map, List.mem_filter, List.mem_range, decide_eq_true_eq]
      constructor
      · rintro ⟨x, hx, rfl⟩
        have := h.ok x hx
        exact ⟨by omega, by rw [Int.toNat_of_nonneg this.1]; exact hx⟩
      · rintro ⟨_, hx⟩
        exact ⟨_, hx, by simp⟩
  rw [h1, h2.countP_eq, List.countP_filter]
  refine List.countP_congr fun a _ => ?_
  rw [Bool.and_comm]
theorem len_live {o : List Int} {n : Nat} (h : CellsP n o) : o.length = (List.range n).countP fun (i : Nat) => decide ((i : Int) ∈ o) := by
  have := countP_cast h (fun _ => true)
  simpa using this
theorem L_distances_1 {p far : Int} {out op : List Int} {K : List Int → List Int → Prop} (hp : okP out.length p) (ho : op.length < 2 ^ 30) (hK : K (dm p far (out, op)).1 (dm p far (out, op)).2) : Mi_distances_1 p far out op K := by
  refine br (fun h => ?_) fun h => ?_
  · have h : p ≠ -1 := by simpa using h
    have hc := hp.cell h
    refine ⟨hc, br (fun h1 => ⟨hc, by simp; omega, ?_⟩) fun h1 => ?_⟩
    · have h1 : out.getD p.toNat 0 = 0 := by simpa only [beq_iff_eq, gI_at] using h1
      rw [show dm p far (out, op) = (out.set p.toNat far, op ++ [p]) from if_pos ⟨h, h1⟩] at hK
      exact hK
    · have h1 : out.getD p.toNat 0 ≠ 0 := by simpa only [beq_eq_false_iff_ne, gI_at] using h1
      rw [show dm p far (out, op) = (out, op) from if_neg fun hh => h1 hh.2] at hK
      exact hK
  · have h : p = -1 := by simpa using h
    rw [show dm p far (out, op) = (out, op) from if_neg fun hh => hh.1 h] at hK
    exact hK
theorem drs_succ {ps : List Int} {st : List Int × List Int} {i : Nat} (h : i < ps.length) : drs (ps.take (i + 1)) st = dm (ps.getD i 0) 1 (drs (ps.take i) st) := by
  unfold drs
  rw [List.take_add_one, List.getElem?_eq_getElem h, getD_lt h, List.foldl_append]
  rfl
theorem drs_take {n : Nat} {ps : List Int} (hp : ∀ x ∈ ps, okP n x) (i : Nat) : DInv n (drs (ps.take i) (List.replicate n 0, [])) ∧ (drs (ps.take i) (List.replicate n 0, [])).2 = metL (ps.take i) [] :=
  have h := drs_inv (ps := ps.take i) (dinv0 n) (fun x hx => hp x (List.mem_of_mem_take hx)) ⟨fun j k _ hk => by simp at hk, fun k hk => by simp at hk⟩
  ⟨h.1, h.2.1⟩
theorem drs_start {n : Nat} {ps : List Int} (hp : ∀ x ∈ ps, okP n x) : DInv n (drs ps (List.replicate n 0, [])) ∧ (drs ps (List.replicate n 0, [])).2 = metL ps [] ∧ (0 < (drs ps (List.replicate n 0, [])).2.length → DMon (drs ps (List.replicate n 0, [])).1 (drs ps (List.replicate n 0, [])).2 ((drs ps (List.replicate n 0, [])).1.getD ((drs ps (List.replicate n 0, [])).2.getD 0 0).toNat 0 + 1)) := by
  obtain ⟨h1, e1, m1⟩ := drs_inv (dinv0 n) hp ⟨fun j k _ hk => by simp at hk, fun k hk => by simp at hk⟩
  refine ⟨h1, e1, fun hi => ⟨m1.mono, fun k hk => ?_⟩⟩
  have hg := h1.c.get hi
  have hmm : (((drs ps (List.replicate n 0, [])).2.getD 0 0).toNat : Int) ∈ (drs ps (List.replicate n 0, [])).2 := by rw [Int.toNat_of_nonneg hg.1]; exact getD_mem 0 hi
  have h2 := (h1.m _ (by omega)).2 hmm
  have h3 := h1.pos ((drs ps (List.replicate n 0, [])).2.getD 0 0).toNat (by omega)
  have := m1.top k hk
  omega
theorem DInv.next {l r ro : List Int} (hv : HVp l r ro) {st : List Int × List Int} (h : DInv l.length st) {i : Nat} (hi : i < st.2.length) (hm : DMon st.1 st.2 (st.1.getD (st.2.getD i 0).toNat 0 + 1)) :
    i + 1 < (dst l r st i).2.length → DMon (dst l r st i).1 (dst l r st i).2 ((dst l r st i).1.getD ((dst l r st i).2.getD (i + 1) 0).toNat 0 + 1) := by
  obtain ⟨h1, e1, k1, m1, _⟩ := h.step hv hi hm
  intro hi1
  refine ⟨m1.mono, fun k hk => ?_⟩
  have a1 := m1.top k hk
  have a2 := m1.mono i (i + 1) (by omega) hi1
  have a3 : (dst l r st i).2.getD i 0 = st.2.getD i 0 := by rw [e1]; exact pre_getD (stepO_pre' l r st.2 i) hi
  rw [a3, k1] at a2
  omega
theorem L_distances {l r ro : List Int} {K : List Int → Prop} (hv : HVp l r ro) (hK : K (distF l r ro)) : Mi_distances l r ro K := by
  have h8 := hv.l8; have h3 := hv.r3; have hlr := hv.lr
  refine ⟨⟨by simp [len_eq], rfl, by simp only [len_eq]; omega⟩, ?_⟩
  refine LoopP_for (fun i s => s = (ro, len ro, (i : Int), l, r, ro, (drs (ro.take i) (List.replicate l.length 0, [])).1, (drs (ro.take i) (List.replicate l.length 0, [])).2)) ro.length (by simp [len_eq, drs]) ?_ ?_
  · rintro i _ hi rfl Kb hKb
    obtain ⟨hd, he⟩ := drs_take hv.oko i
    have hml := metL_len (ro.take i) []
    refine br_t (by simp [len_eq]; exact hi) ⟨by rw [inB_nat]; exact hi, L_distances_1 (by dsimp only; rw [hd.len, gI_nat]; exact hv.go hi) (by dsimp only; rw [he]; simp only [List.length_take, List.length_nil] at hml; omega) (hKb _ ?_)⟩
    rw [iadd_nat (by omega), drs_succ hi, gI_nat]
  rintro _ rfl Kb
  refine br_f (by simp [len_eq]) ?_
  simp only [List.take_length]
  obtain ⟨hd, he, hm⟩ := drs_start hv.oko
  refine LoopP_inv (fun s => ∃ (i : Nat) (st : List Int × List Int), s = ((i : Int), l, r, ro, st.1, st.2) ∧ DInv l.length st ∧ (i < st.2.length → DMon st.1 st.2 (st.1.getD (st.2.getD i 0).toNat 0 + 1)) ∧ i ≤ l.length ∧ (dbfs l r (l.length + 1 - i) i st).1 = distF l r ro) (fun s => l.length + 1 - s.1.toNat) ?_ ⟨0, _, rfl, hd, hm, by omega, rfl⟩
  rintro _ ⟨i, st, rfl, hd, hm, hi, hF⟩ Kb hKb
  have hl := hd.c.len
  have hol := hd.len
  refine br (fun h => ?_) fun h => ?_
  · have h : i < st.2.length := by have := of_decide_eq_true h; simp only [len_eq] at this; omega
    have hg := hd.c.get h
    obtain ⟨h1, e1, k1, m1, k2⟩ := hd.step hv h (hm h)
    have hup := hd.up (st.2.getD i 0).toNat (by omega)
    have hpos := hd.pos (st.2.getD i 0).toNat (by omega)
    have e2 : iadd (st.1.getD (st.2.getD i 0).toNat 0) 1 = st.1.getD (st.2.getD i 0).toNat 0 + 1 := iadd_eq (by omega) (by omega)
    have ol := hv.atl hg.1 hg.2
    have or_ := hv.atr hg.1 hg.2
    obtain ⟨hd1, he1⟩ := hd.meet (p := l.getD (st.2.getD i 0).toNat 0) (far := st.1.getD (st.2.getD i 0).toNat 0 + 1) ol (by omega) (by omega)
    have hml := meet_len (l.getD (st.2.getD i 0).toNat 0) st.2
    have hpre := meet_pre (l.getD (st.2.getD i 0).toNat 0) st.2
    have hlen2 : i < (dm (l.getD (st.2.getD i 0).toNat 0) (st.1.getD (st.2.getD i 0).toNat 0 + 1) st).2.length := by
      rw [he1]; obtain ⟨t, ht⟩ := hpre; rw [ht, List.length_append]; omega
    have hget2 : (dm (l.getD (st.2.getD i 0).toNat 0) (st.1.getD (st.2.getD i 0).toNat 0 + 1) st).2.getD i 0 = st.2.getD i 0 := by rw [he1]; exact pre_getD hpre h
    refine ⟨by rw [inB_nat]; exact h, ⟨by simp only [gI_nat]; omega, by simp only [gI_nat]; omega⟩, by rw [inB_nat]; exact h, ⟨by simp only [gI_nat]; omega, by simp only [gI_nat]; omega⟩, ?_⟩
    refine L_distances_1 (by simp only [gI_at, Int.toNat_natCast]; rw [hol]; exact ol) (by dsimp only; omega) ?_
    simp only [gI_at, Int.toNat_natCast, e2]
    show inB (i : Int) (dm (l.getD (st.2.getD i 0).toNat 0) (st.1.getD (st.2.getD i 0).toNat 0 + 1) st).2.length ∧ _
    refine ⟨by rw [inB_nat]; exact hlen2, ?_⟩
    simp only [hget2]
    refine ⟨⟨hg.1, by omega⟩, by rw [inB_nat]; exact hlen2, ⟨hg.1, by rw [hd1.len]; omega⟩, ?_⟩
    rw [k2, e2]
    refine L_distances_1 (by rw [hd1.len]; exact or_) (by rw [he1]; omega) (hKb _ ⟨i + 1, dst l r st i, ?_, h1, hd.next hv h (hm h), by omega, ?_⟩ ?_)
    · rw [iadd_nat (by omega)]; rfl
    · have e : l.length + 1 - i = (l.length + 1 - (i + 1)) + 1 := by omega
      rw [e] at hF
      simpa only [dbfs, if_pos h] using hF
    · simp only [iadd_nat (show i < 2 ^ 62 by omega), Int.toNat_natCast]; omega
  · have h : ¬ i < st.2.length := by have := of_decide_eq_false h; simp only [len_eq] at this; omega
    have : st.1 = distF l r ro := by
      rw [← hF]
      cases l.length + 1 - i with
      | zero => rfl
      | succ f => simp only [dbfs, if_neg h]
    show K st.1
    rw [this]; exact hK
/-- Which cells are live? -/
def rchF (l r ro : List Int) : List Bool := (List.range l.length).map fun (i : Nat) => decide ((i : Int) ∈ ordF l r ro)
theorem rchF_len (l r ro : List Int) : (rchF l r ro).length = l.length := by simp [rchF]
theorem rchF_getD {l r ro : List Int} {i : Nat} (hi : i < l.length) : (rchF l r ro).getD i false = decide ((i : Int) ∈ ordF l r ro) := by
  rw [getD_lt (by rw [rchF_len]; exact hi)]; simp [rchF]
theorem distF_len {l r ro : List Int} (hv : HVp l r ro) : (distF l r ro).length = l.length := by
  obtain ⟨st, e1, _, h, _⟩ := distF_inv hv
  rw [← e1]; exact h.len
theorem map_range_succ {α : Type} (f : Nat → α) (i : Nat) : (List.range (i + 1)).map f = (List.range i).map f ++ [f i] := by rw [List.range_succ, List.map_append]; rfl
theorem L_Reachable {l r ro : List Int} {K : List Bool → Prop} (hy : HVp l r ro → K (rchF l r ro)) (hn : ¬ HVp l r ro → K []) : Mi_Reachable l r ro K := by
  refine L_iHeapValid (br (fun h => hn (by simpa using h)) fun h => ?_)
  have hv : HVp l r ro := by simpa using h
  have h8 := hv.l8
  refine L_distances hv ?_
  have hdl := distF_len hv
  refine LoopP_for (fun i s => s = (len (distF l r ro), (i : Int), (List.range i).map fun (j : Nat) => decide ((distF l r ro).getD j 0 > 0), distF l r ro)) (distF l r ro).length rfl ?_ ?_
  · rintro i _ hi rfl Kb hKb
    refine br_t (by simp [len_eq]; exact hi) ⟨by rw [inB_nat]; exact hi, by simp; omega, hKb _ ?_⟩
    rw [iadd_nat (by omega), map_range_succ, gI_nat]
  · rintro _ rfl Kb
    refine br_f (by simp [len_eq]) ?_
    have e : (List.range (distF l r ro).length).map (fun (j : Nat) => decide ((distF l r ro).getD j 0 > 0)) = rchF l r ro := by
      unfold rchF
      rw [hdl]
      refine List.map_congr_left fun j hj => ?_
      rw [decide_eq_decide]
      exact distF_pos hv (by simpa using hj)
    show K _
    rw [e]; exact hy hv
theorem count_range {q : List Bool} : ∀ i, ((List.range (i + 1)).countP fun j => q.getD j false) = ((List.range i).countP fun j => q.getD j false) + (if q.getD i false = true then 1 else 0) := by
  intro i
  rw [List.range_succ, List.countP_append]
  cases h : q.getD i false <;> simp [-List.getD_eq_getElem?_getD, h]
theorem L_CountLive {l r ro : List Int} {K : Int → Prop} (hy : HVp l r ro → K ((ordF l r ro).length : Int)) (hn : ¬ HVp l r ro → K 0) : Mi_CountLive l r ro K := by
  have main : ∀ q : List Bool, q.length ≤ 8 → K (((List.range q.length).countP fun j => q.getD j false : Nat) : Int) → LoopP (S := Int × Int × Int × List Bool) (fun s2 Kb2 Kx2 => (((decide (s2.2.2.1 < s2.2.1)) = true →
 ((inB s2.2.2.1 (List.length s2.2.2.2)) ∧
 (((gB s2.2.2.2 s2.2.2.1) = true →
 (Kb2 ((iadd s2.1 1), s2.2.1, (iadd s2.2.2.1 1), s2.2.2.2))) ∧
 ((gB s2.2.2.2 s2.2.2.1) = false →
 (Kb2 (s2.1, s2.2.1, (iadd s2.2.2.1 1), s2.2.2.2)))))) ∧
 ((decide (s2.2.2.1 < s2.2.1)) = false →
 (Kx2 (s2.1, s2.2.1, s2.2.2.1, s2.2.2.2))))) (0, (len q), 0, q) fun s2 => (K s2.1) := by
    intro q hq hK
    refine LoopP_for (fun i s => s = ((((List.range i).countP fun j => q.getD j false : Nat) : Int), len q, (i : Int), q)) q.length rfl ?_ ?_
    · rintro i _ hi rfl Kb hKb
      have hs := count_range (q := q) i
      have hl : ((List.range i).countP fun j => q.getD j false) ≤ i := by have := List.countP_le_length (p := fun j => q.getD j false) (l := List.range i); simpa [-List.getD_eq_getElem?_getD] using this
      refine br_t (by simp [len_eq]; exact hi) ⟨by rw [inB_nat]; exact hi, br (fun h => hKb _ ?_) fun h => hKb _ ?_⟩
      · simp only [gB_nat] at h; rw [iadd_nat (by omega), hs, if_pos h, iadd_nat (by omega)]
      · simp only [gB_nat] at h; rw [iadd_nat (by omega), hs, if_neg (by rw [h]; simp)]; rfl
    · rintro _ rfl Kb
      exact br_f (by simp [len_eq]) hK
  refine L_Reachable (fun hv => main _ (by rw [rchF_len]; exact hv.l8) ?_) fun hv => main _ (by simp) (by exact hn hv)
  have := hy hv
  rw [len_live (ordF_cells hv)] at this
  have e : (List.range (rchF l r ro).length).countP (fun j => (rchF l r ro).getD j false) = (List.range l.length).countP fun (i : Nat) => decide ((i : Int) ∈ ordF l r ro) := by
    rw [rchF_len]
    refine List.countP_congr fun i hi => ?_
    rw [rchF_getD (by simpa using hi)]
  rw [e]; exact this
def e2 (x : Int) : Int := if x = 0 then -1 else x
theorem setC_get' {α : Type} : ∀ (vs l : List α) (o i : Nat), o + vs.length ≤ l.length → (setC l o vs)[i]? = if o ≤ i ∧ i < o + vs.length then vs[i - o]? else l[i]? := by
  intro vs
  induction vs with
  | nil => intro l o i _; rw [if_neg (by simp)]; rfl
  | cons v vs ih =>
    intro l o i h
    simp only [List.length_cons] at h
    rw [setC, ih _ _ _ (by simp; omega)]
    by_cases h1 : o + 1 ≤ i ∧ i < o + 1 + vs.length
    · rw [if_pos h1, if_pos (by simp; omega)]
      rw [show i - o = (i - (o + 1)) + 1 by omega]; simp
    · rw [if_neg h1]
      by_cases h2 : i = o
      · subst h2
        rw [if_pos (by simp), List.getElem?_set_self (by omega)]; simp
      · rw [if_neg (by simp; omega), List.getElem?_set_ne (fun e => h2 e.symm)]
theorem setC_rep {v z : Int} {m k n : Nat} (h : m + k ≤ n) : setC (List.replicate m v ++ List.replicate (n - m) z) m (List.replicate k v) = List.replicate (m + k) v ++ List.replicate (n - (m + k)) z := by
  apply List.ext_getElem?
  intro i
  rw [setC_get' _ _ _ _ (by simp; omega)]
  simp only [List.length_replicate, List.getElem?_append, List.getElem?_replicate]
  repeat' split
  all_goals first
    | rfl
    | omega
theorem L_Mul1 {n : Nat} {K : Int → Int → Prop} (h8 : n ≤ 8) (hK : K 0 n) : M_math_bits_Mul (IntKind.wrap .u64 (len [(-1 : Int)])) (IntKind.wrap .u64 (n : Int)) K := by
  unfold M_math_bits_Mul M_math_bits_Mul64
  have e : n = 0 ∨ n = 1 ∨ n = 2 ∨ n = 3 ∨ n = 4 ∨ n = 5 ∨ n = 6 ∨ n = 7 ∨ n = 8 := by omega
  refine ⟨by decide, by decide, by decide, by decide, by decide, ?_⟩
  rcases e with rfl | rfl | rfl | rfl | rfl | rfl | rfl | rfl | rfl <;> exact hK
theorem L_Repeat {n : Nat} {K : List Int → Prop} (h1 : 1 ≤ n) (h8 : n ≤ 8) (hK : K (List.replicate n (-1))) : M_Repeat_int [(-1)] (n : Int) K := by
  have w : IntKind.wrap .i64 (n : Int) = n := wrap64 (by omega) (by omega)
  refine br_f (by simp) (L_Mul1 h8 (br_f (by decide) (br_f (by simp; omega) ⟨by rw [w]; omega, ?_⟩)))
  rw [w]
  simp only [Int.toNat_natCast, List.length_replicate, List.length_singleton]
  refine ⟨by omega, ?_⟩
  have e0 : setC (List.replicate n (0 : Int)) (Int.toNat 0) (List.take (Int.toNat ((n : Int) - 0)) [(-1 : Int)]) = List.replicate 1 (-1) ++ List.replicate (n - 1) 0 := by
    rw [show (Int.toNat ((n : Int) - 0)) = (n - 1) + 1 by omega]
    have := setC_rep (v := (-1)) (z := 0) (m := 0) (k := 1) (n := n) (by omega)
    simpa using this
  rw [e0, show Nat.min 1 (Int.toNat ((n : Int) - 0)) = 1 by have : Nat.min 1 (Int.toNat ((n : Int) - 0)) = min 1 (Int.toNat ((n : Int) - 0)) := rfl; rw [this]; omega]
  refine LoopP_inv (fun s => ∃ m : Nat, 1 ≤ m ∧ m ≤ n ∧ s = ((m : Int), List.replicate m (-1) ++ List.replicate (n - m) 0)) (fun s => n - s.1.toNat) ?_ ⟨1, by omega, h1, rfl⟩
  rintro _ ⟨m, hm1, hmn, rfl⟩ Kb hKb
  have hlen : (List.replicate m (-1 : Int) ++ List.replicate (n - m) 0).length = n := by simp; omega
  refine br (fun h => ?_) fun h => ?_
  · have hlt : m < n := by have := of_decide_eq_true h; simp only [len_eq, hlen] at this; omega
    have hsub : sub (List.replicate m (-1 : Int) ++ List.replicate (n - m) 0) 0 (m : Int) = List.replicate m (-1) := by simp [sub]
    simp only [hlen, hsub, List.length_replicate]
    refine ⟨by omega, by omega, by omega, ?_⟩
    have htk : List.take (Int.toNat ((n : Int) - (m : Int))) (List.replicate m (-1 : Int)) = List.replicate (min (n - m) m) (-1) := by
      rw [List.take_replicate]; congr 1; omega
    rw [htk, Int.toNat_natCast, setC_rep (by omega)]
    have hk : Nat.min m (Int.toNat ((n : Int) - (m : Int))) = min (n - m) m := by
      have : Nat.min m (Int.toNat ((n : Int) - (m : Int))) = min m (Int.toNat ((n : Int) - (m : Int))) := rfl
      rw [this]; omega
    rw [hk]
    have hi : iadd (m : Int) ((min (n - m) m : Nat) : Int) = ((m + min (n - m) m : Nat) : Int) := by rw [iadd_eq (by omega) (by omega)]; omega
    exact hKb _ ⟨m + min (n - m) m, by omega, by omega, by rw [hi]⟩ (by simp only [hi, Int.toNat_natCast]; omega)
  · have : m = n := by have := of_decide_eq_false h; simp only [len_eq, hlen] at this; omega
    subst this
    simpa using hK
theorem L_NewHeap {n q : Nat} {K : Bool → List Int → List Int → List Int → Prop} (h1 : 1 ≤ n) (h8 : n ≤ 8) (q1 : 1 ≤ q) (q3 : q ≤ 3) (hK : K true (List.replicate n (-1)) (List.replicate n (-1)) (List.replicate q (-1))) : Mi_NewHeap (n : Int) (q : Int) K :=
  br_f (by simp; omega) (br_f (by simp; omega) (br_f (by simp; omega) (br_f (by simp; omega) (L_Repeat h1 h8 (L_Repeat h1 h8 (L_Repeat q1 (by omega) hK))))))
def stL (f : Nat → Int) (d : List Int) (i : Nat) : List Int := (List.range d.length).map fun j => if j < i then f j else d.getD j 0
theorem stL_len (f : Nat → Int) (d : List Int) (i : Nat) : (stL f d i).length = d.length := by simp [stL]
theorem stL_getD {f : Nat → Int} {d : List Int} {i j : Nat} (hj : j < d.length) : (stL f d i).getD j 0 = if j < i then f j else d.getD j 0 := by
  rw [getD_lt (by rw [stL_len]; exact hj)]; simp [stL]
theorem stL_zero (f : Nat → Int) (d : List Int) : stL f d 0 = d := by
  refine eqL_iff 0 _ _ (stL_len _ _ _) fun j hj => ?_
  rw [stL_len] at hj
  rw [stL_getD hj, if_neg (by omega)]
theorem getI_set {l : List Int} {i j : Nat} {v : Int} (hj : j < l.length) : (l.set i v).getD j 0 = if i = j then v else l.getD j 0 := by
  rw [List.getD_eq_getElem?_getD, List.getD_eq_getElem?_getD, List.getElem?_set]
  split
  · rename_i e; subst e; rw [if_pos hj]; rfl
  · rfl
theorem stL_succ {f : Nat → Int} {d : List Int} {i : Nat} (hi : i < d.length) : (stL f d i).set i (f i) = stL f d (i + 1) := by
  refine eqL_iff 0 _ _ (by simp [stL_len]) fun j hj => ?_
  rw [List.length_set, stL_len] at hj
  rw [getI_set (by rw [stL_len]; exact hj), stL_getD hj, stL_getD hj]
  repeat' split
  all_goals first
    | rfl
    | omega
    | (rename_i e _; subst e; rfl)
theorem stL_all {f : Nat → Int} {d : List Int} {i : Nat} (hi : d.length ≤ i) : stL f d i = (List.range d.length).map f := by
  unfold stL
  refine List.map_congr_left fun j hj => ?_
  rw [if_pos (by have : j < d.length := by simpa using hj
                 omega)]
theorem map_stL {f : Int → Int} {q : List Int} : (List.range q.length).map (fun j => f (q.getD j 0)) = q.map f := by
  refine eqL_iff 0 _ _ (by simp) fun j hj => ?_
  have hj : j < q.length := by simpa using hj
  rw [getD_lt (l := (List.range q.length).map _) (by simpa using hj), getD_lt (l := q.map f) (by simpa using hj)]
  simp [List.getD_eq_getElem?_getD, hj]
theorem L_CopyHeap_1 {p : Int} {o : List Int} {K : Int → Prop} (ho : o.length < 2 ^ 62) (hK : K (atL o p)) : Mi_CopyHeap_1 p o K := L_Index_int ho hK
theorem cpL_st {q o : List Int} {n : Nat} (h : o.length ≤ n) : stL (fun j => atL o (q.getD (o.getD j 0).toNat 0)) (List.replicate n (-1)) o.length = cpL q o n := by
  unfold stL cpL
  rw [List.length_replicate]
  refine List.map_congr_left fun j hj => ?_
  have hj : j < n := by simpa using hj
  split
  · rfl
  · simp [List.getD_eq_getElem?_getD, List.getElem?_replicate, hj]
theorem L_iCopyHeap {l r ro : List Int} {K : Bool → List Int → List Int → List Int → List Int → Prop} (hy : HVp l r ro → K true (cpL l (ordF l r ro) l.length) (cpL r (ordF l r ro) l.length) (ro.map (atL (ordF l r ro))) (cpW (ordF l r ro) l.length)) (hn : ¬ HVp l r ro → K false [] [] [] []) : Mi_CopyHeap l r ro K := by
  refine L_iHeapValid (br (fun h => hn (by simpa using h)) fun h => ?_)
  have h : HVp l r ro := by simpa using h
  have h8 := h.l8; have hlr := h.lr; have h3 := h.r3
  have hc := ordF_cells h
  have hol := hc.len
  simp only [len_eq]
  refine L_NewHeap h.l1 h.l8 h.r1 h.r3 (L_iOrderOf ?_)
  rw [if_pos h]
  generalize ho : ordF l r ro = o at hc hol hy
  refine LoopP_for (fun i st => st = ((o.length : Int), (i : Int), l, r, ro, o, [], [], [], stL (fun j => atL o (l.getD (o.getD j 0).toNat 0)) (List.replicate l.length (-1)) i, stL (fun j => atL o (r.getD (o.getD j 0).toNat 0)) (List.replicate l.length (-1)) i, List.replicate ro.length (-1))) o.length ?_ ?_ ?_
  · rw [stL_zero, stL_zero]; rfl
  · rintro i _ hi rfl Kb hKb
    have hg := hc.get hi
    refine br_t (by simp; exact hi) ⟨by rw [inB_nat]; exact hi, ⟨by simp only [gI_nat]; exact hg.1, by simp only [gI_nat]; exact hg.2⟩, L_CopyHeap_1 (by dsimp only; omega) ⟨⟨by simp only [gI_nat]; exact hg.1, by simp only [gI_nat]; omega⟩, L_CopyHeap_1 (by dsimp only; omega) ⟨?_, ?_, hKb _ ?_⟩⟩⟩
    · rw [inB_nat]; dsimp only; rw [stL_len, List.length_replicate]; omega
    · rw [inB_nat]; dsimp only; rw [stL_len, List.length_replicate]; omega
    · simp only [uL_nat]
      rw [iadd_nat (by omega), ← stL_succ (by rw [List.length_replicate]; omega), ← stL_succ (by rw [List.length_replicate]; omega)]
      simp only [gI_at, Int.toNat_natCast]
  · rintro _ rfl Kb
    refine br_f (by simp) ?_
    simp only [cpL_st hol, len_eq]
    refine LoopP_for (fun i st => st = (ro, (ro.length : Int), (i : Int), l, r, ro, [], [], [], cpL l o l.length, cpL r o l.length, stL (fun j => atL o (ro.getD j 0)) (List.replicate ro.length (-1)) i, o)) ro.length ?_ ?_ ?_
    · rw [stL_zero]; rfl
    · rintro i _ hi rfl Kb hKb
      refine br_t (by simp; exact hi) ⟨by rw [inB_nat]; exact hi, L_CopyHeap_1 (by dsimp only; omega) ⟨by rw [inB_nat]; dsimp only; rw [stL_len]; simpa using hi, hKb _ ?_⟩⟩
      simp only [uL_nat]
      rw [iadd_nat (by omega), ← stL_succ (by simpa using hi), gI_nat]
    · rintro _ rfl Kb
      refine br_f (by simp) ?_
      have e : stL (fun j => atL o (ro.getD j 0)) (List.replicate ro.length (-1)) ro.length = ro.map (atL o) := by
        rw [stL_all (by simp)]; simp only [List.length_replicate]; exact map_stL
      simp only [e]
      refine LoopP_for (fun i st => st = ((l.length : Int), (i : Int), (List.range i).map fun (c : Nat) => atL o (c : Int), [], [], [], cpL l o l.length, cpL r o l.length, ro.map (atL o), o)) l.length rfl ?_ ?_
      · rintro i _ hi rfl Kb hKb
        refine br_t (by simp; exact hi) (L_CopyHeap_1 (by dsimp only; omega) ⟨by simp; omega, hKb _ ?_⟩)
        rw [iadd_nat (by omega), map_range_succ]
      · rintro _ rfl Kb
        exact br_f (by simp) (hy h)
theorem L_iHeapsAlike {l r ro l' r' ro' : List Int} {K : Bool → Prop} (hK : K (decide (AlikeP l r ro l' r' ro'))) : Mi_HeapsAlike l r ro l' r' ro' K := by
  have no : ¬ AlikeP l r ro l' r' ro' → K false := fun h => by rwa [decide_eq_false h] at hK
  refine L_iCopyHeap (fun hv => ?_) fun hv => ?_
  · refine L_iCopyHeap (fun hv' => ?_) fun hv' => L_CountLive (fun _ => br_t rfl (br_f rfl (no fun q => hv' q.b))) (fun hh => absurd hv hh)
    have h8 := hv.l8; have hlr := hv.lr; have h3 := hv.r3; have h1 := hv.l1
    have h8' := hv'.l8; have hlr' := hv'.lr; have h3' := hv'.r3; have h1' := hv'.l1
    have hc := ordF_cells hv
    have hc' := ordF_cells hv'
    have hl := hc.len
    have hl' := hc'.len
    refine L_CountLive (fun _ => br_t rfl (br_t rfl (L_CountLive (fun _ => br (fun e => ?_) fun e => no fun q => ?_) fun hh => absurd hv' hh))) fun hh => absurd hv hh
    · have e : (ordF l r ro).length = (ordF l' r' ro').length := by have := beq_iff_eq.1 e; omega
      refine L_Equal_int (by simp; omega) (br (fun e2 => ?_) fun e2 => no fun q => ?_)
      · have e2 := of_decide_eq_true e2
        simp only [cpL_len]
        refine ⟨⟨by omega, by omega, by omega⟩, ⟨by omega, by omega, by omega⟩, ?_⟩
        rw [sub_nat, sub_nat, cpL_take hl, e, cpL_take hl']
        refine L_Equal_int (by rw [canL_len]; omega) (br (fun e3 => ?_) fun e3 => no fun q => ?_)
        · have e3 := of_decide_eq_true e3
          refine ⟨⟨by omega, by omega, by omega⟩, ⟨by omega, by omega, by omega⟩, ?_⟩
          rw [← e, sub_nat, sub_nat, cpL_take hl, e, cpL_take hl']
          refine L_Equal_int (by rw [canL_len]; omega) ?_
          rw [show decide (canL r (ordF l r ro) = canL r' (ordF l' r' ro')) = decide (AlikeP l r ro l' r' ro') from decide_eq_decide.2 ⟨fun q => ⟨hv, hv', e3, q, e2⟩, fun q => q.cr⟩]
          exact hK
        · exact of_decide_eq_false e3 q.cl
      · exact of_decide_eq_false e2 q.co
    · have e : (ordF l r ro).length ≠ (ordF l' r' ro').length := by have := beq_eq_false_iff_ne.1 e; omega
      exact e q.len
  · exact L_iCopyHeap (fun _ => L_CountLive (fun hh => absurd hh hv) fun _ => br_f rfl (no fun q => hv q.a)) fun _ => L_CountLive (fun hh => absurd hh hv) fun _ => br_f rfl (no fun q => hv q.a)
theorem L_Grow {n : Int} {K : List Int → Prop} (h0 : 0 ≤ n) (hn : n ≤ 2 ^ 36) (hK : K []) : M_Grow_int n K := by
  have e : isub n (isub 0 0) = n := by rw [show isub 0 0 = 0 from rfl, isub_eq (by omega) (by omega)]; omega
  refine br_f (by simp; omega) ?_
  rw [e]
  refine br (fun h => ?_) fun _ => hK
  have h := of_decide_eq_true h
  refine ⟨⟨rfl, rfl⟩, ⟨h, hn⟩, ⟨by omega, by omega, by simp only [len_eq]; omega⟩, ?_⟩
  simpa [sub] using hK
theorem flat_succ {ls : List (List Int)} {i : Nat} (h : i < ls.length) : (ls.take (i + 1)).flatten = (ls.take i).flatten ++ ls.getD i [] := by
  rw [List.take_add_one, List.getElem?_eq_getElem h, List.getD_eq_getElem?_getD, List.getElem?_eq_getElem h, List.flatten_append]
  simp
theorem flat_le {ls : List (List Int)} (i : Nat) : (ls.take i).flatten.length ≤ ls.flatten.length := by
  conv => rhs; rw [← List.take_append_drop i ls]
  rw [List.flatten_append, List.length_append]; omega
theorem L_Concat {ls : List (List Int)} {K : List Int → Prop} (hl : ls.length < 2 ^ 60) (hf : ls.flatten.length ≤ 2 ^ 36) (hK : K ls.flatten) : M_Concat_int ls K := by
  have gl : ∀ i : Nat, gL ls (i : Int) = ls.getD i [] := fun i => by simp [gL, EK.dflt]
  refine LoopP_for (fun i s => s = (ls, (((ls.take i).flatten.length : Nat) : Int), ls, len ls, (i : Int))) ls.length rfl ?_ ?_
  · rintro i _ hi rfl Kb hKb
    have h1 := flat_le (ls := ls) (i + 1)
    rw [flat_succ hi, List.length_append] at h1
    have e : iadd (((ls.take i).flatten.length : Nat) : Int) (len (ls.getD i [])) = (((ls.take (i + 1)).flatten.length : Nat) : Int) := by
      rw [flat_succ hi, List.length_append, len_eq, iadd_eq (by omega) (by omega)]; omega
    refine br_t (by simp [len_eq]; exact hi) ⟨by rw [inB_nat]; exact hi, br_f ?_ (hKb _ ?_)⟩
    · rw [gl, e]; simp
    · rw [gl, e, iadd_nat (by omega)]
  · rintro _ rfl Kb
    refine br_f (by simp [len_eq]) ?_
    simp only [List.take_length]
    refine L_Grow (by omega) (by omega) ?_
    refine LoopP_for (fun i s => s = (ls, len ls, (i : Int), (ls.take i).flatten)) ls.length rfl ?_ ?_
    · rintro i _ hi rfl Kb hKb
      have h1 := flat_le (ls := ls) (i + 1)
      rw [flat_succ hi, List.length_append] at h1
      refine br_t (by simp [len_eq]; exact hi) ⟨by rw [inB_nat]; exact hi, by simp only [gl]; omega, hKb _ ?_⟩
      rw [gl, iadd_nat (by omega), flat_succ hi]
    · rintro _ rfl Kb
      refine br_f (by simp [len_eq]) ?_
      simp only [List.take_length]; exact hK
/-- A valid store. -/
structure SVp (l r ro fr : List Int) : Prop where
  h : HVp l r ro
  c : CellsP l.length fr
  f : ∀ x ∈ fr, l.getD x.toNat 0 = -1 ∧ r.getD x.toNat 0 = -1 ∧ x ∉ l ∧ x ∉ r ∧ x ∉ ro
instance (l r ro fr : List Int) : Decidable (SVp l r ro fr) := decidable_of_iff (HVp l r ro ∧ CellsP l.length fr ∧ ∀ x ∈ fr, l.getD x.toNat 0 = -1 ∧ r.getD x.toNat 0 = -1 ∧ x ∉ l ∧ x ∉ r ∧ x ∉ ro) ⟨fun ⟨a, b, c⟩ => ⟨a, b, c⟩, fun ⟨a, b, c⟩ => ⟨a, b, c⟩⟩
def svC (l r ro fr : List Int) (j : Nat) : Prop := (0 ≤ fr.getD j 0 ∧ fr.getD j 0 < l.length ∧ fr.getD j 0 ∉ fr.take j) ∧ l.getD (fr.getD j 0).toNat 0 = -1 ∧ r.getD (fr.getD j 0).toNat 0 = -1 ∧ fr.getD j 0 ∉ l ∧ fr.getD j 0 ∉ r ∧ fr.getD j 0 ∉ ro
theorem sv_iff {l r ro fr : List Int} (hv : HVp l r ro) : SVp l r ro fr ↔ ∀ j, j < fr.length → svC l r ro fr j := by
  constructor
  · intro h j hj; exact ⟨cells_iff.1 h.c j hj, h.f _ (getD_mem 0 hj)⟩
  · intro h
    exact ⟨hv, cells_iff.2 fun j hj => (h j hj).1, all_getD 0 (p := fun x => l.getD x.toNat 0 = -1 ∧ r.getD x.toNat 0 = -1 ∧ x ∉ l ∧ x ∉ r ∧ x ∉ ro) fun j hj => (h j hj).2⟩
theorem SVp.f8 {l r ro fr : List Int} (h : SVp l r ro fr) : fr.length ≤ l.length := h.c.len
theorem L_l4At {l : List Int} {x : Int} {K : Int → Prop} (hl : l.length < 2 ^ 62) (hK : K (atL l x)) : Ms_l4At l x K := by
  refine LoopP_for (fun i s => s = (l, x, (i : Int)) ∧ ∀ j, j < i → l.getD j 0 ≠ x) l.length ⟨rfl, by omega⟩ ?_ ?_
  · rintro i _ hi ⟨rfl, hj⟩ Kb hKb
    refine br_t (by simp [len_eq]; exact hi) ⟨by rw [inB_nat]; exact hi, br (fun h => ?_) fun h => hKb _ ⟨by rw [iadd_nat (by omega)], fun j hji => ?_⟩⟩
    · have h : l.getD i 0 = x := by simpa only [gI_nat, beq_iff_eq] using h
      rw [atL_some hi h hj] at hK; exact hK
    · have h : l.getD i 0 ≠ x := by simpa only [gI_nat, beq_eq_false_iff_ne] using h
      rcases Nat.lt_succ_iff_lt_or_eq.1 hji with e | e
      · exact hj j e
      · subst e; exact h
  · rintro _ ⟨rfl, hj⟩ Kb
    refine br_f (by simp [len_eq]) ?_
    rw [atL_none hj] at hK; exact hK
/-- How often each cell occurs in a list. -/
def cntU (q : List Int) (n i : Nat) : List Int := (List.range n).map fun (c : Nat) => (((q.take i).count (c : Int) : Nat) : Int)
theorem cntU_len (q : List Int) (n i : Nat) : (cntU q n i).length = n := by simp [cntU]
theorem cntU_getD {q : List Int} {n i c : Nat} (hc : c < n) : (cntU q n i).getD c 0 = (((q.take i).count (c : Int) : Nat) : Int) := by
  rw [getD_lt (by rw [cntU_len]; exact hc)]; simp [cntU]
theorem take_succ_get {q : List Int} {i : Nat} (hi : i < q.length) : q.take (i + 1) = q.take i ++ [q.getD i 0] := by
  rw [List.take_add_one, List.getElem?_eq_getElem hi, getD_lt hi]; rfl
theorem cntU_none {q : List Int} {n i : Nat} (hi : i < q.length) (h : q.getD i 0 = -1) : cntU q n (i + 1) = cntU q n i := by
  unfold cntU
  refine List.map_congr_left fun c _ => ?_
  rw [take_succ_get hi, List.count_append, h, List.count_singleton]
  have : ((-1 : Int) == (c : Int)) = false := by rw [beq_eq_false_iff_ne]; omega
  simp [this]
theorem cntU_some {q : List Int} {n i : Nat} (hi : i < q.length) (h0 : 0 ≤ q.getD i 0) (h1 : q.getD i 0 < n) : (cntU q n i).set (q.getD i 0).toNat ((cntU q n i).getD (q.getD i 0).toNat 0 + 1) = cntU q n (i + 1) := by
  refine eqL_iff 0 _ _ (by simp [cntU_len]) fun j hj => ?_
  rw [List.length_set, cntU_len] at hj
  rw [getI_set (by rw [cntU_len]; exact hj), cntU_getD (by omega), cntU_getD hj, cntU_getD hj, take_succ_get hi, List.count_append, List.count_singleton]
  by_cases e : (q.getD i 0).toNat = j
  · have e2 : q.getD i 0 = (j : Int) := by omega
    rw [if_pos e, e2]; simp
  · have : (q.getD i 0 == (j : Int)) = false := by rw [beq_eq_false_iff_ne]; omega
    rw [if_neg e, this]; simp
def cntF (l r ro : List Int) : List Int := cntU [l, r, ro].flatten l.length [l, r, ro].flatten.length
theorem cntF_len (l r ro : List Int) : (cntF l r ro).length = l.length := cntU_len _ _ _
theorem cntF_getD {l r ro : List Int} {c : Nat} (hc : c < l.length) : (cntF l r ro).getD c 0 > 0 ↔ ((c : Int) ∈ l ∨ (c : Int) ∈ r ∨ (c : Int) ∈ ro) := by
  unfold cntF
  rw [cntU_getD hc, List.take_length]
  have : ((([l, r, ro].flatten.count (c : Int) : Nat) : Int) > 0) ↔ 0 < [l, r, ro].flatten.count (c : Int) := by omega
  rw [this, List.count_pos_iff]
  simp
theorem L_CountsOf {l r ro : List Int} {K : List Int → Prop} (hy : HVp l r ro → K (cntF l r ro)) (hn : ¬ HVp l r ro → K []) : Mi_CountsOf l r ro K := by
  refine L_iHeapValid (br (fun h => hn (by simpa using h)) fun h => ?_)
  have hv : HVp l r ro := by simpa using h
  have h8 := hv.l8; have hlr := hv.lr; have h3 := hv.r3
  refine ⟨⟨by simp [len_eq], rfl, by simp only [len_eq]; omega⟩, L_Concat (by simp) (by simp; omega) ?_⟩
  have hok : ∀ x ∈ [l, r, ro].flatten, okP l.length x := by
    intro x hx
    simp at hx
    rcases hx with hx | hx | hx
    · exact hv.okl x hx
    · exact hv.okr x hx
    · exact hv.oko x hx
  have hq : ([l, r, ro].flatten).length ≤ 100 := by simp; omega
  have hF : cntF l r ro = cntU [l, r, ro].flatten l.length [l, r, ro].flatten.length := rfl
  generalize [l, r, ro].flatten = q at hok hq hF
  refine LoopP_for (fun i s => s = (len q, (i : Int), cntU q l.length i, q)) q.length ?_ ?_ ?_
  · have : cntU q l.length 0 = List.replicate l.length 0 := by
      refine eqL_iff 0 _ _ (by simp [cntU_len]) fun j hj => ?_
      rw [cntU_len] at hj
      rw [cntU_getD hj, getD_lt (by simpa using hj)]; simp
    rw [this]; simp [len_eq]
  · rintro i _ hi rfl Kb hKb
    have hx := hok _ (getD_mem 0 hi)
    refine br_t (by simp [len_eq]; exact hi) ⟨by rw [inB_nat]; exact hi, br (fun e => ?_) fun e => hKb _ ?_⟩
    · have e : q.getD i 0 ≠ -1 := by simpa only [gI_nat, bne_iff_ne] using e
      have hc := hx.cell e
      have hb : inB (q.getD i 0) (cntU q l.length i).length := ⟨hc.1, by rw [cntU_len]; exact hc.2⟩
      simp only [gI_nat]
      refine ⟨hb, hb, hKb _ ?_⟩
      have hcc : (cntU q l.length i).getD (q.getD i 0).toNat 0 ≤ 100 ∧ 0 ≤ (cntU q l.length i).getD (q.getD i 0).toNat 0 := by
        rw [cntU_getD (by omega)]
        have := List.count_le_length (a := (((q.getD i 0).toNat : Nat) : Int)) (l := q.take i)
        have h2 : (q.take i).length ≤ q.length := by simp; omega
        omega
      rw [iadd_nat (by omega), ← cntU_some hi hc.1 hc.2]
      simp only [uL, gI_at]
      rw [iadd_eq (by omega) (by omega)]
    · have e : q.getD i 0 = -1 := by simpa only [gI_nat, bne_eq_false_iff_eq] using e
      rw [iadd_nat (by omega), cntU_none hi e]
  · rintro _ rfl Kb
    refine br_f (by simp [len_eq]) ?_
    rw [← hF]; exact hy hv
theorem L_iStoreValid {l r ro fr : List Int} {K : Bool → Prop} (hf : fr.length < 2 ^ 60) (hK : K (decide (SVp l r ro fr))) : Mi_StoreValid l r ro fr K := by
  have no : ¬ SVp l r ro fr → K false := fun h => by rwa [decide_eq_false h] at hK
  refine L_iHeapValid (br (fun h => no fun q => ?_) fun h => ?_)
  · have h : ¬ HVp l r ro := by simpa using h
    exact h q.h
  have hv : HVp l r ro := by simpa using h
  have hlr := hv.lr
  refine L_CountsOf (fun _ => ?_) fun hh => absurd hv hh
  have hcl := cntF_len l r ro
  have hcg : ∀ c : Nat, c < l.length → ((cntF l r ro).getD c 0 > 0 ↔ ((c : Int) ∈ l ∨ (c : Int) ∈ r ∨ (c : Int) ∈ ro)) := fun c hc => cntF_getD hc
  generalize cntF l r ro = q at hcl hcg
  refine LoopP_for (fun i s => s = (fr, len fr, (i : Int), l, r, ro, fr, q) ∧ ∀ j, j < i → svC l r ro fr j) fr.length ⟨rfl, by omega⟩ ?_ ?_
  · rintro i _ hi ⟨rfl, hj⟩ Kb hKb
    have nn : ¬ svC l r ro fr i → K false := fun hh => no fun hs => hh ((sv_iff hv).1 hs i hi)
    refine br_t (by simp [len_eq]; exact hi) ⟨by rw [inB_nat]; exact hi, ?_⟩
    simp only [gI_nat, sub_nat]
    refine br (fun e => nn fun hh => ?_) fun e1 => br (fun e => nn fun hh => ?_) fun e2 => ?_
    · have := of_decide_eq_true e; have := hh.1.1; omega
    · have := of_decide_eq_true e; simp only [len_eq] at this; have := hh.1.2.1; omega
    have e1 := of_decide_eq_false e1
    have e2 := of_decide_eq_false e2
    simp only [len_eq] at e2
    have hx0 : 0 ≤ fr.getD i 0 := by omega
    have hx1 : fr.getD i 0 < l.length := by omega
    have hg := hcg (fr.getD i 0).toNat (by omega)
    rw [show (((fr.getD i 0).toNat : Nat) : Int) = fr.getD i 0 by omega] at hg
    refine ⟨⟨hx0, by omega⟩, br (fun e => nn fun hh => ?_) fun e3 => ⟨⟨hx0, hx1⟩, br (fun e => nn fun hh => ?_) fun e4 => ⟨⟨hx0, by omega⟩, br (fun e => nn fun hh => ?_) fun e5 => ⟨⟨by omega, by omega, by simp only [len_eq]; omega⟩, L_Contains_int (by simp; omega) (br (fun e => nn fun hh => ?_) fun e6 => hKb _ ⟨by rw [iadd_nat (by omega)], fun j hji => ?_⟩)⟩⟩⟩⟩
    · have e := hg.1 (of_decide_eq_true e); have := hh.2.2.2; rcases e with e | e | e
      · exact this.1 e
      · exact this.2.1 e
      · exact this.2.2 e
    · have e := bne_iff_ne.1 e; exact e hh.2.1
    · have e := bne_iff_ne.1 e; exact e hh.2.2.1
    · exact hh.1.2.2 (of_decide_eq_true e)
    · rcases Nat.lt_succ_iff_lt_or_eq.1 hji with e | e
      · exact hj j e
      · subst e
        have e3 : ¬ (fr.getD j 0 ∈ l ∨ fr.getD j 0 ∈ r ∨ fr.getD j 0 ∈ ro) := fun hm => of_decide_eq_false e3 (hg.2 hm)
        exact ⟨⟨hx0, hx1, of_decide_eq_false e6⟩, bne_eq_false_iff_eq.1 e4, bne_eq_false_iff_eq.1 e5, fun h => e3 (.inl h), fun h => e3 (.inr (.inl h)), fun h => e3 (.inr (.inr h))⟩
  · rintro _ ⟨rfl, hj⟩ Kb
    refine br_f (by simp [len_eq]) ?_
    rw [decide_eq_true ((sv_iff hv).2 hj)] at hK
    exact hK
theorem L_l4Free {l r ro : List Int} {x : Int} {K : Bool → Prop} (hv : HVp l r ro) (hK : K (decide ((0 ≤ x ∧ x < l.length) ∧ l.getD x.toNat 0 = -1 ∧ r.getD x.toNat 0 = -1 ∧ x ∉ l ∧ x ∉ r ∧ x ∉ ro))) : Ms_l4Free l r ro x K := by
  have h8 := hv.l8; have hlr := hv.lr; have h3 := hv.r3
  have no : ¬ ((0 ≤ x ∧ x < l.length) ∧ l.getD x.toNat 0 = -1 ∧ r.getD x.toNat 0 = -1 ∧ x ∉ l ∧ x ∉ r ∧ x ∉ ro) → K false := fun h => by rwa [decide_eq_false h] at hK
  refine br (fun e1 => br (fun e2 => ?_) fun e2 => no fun h => of_decide_eq_false e2 (by simp only [len_eq]; exact h.1.2)) fun e1 => no fun h => of_decide_eq_false e1 h.1.1
  have e1 := of_decide_eq_true e1
  have e2 := of_decide_eq_true e2
  simp only [len_eq] at e2
  simp only [gI_at]
  refine ⟨⟨e1, e2⟩, br (fun e3 => ⟨⟨e1, by omega⟩, br (fun e4 => L_l4At (by omega) (br (fun e5 => L_l4At (by omega) (br (fun e6 => L_l4At (by omega) ?_) fun e6 => no fun h => ?_)) fun e5 => no fun h => ?_)) fun e4 => no fun h => ?_⟩) fun e3 => no fun h => ?_⟩
  · have e5 := atL_neg.1 (of_decide_eq_true e5)
    have e6 := atL_neg.1 (of_decide_eq_true e6)
    have : decide ((0 ≤ x ∧ x < l.length) ∧ l.getD x.toNat 0 = -1 ∧ r.getD x.toNat 0 = -1 ∧ x ∉ l ∧ x ∉ r ∧ x ∉ ro) = decide (atL ro x < 0) := by
      rw [decide_eq_decide, atL_neg]
      exact ⟨fun h => h.2.2.2.2.2, fun h => ⟨⟨e1, e2⟩, beq_iff_eq.1 e3, beq_iff_eq.1 e4, e5, e6, h⟩⟩
    rw [this] at hK; exact hK
  · exact of_decide_eq_false e6 (atL_neg.2 h.2.2.2.2.1)
  · exact of_decide_eq_false e5 (atL_neg.2 h.2.2.2.1)
  · exact beq_eq_false_iff_ne.1 e4 h.2.2.1
  · exact beq_eq_false_iff_ne.1 e3 h.2.1
theorem L_sStoreValid {l r ro fr : List Int} {K : Bool → Prop} (hK : K (decide (SVp l r ro fr))) : Ms_StoreValid l r ro fr K := by
  have no : ¬ SVp l r ro fr → K false := fun h => by rwa [decide_eq_false h] at hK
  refine L_sHeapValid (br (fun h => no fun q => ?_) fun h => br (fun e => no fun q => ?_) fun e => ?_)
  · have h : ¬ HVp l r ro := by simpa using h
    exact h q.h
  · have := of_decide_eq_true e; simp only [len_eq] at this; have := q.f8; omega
  have hv : HVp l r ro := by simpa using h
  have h8 := hv.l8
  have e := of_decide_eq_false e
  simp only [len_eq] at e
  refine LoopP_for (fun i s => s = ((i : Int), l, r, ro, fr) ∧ ∀ j, j < i → svC l r ro fr j) fr.length ⟨rfl, by omega⟩ ?_ ?_
  · rintro i _ hi ⟨rfl, hj⟩ Kb hKb
    have nn : ¬ svC l r ro fr i → K false := fun hh => no fun hs => hh ((sv_iff hv).1 hs i hi)
    refine br_t (by simp [len_eq]; exact hi) ⟨by rw [inB_nat]; exact hi, ?_⟩
    simp only [gI_nat, sub_nat]
    refine L_l4Free hv (br (fun e1 => nn fun hh => ?_) fun e1 => ⟨⟨by omega, by omega, by simp only [len_eq]; omega⟩, by rw [inB_nat]; exact hi, L_l4At (by simp; omega) (br (fun e2 => nn fun hh => ?_) fun e2 => hKb _ ⟨by rw [iadd_nat (by omega)], fun j hji => ?_⟩)⟩)
    · simp only [Bool.not_eq_true', decide_eq_false_iff_not] at e1; exact e1 ⟨⟨hh.1.1, hh.1.2.1⟩, hh.2⟩
    · have e2 := of_decide_eq_true e2; have := atL_neg.2 hh.1.2.2; omega
    · rcases Nat.lt_succ_iff_lt_or_eq.1 hji with e3 | e3
      · exact hj j e3
      · subst e3
        simp only [Bool.not_eq_false', decide_eq_true_eq] at e1
        have e2 := of_decide_eq_false e2
        exact ⟨⟨e1.1.1, e1.1.2, atL_neg.1 (by omega)⟩, e1.2⟩
  · rintro _ ⟨rfl, hj⟩ Kb
    refine br_f (by simp [len_eq]) ?_
    rw [decide_eq_true ((sv_iff hv).2 hj)] at hK
    exact hK
theorem L_again {l r ro fr : List Int} {K : List Int → List Int → List Int → List Int → Prop} (hv : HVp l r ro) (hf : fr.length ≤ 2 ^ 36) (hK : K l r ro fr) : Mi_again l r ro fr K := L_copied hv (L_Clone_int hf hK)
theorem L_l4Copy {l r ro fr : List Int} {K : Prop} (hv : HVp l r ro) (hf : fr.length ≤ 2 ^ 36) (hK : K) : Ms_l4Copy l r ro fr K := L_l1Copy hv ⟨hf, hK⟩
theorem L_iStoreSame {l r ro fr l' r' ro' fr' : List Int} {K : Bool → Prop} (hp : l.length < 2 ^ 62) (hq : r.length < 2 ^ 62) (hr : ro.length < 2 ^ 62) (hf : fr.length < 2 ^ 62) (hK : K (decide ((l = l' ∧ r = r' ∧ ro = ro') ∧ fr = fr'))) : Mi_StoreSame l r ro fr l' r' ro' fr' K := by
  refine L_iHeapSame hp hq hr (br (fun h => L_Equal_int hf ?_) fun h => ?_)
  · have h := of_decide_eq_true h
    have e : decide ((l = l' ∧ r = r' ∧ ro = ro') ∧ fr = fr') = decide (fr = fr') := decide_eq_decide.2 ⟨fun q => q.2, fun q => ⟨h, q⟩⟩
    rw [e] at hK; exact hK
  · have h := of_decide_eq_false h
    rw [decide_eq_false fun q => h q.1] at hK; exact hK
def SV (s : StoreV) : Prop := SVp s.h.l s.h.r s.h.ro s.free
instance (s : StoreV) : Decidable (SV s) := inferInstanceAs (Decidable (SVp _ _ _ _))
def ro_ (s : StoreV) (i : Int) : Int := s.h.ro.getD i.toNat 0
def setRo (s : StoreV) (i v : Int) : StoreV := ⟨⟨s.h.l, s.h.r, s.h.ro.set i.toNat v⟩, s.free⟩
theorem HVp.setRo {l r ro : List Int} (h : HVp l r ro) {i : Nat} {v : Int} (hv : okP l.length v) : HVp l r (ro.set i v) :=
  ⟨h.lr, h.l1, h.l8, by simpa using h.r1, by simpa using h.r3, h.okl, h.okr, fun x hx => by
    rcases List.mem_or_eq_of_mem_set hx with hx | rfl
    · exact h.oko x hx
    · exact hv⟩
theorem not_mem_set {q : List Int} {i : Nat} {v x : Int} (h : x ∉ q) (hv : x ≠ v) : x ∉ q.set i v := fun hx => by
  rcases List.mem_or_eq_of_mem_set hx with hx | hx
  · exact h hx
  · exact hv hx
theorem SVp.setRo {l r ro fr : List Int} (h : SVp l r ro fr) {i : Nat} {v : Int} (hv : okP l.length v) (hf : v ∉ fr) : SVp l r (ro.set i v) fr :=
  ⟨h.h.setRo hv, h.c, fun x hx => by
    obtain ⟨a, b, c, d, e⟩ := h.f x hx
    exact ⟨a, b, c, d, not_mem_set e fun q => hf (q ▸ hx)⟩⟩
theorem SVp.take {l r ro fr : List Int} {c : Int} (h : SVp l r ro (c :: fr)) (i : Nat) : SVp l r (ro.set i c) fr := by
  have hc := h.c.ok c (by simp)
  have hnd := List.nodup_cons.1 h.c.nd
  have h2 : SVp l r ro fr := ⟨h.h, ⟨hnd.2, fun x hx => h.c.ok x (by simp [hx])⟩, fun x hx => h.f x (by simp [hx])⟩
  exact h2.setRo ⟨by omega, hc.2⟩ hnd.1
structure ColP (n : Nat) (col : List Int) : Prop where
  len : col.length = n
  ok : ∀ x ∈ col, 0 ≤ x ∧ x ≤ 2
instance (n : Nat) (col : List Int) : Decidable (ColP n col) := decidable_of_iff (col.length = n ∧ ∀ x ∈ col, 0 ≤ x ∧ x ≤ 2) ⟨fun ⟨a, b⟩ => ⟨a, b⟩, fun ⟨a, b⟩ => ⟨a, b⟩⟩
/-- Is the cell live? -/
def live (s : StoreV) (c : Int) : Prop := c ∈ ordF s.h.l s.h.r s.h.ro
instance (s : StoreV) (c : Int) : Decidable (live s c) := inferInstanceAs (Decidable (_ ∈ _))
theorem ColP.set {n : Nat} {col : List Int} (h : ColP n col) {i : Nat} {x : Int} (h0 : 0 ≤ x) (h2 : x ≤ 2) : ColP n (col.set i x) := ⟨by rw [List.length_set]; exact h.len, fun y hy => by
  rcases List.mem_or_eq_of_mem_set hy with hy | rfl
  · exact h.ok y hy
  · exact ⟨h0, h2⟩⟩
def idI (n : Nat) : List Int := (List.range n).map fun (i : Nat) => (i : Int)
theorem mem_idI {n : Nat} {x : Int} : x ∈ idI n ↔ 0 ≤ x ∧ x < n := by
  unfold idI
  simp only [List.mem_map, List.mem_range]
  exact ⟨fun ⟨a, h, e⟩ => by omega, fun h => ⟨x.toNat, by omega, by omega⟩⟩
theorem new_valid {n q : Nat} (h1 : 1 ≤ n) (h8 : n ≤ 8) (q1 : 1 ≤ q) (q3 : q ≤ 3) : SVp (List.replicate n (-1)) (List.replicate n (-1)) (List.replicate q (-1)) (idI n) := by
  have ok : ∀ k : Nat, ∀ x ∈ List.replicate k (-1 : Int), okP (List.replicate n (-1 : Int)).length x := fun k x hx => by
    rw [List.eq_of_mem_replicate hx]
    exact ⟨by omega, by simp; omega⟩
  refine ⟨⟨by simp, by simpa using h1, by simpa using h8, by simpa using q1, by simpa using q3, ok _, ok _, ok _⟩, ⟨?_, fun x hx => by rw [List.length_replicate]; exact mem_idI.1 hx⟩, fun x hx => ?_⟩
  · unfold idI
    refine List.Pairwise.map _ (fun a b h => ?_) (List.nodup_range (n := n))
    intro e; exact h (by omega)
  · have hx := mem_idI.1 hx
    have nm : ∀ k : Nat, x ∉ List.replicate k (-1 : Int) := fun k h => by have := List.eq_of_mem_replicate h; omega
    have g : (List.replicate n (-1 : Int)).getD x.toNat 0 = -1 := by
      rw [getD_lt (by rw [List.length_replicate]; omega), List.getElem_replicate]
    exact ⟨g, g, nm _, nm _, nm _⟩
theorem L_NewStore {n q : Nat} {K : Bool → List Int → List Int → List Int → List Int → Prop} (h1 : 1 ≤ n) (h8 : n ≤ 8) (q1 : 1 ≤ q) (q3 : q ≤ 3) (hK : K true (List.replicate n (-1)) (List.replicate n (-1)) (List.replicate q (-1)) (idI n)) : Ms_NewStore n q K := by
  refine L_sNewHeap h1 h8 q1 q3 (br_f rfl ?_)
  refine LoopP_for (fun i st => st = ((n : Int), (i : Int), [], [], [], [], List.replicate n (-1), List.replicate n (-1), List.replicate q (-1), idI i)) n rfl ?_ ?_
  · rintro i _ hi rfl Kb hKb
    refine br_t (by simp; exact hi) ⟨by simp [idI]; omega, hKb _ ?_⟩
    rw [iadd_nat (by omega)]
    simp [idI, List.range_succ]
  · rintro _ rfl Kb
    exact br_f (by simp) hK
/-- The stores look alike by this renumbering, on these cells. -/
abbrev RenS (s t : StoreV) (φ : Int → Int) (D : Int → Prop) : Prop := Renum s.h.l s.h.r s.h.ro t.h.l t.h.r t.h.ro φ D
/-- The first store is the one of the program alone. -/
structure Rel (s t : StoreV) : Prop where
  sv : SV s
  tv : SV t
  ren : ∃ φ, RenS s t φ (live s)
  fr : s.free.length ≤ t.free.length
theorem Rel.alike {s t : StoreV} (h : Rel s t) : AlikeP s.h.l s.h.r s.h.ro t.h.l t.h.r t.h.ro := by
  obtain ⟨φ, hr⟩ := h.ren
  exact Renum.alike hr h.sv.h h.tv.h fun x hx => hx
theorem Rel.ro {s t : StoreV} {φ : Int → Int} {D : Int → Prop} (hr : RenS s t φ D) {i : Int} (h0 : 0 ≤ i) (h1 : i < s.h.ro.length) : ro_ t i = φ (ro_ s i) := by
  unfold ro_
  rw [hr.hro, getD_lt (by rw [List.length_map]; omega), getD_lt (by omega), List.getElem_map]
theorem L_PutRoot {l r ro : List Int} {i x : Int} {K : Bool → List Int → List Int → List Int → Prop} (hv : HVp l r ro) (i0 : 0 ≤ i) (i1 : i < ro.length) (hx : okP l.length x) (hK : K true l r (ro.set i.toNat x)) : Mi_PutRoot l r ro i x K :=
  L_iHeapValid (br_f (by simp [hv]) (br_f (by simpa using i0) (br_f (by simp [len_eq]; omega) (br_t (by simpa using hx.1) (br_f (by rw [Bool.not_eq_false']; exact decide_eq_true hx.2) (L_copied hv ⟨⟨i0, i1⟩, hK⟩))))))
theorem L_IsFree {l r ro fr : List Int} {x : Int} {K : Bool → Prop} (hf : fr.length < 2 ^ 60) (hK : K (decide (SVp l r ro fr ∧ x ∈ fr))) : Mi_IsFree l r ro fr x K := by
  refine L_iStoreValid hf (br (fun h => L_Contains_int (by omega) ?_) fun h => ?_)
  · have h := of_decide_eq_true h
    rwa [show decide (SVp l r ro fr ∧ x ∈ fr) = decide (x ∈ fr) from decide_eq_decide.2 ⟨fun q => q.2, fun q => ⟨h, q⟩⟩] at hK
  · rwa [decide_eq_false fun q : SVp l r ro fr ∧ x ∈ fr => of_decide_eq_false h q.1] at hK
structure CS where
  l : List Int
  r : List Int
  ct : List Int
  op : List Int
  fr : List Int
def guT (s : CS) (c : Int) : List Int := s.ct.set c.toNat (s.ct.getD c.toNat 0 - 1)
def guS (s : CS) (i : Nat) : CS :=
  if s.op.getD i 0 = -1 then s
  else if (guT s (s.op.getD i 0)).getD (s.op.getD i 0).toNat 0 > 0 then ⟨s.l, s.r, guT s (s.op.getD i 0), s.op, s.fr⟩
  else ⟨s.l.set (s.op.getD i 0).toNat (-1), s.r.set (s.op.getD i 0).toNat (-1), guT s (s.op.getD i 0), s.op ++ [s.l.getD (s.op.getD i 0).toNat 0, s.r.getD (s.op.getD i 0).toNat 0], s.fr ++ [s.op.getD i 0]⟩
def gu : Nat → Nat → CS → CS
  | 0, _, s => s
  | f + 1, i, s => if i < s.op.length then gu f (i + 1) (guS s i) else s
def psum (ct : List Int) : Nat := ct.countP fun x => decide (0 < x)
def occ (l r ro op : List Int) (c : Nat) : Nat := l.count (c : Int) + r.count (c : Int) + ro.count (c : Int) + op.count (c : Int)
structure GI (ro : List Int) (n : Nat) (s : CS) (i : Nat) : Prop where
  ll : s.l.length = n
  lr : s.r.length = n
  lc : s.ct.length = n
  n8 : n ≤ 8
  r3 : ro.length ≤ 3
  okl : ∀ x ∈ s.l, okP n x
  okr : ∀ x ∈ s.r, okP n x
  oko : ∀ x ∈ ro, okP n x
  okp : ∀ x ∈ s.op, okP n x
  ile : i ≤ s.op.length
  cn : ∀ c : Nat, c < n → s.ct.getD c 0 = (occ s.l s.r ro (s.op.drop i) c : Nat)
  b : s.op.length + 2 * psum s.ct ≤ 17
  bf : s.fr.length + psum s.ct ≤ 16
theorem drop_count {op : List Int} {i : Nat} (hi : i < op.length) (c : Int) : (op.drop i).count c = (op.drop (i + 1)).count c + if op.getD i 0 = c then 1 else 0 := by
  rw [List.drop_eq_getElem_cons hi, List.count_cons, getD_lt hi]
  simp [beq_iff_eq]
theorem set_neg_count {q : List Int} {k : Nat} (hk : k < q.length) (c : Nat) : (q.set k (-1)).count (c : Int) + (if q.getD k 0 = (c : Int) then 1 else 0) = q.count (c : Int) := by
  rw [List.count_set hk, getD_lt hk]
  have : ((-1 : Int) == (c : Int)) = false := by rw [beq_eq_false_iff_ne]; omega
  rw [this]
  by_cases e : q[k] = (c : Int)
  · have : 0 < q.count (c : Int) := List.count_pos_iff.2 (e ▸ List.getElem_mem hk)
    simp [e]; omega
  · simp [e]
section gi
variable {ro : List Int} {n : Nat} {s : CS} {i : Nat}
/-- A cell of which a pointer is given up has been counted. -/
theorem GI.pos (h : GI ro n s i) (hi : i < s.op.length) (hn : s.op.getD i 0 ≠ -1) : 1 ≤ s.ct.getD (s.op.getD i 0).toNat 0 ∧ s.ct.getD (s.op.getD i 0).toNat 0 ≤ 1000 := by
  have hc := (h.okp _ (getD_mem 0 hi)).cell hn
  obtain ⟨c, e⟩ : ∃ c : Nat, s.op.getD i 0 = (c : Int) := ⟨(s.op.getD i 0).toNat, by omega⟩
  have hd := drop_count hi (c : Int)
  rw [if_pos e] at hd
  rw [e, Int.toNat_natCast, h.cn c (by omega)]
  unfold occ
  have h1 := List.count_le_length (a := (c : Int)) (l := s.l)
  have h2 := List.count_le_length (a := (c : Int)) (l := s.r)
  have h3 := List.count_le_length (a := (c : Int)) (l := ro)
  have h4 := List.count_le_length (a := (c : Int)) (l := s.op.drop i)
  have h5 : (s.op.drop i).length ≤ s.op.length := by simp
  have := h.ll; have := h.lr; have := h.n8; have := h.r3; have := h.b
  omega
theorem guT_getD {c j : Nat} (hj : j < s.ct.length) : (guT s (c : Int)).getD j 0 = if c = j then s.ct.getD c 0 - 1 else s.ct.getD j 0 := by
  unfold guT
  rw [Int.toNat_natCast, getI_set hj]
theorem guT_psum {c : Nat} (hc : c < s.ct.length) (h1 : 1 ≤ s.ct.getD c 0) : psum (guT s (c : Int)) + (if 0 < s.ct.getD c 0 - 1 then 0 else 1) = psum s.ct := by
  unfold psum guT
  rw [Int.toNat_natCast, List.countP_set hc]
  rw [getD_lt hc] at h1 ⊢
  have hp : 0 < s.ct.countP fun x => decide (0 < x) := List.countP_pos_iff.2 ⟨s.ct[c], List.getElem_mem hc, by simp; omega⟩
  have h2 : decide (0 < s.ct[c]) = true := by simp; omega
  rw [h2]
  by_cases e : 0 < s.ct[c] - 1
  · simp only [e, decide_true, if_true]; omega
  · simp only [e, decide_false, if_true, if_false, Bool.false_eq_true]; omega
theorem guS_inv (h : GI ro n s i) (hi : i < s.op.length) : GI ro n (guS s i) (i + 1) := by
  have hd := fun c => drop_count hi c
  unfold guS
  by_cases e : s.op.getD i 0 = -1
  · rw [if_pos e]
    refine ⟨h.ll, h.lr, h.lc, h.n8, h.r3, h.okl, h.okr, h.oko, h.okp, hi, fun c hc => ?_, h.b, h.bf⟩
    have := hd (c : Int)
    rw [if_neg (by omega)] at this
    rw [h.cn c hc]; unfold occ; omega
  rw [if_neg e]
  have hx := (h.okp _ (getD_mem 0 hi)).cell e
  have hp := h.pos hi e
  obtain ⟨c, ec⟩ : ∃ c : Nat, s.op.getD i 0 = (c : Int) := ⟨(s.op.getD i 0).toNat, by omega⟩
  rw [ec] at hx hp hd ⊢
  simp only [Int.toNat_natCast] at hp ⊢
  have hcn : c < n := by omega
  have hcl : c < s.ct.length := by rw [h.lc]; exact hcn
  have hps := guT_psum hcl hp.1
  have hlt : (guT s (c : Int)).length = n := by unfold guT; rw [List.length_set]; exact h.lc
  rw [guT_getD hcl, if_pos rfl]
  have hcn' : ∀ j : Nat, j < n → (guT s (c : Int)).getD j 0 = (occ s.l s.r ro (s.op.drop (i + 1)) j : Nat) := fun j hj => by
    rw [guT_getD (by rw [h.lc]; exact hj)]
    have h1 := h.cn j hj
    have h2 := hd (j : Int)
    by_cases ej : c = j
    · subst ej
      rw [if_pos rfl] at h2 ⊢
      rw [h1]; unfold occ; omega
    · rw [if_neg (by omega)] at h2
      rw [if_neg ej, h1]; unfold occ; omega
  by_cases g : s.ct.getD c 0 - 1 > 0
  · rw [if_pos g]
    rw [if_pos g] at hps
    exact ⟨h.ll, h.lr, hlt, h.n8, h.r3, h.okl, h.okr, h.oko, h.okp, hi, hcn', by have := h.b; dsimp only; omega, by have := h.bf; dsimp only; omega⟩
  · rw [if_neg g]
    rw [if_neg g] at hps
    have hll := h.ll; have hlr := h.lr
    refine ⟨by simp [hll], by simp [hlr], hlt, h.n8, h.r3, ok_set h.okl ⟨by omega, by omega⟩, ok_set h.okr ⟨by omega, by omega⟩, h.oko, fun x hx => ?_, by simp; omega, fun j hj => ?_, ?_, ?_⟩
    · rcases List.mem_append.1 hx with hx | hx
      · exact h.okp x hx
      · simp only [List.mem_cons, List.not_mem_nil, or_false] at hx
        rcases hx with rfl | rfl
        · exact h.okl _ (getD_mem 0 (by omega))
        · exact h.okr _ (getD_mem 0 (by omega))
    · rw [hcn' j hj]
      have q1 := set_neg_count (q := s.l) (k := c) (by omega) j
      have q2 := set_neg_count (q := s.r) (k := c) (by omega) j
      dsimp only
      rw [List.drop_append_of_le_length (by omega)]
      unfold occ
      rw [List.count_append, List.count_cons, List.count_cons, List.count_nil]
      simp only [beq_iff_eq]
      omega
    · have := h.b; simp only [List.length_append, List.length_cons, List.length_nil]; omega
    · have := h.bf; simp only [List.length_append, List.length_cons, List.length_nil]; omega
theorem gu_end {P : CS → Prop} (step : ∀ s i, GI ro n s i → i < s.op.length → P s → P (guS s i)) : ∀ (f i : Nat) (s : CS), GI ro n s i → 18 ≤ f + i → P s → GI ro n (gu f i s) (gu f i s).op.length ∧ P (gu f i s)
  | 0, i, s, h, hf, _ => by have := h.ile; have := h.b; omega
  | f + 1, i, s, h, hf, hP => by
    by_cases hi : i < s.op.length
    · simp only [gu, if_pos hi]
      exact gu_end step f (i + 1) _ (guS_inv h hi) (by omega) (step s i h hi hP)
    · simp only [gu, if_neg hi]
      have : i = s.op.length := by have := h.ile; omega
      subst this
      exact ⟨h, hP⟩
end gi
theorem gu_round {ro : List Int} {n : Nat} {q F : CS} {i : Nat} {S : Type} {mk : Int → CS → S} {Kb : S → Prop} (hg : GI ro n q i) (hio : i < q.op.length) (hF : gu (18 - i) i q = F)
    (hKb : ∀ (i' : Nat) (q' : CS), GI ro n q' i' → gu (18 - i') i' q' = F → 18 - i' < 18 - i → Kb (mk (i' : Int) q')) : Kb (mk (iadd (i : Int) 1) (guS q i)) := by
  have hb := hg.b
  rw [iadd_nat (by omega)]
  refine hKb (i + 1) _ (guS_inv hg hio) ?_ (by omega)
  obtain ⟨f, hf⟩ : ∃ f, 18 - i = f + 1 := ⟨17 - i, by omega⟩
  rw [hf] at hF
  simp only [gu, if_pos hio] at hF
  rw [show 18 - (i + 1) = f by omega]; exact hF
theorem gu_out {ro : List Int} {n : Nat} {q F : CS} {i : Nat} (hg : GI ro n q i) (hio : ¬ i < q.op.length) (hF : gu (18 - i) i q = F) : q = F := by
  rw [← hF]
  cases 18 - i with
  | zero => rfl
  | succ f => simp only [gu, if_neg hio]
theorem L_giveUp {ro l r ct fr : List Int} {n : Nat} {p : Int} {K : List Int → List Int → List Int → List Int → List Int → Prop} (h : GI ro n ⟨l, r, ct, [p], fr⟩ 0) (hK : (fun F : CS => K F.l F.r ro F.ct F.fr) (gu 18 0 ⟨l, r, ct, [p], fr⟩)) : Mi_Counted_giveUp p l r ro fr ct K := by
  refine LoopP_inv (fun s => ∃ (i : Nat) (q : CS), s = ((i : Int), q.l, q.r, ro, q.ct, q.op, q.fr) ∧ GI ro n q i ∧ gu (18 - i) i q = gu 18 0 ⟨l, r, ct, [p], fr⟩) (fun s => 18 - s.1.toNat) ?_ ⟨0, ⟨l, r, ct, [p], fr⟩, rfl, h, rfl⟩
  rintro _ ⟨i, q, rfl, hg, hF⟩ Kb hKb
  have hb := hg.b; have hbf := hg.bf; have hll := hg.ll; have hlr := hg.lr; have hlc := hg.lc
  refine br (fun h' => ?_) fun h' => ?_
  · have hio : i < q.op.length := by have := of_decide_eq_true h'; simp only [len_eq] at this; omega
    have go := gu_round (mk := fun i q => (i, q.l, q.r, ro, q.ct, q.op, q.fr)) (Kb := Kb) hg hio hF fun i' q' h1 h2 h3 => hKb _ ⟨i', q', rfl, h1, h2⟩ (by simpa using h3)
    have hp := fun e => hg.pos hio e
    refine ⟨by rw [inB_nat]; exact hio, ?_⟩
    simp only [gI_nat]
    refine br (fun e => ?_) fun e => ?_
    · have e := beq_iff_eq.1 e
      unfold guS at go; rwa [if_pos e] at go
    · have e := beq_eq_false_iff_ne.1 e
      have hp := hp e
      have hc := (hg.okp _ (getD_mem 0 hio)).cell e
      have hin : ∀ {k : List Int}, k.length = n → inB (q.op.getD i 0) k.length := fun hk => ⟨hc.1, by rw [hk]; exact hc.2⟩
      have hs : isub (q.ct.getD (q.op.getD i 0).toNat 0) 1 = q.ct.getD (q.op.getD i 0).toNat 0 - 1 := isub_eq (by omega) (by omega)
      simp only [gI_at, uL, hs]
      unfold guS guT at go
      rw [if_neg e] at go
      refine ⟨hin hlc, hin hlc, hin (by rw [List.length_set]; exact hlc), br (fun g => ?_) fun g => ?_⟩
      · rw [if_pos (of_decide_eq_true g)] at go; exact go
      · rw [if_neg (of_decide_eq_false g)] at go
        exact ⟨hin hll, hin hlr, by simp only [List.length_cons, List.length_nil]; omega, hin hll, hin hlr, by simp only [List.length_cons, List.length_nil]; omega, go⟩
  · have hio : ¬ i < q.op.length := by have := of_decide_eq_false h'; simp only [len_eq] at this; omega
    have := gu_out hg hio hF
    subst this
    exact hK
theorem L_l9Down {ro l r ct fr : List Int} {n : Nat} {p : Int} {K : List Int → List Int → List Int → List Int → List Int → Prop} (h : GI ro n ⟨l, r, ct, [p], fr⟩ 0) (hK : (fun F : CS => K F.l F.r ro F.ct F.fr) (gu 18 0 ⟨l, r, ct, [p], fr⟩)) : Ms_l9Down l r ro fr ct [p] K := by
  refine LoopP_inv (fun s => ∃ (i : Nat) (q : CS), s = ((i : Int), q.l, q.r, ro, q.ct, q.op, q.fr, [], [], [], [], []) ∧ GI ro n q i ∧ gu (18 - i) i q = gu 18 0 ⟨l, r, ct, [p], fr⟩) (fun s => 18 - s.1.toNat) ?_ ⟨0, ⟨l, r, ct, [p], fr⟩, rfl, h, rfl⟩
  rintro _ ⟨i, q, rfl, hg, hF⟩ Kb hKb
  have hb := hg.b; have hbf := hg.bf; have hll := hg.ll; have hlr := hg.lr; have hlc := hg.lc
  refine br (fun h' => ?_) fun h' => ?_
  · have hio : i < q.op.length := by have := of_decide_eq_true h'; simp only [len_eq] at this; omega
    have go := gu_round (mk := fun i q => (i, q.l, q.r, ro, q.ct, q.op, q.fr, ([] : List Int), ([] : List Int), ([] : List Int), ([] : List Int), ([] : List Int))) (Kb := Kb) hg hio hF fun i' q' h1 h2 h3 => hKb _ ⟨i', q', rfl, h1, h2⟩ (by simpa using h3)
    have hp := fun e => hg.pos hio e
    refine ⟨by rw [inB_nat]; exact hio, ?_⟩
    simp only [gI_nat]
    refine br (fun e => ?_) fun e => ?_
    · have e := beq_iff_eq.1 e
      unfold guS at go; rwa [if_pos e] at go
    · have e := beq_eq_false_iff_ne.1 e
      have hp := hp e
      have hc := (hg.okp _ (getD_mem 0 hio)).cell e
      have hin : ∀ {k : List Int}, k.length = n → inB (q.op.getD i 0) k.length := fun hk => ⟨hc.1, by rw [hk]; exact hc.2⟩
      have hs : isub (q.ct.getD (q.op.getD i 0).toNat 0) 1 = q.ct.getD (q.op.getD i 0).toNat 0 - 1 := isub_eq (by omega) (by omega)
      simp only [gI_at, uL, hs]
      unfold guS guT at go
      rw [if_neg e] at go
      refine ⟨hin hlc, hin hlc, hin (by rw [List.length_set]; exact hlc), br (fun g => ?_) fun g => ?_⟩
      · rw [if_pos (of_decide_eq_true g)] at go; exact go
      · rw [if_neg (of_decide_eq_false g)] at go
        exact ⟨hin hll, hin hlr, by simp only [List.length_cons, List.length_nil]; omega, hin hll, hin hlr, by simp only [List.length_cons, List.length_nil]; omega, go⟩
  · have hio : ¬ i < q.op.length := by have := of_decide_eq_false h'; simp only [len_eq] at this; omega
    have := gu_out hg hio hF
    subst this
    exact hK
theorem cntF_occ {l r ro : List Int} {c : Nat} (hc : c < l.length) : (cntF l r ro).getD c 0 = (occ l r ro [] c : Nat) := by
  unfold cntF
  rw [cntU_getD hc, List.take_length]
  simp [occ]; omega
theorem L_sCountsOf {l r ro : List Int} {K : List Int → Prop} (hy : HVp l r ro → K (cntF l r ro)) (hn : ¬ HVp l r ro → K []) : Ms_CountsOf l r ro K := by
  refine L_sHeapValid (br (fun h => hn (by simpa using h)) fun h => ?_)
  have hv : HVp l r ro := by simpa using h
  have h8 := hv.l8; have hlr := hv.lr; have h3 := hv.r3
  refine ⟨⟨by simp [len_eq], rfl, by simp only [len_eq]; omega⟩, by omega, by omega, by simp; omega, ?_⟩
  have hok : ∀ x ∈ l ++ r ++ ro, okP l.length x := by
    intro x hx
    simp at hx
    rcases hx with hx | hx | hx
    · exact hv.okl x hx
    · exact hv.okr x hx
    · exact hv.oko x hx
  have hq : (l ++ r ++ ro).length ≤ 100 := by simp; omega
  have hF : cntF l r ro = cntU (l ++ r ++ ro) l.length (l ++ r ++ ro).length := by unfold cntF; simp
  generalize l ++ r ++ ro = q at hok hq hF
  refine LoopP_for (fun i s => s = ((i : Int), cntU q l.length i, q)) q.length ?_ ?_ ?_
  · have : cntU q l.length 0 = List.replicate l.length 0 := by
      refine eqL_iff 0 _ _ (by simp [cntU_len]) fun j hj => ?_
      rw [cntU_len] at hj
      rw [cntU_getD hj, getD_lt (by simpa using hj)]; simp
    rw [this]; simp [len_eq]
  · rintro i _ hi rfl Kb hKb
    have hx := hok _ (getD_mem 0 hi)
    refine br_t (by simp [len_eq]; exact hi) ⟨by rw [inB_nat]; exact hi, br (fun e => ?_) fun e => hKb _ ?_⟩
    · have e : q.getD i 0 ≠ -1 := by simpa only [gI_nat, bne_iff_ne] using e
      have hc := hx.cell e
      have hb : inB (q.getD i 0) (cntU q l.length i).length := ⟨hc.1, by rw [cntU_len]; exact hc.2⟩
      have hcc : (cntU q l.length i).getD (q.getD i 0).toNat 0 ≤ 100 ∧ 0 ≤ (cntU q l.length i).getD (q.getD i 0).toNat 0 := by
        rw [cntU_getD (by omega)]
        have := List.count_le_length (a := (((q.getD i 0).toNat : Nat) : Int)) (l := q.take i)
        have h2 : (q.take i).length ≤ q.length := by simp; omega
        omega
      have hadd : iadd ((cntU q l.length i).getD (q.getD i 0).toNat 0) 1 = (cntU q l.length i).getD (q.getD i 0).toNat 0 + 1 := iadd_eq (by omega) (by omega)
      simp only [gI_nat]
      refine ⟨by rw [inB_nat]; exact hi, by rw [inB_nat]; exact hi, hb, hb, hKb _ ?_⟩
      rw [iadd_nat (by omega), ← cntU_some hi hc.1 hc.2]
      simp only [uL, gI_at, hadd]
    · have e : q.getD i 0 = -1 := by simpa only [gI_nat, bne_eq_false_iff_eq] using e
      rw [iadd_nat (by omega), cntU_none hi e]
  · rintro _ rfl Kb
    refine br_f (by simp [len_eq]) ?_
    rw [← hF]; exact hy hv
/-- A valid store whose cells are counted. -/
def CVp (l r ro fr ct : List Int) : Prop := SVp l r ro fr ∧ ct = cntF l r ro
instance (l r ro fr ct : List Int) : Decidable (CVp l r ro fr ct) := inferInstanceAs (Decidable (_ ∧ _))
theorem L_iCountedValid {l r ro fr ct : List Int} {K : Bool → Prop} (hf : fr.length < 2 ^ 60) (hc : ct.length < 2 ^ 60) (hK : K (decide (CVp l r ro fr ct))) : Mi_CountedValid l r ro fr ct K := by
  refine L_iStoreValid hf (br (fun h => L_CountsOf (fun _ => L_Equal_int (by omega) ?_) fun hh => ?_) fun h => ?_)
  · have h := of_decide_eq_true h
    rwa [show decide (CVp l r ro fr ct) = decide (ct = cntF l r ro) from decide_eq_decide.2 ⟨fun q => q.2, fun q => ⟨h, q⟩⟩] at hK
  · exact absurd (of_decide_eq_true h).h hh
  · rwa [decide_eq_false fun q : CVp l r ro fr ct => of_decide_eq_false h q.1] at hK
theorem L_sCountedValid {l r ro fr ct : List Int} {K : Bool → Prop} (hc : ct.length < 2 ^ 60) (hK : K (decide (CVp l r ro fr ct))) : Ms_CountedValid l r ro fr ct K := by
  refine L_sStoreValid (br (fun h => L_sCountsOf (fun _ => L_l1Ints (by omega) ?_) fun hh => ?_) fun h => ?_)
  · have h := of_decide_eq_true h
    rwa [show decide (CVp l r ro fr ct) = decide (ct = cntF l r ro) from decide_eq_decide.2 ⟨fun q => q.2, fun q => ⟨h, q⟩⟩] at hK
  · exact absurd (of_decide_eq_true h).h hh
  · rwa [decide_eq_false fun q : CVp l r ro fr ct => of_decide_eq_false h q.1] at hK
def rootP (l r ro fr ct : List Int) (i : Int) : Prop := CVp l r ro fr ct ∧ 0 ≤ i ∧ i < ro.length
instance (l r ro fr ct : List Int) (i : Int) : Decidable (rootP l r ro fr ct i) := inferInstanceAs (Decidable (_ ∧ _ ∧ _))
theorem root_tail {l r ro fr ct : List Int} {i : Int} {K : Bool → Prop} (hK : K (decide (rootP l r ro fr ct i))) :
    ((decide (CVp l r ro fr ct) = true → (((decide (i ≥ 0)) = true → (K (decide (i < (len ro))))) ∧ ((decide (i ≥ 0)) = false → (K false)))) ∧ (decide (CVp l r ro fr ct) = false → (K false))) := by
  have no : ¬ rootP l r ro fr ct i → K false := fun h => by rwa [decide_eq_false h] at hK
  refine br (fun h => br (fun h1 => ?_) fun h1 => no fun q => of_decide_eq_false h1 q.2.1) fun h => no fun q => of_decide_eq_false h q.1
  have h := of_decide_eq_true h; have h1 := of_decide_eq_true h1
  rwa [show decide (rootP l r ro fr ct i) = decide (i < len ro) from decide_eq_decide.2 ⟨fun q => q.2.2, fun q => ⟨h, h1, q⟩⟩] at hK
theorem L_rooted {l r ro fr ct : List Int} {i : Int} {K : Bool → Prop} (hf : fr.length < 2 ^ 60) (hc : ct.length < 2 ^ 60) (hK : K (decide (rootP l r ro fr ct i))) : Mi_rooted l r ro fr ct i K := L_iCountedValid hf hc (root_tail hK)
theorem L_l9Root {l r ro fr ct : List Int} {i : Int} {K : Bool → Prop} (hc : ct.length < 2 ^ 60) (hK : K (decide (rootP l r ro fr ct i))) : Ms_l9Root l r ro fr ct i K := L_sCountedValid hc (root_tail hK)
theorem set_count {q : List Int} {k : Nat} (hk : k < q.length) (v c : Int) : (q.set k v).count c + (if q.getD k 0 = c then 1 else 0) = q.count c + (if v = c then 1 else 0) := by
  rw [List.count_set hk, getD_lt hk]
  by_cases e : q[k] = c
  · have : 0 < q.count c := List.count_pos_iff.2 (e ▸ List.getElem_mem hk)
    by_cases e2 : v = c <;> simp [e, e2] <;> omega
  · by_cases e2 : v = c <;> simp [e, e2]
theorem cnt_one (x : Int) (c : Nat) : [x].count (c : Int) = if x = (c : Int) then 1 else 0 := by rw [List.count_singleton]; simp
section drop
variable {l r ro fr : List Int}
theorem psum_le (ct : List Int) : psum ct ≤ ct.length := List.countP_le_length
/-- What a change starts from. -/
theorem gi_mk (hv : SVp l r ro fr) {l' ro' ct fr' : List Int} {p : Int} (h1 : l'.length = l.length) (h2 : ro'.length = ro.length) (h3 : ct.length = l.length) (h4 : ∀ x ∈ l', okP l.length x) (h5 : ∀ x ∈ ro', okP l.length x) (h6 : okP l.length p) (h7 : fr'.length ≤ 8)
    (h8 : ∀ c : Nat, c < l.length → ct.getD c 0 = (occ l' r ro' [p] c : Nat)) : GI ro' l.length ⟨l', r, ct, [p], fr'⟩ 0 := by
  have h := hv.h
  have := psum_le ct; have := h.l8
  exact ⟨h1, h.lr.symm, h3, h.l8, by rw [h2]; exact h.r3, h4, h.okr, h5, fun x hx => by rw [List.mem_singleton.1 hx]; exact h6, by simp, fun c hc => h8 c hc, by dsimp only [List.length_cons, List.length_nil]; omega, by dsimp only; omega⟩
theorem drop_gi (hv : SVp l r ro fr) {i : Int} (i0 : 0 ≤ i) (i1 : i < ro.length) : GI (ro.set i.toNat (-1)) l.length ⟨l, r, cntF l r ro, [ro.getD i.toNat 0], fr⟩ 0 := by
  have hin : i.toNat < ro.length := by omega
  refine gi_mk hv rfl (by simp) (cntF_len _ _ _) hv.h.okl (ok_set hv.h.oko ⟨by omega, by omega⟩) (hv.h.oko _ (getD_mem 0 hin)) (by have := hv.f8; have := hv.h.l8; omega) fun c hc => ?_
  rw [cntF_occ hc]
  have := set_count hin (-1) (c : Int)
  rw [if_neg (show (-1 : Int) ≠ (c : Int) by omega)] at this
  unfold occ
  rw [cnt_one, List.count_nil]; omega
def dropF (l r ro fr : List Int) (i : Int) : CS := gu 18 0 ⟨l, r, cntF l r ro, [ro.getD i.toNat 0], fr⟩
theorem L_iDropRoot {ct : List Int} {i : Int} {K : Bool → List Int → List Int → List Int → List Int → List Int → Prop} (hf : fr.length < 2 ^ 60) (hc : ct.length < 2 ^ 60)
    (hn : ¬ rootP l r ro fr ct i → K false [] [] [] [] []) (hy : rootP l r ro fr ct i → K true (dropF l r ro fr i).l (dropF l r ro fr i).r (ro.set i.toNat (-1)) (dropF l r ro fr i).fr (dropF l r ro fr i).ct) : Mi_DropRoot l r ro fr ct i K := by
  refine L_rooted hf hc (br (fun h => hn (by simpa using h)) fun h => ?_)
  have h : rootP l r ro fr ct i := by simpa using h
  obtain ⟨⟨hv, rfl⟩, i0, i1⟩ := h
  have f8 := hv.f8; have h8 := hv.h.l8
  exact L_again hv.h (by omega) (L_Clone_int (by rw [cntF_len]; omega) ⟨⟨i0, i1⟩, ⟨i0, i1⟩, L_giveUp (drop_gi hv i0 i1) (hy ⟨⟨hv, rfl⟩, i0, i1⟩)⟩)
theorem L_sDropRoot {ct : List Int} {i : Int} {K : Bool → List Int → List Int → List Int → List Int → List Int → Prop} (hc : ct.length < 2 ^ 60)
    (hn : ¬ rootP l r ro fr ct i → K false [] [] [] [] []) (hy : rootP l r ro fr ct i → K true (dropF l r ro fr i).l (dropF l r ro fr i).r (ro.set i.toNat (-1)) (dropF l r ro fr i).fr (dropF l r ro fr i).ct) : Ms_DropRoot l r ro fr ct i K := by
  refine L_l9Root hc (br (fun h => hn (by simpa using h)) fun h => ?_)
  have h : rootP l r ro fr ct i := by simpa using h
  obtain ⟨⟨hv, rfl⟩, i0, i1⟩ := h
  have f8 := hv.f8; have h8 := hv.h.l8
  exact L_l4Copy hv.h (by omega) ⟨by rw [cntF_len]; omega, ⟨i0, i1⟩, ⟨i0, i1⟩, L_l9Down (drop_gi hv i0 i1) (hy ⟨⟨hv, rfl⟩, i0, i1⟩)⟩
/-- What is live is left alone. -/
def SI (l0 r0 ro : List Int) (s : CS) : Prop := ∀ x, Rc l0 r0 (· ∈ ro) x → s.l.getD x.toNat 0 = l0.getD x.toNat 0 ∧ s.r.getD x.toNat 0 = r0.getD x.toNat 0 ∧ x ∉ s.fr
theorem si_step {ro' : List Int} (hv : HVp l r ro') {s : CS} {i : Nat} (hg : GI ro' l.length s i) (hi : i < s.op.length) (hs : SI l r ro' s) : SI l r ro' (guS s i) := by
  by_cases e : s.op.getD i 0 = -1
  · unfold guS; rw [if_pos e]; exact hs
  have hg2 := guS_inv hg hi
  have hc := (hg.okp _ (getD_mem 0 hi)).cell e
  have hlc := hg.lc; have hll := hg.ll; have hlr := hg.lr
  by_cases g : (guT s (s.op.getD i 0)).getD (s.op.getD i 0).toNat 0 > 0
  · unfold guS; rw [if_neg e, if_pos g]; exact hs
  -- the cell that is given up
  have hz : (guT s (s.op.getD i 0)).getD (s.op.getD i 0).toNat 0 = (occ s.l s.r ro' (s.op.drop (i + 1)) (s.op.getD i 0).toNat : Nat) := by
    have hp := hg.pos hi e
    obtain ⟨c, ec⟩ : ∃ c : Nat, s.op.getD i 0 = (c : Int) := ⟨(s.op.getD i 0).toNat, by omega⟩
    have hd := drop_count hi (c : Int)
    rw [if_pos ec] at hd
    rw [ec, Int.toNat_natCast, guT_getD (by omega), if_pos rfl, hg.cn c (by omega)]
    unfold occ; omega
  have hnl : ¬ Rc l r (· ∈ ro') (s.op.getD i 0) := by
    intro hr
    have hzero : occ s.l s.r ro' (s.op.drop (i + 1)) (s.op.getD i 0).toNat = 0 := by omega
    unfold occ at hzero
    rw [Int.toNat_of_nonneg hc.1] at hzero
    have n1 : s.op.getD i 0 ∉ s.l := fun h => by have := List.count_pos_iff.2 h; omega
    have n2 : s.op.getD i 0 ∉ s.r := fun h => by have := List.count_pos_iff.2 h; omega
    have n3 : s.op.getD i 0 ∉ ro' := fun h => by have := List.count_pos_iff.2 h; omega
    generalize s.op.getD i 0 = x at hr n1 n2 n3
    cases hr with
    | base h _ => exact n3 h
    | left h _ =>
      have ho := h.ok hv hv.oko
      rw [← (hs _ h).1] at n1
      exact n1 (getD_mem 0 (by omega))
    | right h _ =>
      have ho := h.ok hv hv.oko
      rw [← (hs _ h).2.1] at n2
      exact n2 (getD_mem 0 (by omega))
  unfold guS
  rw [if_neg e, if_neg g]
  intro x hx
  have ho := hx.ok hv hv.oko
  have hne : x ≠ s.op.getD i 0 := fun q => hnl (q ▸ hx)
  obtain ⟨h1, h2, h3⟩ := hs x hx
  refine ⟨?_, ?_, fun hm => ?_⟩
  · dsimp only; rw [getI_set (by omega), if_neg (by omega)]; exact h1
  · dsimp only; rw [getI_set (by omega), if_neg (by omega)]; exact h2
  · rcases List.mem_append.1 hm with hm | hm
    · exact h3 hm
    · exact hne (List.mem_singleton.1 hm)
theorem set_valid (hv : HVp l r ro) (i : Int) : HVp l r (ro.set i.toNat (-1)) := ⟨hv.lr, hv.l1, hv.l8, by simpa using hv.r1, by simpa using hv.r3, hv.okl, hv.okr, ok_set hv.oko ⟨by omega, by omega⟩⟩
theorem drop_end (hv : SVp l r ro fr) {i : Int} (i0 : 0 ≤ i) (i1 : i < ro.length) : GI (ro.set i.toNat (-1)) l.length (dropF l r ro fr i) (dropF l r ro fr i).op.length ∧ SI l r (ro.set i.toNat (-1)) (dropF l r ro fr i) := by
  refine gu_end (fun s j hg hj hs => si_step (set_valid hv.h i) hg hj hs) 18 0 _ (drop_gi hv i0 i1) (by omega) fun x hx => ⟨rfl, rfl, fun hf => ?_⟩
  have hq := hv.f x hf
  have hv' := set_valid hv.h i
  cases hx with
  | base h hn =>
    rcases List.mem_or_eq_of_mem_set h with h | h
    · exact hq.2.2.2.2 h
    · exact hn h
  | left h _ => exact hq.2.2.1 (getD_mem 0 (by have := h.ok hv' hv'.oko; omega))
  | right h _ => exact hq.2.2.2.1 (getD_mem 0 (by have := h.ok hv' hv'.oko; have := hv.h.lr; omega))
theorem drop_valid (hv : SVp l r ro fr) {i : Int} (i0 : 0 ≤ i) (i1 : i < ro.length) : HVp (dropF l r ro fr i).l (dropF l r ro fr i).r (ro.set i.toNat (-1)) := by
  have h := (drop_end hv i0 i1).1
  have h1 := hv.h.l1
  exact ⟨by rw [h.ll, h.lr], by rw [h.ll]; exact h1, by rw [h.ll]; exact h.n8, by simpa using hv.h.r1, h.r3, by rw [h.ll]; exact h.okl, by rw [h.ll]; exact h.okr, by rw [h.ll]; exact h.oko⟩
theorem drop_alike (hv : SVp l r ro fr) {i : Int} (i0 : 0 ≤ i) (i1 : i < ro.length) : AlikeP l r (ro.set i.toNat (-1)) (dropF l r ro fr i).l (dropF l r ro fr i).r (ro.set i.toNat (-1)) := by
  have hs := (drop_end hv i0 i1).2
  have hv' := set_valid hv.h i
  have hr : Renum l r (ro.set i.toNat (-1)) (dropF l r ro fr i).l (dropF l r ro fr i).r (ro.set i.toNat (-1)) id (· ∈ ordF l r (ro.set i.toNat (-1))) :=
    ⟨rfl, by simp, fun x y _ _ e => e, fun y hy => (hs y ((mem_ordF hv').1 hy)).1, fun y hy => (hs y ((mem_ordF hv').1 hy)).2.1, fun x hx => ordF_ro hv' hx, fun y hy => (ordF_cl hv' hy).1, fun y hy => (ordF_cl hv' hy).2⟩
  exact hr.alike hv' (drop_valid hv i0 i1) fun _ hx => hx
end drop
/-- Lists of a counted store, not too long. -/
structure CB (l r ro fr ct : List Int) : Prop where
  l1 : 1 ≤ l.length
  l16 : l.length ≤ 16
  r16 : r.length ≤ 16
  ro16 : ro.length ≤ 16
  fr16 : fr.length ≤ 16
  c1 : 1 ≤ ct.length
  c16 : ct.length ≤ 16
theorem gi_cb {ro : List Int} {n : Nat} (n1 : 1 ≤ n) {s : CS} (h : GI ro n s 0) : CB (gu 18 0 s).l (gu 18 0 s).r ro (gu 18 0 s).fr (gu 18 0 s).ct := by
  have h := (gu_end (P := fun _ => True) (fun _ _ _ _ _ => trivial) 18 0 s h (by omega) trivial).1
  have := h.ll; have := h.lr; have := h.lc; have := h.n8; have := h.r3; have := h.bf
  exact ⟨by omega, by omega, by omega, by omega, by omega, by omega, by omega⟩
section take
variable {l r ro fr ct : List Int}
theorem CB.i (h : CB l r ro fr ct) : fr.length < 2 ^ 60 ∧ ct.length < 2 ^ 60 := by have := h.fr16; have := h.c16; omega
theorem take_gi {c0 : Int} {fr' : List Int} (hv : SVp l r ro fr) (hm : c0 ∈ fr) (hf : fr'.length ≤ 8) {i : Int} (i0 : 0 ≤ i) (i1 : i < ro.length) : GI (ro.set i.toNat c0) l.length ⟨l, r, (cntF l r ro).set c0.toNat 1, [ro.getD i.toNat 0], fr'⟩ 0 := by
  have hin : i.toNat < ro.length := by omega
  have hq := hv.f c0 hm
  have hc := hv.c.ok c0 hm
  refine gi_mk hv rfl (by simp) (by rw [List.length_set]; exact cntF_len _ _ _) hv.h.okl (ok_set hv.h.oko ⟨by omega, by omega⟩) (hv.h.oko _ (getD_mem 0 hin)) hf fun c hcn => ?_
  rw [getI_set (by rw [cntF_len]; exact hcn)]
  have h1 := set_count hin c0 (c : Int)
  unfold occ
  rw [cnt_one]
  by_cases e : c0.toNat = c
  · rw [if_pos e]
    have e2 : c0 = (c : Int) := by omega
    have n1 := List.count_eq_zero.2 hq.2.2.1
    have n2 := List.count_eq_zero.2 hq.2.2.2.1
    have n3 := List.count_eq_zero.2 hq.2.2.2.2
    rw [e2] at n1 n2 n3
    rw [if_pos e2] at h1
    omega
  · rw [if_neg e, cntF_occ hcn]
    rw [if_neg (show ¬ c0 = (c : Int) by omega)] at h1
    unfold occ
    rw [List.count_nil]; omega
theorem link_gi {a b : Int} (hv : SVp l r ro fr) (a0 : 0 ≤ a) (a1 : a < ro.length) (b0 : 0 ≤ b) (b1 : b < ro.length) (hn : ro.getD a.toNat 0 ≠ -1) :
    GI ro l.length ⟨l.set (ro.getD a.toNat 0).toNat (ro.getD b.toNat 0), r, if ro.getD b.toNat 0 = -1 then cntF l r ro else (cntF l r ro).set (ro.getD b.toNat 0).toNat ((cntF l r ro).getD (ro.getD b.toNat 0).toNat 0 + 1), [l.getD (ro.getD a.toNat 0).toNat 0], fr⟩ 0 := by
  have hx := (hv.h.oko _ (getD_mem 0 (show a.toNat < ro.length by omega))).cell hn
  have hy := hv.h.oko _ (getD_mem 0 (show b.toNat < ro.length by omega))
  generalize ro.getD a.toNat 0 = x at hx
  generalize ro.getD b.toNat 0 = y at hy
  have hin : x.toNat < l.length := by omega
  refine gi_mk hv (by simp) rfl ?_ (ok_set hv.h.okl hy) hv.h.oko (hv.h.okl _ (getD_mem 0 hin)) (by have := hv.f8; have := hv.h.l8; omega) fun c hcn => ?_
  · split
    · exact cntF_len _ _ _
    · rw [List.length_set]; exact cntF_len _ _ _
  have h1 := set_count hin y (c : Int)
  unfold occ
  rw [cnt_one]
  have hocc := cntF_occ (r := r) (ro := ro) hcn
  unfold occ at hocc
  rw [List.count_nil] at hocc
  by_cases e : y = -1
  · rw [if_pos e, hocc]
    rw [if_neg (show ¬ y = (c : Int) by omega)] at h1
    omega
  · have hy := hy.cell e
    rw [if_neg e, getI_set (by rw [cntF_len]; exact hcn)]
    by_cases e2 : y.toNat = c
    · rw [if_pos e2, e2, hocc]
      rw [if_pos (show y = (c : Int) by omega)] at h1
      omega
    · rw [if_neg e2, hocc]
      rw [if_neg (show ¬ y = (c : Int) by omega)] at h1
      omega
theorem L_TakeCounted {i : Int} {K : Bool → List Int → List Int → List Int → List Int → List Int → Prop} (hb : CB l r ro fr ct) (hn : K false [] [] [] [] [])
    (hy : ∀ l' r' ro' fr' ct', CB l' r' ro' fr' ct' → K true l' r' ro' fr' ct') : Ms_TakeCounted l r ro fr ct i K := by
  refine L_l9Root hb.i.2 (br (fun h => hn) fun h => br (fun e => hn) fun e => ?_)
  have h : rootP l r ro fr ct i := by simpa using h
  obtain ⟨⟨hv, rfl⟩, i0, i1⟩ := h
  have f8 := hv.f8; have h8 := hv.h.l8
  have e : fr ≠ [] := by intro q; subst q; simp [len_eq] at e
  obtain ⟨c0, f2, rfl⟩ := List.exists_cons_of_ne_nil e
  have hc := hv.c.ok c0 (by simp)
  have hs : sub (c0 :: f2) (1 : Int) (len (c0 :: f2)) = f2 := by simp [sub, len_eq]
  refine L_l4Copy hv.h (by omega) ⟨by rw [cntF_len]; omega, ⟨by omega, by simp⟩, ⟨i0, i1⟩, ⟨by omega, by simp only [len_eq, List.length_cons]; omega, by omega⟩, ?_, ⟨i0, i1⟩, ?_, ?_⟩
  · rw [hs]; simp only [List.length_cons] at f8; omega
  · show inB c0 _; exact ⟨hc.1, by rw [cntF_len]; exact hc.2⟩
  · rw [hs]
    have g := take_gi (c0 := c0) (fr' := f2) hv (by simp) (by simp only [List.length_cons] at f8; omega) i0 i1
    exact L_l9Down g (hy _ _ _ _ _ (gi_cb hv.h.l1 g))
theorem L_sDropRoot' {i : Int} {K : Bool → List Int → List Int → List Int → List Int → List Int → Prop} (hb : CB l r ro fr ct) (hn : K false [] [] [] [] [])
    (hy : ∀ l' r' ro' fr' ct', CB l' r' ro' fr' ct' → K true l' r' ro' fr' ct') : Ms_DropRoot l r ro fr ct i K :=
  L_sDropRoot hb.i.2 (fun _ => hn) fun ⟨⟨hv, _⟩, i0, i1⟩ => hy _ _ _ _ _ (gi_cb hv.h.l1 (drop_gi hv i0 i1))
theorem L_LinkCounted {i j : Int} {K : Bool → List Int → List Int → List Int → List Int → List Int → Prop} (hb : CB l r ro fr ct) (hn : K false [] [] [] [] [])
    (hy : ∀ l' r' ro' fr' ct', CB l' r' ro' fr' ct' → K true l' r' ro' fr' ct') : Ms_LinkCounted l r ro fr ct i j K := by
  refine L_l9Root hb.i.2 (br (fun h => hn) fun h => L_l9Root hb.i.2 (br (fun h2 => hn) fun h2 => ?_))
  have h : rootP l r ro fr ct i := by simpa using h
  have h2 : rootP l r ro fr ct j := by simpa using h2
  obtain ⟨⟨hv, rfl⟩, i0, i1⟩ := h
  obtain ⟨_, j0, j1⟩ := h2
  have f8 := hv.f8; have h8 := hv.h.l8
  refine ⟨⟨i0, i1⟩, br (fun e => hn) fun e => ?_⟩
  have e : ro.getD i.toNat 0 ≠ -1 := beq_eq_false_iff_ne.1 e
  have hx := (hv.h.oko _ (getD_mem 0 (show i.toNat < ro.length by omega))).cell e
  have hy2 := hv.h.oko _ (getD_mem 0 (show j.toNat < ro.length by omega))
  have g := link_gi hv i0 i1 j0 j1 e
  have go := fun K h => L_l9Down (K := K) g h
  have cb := gi_cb hv.h.l1 g
  refine L_l4Copy hv.h (by omega) ⟨by rw [cntF_len]; omega, ⟨i0, i1⟩, ⟨j0, j1⟩, hx, ?_⟩
  simp only [gI_at, uL]
  refine br (fun e2 => ?_) fun e2 => ?_
  · have e2 : ro.getD j.toNat 0 ≠ -1 := bne_iff_ne.1 e2
    have hyc := hy2.cell e2
    have hin : inB (ro.getD j.toNat 0) (cntF l r ro).length := ⟨hyc.1, by rw [cntF_len]; exact hyc.2⟩
    rw [if_neg e2] at go cb
    refine ⟨hin, hin, hx, ?_⟩
    have hb2 : 0 ≤ (cntF l r ro).getD (ro.getD j.toNat 0).toNat 0 ∧ (cntF l r ro).getD (ro.getD j.toNat 0).toNat 0 ≤ 1000 := by
      rw [cntF_occ (by omega)]
      unfold occ
      have h1 := List.count_le_length (a := (((ro.getD j.toNat 0).toNat : Nat) : Int)) (l := l)
      have h2 := List.count_le_length (a := (((ro.getD j.toNat 0).toNat : Nat) : Int)) (l := r)
      have h3 := List.count_le_length (a := (((ro.getD j.toNat 0).toNat : Nat) : Int)) (l := ro)
      have := hv.h.lr; have := hv.h.r3
      rw [List.count_nil]; omega
    have hadd : iadd ((cntF l r ro).getD (ro.getD j.toNat 0).toNat 0) 1 = (cntF l r ro).getD (ro.getD j.toNat 0).toNat 0 + 1 := iadd_eq (by omega) (by omega)
    rw [hadd]
    exact go _ (hy _ _ _ _ _ cb)
  · have e2 : ro.getD j.toNat 0 = -1 := bne_eq_false_iff_eq.1 e2
    rw [if_pos e2] at go cb
    exact ⟨hx, go _ (hy _ _ _ _ _ cb)⟩
end take
theorem L_NewCounted {l r ro fr : List Int} {K : Bool → List Int → List Int → List Int → List Int → List Int → Prop} (hv : SVp l r ro fr) (hK : K true l r ro fr (cntF l r ro)) : Ms_NewCounted l r ro fr K := by
  have f8 := hv.f8; have h8 := hv.h.l8
  exact L_sStoreValid (br_f (by simp [hv]) (L_l4Copy hv.h (by omega) (L_sCountsOf (fun _ => hK) fun h => absurd hv.h h)))
theorem L_l9Draw {b : List Int} {p : Int} {k : Nat} {K : List Int → Int → List Int → List Int → List Int → List Int → List Int → Prop} (h : RdOk b p (k + 50)) (hK : ∀ p' l r ro fr ct, RdOk b p' k → CB l r ro fr ct → K b p' l r ro fr ct) : Ms_l9Draw b p K := by
  refine L_num (k := k + 49) h (by simp) fun n hn h => ?_
  have hn : 2 ≤ n ∧ n ≤ 6 := by simp at hn; omega
  obtain ⟨n, rfl⟩ : ∃ m : Nat, n = (m : Int) := ⟨n.toNat, by omega⟩
  refine L_num (k := k + 48) h (by simp) fun m hm h => ?_
  have hm : 1 ≤ m ∧ m ≤ 3 := by simp at hm; omega
  obtain ⟨m, rfl⟩ : ∃ q : Nat, m = (q : Int) := ⟨m.toNat, by omega⟩
  have hv := new_valid (n := n) (q := m) (by omega) (by omega) (by omega) (by omega)
  refine L_NewStore (by omega) (by omega) (by omega) (by omega) (L_NewCounted hv (L_num (k := k + 47) h (by simp) fun t ht h => ?_))
  have ht : 0 ≤ t ∧ t ≤ 12 := by simp at ht; omega
  obtain ⟨t, rfl⟩ : ∃ q : Nat, t = (q : Int) := ⟨t.toNat, by omega⟩
  have cb0 : CB (List.replicate n (-1)) (List.replicate n (-1)) (List.replicate m (-1)) (idI n) (cntF (List.replicate n (-1)) (List.replicate n (-1)) (List.replicate m (-1))) :=
    ⟨by simp; omega, by simp; omega, by simp; omega, by simp; omega, by simp [idI]; omega, by rw [cntF_len]; simp; omega, by rw [cntF_len]; simp; omega⟩
  generalize cntF (List.replicate n (-1)) (List.replicate n (-1)) (List.replicate m (-1)) = ct0 at cb0
  refine LoopP_inv (fun s => ∃ (j : Nat) (p : Int) (l r ro fr ct : List Int), s = ((j : Int), b, p, [], [], [], [], [], List.replicate n (-1), List.replicate n (-1), List.replicate m (-1), idI n, l, r, ro, fr, ct) ∧ j ≤ 12 ∧ RdOk b p (k + 3 * j) ∧ CB l r ro fr ct) (fun s => s.1.toNat) ?_
    ⟨t, _, _, _, _, _, _, rfl, by omega, h.le (by omega), cb0⟩
  rintro _ ⟨j, p, l, r, ro, fr, ct, rfl, hj, h, cb⟩ Kb hKb
  refine br (fun e => ?_) fun e => ?_
  · have e : 0 < j := by have := of_decide_eq_true e; simp only at this; omega
    obtain ⟨j, rfl⟩ : ∃ q, j = q + 1 := ⟨j - 1, by omega⟩
    have e1 : isub ((j + 1 : Nat) : Int) 1 = (j : Int) := by rw [isub_eq (by omega) (by omega)]; omega
    have go : ∀ (p' : Int) (l' r' ro' fr' ct' : List Int), RdOk b p' (k + 3 * j) → CB l' r' ro' fr' ct' → Kb (isub ((j + 1 : Nat) : Int) 1, b, p', [], [], [], [], [], List.replicate n (-1), List.replicate n (-1), List.replicate m (-1), idI n, l', r', ro', fr', ct') := fun p' l' r' ro' fr' ct' h1 h2 =>
      hKb _ ⟨j, p', l', r', ro', fr', ct', by rw [e1], by omega, h1, h2⟩ (by simp only [e1]; omega)
    refine L_pick (k := k + 3 * j + 2) (h.le (by omega)) fun a _ _ h => L_pick (k := k + 3 * j + 1) h fun c _ _ h => ?_
    have fin : ∀ (y23 : Bool) (y24 y25 y26 y27 y28 : List Int), (y23 = true → CB y24 y25 y26 y27 y28) → ∀ {X : Prop}, (∀ p', RdOk b p' (k + 3 * j) → (y23 = true → Kb (isub ((j + 1 : Nat) : Int) 1, b, p', [], [], [], [], [], List.replicate n (-1), List.replicate n (-1), List.replicate m (-1), idI n, y24, y25, y26, y27, y28)) → X) → ∀ p', RdOk b p' (k + 3 * j) → X :=
      fun y23 y24 y25 y26 y27 y28 hc X hX p' hr => hX p' hr fun q => go _ _ _ _ _ _ hr (hc q)
    have rest : ∀ (y23 : Bool) (y24 y25 y26 y27 y28 : List Int), (y23 = true → CB y24 y25 y26 y27 y28) → Ms_l13Rd_pick 4 b (p + 1 + 1) fun (y29 : Int) (y30 : Int) =>
        (((y29 == 0) = true → (Ms_DropRoot l r ro fr ct a fun (y31 : Bool) (y32 : List Int) (y33 : List Int) (y34 : List Int) (y35 : List Int) (y36 : List Int) =>
          ((y31 = true → Kb (isub ((j + 1 : Nat) : Int) 1, b, y30, [], [], [], [], [], List.replicate n (-1), List.replicate n (-1), List.replicate m (-1), idI n, y32, y33, y34, y35, y36)) ∧
          (y31 = false → Kb (isub ((j + 1 : Nat) : Int) 1, b, y30, [], [], [], [], [], List.replicate n (-1), List.replicate n (-1), List.replicate m (-1), idI n, l, r, ro, fr, ct))))) ∧
        ((y29 == 0) = false → (((y29 == 1) = true → (Ms_LinkCounted l r ro fr ct a c fun (y37 : Bool) (y38 : List Int) (y39 : List Int) (y40 : List Int) (y41 : List Int) (y42 : List Int) =>
          ((y37 = true → Kb (isub ((j + 1 : Nat) : Int) 1, b, y30, [], [], [], [], [], List.replicate n (-1), List.replicate n (-1), List.replicate m (-1), idI n, y38, y39, y40, y41, y42)) ∧
          (y37 = false → Kb (isub ((j + 1 : Nat) : Int) 1, b, y30, [], [], [], [], [], List.replicate n (-1), List.replicate n (-1), List.replicate m (-1), idI n, l, r, ro, fr, ct))))) ∧
        ((y29 == 1) = false → ((y23 = true → Kb (isub ((j + 1 : Nat) : Int) 1, b, y30, [], [], [], [], [], List.replicate n (-1), List.replicate n (-1), List.replicate m (-1), idI n, y24, y25, y26, y27, y28)) ∧
          (y23 = false → Kb (isub ((j + 1 : Nat) : Int) 1, b, y30, [], [], [], [], [], List.replicate n (-1), List.replicate n (-1), List.replicate m (-1), idI n, l, r, ro, fr, ct))))))) := fun y23 y24 y25 y26 y27 y28 hc =>
      L_pick (k := k + 3 * j) h fun v _ _ h2 => by
        have stay := go _ _ _ _ _ _ h2 cb
        refine br (fun _ => L_sDropRoot' cb (br_f rfl stay) fun l' r' ro' fr' ct' cb' => br_t rfl (go _ _ _ _ _ _ h2 cb')) fun _ => br (fun _ => L_LinkCounted cb (br_f rfl stay) fun l' r' ro' fr' ct' cb' => br_t rfl (go _ _ _ _ _ _ h2 cb')) fun _ => br (fun q => go _ _ _ _ _ _ h2 (hc q)) fun _ => stay
    exact L_TakeCounted cb (rest _ _ _ _ _ _ fun q => by cases q) fun l' r' ro' fr' ct' cb' => rest _ _ _ _ _ _ fun _ => cb'
  · exact hK _ _ _ _ _ _ (h.le (by omega)) cb
/-- Lists that are drawn: not too long. -/
structure DB (B : Nat) (l r ro : List Int) : Prop where
  l1 : 1 ≤ l.length
  l : l.length ≤ B
  r : r.length ≤ B
  ro : ro.length ≤ B
theorem L_l1Wrong' {b l r ro : List Int} {B : Nat} {p : Int} {k : Nat} {K : Int → List Int → List Int → List Int → Prop} (hB : B ≤ 100) (hd : DB B l r ro) (h : RdOk b p (k + 3)) (hK : ∀ p' l' r' ro', RdOk b p' k → DB (B + 1) l' r' ro' → K p' l' r' ro') : Ms_l1Wrong b p l r ro K := by
  have h1 := hd.l1; have h2 := hd.l; have h3 := hd.r; have h4 := hd.ro
  refine ⟨by omega, by omega, by omega, L_pick (k := k + 2) h fun v v0 v1 hr => eqN (fun _ => ?_) fun _ => eqN (fun _ => ?_) fun _ => eqN (fun _ => ?_) fun _ => eqN (fun _ => ?_) fun _ => ?_⟩
  · refine L_pick (k := k + 1) hr fun w w0 w1 hr2 => L_num (k := k) hr2 (by simp) fun u hu hr3 => ?_
    have w1 := w1 (by simp only [len_eq]; omega)
    simp only [len_eq] at w1
    exact ⟨⟨w0, w1⟩, hK _ _ _ _ hr3 ⟨by simp [uL]; omega, by simp [uL]; omega, by omega, by omega⟩⟩
  · exact ⟨by simp; omega, hK _ _ _ _ (hr.le (by omega)) ⟨by omega, by omega, by simp; omega, by omega⟩⟩
  · exact L_num (k := k + 1) hr (by simp) fun u hu hr2 => ⟨by simp; omega, hK _ _ _ _ (hr2.le (by omega)) ⟨by omega, by omega, by omega, by simp; omega⟩⟩
  · exact hK _ _ _ _ (hr.le (by omega)) ⟨by omega, by omega, by omega, by simp⟩
  · exact hK _ _ _ _ (hr.le (by omega)) ⟨by omega, by omega, by omega, by omega⟩
theorem DB.le {B B' : Nat} {l r ro : List Int} (h : DB B l r ro) (hb : B ≤ B') : DB B' l r ro := ⟨h.l1, by have := h.l; omega, by have := h.r; omega, by have := h.ro; omega⟩
theorem L_l4Wrong {b l r ro fr : List Int} {B : Nat} {p : Int} {k : Nat} {K : Int → List Int → List Int → List Int → List Int → Prop} (hB : B ≤ 90) (hd : DB B l r ro) (hf : fr.length ≤ B) (h : RdOk b p (k + 7)) (hK : ∀ p' l' r' ro' fr', RdOk b p' k → DB (B + 2) l' r' ro' → fr'.length ≤ B + 1 → K p' l' r' ro' fr') : Ms_l4Wrong b p l r ro fr K := by
  have h1 := hd.l1; have h2 := hd.l; have h3 := hd.r; have h4 := hd.ro
  refine ⟨by omega, by omega, by omega, by omega, L_pick (k := k + 6) h fun v v0 v1 hr => eqN (fun _ => ?_) fun _ => eqN (fun _ => ?_) fun _ => ?_⟩
  · exact L_num (k := k + 5) hr (by simp) fun u hu hr2 => ⟨by simp; omega, hK _ _ _ _ _ (hr2.le (by omega)) (hd.le (by omega)) (by simp; omega)⟩
  · exact L_l1Wrong' (k := k + 3) (by omega) hd hr fun p1 l1 r1 ro1 hr1 hd1 => L_l1Wrong' (k := k) (by omega) hd1 hr1 fun p2 l2 r2 ro2 hr2 hd2 => hK _ _ _ _ _ hr2 hd2 (by omega)
  · exact hK _ _ _ _ _ (hr.le (by omega)) (hd.le (by omega)) (by omega)
theorem L_l9Wrong {b l r ro fr ct : List Int} {p : Int} {k : Nat} {K : Int → List Int → List Int → List Int → List Int → List Int → Prop} (cb : CB l r ro fr ct) (h : RdOk b p (k + 15)) (hK : ∀ p' l' r' ro' fr' ct', RdOk b p' k → fr'.length ≤ 30 → ct'.length ≤ 30 → K p' l' r' ro' fr' ct') : Ms_l9Wrong b p l r ro fr ct K := by
  have h1 := cb.l1; have h2 := cb.l16; have h3 := cb.r16; have h4 := cb.ro16; have h5 := cb.fr16; have h6 := cb.c16; have h7 := cb.c1
  refine ⟨by omega, by omega, by omega, by omega, by omega, L_pick (k := k + 14) h fun v v0 v1 hr => eqN (fun _ => ?_) fun _ => eqN (fun _ => ?_) fun _ => ?_⟩
  · refine L_pick (k := k + 13) hr fun w w0 w1 hr2 => L_num (k := k + 12) hr2 (by simp) fun u hu hr3 => ?_
    have w1 := w1 (by simp only [len_eq]; omega)
    simp only [len_eq] at w1
    exact ⟨⟨w0, w1⟩, hK _ _ _ _ _ _ (hr3.le (by omega)) (by omega) (by simp [uL]; omega)⟩
  · exact L_l4Wrong (k := k + 7) (B := 16) (by omega) ⟨h1, h2, h3, h4⟩ h5 hr fun p1 l1 r1 ro1 fr1 hr1 hd1 hf1 => L_l4Wrong (k := k) (B := 18) (by omega) hd1 (by omega) hr1 fun p2 l2 r2 ro2 fr2 hr2 hd2 hf2 => hK _ _ _ _ _ _ hr2 (by omega) (by omega)
  · exact hK _ _ _ _ _ _ (hr.le (by omega)) (by omega) (by omega)
theorem L_DrawDropRoot {c : List Int} {K : Int → List Int → List Int → List Int → List Int → List Int → Prop} (hc : ∀ x ∈ c, U8 x) (hK : ∀ i l r ro fr ct, fr.length ≤ 30 → ct.length ≤ 30 → K i l r ro fr ct) : Ms_DrawDropRoot c K := by
  unfold Ms_DrawDropRoot Ms_DrawTakeCounted Ms_l9Case
  exact L_l13Open hc fun b hb => L_l9Draw (k := 17) (hb.le (by omega)) fun p l r ro fr ct hr cb => L_l9Wrong (k := 2) cb hr fun p' l' r' ro' fr' ct' hr' a1 a2 =>
    L_num (k := 1) hr' (by simp) fun u _ hr2 => L_num (k := 0) hr2 (by simp) fun w _ _ => hK _ _ _ _ _ _ a1 a2
theorem L_iCountedSame {l r ro fr ct l' r' ro' fr' ct' : List Int} {K : Bool → Prop} (hp : l.length < 2 ^ 62) (hq : r.length < 2 ^ 62) (hr : ro.length < 2 ^ 62) (hf : fr.length < 2 ^ 62) (hc : ct.length < 2 ^ 62) (e1 : l = l') (e2 : r = r') (e3 : ro = ro') (e4 : fr = fr') (e5 : ct = ct') (hK : K true) : Mi_CountedSame l r ro fr ct l' r' ro' fr' ct' K := by
  subst e1; subst e2; subst e3; subst e4; subst e5
  exact L_iStoreSame hp hq hr hf (br_t (by simp) (L_Equal_int hc (by simpa using hK)))
theorem law_FnDropLive {c : List Int} (hc : ∀ x ∈ c, U8 x) {K : Bool → Prop} (hK : K true) : Ml_FnDropLive c K := by
  unfold Ml_FnDropLive
  refine br (fun _ => hK) fun _ => L_DrawDropRoot hc fun i l r ro fr ct a1 a2 => ?_
  refine L_iDropRoot (by omega) (by omega) (fun hn => L_sDropRoot (by omega) (fun _ => ?_) fun hy => absurd hy hn) fun hy => L_sDropRoot (by omega) (fun hn => absurd hy hn) fun _ => ?_
  · have same : ∀ {Q : Bool → Prop}, Q true → Mi_CountedSame [] [] [] [] [] [] [] [] [] [] Q := fun h => L_iCountedSame (by simp) (by simp) (by simp) (by simp) (by simp) rfl rfl rfl rfl rfl h
    exact same (br_f rfl (br_f rfl (br_t rfl (same (br_t rfl (by simpa using hK))))))
  · obtain ⟨⟨hv, rfl⟩, i0, i1⟩ := hy
    have hv' := set_valid hv.h i
    obtain ⟨hg, hs⟩ := drop_end hv i0 i1
    have hdv := drop_valid hv i0 i1
    have hal := drop_alike hv i0 i1
    have h8 := hv.h.l8; have hlr := hv.h.lr
    have q1 := hg.ll; have q2 := hg.lr; have q3 := hg.lc; have q4 := hg.bf; have q5 := hg.r3
    generalize dropF l r ro fr i = F at *
    refine L_iCountedSame (by omega) (by omega) (by omega) (by omega) (by omega) rfl rfl rfl rfl rfl (br_f rfl (br_f rfl (br_f rfl (L_PutRoot hv.h i0 i1 ⟨by omega, by omega⟩ (L_Reachable (fun _ => ?_) fun hh => absurd hv' hh)))))
    refine LoopP_for (fun j s => s = (true, (j : Int), rchF l r (ro.set i.toNat (-1)), F.l, F.r, ro.set i.toNat (-1), F.fr, F.ct, l, r, ro.set i.toNat (-1))) l.length rfl ?_ ?_
    · rintro j _ hj rfl Kb hKb
      have next := hKb (true, ((j + 1 : Nat) : Int), rchF l r (ro.set i.toNat (-1)), F.l, F.r, ro.set i.toNat (-1), F.fr, F.ct, l, r, ro.set i.toNat (-1)) rfl
      refine br_t (by simp [len_eq, rchF_len]; exact hj) ⟨by rw [inB_nat]; dsimp only; rw [rchF_len]; exact hj, ?_⟩
      simp only [gB_nat]
      rw [rchF_getD hj, iadd_nat (by omega)]
      refine br (fun e => L_IsFree (by omega) (br_f ?_ next)) fun _ => next
      have hm := (mem_ordF hv').1 (of_decide_eq_true e)
      exact decide_eq_false fun q => (hs _ hm).2.2 q.2
    · rintro _ rfl Kb
      refine br_f (by simp [len_eq, rchF_len]) ?_
      exact br_t rfl (L_iHeapsAlike (by simpa [hal] using hK))
end Go.Ab
