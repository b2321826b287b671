/-
  What is proved here: the plain laws that the law FnCopyCount needs: what its functions compute, and that its model returns true. Conditions: those written in each statement.
-/
import Derived.Test.YtldakbacfokohaaGM
namespace Go.Ab
set_option linter.unusedVariables false
set_option linter.unusedSimpArgs false
theorem wrap64 {x : Int} (h1 : -9223372036854775808 ≤ x) (h2 : x < 9223372036854775808) : IntKind.i64.wrap x = x := by
  simp [IntKind.wrap, IntKind.signed, IntKind.bits]
  split <;> omega
theorem iadd_eq {a b : Int} (h1 : -9223372036854775808 ≤ a + b) (h2 : a + b < 9223372036854775808) : iadd a b = a + b := wrap64 h1 h2
theorem isub_eq {a b : Int} (h1 : -9223372036854775808 ≤ a - b) (h2 : a - b < 9223372036854775808) : isub a b = a - b := wrap64 h1 h2
theorem imul_eq {a b : Int} (h1 : -9223372036854775808 ≤ a * b) (h2 : a * b < 9223372036854775808) : imul a b = a * b := wrap64 h1 h2
theorem iadd_nat {i : Nat} (h : i < 2 ^ 62) : iadd (i : Int) 1 = ((i + 1 : Nat) : Int) := by rw [iadd_eq] <;> omega
theorem inB_nat {i n : Nat} : inB (i : Int) n = (i < n) := by simp [inB]
theorem gI_nat (l : List Int) (i : Nat) : gI l (i : Int) = l.getD i 0 := by simp [gI, EK.dflt]
theorem gB_nat (l : List Bool) (i : Nat) : gB l (i : Int) = l.getD i false := by simp [gB, EK.dflt]
theorem uL_nat {α : Type} (l : List α) (i : Nat) (v : α) : uL l (i : Int) v = l.set i v := by simp [uL]
theorem len_eq {α : Type} (l : List α) : len l = (l.length : Int) := rfl
/-- A loop that counts. -/
theorem LoopP_for {S : Type} {body : S → (S → Prop) → (S → Prop) → Prop} {Kx : S → Prop} {s : S} (J : Nat → S → Prop) (n : Nat) (h0 : J 0 s)
    (step : ∀ i s, i < n → J i s → ∀ Kb : S → Prop, (∀ s', J (i + 1) s' → Kb s') → body s Kb Kx) (last : ∀ s, J n s → ∀ Kb : S → Prop, body s Kb Kx) : LoopP body s Kx := by
  suffices hh : ∀ k i s, n - i < k → i ≤ n → J i s → itP body k s Kx from ⟨n + 1, hh _ 0 s (by omega) (by omega) h0⟩
  intro k
  induction k with
  | zero => intro i s h; omega
  | succ k ih =>
    intro i s hk hi hj
    by_cases e : i = n
    · subst e; exact last s hj _
    · exact step i s (by omega) hj _ fun s' h' => ih (i + 1) s' (by omega) (by omega) h'
theorem br {b : Bool} {P Q : Prop} (h1 : b = true → P) (h2 : b = false → Q) : (b = true → P) ∧ (b = false → Q) := ⟨h1, h2⟩
theorem br_t {b : Bool} {P Q : Prop} (h : b = true) (hp : P) : (b = true → P) ∧ (b = false → Q) := ⟨fun _ => hp, fun h' => by rw [h] at h'; cases h'⟩
theorem br_f {b : Bool} {P Q : Prop} (h : b = false) (hq : Q) : (b = true → P) ∧ (b = false → Q) := ⟨fun h' => (by rw [h] at h'; cases h'), fun _ => hq⟩
theorem getD_lt {α : Type} {l : List α} {i : Nat} {d : α} (h : i < l.length) : l.getD i d = l[i] := by simp [List.getD_eq_getElem?_getD, h]
theorem eqL_iff {α : Type} (d : α) (p q : List α) (h : p.length = q.length) (hj : ∀ j, j < p.length → p.getD j d = q.getD j d) : p = q := by
  apply List.ext_getElem h
  intro i h1 h2
  have := hj i h1
  rwa [getD_lt h1, getD_lt h2] at this
/-- Two lists are compared. -/
theorem eqLoop3 {α : Type} [DecidableEq α] (d : α) (p1 p2 : List α) (hb : p1.length < 2 ^ 62) (K : Bool → Prop) (hK : K (decide (p1 = p2))) (hl : p1.length = p2.length) :
    (LoopP (S := List α × List α × Int) (fun s1 Kb1 Kx1 =>
(((decide (s1.2.2 < (len s1.1))) = true →
((inB s1.2.2 (List.length s1.1)) ∧
((inB s1.2.2 (List.length s1.2.1)) ∧
((((s1.1.getD s1.2.2.toNat d) != (s1.2.1.getD s1.2.2.toNat d)) = true →
(K false)) ∧
(((s1.1.getD s1.2.2.toNat d) != (s1.2.1.getD s1.2.2.toNat d)) = false →
(Kb1 (s1.1, s1.2.1, (iadd s1.2.2 1)))))))) ∧
((decide (s1.2.2 < (len s1.1))) = false →
(Kx1 (s1.1, s1.2.1, s1.2.2)))))
(p1, p2, 0) fun s1 => (K true)) := by
  refine LoopP_for (fun i s => s = (p1, p2, (i : Int)) ∧ ∀ j, j < i → p1.getD j d = p2.getD j d) p1.length ⟨rfl, by omega⟩ ?_ ?_
  · rintro i _ hi ⟨rfl, hj⟩ Kb hKb
    refine br_t (by simp [len_eq]; exact hi) ⟨by simp [inB_nat]; exact hi, by simp [inB_nat]; omega, br (fun h => ?_) fun h => ?_⟩
    · simp at h
      have : p1 ≠ p2 := fun e => h (by rw [e])
      simpa [this] using hK
    · simp at h
      refine hKb _ ⟨by rw [iadd_nat (by omega)], fun j hji => ?_⟩
      rcases Nat.lt_succ_iff_lt_or_eq.1 hji with e | e
      · exact hj j e
      · subst e; exact h
  · rintro _ ⟨rfl, hj⟩ Kb
    refine br_f (by simp [len_eq]) ?_
    have := eqL_iff d p1 p2 hl hj
    simpa [this] using hK
theorem eqLoop4 {α : Type} [DecidableEq α] (d : α) (p1 p2 : List α) (hb : p1.length < 2 ^ 62) (K : Bool → Prop) (hK : K (decide (p1 = p2))) (hl : p1.length = p2.length) :
    (LoopP (S := List α × List α × Int × Int) (fun s1 Kb1 Kx1 =>
(((decide (s1.2.2.2 < s1.2.2.1)) = true →
((inB s1.2.2.2 (List.length s1.1)) ∧
((inB s1.2.2.2 (List.length s1.2.1)) ∧
((((s1.1.getD s1.2.2.2.toNat d) != (s1.2.1.getD s1.2.2.2.toNat d)) = true →
(K false)) ∧
(((s1.1.getD s1.2.2.2.toNat d) != (s1.2.1.getD s1.2.2.2.toNat d)) = false →
(Kb1 (s1.1, s1.2.1, s1.2.2.1, (iadd s1.2.2.2 1)))))))) ∧
((decide (s1.2.2.2 < s1.2.2.1)) = false →
(Kx1 (s1.1, s1.2.1, s1.2.2.1, s1.2.2.2)))))
(p1, p2, len p1, 0) fun s1 => (K true)) := by
  refine LoopP_for (fun i s => s = (p1, p2, len p1, (i : Int)) ∧ ∀ j, j < i → p1.getD j d = p2.getD j d) p1.length ⟨rfl, by omega⟩ ?_ ?_
  · rintro i _ hi ⟨rfl, hj⟩ Kb hKb
    refine br_t (by simp [len_eq]; exact hi) ⟨by simp [inB_nat]; exact hi, by simp [inB_nat]; omega, br (fun h => ?_) fun h => ?_⟩
    · simp at h
      have : p1 ≠ p2 := fun e => h (by rw [e])
      simpa [this] using hK
    · simp at h
      refine hKb _ ⟨by rw [iadd_nat (by omega)], fun j hji => ?_⟩
      rcases Nat.lt_succ_iff_lt_or_eq.1 hji with e | e
      · exact hj j e
      · subst e; exact h
  · rintro _ ⟨rfl, hj⟩ Kb
    refine br_f (by simp [len_eq]) ?_
    have := eqL_iff d p1 p2 hl hj
    simpa [this] using hK
theorem eqGate {α : Type} [DecidableEq α] {p1 p2 : List α} {K : Bool → Prop} {P : Prop} (hK : K (decide (p1 = p2))) (h : p1.length = p2.length → P) :
    (((len p1) != (len p2)) = true → (K false)) ∧ (((len p1) != (len p2)) = false → P) := by
  refine br (fun e => ?_) fun e => h ?_
  · have : p1 ≠ p2 := by rintro rfl; simp at e
    simpa [this] using hK
  · simp [len_eq] at e; omega
theorem L_ccInts {p q : List Int} {K : Bool → Prop} (hp : p.length < 2 ^ 62) (hK : K (decide (p = q))) : Ml_ccInts p q K := eqGate hK fun hl => eqLoop3 0 p q hp K hK hl
theorem L_Equal_int {p q : List Int} {K : Bool → Prop} (hp : p.length < 2 ^ 62) (hK : K (decide (p = q))) : M_Equal_int p q K := eqGate hK fun hl => eqLoop4 0 p q hp K hK hl
theorem L_iHeapSame {p q r p' q' r' : List Int} {K : Bool → Prop} (hp : p.length < 2 ^ 62) (hq : q.length < 2 ^ 62) (hr : r.length < 2 ^ 62) (hK : K (decide (p = p' ∧ q = q' ∧ r = r'))) : Mi_HeapSame p q r p' q' r' K := by
  refine L_Equal_int hp (br (fun h1 => L_Equal_int hq (br (fun h2 => L_Equal_int hr ?_) fun h2 => ?_)) fun h1 => ?_)
  · simp at h1 h2; simpa [h1, h2] using hK
  · simp at h1 h2; simpa [h1, h2] using hK
  · simp at h1; simpa [h1] using hK
theorem step_t {b : Bool} {P Q : Prop} (h : b = true) (hq : Q) : ((!b) = true → P) ∧ ((!b) = false → Q) := br_f (by simp [h]) hq
def okP (n : Nat) (x : Int) : Prop := -1 ≤ x ∧ x < n
instance (n : Nat) (x : Int) : Decidable (okP n x) := inferInstanceAs (Decidable (_ ∧ _))
/-- A valid heap. -/
structure HVp (l r ro : List Int) : Prop where
  lr : l.length = r.length
  l1 : 1 ≤ l.length
  l8 : l.length ≤ 8
  r1 : 1 ≤ ro.length
  r3 : ro.length ≤ 3
  okl : ∀ x ∈ l, okP l.length x
  okr : ∀ x ∈ r, okP l.length x
  oko : ∀ x ∈ ro, okP l.length x
instance (l r ro : List Int) : Decidable (HVp l r ro) :=
  decidable_of_iff (l.length = r.length ∧ 1 ≤ l.length ∧ l.length ≤ 8 ∧ 1 ≤ ro.length ∧ ro.length ≤ 3 ∧ (∀ x ∈ l, okP l.length x) ∧ (∀ x ∈ r, okP l.length x) ∧ (∀ x ∈ ro, okP l.length x))
    ⟨fun ⟨a, b, c, d, e, f, g, h⟩ => ⟨a, b, c, d, e, f, g, h⟩, fun ⟨a, b, c, d, e, f, g, h⟩ => ⟨a, b, c, d, e, f, g, h⟩⟩
theorem all_getD {α : Type} (d : α) {l : List α} {p : α → Prop} (h : ∀ j, j < l.length → p (l.getD j d)) : ∀ x ∈ l, p x := by
  intro x hx
  obtain ⟨i, hi, rfl⟩ := List.getElem_of_mem hx
  have := h i hi
  rwa [getD_lt hi] at this
theorem getD_mem {α : Type} (d : α) {l : List α} {i : Nat} (h : i < l.length) : l.getD i d ∈ l := by rw [getD_lt h]; exact List.getElem_mem h
theorem L_l1Points {a : Int} {n : Nat} {K : Bool → Prop} (hK : K (decide (okP n a))) : Ms_l1Points a n K := by
  refine br (fun h => ?_) fun h => ?_
  · simp at h; simpa [okP, h] using hK
  · simp at h; rw [decide_eq_false (fun hh => by have := hh.1; omega)] at hK; exact hK
theorem L_sHeapValid {l r ro : List Int} {K : Bool → Prop} (hK : K (decide (HVp l r ro))) : Ms_HeapValid l r ro K := by
  have no : ¬ HVp l r ro → K false := fun h => by rwa [decide_eq_false h] at hK
  have yes : HVp l r ro → K true := fun h => by rwa [decide_eq_true h] at hK
  refine br (fun h => no fun hh => ?_) fun h1 => br (fun h => no fun hh => ?_) fun h2 => br (fun h => no fun hh => ?_) fun h3 => br (fun h => no fun hh => ?_) fun h4 => br (fun h => no fun hh => ?_) fun h5 => ?_
  · have := hh.l1; replace h := of_decide_eq_true h; simp only [len_eq] at h; omega
  · have := hh.l8; simp [len_eq] at h; omega
  · have := hh.lr; simp [len_eq] at h; omega
  · have := hh.r1; replace h := of_decide_eq_true h; simp only [len_eq] at h; omega
  · have := hh.r3; simp [len_eq] at h; omega
  replace h1 : 1 ≤ l.length := by have := of_decide_eq_false h1; simp only [len_eq] at this; omega
  replace h2 : l.length ≤ 8 := by have := of_decide_eq_false h2; simp only [len_eq] at this; omega
  replace h3 : r.length = l.length := by simp [len_eq] at h3; omega
  replace h4 : 1 ≤ ro.length := by have := of_decide_eq_false h4; simp only [len_eq] at this; omega
  replace h5 : ro.length ≤ 3 := by have := of_decide_eq_false h5; simp only [len_eq] at this; omega
  refine LoopP_for (fun i s => s = (len l, (i : Int), l, r, ro) ∧ ∀ j, j < i → okP l.length (l.getD j 0) ∧ okP l.length (r.getD j 0)) l.length ⟨rfl, by omega⟩ ?_ ?_
  · rintro i _ hi ⟨rfl, hj⟩ Kb hKb
    refine br_t (by simp [len_eq]; exact hi) ⟨by simp [inB_nat]; exact hi, ?_⟩
    refine L_l1Points (br (fun h => no fun hh => ?_) fun h => ⟨by simp [inB_nat]; omega, L_l1Points (br (fun h' => no fun hh => ?_) fun h' => hKb _ ⟨by rw [iadd_nat (by omega)], fun j hji => ?_⟩)⟩)
    · simp [-List.getD_eq_getElem?_getD, gI_nat] at h; exact h (hh.okl _ (getD_mem 0 hi))
    · simp [-List.getD_eq_getElem?_getD, gI_nat] at h'; exact h' (hh.okr _ (getD_mem 0 (by omega)))
    · simp [-List.getD_eq_getElem?_getD, gI_nat] at h h'
      rcases Nat.lt_succ_iff_lt_or_eq.1 hji with e | e
      · exact hj j e
      · subst e; exact ⟨h, h'⟩
  · rintro _ ⟨rfl, hj⟩ Kb
    refine br_f (by simp [len_eq]) ?_
    refine LoopP_for (fun i s => s = (len l, (i : Int), l, r, ro) ∧ ∀ j, j < i → okP l.length (ro.getD j 0)) ro.length ⟨rfl, by omega⟩ ?_ ?_
    · rintro i _ hi ⟨rfl, hk⟩ Kb hKb
      refine br_t (by simp [len_eq]; exact hi) ⟨by simp [inB_nat]; exact hi, ?_⟩
      refine L_l1Points (br (fun h => no fun hh => ?_) fun h => hKb _ ⟨by rw [iadd_nat (by omega)], fun j hji => ?_⟩)
      · simp [-List.getD_eq_getElem?_getD, gI_nat] at h; exact h (hh.oko _ (getD_mem 0 hi))
      · simp [-List.getD_eq_getElem?_getD, gI_nat] at h
        rcases Nat.lt_succ_iff_lt_or_eq.1 hji with e | e
        · exact hk j e
        · subst e; exact h
    · rintro _ ⟨rfl, hk⟩ Kb
      refine br_f (by simp [len_eq]) (yes ⟨h3.symm, h1, h2, h4, h5, all_getD 0 fun j h => (hj j h).1, all_getD 0 fun j h => (hj j (by omega)).2, all_getD 0 hk⟩)
theorem L_iHeapValid {l r ro : List Int} {K : Bool → Prop} (hK : K (decide (HVp l r ro))) : Mi_HeapValid l r ro K := by
  have no : ¬ HVp l r ro → K false := fun h => by rwa [decide_eq_false h] at hK
  have yes : HVp l r ro → K true := fun h => by rwa [decide_eq_true h] at hK
  refine br (fun h => no fun hh => ?_) fun h3 => br (fun h => no fun hh => ?_) fun h1 => br (fun h => no fun hh => ?_) fun h2 => br (fun h => no fun hh => ?_) fun h4 => br (fun h => no fun hh => ?_) fun h5 => ?_
  · have := hh.lr; simp [len_eq] at h; omega
  · have := hh.l1; replace h := of_decide_eq_true h; simp only [len_eq] at h; omega
  · have := hh.l8; simp [len_eq] at h; omega
  · have := hh.r1; replace h := of_decide_eq_true h; simp only [len_eq] at h; omega
  · have := hh.r3; simp [len_eq] at h; omega
  replace h1 : 1 ≤ l.length := by have := of_decide_eq_false h1; simp only [len_eq] at this; omega
  replace h2 : l.length ≤ 8 := by have := of_decide_eq_false h2; simp only [len_eq] at this; omega
  replace h3 : r.length = l.length := by simp [len_eq] at h3; omega
  replace h4 : 1 ≤ ro.length := by have := of_decide_eq_false h4; simp only [len_eq] at this; omega
  replace h5 : ro.length ≤ 3 := by have := of_decide_eq_false h5; simp only [len_eq] at this; omega
  have hlen : ∀ i, i < 3 → (([l, r, ro] : List (List Int)).getD i []).length ≤ 8 := by
    intro i hi
    match i, hi with
    | 0, _ => exact h2
    | 1, _ => show r.length ≤ 8; omega
    | 2, _ => show ro.length ≤ 8; omega
  have hmem : HVp l r ro → ∀ i, i < 3 → ∀ x ∈ ([l, r, ro] : List (List Int)).getD i [], okP l.length x := by
    intro hh i hi
    match i, hi with
    | 0, _ => exact hh.okl
    | 1, _ => exact hh.okr
    | 2, _ => exact hh.oko
  refine LoopP_for (fun i s => s = (3, (i : Int), l, r, ro, [l, r, ro]) ∧ ∀ j, j < i → ∀ x ∈ ([l, r, ro] : List (List Int)).getD j [], okP l.length x) 3 ⟨rfl, by omega⟩ ?_ ?_
  · rintro i _ hi ⟨rfl, hj⟩ Kb hKb
    have hg : gL [l, r, ro] (i : Int) = ([l, r, ro] : List (List Int)).getD i [] := by simp [gL, EK.dflt]
    refine br_t (by simp; omega) ⟨by simp [inB_nat]; exact hi, ?_⟩
    simp only [hg]
    have hl := hlen i hi
    have hm := fun hh => hmem hh i hi
    generalize hq : ([l, r, ro] : List (List Int)).getD i [] = q at hl hm
    refine LoopP_for (fun k s => s = (3, (i : Int), q, len q, (k : Int), l, r, ro, [l, r, ro]) ∧ ∀ j, j < k → okP l.length (q.getD j 0)) q.length ⟨rfl, by omega⟩ ?_ ?_
    · rintro k _ hk ⟨rfl, hkj⟩ Kb' hKb'
      refine br_t (by simp [len_eq]; exact hk) ⟨by simp [inB_nat]; exact hk, br (fun h => no fun hh => ?_) fun h => br (fun h' => no fun hh => ?_) fun h' => hKb' _ ⟨by rw [iadd_nat (by omega)], fun j hji => ?_⟩⟩
      · have := of_decide_eq_true h; simp only [gI_nat] at this; have := (hm hh _ (getD_mem 0 hk)).1; omega
      · have := of_decide_eq_true h'; simp only [gI_nat, len_eq] at this; have := (hm hh _ (getD_mem 0 hk)).2; omega
      · have a := of_decide_eq_false h
        have b := of_decide_eq_false h'
        simp only [gI_nat, len_eq] at a b
        rcases Nat.lt_succ_iff_lt_or_eq.1 hji with e | e
        · exact hkj j e
        · subst e; exact ⟨by omega, by omega⟩
    · rintro _ ⟨rfl, hkj⟩ Kb'
      refine br_f (by simp [len_eq]) (hKb _ ⟨by rw [iadd_nat (by omega)], fun j hji => ?_⟩)
      rcases Nat.lt_succ_iff_lt_or_eq.1 hji with e | e
      · exact hj j e
      · subst e; rw [hq]; exact all_getD 0 hkj
  · rintro _ ⟨rfl, hj⟩ Kb
    refine br_f (by simp) (yes ⟨h3.symm, h1, h2, h4, h5, hj 0 (by omega), hj 1 (by omega), hj 2 (by omega)⟩)
theorem HVp.gl {l r ro : List Int} (h : HVp l r ro) {i : Nat} (hi : i < l.length) : okP l.length (l.getD i 0) := h.okl _ (getD_mem 0 hi)
theorem HVp.gr {l r ro : List Int} (h : HVp l r ro) {i : Nat} (hi : i < l.length) : okP l.length (r.getD i 0) := h.okr _ (getD_mem 0 (by rw [← h.lr]; exact hi))
theorem HVp.go {l r ro : List Int} (h : HVp l r ro) {i : Nat} (hi : i < ro.length) : okP l.length (ro.getD i 0) := h.oko _ (getD_mem 0 hi)
theorem nodup_len : ∀ (n : Nat) (l : List Nat), l.Nodup → (∀ x ∈ l, x < n) → l.length ≤ n
  | 0, l, _, h => by
    cases l with
    | nil => simp
    | cons a l => exact absurd (h a (by simp)) (by omega)
  | n + 1, l, hn, h => by
    by_cases hm : n ∈ l
    · have h1 := nodup_len n (l.erase n) (hn.erase n) fun x hx => by
        have h2 := (List.Nodup.mem_erase_iff hn).1 hx
        have := h x h2.2
        omega
      rw [List.length_erase_of_mem hm] at h1
      omega
    · have := nodup_len n l hn fun x hx => by
        have h2 := h x hx
        have : x ≠ n := fun e => hm (e ▸ hx)
        omega
      omega
/-- Different cells of a heap of n cells. -/
structure CellsP (n : Nat) (s : List Int) : Prop where
  nd : s.Nodup
  ok : ∀ x ∈ s, 0 ≤ x ∧ x < n
instance (n : Nat) (s : List Int) : Decidable (CellsP n s) := decidable_of_iff (s.Nodup ∧ ∀ x ∈ s, 0 ≤ x ∧ x < n) ⟨fun ⟨a, b⟩ => ⟨a, b⟩, fun ⟨a, b⟩ => ⟨a, b⟩⟩
theorem CellsP.len {n : Nat} {s : List Int} (h : CellsP n s) : s.length ≤ n := by
  have h1 : (s.map Int.toNat).Nodup := by
    rw [List.nodup_iff_pairwise_ne, List.pairwise_map]
    refine (List.nodup_iff_pairwise_ne.1 h.nd).imp_of_mem ?_
    intro a b ha hb hab
    have := h.ok a ha; have := h.ok b hb
    omega
  have := nodup_len n _ h1 fun x hx => by
    obtain ⟨a, ha, rfl⟩ := List.mem_map.1 hx
    have := h.ok a ha
    omega
  simpa using this
theorem CellsP.get {n : Nat} {s : List Int} (h : CellsP n s) {i : Nat} (hi : i < s.length) : 0 ≤ s.getD i 0 ∧ s.getD i 0 < n := h.ok _ (getD_mem 0 hi)
/-- Where is this number in the list? -/
def atL (l : List Int) (x : Int) : Int := if x ∈ l then ((l.idxOf x : Nat) : Int) else -1
theorem idxOf_first : ∀ {l : List Int} {x : Int} {i : Nat}, i < l.length → l.getD i 0 = x → (∀ j, j < i → l.getD j 0 ≠ x) → l.idxOf x = i
  | [], x, i, h, _, _ => by simp at h
  | a :: l, x, 0, _, h, _ => by
    simp at h
    subst h
    simp
  | a :: l, x, i + 1, h, h1, h2 => by
    have ha : a ≠ x := by simpa using h2 0 (by omega)
    rw [List.idxOf_cons]
    have : (a == x) = false := by simpa using ha
    rw [this]
    simp only [cond_false]
    rw [idxOf_first (by simpa using h) (by simpa using h1) fun j hj => by simpa using h2 (j + 1) (by omega)]
theorem atL_some {l : List Int} {x : Int} {i : Nat} (h : i < l.length) (h1 : l.getD i 0 = x) (h2 : ∀ j, j < i → l.getD j 0 ≠ x) : atL l x = i := by
  unfold atL
  rw [if_pos (by rw [← h1]; exact getD_mem 0 h), idxOf_first h h1 h2]
theorem atL_none {l : List Int} {x : Int} (h : ∀ j, j < l.length → l.getD j 0 ≠ x) : atL l x = -1 := by
  unfold atL
  rw [if_neg]
  intro hm
  obtain ⟨i, hi, rfl⟩ := List.getElem_of_mem hm
  exact h i hi (getD_lt hi)
theorem atL_neg {l : List Int} {x : Int} : (atL l x < 0) ↔ x ∉ l := by
  unfold atL
  split
  · rename_i h; simp only [h, not_true, iff_false]; omega
  · rename_i h; simp [h]
theorem L_l10At {l : List Int} {x : Int} {K : Int → Prop} (hl : l.length < 2 ^ 62) (hK : K (atL l x)) : Ms_l10At l x K := by
  refine LoopP_for (fun i s => s = (l, x, (i : Int)) ∧ ∀ j, j < i → l.getD j 0 ≠ x) l.length ⟨rfl, by omega⟩ ?_ ?_
  · rintro i _ hi ⟨rfl, hj⟩ Kb hKb
    refine br_t (by simp [len_eq]; exact hi) ⟨by simp [inB_nat]; exact hi, br (fun h => ?_) fun h => hKb _ ⟨by rw [iadd_nat (by omega)], fun j hji => ?_⟩⟩
    · simp only [gI_nat, beq_iff_eq] at h
      rwa [atL_some hi h hj] at hK
    · simp only [gI_nat, beq_eq_false_iff_ne] at h
      rcases Nat.lt_succ_iff_lt_or_eq.1 hji with e | e
      · exact hj j e
      · subst e; exact h
  · rintro _ ⟨rfl, hj⟩ Kb
    refine br_f (by simp [len_eq]) ?_
    rwa [atL_none hj] at hK
theorem L_Index_int {l : List Int} {x : Int} {K : Int → Prop} (hl : l.length < 2 ^ 62) (hK : K (atL l x)) : M_Index_int l x K := by
  refine LoopP_for (fun i s => s = (l, x, len l, (i : Int)) ∧ ∀ j, j < i → l.getD j 0 ≠ x) l.length ⟨rfl, by omega⟩ ?_ ?_
  · rintro i _ hi ⟨rfl, hj⟩ Kb hKb
    refine br_t (by simp [len_eq]; exact hi) ⟨by simp [inB_nat]; exact hi, br (fun h => ?_) fun h => hKb _ ⟨by rw [iadd_nat (by omega)], fun j hji => ?_⟩⟩
    · simp only [gI_nat, beq_iff_eq] at h
      rwa [atL_some hi h.symm hj] at hK
    · simp only [gI_nat, beq_eq_false_iff_ne] at h
      rcases Nat.lt_succ_iff_lt_or_eq.1 hji with e | e
      · exact hj j e
      · subst e; exact fun e => h e.symm
  · rintro _ ⟨rfl, hj⟩ Kb
    refine br_f (by simp [len_eq]) ?_
    rwa [atL_none hj] at hK
theorem L_Contains_int {l : List Int} {x : Int} {K : Bool → Prop} (hl : l.length < 2 ^ 62) (hK : K (decide (x ∈ l))) : M_Contains_int l x K := by
  refine L_Index_int hl ?_
  have : decide (atL l x ≥ 0) = decide (x ∈ l) := by
    have := @atL_neg l x
    by_cases h : x ∈ l
    · simp only [h, not_true, iff_false] at this; simp [h]; omega
    · simp only [h, not_false_eq_true, iff_true] at this; simp [h]; omega
  rw [this]; exact hK
/-- A cell is met. -/
def meet (x : Int) (s : List Int) : List Int := if x ≠ -1 ∧ x ∉ s then s ++ [x] else s
theorem meet_len (x : Int) (s : List Int) : (meet x s).length ≤ s.length + 1 := by unfold meet; split <;> simp
theorem meet_pre (x : Int) (s : List Int) : ∃ t, meet x s = s ++ t := by
  unfold meet
  split
  · exact ⟨_, rfl⟩
  · exact ⟨[], by simp⟩
theorem meet_mem {x y : Int} {s : List Int} (h : y ∈ meet x s) : y ∈ s ∨ (y = x ∧ x ≠ -1) := by
  unfold meet at h
  split at h
  · rename_i hh
    rcases List.mem_append.1 h with h | h
    · exact .inl h
    · simp at h; exact .inr ⟨h, hh.1⟩
  · exact .inl h
theorem mem_meet {x : Int} {s : List Int} (h : x ≠ -1) : x ∈ meet x s := by
  unfold meet
  by_cases hs : x ∈ s
  · rw [if_neg (fun hh => hh.2 hs)]; exact hs
  · rw [if_pos ⟨h, hs⟩]; simp
theorem meet_in {x : Int} {s : List Int} (h : x = -1 ∨ x ∈ s) : meet x s = s := by
  unfold meet
  rw [if_neg]
  rintro ⟨a, b⟩
  rcases h with h | h
  · exact a h
  · exact b h
theorem CellsP.meet {n : Nat} {x : Int} {s : List Int} (h : CellsP n s) (hx : okP n x) : CellsP n (meet x s) := by
  refine ⟨?_, fun y hy => ?_⟩
  · unfold Ab.meet
    split
    · rename_i hh
      rw [List.nodup_append]
      exact ⟨h.nd, by simp, fun a ha b hb => by simp at hb; subst hb; exact fun e => hh.2 (e ▸ ha)⟩
    · exact h.nd
  · rcases meet_mem hy with hy | ⟨rfl, hne⟩
    · exact h.ok y hy
    · have := hx.1; exact ⟨by omega, hx.2⟩
theorem L_l10Meet {x : Int} {s : List Int} {K : List Int → Prop} (hs : s.length < 2 ^ 36) (hK : K (meet x s)) : Ms_l10Meet x s K := by
  refine br (fun h => L_l10At (by omega) (br (fun h1 => ⟨by omega, by simp; omega, ?_⟩) fun h1 => ?_)) fun h => ?_
  · have h1 := of_decide_eq_true h1
    rw [atL_neg] at h1
    simp at h
    rwa [meet, if_pos ⟨h, h1⟩] at hK
  · have h1 := of_decide_eq_false h1
    rw [atL_neg] at h1
    rwa [meet_in (.inr (Classical.byContradiction h1))] at hK
  · simp at h
    rwa [meet_in (.inl h)] at hK
def metL (ps s : List Int) : List Int := ps.foldl (fun s p => meet p s) s
theorem metL_len : ∀ (ps s : List Int), (metL ps s).length ≤ s.length + ps.length
  | [], s => by simp [metL]
  | p :: ps, s => by
    have h1 := metL_len ps (meet p s)
    have h2 := meet_len p s
    simp only [metL, List.foldl_cons, List.length_cons] at h1 ⊢
    omega
theorem metL_succ {ps s : List Int} {i : Nat} (h : i < ps.length) : metL (ps.take (i + 1)) s = meet (ps.getD i 0) (metL (ps.take i) s) := by
  unfold metL
  rw [List.take_add_one, List.getElem?_eq_getElem h, getD_lt h, List.foldl_append]
  rfl
theorem L_met {ps s : List Int} {K : List Int → Prop} (hs : s.length + ps.length < 2 ^ 36) (hK : K (metL ps s)) : Mi_met ps s K := by
  refine LoopP_for (fun i st => st = (ps, len ps, (i : Int), metL (ps.take i) s)) ps.length rfl ?_ ?_
  · rintro i _ hi rfl Kb hKb
    have e : iadd (i : Int) 1 = ((i + 1 : Nat) : Int) := iadd_nat (by omega)
    have h1 := metL_len (ps.take i) s
    have h2 : (ps.take i).length ≤ ps.length := by simp; omega
    refine br_t (by simp [len_eq]; exact hi) ⟨by simp [inB_nat]; exact hi, br (fun h => L_Contains_int (by dsimp only; omega) (br (fun h1 => ⟨by simp only [List.length_singleton]; omega, hKb _ ?_⟩) fun h1 => hKb _ ?_)) fun h => hKb _ ?_⟩
    · simp only [gI_nat, bne_iff_ne] at h h1 ⊢
      rw [e, metL_succ hi, meet, if_pos ⟨h, by simpa using h1⟩]
    · simp only [gI_nat, bne_iff_ne] at h h1 ⊢
      rw [e, metL_succ hi, meet_in (.inr (by simpa using h1))]
    · simp only [gI_nat, bne_eq_false_iff_eq] at h ⊢
      rw [e, metL_succ hi, meet_in (.inl h)]
  · rintro _ rfl Kb
    refine br_f (by simp [len_eq]) ?_
    simpa using hK
/-- A step of copying. -/
def stepO (l r s : List Int) (i : Nat) : List Int := meet (r.getD (s.getD i 0).toNat 0) (meet (l.getD (s.getD i 0).toNat 0) s)
def bfs (l r : List Int) : Nat → Nat → List Int → List Int
  | 0, i, s => s
  | f + 1, i, s => if i < s.length then bfs l r f (i + 1) (stepO l r s i) else s
def ordF (l r ro : List Int) : List Int := bfs l r (l.length + 1) 0 (metL ro [])
theorem bfs_end {l r s : List Int} {f i : Nat} (h : ¬ i < s.length) : bfs l r f i s = s := by
  cases f with
  | zero => rfl
  | succ f => simp [bfs, h]
theorem HVp.atl {l r ro : List Int} (h : HVp l r ro) {x : Int} (h0 : 0 ≤ x) (h1 : x < l.length) : okP l.length (l.getD x.toNat 0) := h.gl (by omega)
theorem HVp.atr {l r ro : List Int} (h : HVp l r ro) {x : Int} (h0 : 0 ≤ x) (h1 : x < l.length) : okP l.length (r.getD x.toNat 0) := h.gr (by omega)
theorem CellsP.step {l r ro s : List Int} (hv : HVp l r ro) (h : CellsP l.length s) {i : Nat} (hi : i < s.length) : CellsP l.length (stepO l r s i) := by
  have := h.get hi
  exact (h.meet (hv.atl this.1 this.2)).meet (hv.atr this.1 this.2)
theorem metL_cells {n : Nat} : ∀ {ps s : List Int}, CellsP n s → (∀ x ∈ ps, okP n x) → CellsP n (metL ps s)
  | [], s, h, _ => h
  | p :: ps, s, h, hp => metL_cells (ps := ps) (h.meet (hp p (by simp))) fun x hx => hp x (by simp [hx])
theorem cells_nil (n : Nat) : CellsP n [] := ⟨by simp, by simp⟩
theorem bfs_cells {l r ro : List Int} (hv : HVp l r ro) : ∀ (f i : Nat) (s : List Int), CellsP l.length s → CellsP l.length (bfs l r f i s)
  | 0, i, s, h => h
  | f + 1, i, s, h => by
    simp only [bfs]
    split
    · rename_i hi; exact bfs_cells hv f (i + 1) _ (h.step hv hi)
    · exact h
theorem ordF_cells {l r ro : List Int} (hv : HVp l r ro) : CellsP l.length (ordF l r ro) := bfs_cells hv _ _ _ (metL_cells (cells_nil _) hv.oko)
theorem gI_at {l : List Int} {x : Int} : gI l x = l.getD x.toNat 0 := rfl
theorem meet_getD {x : Int} {s : List Int} {i : Nat} (hi : i < s.length) : (meet x s).getD i 0 = s.getD i 0 := by
  obtain ⟨t, ht⟩ := meet_pre x s
  rw [ht, List.getD_eq_getElem?_getD, List.getElem?_append_left hi, List.getD_eq_getElem?_getD]
theorem L_l10Order {l r ro : List Int} {K : List Int → Prop} (hv : HVp l r ro) (hK : K (ordF l r ro)) : Ms_l10Order l r ro K := by
  have h8 := hv.l8
  have h3 := hv.r3
  refine LoopP_for (fun i st => st = ((i : Int), l, r, ro, metL (ro.take i) [])) ro.length rfl ?_ ?_
  · rintro i _ hi rfl Kb hKb
    have h1 := metL_len (ro.take i) []
    refine br_t (by simp [len_eq]; exact hi) ⟨by simp [inB_nat]; exact hi, L_l10Meet (by simp only [List.length_take, List.length_nil] at h1; dsimp only; omega) (hKb _ ?_)⟩
    rw [iadd_nat (by omega), metL_succ hi, gI_nat]
  · rintro _ rfl Kb
    refine br_f (by simp [len_eq]) ?_
    simp only [List.take_length]
    refine LoopP_inv (fun st => ∃ (i : Nat) (s : List Int), st = ((i : Int), l, r, ro, s) ∧ CellsP l.length s ∧ i ≤ l.length ∧ bfs l r (l.length + 1 - i) i s = ordF l r ro) (fun st => l.length + 1 - st.1.toNat) ?_ ⟨0, _, rfl, metL_cells (cells_nil _) hv.oko, by omega, rfl⟩
    rintro _ ⟨i, s, rfl, hc, hi, he⟩ Kb hKb
    have hl := hc.len
    refine br (fun h => ?_) fun h => ?_
    · have h : i < s.length := by have := of_decide_eq_true h; simp only [len_eq] at this; omega
      have hg := hc.get h
      have hg' := hg
      rw [← meet_getD (x := l.getD (s.getD i 0).toNat 0) h] at hg'
      have hlr := hv.lr
      have hm := meet_len (l.getD (s.getD i 0).toNat 0) s
      refine ⟨by simp [inB_nat]; exact h, ⟨by simp only [gI_nat]; omega, by simp only [gI_nat]; omega⟩, L_l10Meet (by dsimp only; omega) ?_⟩
      simp only [gI_at, Int.toNat_natCast]
      obtain ⟨t, ht⟩ := meet_pre (l.getD (s.getD i 0).toNat 0) s
      refine ⟨by rw [inB_nat, ht, List.length_append]; omega, ⟨hg'.1, by omega⟩, L_l10Meet (by omega) (hKb _ ⟨i + 1, stepO l r s i, ?_, hc.step hv h, by omega, ?_⟩ ?_)⟩
      · rw [iadd_nat (by omega), meet_getD h]; rfl
      · have e : l.length + 1 - i = (l.length + 1 - (i + 1)) + 1 := by omega
        rw [e] at he
        simpa [bfs, h] using he
      · simp only [iadd_nat (show i < 2 ^ 62 by omega), Int.toNat_natCast]; omega
    · have h : ¬ i < s.length := by have := of_decide_eq_false h; simp only [len_eq] at this; omega
      rw [bfs_end h] at he
      rw [← he] at hK
      exact hK
theorem sub_all {α : Type} (l : List α) : sub l 0 (len l) = l := by simp [sub, len_eq]
theorem L_Clip_int {l : List Int} {K : List Int → Prop} (hK : K l) : M_Clip_int l K := by
  refine ⟨⟨by omega, by simp [len_eq], by omega, by omega⟩, ?_⟩
  rw [sub_all]; exact hK
theorem L_iOrderOf {l r ro : List Int} {K : List Int → Prop} (hK : K (if HVp l r ro then ordF l r ro else [])) : Mi_OrderOf l r ro K := by
  refine L_iHeapValid (br (fun h => ?_) fun h => ?_)
  · simp at h; simpa [h] using hK
  simp at h
  have hv := h
  have hK : K (ordF l r ro) := by simpa [h] using hK
  have h8 := hv.l8
  have h3 := hv.r3
  refine L_met (by simp; omega) ?_
  refine LoopP_inv (fun st => ∃ (i : Nat) (s : List Int), st = ((i : Int), l, r, ro, s) ∧ CellsP l.length s ∧ i ≤ l.length ∧ bfs l r (l.length + 1 - i) i s = ordF l r ro) (fun st => l.length + 1 - st.1.toNat) ?_ ⟨0, _, rfl, metL_cells (cells_nil _) hv.oko, by omega, rfl⟩
  rintro _ ⟨i, s, rfl, hc, hi, he⟩ Kb hKb
  have hl := hc.len
  refine br (fun h => ?_) fun h => ?_
  · have h : i < s.length := by have := of_decide_eq_true h; simp only [len_eq] at this; omega
    have hg := hc.get h
    have hlr := hv.lr
    refine ⟨by simp [inB_nat]; exact h, ⟨by simp only [gI_nat]; omega, by simp only [gI_nat]; omega⟩, by simp [inB_nat]; exact h, ⟨by simp only [gI_nat]; omega, by simp only [gI_nat]; omega⟩, L_met (by dsimp only [List.length_cons, List.length_nil]; omega) (hKb _ ⟨i + 1, stepO l r s i, ?_, hc.step hv h, by omega, ?_⟩ ?_)⟩
    · simp only [gI_at, Int.toNat_natCast]
      rw [iadd_nat (by omega)]; rfl
    · have e : l.length + 1 - i = (l.length + 1 - (i + 1)) + 1 := by omega
      rw [e] at he
      simpa [bfs, h] using he
    · simp only [iadd_nat (show i < 2 ^ 62 by omega), Int.toNat_natCast]; omega
  · have h : ¬ i < s.length := by have := of_decide_eq_false h; simp only [len_eq] at this; omega
    rw [bfs_end h] at he
    rw [← he] at hK
    exact L_Clip_int hK
theorem L_Clone_int {l : List Int} {K : List Int → Prop} (hl : l.length ≤ 2 ^ 36) (hK : K l) : M_Clone_int l K := by
  intro b hb
  refine br (fun h => ?_) fun _ => ⟨hl, hK⟩
  have : l.length = 0 := Classical.byContradiction fun hh => by rw [hb hh] at h; cases h
  rwa [List.length_eq_zero_iff.1 this] at hK
theorem L_copied {l r ro : List Int} {K : List Int → List Int → List Int → Prop} (hv : HVp l r ro) (hK : K l r ro) : Mi_copied l r ro K := by
  have := hv.l8; have := hv.lr; have := hv.r3
  exact L_Clone_int (by omega) (L_Clone_int (by omega) (L_Clone_int (by omega) hK))
theorem L_l1Copy {l r ro : List Int} {K : Prop} (hv : HVp l r ro) (hK : K) : Ms_l1Copy l r ro K := by
  have := hv.l8; have := hv.lr; have := hv.r3
  exact ⟨by omega, by omega, by omega, hK⟩
theorem L_has {l r ro : List Int} {c : Int} {K : Bool → Prop} (hK : K (decide (HVp l r ro ∧ 0 ≤ c ∧ c < l.length))) : Mi_has l r ro c K := by
  refine L_iHeapValid (br (fun h => br (fun h1 => ?_) fun h1 => ?_) fun h => ?_)
  · simp only [decide_eq_true_eq, ge_iff_le] at h h1
    have e : decide (c < len l) = decide (HVp l r ro ∧ 0 ≤ c ∧ c < l.length) := decide_eq_decide.2 ⟨fun hh => ⟨h, h1, hh⟩, fun hh => hh.2.2⟩
    rw [e]; exact hK
  · simp only [decide_eq_true_eq, ge_iff_le, decide_eq_false_iff_not] at h h1; rw [decide_eq_false (fun hh => h1 hh.2.1)] at hK; exact hK
  · simp at h; simpa [h] using hK
theorem L_pointer {l r ro : List Int} {c : Int} {K : Bool → Prop} (hK : K (decide (okP l.length c))) : Mi_pointer l r ro c K := L_l1Points (n := l.length) hK
/-- May this pointer be put? -/
structure PutP (l r ro : List Int) (c x : Int) : Prop where
  h : HVp l r ro
  c0 : 0 ≤ c
  c1 : c < l.length
  x : okP l.length x
instance (l r ro : List Int) (c x : Int) : Decidable (PutP l r ro c x) := decidable_of_iff (HVp l r ro ∧ 0 ≤ c ∧ c < l.length ∧ okP l.length x) ⟨fun ⟨a, b, c, d⟩ => ⟨a, b, c, d⟩, fun ⟨a, b, c, d⟩ => ⟨a, b, c, d⟩⟩
theorem L_iPutLeft {l r ro : List Int} {c x : Int} {K : Bool → List Int → List Int → List Int → Prop} (hy : PutP l r ro c x → K true (l.set c.toNat x) r ro) (hn : ¬ PutP l r ro c x → K false [] [] []) : Mi_PutLeft l r ro c x K := by
  refine L_has (br (fun h => hn fun hh => ?_) fun h => L_pointer (br (fun h1 => hn fun hh => ?_) fun h1 => ?_))
  · simp only [Bool.not_eq_true', decide_eq_false_iff_not] at h; exact h ⟨hh.h, hh.c0, hh.c1⟩
  · simp only [Bool.not_eq_true', decide_eq_false_iff_not] at h1; exact h1 hh.x
  · simp only [Bool.not_eq_false', decide_eq_true_eq] at h h1
    exact L_copied h.1 ⟨⟨h.2.1, h.2.2⟩, hy ⟨h.1, h.2.1, h.2.2, h1⟩⟩
theorem PutP.valid {l r ro : List Int} {c x : Int} (h : PutP l r ro c x) : HVp (l.set c.toNat x) r ro := by
  have := h.h
  refine ⟨by simpa using this.lr, by simpa using this.l1, by simpa using this.l8, this.r1, this.r3, fun y hy => ?_, fun y hy => by simpa using this.okr y hy, fun y hy => by simpa using this.oko y hy⟩
  simp only [List.length_set]
  rcases List.mem_or_eq_of_mem_set hy with hy | rfl
  · exact this.okl y hy
  · exact h.x
/-- A reader that may draw k more times. -/
structure RdOk (b : List Int) (p : Int) (k : Nat) : Prop where
  by_ : ∀ x ∈ b, 0 ≤ x ∧ x < 256
  len : b.length ≤ 2000
  p0 : 0 ≤ p
  pk : p + k ≤ 1099511627776
theorem RdOk.le {b : List Int} {p : Int} {k k' : Nat} (h : RdOk b p k) (hk : k' ≤ k) : RdOk b p k' := ⟨h.by_, h.len, h.p0, by have := h.pk; omega⟩
theorem RdOk.gY {b : List Int} {p : Int} {k : Nat} (h : RdOk b p k) {i : Int} (h0 : 0 ≤ i) (h1 : i < b.length) : 0 ≤ gY b i ∧ gY b i < 256 := by
  unfold Ab.gY
  exact h.by_ _ (getD_mem _ (by omega))
theorem xor_pos {a b : Int} (ha : 0 ≤ a) (ha' : a < 4611686018427387904) (hb : 0 ≤ b) (hb' : b < 4611686018427387904) :
    0 ≤ IntKind.wrap .i64 (((BitVec.ofInt (IntKind.bits .i64) a ^^^ BitVec.ofInt (IntKind.bits .i64) b).toNat : Int)) := by
  obtain ⟨x, rfl⟩ := Int.eq_ofNat_of_zero_le ha
  obtain ⟨y, rfl⟩ := Int.eq_ofNat_of_zero_le hb
  have hx : x < 2 ^ 62 := by omega
  have hy : y < 2 ^ 62 := by omega
  have h1 : x % 2 ^ 64 = x := Nat.mod_eq_of_lt (by omega)
  have h2 : y % 2 ^ 64 = y := Nat.mod_eq_of_lt (by omega)
  have h3 : (BitVec.ofInt (IntKind.bits .i64) (x : Int) ^^^ BitVec.ofInt (IntKind.bits .i64) (y : Int)).toNat = x ^^^ y := by
    rw [BitVec.toNat_xor]
    have e1 : (BitVec.ofInt (IntKind.bits .i64) (x : Int)).toNat = x % 2 ^ 64 := by simp [BitVec.toNat_ofInt, IntKind.bits]
    have e2 : (BitVec.ofInt (IntKind.bits .i64) (y : Int)).toNat = y % 2 ^ 64 := by simp [BitVec.toNat_ofInt, IntKind.bits]
    rw [e1, e2, h1, h2]
  rw [h3]
  have h4 : x ^^^ y < 2 ^ 62 := Nat.xor_lt_two_pow hx hy
  rw [wrap64 (by omega) (by omega)]
  omega
theorem tmod_in {x n : Int} (hx : 0 ≤ x) (hn : 1 ≤ n) : 0 ≤ x.tmod n ∧ x.tmod n < n := by
  rw [Int.tmod_eq_emod_of_nonneg hx]
  exact ⟨Int.emod_nonneg _ (by omega), Int.emod_lt_of_pos _ (by omega)⟩
theorem L_pick {n : Int} {b : List Int} {p : Int} {k : Nat} {K : Int → Int → Prop} (h : RdOk b p (k + 1)) (hK : ∀ v, 0 ≤ v → (1 ≤ n → v < n) → RdOk b (p + 1) k → K v (p + 1)) : Ms_l13Rd_pick n b p K := by
  have hp := h.p0
  have hk := h.pk
  have hl := h.len
  have e1 : iadd p 1 = p + 1 := iadd_eq (by omega) (by omega)
  have e2 : isub (p + 1) 1 = p := by rw [isub_eq (by omega) (by omega)]; omega
  have hr : RdOk b (p + 1) k := ⟨h.by_, h.len, by omega, by omega⟩
  unfold Ms_l13Rd_pick
  rw [e1, e2]
  refine br (fun h1 => hK 0 (by omega) (fun _ => by omega) hr) fun h1 => br (fun h2 => hK 0 (by omega) (fun _ => by omega) hr) fun h2 => ?_
  have h1 : 1 ≤ n := by have := of_decide_eq_false h1; omega
  have h2 : 0 < b.length := by simp [len_eq] at h2; exact List.length_pos_iff.2 h2
  refine br (fun h3 => ?_) fun h3 => ?_
  · have h3 : p < b.length := by have := of_decide_eq_true h3; simp only [len_eq] at this; omega
    have hg := h.gY hp h3
    refine ⟨⟨hp, h3⟩, by omega, ?_⟩
    have e3 : IntKind.wrap .i64 (gY b p) = gY b p := wrap64 (by omega) (by omega)
    have := tmod_in hg.1 h1
    dsimp only
    rw [e3]
    exact hK _ this.1 (fun _ => this.2) hr
  · have hl' : len b ≠ 0 := by simp only [len_eq]; omega
    have hl1 : (1 : Int) ≤ len b := by simp only [len_eq]; omega
    have hl2 : len b ≤ 2000 := by simp only [len_eq]; omega
    have m1 := tmod_in hp hl1
    have e4 : imul p 7 = p * 7 := imul_eq (by omega) (by omega)
    have e5 : iadd (p * 7) 3 = p * 7 + 3 := iadd_eq (by omega) (by omega)
    have m2 := tmod_in (show 0 ≤ p * 7 + 3 by omega) hl1
    have hg1 := h.gY (i := p.tmod (len b)) m1.1 m1.2
    have hg2 := h.gY (i := (p * 7 + 3).tmod (len b)) m2.1 m2.2
    have e6 : IntKind.wrap .i64 (gY b (p.tmod (len b))) = gY b (p.tmod (len b)) := wrap64 (by omega) (by omega)
    have e7 : IntKind.wrap .i64 (gY b ((p * 7 + 3).tmod (len b))) = gY b ((p * 7 + 3).tmod (len b)) := wrap64 (by omega) (by omega)
    rw [e4, e5]
    refine ⟨hl', ⟨m1.1, m1.2⟩, ?_⟩
    dsimp only
    refine ⟨hl', ⟨m2.1, m2.2⟩, ?_⟩
    rw [e6, e7]
    generalize gY b (p.tmod (len b)) = x1 at hg1
    generalize gY b ((p * 7 + 3).tmod (len b)) = x2 at hg2
    have q0 : 0 ≤ p.tdiv (len b) := Int.tdiv_nonneg hp (by omega)
    have q1 : p.tdiv (len b) ≤ p := by rw [Int.tdiv_eq_ediv_of_nonneg hp]; exact Int.ediv_le_self _ hp
    have f1 : imul x1 131 = x1 * 131 := imul_eq (by omega) (by omega)
    have f2 : imul x2 1117 = x2 * 1117 := imul_eq (by omega) (by omega)
    have f3 : imul p 29 = p * 29 := imul_eq (by omega) (by omega)
    have f4 : iquo p (len b) = p.tdiv (len b) := wrap64 (by omega) (by omega)
    rw [f1, f2, f3, f4]
    generalize p.tdiv (len b) = q at q0 q1
    have f5 : imul q 53 = q * 53 := imul_eq (by omega) (by omega)
    have f6 : iadd (x1 * 131) (x2 * 1117) = x1 * 131 + x2 * 1117 := iadd_eq (by omega) (by omega)
    have f7 : iadd (x1 * 131 + x2 * 1117) (p * 29) = x1 * 131 + x2 * 1117 + p * 29 := iadd_eq (by omega) (by omega)
    have f8 : iadd (x1 * 131 + x2 * 1117 + p * 29) (q * 53) = x1 * 131 + x2 * 1117 + p * 29 + q * 53 := iadd_eq (by omega) (by omega)
    rw [f5, f6, f7, f8]
    have g0 : 0 ≤ x1 * 131 + x2 * 1117 + p * 29 + q * 53 := by omega
    have g1 : x1 * 131 + x2 * 1117 + p * 29 + q * 53 < 4611686018427387904 := by omega
    generalize x1 * 131 + x2 * 1117 + p * 29 + q * 53 = x at g0 g1
    have r0 : 0 ≤ x.tdiv 64 := Int.tdiv_nonneg g0 (by omega)
    have r1 : x.tdiv 64 ≤ x := by rw [Int.tdiv_eq_ediv_of_nonneg g0]; exact Int.ediv_le_self _ g0
    have f9 : iquo x 64 = x.tdiv 64 := wrap64 (by omega) (by omega)
    refine ⟨hl', by omega, by omega, ?_⟩
    rw [f9]
    have := tmod_in (xor_pos g0 g1 r0 (by omega)) h1
    exact hK _ this.1 (fun _ => this.2) hr
theorem L_num {l b : List Int} {p : Int} {k : Nat} {K : Int → Int → Prop} (h : RdOk b p (k + 1)) (hl : 1 ≤ l.length) (hK : ∀ v, v ∈ l → RdOk b (p + 1) k → K v (p + 1)) : Ms_l13Rd_num l b p K := by
  refine L_pick h fun v h0 h1 hr => ?_
  have h1 := h1 (by simp only [len_eq]; omega)
  simp only [len_eq] at h1
  exact ⟨⟨h0, h1⟩, hK _ (getD_mem 0 (by omega)) hr⟩
theorem L_l13Open {c : List Int} {K : List Int → Int → Prop} (hc : ∀ x ∈ c, U8 x) (hK : ∀ b, RdOk b 0 1000000 → K b 0) : Ms_l13Open c K := by
  have h8 : ∀ x ∈ c, 0 ≤ x ∧ x < 256 := fun x hx => by
    have := hc x hx
    simp [U8, Lit.wf, IntKind.min, IntKind.max, IntKind.signed, IntKind.bits] at this
    omega
  refine br (fun h => ⟨⟨by omega, by omega, ?_⟩, hK _ ⟨fun x hx => ?_, ?_, by omega, by omega⟩⟩) fun h => hK _ ⟨h8, ?_, by omega, by omega⟩
  · have := of_decide_eq_true h; omega
  · simp only [sub] at hx; exact h8 x (List.mem_of_mem_take (List.mem_of_mem_drop hx))
  · simp [sub]; omega
  · have := of_decide_eq_false h; simp only [len_eq] at this; omega
theorem L_l1Many {n : Nat} {K : List Int → Prop} (hn : n ≤ 8) (hK : K (List.replicate n (-1))) : Ms_l1Many n K := by
  refine LoopP_for (fun i s => s = ((n : Int), (i : Int), List.replicate i (-1))) n rfl ?_ ?_
  · rintro i _ hi rfl Kb hKb
    refine br_t (by simp; omega) ⟨by simp; omega, hKb _ ?_⟩
    rw [iadd_nat (by omega), ← List.replicate_succ']
  · rintro _ rfl Kb
    exact br_f (by simp) hK
theorem L_sNewHeap {n m : Nat} {K : Bool → List Int → List Int → List Int → Prop} (hn : 1 ≤ n) (hn8 : n ≤ 8) (hm : 1 ≤ m) (hm3 : m ≤ 3) (hK : K true (List.replicate n (-1)) (List.replicate n (-1)) (List.replicate m (-1))) : Ms_NewHeap n m K :=
  br_f (by simp; omega) (br_f (by simp; omega) (br_f (by simp; omega) (br_f (by simp; omega) (L_l1Many hn8 (L_l1Many hn8 (L_l1Many (by omega) hK))))))
theorem ok_set {n : Nat} {l : List Int} {i : Nat} {v : Int} (h : ∀ x ∈ l, okP n x) (hv : okP n v) : ∀ x ∈ l.set i v, okP n x := fun x hx => by
  rcases List.mem_or_eq_of_mem_set hx with hx | rfl
  · exact h x hx
  · exact hv
theorem ok_rep {n m : Nat} : ∀ x ∈ List.replicate m (-1 : Int), okP n x := fun x hx => by
  have := (List.mem_replicate.1 hx).2
  subst this
  exact ⟨by omega, by omega⟩
theorem L_l1Draw {b : List Int} {p : Int} {k : Nat} {K : List Int → Int → List Int → List Int → List Int → Prop} (h : RdOk b p (k + 21)) (hK : ∀ p' l r ro, RdOk b p' k → HVp l r ro → K b p' l r ro) : Ms_l1Draw b p K := by
  refine L_num (k := k + 20) h (by simp) fun y1 hy1 h1 => L_num (k := k + 19) h1 (by simp) fun y3 hy3 h2 => ?_
  have ha : 1 ≤ y1 ∧ y1 ≤ 8 := by simp at hy1; omega
  have hb : 1 ≤ y3 ∧ y3 ≤ 3 := by simp at hy3; omega
  obtain ⟨n, rfl⟩ := Int.eq_ofNat_of_zero_le (show 0 ≤ y1 by omega)
  obtain ⟨m, rfl⟩ := Int.eq_ofNat_of_zero_le (show 0 ≤ y3 by omega)
  refine L_sNewHeap (by omega) (by omega) (by omega) (by omega) ?_
  refine LoopP_for (fun i s => ∃ p' L R, s = ((n : Int), (i : Int), b, p', [], [], [], L, R, List.replicate m (-1)) ∧ RdOk b p' (k + 3 + 2 * (n - i)) ∧ L.length = n ∧ R.length = n ∧ (∀ x ∈ L, okP n x) ∧ ∀ x ∈ R, okP n x) n
    ⟨_, _, _, rfl, h2.le (by omega), by simp, by simp, ok_rep, ok_rep⟩ ?_ ?_
  · rintro i _ hi ⟨p', L, R, rfl, hr, hL, hR, oL, oR⟩ Kb hKb
    have e1 : iadd (n : Int) 2 = n + 2 := iadd_eq (by omega) (by omega)
    refine br_t (by simp; omega) ?_
    dsimp only
    rw [e1]
    refine L_pick (k := k + 3 + 2 * (n - (i + 1)) + 1) (hr.le (by omega)) fun v hv0 hv1 hr1 => ⟨by rw [inB_nat]; omega, L_pick (k := k + 3 + 2 * (n - (i + 1))) hr1 fun w hw0 hw1 hr2 => ⟨by rw [inB_nat]; omega, by rw [inB_nat, uL_nat, List.length_set]; omega, ?_⟩⟩
    have hv1 := hv1 (by omega)
    have hw1 := hw1 (by omega)
    have e2 : isub v 1 = v - 1 := isub_eq (by omega) (by omega)
    have e3 : isub w 2 = w - 2 := isub_eq (by omega) (by omega)
    have g1 : (L.set i (v - 1)).getD i 0 = v - 1 := by rw [getD_lt (by rw [List.length_set]; omega)]; simp
    have g2 : (R.set i (w - 2)).getD i 0 = w - 2 := by rw [getD_lt (by rw [List.length_set]; omega)]; simp
    simp only [e2, e3, uL_nat, gI_nat, g1, g2, List.set_set, inB_nat, List.length_set, hL, hR, hi, true_and]
    have key : ∀ L' R', L'.length = n → R'.length = n → (∀ x ∈ L', okP n x) → (∀ x ∈ R', okP n x) → Kb ((n : Int), iadd (i : Int) 1, b, p' + 1 + 1, [], [], [], L', R', List.replicate m (-1)) := fun L' R' a1 a2 a3 a4 => hKb _ ⟨_, L', R', by rw [iadd_nat (by omega)], hr2, a1, a2, a3, a4⟩
    have m1 : okP n (-1) := ⟨by omega, by omega⟩
    refine br (fun c1 => br (fun c2 => ?_) fun c2 => ?_) fun c1 => br (fun c2 => ?_) fun c2 => ?_
    · exact key _ _ (by simpa using hL) (by simpa using hR) (ok_set oL m1) (ok_set oR m1)
    · exact key _ _ (by simpa using hL) (by simpa using hR) (ok_set oL m1) (ok_set oR ⟨by have := of_decide_eq_false c2; omega, by omega⟩)
    · exact key _ _ (by simpa using hL) (by simpa using hR) (ok_set oL ⟨by omega, by have := of_decide_eq_false c1; omega⟩) (ok_set oR m1)
    · exact key _ _ (by simpa using hL) (by simpa using hR) (ok_set oL ⟨by omega, by have := of_decide_eq_false c1; omega⟩) (ok_set oR ⟨by have := of_decide_eq_false c2; omega, by omega⟩)
  · rintro _ ⟨p', L, R, rfl, hr, hL, hR, oL, oR⟩ Kb
    refine br_f (by simp) ?_
    have e1 : iadd (n : Int) 1 = n + 1 := iadd_eq (by omega) (by omega)
    refine LoopP_for (fun i s => ∃ p' ro, s = ((n : Int), (i : Int), b, p', [], [], [], L, R, ro) ∧ RdOk b p' (k + (m - i)) ∧ ro.length = m ∧ ∀ x ∈ ro, okP n x) m ⟨_, _, rfl, hr.le (by omega), by simp, ok_rep⟩ ?_ ?_
    · rintro i _ hi ⟨p', ro, rfl, hr, hro, oro⟩ Kb hKb
      refine br_t (by simp [len_eq, hro]; omega) ?_
      dsimp only
      rw [e1]
      refine L_pick (k := k + (m - (i + 1))) (hr.le (by omega)) fun v hv0 hv1 hr1 => ⟨by rw [inB_nat]; omega, hKb _ ⟨_, ro.set i (v - 1), ?_, hr1, by simpa using hro, ok_set oro ?_⟩⟩
      · rw [iadd_nat (by omega), isub_eq (by omega) (by have := hv1 (by omega); omega), uL_nat]
      · have := hv1 (by omega); exact ⟨by omega, by omega⟩
    · rintro _ ⟨p', ro, rfl, hr, hro, oro⟩ Kb
      refine br_f (by simp [len_eq, hro]) ?_
      dsimp only
      exact (hK _ _ _ _ (hr.le (by omega)) ⟨by omega, by omega, by omega, by omega, by omega, by rw [hL]; exact oL, by rw [hL]; exact oR, by rw [hL]; exact oro⟩)
theorem eqN {v : Int} {n : Int} {P Q : Prop} (h1 : v = n → P) (h2 : v ≠ n → Q) : ((v == n) = true → P) ∧ ((v == n) = false → Q) := br (fun h => h1 (by simpa using h)) fun h => h2 (by simpa using h)
theorem L_l1Wrong {b l r ro : List Int} {p : Int} {k : Nat} {K : Int → List Int → List Int → List Int → Prop} (hv : HVp l r ro) (h : RdOk b p (k + 3)) (hK : ∀ p' l' r' ro', RdOk b p' k → l'.length ≤ 9 → r'.length ≤ 9 → ro'.length ≤ 9 → K p' l' r' ro') : Ms_l1Wrong b p l r ro K := by
  have h8 := hv.l8; have hlr := hv.lr; have h3 := hv.r3; have h1 := hv.l1
  refine L_l1Copy hv (L_pick (k := k + 2) h fun v v0 v1 hr => eqN (fun _ => ?_) fun _ => eqN (fun _ => ?_) fun _ => eqN (fun _ => ?_) fun _ => eqN (fun _ => ?_) fun _ => ?_)
  · refine L_pick (k := k + 1) hr fun w w0 w1 hr2 => L_num (k := k) hr2 (by simp) fun u hu hr3 => ?_
    have w1 := w1 (by simp only [len_eq]; omega)
    simp only [len_eq] at w1
    exact ⟨⟨w0, w1⟩, hK _ _ _ _ hr3 (by simp [uL]; omega) (by omega) (by omega)⟩
  · exact ⟨by simp; omega, hK _ _ _ _ (hr.le (by omega)) (by omega) (by simp; omega) (by omega)⟩
  · exact L_num (k := k + 1) hr (by simp) fun u hu hr2 => ⟨by simp; omega, hK _ _ _ _ (hr2.le (by omega)) (by omega) (by omega) (by simp; omega)⟩
  · exact hK _ _ _ _ (hr.le (by omega)) (by omega) (by omega) (by simp)
  · exact hK _ _ _ _ (hr.le (by omega)) (by omega) (by omega) (by omega)
theorem L_DrawHeapValid {c : List Int} {K : List Int → List Int → List Int → Prop} (hc : ∀ x ∈ c, U8 x) (hK : ∀ l r ro, l.length ≤ 9 → r.length ≤ 9 → ro.length ≤ 9 → K l r ro) : Ms_DrawHeapValid c K :=
  L_l13Open hc fun b hb => L_l1Draw (k := 3) (hb.le (by omega)) fun p l r ro hr hv => L_l1Wrong (k := 0) hv hr fun p' l' r' ro' hr' a1 a2 a3 => hK _ _ _ a1 a2 a3
/-- Pointers lead to this cell from one of S. -/
inductive Rc (l r : List Int) (S : Int → Prop) : Int → Prop where
  | base {x : Int} (h : S x) (hn : x ≠ -1) : Rc l r S x
  | left {y : Int} (h : Rc l r S y) (hn : l.getD y.toNat 0 ≠ -1) : Rc l r S (l.getD y.toNat 0)
  | right {y : Int} (h : Rc l r S y) (hn : r.getD y.toNat 0 ≠ -1) : Rc l r S (r.getD y.toNat 0)
theorem okP.cell {n : Nat} {x : Int} (h : okP n x) (hn : x ≠ -1) : 0 ≤ x ∧ x < n := by have := h.1; exact ⟨by omega, h.2⟩
theorem Rc.ok {l r ro : List Int} {S : Int → Prop} (hv : HVp l r ro) (hS : ∀ x, S x → okP l.length x) {x : Int} (h : Rc l r S x) : 0 ≤ x ∧ x < l.length := by
  induction h with
  | base h hn => exact (hS _ h).cell hn
  | left h hn ih => exact (hv.atl ih.1 ih.2).cell hn
  | right h hn ih => exact (hv.atr ih.1 ih.2).cell hn
theorem Rc.mono {l r : List Int} {S S' : Int → Prop} (hS : ∀ x, S x → S' x) {x : Int} (h : Rc l r S x) : Rc l r S' x := by
  induction h with
  | base h hn => exact .base (hS _ h) hn
  | left h hn ih => exact .left ih hn
  | right h hn ih => exact .right ih hn
theorem mem_meet_iff {x y : Int} {s : List Int} : y ∈ meet x s ↔ y ∈ s ∨ (y = x ∧ x ≠ -1) := by
  refine ⟨meet_mem, fun h => ?_⟩
  rcases h with h | ⟨rfl, h⟩
  · obtain ⟨t, ht⟩ := meet_pre x s
    rw [ht]; exact List.mem_append_left _ h
  · exact mem_meet h
theorem mem_metL_iff : ∀ {ps s : List Int} {y : Int}, y ∈ metL ps s ↔ y ∈ s ∨ (y ∈ ps ∧ y ≠ -1)
  | [], s, y => by simp [metL]
  | p :: ps, s, y => by
    have := @mem_metL_iff ps (meet p s) y
    have e : metL (p :: ps) s = metL ps (meet p s) := rfl
    rw [e, this, mem_meet_iff]
    constructor
    · rintro ((h | ⟨rfl, h⟩) | ⟨h, h2⟩)
      · exact .inl h
      · exact .inr ⟨by simp, h⟩
      · exact .inr ⟨by simp [h], h2⟩
    · rintro (h | ⟨h, h2⟩)
      · exact .inl (.inl h)
      · rcases List.mem_cons.1 h with rfl | h
        · exact .inl (.inr ⟨rfl, h2⟩)
        · exact .inr ⟨h, h2⟩
theorem mem_stepO {l r s : List Int} {i : Nat} {y : Int} : y ∈ stepO l r s i ↔ y ∈ s ∨ (y = l.getD (s.getD i 0).toNat 0 ∧ y ≠ -1) ∨ (y = r.getD (s.getD i 0).toNat 0 ∧ y ≠ -1) := by
  unfold stepO
  rw [mem_meet_iff, mem_meet_iff]
  constructor
  · rintro ((h | ⟨rfl, h⟩) | ⟨rfl, h⟩)
    · exact .inl h
    · exact .inr (.inl ⟨rfl, h⟩)
    · exact .inr (.inr ⟨rfl, h⟩)
  · rintro (h | ⟨rfl, h⟩ | ⟨rfl, h⟩)
    · exact .inl (.inl h)
    · exact .inl (.inr ⟨rfl, h⟩)
    · exact .inr ⟨rfl, h⟩
theorem stepO_pre' (l r s : List Int) (i : Nat) : ∃ t, stepO l r s i = s ++ t := by
  unfold stepO
  obtain ⟨t1, h1⟩ := meet_pre (l.getD (s.getD i 0).toNat 0) s
  obtain ⟨t2, h2⟩ := meet_pre (r.getD (s.getD i 0).toNat 0) (meet (l.getD (s.getD i 0).toNat 0) s)
  rw [h2, h1]
  exact ⟨t1 ++ t2, by simp⟩
theorem pre_getD {s s' : List Int} (h : ∃ t, s' = s ++ t) {i : Nat} (hi : i < s.length) : s'.getD i 0 = s.getD i 0 := by
  obtain ⟨t, rfl⟩ := h
  rw [List.getD_eq_getElem?_getD, List.getElem?_append_left hi, List.getD_eq_getElem?_getD]
theorem bfs_sound {l r : List Int} {R : Int → Prop} (hR : ∀ y, R y → (l.getD y.toNat 0 ≠ -1 → R (l.getD y.toNat 0)) ∧ (r.getD y.toNat 0 ≠ -1 → R (r.getD y.toNat 0))) : ∀ (f i : Nat) (s : List Int), (∀ x ∈ s, R x) → ∀ x ∈ bfs l r f i s, R x
  | 0, i, s, h => h
  | f + 1, i, s, h => by
    simp only [bfs]
    split
    · rename_i hi
      refine bfs_sound hR f (i + 1) _ fun x hx => ?_
      have hs := h _ (getD_mem 0 hi)
      rcases mem_stepO.1 hx with hx | ⟨rfl, hn⟩ | ⟨rfl, hn⟩
      · exact h x hx
      · exact (hR _ hs).1 hn
      · exact (hR _ hs).2 hn
    · exact h
/-- What the first k cells point to has been met. -/
def Done (l r s : List Int) (k : Nat) : Prop := ∀ j, j < k → j < s.length → (l.getD (s.getD j 0).toNat 0 = -1 ∨ l.getD (s.getD j 0).toNat 0 ∈ s) ∧ (r.getD (s.getD j 0).toNat 0 = -1 ∨ r.getD (s.getD j 0).toNat 0 ∈ s)
theorem Done.step {l r s : List Int} {i : Nat} (h : Done l r s i) (hi : i < s.length) : Done l r (stepO l r s i) (i + 1) := by
  intro j hj hjs
  have hp := stepO_pre' l r s i
  have hm : ∀ x, x ∈ s → x ∈ stepO l r s i := fun x hx => mem_stepO.2 (.inl hx)
  by_cases e : j < i
  · rw [pre_getD hp (by omega)]
    have := h j e (by omega)
    exact ⟨this.1.imp id (hm _), this.2.imp id (hm _)⟩
  · have e : j = i := by omega
    subst e
    rw [pre_getD hp hi]
    refine ⟨?_, ?_⟩
    · by_cases q : l.getD (s.getD j 0).toNat 0 = -1
      · exact .inl q
      · exact .inr (mem_stepO.2 (.inr (.inl ⟨rfl, q⟩)))
    · by_cases q : r.getD (s.getD j 0).toNat 0 = -1
      · exact .inl q
      · exact .inr (mem_stepO.2 (.inr (.inr ⟨rfl, q⟩)))
theorem bfs_done {l r ro : List Int} (hv : HVp l r ro) : ∀ (f i : Nat) (s : List Int), CellsP l.length s → i ≤ s.length → l.length + 1 ≤ f + i → Done l r s i → Done l r (bfs l r f i s) (bfs l r f i s).length
  | 0, i, s, hc, hi, hf, hd => by have := hc.len; omega
  | f + 1, i, s, hc, hi, hf, hd => by
    simp only [bfs]
    split
    · rename_i h
      obtain ⟨t, ht⟩ := stepO_pre' l r s i
      exact bfs_done hv f (i + 1) _ (hc.step hv h) (by rw [ht, List.length_append]; omega) (by omega) (hd.step h)
    · rename_i h
      have : i = s.length := by omega
      subst this
      exact hd
theorem bfs_mem {l r : List Int} {f i : Nat} {s : List Int} {x : Int} (h : x ∈ s) : x ∈ bfs l r f i s := by
  induction f generalizing i s with
  | zero => exact h
  | succ f ih =>
    simp only [bfs]
    split
    · exact ih (mem_stepO.2 (.inl h))
    · exact h
theorem mem_ordF {l r ro : List Int} (hv : HVp l r ro) {x : Int} : x ∈ ordF l r ro ↔ Rc l r (· ∈ ro) x := by
  constructor
  · intro h
    refine bfs_sound (R := Rc l r (· ∈ ro)) (fun y hy => ⟨fun hn => .left hy hn, fun hn => .right hy hn⟩) _ _ _ (fun x hx => ?_) x h
    rcases mem_metL_iff.1 hx with hx | ⟨hx, hn⟩
    · cases hx
    · exact .base hx hn
  · have hd : Done l r (ordF l r ro) (ordF l r ro).length := bfs_done hv _ _ _ (metL_cells (cells_nil _) hv.oko) (by omega) (by omega) (fun j hj => by omega)
    have hcl : ∀ y, y ∈ ordF l r ro → (l.getD y.toNat 0 = -1 ∨ l.getD y.toNat 0 ∈ ordF l r ro) ∧ (r.getD y.toNat 0 = -1 ∨ r.getD y.toNat 0 ∈ ordF l r ro) := by
      intro y hy
      obtain ⟨j, hj, rfl⟩ := List.getElem_of_mem hy
      have := hd j hj hj
      rwa [getD_lt hj] at this
    intro h
    induction h with
    | base h hn => exact bfs_mem (mem_metL_iff.2 (.inr ⟨h, hn⟩))
    | left h hn ih => exact ((hcl _ ih).1).resolve_left hn
    | right h hn ih => exact ((hcl _ ih).2).resolve_left hn
theorem neg_not_mem {n : Nat} {s : List Int} (h : CellsP n s) : (-1 : Int) ∉ s := fun hm => by have := (h.ok _ hm).1; omega
def dm (p far : Int) (st : List Int × List Int) : List Int × List Int := if p ≠ -1 ∧ st.1.getD p.toNat 0 = 0 then (st.1.set p.toNat far, st.2 ++ [p]) else st
structure DInv (n : Nat) (st : List Int × List Int) : Prop where
  len : st.1.length = n
  c : CellsP n st.2
  m : ∀ c : Nat, c < n → (st.1.getD c 0 ≠ 0 ↔ (c : Int) ∈ st.2)
  pos : ∀ c : Nat, c < n → 0 ≤ st.1.getD c 0
  up : ∀ c : Nat, c < n → st.1.getD c 0 ≤ st.2.length
theorem set_getD {l : List Int} {i j : Nat} {v : Int} (hi : i < l.length) : (l.set i v).getD j 0 = if i = j then v else l.getD j 0 := by
  rw [List.getD_eq_getElem?_getD, List.getElem?_set]
  by_cases e : i = j
  · subst e; simp [hi]
  · rw [if_neg e, if_neg e, List.getD_eq_getElem?_getD]
theorem DInv.meet {n : Nat} {st : List Int × List Int} (h : DInv n st) {p far : Int} (hp : okP n p) (h1 : 1 ≤ far) (h2 : far ≤ st.2.length + 1) : DInv n (dm p far st) ∧ (dm p far st).2 = meet p st.2 := by
  have hc2 : CellsP n (Ab.meet p st.2) := h.c.meet hp
  unfold dm
  by_cases q : p ≠ -1 ∧ st.1.getD p.toNat 0 = 0
  · obtain ⟨q0, q1⟩ := q
    have hpc := hp.cell q0
    obtain ⟨k, rfl⟩ := Int.eq_ofNat_of_zero_le hpc.1
    have hk : k < n := by omega
    have hnm : (k : Int) ∉ st.2 := fun hm => by
      have := (h.m k hk).2 hm
      simp only [Int.toNat_natCast] at q1
      exact this q1
    rw [if_pos ⟨q0, q1⟩]
    have e : Ab.meet (k : Int) st.2 = st.2 ++ [(k : Int)] := by unfold Ab.meet; rw [if_pos ⟨q0, hnm⟩]
    rw [e] at hc2 ⊢
    simp only [Int.toNat_natCast]
    refine ⟨⟨by simpa using h.len, hc2, fun c hc => ?_, fun c hc => ?_, fun c hc => ?_⟩, trivial⟩
    · show (st.1.set k far).getD c 0 ≠ 0 ↔ _
      rw [set_getD (by rw [h.len]; exact hk)]
      by_cases e : k = c
      · subst e; rw [if_pos rfl]; simp; omega
      · rw [if_neg e, h.m c hc]
        simp
        intro hh; omega
    · show 0 ≤ (st.1.set k far).getD c 0
      rw [set_getD (by rw [h.len]; exact hk)]
      split
      · omega
      · exact h.pos c hc
    · show (st.1.set k far).getD c 0 ≤ ((st.2 ++ [(k : Int)]).length : Int)
      rw [set_getD (by rw [h.len]; exact hk), List.length_append]
      have := h.up c hc
      split <;> simp only [List.length_singleton] <;> push_cast <;> omega
  · rw [if_neg q]
    refine ⟨h, ?_⟩
    by_cases q0 : p = -1
    · rw [meet_in (.inl q0)]
    · have hpc := hp.cell q0
      have q1 : st.1.getD p.toNat 0 ≠ 0 := fun hh => q ⟨q0, hh⟩
      have := (h.m p.toNat (by omega)).1 q1
      rw [meet_in (.inr (by rwa [Int.toNat_of_nonneg hpc.1] at this))]
theorem dm_keep {p far : Int} {st : List Int × List Int} {c : Nat} (h : st.1.getD c 0 ≠ 0) (hl : p ≠ -1 → 0 ≤ p ∧ p < st.1.length) : (dm p far st).1.getD c 0 = st.1.getD c 0 := by
  unfold dm
  split
  · rename_i q
    have := hl q.1
    show (st.1.set p.toNat far).getD c 0 = _
    rw [set_getD (by omega), if_neg]
    intro e
    rw [e] at q
    exact h q.2
  · rfl
/-- The values that stand do not fall along the order of meeting, and none is above this one. -/
structure DMon (out op : List Int) (top : Int) : Prop where
  mono : ∀ j k, j < k → k < op.length → out.getD (op.getD j 0).toNat 0 ≤ out.getD (op.getD k 0).toNat 0
  top : ∀ k, k < op.length → out.getD (op.getD k 0).toNat 0 ≤ top
theorem DMon.meet {n : Nat} {st : List Int × List Int} (h : DInv n st) {p far : Int} (hp : okP n p) (hm : DMon st.1 st.2 far) : DMon (dm p far st).1 (dm p far st).2 far := by
  unfold dm
  by_cases q : p ≠ -1 ∧ st.1.getD p.toNat 0 = 0
  · rw [if_pos q]
    have hpc := hp.cell q.1
    have hold : ∀ j, j < st.2.length → (st.1.set p.toNat far).getD ((st.2 ++ [p]).getD j 0).toNat 0 = st.1.getD (st.2.getD j 0).toNat 0 := by
      intro j hj
      rw [pre_getD ⟨[p], rfl⟩ hj, set_getD (by rw [h.len]; omega), if_neg]
      intro e
      have hg := h.c.get hj
      have hmm : ((st.2.getD j 0).toNat : Int) ∈ st.2 := by rw [Int.toNat_of_nonneg hg.1]; exact getD_mem 0 hj
      have := (h.m (st.2.getD j 0).toNat (by omega)).2 hmm
      rw [← e] at this
      exact this q.2
    have hnew : (st.1.set p.toNat far).getD ((st.2 ++ [p]).getD st.2.length 0).toNat 0 = far := by
      have : (st.2 ++ [p]).getD st.2.length 0 = p := by simp [List.getD_eq_getElem?_getD]
      rw [this, set_getD (by rw [h.len]; omega), if_pos rfl]
    refine ⟨fun j k hjk hk => ?_, fun k hk => ?_⟩
    · simp only [List.length_append, List.length_singleton] at hk
      show (st.1.set p.toNat far).getD ((st.2 ++ [p]).getD j 0).toNat 0 ≤ (st.1.set p.toNat far).getD ((st.2 ++ [p]).getD k 0).toNat 0
      rw [hold j (by omega)]
      by_cases e : k < st.2.length
      · rw [hold k e]; exact hm.mono j k hjk e
      · have e : k = st.2.length := by omega
        rw [e, hnew]
        exact hm.top j (by omega)
    · simp only [List.length_append, List.length_singleton] at hk
      show (st.1.set p.toNat far).getD ((st.2 ++ [p]).getD k 0).toNat 0 ≤ far
      by_cases e : k < st.2.length
      · rw [hold k e]; exact hm.top k e
      · have e : k = st.2.length := by omega
        rw [e, hnew]; exact Int.le_refl _
  · rw [if_neg q]; exact hm
/-- A step over one cell that was met. -/
def dst (l r : List Int) (st : List Int × List Int) (i : Nat) : List Int × List Int :=
  let c := (st.2.getD i 0).toNat
  dm (r.getD c 0) (st.1.getD c 0 + 1) (dm (l.getD c 0) (st.1.getD c 0 + 1) st)
def dbfs (l r : List Int) : Nat → Nat → List Int × List Int → List Int × List Int
  | 0, i, st => st
  | f + 1, i, st => if i < st.2.length then dbfs l r f (i + 1) (dst l r st i) else st
def drs (ps : List Int) (st : List Int × List Int) : List Int × List Int := ps.foldl (fun st p => dm p 1 st) st
def distF (l r ro : List Int) : List Int := (dbfs l r (l.length + 1) 0 (drs ro (List.replicate l.length 0, []))).1
theorem DInv.step {l r ro : List Int} (hv : HVp l r ro) {st : List Int × List Int} (h : DInv l.length st) {i : Nat} (hi : i < st.2.length) (hm : DMon st.1 st.2 (st.1.getD (st.2.getD i 0).toNat 0 + 1)) :
    DInv l.length (dst l r st i) ∧ (dst l r st i).2 = stepO l r st.2 i ∧ (dst l r st i).1.getD (st.2.getD i 0).toNat 0 = st.1.getD (st.2.getD i 0).toNat 0 ∧ DMon (dst l r st i).1 (dst l r st i).2 (st.1.getD (st.2.getD i 0).toNat 0 + 1) ∧
    (dm (l.getD (st.2.getD i 0).toNat 0) (st.1.getD (st.2.getD i 0).toNat 0 + 1) st).1.getD (st.2.getD i 0).toNat 0 = st.1.getD (st.2.getD i 0).toNat 0 := by
  have hg := h.c.get hi
  have hmm : ((st.2.getD i 0).toNat : Int) ∈ st.2 := by rw [Int.toNat_of_nonneg hg.1]; exact getD_mem 0 hi
  have hne := (h.m (st.2.getD i 0).toNat (by omega)).2 hmm
  have hpos := h.pos (st.2.getD i 0).toNat (by omega)
  have hup := h.up (st.2.getD i 0).toNat (by omega)
  have ol := hv.atl hg.1 hg.2
  have or_ := hv.atr hg.1 hg.2
  obtain ⟨h1, e1⟩ := h.meet (p := l.getD (st.2.getD i 0).toNat 0) (far := st.1.getD (st.2.getD i 0).toNat 0 + 1) ol (by omega) (by omega)
  have k1 : (dm (l.getD (st.2.getD i 0).toNat 0) (st.1.getD (st.2.getD i 0).toNat 0 + 1) st).1.getD (st.2.getD i 0).toNat 0 = st.1.getD (st.2.getD i 0).toNat 0 := dm_keep hne (fun q => by rw [h.len]; exact ol.cell q)
  have hlen : st.2.length ≤ (dm (l.getD (st.2.getD i 0).toNat 0) (st.1.getD (st.2.getD i 0).toNat 0 + 1) st).2.length := by
    rw [e1]; obtain ⟨t, ht⟩ := meet_pre (l.getD (st.2.getD i 0).toNat 0) st.2; rw [ht, List.length_append]; omega
  obtain ⟨h2, e2⟩ := h1.meet (p := r.getD (st.2.getD i 0).toNat 0) (far := st.1.getD (st.2.getD i 0).toNat 0 + 1) or_ (by omega) (by omega)
  refine ⟨h2, ?_, ?_, DMon.meet h1 or_ (DMon.meet h ol hm), k1⟩
  · show (dm _ _ (dm _ _ st)).2 = _
    rw [e2, e1]; rfl
  · show (dm _ _ (dm _ _ st)).1.getD _ 0 = _
    rw [dm_keep (by rw [k1]; exact hne) (fun q => by rw [h1.len]; exact or_.cell q), k1]
theorem dbfs_inv {l r ro : List Int} (hv : HVp l r ro) : ∀ (f i : Nat) (st : List Int × List Int), DInv l.length st → (i < st.2.length → DMon st.1 st.2 (st.1.getD (st.2.getD i 0).toNat 0 + 1)) → (∀ j k, j < k → k < st.2.length → st.1.getD (st.2.getD j 0).toNat 0 ≤ st.1.getD (st.2.getD k 0).toNat 0) →
    DInv l.length (dbfs l r f i st) ∧ (dbfs l r f i st).2 = bfs l r f i st.2 ∧ ∀ j k, j < k → k < (dbfs l r f i st).2.length → (dbfs l r f i st).1.getD ((dbfs l r f i st).2.getD j 0).toNat 0 ≤ (dbfs l r f i st).1.getD ((dbfs l r f i st).2.getD k 0).toNat 0
  | 0, i, st, h, hm, hmo => ⟨h, rfl, hmo⟩
  | f + 1, i, st, h, hm, hmo => by
    simp only [dbfs, bfs]
    by_cases hi : i < st.2.length
    · rw [if_pos hi, if_pos hi]
      obtain ⟨h1, e1, k1, m1, _⟩ := h.step hv hi (hm hi)
      rw [← e1]
      refine dbfs_inv hv f (i + 1) _ h1 (fun hi1 => ⟨m1.mono, fun k hk => ?_⟩) m1.mono
      have a1 := m1.top k hk
      have a2 := m1.mono i (i + 1) (by omega) hi1
      have a3 : (dst l r st i).2.getD i 0 = st.2.getD i 0 := by rw [e1]; exact pre_getD (stepO_pre' l r st.2 i) hi
      rw [a3, k1] at a2
      omega
    · rw [if_neg hi, if_neg hi]
      exact ⟨h, rfl, hmo⟩
theorem drs_inv {n : Nat} : ∀ {ps : List Int} {st : List Int × List Int}, DInv n st → (∀ x ∈ ps, okP n x) → DMon st.1 st.2 1 → DInv n (drs ps st) ∧ (drs ps st).2 = metL ps st.2 ∧ DMon (drs ps st).1 (drs ps st).2 1
  | [], st, h, _, hm => ⟨h, rfl, hm⟩
  | p :: ps, st, h, hp, hm => by
    obtain ⟨h1, e1⟩ := h.meet (p := p) (far := 1) (hp p (by simp)) (by omega) (by omega)
    have := drs_inv (ps := ps) h1 (fun x hx => hp x (by simp [hx])) (DMon.meet h (hp p (by simp)) hm)
    rw [e1] at this
    exact this
theorem dinv0 (n : Nat) : DInv n (List.replicate n 0, []) := by
  have h0 : ∀ c : Nat, (List.replicate n (0 : Int)).getD c 0 = 0 := fun c => by
    by_cases h : c < n
    · rw [getD_lt (by simpa using h)]; simp
    · rw [List.getD_eq_getElem?_getD, List.getElem?_eq_none (by simp; omega)]; rfl
  exact ⟨by simp, cells_nil n, fun c hc => by rw [h0]; simp, fun c hc => by rw [h0]; omega, fun c hc => by rw [h0]; simp⟩
theorem distF_inv {l r ro : List Int} (hv : HVp l r ro) : ∃ st : List Int × List Int, st.1 = distF l r ro ∧ st.2 = ordF l r ro ∧ DInv l.length st ∧ ∀ j k, j < k → k < st.2.length → st.1.getD (st.2.getD j 0).toNat 0 ≤ st.1.getD (st.2.getD k 0).toNat 0 := by
  obtain ⟨h1, e1, m1⟩ := drs_inv (dinv0 l.length) hv.oko ⟨fun j k _ hk => by simp at hk, fun k hk => by simp at hk⟩
  have hlow : ∀ k, k < (drs ro (List.replicate l.length 0, [])).2.length → 1 ≤ (drs ro (List.replicate l.length 0, [])).1.getD ((drs ro (List.replicate l.length 0, [])).2.getD k 0).toNat 0 := by
    intro k hk
    have hg := h1.c.get hk
    have hmm : (((drs ro (List.replicate l.length 0, [])).2.getD k 0).toNat : Int) ∈ (drs ro (List.replicate l.length 0, [])).2 := by rw [Int.toNat_of_nonneg hg.1]; exact getD_mem 0 hk
    have h2 := (h1.m _ (by omega)).2 hmm
    have h3 := h1.pos ((drs ro (List.replicate l.length 0, [])).2.getD k 0).toNat (by omega)
    omega
  obtain ⟨h2, e2, m2⟩ := dbfs_inv hv (l.length + 1) 0 _ h1 (fun hi => ⟨m1.mono, fun k hk => by have := m1.top k hk; have := hlow 0 hi; omega⟩) m1.mono
  refine ⟨_, rfl, ?_, h2, m2⟩
  rw [e2, e1]; rfl
theorem distF_pos {l r ro : List Int} (hv : HVp l r ro) {c : Nat} (hc : c < l.length) : 0 < (distF l r ro).getD c 0 ↔ (c : Int) ∈ ordF l r ro := by
  obtain ⟨st, e1, e2, h, _⟩ := distF_inv hv
  have a := h.m c hc
  have b := h.pos c hc
  rw [e1] at a b
  rw [e2] at a
  rw [← a]
  omega
/-- New numbers for the cells D. -/
structure Renum (l r ro l' r' ro' : List Int) (φ : Int → Int) (D : Int → Prop) : Prop where
  none : φ (-1) = -1
  hro : ro' = ro.map φ
  inj : ∀ x y, (D x ∨ x = -1) → (D y ∨ y = -1) → φ x = φ y → x = y
  hl : ∀ y, D y → l'.getD (φ y).toNat 0 = φ (l.getD y.toNat 0)
  hr : ∀ y, D y → r'.getD (φ y).toNat 0 = φ (r.getD y.toNat 0)
  dro : ∀ x ∈ ro, D x ∨ x = -1
  dl : ∀ y, D y → D (l.getD y.toNat 0) ∨ l.getD y.toNat 0 = -1
  dr : ∀ y, D y → D (r.getD y.toNat 0) ∨ r.getD y.toNat 0 = -1
section renum
variable {l r ro l' r' ro' : List Int} {φ : Int → Int} {D : Int → Prop}
theorem Renum.ne (h : Renum l r ro l' r' ro' φ D) {x : Int} (hx : D x ∨ x = -1) (hn : x ≠ -1) : φ x ≠ -1 := fun e => hn (h.inj x (-1) hx (.inr rfl) (by rw [e, h.none]))
theorem Renum.mem (h : Renum l r ro l' r' ro' φ D) {x : Int} {s : List Int} (hx : D x ∨ x = -1) (hs : ∀ y ∈ s, D y) : φ x ∈ s.map φ ↔ x ∈ s := by
  constructor
  · intro hm
    obtain ⟨y, hy, he⟩ := List.mem_map.1 hm
    have := h.inj y x (.inl (hs y hy)) hx he
    rwa [← this]
  · exact fun hm => List.mem_map_of_mem hm
theorem Renum.meet (h : Renum l r ro l' r' ro' φ D) {x : Int} {s : List Int} (hx : D x ∨ x = -1) (hs : ∀ y ∈ s, D y) : Ab.meet (φ x) (s.map φ) = (Ab.meet x s).map φ ∧ ∀ y ∈ Ab.meet x s, D y := by
  have hm := h.mem hx hs
  unfold Ab.meet
  by_cases q : x ≠ -1 ∧ x ∉ s
  · rw [if_pos q, if_pos ⟨h.ne hx q.1, fun e => q.2 (hm.1 e)⟩]
    refine ⟨by simp, fun y hy => ?_⟩
    rcases List.mem_append.1 hy with hy | hy
    · exact hs y hy
    · simp at hy; subst hy; exact hx.resolve_right q.1
  · rw [if_neg q, if_neg]
    · exact ⟨rfl, hs⟩
    · rintro ⟨q1, q2⟩
      refine q ⟨fun e => q1 (by rw [e, h.none]), fun e => q2 (hm.2 e)⟩
end renum
theorem atL_lo (s : List Int) (x : Int) : -1 ≤ atL s x := by unfold atL; split <;> omega
theorem atL_hi (s : List Int) (x : Int) : atL s x < s.length := by
  unfold atL
  split
  · rename_i h; have := List.idxOf_lt_length_of_mem h; omega
  · omega
theorem atL_get {s : List Int} {x : Int} (h : x ∈ s) : 0 ≤ atL s x ∧ s.getD (atL s x).toNat 0 = x := by
  unfold atL
  rw [if_pos h]
  refine ⟨by omega, ?_⟩
  simp only [Int.toNat_natCast]
  rw [getD_lt (List.idxOf_lt_length_of_mem h)]
  exact List.getElem_idxOf _
theorem atL_nil {s : List Int} {x : Int} (h : x ∉ s) : atL s x = -1 := by unfold atL; rw [if_neg h]
theorem atL_nth {n : Nat} {s : List Int} (h : CellsP n s) {i : Nat} (hi : i < s.length) : atL s (s.getD i 0) = i := by
  refine atL_some hi rfl fun j hj e => ?_
  rw [getD_lt hi, getD_lt (by omega)] at e
  have := (List.getElem_inj (h₀ := show j < s.length by omega) (h₁ := hi) h.nd).1 e
  omega
theorem ordF_cl {l r ro : List Int} (hv : HVp l r ro) {y : Int} (h : y ∈ ordF l r ro) : (l.getD y.toNat 0 ∈ ordF l r ro ∨ l.getD y.toNat 0 = -1) ∧ (r.getD y.toNat 0 ∈ ordF l r ro ∨ r.getD y.toNat 0 = -1) := by
  have := (mem_ordF hv).1 h
  refine ⟨?_, ?_⟩
  · by_cases q : l.getD y.toNat 0 = -1
    · exact .inr q
    · exact .inl ((mem_ordF hv).2 (.left this q))
  · by_cases q : r.getD y.toNat 0 = -1
    · exact .inr q
    · exact .inl ((mem_ordF hv).2 (.right this q))
theorem ordF_ro {l r ro : List Int} (hv : HVp l r ro) {x : Int} (h : x ∈ ro) : x ∈ ordF l r ro ∨ x = -1 := by
  by_cases q : x = -1
  · exact .inr q
  · exact .inl ((mem_ordF hv).2 (.base h q))
def canL (l o : List Int) : List Int := o.map fun c => atL o (l.getD c.toNat 0)
def cpL (l o : List Int) (n : Nat) : List Int := (List.range n).map fun i => if i < o.length then atL o (l.getD (o.getD i 0).toNat 0) else -1
def cpW (o : List Int) (n : Nat) : List Int := (List.range n).map fun (c : Nat) => atL o (c : Int)
theorem cpL_len (l o : List Int) (n : Nat) : (cpL l o n).length = n := by simp [cpL]
theorem cpW_len (o : List Int) (n : Nat) : (cpW o n).length = n := by simp [cpW]
theorem cpL_getD {l o : List Int} {n i : Nat} (hi : i < n) : (cpL l o n).getD i 0 = if i < o.length then atL o (l.getD (o.getD i 0).toNat 0) else -1 := by
  rw [getD_lt (by rw [cpL_len]; exact hi)]; simp [cpL]
theorem canL_len (l o : List Int) : (canL l o).length = o.length := by simp [canL]
theorem canL_getD {l o : List Int} {i : Nat} (hi : i < o.length) : (canL l o).getD i 0 = atL o (l.getD (o.getD i 0).toNat 0) := by
  rw [getD_lt (by rw [canL_len]; exact hi), getD_lt hi]; simp [canL]
theorem atL_ok {n : Nat} {o : List Int} (h : CellsP n o) (x : Int) : okP n (atL o x) := ⟨atL_lo _ _, by have := atL_hi o x; have := h.len; omega⟩
theorem cpL_ok {n : Nat} {l o : List Int} (h : CellsP n o) : ∀ x ∈ cpL l o n, okP n x := by
  intro x hx
  obtain ⟨i, _, rfl⟩ := List.mem_map.1 hx
  split
  · exact atL_ok h _
  · exact ⟨by omega, by omega⟩
theorem cp_valid {l r ro : List Int} (hv : HVp l r ro) : HVp (cpL l (ordF l r ro) l.length) (cpL r (ordF l r ro) l.length) (ro.map (atL (ordF l r ro))) := by
  have hc := ordF_cells hv
  refine ⟨by rw [cpL_len, cpL_len], by rw [cpL_len]; exact hv.l1, by rw [cpL_len]; exact hv.l8, by simpa using hv.r1, by simpa using hv.r3, ?_, ?_, ?_⟩
  · rw [cpL_len]; exact cpL_ok hc
  · rw [cpL_len]; exact cpL_ok hc
  · rw [cpL_len]
    intro x hx
    obtain ⟨y, _, rfl⟩ := List.mem_map.1 hx
    exact atL_ok hc _
theorem cpL_of_canL {l o : List Int} {n : Nat} (h : o.length ≤ n) : cpL l o n = canL l o ++ List.replicate (n - o.length) (-1) := by
  refine eqL_iff 0 _ _ (by rw [cpL_len, List.length_append, canL_len, List.length_replicate]; omega) fun j hj => ?_
  rw [cpL_len] at hj
  rw [cpL_getD hj]
  by_cases e : j < o.length
  · rw [if_pos e, pre_getD ⟨_, rfl⟩ (by rw [canL_len]; exact e), canL_getD e]
  · rw [if_neg e, List.getD_eq_getElem?_getD, List.getElem?_append_right (by rw [canL_len]; omega), canL_len, List.getElem?_replicate, if_pos (by omega)]
    rfl
structure AlikeP (l r ro l' r' ro' : List Int) : Prop where
  a : HVp l r ro
  b : HVp l' r' ro'
  cl : canL l (ordF l r ro) = canL l' (ordF l' r' ro')
  cr : canL r (ordF l r ro) = canL r' (ordF l' r' ro')
  co : ro.map (atL (ordF l r ro)) = ro'.map (atL (ordF l' r' ro'))
instance (l r ro l' r' ro' : List Int) : Decidable (AlikeP l r ro l' r' ro') :=
  decidable_of_iff (HVp l r ro ∧ HVp l' r' ro' ∧ canL l (ordF l r ro) = canL l' (ordF l' r' ro') ∧ canL r (ordF l r ro) = canL r' (ordF l' r' ro') ∧ ro.map (atL (ordF l r ro)) = ro'.map (atL (ordF l' r' ro')))
    ⟨fun ⟨a, b, c, d, e⟩ => ⟨a, b, c, d, e⟩, fun ⟨a, b, c, d, e⟩ => ⟨a, b, c, d, e⟩⟩
theorem AlikeP.len {l r ro l' r' ro' : List Int} (h : AlikeP l r ro l' r' ro') : (ordF l r ro).length = (ordF l' r' ro').length := by
  have := congrArg List.length h.cl
  rwa [canL_len, canL_len] at this
theorem AlikeP.symm {l r ro l' r' ro' : List Int} (h : AlikeP l r ro l' r' ro') : AlikeP l' r' ro' l r ro := ⟨h.b, h.a, h.cl.symm, h.cr.symm, h.co.symm⟩
structure MoveP (l r ro to : List Int) : Prop where
  h : HVp l r ro
  c : CellsP l.length to
  n : to.length = l.length
instance (l r ro to : List Int) : Decidable (MoveP l r ro to) := decidable_of_iff (HVp l r ro ∧ CellsP l.length to ∧ to.length = l.length) ⟨fun ⟨a, b, c⟩ => ⟨a, b, c⟩, fun ⟨a, b, c⟩ => ⟨a, b, c⟩⟩
def goes (to : List Int) (p : Int) : Int := if p = -1 then -1 else to.getD p.toNat 0
def mvL (to l : List Int) : List Int := (List.range to.length).map fun (c : Nat) => goes to (l.getD (to.idxOf (c : Int)) 0)
theorem mvL_len (to l : List Int) : (mvL to l).length = to.length := by simp [mvL]
theorem mvL_getD {to l : List Int} {c : Nat} (hc : c < to.length) : (mvL to l).getD c 0 = goes to (l.getD (to.idxOf (c : Int)) 0) := by
  rw [getD_lt (by rw [mvL_len]; exact hc)]; simp [mvL]
theorem idxOf_nth {n : Nat} {s : List Int} (h : CellsP n s) {i : Nat} (hi : i < s.length) : s.idxOf (s.getD i 0) = i := by
  have := atL_nth h hi
  unfold atL at this
  rw [if_pos (getD_mem 0 hi)] at this
  omega
theorem full {n : Nat} {s : List Int} (h : CellsP n s) (hn : s.length = n) {c : Nat} (hc : c < n) : (c : Int) ∈ s := by
  refine Classical.byContradiction fun hm => ?_
  have h2 : CellsP n (meet (c : Int) s) := h.meet ⟨by omega, by omega⟩
  have := h2.len
  unfold meet at this
  rw [if_pos ⟨by omega, hm⟩, List.length_append] at this
  simp at this
  omega
theorem goes_ok {n : Nat} {to : List Int} (h : CellsP n to) {p : Int} (hp : p = -1 ∨ (0 ≤ p ∧ p < to.length)) : okP n (goes to p) := by
  unfold goes
  split
  · exact ⟨by omega, by omega⟩
  · rename_i hh
    have := hp.resolve_left hh
    have := h.get (i := p.toNat) (by omega)
    exact ⟨by omega, by omega⟩
section moves
variable {l r ro to : List Int}
theorem MoveP.pt (h : MoveP l r ro to) {x : Int} (hx : okP l.length x) : x = -1 ∨ (0 ≤ x ∧ x < to.length) := by
  by_cases q : x = -1
  · exact .inl q
  · have := hx.cell q; have := h.n; exact .inr ⟨by omega, by omega⟩
theorem MoveP.idx (h : MoveP l r ro to) {c : Nat} (hc : c < to.length) : to.idxOf (c : Int) < to.length ∧ to.getD (to.idxOf (c : Int)) 0 = c := by
  have hm := full h.c h.n (c := c) (by rw [← h.n]; exact hc)
  have hl := List.idxOf_lt_length_of_mem hm
  exact ⟨hl, by rw [getD_lt hl]; exact List.getElem_idxOf _⟩
theorem MoveP.okv (h : MoveP l r ro to) {q : List Int} (hq : q.length = l.length) (hok : ∀ x ∈ q, okP l.length x) : ∀ x ∈ mvL to q, okP to.length x := by
  intro x hx
  obtain ⟨c, hc, rfl⟩ := List.mem_map.1 hx
  have hc : c < to.length := by simpa using hc
  have hi := h.idx hc
  have := h.n
  exact (by rw [h.n]; exact goes_ok h.c (h.pt (hok _ (getD_mem 0 (by omega)))))
theorem MoveP.valid (h : MoveP l r ro to) : HVp (mvL to l) (mvL to r) (ro.map (goes to)) := by
  have hn := h.n
  have hlr := h.h.lr
  refine ⟨by rw [mvL_len, mvL_len], by rw [mvL_len]; have := h.h.l1; omega, by rw [mvL_len]; have := h.h.l8; omega, by simpa using h.h.r1, by simpa using h.h.r3, ?_, ?_, ?_⟩
  · rw [mvL_len]; exact h.okv rfl h.h.okl
  · rw [mvL_len]; exact h.okv hlr.symm h.h.okr
  · rw [mvL_len]
    intro x hx
    obtain ⟨y, hy, rfl⟩ := List.mem_map.1 hx
    rw [hn]
    exact goes_ok h.c (h.pt (h.h.oko y hy))
theorem MoveP.get (h : MoveP l r ro to) {q : List Int} {y : Int} (h0 : 0 ≤ y) (h1 : y < l.length) : (mvL to q).getD (goes to y).toNat 0 = goes to (q.getD y.toNat 0) := by
  have hn := h.n
  have hg := h.c.get (i := y.toNat) (by omega)
  have e : goes to y = to.getD y.toNat 0 := by unfold goes; rw [if_neg (by omega)]
  rw [e, mvL_getD (by omega), Int.toNat_of_nonneg hg.1, idxOf_nth h.c (by omega)]
end moves
def clr (l : List Int) (g : Nat → Bool) : List Int := (List.range l.length).map fun i => if g i then -1 else l.getD i 0
theorem clr_len (l : List Int) (g : Nat → Bool) : (clr l g).length = l.length := by simp [clr]
theorem clr_getD {l : List Int} {g : Nat → Bool} {i : Nat} (hi : i < l.length) : (clr l g).getD i 0 = if g i then -1 else l.getD i 0 := by
  rw [getD_lt (by rw [clr_len]; exact hi)]; simp [clr]
theorem filt_get {p : Nat → Bool} {n i : Nat} (hi : i < (((List.range n).filter p).map fun (i : Nat) => (i : Int)).length) : ∃ c : Nat, (((List.range n).filter p).map fun (i : Nat) => (i : Int)).getD i 0 = c ∧ c < n ∧ p c = true := by
  have hm := getD_mem 0 hi
  obtain ⟨c, hc, he⟩ := List.mem_map.1 hm
  have := List.mem_filter.1 hc
  exact ⟨c, he.symm, by simpa using this.1, this.2⟩
theorem filt_mem {p : Nat → Bool} {n c : Nat} : ((c : Int) ∈ ((List.range n).filter p).map fun (i : Nat) => (i : Int)) ↔ c < n ∧ p c = true := by
  constructor
  · intro h
    obtain ⟨d, hd, he⟩ := List.mem_map.1 h
    have := List.mem_filter.1 hd
    have e : d = c := by omega
    subst e
    exact ⟨by simpa using this.1, this.2⟩
  · rintro ⟨h1, h2⟩
    exact List.mem_map.2 ⟨c, List.mem_filter.2 ⟨by simpa using h1, h2⟩, rfl⟩
theorem filt_congr {p q : Nat → Bool} {n : Nat} (h : ∀ i, i < n → p i = q i) : (List.range n).filter p = (List.range n).filter q := List.filter_congr fun i hi => h i (by simpa using hi)
section sc
variable {l r ro re : List Int} {old : List Bool}
theorem clr_ok {n : Nat} {q : List Int} {g : Nat → Bool} (h : ∀ x ∈ q, okP n x) : ∀ x ∈ clr q g, okP n x := by
  intro x hx
  obtain ⟨i, hi, rfl⟩ := List.mem_map.1 hx
  split
  · exact ⟨by omega, by omega⟩
  · exact h _ (getD_mem 0 (by simpa using hi))
theorem sc_valid (h : HVp l r ro) (g : Nat → Bool) : HVp (clr l g) (clr r g) ro :=
  ⟨by rw [clr_len, clr_len]; exact h.lr, by rw [clr_len]; exact h.l1, by rw [clr_len]; exact h.l8, h.r1, h.r3, by rw [clr_len]; exact clr_ok h.okl, by rw [clr_len]; exact clr_ok h.okr, by rw [clr_len]; exact h.oko⟩
end sc
def cnt (l : List Int) : Nat := l.countP (· != -1)
theorem countP_cast {o : List Int} {n : Nat} (h : CellsP n o) (p : Nat → Bool) : o.countP (fun c => p c.toNat) = (List.range n).countP fun (i : Nat) => decide ((i : Int) ∈ o) && p i := by
  have h1 : o.countP (fun c => p c.toNat) = (o.map Int.toNat).countP p := by rw [List.countP_map]; rfl
  have h2 : (o.map Int.toNat).Perm ((List.range n).filter fun i => decide ((i : Int) ∈ o)) := by
    refine (List.perm_ext_iff_of_nodup ?_ (List.Nodup.sublist List.filter_sublist List.nodup_range)).2 fun a => ?_
    · rw [List.nodup_iff_pairwise_ne, List.pairwise_map]
      refine (List.nodup_iff_pairwise_ne.1 h.nd).imp_of_mem ?_
      intro a b ha hb hab
      have := h.ok a ha; have := h.ok b hb
      omega
    · simp only [List.mem_map, List.mem_filter, List.mem_range, decide_eq_true_eq]
      constructor
      · rintro ⟨x, hx, rfl⟩
        have := h.ok x hx
        exact ⟨by omega, by rw [Int.toNat_of_nonneg this.1]; exact hx⟩
      · rintro ⟨_, hx⟩
        exact ⟨_, hx, by simp⟩
  rw [h1, h2.countP_eq, List.countP_filter]
  refine List.countP_congr fun a _ => ?_
  rw [Bool.and_comm]
theorem countP_mapP {α β : Type} (f : α → β) (p : β → Bool) (l : List α) : (l.map f).countP p = l.countP (fun a => p (f a)) := by rw [List.countP_map]; rfl
theorem cnt_map {f : Int → Int} {q : List Int} (h : ∀ x ∈ q, (f x = -1 ↔ x = -1)) : cnt (q.map f) = cnt q := by
  unfold cnt
  rw [countP_mapP]
  refine List.countP_congr fun x hx => ?_
  have := h x hx
  simp only [bne_iff_ne]
  exact not_congr this
theorem atL_none_iff {o : List Int} {x : Int} (h : x ∈ o ∨ x = -1) (hn : (-1 : Int) ∉ o) : atL o x = -1 ↔ x = -1 := by
  rcases h with h | rfl
  · have := (atL_get h).1
    constructor
    · intro e; omega
    · intro e; subst e; exact absurd h hn
  · simp [atL_nil hn]
theorem cnt_cp {l r ro q : List Int} (hv : HVp l r ro) (hq : q.length = l.length) (hcl : ∀ y ∈ ordF l r ro, q.getD y.toNat 0 ∈ ordF l r ro ∨ q.getD y.toNat 0 = -1) :
    cnt (cpL q (ordF l r ro) l.length) = (List.range l.length).countP fun (i : Nat) => decide ((i : Int) ∈ ordF l r ro) && (q.getD i 0 != -1) := by
  have hc := ordF_cells hv
  have hl := hc.len
  have hn := neg_not_mem hc
  rw [cpL_of_canL hl]
  unfold cnt
  rw [List.countP_append, ← countP_cast hc (fun i => q.getD i 0 != -1)]
  have e : (List.replicate (l.length - (ordF l r ro).length) (-1 : Int)).countP (· != -1) = 0 := by rw [List.countP_replicate]; simp
  rw [e, Nat.add_zero]
  unfold canL
  rw [countP_mapP]
  refine List.countP_congr fun c hc' => ?_
  have := atL_none_iff (hcl c hc') hn
  simp only [bne_iff_ne]
  exact not_congr this
theorem cnt_clr {q : List Int} {g : Nat → Bool} : cnt (clr q g) = (List.range q.length).countP fun i => !(g i) && (q.getD i 0 != -1) := by
  unfold cnt clr
  rw [countP_mapP]
  refine List.countP_congr fun i _ => ?_
  cases g i <;> simp
theorem L_distances_1 {p far : Int} {out op : List Int} {K : List Int → List Int → Prop} (hp : okP out.length p) (ho : op.length < 2 ^ 30) (hK : K (dm p far (out, op)).1 (dm p far (out, op)).2) : Mi_distances_1 p far out op K := by
  refine br (fun h => ?_) fun h => ?_
  · have h : p ≠ -1 := by simpa using h
    have hc := hp.cell h
    refine ⟨hc, br (fun h1 => ⟨hc, by simp; omega, ?_⟩) fun h1 => ?_⟩
    · have h1 : out.getD p.toNat 0 = 0 := by simpa only [beq_iff_eq, gI_at] using h1
      rw [show dm p far (out, op) = (out.set p.toNat far, op ++ [p]) from if_pos ⟨h, h1⟩] at hK
      exact hK
    · have h1 : out.getD p.toNat 0 ≠ 0 := by simpa only [beq_eq_false_iff_ne, gI_at] using h1
      rw [show dm p far (out, op) = (out, op) from if_neg fun hh => h1 hh.2] at hK
      exact hK
  · have h : p = -1 := by simpa using h
    rw [show dm p far (out, op) = (out, op) from if_neg fun hh => hh.1 h] at hK
    exact hK
theorem drs_succ {ps : List Int} {st : List Int × List Int} {i : Nat} (h : i < ps.length) : drs (ps.take (i + 1)) st = dm (ps.getD i 0) 1 (drs (ps.take i) st) := by
  unfold drs
  rw [List.take_add_one, List.getElem?_eq_getElem h, getD_lt h, List.foldl_append]
  rfl
theorem drs_take {n : Nat} {ps : List Int} (hp : ∀ x ∈ ps, okP n x) (i : Nat) : DInv n (drs (ps.take i) (List.replicate n 0, [])) ∧ (drs (ps.take i) (List.replicate n 0, [])).2 = metL (ps.take i) [] :=
  have h := drs_inv (ps := ps.take i) (dinv0 n) (fun x hx => hp x (List.mem_of_mem_take hx)) ⟨fun j k _ hk => by simp at hk, fun k hk => by simp at hk⟩
  ⟨h.1, h.2.1⟩
theorem drs_start {n : Nat} {ps : List Int} (hp : ∀ x ∈ ps, okP n x) : DInv n (drs ps (List.replicate n 0, [])) ∧ (drs ps (List.replicate n 0, [])).2 = metL ps [] ∧ (0 < (drs ps (List.replicate n 0, [])).2.length → DMon (drs ps (List.replicate n 0, [])).1 (drs ps (List.replicate n 0, [])).2 ((drs ps (List.replicate n 0, [])).1.getD ((drs ps (List.replicate n 0, [])).2.getD 0 0).toNat 0 + 1)) := by
  obtain ⟨h1, e1, m1⟩ := drs_inv (dinv0 n) hp ⟨fun j k _ hk => by simp at hk, fun k hk => by simp at hk⟩
  refine ⟨h1, e1, fun hi => ⟨m1.mono, fun k hk => ?_⟩⟩
  have hg := h1.c.get hi
  have hmm : (((drs ps (List.replicate n 0, [])).2.getD 0 0).toNat : Int) ∈ (drs ps (List.replicate n 0, [])).2 := by rw [Int.toNat_of_nonneg hg.1]; exact getD_mem 0 hi
  have h2 := (h1.m _ (by omega)).2 hmm
  have h3 := h1.pos ((drs ps (List.replicate n 0, [])).2.getD 0 0).toNat (by omega)
  have := m1.top k hk
  omega
theorem DInv.next {l r ro : List Int} (hv : HVp l r ro) {st : List Int × List Int} (h : DInv l.length st) {i : Nat} (hi : i < st.2.length) (hm : DMon st.1 st.2 (st.1.getD (st.2.getD i 0).toNat 0 + 1)) :
    i + 1 < (dst l r st i).2.length → DMon (dst l r st i).1 (dst l r st i).2 ((dst l r st i).1.getD ((dst l r st i).2.getD (i + 1) 0).toNat 0 + 1) := by
  obtain ⟨h1, e1, k1, m1, _⟩ := h.step hv hi hm
  intro hi1
  refine ⟨m1.mono, fun k hk => ?_⟩
  have a1 := m1.top k hk
  have a2 := m1.mono i (i + 1) (by omega) hi1
  have a3 : (dst l r st i).2.getD i 0 = st.2.getD i 0 := by rw [e1]; exact pre_getD (stepO_pre' l r st.2 i) hi
  rw [a3, k1] at a2
  omega
theorem L_distances {l r ro : List Int} {K : List Int → Prop} (hv : HVp l r ro) (hK : K (distF l r ro)) : Mi_distances l r ro K := by
  have h8 := hv.l8; have h3 := hv.r3; have hlr := hv.lr
  refine ⟨⟨by simp [len_eq], rfl, by simp only [len_eq]; omega⟩, ?_⟩
  refine LoopP_for (fun i s => s = (ro, len ro, (i : Int), l, r, ro, (drs (ro.take i) (List.replicate l.length 0, [])).1, (drs (ro.take i) (List.replicate l.length 0, [])).2)) ro.length (by simp [len_eq, drs]) ?_ ?_
  · rintro i _ hi rfl Kb hKb
    obtain ⟨hd, he⟩ := drs_take hv.oko i
    have hml := metL_len (ro.take i) []
    refine br_t (by simp [len_eq]; exact hi) ⟨by rw [inB_nat]; exact hi, L_distances_1 (by dsimp only; rw [hd.len, gI_nat]; exact hv.go hi) (by dsimp only; rw [he]; simp only [List.length_take, List.length_nil] at hml; omega) (hKb _ ?_)⟩
    rw [iadd_nat (by omega), drs_succ hi, gI_nat]
  rintro _ rfl Kb
  refine br_f (by simp [len_eq]) ?_
  simp only [List.take_length]
  obtain ⟨hd, he, hm⟩ := drs_start hv.oko
  refine LoopP_inv (fun s => ∃ (i : Nat) (st : List Int × List Int), s = ((i : Int), l, r, ro, st.1, st.2) ∧ DInv l.length st ∧ (i < st.2.length → DMon st.1 st.2 (st.1.getD (st.2.getD i 0).toNat 0 + 1)) ∧ i ≤ l.length ∧ (dbfs l r (l.length + 1 - i) i st).1 = distF l r ro) (fun s => l.length + 1 - s.1.toNat) ?_ ⟨0, _, rfl, hd, hm, by omega, rfl⟩
  rintro _ ⟨i, st, rfl, hd, hm, hi, hF⟩ Kb hKb
  have hl := hd.c.len
  have hol := hd.len
  refine br (fun h => ?_) fun h => ?_
  · have h : i < st.2.length := by have := of_decide_eq_true h; simp only [len_eq] at this; omega
    have hg := hd.c.get h
    obtain ⟨h1, e1, k1, m1, k2⟩ := hd.step hv h (hm h)
    have hup := hd.up (st.2.getD i 0).toNat (by omega)
    have hpos := hd.pos (st.2.getD i 0).toNat (by omega)
    have e2 : iadd (st.1.getD (st.2.getD i 0).toNat 0) 1 = st.1.getD (st.2.getD i 0).toNat 0 + 1 := iadd_eq (by omega) (by omega)
    have ol := hv.atl hg.1 hg.2
    have or_ := hv.atr hg.1 hg.2
    obtain ⟨hd1, he1⟩ := hd.meet (p := l.getD (st.2.getD i 0).toNat 0) (far := st.1.getD (st.2.getD i 0).toNat 0 + 1) ol (by omega) (by omega)
    have hml := meet_len (l.getD (st.2.getD i 0).toNat 0) st.2
    have hpre := meet_pre (l.getD (st.2.getD i 0).toNat 0) st.2
    have hlen2 : i < (dm (l.getD (st.2.getD i 0).toNat 0) (st.1.getD (st.2.getD i 0).toNat 0 + 1) st).2.length := by
      rw [he1]; obtain ⟨t, ht⟩ := hpre; rw [ht, List.length_append]; omega
    have hget2 : (dm (l.getD (st.2.getD i 0).toNat 0) (st.1.getD (st.2.getD i 0).toNat 0 + 1) st).2.getD i 0 = st.2.getD i 0 := by rw [he1]; exact pre_getD hpre h
    refine ⟨by rw [inB_nat]; exact h, ⟨by simp only [gI_nat]; omega, by simp only [gI_nat]; omega⟩, by rw [inB_nat]; exact h, ⟨by simp only [gI_nat]; omega, by simp only [gI_nat]; omega⟩, ?_⟩
    refine L_distances_1 (by simp only [gI_at, Int.toNat_natCast]; rw [hol]; exact ol) (by dsimp only; omega) ?_
    simp only [gI_at, Int.toNat_natCast, e2]
    show inB (i : Int) (dm (l.getD (st.2.getD i 0).toNat 0) (st.1.getD (st.2.getD i 0).toNat 0 + 1) st).2.length ∧ _
    refine ⟨by rw [inB_nat]; exact hlen2, ?_⟩
    simp only [hget2]
    refine ⟨⟨hg.1, by omega⟩, by rw [inB_nat]; exact hlen2, ⟨hg.1, by rw [hd1.len]; omega⟩, ?_⟩
    rw [k2, e2]
    refine L_distances_1 (by rw [hd1.len]; exact or_) (by rw [he1]; omega) (hKb _ ⟨i + 1, dst l r st i, ?_, h1, hd.next hv h (hm h), by omega, ?_⟩ ?_)
    · rw [iadd_nat (by omega)]; rfl
    · have e : l.length + 1 - i = (l.length + 1 - (i + 1)) + 1 := by omega
      rw [e] at hF
      simpa only [dbfs, if_pos h] using hF
    · simp only [iadd_nat (show i < 2 ^ 62 by omega), Int.toNat_natCast]; omega
  · have h : ¬ i < st.2.length := by have := of_decide_eq_false h; simp only [len_eq] at this; omega
    have : st.1 = distF l r ro := by
      rw [← hF]
      cases l.length + 1 - i with
      | zero => rfl
      | succ f => simp only [dbfs, if_neg h]
    show K st.1
    rw [this]; exact hK
/-- Which cells are live? -/
def rchF (l r ro : List Int) : List Bool := (List.range l.length).map fun (i : Nat) => decide ((i : Int) ∈ ordF l r ro)
theorem rchF_len (l r ro : List Int) : (rchF l r ro).length = l.length := by simp [rchF]
theorem rchF_getD {l r ro : List Int} {i : Nat} (hi : i < l.length) : (rchF l r ro).getD i false = decide ((i : Int) ∈ ordF l r ro) := by
  rw [getD_lt (by rw [rchF_len]; exact hi)]; simp [rchF]
theorem distF_len {l r ro : List Int} (hv : HVp l r ro) : (distF l r ro).length = l.length := by
  obtain ⟨st, e1, _, h, _⟩ := distF_inv hv
  rw [← e1]; exact h.len
theorem map_range_succ {α : Type} (f : Nat → α) (i : Nat) : (List.range (i + 1)).map f = (List.range i).map f ++ [f i] := by rw [List.range_succ, List.map_append]; rfl
theorem L_Reachable {l r ro : List Int} {K : List Bool → Prop} (hy : HVp l r ro → K (rchF l r ro)) (hn : ¬ HVp l r ro → K []) : Mi_Reachable l r ro K := by
  refine L_iHeapValid (br (fun h => hn (by simpa using h)) fun h => ?_)
  have hv : HVp l r ro := by simpa using h
  have h8 := hv.l8
  refine L_distances hv ?_
  have hdl := distF_len hv
  refine LoopP_for (fun i s => s = (len (distF l r ro), (i : Int), (List.range i).map fun (j : Nat) => decide ((distF l r ro).getD j 0 > 0), distF l r ro)) (distF l r ro).length rfl ?_ ?_
  · rintro i _ hi rfl Kb hKb
    refine br_t (by simp [len_eq]; exact hi) ⟨by rw [inB_nat]; exact hi, by simp; omega, hKb _ ?_⟩
    rw [iadd_nat (by omega), map_range_succ, gI_nat]
  · rintro _ rfl Kb
    refine br_f (by simp [len_eq]) ?_
    have e : (List.range (distF l r ro).length).map (fun (j : Nat) => decide ((distF l r ro).getD j 0 > 0)) = rchF l r ro := by
      unfold rchF
      rw [hdl]
      refine List.map_congr_left fun j hj => ?_
      rw [decide_eq_decide]
      exact distF_pos hv (by simpa using hj)
    show K _
    rw [e]; exact hy hv
/-- A list of numbers. -/
def filtU (p : Nat → Bool) (n : Nat) : List Int := ((List.range n).filter p).map fun (i : Nat) => (i : Int)
theorem filtU_succ (p : Nat → Bool) (n : Nat) : filtU p (n + 1) = if p n then filtU p n ++ [(n : Int)] else filtU p n := by
  unfold filtU
  rw [List.range_succ, List.filter_append]
  cases h : p n <;> simp [h]
theorem filtU_len (p : Nat → Bool) (n : Nat) : (filtU p n).length ≤ n := by
  unfold filtU
  rw [List.length_map]
  exact Nat.le_trans (List.length_filter_le _ _) (by simp)
theorem filtU_congr {p q : Nat → Bool} {n : Nat} (h : ∀ i, i < n → p i = q i) : filtU p n = filtU q n := by unfold filtU; rw [filt_congr h]
def garbF (l r ro : List Int) : List Int := filtU (fun i => !decide ((i : Int) ∈ ordF l r ro)) l.length
theorem L_GarbageOf {l r ro : List Int} {K : List Int → Prop} (hy : HVp l r ro → K (garbF l r ro)) (hn : ¬ HVp l r ro → K []) : Mi_GarbageOf l r ro K := by
  have main : ∀ q : List Bool, q.length ≤ 8 → K (filtU (fun i => !(q.getD i false)) q.length) → LoopP (S := Int × Int × List Int × List Bool) (fun s2 Kb2 Kx2 => (((decide (s2.2.1 < s2.1)) = true →
 ((inB s2.2.1 (List.length s2.2.2.2)) ∧
 (((!(gB s2.2.2.2 s2.2.1)) = true →
 ((List.length s2.2.2.1 + List.length ([s2.2.1] : List Int) ≤ 2 ^ 36) ∧
 (Kb2 (s2.1, (iadd s2.2.1 1), (s2.2.2.1 ++ [s2.2.1]), s2.2.2.2)))) ∧
 ((!(gB s2.2.2.2 s2.2.1)) = false →
 (Kb2 (s2.1, (iadd s2.2.1 1), s2.2.2.1, s2.2.2.2)))))) ∧
 ((decide (s2.2.1 < s2.1)) = false →
 (Kx2 (s2.1, s2.2.1, s2.2.2.1, s2.2.2.2))))) ((len q), 0, [], q) fun s2 => (K s2.2.2.1) := by
    intro q hq hK
    refine LoopP_for (fun i s => s = (len q, (i : Int), filtU (fun i => !(q.getD i false)) i, q)) q.length rfl ?_ ?_
    · rintro i _ hi rfl Kb hKb
      have hl := filtU_len (fun i => !(q.getD i false)) i
      have hs := filtU_succ (fun i => !(q.getD i false)) i
      refine br_t (by simp [len_eq]; exact hi) ⟨by rw [inB_nat]; exact hi, br (fun h => ⟨by simp only [List.length_singleton]; omega, hKb _ ?_⟩) fun h => hKb _ ?_⟩
      · simp only [gB_nat] at h; rw [iadd_nat (by omega), hs, if_pos h]
      · simp only [gB_nat] at h; rw [iadd_nat (by omega), hs, if_neg (by rw [h]; simp)]
    · rintro _ rfl Kb
      exact br_f (by simp [len_eq]) hK
  refine L_Reachable (fun hv => main _ (by rw [rchF_len]; exact hv.l8) ?_) fun hv => main _ (by simp) (by exact hn hv)
  have := hy hv
  unfold garbF at this
  rw [rchF_len, filtU_congr fun i hi => by rw [rchF_getD hi]]
  exact this
def e2 (x : Int) : Int := if x = 0 then -1 else x
theorem setC_get' {α : Type} : ∀ (vs l : List α) (o i : Nat), o + vs.length ≤ l.length → (setC l o vs)[i]? = if o ≤ i ∧ i < o + vs.length then vs[i - o]? else l[i]? := by
  intro vs
  induction vs with
  | nil => intro l o i _; rw [if_neg (by simp)]; rfl
  | cons v vs ih =>
    intro l o i h
    simp only [List.length_cons] at h
    rw [setC, ih _ _ _ (by simp; omega)]
    by_cases h1 : o + 1 ≤ i ∧ i < o + 1 + vs.length
    · rw [if_pos h1, if_pos (by simp; omega)]
      rw [show i - o = (i - (o + 1)) + 1 by omega]; simp
    · rw [if_neg h1]
      by_cases h2 : i = o
      · subst h2
        rw [if_pos (by simp), List.getElem?_set_self (by omega)]; simp
      · rw [if_neg (by simp; omega), List.getElem?_set_ne (fun e => h2 e.symm)]
theorem setC_rep {v z : Int} {m k n : Nat} (h : m + k ≤ n) : setC (List.replicate m v ++ List.replicate (n - m) z) m (List.replicate k v) = List.replicate (m + k) v ++ List.replicate (n - (m + k)) z := by
  apply List.ext_getElem?
  intro i
  rw [setC_get' _ _ _ _ (by simp; omega)]
  simp only [List.length_replicate, List.getElem?_append, List.getElem?_replicate]
  repeat' split
  all_goals first
    | rfl
    | omega
theorem L_Mul1 {n : Nat} {K : Int → Int → Prop} (h8 : n ≤ 8) (hK : K 0 n) : M_math_bits_Mul (IntKind.wrap .u64 (len [(-1 : Int)])) (IntKind.wrap .u64 (n : Int)) K := by
  unfold M_math_bits_Mul M_math_bits_Mul64
  have e : n = 0 ∨ n = 1 ∨ n = 2 ∨ n = 3 ∨ n = 4 ∨ n = 5 ∨ n = 6 ∨ n = 7 ∨ n = 8 := by omega
  refine ⟨by decide, by decide, by decide, by decide, by decide, ?_⟩
  rcases e with rfl | rfl | rfl | rfl | rfl | rfl | rfl | rfl | rfl <;> exact hK
theorem L_Repeat {n : Nat} {K : List Int → Prop} (h1 : 1 ≤ n) (h8 : n ≤ 8) (hK : K (List.replicate n (-1))) : M_Repeat_int [(-1)] (n : Int) K := by
  have w : IntKind.wrap .i64 (n : Int) = n := wrap64 (by omega) (by omega)
  refine br_f (by simp) (L_Mul1 h8 (br_f (by decide) (br_f (by simp; omega) ⟨by rw [w]; omega, ?_⟩)))
  rw [w]
  simp only [Int.toNat_natCast, List.length_replicate, List.length_singleton]
  refine ⟨by omega, ?_⟩
  have e0 : setC (List.replicate n (0 : Int)) (Int.toNat 0) (List.take (Int.toNat ((n : Int) - 0)) [(-1 : Int)]) = List.replicate 1 (-1) ++ List.replicate (n - 1) 0 := by
    rw [show (Int.toNat ((n : Int) - 0)) = (n - 1) + 1 by omega]
    have := setC_rep (v := (-1)) (z := 0) (m := 0) (k := 1) (n := n) (by omega)
    simpa using this
  rw [e0, show Nat.min 1 (Int.toNat ((n : Int) - 0)) = 1 by have : Nat.min 1 (Int.toNat ((n : Int) - 0)) = min 1 (Int.toNat ((n : Int) - 0)) := rfl; rw [this]; omega]
  refine LoopP_inv (fun s => ∃ m : Nat, 1 ≤ m ∧ m ≤ n ∧ s = ((m : Int), List.replicate m (-1) ++ List.replicate (n - m) 0)) (fun s => n - s.1.toNat) ?_ ⟨1, by omega, h1, rfl⟩
  rintro _ ⟨m, hm1, hmn, rfl⟩ Kb hKb
  have hlen : (List.replicate m (-1 : Int) ++ List.replicate (n - m) 0).length = n := by simp; omega
  refine br (fun h => ?_) fun h => ?_
  · have hlt : m < n := by have := of_decide_eq_true h; simp only [len_eq, hlen] at this; omega
    have hsub : sub (List.replicate m (-1 : Int) ++ List.replicate (n - m) 0) 0 (m : Int) = List.replicate m (-1) := by simp [sub]
    simp only [hlen, hsub, List.length_replicate]
    refine ⟨by omega, by omega, by omega, ?_⟩
    have htk : List.take (Int.toNat ((n : Int) - (m : Int))) (List.replicate m (-1 : Int)) = List.replicate (min (n - m) m) (-1) := by
      rw [List.take_replicate]; congr 1; omega
    rw [htk, Int.toNat_natCast, setC_rep (by omega)]
    have hk : Nat.min m (Int.toNat ((n : Int) - (m : Int))) = min (n - m) m := by
      have : Nat.min m (Int.toNat ((n : Int) - (m : Int))) = min m (Int.toNat ((n : Int) - (m : Int))) := rfl
      rw [this]; omega
    rw [hk]
    have hi : iadd (m : Int) ((min (n - m) m : Nat) : Int) = ((m + min (n - m) m : Nat) : Int) := by rw [iadd_eq (by omega) (by omega)]; omega
    exact hKb _ ⟨m + min (n - m) m, by omega, by omega, by rw [hi]⟩ (by simp only [hi, Int.toNat_natCast]; omega)
  · have : m = n := by have := of_decide_eq_false h; simp only [len_eq, hlen] at this; omega
    subst this
    simpa using hK
theorem L_NewHeap {n q : Nat} {K : Bool → List Int → List Int → List Int → Prop} (h1 : 1 ≤ n) (h8 : n ≤ 8) (q1 : 1 ≤ q) (q3 : q ≤ 3) (hK : K true (List.replicate n (-1)) (List.replicate n (-1)) (List.replicate q (-1))) : Mi_NewHeap (n : Int) (q : Int) K :=
  br_f (by simp; omega) (br_f (by simp; omega) (br_f (by simp; omega) (br_f (by simp; omega) (L_Repeat h1 h8 (L_Repeat h1 h8 (L_Repeat q1 (by omega) hK))))))
def stL (f : Nat → Int) (d : List Int) (i : Nat) : List Int := (List.range d.length).map fun j => if j < i then f j else d.getD j 0
theorem stL_len (f : Nat → Int) (d : List Int) (i : Nat) : (stL f d i).length = d.length := by simp [stL]
theorem stL_getD {f : Nat → Int} {d : List Int} {i j : Nat} (hj : j < d.length) : (stL f d i).getD j 0 = if j < i then f j else d.getD j 0 := by
  rw [getD_lt (by rw [stL_len]; exact hj)]; simp [stL]
theorem stL_zero (f : Nat → Int) (d : List Int) : stL f d 0 = d := by
  refine eqL_iff 0 _ _ (stL_len _ _ _) fun j hj => ?_
  rw [stL_len] at hj
  rw [stL_getD hj, if_neg (by omega)]
theorem getI_set {l : List Int} {i j : Nat} {v : Int} (hj : j < l.length) : (l.set i v).getD j 0 = if i = j then v else l.getD j 0 := by
  rw [List.getD_eq_getElem?_getD, List.getD_eq_getElem?_getD, List.getElem?_set]
  split
  · rename_i e; subst e; rw [if_pos hj]; rfl
  · rfl
theorem stL_succ {f : Nat → Int} {d : List Int} {i : Nat} (hi : i < d.length) : (stL f d i).set i (f i) = stL f d (i + 1) := by
  refine eqL_iff 0 _ _ (by simp [stL_len]) fun j hj => ?_
  rw [List.length_set, stL_len] at hj
  rw [getI_set (by rw [stL_len]; exact hj), stL_getD hj, stL_getD hj]
  repeat' split
  all_goals first
    | rfl
    | omega
    | (rename_i e _; subst e; rfl)
theorem stL_all {f : Nat → Int} {d : List Int} {i : Nat} (hi : d.length ≤ i) : stL f d i = (List.range d.length).map f := by
  unfold stL
  refine List.map_congr_left fun j hj => ?_
  rw [if_pos (by have : j < d.length := by simpa using hj
                 omega)]
theorem map_stL {f : Int → Int} {q : List Int} : (List.range q.length).map (fun j => f (q.getD j 0)) = q.map f := by
  refine eqL_iff 0 _ _ (by simp) fun j hj => ?_
  have hj : j < q.length := by simpa using hj
  rw [getD_lt (l := (List.range q.length).map _) (by simpa using hj), getD_lt (l := q.map f) (by simpa using hj)]
  simp [List.getD_eq_getElem?_getD, hj]
theorem L_CopyHeap_1 {p : Int} {o : List Int} {K : Int → Prop} (ho : o.length < 2 ^ 62) (hK : K (atL o p)) : Mi_CopyHeap_1 p o K := L_Index_int ho hK
theorem L_l10To {p : Int} {o : List Int} {K : Int → Prop} (ho : o.length < 2 ^ 62) (hn : (-1 : Int) ∉ o) (hK : K (atL o p)) : Ms_l10To o p K := by
  refine br (fun h => ?_) fun h => L_l10At ho hK
  have h : p = -1 := by simpa using h
  subst h
  rwa [atL_nil hn] at hK
theorem cpL_st {q o : List Int} {n : Nat} (h : o.length ≤ n) : stL (fun j => atL o (q.getD (o.getD j 0).toNat 0)) (List.replicate n (-1)) o.length = cpL q o n := by
  unfold stL cpL
  rw [List.length_replicate]
  refine List.map_congr_left fun j hj => ?_
  have hj : j < n := by simpa using hj
  split
  · rfl
  · simp [List.getD_eq_getElem?_getD, List.getElem?_replicate, hj]
/-- Where the first i cells that are met have gone. -/
def pw (o : List Int) (n i : Nat) : List Int := (List.range n).map fun (c : Nat) => if o.idxOf (c : Int) < i then ((o.idxOf (c : Int) : Nat) : Int) else -1
theorem pw_len (o : List Int) (n i : Nat) : (pw o n i).length = n := by simp [pw]
theorem pw_getD {o : List Int} {n i c : Nat} (hc : c < n) : (pw o n i).getD c 0 = if o.idxOf (c : Int) < i then ((o.idxOf (c : Int) : Nat) : Int) else -1 := by
  rw [getD_lt (by rw [pw_len]; exact hc)]; simp [pw]
theorem pw_zero {o : List Int} {n : Nat} : pw o n 0 = List.replicate n (-1) := by
  refine eqL_iff 0 _ _ (by simp [pw_len]) fun j hj => ?_
  rw [pw_len] at hj
  rw [pw_getD hj, if_neg (by omega), getD_lt (by simpa using hj)]
  simp
theorem pw_succ {o : List Int} {n i : Nat} (h : CellsP n o) (hi : i < o.length) : (pw o n i).set (o.getD i 0).toNat (i : Int) = pw o n (i + 1) := by
  have hg := h.get hi
  refine eqL_iff 0 _ _ (by simp [pw_len]) fun j hj => ?_
  rw [List.length_set, pw_len] at hj
  rw [getI_set (by rw [pw_len]; exact hj), pw_getD hj, pw_getD hj]
  by_cases e : (o.getD i 0).toNat = j
  · have e2 : o.getD i 0 = (j : Int) := by omega
    have := idxOf_nth h hi
    rw [e2] at this
    rw [if_pos e, this, if_pos (by omega)]
  · rw [if_neg e]
    have hne : o.idxOf (j : Int) ≠ i := by
      intro e3
      have : o.getD (o.idxOf (j : Int)) 0 = j := by rw [getD_lt (by omega)]; exact List.getElem_idxOf _
      rw [e3] at this
      omega
    by_cases e4 : o.idxOf (j : Int) < i
    · rw [if_pos e4, if_pos (by omega)]
    · rw [if_neg e4, if_neg (by omega)]
theorem pw_all {o : List Int} {n : Nat} : pw o n o.length = cpW o n := by
  unfold pw cpW
  refine List.map_congr_left fun c hc => ?_
  unfold atL
  by_cases h : (c : Int) ∈ o
  · rw [if_pos h, if_pos (List.idxOf_lt_length_of_mem h)]
  · rw [if_neg h, if_neg (by rw [List.idxOf_eq_length h]; omega)]
theorem L_iCopyHeap {l r ro : List Int} {K : Bool → List Int → List Int → List Int → List Int → Prop} (hy : HVp l r ro → K true (cpL l (ordF l r ro) l.length) (cpL r (ordF l r ro) l.length) (ro.map (atL (ordF l r ro))) (cpW (ordF l r ro) l.length)) (hn : ¬ HVp l r ro → K false [] [] [] []) : Mi_CopyHeap l r ro K := by
  refine L_iHeapValid (br (fun h => hn (by simpa using h)) fun h => ?_)
  have h : HVp l r ro := by simpa using h
  have h8 := h.l8; have hlr := h.lr; have h3 := h.r3
  have hc := ordF_cells h
  have hol := hc.len
  simp only [len_eq]
  refine L_NewHeap h.l1 h.l8 h.r1 h.r3 (L_iOrderOf ?_)
  rw [if_pos h]
  generalize ho : ordF l r ro = o at hc hol hy
  refine LoopP_for (fun i st => st = ((o.length : Int), (i : Int), l, r, ro, o, [], [], [], stL (fun j => atL o (l.getD (o.getD j 0).toNat 0)) (List.replicate l.length (-1)) i, stL (fun j => atL o (r.getD (o.getD j 0).toNat 0)) (List.replicate l.length (-1)) i, List.replicate ro.length (-1))) o.length ?_ ?_ ?_
  · rw [stL_zero, stL_zero]; rfl
  · rintro i _ hi rfl Kb hKb
    have hg := hc.get hi
    refine br_t (by simp; exact hi) ⟨by rw [inB_nat]; exact hi, ⟨by simp only [gI_nat]; exact hg.1, by simp only [gI_nat]; exact hg.2⟩, L_CopyHeap_1 (by dsimp only; omega) ⟨⟨by simp only [gI_nat]; exact hg.1, by simp only [gI_nat]; omega⟩, L_CopyHeap_1 (by dsimp only; omega) ⟨?_, ?_, hKb _ ?_⟩⟩⟩
    · rw [inB_nat]; dsimp only; rw [stL_len, List.length_replicate]; omega
    · rw [inB_nat]; dsimp only; rw [stL_len, List.length_replicate]; omega
    · simp only [uL_nat]
      rw [iadd_nat (by omega), ← stL_succ (by rw [List.length_replicate]; omega), ← stL_succ (by rw [List.length_replicate]; omega)]
      simp only [gI_at, Int.toNat_natCast]
  · rintro _ rfl Kb
    refine br_f (by simp) ?_
    simp only [cpL_st hol, len_eq]
    refine LoopP_for (fun i st => st = (ro, (ro.length : Int), (i : Int), l, r, ro, [], [], [], cpL l o l.length, cpL r o l.length, stL (fun j => atL o (ro.getD j 0)) (List.replicate ro.length (-1)) i, o)) ro.length ?_ ?_ ?_
    · rw [stL_zero]; rfl
    · rintro i _ hi rfl Kb hKb
      refine br_t (by simp; exact hi) ⟨by rw [inB_nat]; exact hi, L_CopyHeap_1 (by dsimp only; omega) ⟨by rw [inB_nat]; dsimp only; rw [stL_len]; simpa using hi, hKb _ ?_⟩⟩
      simp only [uL_nat]
      rw [iadd_nat (by omega), ← stL_succ (by simpa using hi), gI_nat]
    · rintro _ rfl Kb
      refine br_f (by simp) ?_
      have e : stL (fun j => atL o (ro.getD j 0)) (List.replicate ro.length (-1)) ro.length = ro.map (atL o) := by
        rw [stL_all (by simp)]; simp only [List.length_replicate]; exact map_stL
      simp only [e]
      refine LoopP_for (fun i st => st = ((l.length : Int), (i : Int), (List.range i).map fun (c : Nat) => atL o (c : Int), [], [], [], cpL l o l.length, cpL r o l.length, ro.map (atL o), o)) l.length rfl ?_ ?_
      · rintro i _ hi rfl Kb hKb
        refine br_t (by simp; exact hi) (L_CopyHeap_1 (by dsimp only; omega) ⟨by simp; omega, hKb _ ?_⟩)
        rw [iadd_nat (by omega), map_range_succ]
      · rintro _ rfl Kb
        exact br_f (by simp) (hy h)
theorem L_sCopyHeap {l r ro : List Int} {K : Bool → List Int → List Int → List Int → List Int → Prop} (hy : HVp l r ro → K true (cpL l (ordF l r ro) l.length) (cpL r (ordF l r ro) l.length) (ro.map (atL (ordF l r ro))) (cpW (ordF l r ro) l.length)) (hn : ¬ HVp l r ro → K false [] [] [] []) : Ms_CopyHeap l r ro K := by
  refine L_sHeapValid (br (fun h => hn (by simpa using h)) fun h => ?_)
  have h : HVp l r ro := by simpa using h
  have h8 := h.l8; have hlr := h.lr; have h3 := h.r3
  have hc := ordF_cells h
  have hol := hc.len
  have hng := neg_not_mem hc
  refine L_l10Order h ?_
  generalize ho : ordF l r ro = o at hc hol hy hng
  simp only [len_eq]
  refine L_l1Many h.l8 (L_l1Many h.l8 (L_l1Many h.l8 ?_))
  refine LoopP_for (fun i st => st = ((i : Int), l, r, ro, o, pw o l.length i, [], [], [], stL (fun j => atL o (l.getD (o.getD j 0).toNat 0)) (List.replicate l.length (-1)) i, stL (fun j => atL o (r.getD (o.getD j 0).toNat 0)) (List.replicate l.length (-1)) i, [])) o.length ?_ ?_ ?_
  · rw [stL_zero, stL_zero, pw_zero]; rfl
  · rintro i _ hi rfl Kb hKb
    have hg := hc.get hi
    have b1 : inB (i : Int) o.length := by rw [inB_nat]; exact hi
    have b2 : inB (i : Int) l.length := by rw [inB_nat]; omega
    refine br_t (by simp; exact hi) ?_
    simp only [gI_nat, stL_len, pw_len, List.length_replicate]
    refine ⟨b1, hg, L_l10To (by omega) hng ⟨b2, b1, ⟨hg.1, by omega⟩, L_l10To (by omega) hng ⟨b2, b1, hg, hKb _ ?_⟩⟩⟩
    simp only [uL_nat]
    rw [iadd_nat (by omega), ← stL_succ (by rw [List.length_replicate]; omega), ← stL_succ (by rw [List.length_replicate]; omega), ← pw_succ hc hi]
    simp only [gI_at, uL]
  · rintro _ rfl Kb
    refine br_f (by simp) ?_
    simp only [cpL_st hol, pw_all]
    refine LoopP_for (fun i st => st = ((i : Int), l, r, ro, o, cpW o l.length, [], [], [], cpL l o l.length, cpL r o l.length, (List.range i).map fun j => atL o (ro.getD j 0))) ro.length rfl ?_ ?_
    · rintro i _ hi rfl Kb hKb
      refine br_t (by simp; exact hi) ⟨by rw [inB_nat]; exact hi, L_l10To (by dsimp only; omega) hng ⟨by simp; omega, hKb _ ?_⟩⟩
      rw [iadd_nat (by omega), map_range_succ, gI_nat]
    · rintro _ rfl Kb
      refine br_f (by simp) ?_
      have := hy h
      rw [← map_stL] at this
      exact this
theorem L_Grow {n : Int} {K : List Int → Prop} (h0 : 0 ≤ n) (hn : n ≤ 2 ^ 36) (hK : K []) : M_Grow_int n K := by
  have e : isub n (isub 0 0) = n := by rw [show isub 0 0 = 0 from rfl, isub_eq (by omega) (by omega)]; omega
  refine br_f (by simp; omega) ?_
  rw [e]
  refine br (fun h => ?_) fun _ => hK
  have h := of_decide_eq_true h
  refine ⟨⟨rfl, rfl⟩, ⟨h, hn⟩, ⟨by omega, by omega, by simp only [len_eq]; omega⟩, ?_⟩
  simpa [sub] using hK
theorem flat_succ {ls : List (List Int)} {i : Nat} (h : i < ls.length) : (ls.take (i + 1)).flatten = (ls.take i).flatten ++ ls.getD i [] := by
  rw [List.take_add_one, List.getElem?_eq_getElem h, List.getD_eq_getElem?_getD, List.getElem?_eq_getElem h, List.flatten_append]
  simp
theorem flat_le {ls : List (List Int)} (i : Nat) : (ls.take i).flatten.length ≤ ls.flatten.length := by
  conv => rhs; rw [← List.take_append_drop i ls]
  rw [List.flatten_append, List.length_append]; omega
theorem L_Concat {ls : List (List Int)} {K : List Int → Prop} (hl : ls.length < 2 ^ 60) (hf : ls.flatten.length ≤ 2 ^ 36) (hK : K ls.flatten) : M_Concat_int ls K := by
  have gl : ∀ i : Nat, gL ls (i : Int) = ls.getD i [] := fun i => by simp [gL, EK.dflt]
  refine LoopP_for (fun i s => s = (ls, (((ls.take i).flatten.length : Nat) : Int), ls, len ls, (i : Int))) ls.length rfl ?_ ?_
  · rintro i _ hi rfl Kb hKb
    have h1 := flat_le (ls := ls) (i + 1)
    rw [flat_succ hi, List.length_append] at h1
    have e : iadd (((ls.take i).flatten.length : Nat) : Int) (len (ls.getD i [])) = (((ls.take (i + 1)).flatten.length : Nat) : Int) := by
      rw [flat_succ hi, List.length_append, len_eq, iadd_eq (by omega) (by omega)]; omega
    refine br_t (by simp [len_eq]; exact hi) ⟨by rw [inB_nat]; exact hi, br_f ?_ (hKb _ ?_)⟩
    · rw [gl, e]; simp
    · rw [gl, e, iadd_nat (by omega)]
  · rintro _ rfl Kb
    refine br_f (by simp [len_eq]) ?_
    simp only [List.take_length]
    refine L_Grow (by omega) (by omega) ?_
    refine LoopP_for (fun i s => s = (ls, len ls, (i : Int), (ls.take i).flatten)) ls.length rfl ?_ ?_
    · rintro i _ hi rfl Kb hKb
      have h1 := flat_le (ls := ls) (i + 1)
      rw [flat_succ hi, List.length_append] at h1
      refine br_t (by simp [len_eq]; exact hi) ⟨by rw [inB_nat]; exact hi, by simp only [gl]; omega, hKb _ ?_⟩
      rw [gl, iadd_nat (by omega), flat_succ hi]
    · rintro _ rfl Kb
      refine br_f (by simp [len_eq]) ?_
      simp only [List.take_length]; exact hK
theorem cnt_append (a b : List Int) : cnt (a ++ b) = cnt a + cnt b := by simp [cnt]
theorem cnt_take {q : List Int} {i : Nat} (h : i < q.length) : cnt (q.take (i + 1)) = cnt (q.take i) + if q.getD i 0 = -1 then 0 else 1 := by
  rw [List.take_add_one, List.getElem?_eq_getElem h, cnt_append, getD_lt h]
  congr 1
  unfold cnt
  by_cases e : q[i] = -1 <;> simp [e]
theorem cnt_le (q : List Int) : cnt q ≤ q.length := List.countP_le_length
theorem L_CountPointers {l r ro : List Int} {K : Int → Prop} (hy : HVp l r ro → K ((cnt l + cnt r + cnt ro : Nat) : Int)) (hn : ¬ HVp l r ro → K 0) : Mi_CountPointers l r ro K := by
  refine L_iHeapValid (br (fun h => hn (by simpa using h)) fun h => ?_)
  have hv : HVp l r ro := by simpa using h
  have h8 := hv.l8; have hlr := hv.lr; have h3 := hv.r3
  refine L_Concat (by simp) (by simp; omega) ?_
  have e : cnt ([l, r, ro].flatten) = cnt l + cnt r + cnt ro := by simp [cnt_append, Nat.add_assoc]
  have hq : ([l, r, ro].flatten).length ≤ 100 := by simp; omega
  generalize [l, r, ro].flatten = q at e hq
  refine LoopP_for (fun i s => s = (((cnt (q.take i) : Nat) : Int), len q, (i : Int), q)) q.length (by simp [cnt]) ?_ ?_
  · rintro i _ hi rfl Kb hKb
    have h1 := cnt_le (q.take i)
    have h2 : (q.take i).length ≤ q.length := by simp; omega
    refine br_t (by simp [len_eq]; exact hi) ⟨by rw [inB_nat]; exact hi, br (fun e2 => hKb _ ?_) fun e2 => hKb _ ?_⟩
    · have e2 := bne_iff_ne.1 e2
      simp only [gI_nat] at e2
      rw [iadd_nat (by omega), iadd_nat (by omega), cnt_take hi, if_neg e2]
    · have e2 := bne_eq_false_iff_eq.1 e2
      simp only [gI_nat] at e2
      rw [iadd_nat (by omega), cnt_take hi, if_pos e2]
      rfl
  · rintro _ rfl Kb
    refine br_f (by simp [len_eq]) ?_
    simp only [List.take_length]
    rw [e]; exact hy hv
theorem L_DrawCopyHeap {c : List Int} {K : List Int → List Int → List Int → Prop} (hc : ∀ x ∈ c, U8 x) (hK : ∀ l r ro, l.length ≤ 9 → r.length ≤ 9 → ro.length ≤ 9 → K l r ro) : Ms_DrawCopyHeap c K := L_DrawHeapValid hc hK
theorem eqStep {a : Bool} {P Q : Prop} (h : Q) : ((!(a == a)) = true → P) ∧ ((!(a == a)) = false → Q) := br_f (by simp) h
/-- The beginning of the laws of copies. -/
theorem cpPre {l r ro : List Int} {T : List Int → List Int → List Int → List Int → Prop} {K : Bool → Prop} (hK : K true) (h : HVp l r ro → T (cpL l (ordF l r ro) l.length) (cpL r (ordF l r ro) l.length) (ro.map (atL (ordF l r ro))) (cpW (ordF l r ro) l.length)) :
    Mi_CopyHeap l r ro fun y4 y5 y6 y7 y8 => Ms_CopyHeap l r ro fun y9 y10 y11 y12 y13 => Mi_HeapSame y5 y6 y7 y10 y11 y12 fun y14 =>
      (((!y14) = true → Mi_HeapSame y5 y6 y7 y10 y11 y12 fun y15 => ((y15 = true → Ml_ccInts y8 y13 fun y16 => ((y16 = true → K (y4 == y9)) ∧ (y16 = false → K false))) ∧ (y15 = false → K false))) ∧
      ((!y14) = false → Ml_ccInts y8 y13 fun y17 =>
      (((!y17) = true → Mi_HeapSame y5 y6 y7 y10 y11 y12 fun y15 => ((y15 = true → Ml_ccInts y8 y13 fun y16 => ((y16 = true → K (y4 == y9)) ∧ (y16 = false → K false))) ∧ (y15 = false → K false))) ∧
      ((!y17) = false → (((!(y4 == y9)) = true → Mi_HeapSame y5 y6 y7 y10 y11 y12 fun y15 => ((y15 = true → Ml_ccInts y8 y13 fun y16 => ((y16 = true → K (y4 == y9)) ∧ (y16 = false → K false))) ∧ (y15 = false → K false))) ∧
      ((!(y4 == y9)) = false → (((!y4) = true → Mi_HeapSame y5 y6 y7 y10 y11 y12 fun y15 => ((y15 = true → Ml_ccInts y8 y13 fun y16 => ((y16 = true → K (y4 == y9)) ∧ (y16 = false → K false))) ∧ (y15 = false → K false))) ∧
      ((!y4) = false → T y5 y6 y7 y8)))))))) := by
  by_cases hv : HVp l r ro
  · have h8 := hv.l8; have h3 := hv.r3
    refine L_iCopyHeap (fun _ => ?_) fun hh => absurd hv hh
    refine L_sCopyHeap (fun _ => ?_) fun hh => absurd hv hh
    exact L_iHeapSame (by rw [cpL_len]; omega) (by rw [cpL_len]; omega) (by simp; omega) (step_t (by simp) (L_ccInts (by rw [cpW_len]; omega) (step_t (by simp) (eqStep (br_f rfl (h hv))))))
  · refine L_iCopyHeap (fun hh => absurd hh hv) fun _ => ?_
    refine L_sCopyHeap (fun hh => absurd hh hv) fun _ => ?_
    exact L_iHeapSame (by simp) (by simp) (by simp) (step_t (by simp) (L_ccInts (by simp) (step_t (by simp) (eqStep (br_t rfl (L_iHeapSame (by simp) (by simp) (by simp) (br_t (by simp) (L_ccInts (by simp) (br_t (by simp) hK)))))))))
theorem L_iPutRight {l r ro : List Int} {c x : Int} {K : Bool → List Int → List Int → List Int → Prop} (hy : PutP l r ro c x → K true l (r.set c.toNat x) ro) (hn : ¬ PutP l r ro c x → K false [] [] []) : Mi_PutRight l r ro c x K := by
  refine L_has (br (fun h => hn fun hh => ?_) fun h => L_pointer (br (fun h1 => hn fun hh => ?_) fun h1 => ?_))
  · simp only [Bool.not_eq_true', decide_eq_false_iff_not] at h; exact h ⟨hh.h, hh.c0, hh.c1⟩
  · simp only [Bool.not_eq_true', decide_eq_false_iff_not] at h1; exact h1 hh.x
  · simp only [Bool.not_eq_false', decide_eq_true_eq] at h h1
    have hlr := h.1.lr
    exact L_copied h.1 ⟨⟨h.2.1, by rw [← hlr]; exact h.2.2⟩, hy ⟨h.1, h.2.1, h.2.2, h1⟩⟩
theorem clr_none {q : List Int} {g : Nat → Bool} (h : ∀ i, g i = false) : clr q g = q := by
  refine eqL_iff 0 _ _ (clr_len _ _) fun j hj => ?_
  rw [clr_len] at hj
  rw [clr_getD hj, h j]; rfl
theorem clr_succ {q o : List Int} {i : Nat} (hi : i < o.length) (h0 : 0 ≤ o.getD i 0) : (clr q fun c => decide ((c : Int) ∈ o.take i)).set (o.getD i 0).toNat (-1) = clr q fun c => decide ((c : Int) ∈ o.take (i + 1)) := by
  refine eqL_iff 0 _ _ (by simp [clr_len]) fun j hj => ?_
  rw [List.length_set, clr_len] at hj
  rw [getI_set (by rw [clr_len]; exact hj), clr_getD hj, clr_getD hj]
  have hm : ((j : Int) ∈ o.take (i + 1)) ↔ ((j : Int) ∈ o.take i ∨ (j : Int) = o.getD i 0) := by
    rw [List.take_add_one, List.getElem?_eq_getElem hi, getD_lt hi]
    simp only [Option.toList, List.mem_append, List.mem_singleton]
  by_cases e : (o.getD i 0).toNat = j
  · rw [if_pos e, decide_eq_true (hm.2 (.inr (by omega)))]; rfl
  · rw [if_neg e]
    by_cases e2 : (j : Int) ∈ o.take i
    · rw [decide_eq_true e2, decide_eq_true (hm.2 (.inl e2))]
    · have e3 : (j : Int) ∉ o.take (i + 1) := fun h => (hm.1 h).elim e2 (fun h => e (by omega))
      rw [decide_eq_false e2, decide_eq_false e3]
theorem law_FnCopyCount {c : List Int} (hc : ∀ x ∈ c, U8 x) {K : Bool → Prop} (hK : K true) : Ml_FnCopyCount c K := by
  unfold Ml_FnCopyCount
  refine br (fun _ => hK) fun _ => L_DrawCopyHeap hc fun l r ro a1 a2 a3 => cpPre hK fun hv => ?_
  have h8 := hv.l8; have hlr := hv.lr; have h3 := hv.r3
  have hv' := cp_valid hv
  have hcells := ordF_cells hv
  refine L_GarbageOf (fun _ => ?_) fun hh => absurd hv hh
  have hgl : (garbF l r ro).length ≤ l.length := filtU_len _ _
  have hgm : ∀ c : Nat, (c : Int) ∈ garbF l r ro ↔ c < l.length ∧ ¬ (c : Int) ∈ ordF l r ro := fun c => by
    have := filt_mem (p := fun i => !decide ((i : Int) ∈ ordF l r ro)) (n := l.length) (c := c)
    unfold garbF filtU
    rw [this]; simp
  have hgg : ∀ i, i < (garbF l r ro).length → 0 ≤ (garbF l r ro).getD i 0 ∧ (garbF l r ro).getD i 0 < l.length := fun i hi => by
    obtain ⟨c, e1, e2, _⟩ := filt_get (p := fun i => !decide ((i : Int) ∈ ordF l r ro)) (n := l.length) hi
    have e1 : (garbF l r ro).getD i 0 = c := e1
    rw [e1]; exact ⟨by omega, by omega⟩
  have e1 := cnt_cp hv rfl fun y hy => (ordF_cl hv hy).1
  have e2 := cnt_cp hv hlr.symm fun y hy => (ordF_cl hv hy).2
  have e3 : cnt (ro.map (atL (ordF l r ro))) = cnt ro := cnt_map fun x hx => atL_none_iff (ordF_ro hv hx) (neg_not_mem hcells)
  generalize garbF l r ro = g at hgl hgm hgg
  refine LoopP_for (fun i s => s = ((i : Int), g, clr l (fun c => decide ((c : Int) ∈ g.take i)), clr r (fun c => decide ((c : Int) ∈ g.take i)), ro, cpL l (ordF l r ro) l.length, cpL r (ordF l r ro) l.length, ro.map (atL (ordF l r ro)))) g.length ?_ ?_ ?_
  · rw [clr_none (by simp), clr_none (by simp)]; rfl
  · rintro i _ hi rfl Kb hKb
    have hg := hgg i hi
    have hvi := sc_valid hv fun c => decide ((c : Int) ∈ g.take i)
    have hp1 : PutP (clr l fun c => decide ((c : Int) ∈ g.take i)) (clr r fun c => decide ((c : Int) ∈ g.take i)) ro (g.getD i 0) (-1) := ⟨hvi, hg.1, by rw [clr_len]; exact hg.2, ⟨by omega, by omega⟩⟩
    have hp2 : PutP ((clr l fun c => decide ((c : Int) ∈ g.take i)).set (g.getD i 0).toNat (-1)) (clr r fun c => decide ((c : Int) ∈ g.take i)) ro (g.getD i 0) (-1) := ⟨hp1.valid, hg.1, by rw [List.length_set, clr_len]; exact hg.2, ⟨by omega, by omega⟩⟩
    refine br_t (by simp [len_eq]; exact hi) ⟨by rw [inB_nat]; exact hi, ?_⟩
    simp only [gI_nat]
    refine L_iPutLeft (fun _ => ⟨by rw [inB_nat]; exact hi, L_iPutRight (fun _ => hKb _ ?_) fun hh => absurd hp2 hh⟩) fun hh => absurd hp1 hh
    rw [iadd_nat (by omega), clr_succ hi hg.1, clr_succ hi hg.1]
  · rintro _ rfl Kb
    refine br_f (by simp [len_eq]) ?_
    simp only [List.take_length]
    have hvi := sc_valid hv fun c => decide ((c : Int) ∈ g)
    refine L_CountPointers (fun _ => L_CountPointers (fun _ => ?_) fun hh => absurd hvi hh) fun hh => absurd hv' hh
    have key : ∀ q : List Int, q.length = l.length → cnt (clr q fun c => decide ((c : Int) ∈ g)) = (List.range l.length).countP fun (i : Nat) => decide ((i : Int) ∈ ordF l r ro) && (q.getD i 0 != -1) := by
      intro q hq
      rw [cnt_clr, hq]
      refine List.countP_congr fun i hi => ?_
      have hi : i < l.length := by simpa using hi
      have : (!decide ((i : Int) ∈ g)) = decide ((i : Int) ∈ ordF l r ro) := by
        rw [Bool.eq_iff_iff]; simp [hgm, hi]
      rw [this]
    rw [e1, e2, e3, key l rfl, key r hlr.symm]
    simpa using hK
end Go.Ab
