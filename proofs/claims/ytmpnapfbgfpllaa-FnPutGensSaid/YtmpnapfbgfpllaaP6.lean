/-
  What is proved here: more that is drawn, what is remembered, which young cells are kept. Conditions: the bytes are bytes, and the reader stands early enough.
-/
import Derived.Test.YtmpnapfbgfpllaaP5
namespace Go.Ab
set_option linter.unusedVariables false
set_option linter.unusedSimpArgs false

theorem eqN {v : Int} {n : Int} {P Q : Prop} (h1 : v = n → P) (h2 : v ≠ n → Q) : ((v == n) = true → P) ∧ ((v == n) = false → Q) := br (fun h => h1 (by simpa using h)) fun h => h2 (by simpa using h)
theorem L_l1Wrong {b l r ro : List Int} {p : Int} {k : Nat} {K : Int → List Int → List Int → List Int → Prop} (hv : HVp l r ro) (h : RdOk b p (k + 3)) (hK : ∀ p' l' r' ro', RdOk b p' k → l'.length ≤ 9 → r'.length ≤ 9 → ro'.length ≤ 9 → K p' l' r' ro') : Ms_l1Wrong b p l r ro K := by
  have h8 := hv.l8; have hlr := hv.lr; have h3 := hv.r3; have h1 := hv.l1
  refine L_l1Copy hv (L_pick (k := k + 2) h fun v v0 v1 hr => eqN (fun _ => ?_) fun _ => eqN (fun _ => ?_) fun _ => eqN (fun _ => ?_) fun _ => eqN (fun _ => ?_) fun _ => ?_)
  · refine L_pick (k := k + 1) hr fun w w0 w1 hr2 => L_num (k := k) hr2 (by simp) fun u hu hr3 => ?_
    have w1 := w1 (by simp only [len_eq]; omega)
    simp only [len_eq] at w1
    exact ⟨⟨w0, w1⟩, hK _ _ _ _ hr3 (by simp [uL]; omega) (by omega) (by omega)⟩
  · exact ⟨by simp; omega, hK _ _ _ _ (hr.le (by omega)) (by omega) (by simp; omega) (by omega)⟩
  · exact L_num (k := k + 1) hr (by simp) fun u hu hr2 => ⟨by simp; omega, hK _ _ _ _ (hr2.le (by omega)) (by omega) (by omega) (by simp; omega)⟩
  · exact hK _ _ _ _ (hr.le (by omega)) (by omega) (by omega) (by simp)
  · exact hK _ _ _ _ (hr.le (by omega)) (by omega) (by omega) (by omega)
theorem L_DrawHeapValid {c : List Int} {K : List Int → List Int → List Int → Prop} (hc : ∀ x ∈ c, U8 x) (hK : ∀ l r ro, l.length ≤ 9 → r.length ≤ 9 → ro.length ≤ 9 → K l r ro) : Ms_DrawHeapValid c K :=
  L_l13Open hc fun b hb => L_l1Draw (k := 3) (hb.le (by omega)) fun p l r ro hr hv => L_l1Wrong (k := 0) hv hr fun p' l' r' ro' hr' a1 a2 a3 => hK _ _ _ a1 a2 a3
theorem rem_len (l r : List Int) (old : List Bool) : (rem l r old).length ≤ old.length := remU_len l r old _
theorem L_l11Draw {b : List Int} {p : Int} {k : Nat} {K : List Int → Int → List Int → List Int → List Int → List Bool → List Int → Prop} (h : RdOk b p (k + 29)) (hK : ∀ p' l r ro old re, RdOk b p' k → GVp l r ro old re → K b p' l r ro old re) : Ms_l11Draw b p K := by
  refine L_l1Draw (k := k + 8) h fun p' l r ro hr hv => L_sNewGens (fun _ => ?_) fun hh => absurd hv hh
  have h8 := hv.l8
  refine LoopP_for (fun i s => ∃ p' old, s = ((i : Int), b, p', [], [], [], [], [], l, r, ro, l, r, ro, old, []) ∧ RdOk b p' (k + (l.length - i)) ∧ old.length = l.length) l.length ⟨_, _, rfl, hr.le (by omega), by simp⟩ ?_ ?_
  · rintro i _ hi ⟨p', old, rfl, hr, ho⟩ Kb hKb
    refine br_t (by simp [len_eq, ho]; omega) (L_pick (k := k + (l.length - (i + 1))) (hr.le (by omega)) fun v v0 v1 hr2 => ⟨by rw [inB_nat]; dsimp only; omega, hKb _ ⟨_, old.set i (v == 0), ?_, hr2, by simpa using ho⟩⟩)
    rw [iadd_nat (by omega)]; simp only [uL_nat]
  · rintro _ ⟨p', old, rfl, hr, ho⟩ Kb
    refine br_f (by simp [len_eq, ho]) (L_l11Remember hv ho ?_)
    exact hK _ _ _ _ _ _ (hr.le (by omega)) ⟨hv, ho, rfl⟩
theorem L_l11Wrong {b l r ro re : List Int} {old : List Bool} {p : Int} {k : Nat} {K : Int → List Bool → List Int → Prop} (hv : HVp l r ro) (h : RdOk b p (k + 2)) (ho1 : 1 ≤ old.length) (ho : old.length ≤ 1000) (hre : re.length ≤ 1000)
    (hK : ∀ p' old' re', RdOk b p' k → 1 ≤ old'.length → old'.length ≤ old.length + 1 → re'.length ≤ re.length + 1 → K p' old' re') : Ms_l11Wrong b p l r ro old re K := by
  refine L_l1Copy hv ⟨by omega, by omega, L_pick (k := k + 1) h fun v v0 v1 hr => eqN (fun _ => ?_) fun _ => eqN (fun _ => ?_) fun _ => eqN (fun _ => ?_) fun _ => ?_⟩
  · refine L_pick (k := k) hr fun w w0 w1 hr2 => ?_
    have w1 := w1 (by simp only [len_eq]; omega)
    simp only [len_eq] at w1
    exact ⟨⟨w0, w1⟩, ⟨w0, w1⟩, hK _ _ _ hr2 (by simp [uL]; omega) (by simp [uL]) (by omega)⟩
  · exact L_num (k := k) hr (by simp) fun u hu hr2 => ⟨by simp; omega, hK _ _ _ hr2 ho1 (by omega) (by simp)⟩
  · exact ⟨by simp; omega, hK _ _ _ (hr.le (by omega)) (by simp) (by simp) (by omega)⟩
  · exact hK _ _ _ (hr.le (by omega)) ho1 (by omega) (by omega)
theorem GVp.old1 {l r ro re : List Int} {old : List Bool} (h : GVp l r ro old re) : 1 ≤ old.length := by rw [h.o]; exact h.h.l1
theorem GVp.old8 {l r ro re : List Int} {old : List Bool} (h : GVp l r ro old re) : old.length ≤ 8 := by rw [h.o]; exact h.h.l8
theorem GVp.re8 {l r ro re : List Int} {old : List Bool} (h : GVp l r ro old re) : re.length ≤ 8 := by rw [h.m]; have := rem_len l r old; have := h.old8; omega
theorem L_DrawGensValid {c : List Int} {K : List Int → List Int → List Int → List Bool → List Int → Prop} (hc : ∀ x ∈ c, U8 x) (hK : ∀ l r ro old re, HVp l r ro → old.length ≤ 10 → re.length ≤ 10 → K l r ro old re) : Ms_DrawGensValid c K :=
  L_l13Open hc fun b hb => L_l11Draw (k := 100) (hb.le (by omega)) fun p l r ro old re hr hv =>
    have h1 := hv.old8; have h2 := hv.re8
    L_l11Wrong (k := 98) hv.h hr hv.old1 (by omega) (by omega) fun p' old' re' hr' a1 a2 a3 => L_l11Wrong (k := 96) hv.h hr' a1 (by omega) (by omega) fun p'' old'' re'' hr'' b1 b2 b3 => hK _ _ _ _ _ hv.h (by omega) (by omega)
theorem L_l11Case {c : List Int} {K : List Int → List Int → List Int → List Bool → List Int → Prop} (hc : ∀ x ∈ c, U8 x) (hK : ∀ l r ro old re, HVp l r ro → old.length ≤ 10 → re.length ≤ 10 → K l r ro old re) : Ms_l11Case c K :=
  L_l13Open hc fun b hb => L_l11Draw (k := 100) (hb.le (by omega)) fun p l r ro old re hr hv =>
    have h1 := hv.old8; have h2 := hv.re8
    L_l11Wrong (k := 98) hv.h hr hv.old1 (by omega) (by omega) fun p' old' re' hr' a1 a2 a3 => hK _ _ _ _ _ hv.h (by omega) (by omega)
theorem L_DrawGensSame {c : List Int} {K : List Int → List Int → List Int → List Bool → List Int → List Int → List Int → List Int → List Bool → List Int → Prop} (hc : ∀ x ∈ c, U8 x)
    (hK : ∀ l r ro old re old' re', GVp l r ro old re → old'.length ≤ 11 → re'.length ≤ 11 → K l r ro old re l r ro old' re') : Ms_DrawGensSame c K :=
  L_l13Open hc fun b hb => L_l11Draw (k := 100) (hb.le (by omega)) fun p l r ro old re hr hv =>
    have h1 := hv.old8; have h2 := hv.re8
    L_l11Wrong (k := 98) hv.h hr hv.old1 (by omega) (by omega) fun p' old' re' hr' a1 a2 a3 => L_l11Wrong (k := 96) hv.h hr' a1 (by omega) (by omega) fun p'' old'' re'' hr'' b1 b2 b3 =>
      L_l11Wrong (k := 94) hv.h hr'' b1 (by omega) (by omega) fun p3 old3 re3 hr3 d1 d2 d3 => hK _ _ _ _ _ _ _ hv (by omega) (by omega)
theorem L_DrawPutGens {c : List Int} {K : Int → Int → List Int → List Int → List Int → List Bool → List Int → Prop} (hc : ∀ x ∈ c, U8 x) (hK : ∀ a x l r ro old re, HVp l r ro → old.length ≤ 10 → re.length ≤ 10 → K a x l r ro old re) : Ms_DrawPutGens c K :=
  L_l11Case hc fun l r ro old re hv ho hr => L_l13Open hc fun b hb => L_num (k := 100) (hb.le (by omega)) (by simp) fun a ha h1 => L_num (k := 99) h1 (by simp) fun x hx h2 => hK _ _ _ _ _ _ _ hv ho hr

/-! What is remembered. -/
theorem rem_get {l r : List Int} {old : List Bool} {i : Nat} (hi : i < (rem l r old).length) : ∃ c : Nat, (rem l r old).getD i 0 = c ∧ c < old.length ∧ isRem l r old c = true := by
  have hm := getD_mem 0 hi
  unfold rem remU at hm ⊢
  obtain ⟨c, hc, he⟩ := List.mem_map.1 hm
  have := List.mem_filter.1 hc
  exact ⟨c, he.symm, by simpa using this.1, this.2⟩
theorem rem_lt {l r : List Int} {old : List Bool} {i j : Nat} (hij : i < j) (hj : j < (rem l r old).length) : (rem l r old).getD i 0 < (rem l r old).getD j 0 := by
  have hp : (rem l r old).Pairwise (· < ·) := by
    unfold rem remU
    rw [List.pairwise_map]
    refine (List.Pairwise.filter _ List.pairwise_lt_range).imp ?_
    intro a b hab
    omega
  rw [getD_lt (by omega), getD_lt hj]
  exact List.pairwise_iff_getElem.1 hp i j (by omega) hj hij
theorem mem_rem {l r : List Int} {old : List Bool} {c : Nat} (hc : c < old.length) (h : isRem l r old c = true) : (c : Int) ∈ rem l r old := by
  unfold rem remU
  exact List.mem_map.2 ⟨c, List.mem_filter.2 ⟨by simpa using hc, h⟩, rfl⟩

/-! Which young cells are kept. -/
def yk (l r : List Int) (old : List Bool) : Nat → Nat → List Bool → List Int → List Bool
  | 0, i, kept, op => kept
  | f + 1, i, kept, op =>
    if i < op.length then
      (if yg old (op.getD i 0) = true ∧ kept.getD (op.getD i 0).toNat false = false then yk l r old f (i + 1) (kept.set (op.getD i 0).toNat true) (op ++ [l.getD (op.getD i 0).toNat 0, r.getD (op.getD i 0).toNat 0]) else yk l r old f (i + 1) kept op)
    else kept
def openL (l r ro re : List Int) : List Int := ro ++ re.flatMap fun c => [l.getD c.toNat 0, r.getD c.toNat 0]
def keptF (l r ro : List Int) (old : List Bool) (re : List Int) : List Bool := yk l r old ((openL l r ro re).length + 2 * old.length + 1) 0 (List.replicate old.length false) (openL l r ro re)
def idxs (kept : List Bool) (n : Nat) : List Int := ((List.range n).filter fun i => kept.getD i false).map fun (i : Nat) => (i : Int)
theorem idxs_succ (kept : List Bool) (n : Nat) : idxs kept (n + 1) = if kept.getD n false then idxs kept n ++ [(n : Int)] else idxs kept n := by
  unfold idxs
  rw [List.range_succ, List.filter_append]
  cases h : kept.getD n false <;> simp [-List.getD_eq_getElem?_getD, h]
theorem idxs_len (kept : List Bool) (n : Nat) : (idxs kept n).length ≤ n := by
  unfold idxs
  rw [List.length_map]
  exact Nat.le_trans (List.length_filter_le _ _) (by simp)
theorem count_set : ∀ {l : List Bool} {i : Nat}, i < l.length → l.getD i false = false → (l.set i true).count true = l.count true + 1
  | [], i, h, _ => by simp at h
  | a :: l, 0, _, h => by
    simp at h; subst h; simp
  | a :: l, i + 1, h, h1 => by
    have := count_set (l := l) (i := i) (by simpa using h) (by simpa using h1)
    rw [List.set_cons_succ, List.count_cons, List.count_cons, this]
    omega
theorem yk_len {l r : List Int} {old : List Bool} : ∀ (f i : Nat) (kept : List Bool) (op : List Int), (yk l r old f i kept op).length = kept.length
  | 0, i, kept, op => rfl
  | f + 1, i, kept, op => by
    simp only [yk]
    split
    · split
      · rw [yk_len]; simp
      · rw [yk_len]
    · rfl
theorem keptF_len (l r ro : List Int) (old : List Bool) (re : List Int) : (keptF l r ro old re).length = old.length := by simp [keptF, yk_len]
theorem openL_len (l r ro re : List Int) : (openL l r ro re).length = ro.length + 2 * re.length := by
  unfold openL
  rw [List.length_append]
  congr 1
  induction re with
  | nil => rfl
  | cons a re ih => simp only [List.flatMap_cons, List.length_append, List.length_cons, List.length_nil, ih]; omega
theorem openL_succ {l r ro re : List Int} {i : Nat} (h : i < re.length) : openL l r ro (re.take (i + 1)) = openL l r ro (re.take i) ++ [l.getD (re.getD i 0).toNat 0, r.getD (re.getD i 0).toNat 0] := by
  unfold openL
  rw [List.take_add_one, List.getElem?_eq_getElem h, getD_lt h, List.flatMap_append, List.append_assoc]
  simp
theorem yg_ok {old : List Bool} {x : Int} (hx : okP old.length x) (h : yg old x = true) : 0 ≤ x ∧ x < old.length := by
  simp only [yg, Bool.and_eq_true, bne_iff_ne] at h
  have := hx.1; have := hx.2
  exact ⟨by omega, by omega⟩
end Go.Ab
