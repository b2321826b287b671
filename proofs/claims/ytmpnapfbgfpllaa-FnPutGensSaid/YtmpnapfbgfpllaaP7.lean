/-
  What is proved here: the program's YoungKept. Condition: the heap and its generations are no longer than slices are.
-/
import Derived.Test.YtmpnapfbgfpllaaP6
namespace Go.Ab
set_option linter.unusedVariables false
set_option linter.unusedSimpArgs false

theorem openL_ok {l r ro re : List Int} {old : List Bool} (h : GVp l r ro old re) {i : Nat} (hi : i ≤ re.length) : ∀ x ∈ openL l r ro (re.take i), okP l.length x := by
  intro x hx
  unfold openL at hx
  rcases List.mem_append.1 hx with hx | hx
  · exact h.h.oko x hx
  · obtain ⟨c, hc, hx⟩ := List.mem_flatMap.1 hx
    have hc := List.mem_of_mem_take hc
    obtain ⟨j, hj, rfl⟩ := List.getElem_of_mem hc
    have hm := h.m
    subst hm
    obtain ⟨c, h1, h2, h3⟩ := rem_get hj
    rw [getD_lt hj] at h1
    rw [h1] at hx
    have h2 : c < l.length := by rw [← h.o]; exact h2
    simp only [Int.toNat_natCast, List.mem_cons, List.not_mem_nil, or_false] at hx
    rcases hx with rfl | rfl
    · exact h.h.gl h2
    · exact h.h.gr h2
theorem GVp.rget {l r ro re : List Int} {old : List Bool} (h : GVp l r ro old re) {i : Nat} (hi : i < re.length) : 0 ≤ re.getD i 0 ∧ re.getD i 0 < l.length := by
  have hm := h.m
  subst hm
  obtain ⟨c, h1, h2, h3⟩ := rem_get hi
  rw [h1]
  have := h.o
  omega
theorem ykStep {l r ro re : List Int} {old : List Bool} (h : GVp l r ro old re) {i f L0 : Nat} {kept : List Bool} {op : List Int} {F : List Bool} (hk : kept.length = l.length) (hop : ∀ x ∈ op, okP l.length x) (hi : i < op.length) (hc : op.length ≤ L0 + 2 * kept.count true)
    (hF : yk l r old (f + 1) i kept op = F) :
    (yg old (op.getD i 0) = true → kept.getD (op.getD i 0).toNat false = false → 0 ≤ op.getD i 0 ∧ op.getD i 0 < l.length ∧ (kept.set (op.getD i 0).toNat true).length = l.length ∧ (∀ x ∈ op ++ [l.getD (op.getD i 0).toNat 0, r.getD (op.getD i 0).toNat 0], okP l.length x) ∧
      (op ++ [l.getD (op.getD i 0).toNat 0, r.getD (op.getD i 0).toNat 0]).length ≤ L0 + 2 * (kept.set (op.getD i 0).toNat true).count true ∧ yk l r old f (i + 1) (kept.set (op.getD i 0).toNat true) (op ++ [l.getD (op.getD i 0).toNat 0, r.getD (op.getD i 0).toNat 0]) = F) ∧
    (¬ (yg old (op.getD i 0) = true ∧ kept.getD (op.getD i 0).toNat false = false) → yk l r old f (i + 1) kept op = F) := by
  have hx := hop _ (getD_mem 0 hi)
  constructor
  · intro h1 h2
    have hy := yg_ok (by rw [h.o]; exact hx) h1
    rw [h.o] at hy
    refine ⟨hy.1, hy.2, by simpa using hk, fun x hx => ?_, ?_, ?_⟩
    · rcases List.mem_append.1 hx with hx | hx
      · exact hop x hx
      · simp only [List.mem_cons, List.not_mem_nil, or_false] at hx
        rcases hx with rfl | rfl
        · exact h.h.gl (by omega)
        · exact h.h.gr (by omega)
    · rw [count_set (by omega) h2, List.length_append]
      simp only [List.length_cons, List.length_nil]
      omega
    · simpa only [yk, if_pos hi, if_pos (And.intro h1 h2)] using hF
  · intro hn
    simpa only [yk, if_pos hi, if_neg hn] using hF
theorem L_iYoungKept {l r ro re : List Int} {old : List Bool} {K : List Int → Prop} (hr : re.length < 2 ^ 62) (hy : GVp l r ro old re → K (idxs (keptF l r ro old re) old.length)) (hn : ¬ GVp l r ro old re → K []) : Mi_YoungKept l r ro old re K := by
  refine L_iGensValid hr (br (fun h => hn ?_) fun h => ?_)
  · simpa using h
  have h : GVp l r ro old re := by simpa using h
  have hK := hy h
  have h8 := h.h.l8; have h1 := h.h.l1; have h3 := h.h.r3; have hre := h.re8; have ho := h.o; have hlr := h.h.lr
  refine ⟨⟨by simp [len_eq], rfl, by simp only [len_eq]; omega⟩, L_Clone_int (by omega) ?_⟩
  refine LoopP_for (fun i s => s = (re, len re, (i : Int), l, r, ro, old, re, List.replicate (Int.toNat (len old)) false, openL l r ro (re.take i))) re.length (by simp [openL]) ?_ ?_
  · rintro i _ hi rfl Kb hKb
    have hg := h.rget hi
    have ht : (re.take i).length ≤ 8 := by rw [List.length_take]; omega
    have hol := openL_len l r ro (re.take i)
    refine br_t (by simp [len_eq]; exact hi) ⟨by rw [inB_nat]; exact hi, ⟨by simp only [gI_nat]; omega, by simp only [gI_nat]; omega⟩, ⟨by simp only [gI_nat]; omega, by simp only [gI_nat]; omega⟩, ?_, hKb _ ?_⟩
    · dsimp only [List.length_cons, List.length_nil]; omega
    · rw [iadd_nat (by omega), openL_succ hi]; simp only [gI_at, Int.toNat_natCast]
  rintro _ rfl Kb
  refine br_f (by simp [len_eq]) ?_
  simp only [List.take_length, len_eq, Int.toNat_natCast]
  have hol := openL_len l r ro re
  refine LoopP_inv (fun s => ∃ (i : Nat) (kept : List Bool) (op : List Int), s = ((i : Int), l, r, ro, old, re, kept, op) ∧ kept.length = l.length ∧ (∀ x ∈ op, okP l.length x) ∧ i ≤ op.length ∧ op.length ≤ (openL l r ro re).length + 2 * kept.count true ∧
    yk l r old ((openL l r ro re).length + 2 * old.length + 1 - i) i kept op = keptF l r ro old re) (fun s => (openL l r ro re).length + 2 * old.length + 1 - s.1.toNat) ?_ ⟨0, _, _, rfl, by simpa using ho, by have := openL_ok h (Nat.le_refl re.length); rwa [List.take_length] at this, by omega, by omega, rfl⟩
  rintro _ ⟨i, kept, op, rfl, hk, hop, hi, hc, hF⟩ Kb hKb
  have hcl : kept.count true ≤ l.length := by rw [← hk]; exact List.count_le_length
  have e1 : iadd (i : Int) 1 = ((i + 1 : Nat) : Int) := iadd_nat (by omega)
  have hm : i < op.length → (openL l r ro re).length + 2 * old.length + 1 - (i + 1) < (openL l r ro re).length + 2 * old.length + 1 - i := by omega
  refine br (fun h' => ?_) fun h' => ?_
  · have hio : i < op.length := by have := of_decide_eq_true h'; simp only [len_eq] at this; omega
    obtain ⟨f, hf⟩ : ∃ f, (openL l r ro re).length + 2 * old.length + 1 - i = f + 1 := ⟨(openL l r ro re).length + 2 * old.length - i, by omega⟩
    have hf' : (openL l r ro re).length + 2 * old.length + 1 - (i + 1) = f := by omega
    rw [hf] at hF
    have hs := ykStep h hk hop hio hc hF
    have hx := hop _ (getD_mem 0 hio)
    have hskip : ¬ (yg old (op.getD i 0) = true ∧ kept.getD (op.getD i 0).toNat false = false) → Kb (iadd (i : Int) 1, l, r, ro, old, re, kept, op) := fun hn =>
      hKb _ ⟨i + 1, kept, op, by rw [e1], hk, hop, by omega, hc, by rw [hf']; exact hs.2 hn⟩ (by simp only [e1, Int.toNat_natCast]; omega)
    refine ⟨by rw [inB_nat]; exact hio, br (fun g => hskip ?_) fun g => ?_⟩
    · simp only [gI_nat, beq_iff_eq] at g; simp [-List.getD_eq_getElem?_getD, yg, g]
    simp only [gI_nat, beq_eq_false_iff_ne] at g
    have hx0 : 0 ≤ op.getD i 0 := by have := hx.1; omega
    have hx1 := hx.2
    refine ⟨⟨by simp only [gI_nat]; omega, by simp only [gI_nat]; omega⟩, br (fun g1 => hskip ?_) fun g1 => ⟨⟨by simp only [gI_nat]; omega, by simp only [gI_nat]; omega⟩, br (fun g2 => hskip ?_) fun g2 => ?_⟩⟩
    · simp only [gI_nat, gB, EK.dflt] at g1; rintro ⟨q1, q2⟩; simp only [yg, g1, Bool.not_true, Bool.and_false] at q1; cases q1
    · simp only [gI_nat, gB, EK.dflt] at g2; rintro ⟨q1, q2⟩; rw [g2] at q2; cases q2
    simp only [gI_nat, gB, EK.dflt] at g1 g2
    obtain ⟨q0, q1, q2, q3, q4, q5⟩ := hs.1 (by simp only [yg, g1, Bool.and_eq_true, bne_iff_ne]; exact ⟨g, rfl⟩) g2
    refine ⟨⟨by simp only [gI_nat]; omega, by simp only [gI_nat]; omega⟩, ⟨by simp only [gI_nat]; omega, by simp only [gI_nat]; omega⟩, ⟨by simp only [gI_nat]; omega, by simp only [gI_nat]; omega⟩, ?_, hKb _ ⟨i + 1, kept.set (op.getD i 0).toNat true, op ++ [l.getD (op.getD i 0).toNat 0, r.getD (op.getD i 0).toNat 0], ?_, q2, q3, ?_, q4, by rw [hf']; exact q5⟩ ?_⟩
    · dsimp only [List.length_cons, List.length_nil]; omega
    · rw [e1]; simp only [gI_at, Int.toNat_natCast, uL]
    · rw [List.length_append]; simp only [List.length_cons, List.length_nil]; omega
    · simp only [e1, Int.toNat_natCast]; omega
  · have hio : ¬ i < op.length := by have := of_decide_eq_false h'; simp only [len_eq] at this; omega
    have hkF : kept = keptF l r ro old re := by
      rw [← hF]
      cases (openL l r ro re).length + 2 * old.length + 1 - i with
      | zero => rfl
      | succ f => simp only [yk, if_neg hio]
    rw [← hkF] at hK
    have hko : kept.length = old.length := by omega
    refine LoopP_for (fun j s => s = (len kept, (j : Int), idxs kept j, kept)) kept.length rfl ?_ ?_
    · rintro j _ hj rfl Kb' hKb'
      have hil := idxs_len kept j
      have hs := idxs_succ kept j
      refine br_t (by simp [len_eq]; exact hj) ⟨by rw [inB_nat]; exact hj, br (fun g => ⟨by simp; omega, hKb' _ ?_⟩) fun g => hKb' _ ?_⟩
      · simp only [gB_nat] at g; rw [hs, if_pos g, iadd_nat (by omega)]
      · simp only [gB_nat] at g; rw [hs, if_neg (by rw [g]; simp), iadd_nat (by omega)]
    · rintro _ rfl Kb'
      refine br_f (by simp [len_eq]) ?_
      rw [hko]; exact hK
end Go.Ab
