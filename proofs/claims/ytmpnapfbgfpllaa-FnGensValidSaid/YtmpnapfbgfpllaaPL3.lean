/-
  What is proved here: the models of the laws FnRememberOld, FnGensSame, FnGensValid, FnOrderRoots and FnPutGens return true. Condition: the argument's bytes are bytes.
-/
import Derived.Test.YtmpnapfbgfpllaaP7
namespace Go.Ab
set_option linter.unusedVariables false
set_option linter.unusedSimpArgs false

theorem eqS {a : Bool} {P Q : Prop} (h : Q) : ((!(a == a)) = true → P) ∧ ((!(a == a)) = false → Q) := br_f (by simp) h
theorem law_FnRememberOld {c : List Int} (hc : ∀ x ∈ c, U8 x) {K : Bool → Prop} (hK : K true) : Ml_FnRememberOld c K := by
  unfold Ml_FnRememberOld
  refine br (fun _ => hK) fun _ => L_DrawGensValid hc fun l r ro old re hv ho hr => L_iGensValid (by omega) (L_sGensValid (by omega) (eqS ?_))
  refine br (fun _ => L_sGensValid (by omega) (by simpa using hK)) fun h => ?_
  have h : GVp l r ro old re := by simpa using h
  have h8 := h.h.l8; have hol := h.o; have hlr := h.h.lr
  refine LoopP_for (fun i s => s = ((i : Int), l, r, ro, old, re)) re.length rfl ?_ ?_
  · rintro i _ hi rfl Kb hKb
    refine br_t (by simp [len_eq]; exact hi) ⟨by rw [inB_nat]; exact hi, ?_⟩
    have hKb := hKb ((i + 1 : Nat), l, r, ro, old, re) rfl
    have hm := h.m
    have hlt : 0 < i → re.getD (i - 1) 0 < re.getD i 0 := fun h0 => by
      rw [hm] at hi ⊢
      exact rem_lt (by omega) hi
    obtain ⟨k, hk, hko, hkr⟩ := rem_get (l := l) (r := r) (old := old) (i := i) (by rw [← hm]; exact hi)
    rw [← hm] at hk
    have e1 : gI re (i : Int) = (k : Int) := by rw [gI_nat, hk]
    have e2 : iadd (i : Int) 1 = ((i + 1 : Nat) : Int) := iadd_nat (by omega)
    simp only [e1, e2, gI_nat, gB_nat, inB_nat]
    have oa := h.h.gl (i := k) (by omega)
    have ob := h.h.gr (i := k) (by omega)
    have hkold : old.getD k false = true := by simp only [isRem, Bool.and_eq_true] at hkr; exact hkr.1
    have hyg : yg old (l.getD k 0) = true ∨ yg old (r.getD k 0) = true := by simp only [isRem, Bool.and_eq_true, Bool.or_eq_true] at hkr; exact hkr.2
    generalize hA : l.getD k 0 = a at *
    generalize hB : r.getD k 0 = b at *
    have hj12 : (k < l.length ∧ k < r.length ∧
        ((a == -1) = true → (((b == -1) = true → K false) ∧ ((b == -1) = false → inB b old.length ∧ (gB old b = true → K false) ∧ (gB old b = false → Kb ((i + 1 : Nat), l, r, ro, old, re))))) ∧
        ((a == -1) = false → inB a old.length ∧ (gB old a = true → (((b == -1) = true → K false) ∧ ((b == -1) = false → inB b old.length ∧ (gB old b = true → K false) ∧ (gB old b = false → Kb ((i + 1 : Nat), l, r, ro, old, re))))) ∧ (gB old a = false → Kb ((i + 1 : Nat), l, r, ro, old, re)))) := by
      have hb : yg old a = false → (((b == -1) = true → K false) ∧ ((b == -1) = false → inB b old.length ∧ (gB old b = true → K false) ∧ (gB old b = false → Kb ((i + 1 : Nat), l, r, ro, old, re)))) := fun hna => by
        have hyb : yg old b = true := by rcases hyg with q | q; (rw [hna] at q; cases q); exact q
        simp only [yg, Bool.and_eq_true, bne_iff_ne, Bool.not_eq_true'] at hyb
        refine ⟨fun q => absurd (by simpa using q) hyb.1, fun q => ⟨⟨by have := ob.1; have := hyb.1; omega, by have := ob.2; omega⟩, fun q => ?_, fun _ => hKb⟩⟩
        simp only [gB, EK.dflt] at q
        rw [q] at hyb; exact absurd hyb.2 (by simp)
      refine ⟨by omega, by omega, fun q => hb ?_, fun q => ?_⟩
      · simp at q; simp [yg, q]
      · simp at q
        refine ⟨⟨by have := oa.1; omega, by have := oa.2; omega⟩, fun q2 => hb ?_, fun _ => hKb⟩
        simp only [gB, EK.dflt] at q2
        simp only [yg, q2, Bool.not_true, Bool.and_false]
    refine ⟨by omega, br_f (by rw [hkold]; rfl) ?_⟩
    refine br (fun q => ?_) fun _ => hj12
    have q : 0 < i := by have := of_decide_eq_true q; omega
    have e3 : isub (i : Int) 1 = ((i - 1 : Nat) : Int) := by rw [isub_eq (by omega) (by omega)]; omega
    rw [e3, inB_nat, gI_nat]
    refine ⟨by omega, br_f ?_ hj12⟩
    have := hlt q
    rw [hk] at this
    exact decide_eq_false (by omega)
  · rintro _ rfl Kb
    exact br_f (by simp [len_eq]) hK

theorem law_FnGensSame {c : List Int} (hc : ∀ x ∈ c, U8 x) {K : Bool → Prop} (hK : K true) : Ml_FnGensSame c K := by
  unfold Ml_FnGensSame
  refine br (fun _ => hK) fun _ => L_DrawGensSame hc fun l r ro old re old' re' hv ho hr => ?_
  have h8 := hv.h.l8; have hlr := hv.h.lr; have h3 := hv.h.r3; have h1 := hv.old8; have h2 := hv.re8
  refine L_iGensSame (by omega) (by omega) (by omega) (by omega) (by omega) (L_sGensSame (by omega) (by omega) (by omega) (by omega) (by omega) (br_t (by simp) (L_iGensSame (by omega) (by omega) (by omega) (by omega) (by omega) (br_t ?_ (L_iGensSame (by omega) (by omega) (by omega) (by omega) (by omega) (br_t (by simp) ?_))))))
  · simp only [beq_iff_eq, decide_eq_decide]
    constructor <;> rintro ⟨_, rfl, rfl⟩ <;> simp
  · refine br (fun _ => hK) fun h => ?_
    simp only [Bool.not_eq_false', decide_eq_true_eq] at h
    obtain ⟨_, rfl, rfl⟩ := h
    refine L_iGensValid (by omega) (L_iGensValid (by omega) ?_)
    simpa using hK

theorem rem_allold {l r ro : List Int} {n : Nat} (hv : HVp l r ro) (hn : n = l.length) : rem l r (List.replicate n true) = [] := by
  have h : ∀ i, i < n → isRem l r (List.replicate n true) i = false := by
    intro i hi
    have a := hv.gl (i := i) (by omega)
    have b := hv.gr (i := i) (by omega)
    have y : ∀ x, okP l.length x → yg (List.replicate n true) x = false := by
      intro x hx
      unfold yg
      by_cases hx0 : x = -1
      · simp [hx0]
      · have := hx.1; have := hx.2
        rw [getD_lt (by rw [List.length_replicate]; omega)]
        simp
    simp only [isRem, y _ a, y _ b, Bool.or_false, Bool.and_false]
  unfold rem remU
  simp only [List.length_replicate]
  rw [List.filter_eq_nil_iff.2 fun i hi => by rw [h i (by simpa using hi)]; simp]
  rfl
theorem yg_allold {n : Nat} {x : Int} (hx : okP n x) : yg (List.replicate n true) x = false := by
  unfold yg
  by_cases hx0 : x = -1
  · simp [hx0]
  · have := hx.1; have := hx.2
    rw [getD_lt (by rw [List.length_replicate]; omega)]
    simp
theorem yk_allold {l r : List Int} {n : Nat} : ∀ (f i : Nat) (kept : List Bool) (op : List Int), (∀ x ∈ op, okP n x) → yk l r (List.replicate n true) f i kept op = kept
  | 0, i, kept, op, _ => rfl
  | f + 1, i, kept, op, h => by
    simp only [yk]
    split
    · rename_i hi
      rw [if_neg (by rw [yg_allold (h _ (getD_mem 0 hi))]; simp), yk_allold f _ _ _ h]
    · rfl
theorem law_FnGensValid {c : List Int} (hc : ∀ x ∈ c, U8 x) {K : Bool → Prop} (hK : K true) : Ml_FnGensValid c K := by
  unfold Ml_FnGensValid
  refine br (fun _ => hK) fun _ => L_DrawGensValid hc fun l r ro old re hv ho hr => L_iGensValid (by omega) (L_sGensValid (by omega) (eqS ?_))
  refine br (fun _ => L_sGensValid (by omega) (by simpa using hK)) fun h => ?_
  have h : GVp l r ro old re := by simpa using h
  have h8 := h.h.l8; have hol := h.o; have hlr := h.h.lr
  refine ⟨⟨by simp [len_eq], rfl, by simp only [len_eq]; omega⟩, ?_⟩
  refine LoopP_for (fun i s => ∃ o, s = ((i : Int), l, r, ro, o, re) ∧ o.length = old.length ∧ ∀ j, j < i → o.getD j false = true) old.length ⟨_, rfl, by simp [len_eq], by omega⟩ ?_ ?_
  · rintro i _ hi ⟨o, rfl, h1, h2⟩ Kb hKb
    refine br_t (by simp [len_eq, h1]; exact hi) ⟨by rw [inB_nat]; dsimp only; omega, hKb _ ⟨o.set i true, ?_, by simpa using h1, fun j hj => ?_⟩⟩
    · rw [iadd_nat (by omega)]; simp only [uL_nat]
    · rw [List.getD_eq_getElem?_getD, List.getElem?_set]
      by_cases e : i = j
      · subst e; simp [h1, hi]
      · rw [if_neg e, ← List.getD_eq_getElem?_getD]; exact h2 j (by omega)
  · rintro _ ⟨o, rfl, h1, h2⟩ Kb
    refine br_f (by simp [len_eq, h1]) ?_
    have ho : o = List.replicate l.length true := eqL_iff false _ _ (by simp; omega) fun j hj => by
      rw [h2 j (by omega), getD_lt (by simp; omega)]; simp
    subst ho
    have hrem : rem l r (List.replicate l.length true) = [] := rem_allold h.h rfl
    have hg : GVp l r ro (List.replicate l.length true) [] := ⟨h.h, by simp, hrem.symm⟩
    have hg' : ¬ GVp l r ro (List.replicate l.length true) [0] := fun hh => by have := hh.m; rw [hrem] at this; cases this
    refine L_iGensValid (by simp) (br_t (by simpa using hg) (L_iGensValid (by simp) (br_t (by simpa using hg') (L_iYoungKept (by simp) (fun _ => ?_) fun _ => hK))))
    have hop := openL_ok hg (Nat.le_refl _)
    rw [List.take_length] at hop
    have hk : idxs (keptF l r ro (List.replicate l.length true) []) (List.replicate l.length true).length = [] := by
      unfold keptF
      rw [yk_allold _ _ _ _ hop]
      unfold idxs
      rw [List.filter_eq_nil_iff.2 fun i hi => ?_]
      · rfl
      · simp at hi
        simp [hi]
    rw [hk]; exact hK

theorem bfs_pre {l r : List Int} : ∀ (f i : Nat) (s : List Int), ∃ t, bfs l r f i s = s ++ t
  | 0, i, s => ⟨[], by simp [bfs]⟩
  | f + 1, i, s => by
    simp only [bfs]
    split
    · obtain ⟨t, ht⟩ := bfs_pre (l := l) (r := r) f (i + 1) (stepO l r s i)
      rw [ht]
      unfold stepO
      obtain ⟨t1, h1⟩ := meet_pre (l.getD (s.getD i 0).toNat 0) s
      obtain ⟨t2, h2⟩ := meet_pre (r.getD (s.getD i 0).toNat 0) (meet (l.getD (s.getD i 0).toNat 0) s)
      rw [h2, h1]
      exact ⟨t1 ++ t2 ++ t, by simp⟩
    · exact ⟨[], by simp⟩
theorem metL_pre : ∀ (ps s : List Int), ∃ t, metL ps s = s ++ t
  | [], s => ⟨[], by simp [metL]⟩
  | p :: ps, s => by
    obtain ⟨t, ht⟩ := metL_pre ps (meet p s)
    obtain ⟨t1, h1⟩ := meet_pre p s
    refine ⟨t1 ++ t, ?_⟩
    rw [← List.append_assoc, ← h1]
    exact ht
theorem law_FnOrderRoots {c : List Int} (hc : ∀ x ∈ c, U8 x) {K : Bool → Prop} (hK : K true) : Ml_FnOrderRoots c K := by
  unfold Ml_FnOrderRoots
  refine br (fun _ => hK) fun _ => L_DrawHeapValid hc fun l r ro a1 a2 a3 => L_iOrderOf (L_sOrderOf ?_)
  have ho : (if HVp l r ro then ordF l r ro else []).length ≤ 8 := by
    split
    · rename_i h; have := (ordF_cells h).len; have := h.l8; omega
    · simp
  refine L_ccInts (by omega) (step_t (by simp) (L_iHeapValid (br (fun h => L_sOrderOf (L_ccInts (by omega) ?_)) fun h => ?_)))
  · simpa using hK
  have h : HVp l r ro := by simpa using h
  rw [if_pos h] at ho ⊢
  refine LoopP_for (fun i s => s = ((i : Int), ordF l r ro, l, r, ro) ∧ metL (ro.take i) [] = []) ro.length ⟨rfl, rfl⟩ ?_ ?_
  · rintro i _ hi ⟨rfl, hm⟩ Kb hKb
    refine br_t (by simp [len_eq]; exact hi) ⟨by rw [inB_nat]; exact hi, br (fun g => ?_) fun g => hKb _ ⟨by rw [iadd_nat (by omega)], ?_⟩⟩
    · simp only [gI_nat, bne_iff_ne] at g
      have h1 := metL_succ (s := []) hi
      rw [hm] at h1
      have h2 : meet (ro.getD i 0) [] = [ro.getD i 0] := by simp [-List.getD_eq_getElem?_getD, meet, g]
      have h3 : ∃ t, ordF l r ro = ro.getD i 0 :: t := by
        have e : metL ro [] = metL (ro.drop (i + 1)) (metL (ro.take (i + 1)) []) := by
          unfold metL; rw [← List.foldl_append, List.take_append_drop]
        obtain ⟨t1, h4⟩ := metL_pre (ro.drop (i + 1)) (metL (ro.take (i + 1)) [])
        obtain ⟨t2, h5⟩ := bfs_pre (l := l) (r := r) (l.length + 1) 0 (metL ro [])
        refine ⟨t1 ++ t2, ?_⟩
        unfold ordF
        rw [h5, e, h4, h1, h2]
        simp
      obtain ⟨t, ht⟩ := h3
      refine br_t (by simp [len_eq, ht]) ⟨⟨by omega, by dsimp only; rw [ht, List.length_cons]; omega⟩, by rw [inB_nat]; exact hi, ?_⟩
      have e1 : gI (ordF l r ro) 0 = ro.getD i 0 := by rw [ht]; simp [gI]
      simp only [e1, gI_nat, beq_self_eq_true]
      exact hK
    · simp only [gI_nat, bne_eq_false_iff_eq] at g
      rw [metL_succ hi, hm, meet_in (.inl g)]
  · rintro _ ⟨rfl, hm⟩ Kb
    refine br_f (by simp [len_eq]) ?_
    rw [List.take_length] at hm
    have : ordF l r ro = [] := by unfold ordF; rw [hm, bfs_end (by simp)]
    rw [this]; exact hK
end Go.Ab
