/-
  What is proved here: the models of the laws FnCopyStep, FnStepMeets and FnPutGens return true. Condition: the argument's bytes are bytes.
-/
import Derived.Test.YtmpnapfbgfpllaaP7
import Derived.Test.YtmpnapfbgfpllaaPL2
namespace Go.Ab
set_option linter.unusedVariables false
set_option linter.unusedSimpArgs false

theorem L_DrawCopyStep {c : List Int} {K : Int → List Int → List Int → List Int → List Int → Prop} (hc : ∀ x ∈ c, U8 x) (hK : ∀ a l r ro s, HVp l r ro → s.length ≤ 20 → K a l r ro s) : Ms_DrawCopyStep c K := by
  refine L_l13Open hc fun b hb => L_l1Draw (k := 100) (hb.le (by omega)) fun p l r ro hr hv => L_l10Order hv ?_
  have ho := (ordF_cells hv).len
  have h8 := hv.l8
  generalize ordF l r ro = o at ho
  have hj : ∀ z, RdOk b z 50 → ∀ s : List Int, s.length ≤ 8 → Ms_l13Rd_pick 16 b z fun (y23 : Int) (y24 : Int) => ((y23 == 0) = true → (Ms_l13Rd_num [0, 8, (-1)] b y24 fun (y25 : Int) (y26 : Int) => ((List.length s + List.length ([y25] : List Int) ≤ 2 ^ 36) ∧ (Ms_l13Rd_num [0, 0, 1, 2, (-1)] b y26 fun (y27 : Int) (y28 : Int) => (K y27 l r ro (s ++ [y25])))))) ∧
      ((y23 == 0) = false → (Ms_l13Rd_num [0, 0, 1, 2, (-1)] b y24 fun (y29 : Int) (y30 : Int) => (K y29 l r ro s))) := fun z hz s hs =>
    L_pick (k := 49) hz fun v _ _ h1 => eqN (fun _ => L_num (k := 48) h1 (by simp) fun u _ h2 => ⟨by simp; omega, L_num (k := 47) h2 (by simp) fun w _ h3 => hK _ _ _ _ _ hv (by simp; omega)⟩)
      fun _ => L_num (k := 48) h1 (by simp) fun w _ h3 => hK _ _ _ _ _ hv (by omega)
  refine br (fun h => ?_) fun _ => hj _ (hr.le (by omega)) o (by omega)
  have h : 1 < o.length := by have := of_decide_eq_true h; simp only [len_eq] at this; omega
  have e1 : isub (len o) 1 = ((o.length - 1 : Nat) : Int) := by simp only [len_eq]; rw [isub_eq (by omega) (by omega)]; omega
  refine L_pick (k := 99) hr fun v v0 v1 h1 => eqN (fun _ => ?_) fun _ => hj _ (h1.le (by omega)) o (by omega)
  rw [e1]
  refine L_pick (k := 98) h1 fun w w0 w1 h2 => ?_
  have w1 := w1 (by omega)
  obtain ⟨k, rfl⟩ := Int.eq_ofNat_of_zero_le w0
  have e2 : iadd 1 (k : Int) = ((k + 1 : Nat) : Int) := by rw [iadd_eq (by omega) (by omega)]; omega
  rw [e2, sub_nat]
  exact ⟨⟨by omega, by omega, by simp only [len_eq]; omega⟩, hj _ (h2.le (by omega)) _ (by rw [List.length_take]; omega)⟩

theorem stepO_pre (l r s : List Int) (i : Nat) : ∃ t, stepO l r s i = s ++ t := by
  unfold stepO
  obtain ⟨t1, h1⟩ := meet_pre (l.getD (s.getD i 0).toNat 0) s
  obtain ⟨t2, h2⟩ := meet_pre (r.getD (s.getD i 0).toNat 0) (meet (l.getD (s.getD i 0).toNat 0) s)
  rw [h2, h1]
  exact ⟨t1 ++ t2, by simp⟩
theorem law_FnCopyStep {c : List Int} (hc : ∀ x ∈ c, U8 x) {K : Bool → Prop} (hK : K true) : Ml_FnCopyStep c K := by
  unfold Ml_FnCopyStep
  refine br (fun _ => hK) fun _ => L_DrawCopyStep hc fun a l r ro s hv hs => ?_
  have h8 := hv.l8
  by_cases h : CSp l r ro s a
  rotate_left
  · refine L_iCopyStep (by omega) (fun hh => absurd hh h) fun _ => L_sCopyStep (by omega) (fun hh => absurd hh h) fun _ => ?_
    exact L_ccInts (by simp) (step_t (by simp) (eqStep (br_t rfl (L_ccInts (by simp) (br_t (by simp) (by simpa using hK))))))
  refine L_iCopyStep (by omega) (fun _ => ?_) fun hh => absurd h hh
  refine L_sCopyStep (by omega) (fun _ => ?_) fun hh => absurd h hh
  have hl := stepO_len l r s a.toNat
  refine L_ccInts (by omega) (step_t (by simp) (eqStep (br_f rfl ?_)))
  have ha1 : a.toNat < s.length := by have := h.a0; have := h.a1; omega
  refine LoopP_inv (fun st => ∃ (x : List Int) (i : Nat), st = (x, (i : Int), s, l, r, ro) ∧ CellsP l.length x ∧ i ≤ l.length ∧ ∃ t, x = s ++ t) (fun st => l.length + 1 - st.2.1.toNat) ?_ ⟨_, a.toNat, by have := h.a0; congr; omega, h.c.step hv ha1, by have := h.c.len; omega, stepO_pre _ _ _ _⟩
  rintro _ ⟨x, i, rfl, hx, hi, t, ht⟩ Kb hKb
  have hxl := hx.len
  refine br (fun g => ?_) fun g => ?_
  · have g : i < x.length := by have := of_decide_eq_true g; simp only [len_eq] at this; omega
    refine L_iCopyStep (by dsimp only; omega) (fun _ => br_f rfl (hKb _ ⟨_, i + 1, by rw [iadd_nat (by omega)]; rfl, hx.step hv g, by omega, ?_⟩ ?_)) fun hh => absurd ⟨hv, hx, by dsimp only; omega, by dsimp only; omega⟩ hh
    · obtain ⟨t', ht'⟩ := stepO_pre l r x i
      rw [ht', ht]; exact ⟨t ++ t', by simp⟩
    · simp only [iadd_nat (show i < 2 ^ 62 by omega), Int.toNat_natCast]; omega
  · refine br_t (by simp [len_eq, ht]; omega) ⟨⟨by omega, by simp only [len_eq]; omega, by simp [len_eq, ht]; omega⟩, ?_⟩
    have e : sub x 0 (len s) = s := by rw [len_eq, sub_nat, ht]; simp
    dsimp only
    rw [e]
    refine L_ccInts (by omega) (br_t (by simp) ?_)
    have : decide (len x ≤ len l) = true := by simp only [len_eq]; exact decide_eq_true (by omega)
    rw [this]; exact hK

theorem orMem {x : List Int} {i : Nat} {v : Int} (hi : i < x.length) {a : Bool} {e : Bool} (ha : a = (e || decide (v ∈ x.take i))) : (a || (x.getD i 0 == v)) = (e || decide (v ∈ x.take (i + 1))) := by
  subst ha
  rw [List.take_add_one, List.getElem?_eq_getElem hi, getD_lt hi]
  simp only [Option.toList, List.mem_append, List.mem_singleton, Bool.or_assoc]
  congr 1
  by_cases h1 : v ∈ x.take i
  · simp [h1]
  · by_cases h2 : v = x[i]
    · simp [h1, h2]
    · simp only [h1, h2, decide_false, Bool.false_or, or_self, beq_eq_false_iff_ne]
      exact fun e => h2 e.symm
theorem law_FnStepMeets {c : List Int} (hc : ∀ x ∈ c, U8 x) {K : Bool → Prop} (hK : K true) : Ml_FnStepMeets c K := by
  unfold Ml_FnStepMeets
  refine br (fun _ => hK) fun _ => L_DrawCopyStep hc fun a l r ro s hv hs => ?_
  have h8 := hv.l8; have hlr := hv.lr
  by_cases h : CSp l r ro s a
  rotate_left
  · refine L_iCopyStep (by omega) (fun hh => absurd hh h) fun _ => L_sCopyStep (by omega) (fun hh => absurd hh h) fun _ => ?_
    exact L_ccInts (by simp) (step_t (by simp) (eqStep (br_t rfl (L_ccInts (by simp) (br_t (by simp) (by simpa using hK))))))
  refine L_iCopyStep (by omega) (fun _ => ?_) fun hh => absurd h hh
  refine L_sCopyStep (by omega) (fun _ => ?_) fun hh => absurd h hh
  have hl := stepO_len l r s a.toNat
  refine L_ccInts (by omega) (step_t (by simp) (eqStep (br_f rfl ?_)))
  obtain ⟨k, rfl⟩ := Int.eq_ofNat_of_zero_le h.a0
  have hk : k < s.length := by have := h.a1; omega
  have hg := h.c.get hk
  simp only [Int.toNat_natCast] at hl ⊢
  obtain ⟨t, ht⟩ := stepO_pre l r s k
  have hxc := h.c.step hv hk
  have hsl := h.c.len
  have mL : l.getD (s.getD k 0).toNat 0 ≠ -1 → l.getD (s.getD k 0).toNat 0 ∈ stepO l r s k := fun hne => by
    unfold stepO
    obtain ⟨t2, h2⟩ := meet_pre (r.getD (s.getD k 0).toNat 0) (meet (l.getD (s.getD k 0).toNat 0) s)
    rw [h2]
    exact List.mem_append_left _ (mem_meet hne)
  have mR : r.getD (s.getD k 0).toNat 0 ≠ -1 → r.getD (s.getD k 0).toNat 0 ∈ stepO l r s k := fun hne => by
    unfold stepO
    exact mem_meet hne
  have hstep2 : stepO l r (stepO l r s k) k = stepO l r s k := by
    have e : (stepO l r s k).getD k 0 = s.getD k 0 := by rw [ht, List.getD_eq_getElem?_getD, List.getElem?_append_left hk, List.getD_eq_getElem?_getD]
    have d : ∀ y : List Int, y.getD k 0 = s.getD k 0 → stepO l r y k = meet (r.getD (s.getD k 0).toNat 0) (meet (l.getD (s.getD k 0).toNat 0) y) := fun y hy => by unfold stepO; rw [hy]
    rw [d _ e, meet_in (x := l.getD (s.getD k 0).toNat 0) (by by_cases q : l.getD (s.getD k 0).toNat 0 = -1; exact .inl q; exact .inr (mL q)), meet_in (by by_cases q : r.getD (s.getD k 0).toNat 0 = -1; exact .inl q; exact .inr (mR q))]
  generalize hx : stepO l r s k = x at *
  have eL : gI l (gI s (k : Int)) = l.getD (s.getD k 0).toNat 0 := by simp only [gI_at, Int.toNat_natCast]
  have eR : gI r (gI s (k : Int)) = r.getD (s.getD k 0).toNat 0 := by simp only [gI_at, Int.toNat_natCast]
  have i1 : inB (k : Int) s.length := by rw [inB_nat]; exact hk
  have i2 : inB (gI s (k : Int)) l.length := by rw [gI_nat]; exact hg
  have i3 : inB (gI s (k : Int)) r.length := by rw [gI_nat]; exact ⟨hg.1, by omega⟩
  rw [eL, eR]
  generalize l.getD (s.getD k 0).toNat 0 = L at *
  generalize r.getD (s.getD k 0).toNat 0 = R at *
  refine ⟨i1, i2, i1, i3, ?_⟩
  refine LoopP_for (fun i st => ∃ a b : Bool, st = ((k : Int), a, b, (i : Int), s, x, l, r, ro) ∧ a = ((L == -1) || decide (L ∈ x.take i)) ∧ b = ((R == -1) || decide (R ∈ x.take i))) x.length ⟨_, _, rfl, by simp, by simp⟩ ?_ ?_
  · rintro i _ hi ⟨a, b, rfl, ha, hb⟩ Kb hKb
    have hA := orMem hi ha
    have hB := orMem hi hb
    have i4 : inB (i : Int) x.length := by rw [inB_nat]; exact hi
    have e2 : iadd (i : Int) 1 = ((i + 1 : Nat) : Int) := iadd_nat (by omega)
    refine br_t (by simp [len_eq]; exact hi) ?_
    simp only [eL, eR, e2, gI_nat x i]
    refine br (fun qa => br (fun qb => hKb _ ⟨_, _, rfl, ?_, ?_⟩) fun qb => ⟨i4, i1, i3, hKb _ ⟨_, _, rfl, ?_, ?_⟩⟩) fun qa => ⟨i4, i1, i2, br (fun qb => hKb _ ⟨_, _, rfl, ?_, ?_⟩) fun qb => ⟨i4, i1, i3, hKb _ ⟨_, _, rfl, ?_, ?_⟩⟩⟩
    all_goals first
      | (rw [← hA, qa]; rfl)
      | (rw [← hA, qa, Bool.false_or])
      | (rw [← hB, qb]; rfl)
      | (rw [← hB, qb, Bool.false_or])
  · rintro _ ⟨a, b, rfl, ha, hb⟩ Kb
    refine br_f (by simp [len_eq]) ?_
    refine L_iCopyStep (by dsimp only; have := hxc.len; omega) (fun _ => ?_) fun hh => absurd ⟨hv, hxc, by dsimp only; omega, by dsimp only; rw [ht, List.length_append]; omega⟩ hh
    rw [List.take_length] at ha hb
    have ha' : a = true := by
      rw [ha]
      by_cases q : L = -1
      · simp [q]
      · simp [mL q]
    have hb' : b = true := by
      rw [hb]
      by_cases q : R = -1
      · simp [q]
      · simp [mR q]
    have e3 : iadd (len s) 2 = ((s.length + 2 : Nat) : Int) := by simp only [len_eq]; rw [iadd_eq (by omega) (by omega)]; omega
    refine br_t ha' (br_t hb' (br_t ?_ (br_t rfl ?_)))
    · rw [e3]; simp only [len_eq]; exact decide_eq_true (by omega)
    · simp only [Int.toNat_natCast, hstep2]
      exact L_ccInts (by omega) (by simpa using hK)

theorem set_set_back {l : List Int} {k : Nat} {v : Int} (hk : k < l.length) : (l.set k v).set k (l.getD k 0) = l := by
  rw [List.set_set, getD_lt hk, List.set_getElem_self]
theorem law_FnPutGens {c : List Int} (hc : ∀ x ∈ c, U8 x) {K : Bool → Prop} (hK : K true) : Ml_FnPutGens c K := by
  unfold Ml_FnPutGens
  refine br (fun _ => hK) fun _ => L_DrawPutGens hc fun a x l r ro old re hv ho hre => ?_
  have h8 := hv.l8; have hlr := hv.lr; have h3 := hv.r3
  by_cases h : PutP l r ro a x ∧ GVp l r ro old re
  rotate_left
  · refine L_iPutGens (by omega) (fun h1 h2 => absurd ⟨h1, h2⟩ h) fun _ => L_sPutGens (by omega) (fun h1 h2 => absurd ⟨h1, h2⟩ h) fun _ => ?_
    have e : ∀ K : Bool → Prop, K true → Mi_GensSame [] [] [] [] [] [] [] [] [] [] K := fun K hK => L_iGensSame (by simp) (by simp) (by simp) (by simp) (by simp) (by simpa using hK)
    exact e _ (step_t rfl (eqStep (br_t rfl (e _ (br_t rfl (by simpa using hK))))))
  obtain ⟨hp, hg⟩ := h
  obtain ⟨k, rfl⟩ := Int.eq_ofNat_of_zero_le hp.c0
  have hk : k < l.length := by have := hp.c1; omega
  refine L_iPutGens (by omega) (fun _ _ => ?_) fun hh => absurd ⟨hp, hg⟩ hh
  refine L_sPutGens (by omega) (fun _ _ => ?_) fun hh => absurd ⟨hp, hg⟩ hh
  simp only [Int.toNat_natCast]
  have hpv : HVp (l.set k x) r ro := by simpa using hp.valid
  have hrl : (rem (l.set k x) r old).length ≤ 8 := by have := rem_len (l.set k x) r old; have := hg.old8; omega
  have ho8 := hg.old8
  have hgo := hg.o
  have hgv : GVp (l.set k x) r ro old (rem (l.set k x) r old) := ⟨hpv, by simpa using hg.o, rfl⟩
  have e : ∀ K : Bool → Prop, K true → Mi_GensSame (l.set k x) r ro old (rem (l.set k x) r old) (l.set k x) r ro old (rem (l.set k x) r old) K := fun K hK => L_iGensSame (by simp; omega) (by omega) (by omega) (by omega) (by omega) (by simpa using hK)
  refine e _ (step_t rfl (eqStep (br_f rfl ?_)))
  generalize hre' : rem (l.set k x) r old = re' at *
  refine LoopP_for (fun i st => ∃ a : Bool, st = ((k : Int), x, a, (i : Int), l, r, ro, old, re, l.set k x, r, ro, old, re') ∧ a = (false || decide ((k : Int) ∈ re'.take i))) re'.length ⟨_, rfl, by simp⟩ ?_ ?_
  · rintro i _ hi ⟨a, rfl, ha⟩ Kb hKb
    have hA := orMem hi ha
    have e2 : iadd (i : Int) 1 = ((i + 1 : Nat) : Int) := iadd_nat (by omega)
    refine br_t (by simp [len_eq]; exact hi) ?_
    simp only [e2, gI_nat re' i]
    refine br (fun qa => hKb _ ⟨_, rfl, ?_⟩) fun qa => ⟨by rw [inB_nat]; exact hi, hKb _ ⟨_, rfl, ?_⟩⟩
    · rw [← hA, qa]; rfl
    · rw [← hA, qa, Bool.false_or]
  · rintro _ ⟨a, rfl, ha⟩ Kb
    refine br_f (by simp [len_eq]) ?_
    rw [List.take_length, Bool.false_or] at ha
    have hkl : inB (k : Int) l.length := by rw [inB_nat]; exact hk
    have hback : PutP (l.set k x) r ro (k : Int) (gI l (k : Int)) := ⟨hpv, by omega, by rw [List.length_set]; omega, by rw [gI_nat, List.length_set]; exact hv.gl hk⟩
    have hrem : rem ((l.set k x).set k (gI l (k : Int))) r old = re := by rw [gI_nat, set_set_back hk]; exact hg.m.symm
    refine ⟨hkl, L_iPutGens (by dsimp only; omega) (fun _ _ => ?_) fun hh => absurd ⟨hback, hgv⟩ hh⟩
    simp only [Int.toNat_natCast]
    rw [hrem, show gI l (k : Int) = l.getD k 0 from gI_nat l k, set_set_back hk]
    have fin : Mi_GensSame l r ro old re l r ro old re K := L_iGensSame (by omega) (by omega) (by omega) (by omega) (by omega) (by simpa using hK)
    have fin2 : (True → Mi_GensSame l r ro old re l r ro old re K) ∧ (true = false → K false) := ⟨fun _ => fin, fun hh => by cases hh⟩
    refine L_iGensValid (by omega) (br_t (by simpa using hgv) ⟨by rw [inB_nat, List.length_set]; exact hk, br_t ?_ (br (fun _ => fin2) fun q => ⟨by rw [inB_nat]; omega, br (fun _ => fin2) fun q2 => ⟨?_, br (fun _ => fin2) fun q3 => br_t ?_ fin2⟩⟩)⟩)
    · rw [gI_nat, getD_lt (by rw [List.length_set]; exact hk), List.getElem_set_self]; simp
    · simp at q
      have := hp.x.1; have := hp.x.2
      exact ⟨by omega, by omega⟩
    · simp only [beq_eq_false_iff_ne] at q
      simp only [gB_nat, Bool.not_eq_false'] at q2
      simp only [gB, EK.dflt] at q3
      rw [ha, ← hre']
      refine decide_eq_true (mem_rem (by omega) ?_)
      have : (l.set k x).getD k 0 = x := by rw [getD_lt (by rw [List.length_set]; exact hk), List.getElem_set_self]
      simp only [isRem, q2, this, yg, q3, Bool.true_and, Bool.or_eq_true]
      exact .inl (by simpa using q)
end Go.Ab
