/-
  What is proved here: the plain laws that the law FnEndBarrier needs: what its functions compute, and that its model returns true. Conditions: those written in each statement.
-/
import Derived.Test.YtheldhohhpoloaaGreatDoorPAFnEndBarrier
namespace Go.Ab
set_option linter.unusedVariables false
set_option linter.unusedSimpArgs false
theorem cells_len {l r ro : List Int} (h : HVp l r ro) : ∀ i, i < l.length → ((digS (l.getD i 0) ++ digS (r.getD i 0)) ++ [32]).length = 3 := fun i hi => by
  have a := h.at.1 i hi; have b := h.at.2.1 i hi; have h8 := h.l8
  unfold okP at a b
  simp only [List.length_append, digS_len (x := l.getD i 0) (by omega) (by omega), digS_len (x := r.getD i 0) (by omega) (by omega), List.length_cons, List.length_nil]
theorem roots_len {l r ro : List Int} (h : HVp l r ro) : ∀ i, i < ro.length → ([32] ++ digS (ro.getD i 0)).length = 2 := fun i hi => by
  have a := h.at.2.2 i hi; have h8 := h.l8
  unfold okP at a
  simp only [List.length_append, digS_len (x := ro.getD i 0) (by omega) (by omega), List.length_cons, List.length_nil]
theorem heapS_len {l r ro : List Int} (h : HVp l r ro) : (heapS l r ro).length ≤ 31 := by
  have h8 := h.l8; have r3 := h.r3
  unfold heapS cellsS rootsS
  rw [List.length_append, List.length_append, catN_len (cells_len h), catN_len (roots_len h)]
  simp; omega
theorem L_FormatHeap {l r ro : List Int} {K : List UInt8 → Prop} (hK : HVp l r ro → K (heapS l r ro)) (hn : ¬ HVp l r ro → K []) : Mi_FormatHeap l r ro K := by
  refine L_iHeapValid (br (fun e => hn (by simpa using e)) fun e => ?_)
  have hv : HVp l r ro := by simpa using e
  replace hK := hK hv
  have h8 := hv.l8; have r3 := hv.r3; have hlr := hv.lr
  refine LoopP_for (fun i s => s = (cellsS l r i, len l, (i : Int), l, r, ro)) l.length rfl ?_ ?_
  · rintro i _ hi rfl Kb hKb
    have a := hv.at.1 i hi; have b := hv.at.2.1 i hi
    unfold okP at a b
    have e1 : (cellsS l r i).length = i * 3 := catN_len fun j hj => cells_len hv j (by omega)
    have e2 := digS_len (x := l.getD i 0) (by omega) (by omega)
    have e3 := digS_len (x := r.getD i 0) (by omega) (by omega)
    refine br_t (by simp [len_eq]; exact hi) ⟨by rw [inB_nat]; exact hi, ?_⟩
    simp only [gI_nat]
    refine L_digit (by omega) (by omega) ⟨by rw [inB_nat]; omega, L_digit (by omega) (by omega) ⟨by omega, by simp [-List.getD_eq_getElem?_getD, e2, e3], by simp [-List.getD_eq_getElem?_getD, e1, e2, e3]; omega, hKb _ ?_⟩⟩
    rw [iadd_nat (by omega)]
    unfold cellsS
    rw [catN_succ]
  · rintro _ rfl Kb
    refine br_f (by simp [len_eq]) ⟨?_, ?_⟩
    · have e1 : (cellsS l r l.length).length = l.length * 3 := catN_len (cells_len hv)
      simp [e1]; omega
    refine LoopP_for (fun i s => s = ((cellsS l r l.length ++ [47]) ++ rootsS ro i, ro, len ro, (i : Int))) ro.length (by simp [rootsS, catN]) ?_ ?_
    · rintro i _ hi rfl Kb hKb
      have a := hv.at.2.2 i hi
      unfold okP at a
      have e1 : (cellsS l r l.length).length = l.length * 3 := catN_len (cells_len hv)
      have e4 : (rootsS ro i).length = i * 2 := catN_len fun j hj => roots_len hv j (by omega)
      have e2 := digS_len (x := ro.getD i 0) (by omega) (by omega)
      refine br_t (by simp [len_eq]; exact hi) ⟨by rw [inB_nat]; exact hi, ?_⟩
      simp only [gI_nat]
      refine L_digit (by omega) (by omega) ⟨by simp [-List.getD_eq_getElem?_getD, e2], by simp [-List.getD_eq_getElem?_getD, e1, e2, e4]; omega, hKb _ ?_⟩
      rw [iadd_nat (by omega)]
      unfold rootsS
      rw [catN_succ, List.append_assoc]
    · rintro _ rfl Kb
      exact br_f (by simp [len_eq]) hK
theorem free_len {l r ro fr : List Int} (h : SVp l r ro fr) : ∀ i, i < fr.length → ([32] ++ Lib.decDigits (fr.getD i 0).toNat).length = 2 := fun i hi => by
  have a := h.c.ok _ (getD_mem 0 hi); have h8 := h.h.l8
  rw [dec1 (by omega)]; rfl
theorem L_spaced {l r ro fr : List Int} {K : List UInt8 → Prop} (hv : SVp l r ro fr) (hK : K (freeS fr fr.length)) : Mi_spaced fr K := by
  have h8 := hv.h.l8; have f8 := hv.f8
  refine LoopP_for (fun i s => s = (freeS fr i, fr, len fr, (i : Int))) fr.length (by simp [freeS, catN]) ?_ ?_
  · rintro i _ hi rfl Kb hKb
    have a := hv.c.ok _ (getD_mem (0 : Int) hi)
    have e4 : (freeS fr i).length = i * 2 := catN_len fun j hj => free_len hv j (by omega)
    have e2 := free_len hv i hi
    refine br_t (by simp [len_eq]; exact hi) ⟨by rw [inB_nat]; exact hi, ?_⟩
    simp only [gI_nat]
    refine L_Itoa (by omega) (by omega) ⟨by have := dec_len (n := (fr.getD i 0).toNat) (by omega); simp only [List.length_cons, List.length_nil]; omega, by rw [e4, e2]; omega, hKb _ ?_⟩
    rw [iadd_nat (by omega)]
    unfold freeS
    rw [catN_succ]
  · rintro _ rfl Kb
    exact br_f (by simp [len_eq]) hK
def storeS (s : StoreV) : List UInt8 := (heapS s.h.l s.h.r s.h.ro ++ [32, 102, 114, 101, 101]) ++ freeS s.free s.free.length
theorem storeS_len {l r ro fr : List Int} (h : SVp l r ro fr) : (storeS ⟨⟨l, r, ro⟩, fr⟩).length ≤ 60 := by
  have := heapS_len h.h; have f8 := h.f8; have h8 := h.h.l8
  unfold storeS freeS
  rw [List.length_append, List.length_append, catN_len (free_len h)]
  simp; omega
theorem L_FormatStore {l r ro fr : List Int} {K : List UInt8 → Prop} (hv : SVp l r ro fr) (hK : K (storeS ⟨⟨l, r, ro⟩, fr⟩)) : Mi_FormatStore l r ro fr K := by
  have f8 := hv.f8; have h8 := hv.h.l8
  have h31 := heapS_len hv.h
  refine L_iStoreValid (by omega) (br_f (by simp [hv]) (L_FormatHeap (fun _ => ⟨by simp; omega, L_spaced hv ⟨?_, hK⟩⟩) fun h => absurd hv.h h))
  have : (freeS fr fr.length).length = fr.length * 2 := catN_len (free_len hv)
  simp; omega
def phS (p : Int) : List UInt8 := gS [[105, 100, 108, 101], [114, 111, 111, 116, 115], [109, 97, 114, 107], [115, 119, 101, 101, 112]] p
def colS (col : List Int) (n : Nat) : List UInt8 := catN (fun i => sub ([119, 103, 98] : List UInt8) (col.getD i 0) (col.getD i 0 + 1)) n
def tailS (i : Int) (lost : Bool) : List UInt8 := [32, 97, 116, 32] ++ Lib.decDigits i.toNat ++ if lost then [32, 108, 111, 115, 116] else []
def bothS (b : BothV) : List UInt8 := storeS b.s ++ ([32] ++ (phS b.g.phase ++ ([32] ++ (Lib.decDigits b.g.pos.toNat ++ ([32] ++ (colS b.g.color b.g.color.length ++ tailS b.pos b.lost))))))
theorem col_len {n : Nat} {col : List Int} (h : ColP n col) : ∀ i, i < col.length → (sub ([119, 103, 98] : List UInt8) (col.getD i 0) (col.getD i 0 + 1)).length = 1 := fun i hi => by
  have a := h.ok _ (getD_mem 0 hi)
  generalize col.getD i 0 = x at a
  rcases (show x = 0 ∨ x = 1 ∨ x = 2 by omega) with rfl | rfl | rfl <;> rfl
theorem ph4 {s : StoreV} {g : GcV} (h : GcP s g) : g.phase = 0 ∨ g.phase = 1 ∨ g.phase = 2 ∨ g.phase = 3 := by have := h.p; unfold phOk at this; omega
theorem pos8 {s : StoreV} {g : GcV} (h : GcP s g) : 0 ≤ g.pos ∧ g.pos < 8 := by have hp := h.p; have := h.sv.h.l8; have := h.sv.h.r3; unfold phOk at hp; omega
theorem phS_len {p : Int} (h : p = 0 ∨ p = 1 ∨ p = 2 ∨ p = 3) : (phS p).length ≤ 5 := by rcases h with rfl | rfl | rfl | rfl <;> decide
theorem L_FormatBoth {l r ro fr col : List Int} {ph a i : Int} {ops : List OpV} {lost : Bool} {K : List UInt8 → Prop} (h : BoP ⟨⟨⟨l, r, ro⟩, fr⟩, ⟨ph, col, a⟩, ops, i, lost⟩)
    (hK : K (bothS ⟨⟨⟨l, r, ro⟩, fr⟩, ⟨ph, col, a⟩, ops, i, lost⟩)) : Mi_FormatBoth l r ro fr ph col a ops i lost K := by
  have sm := h.sm
  have hv : SVp l r ro fr := h.g.sv
  have hc : ColP l.length col := h.g.c
  have hp := ph4 h.g
  have ha := pos8 h.g
  have i0 := h.i0; have i1 := h.i1; have o12 := h.o.len
  have f8 := hv.f8; have h8 := hv.h.l8; have cl := hc.len
  simp only at hp ha i0 i1 o12
  have e1 := storeS_len hv
  have e2 := phS_len hp
  have e3 := dec_len (n := a.toNat) (by omega)
  have e5 := dec_len (n := i.toNat) (by omega)
  refine L_iBothValid (by omega) (by omega) (by omega) (br_f (by simp [h]) (L_FormatStore hv ⟨by simp; omega, ⟨by omega, by show ph < 4; omega⟩, ?_⟩))
  have e2' : (gS [[105, 100, 108, 101], [114, 111, 111, 116, 115], [109, 97, 114, 107], [115, 119, 101, 101, 112]] ph).length ≤ 5 := e2
  refine ⟨by simp only [List.length_append, List.length_cons, List.length_nil]; omega, by simp only [List.length_append, List.length_cons, List.length_nil]; omega, L_Itoa (by omega) (by omega) ⟨by simp only [List.length_append, List.length_cons, List.length_nil]; omega, by simp only [List.length_append, List.length_cons, List.length_nil]; omega, ?_⟩⟩
  refine LoopP_for (fun j s => s = ((((((storeS ⟨⟨l, r, ro⟩, fr⟩ ++ [32]) ++ phS ph) ++ [32]) ++ Lib.decDigits a.toNat) ++ [32]) ++ colS col j, col, len col, (j : Int), l, r, ro, fr, ph, col, a, ops, i, lost)) col.length (by simp [colS, catN, phS]) ?_ ?_
  · rintro j _ hj rfl Kb hKb
    have ac := hc.ok _ (getD_mem (0 : Int) hj)
    have e6 : (colS col j).length = j * 1 := catN_len fun k hk => col_len hc k (by omega)
    have e7 := col_len hc j hj
    have e8 : iadd (col.getD j 0) 1 = col.getD j 0 + 1 := iadd_eq (by omega) (by omega)
    refine br_t (by simp [len_eq]; exact hj) ⟨by rw [inB_nat]; exact hj, ?_⟩
    simp only [gI_nat, e8]
    refine ⟨⟨by omega, by omega, by simp only [len_eq, List.length_cons, List.length_nil]; omega⟩, by rw [e7]; simp only [List.length_append, List.length_cons, List.length_nil]; omega, hKb _ ?_⟩
    rw [iadd_nat (by omega)]
    unfold colS
    rw [catN_succ, List.append_assoc]
  · rintro _ rfl Kb
    have e6 : (colS col col.length).length = col.length * 1 := catN_len (col_len hc)
    refine br_f (by simp [len_eq]) (L_Itoa (x := i) (by omega) (by omega) ⟨by simp only [List.length_cons, List.length_nil]; omega, by simp only [List.length_append, List.length_cons, List.length_nil]; omega, ?_⟩)
    unfold bothS tailS at hK
    simp only [List.append_assoc] at hK ⊢
    refine br (fun e => ⟨by simp only [List.length_append, List.length_cons, List.length_nil]; omega, ?_⟩) fun e => ?_
    · rw [show lost = true from e] at hK
      simpa using hK
    · rw [show lost = false from e] at hK
      simpa using hK
theorem free_inj {fr fr' : List Int} {c c' : UInt8} {t t' : List UInt8} (hc : 97 ≤ c) (hc' : 97 ≤ c') (h : ∀ x ∈ fr, 0 ≤ x ∧ x < 10) (h' : ∀ x ∈ fr', 0 ≤ x ∧ x < 10)
    (e : (fr.flatMap fun x => [32] ++ Lib.decDigits x.toNat) ++ 32 :: c :: t = (fr'.flatMap fun x => [32] ++ Lib.decDigits x.toNat) ++ 32 :: c' :: t') : fr = fr' ∧ c :: t = c' :: t' := by
  have dl : ∀ x : Int, 0 ≤ x ∧ x < 10 → ∀ d : UInt8, 97 ≤ d → UInt8.ofNat (48 + x.toNat) ≠ d := fun x hx d hd q => by
    have := UInt8.le_iff_toNat_le.1 hd
    rw [← q, UInt8.toNat_ofNat'] at this
    have : UInt8.toNat 97 = 97 := rfl
    omega
  induction fr generalizing fr' with
  | nil =>
    cases fr' with
    | nil => simpa using e
    | cons y fr' =>
      exfalso
      have hy := h' y (by simp)
      rw [List.flatMap_cons, dec1 (by omega)] at e
      simp only [List.flatMap_nil, List.nil_append, List.cons_append, List.cons.injEq, true_and] at e
      exact dl y hy c hc e.1.symm
  | cons x fr ih =>
    have hx := h x (by simp)
    rw [List.flatMap_cons, dec1 (n := x.toNat) (by omega)] at e
    cases fr' with
    | nil =>
      exfalso
      simp only [List.flatMap_nil, List.nil_append, List.cons_append, List.cons.injEq, true_and] at e
      exact dl x hx c' hc' e.1
    | cons y fr' =>
      have hy := h' y (by simp)
      rw [List.flatMap_cons, dec1 (n := y.toNat) (by omega)] at e
      simp only [List.cons_append, List.nil_append, List.cons.injEq, true_and] at e
      have := (dig_small ⟨x.toNat, by omega⟩ ⟨y.toNat, by omega⟩).1 e.1
      simp only [Fin.mk.injEq] at this
      have e2 := ih (fun z hz => h z (by simp [hz])) (fun z hz => h' z (by simp [hz])) e.2
      exact ⟨by rw [e2.1, show x = y by omega], e2.2⟩
theorem catN_flat {l : List Int} {f : Int → List UInt8} : ∀ n, n ≤ l.length → catN (fun i => f (l.getD i 0)) n = (l.take n).flatMap f
  | 0, _ => by simp [catN]
  | n + 1, h => by
    rw [catN_succ, catN_flat n (by omega), List.take_add_one, List.getElem?_eq_getElem (by omega), List.flatMap_append, getD_lt (by omega)]
    simp
theorem freeS_flat (fr : List Int) : freeS fr fr.length = fr.flatMap fun x => [32] ++ Lib.decDigits x.toNat := by
  unfold freeS
  rw [catN_flat (f := fun x => [32] ++ Lib.decDigits x.toNat) _ (Nat.le_refl _), List.take_length]
theorem heapS_inj {l r ro l' r' ro' : List Int} {t t' : List UInt8} (h : HVp l r ro) (h' : HVp l' r' ro') (hl : l.length = l'.length) (hr : ro.length = ro'.length) (e : heapS l r ro ++ t = heapS l' r' ro' ++ t') : l = l' ∧ r = r' ∧ ro = ro' ∧ t = t' := by
  unfold heapS cellsS rootsS at e
  rw [← hl, ← hr] at e
  simp only [List.append_assoc] at e
  have h8 := h.l8; have h8' := h'.l8; have q1 := h.lr; have q2 := h'.lr
  have e1 := catN_app (fun i hi => by have := cells_len h i hi; simpa only [List.append_assoc] using this) (fun i hi => by have := cells_len h' i (by omega); simpa only [List.append_assoc] using this) e
  have e2 := e1.2
  simp only [List.cons_append, List.nil_append, List.cons.injEq, true_and] at e2
  have e3 := catN_app (roots_len h) (fun i hi => roots_len h' i (by omega)) (f := fun i => [32] ++ digS (ro.getD i 0)) (g := fun i => [32] ++ digS (ro'.getD i 0)) e2
  refine ⟨eqL_iff 0 l l' hl fun j hj => ?_, eqL_iff 0 r r' (by omega) fun j hj => ?_, eqL_iff 0 ro ro' hr fun j hj => ?_, e3.2⟩
  · have a := h.at.1 j hj; have a' := h'.at.1 j (by omega)
    unfold okP at a a'
    have := e1.1 j hj
    exact digS_inj (by omega) (by omega) (by omega) (by omega) (List.append_inj this (by rw [digS_len (by omega) (by omega), digS_len (by omega) (by omega)])).1
  · have a := h.at.1 j (by omega); have a' := h'.at.1 j (by omega); have b := h.at.2.1 j (by omega); have b' := h'.at.2.1 j (by omega)
    unfold okP at a a' b b'
    have := e1.1 j (by omega)
    have := (List.append_inj this (by rw [digS_len (by omega) (by omega), digS_len (by omega) (by omega)])).2
    exact digS_inj (by omega) (by omega) (by omega) (by omega) (List.append_inj this (by rw [digS_len (by omega) (by omega), digS_len (by omega) (by omega)])).1
  · have a := h.at.2.2 j hj; have a' := h'.at.2.2 j (by omega)
    unfold okP at a a'
    have := e3.1 j hj
    simp only [List.cons_append, List.nil_append, List.cons.injEq, true_and] at this
    exact digS_inj (by omega) (by omega) (by omega) (by omega) this
theorem col_inj : ∀ x : Fin 3, ∀ y : Fin 3, sub ([119, 103, 98] : List UInt8) (x.1 : Int) ((x.1 : Int) + 1) = sub ([119, 103, 98] : List UInt8) (y.1 : Int) ((y.1 : Int) + 1) → x = y := by decide
theorem tail_inj {i j : Int} {x y : Bool} (i0 : 0 ≤ i) (i1 : i ≤ 12) (j0 : 0 ≤ j) (j1 : j ≤ 12) (e : tailS i x = tailS j y) : i = j ∧ x = y := by
  have key : ∀ a : Fin 13, ∀ b : Fin 13, ∀ x y : Bool, ((if a.1 < 10 then [UInt8.ofNat (48 + a.1)] else [UInt8.ofNat (48 + a.1 / 10), UInt8.ofNat (48 + a.1 % 10)]) ++ if x then ([32, 108, 111, 115, 116] : List UInt8) else []) = ((if b.1 < 10 then [UInt8.ofNat (48 + b.1)] else [UInt8.ofNat (48 + b.1 / 10), UInt8.ofNat (48 + b.1 % 10)]) ++ if y then ([32, 108, 111, 115, 116] : List UInt8) else []) → a = b ∧ x = y := by decide
  have hd : ∀ k : Int, 0 ≤ k → k ≤ 12 → Lib.decDigits k.toNat = if k.toNat < 10 then [UInt8.ofNat (48 + k.toNat)] else [UInt8.ofNat (48 + k.toNat / 10), UInt8.ofNat (48 + k.toNat % 10)] := fun k h0 h1 => by
    split
    · exact dec1 (by assumption)
    · exact dec2 (by omega) (by omega)
  unfold tailS at e
  simp only [List.append_assoc] at e
  have e := List.append_cancel_left e
  rw [hd i i0 i1, hd j j0 j1] at e
  have := key ⟨i.toNat, by omega⟩ ⟨j.toNat, by omega⟩ x y e
  simp only [Fin.mk.injEq] at this
  exact ⟨by omega, this.2⟩
theorem ph_inj {p p' : Int} (h : p = 0 ∨ p = 1 ∨ p = 2 ∨ p = 3) (h' : p' = 0 ∨ p' = 1 ∨ p' = 2 ∨ p' = 3) {t t' : List UInt8} (e : phS p ++ t = phS p' ++ t') : p = p' ∧ t = t' := by
  rcases h with rfl | rfl | rfl | rfl <;> rcases h' with rfl | rfl | rfl | rfl <;> simp [phS, gS, EK.dflt] at e ⊢ <;> exact e
theorem ph_head {p : Int} (h : p = 0 ∨ p = 1 ∨ p = 2 ∨ p = 3) : ∃ c t, phS p = c :: t ∧ (97 : UInt8) ≤ c := by
  rcases h with rfl | rfl | rfl | rfl <;> exact ⟨_, _, rfl, by decide⟩
theorem bothS_inj {b b' : BothV} (h : BoP b) (h' : BoP b') (hl : b.s.h.l.length = b'.s.h.l.length) (hr : b.s.h.ro.length = b'.s.h.ro.length) (ho : b.ops = b'.ops) (e : bothS b = bothS b') : b = b' := by
  obtain ⟨⟨⟨l, r, ro⟩, fr⟩, ⟨ph, col, a⟩, ops, i, lost⟩ := b
  obtain ⟨⟨⟨l', r', ro'⟩, fr'⟩, ⟨ph', col', a'⟩, ops', i', lost'⟩ := b'
  have g := h.g; have g' := h'.g
  have p4 := ph4 g; have p4' := ph4 g'
  have a8 := pos8 g; have a8' := pos8 g'
  have i0 := h.i0; have i1 := h.i1; have o12 := h.o.len
  have i0' := h'.i0; have i1' := h'.i1; have o12' := h'.o.len
  have hc : ColP l.length col := g.c
  have hc' : ColP l'.length col' := g'.c
  have hs : SVp l r ro fr := g.sv
  have hs' : SVp l' r' ro' fr' := g'.sv
  have h8 := hs.h.l8; have h8' := hs'.h.l8; have cl := hc.len; have cl' := hc'.len
  simp only at hl hr ho p4 p4' a8 a8' i0 i1 o12 i0' i1' o12'
  unfold bothS storeS at e
  simp only [List.append_assoc] at e
  obtain ⟨rfl, rfl, rfl, f1⟩ := heapS_inj hs.h hs'.h hl hr e
  have f2 := List.append_cancel_left f1
  rw [freeS_flat, freeS_flat] at f2
  obtain ⟨c, t, q1, q2⟩ := ph_head p4
  obtain ⟨c', t', q1', q2'⟩ := ph_head p4'
  rw [q1, q1'] at f2
  obtain ⟨rfl, f3⟩ := free_inj (fr := fr) (fr' := fr') q2 q2' (fun x hx => by have := hs.c.ok x hx; omega) (fun x hx => by have := hs'.c.ok x hx; omega) f2
  have f4 : phS ph ++ ([32] ++ (Lib.decDigits a.toNat ++ ([32] ++ (colS col col.length ++ tailS i lost)))) = phS ph' ++ ([32] ++ (Lib.decDigits a'.toNat ++ ([32] ++ (colS col' col'.length ++ tailS i' lost')))) := by rw [q1, q1']; exact f3
  obtain ⟨rfl, f5⟩ := ph_inj p4 p4' f4
  have f6 := List.append_cancel_left f5
  rw [dec1 (n := a.toNat) (by omega), dec1 (n := a'.toNat) (by omega)] at f6
  simp only [List.cons_append, List.nil_append, List.cons.injEq, true_and] at f6
  have ea := (dig_small ⟨a.toNat, by omega⟩ ⟨a'.toNat, by omega⟩).1 f6.1
  simp only [Fin.mk.injEq] at ea
  have f7 := f6.2
  rw [show col'.length = col.length by omega] at f7
  unfold colS at f7
  have ec := catN_app (col_len hc) (fun i hi => col_len hc' i (by omega)) (f := fun i => sub ([119, 103, 98] : List UInt8) (col.getD i 0) (col.getD i 0 + 1)) (g := fun i => sub ([119, 103, 98] : List UInt8) (col'.getD i 0) (col'.getD i 0 + 1)) f7
  have et := tail_inj i0 (by omega) i0' (by omega) ec.2
  have hcol : col = col' := eqL_iff 0 col col' (by omega) fun j hj => by
    have k := hc.ok _ (getD_mem (0 : Int) hj); have k' := hc'.ok _ (getD_mem (0 : Int) (l := col') (i := j) (by omega))
    have := ec.1 j hj
    generalize col.getD j 0 = x at this k
    generalize col'.getD j 0 = y at this k'
    have := col_inj ⟨x.toNat, by omega⟩ ⟨y.toNat, by omega⟩ (by simp only; rw [show ((x.toNat : Nat) : Int) = x by omega, show ((y.toNat : Nat) : Int) = y by omega]; exact this)
    simp only [Fin.mk.injEq] at this
    omega
  rw [hcol, et.1, et.2, ho, show a = a' by omega]
def dg (x : Int) : List UInt8 := [UInt8.ofNat (48 + x.toNat)]
def fmtO (o : OpV) : List UInt8 := if o.kind = 1 ∨ o.kind = 7 then (wordK o.kind ++ [32]) ++ dg o.a else (((wordK o.kind ++ [32]) ++ dg o.a) ++ [32]) ++ dg o.b
theorem dg_dec : ∀ a : Fin 10, bytesOf [IntKind.u8.wrap (iadd 48 (a.1 : Int))] = [UInt8.ofNat (48 + a.1)] := by decide +kernel
theorem L_DecE {p : Int} {K : List UInt8 → Prop} (h0 : 0 ≤ p) (h9 : p ≤ 9) (hK : K (dg p)) : Ms_l13Dec p K := by
  refine br_f (by simp; omega) (br_f (by simp; omega) ?_)
  refine LoopP_for (fun i st => st = (p, ([] : List UInt8))) 0 rfl (fun i s hi => absurd hi (by omega)) ?_
  rintro _ rfl Kb
  refine br_f (by simp; omega) ⟨by simp, by simp [bytesOf], ?_⟩
  have := dg_dec ⟨p.toNat, by omega⟩
  simp only [show ((p.toNat : Nat) : Int) = p by omega] at this
  simp only [this, List.append_nil]
  exact hK
theorem L_FormatOpE {k a b : Int} {K : List UInt8 → Prop} (hy : opOk ⟨k, a, b⟩ 3 → K (fmtO ⟨k, a, b⟩)) (hn : ¬ opOk ⟨k, a, b⟩ 3 → K []) : Ms_FormatOp k a b K := by
  refine L_sOpValid (q := 3) rfl (br (fun e => hn (by simpa using e)) fun e => ?_)
  have ho : opOk ⟨k, a, b⟩ 3 := by simpa using e
  replace hy := hy ho
  have a0 := ho.a0; have a3 := ho.a3; have b0 := ho.b0; have b3 := ho.b3
  simp only at a0 a3 b0 b3
  have hw := wordK_len k
  unfold fmtO at hy
  refine L_l5Word ⟨by simp; omega, L_DecE a0 (by omega) ⟨by simp [dg]; omega, L_l5One (br (fun e => ?_) fun e => ⟨by simp [dg]; omega, L_DecE b0 (by omega) ⟨by simp [dg]; omega, ?_⟩⟩)⟩⟩
  · rw [if_pos (of_decide_eq_true e)] at hy; exact hy
  · rw [if_neg (of_decide_eq_false e)] at hy; exact hy
def cands : List OpV := (List.range 7).flatMap fun (k : Nat) => (List.range 3).flatMap fun (a : Nat) => (List.range 3).map fun (b : Nat) => (⟨(k : Int) + 1, (a : Int), (b : Int)⟩ : OpV)
def parse1 (s : List UInt8) : Option OpV := cands.find? fun o => decide (opOk o 3) && decide (fmtO o = s)
theorem cand_mem {o : OpV} (h : opOk o 3) : o ∈ cands := by
  obtain ⟨k, a, b⟩ := o
  have k1 := h.k1; have k7 := h.k7; have a0 := h.a0; have a3 := h.a3; have b0 := h.b0; have b3 := h.b3
  simp only at k1 k7 a0 a3 b0 b3
  unfold cands
  simp only [List.mem_flatMap, List.mem_range, List.mem_map]
  exact ⟨(k - 1).toNat, by omega, a.toNat, by omega, b.toNat, by omega, by simp; omega⟩
theorem fmt_inj0 : ∀ o ∈ cands, opOk o 3 → ∀ p ∈ cands, opOk p 3 → fmtO o = fmtO p → o = p := by decide +kernel
theorem fmt_inj {o p : OpV} (ho : opOk o 3) (hp : opOk p 3) (h : fmtO o = fmtO p) : o = p := fmt_inj0 o (cand_mem ho) ho p (cand_mem hp) hp h
theorem parse1_some {s : List UInt8} {o : OpV} : parse1 s = some o ↔ opOk o 3 ∧ fmtO o = s := by
  constructor
  · intro h
    have := List.find?_some h
    simpa using this
  · rintro ⟨h1, h2⟩
    cases h : parse1 s with
    | none =>
      have := List.find?_eq_none.1 h o (cand_mem h1)
      simp [h1, h2] at this
    | some p =>
      have := List.find?_some h
      simp only [Bool.and_eq_true, decide_eq_true_eq] at this
      rw [fmt_inj h1 this.1 (h2.trans this.2.symm)]
theorem parse1_none {s : List UInt8} : parse1 s = none ↔ ∀ o, opOk o 3 → fmtO o ≠ s := by
  constructor
  · intro h o ho e
    rw [parse1_some.2 ⟨ho, e⟩] at h; cases h
  · intro h
    cases h2 : parse1 s with
    | none => rfl
    | some o => exact absurd (parse1_some.1 h2).2 (h o (parse1_some.1 h2).1)
theorem fmt_ne {o : OpV} : fmtO o ≠ [] := by unfold fmtO dg; split <;> simp
theorem L_ParseOpE {s : List UInt8} {K : Int → Int → Int → Bool → Prop} (hy : ∀ o, parse1 s = some o → K o.kind o.a o.b true) (hn : parse1 s = none → K 0 0 0 false) : Ms_ParseOp s K := by
  refine LoopP_for (fun i st => st = (s, 1 + (i : Int), 0, 0, 0) ∧ ∀ o, opOk o 3 → o.kind < 1 + (i : Int) → fmtO o ≠ s) 7 ⟨rfl, fun o ho h => by have := ho.k1; omega⟩ ?_ ?_
  · rintro i _ hi ⟨rfl, hj⟩ Kb hKb
    refine br_t (by simp; omega) ?_
    refine LoopP_for (fun j st => st = (s, 1 + (i : Int), (j : Int), 0, 0, 0) ∧ ∀ o, opOk o 3 → o.kind = 1 + (i : Int) → o.a < (j : Int) → fmtO o ≠ s) 3 ⟨rfl, fun o ho _ h => by have := ho.a0; omega⟩ ?_ ?_
    · rintro j _ hj2 ⟨rfl, hj3⟩ Kb2 hKb2
      refine br_t (by simp; omega) ?_
      refine LoopP_for (fun m st => st = (s, 1 + (i : Int), (j : Int), (m : Int), 0, 0, 0) ∧ ∀ o, opOk o 3 → o.kind = 1 + (i : Int) → o.a = (j : Int) → o.b < (m : Int) → fmtO o ≠ s) 3 ⟨rfl, fun o ho _ _ h => by have := ho.b0; omega⟩ ?_ ?_
      · rintro m _ hm ⟨rfl, hm2⟩ Kb3 hKb3
        have next : (∀ o, opOk o 3 → o.kind = 1 + (i : Int) → o.a = (j : Int) → o.b = (m : Int) → fmtO o ≠ s) → Kb3 (s, 1 + (i : Int), (j : Int), iadd (m : Int) 1, 0, 0, 0) := fun h => hKb3 _ ⟨by rw [iadd_nat (by omega)], fun o ho h1 h2 h3 => by
          rcases Int.lt_or_eq_of_le (show o.b ≤ (m : Int) by omega) with q | q
          · exact hm2 o ho h1 h2 q
          · exact h o ho h1 h2 q⟩
        refine br_t (by simp; omega) (br (fun e => L_FormatOpE (fun hok => br (fun e2 => hy ⟨1 + (i : Int), (j : Int), (m : Int)⟩ (parse1_some.2 ⟨hok, by simpa using e2⟩)) fun e2 => next fun o ho h1 h2 h3 => ?_) fun hok => br_f ?_ (next fun o ho h1 h2 h3 => ?_)) fun e => next fun o ho h1 h2 h3 => ?_)
        · have e2 : fmtO ⟨1 + (i : Int), (j : Int), (m : Int)⟩ ≠ s := by simpa using e2
          obtain ⟨k, a, b⟩ := o
          simp only at h1 h2 h3
          rw [h1, h2, h3]; exact e2
        · have e : s ≠ [] := by simpa using e
          simpa using e
        · obtain ⟨k, a, b⟩ := o
          simp only at h1 h2 h3
          rw [h1, h2, h3] at ho
          exact absurd ho hok
        · have e : s = [] := by simpa using e
          rw [e]; exact fmt_ne
      · rintro _ ⟨rfl, hm2⟩ Kb3
        refine br_f (by simp) (hKb2 _ ⟨by rw [iadd_nat (by omega)], fun o ho h1 h2 => ?_⟩)
        rcases Int.lt_or_eq_of_le (show o.a ≤ (j : Int) by omega) with q | q
        · exact hj3 o ho h1 q
        · exact hm2 o ho h1 q ho.b3
    · rintro _ ⟨rfl, hj3⟩ Kb2
      refine br_f (by simp) (hKb _ ⟨?_, fun o ho h1 => ?_⟩)
      · show (s, iadd (1 + (i : Int)) 1, (0 : Int), (0 : Int), (0 : Int)) = _
        rw [iadd_eq (by omega) (by omega)]
        simp only [Prod.mk.injEq, and_true, true_and]; omega
      · rcases Int.lt_or_eq_of_le (show o.kind ≤ 1 + (i : Int) by omega) with q | q
        · exact hj o ho q
        · exact hj3 o ho q ho.a3
  · rintro _ ⟨rfl, hj⟩ Kb
    exact br_f (by simp) (hn (parse1_none.2 fun o ho => hj o ho (by have := ho.k7; omega)))
/-- A text is cut at a letter. -/
def cutF (s : List UInt8) (c : UInt8) : Nat → Nat → Nat → List (List UInt8)
  | 0, _, _ => []
  | n + 1, f, i => if i = s.length then [sub s (f : Int) (i : Int)] else if s.getD i 0 = c then sub s (f : Int) (i : Int) :: cutF s c n (i + 1) (i + 1) else cutF s c n f (i + 1)
def cutS (s : List UInt8) (c : UInt8) : List (List UInt8) := cutF s c (s.length + 1) 0 0
theorem L_l13CutE {s : List UInt8} {c : UInt8} {z : Int} {K : List (List UInt8) → Prop} (hz : z = (c.toNat : Int)) (hs : s.length < 2 ^ 30) (hK : (cutS s c).length ≤ s.length + 1 → K (cutS s c)) : Ms_l13Cut s z K := by
  subst hz
  refine LoopP_for (fun i st => ∃ (f : Nat) (q : List (List UInt8)), st = (s, (c.toNat : Int), (f : Int), (i : Int), q) ∧ f ≤ i ∧ q.length ≤ i ∧ q ++ cutF s c (s.length + 1 - i) f i = cutS s c) (s.length + 1) ⟨0, [], rfl, by omega, by simp, by simp [cutS]⟩ ?_ ?_
  · rintro i _ hi ⟨f, q, rfl, hf, hq, ht⟩ Kb hKb
    rw [show s.length + 1 - i = (s.length + 1 - (i + 1)) + 1 by omega] at ht
    unfold cutF at ht
    have e : iadd (i : Int) 1 = (i : Int) + 1 := by rw [iadd_eq (by omega) (by omega)]
    have hsub : (0 : Int) ≤ (f : Int) ∧ (f : Int) ≤ (i : Int) ∧ (i : Int) ≤ len s := ⟨by omega, by omega, by simp only [len_eq]; omega⟩
    have hq1 : q.length + ([sub s (f : Int) (i : Int)] : List (List UInt8)).length ≤ 2 ^ 36 := by simp; omega
    refine br_t (by simp [len_eq]; omega) (br (fun h => ⟨hsub, hq1, ?_⟩) fun h => ⟨?_, br (fun h2 => ⟨hsub, hq1, ?_⟩) fun h2 => ?_⟩)
    · have h := beq_iff_eq.1 h
      simp only [len_eq] at h
      rw [if_pos (by omega)] at ht
      simp only [e]
      refine hKb _ ⟨i + 1, q ++ [sub s (f : Int) (i : Int)], by simp, by omega, by simp; omega, ?_⟩
      rw [show s.length + 1 - (i + 1) = 0 by omega]
      simpa [cutF] using ht
    · have h := beq_eq_false_iff_ne.1 h
      simp only [len_eq] at h
      exact ⟨by show (0 : Int) ≤ (i : Int); omega, by show (i : Int) < (s.length : Int); omega⟩
    · have h := beq_eq_false_iff_ne.1 h
      simp only [len_eq] at h
      rw [if_neg (by omega), if_pos (byte_eq.1 (by have := beq_iff_eq.1 h2; rw [gC_nat] at this; exact this))] at ht
      simp only [e]
      exact hKb _ ⟨i + 1, q ++ [sub s (f : Int) (i : Int)], by simp, by omega, by simp; omega, by simpa using ht⟩
    · have h := beq_eq_false_iff_ne.1 h
      simp only [len_eq] at h
      rw [if_neg (by omega), if_neg (fun q => by have := beq_eq_false_iff_ne.1 h2; rw [gC_nat] at this; exact this (byte_eq.2 q))] at ht
      simp only [e]
      exact hKb _ ⟨f, q, by simp, by omega, by omega, ht⟩
  · rintro _ ⟨f, q, rfl, hf, hq, ht⟩ Kb
    rw [show s.length + 1 - (s.length + 1) = 0 by omega] at ht
    unfold cutF at ht
    rw [List.append_nil] at ht
    subst ht
    exact br_f (decide_eq_false (by simp only [len_eq]; omega)) (hK hq)
def partO : Bool → List UInt8 → Option OpV
  | true, t => parse1 t
  | false, [] => none
  | false, c :: t => if c = 32 then parse1 t else none
def partsO : Bool → List (List UInt8) → Option (List OpV)
  | _, [] => some []
  | f, t :: ts => (partO f t).bind fun o => (partsO false ts).map (o :: ·)
def parseO (s : List UInt8) : Option (List OpV) := if s = [] then some [] else if 12 < (cutS s 44).length then none else partsO true (cutS s 44)
theorem L_ParseOpsE {s : List UInt8} {K : Bool → List OpV → Prop} (hs : s.length < 2 ^ 30) (hy : ∀ l, parseO s = some l → K true l) (hn : parseO s = none → K false []) : Ms_ParseOps s K := by
  refine br (fun e => hy _ ?_) fun e => L_l13CutE (c := 44) rfl hs fun hp => ?_
  · unfold parseO; rw [if_pos (beq_iff_eq.1 e)]
  have e : s ≠ [] := by simpa using e
  unfold parseO at hy hn
  rw [if_neg e] at hy hn
  generalize cutS s 44 = parts at hp hy hn
  refine LoopP_for (fun i st => ∃ out : List OpV, st = ((i : Int), out, parts) ∧ out.length = i ∧ partsO true parts = (partsO (decide (i = 0)) (parts.drop i)).map (out ++ ·)) (min parts.length 13) ⟨[], rfl, rfl, by simp⟩ ?_ ?_
  · rintro i _ hi ⟨out, rfl, hl, ho⟩ Kb hKb
    have hip : i < parts.length := by omega
    have hd : parts.drop i = gS parts (i : Int) :: parts.drop (i + 1) := by
      rw [List.drop_eq_getElem_cons hip]
      show _ = parts.getD (i : Int).toNat [] :: _
      rw [Int.toNat_natCast, getD_lt hip]
    rw [hd] at ho
    simp only [partsO] at ho
    have bad : partO (decide (i = 0)) (gS parts (i : Int)) = none → K false [] := fun q => hn (by
      split
      · rfl
      · rw [ho, q]; rfl)
    have one : ∀ t : List UInt8, partO (decide (i = 0)) (gS parts (i : Int)) = parse1 t → Ms_ParseOp t fun y5 y6 y7 y8 => ((((!y8) = true → K false []) ∧ ((!y8) = false → ((out.length + List.length ([(OpV.mk y5 y6 y7)] : List OpV) ≤ 2 ^ 36) ∧ (Kb (iadd (i : Int) 1, out ++ [OpV.mk y5 y6 y7], parts)))))) := fun t ht =>
      L_ParseOpE (fun o hok => br_f rfl ⟨by simp; omega, hKb _ ⟨out ++ [o], by rw [iadd_nat (by omega)], by simp; omega, by
        rw [ho, ht, hok, show (decide (i + 1 = 0)) = false by simp]
        simp only [Option.bind_some, Option.map_map]
        congr 1
        funext x
        simp⟩⟩) (fun q => br_t rfl (bad (ht.trans q)))
    have hin : inB (i : Int) parts.length := by rw [inB_nat]; omega
    refine br_t (by simp [len_eq]; omega) (br_t (by simp; omega) ⟨hin, br (fun e => br (fun e1 => bad ?_) fun e1 => ⟨?_, br (fun e2 => bad ?_) fun e2 => ?_⟩) fun e => br_f (b := decide ((i : Int) > 0)) e (one _ ?_)⟩)
    · have e : (i : Int) > 0 := of_decide_eq_true e
      have e1 : gS parts (i : Int) = [] := beq_iff_eq.1 e1
      rw [e1, show decide (i = 0) = false by simp; omega]; rfl
    · have : (gS parts (i : Int)) ≠ [] := by simpa using e1
      have := List.length_pos_iff.2 this
      exact ⟨by omega, by show (0 : Int) < ((gS parts (i : Int)).length : Int); omega⟩
    · have e : (i : Int) > 0 := of_decide_eq_true e
      have e1 : (gS parts (i : Int)) ≠ [] := by simpa using e1
      rw [show decide (i = 0) = false by simp; omega]
      cases hg : gS parts (i : Int) with
      | nil => exact absurd hg e1
      | cons c t =>
        rw [hg] at e2
        have e2 := bne_iff_ne.1 e2
        rw [show (0 : Int) = ((0 : Nat) : Int) from rfl, gC_nat] at e2
        simp only [partO]
        rw [if_neg fun q => e2 (by rw [q]; rfl)]
    · have e' : (i : Int) > 0 := of_decide_eq_true e
      have e1 : (gS parts (i : Int)) ≠ [] := by simpa using e1
      have hp := List.length_pos_iff.2 e1
      refine br_t (b := decide ((i : Int) > 0)) e ⟨⟨by omega, by simp only [len_eq]; omega, by omega⟩, one _ ?_⟩
      rw [show decide (i = 0) = false by simp; omega]
      cases hg : gS parts (i : Int) with
      | nil => exact absurd hg e1
      | cons c t =>
        rw [hg] at e2
        have e2 := bne_eq_false_iff_eq.1 e2
        rw [show (0 : Int) = ((0 : Nat) : Int) from rfl, gC_nat] at e2
        have : c = 32 := byte_eq.1 e2
        simp only [partO]
        rw [if_pos this]
        simp [sub, len_eq]
    · have e : ¬ (i : Int) > 0 := of_decide_eq_false e
      rw [show decide (i = 0) = true by simp; omega]; rfl
  · rintro _ ⟨out, rfl, hl, ho⟩ Kb
    have fin : (((decide ((len parts) > 12)) = true → (K false [])) ∧ ((decide ((len parts) > 12)) = false → (K true out))) := br (fun h => hn ?_) fun h => hy _ ?_
    · by_cases h13 : parts.length ≤ 13
      · exact br_f (by simp [len_eq]; omega) fin
      · exact br_t (by simp [len_eq]; omega) (br_f (decide_eq_false (by show ¬ (((min parts.length 13 : Nat) : Int) ≤ 12); omega)) fin)
    · have h := of_decide_eq_true h
      simp only [len_eq] at h
      rw [if_pos (by omega)]
    · have h := of_decide_eq_false h
      simp only [len_eq] at h
      rw [if_neg (by omega), ho, show min parts.length 13 = parts.length by omega, List.drop_length]
      simp [partsO]
/-- A cell points to a cell. -/
def kid (s : StoreV) (c : Nat) (d : Int) : Prop := c < s.h.l.length ∧ d ≠ -1 ∧ (s.h.l.getD c 0 = d ∨ s.h.r.getD c 0 = d)
def lev : Nat → StoreV → Prop
  | 0, s => (∀ x ∈ s.h.ro, x = -1) ∧ ∀ c d, ¬ kid s c d
  | 1, s => ∃ a : Int, (∀ x ∈ s.h.ro, x = -1 ∨ x = a) ∧ ∀ c d, kid s c d → (c : Int) = a ∧ d = a
  | 2, s => ∀ c d, kid s c d → d = (c : Int)
  | _, s => ∀ c d, kid s c d → d = (c : Int) ∨ d ∈ s.h.ro
structure Tame (b : BothV) : Prop where
  l : b.lost = false
  n : b.ops.length ≤ 3
  v : lev b.pos.toNat b.s
  w : b.g.phase = 3 → sweepOk b.s b.g.color b.g.pos
theorem new_lev (n q : Nat) (fr : List Int) : lev 0 ⟨⟨List.replicate n (-1), List.replicate n (-1), List.replicate q (-1)⟩, fr⟩ := by
  refine ⟨fun x hx => List.eq_of_mem_replicate hx, fun c d hk => ?_⟩
  obtain ⟨h1, h2, h3⟩ := hk
  have h1 : c < n := by simpa using h1
  have : (List.replicate n (-1 : Int)).getD c 0 = -1 := by rw [getD_lt (by simpa using h1), List.getElem_replicate]
  simp only [this] at h3
  omega
def nextB (b : BothV) (bar : Bool) (c : UInt8) : Option BothV := if b.lost = true then none else if c = 111 then (if b.pos < b.ops.length then some (opB b bar) else none) else some (gcB b)
def nd0 : NodeV := EK.dflt .node
def nd (l : List NodeV) (j : Nat) : NodeV := l.getD j nd0
theorem gN_nat (l : List NodeV) (j : Nat) : gN l (j : Int) = nd l j := by simp [gN, nd, nd0]
def addN (bar : Bool) (l : List NodeV) (x : NodeV) (c : UInt8) : List NodeV :=
  match nextB x.b bar c with
  | none => l
  | some n => if ∃ y ∈ l, y.b = n then l else l ++ [⟨n, x.road ++ [c]⟩]
def walk (bar : Bool) : Nat → Nat → List NodeV → Option (List NodeV)
  | 0, _, _ => none
  | f + 1, i, l => if i < l.length then (if 400 < (addN bar (addN bar l (nd l i) 103) (nd l i) 111).length then none else walk bar f (i + 1) (addN bar (addN bar l (nd l i) 103) (nd l i) 111)) else some l
def allB (b : BothV) (bar : Bool) : Option (List NodeV) := walk bar 402 0 [⟨b, []⟩]
theorem nextB_one {b n : BothV} {bar : Bool} {c : UInt8} (h : nextB b bar c = some n) : b.lost = false ∧ n = oneB b bar c := by
  unfold nextB at h
  split at h
  · cases h
  · rename_i hl
    have hl : b.lost = false := by simpa using hl
    split at h
    · rename_i hc
      split at h
      · rename_i hp
        cases h
        exact ⟨hl, oneB_o hl hc hp⟩
      · cases h
    · rename_i hc
      cases h
      exact ⟨hl, oneB_g hl hc⟩
/-- States of one program. -/
structure Uni (b0 b : BothV) : Prop where
  v : BoP b
  l : b.s.h.l.length = b0.s.h.l.length
  r : b.s.h.ro.length = b0.s.h.ro.length
  o : b.ops = b0.ops
theorem runOp_lens (b : BothV) (bar : Bool) : (opB b bar).s.h.l.length = b.s.h.l.length ∧ (opB b bar).s.h.ro.length = b.s.h.ro.length := by
  unfold opB
  split
  · exact ⟨rfl, rfl⟩
  · have := runOp_len b.s (gO b.ops b.pos)
    exact ⟨this.1, this.2.2⟩
theorem gcB_lens (b : BothV) : (gcB b).s.h.l.length = b.s.h.l.length ∧ (gcB b).s.h.ro.length = b.s.h.ro.length := by
  unfold gcB
  split
  · exact ⟨rfl, rfl⟩
  · have := stepG_lens (s := b.s) (g := b.g)
    exact ⟨this.1, by rw [this.2]⟩
theorem Uni.next {b0 b n : BothV} {bar : Bool} {c : UInt8} (h : Uni b0 b) (hn : nextB b bar c = some n) : Uni b0 n := by
  have e := nextB_one hn
  refine ⟨by rw [e.2]; exact oneB_valid h.v bar c, ?_, ?_, ?_⟩
  · rw [e.2]; unfold oneB
    split
    · exact h.l
    split
    · split
      · rw [(runOp_lens b bar).1]; exact h.l
      · exact h.l
    · rw [(gcB_lens b).1]; exact h.l
  · rw [e.2]; unfold oneB
    split
    · exact h.r
    split
    · split
      · rw [(runOp_lens b bar).2]; exact h.r
      · exact h.r
    · rw [(gcB_lens b).2]; exact h.r
  · rw [e.2, oneB_rest]; exact h.o
theorem Uni.text {b0 b c : BothV} (h : Uni b0 b) (h' : Uni b0 c) (e : bothS b = bothS c) : b = c := bothS_inj h.v h'.v (h.l.trans h'.l.symm) (h.r.trans h'.r.symm) (h.o.trans h'.o.symm) e
/-- Each state is the first one, or comes of an earlier one by a letter. -/
def Tree (b0 : BothV) (bar : Bool) (l : List NodeV) : Prop := 0 < l.length ∧ ∀ j, j < l.length → (j = 0 ∧ nd l j = ⟨b0, []⟩) ∨ ∃ k c, k < j ∧ (c = 103 ∨ c = 111) ∧ nextB (nd l k).b bar c = some (nd l j).b ∧ (nd l j).road = (nd l k).road ++ [c]
theorem nd_app {l m : List NodeV} {j : Nat} (h : j < l.length) : nd (l ++ m) j = nd l j := by
  unfold nd
  rw [List.getD_eq_getElem?_getD, List.getElem?_append_left h, ← List.getD_eq_getElem?_getD]
theorem nd_last {l : List NodeV} {x : NodeV} : nd (l ++ [x]) l.length = x := by
  unfold nd
  rw [List.getD_eq_getElem?_getD, List.getElem?_append_right (Nat.le_refl _)]; simp
theorem nd_mem {l : List NodeV} {j : Nat} (h : j < l.length) : nd l j ∈ l := getD_mem _ h
theorem mem_nd {l : List NodeV} {y : NodeV} (h : y ∈ l) : ∃ j, j < l.length ∧ nd l j = y := by
  obtain ⟨j, hj, e⟩ := List.mem_iff_getElem.1 h
  exact ⟨j, hj, by unfold nd; rw [getD_lt hj]; exact e⟩
theorem addN_cases (bar : Bool) (l : List NodeV) (x : NodeV) (c : UInt8) : addN bar l x c = l ∨ ∃ n, nextB x.b bar c = some n ∧ addN bar l x c = l ++ [⟨n, x.road ++ [c]⟩] := by
  unfold addN
  split
  · exact .inl rfl
  · rename_i n e
    split
    · exact .inl rfl
    · exact .inr ⟨n, e, rfl⟩
theorem addN_nd {bar : Bool} {l : List NodeV} {x : NodeV} {c : UInt8} {j : Nat} (h : j < l.length) : nd (addN bar l x c) j = nd l j := by
  rcases addN_cases bar l x c with e | ⟨n, _, e⟩ <;> rw [e]
  rw [nd_app h]
theorem addN_le (bar : Bool) (l : List NodeV) (x : NodeV) (c : UInt8) : l.length ≤ (addN bar l x c).length := by
  rcases addN_cases bar l x c with e | ⟨n, _, e⟩ <;> rw [e]
  · exact Nat.le_refl _
  · simp
theorem addN_tree {b0 : BothV} {bar : Bool} {l : List NodeV} {c : UInt8} {k : Nat} (hc : c = 103 ∨ c = 111) (hk : k < l.length) (h : Tree b0 bar l) : Tree b0 bar (addN bar l (nd l k) c) := by
  rcases addN_cases bar l (nd l k) c with e | ⟨n, hn, e⟩
  · rw [e]; exact h
  · rw [e]
    refine ⟨by simp, fun j hj => ?_⟩
    by_cases hj2 : j < l.length
    · rw [nd_app hj2]
      rcases h.2 j hj2 with q | ⟨k2, c2, q1, q2, q3, q4⟩
      · exact .inl q
      · exact .inr ⟨k2, c2, q1, q2, by rw [nd_app (by omega)]; exact q3, by rw [nd_app (by omega)]; exact q4⟩
    · have : j = l.length := by simp at hj; omega
      subst this
      rw [nd_last]
      exact .inr ⟨k, c, hk, hc, by rw [nd_app hk]; exact hn, by rw [nd_app hk]⟩
structure NodeP (b0 : BothV) (bar : Bool) (x : NodeV) (j : Nat) : Prop where
  u : Uni b0 x.b
  run : x.b = runB b0 bar x.road
  len : x.road.length ≤ j
  sch : schOk x.road
theorem runB_snoc (b : BothV) (bar : Bool) (l : List UInt8) (c : UInt8) : runB b bar (l ++ [c]) = oneB (runB b bar l) bar c := by unfold runB; rw [List.foldl_append]; rfl
theorem tree_ok {b0 : BothV} {bar : Bool} {l : List NodeV} (hv : BoP b0) (h : Tree b0 bar l) : ∀ j, j < l.length → NodeP b0 bar (nd l j) j := by
  intro j
  induction j using Nat.strongRecOn with
  | ind j ih =>
    intro hj
    rcases h.2 j hj with ⟨rfl, q⟩ | ⟨k, c, q1, q2, q3, q4⟩
    · rw [q]
      exact ⟨⟨hv, rfl, rfl, rfl⟩, rfl, Nat.le_refl _, fun c hc => by simp at hc⟩
    · have i := ih k q1 (by omega)
      refine ⟨i.u.next q3, ?_, ?_, ?_⟩
      · rw [q4, runB_snoc, ← i.run]; exact (nextB_one q3).2
      · rw [q4]; have := i.len; simp; omega
      · rw [q4]; intro d hd
        rcases List.mem_append.1 hd with hd | hd
        · exact i.sch d hd
        · rw [List.mem_singleton.1 hd]
          exact q2.symm
theorem tree_uni {b0 : BothV} {bar : Bool} {l : List NodeV} (hv : BoP b0) (h : Tree b0 bar l) : ∀ y ∈ l, Uni b0 y.b := fun y hy => by
  obtain ⟨j, hj, e⟩ := mem_nd hy
  rw [← e]; exact (tree_ok hv h j hj).u
theorem tree0 (b0 : BothV) (bar : Bool) : Tree b0 bar [⟨b0, []⟩] := ⟨by simp, fun j hj => by
  have : j = 0 := by simp at hj; omega
  subst this; exact .inl ⟨rfl, rfl⟩⟩
theorem walk_tree {b0 : BothV} {bar : Bool} : ∀ {f i : Nat} {l m : List NodeV}, Tree b0 bar l → l.length ≤ 400 → walk bar f i l = some m → Tree b0 bar m ∧ m.length ≤ 400
  | 0, _, _, _, _, _, h => by cases h
  | f + 1, i, l, m, ht, hl, h => by
    unfold walk at h
    split at h
    · rename_i hi
      split at h
      · cases h
      · rename_i h4
        refine walk_tree (f := f) ?_ (by omega) h
        have t1 := addN_tree (c := 103) (.inl rfl) hi ht
        have t2 := addN_tree (c := 111) (k := i) (.inr rfl) (Nat.lt_of_lt_of_le hi (addN_le _ _ _ _)) t1
        rwa [addN_nd hi] at t2
    · cases h; exact ⟨ht, hl⟩
theorem L_FormatNone {K : List UInt8 → Prop} (hK : K []) : Mi_FormatBoth [] [] [] [] 0 [] 0 [] 0 false K := by
  refine L_iBothValid (by simp) (by simp) (by simp) (br_t ?_ hK)
  have : ¬ BoP ⟨⟨⟨[], [], []⟩, []⟩, ⟨0, [], 0⟩, [], 0, false⟩ := fun h => by have := h.g.sv.h.l1; simp at this
  simp [this]
def seenOk (seen : List (List UInt8)) (l : List NodeV) : Prop := ∀ t, t ∈ seen ↔ ∃ y ∈ l, bothS y.b = t
theorem meet_no {x1 x2 x3 x4 : List Int} {x5 : Int} {x6 : List Int} {x7 : Int} {x8 : List OpV} {x9 : Int} {x10 : Bool} {road letter : List UInt8} {seen : List (List UInt8)} {all : List NodeV} {K : List (List UInt8) → List NodeV → Prop} (hK : K seen all) :
    Mi_comes_1 [] [] [] [] 0 [] 0 [] 0 false false letter x1 x2 x3 x4 x5 x6 x7 x8 x9 x10 road seen all K := L_FormatNone ⟨fun h => (by cases h), fun _ => hK⟩
theorem meet_yes {b0 n : BothV} {x : NodeV} {bar : Bool} {c : UInt8} {x1 x2 x3 x4 : List Int} {x5 : Int} {x6 : List Int} {x7 : Int} {x8 : List OpV} {x9 : Int} {x10 : Bool} {seen : List (List UInt8)} {all : List NodeV} {K : List (List UInt8) → List NodeV → Prop}
    (hx : Uni b0 x.b) (hn : nextB x.b bar c = some n) (hl : all.length ≤ 500) (hr : x.road.length ≤ 500) (hu : ∀ y ∈ all, Uni b0 y.b) (hs : seenOk seen all) (hK : ∀ seen', seenOk seen' (addN bar all x c) → K seen' (addN bar all x c)) :
    KB (fun p a i lost l r ro fr col ops => Mi_comes_1 l r ro fr p col a ops i lost true [c] x1 x2 x3 x4 x5 x6 x7 x8 x9 x10 x.road seen all K) n := by
  have hnu := hx.next hn
  obtain ⟨⟨⟨l, r, ro⟩, fr⟩, ⟨ph, col, a⟩, ops, i, lost⟩ := n
  refine L_FormatBoth hnu.v ⟨fun _ => ?_, fun h => (by cases h)⟩
  have key : bothS ⟨⟨⟨l, r, ro⟩, fr⟩, ⟨ph, col, a⟩, ops, i, lost⟩ ∈ seen ↔ ∃ y ∈ all, y.b = ⟨⟨⟨l, r, ro⟩, fr⟩, ⟨ph, col, a⟩, ops, i, lost⟩ := by
    rw [hs]
    exact ⟨fun ⟨y, h1, h2⟩ => ⟨y, h1, (hu y h1).text hnu h2⟩, fun ⟨y, h1, h2⟩ => ⟨y, h1, by rw [h2]⟩⟩
  unfold addN at hK
  rw [hn] at hK
  simp only at hK
  refine br (fun e => ?_) fun e => ?_
  · have e : bothS ⟨⟨⟨l, r, ro⟩, fr⟩, ⟨ph, col, a⟩, ops, i, lost⟩ ∉ seen := by simpa using e
    rw [if_neg (fun q => e (key.2 q))] at hK
    refine ⟨by simp; omega, by simp; omega, ?_⟩
    unfold addKey
    rw [if_neg e]
    refine hK _ fun t => ?_
    simp only [List.mem_append, hs t, List.mem_singleton]
    constructor
    · rintro (⟨y, h1, h2⟩ | h)
      · exact ⟨y, .inl h1, h2⟩
      · exact ⟨_, .inr rfl, h.symm⟩
    · rintro ⟨y, h1 | h1, h2⟩
      · exact .inl ⟨y, h1, h2⟩
      · exact .inr (by rw [← h2, h1])
  · have e : bothS ⟨⟨⟨l, r, ro⟩, fr⟩, ⟨ph, col, a⟩, ops, i, lost⟩ ∈ seen := by simpa using e
    rw [if_pos (key.1 e)] at hK
    exact hK _ hs
theorem addN_none {bar : Bool} {l : List NodeV} {x : NodeV} {c : UInt8} (h : nextB x.b bar c = none) : addN bar l x c = l := by unfold addN; rw [h]
theorem addN_uni {b0 : BothV} {bar : Bool} {l : List NodeV} {x : NodeV} {c : UInt8} (hx : Uni b0 x.b) (h : ∀ y ∈ l, Uni b0 y.b) : ∀ y ∈ addN bar l x c, Uni b0 y.b := by
  rcases addN_cases bar l x c with e | ⟨n, hn, e⟩ <;> rw [e]
  · exact h
  · intro y hy
    rcases List.mem_append.1 hy with hy | hy
    · exact h y hy
    · rw [List.mem_singleton.1 hy]; exact hx.next hn
theorem addN_len {bar : Bool} {l : List NodeV} {x : NodeV} {c : UInt8} : (addN bar l x c).length ≤ l.length + 1 := by
  rcases addN_cases bar l x c with e | ⟨n, _, e⟩ <;> rw [e]
  · omega
  · simp
theorem L_comes {l r ro fr col : List Int} {ph a i : Int} {ops : List OpV} {lost bar : Bool} {K : Bool → List NodeV → Prop} (hf : fr.length < 2 ^ 60) (hc : col.length < 2 ^ 60) (ho : ops.length < 2 ^ 60)
    (hb : ¬ BoP ⟨⟨⟨l, r, ro⟩, fr⟩, ⟨ph, col, a⟩, ops, i, lost⟩ → K false [])
    (hn : BoP ⟨⟨⟨l, r, ro⟩, fr⟩, ⟨ph, col, a⟩, ops, i, lost⟩ → allB ⟨⟨⟨l, r, ro⟩, fr⟩, ⟨ph, col, a⟩, ops, i, lost⟩ bar = none → K false [])
    (hy : BoP ⟨⟨⟨l, r, ro⟩, fr⟩, ⟨ph, col, a⟩, ops, i, lost⟩ → ∀ m, allB ⟨⟨⟨l, r, ro⟩, fr⟩, ⟨ph, col, a⟩, ops, i, lost⟩ bar = some m → K true m) : Mi_comes l r ro fr ph col a ops i lost bar K := by
  refine L_iBothValid hf hc ho (br (fun e => hb (by simpa using e)) fun e => ?_)
  have hv : BoP ⟨⟨⟨l, r, ro⟩, fr⟩, ⟨ph, col, a⟩, ops, i, lost⟩ := by simpa using e
  refine L_anew hv (L_FormatBoth hv ?_)
  replace hn := hn hv
  replace hy := hy hv
  generalize hb0 : (⟨⟨⟨l, r, ro⟩, fr⟩, ⟨ph, col, a⟩, ops, i, lost⟩ : BothV) = b0 at hv hn hy
  refine LoopP_inv (fun s => ∃ (j : Nat) (m : List NodeV) (seen : List (List UInt8)), s = (bar, (j : Int), m, seen) ∧ j ≤ 401 ∧ Tree b0 bar m ∧ m.length ≤ 400 ∧ j ≤ m.length ∧ seenOk seen m ∧ walk bar (402 - j) j m = allB b0 bar) (fun s => (402 - s.2.1).toNat) ?_
    ⟨0, [⟨b0, []⟩], [bothS b0], by rw [← hb0]; rfl, by omega, tree0 _ _, by simp, by simp, fun t => by simp [eq_comm], rfl⟩
  rintro _ ⟨j, m, seen, rfl, hj, ht, hm, hjm, hs, hw⟩ Kb hKb
  rw [show 402 - j = (401 - j) + 1 by omega] at hw
  unfold walk at hw
  have hu := tree_uni hv ht
  refine br (fun e => ?_) fun e => ?_
  · have e : (j : Int) < len m := of_decide_eq_true e
    simp only [len_eq] at e
    have hjl : j < m.length := by omega
    rw [if_pos hjl] at hw
    refine ⟨by rw [inB_nat]; exact hjl, ?_⟩
    simp only [gN_nat]
    have hx := tree_ok hv ht j hjl
    have ht2 : Tree b0 bar (addN bar (addN bar m (nd m j) 103) (nd m j) 111) := by
      have t1 := addN_tree (c := 103) (.inl rfl) hjl ht
      have t2 := addN_tree (c := 111) (k := j) (.inr rfl) (Nat.lt_of_lt_of_le hjl (addN_le _ _ _ _)) t1
      rwa [addN_nd hjl] at t2
    have hxl := hx.len
    have hxu := hx.u
    generalize nd m j = x at hw hx hxl hxu ht2
    have hxv : BoP ⟨⟨⟨x.b.s.h.l, x.b.s.h.r, x.b.s.h.ro⟩, x.b.s.free⟩, ⟨x.b.g.phase, x.b.g.color, x.b.g.pos⟩, x.b.ops, x.b.pos, x.b.lost⟩ := hxu.v
    -- the second letter and the end of the round
    have fin : ∀ seen2, seenOk seen2 (addN bar (addN bar m x 103) x 111) → ((((decide ((len (addN bar (addN bar m x 103) x 111)) > 400)) = true → (K false [])) ∧ ((decide ((len (addN bar (addN bar m x 103) x 111)) > 400)) = false → (Kb (bar, (iadd (j : Int) 1), (addN bar (addN bar m x 103) x 111), seen2))))) := fun seen2 hs2 => by
      refine br (fun e2 => hn ?_) fun e2 => ?_
      · have e2 := of_decide_eq_true e2
        simp only [len_eq] at e2
        rw [if_pos (by omega)] at hw; exact hw.symm
      · have e2 := of_decide_eq_false e2
        simp only [len_eq] at e2
        rw [if_neg (by omega)] at hw
        have hl1 := addN_le bar m x 103
        have hl2 := addN_le bar (addN bar m x 103) x 111
        refine hKb _ ⟨j + 1, _, seen2, by rw [iadd_nat (by omega)], by omega, ht2, by omega, by omega, hs2, by rw [show 402 - (j + 1) = 401 - j by omega]; exact hw⟩ ?_
        rw [iadd_nat (by omega)]
        show (402 - ((j + 1 : Nat) : Int)).toNat < (402 - (j : Int)).toNat
        omega
    have two : ∀ seen1, seenOk seen1 (addN bar m x 103) → Mi_StepOp x.b.s.h.l x.b.s.h.r x.b.s.h.ro x.b.s.free x.b.g.phase x.b.g.color x.b.g.pos x.b.ops x.b.pos x.b.lost bar (fun y23 y24 y25 y26 y27 y28 y29 y30 y31 y32 y33 => Mi_comes_1 y28 y29 y30 y31 y23 y32 y24 y33 y25 y26 y27 [111] x.b.s.h.l x.b.s.h.r x.b.s.h.ro x.b.s.free x.b.g.phase x.b.g.color x.b.g.pos x.b.ops x.b.pos x.b.lost x.road seen1 (addN bar m x 103) fun y34 y35 => (((decide ((len y35) > 400)) = true → (K false [])) ∧ ((decide ((len y35) > 400)) = false → (Kb (bar, (iadd (j : Int) 1), y35, y34))))) := fun seen1 hs1 => by
      have hl1 := addN_len (bar := bar) (l := m) (x := x) (c := 103)
      refine L_StepOp hxv (fun hno => ?_) fun h1 h2 => ?_
      · have : nextB x.b bar 111 = none := by
          unfold nextB
          rcases hno with h | h
          · rw [if_pos h]
          · split
            · rfl
            · rw [if_pos rfl, if_neg (by omega)]
        have := addN_none (l := addN bar m x 103) this
        rw [this] at fin
        exact meet_no (fin _ hs1)
      · have : nextB x.b bar 111 = some (opB x.b bar) := by
          unfold nextB
          rw [if_neg (by rw [h1]; decide), if_pos rfl, if_pos h2]
        exact meet_yes hxu this (by omega) (by omega) (addN_uni hxu hu) hs1 fin
    refine L_StepBoth hxv (fun hno => ?_) fun h1 => ?_
    · have : nextB x.b bar 103 = none := by unfold nextB; rw [if_pos hno]
      have := addN_none (l := m) this
      rw [this] at two
      exact meet_no (two _ hs)
    · have : nextB x.b bar 103 = some (gcB x.b) := by
        unfold nextB
        rw [if_neg (by rw [h1]; decide), if_neg (by decide)]
      exact meet_yes hxu this (by omega) (by omega) hu hs two
  · have e : ¬ (j : Int) < len m := of_decide_eq_false e
    simp only [len_eq] at e
    rw [if_neg (by omega)] at hw
    exact hy _ hw.symm
theorem L_GcSameV {p1 p3 p4 p6 : Int} {p2 p5 : List Int} {K : Bool → Prop} (h : p2.length < 2 ^ 62) (hK : K (decide (p1 = p4 ∧ p3 = p6 ∧ p2 = p5))) : Ms_GcSame p1 p2 p3 p4 p5 p6 K := by
  refine br (fun e1 => br (fun e2 => L_l1Ints h ?_) fun e2 => ?_) fun e1 => ?_
  · have e1 := beq_iff_eq.1 e1; have e2 := beq_iff_eq.1 e2
    simpa [e1, e2] using hK
  · have e2 := beq_eq_false_iff_ne.1 e2
    simpa [e2] using hK
  · have e1 := beq_eq_false_iff_ne.1 e1
    simpa [e1] using hK
theorem L_StoreSameV {p1 p2 p3 p4 p5 p6 p7 p8 : List Int} {K : Bool → Prop} (h1 : p1.length < 2 ^ 62) (h2 : p2.length < 2 ^ 62) (h3 : p3.length < 2 ^ 62) (h4 : p4.length < 2 ^ 62) (hK : K (decide (p1 = p5 ∧ p2 = p6 ∧ p3 = p7 ∧ p4 = p8))) : Ms_StoreSame p1 p2 p3 p4 p5 p6 p7 p8 K := by
  have no : ¬ (p1 = p5 ∧ p2 = p6 ∧ p3 = p7) → K false := fun h => by
    have : ¬ (p1 = p5 ∧ p2 = p6 ∧ p3 = p7 ∧ p4 = p8) := fun q => h ⟨q.1, q.2.1, q.2.2.1⟩
    simpa [this] using hK
  have hh : ∀ K' : Bool → Prop, K' (decide (p1 = p5 ∧ p2 = p6 ∧ p3 = p7)) → Ms_HeapSame p1 p2 p3 p5 p6 p7 K' := fun K' hK' => by
    refine L_l1Ints h1 ?_
    refine br (fun e1 => ?_) fun e1 => ?_
    · refine L_l1Ints h2 ?_
      refine br (fun e2 => ?_) fun e2 => ?_
      · refine L_l1Ints h3 ?_
        have e1 := of_decide_eq_true e1; have e2 := of_decide_eq_true e2
        simpa [e1, e2] using hK'
      · have e2 := of_decide_eq_false e2
        simpa [e2] using hK'
    · have e1 := of_decide_eq_false e1
      simpa [e1] using hK'
  refine hh _ ?_
  refine br (fun e1 => ?_) fun e1 => no (of_decide_eq_false e1)
  refine L_l1Ints h4 ?_
  have e1 := of_decide_eq_true e1
  simpa [e1.1, e1.2.1, e1.2.2] using hK
theorem L_l8Find {b0 : BothV} {list : List NodeV} {l r ro fr col : List Int} {ph a i : Int} {ops : List OpV} {lost : Bool} {K : Int → Prop} (hl : list.length < 2 ^ 60) (hu : ∀ y ∈ list, Uni b0 y.b) (hn : Uni b0 ⟨⟨⟨l, r, ro⟩, fr⟩, ⟨ph, col, a⟩, ops, i, lost⟩)
    (hy : (∃ y ∈ list, y.b = ⟨⟨⟨l, r, ro⟩, fr⟩, ⟨ph, col, a⟩, ops, i, lost⟩) → ∀ j : Nat, K j) (hno : ¬ (∃ y ∈ list, y.b = ⟨⟨⟨l, r, ro⟩, fr⟩, ⟨ph, col, a⟩, ops, i, lost⟩) → K (-1)) : Ms_l8Find list l r ro fr ph col a ops i lost K := by
  refine LoopP_for (fun j s => s = (list, (j : Int), l, r, ro, fr, ph, col, a, ops, i, lost) ∧ ∀ k, k < j → (nd list k).b ≠ ⟨⟨⟨l, r, ro⟩, fr⟩, ⟨ph, col, a⟩, ops, i, lost⟩) list.length ⟨rfl, fun k h => absurd h (by omega)⟩ ?_ ?_
  · rintro j _ hj ⟨rfl, hk⟩ Kb hKb
    have hju := hu _ (nd_mem hj)
    have hxm := nd_mem hj
    have go : (nd list j).b ≠ ⟨⟨⟨l, r, ro⟩, fr⟩, ⟨ph, col, a⟩, ops, i, lost⟩ → Kb (list, iadd (j : Int) 1, l, r, ro, fr, ph, col, a, ops, i, lost) := fun h => hKb _ ⟨by rw [iadd_nat (by omega)], fun k hk2 => by
      rcases Nat.lt_succ_iff_lt_or_eq.1 hk2 with q | q
      · exact hk k q
      · rw [q]; exact h⟩
    refine br_t (by simp [len_eq]; exact hj) ⟨by rw [inB_nat]; exact hj, ?_⟩
    simp only [gN_nat]
    generalize nd list j = x at hju hxm go
    obtain ⟨⟨⟨⟨l', r', ro'⟩, fr'⟩, ⟨ph', col', a'⟩, ops', i', lost'⟩, road⟩ := x
    have ho : ops' = ops := hju.o.trans hn.o.symm
    have sm := hju.v.g
    have s1 := sm.sv.h.l8; have s2 := sm.sv.h.lr; have s3 := sm.sv.h.r3; have s4 := sm.sv.f8; have s5 := sm.c.len
    simp only at s1 s2 s3 s4 s5
    refine br (fun e1 => br (fun e2 => L_GcSameV (by show col'.length < _; omega) (br (fun e3 => L_StoreSameV (by show l'.length < _; omega) (by show r'.length < _; omega) (by show ro'.length < _; omega) (by show fr'.length < _; omega) (br (fun e4 => ?_) fun e4 => go ?_)) fun e3 => go ?_)) fun e2 => go ?_) fun e1 => go ?_
    · have e1 := beq_iff_eq.1 e1; have e2 := beq_iff_eq.1 e2
      have e3 := of_decide_eq_true e3; have e4 := of_decide_eq_true e4
      simp only at e1 e2 e3 e4
      exact hy ⟨_, hxm, by simp [e1, e2, e3, e4, ho]⟩ _
    · have e4 := of_decide_eq_false e4
      rintro ⟨⟩; exact e4 ⟨rfl, rfl, rfl, rfl⟩
    · have e3 := of_decide_eq_false e3
      rintro ⟨⟩; exact e3 ⟨rfl, rfl, rfl⟩
    · have e2 := beq_eq_false_iff_ne.1 e2
      rintro ⟨⟩; exact e2 rfl
    · have e1 := beq_eq_false_iff_ne.1 e1
      rintro ⟨⟩; exact e1 rfl
  · rintro _ ⟨rfl, hk⟩ Kb
    refine br_f (by simp [len_eq]) (hno ?_)
    rintro ⟨y, h1, h2⟩
    obtain ⟨j, hj, e⟩ := mem_nd h1
    exact hk j hj (by rw [e]; exact h2)
theorem L_l8Next {l r ro fr col : List Int} {ph a i z : Int} {ops : List OpV} {lost bar : Bool} {c : UInt8} {K : Int → Int → Int → Bool → Bool → List Int → List Int → List Int → List Int → List Int → List OpV → Prop} (h : BoP ⟨⟨⟨l, r, ro⟩, fr⟩, ⟨ph, col, a⟩, ops, i, lost⟩) (hz : z = (c.toNat : Int))
    (hn : nextB ⟨⟨⟨l, r, ro⟩, fr⟩, ⟨ph, col, a⟩, ops, i, lost⟩ bar c = none → K 0 0 0 false false [] [] [] [] [] [])
    (hy : ∀ n, nextB ⟨⟨⟨l, r, ro⟩, fr⟩, ⟨ph, col, a⟩, ops, i, lost⟩ bar c = some n → KB (fun p a i lost l r ro fr c ops => K p a i lost true l r ro fr c ops) n) : Ms_l8Next l r ro fr ph col a ops i lost z bar K := by
  subst hz
  have i1 := h.i1; have i0 := h.i0
  simp only at i1 i0
  unfold nextB at hn hy
  simp only at hn hy
  refine br (fun e => hn (by rw [if_pos e])) fun e => ?_
  rw [if_neg (by rw [e]; decide)] at hn hy
  have isO : ((c.toNat : Int) == 111) = decide (c = 111) := by rw [Bool.eq_iff_iff, beq_iff_eq, decide_eq_true_eq]; exact byte_eq (c := 111)
  refine br (fun e1 => br (fun e2 => hn ?_) fun e2 => br (fun e3 => ?_) fun e3 => ?_) fun e1 => br (fun e3 => ?_) fun e3 => ?_
  · rw [isO] at e1
    have e2 := beq_iff_eq.1 e2
    simp only [len_eq] at e2
    rw [if_pos (of_decide_eq_true e1), if_neg (by omega)]
  · rw [isO] at e1
    have e2 := beq_eq_false_iff_ne.1 e2
    simp only [len_eq] at e2
    rw [if_pos (of_decide_eq_true e1), if_pos (by omega)] at hy
    have hh := hy _ rfl
    refine L_l7Op h (by omega) ?_
    have hr := opB_rest ⟨⟨⟨l, r, ro⟩, fr⟩, ⟨ph, col, a⟩, ops, i, lost⟩ bar
    generalize opB ⟨⟨⟨l, r, ro⟩, fr⟩, ⟨ph, col, a⟩, ops, i, lost⟩ bar = n at hh hr
    obtain ⟨⟨⟨l', r', ro'⟩, fr'⟩, ⟨ph', col', a'⟩, ops', i', lost'⟩ := n
    simp only at hr
    rw [hr.1, hr.2.1] at hh
    exact hh
  · rw [e1] at e3; cases e3
  · rw [e1] at e3; cases e3
  · rw [isO] at e1
    rw [if_neg (of_decide_eq_false e1)] at hy
    have hh := hy _ rfl
    refine L_l7Gc h ?_
    have hr := gcB_rest ⟨⟨⟨l, r, ro⟩, fr⟩, ⟨ph, col, a⟩, ops, i, lost⟩
    generalize gcB ⟨⟨⟨l, r, ro⟩, fr⟩, ⟨ph, col, a⟩, ops, i, lost⟩ = n at hh hr
    obtain ⟨⟨⟨l', r', ro'⟩, fr'⟩, ⟨ph', col', a'⟩, ops', i', lost'⟩ := n
    simp only at hr
    rw [hr.1, hr.2] at hh
    exact hh
theorem letter_at {k : Nat} (hk : k < 2) : ∃ c : UInt8, (c = 103 ∨ c = 111) ∧ gY [103, 111] (k : Int) = (c.toNat : Int) ∧ bytesOf [gY [103, 111] (k : Int)] = [c] ∧ c = (if k = 0 then 103 else 111) := by
  rcases (show k = 0 ∨ k = 1 by omega) with rfl | rfl
  · exact ⟨103, .inl rfl, rfl, rfl, rfl⟩
  · exact ⟨111, .inr rfl, rfl, rfl, rfl⟩
/-- The list after some letters of a round. -/
def roundL (bar : Bool) (m : List NodeV) (x : NodeV) : Nat → List NodeV
  | 0 => m
  | 1 => addN bar m x 103
  | _ => addN bar (addN bar m x 103) x 111
theorem round_succ {bar : Bool} {m : List NodeV} {x : NodeV} {k : Nat} (hk : k < 2) : roundL bar m x (k + 1) = addN bar (roundL bar m x k) x (if k = 0 then 103 else 111) := by
  rcases (show k = 0 ∨ k = 1 by omega) with rfl | rfl <;> rfl
theorem round_le {bar : Bool} {m : List NodeV} {x : NodeV} {k : Nat} (hk : k ≤ 2) : (roundL bar m x k).length ≤ (roundL bar m x 2).length := by
  have h1 := addN_le bar m x 103
  have h2 := addN_le bar (addN bar m x 103) x 111
  rcases (show k = 0 ∨ k = 1 ∨ k = 2 by omega) with rfl | rfl | rfl
  · show m.length ≤ (addN bar (addN bar m x 103) x 111).length
    omega
  · exact h2
  · exact Nat.le_refl _
theorem L_l8All {l r ro fr col : List Int} {ph a i : Int} {ops : List OpV} {lost bar : Bool} {K : Bool → List NodeV → Prop}
    (hb : ¬ BoP ⟨⟨⟨l, r, ro⟩, fr⟩, ⟨ph, col, a⟩, ops, i, lost⟩ → K false [])
    (hn : BoP ⟨⟨⟨l, r, ro⟩, fr⟩, ⟨ph, col, a⟩, ops, i, lost⟩ → allB ⟨⟨⟨l, r, ro⟩, fr⟩, ⟨ph, col, a⟩, ops, i, lost⟩ bar = none → K false [])
    (hy : BoP ⟨⟨⟨l, r, ro⟩, fr⟩, ⟨ph, col, a⟩, ops, i, lost⟩ → ∀ m, allB ⟨⟨⟨l, r, ro⟩, fr⟩, ⟨ph, col, a⟩, ops, i, lost⟩ bar = some m → K true m) : Ms_l8All l r ro fr ph col a ops i lost bar K := by
  refine L_sBothValid (br (fun e => hb (by simpa using e)) fun e => ?_)
  have hv : BoP ⟨⟨⟨l, r, ro⟩, fr⟩, ⟨ph, col, a⟩, ops, i, lost⟩ := by simpa using e
  refine L_l7Copy hv ?_
  replace hn := hn hv
  replace hy := hy hv
  generalize hb0 : (⟨⟨⟨l, r, ro⟩, fr⟩, ⟨ph, col, a⟩, ops, i, lost⟩ : BothV) = b0 at hv hn hy
  refine LoopP_inv (fun s => ∃ (j : Nat) (m : List NodeV), s = (bar, (j : Int), m, [103, 111]) ∧ j ≤ 401 ∧ Tree b0 bar m ∧ m.length ≤ 400 ∧ j ≤ m.length ∧ walk bar (402 - j) j m = allB b0 bar) (fun s => (402 - s.2.1).toNat) ?_
    ⟨0, [⟨b0, []⟩], rfl, by omega, tree0 _ _, by simp, by simp, rfl⟩
  rintro _ ⟨j, m, rfl, hj, ht, hm, hjm, hw⟩ Kb hKb
  rw [show 402 - j = (401 - j) + 1 by omega] at hw
  unfold walk at hw
  have hu := tree_uni hv ht
  refine br (fun e => ?_) fun e => ?_
  · have e : (j : Int) < len m := of_decide_eq_true e
    simp only [len_eq] at e
    have hjl : j < m.length := by omega
    rw [if_pos hjl] at hw
    have hx := tree_ok hv ht j hjl
    have hxl := hx.len
    have hxu := hx.u
    have ht2 : Tree b0 bar (addN bar (addN bar m (nd m j) 103) (nd m j) 111) := by
      have t1 := addN_tree (c := 103) (.inl rfl) hjl ht
      have t2 := addN_tree (c := 111) (k := j) (.inr rfl) (Nat.lt_of_lt_of_le hjl (addN_le _ _ _ _)) t1
      rwa [addN_nd hjl] at t2
    have hndk : ∀ k, nd (roundL bar m (nd m j) k) j = nd m j := fun k => by
      match k with
      | 0 => rfl
      | 1 => exact addN_nd hjl
      | k + 2 => exact (addN_nd (Nat.lt_of_lt_of_le hjl (addN_le _ _ _ _))).trans (addN_nd hjl)
    have huk : ∀ k, ∀ y ∈ roundL bar m (nd m j) k, Uni b0 y.b := fun k => by
      match k with
      | 0 => exact hu
      | 1 => exact addN_uni hxu hu
      | k + 2 => exact addN_uni hxu (addN_uni hxu hu)
    have hjk : ∀ k, k ≤ 2 → j < (roundL bar m (nd m j) k).length := fun k hk => by
      rcases (show k = 0 ∨ k = 1 ∨ k = 2 by omega) with rfl | rfl | rfl
      · exact hjl
      · exact Nat.lt_of_lt_of_le hjl (addN_le _ _ _ _)
      · exact Nat.lt_of_lt_of_le (Nat.lt_of_lt_of_le hjl (addN_le _ _ _ _)) (addN_le _ _ _ _)
    change (if 400 < (roundL bar m (nd m j) 2).length then none else walk bar (401 - j) (j + 1) (roundL bar m (nd m j) 2)) = _ at hw
    change Tree b0 bar (roundL bar m (nd m j) 2) at ht2
    generalize nd m j = x at hw hx hxl hxu ht2 hndk huk hjk
    refine LoopP_for (fun k s => s = (bar, (j : Int), (k : Int), roundL bar m x k, [103, 111]) ∧ (roundL bar m x k).length ≤ 400) 2 ⟨rfl, hm⟩ ?_ ?_
    · rintro k _ hk ⟨rfl, h4⟩ Kb2 hKb2
      have hin : inB (j : Int) (roundL bar m x k).length := by rw [inB_nat]; exact hjk k (by omega)
      have hk2 : inB (k : Int) ([103, 111] : List Int).length := by rw [inB_nat]; exact hk
      obtain ⟨c, hc1, hc2, hc3, hc4⟩ := letter_at hk
      have hrs := round_succ (bar := bar) (m := m) (x := x) hk
      rw [← hc4] at hrs
      have keep : roundL bar m x (k + 1) = roundL bar m x k → Kb2 (bar, (j : Int), iadd (k : Int) 1, roundL bar m x k, [103, 111]) := fun q => hKb2 _ ⟨by rw [iadd_nat (by omega), q], by rw [q]; exact h4⟩
      refine br_t (by simp; omega) ⟨hin, hk2, ?_⟩
      simp only [gN_nat, hndk]
      refine L_l8Next hxu.v hc2 (fun q => br_t rfl (keep (by rw [hrs]; exact addN_none q))) fun n hnx => ?_
      have hnx : nextB x.b bar c = some n := hnx
      have hnu := hxu.next hnx
      unfold addN at hrs
      rw [hnx] at hrs
      simp only at hrs
      obtain ⟨⟨⟨l', r', ro'⟩, fr'⟩, ⟨ph', col', a'⟩, ops', i', lost'⟩ := n
      refine br_f (b := !true) rfl (L_l8Find (by omega) (huk k) hnu (fun hm2 q => br_t (by simp) (keep (by rw [hrs, if_pos hm2]))) fun hm2 => br_f (by decide) ?_)
      rw [if_neg hm2] at hrs
      have hle := round_le (bar := bar) (m := m) (x := x) (k := k + 1) (by omega)
      refine br (fun e4 => hn ?_) fun e4 => ⟨hin, hk2, by simp, ?_⟩
      · have e4 := beq_iff_eq.1 e4
        simp only [len_eq] at e4
        rw [if_pos (by rw [hrs] at hle; simp at hle; omega)] at hw
        exact hw.symm
      · have e4 := beq_eq_false_iff_ne.1 e4
        simp only [len_eq] at e4
        simp only [gN_nat, hndk, hc3]
        refine ⟨by simp; omega, by simp; omega, hKb2 _ ⟨by rw [iadd_nat (by omega), hrs], by rw [hrs]; simp; omega⟩⟩
    · rintro _ ⟨rfl, h4⟩ Kb2
      refine br_f (by simp) ?_
      rw [if_neg (by omega)] at hw
      have hjj := hjk 2 (Nat.le_refl _)
      refine hKb _ ⟨j + 1, _, by rw [iadd_nat (by omega)], by omega, ht2, h4, by omega, by rw [show 402 - (j + 1) = 401 - j by omega]; exact hw⟩ ?_
      rw [iadd_nat (by omega)]
      show (402 - ((j + 1 : Nat) : Int)).toNat < (402 - (j : Int)).toNat
      omega
  · have e : ¬ (j : Int) < len m := of_decide_eq_false e
    simp only [len_eq] at e
    rw [if_neg (by omega)] at hw
    exact hy _ hw.symm
def star : BothV := ⟨⟨⟨[-1, 2, -1], [-1, -1, -1], [0, 1, -1]⟩, []⟩, ⟨0, [0, 0, 0], 0⟩, [⟨3, 2, 1⟩, ⟨5, 0, 2⟩, ⟨7, 2, 0⟩, ⟨5, 1, 2⟩], 0, false⟩
structure D8 (b : BothV) : Prop where
  sm : Small b
  ok : ¬ BoP b ∨ (BoP b ∧ b.lost = false ∧ b.g.phase = 0 ∧ (Tame b ∨ b = star))
theorem L_sNewBothA {l r ro fr : List Int} {ops : List OpV} {K : Int → Int → Int → Bool → Bool → List Int → List Int → List Int → List Int → List Int → List OpV → Prop} (hv : SVp l r ro fr) (hy : OpsP ops ro.length → K 0 0 0 false true l r ro fr (List.replicate l.length 0) ops) (hn : ¬ OpsP ops ro.length → K 0 0 0 false false [] [] [] [] [] []) : Ms_NewBoth l r ro fr ops K := by
  by_cases ho : OpsP ops ro.length
  · exact L_sNewBoth hv ho (hy ho)
  · exact L_sNewGc hv (br_f rfl (L_l7Ops rfl (br_t (by simp [ho]) (hn ho))))
theorem zero_bad (i : Int) : ¬ BoP ⟨⟨⟨[], [], []⟩, []⟩, ⟨0, [], 0⟩, [], i, false⟩ := fun h => by have := h.g.sv.h.l1; simp at this
theorem L_l8c10 {b : List Int} {p : Int} {k : Nat} {x2 x3 x4 : Int} {x5 : Bool} {ops : List OpV} {q1 q2 q3 q4 q5 : List Int} {q6 : List OpV} {l r ro fr : List Int} {K : Int → Int → Int → Bool → List Int → Int → List Int → List Int → List Int → List Int → List Int → List OpV → Prop}
    (h : RdOk b p (k + 1)) (hv : SVp l r ro fr) (hT : OpsP ops ro.length → Tame ⟨⟨⟨l, r, ro⟩, fr⟩, ⟨0, List.replicate l.length 0, 0⟩, ops, 0, false⟩ ∨ ⟨⟨⟨l, r, ro⟩, fr⟩, ⟨0, List.replicate l.length 0, 0⟩, ops, 0, false⟩ = star)
    (hK : ∀ (x : BothV) p', D8 x → RdOk b p' k → K x.g.phase x.g.pos x.pos x.lost b p' x.s.h.l x.s.h.r x.s.h.ro x.s.free x.g.color x.ops) : Ms_l8Draw_c10 b p x2 x3 x4 x5 ops q1 q2 q3 q4 q5 q6 l r ro fr K := by
  refine L_sNewBothA hv (fun ho => ?_) fun ho => ?_
  · have fm := fresh_mk hv ho
    have sm := fm.v.sm
    refine L_pick h fun v _ _ h => br (fun _ => ?_) fun _ => ?_
    · refine hK ⟨⟨⟨l, r, ro⟩, fr⟩, ⟨0, List.replicate l.length 0, 0⟩, ops, 13, false⟩ _ ⟨⟨sm.l, sm.r, sm.ro, sm.f, sm.c, sm.o⟩, .inl fun hh => ?_⟩ h
      have i1 := hh.i1; have l12 := hh.o.len
      simp only at i1 l12; omega
    · exact hK ⟨⟨⟨l, r, ro⟩, fr⟩, ⟨0, List.replicate l.length 0, 0⟩, ops, 0, false⟩ _ ⟨sm, .inr ⟨fm.v, rfl, rfl, hT ho⟩⟩ h
  · refine L_pick h fun v _ _ h => br (fun _ => ?_) fun _ => ?_
    · exact hK ⟨⟨⟨[], [], []⟩, []⟩, ⟨0, [], 0⟩, [], 13, false⟩ _ ⟨⟨by simp, by simp, by simp, by simp, by simp, by simp⟩, .inl (zero_bad _)⟩ h
    · exact hK ⟨⟨⟨[], [], []⟩, []⟩, ⟨0, [], 0⟩, [], 0, false⟩ _ ⟨⟨by simp, by simp, by simp, by simp, by simp, by simp⟩, .inl (zero_bad _)⟩ h
def txt1 : List UInt8 := [110, 101, 119, 32, 48, 44, 32, 110, 101, 119, 32, 49, 44, 32, 110, 101, 119, 32, 50, 44, 32, 112, 117, 116, 108, 101, 102, 116, 32, 49, 32, 50, 44, 32, 99, 108, 101, 97, 114, 32, 50]
def txt2 : List UInt8 := [108, 101, 102, 116, 32, 50, 32, 49, 44, 32, 112, 117, 116, 108, 101, 102, 116, 32, 48, 32, 50, 44, 32, 99, 108, 101, 97, 114, 32, 50, 44, 32, 112, 117, 116, 108, 101, 102, 116, 32, 49, 32, 50]
def setup : List OpV := [⟨1, 0, 0⟩, ⟨1, 1, 0⟩, ⟨1, 2, 0⟩, ⟨5, 1, 2⟩, ⟨7, 2, 0⟩]
theorem txt1_ops : parseO txt1 = some setup := by decide +kernel
theorem txt2_ops : parseO txt2 = some star.ops := by decide +kernel
theorem setup_run : (runOps ⟨⟨List.replicate 3 (-1), List.replicate 3 (-1), List.replicate 3 (-1)⟩, idI 3⟩ setup).1 = star.s := by decide +kernel
theorem star_sv : SVp star.s.h.l star.s.h.r star.s.h.ro star.s.free := by decide
theorem L_l8Draw {b : List Int} {p : Int} {k : Nat} {K : Int → Int → Int → Bool → List Int → Int → List Int → List Int → List Int → List Int → List Int → List OpV → Prop} (h : RdOk b p (k + 32))
    (hK : ∀ (x : BothV) p', D8 x → RdOk b p' k → K x.g.phase x.g.pos x.pos x.lost b p' x.s.h.l x.s.h.r x.s.h.ro x.s.free x.g.color x.ops) : Ms_l8Draw b p K := by
  refine L_num (k := k + 31) h (by simp) fun n hn h => L_num (k := k + 30) h (by simp) fun q hq h => ?_
  have hn : 1 ≤ n ∧ n ≤ 3 := by simp at hn; omega
  have hq : 1 ≤ q ∧ q ≤ 3 := by simp at hq; omega
  obtain ⟨m, rfl⟩ : ∃ m : Nat, n = (m : Int) := ⟨n.toNat, by omega⟩
  obtain ⟨t, rfl⟩ : ∃ t : Nat, q = (t : Int) := ⟨q.toNat, by omega⟩
  have new3 : ∀ K' : Bool → List Int → List Int → List Int → List Int → Prop, K' true (List.replicate 3 (-1)) (List.replicate 3 (-1)) (List.replicate 3 (-1)) (idI 3) → Ms_NewStore 3 3 K' := fun K' hh => L_NewStore (n := 3) (q := 3) (by omega) (by omega) (by omega) (by omega) hh
  refine L_NewStore (n := m) (q := t) (by omega) (by omega) (by omega) (by omega) ?_
  have hv := new_valid (n := m) (q := t) (by omega) (by omega) (by omega) (by omega)
  have hv3 := new_valid (n := 3) (q := 3) (by omega) (by omega) (by omega) (by omega)
  -- the store that is set up
  have special : ∀ p', RdOk b p' (k + 1) → ∀ (x2 x3 x4 : Int) (x5 : Bool) (q1 q2 q3 q4 q5 : List Int) (q6 : List OpV), Ms_NewStore 3 3 fun (y15 : Bool) (y16 : List Int) (y17 : List Int) (y18 : List Int) (y19 : List Int) =>
      (Ms_ParseOps txt1 fun (y20 : Bool) (y21 : List OpV) => (Ms_RunOps y16 y17 y18 y19 y21 fun (y22 : Int) (y23 : Bool) (y24 : List Int) (y25 : List Int) (y26 : List Int) (y27 : List Int) =>
      (Ms_ParseOps txt2 fun (y28 : Bool) (y29 : List OpV) => (Ms_l8Draw_c10 b p' x2 x3 x4 x5 y29 q1 q2 q3 q4 q5 q6 y24 y25 y26 y27 K)))) := fun p' h' x2 x3 x4 x5 q1 q2 q3 q4 q5 q6 => by
    refine new3 _ (L_ParseOpsE (by decide) (fun l hl => ?_) fun hl => by rw [txt1_ops] at hl; cases hl)
    rw [txt1_ops] at hl
    cases hl
    refine L_sRunOps hv3 ⟨by decide, by decide⟩ ?_
    have e := setup_run
    generalize runOps ⟨⟨List.replicate 3 (-1), List.replicate 3 (-1), List.replicate 3 (-1)⟩, idI 3⟩ setup = rr at e
    obtain ⟨s, cnt⟩ := rr
    simp only at e
    subst e
    refine L_ParseOpsE (by decide) (fun l hl => ?_) fun hl => by rw [txt2_ops] at hl; cases hl
    rw [txt2_ops] at hl
    cases hl
    exact L_l8c10 h' star_sv (fun _ => .inr rfl) hK
  have plain : ∀ p' ops, ops.length ≤ 3 → RdOk b p' (k + 1) → ∀ (x2 x3 x4 : Int) (x5 : Bool) (q1 q2 q3 q4 q5 : List Int) (q6 : List OpV), Ms_l8Draw_c10 b p' x2 x3 x4 x5 ops q1 q2 q3 q4 q5 q6 (List.replicate m (-1)) (List.replicate m (-1)) (List.replicate t (-1)) (idI m) K := fun p' ops ho h' _ _ _ _ _ _ _ _ _ _ =>
    L_l8c10 h' hv (fun _ => .inl ⟨rfl, ho, new_lev m t _, fun q => by simp at q⟩) hK
  refine L_l5Ops (k := k + 2) h fun p' ops ho h => br (fun e => ⟨⟨by omega, by omega, ?_⟩, L_pick (k := k + 1) h fun v _ _ h => br (fun _ => special _ h _ _ _ _ _ _ _ _ _ _) fun _ => plain _ _ ?_ h _ _ _ _ _ _ _ _ _ _⟩) fun e => L_pick (k := k + 1) h fun v _ _ h => br (fun _ => special _ h _ _ _ _ _ _ _ _ _ _) fun _ => plain _ _ ?_ h _ _ _ _ _ _ _ _ _ _
  · have := of_decide_eq_true e; omega
  · simp [sub]; omega
  · have := of_decide_eq_false e; simp only [len_eq] at this; omega
theorem L_l8Case {c : List Int} {K : Int → Int → Int → Bool → Bool → List Int → List Int → List Int → List Int → List Int → List OpV → Prop} (hc : ∀ x ∈ c, U8 x)
    (hK : ∀ (x : BothV) (bar : Bool), D8 x → K x.g.phase x.g.pos x.pos x.lost bar x.s.h.l x.s.h.r x.s.h.ro x.s.free x.g.color x.ops) : Ms_l8Case c K :=
  L_l13Open hc fun b h => L_l8Draw (k := 1) (h.le (by omega)) fun x p' hx h => L_pick (k := 0) h fun v _ _ h => hK x _ hx
abbrev Txt := List UInt8
theorem txt_irrefl (x : Txt) : ¬ x < x := List.lt_irrefl x
theorem txt_trans {x y z : Txt} (h : x < y) (k : y < z) : x < z := List.lt_trans h k
theorem txt_le {x y : Txt} : x ≤ y ↔ x < y ∨ x = y := List.le_iff_lt_or_eq
theorem txt_total (x y : Txt) : x < y ∨ x = y ∨ y < x := by
  rcases List.le_total x y with h | h
  · rcases txt_le.1 h with h | h
    · exact .inl h
    · exact .inr (.inl h)
  · rcases txt_le.1 h with h | h
    · exact .inr (.inr h)
    · exact .inr (.inl h.symm)
def insR (s : Txt) : List Txt → List Txt
  | [] => [s]
  | a :: l => if a < s then a :: insR s l else if a = s then a :: l else s :: a :: l
theorem mem_insR {s x : Txt} : ∀ {l : List Txt}, x ∈ insR s l ↔ x ∈ l ∨ x = s
  | [] => by simp [insR]
  | a :: l => by
    unfold insR
    split
    · simp only [List.mem_cons, mem_insR]; exact ⟨fun h => by rcases h with h | h | h <;> simp [h], fun h => by rcases h with (h | h) | h <;> simp [h]⟩
    split
    · rename_i h
      exact ⟨.inl, fun q => q.elim id fun e => by rw [e, ← h]; simp⟩
    · simp only [List.mem_cons]
      exact ⟨fun h => by rcases h with h | h | h <;> simp [h], fun h => by rcases h with (h | h) | h <;> simp [h]⟩
theorem insR_sorted {s : Txt} : ∀ {l : List Txt}, l.Pairwise (· < ·) → (insR s l).Pairwise (· < ·)
  | [], _ => by simp [insR]
  | a :: l, h => by
    have hc := List.pairwise_cons.1 h
    unfold insR
    split
    · rename_i ha
      refine List.pairwise_cons.2 ⟨fun x hx => ?_, insR_sorted hc.2⟩
      rcases mem_insR.1 hx with q | q
      · exact hc.1 x q
      · rw [q]; exact ha
    split
    · exact h
    · rename_i h1 h2
      have hs : s < a := by
        rcases txt_total s a with q | q | q
        · exact q
        · exact absurd q.symm h2
        · exact absurd q h1
      refine List.pairwise_cons.2 ⟨fun x hx => ?_, h⟩
      rcases List.mem_cons.1 hx with q | q
      · rw [q]; exact hs
      · exact txt_trans hs (hc.1 x q)
def uniqS (T : List Txt) : List Txt := T.foldl (fun o s => insR s o) []
theorem foldU {x : Txt} : ∀ {T o : List Txt}, o.Pairwise (· < ·) → (T.foldl (fun o s => insR s o) o).Pairwise (· < ·) ∧ (x ∈ T.foldl (fun o s => insR s o) o ↔ x ∈ o ∨ x ∈ T)
  | [], o, h => by simp [h]
  | s :: T, o, h => by
    have := foldU (x := x) (T := T) (insR_sorted (s := s) h)
    refine ⟨this.1, this.2.trans ?_⟩
    rw [mem_insR, List.mem_cons]
    exact ⟨fun h => by rcases h with (h | h) | h <;> simp [h], fun h => by rcases h with h | h | h <;> simp [h]⟩
theorem uniq_sorted (T : List Txt) : (uniqS T).Pairwise (· < ·) := (foldU (x := []) List.Pairwise.nil).1
theorem mem_uniq {T : List Txt} {x : Txt} : x ∈ uniqS T ↔ x ∈ T := by
  unfold uniqS
  rw [(foldU List.Pairwise.nil).2]; simp
theorem sorted_eq : ∀ {l m : List Txt}, l.Pairwise (· < ·) → m.Pairwise (· < ·) → (∀ x, x ∈ l ↔ x ∈ m) → l = m
  | [], [], _, _, _ => rfl
  | [], b :: m, _, _, h => by have := (h b).2 (by simp); simp at this
  | a :: l, [], _, _, h => by have := (h a).1 (by simp); simp at this
  | a :: l, b :: m, h1, h2, h => by
    have c1 := List.pairwise_cons.1 h1; have c2 := List.pairwise_cons.1 h2
    have e : a = b := by
      rcases List.mem_cons.1 ((h a).1 (by simp)) with q | q
      · exact q
      · rcases List.mem_cons.1 ((h b).2 (by simp)) with p | p
        · exact p.symm
        · exact absurd (txt_trans (c1.1 b p) (c2.1 a q)) (txt_irrefl a)
    subst e
    rw [sorted_eq c1.2 c2.2 fun x => ?_]
    have hx := h x
    rw [List.mem_cons, List.mem_cons] at hx
    constructor
    · intro q
      rcases hx.1 (.inr q) with p | p
      · rw [p] at q; exact absurd (c1.1 a q) (txt_irrefl a)
      · exact p
    · intro q
      rcases hx.2 (.inr q) with p | p
      · rw [p] at q; exact absurd (c2.1 a q) (txt_irrefl a)
      · exact p
theorem comp_ok {d : Array Txt} (hs : ∀ i j, i ≤ j → j < d.size → d[i]! ≤ d[j]!) : ∀ m, m ≤ d.size → (Lib.compactUpTo d m).Pairwise (· < ·) ∧ ∀ x, x ∈ Lib.compactUpTo d m ↔ ∃ j, j < m ∧ d[j]! = x
  | 0, _ => by simp [Lib.compactUpTo]
  | m + 1, hm => by
    have ih := comp_ok hs m (by omega)
    rw [Lib.compactUpTo_succ]
    cases hk : Lib.keeps d m with
    | true =>
      simp only [if_true]
      refine ⟨List.pairwise_append.2 ⟨ih.1, by simp, fun x hx y hy => ?_⟩, fun x => ?_⟩
      · obtain ⟨j, hj, e⟩ := (ih.2 x).1 hx
        rw [List.mem_singleton.1 hy, ← e]
        have hne : m ≠ 0 := by omega
        unfold Lib.keeps at hk
        have hk := of_decide_eq_true hk
        have h1 : d[m]! ≠ d[m - 1]! := hk.resolve_left hne
        have h2 := hs (m - 1) m (by omega) (by omega)
        have h3 := hs j (m - 1) (by omega) (by omega)
        rcases txt_le.1 h2 with q | q
        · rcases txt_le.1 h3 with p | p
          · exact txt_trans p q
          · rw [p]; exact q
        · exact absurd q.symm h1
      · rw [List.mem_append, ih.2 x, List.mem_singleton]
        constructor
        · rintro (⟨j, hj, e⟩ | e)
          · exact ⟨j, by omega, e⟩
          · exact ⟨m, by omega, e.symm⟩
        · rintro ⟨j, hj, e⟩
          rcases Nat.lt_succ_iff_lt_or_eq.1 hj with q | q
          · exact .inl ⟨j, q, e⟩
          · exact .inr (by rw [← e, q])
    | false =>
      simp only [Bool.false_eq_true, if_false, List.append_nil]
      refine ⟨ih.1, fun x => (ih.2 x).trans ⟨fun ⟨j, hj, e⟩ => ⟨j, by omega, e⟩, fun ⟨j, hj, e⟩ => ?_⟩⟩
      rcases Nat.lt_succ_iff_lt_or_eq.1 hj with q | q
      · exact ⟨j, q, e⟩
      · unfold Lib.keeps at hk
        have hk := of_decide_eq_false hk
        have h0 : m ≠ 0 := fun h => hk (.inl h)
        have h1 : d[m]! = d[m - 1]! := Decidable.byContradiction fun h => hk (.inr h)
        exact ⟨m - 1, by omega, by rw [← h1, ← q]; exact e⟩
theorem sort_uniq (T : List Txt) : Lib.compact (T.mergeSort fun x y => decide (x ≤ y)) = uniqS T := by
  have hp : (T.mergeSort fun x y => decide (x ≤ y)).Pairwise (fun x y => decide (x ≤ y) = true) := by
    refine List.pairwise_mergeSort (fun a b c h1 h2 => ?_) (fun a b => ?_) T
    · have h1 := of_decide_eq_true h1; have h2 := of_decide_eq_true h2
      exact decide_eq_true (List.le_trans h1 h2)
    · rcases List.le_total a b with h | h <;> simp [h]
  have hm : ∀ x, x ∈ (T.mergeSort fun x y => decide (x ≤ y)) ↔ x ∈ T := fun x => List.mem_mergeSort
  generalize T.mergeSort (fun x y => decide (x ≤ y)) = S at hp hm
  have hs : ∀ i j, i ≤ j → j < S.toArray.size → S.toArray[i]! ≤ S.toArray[j]! := fun i j hij hj => by
    have hj : j < S.length := by simpa using hj
    rw [getElem!_pos S.toArray i (by simp; omega), getElem!_pos S.toArray j (by simpa using hj)]
    simp only [List.getElem_toArray]
    rcases Nat.lt_or_eq_of_le hij with h | h
    · exact of_decide_eq_true (List.pairwise_iff_getElem.1 hp i j (by omega) hj h)
    · subst h; exact List.le_refl _
  have c := comp_ok hs S.toArray.size (Nat.le_refl _)
  refine sorted_eq (by simpa [Lib.compact] using c.1) (uniq_sorted T) fun x => ?_
  have c2 := c.2 x
  rw [mem_uniq, ← hm x]
  unfold Lib.compact
  rw [show S.length = S.toArray.size by simp, c2]
  constructor
  · rintro ⟨j, hj, e⟩
    rw [getElem!_pos S.toArray j hj] at e
    simp only [List.getElem_toArray] at e
    rw [← e]; exact List.getElem_mem _
  · intro h
    obtain ⟨j, hj, e⟩ := List.mem_iff_getElem.1 h
    exact ⟨j, by simpa using hj, by rw [getElem!_pos S.toArray j (by simpa using hj)]; simpa using e⟩
/-- The place of a text among others. -/
def posR (s : Txt) : List Txt → Nat
  | [] => 0
  | a :: l => if a < s then posR s l + 1 else 0
theorem posR_le (s : Txt) : ∀ l : List Txt, posR s l ≤ l.length
  | [] => by simp [posR]
  | a :: l => by unfold posR; have := posR_le s l; split <;> simp <;> omega
theorem posR_low {s : Txt} : ∀ {l : List Txt} {k : Nat}, k < posR s l → l.getD k [] < s
  | [], k, h => by simp [posR] at h
  | a :: l, k, h => by
    unfold posR at h
    split at h
    · rename_i ha
      cases k with
      | zero => simpa using ha
      | succ k => simpa using posR_low (l := l) (k := k) (by omega)
    · omega
theorem posR_high {s : Txt} : ∀ {l : List Txt}, posR s l < l.length → ¬ l.getD (posR s l) [] < s
  | [], h => by simp at h
  | a :: l, h => by
    unfold posR at h ⊢
    split
    · rename_i ha
      rw [if_pos ha] at h
      simpa using posR_high (l := l) (by simpa using h)
    · simpa
theorem insR_pos {s : Txt} : ∀ {l : List Txt}, insR s l = if posR s l < l.length ∧ l.getD (posR s l) [] = s then l else (l.take (posR s l) ++ [s]) ++ l.drop (posR s l)
  | [] => by simp [insR, posR]
  | a :: l => by
    unfold insR posR
    split
    · rename_i ha
      rw [insR_pos (l := l)]
      simp only [List.length_cons, Nat.add_lt_add_iff_right, List.getD_cons_succ, List.take_succ_cons, List.drop_succ_cons]
      split
      · rfl
      · rfl
    split
    · rename_i h1 h2
      simp [h2]
    · rename_i h1 h2
      simp [h2]
theorem dg_dig {x : Int} (h0 : 0 ≤ x) (h1 : x < 10) : dg x = digS x := by
  rw [digS_eq (by omega) h1, if_neg (by omega)]; rfl
theorem L_l1Sign {x : Int} {K : List UInt8 → Prop} (h0 : -1 ≤ x) (h1 : x < 10) (hK : K (digS x)) : Ms_l1Sign x K := by
  refine br (fun e => ?_) fun e => ?_
  · have e := beq_iff_eq.1 e
    rw [e] at hK; exact hK
  · have e := beq_eq_false_iff_ne.1 e
    exact L_DecE (by omega) (by omega) (by rw [dg_dig (by omega) h1]; exact hK)
theorem L_sFormatHeap {l r ro : List Int} {K : List UInt8 → Prop} (hK : HVp l r ro → K (heapS l r ro)) (hn : ¬ HVp l r ro → K []) : Ms_FormatHeap l r ro K := by
  refine L_sHeapValid (br (fun e => hn (by simpa using e)) fun e => ?_)
  have hv : HVp l r ro := by simpa using e
  replace hK := hK hv
  have h8 := hv.l8; have r3 := hv.r3; have hlr := hv.lr
  refine LoopP_for (fun i s => s = (cellsS l r i, (i : Int), l, r, ro)) l.length rfl ?_ ?_
  · rintro i _ hi rfl Kb hKb
    have a := hv.at.1 i hi; have b := hv.at.2.1 i hi
    unfold okP at a b
    have e1 : (cellsS l r i).length = i * 3 := catN_len fun j hj => cells_len hv j (by omega)
    have e2 := digS_len (x := l.getD i 0) (by omega) (by omega)
    have e3 := digS_len (x := r.getD i 0) (by omega) (by omega)
    refine br_t (by simp [len_eq]; exact hi) ⟨by rw [inB_nat]; exact hi, ?_⟩
    simp only [gI_nat]
    refine L_l1Sign (by omega) (by omega) ⟨by omega, by rw [inB_nat]; omega, L_l1Sign (by omega) (by omega) ⟨by simp [-List.getD_eq_getElem?_getD, e1, e2, e3]; omega, by simp [-List.getD_eq_getElem?_getD, e1, e2, e3]; omega, hKb _ ?_⟩⟩
    rw [iadd_nat (by omega)]
    unfold cellsS
    rw [catN_succ]
    simp only [List.append_assoc]
  · rintro _ rfl Kb
    refine br_f (by simp [len_eq]) ⟨?_, ?_⟩
    · have e1 : (cellsS l r l.length).length = l.length * 3 := catN_len (cells_len hv)
      simp [e1]; omega
    refine LoopP_for (fun i s => s = ((cellsS l r l.length ++ [47]) ++ rootsS ro i, (i : Int), l, r, ro)) ro.length (by simp [rootsS, catN]) ?_ ?_
    · rintro i _ hi rfl Kb hKb
      have a := hv.at.2.2 i hi
      unfold okP at a
      have e1 : (cellsS l r l.length).length = l.length * 3 := catN_len (cells_len hv)
      have e4 : (rootsS ro i).length = i * 2 := catN_len fun j hj => roots_len hv j (by omega)
      have e2 := digS_len (x := ro.getD i 0) (by omega) (by omega)
      refine br_t (by simp [len_eq]; exact hi) ⟨by simp [-List.getD_eq_getElem?_getD, e1, e4]; omega, by rw [inB_nat]; exact hi, ?_⟩
      simp only [gI_nat]
      refine L_l1Sign (by omega) (by omega) ⟨by simp [-List.getD_eq_getElem?_getD, e1, e2, e4]; omega, hKb _ ?_⟩
      rw [iadd_nat (by omega)]
      unfold rootsS
      rw [catN_succ]
      simp only [List.append_assoc]
    · rintro _ rfl Kb
      exact br_f (by simp [len_eq]) hK
/-- The text of the heap of a state at its end. -/
def lastT (x : NodeV) : Option Txt := if x.b.pos = x.b.ops.length ∧ x.b.lost = false then some (heapS x.b.s.h.l x.b.s.h.r x.b.s.h.ro) else none
def endsB (b : BothV) (bar : Bool) : Option (List Txt) := if BoP b then (allB b bar).map fun m => uniqS (m.filterMap lastT) else none
theorem filt_succ {m : List NodeV} {j : Nat} (hj : j < m.length) : (m.take (j + 1)).filterMap lastT = (m.take j).filterMap lastT ++ (lastT (nd m j)).toList := by
  rw [List.take_add_one, List.filterMap_append, List.getElem?_eq_getElem hj, show m[j] = nd m j by unfold nd; rw [getD_lt hj]]
  cases h : lastT (nd m j) <;> simp [List.filterMap, h]
theorem filt_len {m : List NodeV} {j : Nat} : ((m.take j).filterMap lastT).length ≤ m.length := Nat.le_trans (List.length_filterMap_le _ _) (by simp; omega)
theorem L_iEndStores {l r ro fr col : List Int} {ph a i : Int} {ops : List OpV} {lost bar : Bool} {K : Bool → List (List UInt8) → Prop} (hf : fr.length < 2 ^ 60) (hc : col.length < 2 ^ 60) (ho : ops.length < 2 ^ 60)
    (hn : endsB ⟨⟨⟨l, r, ro⟩, fr⟩, ⟨ph, col, a⟩, ops, i, lost⟩ bar = none → K false []) (hy : ∀ t, endsB ⟨⟨⟨l, r, ro⟩, fr⟩, ⟨ph, col, a⟩, ops, i, lost⟩ bar = some t → K true t) : Mi_EndStores l r ro fr ph col a ops i lost bar K := by
  refine L_comes hf hc ho (fun h => br_t rfl (hn (by unfold endsB; rw [if_neg h]))) (fun h h2 => br_t rfl (hn (by unfold endsB; rw [if_pos h, h2]; rfl))) fun h m hm => br_f rfl ?_
  have hy := hy (uniqS (m.filterMap lastT)) (by unfold endsB; rw [if_pos h, hm]; rfl)
  obtain ⟨ht, hl⟩ := walk_tree (tree0 _ _) (by simp) hm
  have hu := tree_uni h ht
  refine LoopP_for (fun j s => s = (len m, (j : Int), (m.take j).filterMap lastT, m)) m.length (by simp) ?_ ?_
  · rintro j _ hj rfl Kb hKb
    have hx := (hu _ (nd_mem hj)).v
    have hfl := filt_len (m := m) (j := j)
    have hs := filt_succ hj
    refine br_t (by simp [len_eq]; exact hj) ⟨by rw [inB_nat]; exact hj, ?_⟩
    simp only [gN_nat]
    generalize nd m j = x at hx hs
    have skip : ¬ (x.b.pos = x.b.ops.length ∧ x.b.lost = false) → Kb (len m, iadd (j : Int) 1, (m.take j).filterMap lastT, m) := fun q => hKb _ (by
      rw [iadd_nat (by omega), hs]
      unfold lastT
      rw [if_neg q]; simp)
    refine br (fun e => br (fun e2 => L_FormatHeap (fun _ => ⟨by simp; omega, hKb _ ?_⟩) fun q => absurd hx.g.sv.h q) fun e2 => skip fun q => ?_) fun e => skip fun q => ?_
    · have e := beq_iff_eq.1 e
      have e2 : x.b.lost = false := by simpa using e2
      rw [iadd_nat (by omega), hs]
      rw [show lastT x = some (heapS x.b.s.h.l x.b.s.h.r x.b.s.h.ro) by unfold lastT; rw [if_pos ⟨e, e2⟩]]
      rfl
    · have e2 : x.b.lost = true := by simpa using e2
      rw [e2] at q; exact absurd q.2 (by decide)
    · exact beq_eq_false_iff_ne.1 e q.1
  · rintro _ rfl Kb
    refine br_f (by simp [len_eq]) ?_
    have hfl := filt_len (m := m) (j := m.length)
    rw [List.take_length] at hfl
    simp only [List.take_length]
    refine ⟨by omega, ?_⟩
    refine ⟨by rw [List.length_mergeSort]; omega, ?_⟩
    rw [sort_uniq]
    refine ⟨⟨by omega, by simp only [len_eq]; omega, by omega, by omega⟩, ?_⟩
    rw [show sub (uniqS (m.filterMap lastT)) 0 (len (uniqS (m.filterMap lastT))) = uniqS (m.filterMap lastT) by simp [sub, len_eq]]
    exact hy
theorem uniq_len {T : List Txt} : ∀ {o : List Txt}, (T.foldl (fun o s => insR s o) o).length ≤ o.length + T.length := by
  have one : ∀ (s : Txt) (o : List Txt), (insR s o).length ≤ o.length + 1 := fun s o => by
    induction o with
    | nil => simp [insR]
    | cons a l ih =>
      unfold insR
      split
      · simp; omega
      split <;> simp
  induction T with
  | nil => intro o; simp
  | cons s T ih =>
    intro o
    have := ih (o := insR s o)
    have := one s o
    simp only [List.foldl_cons, List.length_cons]; omega
theorem uniq_snoc (T : List Txt) (s : Txt) : uniqS (T ++ [s]) = insR s (uniqS T) := by unfold uniqS; rw [List.foldl_append]; rfl
theorem gS_nat (l : List Txt) (i : Nat) : gS l (i : Int) = l.getD i [] := by simp [gS, EK.dflt]
theorem ins_ok {o : List Txt} {t : Txt} {p : Nat} {P : List Txt → Prop} (hp : p ≤ o.length) (ho : o.length ≤ 1000) (h : P ((o.take p ++ [t]) ++ o.drop p)) :
    ((0 : Int) ≤ (0 : Int) ∧ (0 : Int) ≤ (p : Int) ∧ (p : Int) ≤ ((List.length o : Nat) : Int)) ∧ ((List.length (sub o (0 : Int) (p : Int)) : Nat) ≤ 2 ^ 36) ∧ (List.length (sub o (0 : Int) (p : Int)) + List.length ([t] : List Txt) ≤ 2 ^ 36) ∧
    ((0 : Int) ≤ (p : Int) ∧ (p : Int) ≤ ((List.length o : Nat) : Int) ∧ ((List.length o : Nat) : Int) ≤ ((List.length o : Nat) : Int)) ∧
    (List.length (sub o (0 : Int) (p : Int) ++ [t]) + List.length (sub o (p : Int) ((List.length o : Nat) : Int)) ≤ 2 ^ 36) ∧ P ((sub o (0 : Int) (p : Int) ++ [t]) ++ sub o (p : Int) ((List.length o : Nat) : Int)) := by
  have s1 : sub o (0 : Int) (p : Int) = o.take p := by simp [sub]
  have s2 : sub o (p : Int) ((o.length : Nat) : Int) = o.drop p := by simp [sub]
  rw [s1, s2]
  exact ⟨⟨by omega, by omega, by omega⟩, by simp; omega, by simp; omega, ⟨by omega, by omega, by omega⟩, by simp; omega, h⟩
theorem L_sEndStores {l r ro fr col : List Int} {ph a i : Int} {ops : List OpV} {lost bar : Bool} {K : Bool → List (List UInt8) → Prop}
    (hn : endsB ⟨⟨⟨l, r, ro⟩, fr⟩, ⟨ph, col, a⟩, ops, i, lost⟩ bar = none → K false []) (hy : ∀ t, endsB ⟨⟨⟨l, r, ro⟩, fr⟩, ⟨ph, col, a⟩, ops, i, lost⟩ bar = some t → K true t) : Ms_EndStores l r ro fr ph col a ops i lost bar K := by
  have gen : ∀ (ok : Bool) (m : List NodeV), m.length ≤ 400 → (∀ y ∈ m, BoP y.b) → K ok (uniqS (m.filterMap lastT)) → LoopP (S := Bool × Int × List NodeV × List (List UInt8)) (fun s3 Kb3 Kx3 =>
      (((decide (s3.2.1 < (len s3.2.2.1))) = true →
      ((inB s3.2.1 (List.length s3.2.2.1)) ∧
      (let v4 : Bool := (decide (((gN s3.2.2.1 s3.2.1).b.pos) < (len ((gN s3.2.2.1 s3.2.1).b.ops))));
      ((v4 = true →
      (Kb3 (s3.1, (iadd s3.2.1 1), s3.2.2.1, s3.2.2.2))) ∧
      (v4 = false →
      (((gN s3.2.2.1 s3.2.1).b.lost = true →
      (Kb3 (s3.1, (iadd s3.2.1 1), s3.2.2.1, s3.2.2.2))) ∧
      ((gN s3.2.2.1 s3.2.1).b.lost = false →
      (Ms_FormatHeap ((gN s3.2.2.1 s3.2.1).b.s.h.l) ((gN s3.2.2.1 s3.2.1).b.s.h.r) ((gN s3.2.2.1 s3.2.1).b.s.h.ro) fun (y5 : List UInt8) =>
      (LoopP (S := Bool × Int × List UInt8 × Int × List NodeV × List (List UInt8)) (fun s6 Kb6 Kx6 =>
      (((decide (s6.2.2.2.1 < (len s6.2.2.2.2.2))) = true →
      ((inB s6.2.2.2.1 (List.length s6.2.2.2.2.2)) ∧
      (((Op.bytesLess (gS s6.2.2.2.2.2 s6.2.2.2.1) s6.2.2.1) = true →
      (Kb6 (s6.1, s6.2.1, s6.2.2.1, (iadd s6.2.2.2.1 1), s6.2.2.2.2.1, s6.2.2.2.2.2))) ∧
      ((Op.bytesLess (gS s6.2.2.2.2.2 s6.2.2.2.1) s6.2.2.1) = false →
      (Kx6 (s6.1, s6.2.1, s6.2.2.1, s6.2.2.2.1, s6.2.2.2.2.1, s6.2.2.2.2.2)))))) ∧
      ((decide (s6.2.2.2.1 < (len s6.2.2.2.2.2))) = false →
      (Kx6 (s6.1, s6.2.1, s6.2.2.1, s6.2.2.2.1, s6.2.2.2.2.1, s6.2.2.2.2.2)))))
      (s3.1, s3.2.1, y5, 0, s3.2.2.1, s3.2.2.2) fun s6 =>
      (let j8 : Prop :=
      (((0 : Int) ≤ (0 : Int) ∧ (0 : Int) ≤ s6.2.2.2.1 ∧ s6.2.2.2.1 ≤ ((List.length s6.2.2.2.2.2 : Nat) : Int)) ∧
      (((List.length (sub s6.2.2.2.2.2 (0 : Int) s6.2.2.2.1) : Nat) ≤ 2 ^ 36) ∧
      ((List.length (sub s6.2.2.2.2.2 (0 : Int) s6.2.2.2.1) + List.length ([s6.2.2.1] : List (List UInt8)) ≤ 2 ^ 36) ∧
      (((0 : Int) ≤ s6.2.2.2.1 ∧ s6.2.2.2.1 ≤ ((List.length s6.2.2.2.2.2 : Nat) : Int) ∧ ((List.length s6.2.2.2.2.2 : Nat) : Int) ≤ ((List.length s6.2.2.2.2.2 : Nat) : Int)) ∧
      ((List.length ((sub s6.2.2.2.2.2 (0 : Int) s6.2.2.2.1) ++ [s6.2.2.1]) + List.length (sub s6.2.2.2.2.2 s6.2.2.2.1 ((List.length s6.2.2.2.2.2 : Nat) : Int)) ≤ 2 ^ 36) ∧
      (let v7 : List (List UInt8) := (((sub s6.2.2.2.2.2 (0 : Int) s6.2.2.2.1) ++ [s6.2.2.1]) ++ (sub s6.2.2.2.2.2 s6.2.2.2.1 ((List.length s6.2.2.2.2.2 : Nat) : Int)));
      (Kb3 (s6.1, (iadd s6.2.1 1), s6.2.2.2.2.1, v7))))))));
      (((decide (s6.2.2.2.1 < (len s6.2.2.2.2.2))) = true →
      ((inB s6.2.2.2.1 (List.length s6.2.2.2.2.2)) ∧
      ((((gS s6.2.2.2.2.2 s6.2.2.2.1) == s6.2.2.1) = true →
      (Kb3 (s6.1, (iadd s6.2.1 1), s6.2.2.2.2.1, s6.2.2.2.2.2))) ∧
      (((gS s6.2.2.2.2.2 s6.2.2.2.1) == s6.2.2.1) = false →
      j8)))) ∧
      ((decide (s6.2.2.2.1 < (len s6.2.2.2.2.2))) = false →
      j8)))))))))))) ∧
      ((decide (s3.2.1 < (len s3.2.2.1))) = false →
      (Kx3 (s3.1, s3.2.1, s3.2.2.1, s3.2.2.2)))))
      (ok, 0, m, []) fun s3 =>
      (K s3.1 s3.2.2.2) := fun ok m hl hb hK => by
    refine LoopP_for (fun j s => s = (ok, (j : Int), m, uniqS ((m.take j).filterMap lastT))) m.length rfl ?_ ?_
    · rintro j _ hj rfl Kb hKb
      have hx := hb _ (nd_mem hj)
      have hfl := filt_len (m := m) (j := j)
      have hs := filt_succ hj
      have hul := uniq_len (T := (m.take j).filterMap lastT) (o := [])
      change (uniqS ((m.take j).filterMap lastT)).length ≤ _ at hul
      rw [List.length_nil, Nat.zero_add] at hul
      refine br_t (by simp [len_eq]; exact hj) ⟨by rw [inB_nat]; exact hj, ?_⟩
      simp only [gN_nat]
      generalize nd m j = x at hx hs
      have i1 := hx.i1
      have skip : ¬ (x.b.pos = x.b.ops.length ∧ x.b.lost = false) → Kb (ok, iadd (j : Int) 1, m, uniqS ((m.take j).filterMap lastT)) := fun q => hKb _ (by
        rw [iadd_nat (by omega), hs]
        unfold lastT
        rw [if_neg q]; simp)
      refine br (fun e => skip fun q => ?_) fun e => br (fun e2 => skip fun q => ?_) fun e2 => L_sFormatHeap (fun _ => ?_) fun q => absurd hx.g.sv.h q
      · have e := of_decide_eq_true e
        simp only [len_eq] at e; omega
      · rw [e2] at q; exact absurd q.2 (by decide)
      · have e := of_decide_eq_false e
        simp only [len_eq] at e
        rw [show lastT x = some (heapS x.b.s.h.l x.b.s.h.r x.b.s.h.ro) by unfold lastT; rw [if_pos ⟨by omega, e2⟩]] at hs
        simp only [Option.toList_some] at hs
        have nx : uniqS ((m.take (j + 1)).filterMap lastT) = insR (heapS x.b.s.h.l x.b.s.h.r x.b.s.h.ro) (uniqS ((m.take j).filterMap lastT)) := by rw [hs, uniq_snoc]
        have hKb' := hKb _ rfl
        rw [nx, insR_pos] at hKb'
        generalize heapS x.b.s.h.l x.b.s.h.r x.b.s.h.ro = t at hKb'
        generalize uniqS ((m.take j).filterMap lastT) = o at hKb' hul
        have hp := posR_le t o
        refine LoopP_for (fun k s => s = (ok, (j : Int), t, (k : Int), m, o)) (posR t o) rfl ?_ ?_
        · rintro k _ hk rfl Kb2 hKb2
          refine br_t (by simp [len_eq]; omega) ⟨by rw [inB_nat]; show k < o.length; omega, br_t ?_ (hKb2 _ (by rw [iadd_nat (by omega)]))⟩
          rw [gS_nat, Go.Proofs.bytesLess_eq]
          exact decide_eq_true (posR_low hk)
        · rintro _ rfl Kb2
          have fin : Kb (ok, iadd (j : Int) 1, m, if posR t o < o.length ∧ o.getD (posR t o) [] = t then o else (o.take (posR t o) ++ [t]) ++ o.drop (posR t o)) := by rw [iadd_nat (by omega)]; exact hKb'
          have ins := fun q : ¬ (posR t o < o.length ∧ o.getD (posR t o) [] = t) => ins_ok (P := fun z => Kb (ok, iadd (j : Int) 1, m, z)) hp (show o.length ≤ 1000 by omega) (by rw [if_neg q] at fin; exact fin)
          by_cases hpl : posR t o < o.length
          · have hin : inB ((posR t o : Nat) : Int) o.length := by rw [inB_nat]; exact hpl
            refine br_t (by simp [len_eq]; exact hpl) ⟨hin, br_f ?_ (br_t (by simp [len_eq]; exact hpl) ⟨hin, br (fun e => ?_) fun e => ins fun q => ?_⟩)⟩
            · rw [gS_nat, Go.Proofs.bytesLess_eq]
              exact decide_eq_false (posR_high hpl)
            · rw [gS_nat] at e
              rw [if_pos ⟨hpl, beq_iff_eq.1 e⟩] at fin
              exact fin
            · rw [gS_nat] at e
              exact beq_eq_false_iff_ne.1 e q.2
          · exact br_f (by simp [len_eq]; omega) (br_f (by simp [len_eq]; omega) (ins fun q => hpl q.1))
    · rintro _ rfl Kb
      refine br_f (by simp [len_eq]) ?_
      simp only [List.take_length]; exact hK
  refine L_l8All (fun h => gen false [] (by simp) (by simp) (hn (by unfold endsB; rw [if_neg h]))) (fun h h2 => gen false [] (by simp) (by simp) (hn (by unfold endsB; rw [if_pos h, h2]; rfl))) fun h m hm => ?_
  obtain ⟨ht, hl⟩ := walk_tree (tree0 _ _) (by simp) hm
  exact gen true m hl (fun y hy => (tree_uni h ht y hy).v) (hy _ (by unfold endsB; rw [if_pos h, hm]; rfl))
/-- What comes of the first states is there. -/
def Closed (bar : Bool) (m : List NodeV) (i : Nat) : Prop := ∀ j, j < i → ∀ c n, (c = 103 ∨ c = 111) → nextB (nd m j).b bar c = some n → ∃ y ∈ m, y.b = n
theorem addN_has {bar : Bool} {l : List NodeV} {x : NodeV} {c : UInt8} {n : BothV} (h : nextB x.b bar c = some n) : ∃ y ∈ addN bar l x c, y.b = n := by
  unfold addN
  rw [h]
  simp only
  split
  · assumption
  · exact ⟨⟨n, x.road ++ [c]⟩, by simp, rfl⟩
theorem addN_sub {bar : Bool} {l : List NodeV} {x y : NodeV} {c : UInt8} (h : y ∈ l) : y ∈ addN bar l x c := by
  rcases addN_cases bar l x c with e | ⟨n, _, e⟩ <;> rw [e]
  · exact h
  · simp [h]
theorem walk_closed {bar : Bool} : ∀ {f i : Nat} {l m : List NodeV}, i ≤ l.length → Closed bar l i → walk bar f i l = some m → Closed bar m m.length ∧ ∀ y ∈ l, y ∈ m
  | 0, _, _, _, _, _, h => by cases h
  | f + 1, i, l, m, hi, hc, h => by
    unfold walk at h
    split at h
    · rename_i hil
      split at h
      · cases h
      · have l1 := addN_le bar l (nd l i) 103
        have l2 := addN_le bar (addN bar l (nd l i) 103) (nd l i) 111
        have := walk_closed (f := f) (i := i + 1) (by omega) (fun j hj c n hcc hn => ?_) h
        · exact ⟨this.1, fun y hy => this.2 y (addN_sub (addN_sub hy))⟩
        · rw [addN_nd (by omega), addN_nd (by omega)] at hn
          rcases Nat.lt_succ_iff_lt_or_eq.1 hj with q | q
          · obtain ⟨y, h1, h2⟩ := hc j q c n hcc hn
            exact ⟨y, addN_sub (addN_sub h1), h2⟩
          · subst q
            rcases hcc with rfl | rfl
            · obtain ⟨y, h1, h2⟩ := addN_has (l := l) hn
              exact ⟨y, addN_sub h1, h2⟩
            · exact addN_has hn
    · cases h
      exact ⟨fun j hj => hc j (by omega), fun y hy => hy⟩
def Has (m : List NodeV) (b : BothV) : Prop := ∃ y ∈ m, y.b = b
theorem has_next {bar : Bool} {m : List NodeV} {b n : BothV} {c : UInt8} (hm : Closed bar m m.length) (h : Has m b) (hc : c = 103 ∨ c = 111) (hn : nextB b bar c = some n) : Has m n := by
  obtain ⟨y, h1, h2⟩ := h
  obtain ⟨j, hj, e⟩ := mem_nd h1
  exact hm j hj c n hc (by rw [e, h2]; exact hn)
theorem has_op {bar : Bool} {m : List NodeV} {b : BothV} (hm : Closed bar m m.length) (h : Has m b) (hl : b.lost = false) (hp : b.pos < b.ops.length) : Has m (opB b bar) :=
  has_next hm h (.inr rfl) (by unfold nextB; rw [if_neg (by rw [hl]; decide), if_pos rfl, if_pos hp])
theorem has_gc {bar : Bool} {m : List NodeV} {b : BothV} (hm : Closed bar m m.length) (h : Has m b) (hl : b.lost = false) : Has m (gcB b) :=
  has_next hm h (.inl rfl) (by unfold nextB; rw [if_neg (by rw [hl]; decide), if_neg (by decide)])
theorem has_one {bar : Bool} {m : List NodeV} {b : BothV} {c : UInt8} (hm : Closed bar m m.length) (h : Has m b) : Has m (oneB b bar c) := by
  unfold oneB
  split
  · exact h
  · rename_i hl
    have hl : b.lost = false := by simpa using hl
    split
    · split
      · exact has_op hm h hl (by assumption)
      · exact h
    · exact has_gc hm h hl
theorem has_run {bar : Bool} {m : List NodeV} (hm : Closed bar m m.length) : ∀ (s : List UInt8) {b : BothV}, Has m b → Has m (runB b bar s)
  | [], _, h => h
  | c :: s, b, h => has_run hm s (has_one hm h)
theorem has_fin {bar : Bool} {m : List NodeV} (hm : Closed bar m m.length) : ∀ (n : Nat) {b : BothV}, Has m b → Has m (finO bar n b)
  | 0, _, h => h
  | n + 1, b, h => by
    rw [show finO bar (n + 1) b = if b.lost = false ∧ b.pos < b.ops.length then finO bar n (opB b bar) else b from rfl]
    split
    · rename_i q; exact has_fin hm n (has_op hm h q.1 q.2)
    · exact h
theorem has_gcN {bar : Bool} {m : List NodeV} (hm : Closed bar m m.length) : ∀ (f k : Nat) {b : BothV}, Has m b → Has m (gcN f k b)
  | 0, _, _, h => h
  | f + 1, k, b, h => by
    rw [show gcN (f + 1) k b = if 2 ≤ k ∨ b.lost = true then b else gcN f (if (gcB b).lost = false ∧ (gcB b).g.phase = 0 then k + 1 else k) (gcB b) from rfl]
    split
    · exact h
    · rename_i q
      exact has_gcN hm f _ (has_gc hm h (by
        cases hl : b.lost with
        | false => rfl
        | true => exact absurd (.inr hl) q))
theorem safe_fin : ∀ (n : Nat) {b : BothV}, BoP b → Safe b → Safe (finO true n b)
  | 0, _, _, h => h
  | n + 1, b, hv, h => by
    rw [show finO true (n + 1) b = if b.lost = false ∧ b.pos < b.ops.length then finO true n (opB b true) else b from rfl]
    split
    · rename_i q; exact safe_fin n (opB_valid hv q.2 true) (opB_safe hv q.2 h)
    · exact h
theorem safe_gcN : ∀ (f k : Nat) {b : BothV}, BoP b → Safe b → Safe (gcN f k b) ∧ (gcN f k b).pos = b.pos ∧ (gcN f k b).ops = b.ops ∧ BoP (gcN f k b)
  | 0, _, _, hv, h => ⟨h, rfl, rfl, hv⟩
  | f + 1, k, b, hv, h => by
    rw [show gcN (f + 1) k b = if 2 ≤ k ∨ b.lost = true then b else gcN f (if (gcB b).lost = false ∧ (gcB b).g.phase = 0 then k + 1 else k) (gcB b) from rfl]
    split
    · exact ⟨h, rfl, rfl, hv⟩
    · have r := gcB_rest b
      have := safe_gcN f (if (gcB b).lost = false ∧ (gcB b).g.phase = 0 then k + 1 else k) (gcB_valid hv) (gcB_safe hv h)
      exact ⟨this.1, this.2.1.trans r.2, this.2.2.1.trans r.1, this.2.2.2⟩
/-- Operations alone lose nothing. -/
theorem fin_lost {bar : Bool} : ∀ (n : Nat) {b : BothV}, (finO bar n b).lost = b.lost ∧ (finO bar n b).ops = b.ops
  | 0, _ => ⟨rfl, rfl⟩
  | n + 1, b => by
    rw [show finO bar (n + 1) b = if b.lost = false ∧ b.pos < b.ops.length then finO bar n (opB b bar) else b from rfl]
    split
    · have r := opB_rest b bar
      have := fin_lost (bar := bar) n (b := opB b bar)
      exact ⟨this.1.trans r.2.1, this.2.trans r.1⟩
    · exact ⟨rfl, rfl⟩
theorem has_last {m : List NodeV} {b : BothV} (h : Has m b) (hp : b.pos = b.ops.length) (hl : b.lost = false) : heapS b.s.h.l b.s.h.r b.s.h.ro ∈ uniqS (m.filterMap lastT) := by
  obtain ⟨y, h1, h2⟩ := h
  rw [mem_uniq, List.mem_filterMap]
  exact ⟨y, h1, by unfold lastT; rw [h2, if_pos ⟨hp, hl⟩]⟩
structure EndsP (b : BothV) (bar : Bool) (t : List Txt) : Prop where
  v : BoP b
  s : t.Pairwise (· < ·)
  len : t.length ≤ 400
  ne : b.lost = false → t ≠ []
  run : ∀ s : List UInt8, (runB b bar s).pos = (runB b bar s).ops.length → (runB b bar s).lost = false → heapS (runB b bar s).s.h.l (runB b bar s).s.h.r (runB b bar s).s.h.ro ∈ t
  all : bar = true → b.lost = false → b.g.phase = 0 → heapS (endAll true b).s.h.l (endAll true b).s.h.r (endAll true b).s.h.ro ∈ t
theorem end_safe {b : BothV} (hv : BoP b) (hl : b.lost = false) (hp : b.g.phase = 0) : (endAll true b).lost = false ∧ (endAll true b).pos = (endAll true b).ops.length ∧ BoP (endAll true b) := by
  have v1 := finO_valid (bar := true) (n := restO b) hv
  have s1 := safe_fin (restO b) hv (safe0 hl hp)
  have e1 := finO_end (bar := true) (n := restO b) hv (Nat.le_refl _)
  have g := safe_gcN (mu 0 (allO true b) + 1) 0 v1 s1
  have i1 := v1.i1
  refine ⟨g.1.l, ?_, g.2.2.2⟩
  have h1 : (endAll true b).pos = (finO true (restO b) b).pos := g.2.1
  have h2 : (endAll true b).ops = (finO true (restO b) b).ops := g.2.2.1
  rw [h1, h2]
  have : ¬ (finO true (restO b) b).pos < (finO true (restO b) b).ops.length := fun q => e1 ⟨s1.l, q⟩
  omega
theorem ends_ok {b : BothV} {bar : Bool} {t : List Txt} (h : endsB b bar = some t) : EndsP b bar t := by
  unfold endsB at h
  split at h
  · rename_i hv
    obtain ⟨m, hm, rfl⟩ := Option.map_eq_some_iff.1 h
    obtain ⟨hc, hs⟩ := walk_closed (by simp) (fun j hj => absurd hj (by omega)) hm
    obtain ⟨ht, hl⟩ := walk_tree (tree0 _ _) (by simp) hm
    have h0 : Has m b := ⟨⟨b, []⟩, hs _ (by simp), rfl⟩
    refine ⟨hv, uniq_sorted _, ?_, fun hlost => ?_, fun s hp hl => has_last (has_run hc s h0) hp hl, fun hb hl hp => ?_⟩
    · have := uniq_len (T := m.filterMap lastT) (o := [])
      have h2 := List.length_filterMap_le lastT m
      change (uniqS (m.filterMap lastT)).length ≤ _ at this
      rw [List.length_nil] at this
      omega
    · have v1 := finO_valid (bar := bar) (n := restO b) hv
      have e1 := finO_end (bar := bar) (n := restO b) hv (Nat.le_refl _)
      have l1 := fin_lost (bar := bar) (restO b) (b := b)
      have i1 := v1.i1
      have hlo : (finO bar (restO b) b).lost = false := l1.1.trans hlost
      have hp : (finO bar (restO b) b).pos = (finO bar (restO b) b).ops.length := by
        have : ¬ (finO bar (restO b) b).pos < (finO bar (restO b) b).ops.length := fun q => e1 ⟨hlo, q⟩
        omega
      have := has_last (has_fin hc (restO b) h0) hp hlo
      intro e
      rw [e] at this
      simp at this
    · subst hb
      have es := end_safe hv hl hp
      exact has_last (has_gcN hc _ _ (has_fin hc (restO b) h0)) es.2.1 es.1
  · cases h
theorem eqLoopS {p q : List (List UInt8)} {K : Bool → Prop} (hp : p.length < 2 ^ 62) (hK : K (decide (p = q))) : ((((len p) != (len q)) = true → (K false)) ∧ (((len p) != (len q)) = false →
    (LoopP (S := List (List UInt8) × List (List UInt8) × Int) (fun s1 Kb1 Kx1 =>
    (((decide (s1.2.2 < (len s1.1))) = true → ((inB s1.2.2 (List.length s1.1)) ∧ ((inB s1.2.2 (List.length s1.2.1)) ∧
    (((!((gS s1.1 s1.2.2) == (gS s1.2.1 s1.2.2))) = true → (K false)) ∧ ((!((gS s1.1 s1.2.2) == (gS s1.2.1 s1.2.2))) = false → (Kb1 (s1.1, s1.2.1, (iadd s1.2.2 1)))))))) ∧
    ((decide (s1.2.2 < (len s1.1))) = false → (Kx1 (s1.1, s1.2.1, s1.2.2))))) (p, q, 0) fun s1 => (K true)))) := by
  refine eqGate hK fun hl => ?_
  refine LoopP_for (fun i s => s = (p, q, (i : Int)) ∧ ∀ j, j < i → p.getD j [] = q.getD j []) p.length ⟨rfl, fun j h => absurd h (by omega)⟩ ?_ ?_
  · rintro i _ hi ⟨rfl, hj⟩ Kb hKb
    refine br_t (by simp [len_eq]; exact hi) ⟨by rw [inB_nat]; exact hi, by rw [inB_nat]; show i < q.length; omega, ?_⟩
    simp only [gS_nat]
    refine br (fun e => ?_) fun e => hKb _ ⟨by rw [iadd_nat (by omega)], fun j hji => ?_⟩
    · have e : p.getD i [] ≠ q.getD i [] := by simpa [-List.getD_eq_getElem?_getD] using e
      have : p ≠ q := fun h => e (by rw [h])
      simpa [this] using hK
    · rcases Nat.lt_succ_iff_lt_or_eq.1 hji with k | k
      · exact hj j k
      · rw [k]; exact by simpa [-List.getD_eq_getElem?_getD] using e
  · rintro _ ⟨rfl, hj⟩ Kb
    refine br_f (by simp [len_eq]) ?_
    have := eqL_iff [] p q hl hj
    simpa [this] using hK
theorem L_ccTexts {p q : List (List UInt8)} {K : Bool → Prop} (hp : p.length < 2 ^ 62) (hK : K (decide (p = q))) : Ml_ccTexts p q K := eqLoopS hp hK
theorem split_miss {s sep : Txt} (h : Lib.index s sep = -1) : Lib.split s sep = [s] := by unfold Lib.split; rw [Lib.count_miss h]; rfl
theorem splitK_succ (sep : Txt) (k : Nat) (s : Txt) : Lib.splitK sep 0 (k + 1) s = if Lib.index s sep == -1 then [s] else s.take ((Lib.index s sep).toNat + 0) :: Lib.splitK sep 0 k (s.drop ((Lib.index s sep).toNat + sep.length)) := rfl
theorem split_hit {s sep : Txt} {i : Nat} (hs : sep ≠ []) (h : Lib.index s sep = i) : Lib.split s sep = s.take i :: Lib.split (s.drop (i + sep.length)) sep := by
  unfold Lib.split
  rw [Lib.count_hit hs h, Nat.add_comm 1, splitK_succ]
  have hm : ¬ (Lib.index s sep == -1) = true := fun e => by have := beq_iff_eq.1 e; omega
  have e : (Lib.index s sep).toNat = i := by omega
  rw [if_neg hm, e, Nat.add_zero]
theorem ib_miss {c : UInt8} : ∀ {u : Txt}, c ∉ u → Lib.indexByte u c = -1
  | [], _ => rfl
  | b :: u, h => by
    unfold Lib.indexByte
    have hb : ¬ (b == c) = true := fun e => h (by rw [beq_iff_eq.1 e]; simp)
    rw [if_neg hb, if_pos (by rw [ib_miss fun q => h (by simp [q])]; rfl)]
theorem ib_hit {c : UInt8} : ∀ {u v : Txt}, c ∉ u → Lib.indexByte (u ++ c :: v) c = (u.length : Int)
  | [], v, _ => by simp [Lib.indexByte]
  | b :: u, v, h => by
    rw [List.cons_append]
    unfold Lib.indexByte
    have hb : ¬ (b == c) = true := fun e => h (by rw [beq_iff_eq.1 e]; simp)
    have ih := ib_hit (c := c) (u := u) (v := v) fun q => h (by simp [q])
    rw [if_neg hb, ih, if_neg (by intro e; have := beq_iff_eq.1 e; omega)]
    simp
theorem split_sep {c : UInt8} {u v : Txt} (h : c ∉ u) : Lib.split (u ++ c :: v) [c] = u :: Lib.split v [c] := by
  rw [split_hit (i := u.length) (by simp) (by rw [Lib.index_one, ib_hit h])]
  simp
theorem split_end {c : UInt8} {u : Txt} (h : c ∉ u) : Lib.split u [c] = [u] := split_miss (by rw [Lib.index_one, ib_miss h])
theorem split_front {c : UInt8} {t : Txt} : ∀ {ps : List Txt}, (∀ p ∈ ps, c ∉ p) → Lib.split (ps.flatMap (fun p => p ++ [c]) ++ t) [c] = ps ++ Lib.split t [c]
  | [], _ => rfl
  | p :: ps, h => by
    rw [List.flatMap_cons, show (p ++ [c]) ++ ps.flatMap (fun p => p ++ [c]) ++ t = p ++ c :: (ps.flatMap (fun p => p ++ [c]) ++ t) by simp, split_sep (h p (by simp)), split_front fun q hq => h q (by simp [hq])]
    rfl
theorem split_back {c : UInt8} : ∀ {ps : List Txt} {t : Txt}, c ∉ t → (∀ p ∈ ps, c ∉ p) → Lib.split (t ++ ps.flatMap (fun p => [c] ++ p)) [c] = t :: ps
  | [], t, ht, _ => by simpa using split_end ht
  | p :: ps, t, ht, h => by
    rw [List.flatMap_cons, show t ++ (([c] ++ p) ++ ps.flatMap (fun p => [c] ++ p)) = t ++ c :: (p ++ ps.flatMap (fun p => [c] ++ p)) by simp, split_sep ht, split_back (h p (by simp)) fun q hq => h q (by simp [hq])]
theorem countB_list (p1 p2 : Txt) : Lib.countB ⟨p1.toArray⟩ ⟨p2.toArray⟩ = Lib.count p1 p2 := by unfold Lib.countB; rfl
theorem L_Split {s sep : Txt} {K : List Txt → Prop} (hs : s.length < 4294967281) (h1 : 1 ≤ sep.length) (hK : K (Lib.split s sep)) : M_strings_Split s sep K := by
  refine ⟨⟨hs, h1⟩, ?_⟩
  rw [Lib.splitB_data, countB_list]
  exact hK
def cellT (l r : List Int) (i : Nat) : Txt := digS (l.getD i 0) ++ digS (r.getD i 0)
def pieces (l r ro : List Int) : List Txt := (List.range l.length).map (cellT l r) ++ ([47] :: (List.range ro.length).map fun i => digS (ro.getD i 0))
theorem dig_no {x : Int} (h0 : -1 ≤ x) (h1 : x < 10) : (32 : UInt8) ∉ digS x ∧ (47 : UInt8) ∉ digS x := by
  have key : ∀ a : Fin 10, (32 : UInt8) ≠ UInt8.ofNat (48 + a.1) ∧ (47 : UInt8) ≠ UInt8.ofNat (48 + a.1) := by decide
  rw [digS_eq h0 h1]
  split
  · decide
  · have := key ⟨x.toNat, by omega⟩
    simp only [List.mem_singleton]
    exact ⟨this.1, this.2⟩
theorem split_heap {l r ro : List Int} (h : HVp l r ro) : Lib.split (heapS l r ro) [32] = pieces l r ro := by
  have h8 := h.l8; have hlr := h.lr
  have c1 : ∀ p ∈ (List.range l.length).map (cellT l r), (32 : UInt8) ∉ p := fun p hp => by
    obtain ⟨i, hi, rfl⟩ := List.mem_map.1 hp
    have hi := List.mem_range.1 hi
    have a := h.at.1 i hi; have b := h.at.2.1 i hi
    unfold okP at a b
    unfold cellT
    rw [List.mem_append]
    rintro (q | q)
    · exact (dig_no (by omega) (by omega)).1 q
    · exact (dig_no (by omega) (by omega)).1 q
  have c2 : ∀ p ∈ (List.range ro.length).map (fun i => digS (ro.getD i 0)), (32 : UInt8) ∉ p := fun p hp => by
    obtain ⟨i, hi, rfl⟩ := List.mem_map.1 hp
    have a := h.at.2.2 i (List.mem_range.1 hi)
    unfold okP at a
    exact (dig_no (by omega) (by omega)).1
  unfold heapS cellsS rootsS catN
  rw [show (List.range l.length).flatMap (fun i => (digS (l.getD i 0) ++ digS (r.getD i 0)) ++ [32]) = ((List.range l.length).map (cellT l r)).flatMap (fun p => p ++ [32]) by rw [List.flatMap_map]; rfl,
    show (List.range ro.length).flatMap (fun i => [32] ++ digS (ro.getD i 0)) = ((List.range ro.length).map fun i => digS (ro.getD i 0)).flatMap (fun p => [32] ++ p) by rw [List.flatMap_map], List.append_assoc, split_front c1, split_back (by decide) c2]
  rfl
theorem L_val {x : Int} {c : UInt8} {K : Int → Prop} (h0 : -1 ≤ x) (h1 : x < 10) (hd : digS x = [c]) (hK : K x) : Mi_ParseHeap_1 (c.toNat : Int) K := by
  rw [digS_eq h0 h1] at hd
  split at hd
  · rename_i e
    simp at hd; subst hd; subst e
    exact br_t (by decide) hK
  · rename_i e
    simp only [List.cons.injEq, and_true] at hd
    have key : ∀ a : Fin 10, (UInt8.ofNat (48 + a.1)).toNat = 48 + a.1 := by decide
    have hk := key ⟨x.toNat, by omega⟩
    simp only at hk
    rw [hd] at hk
    refine br_f (by rw [hk]; simp; omega) ?_
    rw [wrap64 (by omega) (by omega), isub_eq (by omega) (by omega), hk, show ((48 + x.toNat : Nat) : Int) - 48 = x by omega]
    exact hK
theorem dig_one {x : Int} (h0 : -1 ≤ x) (h1 : x < 10) : ∃ c : UInt8, digS x = [c] := by
  rw [digS_eq h0 h1]; split <;> exact ⟨_, rfl⟩
theorem take_snoc {l : List Int} {i : Nat} (h : i < l.length) : l.take (i + 1) = l.take i ++ [l.getD i 0] := by
  rw [List.take_add_one, List.getElem?_eq_getElem h, getD_lt h]; rfl
theorem L_ParseHeap {l r ro : List Int} {K : Bool → List Int → List Int → List Int → Prop} (h : HVp l r ro) (hK : K true l r ro) : Mi_ParseHeap (heapS l r ro) K := by
  have h8 := h.l8; have hlr := h.lr; have r3 := h.r3; have h31 := heapS_len h
  refine L_Split (by omega) (by decide) ?_
  rw [split_heap h]
  have hlen : (pieces l r ro).length = l.length + 1 + ro.length := by simp [pieces]; omega
  have pc : ∀ i, i < l.length → (pieces l r ro).getD i [] = cellT l r i := fun i hi => by
    unfold pieces
    rw [List.getD_eq_getElem?_getD, List.getElem?_append_left (by simpa using hi)]
    simp [hi]
  have pm : (pieces l r ro).getD l.length [] = [47] := by
    unfold pieces
    rw [List.getD_eq_getElem?_getD, List.getElem?_append_right (by simp)]
    simp
  have pr : ∀ i, i < ro.length → (pieces l r ro).getD (l.length + 1 + i) [] = digS (ro.getD i 0) := fun i hi => by
    unfold pieces
    rw [List.getD_eq_getElem?_getD, List.getElem?_append_right (by simp; omega)]
    simp only [List.length_map, List.length_range]
    rw [show l.length + 1 + i - l.length = i + 1 by omega, List.getElem?_cons_succ]
    simp [hi]
  generalize pieces l r ro = ps at hlen pc pm pr
  refine LoopP_for (fun i s => s = (heapS l r ro, decide (l.length < i), len ps, (i : Int), ps, [], [], [], l.take i, r.take i, ro.take (i - l.length - 1))) ps.length (by simp) ?_ ?_
  · rintro i _ hi rfl Kb hKb
    have hin : inB (i : Int) ps.length := by rw [inB_nat]; exact hi
    refine br_t (by simp [len_eq]; exact hi) ⟨hin, ?_⟩
    simp only [gS_nat]
    by_cases e1 : i < l.length
    · rw [pc i e1]
      have a := h.at.1 i e1; have b := h.at.2.1 i e1
      unfold okP at a b
      obtain ⟨c1, d1⟩ := dig_one (x := l.getD i 0) (by omega) (by omega)
      obtain ⟨c2, d2⟩ := dig_one (x := r.getD i 0) (by omega) (by omega)
      have ht : cellT l r i = [c1, c2] := by unfold cellT; rw [d1, d2]; rfl
      rw [ht]
      have hb : decide (l.length < i) = false := decide_eq_false (by omega)
      have hb2 : decide (l.length < i + 1) = false := decide_eq_false (by omega)
      refine br_f (by simp) (br_f hb (br_t (by rw [hb]; rfl) (br_t (by simp [len_eq]) ⟨⟨by omega, by simp⟩, ?_⟩)))
      rw [show gC [c1, c2] 0 = (c1.toNat : Int) from rfl]
      refine L_val (x := l.getD i 0) (by omega) (by omega) d1 ⟨by simp; omega, ⟨by omega, by simp⟩, ?_⟩
      rw [show gC [c1, c2] 1 = (c2.toNat : Int) from rfl]
      refine L_val (x := r.getD i 0) (by omega) (by omega) d2 ⟨by simp; omega, hKb _ ?_⟩
      rw [iadd_nat (by omega), hb, hb2, take_snoc e1, take_snoc (l := r) (by omega), show i - l.length - 1 = i + 1 - l.length - 1 by omega]
    · by_cases e2 : i = l.length
      · subst e2
        rw [pm]
        refine br_t (by simp) (hKb _ ?_)
        rw [iadd_nat (by omega), show decide (l.length < l.length + 1) = true by simp, List.take_of_length_le (Nat.le_refl _), List.take_of_length_le (show r.length ≤ l.length by omega), List.take_of_length_le (show l.length ≤ l.length + 1 by omega), List.take_of_length_le (show r.length ≤ l.length + 1 by omega)]
        simp
      · obtain ⟨j, rfl⟩ : ∃ j, i = l.length + 1 + j := ⟨i - l.length - 1, by omega⟩
        have hj : j < ro.length := by omega
        rw [pr j hj]
        have a := h.at.2.2 j hj
        unfold okP at a
        obtain ⟨c1, d1⟩ := dig_one (x := ro.getD j 0) (by omega) (by omega)
        have no := (dig_no (x := ro.getD j 0) (by omega) (by omega)).2
        rw [d1] at no ⊢
        have hb : decide (l.length < l.length + 1 + j) = true := decide_eq_true (by omega)
        have hb2 : decide (l.length < l.length + 1 + j + 1) = true := decide_eq_true (by omega)
        refine br_f (by simp at no ⊢; exact fun q => no q.symm) (br_t hb (br_t (by simp [len_eq]) ⟨⟨by omega, by simp⟩, ?_⟩))
        rw [show gC [c1] 0 = (c1.toNat : Int) from rfl]
        refine L_val (x := ro.getD j 0) (by omega) (by omega) d1 ⟨by simp; omega, hKb _ ?_⟩
        rw [iadd_nat (by omega), hb, hb2, show l.length + 1 + j + 1 - l.length - 1 = j + 1 by omega, show l.length + 1 + j - l.length - 1 = j by omega, take_snoc hj,
          List.take_of_length_le (show l.length ≤ l.length + 1 + j by omega), List.take_of_length_le (show r.length ≤ l.length + 1 + j by omega), List.take_of_length_le (show l.length ≤ l.length + 1 + j + 1 by omega), List.take_of_length_le (show r.length ≤ l.length + 1 + j + 1 by omega)]
  · rintro _ rfl Kb
    refine br_f (by simp [len_eq]) ?_
    simp only [List.take_of_length_le (show l.length ≤ ps.length by omega), List.take_of_length_le (show r.length ≤ ps.length by omega), List.take_of_length_le (show ro.length ≤ ps.length - l.length - 1 by omega)]
    exact L_iHeapValid (br_f (by simp [h]) (L_FormatHeap (fun _ => br_f (by simp) hK) fun q => absurd h q))
theorem ends_from {b : BothV} {bar : Bool} {t : List Txt} (h : endsB b bar = some t) : ∀ x ∈ t, ∃ y : BothV, Uni b y ∧ heapS y.s.h.l y.s.h.r y.s.h.ro = x := by
  unfold endsB at h
  split at h
  · rename_i hv
    obtain ⟨m, hm, rfl⟩ := Option.map_eq_some_iff.1 h
    obtain ⟨ht, hl⟩ := walk_tree (tree0 _ _) (by simp) hm
    intro x hx
    rw [mem_uniq, List.mem_filterMap] at hx
    obtain ⟨y, h1, h2⟩ := hx
    unfold lastT at h2
    split at h2
    · simp at h2; exact ⟨y.b, tree_uni hv ht y h1, h2⟩
    · cases h2
  · cases h
theorem law_FnEndBarrier {c : List Int} (hc : ∀ x ∈ c, U8 x) {K : Bool → Prop} (hK : K true) : Ml_FnEndBarrier c K := by
  refine br (fun _ => hK) fun _ => L_l8Case hc fun b bar hd => ?_
  have hends := @ends_ok b bar
  have hfrom := @ends_from b bar
  obtain ⟨⟨⟨l, r, ro⟩, fr⟩, ⟨ph, col, a⟩, ops, i, lost⟩ := b
  have s4 := hd.sm.f; have s5 := hd.sm.c; have s6 := hd.sm.o
  simp only at s4 s5 s6
  refine L_iEndStores (by show fr.length < _; omega) (by show col.length < _; omega) (by show ops.length < _; omega) (fun h1 => L_sEndStores (fun h2 => ?_) fun x h2 => by rw [h1] at h2; cases h2) fun t h1 => L_sEndStores (fun h2 => by rw [h1] at h2; cases h2) fun t' h2 => ?_
  · refine L_ccTexts (by simp) (br_f (by simp) (br_f (by simp) (br_t rfl (L_ccTexts (by simp) (br_t (by simp) (br_t rfl ?_))))))
    exact hK
  · rw [h1] at h2
    cases h2
    have P := hends h1
    have hl := P.len
    have hf := hfrom h1
    refine L_ccTexts (by omega) (br_f (by simp) (br_f (by simp) (br_f rfl ?_)))
    refine LoopP_for (fun j s => s = ((j : Int), ph, a, i, lost, t, l, r, ro, fr, col, ops)) t.length rfl ?_ ?_
    · rintro j _ hj rfl Kb hKb
      refine br_t (by simp [len_eq]; exact hj) ⟨by rw [inB_nat]; exact hj, ?_⟩
      simp only [gS_nat]
      obtain ⟨y, hu, e⟩ := hf _ (getD_mem [] hj)
      rw [← e]
      have q1 := hu.l; have q2 := hu.r
      simp only at q1 q2
      exact L_ParseHeap hu.v.g.sv.h (br_f rfl (br_f (by simp [len_eq, q1]) (br_f (by simp [len_eq, q2]) (hKb _ (by rw [iadd_nat (by omega)])))))
    · rintro _ rfl Kb
      exact br_f (by simp [len_eq]) hK
end Go.Ab
