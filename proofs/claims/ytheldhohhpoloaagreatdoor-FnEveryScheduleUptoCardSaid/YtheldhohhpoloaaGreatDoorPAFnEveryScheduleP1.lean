/-
  What is proved here: the plain laws that the law FnEverySchedule needs: what its functions compute, and that its model returns true. Conditions: those written in each statement.
-/
import Derived.Test.YtheldhohhpoloaaGreatDoorPAFnEverySchedule
namespace Go.Ab
set_option linter.unusedVariables false
set_option linter.unusedSimpArgs false
theorem BoP.small {b : BothV} (h : BoP b) : b.s.h.l.length ≤ 8 ∧ b.s.h.r.length ≤ 8 ∧ b.s.h.ro.length ≤ 3 ∧ b.s.free.length ≤ 8 ∧ b.g.color.length ≤ 8 ∧ b.ops.length ≤ 12 := by
  have h8 := h.g.sv.h.l8; have := h.g.sv.f8; have := h.g.sv.h.lr; have := h.g.c.len; have := h.o.len; have := h.g.sv.h.r3
  exact ⟨by omega, by omega, by omega, by omega, by omega, by omega⟩
theorem L_Equal_Op_same {p : List OpV} {K : Bool → Prop} (hp : p.length < 2 ^ 60) (hK : K true) : M_Equal_Op p p K := by
  refine br_f (by simp) ?_
  refine LoopP_for (fun i s => s = (p, p, len p, (i : Int))) p.length rfl ?_ ?_
  · rintro i _ hi rfl Kb hKb
    have hin : inB (i : Int) p.length := by rw [inB_nat]; exact hi
    exact br_t (by simp [len_eq]; exact hi) ⟨hin, hin, br_f (by simp) (hKb _ (by rw [iadd_nat (by omega)]))⟩
  · rintro _ rfl Kb
    exact br_f (by simp [len_eq]) hK
theorem L_BothSame_same {l r ro fr col : List Int} {ph a i : Int} {ops : List OpV} {lost : Bool} {K : Bool → Prop} (h1 : l.length < 2 ^ 60) (h2 : r.length < 2 ^ 60) (h3 : ro.length < 2 ^ 60) (h4 : fr.length < 2 ^ 60) (h5 : col.length < 2 ^ 60) (h6 : ops.length < 2 ^ 60) (hK : K true) :
    Mi_BothSame l r ro fr ph col a ops i lost l r ro fr ph col a ops i lost K := by
  refine L_iStoreSame (by omega) (by omega) (by omega) (by omega) (br_t (by simp) (br_t (by simp) (br_t (by simp) (L_Equal_int (by omega) (br_t (by simp) (L_Equal_Op_same h6 (br_t rfl (br_t (by simp) ?_))))))))
  rw [show (lost == lost) = true by simp]; exact hK
theorem L_LeakedOf {l r ro fr : List Int} {K : List Int → Prop} (hv : SVp l r ro fr) (hK : K ((garbF l r ro).filter fun x => decide (x ∉ fr))) : Mi_LeakedOf l r ro fr K := by
  have h8 := hv.h.l8; have f8 := hv.f8
  refine L_iStoreValid (by omega) (br_f (by simp [hv]) (L_GarbageOf (fun _ => ?_) fun h => absurd hv.h h))
  have hg : (garbF l r ro).length ≤ 8 := by
    unfold garbF filtU
    rw [List.length_map]
    exact Nat.le_trans (List.length_filter_le _ _) (by simp; omega)
  generalize garbF l r ro = q at hK hg
  refine LoopP_for (fun i s => s = (len q, (i : Int), l, r, ro, fr, (q.take i).filter (fun x => decide (x ∉ fr)), q)) q.length rfl ?_ ?_
  · rintro i _ hi rfl Kb hKb
    have ht : (q.take (i + 1)).filter (fun x => decide (x ∉ fr)) = (q.take i).filter (fun x => decide (x ∉ fr)) ++ (if q.getD i 0 ∈ fr then [] else [q.getD i 0]) := by
      rw [List.take_add_one, List.getElem?_eq_getElem hi, List.filter_append, getD_lt hi]
      by_cases h : q[i] ∈ fr <;> simp [h]
    have hf : ((q.take i).filter (fun x => decide (x ∉ fr))).length ≤ 8 := Nat.le_trans (List.length_filter_le _ _) (by simp; omega)
    refine br_t (by simp [len_eq]; exact hi) ⟨by rw [inB_nat]; exact hi, ?_⟩
    simp only [gI_nat]
    refine L_Contains_int (by omega) (br (fun h => ⟨by simp only [List.length_cons, List.length_nil]; omega, hKb _ ?_⟩) fun h => hKb _ ?_)
    · have h : q.getD i 0 ∉ fr := by simpa [-List.getD_eq_getElem?_getD] using h
      rw [iadd_nat (by omega), ht, if_neg h]
    · have h : q.getD i 0 ∈ fr := by simpa [-List.getD_eq_getElem?_getD] using h
      rw [iadd_nat (by omega), ht, if_pos h, List.append_nil]
  · rintro _ rfl Kb
    refine br_f (by simp [len_eq]) ?_
    rw [List.take_length]; exact hK
theorem leaked_nil {s : StoreV} (hd : doneS s) : ((garbF s.h.l s.h.r s.h.ro).filter fun x => decide (x ∉ s.free)) = [] := by
  rw [List.filter_eq_nil_iff]
  intro x hx
  unfold garbF filtU at hx
  simp only [List.mem_map, List.mem_filter, List.mem_range] at hx
  obtain ⟨i, ⟨hi, hn⟩, rfl⟩ := hx
  have hn : ¬ live s (i : Int) := by simpa [live] using hn
  rcases hd i hi with h | h
  · exact absurd h hn
  · simpa using h
structure CS where
  l : List Int
  r : List Int
  ct : List Int
  op : List Int
  fr : List Int
def psum (ct : List Int) : Nat := ct.countP fun x => decide (0 < x)
def occ (l r ro op : List Int) (c : Nat) : Nat := l.count (c : Int) + r.count (c : Int) + ro.count (c : Int) + op.count (c : Int)
structure GI (ro : List Int) (n : Nat) (s : CS) (i : Nat) : Prop where
  ll : s.l.length = n
  lr : s.r.length = n
  lc : s.ct.length = n
  n8 : n ≤ 8
  r3 : ro.length ≤ 3
  okl : ∀ x ∈ s.l, okP n x
  okr : ∀ x ∈ s.r, okP n x
  oko : ∀ x ∈ ro, okP n x
  okp : ∀ x ∈ s.op, okP n x
  ile : i ≤ s.op.length
  cn : ∀ c : Nat, c < n → s.ct.getD c 0 = (occ s.l s.r ro (s.op.drop i) c : Nat)
  b : s.op.length + 2 * psum s.ct ≤ 17
  bf : s.fr.length + psum s.ct ≤ 16
theorem drop_count {op : List Int} {i : Nat} (hi : i < op.length) (c : Int) : (op.drop i).count c = (op.drop (i + 1)).count c + if op.getD i 0 = c then 1 else 0 := by
  rw [List.drop_eq_getElem_cons hi, List.count_cons, getD_lt hi]
  simp [beq_iff_eq]
section gi
variable {ro : List Int} {n : Nat} {s : CS} {i : Nat}
/-- A cell of which a pointer is given up has been counted. -/
theorem GI.pos (h : GI ro n s i) (hi : i < s.op.length) (hn : s.op.getD i 0 ≠ -1) : 1 ≤ s.ct.getD (s.op.getD i 0).toNat 0 ∧ s.ct.getD (s.op.getD i 0).toNat 0 ≤ 1000 := by
  have hc := (h.okp _ (getD_mem 0 hi)).cell hn
  obtain ⟨c, e⟩ : ∃ c : Nat, s.op.getD i 0 = (c : Int) := ⟨(s.op.getD i 0).toNat, by omega⟩
  have hd := drop_count hi (c : Int)
  rw [if_pos e] at hd
  rw [e, Int.toNat_natCast, h.cn c (by omega)]
  unfold occ
  have h1 := List.count_le_length (a := (c : Int)) (l := s.l)
  have h2 := List.count_le_length (a := (c : Int)) (l := s.r)
  have h3 := List.count_le_length (a := (c : Int)) (l := ro)
  have h4 := List.count_le_length (a := (c : Int)) (l := s.op.drop i)
  have h5 : (s.op.drop i).length ≤ s.op.length := by simp
  have := h.ll; have := h.lr; have := h.n8; have := h.r3; have := h.b
  omega
end gi
/-- No black cell points to a white one. -/
def triC (s : StoreV) (col : List Int) : Prop := ∀ c : Nat, c < s.h.l.length → col.getD c 0 = 2 →
  (s.h.l.getD c 0 ≠ -1 → col.getD (s.h.l.getD c 0).toNat 0 ≠ 0) ∧ (s.h.r.getD c 0 ≠ -1 → col.getD (s.h.r.getD c 0).toNat 0 ≠ 0)
/-- Live cells that are not yet swept are not white. -/
def sweepOk (s : StoreV) (col : List Int) (p : Int) : Prop := ∀ c : Int, live s c → p ≤ c → col.getD c.toNat 0 ≠ 0
structure Safe (b : BothV) : Prop where
  l : b.lost = false
  t : b.g.phase = 1 ∨ b.g.phase = 2 → triC b.s b.g.color
  w : b.g.phase = 3 → sweepOk b.s b.g.color b.g.pos
theorem shade_keep {p : Int} {col : List Int} {i : Nat} (hi : i < col.length) (h : col.getD i 0 ≠ 0) : (shadeC p col).getD i 0 ≠ 0 := by rw [shade_ne hi h]; exact h
theorem shade_self {p : Int} {col : List Int} (h0 : 0 ≤ p) (h1 : p < col.length) : (shadeC p col).getD p.toNat 0 ≠ 0 := by
  rw [shade_get (by omega)]
  split
  · decide
  · rename_i h
    intro e; exact h ⟨by omega, e, rfl⟩
theorem shade_two {p : Int} {col : List Int} {i : Nat} (hi : i < col.length) (h : (shadeC p col).getD i 0 = 2) : col.getD i 0 = 2 := by
  rw [shade_get hi] at h
  split at h
  · exact absurd h (by decide)
  · exact h
theorem kidL {s : StoreV} (h : SV s) {c : Nat} (hc : c < s.h.l.length) (hn : s.h.l.getD c 0 ≠ -1) : 0 ≤ s.h.l.getD c 0 ∧ s.h.l.getD c 0 < s.h.l.length := (h.h.okl _ (getD_mem 0 hc)).cell hn
theorem kidR {s : StoreV} (h : SV s) {c : Nat} (hc : c < s.h.l.length) (hn : s.h.r.getD c 0 ≠ -1) : 0 ≤ s.h.r.getD c 0 ∧ s.h.r.getD c 0 < s.h.l.length :=
  (h.h.okr _ (getD_mem 0 (by have := h.h.lr; omega))).cell hn
theorem triC.shade {s : StoreV} {col : List Int} (hs : SV s) (hl : col.length = s.h.l.length) (h : triC s col) (p : Int) : triC s (shadeC p col) := fun c hc h2 => by
  have := h c hc (shade_two (by omega) h2)
  exact ⟨fun hn => shade_keep (by have := kidL hs hc hn; omega) (this.1 hn), fun hn => shade_keep (by have := kidR hs hc hn; omega) (this.2 hn)⟩
theorem triC.black {s : StoreV} {col : List Int} (hs : SV s) (hl : col.length = s.h.l.length) (h : triC s col) {c : Nat} (hc : c < s.h.l.length) : triC s (blackC s c col) := by
  have l1 := shadeC_len (s.h.l.getD c 0) col
  have l2 := shadeC_len (s.h.r.getD c 0) (shadeC (s.h.l.getD c 0) col)
  have h2 := (h.shade hs hl (s.h.l.getD c 0)).shade hs (by omega) (s.h.r.getD c 0)
  intro d hd e
  unfold blackC at e ⊢
  have keep : ∀ i : Nat, i < s.h.l.length → (shadeC (s.h.r.getD c 0) (shadeC (s.h.l.getD c 0) col)).getD i 0 ≠ 0 → ((shadeC (s.h.r.getD c 0) (shadeC (s.h.l.getD c 0) col)).set c 2).getD i 0 ≠ 0 := fun i hi hne => by
    rw [getI_set (by omega)]
    split
    · decide
    · exact hne
  by_cases ed : c = d
  · subst ed
    refine ⟨fun hn => ?_, fun hn => ?_⟩
    · have k := kidL hs hc hn
      exact keep _ (by omega) (shade_keep (by omega) (shade_self k.1 (by omega)))
    · have k := kidR hs hc hn
      exact keep _ (by omega) (shade_self k.1 (by omega))
  · rw [getI_set (by omega), if_neg ed] at e
    have := h2 d hd e
    refine ⟨fun hn => ?_, fun hn => ?_⟩
    · have k := kidL hs hd hn
      exact keep _ (by omega) (this.1 hn)
    · have k := kidR hs hd hn
      exact keep _ (by omega) (this.2 hn)
theorem next_phase (ph : Int) (col : List Int) (i : Int) (n : Nat) (p : Int) : (nextG ph col i n p).phase = p ∨ (nextG ph col i n p).phase = ph := by unfold nextG; split <;> simp
/-- No black cell points to a white one that is in no root. -/
def triW (s : StoreV) (col : List Int) : Prop := ∀ c : Nat, c < s.h.l.length → col.getD c 0 = 2 →
  (s.h.l.getD c 0 ≠ -1 → col.getD (s.h.l.getD c 0).toNat 0 ≠ 0 ∨ s.h.l.getD c 0 ∈ s.h.ro) ∧ (s.h.r.getD c 0 ≠ -1 → col.getD (s.h.r.getD c 0).toNat 0 ≠ 0 ∨ s.h.r.getD c 0 ∈ s.h.ro)
theorem triC.w {s : StoreV} {col : List Int} (h : triC s col) : triW s col := fun c hc h2 => ⟨fun q => .inl ((h c hc h2).1 q), fun q => .inl ((h c hc h2).2 q)⟩
theorem no_swept {s : StoreV} {g : GcV} (hg : GcP s g) (hw : g.phase = 3 → sweepOk s g.color g.pos) : ¬ (sweptC s g ≠ -1 ∧ live s (sweptC s g)) := fun hh => by
  have hc := sweptC_cell hg hh.1
  have := hw hc.1 _ hh.2
  rw [show sweptC s g = g.pos from hc.2.1] at this
  exact this (by omega) hc.2.2.2.2.1
theorem step_sweep {s : StoreV} {g : GcV} (hg : GcP s g) (ht : g.phase = 2 → triW s g.color) (hw : g.phase = 3 → sweepOk s g.color g.pos) :
    (stepG s g).2.phase = 3 → sweepOk (stepG s g).1 (stepG s g).2.color (stepG s g).2.pos := by
  have hnl := no_swept hg hw
  have hcl := hg.c.len
  have hp := hg.p
  have hs := hg.sv
  have hlr := hs.h.lr
  unfold phOk at hp
  unfold stepG
  split
  · intro hph; simp at hph
  split
  · intro hph
    exfalso
    have := next_phase 1 (shadeC (s.h.ro.getD g.pos.toNat 0) g.color) g.pos s.h.ro.length 2
    simp only at hph
    omega
  split
  · rename_i a1 a2 a3
    intro hph
    have t := ht a3
    show sweepOk s (markG s g).color (markG s g).pos
    unfold markG at hph ⊢
    split
    · rename_i e1
      rw [if_pos e1] at hph
      simp only at hph; omega
    · rename_i e1
      split
      · rename_i e2
        rw [if_neg e1, if_pos e2] at hph
        simp only at hph; omega
      · rename_i e2
        intro c hc hx0
        clear hx0
        replace hc := (live_iff hs).1 hc
        show g.color.getD c.toNat 0 ≠ 0
        have hn1 : (1 : Int) ∉ g.color := atL_neg.1 (by omega)
        have hr := fstI_neg.1 (Int.not_le.1 e2)
        have nw : ∀ x, x ∈ s.h.ro → x ≠ -1 → g.color.getD x.toNat 0 ≠ 0 := fun x hx hne => by
          have := hr x hx
          unfold whiteR at this
          intro e
          simp [-List.getD_eq_getElem?_getD, hne] at this
          exact this e
        have hok : ∀ x, x ∈ s.h.ro → okP s.h.l.length x := fun x hx => hs.h.oko x hx
        have two : ∀ y : Int, 0 ≤ y → y < s.h.l.length → g.color.getD y.toNat 0 ≠ 0 → g.color.getD y.toNat 0 = 2 := fun y h0 h1 hne => by
          have hm := getD_mem (0 : Int) (l := g.color) (i := y.toNat) (by omega)
          have := hg.c.ok _ hm
          have : g.color.getD y.toNat 0 ≠ 1 := fun e => hn1 (e ▸ hm)
          omega
        induction hc with
        | base hx hne => exact nw _ hx hne
        | left hy hne ih =>
          have k := Rc.ok hs.h hok hy
          rename_i y
          rcases (t y.toNat (by omega) (two y k.1 k.2 ih)).1 hne with q | q
          · exact q
          · exact nw _ q hne
        | right hy hne ih =>
          have k := Rc.ok hs.h hok hy
          rename_i y
          rcases (t y.toNat (by omega) (two y k.1 k.2 ih)).2 hne with q | q
          · exact q
          · exact nw _ q hne
  · rename_i a1 a2 a3
    intro hph
    have h3 : g.phase = 3 := by omega
    have w := hw h3
    have hst : ∀ c, live (if sweptC s g = -1 then s else clearS s (sweptC s g)) c → live s c := fun c hc => by
      split at hc
      · exact hc
      · rename_i e
        have k := sweptC_cell hg e
        exact (live_clear (c := sweptC s g) hs (by rw [k.2.1]; exact k.2.2.1) (by rw [k.2.1]; exact k.2.2.2.1) (fun q => hnl ⟨e, q⟩) (by rw [k.2.1]; exact k.2.2.2.2.2) c).1 hc
    intro c hc h0
    rw [next_col]
    have lc := hst c hc
    have k := live_cell hs lc
    have hps : (nextG g.phase (g.color.set g.pos.toNat 0) g.pos g.color.length 0).pos = g.pos + 1 := by
      unfold nextG at hph ⊢
      by_cases e : g.pos + 1 = (g.color.length : Int)
      · rw [if_pos e] at hph; simp at hph
      · rw [if_neg e]
    rw [hps] at h0
    rw [getI_set (by omega), if_neg (by omega)]
    exact w c lc (by omega)
theorem gcB_safe {b : BothV} (hv : BoP b) (h : Safe b) : Safe (gcB b) := by
  obtain ⟨s, g, ops, i, lost⟩ := b
  have hg := hv.g
  have hl := h.l; have ht := h.t; have hw := h.w
  simp only at hg hl ht hw
  have hcl := hg.c.len
  have hs := hg.sv
  have hp := hg.p
  unfold phOk at hp
  unfold gcB
  rw [if_neg (no_swept hg hw)]
  refine ⟨hl, ?_, step_sweep hg (fun q => (ht (.inr q)).w) hw⟩
  · show (stepG s g).2.phase = 1 ∨ (stepG s g).2.phase = 2 → triC (stepG s g).1 (stepG s g).2.color
    unfold stepG
    split
    · intro _ c hc h2
      exfalso
      have hc : c < s.h.l.length := hc
      simp only at h2
      rw [getD_lt (by rw [List.length_replicate]; omega), List.getElem_replicate] at h2
      exact absurd h2 (by decide)
    split
    · intro _
      rw [next_col]
      exact triC.shade hs hcl (ht (.inl (by assumption))) _
    split
    · intro hph
      have t := ht (.inr (by assumption))
      show triC s (markG s g).color
      unfold markG at hph ⊢
      split
      · rename_i ha
        have := atL_hi g.color 1
        exact triC.black hs hcl t (by omega)
      · split
        · exact triC.shade hs hcl t _
        · rename_i e1 e2
          rw [if_neg e1, if_neg e2] at hph
          simp at hph
    · intro hph
      exfalso
      rename_i a1 a2 a3
      have := next_phase g.phase (g.color.set g.pos.toNat 0) g.pos g.color.length 0
      simp only at hph
      omega
theorem sub_live {s t : StoreV} (h : SV s) (e1 : t.h.l = s.h.l) (e2 : t.h.r = s.h.r) (hb : ∀ y ∈ t.h.ro, y ≠ -1 → live s y) {x : Int} (hr : Rc t.h.l t.h.r (· ∈ t.h.ro) x) : live s x := by
  rw [e1, e2] at hr
  induction hr with
  | base hy hn => exact hb _ hy hn
  | left hy hn ih => exact live_left h ih hn
  | right hy hn ih => exact live_right h ih hn
theorem setRo_live {s : StoreV} (h : SV s) {i v : Int} (hvv : v ≠ -1 → live s v) {x : Int} (hr : Rc (setRo s i v).h.l (setRo s i v).h.r (· ∈ (setRo s i v).h.ro) x) : live s x :=
  sub_live (t := setRo s i v) h rfl rfl (fun y hy hn => by
    rcases List.mem_or_eq_of_mem_set hy with hy | hy
    · exact live_root h hy hn
    · subst hy; exact hvv hn) hr
/-- What is live after an operation was live before, or is the new cell. -/
theorem op_live {s : StoreV} {o : OpV} (h : SV s) (ho : opOk o s.h.ro.length) {x : Int} (hx : live (runOp s o).1 x) : live s x ∨ (o.kind = 1 ∧ (runOp s o).2 = 0 ∧ x = ro_ (runOp s o).1 o.a) := by
  have hv := runOp_valid h ho
  replace hx := (live_iff hv).1 hx
  have a0 := ho.a0; have a1 := ho.a1; have b0 := ho.b0
  have b1 := ho.two
  have rb : ¬ (o.kind = 1 ∨ o.kind = 7) → ro_ s o.b ∈ s.h.ro := fun hk => ro_mem b0 (b1 hk)
  have ra : ro_ s o.a ∈ s.h.ro := ro_mem a0 a1
  unfold runOp at hx ⊢
  split at hx
  · rename_i h1
    rw [if_pos h1]
    split at hx
    · left; exact (live_iff h).2 hx
    · rename_i c t hfr
      have hc := h.f c (by rw [hfr]; simp)
      have hro : ro_ ⟨⟨s.h.l, s.h.r, s.h.ro.set o.a.toNat c⟩, t⟩ o.a = c := by
        unfold ro_
        simp only
        rw [getI_set (by omega), if_pos rfl]
      have : live s x ∨ x = c := by
        induction hx with
        | base hy hn =>
          rcases List.mem_or_eq_of_mem_set hy with hy | hy
          · exact .inl (live_root h hy hn)
          · exact .inr hy
        | left hy hn ih =>
          rcases ih with ih | ih
          · exact .inl (live_left h ih hn)
          · rw [ih] at hn; exact absurd hc.1 hn
        | right hy hn ih =>
          rcases ih with ih | ih
          · exact .inl (live_right h ih hn)
          · rw [ih] at hn; exact absurd hc.2.1 hn
      rcases this with q | q
      · exact .inl q
      · exact .inr ⟨h1, rfl, by rw [q]; exact hro.symm⟩
  · rename_i h1
    left
    split at hx
    · exact setRo_live h (fun hn => live_root h (rb (by omega)) hn) hx
    split at hx
    · split at hx
      · exact (live_iff h).2 hx
      · rename_i e
        exact setRo_live h (fun hn => live_left h (live_root h (rb (by omega)) e) hn) hx
    split at hx
    · split at hx
      · exact (live_iff h).2 hx
      · rename_i e
        exact setRo_live h (fun hn => live_right h (live_root h (rb (by omega)) e) hn) hx
    split at hx
    · split at hx
      · exact (live_iff h).2 hx
      · rename_i e
        have k := (h.h.oko _ ra).cell e
        have rbl := rb (by omega)
        induction hx with
        | base hy hn => exact live_root h hy hn
        | left hy hn ih =>
          rename_i y
          have ky := live_cell h ih
          change (s.h.l.set (ro_ s o.a).toNat (ro_ s o.b)).getD y.toNat 0 ≠ -1 at hn
          show live s ((s.h.l.set (ro_ s o.a).toNat (ro_ s o.b)).getD y.toNat 0)
          rw [getI_set (by omega)] at hn ⊢
          split
          · rename_i q
            rw [if_pos q] at hn; exact live_root h rbl hn
          · rename_i q
            rw [if_neg q] at hn; exact live_left h ih hn
        | right hy hn ih => exact live_right h ih hn
    split at hx
    · split at hx
      · exact (live_iff h).2 hx
      · rename_i e
        have k := (h.h.oko _ ra).cell e
        have rbl := rb (by omega)
        have hlr := h.h.lr
        induction hx with
        | base hy hn => exact live_root h hy hn
        | left hy hn ih => exact live_left h ih hn
        | right hy hn ih =>
          rename_i y
          have ky := live_cell h ih
          change (s.h.r.set (ro_ s o.a).toNat (ro_ s o.b)).getD y.toNat 0 ≠ -1 at hn
          show live s ((s.h.r.set (ro_ s o.a).toNat (ro_ s o.b)).getD y.toNat 0)
          rw [getI_set (by omega)] at hn ⊢
          split
          · rename_i q
            rw [if_pos q] at hn; exact live_root h rbl hn
          · rename_i q
            rw [if_neg q] at hn; exact live_right h ih hn
    · exact setRo_live h (fun hn => absurd rfl hn) hx
theorem op_tri {s : StoreV} {g : GcV} {o : OpV} (hg : GcP s g) (ho : opOk o s.h.ro.length) (hok : (runOp s o).2 = 0) (hph : g.phase = 1 ∨ g.phase = 2) (h : triC s g.color) :
    triC (runOp s o).1 ((fun g => if target s o ≠ -1 then shadeG g (target s o) else g) (if o.kind = 1 then newC g (ro_ (runOp s o).1 o.a) else g)).color := by
  have hs := hg.sv
  have hcl := hg.c.len
  have hlr := hs.h.lr
  have a0 := ho.a0; have a1 := ho.a1
  have ra : ro_ s o.a ∈ s.h.ro := ro_mem a0 a1
  have rb : ¬ (o.kind = 1 ∨ o.kind = 7) → ro_ s o.b ∈ s.h.ro := fun hk => ro_mem ho.b0 (ho.two hk)
  have hph3 : g.phase = 1 ∨ g.phase = 2 ∨ (g.phase = 3 ∧ ro_ (runOp s o).1 o.a ≥ g.pos) := by omega
  by_cases k1 : o.kind = 1
  · have tg : target s o = -1 := by unfold target; rw [if_neg (by omega)]
    simp only [tg, if_pos k1]
    rw [if_neg (by simp)]
    have hn := runOp_new hs k1 a0 a1 hok
    show triC _ (g.color.set (ro_ (runOp s o).1 o.a).toNat (if g.phase = 1 ∨ g.phase = 2 ∨ (g.phase = 3 ∧ ro_ (runOp s o).1 o.a ≥ g.pos) then 2 else 0))
    rw [if_pos hph3]
    have key : (runOp s o).1.h.l = s.h.l ∧ (runOp s o).1.h.r = s.h.r ∧ s.h.l.getD (ro_ (runOp s o).1 o.a).toNat 0 = -1 ∧ s.h.r.getD (ro_ (runOp s o).1 o.a).toNat 0 = -1 := by
      unfold runOp at hok ⊢
      rw [if_pos k1] at hok ⊢
      split
      · rename_i hfr
        rw [hfr] at hok
        simp at hok
      · rename_i c t hfr
        have hc := hs.f c (by rw [hfr]; simp)
        have hro : ro_ ⟨⟨s.h.l, s.h.r, s.h.ro.set o.a.toNat c⟩, t⟩ o.a = c := by
          unfold ro_
          simp only
          rw [getI_set (by omega), if_pos rfl]
        rw [hro]
        exact ⟨rfl, rfl, hc.1, hc.2.1⟩
    obtain ⟨e1, e2, e3, e4⟩ := key
    intro d hd h2
    rw [e1] at hd
    rw [e1, e2]
    have keep : ∀ i : Nat, i < s.h.l.length → g.color.getD i 0 ≠ 0 → (g.color.set (ro_ (runOp s o).1 o.a).toNat 2).getD i 0 ≠ 0 := fun i hi hne => by
      rw [getI_set (by omega)]
      split
      · decide
      · exact hne
    by_cases ed : (ro_ (runOp s o).1 o.a).toNat = d
    · rw [← ed]
      exact ⟨fun q => absurd e3 q, fun q => absurd e4 q⟩
    · rw [getI_set (by omega), if_neg ed] at h2
      have := h d hd h2
      exact ⟨fun q => keep _ (by have := kidL hs hd q; omega) (this.1 q), fun q => keep _ (by have := kidR hs hd q; omega) (this.2 q)⟩
  · simp only [if_neg k1]
    by_cases k56 : (o.kind = 5 ∨ o.kind = 6) ∧ ro_ s o.a ≠ -1
    · have tg : target s o = ro_ s o.b := by unfold target; rw [if_pos k56]
      rw [tg]
      have ka := (hs.h.oko _ ra).cell k56.2
      have kb := hs.h.oko _ (rb (by omega))
      have hcol : (if ro_ s o.b ≠ -1 then shadeG g (ro_ s o.b) else g).color = shadeC (ro_ s o.b) g.color := by
        split
        · show (if g.phase = 1 ∨ g.phase = 2 then shadeC (ro_ s o.b) g.color else g.color) = _
          rw [if_pos hph]
        · rename_i e
          unfold shadeC
          rw [if_neg fun q => e q.1]
      rw [hcol]
      have hsh := h.shade hs hcl (ro_ s o.b)
      have hself : ro_ s o.b ≠ -1 → (shadeC (ro_ s o.b) g.color).getD (ro_ s o.b).toNat 0 ≠ 0 := fun q => by
        have := kb.cell q
        exact shade_self this.1 (by omega)
      rcases k56.1 with k5 | k6
      · have e : (runOp s o).1 = setL s (ro_ s o.a) (ro_ s o.b) := by
          unfold runOp
          rw [if_neg k1, if_neg (by omega), if_neg (by omega), if_neg (by omega), if_pos k5, if_neg k56.2]
        rw [e]
        intro d hd h2
        have hd : d < s.h.l.length := by simpa [setL] using hd
        have := hsh d hd h2
        show ((s.h.l.set (ro_ s o.a).toNat (ro_ s o.b)).getD d 0 ≠ -1 → _) ∧ _
        refine ⟨?_, this.2⟩
        show (s.h.l.set (ro_ s o.a).toNat (ro_ s o.b)).getD d 0 ≠ -1 → (shadeC (ro_ s o.b) g.color).getD ((s.h.l.set (ro_ s o.a).toNat (ro_ s o.b)).getD d 0).toNat 0 ≠ 0
        rw [getI_set (by omega)]
        split
        · exact hself
        · exact this.1
      · have e : (runOp s o).1 = setR s (ro_ s o.a) (ro_ s o.b) := by
          unfold runOp
          rw [if_neg k1, if_neg (by omega), if_neg (by omega), if_neg (by omega), if_neg (by omega), if_pos k6, if_neg k56.2]
        rw [e]
        intro d hd h2
        have hd : d < s.h.l.length := hd
        have := hsh d hd h2
        refine ⟨this.1, ?_⟩
        show (s.h.r.set (ro_ s o.a).toNat (ro_ s o.b)).getD d 0 ≠ -1 → (shadeC (ro_ s o.b) g.color).getD ((s.h.r.set (ro_ s o.a).toNat (ro_ s o.b)).getD d 0).toNat 0 ≠ 0
        rw [getI_set (by omega)]
        split
        · exact hself
        · exact this.2
    · have tg : target s o = -1 := by unfold target; rw [if_neg k56]
      rw [tg, if_neg (by simp)]
      have e : (runOp s o).1.h.l = s.h.l ∧ (runOp s o).1.h.r = s.h.r := by
        unfold runOp
        rw [if_neg k1]
        repeat' split
        all_goals first | exact ⟨rfl, rfl⟩ | (exfalso; rename_i q1 q2; apply k56; exact ⟨by omega, q2⟩)
      intro d hd h2
      rw [e.1] at hd
      rw [e.1, e.2]
      exact h d hd h2
theorem opB_sweep {b : BothV} {bar : Bool} (hv : BoP b) (hi : b.pos < b.ops.length) (hw : b.g.phase = 3 → sweepOk b.s b.g.color b.g.pos) : (opB b bar).g.phase = 3 → sweepOk (opB b bar).s (opB b bar).g.color (opB b bar).g.pos := by
  obtain ⟨s, g, ops, i, lost⟩ := b
  have hg := hv.g
  have i0 := hv.i0
  simp only at hg hw hi i0
  have ho : opOk (gO ops i) s.h.ro.length := hv.o.ok _ (gO_mem i0 hi)
  rw [opB_eq (o := gO ops i) rfl]
  generalize gO ops i = o at ho
  split
  · exact hw
  · rename_i e
    have e : (runOp s o).2 = 0 := by simpa using e
    have hph : ∀ g' : GcV, g'.phase = g.phase → ((fun g => if bar = true ∧ target s o ≠ -1 then shadeG g (target s o) else g) g').phase = g.phase := fun g' q => by
      simp only
      split
      · exact q
      · exact q
    have hph2 := hph (if o.kind = 1 then newC g (ro_ (runOp s o).1 o.a) else g) (by split <;> rfl)
    intro q
    have q3 : g.phase = 3 := hph2.symm.trans q
    have w := hw q3
    have hcl := hg.c.len
    have hcol : ∀ g' : GcV, g'.phase = 3 → ((fun g => if bar = true ∧ target s o ≠ -1 then shadeG g (target s o) else g) g').color = g'.color := fun g' q => by
      simp only
      split
      · show (if g'.phase = 1 ∨ g'.phase = 2 then _ else _) = _
        rw [if_neg (by omega)]
      · rfl
    have hpos : ∀ g' : GcV, ((fun g => if bar = true ∧ target s o ≠ -1 then shadeG g (target s o) else g) g').pos = g'.pos := fun g' => by
      simp only
      split <;> rfl
    show sweepOk (runOp s o).1 ((fun g => if bar = true ∧ target s o ≠ -1 then shadeG g (target s o) else g) (if o.kind = 1 then newC g (ro_ (runOp s o).1 o.a) else g)).color ((fun g => if bar = true ∧ target s o ≠ -1 then shadeG g (target s o) else g) (if o.kind = 1 then newC g (ro_ (runOp s o).1 o.a) else g)).pos
    rw [hcol _ (by split <;> exact q3), hpos]
    intro c hc h0
    by_cases k1 : o.kind = 1
    · rw [if_pos k1] at h0 ⊢
      have hn := runOp_new hg.sv k1 ho.a0 ho.a1 e
      show (g.color.set (ro_ (runOp s o).1 o.a).toNat (if g.phase = 1 ∨ g.phase = 2 ∨ (g.phase = 3 ∧ ro_ (runOp s o).1 o.a ≥ g.pos) then 2 else 0)).getD c.toNat 0 ≠ 0
      have h0 : g.pos ≤ c := h0
      rcases op_live hg.sv ho hc with lc | ⟨_, _, lc⟩
      · have k := live_cell hg.sv lc
        rw [getI_set (by omega)]
        split
        · rename_i ec
          rw [if_pos (.inr (.inr ⟨q3, by omega⟩))]; decide
        · exact w c lc h0
      · rw [getI_set (by omega), if_pos (by rw [lc]), if_pos (.inr (.inr ⟨q3, by omega⟩))]; decide
    · rw [if_neg k1] at h0 ⊢
      rcases op_live hg.sv ho hc with lc | ⟨k, _⟩
      · exact w c lc h0
      · exact absurd k k1
theorem opB_safe {b : BothV} (hv : BoP b) (hi : b.pos < b.ops.length) (h : Safe b) : Safe (opB b true) := by
  obtain ⟨s, g, ops, i, lost⟩ := b
  have hl := h.l; have ht := h.t; have hw := h.w
  have hg := hv.g
  have i0 := hv.i0
  simp only at hg hl ht hw hi i0
  have ho : opOk (gO ops i) s.h.ro.length := hv.o.ok _ (gO_mem i0 hi)
  have sw := opB_sweep (bar := true) hv hi hw
  rw [opB_eq (o := gO ops i) rfl] at sw ⊢
  generalize gO ops i = o at ho sw
  split at sw
  · rename_i e
    rw [if_pos e]
    exact ⟨hl, ht, hw⟩
  · rename_i e
    rw [if_neg e]
    have e : (runOp s o).2 = 0 := by simpa using e
    have hph : ∀ g' : GcV, g'.phase = g.phase → ((fun g => if true = true ∧ target s o ≠ -1 then shadeG g (target s o) else g) g').phase = g.phase := fun g' q => by
      simp only
      split
      · exact q
      · exact q
    have hph2 := hph (if o.kind = 1 then newC g (ro_ (runOp s o).1 o.a) else g) (by split <;> rfl)
    refine ⟨hl, fun q => ?_, sw⟩
    · have q2 : g.phase = 1 ∨ g.phase = 2 := q.imp (hph2.symm.trans ·) (hph2.symm.trans ·)
      have := op_tri hg ho e q2 (ht q2)
      simpa using this
theorem oneB_safe {b : BothV} (hv : BoP b) (h : Safe b) (c : UInt8) : Safe (oneB b true c) := by
  unfold oneB
  split
  · exact h
  split
  · split
    · exact opB_safe hv (by assumption) h
    · exact h
  · exact gcB_safe hv h
theorem runB_safe : ∀ (l : List UInt8) {b : BothV}, BoP b → Safe b → Safe (runB b true l)
  | [], _, _, h => h
  | c :: l, b, hv, h => runB_safe l (oneB_valid hv true c) (oneB_safe hv h c)
theorem safe0 {b : BothV} (hl : b.lost = false) (hp : b.g.phase = 0) : Safe b := ⟨hl, fun h => by omega, fun h => by omega⟩
theorem L_Itoa {x : Int} {K : List UInt8 → Prop} (h0 : 0 ≤ x) (h1 : x < 100) (hK : K (Lib.decDigits x.toNat)) : M_strconv_Itoa x K := ⟨⟨h0, h1⟩, hK⟩
theorem dec1 {n : Nat} (h : n < 10) : Lib.decDigits n = [UInt8.ofNat (48 + n)] := by unfold Lib.decDigits; rw [dif_pos h]
def digS (x : Int) : List UInt8 := if x = -1 then [45] else Lib.decDigits x.toNat
theorem digS_eq {x : Int} (h0 : -1 ≤ x) (h1 : x < 10) : digS x = if x = -1 then [45] else [UInt8.ofNat (48 + x.toNat)] := by
  unfold digS
  split
  · rfl
  · rw [dec1 (by omega)]
theorem digS_len {x : Int} (h0 : -1 ≤ x) (h1 : x < 10) : (digS x).length = 1 := by rw [digS_eq h0 h1]; split <;> rfl
theorem L_digit {x : Int} {K : List UInt8 → Prop} (h0 : -1 ≤ x) (h1 : x < 10) (hK : K (digS x)) : Mi_digit x K := by
  unfold digS at hK
  exact br (fun e => by rw [if_pos (beq_iff_eq.1 e)] at hK; exact hK) fun e => by
    have e := beq_eq_false_iff_ne.1 e
    rw [if_neg e] at hK
    exact L_Itoa (by omega) (by omega) hK
/-- Pieces one after the other. -/
def catN (f : Nat → List UInt8) (n : Nat) : List UInt8 := (List.range n).flatMap f
theorem catN_succ (f : Nat → List UInt8) (n : Nat) : catN f (n + 1) = catN f n ++ f n := by simp [catN, List.range_succ]
theorem catN_len {f : Nat → List UInt8} {k : Nat} : ∀ {n : Nat}, (∀ i, i < n → (f i).length = k) → (catN f n).length = n * k
  | 0, _ => by simp [catN]
  | n + 1, h => by rw [catN_succ, List.length_append, catN_len (fun i hi => h i (by omega)), h n (by omega), Nat.succ_mul]
def cellsS (l r : List Int) (n : Nat) : List UInt8 := catN (fun i => (digS (l.getD i 0) ++ digS (r.getD i 0)) ++ [32]) n
def rootsS (ro : List Int) (n : Nat) : List UInt8 := catN (fun i => [32] ++ digS (ro.getD i 0)) n
def heapS (l r ro : List Int) : List UInt8 := (cellsS l r l.length ++ [47]) ++ rootsS ro ro.length
theorem HVp.at {l r ro : List Int} (h : HVp l r ro) : (∀ i, i < l.length → okP l.length (l.getD i 0)) ∧ (∀ i, i < l.length → okP l.length (r.getD i 0)) ∧ (∀ i, i < ro.length → okP l.length (ro.getD i 0)) :=
  ⟨fun i hi => h.okl _ (getD_mem 0 hi), fun i hi => h.okr _ (getD_mem 0 (by have := h.lr; omega)), fun i hi => h.oko _ (getD_mem 0 hi)⟩
theorem cells_len {l r ro : List Int} (h : HVp l r ro) : ∀ i, i < l.length → ((digS (l.getD i 0) ++ digS (r.getD i 0)) ++ [32]).length = 3 := fun i hi => by
  have a := h.at.1 i hi; have b := h.at.2.1 i hi; have h8 := h.l8
  unfold okP at a b
  simp only [List.length_append, digS_len (x := l.getD i 0) (by omega) (by omega), digS_len (x := r.getD i 0) (by omega) (by omega), List.length_cons, List.length_nil]
theorem roots_len {l r ro : List Int} (h : HVp l r ro) : ∀ i, i < ro.length → ([32] ++ digS (ro.getD i 0)).length = 2 := fun i hi => by
  have a := h.at.2.2 i hi; have h8 := h.l8
  unfold okP at a
  simp only [List.length_append, digS_len (x := ro.getD i 0) (by omega) (by omega), List.length_cons, List.length_nil]
theorem heapS_len {l r ro : List Int} (h : HVp l r ro) : (heapS l r ro).length ≤ 31 := by
  have h8 := h.l8; have r3 := h.r3
  unfold heapS cellsS rootsS
  rw [List.length_append, List.length_append, catN_len (cells_len h), catN_len (roots_len h)]
  simp; omega
theorem L_FormatHeap {l r ro : List Int} {K : List UInt8 → Prop} (hK : HVp l r ro → K (heapS l r ro)) (hn : ¬ HVp l r ro → K []) : Mi_FormatHeap l r ro K := by
  refine L_iHeapValid (br (fun e => hn (by simpa using e)) fun e => ?_)
  have hv : HVp l r ro := by simpa using e
  replace hK := hK hv
  have h8 := hv.l8; have r3 := hv.r3; have hlr := hv.lr
  refine LoopP_for (fun i s => s = (cellsS l r i, len l, (i : Int), l, r, ro)) l.length rfl ?_ ?_
  · rintro i _ hi rfl Kb hKb
    have a := hv.at.1 i hi; have b := hv.at.2.1 i hi
    unfold okP at a b
    have e1 : (cellsS l r i).length = i * 3 := catN_len fun j hj => cells_len hv j (by omega)
    have e2 := digS_len (x := l.getD i 0) (by omega) (by omega)
    have e3 := digS_len (x := r.getD i 0) (by omega) (by omega)
    refine br_t (by simp [len_eq]; exact hi) ⟨by rw [inB_nat]; exact hi, ?_⟩
    simp only [gI_nat]
    refine L_digit (by omega) (by omega) ⟨by rw [inB_nat]; omega, L_digit (by omega) (by omega) ⟨by omega, by simp [-List.getD_eq_getElem?_getD, e2, e3], by simp [-List.getD_eq_getElem?_getD, e1, e2, e3]; omega, hKb _ ?_⟩⟩
    rw [iadd_nat (by omega)]
    unfold cellsS
    rw [catN_succ]
  · rintro _ rfl Kb
    refine br_f (by simp [len_eq]) ⟨?_, ?_⟩
    · have e1 : (cellsS l r l.length).length = l.length * 3 := catN_len (cells_len hv)
      simp [e1]; omega
    refine LoopP_for (fun i s => s = ((cellsS l r l.length ++ [47]) ++ rootsS ro i, ro, len ro, (i : Int))) ro.length (by simp [rootsS, catN]) ?_ ?_
    · rintro i _ hi rfl Kb hKb
      have a := hv.at.2.2 i hi
      unfold okP at a
      have e1 : (cellsS l r l.length).length = l.length * 3 := catN_len (cells_len hv)
      have e4 : (rootsS ro i).length = i * 2 := catN_len fun j hj => roots_len hv j (by omega)
      have e2 := digS_len (x := ro.getD i 0) (by omega) (by omega)
      refine br_t (by simp [len_eq]; exact hi) ⟨by rw [inB_nat]; exact hi, ?_⟩
      simp only [gI_nat]
      refine L_digit (by omega) (by omega) ⟨by simp [-List.getD_eq_getElem?_getD, e2], by simp [-List.getD_eq_getElem?_getD, e1, e2, e4]; omega, hKb _ ?_⟩
      rw [iadd_nat (by omega)]
      unfold rootsS
      rw [catN_succ, List.append_assoc]
    · rintro _ rfl Kb
      exact br_f (by simp [len_eq]) hK
def dg (x : Int) : List UInt8 := [UInt8.ofNat (48 + x.toNat)]
def fmtO (o : OpV) : List UInt8 := if o.kind = 1 ∨ o.kind = 7 then (wordK o.kind ++ [32]) ++ dg o.a else (((wordK o.kind ++ [32]) ++ dg o.a) ++ [32]) ++ dg o.b
theorem dg_dec : ∀ a : Fin 10, bytesOf [IntKind.u8.wrap (iadd 48 (a.1 : Int))] = [UInt8.ofNat (48 + a.1)] := by decide +kernel
theorem L_DecE {p : Int} {K : List UInt8 → Prop} (h0 : 0 ≤ p) (h9 : p ≤ 9) (hK : K (dg p)) : Ms_l13Dec p K := by
  refine br_f (by simp; omega) (br_f (by simp; omega) ?_)
  refine LoopP_for (fun i st => st = (p, ([] : List UInt8))) 0 rfl (fun i s hi => absurd hi (by omega)) ?_
  rintro _ rfl Kb
  refine br_f (by simp; omega) ⟨by simp, by simp [bytesOf], ?_⟩
  have := dg_dec ⟨p.toNat, by omega⟩
  simp only [show ((p.toNat : Nat) : Int) = p by omega] at this
  simp only [this, List.append_nil]
  exact hK
theorem L_FormatOpE {k a b : Int} {K : List UInt8 → Prop} (hy : opOk ⟨k, a, b⟩ 3 → K (fmtO ⟨k, a, b⟩)) (hn : ¬ opOk ⟨k, a, b⟩ 3 → K []) : Ms_FormatOp k a b K := by
  refine L_sOpValid (q := 3) rfl (br (fun e => hn (by simpa using e)) fun e => ?_)
  have ho : opOk ⟨k, a, b⟩ 3 := by simpa using e
  replace hy := hy ho
  have a0 := ho.a0; have a3 := ho.a3; have b0 := ho.b0; have b3 := ho.b3
  simp only at a0 a3 b0 b3
  have hw := wordK_len k
  unfold fmtO at hy
  refine L_l5Word ⟨by simp; omega, L_DecE a0 (by omega) ⟨by simp [dg]; omega, L_l5One (br (fun e => ?_) fun e => ⟨by simp [dg]; omega, L_DecE b0 (by omega) ⟨by simp [dg]; omega, ?_⟩⟩)⟩⟩
  · rw [if_pos (of_decide_eq_true e)] at hy; exact hy
  · rw [if_neg (of_decide_eq_false e)] at hy; exact hy
def cands : List OpV := (List.range 7).flatMap fun (k : Nat) => (List.range 3).flatMap fun (a : Nat) => (List.range 3).map fun (b : Nat) => (⟨(k : Int) + 1, (a : Int), (b : Int)⟩ : OpV)
def parse1 (s : List UInt8) : Option OpV := cands.find? fun o => decide (opOk o 3) && decide (fmtO o = s)
theorem cand_mem {o : OpV} (h : opOk o 3) : o ∈ cands := by
  obtain ⟨k, a, b⟩ := o
  have k1 := h.k1; have k7 := h.k7; have a0 := h.a0; have a3 := h.a3; have b0 := h.b0; have b3 := h.b3
  simp only at k1 k7 a0 a3 b0 b3
  unfold cands
  simp only [List.mem_flatMap, List.mem_range, List.mem_map]
  exact ⟨(k - 1).toNat, by omega, a.toNat, by omega, b.toNat, by omega, by simp; omega⟩
theorem fmt_inj0 : ∀ o ∈ cands, opOk o 3 → ∀ p ∈ cands, opOk p 3 → fmtO o = fmtO p → o = p := by decide +kernel
theorem fmt_inj {o p : OpV} (ho : opOk o 3) (hp : opOk p 3) (h : fmtO o = fmtO p) : o = p := fmt_inj0 o (cand_mem ho) ho p (cand_mem hp) hp h
theorem parse1_some {s : List UInt8} {o : OpV} : parse1 s = some o ↔ opOk o 3 ∧ fmtO o = s := by
  constructor
  · intro h
    have := List.find?_some h
    simpa using this
  · rintro ⟨h1, h2⟩
    cases h : parse1 s with
    | none =>
      have := List.find?_eq_none.1 h o (cand_mem h1)
      simp [h1, h2] at this
    | some p =>
      have := List.find?_some h
      simp only [Bool.and_eq_true, decide_eq_true_eq] at this
      rw [fmt_inj h1 this.1 (h2.trans this.2.symm)]
theorem parse1_none {s : List UInt8} : parse1 s = none ↔ ∀ o, opOk o 3 → fmtO o ≠ s := by
  constructor
  · intro h o ho e
    rw [parse1_some.2 ⟨ho, e⟩] at h; cases h
  · intro h
    cases h2 : parse1 s with
    | none => rfl
    | some o => exact absurd (parse1_some.1 h2).2 (h o (parse1_some.1 h2).1)
theorem fmt_ne {o : OpV} : fmtO o ≠ [] := by unfold fmtO dg; split <;> simp
theorem L_ParseOpE {s : List UInt8} {K : Int → Int → Int → Bool → Prop} (hy : ∀ o, parse1 s = some o → K o.kind o.a o.b true) (hn : parse1 s = none → K 0 0 0 false) : Ms_ParseOp s K := by
  refine LoopP_for (fun i st => st = (s, 1 + (i : Int), 0, 0, 0) ∧ ∀ o, opOk o 3 → o.kind < 1 + (i : Int) → fmtO o ≠ s) 7 ⟨rfl, fun o ho h => by have := ho.k1; omega⟩ ?_ ?_
  · rintro i _ hi ⟨rfl, hj⟩ Kb hKb
    refine br_t (by simp; omega) ?_
    refine LoopP_for (fun j st => st = (s, 1 + (i : Int), (j : Int), 0, 0, 0) ∧ ∀ o, opOk o 3 → o.kind = 1 + (i : Int) → o.a < (j : Int) → fmtO o ≠ s) 3 ⟨rfl, fun o ho _ h => by have := ho.a0; omega⟩ ?_ ?_
    · rintro j _ hj2 ⟨rfl, hj3⟩ Kb2 hKb2
      refine br_t (by simp; omega) ?_
      refine LoopP_for (fun m st => st = (s, 1 + (i : Int), (j : Int), (m : Int), 0, 0, 0) ∧ ∀ o, opOk o 3 → o.kind = 1 + (i : Int) → o.a = (j : Int) → o.b < (m : Int) → fmtO o ≠ s) 3 ⟨rfl, fun o ho _ _ h => by have := ho.b0; omega⟩ ?_ ?_
      · rintro m _ hm ⟨rfl, hm2⟩ Kb3 hKb3
        have next : (∀ o, opOk o 3 → o.kind = 1 + (i : Int) → o.a = (j : Int) → o.b = (m : Int) → fmtO o ≠ s) → Kb3 (s, 1 + (i : Int), (j : Int), iadd (m : Int) 1, 0, 0, 0) := fun h => hKb3 _ ⟨by rw [iadd_nat (by omega)], fun o ho h1 h2 h3 => by
          rcases Int.lt_or_eq_of_le (show o.b ≤ (m : Int) by omega) with q | q
          · exact hm2 o ho h1 h2 q
          · exact h o ho h1 h2 q⟩
        refine br_t (by simp; omega) (br (fun e => L_FormatOpE (fun hok => br (fun e2 => hy ⟨1 + (i : Int), (j : Int), (m : Int)⟩ (parse1_some.2 ⟨hok, by simpa using e2⟩)) fun e2 => next fun o ho h1 h2 h3 => ?_) fun hok => br_f ?_ (next fun o ho h1 h2 h3 => ?_)) fun e => next fun o ho h1 h2 h3 => ?_)
        · have e2 : fmtO ⟨1 + (i : Int), (j : Int), (m : Int)⟩ ≠ s := by simpa using e2
          obtain ⟨k, a, b⟩ := o
          simp only at h1 h2 h3
          rw [h1, h2, h3]; exact e2
        · have e : s ≠ [] := by simpa using e
          simpa using e
        · obtain ⟨k, a, b⟩ := o
          simp only at h1 h2 h3
          rw [h1, h2, h3] at ho
          exact absurd ho hok
        · have e : s = [] := by simpa using e
          rw [e]; exact fmt_ne
      · rintro _ ⟨rfl, hm2⟩ Kb3
        refine br_f (by simp) (hKb2 _ ⟨by rw [iadd_nat (by omega)], fun o ho h1 h2 => ?_⟩)
        rcases Int.lt_or_eq_of_le (show o.a ≤ (j : Int) by omega) with q | q
        · exact hj3 o ho h1 q
        · exact hm2 o ho h1 q ho.b3
    · rintro _ ⟨rfl, hj3⟩ Kb2
      refine br_f (by simp) (hKb _ ⟨?_, fun o ho h1 => ?_⟩)
      · show (s, iadd (1 + (i : Int)) 1, (0 : Int), (0 : Int), (0 : Int)) = _
        rw [iadd_eq (by omega) (by omega)]
        simp only [Prod.mk.injEq, and_true, true_and]; omega
      · rcases Int.lt_or_eq_of_le (show o.kind ≤ 1 + (i : Int) by omega) with q | q
        · exact hj o ho q
        · exact hj3 o ho q ho.a3
  · rintro _ ⟨rfl, hj⟩ Kb
    exact br_f (by simp) (hn (parse1_none.2 fun o ho => hj o ho (by have := ho.k7; omega)))
/-- A text is cut at a letter. -/
def cutF (s : List UInt8) (c : UInt8) : Nat → Nat → Nat → List (List UInt8)
  | 0, _, _ => []
  | n + 1, f, i => if i = s.length then [sub s (f : Int) (i : Int)] else if s.getD i 0 = c then sub s (f : Int) (i : Int) :: cutF s c n (i + 1) (i + 1) else cutF s c n f (i + 1)
def cutS (s : List UInt8) (c : UInt8) : List (List UInt8) := cutF s c (s.length + 1) 0 0
theorem L_l13CutE {s : List UInt8} {c : UInt8} {z : Int} {K : List (List UInt8) → Prop} (hz : z = (c.toNat : Int)) (hs : s.length < 2 ^ 30) (hK : (cutS s c).length ≤ s.length + 1 → K (cutS s c)) : Ms_l13Cut s z K := by
  subst hz
  refine LoopP_for (fun i st => ∃ (f : Nat) (q : List (List UInt8)), st = (s, (c.toNat : Int), (f : Int), (i : Int), q) ∧ f ≤ i ∧ q.length ≤ i ∧ q ++ cutF s c (s.length + 1 - i) f i = cutS s c) (s.length + 1) ⟨0, [], rfl, by omega, by simp, by simp [cutS]⟩ ?_ ?_
  · rintro i _ hi ⟨f, q, rfl, hf, hq, ht⟩ Kb hKb
    rw [show s.length + 1 - i = (s.length + 1 - (i + 1)) + 1 by omega] at ht
    unfold cutF at ht
    have e : iadd (i : Int) 1 = (i : Int) + 1 := by rw [iadd_eq (by omega) (by omega)]
    have hsub : (0 : Int) ≤ (f : Int) ∧ (f : Int) ≤ (i : Int) ∧ (i : Int) ≤ len s := ⟨by omega, by omega, by simp only [len_eq]; omega⟩
    have hq1 : q.length + ([sub s (f : Int) (i : Int)] : List (List UInt8)).length ≤ 2 ^ 36 := by simp; omega
    refine br_t (by simp [len_eq]; omega) (br (fun h => ⟨hsub, hq1, ?_⟩) fun h => ⟨?_, br (fun h2 => ⟨hsub, hq1, ?_⟩) fun h2 => ?_⟩)
    · have h := beq_iff_eq.1 h
      simp only [len_eq] at h
      rw [if_pos (by omega)] at ht
      simp only [e]
      refine hKb _ ⟨i + 1, q ++ [sub s (f : Int) (i : Int)], by simp, by omega, by simp; omega, ?_⟩
      rw [show s.length + 1 - (i + 1) = 0 by omega]
      simpa [cutF] using ht
    · have h := beq_eq_false_iff_ne.1 h
      simp only [len_eq] at h
      exact ⟨by show (0 : Int) ≤ (i : Int); omega, by show (i : Int) < (s.length : Int); omega⟩
    · have h := beq_eq_false_iff_ne.1 h
      simp only [len_eq] at h
      rw [if_neg (by omega), if_pos (byte_eq.1 (by have := beq_iff_eq.1 h2; rw [gC_nat] at this; exact this))] at ht
      simp only [e]
      exact hKb _ ⟨i + 1, q ++ [sub s (f : Int) (i : Int)], by simp, by omega, by simp; omega, by simpa using ht⟩
    · have h := beq_eq_false_iff_ne.1 h
      simp only [len_eq] at h
      rw [if_neg (by omega), if_neg (fun q => by have := beq_eq_false_iff_ne.1 h2; rw [gC_nat] at this; exact this (byte_eq.2 q))] at ht
      simp only [e]
      exact hKb _ ⟨f, q, by simp, by omega, by omega, ht⟩
  · rintro _ ⟨f, q, rfl, hf, hq, ht⟩ Kb
    rw [show s.length + 1 - (s.length + 1) = 0 by omega] at ht
    unfold cutF at ht
    rw [List.append_nil] at ht
    subst ht
    exact br_f (decide_eq_false (by simp only [len_eq]; omega)) (hK hq)
def partO : Bool → List UInt8 → Option OpV
  | true, t => parse1 t
  | false, [] => none
  | false, c :: t => if c = 32 then parse1 t else none
def partsO : Bool → List (List UInt8) → Option (List OpV)
  | _, [] => some []
  | f, t :: ts => (partO f t).bind fun o => (partsO false ts).map (o :: ·)
def parseO (s : List UInt8) : Option (List OpV) := if s = [] then some [] else if 12 < (cutS s 44).length then none else partsO true (cutS s 44)
theorem L_ParseOpsE {s : List UInt8} {K : Bool → List OpV → Prop} (hs : s.length < 2 ^ 30) (hy : ∀ l, parseO s = some l → K true l) (hn : parseO s = none → K false []) : Ms_ParseOps s K := by
  refine br (fun e => hy _ ?_) fun e => L_l13CutE (c := 44) rfl hs fun hp => ?_
  · unfold parseO; rw [if_pos (beq_iff_eq.1 e)]
  have e : s ≠ [] := by simpa using e
  unfold parseO at hy hn
  rw [if_neg e] at hy hn
  generalize cutS s 44 = parts at hp hy hn
  refine LoopP_for (fun i st => ∃ out : List OpV, st = ((i : Int), out, parts) ∧ out.length = i ∧ partsO true parts = (partsO (decide (i = 0)) (parts.drop i)).map (out ++ ·)) (min parts.length 13) ⟨[], rfl, rfl, by simp⟩ ?_ ?_
  · rintro i _ hi ⟨out, rfl, hl, ho⟩ Kb hKb
    have hip : i < parts.length := by omega
    have hd : parts.drop i = gS parts (i : Int) :: parts.drop (i + 1) := by
      rw [List.drop_eq_getElem_cons hip]
      show _ = parts.getD (i : Int).toNat [] :: _
      rw [Int.toNat_natCast, getD_lt hip]
    rw [hd] at ho
    simp only [partsO] at ho
    have bad : partO (decide (i = 0)) (gS parts (i : Int)) = none → K false [] := fun q => hn (by
      split
      · rfl
      · rw [ho, q]; rfl)
    have one : ∀ t : List UInt8, partO (decide (i = 0)) (gS parts (i : Int)) = parse1 t → Ms_ParseOp t fun y5 y6 y7 y8 => ((((!y8) = true → K false []) ∧ ((!y8) = false → ((out.length + List.length ([(OpV.mk y5 y6 y7)] : List OpV) ≤ 2 ^ 36) ∧ (Kb (iadd (i : Int) 1, out ++ [OpV.mk y5 y6 y7], parts)))))) := fun t ht =>
      L_ParseOpE (fun o hok => br_f rfl ⟨by simp; omega, hKb _ ⟨out ++ [o], by rw [iadd_nat (by omega)], by simp; omega, by
        rw [ho, ht, hok, show (decide (i + 1 = 0)) = false by simp]
        simp only [Option.bind_some, Option.map_map]
        congr 1
        funext x
        simp⟩⟩) (fun q => br_t rfl (bad (ht.trans q)))
    have hin : inB (i : Int) parts.length := by rw [inB_nat]; omega
    refine br_t (by simp [len_eq]; omega) (br_t (by simp; omega) ⟨hin, br (fun e => br (fun e1 => bad ?_) fun e1 => ⟨?_, br (fun e2 => bad ?_) fun e2 => ?_⟩) fun e => br_f (b := decide ((i : Int) > 0)) e (one _ ?_)⟩)
    · have e : (i : Int) > 0 := of_decide_eq_true e
      have e1 : gS parts (i : Int) = [] := beq_iff_eq.1 e1
      rw [e1, show decide (i = 0) = false by simp; omega]; rfl
    · have : (gS parts (i : Int)) ≠ [] := by simpa using e1
      have := List.length_pos_iff.2 this
      exact ⟨by omega, by show (0 : Int) < ((gS parts (i : Int)).length : Int); omega⟩
    · have e : (i : Int) > 0 := of_decide_eq_true e
      have e1 : (gS parts (i : Int)) ≠ [] := by simpa using e1
      rw [show decide (i = 0) = false by simp; omega]
      cases hg : gS parts (i : Int) with
      | nil => exact absurd hg e1
      | cons c t =>
        rw [hg] at e2
        have e2 := bne_iff_ne.1 e2
        rw [show (0 : Int) = ((0 : Nat) : Int) from rfl, gC_nat] at e2
        simp only [partO]
        rw [if_neg fun q => e2 (by rw [q]; rfl)]
    · have e' : (i : Int) > 0 := of_decide_eq_true e
      have e1 : (gS parts (i : Int)) ≠ [] := by simpa using e1
      have hp := List.length_pos_iff.2 e1
      refine br_t (b := decide ((i : Int) > 0)) e ⟨⟨by omega, by simp only [len_eq]; omega, by omega⟩, one _ ?_⟩
      rw [show decide (i = 0) = false by simp; omega]
      cases hg : gS parts (i : Int) with
      | nil => exact absurd hg e1
      | cons c t =>
        rw [hg] at e2
        have e2 := bne_eq_false_iff_eq.1 e2
        rw [show (0 : Int) = ((0 : Nat) : Int) from rfl, gC_nat] at e2
        have : c = 32 := byte_eq.1 e2
        simp only [partO]
        rw [if_pos this]
        simp [sub, len_eq]
    · have e : ¬ (i : Int) > 0 := of_decide_eq_false e
      rw [show decide (i = 0) = true by simp; omega]; rfl
  · rintro _ ⟨out, rfl, hl, ho⟩ Kb
    have fin : (((decide ((len parts) > 12)) = true → (K false [])) ∧ ((decide ((len parts) > 12)) = false → (K true out))) := br (fun h => hn ?_) fun h => hy _ ?_
    · by_cases h13 : parts.length ≤ 13
      · exact br_f (by simp [len_eq]; omega) fin
      · exact br_t (by simp [len_eq]; omega) (br_f (decide_eq_false (by show ¬ (((min parts.length 13 : Nat) : Int) ≤ 12); omega)) fin)
    · have h := of_decide_eq_true h
      simp only [len_eq] at h
      rw [if_pos (by omega)]
    · have h := of_decide_eq_false h
      simp only [len_eq] at h
      rw [if_neg (by omega), ho, show min parts.length 13 = parts.length by omega, List.drop_length]
      simp [partsO]
theorem L_FormatNone {K : List UInt8 → Prop} (hK : K []) : Mi_FormatBoth [] [] [] [] 0 [] 0 [] 0 false K := by
  refine L_iBothValid (by simp) (by simp) (by simp) (br_t ?_ hK)
  have : ¬ BoP ⟨⟨⟨[], [], []⟩, []⟩, ⟨0, [], 0⟩, [], 0, false⟩ := fun h => by have := h.g.sv.h.l1; simp at this
  simp [this]
abbrev Txt := List UInt8
theorem dg_dig {x : Int} (h0 : 0 ≤ x) (h1 : x < 10) : dg x = digS x := by
  rw [digS_eq (by omega) h1, if_neg (by omega)]; rfl
theorem L_l1Sign {x : Int} {K : List UInt8 → Prop} (h0 : -1 ≤ x) (h1 : x < 10) (hK : K (digS x)) : Ms_l1Sign x K := by
  refine br (fun e => ?_) fun e => ?_
  · have e := beq_iff_eq.1 e
    rw [e] at hK; exact hK
  · have e := beq_eq_false_iff_ne.1 e
    exact L_DecE (by omega) (by omega) (by rw [dg_dig (by omega) h1]; exact hK)
theorem L_sFormatHeap {l r ro : List Int} {K : List UInt8 → Prop} (hK : HVp l r ro → K (heapS l r ro)) (hn : ¬ HVp l r ro → K []) : Ms_FormatHeap l r ro K := by
  refine L_sHeapValid (br (fun e => hn (by simpa using e)) fun e => ?_)
  have hv : HVp l r ro := by simpa using e
  replace hK := hK hv
  have h8 := hv.l8; have r3 := hv.r3; have hlr := hv.lr
  refine LoopP_for (fun i s => s = (cellsS l r i, (i : Int), l, r, ro)) l.length rfl ?_ ?_
  · rintro i _ hi rfl Kb hKb
    have a := hv.at.1 i hi; have b := hv.at.2.1 i hi
    unfold okP at a b
    have e1 : (cellsS l r i).length = i * 3 := catN_len fun j hj => cells_len hv j (by omega)
    have e2 := digS_len (x := l.getD i 0) (by omega) (by omega)
    have e3 := digS_len (x := r.getD i 0) (by omega) (by omega)
    refine br_t (by simp [len_eq]; exact hi) ⟨by rw [inB_nat]; exact hi, ?_⟩
    simp only [gI_nat]
    refine L_l1Sign (by omega) (by omega) ⟨by omega, by rw [inB_nat]; omega, L_l1Sign (by omega) (by omega) ⟨by simp [-List.getD_eq_getElem?_getD, e1, e2, e3]; omega, by simp [-List.getD_eq_getElem?_getD, e1, e2, e3]; omega, hKb _ ?_⟩⟩
    rw [iadd_nat (by omega)]
    unfold cellsS
    rw [catN_succ]
    simp only [List.append_assoc]
  · rintro _ rfl Kb
    refine br_f (by simp [len_eq]) ⟨?_, ?_⟩
    · have e1 : (cellsS l r l.length).length = l.length * 3 := catN_len (cells_len hv)
      simp [e1]; omega
    refine LoopP_for (fun i s => s = ((cellsS l r l.length ++ [47]) ++ rootsS ro i, (i : Int), l, r, ro)) ro.length (by simp [rootsS, catN]) ?_ ?_
    · rintro i _ hi rfl Kb hKb
      have a := hv.at.2.2 i hi
      unfold okP at a
      have e1 : (cellsS l r l.length).length = l.length * 3 := catN_len (cells_len hv)
      have e4 : (rootsS ro i).length = i * 2 := catN_len fun j hj => roots_len hv j (by omega)
      have e2 := digS_len (x := ro.getD i 0) (by omega) (by omega)
      refine br_t (by simp [len_eq]; exact hi) ⟨by simp [-List.getD_eq_getElem?_getD, e1, e4]; omega, by rw [inB_nat]; exact hi, ?_⟩
      simp only [gI_nat]
      refine L_l1Sign (by omega) (by omega) ⟨by simp [-List.getD_eq_getElem?_getD, e1, e2, e4]; omega, hKb _ ?_⟩
      rw [iadd_nat (by omega)]
      unfold rootsS
      rw [catN_succ]
      simp only [List.append_assoc]
    · rintro _ rfl Kb
      exact br_f (by simp [len_eq]) hK
theorem gS_nat (l : List Txt) (i : Nat) : gS l (i : Int) = l.getD i [] := by simp [gS, EK.dflt]
theorem safe_fin : ∀ (n : Nat) {b : BothV}, BoP b → Safe b → Safe (finO true n b)
  | 0, _, _, h => h
  | n + 1, b, hv, h => by
    rw [show finO true (n + 1) b = if b.lost = false ∧ b.pos < b.ops.length then finO true n (opB b true) else b from rfl]
    split
    · rename_i q; exact safe_fin n (opB_valid hv q.2 true) (opB_safe hv q.2 h)
    · exact h
theorem safe_gcN : ∀ (f k : Nat) {b : BothV}, BoP b → Safe b → Safe (gcN f k b) ∧ (gcN f k b).pos = b.pos ∧ (gcN f k b).ops = b.ops ∧ BoP (gcN f k b)
  | 0, _, _, hv, h => ⟨h, rfl, rfl, hv⟩
  | f + 1, k, b, hv, h => by
    rw [show gcN (f + 1) k b = if 2 ≤ k ∨ b.lost = true then b else gcN f (if (gcB b).lost = false ∧ (gcB b).g.phase = 0 then k + 1 else k) (gcB b) from rfl]
    split
    · exact ⟨h, rfl, rfl, hv⟩
    · have r := gcB_rest b
      have := safe_gcN f (if (gcB b).lost = false ∧ (gcB b).g.phase = 0 then k + 1 else k) (gcB_valid hv) (gcB_safe hv h)
      exact ⟨this.1, this.2.1.trans r.2, this.2.2.1.trans r.1, this.2.2.2⟩
/-- Operations alone lose nothing. -/
theorem fin_lost {bar : Bool} : ∀ (n : Nat) {b : BothV}, (finO bar n b).lost = b.lost ∧ (finO bar n b).ops = b.ops
  | 0, _ => ⟨rfl, rfl⟩
  | n + 1, b => by
    rw [show finO bar (n + 1) b = if b.lost = false ∧ b.pos < b.ops.length then finO bar n (opB b bar) else b from rfl]
    split
    · have r := opB_rest b bar
      have := fin_lost (bar := bar) n (b := opB b bar)
      exact ⟨this.1.trans r.2.1, this.2.trans r.1⟩
    · exact ⟨rfl, rfl⟩
theorem split_miss {s sep : Txt} (h : Lib.index s sep = -1) : Lib.split s sep = [s] := by unfold Lib.split; rw [Lib.count_miss h]; rfl
theorem splitK_succ (sep : Txt) (k : Nat) (s : Txt) : Lib.splitK sep 0 (k + 1) s = if Lib.index s sep == -1 then [s] else s.take ((Lib.index s sep).toNat + 0) :: Lib.splitK sep 0 k (s.drop ((Lib.index s sep).toNat + sep.length)) := rfl
theorem split_hit {s sep : Txt} {i : Nat} (hs : sep ≠ []) (h : Lib.index s sep = i) : Lib.split s sep = s.take i :: Lib.split (s.drop (i + sep.length)) sep := by
  unfold Lib.split
  rw [Lib.count_hit hs h, Nat.add_comm 1, splitK_succ]
  have hm : ¬ (Lib.index s sep == -1) = true := fun e => by have := beq_iff_eq.1 e; omega
  have e : (Lib.index s sep).toNat = i := by omega
  rw [if_neg hm, e, Nat.add_zero]
theorem ib_miss {c : UInt8} : ∀ {u : Txt}, c ∉ u → Lib.indexByte u c = -1
  | [], _ => rfl
  | b :: u, h => by
    unfold Lib.indexByte
    have hb : ¬ (b == c) = true := fun e => h (by rw [beq_iff_eq.1 e]; simp)
    rw [if_neg hb, if_pos (by rw [ib_miss fun q => h (by simp [q])]; rfl)]
theorem ib_hit {c : UInt8} : ∀ {u v : Txt}, c ∉ u → Lib.indexByte (u ++ c :: v) c = (u.length : Int)
  | [], v, _ => by simp [Lib.indexByte]
  | b :: u, v, h => by
    rw [List.cons_append]
    unfold Lib.indexByte
    have hb : ¬ (b == c) = true := fun e => h (by rw [beq_iff_eq.1 e]; simp)
    have ih := ib_hit (c := c) (u := u) (v := v) fun q => h (by simp [q])
    rw [if_neg hb, ih, if_neg (by intro e; have := beq_iff_eq.1 e; omega)]
    simp
theorem split_sep {c : UInt8} {u v : Txt} (h : c ∉ u) : Lib.split (u ++ c :: v) [c] = u :: Lib.split v [c] := by
  rw [split_hit (i := u.length) (by simp) (by rw [Lib.index_one, ib_hit h])]
  simp
theorem split_end {c : UInt8} {u : Txt} (h : c ∉ u) : Lib.split u [c] = [u] := split_miss (by rw [Lib.index_one, ib_miss h])
theorem split_front {c : UInt8} {t : Txt} : ∀ {ps : List Txt}, (∀ p ∈ ps, c ∉ p) → Lib.split (ps.flatMap (fun p => p ++ [c]) ++ t) [c] = ps ++ Lib.split t [c]
  | [], _ => rfl
  | p :: ps, h => by
    rw [List.flatMap_cons, show (p ++ [c]) ++ ps.flatMap (fun p => p ++ [c]) ++ t = p ++ c :: (ps.flatMap (fun p => p ++ [c]) ++ t) by simp, split_sep (h p (by simp)), split_front fun q hq => h q (by simp [hq])]
    rfl
theorem split_back {c : UInt8} : ∀ {ps : List Txt} {t : Txt}, c ∉ t → (∀ p ∈ ps, c ∉ p) → Lib.split (t ++ ps.flatMap (fun p => [c] ++ p)) [c] = t :: ps
  | [], t, ht, _ => by simpa using split_end ht
  | p :: ps, t, ht, h => by
    rw [List.flatMap_cons, show t ++ (([c] ++ p) ++ ps.flatMap (fun p => [c] ++ p)) = t ++ c :: (p ++ ps.flatMap (fun p => [c] ++ p)) by simp, split_sep ht, split_back (h p (by simp)) fun q hq => h q (by simp [hq])]
theorem countB_list (p1 p2 : Txt) : Lib.countB ⟨p1.toArray⟩ ⟨p2.toArray⟩ = Lib.count p1 p2 := by unfold Lib.countB; rfl
theorem L_Split {s sep : Txt} {K : List Txt → Prop} (hs : s.length < 4294967281) (h1 : 1 ≤ sep.length) (hK : K (Lib.split s sep)) : M_strings_Split s sep K := by
  refine ⟨⟨hs, h1⟩, ?_⟩
  rw [Lib.splitB_data, countB_list]
  exact hK
def cellT (l r : List Int) (i : Nat) : Txt := digS (l.getD i 0) ++ digS (r.getD i 0)
def pieces (l r ro : List Int) : List Txt := (List.range l.length).map (cellT l r) ++ ([47] :: (List.range ro.length).map fun i => digS (ro.getD i 0))
theorem dig_no {x : Int} (h0 : -1 ≤ x) (h1 : x < 10) : (32 : UInt8) ∉ digS x ∧ (47 : UInt8) ∉ digS x := by
  have key : ∀ a : Fin 10, (32 : UInt8) ≠ UInt8.ofNat (48 + a.1) ∧ (47 : UInt8) ≠ UInt8.ofNat (48 + a.1) := by decide
  rw [digS_eq h0 h1]
  split
  · decide
  · have := key ⟨x.toNat, by omega⟩
    simp only [List.mem_singleton]
    exact ⟨this.1, this.2⟩
theorem split_heap {l r ro : List Int} (h : HVp l r ro) : Lib.split (heapS l r ro) [32] = pieces l r ro := by
  have h8 := h.l8; have hlr := h.lr
  have c1 : ∀ p ∈ (List.range l.length).map (cellT l r), (32 : UInt8) ∉ p := fun p hp => by
    obtain ⟨i, hi, rfl⟩ := List.mem_map.1 hp
    have hi := List.mem_range.1 hi
    have a := h.at.1 i hi; have b := h.at.2.1 i hi
    unfold okP at a b
    unfold cellT
    rw [List.mem_append]
    rintro (q | q)
    · exact (dig_no (by omega) (by omega)).1 q
    · exact (dig_no (by omega) (by omega)).1 q
  have c2 : ∀ p ∈ (List.range ro.length).map (fun i => digS (ro.getD i 0)), (32 : UInt8) ∉ p := fun p hp => by
    obtain ⟨i, hi, rfl⟩ := List.mem_map.1 hp
    have a := h.at.2.2 i (List.mem_range.1 hi)
    unfold okP at a
    exact (dig_no (by omega) (by omega)).1
  unfold heapS cellsS rootsS catN
  rw [show (List.range l.length).flatMap (fun i => (digS (l.getD i 0) ++ digS (r.getD i 0)) ++ [32]) = ((List.range l.length).map (cellT l r)).flatMap (fun p => p ++ [32]) by rw [List.flatMap_map]; rfl,
    show (List.range ro.length).flatMap (fun i => [32] ++ digS (ro.getD i 0)) = ((List.range ro.length).map fun i => digS (ro.getD i 0)).flatMap (fun p => [32] ++ p) by rw [List.flatMap_map], List.append_assoc, split_front c1, split_back (by decide) c2]
  rfl
theorem L_val {x : Int} {c : UInt8} {K : Int → Prop} (h0 : -1 ≤ x) (h1 : x < 10) (hd : digS x = [c]) (hK : K x) : Mi_ParseHeap_1 (c.toNat : Int) K := by
  rw [digS_eq h0 h1] at hd
  split at hd
  · rename_i e
    simp at hd; subst hd; subst e
    exact br_t (by decide) hK
  · rename_i e
    simp only [List.cons.injEq, and_true] at hd
    have key : ∀ a : Fin 10, (UInt8.ofNat (48 + a.1)).toNat = 48 + a.1 := by decide
    have hk := key ⟨x.toNat, by omega⟩
    simp only at hk
    rw [hd] at hk
    refine br_f (by rw [hk]; simp; omega) ?_
    rw [wrap64 (by omega) (by omega), isub_eq (by omega) (by omega), hk, show ((48 + x.toNat : Nat) : Int) - 48 = x by omega]
    exact hK
theorem dig_one {x : Int} (h0 : -1 ≤ x) (h1 : x < 10) : ∃ c : UInt8, digS x = [c] := by
  rw [digS_eq h0 h1]; split <;> exact ⟨_, rfl⟩
theorem take_snoc {l : List Int} {i : Nat} (h : i < l.length) : l.take (i + 1) = l.take i ++ [l.getD i 0] := by
  rw [List.take_add_one, List.getElem?_eq_getElem h, getD_lt h]; rfl
theorem pieces_cell {l r ro : List Int} : ∀ i, i < l.length → (pieces l r ro).getD i [] = cellT l r i := fun i hi => by
  unfold pieces
  rw [List.getD_eq_getElem?_getD, List.getElem?_append_left (by simpa using hi)]
  simp [hi]
theorem pieces_mid {l r ro : List Int} : (pieces l r ro).getD l.length [] = [47] := by
  unfold pieces
  rw [List.getD_eq_getElem?_getD, List.getElem?_append_right (by simp)]
  simp
theorem pieces_root {l r ro : List Int} : ∀ i, i < ro.length → (pieces l r ro).getD (l.length + 1 + i) [] = digS (ro.getD i 0) := fun i hi => by
  unfold pieces
  rw [List.getD_eq_getElem?_getD, List.getElem?_append_right (by simp; omega)]
  simp only [List.length_map, List.length_range]
  rw [show l.length + 1 + i - l.length = i + 1 by omega, List.getElem?_cons_succ]
  simp [hi]
theorem L_ParseHeap {l r ro : List Int} {K : Bool → List Int → List Int → List Int → Prop} (h : HVp l r ro) (hK : K true l r ro) : Mi_ParseHeap (heapS l r ro) K := by
  have h8 := h.l8; have hlr := h.lr; have r3 := h.r3; have h31 := heapS_len h
  refine L_Split (by omega) (by decide) ?_
  rw [split_heap h]
  have hlen : (pieces l r ro).length = l.length + 1 + ro.length := by simp [pieces]; omega
  have pc := pieces_cell (l := l) (r := r) (ro := ro)
  have pm := pieces_mid (l := l) (r := r) (ro := ro)
  have pr := pieces_root (l := l) (r := r) (ro := ro)
  generalize pieces l r ro = ps at hlen pc pm pr
  refine LoopP_for (fun i s => s = (heapS l r ro, decide (l.length < i), len ps, (i : Int), ps, [], [], [], l.take i, r.take i, ro.take (i - l.length - 1))) ps.length (by simp) ?_ ?_
  · rintro i _ hi rfl Kb hKb
    have hin : inB (i : Int) ps.length := by rw [inB_nat]; exact hi
    refine br_t (by simp [len_eq]; exact hi) ⟨hin, ?_⟩
    simp only [gS_nat]
    by_cases e1 : i < l.length
    · rw [pc i e1]
      have a := h.at.1 i e1; have b := h.at.2.1 i e1
      unfold okP at a b
      obtain ⟨c1, d1⟩ := dig_one (x := l.getD i 0) (by omega) (by omega)
      obtain ⟨c2, d2⟩ := dig_one (x := r.getD i 0) (by omega) (by omega)
      have ht : cellT l r i = [c1, c2] := by unfold cellT; rw [d1, d2]; rfl
      rw [ht]
      have hb : decide (l.length < i) = false := decide_eq_false (by omega)
      have hb2 : decide (l.length < i + 1) = false := decide_eq_false (by omega)
      refine br_f (by simp) (br_f hb (br_t (by rw [hb]; rfl) (br_t (by simp [len_eq]) ⟨⟨by omega, by simp⟩, ?_⟩)))
      rw [show gC [c1, c2] 0 = (c1.toNat : Int) from rfl]
      refine L_val (x := l.getD i 0) (by omega) (by omega) d1 ⟨by simp; omega, ⟨by omega, by simp⟩, ?_⟩
      rw [show gC [c1, c2] 1 = (c2.toNat : Int) from rfl]
      refine L_val (x := r.getD i 0) (by omega) (by omega) d2 ⟨by simp; omega, hKb _ ?_⟩
      rw [iadd_nat (by omega), hb, hb2, take_snoc e1, take_snoc (l := r) (by omega), show i - l.length - 1 = i + 1 - l.length - 1 by omega]
    · by_cases e2 : i = l.length
      · subst e2
        rw [pm]
        refine br_t (by simp) (hKb _ ?_)
        rw [iadd_nat (by omega), show decide (l.length < l.length + 1) = true by simp, List.take_of_length_le (Nat.le_refl _), List.take_of_length_le (show r.length ≤ l.length by omega), List.take_of_length_le (show l.length ≤ l.length + 1 by omega), List.take_of_length_le (show r.length ≤ l.length + 1 by omega)]
        simp
      · obtain ⟨j, rfl⟩ : ∃ j, i = l.length + 1 + j := ⟨i - l.length - 1, by omega⟩
        have hj : j < ro.length := by omega
        rw [pr j hj]
        have a := h.at.2.2 j hj
        unfold okP at a
        obtain ⟨c1, d1⟩ := dig_one (x := ro.getD j 0) (by omega) (by omega)
        have no := (dig_no (x := ro.getD j 0) (by omega) (by omega)).2
        rw [d1] at no ⊢
        have hb : decide (l.length < l.length + 1 + j) = true := decide_eq_true (by omega)
        have hb2 : decide (l.length < l.length + 1 + j + 1) = true := decide_eq_true (by omega)
        refine br_f (by simp at no ⊢; exact fun q => no q.symm) (br_t hb (br_t (by simp [len_eq]) ⟨⟨by omega, by simp⟩, ?_⟩))
        rw [show gC [c1] 0 = (c1.toNat : Int) from rfl]
        refine L_val (x := ro.getD j 0) (by omega) (by omega) d1 ⟨by simp; omega, hKb _ ?_⟩
        rw [iadd_nat (by omega), hb, hb2, show l.length + 1 + j + 1 - l.length - 1 = j + 1 by omega, show l.length + 1 + j - l.length - 1 = j by omega, take_snoc hj,
          List.take_of_length_le (show l.length ≤ l.length + 1 + j by omega), List.take_of_length_le (show r.length ≤ l.length + 1 + j by omega), List.take_of_length_le (show l.length ≤ l.length + 1 + j + 1 by omega), List.take_of_length_le (show r.length ≤ l.length + 1 + j + 1 by omega)]
  · rintro _ rfl Kb
    refine br_f (by simp [len_eq]) ?_
    simp only [List.take_of_length_le (show l.length ≤ ps.length by omega), List.take_of_length_le (show r.length ≤ ps.length by omega), List.take_of_length_le (show ro.length ≤ ps.length - l.length - 1 by omega)]
    exact L_iHeapValid (br_f (by simp [h]) (L_FormatHeap (fun _ => br_f (by simp) hK) fun q => absurd h q))
def cutR (c : UInt8) (acc : Txt) : Txt → List Txt
  | [] => [acc]
  | x :: l => if x = c then acc :: cutR c [] l else cutR c (acc ++ [x]) l
theorem cutF_R {s : Txt} {c : UInt8} : ∀ (n f i : Nat), n = s.length + 1 - i → f ≤ i → i ≤ s.length → cutF s c n f i = cutR c ((s.take i).drop f) (s.drop i)
  | 0, f, i, hn, _, hi => by omega
  | n + 1, f, i, hn, hf, hi => by
    unfold cutF
    have hsub : sub s (f : Int) (i : Int) = (s.take i).drop f := by simp [sub]
    split
    · rename_i e
      subst e
      rw [List.drop_length, hsub]; rfl
    · rename_i e
      have hil : i < s.length := by omega
      have hd : s.drop i = s.getD i 0 :: s.drop (i + 1) := by rw [List.drop_eq_getElem_cons hil, getD_lt hil]
      rw [hd]
      unfold cutR
      split
      · rw [cutF_R n (i + 1) (i + 1) (by omega) (Nat.le_refl _) (by omega), hsub]
        congr 2
        simp
      · rw [cutF_R n f (i + 1) (by omega) (by omega) (by omega)]
        congr 1
        rw [List.take_add_one, List.getElem?_eq_getElem hil, List.drop_append_of_le_length (by simp; omega), getD_lt hil]
        rfl
theorem split_R {c : UInt8} : ∀ (l acc : Txt), c ∉ acc → Lib.split (acc ++ l) [c] = cutR c acc l
  | [], acc, h => by rw [List.append_nil, split_end h]; rfl
  | x :: l, acc, h => by
    unfold cutR
    split
    · rename_i e
      subst e
      rw [split_sep h]
      have := split_R (c := x) l [] (by simp)
      rw [List.nil_append] at this
      rw [this]
    · rename_i e
      have := split_R (c := c) l (acc ++ [x]) (by simp [h]; exact fun q => e q.symm)
      rw [← this]; simp
theorem cutS_split (s : Txt) (c : UInt8) : cutS s c = Lib.split s [c] := by
  have h1 := cutF_R (s := s) (c := c) (s.length + 1) 0 0 (by omega) (Nat.le_refl _) (Nat.zero_le _)
  have h2 := split_R (c := c) s [] (by simp)
  unfold cutS
  rw [h1]
  simpa using h2.symm
theorem split_len {s : Txt} {c : UInt8} : (Lib.split s [c]).length ≤ s.length + 1 := by
  have key : ∀ (l acc : Txt), (cutR c acc l).length ≤ l.length + 1 := fun l => by
    induction l with
    | nil => intro acc; simp [cutR]
    | cons x l ih =>
      intro acc
      unfold cutR
      split
      · have := ih []; simp; omega
      · have := ih (acc ++ [x]); simp; omega
  have h2 := split_R (c := c) s [] (by simp)
  rw [List.nil_append] at h2
  rw [h2]; exact key _ _
def isHeap (s : Txt) : Prop := ∃ l r ro, HVp l r ro ∧ heapS l r ro = s
theorem L_valAny {z : Int} {K : Int → Prop} (h : ∀ v, K v) : Mi_ParseHeap_1 z K := br (fun _ => h _) fun _ => h _
theorem L_iParseHeapAny {s : Txt} {K : Bool → List Int → List Int → List Int → Prop} (hs : s.length < 2 ^ 31) (hy : ∀ l r ro, HVp l r ro → heapS l r ro = s → K true l r ro) (hn : ¬ isHeap s → K false [] [] []) : Mi_ParseHeap s K := by
  by_cases hex : isHeap s
  · obtain ⟨l, r, ro, h1, h2⟩ := hex
    have := hy l r ro h1 h2
    subst h2
    exact L_ParseHeap h1 this
  have hn := hn hex
  refine L_Split (by omega) (by decide) ?_
  have hlen := split_len (s := s) (c := 32)
  generalize Lib.split s [32] = ps at hlen
  refine LoopP_for (fun i st => ∃ (bh : Bool) (l r ro : List Int), st = (s, bh, len ps, (i : Int), ps, [], [], [], l, r, ro) ∧ l.length ≤ i ∧ r.length ≤ i ∧ ro.length ≤ i) ps.length ⟨false, [], [], [], rfl, by simp, by simp, by simp⟩ ?_ ?_
  · rintro i _ hi ⟨bh, l, r, ro, rfl, hl, hr, hro⟩ Kb hKb
    have nx : ∀ (bh' : Bool) (l' r' ro' : List Int), l'.length ≤ i + 1 → r'.length ≤ i + 1 → ro'.length ≤ i + 1 → Kb (s, bh', len ps, iadd (i : Int) 1, ps, [], [], [], l', r', ro') := fun bh' l' r' ro' a b c => hKb _ ⟨bh', l', r', ro', by rw [iadd_nat (by omega)], a, b, c⟩
    refine br_t (by simp [len_eq]; exact hi) ⟨by rw [inB_nat]; exact hi, ?_⟩
    simp only [gS_nat]
    generalize ps.getD i [] = t
    refine br (fun _ => nx _ _ _ _ (by omega) (by omega) (by omega)) fun _ => ?_
    cases bh with
    | true =>
      refine br_t rfl (br (fun e => ?_) fun e => br_f rfl hn)
      have e := beq_iff_eq.1 e
      simp only [len_eq] at e
      exact ⟨⟨by omega, by show (0 : Int) < (t.length : Int); omega⟩, L_valAny fun v => ⟨by simp; omega, nx _ _ _ _ (by omega) (by omega) (by simp; omega)⟩⟩
    | false =>
      refine br_f rfl (br_t rfl (br (fun e => ?_) fun e => hn))
      have e := beq_iff_eq.1 e
      simp only [len_eq] at e
      exact ⟨⟨by omega, by show (0 : Int) < (t.length : Int); omega⟩, L_valAny fun v => ⟨by simp; omega, ⟨by omega, by show (1 : Int) < (t.length : Int); omega⟩, L_valAny fun v2 => ⟨by simp; omega, nx _ _ _ _ (by simp; omega) (by simp; omega) (by omega)⟩⟩⟩
  · rintro _ ⟨bh, l, r, ro, rfl, hl, hr, hro⟩ Kb
    refine br_f (by simp [len_eq]) (L_iHeapValid (br (fun e => hn) fun e => ?_))
    have hv : HVp l r ro := by simpa using e
    refine L_FormatHeap (fun _ => br_t ?_ hn) fun q => absurd hv q
    have : heapS l r ro ≠ s := fun q => hex ⟨l, r, ro, hv, q⟩
    simpa using this
theorem L_readAny {z : Int} {K : Int → Bool → Prop} (h : ∀ v b, K v b) : Ms_l1Read z K := br (fun _ => h _ _) fun _ => br (fun _ => h _ _) fun _ => h _ _
theorem L_read {x : Int} {c : UInt8} {K : Int → Bool → Prop} (h0 : -1 ≤ x) (h1 : x < 8) (hd : digS x = [c]) (hK : K x true) : Ms_l1Read (c.toNat : Int) K := by
  rw [digS_eq h0 (by omega)] at hd
  split at hd
  · rename_i e
    simp at hd; subst hd; subst e
    exact br_t (by decide) hK
  · rename_i e
    simp only [List.cons.injEq, and_true] at hd
    have key : ∀ a : Fin 10, (UInt8.ofNat (48 + a.1)).toNat = 48 + a.1 := by decide
    have hk := key ⟨x.toNat, by omega⟩
    simp only at hk
    rw [hd] at hk
    refine br_f (by rw [hk]; simp; omega) (br_t (by rw [hk]; simp; omega) ?_)
    rw [wrap64 (by omega) (by omega), isub_eq (by omega) (by omega), hk, show ((48 + x.toNat : Nat) : Int) - 48 = x by omega, show decide (((48 + x.toNat : Nat) : Int) ≤ 55) = true by simp; omega]
    exact hK
theorem L_sParseHeapAny {s : Txt} {K : Bool → List Int → List Int → List Int → Prop} (hs : s.length < 2 ^ 30) (hy : ∀ l r ro, HVp l r ro → heapS l r ro = s → K true l r ro) (hn : ¬ isHeap s → K false [] [] []) : Ms_ParseHeap s K := by
  refine L_l13CutE (c := 32) rfl hs fun hlen => ?_
  rw [cutS_split] at hlen ⊢
  by_cases hex : isHeap s
  · obtain ⟨l, r, ro, h, h2⟩ := hex
    have hK := hy l r ro h h2
    subst h2
    have h8 := h.l8; have hlr := h.lr; have r3 := h.r3
    rw [split_heap h]
    have hpl : (pieces l r ro).length = l.length + 1 + ro.length := by simp [pieces]; omega
    have pc := pieces_cell (l := l) (r := r) (ro := ro)
    have pm := pieces_mid (l := l) (r := r) (ro := ro)
    have pr := pieces_root (l := l) (r := r) (ro := ro)
    generalize pieces l r ro = ps at hpl pc pm pr
    refine LoopP_for (fun i st => st = (heapS l r ro, decide (l.length < i), (i : Int), ps, [], [], [], l.take i, r.take i, ro.take (i - l.length - 1))) ps.length (by simp) ?_ ?_
    · rintro i _ hi rfl Kb hKb
      have hin : inB (i : Int) ps.length := by rw [inB_nat]; exact hi
      refine br_t (by simp [len_eq]; exact hi) (br_t (by simp; omega) ⟨hin, ?_⟩)
      simp only [gS_nat]
      by_cases e1 : i < l.length
      · rw [pc i e1]
        have a := h.at.1 i e1; have b := h.at.2.1 i e1
        unfold okP at a b
        obtain ⟨c1, d1⟩ := dig_one (x := l.getD i 0) (by omega) (by omega)
        obtain ⟨c2, d2⟩ := dig_one (x := r.getD i 0) (by omega) (by omega)
        have ht : cellT l r i = [c1, c2] := by unfold cellT; rw [d1, d2]; rfl
        rw [ht]
        have hb : decide (l.length < i) = false := decide_eq_false (by omega)
        have hb2 : decide (l.length < i + 1) = false := decide_eq_false (by omega)
        refine br_f (by simp) (br_f hb (br_t (by rw [hb]; rfl) (br_t (by simp [len_eq]) ⟨⟨by omega, by simp⟩, ?_⟩)))
        rw [show gC [c1, c2] 0 = (c1.toNat : Int) from rfl]
        refine L_read (x := l.getD i 0) (by omega) (by omega) d1 ⟨⟨by omega, by simp⟩, ?_⟩
        rw [show gC [c1, c2] 1 = (c2.toNat : Int) from rfl]
        refine L_read (x := r.getD i 0) (by omega) (by omega) d2 (br_f rfl (br_f rfl ⟨by simp; omega, by simp; omega, hKb _ ?_⟩))
        rw [iadd_nat (by omega), hb, hb2, take_snoc e1, take_snoc (l := r) (by omega), show i - l.length - 1 = i + 1 - l.length - 1 by omega]
      · by_cases e2 : i = l.length
        · subst e2
          rw [pm]
          refine br_t (by simp) (br_t (by simp) (hKb _ ?_))
          rw [iadd_nat (by omega), show decide (l.length < l.length + 1) = true by simp, List.take_of_length_le (Nat.le_refl _), List.take_of_length_le (show r.length ≤ l.length by omega), List.take_of_length_le (show l.length ≤ l.length + 1 by omega), List.take_of_length_le (show r.length ≤ l.length + 1 by omega)]
          simp
        · obtain ⟨j, rfl⟩ : ∃ j, i = l.length + 1 + j := ⟨i - l.length - 1, by omega⟩
          have hj : j < ro.length := by omega
          rw [pr j hj]
          have a := h.at.2.2 j hj
          unfold okP at a
          obtain ⟨c1, d1⟩ := dig_one (x := ro.getD j 0) (by omega) (by omega)
          have no := (dig_no (x := ro.getD j 0) (by omega) (by omega)).2
          rw [d1] at no ⊢
          have hb : decide (l.length < l.length + 1 + j) = true := decide_eq_true (by omega)
          have hb2 : decide (l.length < l.length + 1 + j + 1) = true := decide_eq_true (by omega)
          refine br_f (by simp at no ⊢; exact fun q => no q.symm) (br_t hb (br_t (by simp [len_eq]) ⟨⟨by omega, by simp⟩, ?_⟩))
          rw [show gC [c1] 0 = (c1.toNat : Int) from rfl]
          refine L_read (x := ro.getD j 0) (by omega) (by omega) d1 (br_f rfl ⟨by simp; omega, hKb _ ?_⟩)
          rw [iadd_nat (by omega), hb, hb2, show l.length + 1 + j + 1 - l.length - 1 = j + 1 by omega, show l.length + 1 + j - l.length - 1 = j by omega, take_snoc hj,
            List.take_of_length_le (show l.length ≤ l.length + 1 + j by omega), List.take_of_length_le (show r.length ≤ l.length + 1 + j by omega), List.take_of_length_le (show l.length ≤ l.length + 1 + j + 1 by omega), List.take_of_length_le (show r.length ≤ l.length + 1 + j + 1 by omega)]
    · rintro _ rfl Kb
      refine br_f (by simp [len_eq]) ?_
      simp only [List.take_of_length_le (show l.length ≤ ps.length by omega), List.take_of_length_le (show r.length ≤ ps.length by omega), List.take_of_length_le (show ro.length ≤ ps.length - l.length - 1 by omega)]
      exact L_sHeapValid (br_f (by simp [h]) (L_sFormatHeap (fun _ => br_f (by simp) hK) fun q => absurd h q))
  · have hn := hn hex
    generalize Lib.split s [32] = ps at hlen
    have fin : ∀ (l r ro : List Int), (Ms_HeapValid l r ro fun (y45 : Bool) => (((!y45) = true → (K false [] [] [])) ∧ ((!y45) = false → (Ms_FormatHeap l r ro fun (y46 : List UInt8) => (((!(y46 == s)) = true → (K false [] [] [])) ∧ ((!(y46 == s)) = false → (K true l r ro))))))) := fun l r ro => by
      refine L_sHeapValid (br (fun e => hn) fun e => ?_)
      have hv : HVp l r ro := by simpa using e
      refine L_sFormatHeap (fun _ => br_t ?_ hn) fun q => absurd hv q
      have : heapS l r ro ≠ s := fun q => hex ⟨l, r, ro, hv, q⟩
      simpa using this
    refine LoopP_for (fun i st => ∃ (bh : Bool) (l r ro : List Int), st = (s, bh, (i : Int), ps, [], [], [], l, r, ro) ∧ l.length ≤ i ∧ r.length ≤ i ∧ ro.length ≤ i) (min ps.length 16) ⟨false, [], [], [], rfl, by simp, by simp, by simp⟩ ?_ ?_
    · rintro i _ hi ⟨bh, l, r, ro, rfl, hl, hr, hro⟩ Kb hKb
      have nx : ∀ (bh' : Bool) (l' r' ro' : List Int), l'.length ≤ i + 1 → r'.length ≤ i + 1 → ro'.length ≤ i + 1 → Kb (s, bh', iadd (i : Int) 1, ps, [], [], [], l', r', ro') := fun bh' l' r' ro' a b c => hKb _ ⟨bh', l', r', ro', by rw [iadd_nat (by omega)], a, b, c⟩
      refine br_t (by simp [len_eq]; omega) (br_t (by simp; omega) ⟨by rw [inB_nat]; show i < ps.length; omega, ?_⟩)
      simp only [gS_nat]
      generalize ps.getD i [] = t
      cases bh with
      | true =>
        refine br (fun _ => br_f rfl (br_t rfl (br (fun e => ?_) fun e => br_f rfl hn))) fun _ => br_t rfl (br (fun e => ?_) fun e => br_f rfl hn)
        all_goals
          have e := beq_iff_eq.1 e
          simp only [len_eq] at e
          exact ⟨⟨by omega, by show (0 : Int) < (t.length : Int); omega⟩, L_readAny fun v b => br (fun _ => hn) fun _ => ⟨by simp; omega, nx _ _ _ _ (by omega) (by omega) (by simp; omega)⟩⟩
      | false =>
        refine br (fun _ => br_t rfl (nx _ _ _ _ (by omega) (by omega) (by omega))) fun _ => br_f rfl (br_t rfl (br (fun e => ?_) fun e => hn))
        have e := beq_iff_eq.1 e
        simp only [len_eq] at e
        exact ⟨⟨by omega, by show (0 : Int) < (t.length : Int); omega⟩, L_readAny fun v b => ⟨⟨by omega, by show (1 : Int) < (t.length : Int); omega⟩, L_readAny fun v2 b2 => br (fun _ => hn) fun _ => br (fun _ => hn) fun _ => ⟨by simp; omega, by simp; omega, nx _ _ _ _ (by simp; omega) (by simp; omega) (by omega)⟩⟩⟩
    · rintro _ ⟨bh, l, r, ro, rfl, hl, hr, hro⟩ Kb
      by_cases h16 : ps.length ≤ 16
      · exact br_f (by simp [len_eq]; omega) (fin l r ro)
      · exact br_t (by simp [len_eq]; omega) (br_f (decide_eq_false (by show ¬ (((min ps.length 16 : Nat) : Int) < 16); omega)) (fin l r ro))
abbrev cs2 : Txt := [44, 32]
theorem index_two {u v : Txt} (h : (44 : UInt8) ∉ u) : Lib.index (u ++ (44 :: 32 :: v)) cs2 = (u.length : Int) := by
  refine Lib.index_first (by simp) (by simp [Lib.occAt]) fun j hj => ?_
  unfold Lib.occAt
  have hd : (u ++ (44 :: 32 :: v)).drop j = u[j] :: (u ++ (44 :: 32 :: v)).drop (j + 1) := by
    rw [List.drop_eq_getElem_cons (by simp; omega), List.getElem_append_left hj]
  rw [hd]
  have : u[j] ≠ 44 := fun e => h (e ▸ List.getElem_mem hj)
  simp [List.isPrefixOf, this.symm]
theorem index_two_no {u : Txt} (h : (44 : UInt8) ∉ u) : Lib.index u cs2 = -1 := by
  refine Lib.index_none fun j hj => ?_
  unfold Lib.occAt
  rcases Nat.lt_or_eq_of_le hj with hj | hj
  · rw [List.drop_eq_getElem_cons hj]
    have : u[j] ≠ 44 := fun e => h (e ▸ List.getElem_mem hj)
    simp [List.isPrefixOf, this.symm]
  · rw [hj, List.drop_length]; rfl
theorem jt_cons (sep q : Txt) (r : List Txt) : Lib.joinTail sep (q :: r) = sep ++ Lib.join (q :: r) sep := by
  rw [Lib.join_cons]
  simp [Lib.joinTail]
theorem split_join2 : ∀ {ps : List Txt}, ps ≠ [] → (∀ p ∈ ps, (44 : UInt8) ∉ p) → Lib.split (Lib.join ps cs2) cs2 = ps
  | [p], _, h => by rw [Lib.join_one, split_miss (index_two_no (h p (by simp)))]
  | p :: q :: r, _, h => by
    rw [Lib.join_cons, jt_cons]
    have hx : p ++ (cs2 ++ Lib.join (q :: r) cs2) = p ++ (44 :: 32 :: Lib.join (q :: r) cs2) := rfl
    rw [hx, split_hit (i := p.length) (by simp) (index_two (h p (by simp)))]
    have : (p ++ 44 :: 32 :: Lib.join (q :: r) cs2).drop (p.length + List.length cs2) = Lib.join (q :: r) cs2 := by
      rw [List.drop_append, List.drop_eq_nil_of_le (by simp)]
      simp
    rw [this, split_join2 (by simp) fun x hx => h x (List.mem_cons_of_mem _ hx)]
    simp
theorem split_ne (s sep : Txt) : Lib.split s sep ≠ [] := by
  unfold Lib.split
  cases Lib.count s sep with
  | zero => simp [Lib.splitK]
  | succ k => rw [splitK_succ]; split <;> simp
theorem join_split {sep : Txt} (hs : sep ≠ []) : ∀ (n : Nat) (s : Txt), s.length ≤ n → Lib.join (Lib.split s sep) sep = s := by
  have hpos := List.length_pos_iff.2 hs
  intro n
  induction n with
  | zero =>
    intro s hl
    have : s = [] := List.length_eq_zero_iff.1 (by omega)
    subst this
    rw [split_miss (by cases sep with | nil => exact absurd rfl hs | cons a t => rfl), Lib.join_one]
  | succ n ih =>
    intro s hl
    rcases Lib.index_spec s sep with ⟨h, _⟩ | ⟨i, h, hi, ho, _⟩
    · rw [split_miss h, Lib.join_one]
    · rw [split_hit hs h, Lib.join_cons]
      unfold Lib.occAt at ho
      rw [List.isPrefixOf_iff_prefix] at ho
      obtain ⟨t, ht⟩ := ho
      have hd : s.drop (i + sep.length) = t := by rw [← List.drop_drop, ← ht]; simp
      rw [hd]
      have hlt : t.length ≤ n := by
        have := congrArg List.length ht
        simp at this; omega
      have e := ih t hlt
      obtain ⟨q, r, hq⟩ : ∃ q r, Lib.split t sep = q :: r := by
        cases h2 : Lib.split t sep with
        | nil => exact absurd h2 (split_ne t sep)
        | cons q r => exact ⟨q, r, rfl⟩
      rw [hq] at e ⊢
      rw [jt_cons, e, ht, List.take_append_drop]
def joinO (l : List OpV) : Txt := Lib.join (l.map fmtO) cs2
def isOps (s : Txt) (l : List OpV) : Prop := OpsP l 3 ∧ joinO l = s
theorem fmt_no {o : OpV} (h : opOk o 3) : (44 : UInt8) ∉ fmtO o := by
  have key : ∀ o ∈ cands, (44 : UInt8) ∉ fmtO o := by decide +kernel
  exact key o (cand_mem h)
theorem fmt_len (o : OpV) : (fmtO o).length ≤ 12 := by
  unfold fmtO dg
  have := wordK_len o.kind
  split <;> simp <;> omega
theorem ops_parts {s : Txt} {l : List OpV} (h : isOps s l) (hs : s ≠ []) : Lib.split s cs2 = l.map fmtO := by
  obtain ⟨h1, rfl⟩ := h
  refine split_join2 (fun e => hs ?_) fun p hp => ?_
  · unfold joinO; rw [e]; rfl
  · obtain ⟨o, ho, rfl⟩ := List.mem_map.1 hp
    exact fmt_no (h1.ok o ho)
theorem ops_one {s : Txt} {l l' : List OpV} (h : isOps s l) (h' : isOps s l') : l = l' := by
  by_cases hs : s = []
  · have nil : ∀ {l : List OpV}, isOps s l → l = [] := fun {l} h => by
      cases l with
      | nil => rfl
      | cons o l =>
        exfalso
        have e := h.2
        unfold joinO at e
        rw [hs, List.map_cons, Lib.join_cons] at e
        exact fmt_ne (List.append_eq_nil_iff.1 e).1
    rw [nil h, nil h']
  · have e := (ops_parts h hs).symm.trans (ops_parts h' hs)
    have hl : l.length = l'.length := by simpa using congrArg List.length e
    refine List.ext_getElem hl fun i h1 h2 => ?_
    have ei : (l.map fmtO)[i]? = (l'.map fmtO)[i]? := by rw [e]
    simp [h1, h2] at ei
    exact fmt_inj (h.1.ok _ (List.getElem_mem h1)) (h'.1.ok _ (List.getElem_mem h2)) ei
theorem words_eq (k : Int) (h1 : 1 ≤ k) (h7 : k ≤ 7) : gS [([] : List UInt8), [110, 101, 119], [99, 111, 112, 121], [108, 101, 102, 116], [114, 105, 103, 104, 116], [112, 117, 116, 108, 101, 102, 116], [112, 117, 116, 114, 105, 103, 104, 116], [99, 108, 101, 97, 114]] k = wordK k := by
  rcases (show k = 1 ∨ k = 2 ∨ k = 3 ∨ k = 4 ∨ k = 5 ∨ k = 6 ∨ k = 7 by omega) with rfl | rfl | rfl | rfl | rfl | rfl | rfl <;> decide
theorem L_FormatOpI {k a b : Int} {K : List UInt8 → Prop} (hy : opOk ⟨k, a, b⟩ 3 → K (fmtO ⟨k, a, b⟩)) (hn : ¬ opOk ⟨k, a, b⟩ 3 → K []) : Mi_FormatOp k a b K := by
  refine L_iOpValid (q := 3) rfl (br (fun e => hn (by simpa using e)) fun e => ?_)
  have ho : opOk ⟨k, a, b⟩ 3 := by simpa using e
  replace hy := hy ho
  have k1 := ho.k1; have k7 := ho.k7; have a0 := ho.a0; have a3 := ho.a3; have b0 := ho.b0; have b3 := ho.b3
  simp only at k1 k7 a0 a3 b0 b3
  have hw := wordK_len k
  have d1 : Lib.decDigits a.toNat = dg a := by rw [dec1 (by omega)]; rfl
  have d2 : Lib.decDigits b.toNat = dg b := by rw [dec1 (by omega)]; rfl
  unfold fmtO at hy
  refine ⟨⟨by omega, show k < 8 by omega⟩, ?_⟩
  simp only [words_eq k k1 k7]
  refine ⟨by simp; omega, L_Itoa a0 (by omega) ?_⟩
  rw [d1]
  refine ⟨by simp [dg]; omega, br (fun e1 => br (fun e2 => L_Itoa b0 (by omega) ?_) fun e2 => ?_) fun e1 => ?_⟩
  · rw [d2]
    have e1 := bne_iff_ne.1 e1; have e2 := bne_iff_ne.1 e2
    rw [if_neg (not_or.2 ⟨e1, e2⟩)] at hy
    refine ⟨by simp [dg], by simp [dg]; omega, ?_⟩
    rw [← List.append_assoc]; exact hy
  · have e2 := bne_eq_false_iff_eq.1 e2
    rw [if_pos (.inr e2)] at hy; exact hy
  · have e1 := bne_eq_false_iff_eq.1 e1
    rw [if_pos (.inl e1)] at hy; exact hy
theorem L_ParseOpI {s : List UInt8} {K : Int → Int → Int → Bool → Prop} (hy : ∀ o, parse1 s = some o → K o.kind o.a o.b true) (hn : parse1 s = none → K 0 0 0 false) : Mi_ParseOp s K := by
  refine LoopP_for (fun i st => st = (s, 1 + (i : Int), 0, 0, 0) ∧ ∀ o, opOk o 3 → o.kind < 1 + (i : Int) → fmtO o ≠ s) 7 ⟨rfl, fun o ho h => by have := ho.k1; omega⟩ ?_ ?_
  · rintro i _ hi ⟨rfl, hj⟩ Kb hKb
    refine br_t (by simp; omega) ?_
    refine LoopP_for (fun j st => st = (s, 1 + (i : Int), (j : Int), 0, 0, 0) ∧ ∀ o, opOk o 3 → o.kind = 1 + (i : Int) → o.a < (j : Int) → fmtO o ≠ s) 3 ⟨rfl, fun o ho _ h => by have := ho.a0; omega⟩ ?_ ?_
    · rintro j _ hj2 ⟨rfl, hj3⟩ Kb2 hKb2
      refine br_t (by simp; omega) ?_
      refine LoopP_for (fun m st => st = (s, 1 + (i : Int), (j : Int), (j : Int), (m : Int), 0, 0, 0) ∧ ∀ o, opOk o 3 → o.kind = 1 + (i : Int) → o.a = (j : Int) → o.b < (m : Int) → fmtO o ≠ s) 3 ⟨rfl, fun o ho _ _ h => by have := ho.b0; omega⟩ ?_ ?_
      · rintro m _ hm ⟨rfl, hm2⟩ Kb3 hKb3
        have next : (∀ o, opOk o 3 → o.kind = 1 + (i : Int) → o.a = (j : Int) → o.b = (m : Int) → fmtO o ≠ s) → Kb3 (s, 1 + (i : Int), (j : Int), (j : Int), iadd (m : Int) 1, 0, 0, 0) := fun h => hKb3 _ ⟨by rw [iadd_nat (by omega)], fun o ho h1 h2 h3 => by
          rcases Int.lt_or_eq_of_le (show o.b ≤ (m : Int) by omega) with q | q
          · exact hm2 o ho h1 h2 q
          · exact h o ho h1 h2 q⟩
        refine br_t (by simp; omega) (br (fun e => L_FormatOpI (fun hok => br (fun e2 => hy ⟨1 + (i : Int), (j : Int), (m : Int)⟩ (parse1_some.2 ⟨hok, by simpa using e2⟩)) fun e2 => next fun o ho h1 h2 h3 => ?_) fun hok => br_f ?_ (next fun o ho h1 h2 h3 => ?_)) fun e => next fun o ho h1 h2 h3 => ?_)
        · have e2 : fmtO ⟨1 + (i : Int), (j : Int), (m : Int)⟩ ≠ s := by simpa using e2
          obtain ⟨k, a, b⟩ := o
          simp only at h1 h2 h3
          rw [h1, h2, h3]; exact e2
        · have e : s ≠ [] := by simpa using e
          simpa using e
        · obtain ⟨k, a, b⟩ := o
          simp only at h1 h2 h3
          rw [h1, h2, h3] at ho
          exact absurd ho hok
        · have e : s = [] := by simpa using e
          rw [e]; exact fmt_ne
      · rintro _ ⟨rfl, hm2⟩ Kb3
        refine br_f (by simp) (hKb2 _ ⟨by rw [iadd_nat (by omega)], fun o ho h1 h2 => ?_⟩)
        rcases Int.lt_or_eq_of_le (show o.a ≤ (j : Int) by omega) with q | q
        · exact hj3 o ho h1 q
        · exact hm2 o ho h1 q ho.b3
    · rintro _ ⟨rfl, hj3⟩ Kb2
      refine br_f (by simp) (hKb _ ⟨?_, fun o ho h1 => ?_⟩)
      · show (s, iadd (1 + (i : Int)) 1, (0 : Int), (0 : Int), (0 : Int)) = _
        rw [iadd_eq (by omega) (by omega)]
        simp only [Prod.mk.injEq, and_true, true_and]; omega
      · rcases Int.lt_or_eq_of_le (show o.kind ≤ 1 + (i : Int) by omega) with q | q
        · exact hj o ho q
        · exact hj3 o ho q ho.a3
  · rintro _ ⟨rfl, hj⟩ Kb
    exact br_f (by simp) (hn (parse1_none.2 fun o ho => hj o ho (by have := ho.k7; omega)))
theorem split2_len {s : Txt} : (Lib.split s cs2).length ≤ s.length + 1 := by
  have h := Lib.splitB_all ⟨cs2.toArray⟩ (by decide) 0 _ ⟨s.toArray⟩ rfl
  have h2 := Lib.countB_le ⟨cs2.toArray⟩ (by decide) s.length ⟨s.toArray⟩ (by simp [ByteArray.size])
  have e : Lib.split s cs2 = (Lib.splitB ⟨cs2.toArray⟩ 0 (Lib.countB ⟨s.toArray⟩ ⟨cs2.toArray⟩) ⟨s.toArray⟩).map (·.data.toList) := by rw [Lib.splitB_data, countB_list]; rfl
  rw [e, List.length_map, h]
  simp [ByteArray.size] at h2
  omega
theorem L_ParseOpsI {s : Txt} {K : Bool → List OpV → Prop} (hs : s.length < 2 ^ 31) (hy : ∀ l, isOps s l → K true l) (hn : (∀ l, ¬ isOps s l) → K false []) : Mi_ParseOps s K := by
  refine br (fun e => ?_) fun e => ?_
  · have e : s = [] := beq_iff_eq.1 e
    exact hy [] ⟨⟨by simp, by simp⟩, by rw [e]; rfl⟩
  have hne : s ≠ [] := by simpa using e
  refine L_Split (by omega) (by decide) ?_
  have hj := join_split (sep := cs2) (by decide) s.length s (Nat.le_refl _)
  have hp : ∀ l, isOps s l → Lib.split s cs2 = l.map fmtO := fun l h => ops_parts h hne
  have hsl := split2_len (s := s)
  generalize hps : Lib.split s cs2 = ps at hj hsl hp
  refine LoopP_for (fun i st => ∃ out : List OpV, st = (len ps, (i : Int), out, ps) ∧ i ≤ 12 ∧ out.length = i ∧ out.map fmtO = ps.take i ∧ ∀ o ∈ out, opOk o 3) ps.length ⟨[], rfl, by omega, rfl, rfl, by simp⟩ ?_ ?_
  · rintro i _ hi ⟨out, rfl, h12, hl, hm, ho⟩ Kb hKb
    refine br_t (by simp [len_eq]; exact hi) ⟨by rw [inB_nat]; exact hi, ?_⟩
    simp only [gS_nat]
    have hg : ps.getD i [] = ps[i] := getD_lt hi
    refine L_ParseOpI (fun o hok => br_f rfl (br (fun e => hn fun l h => ?_) fun e => ⟨by simp; omega, hKb _ ⟨out ++ [o], by rw [iadd_nat (by omega)], ?_, by simp; omega, ?_, fun q hq => ?_⟩⟩)) fun hno => br_t rfl (hn fun l h => ?_)
    · have e := beq_iff_eq.1 e
      simp only [len_eq] at e
      have := congrArg List.length (hp l h)
      have h13 := h.1.len
      simp at this; omega
    · have e := beq_eq_false_iff_ne.1 e
      simp only [len_eq] at e; omega
    · rw [List.map_append, hm, List.take_add_one, List.getElem?_eq_getElem hi]
      have e3 : fmtO o = ps[i] := (parse1_some.1 hok).2.trans hg
      rw [List.map_cons, List.map_nil, e3]; rfl
    · rcases List.mem_append.1 hq with hq | hq
      · exact ho q hq
      · rw [List.mem_singleton.1 hq]; exact (parse1_some.1 hok).1
    · have e := hp l h
      have hil : i < l.length := by have := congrArg List.length e; simp at this; omega
      have ei : ps[i]? = (l.map fmtO)[i]? := by rw [e]
      rw [List.getElem?_eq_getElem hi, List.getElem?_map, List.getElem?_eq_getElem hil] at ei
      simp at ei
      exact parse1_none.1 hno l[i] (h.1.ok _ (List.getElem_mem hil)) (by rw [hg, ei])
  · rintro _ ⟨out, rfl, h12, hl, hm, ho⟩ Kb
    refine br_f (by simp [len_eq]) (hy out ⟨⟨ho, by omega⟩, ?_⟩)
    rw [List.take_length] at hm
    unfold joinO
    rw [hm]; exact hj
theorem partsO_map : ∀ {ts : List Txt} {l : List OpV}, partsO false ts = some l ↔ (∀ o ∈ l, opOk o 3) ∧ ts = l.map fun o => 32 :: fmtO o
  | [], l => by
    cases l with
    | nil => simp [partsO]
    | cons o l => simp [partsO]
  | t :: ts, l => by
    simp only [partsO, Option.bind_eq_some_iff, Option.map_eq_some_iff]
    constructor
    · rintro ⟨o, ho, l', hl, rfl⟩
      obtain ⟨h1, h2⟩ := partsO_map.1 hl
      cases t with
      | nil => simp [partO] at ho
      | cons c t =>
        simp only [partO] at ho
        split at ho
        · rename_i hc
          have := parse1_some.1 ho
          refine ⟨fun q hq => ?_, ?_⟩
          · rcases List.mem_cons.1 hq with rfl | hq
            · exact this.1
            · exact h1 q hq
          · rw [List.map_cons, ← h2, this.2, hc]
        · cases ho
    · rintro ⟨h1, h2⟩
      cases l with
      | nil => simp at h2
      | cons o l =>
        rw [List.map_cons] at h2
        obtain ⟨e1, e2⟩ := List.cons.inj h2
        refine ⟨o, ?_, l, partsO_map.2 ⟨fun q hq => h1 q (by simp [hq]), e2⟩, rfl⟩
        rw [e1]
        simp only [partO, if_true]
        exact parse1_some.2 ⟨h1 o (by simp), rfl⟩
theorem jt_32 : ∀ (r : List Txt), Lib.joinTail [44] (r.map (32 :: ·)) = Lib.joinTail cs2 r
  | [] => rfl
  | q :: r => by
    have := jt_32 r
    simp [Lib.joinTail] at this ⊢
    rw [this]
theorem parseO_iff {s : Txt} {l : List OpV} : parseO s = some l ↔ isOps s l := by
  unfold parseO
  by_cases hs : s = []
  · rw [if_pos hs]
    constructor
    · intro h; cases h
      exact ⟨⟨by simp, by simp⟩, by rw [hs]; rfl⟩
    · intro h
      rw [ops_one h (l' := []) ⟨⟨by simp, by simp⟩, by rw [hs]; rfl⟩]
  rw [if_neg hs, cutS_split]
  have back : ∀ {o : OpV} {r : List OpV}, Lib.split s [44] = fmtO o :: r.map (fun o => 32 :: fmtO o) → joinO (o :: r) = s := fun {o r} h => by
    have hj := join_split (sep := [44]) (by decide) s.length s (Nat.le_refl _)
    rw [h, Lib.join_cons] at hj
    unfold joinO
    rw [List.map_cons, Lib.join_cons, ← jt_32]
    rw [List.map_map]
    exact hj
  constructor
  · intro h
    split at h
    · cases h
    · rename_i h12
      cases hp : Lib.split s [44] with
      | nil => exact absurd hp (split_ne _ _)
      | cons t ts =>
        rw [hp] at h h12
        simp only [partsO, Option.bind_eq_some_iff, Option.map_eq_some_iff] at h
        obtain ⟨o, ho, l', hl, rfl⟩ := h
        obtain ⟨h1, h2⟩ := partsO_map.1 hl
        simp only [partO] at ho
        have := parse1_some.1 ho
        rw [← this.2, h2] at hp
        refine ⟨⟨fun q hq => ?_, ?_⟩, back hp⟩
        · rcases List.mem_cons.1 hq with rfl | hq
          · exact this.1
          · exact h1 q hq
        · have := congrArg List.length h2
          simp at this h12 ⊢; omega
  · intro h
    obtain ⟨hok, hj⟩ := h
    cases l with
    | nil => exact absurd hj.symm hs
    | cons o r =>
      have hp : Lib.split s [44] = fmtO o :: r.map (fun o => 32 :: fmtO o) := by
        rw [← hj]
        unfold joinO
        rw [List.map_cons, Lib.join_cons, ← jt_32, List.map_map]
        have := split_back (c := 44) (ps := r.map fun o => 32 :: fmtO o) (t := fmtO o) (fmt_no (hok.ok o (by simp))) fun p hp => by
          obtain ⟨q, hq, rfl⟩ := List.mem_map.1 hp
          simp only [List.mem_cons, not_or]
          exact ⟨by decide, fmt_no (hok.ok q (by simp [hq]))⟩
        have e : Lib.joinTail [44] (r.map ((fun x => 32 :: x) ∘ fmtO)) = (r.map fun o => 32 :: fmtO o).flatMap (fun p => [44] ++ p) := by
          unfold Lib.joinTail
          rw [List.flatMap_def]; rfl
        rw [e]; exact this
      rw [hp]
      have h12 := hok.len
      rw [if_neg (by simp at h12 ⊢; omega)]
      simp only [partsO, Option.bind_eq_some_iff, Option.map_eq_some_iff]
      exact ⟨o, parse1_some.2 ⟨hok.ok o (by simp), rfl⟩, r, partsO_map.2 ⟨fun q hq => hok.ok q (by simp [hq]), rfl⟩, rfl⟩
theorem L_ParseOpsS {s : Txt} {K : Bool → List OpV → Prop} (hs : s.length < 2 ^ 30) (hy : ∀ l, isOps s l → K true l) (hn : (∀ l, ¬ isOps s l) → K false []) : Ms_ParseOps s K :=
  L_ParseOpsE hs (fun l h => hy l (parseO_iff.1 h)) fun h => hn fun l q => by rw [parseO_iff.2 q] at h; cases h
theorem lens_fmt : ∀ (l : List OpV), Lib.lens (l.map fmtO) ≤ 12 * l.length
  | [] => by simp [Lib.lens]
  | o :: l => by
    have := lens_fmt l
    have h2 := fmt_len o
    simp [Lib.lens] at this ⊢
    omega
theorem L_FormatOpsI {l : List OpV} {K : Txt → Prop} (h : OpsP l 3) (hK : K (joinO l)) : Mi_FormatOps l K := by
  have h12 := h.len
  refine L_opsOk (q := 3) rfl (by omega) (br_f (by simp [h]) ?_)
  refine LoopP_for (fun i st => st = (l, len l, (i : Int), (l.take i).map fmtO)) l.length rfl ?_ ?_
  · rintro i _ hi rfl Kb hKb
    refine br_t (by simp [len_eq]; exact hi) ⟨by rw [inB_nat]; exact hi, ?_⟩
    have hm : gO l (i : Int) ∈ l := gO_mem (by omega) (by omega)
    have ho := h.ok _ hm
    have hg : gO l (i : Int) = l[i] := by rw [gO_nat, getD_lt hi]
    refine L_FormatOpI (fun _ => ⟨by simp; omega, hKb _ ?_⟩) fun q => absurd ho q
    rw [iadd_nat (by omega), List.take_add_one, List.getElem?_eq_getElem hi, List.map_append, ← hg]
    rfl
  · rintro _ rfl Kb
    refine br_f (by simp [len_eq]) ?_
    simp only [List.take_length]
    refine ⟨⟨by simp; omega, ?_⟩, hK⟩
    cases l with
    | nil => simp [Lib.join_nil]
    | cons o r =>
      rw [List.map_cons, Lib.join_length]
      have := lens_fmt (o :: r)
      rw [List.map_cons] at this
      simp at h12 this ⊢
      omega
theorem L_iClears {l r ro fr cs : List Int} {K : List Int → List Int → List Int → List Int → Prop} (hv : HVp l r ro) (hc : ∀ c ∈ cs, 0 ≤ c ∧ c < l.length) (hl : fr.length + cs.length ≤ 100) (hK : (fun s : StoreV => K s.h.l s.h.r s.h.ro s.free) (cs.foldl clearS ⟨⟨l, r, ro⟩, fr⟩)) : Mi_Store_clear cs l r ro fr K := by
  have h8 := hv.l8; have hlr := hv.lr
  refine LoopP_for (fun i st => ∃ S : StoreV, S = (cs.take i).foldl clearS ⟨⟨l, r, ro⟩, fr⟩ ∧ S.h.l.length = l.length ∧ S.h.r.length = l.length ∧ S.free.length = fr.length + i ∧ st = (cs, len cs, (i : Int), S.h.l, S.h.r, S.h.ro, S.free)) cs.length ⟨_, rfl, rfl, hlr.symm, rfl, rfl⟩ ?_ ?_
  · rintro i _ hi ⟨S, hS, e1, e2, e3, rfl⟩ Kb hKb
    obtain ⟨c0, c1⟩ := hc _ (getD_mem 0 hi)
    have next : ∀ st, st = (cs, len cs, ((i + 1 : Nat) : Int), clrP S.h.l (cs.getD i 0), clrP S.h.r (cs.getD i 0), S.h.ro, S.free ++ [cs.getD i 0]) → Kb st := fun st e => hKb _ ⟨clearS S (cs.getD i 0), by rw [List.take_add_one, List.getElem?_eq_getElem hi, List.foldl_append, ← hS, getD_lt hi]; rfl, by show (clrP _ _).length = _; rw [clrP_len]; exact e1, by show (clrP _ _).length = _; rw [clrP_len]; exact e2, by show (S.free ++ [_]).length = _; simp; omega, e⟩
    refine br_t (by simp [len_eq]; exact hi) ⟨by rw [inB_nat]; exact hi, ?_⟩
    simp only [gI_nat]
    generalize cs.getD i 0 = c at c0 c1 next ⊢
    obtain ⟨⟨L0, R0, RO⟩, FR⟩ := S
    simp only at e1 e2 e3 next
    clear hKb hS hK
    have h0 := c0
    have hc1 : c < L0.length := by omega
    have hcr : c < R0.length := by omega
    refine ⟨⟨h0, hc1⟩, ⟨h0, hcr⟩, ?_⟩
    show LoopP _ (c, cs, len cs, (i : Int), len (L0.set c.toNat (-1)), (0 : Int), L0.set c.toNat (-1), R0.set c.toNat (-1), RO, FR) _
    rw [← clrP_set h0 hc1, ← clrP_set h0 hcr] at next
    have hL : (L0.set c.toNat (-1)).length = l.length := by rw [List.length_set]; exact e1
    have hR : (R0.set c.toNat (-1)).length = l.length := by rw [List.length_set]; exact e2
    have cL : (L0.set c.toNat (-1)).getD c.toNat 0 = -1 := by rw [List.getD_eq_getElem?_getD, List.getElem?_set, if_pos rfl, if_pos (by omega)]; rfl
    have cR : (R0.set c.toNat (-1)).getD c.toNat 0 = -1 := by rw [List.getD_eq_getElem?_getD, List.getElem?_set, if_pos rfl, if_pos (by omega)]; rfl
    generalize L0.set c.toNat (-1) = L at hL cL next ⊢
    generalize R0.set c.toNat (-1) = R at hR cR next ⊢
    have same : ∀ (q : List Int) (i : Nat), i < q.length → q.getD c.toNat 0 = -1 → q.getD i 0 ≠ c → clrI q c i = clrI q c (i + 1) := fun q i hi hq hne => by
      refine clrI_same hi ?_
      rw [clrP_getD hi]
      split
      · rename_i hh
        rcases hh with hh | hh
        · rw [← hq, ← hh]; rfl
        · exact absurd hh hne
      · rfl
    refine LoopP_for (fun j s => s = (c, cs, len cs, (i : Int), len L, (j : Int), clrI L c j, clrI R c j, RO, FR)) L.length (by rw [clrI_zero, clrI_zero]; rfl) ?_ ?_
    · rintro j _ hj rfl Kb2 hKb2
      have hjR : j < R.length := by omega
      have nxt : ∀ L' R', L' = clrI L c (j + 1) → R' = clrI R c (j + 1) → Kb2 (c, cs, len cs, (i : Int), len L, iadd (j : Int) 1, L', R', RO, FR) := fun L' R' e1 e2 => hKb2 _ (by rw [iadd_nat (by omega), e1, e2])
      refine br_t (by simp [len_eq]; exact hj) ⟨by rw [inB_nat, clrI_len]; exact hj, ?_⟩
      simp only [gI_nat, uL_nat]
      rw [clrI_at hj, clrI_at hjR]
      have right : ∀ L', L' = clrI L c (j + 1) → (inB (j : Int) (List.length (clrI R c j)) ∧ (((R.getD j 0 == c) = true → (inB (j : Int) (List.length (clrI R c j)) ∧ Kb2 (c, cs, len cs, (i : Int), len L, iadd (j : Int) 1, L', (clrI R c j).set j (-1), RO, FR))) ∧ ((R.getD j 0 == c) = false → Kb2 (c, cs, len cs, (i : Int), len L, iadd (j : Int) 1, L', clrI R c j, RO, FR)))) := fun L' hL' =>
        ⟨by rw [inB_nat, clrI_len]; exact hjR, br (fun e => ⟨by rw [inB_nat, clrI_len]; exact hjR, nxt _ _ hL' (clrI_set hjR (.inr (beq_iff_eq.1 e)))⟩) fun e => nxt _ _ hL' (same R j hjR cR (beq_eq_false_iff_ne.1 e))⟩
      exact br (fun e => ⟨by rw [inB_nat, clrI_len]; exact hj, right _ (clrI_set hj (.inr (beq_iff_eq.1 e)))⟩) fun e => right _ (same L j hj cL (beq_eq_false_iff_ne.1 e))
    · rintro _ rfl Kb2
      refine br_f (by simp [len_eq]) ⟨by simp; omega, ?_⟩
      rw [clrI_all, show L.length = R.length by omega, clrI_all]
      exact next _ (by rw [iadd_nat (by omega)])
  · rintro _ ⟨S, rfl, e1, e2, e3, rfl⟩ Kb
    rw [List.take_length]
    exact br_f (by simp [len_eq]) hK
theorem clears_valid : ∀ {cs : List Int} {s : StoreV}, SV s → cs.Nodup → (∀ c ∈ cs, 0 ≤ c ∧ c < s.h.l.length ∧ ¬ live s c ∧ c ∉ s.free) → SV (cs.foldl clearS s) ∧ (cs.foldl clearS s).h.ro = s.h.ro
  | [], _, h, _, _ => ⟨h, rfl⟩
  | c :: cs, s, h, hn, hc => by
    obtain ⟨c0, c1, c2, c3⟩ := hc c (by simp)
    have hro : c ∉ s.h.ro := fun hm => c2 (live_root h hm (by omega))
    have hn := List.nodup_cons.1 hn
    have := clears_valid (clear_valid h c0 c1 hro c3) hn.2 fun x hx => by
      obtain ⟨x0, x1, x2, x3⟩ := hc x (by simp [hx])
      refine ⟨x0, by show x < (clrP _ _).length; rw [clrP_len]; exact x1, fun q => x2 ((live_clear h c0 c1 c2 c3 x).1 q), fun q => ?_⟩
      rcases List.mem_append.1 q with q | q
      · exact x3 q
      · rw [List.mem_singleton.1 q] at hx; exact hn.1 hx
    exact this
theorem L_CollectStore {l r ro : List Int} {K : Bool → List Int → List Int → List Int → List Int → Prop} (hv : HVp l r ro) (hK : ∀ s : StoreV, SV s → s.h.ro = ro → K true s.h.l s.h.r s.h.ro s.free) : Mi_CollectStore l r ro [] K := by
  have hs : SVp l r ro [] := ⟨hv, ⟨by simp, by simp⟩, by simp⟩
  have h8 := hv.l8
  refine L_iStoreValid (by simp) (br_f (by simp [hs]) (L_LeakedOf hs (L_again hv (by simp) ?_)))
  have hm : ∀ c ∈ (garbF l r ro).filter fun x => decide (x ∉ ([] : List Int)), 0 ≤ c ∧ c < l.length ∧ ¬ live ⟨⟨l, r, ro⟩, []⟩ c ∧ c ∉ ([] : List Int) := fun c h => by
    have h := (List.mem_filter.1 h).1
    unfold garbF filtU at h
    simp only [List.mem_map, List.mem_filter, List.mem_range] at h
    obtain ⟨i, ⟨hi, hn⟩, rfl⟩ := h
    exact ⟨by omega, by omega, by simpa [live] using hn, by simp⟩
  have hnd : ((garbF l r ro).filter fun x => decide (x ∉ ([] : List Int))).Nodup := by
    refine List.Nodup.sublist List.filter_sublist ?_
    unfold garbF filtU
    refine List.Pairwise.map _ (fun a b h => ?_) (List.Nodup.sublist List.filter_sublist (List.nodup_range (n := l.length)))
    intro e; exact h (by omega)
  have hg : ((garbF l r ro).filter fun x => decide (x ∉ ([] : List Int))).length ≤ 8 := by
    refine Nat.le_trans (List.length_filter_le _ _) ?_
    unfold garbF filtU
    rw [List.length_map]
    exact Nat.le_trans (List.length_filter_le _ _) (by simp; omega)
  generalize (garbF l r ro).filter (fun x => decide (x ∉ ([] : List Int))) = cs at hm hnd hg ⊢
  have := clears_valid (s := ⟨⟨l, r, ro⟩, []⟩) hs hnd hm
  exact L_iClears hv (fun c h => ⟨(hm c h).1, (hm c h).2.1⟩) (by simp; omega) (hK _ this.1 this.2)
theorem no_sv {r ro fr : List Int} : ¬ SVp [] r ro fr := fun h => by have := h.h.l1; simp at this
theorem L_iNewGc {l r ro fr : List Int} {K : Int → Int → Bool → List Int → Prop} (hv : SVp l r ro fr) (hK : K 0 0 true (List.replicate l.length 0)) : Mi_NewGc l r ro fr K := by
  have h8 := hv.h.l8; have f8 := hv.f8
  refine L_iStoreValid (by omega) (br_f (by simp [hv]) ⟨⟨by simp only [len_eq]; omega, rfl, by simp only [len_eq]; omega⟩, ?_⟩)
  rw [len_eq, Int.toNat_natCast]; exact hK
theorem L_iNewGc0 {r ro fr : List Int} (hf : fr.length ≤ 8) {K : Int → Int → Bool → List Int → Prop} (hK : K 0 0 false []) : Mi_NewGc [] r ro fr K := L_iStoreValid (by omega) (br_t (by simp [no_sv]) hK)
theorem L_iNewBoth0 {r ro fr : List Int} {ops : List OpV} (hf : fr.length ≤ 8) {K : Int → Int → Int → Bool → Bool → List Int → List Int → List Int → List Int → List Int → List OpV → Prop} (hK : K 0 0 0 false false [] [] [] [] [] []) : Mi_NewBoth [] r ro fr ops K := L_iNewGc0 hf (br_t rfl hK)
theorem L_CollectStore0 {r ro : List Int} {K : Bool → List Int → List Int → List Int → List Int → Prop} (hK : K false [] [] [] []) : Mi_CollectStore [] r ro [] K := L_iStoreValid (by simp) (br_t (by simp [no_sv]) hK)
theorem L_iNewBoth {l r ro fr : List Int} {ops : List OpV} {K : Int → Int → Int → Bool → Bool → List Int → List Int → List Int → List Int → List Int → List OpV → Prop} (ho : ops.length ≤ 12) (hv : SVp l r ro fr) (hy : OpsP ops ro.length → K 0 0 0 false true l r ro fr (List.replicate l.length 0) ops) (hn : ¬ OpsP ops ro.length → K 0 0 0 false false [] [] [] [] [] []) : Mi_NewBoth l r ro fr ops K := by
  have h8 := hv.h.l8; have f8 := hv.f8
  refine L_iNewGc hv (br_f rfl (L_opsOk rfl (by omega) (br (fun e => hn (by simpa using e)) fun e => ?_)))
  exact L_again hv.h (by omega) (L_Clone_Op (by omega) (hy (by simpa using e)))
theorem end_ok {b : BothV} (hv : BoP b) (hs : Safe b) : (endAll true b).lost = false ∧ (endAll true b).pos = (b.ops.length : Int) ∧ BoP (endAll true b) ∧ (endAll true b).g.phase = 0 ∧ doneS (endAll true b).s := by
  have v1 := finO_valid (bar := true) (n := restO b) hv
  have s1 := safe_fin (restO b) hv hs
  have e1 := finO_end (bar := true) (n := restO b) hv (Nat.le_refl _)
  have g := safe_gcN (mu 0 (allO true b) + 1) 0 v1 s1
  have i1 := v1.i1
  have h1 : (endAll true b).pos = (finO true (restO b) b).pos := g.2.1
  have h2 : (endAll true b).ops = (finO true (restO b) b).ops := g.2.2.1
  have h3 := (fin_lost (bar := true) (restO b) (b := b)).2
  have ed := endB_done _ 0 (allO true b) (Nat.lt_succ_self _) v1 (.inl rfl) g.1.l
  refine ⟨g.1.l, ?_, g.2.2.2, ed⟩
  rw [h1, ← h3]
  have : ¬ (finO true (restO b) b).pos < (finO true (restO b) b).ops.length := fun q => e1 ⟨s1.l, q⟩
  omega
theorem ev_no {sched : Txt} {hb nb lost : Bool} {ops ops0 : List OpV} {ph a i : Int} {l r ro fr col : List Int} {K : Bool → Prop} (hn : ¬ (BoP ⟨⟨⟨l, r, ro⟩, fr⟩, ⟨ph, col, a⟩, ops0, i, lost⟩ ∧ sched.length ≤ 100 ∧ schOk sched)) (hK : K true) :
    Ml_FnEverySchedule_c10 sched hb hb nb false ops ph a i lost 0 0 0 false l r ro fr col ops0 [] [] [] [] [] [] K := by
  refine L_sRunBoth (fun _ => ?_) fun a b c => absurd ⟨a, b, c⟩ hn
  refine br_f (by simp) (L_BothSame_same (by simp) (by simp) (by simp) (by simp) (by simp) (by simp) (br_f rfl (br_f rfl (br_f rfl (br_t rfl (L_FormatNone ?_))))))
  exact hK
theorem ev_zero {sched : Txt} {hb : Bool} {ops : List OpV} {K : Bool → Prop} (hK : K true) :
    Mi_RunBoth [] [] [] [] 0 [] 0 [] 0 false sched true fun y32 y33 y34 y35 y36 y37 y38 y39 y40 y41 y42 => Ml_FnEverySchedule_c10 sched hb hb false y36 ops 0 0 0 false y32 y33 y34 y35 [] [] [] [] [] [] y37 y38 y39 y40 y41 y42 K := by
  refine L_iRunBoth (by simp) (by simp) (by simp) (fun q => ev_no q hK) fun h => ?_
  exact absurd h.g.sv no_sv
theorem ev_c7 {sched : Txt} {hb : Bool} {ops : List OpV} {l r ro : List Int} {K : Bool → Prop} (ho : ops.length ≤ 12) (h : (hb = true ∧ HVp l r ro) ∨ (hb = false ∧ l = [] ∧ r = [] ∧ ro = [])) (hK : K true) : Ml_FnEverySchedule_c7 sched hb ops l r ro K := by
  rcases h with ⟨rfl, hv⟩ | ⟨rfl, rfl, rfl, rfl⟩
  · refine L_CollectStore hv fun s hs hro => L_iNewBoth ho hs (fun hops => ?_) fun _ => ev_zero hK
    have fm := fresh_mk hs hops
    obtain ⟨⟨l', r', ro'⟩, fr'⟩ := s
    dsimp only at fm ⊢
    have sm := fm.v.small
    dsimp only at sm
    have hsafe := safe0 fm.lost fm.ph
    refine L_iRunBoth (by omega) (by omega) (by omega) (fun q => ev_no q hK) fun _ hs1 hs2 => ?_
    refine L_sRunBoth (fun q => absurd ⟨fm.v, hs1, hs2⟩ q) fun _ _ _ => ?_
    have xv := runB_valid true sched fm.v
    have xs := runB_safe sched fm.v hsafe
    have xo := runB_ops true sched ⟨⟨⟨l', r', ro'⟩, fr'⟩, ⟨0, List.replicate l'.length 0, 0⟩, ops, 0, false⟩
    generalize runB ⟨⟨⟨l', r', ro'⟩, fr'⟩, ⟨0, List.replicate l'.length 0, 0⟩, ops, 0, false⟩ true sched = x at xv xs xo ⊢
    have ex := end_ok xv xs
    have sx := xv.small
    have xl := xs.l
    obtain ⟨⟨⟨L, R, RO⟩, FR⟩, ⟨PH, COL, A⟩, OPS, I, LOST⟩ := x
    dsimp only [KB] at ex sx xl xo ⊢
    subst xo xl
    refine br_f (by simp) (L_BothSame_same (by omega) (by omega) (by omega) (by omega) (by omega) (by omega) (br_f rfl (br_f rfl (br_t rfl (br_f rfl (br_f rfl ?_))))))
    refine L_iFinishBoth (by omega) (by omega) (by omega) (fun q => absurd xv q) fun _ => ?_
    obtain ⟨f1, f2, f3, f4, f5⟩ := ex
    generalize endAll true _ = z at f1 f2 f3 f4 f5 ⊢
    refine br_t rfl (br_t rfl (br_t (by rw [f1]; rfl) (br_t (by rw [f2]; simp [len_eq]) (br_t (by rw [f4]; rfl) (L_LeakedOf f3.g.sv ?_)))))
    rw [leaked_nil f5]; exact hK
  · refine L_CollectStore0 (L_iNewBoth0 (by simp) ?_)
    exact ev_zero hK
theorem law_FnEverySchedule {p q sched : Txt} (hp : p.length < 2 ^ 30) (hq : q.length < 2 ^ 30) {K : Bool → Prop} (hK : K true) : Ml_FnEverySchedule p q sched K := by
  have ops : ∀ {K : Bool → List OpV → Prop}, (∀ l, isOps q l → K true l) → ((∀ l, ¬ isOps q l) → K false []) → Mi_ParseOps q K := fun h1 h2 => L_ParseOpsI (by omega) h1 h2
  have hops : ∀ {K : Bool → List OpV → Prop}, (∀ l, isOps q l → K true l) → ((∀ l, ¬ isOps q l) → K false []) → Ms_ParseOps q K := fun h1 h2 => L_ParseOpsS hq h1 h2
  refine L_iParseHeapAny (by omega) (fun l r ro hv he => ?_) fun hn => ?_
  · have hheap : ∀ {K : Bool → List Int → List Int → List Int → Prop}, (∀ a b c, K true a b c) → Ms_ParseHeap p K := fun h => L_sParseHeapAny hp (fun a b c _ _ => h a b c) fun hno => absurd ⟨l, r, ro, hv, he⟩ hno
    refine ops (fun o h1 => ?_) fun h1 => ?_
    · refine hheap fun _ _ _ => hops (fun _ _ => ?_) fun h => absurd h1 (h o)
      refine br_f rfl (br_f rfl (br_t rfl (L_FormatHeap (fun _ => br_f (by rw [he]; simp) (br_t rfl (L_FormatOpsI h1.1 (br_f (by rw [h1.2]; simp) ?_)))) fun h => absurd hv h)))
      exact ev_c7 h1.1.len (.inl ⟨rfl, hv⟩) hK
    · refine hheap fun _ _ _ => hops (fun o h => absurd h (h1 o)) fun _ => ?_
      refine br_f rfl (br_f rfl (br_t rfl (L_FormatHeap (fun _ => br_f (by rw [he]; simp) (br_f rfl ?_)) fun h => absurd hv h)))
      exact ev_c7 (by simp) (.inl ⟨rfl, hv⟩) hK
  · have hheap : ∀ {K : Bool → List Int → List Int → List Int → Prop}, (∀ a b c, K false a b c) → Ms_ParseHeap p K := fun h => L_sParseHeapAny hp (fun a b c x y => absurd ⟨a, b, c, x, y⟩ hn) fun _ => h _ _ _
    refine ops (fun o h1 => ?_) fun h1 => ?_
    · refine hheap fun _ _ _ => hops (fun _ _ => ?_) fun h => absurd h1 (h o)
      refine br_f rfl (br_f rfl (br_f rfl (br_t rfl (L_FormatOpsI h1.1 (br_f (by rw [h1.2]; simp) ?_)))))
      exact ev_c7 h1.1.len (.inr ⟨rfl, rfl, rfl, rfl⟩) hK
    · refine hheap fun _ _ _ => hops (fun o h => absurd h (h1 o)) fun _ => ?_
      refine br_f rfl (br_f rfl (br_f rfl (br_f rfl ?_)))
      exact ev_c7 (by simp) (.inr ⟨rfl, rfl, rfl, rfl⟩) hK
end Go.Ab
