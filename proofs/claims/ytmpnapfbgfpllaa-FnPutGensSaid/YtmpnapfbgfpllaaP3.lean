/-
  What is proved here: both sides meet cells in the same order, and what is known of it. No condition beyond those written in each statement.
-/
import Derived.Test.YtmpnapfbgfpllaaP2
namespace Go.Ab
set_option linter.unusedVariables false
set_option linter.unusedSimpArgs false

theorem nodup_len : ∀ (n : Nat) (l : List Nat), l.Nodup → (∀ x ∈ l, x < n) → l.length ≤ n
  | 0, l, _, h => by
    cases l with
    | nil => simp
    | cons a l => exact absurd (h a (by simp)) (by omega)
  | n + 1, l, hn, h => by
    by_cases hm : n ∈ l
    · have h1 := nodup_len n (l.erase n) (hn.erase n) fun x hx => by
        have h2 := (List.Nodup.mem_erase_iff hn).1 hx
        have := h x h2.2
        omega
      rw [List.length_erase_of_mem hm] at h1
      omega
    · have := nodup_len n l hn fun x hx => by
        have h2 := h x hx
        have : x ≠ n := fun e => hm (e ▸ hx)
        omega
      omega
/-- Different cells of a heap of n cells. -/
structure CellsP (n : Nat) (s : List Int) : Prop where
  nd : s.Nodup
  ok : ∀ x ∈ s, 0 ≤ x ∧ x < n
instance (n : Nat) (s : List Int) : Decidable (CellsP n s) := decidable_of_iff (s.Nodup ∧ ∀ x ∈ s, 0 ≤ x ∧ x < n) ⟨fun ⟨a, b⟩ => ⟨a, b⟩, fun ⟨a, b⟩ => ⟨a, b⟩⟩
theorem CellsP.len {n : Nat} {s : List Int} (h : CellsP n s) : s.length ≤ n := by
  have h1 : (s.map Int.toNat).Nodup := by
    rw [List.nodup_iff_pairwise_ne, List.pairwise_map]
    refine (List.nodup_iff_pairwise_ne.1 h.nd).imp_of_mem ?_
    intro a b ha hb hab
    have := h.ok a ha; have := h.ok b hb
    omega
  have := nodup_len n _ h1 fun x hx => by
    obtain ⟨a, ha, rfl⟩ := List.mem_map.1 hx
    have := h.ok a ha
    omega
  simpa using this
theorem CellsP.get {n : Nat} {s : List Int} (h : CellsP n s) {i : Nat} (hi : i < s.length) : 0 ≤ s.getD i 0 ∧ s.getD i 0 < n := h.ok _ (getD_mem 0 hi)

/-- Where is this number in the list? -/
def atL (l : List Int) (x : Int) : Int := if x ∈ l then ((l.idxOf x : Nat) : Int) else -1
theorem idxOf_first : ∀ {l : List Int} {x : Int} {i : Nat}, i < l.length → l.getD i 0 = x → (∀ j, j < i → l.getD j 0 ≠ x) → l.idxOf x = i
  | [], x, i, h, _, _ => by simp at h
  | a :: l, x, 0, _, h, _ => by
    simp at h
    subst h
    simp
  | a :: l, x, i + 1, h, h1, h2 => by
    have ha : a ≠ x := by simpa using h2 0 (by omega)
    rw [List.idxOf_cons]
    have : (a == x) = false := by simpa using ha
    rw [this]
    simp only [cond_false]
    rw [idxOf_first (by simpa using h) (by simpa using h1) fun j hj => by simpa using h2 (j + 1) (by omega)]
theorem atL_some {l : List Int} {x : Int} {i : Nat} (h : i < l.length) (h1 : l.getD i 0 = x) (h2 : ∀ j, j < i → l.getD j 0 ≠ x) : atL l x = i := by
  unfold atL
  rw [if_pos (by rw [← h1]; exact getD_mem 0 h), idxOf_first h h1 h2]
theorem atL_none {l : List Int} {x : Int} (h : ∀ j, j < l.length → l.getD j 0 ≠ x) : atL l x = -1 := by
  unfold atL
  rw [if_neg]
  intro hm
  obtain ⟨i, hi, rfl⟩ := List.getElem_of_mem hm
  exact h i hi (getD_lt hi)
theorem atL_neg {l : List Int} {x : Int} : (atL l x < 0) ↔ x ∉ l := by
  unfold atL
  split
  · rename_i h; simp only [h, not_true, iff_false]; omega
  · rename_i h; simp [h]

theorem L_l10At {l : List Int} {x : Int} {K : Int → Prop} (hl : l.length < 2 ^ 62) (hK : K (atL l x)) : Ms_l10At l x K := by
  refine LoopP_for (fun i s => s = (l, x, (i : Int)) ∧ ∀ j, j < i → l.getD j 0 ≠ x) l.length ⟨rfl, by omega⟩ ?_ ?_
  · rintro i _ hi ⟨rfl, hj⟩ Kb hKb
    refine br_t (by simp [len_eq]; exact hi) ⟨by simp [inB_nat]; exact hi, br (fun h => ?_) fun h => hKb _ ⟨by rw [iadd_nat (by omega)], fun j hji => ?_⟩⟩
    · simp only [gI_nat, beq_iff_eq] at h
      rwa [atL_some hi h hj] at hK
    · simp only [gI_nat, beq_eq_false_iff_ne] at h
      rcases Nat.lt_succ_iff_lt_or_eq.1 hji with e | e
      · exact hj j e
      · subst e; exact h
  · rintro _ ⟨rfl, hj⟩ Kb
    refine br_f (by simp [len_eq]) ?_
    rwa [atL_none hj] at hK
theorem L_Index_int {l : List Int} {x : Int} {K : Int → Prop} (hl : l.length < 2 ^ 62) (hK : K (atL l x)) : M_Index_int l x K := by
  refine LoopP_for (fun i s => s = (l, x, len l, (i : Int)) ∧ ∀ j, j < i → l.getD j 0 ≠ x) l.length ⟨rfl, by omega⟩ ?_ ?_
  · rintro i _ hi ⟨rfl, hj⟩ Kb hKb
    refine br_t (by simp [len_eq]; exact hi) ⟨by simp [inB_nat]; exact hi, br (fun h => ?_) fun h => hKb _ ⟨by rw [iadd_nat (by omega)], fun j hji => ?_⟩⟩
    · simp only [gI_nat, beq_iff_eq] at h
      rwa [atL_some hi h.symm hj] at hK
    · simp only [gI_nat, beq_eq_false_iff_ne] at h
      rcases Nat.lt_succ_iff_lt_or_eq.1 hji with e | e
      · exact hj j e
      · subst e; exact fun e => h e.symm
  · rintro _ ⟨rfl, hj⟩ Kb
    refine br_f (by simp [len_eq]) ?_
    rwa [atL_none hj] at hK
theorem L_Contains_int {l : List Int} {x : Int} {K : Bool → Prop} (hl : l.length < 2 ^ 62) (hK : K (decide (x ∈ l))) : M_Contains_int l x K := by
  refine L_Index_int hl ?_
  have : decide (atL l x ≥ 0) = decide (x ∈ l) := by
    have := @atL_neg l x
    by_cases h : x ∈ l
    · simp only [h, not_true, iff_false] at this; simp [h]; omega
    · simp only [h, not_false_eq_true, iff_true] at this; simp [h]; omega
  rw [this]; exact hK

/-- A cell is met. -/
def meet (x : Int) (s : List Int) : List Int := if x ≠ -1 ∧ x ∉ s then s ++ [x] else s
theorem meet_len (x : Int) (s : List Int) : (meet x s).length ≤ s.length + 1 := by unfold meet; split <;> simp
theorem meet_pre (x : Int) (s : List Int) : ∃ t, meet x s = s ++ t := by
  unfold meet
  split
  · exact ⟨_, rfl⟩
  · exact ⟨[], by simp⟩
theorem meet_mem {x y : Int} {s : List Int} (h : y ∈ meet x s) : y ∈ s ∨ (y = x ∧ x ≠ -1) := by
  unfold meet at h
  split at h
  · rename_i hh
    rcases List.mem_append.1 h with h | h
    · exact .inl h
    · simp at h; exact .inr ⟨h, hh.1⟩
  · exact .inl h
theorem mem_meet {x : Int} {s : List Int} (h : x ≠ -1) : x ∈ meet x s := by
  unfold meet
  by_cases hs : x ∈ s
  · rw [if_neg (fun hh => hh.2 hs)]; exact hs
  · rw [if_pos ⟨h, hs⟩]; simp
theorem meet_in {x : Int} {s : List Int} (h : x = -1 ∨ x ∈ s) : meet x s = s := by
  unfold meet
  rw [if_neg]
  rintro ⟨a, b⟩
  rcases h with h | h
  · exact a h
  · exact b h
theorem CellsP.meet {n : Nat} {x : Int} {s : List Int} (h : CellsP n s) (hx : okP n x) : CellsP n (meet x s) := by
  refine ⟨?_, fun y hy => ?_⟩
  · unfold Ab.meet
    split
    · rename_i hh
      rw [List.nodup_append]
      exact ⟨h.nd, by simp, fun a ha b hb => by simp at hb; subst hb; exact fun e => hh.2 (e ▸ ha)⟩
    · exact h.nd
  · rcases meet_mem hy with hy | ⟨rfl, hne⟩
    · exact h.ok y hy
    · have := hx.1; exact ⟨by omega, hx.2⟩
theorem L_l10Meet {x : Int} {s : List Int} {K : List Int → Prop} (hs : s.length < 2 ^ 36) (hK : K (meet x s)) : Ms_l10Meet x s K := by
  refine br (fun h => L_l10At (by omega) (br (fun h1 => ⟨by omega, by simp; omega, ?_⟩) fun h1 => ?_)) fun h => ?_
  · have h1 := of_decide_eq_true h1
    rw [atL_neg] at h1
    simp at h
    rwa [meet, if_pos ⟨h, h1⟩] at hK
  · have h1 := of_decide_eq_false h1
    rw [atL_neg] at h1
    rwa [meet_in (.inr (Classical.byContradiction h1))] at hK
  · simp at h
    rwa [meet_in (.inl h)] at hK
def metL (ps s : List Int) : List Int := ps.foldl (fun s p => meet p s) s
theorem metL_len : ∀ (ps s : List Int), (metL ps s).length ≤ s.length + ps.length
  | [], s => by simp [metL]
  | p :: ps, s => by
    have h1 := metL_len ps (meet p s)
    have h2 := meet_len p s
    simp only [metL, List.foldl_cons, List.length_cons] at h1 ⊢
    omega
theorem metL_succ {ps s : List Int} {i : Nat} (h : i < ps.length) : metL (ps.take (i + 1)) s = meet (ps.getD i 0) (metL (ps.take i) s) := by
  unfold metL
  rw [List.take_add_one, List.getElem?_eq_getElem h, getD_lt h, List.foldl_append]
  rfl
theorem L_met {ps s : List Int} {K : List Int → Prop} (hs : s.length + ps.length < 2 ^ 36) (hK : K (metL ps s)) : Mi_met ps s K := by
  refine LoopP_for (fun i st => st = (ps, len ps, (i : Int), metL (ps.take i) s)) ps.length rfl ?_ ?_
  · rintro i _ hi rfl Kb hKb
    have e : iadd (i : Int) 1 = ((i + 1 : Nat) : Int) := iadd_nat (by omega)
    have h1 := metL_len (ps.take i) s
    have h2 : (ps.take i).length ≤ ps.length := by simp; omega
    refine br_t (by simp [len_eq]; exact hi) ⟨by simp [inB_nat]; exact hi, br (fun h => L_Contains_int (by dsimp only; omega) (br (fun h1 => ⟨by simp only [List.length_singleton]; omega, hKb _ ?_⟩) fun h1 => hKb _ ?_)) fun h => hKb _ ?_⟩
    · simp only [gI_nat, bne_iff_ne] at h h1 ⊢
      rw [e, metL_succ hi, meet, if_pos ⟨h, by simpa using h1⟩]
    · simp only [gI_nat, bne_iff_ne] at h h1 ⊢
      rw [e, metL_succ hi, meet_in (.inr (by simpa using h1))]
    · simp only [gI_nat, bne_eq_false_iff_eq] at h ⊢
      rw [e, metL_succ hi, meet_in (.inl h)]
  · rintro _ rfl Kb
    refine br_f (by simp [len_eq]) ?_
    simpa using hK

/-- A step of copying. -/
def stepO (l r s : List Int) (i : Nat) : List Int := meet (r.getD (s.getD i 0).toNat 0) (meet (l.getD (s.getD i 0).toNat 0) s)
def bfs (l r : List Int) : Nat → Nat → List Int → List Int
  | 0, i, s => s
  | f + 1, i, s => if i < s.length then bfs l r f (i + 1) (stepO l r s i) else s
def ordF (l r ro : List Int) : List Int := bfs l r (l.length + 1) 0 (metL ro [])
theorem bfs_end {l r s : List Int} {f i : Nat} (h : ¬ i < s.length) : bfs l r f i s = s := by
  cases f with
  | zero => rfl
  | succ f => simp [bfs, h]
theorem HVp.atl {l r ro : List Int} (h : HVp l r ro) {x : Int} (h0 : 0 ≤ x) (h1 : x < l.length) : okP l.length (l.getD x.toNat 0) := h.gl (by omega)
theorem HVp.atr {l r ro : List Int} (h : HVp l r ro) {x : Int} (h0 : 0 ≤ x) (h1 : x < l.length) : okP l.length (r.getD x.toNat 0) := h.gr (by omega)
theorem CellsP.step {l r ro s : List Int} (hv : HVp l r ro) (h : CellsP l.length s) {i : Nat} (hi : i < s.length) : CellsP l.length (stepO l r s i) := by
  have := h.get hi
  exact (h.meet (hv.atl this.1 this.2)).meet (hv.atr this.1 this.2)
theorem metL_cells {n : Nat} : ∀ {ps s : List Int}, CellsP n s → (∀ x ∈ ps, okP n x) → CellsP n (metL ps s)
  | [], s, h, _ => h
  | p :: ps, s, h, hp => metL_cells (ps := ps) (h.meet (hp p (by simp))) fun x hx => hp x (by simp [hx])
theorem cells_nil (n : Nat) : CellsP n [] := ⟨by simp, by simp⟩
theorem bfs_cells {l r ro : List Int} (hv : HVp l r ro) : ∀ (f i : Nat) (s : List Int), CellsP l.length s → CellsP l.length (bfs l r f i s)
  | 0, i, s, h => h
  | f + 1, i, s, h => by
    simp only [bfs]
    split
    · rename_i hi; exact bfs_cells hv f (i + 1) _ (h.step hv hi)
    · exact h
theorem ordF_cells {l r ro : List Int} (hv : HVp l r ro) : CellsP l.length (ordF l r ro) := bfs_cells hv _ _ _ (metL_cells (cells_nil _) hv.oko)
theorem gI_at {l : List Int} {x : Int} : gI l x = l.getD x.toNat 0 := rfl
theorem meet_getD {x : Int} {s : List Int} {i : Nat} (hi : i < s.length) : (meet x s).getD i 0 = s.getD i 0 := by
  obtain ⟨t, ht⟩ := meet_pre x s
  rw [ht, List.getD_eq_getElem?_getD, List.getElem?_append_left hi, List.getD_eq_getElem?_getD]

theorem L_l10Order {l r ro : List Int} {K : List Int → Prop} (hv : HVp l r ro) (hK : K (ordF l r ro)) : Ms_l10Order l r ro K := by
  have h8 := hv.l8
  have h3 := hv.r3
  refine LoopP_for (fun i st => st = ((i : Int), l, r, ro, metL (ro.take i) [])) ro.length rfl ?_ ?_
  · rintro i _ hi rfl Kb hKb
    have h1 := metL_len (ro.take i) []
    refine br_t (by simp [len_eq]; exact hi) ⟨by simp [inB_nat]; exact hi, L_l10Meet (by simp only [List.length_take, List.length_nil] at h1; dsimp only; omega) (hKb _ ?_)⟩
    rw [iadd_nat (by omega), metL_succ hi, gI_nat]
  · rintro _ rfl Kb
    refine br_f (by simp [len_eq]) ?_
    simp only [List.take_length]
    refine LoopP_inv (fun st => ∃ (i : Nat) (s : List Int), st = ((i : Int), l, r, ro, s) ∧ CellsP l.length s ∧ i ≤ l.length ∧ bfs l r (l.length + 1 - i) i s = ordF l r ro) (fun st => l.length + 1 - st.1.toNat) ?_ ⟨0, _, rfl, metL_cells (cells_nil _) hv.oko, by omega, rfl⟩
    rintro _ ⟨i, s, rfl, hc, hi, he⟩ Kb hKb
    have hl := hc.len
    refine br (fun h => ?_) fun h => ?_
    · have h : i < s.length := by have := of_decide_eq_true h; simp only [len_eq] at this; omega
      have hg := hc.get h
      have hg' := hg
      rw [← meet_getD (x := l.getD (s.getD i 0).toNat 0) h] at hg'
      have hlr := hv.lr
      have hm := meet_len (l.getD (s.getD i 0).toNat 0) s
      refine ⟨by simp [inB_nat]; exact h, ⟨by simp only [gI_nat]; omega, by simp only [gI_nat]; omega⟩, L_l10Meet (by dsimp only; omega) ?_⟩
      simp only [gI_at, Int.toNat_natCast]
      obtain ⟨t, ht⟩ := meet_pre (l.getD (s.getD i 0).toNat 0) s
      refine ⟨by rw [inB_nat, ht, List.length_append]; omega, ⟨hg'.1, by omega⟩, L_l10Meet (by omega) (hKb _ ⟨i + 1, stepO l r s i, ?_, hc.step hv h, by omega, ?_⟩ ?_)⟩
      · rw [iadd_nat (by omega), meet_getD h]; rfl
      · have e : l.length + 1 - i = (l.length + 1 - (i + 1)) + 1 := by omega
        rw [e] at he
        simpa [bfs, h] using he
      · simp only [iadd_nat (show i < 2 ^ 62 by omega), Int.toNat_natCast]; omega
    · have h : ¬ i < s.length := by have := of_decide_eq_false h; simp only [len_eq] at this; omega
      rw [bfs_end h] at he
      rw [← he] at hK
      exact hK
theorem L_sOrderOf {l r ro : List Int} {K : List Int → Prop} (hK : K (if HVp l r ro then ordF l r ro else [])) : Ms_OrderOf l r ro K := by
  refine L_sHeapValid (br (fun h => ?_) fun h => ?_)
  · simp at h; simpa [h] using hK
  · simp at h; exact L_l10Order h (by simpa [h] using hK)
theorem sub_all {α : Type} (l : List α) : sub l 0 (len l) = l := by simp [sub, len_eq]
theorem L_Clip_int {l : List Int} {K : List Int → Prop} (hK : K l) : M_Clip_int l K := by
  refine ⟨⟨by omega, by simp [len_eq], by omega, by omega⟩, ?_⟩
  rw [sub_all]; exact hK
theorem L_iOrderOf {l r ro : List Int} {K : List Int → Prop} (hK : K (if HVp l r ro then ordF l r ro else [])) : Mi_OrderOf l r ro K := by
  refine L_iHeapValid (br (fun h => ?_) fun h => ?_)
  · simp at h; simpa [h] using hK
  simp at h
  have hv := h
  have hK : K (ordF l r ro) := by simpa [h] using hK
  have h8 := hv.l8
  have h3 := hv.r3
  refine L_met (by simp; omega) ?_
  refine LoopP_inv (fun st => ∃ (i : Nat) (s : List Int), st = ((i : Int), l, r, ro, s) ∧ CellsP l.length s ∧ i ≤ l.length ∧ bfs l r (l.length + 1 - i) i s = ordF l r ro) (fun st => l.length + 1 - st.1.toNat) ?_ ⟨0, _, rfl, metL_cells (cells_nil _) hv.oko, by omega, rfl⟩
  rintro _ ⟨i, s, rfl, hc, hi, he⟩ Kb hKb
  have hl := hc.len
  refine br (fun h => ?_) fun h => ?_
  · have h : i < s.length := by have := of_decide_eq_true h; simp only [len_eq] at this; omega
    have hg := hc.get h
    have hlr := hv.lr
    refine ⟨by simp [inB_nat]; exact h, ⟨by simp only [gI_nat]; omega, by simp only [gI_nat]; omega⟩, by simp [inB_nat]; exact h, ⟨by simp only [gI_nat]; omega, by simp only [gI_nat]; omega⟩, L_met (by dsimp only [List.length_cons, List.length_nil]; omega) (hKb _ ⟨i + 1, stepO l r s i, ?_, hc.step hv h, by omega, ?_⟩ ?_)⟩
    · simp only [gI_at, Int.toNat_natCast]
      rw [iadd_nat (by omega)]; rfl
    · have e : l.length + 1 - i = (l.length + 1 - (i + 1)) + 1 := by omega
      rw [e] at he
      simpa [bfs, h] using he
    · simp only [iadd_nat (show i < 2 ^ 62 by omega), Int.toNat_natCast]; omega
  · have h : ¬ i < s.length := by have := of_decide_eq_false h; simp only [len_eq] at this; omega
    rw [bfs_end h] at he
    rw [← he] at hK
    exact L_Clip_int hK
end Go.Ab
