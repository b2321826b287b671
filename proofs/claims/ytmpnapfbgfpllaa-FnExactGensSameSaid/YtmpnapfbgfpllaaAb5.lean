/-
  What is proved here: append, slicing, make, arithmetic and indexing do what the abstract operations say.
-/
import Derived.Test.YtmpnapfbgfpllaaAb4
namespace Go.Ab
open Go.RowKit

section ops
variable {P : Program} {fl : Nat} {β : Inj} {m m' : Mem} {w : World}

/-- One block goes, a new one takes its place. -/
theorem post_regrow {n : Nat} {p : Place} (hs : Sim β m w) (hf : fl ≤ n) (hn : n < m.size) (hp : β n = some p) (hm : (m.blk n).mode = .rw) (hfree : β m.size = none)
    {o : Nat} {old new : List AVal} (ho : (m.blk n).cells.drop o = old) (hon : o + old.length = (m.blk n).cells.length) {us : List Value} (hl : LRel β new us.toArray) (hone : new.all (·.one) = true)
    (hroom : p.co + o + old.length + new.length ≤ p.cs) :
    ∃ w', (storeCells ⟨p.cb, p.co + o + old.length, none⟩ us).run P w = .ok () w' ∧
      Post fl β m w ((m.push (old ++ new)).kill n) (upd β m.size ⟨p.cb, p.co + o, p.cs⟩) w' := by
  -- first: stretch the block in the abstract memory: the same world
  obtain ⟨c, e, h1, h2, h3, h4⟩ := hs.rw n p hn hp hm
  have hlt : p.cb < w.heap.size := hs.lt n p hn hp
  -- what is stored
  have key : ∀ (xs : List AVal) (vs : List Value) (w : World) (c : Array Value) (i0 : Nat), LRel β xs vs.toArray → xs.all (·.one) = true → w.heap[p.cb]? = some (.cells c e (0, 0)) → p.co + o + old.length + i0 + xs.length ≤ c.size →
      ∃ w' c', (storeCells ⟨p.cb, p.co + o + old.length, none⟩ vs i0).run P w = .ok () w' ∧ w'.heap[p.cb]? = some (.cells c' e (0, 0)) ∧ c'.size = c.size ∧
        (∀ j, j < p.co + o + old.length + i0 → c'[j]? = c[j]?) ∧ (∀ (j : Nat) a, xs[j]? = some a → ∃ v, c'[p.co + o + old.length + i0 + j]? = some v ∧ VRel β a v) ∧
        (∀ k, k ≠ p.cb → w'.heap[k]? = w.heap[k]?) ∧ w'.os = w.os ∧ w'.tape = w.tape ∧ w'.output = w.output ∧ w'.heap.size = w.heap.size := by
    intro xs
    induction xs with
    | nil =>
      intro vs w c i0 hl _ hw _
      have : vs = [] := by have := hl.1; simp at this; exact List.length_eq_zero_iff.1 this.symm
      subst this
      exact ⟨w, c, rfl, hw, rfl, fun _ _ => rfl, fun j a h => by simp at h, fun _ _ => rfl, rfl, rfl, rfl, rfl⟩
    | cons x xs ih =>
      intro vs w c i0 hl hone hw hsz
      match vs, hl with
      | [], hl => have := hl.1; simp at this
      | v :: vs, hl =>
        simp only [List.all_cons, Bool.and_eq_true] at hone
        have hx : VRel β x v := hl.2 0 x v (by simp) (by simp)
        have hr : LRel β xs vs.toArray := ⟨by have := hl.1; simpa using this, fun i a u h1 h2 => hl.2 (i + 1) a u (by simpa using h1) (by simpa using h2)⟩
        have hi : p.co + o + old.length + i0 < c.size := by simp at hsz; omega
        have hcell : w.cell? ⟨p.cb, p.co + o + old.length + i0, none⟩ = some c[p.co + o + old.length + i0] := by simp [World.cell?, hw, hi]
        have hw1 : (w.setCell ⟨p.cb, p.co + o + old.length + i0, none⟩ v).heap[p.cb]? = some (.cells (c.setIfInBounds (p.co + o + old.length + i0) v) e (0, 0)) := by
          simp [World.setCell, Array.getElem?_modify, hw]
        obtain ⟨w', c', q1, q2, q3, q4, q5, q6, q7, q8, q9, q10⟩ := ih vs (w.setCell ⟨p.cb, p.co + o + old.length + i0, none⟩ v) (c.setIfInBounds (p.co + o + old.length + i0) v) (i0 + 1) hr hone.2 hw1 (by simp at hsz ⊢; omega)
        refine ⟨w', c', ?_, q2, by simpa using q3, fun j hj => ?_, fun j a ha => ?_, fun k hk => ?_, q7, q8, q9, by simpa using q10⟩
        · unfold storeCells
          rw [Sem.run_bind, run_store P w _ v _ (hx.one_cells hone.1).2, addr_add _ _ rfl, hcell]
          have hfz : w.frozen? ⟨p.cb, p.co + o + old.length + i0, none⟩ = false := by simp [World.frozen?, hw]
          simp only [hfz, Bool.false_eq_true, if_false, Result.andThen_ok]
          exact q1
        · rw [q4 j (by omega), Array.getElem?_setIfInBounds_ne (by omega)]
        · cases j with
          | zero =>
            simp at ha
            subst ha
            refine ⟨v, ?_, hx⟩
            rw [Nat.add_zero, q4 _ (by omega)]
            simp [hi]
          | succ j =>
            obtain ⟨u, g1, g2⟩ := q5 j a (by simpa using ha)
            exact ⟨u, by rw [show p.co + o + old.length + i0 + (j + 1) = p.co + o + old.length + (i0 + 1) + j by omega]; exact g1, g2⟩
        · rw [q6 k hk]
          simp only [World.setCell, Array.getElem?_modify]
          rw [if_neg (fun e => hk e.symm)]
  obtain ⟨w', c', q1, q2, q3, q4, q5, q6, q7, q8, q9, q10⟩ := key new us w c 0 hl hone h1 (by rw [h2]; omega)
  refine ⟨w', q1, ?_⟩
  have hle := le_upd (p := ⟨p.cb, p.co + o, p.cs⟩) hfree
  have hsize : ((m.push (old ++ new)).kill n).size = m.size + 1 := rfl
  refine ⟨⟨fun k q hk hq => ?_, fun k q hk hq hmk i a ha => ?_, fun k q hk hq hmk => ?_, fun k1 q1' k2 q2' g1 g2 g3 g4 g5 g6 g7 => ?_⟩, fun k hk => ?_, fun k q r1 r2 r3 => ?_, fun k hk hw => ?_, q7, q8, q9, by omega⟩
  · rw [q10]
    by_cases e' : k = m.size
    · subst e'; rw [upd_same] at hq; simp at hq; subst hq; exact hlt
    · rw [upd_other _ _ e'] at hq
      exact hs.lt k q (by rw [hsize] at hk; omega) hq
  · by_cases ek : k = n
    · subst ek; simp at hmk
    · by_cases e' : k = m.size
      · subst e'; simp [ek] at hmk
      · rw [upd_other _ _ e'] at hq
        simp only [Mem.blk_kill, if_neg ek, Mem.blk_push, if_neg e'] at hmk ha
        have hk' : k < m.size := by rw [hsize] at hk; omega
        obtain ⟨v, g1, g2⟩ := hs.ro k q hk' hq hmk i a ha
        have hne := hs.ex n p k q hn hk' (fun e => ek e.symm) hp hq hm (by rw [hmk]; simp)
        refine ⟨v, ?_, g2.mono hle⟩
        rw [← g1]
        exact World.cell?_of_block (w := w) (w' := w') (q6 q.cb (fun e => hne e.symm))
  · by_cases ek : k = n
    · subst ek; simp at hmk
    · by_cases e' : k = m.size
      · subst e'
        rw [upd_same] at hq
        simp at hq
        subst hq
        have hblk : ((m.push (old ++ new)).kill n).blk m.size = ⟨old ++ new, .rw⟩ := by simp [ek]
        rw [hblk]
        refine ⟨c', e, q2, by rw [q3, h2], by simp; rw [q3, h2]; omega, fun i a ha => ?_⟩
        simp only at ha ⊢
        rw [List.getElem?_append] at ha
        by_cases hi : i < old.length
        · rw [if_pos hi] at ha
          rw [q4 _ (by omega)]
          have : (m.blk n).cells[o + i]? = some a := by rw [← ho, List.getElem?_drop] at ha; exact ha
          obtain ⟨v, g1, g2⟩ := h4 _ _ this
          exact ⟨v, by rw [← g1]; congr 1; omega, g2.mono hle⟩
        · rw [if_neg hi] at ha
          obtain ⟨v, g1, g2⟩ := q5 _ _ ha
          exact ⟨v, by rw [← g1]; congr 1; omega, g2.mono hle⟩
      · rw [upd_other _ _ e'] at hq
        simp only [Mem.blk_kill, if_neg ek, Mem.blk_push, if_neg e'] at hmk ⊢
        have hk' : k < m.size := by rw [hsize] at hk; omega
        obtain ⟨c2, e2, g1, g2, g3, g4⟩ := hs.rw k q hk' hq hmk
        have hne := hs.ex n p k q hn hk' (fun e => ek e.symm) hp hq hm (by rw [hmk]; simp)
        refine ⟨c2, e2, ?_, g2, g3, fun i a ha => ?_⟩
        · rw [q6 q.cb (fun e => hne e.symm)]; exact g1
        · obtain ⟨v, r1, r2⟩ := g4 i a ha
          exact ⟨v, r1, r2.mono hle⟩
  · -- exclusive
    by_cases ek1 : k1 = n
    · subst ek1; simp at g6
    · by_cases ek2 : k2 = n
      · subst ek2; simp at g7
      · simp only [Mem.blk_kill, if_neg ek1, if_neg ek2, Mem.blk_push] at g6 g7
        rw [hsize] at g1 g2
        by_cases e1 : k1 = m.size
        · subst e1
          rw [upd_same] at g4
          simp at g4
          subst g4
          have e2 : k2 ≠ m.size := fun h => g3 h.symm
          rw [upd_other _ _ e2] at g5
          simp only [if_neg e2] at g7
          exact hs.ex n p k2 q2' hn (by omega) (fun e => ek2 e.symm) hp g5 hm g7
        · rw [upd_other _ _ e1] at g4
          simp only [if_neg e1] at g6
          by_cases e2 : k2 = m.size
          · subst e2
            rw [upd_same] at g5
            simp at g5
            subst g5
            exact hs.ex k1 q1' n p (by omega) hn ek1 g4 hp g6 (by rw [hm]; simp)
          · rw [upd_other _ _ e2] at g5
            simp only [if_neg e2] at g7
            exact hs.ex k1 q1' k2 q2' (by omega) (by omega) g3 g4 g5 g6 g7
  · rw [upd_other]
    intro e'
    subst e'
    rw [hsize] at hk
    omega
  · have : k = m.size := by rw [hsize] at r2; omega
    subst this
    rw [upd_same] at r3
    simp at r3
    subst r3
    exact .inr ⟨n, p, hf, hn, hp, hm, rfl⟩
  · exact q6 k (fun e' => hw ⟨n, p, hf, hn, hp, hm, e'.symm⟩)

theorem Post.drew {β' : Inj} {w' : World} (h : Post fl β m w.drew m' β' w') : Post fl β m w m' β' w' :=
  ⟨h.sim, h.ext, h.nb, h.fr, h.os, h.tape, h.output, h.size⟩
theorem Sim.drew (h : Sim β m w) : Sim β m w.drew := ⟨h.lt, h.ro, h.rw, h.ex⟩

theorem alds_len {n o k : Nat} {cs : List AVal} (h : alds m n o k = some cs) : cs.length = k ∧ n < m.size ∧ (m.blk n).mode ≠ .dead ∧ cs = ((m.blk n).cells.drop o).take k ∧ o + k ≤ (m.blk n).cells.length := by
  unfold alds at h
  split at h
  · rename_i hc
    simp at h
    refine ⟨?_, hc.1, hc.2.1, h.symm, hc.2.2⟩
    rw [← h]; simp; omega
  · cases h

/-- What append adds, read in the world. -/
theorem add_cells {es k : Nat} {x : AVal} {xv : Value} {new : List AVal} (hs : Sim β m w) (hx : VRel β x xv) (h : addCells m es x = some (k, new)) :
    (Builtin.lenOf xv).run P w = .ok k w ∧ new.length = k * es ∧ ∃ us : List Value, (Builtin.firstCells es k xv).run P w = .ok us.toArray w ∧ LRel β new us.toArray := by
  unfold addCells at h
  split at h
  · simp at h
    obtain ⟨rfl, rfl⟩ := h
    cases hx
    exact ⟨rfl, by simp, [], rfl, LRel.nil β⟩
  · simp at h
    obtain ⟨rfl, rfl⟩ := h
    cases hx with
    | emptySl a c =>
      refine ⟨rfl, by simp, [], ?_, LRel.nil β⟩
      cases a with
      | none => rfl
      | some a => simp [Builtin.firstCells, loadCells, loadCellsFrom]
  · rename_i n o len cap es'
    split at h
    · rename_i he
      subst he
      rw [Option.map_eq_some_iff] at h
      obtain ⟨cs, hcs, he2⟩ := h
      simp only [Prod.mk.injEq] at he2
      obtain ⟨rfl, rfl⟩ := he2
      cases hx with
      | sl _ _ _ ccap _ _ p a hb ha hl hc hcap =>
        obtain ⟨us, hr, hlr⟩ := loads_cells (P := P) hs hb hcs
        refine ⟨rfl, (alds_len hcs).1, us.toList, ?_, by simpa using hlr⟩
        simp only [Builtin.firstCells, Array.toArray_toList]
        by_cases h0 : ccap = 0
        · have : len = 0 := by omega
          subst this
          simp only [Nat.zero_mul] at hr ⊢
          have : us = #[] := by
            have := hlr.1
            rw [(alds_len hcs).1] at this
            simp at this
            exact Array.eq_empty_of_size_eq_zero this.symm
          subst this
          simp [loadCells, loadCellsFrom]
        · rw [ha h0]; exact hr
    · cases h
  · cases h

end ops
end Go.Ab
