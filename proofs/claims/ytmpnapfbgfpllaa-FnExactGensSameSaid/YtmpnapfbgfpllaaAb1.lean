/-
  What is proved here: reading, writing and making abstract blocks agree with the model's loads, stores and new rows of cells, in every world that the abstract memory stands for.
-/
import Derived.Test.YtmpnapfbgfpllaaAb0
namespace Go.Ab
open Go.RowKit

def upd (β : Inj) (n : Nat) (p : Place) : Inj := fun k => if k = n then some p else β k
theorem le_upd {β : Inj} {n : Nat} {p : Place} (h : β n = none) : β.le (upd β n p) := by
  intro k q e
  unfold upd
  by_cases hk : k = n
  · subst hk; rw [h] at e; cases e
  · rw [if_neg hk]; exact e
theorem upd_same (β : Inj) (n : Nat) (p : Place) : upd β n p n = some p := by simp [upd]
theorem upd_other (β : Inj) {n k : Nat} (p : Place) (h : k ≠ n) : upd β n p k = β k := by simp [upd, h]

theorem heap_alloc_lt (w : World) (o : Obj) (k : Nat) (h : k < w.heap.size) : (w.alloc o).heap[k]? = w.heap[k]? := by
  show (w.heap.push o)[k]? = _
  rw [Array.getElem?_push, if_neg (by omega)]
theorem heap_alloc_eq (w : World) (o : Obj) : (w.alloc o).heap[w.heap.size]? = some o := by
  show (w.heap.push o)[w.heap.size]? = _
  simp

/-- The first cells of a row. -/
def CRel (β : Inj) (cs : List AVal) (c : Array Value) : Prop := cs.length ≤ c.size ∧ ∀ (i : Nat) a, cs[i]? = some a → ∃ v, c[i]? = some v ∧ VRel β a v
theorem LRel.toC {β : Inj} {cs : List AVal} {c : Array Value} (h : LRel β cs c) : CRel β cs c := ⟨by rw [h.1]; exact Nat.le_refl _, fun _ _ ha => h.get ha⟩
theorem LRel.toC_append {β : Inj} {cs : List AVal} {c : Array Value} (h : LRel β cs c) (r : Array Value) : CRel β cs (c ++ r) := by
  refine ⟨by simp [h.1], fun i a ha => ?_⟩
  obtain ⟨v, hv, hr⟩ := h.get ha
  refine ⟨v, ?_, hr⟩
  have : i < c.size := by
    rcases Nat.lt_or_ge i c.size with h' | h'
    · exact h'
    · simp [Array.getElem?_eq_none h'] at hv
  rw [Array.getElem?_append, if_pos this]
  exact hv

/-- A new row of cells. -/
theorem post_alloc {fl : Nat} {β : Inj} {m : Mem} {w : World} (hs : Sim β m w) (hf : β m.size = none) {cs : List AVal} {c : Array Value} (t : TypeId) (hc : CRel β cs c) :
    Post fl β m w (m.push cs) (upd β m.size ⟨w.heap.size, 0, c.size⟩) (w.alloc (.cells c t)) := by
  have hle := le_upd (p := ⟨w.heap.size, 0, c.size⟩) hf
  refine ⟨⟨fun n p hn hp => ?_, fun n p hn hp hm i a ha => ?_, fun n p hn hp hm => ?_, fun n p n' p' hn hn' hne hp hp' hm hm' => ?_⟩, fun n hn => ?_, fun n p h1 h2 h3 => ?_, fun k hk _ => heap_alloc_lt _ _ _ hk, rfl, rfl, rfl, by simp⟩
  · simp only [World.size_alloc]
    by_cases e : n = m.size
    · subst e; rw [upd_same] at hp; simp at hp; subst hp; simp
    · rw [upd_other _ _ e] at hp
      have := hs.lt n p (by simp at hn; omega) hp
      omega
  · by_cases e : n = m.size
    · subst e; simp at hm
    · rw [upd_other _ _ e] at hp
      simp only [Mem.blk_push, if_neg e] at hm ha
      have hn' : n < m.size := by simp at hn; omega
      obtain ⟨v, h1, h2⟩ := hs.ro n p hn' hp hm i a ha
      exact ⟨v, by rw [World.cell?_alloc_lt _ _ _ (hs.lt n p hn' hp)]; exact h1, h2.mono hle⟩
  · by_cases e : n = m.size
    · subst e
      rw [upd_same] at hp
      simp at hp
      subst hp
      refine ⟨c, t, heap_alloc_eq _ _, rfl, by simpa using hc.1, fun i a ha => ?_⟩
      simp only [Mem.blk_push, if_true] at ha
      obtain ⟨v, h1, h2⟩ := hc.2 i a ha
      exact ⟨v, by simpa using h1, h2.mono hle⟩
    · rw [upd_other _ _ e] at hp
      have hn' : n < m.size := by simp at hn; omega
      simp only [Mem.blk_push, if_neg e] at hm ⊢
      obtain ⟨c', e', h1, h2, h3, h4⟩ := hs.rw n p hn' hp hm
      refine ⟨c', e', ?_, h2, h3, fun i a ha => ?_⟩
      · rw [heap_alloc_lt _ _ _ (hs.lt n p hn' hp)]; exact h1
      · obtain ⟨v, g1, g2⟩ := h4 i a ha
        exact ⟨v, g1, g2.mono hle⟩
  · by_cases e : n = m.size
    · subst e
      rw [upd_same] at hp
      simp at hp
      subst hp
      have e' : n' ≠ m.size := fun h => hne h.symm
      rw [upd_other _ _ e'] at hp'
      have := hs.lt n' p' (by simp at hn'; omega) hp'
      simp; omega
    · rw [upd_other _ _ e] at hp
      have hlt := hs.lt n p (by simp at hn; omega) hp
      by_cases e' : n' = m.size
      · subst e'
        rw [upd_same] at hp'
        simp at hp'
        subst hp'
        simp; omega
      · rw [upd_other _ _ e'] at hp'
        simp only [Mem.blk_push, if_neg e, if_neg e'] at hm hm'
        exact hs.ex n p n' p' (by simp at hn; omega) (by simp at hn'; omega) hne hp hp' hm hm'
  · rw [upd_other]
    intro e
    subst e
    simp at hn
  · have : n = m.size := by simp at h2; omega
    subst this
    rw [upd_same] at h3
    simp at h3
    subst h3
    exact .inl (Nat.le_refl _)

theorem astep_push (fl : Nat) (m : Mem) (cs : List AVal) : AStep fl m (m.push cs) :=
  ⟨by simp, fun n hn _ => by simp; omega, fun n hn => .inl (by simp; rw [if_neg (by omega)])⟩

/-- A cell of a block that lives. -/
theorem Sim.cell {β : Inj} {m : Mem} {w : World} (hs : Sim β m w) {n : Nat} {p : Place} (hn : n < m.size) (hp : β n = some p) (hm : (m.blk n).mode ≠ .dead) {i : Nat} {a : AVal} (ha : (m.blk n).cells[i]? = some a) :
    ∃ v, w.cell? ⟨p.cb, p.co + i, none⟩ = some v ∧ VRel β a v := by
  cases hmm : (m.blk n).mode with
  | dead => exact absurd hmm hm
  | ro => exact hs.ro n p hn hp hmm i a ha
  | rw =>
    obtain ⟨c, e, h1, _, _, h4⟩ := hs.rw n p hn hp hmm
    obtain ⟨v, g1, g2⟩ := h4 i a ha
    exact ⟨v, by simp [World.cell?, h1, g1], g2⟩

def ald (m : Mem) (n o : Nat) : Option AVal := if n < m.size ∧ (m.blk n).mode ≠ .dead then (m.blk n).cells[o]? else none
def alds (m : Mem) (n o k : Nat) : Option (List AVal) := if n < m.size ∧ (m.blk n).mode ≠ .dead ∧ o + k ≤ (m.blk n).cells.length then some (((m.blk n).cells.drop o).take k) else none
def setCells : List AVal → Nat → List AVal → List AVal
  | cs, _, [] => cs
  | cs, o, v :: vs => setCells (cs.set o v) (o + 1) vs
def asts (fl : Nat) (m : Mem) (n o : Nat) (vs : List AVal) : Option Mem :=
  if fl ≤ n ∧ n < m.size ∧ (m.blk n).mode = .rw ∧ o + vs.length ≤ (m.blk n).cells.length ∧ vs.all (·.one) = true then some (m.put n ⟨setCells (m.blk n).cells o vs, .rw⟩) else none

theorem setCells_length (vs : List AVal) : ∀ (cs : List AVal) (o : Nat), (setCells cs o vs).length = cs.length := by
  induction vs with
  | nil => intro cs o; rfl
  | cons v vs ih => intro cs o; rw [setCells, ih]; simp

theorem astep_put {fl : Nat} {m : Mem} {n : Nat} {b : Blk} (hf : fl ≤ n) (hm : n < m.size → b.mode = (m.blk n).mode ∨ b.mode = .dead) : AStep fl m (m.put n b) := by
  refine ⟨by simp, fun k hk hl => by simp; omega, fun k hk => ?_⟩
  by_cases e : k = n
  · subst e; simp; exact hm hk
  · simp [e]

theorem VRel.one_cells {β : Inj} {x : AVal} {v : Value} (h : VRel β x v) (ho : x.one = true) : v.cells = #[v] ∧ v.oneCell' = true := by
  cases h <;> first | exact ⟨rfl, rfl⟩ | (simp [AVal.one] at ho)

theorem addr_add (a : Addr) (n : Nat) (h : a.spot = none) : a.add n = ⟨a.block, a.off + n, none⟩ := by
  unfold Addr.add
  split
  · rename_i e; subst e; cases a; simp at h; subst h; rfl
  · rfl

/-- One cell is written. -/
theorem post_set {fl : Nat} {β : Inj} {m : Mem} {w : World} (hs : Sim β m w) {n : Nat} {p : Place} (hf : fl ≤ n) (hn : n < m.size) (hp : β n = some p) (hm : (m.blk n).mode = .rw) {o : Nat} (ho : o < (m.blk n).cells.length)
    {x : AVal} {v : Value} (hx : VRel β x v) :
    (∃ u, w.cell? ⟨p.cb, p.co + o, none⟩ = some u) ∧ w.frozen? ⟨p.cb, p.co + o, none⟩ = false ∧
    Post fl β m w (m.put n ⟨(m.blk n).cells.set o x, .rw⟩) β (w.setCell ⟨p.cb, p.co + o, none⟩ v) := by
  obtain ⟨c, e, h1, h2, h3, h4⟩ := hs.rw n p hn hp hm
  have hsame : (w.setCell ⟨p.cb, p.co + o, none⟩ v).heap[p.cb]? = some (.cells (c.setIfInBounds (p.co + o) v) e (0, 0)) := by
    simp [World.setCell, Array.getElem?_modify, h1]
  have hother : ∀ k, k ≠ p.cb → (w.setCell ⟨p.cb, p.co + o, none⟩ v).heap[k]? = w.heap[k]? := by
    intro k hk
    simp only [World.setCell, Array.getElem?_modify]
    rw [if_neg (fun e => hk e.symm)]
  refine ⟨?_, by simp [World.frozen?, h1], ⟨⟨fun n' p' hn' hp' => by simpa using hs.lt n' p' (by simpa using hn') hp', fun n' p' hn' hp' hm' i a ha => ?_, fun n' p' hn' hp' hm' => ?_, fun n1 p1 n2 p2 g1 g2 g3 g4 g5 g6 g7 => ?_⟩, fun _ _ => rfl, fun n' p' q1 q2 _ => by simp at q2; omega, fun k hk hw => ?_, rfl, rfl, rfl, by simp⟩⟩
  · have : p.co + o < c.size := by omega
    exact ⟨c[p.co + o], by simp [World.cell?, h1, this]⟩
  · have e' : n' ≠ n := by intro e'; subst e'; simp at hm'
    simp only [Mem.blk_put, if_neg e'] at hm' ha
    obtain ⟨u, k1, k2⟩ := hs.ro n' p' (by simpa using hn') hp' hm' i a ha
    have hne : p.cb ≠ p'.cb := hs.ex n p n' p' hn (by simpa using hn') (fun q => e' q.symm) hp hp' hm (by rw [hm']; simp)
    refine ⟨u, ?_, k2⟩
    rw [World.cell?_setCell_other _ _ _ _ (by intro q; simp at q; exact hne q.1)]
    exact k1
  · by_cases e' : n' = n
    · subst e'
      rw [hp] at hp'; simp at hp'; subst hp'
      refine ⟨_, e, hsame, by simpa using h2, by simpa using h3, fun i a ha => ?_⟩
      simp only [Mem.blk_put, if_true, List.getElem?_set] at ha
      by_cases hi : o = i
      · subst hi
        simp [ho] at ha
        subst ha
        exact ⟨v, by simp [Array.getElem?_setIfInBounds]; omega, hx⟩
      · simp [hi] at ha
        obtain ⟨u, k1, k2⟩ := h4 i a ha
        exact ⟨u, by rw [Array.getElem?_setIfInBounds_ne (by omega)]; exact k1, k2⟩
    · simp only [Mem.blk_put, if_neg e'] at hm' ⊢
      obtain ⟨c', f', k1, k2, k3, k4⟩ := hs.rw n' p' (by simpa using hn') hp' hm'
      have hne : p.cb ≠ p'.cb := hs.ex n p n' p' hn (by simpa using hn') (fun q => e' q.symm) hp hp' hm (by rw [hm']; simp)
      exact ⟨c', f', by rw [hother _ (fun q => hne q.symm)]; exact k1, k2, k3, k4⟩
  · refine hs.ex n1 p1 n2 p2 (by simpa using g1) (by simpa using g2) g3 g4 g5 ?_ ?_
    · by_cases e1 : n1 = n
      · subst e1; exact hm
      · simpa [e1] using g6
    · by_cases e1 : n2 = n
      · subst e1; rw [hm]; simp
      · simpa [e1] using g7
  · exact hother k (fun q => hw ⟨n, p, hf, hn, hp, hm, q.symm⟩)

/-- Cells are written in a row. -/
theorem post_sts {P : Program} {fl : Nat} : ∀ (vs : List AVal) (us : List Value) {β : Inj} {m : Mem} {w : World} (_ : Sim β m w) {n : Nat} {p : Place} (_ : fl ≤ n) (_ : n < m.size) (_ : β n = some p) (_ : (m.blk n).mode = .rw) {o : Nat}
    (_ : o + vs.length ≤ (m.blk n).cells.length) (_ : vs.all (·.one) = true) (_ : LRel β vs us.toArray) (a0 : Addr) (i0 : Nat) (_ : a0.spot = none) (_ : a0.block = p.cb) (_ : a0.off + i0 = p.co + o),
    ∃ w', (storeCells a0 us i0).run P w = .ok () w' ∧ Post fl β m w (m.put n ⟨setCells (m.blk n).cells o vs, .rw⟩) β w' := by
  intro vs
  induction vs with
  | nil =>
    intro us β m w hs n p hf hn hp hm o _ _ hl a0 i0 _ _ _
    have : us = [] := by
      have := hl.1
      simp at this
      exact List.length_eq_zero_iff.1 this.symm
    subst this
    refine ⟨w, rfl, ?_⟩
    have : m.put n ⟨setCells (m.blk n).cells o [], .rw⟩ = m := by
      cases m with
      | mk s b =>
        simp only [Mem.put, setCells]
        congr 1
        funext k
        by_cases e : k = n
        · subst e
          rw [if_pos rfl]
          have : (b k).mode = .rw := hm
          cases hb : b k
          rw [hb] at this
          simp_all
        · rw [if_neg e]
    rw [this]
    exact Post.refl hs
  | cons x vs ih =>
    intro us β m w hs n p hf hn hp hm o hlen hone hl a0 i0 hsp hbl hoff
    match us, hl with
    | [], hl => have := hl.1; simp at this
    | u :: us, hl =>
      simp only [List.all_cons, Bool.and_eq_true] at hone
      have hxu : VRel β x u := hl.2 0 x u (by simp) (by simp)
      have hrest : LRel β vs us.toArray := ⟨by have := hl.1; simpa using this, fun i a v h1 h2 => hl.2 (i + 1) a v (by simpa using h1) (by simpa using h2)⟩
      have hlt : o < (m.blk n).cells.length := by simp at hlen; omega
      obtain ⟨⟨q, hq⟩, hfz, hpost⟩ := post_set (fl := fl) hs hf hn hp hm hlt hxu
      have haddr : a0.add i0 = ⟨p.cb, p.co + o, none⟩ := by rw [addr_add _ _ hsp, hbl, hoff]
      obtain ⟨w', hrun, hpost'⟩ := ih us hpost.sim (n := n) (p := p) (o := o + 1) hf (by simpa using hn) hp (by simp) (by simp at hlen ⊢; omega) hone.2 hrest a0 (i0 + 1) hsp hbl (by omega)
      refine ⟨w', ?_, ?_⟩
      · unfold storeCells
        rw [Sem.run_bind, run_store P w _ u _ (hxu.one_cells hone.1).2, haddr, hq]
        simp only [hfz, Bool.false_eq_true, if_false, Result.andThen_ok]
        exact hrun
      · have st1 : AStep fl m (m.put n ⟨(m.blk n).cells.set o x, .rw⟩) := astep_put hf (fun _ => .inl hm.symm)
        have st2 : AStep fl (m.put n ⟨(m.blk n).cells.set o x, .rw⟩) ((m.put n ⟨(m.blk n).cells.set o x, .rw⟩).put n ⟨setCells ((m.put n ⟨(m.blk n).cells.set o x, .rw⟩).blk n).cells (o + 1) vs, .rw⟩) := astep_put hf (fun _ => .inl (by simp))
        have := Post.trans st1 st2 hpost hpost'
        have e : (m.put n ⟨(m.blk n).cells.set o x, .rw⟩).put n ⟨setCells ((m.put n ⟨(m.blk n).cells.set o x, .rw⟩).blk n).cells (o + 1) vs, .rw⟩ = m.put n ⟨setCells (m.blk n).cells o (x :: vs), .rw⟩ := by
          unfold Mem.put
          simp only [setCells, if_true, Mem.mk.injEq, true_and]
          funext k
          by_cases e : k = n <;> simp [e]
        rw [e] at this
        exact this

/-- Cells are read in a row. -/
theorem loads_from {P : Program} {β : Inj} {w : World} (a0 : Addr) (hsp : a0.spot = none) : ∀ (vs : List AVal) (i0 : Nat) (acc : Array Value),
    (∀ (j : Nat) x, vs[j]? = some x → ∃ v, w.cell? ⟨a0.block, a0.off + i0 + j, none⟩ = some v ∧ VRel β x v) →
    ∃ us : Array Value, (loadCellsFrom a0 i0 vs.length acc).run P w = .ok (acc ++ us) w ∧ LRel β vs us := by
  intro vs
  induction vs with
  | nil => intro i0 acc _; exact ⟨#[], by simp [loadCellsFrom], LRel.nil β⟩
  | cons x vs ih =>
    intro i0 acc h
    obtain ⟨v, hv, hr⟩ := h 0 x (by simp)
    obtain ⟨us, hrun, hl⟩ := ih (i0 + 1) (acc.push v) (fun j y hy => by
      have := h (j + 1) y (by simpa using hy)
      rw [show a0.off + (i0 + 1) + j = a0.off + i0 + (j + 1) by omega]; exact this)
    refine ⟨#[v] ++ us, ?_, ?_⟩
    · unfold loadCellsFrom
      simp only [List.length_cons, Sem.run_bind, run_load, addr_add _ _ hsp]
      simp only [Nat.add_zero] at hv
      rw [hv]
      simp only [Result.andThen_ok]
      rw [hrun]
      simp
    · have h1 : LRel β [x] #[v] := ⟨rfl, fun i a u h1 h2 => by
        cases i with
        | zero => simp at h1 h2; subst h1; subst h2; exact hr
        | succ i => simp at h1⟩
      exact h1.append hl

theorem loads_cells {P : Program} {β : Inj} {m : Mem} {w : World} (hs : Sim β m w) {n o k : Nat} {p : Place} (hp : β n = some p) {vs : List AVal} (h : alds m n o k = some vs) :
    ∃ us, (loadCells ⟨p.cb, p.co + o, none⟩ k).run P w = .ok us w ∧ LRel β vs us := by
  unfold alds at h
  split at h
  · rename_i hc
    obtain ⟨h1, h2, h3⟩ := hc
    simp at h
    have hl : vs.length = k := by rw [← h]; simp; omega
    obtain ⟨us, hrun, hr⟩ := loads_from (P := P) (β := β) (w := w) ⟨p.cb, p.co + o, none⟩ rfl vs 0 #[] (fun j x hx => by
      rw [← h, List.getElem?_take] at hx
      split at hx
      · rw [List.getElem?_drop] at hx
        obtain ⟨v, g1, g2⟩ := hs.cell h1 hp h2 hx
        exact ⟨v, by simpa [Nat.add_assoc] using g1, g2⟩
      · cases hx)
    refine ⟨us, ?_, hr⟩
    unfold loadCells
    rw [hl] at hrun
    simpa using hrun
  · cases h

end Go.Ab
