/-
  What is proved here: the model's operations (loads, stores, arithmetic, literals, slices) do what the abstract operations say.
-/
import Derived.Test.YtmpnapfbgfpllaaAb2
namespace Go.Ab
open Go.RowKit

section runs
variable {P : Program} {w : World}
theorem run_size {t k : Nat} (h : tSize P t = some k) : (sizeOf t).run P w = .ok k w := by
  unfold tSize at h
  cases hi : P.info? t with
  | none => rw [hi] at h; cases h
  | some i => rw [hi] at h; simp at h; simp [sizeOf, typeInfo, hi, h]
theorem run_bytes {t k : Nat} (h : tBytes P t = some k) : ∃ i, (typeInfo t).run P w = .ok i w ∧ i.bytes = k := by
  unfold tBytes at h
  cases hi : P.info? t with
  | none => rw [hi] at h; cases h
  | some i => rw [hi] at h; simp at h; exact ⟨i, by simp [typeInfo, hi], h⟩
theorem run_und {t : Nat} {d : TypeDesc} (h : P.underlying t = some d) : (underlying t).run P w = .ok d w := by simp [underlying, h]
theorem run_agg {t : Nat} {b : Bool} (h : tAgg P t = some b) : (isAgg t).run P w = .ok b w := by
  unfold tAgg at h
  cases hd : P.underlying t with
  | none => rw [hd] at h; cases h
  | some d =>
    rw [hd] at h
    simp at h
    subst h
    unfold isAgg
    rw [Sem.run_bind, run_und hd]
    cases d <;> rfl
theorem run_zero {t : Nat} {z : List AVal} (β : Inj) (h : tZero P t = some z) : ∃ v, (zeroValue t).run P w = .ok v w ∧ LRel β z v.cells := by
  unfold tZero at h
  cases hi : P.info? t with
  | none => rw [hi] at h; cases h
  | some i =>
    rw [hi] at h
    simp only [Option.bind_some, Option.map_eq_some_iff] at h
    obtain ⟨v, hv, rfl⟩ := h
    exact ⟨v, by simp [zeroValue, typeInfo, hi, hv], ofScals_rel β _⟩
theorem und_elem {t e : Nat} (h : tElem P t = some e) : P.underlying t = some (.slice e) := by
  unfold tElem at h
  split at h
  · rename_i e' he; simp at h; subst h; exact he
  · cases h
theorem kd_slice {t : Nat} (h : tKd P t = some .slice) : ∃ e, P.underlying t = some (.slice e) := by
  unfold tKd at h
  cases hd : P.underlying t with
  | none => rw [hd] at h; cases h
  | some d => rw [hd] at h; cases d <;> simp [kdOf] at h; exact ⟨_, rfl⟩
theorem kd_string {t : Nat} (h : tKd P t = some .string) : P.underlying t = some .string := by
  unfold tKd at h
  cases hd : P.underlying t with
  | none => rw [hd] at h; cases h
  | some d => rw [hd] at h; cases d <;> simp [kdOf] at h; rfl
theorem kd_bool {t : Nat} (h : tKd P t = some .bool) : P.underlying t = some .bool := by
  unfold tKd at h
  cases hd : P.underlying t with
  | none => rw [hd] at h; cases h
  | some d => rw [hd] at h; cases d <;> simp [kdOf] at h; rfl
theorem kd_int {t : Nat} {k : IntKind} (h : tKd P t = some (.int k)) : P.underlying t = some (.int k) := by
  unfold tKd at h
  cases hd : P.underlying t with
  | none => rw [hd] at h; cases h
  | some d => rw [hd] at h; cases d <;> simp [kdOf] at h; subst h; rfl
end runs

/-- The model's operation yields what the abstract one says. -/
def SOk (P : Program) (fl : Nat) (β : Inj) (m : Mem) (w : World) (s : Sem Value) (v : AVal) (m' : Mem) : Prop :=
  ∃ cv w' β', s.run P w = .ok cv w' ∧ VRel β' v cv ∧ Post fl β m w m' β' w'
theorem SOk.same {P : Program} {fl : Nat} {β : Inj} {m : Mem} {w : World} {s : Sem Value} {v : AVal} {cv : Value} (hs : Sim β m w) (h : s.run P w = .ok cv w) (r : VRel β v cv) : SOk P fl β m w s v m :=
  ⟨cv, w, β, h, r, Post.refl hs⟩

section ops
variable {P : Program} {fl : Nat} {β : Inj} {m m' : Mem} {w : World}

theorem new_row {cs : List AVal} {c : Array Value} (t : TypeId) (hs : Sim β m w) (hf : Free β m (m.push cs)) (hc : CRel β cs c) :
    (newRow t c).run P w = .ok ⟨w.heap.size, 0, none⟩ (w.alloc (.cells c t)) ∧ β m.size = none ∧
    Post fl β m w (m.push cs) (upd β m.size ⟨w.heap.size, 0, c.size⟩) (w.alloc (.cells c t)) := by
  have hn : β m.size = none := hf m.size (Nat.le_refl _) (by simp)
  exact ⟨by simp [newRow], hn, post_alloc hs hn t hc⟩

theorem sok_alloc {t : Nat} {z : List AVal} (hs : Sim β m w) (hz : tZero P t = some z) (hf : Free β m (m.push z)) (old : Value) (hold : old = .tuple #[]) :
    SOk P fl β m w (Instr.alloc t true old) (.ptr (some (m.size, 0))) (m.push z) := by
  obtain ⟨v, hv, hl⟩ := run_zero (w := w) β hz
  obtain ⟨h1, hn, h2⟩ := new_row (P := P) (fl := fl) t hs hf hl.toC
  refine ⟨_, _, _, ?_, .ptr m.size 0 _ (upd_same _ _ _), h2⟩
  subst hold
  simp [Instr.alloc, newVar, hv, h1]

theorem sok_box {t : Nat} {x : AVal} {v : Value} (hs : Sim β m w) (hx : VRel β x v) (hfit : x.fits x.cells.length = true) (hf : Free β m (m.push x.cells)) :
    SOk P fl β m w (Instr.box t v) (.ptr (some (m.size, 0))) (m.push x.cells) := by
  obtain ⟨hl, _⟩ := hx.cells hfit
  obtain ⟨h1, hn, h2⟩ := new_row (P := P) (fl := fl) t hs hf hl.toC
  refine ⟨_, _, _, ?_, .ptr m.size 0 _ (upd_same _ _ _), h2⟩
  simp [Instr.box, newVar, h1]

theorem sok_load {t n o : Nat} {v : AVal} {pv : Value} (hs : Sim β m w) (hp : VRel β (.ptr (some (n, o))) pv)
    (h : (∃ k cs, tAgg P t = some true ∧ tSize P t = some k ∧ alds m n o k = some cs ∧ v = .agg cs) ∨ (tAgg P t = some false ∧ ald m n o = some v)) :
    SOk P fl β m w (Instr.loadAt t pv) v m := by
  cases hp with
  | ptr _ _ p hb =>
    rcases h with ⟨k, cs, h1, h2, h3, rfl⟩ | ⟨h1, h2⟩
    · obtain ⟨us, hr, hl⟩ := loads_cells (P := P) hs hb h3
      exact .same hs (by simp [Instr.loadAt, Instr.sureAddr, loadVar, run_agg h1, run_size h2, hr]) (.agg cs us hl.1 hl.2)
    · unfold ald at h2
      split at h2
      · rename_i hc
        obtain ⟨u, hu, hr⟩ := hs.cell hc.1 hb hc.2 h2
        exact .same hs (by simp [Instr.loadAt, Instr.sureAddr, loadVar, run_agg h1, hu]) hr
      · cases h2

theorem fits_one {x : AVal} {k : Nat} (h : x.fits k = true) (ho : x.cells.all (·.one) = true) : x.one = true ∨ ∃ cs, x = .agg cs := by
  cases x <;> simp_all [AVal.fits, AVal.one]

theorem sok_store {t n o k : Nat} {x : AVal} {pv xv : Value} (hs : Sim β m w) (hp : VRel β (.ptr (some (n, o))) pv) (hx : VRel β x xv) (hk : tSize P t = some k) (hfit : x.fits k = true) (h : asts fl m n o x.cells = some m') :
    ∃ w', (Instr.storeAt t pv xv).run P w = .ok () w' ∧ Post fl β m w m' β w' := by
  cases hp with
  | ptr _ _ p hb =>
    unfold asts at h
    split at h
    · rename_i hc
      obtain ⟨c1, c2, c3, c4, c5⟩ := hc
      simp at h
      subst h
      obtain ⟨hl, hlen⟩ := hx.cells hfit
      have hl' : LRel β x.cells xv.cells.toList.toArray := by simpa using hl
      obtain ⟨w', hrun, hpost⟩ := post_sts (P := P) (fl := fl) x.cells xv.cells.toList hs c1 c2 hb c3 (o := o) c4 c5 hl' ⟨p.cb, p.co + o, none⟩ 0 rfl rfl rfl
      refine ⟨w', ?_, hpost⟩
      have hsz : xv.cells.size = k := by rw [← hl.1, hlen]
      simp [Instr.storeAt, Instr.sureAddr, storeVar, run_size hk, hsz, hrun]
    · cases h

end ops
end Go.Ab
