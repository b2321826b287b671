/-
  What is proved here: arguments that came in, read as data, stand in an abstract memory of blocks that are only read. No condition beyond those written in each statement.
-/
import Derived.Test.YtmpnapfbgfpllaaAb14
import Derived.OpenShut
import Derived.ChangeSlices
import Derived.ChangeArms
import Derived.Deep.Grids
namespace Go.Ab
set_option linter.unusedVariables false
open Go.ChangeShapes Go.WideShapes

/-- A memory of blocks that are only read, at the start of a call. -/
structure Op0 (W : World) (m : Mem) (β : Inj) : Prop where
  sim : Sim β m W
  none : ∀ n, m.size ≤ n → β n = .none
  ro : ∀ n, n < m.size → (m.blk n).mode = .ro
def Mem.pushRo (m : Mem) (cs : List AVal) : Mem := ⟨m.size + 1, fun n => if n = m.size then ⟨cs, .ro⟩ else m.blk n⟩
def Mem.empty : Mem := ⟨0, fun _ => ⟨[], .ro⟩⟩
theorem op0_empty (W : World) : Op0 W Mem.empty (fun _ => .none) :=
  ⟨⟨fun n p h => absurd h (Nat.not_lt_zero _), fun n p h => absurd h (Nat.not_lt_zero _), fun n p h => absurd h (Nat.not_lt_zero _), fun n p n' p' h => absurd h (Nat.not_lt_zero _)⟩, fun _ _ => rfl, fun n h => absurd h (Nat.not_lt_zero _)⟩
theorem Ext.pushRo (m : Mem) (cs : List AVal) : Ext m (m.pushRo cs) := ⟨by simp [Mem.pushRo], fun n hn => by simp [Mem.pushRo]; omega⟩

theorem Op0.push {W : World} {m : Mem} {β : Inj} (h : Op0 W m β) (cs : List AVal) (b o s : Nat) (hb : b < W.heap.size) (hc : ∀ (i : Nat) x, cs[i]? = some x → ∃ v, W.cell? ⟨b, o + i, .none⟩ = some v ∧ VRel (upd β m.size ⟨b, o, s⟩) x v) :
    Op0 W (m.pushRo cs) (upd β m.size ⟨b, o, s⟩) := by
  have hn := h.none m.size (Nat.le_refl _)
  have hle : β.le (upd β m.size ⟨b, o, s⟩) := le_upd hn
  have cas : ∀ n p, n < (m.pushRo cs).size → upd β m.size ⟨b, o, s⟩ n = some p → (n = m.size ∧ p = ⟨b, o, s⟩) ∨ (n < m.size ∧ β n = some p) := by
    intro n p h1 h2
    by_cases e : n = m.size
    · subst e; rw [upd_same] at h2; cases h2; exact .inl ⟨rfl, rfl⟩
    · rw [upd_other _ _ e] at h2
      have : n < m.size + 1 := h1
      exact .inr ⟨by omega, h2⟩
  have bnew : (m.pushRo cs).blk m.size = ⟨cs, .ro⟩ := by simp [Mem.pushRo]
  have bold : ∀ n, n < m.size → (m.pushRo cs).blk n = m.blk n := fun n hn => by simp [Mem.pushRo]; omega
  have allro : ∀ n, n < (m.pushRo cs).size → ((m.pushRo cs).blk n).mode = .ro := by
    intro n h1
    by_cases e : n = m.size
    · subst e; rw [bnew]
    · have : n < m.size + 1 := h1
      rw [bold n (by omega)]; exact h.ro n (by omega)
  refine ⟨⟨fun n p h1 h2 => ?_, fun n p h1 h2 h3 i a ha => ?_, fun n p h1 h2 h3 => ?_, fun n p n' p' h1 h2 h3 h4 h5 h6 => ?_⟩, fun n h1 => ?_, allro⟩
  · rcases cas n p h1 h2 with ⟨rfl, rfl⟩ | ⟨h1, h2⟩
    · exact hb
    · exact h.sim.lt n p h1 h2
  · rcases cas n p h1 h2 with ⟨rfl, rfl⟩ | ⟨h1, h2⟩
    · rw [bnew] at ha; exact hc i a ha
    · rw [bold n h1] at h3 ha
      obtain ⟨v, hv, hr⟩ := h.sim.ro n p h1 h2 h3 i a ha
      exact ⟨v, hv, hr.mono hle⟩
  · rw [allro n h1] at h3; cases h3
  · rw [allro n h1] at h6; cases h6
  · have : m.size + 1 ≤ n := h1
    rw [upd_other _ _ (by omega)]
    exact h.none n (by omega)

theorem add_spot {W : World} {a : Addr} {i : Nat} {v : Value} (h : W.cell? (a.add i) = some v) : W.cell? ⟨a.block, a.off + i, .none⟩ = some v := by
  by_cases e : i = 0
  · subst e
    simp [Addr.add] at h
    have hs : a.spot = none := by
      unfold World.cell? at h
      split at h
      · split at h
        · cases h
        · rename_i hh; simpa using hh
      · cases h
    rw [← h]
    cases a
    simp at hs
    subst hs
    rfl
  · simpa [Addr.add, e] using h
theorem cell_lt {W : World} {a : Addr} {v : Value} (h : W.cell? a = some v) : a.block < W.heap.size := by
  unfold World.cell? at h
  split at h
  · rename_i hh
    exact (Array.getElem?_eq_some_iff.1 hh).1
  · cases h
theorem spot_none {W : World} {a : Addr} {v : Value} (h : W.cell? (a.add 0) = some v) : a.spot = none := by
  simp [Addr.add] at h
  unfold World.cell? at h
  split at h
  · split at h
    · cases h
    · rename_i hh; simpa using hh
  · cases h

/-- A value of this type that came in stands in the memory; R: what is known of its cells. -/
def Opens (P : Program) (t : TypeId) (R : Mem → List AVal → Prop) : Prop :=
  ∀ (H : Type) (enc : TypeId × Value → H) (W : World) (m : Mem) (β : Inj) (fuel : Nat) (cs : List Value) (x : DataW H × List MemPlace), Op0 W m β → DataW.trod enc P W 0 (fun _ => true) true fuel t cs = some x →
    ∃ m' β' vs, Op0 W m' β' ∧ Ext m m' ∧ β.le β' ∧ LRel β' vs cs.toArray ∧ R m' vs
def Mono (R : Mem → List AVal → Prop) : Prop := ∀ m m' vs, R m vs → Ext m m' → R m' vs

theorem lrel_one {β : Inj} {a : AVal} {v : Value} (h : VRel β a v) : LRel β [a] [v].toArray := by simpa using (LRel.nil β).push h

/-- A slice whose elements are one cell each. -/
theorem opens_row {P : Program} {α : Type} {f : α → AVal} {ok : α → Prop} {t : TypeId} (g : α → Value) (hfg : ∀ β x, VRel β (f x) (g x)) (d : α)
    (ho : ∀ (H : Type) (enc : TypeId × Value → H) (W : World) (fuel : Nat) (cs : List Value) (x : DataW H × List MemPlace), DataW.trod enc P W 0 (fun _ => true) true fuel t cs = some x →
      cs = [.slice none 0 0] ∨ ∃ (a : Addr) (len cap : Nat) (B : Nat → α), cs = [.slice (some a) len cap] ∧ len ≤ cap ∧ cap ≤ maxLen ∧ ∀ i, i < cap → W.cell? (a.add i) = some (g (B i)) ∧ ok (B i)) :
    Opens P t fun m vs => ∃ v xs, vs = [v] ∧ Rd f m v xs ∧ xs.length ≤ maxLen ∧ ∀ x ∈ xs, ok x := by
  intro H enc W m β fuel cs x h0 hx
  rcases ho H enc W fuel cs x hx with rfl | ⟨a, len, cap, B, rfl, hl, hm, hc⟩
  · exact ⟨m, β, [.nilSl], h0, Ext.refl m, Inj.le.refl β, lrel_one .nilSl, .nilSl, [], rfl, .inl ⟨rfl, rfl⟩, by simp, by simp⟩
  · by_cases e : len = 0
    · subst e
      exact ⟨m, β, [.emptySl], h0, Ext.refl m, Inj.le.refl β, lrel_one (.emptySl _ _), .emptySl, [], rfl, .inr (.inl ⟨rfl, rfl⟩), by simp, by simp⟩
    · have hcap : 0 < cap := by omega
      have hs := spot_none (hc 0 hcap).1
      refine ⟨m.pushRo (((List.range len).map B).map f), upd β m.size ⟨a.block, a.off, a.off + cap⟩, [.sl m.size 0 len none 1], h0.push _ _ _ _ (by simpa [Addr.add] using cell_lt (hc 0 hcap).1) ?_, Ext.pushRo m _, le_upd (h0.none _ (Nat.le_refl _)),
        lrel_one (.sl m.size 0 len cap 1 none ⟨a.block, a.off, a.off + cap⟩ a (upd_same _ _ _) (fun _ => by cases a; simp at hs; subst hs; rfl) hl (by simp) (by simp)), _, (List.range len).map B, rfl, .inr (.inr ⟨m.size, 0, none, by simp, by simp [Mem.pushRo], by simp [Mem.pushRo], ?_⟩), by simp; omega, ?_⟩
      · intro i y hy
        simp at hy
        by_cases hi : i < len
        · rw [List.getElem?_range hi] at hy
          simp at hy
          subst hy
          exact ⟨g (B i), add_spot (hc i (by omega)).1, hfg _ _⟩
        · rw [List.getElem?_eq_none (by simp; omega)] at hy
          simp at hy
      · intro i y hy
        simp [Mem.pushRo]
        simp at hy
        obtain ⟨j, hj, rfl⟩ := hy
        exact ⟨j, hj, rfl⟩
      · intro y hy
        simp at hy
        obtain ⟨i, hi, rfl⟩ := hy
        exact (hc i (by omega)).2

theorem opens_ints {P : Program} {t e : TypeId} {k : IntKind} (ht : P.underlying t = some (.slice e)) (he : P.underlying e = some (.int k)) (hc : P.cellsOf e = 1) :
    Opens P t fun m vs => ∃ v xs, vs = [v] ∧ Rd (AVal.int k) m v xs ∧ xs.length ≤ maxLen ∧ ∀ x ∈ xs, (Lit.int k x).wf = true := by
  refine opens_row (ok := fun x => (Lit.int k x).wf = true) (Value.int k) (fun β x => .int k x) 0 fun H enc W fuel cs x h => ?_
  rcases open_ints ht he hc h with ⟨rfl, _⟩ | ⟨a, len, cap, zs, rfl, _, hl, hm, hz, _, hcell, hw⟩
  · exact .inl rfl
  · simp at hz
    refine .inr ⟨a, len, cap, fun i => zs.getD i 0, rfl, hl, hm, fun i hi => ⟨hcell i (by omega), hw _ ?_⟩⟩
    show zs.getD i 0 ∈ zs
    rw [List.getD_eq_getElem?_getD, List.getElem?_eq_getElem (by omega)]
    exact List.getElem_mem _
theorem opens_bools {P : Program} {t e : TypeId} (ht : P.underlying t = some (.slice e)) (he : P.underlying e = some .bool) (hc : P.cellsOf e = 1) :
    Opens P t fun m vs => ∃ v xs, vs = [v] ∧ Rd AVal.bool m v xs ∧ xs.length ≤ maxLen ∧ ∀ x ∈ xs, True := by
  refine opens_row (ok := fun _ => True) Value.bool (fun β x => .bool x) false fun H enc W fuel cs x h => ?_
  rcases Deep.open_bools ht he hc h with ⟨rfl, _⟩ | ⟨a, len, cap, B, rfl, _, hl, hm, _, hcell⟩
  · exact .inl rfl
  · exact .inr ⟨a, len, cap, B, rfl, hl, hm, fun i hi => ⟨hcell i hi, trivial⟩⟩
theorem opens_int {P : Program} {t : TypeId} {k : IntKind} (ht : P.underlying t = some (.int k)) : Opens P t fun _ vs => ∃ n, vs = [.int k n] ∧ (Lit.int k n).wf = true := by
  intro H enc W m β fuel cs x h0 hx
  obtain ⟨n, rfl, rfl, hw⟩ := DataW.trod_int ht hx
  exact ⟨m, β, _, h0, Ext.refl m, Inj.le.refl β, lrel_one (.int k n), n, rfl, hw⟩
theorem opens_bool {P : Program} {t : TypeId} (ht : P.underlying t = some .bool) : Opens P t fun _ vs => ∃ b, vs = [.bool b] := by
  intro H enc W m β fuel cs x h0 hx
  obtain ⟨b, rfl, rfl⟩ := DataW.trod_bool ht hx
  exact ⟨m, β, _, h0, Ext.refl m, Inj.le.refl β, lrel_one (.bool b), b, rfl⟩

theorem lrel_append {β : Inj} {xs ys : List AVal} {us vs : List Value} (r : LRel β xs us.toArray) (s : LRel β ys vs.toArray) : LRel β (xs ++ ys) (us ++ vs).toArray := by simpa using r.append s

/-- A struct of three fields. -/
theorem opens_struct3 {P : Program} {t : TypeId} {f0 f1 f2 : Field} {R0 R1 R2 : Mem → List AVal → Prop} (ht : P.underlying t = some (.struct #[f0, f1, f2]))
    (o0 : f0.offset = 0) (o1 : f1.offset = P.cellsOf f0.type) (o2 : f2.offset = P.cellsOf f0.type + P.cellsOf f1.type) (hs : P.cellsOf t = P.cellsOf f0.type + P.cellsOf f1.type + P.cellsOf f2.type)
    (h0 : Opens P f0.type R0) (h1 : Opens P f1.type R1) (h2 : Opens P f2.type R2) (m0 : Mono R0) (m1 : Mono R1) :
    Opens P t fun m vs => ∃ a b c, vs = a ++ b ++ c ∧ R0 m a ∧ R1 m b ∧ R2 m c := by
  intro H enc W m β fuel cs x hO hx
  obtain ⟨xs, n, _, rfl, hl, hlen, hf⟩ := DataW.trod_struct ht hx
  match xs, hlen with
  | [y0, y1, y2], _ =>
    obtain ⟨ma, βa, va, Oa, ea, la, ra, qa⟩ := h0 H enc W m β n _ _ hO (by simpa using hf 0 f0 rfl)
    obtain ⟨mb, βb, vb, Ob, eb, lb, rb, qb⟩ := h1 H enc W ma βa n _ _ Oa (by simpa using hf 1 f1 rfl)
    obtain ⟨mc, βc, vc, Oc, ec, lc, rc, qc⟩ := h2 H enc W mb βb n _ _ Ob (by simpa using hf 2 f2 rfl)
    refine ⟨mc, βc, va ++ vb ++ vc, Oc, (ea.trans eb).trans ec, (la.trans lb).trans lc, ?_, va, vb, vc, rfl, m0 _ _ _ (m0 _ _ _ qa eb) ec, m1 _ _ _ qb ec, qc⟩
    have hcs : cs = (cs.drop f0.offset).take (P.cellsOf f0.type) ++ (cs.drop f1.offset).take (P.cellsOf f1.type) ++ (cs.drop f2.offset).take (P.cellsOf f2.type) := by
      rw [o0, o1, o2, List.drop_zero, ← List.take_add, List.take_of_length_le (l := cs.drop _) (by simp; omega), List.take_append_drop]
    rw [hcs]
    exact lrel_append (lrel_append (ra.mono (lb.trans lc)) (rb.mono lc)) rc

/-- The argument itself: a struct. -/
theorem arg_struct {β : Inj} {vs : List AVal} {us : Array Value} (h : LRel β vs us.toList.toArray) : VRel β (.agg vs) (.agg us) := by
  have h : LRel β vs us := by simpa using h
  exact .agg vs us h.1 h.2
theorem arg_one {β : Inj} {a : AVal} {v : Value} (h : LRel β [a] [v].toArray) : VRel β a v := h.2 0 a v rfl rfl

theorem Opens.imp {P : Program} {t : TypeId} {R R' : Mem → List AVal → Prop} (h : Opens P t R) (k : ∀ m vs, R m vs → R' m vs) : Opens P t R' := fun H enc W m β fuel cs x h0 hx =>
  let ⟨m', β', vs, a, b, c, d, e⟩ := h H enc W m β fuel cs x h0 hx; ⟨m', β', vs, a, b, c, d, k _ _ e⟩
theorem okW_struct {P : Program} {W : World} {r : Reach} {base : Nat} {t : TypeId} {fs : Array Field} {v : Value} (ht : P.underlying t = some (.struct fs)) (h : Value.okWide P W r base t v) : ∃ us, v = .agg us := by
  unfold Value.okWide at h
  rw [ht] at h
  obtain ⟨cs, rfl, _⟩ := h
  exact ⟨cs, rfl⟩
theorem op0_free {W : World} {m m' : Mem} {β : Inj} (h : Op0 W m β) : Free β m m' := fun n hn _ => h.none n hn
theorem back_bool {β : Inj} {b : Bool} {v : Value} (h : VRel β (.bool b) v) : v = .bool b := by cases h; rfl

end Go.Ab
