/-
  What is proved here: slices of structs of three integers among the arguments, read as data, stand as typed values. No condition beyond those written in each statement.
-/
import Derived.Test.YtheldhohhpoloaaGreatDoorT15
import Derived.Deep.Slices
namespace Go.Ab
set_option linter.unusedVariables false
open Go.ChangeShapes Go.WideShapes

def opC (o : OpV) (j : Nat) : Int := if j = 0 then o.kind else if j = 1 then o.a else o.b
/-- An element of three integers. -/
theorem trod_op {H : Type} {enc : TypeId × Value → H} {P : Program} {W : World} {e : TypeId} {f0 f1 f2 : Field} {fuel : Nat} {cs : List Value} {x : DataW H × List MemPlace} (he : P.underlying e = some (.struct #[f0, f1, f2])) (o0 : f0.offset = 0) (o1 : f1.offset = 1) (o2 : f2.offset = 2)
    (k0 : P.underlying f0.type = some (.int .i64)) (k1 : P.underlying f1.type = some (.int .i64)) (k2 : P.underlying f2.type = some (.int .i64)) (c0 : P.cellsOf f0.type = 1) (c1 : P.cellsOf f1.type = 1) (c2 : P.cellsOf f2.type = 1) (ce : P.cellsOf e = 3)
    (h : DataW.trod enc P W 0 (fun _ => true) true fuel e cs = some x) : ∃ o : OpV, ∀ j, j < 3 → cs[j]? = some (.int .i64 (opC o j)) := by
  obtain ⟨xs, n, _, _, hl, hlen, hf⟩ := DataW.trod_struct he h
  rw [ce] at hl
  have one : ∀ (i : Nat) (f : Field), #[f0, f1, f2][i]? = some f → f.offset = i → P.cellsOf f.type = 1 → P.underlying f.type = some (.int .i64) → ∃ z, cs[i]? = some (.int .i64 z) := fun i f hi ho hc hk => by
    have h1 := hf i f hi
    have hi3 : i < xs.length := by rw [hlen]; exact (Array.getElem?_eq_some_iff.1 hi).1
    rw [ho, hc, List.getElem?_eq_getElem hi3] at h1
    obtain ⟨z, hz, _, _⟩ := DataW.trod_int hk h1
    refine ⟨z, ?_⟩
    have : ((cs.drop i).take 1)[0]? = some (.int .i64 z) := by rw [hz]; rfl
    simpa using this
  obtain ⟨a, ha⟩ := one 0 f0 rfl o0 c0 k0
  obtain ⟨b, hb⟩ := one 1 f1 rfl o1 c1 k1
  obtain ⟨c, hc⟩ := one 2 f2 rfl o2 c2 k2
  refine ⟨⟨a, b, c⟩, fun j hj => ?_⟩
  have : j = 0 ∨ j = 1 ∨ j = 2 := by omega
  rcases this with rfl | rfl | rfl
  · exact ha
  · exact hb
  · exact hc
theorem opens_ops {P : Program} {t e : TypeId} {f0 f1 f2 : Field} (ht : P.underlying t = some (.slice e)) (he : P.underlying e = some (.struct #[f0, f1, f2])) (o0 : f0.offset = 0) (o1 : f1.offset = 1) (o2 : f2.offset = 2)
    (k0 : P.underlying f0.type = some (.int .i64)) (k1 : P.underlying f1.type = some (.int .i64)) (k2 : P.underlying f2.type = some (.int .i64)) (c0 : P.cellsOf f0.type = 1) (c1 : P.cellsOf f1.type = 1) (c2 : P.cellsOf f2.type = 1) (ce : P.cellsOf e = 3) :
    OpensT P t (fun l : List OpV => [.pl .op l]) fun l => l.length ≤ maxLen := by
  intro H enc W m β fuel cs x h0 hx
  rcases Deep.open_slice ht hx with ⟨rfl, _⟩ | ⟨a, len, cap, mm, n, D, Pl, rfl, _, hl, hm, hmm, _, hel⟩
  · exact ⟨[], m, β, [.nilSl], h0, Ext.refl m, Inj.le.refl β, lrel_one .nilSl, lv_one (.plE .op _ (.inl rfl)), by simp⟩
  simp only [if_true] at hmm
  subst hmm
  by_cases el : len = 0
  · subst el
    exact ⟨[], m, β, [.emptySl], h0, Ext.refl m, Inj.le.refl β, lrel_one (.emptySl _ _), lv_one (.plE .op _ (.inr (.inl rfl))), by simp⟩
  have ab : ∀ k, (a.add k).block = a.block ∧ (a.add k).off = a.off + k := fun k => by
    unfold Addr.add
    split
    · rename_i h; subst h; exact ⟨rfl, rfl⟩
    · exact ⟨rfl, rfl⟩
  have each : ∀ i, i < mm → ∃ o : OpV, ∀ j, j < 3 → W.cell? ((a.add (i * 3)).add j) = some (.int .i64 (opC o j)) := fun i hi => by
    obtain ⟨cs', h1, h2⟩ := hel i hi
    rw [ce] at h1
    obtain ⟨_, hlen, hc⟩ := World.cells?_some h1
    obtain ⟨o, ho⟩ := trod_op he o0 o1 o2 k0 k1 k2 c0 c1 c2 ce h2
    refine ⟨o, fun j hj => ?_⟩
    have := hc j hj
    rw [ho j hj] at this
    exact this
  have each' : ∃ B : Nat → OpV, ∀ i, i < mm → ∀ j, j < 3 → W.cell? ((a.add (i * 3)).add j) = some (.int .i64 (opC (B i) j)) := by
    refine ⟨fun i => if h : i < mm then (each i h).choose else ⟨0, 0, 0⟩, fun i hi => ?_⟩
    simp only [dif_pos hi]
    exact (each i hi).choose_spec
  obtain ⟨B, hB⟩ := each'
  have hcap : 0 < mm := by omega
  have h00 := hB 0 hcap 0 (by omega)
  have h00 : W.cell? (a.add 0) = some (.int .i64 (opC (B 0) 0)) := by simpa [Addr.add] using h00
  have hs := spot_none h00
  let cells : List AVal := (List.range (len * 3)).map fun q => .int .i64 (opC (B (q / 3)) (q % 3))
  have hsz : m.size < (m.pushRo cells).size := by simp [Mem.pushRo]
  have hcell : ∀ q, q < len * 3 → ((m.pushRo cells).blk m.size).cells[q]? = some (.int .i64 (opC (B (q / 3)) (q % 3))) := fun q hq => by
    simp [Mem.pushRo, cells, hq]
  have hlen : ((m.pushRo cells).blk m.size).cells.length = len * 3 := by simp [Mem.pushRo, cells]
  have rv : RV (roC (m.pushRo cells)) (.pl .op ((List.range len).map B)) (.sl m.size 0 ((List.range len).map B).length none EK.op.es) := by
    refine .pl .op _ m.size 0 none (fun q => .int .i64 (opC (B (q / 3)) (q % 3))) hsz ?_ ?_ ?_
    · show _ ≤ List.length (Blk.cells (Mem.blk (m.pushRo _) m.size))
      rw [hlen]; simp [EK.es]
    · intro i hi
      simp [EK.es] at hi
      rw [Nat.zero_add]
      exact hcell i (by omega)
    · intro i x j t hi hj
      have hil : i < len := by have := getElem?_lt hi; simpa using this
      rw [List.getElem?_map, List.getElem?_range hil] at hi
      simp at hi
      subst hi
      have hj3 : j < 3 := by have := getElem?_lt hj; simpa [Ab.enc] using this
      rw [show EK.op.es = 3 from rfl, show (i * 3 + j) / 3 = i by omega, show (i * 3 + j) % 3 = j by omega]
      have : j = 0 ∨ j = 1 ∨ j = 2 := by omega
      rcases this with rfl | rfl | rfl <;> simp [Ab.enc] at hj <;> subst hj <;> exact .int _ _
  refine ⟨(List.range len).map B, m.pushRo cells, upd β m.size ⟨a.block, a.off, a.off + mm * 3⟩, [.sl m.size 0 len none 3], h0.push _ _ _ _ (by simpa [Addr.add] using cell_lt h00) ?_, Ext.pushRo m _, le_upd (h0.none _ (Nat.le_refl _)),
    lrel_one (.sl m.size 0 len mm 3 none ⟨a.block, a.off, a.off + mm * 3⟩ a (upd_same _ _ _) (fun _ => by cases a; simp at hs; subst hs; rfl) hl (by simp) (by simp)), lv_one (by simpa [EK.es] using rv), by simp; omega⟩
  intro i y hy
  have hi : i < len * 3 := by have := getElem?_lt hy; simpa [cells] using this
  have : cells[i]? = some (.int .i64 (opC (B (i / 3)) (i % 3))) := by simp [cells, hi]
  rw [this] at hy
  simp at hy
  subst hy
  refine ⟨.int .i64 (opC (B (i / 3)) (i % 3)), ?_, .int _ _⟩
  have := add_spot (hB (i / 3) (by omega) (i % 3) (by omega))
  rw [(ab _).1, (ab _).2, show a.off + i / 3 * 3 + i % 3 = a.off + i by omega] at this
  exact this
end Go.Ab
