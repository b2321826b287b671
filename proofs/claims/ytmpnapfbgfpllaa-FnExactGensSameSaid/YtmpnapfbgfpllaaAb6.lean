/-
  What is proved here: append, slicing, make, arithmetic and indexing do what the abstract operations say (second part).
-/
import Derived.Test.YtmpnapfbgfpllaaAb5
namespace Go.Ab
open Go.RowKit

section ops
variable {P : Program} {fl : Nat} {β : Inj} {m m' : Mem} {w : World}

theorem info_of {e es by_ : Nat} {z : List AVal} (h1 : tSize P e = some es) (h2 : tBytes P e = some by_) (h3 : tZero P e = some z) :
    ∃ i zv, P.info? e = some i ∧ i.size = es ∧ i.bytes = by_ ∧ i.zero = some zv ∧ ∀ β, LRel β z zv.cells := by
  unfold tSize at h1
  unfold tBytes at h2
  unfold tZero at h3
  cases hi : P.info? e with
  | none => rw [hi] at h1; cases h1
  | some i =>
    rw [hi] at h1 h2 h3
    simp at h1 h2
    simp only [Option.bind_some, Option.map_eq_some_iff] at h3
    obtain ⟨v, hv, rfl⟩ := h3
    exact ⟨i, v, rfl, h1, h2, hv, fun β => ofScals_rel β _⟩

theorem run_append_fit {t e ty : Nat} {i : TypeInfo} (ht : P.underlying t = some (.slice e)) (hi : P.info? e = some i) {base : Option Addr} {sLen sCap k : Nat} {xv : Value} {us : Array Value}
    (hl : (Builtin.lenOf xv).run P w = .ok k w) (hf : (Builtin.firstCells i.size k xv).run P w = .ok us w) (hc : sLen + k ≤ sCap) :
    (Builtin.append_ #[t, t] ty #[.slice base sLen sCap, xv]).run P w =
      match base with
      | some a => ((storeCells (a.add (sLen * i.size)) us.toList).run P w).andThen fun _ w' => .ok (.slice base (sLen + k) sCap) w'
      | none => .ok (.slice none (sLen + k) sCap) w := by
  cases base <;> simp [Builtin.append_, run_underlying ht, sizeOf, typeInfo, hi, hl, hc, hf]

theorem run_append_new {t e ty : Nat} {i : TypeInfo} {z : Value} (ht : P.underlying t = some (.slice e)) (hi : P.info? e = some i) (hz : i.zero = some z) {base : Option Addr} {sLen sCap k : Nat} {xv : Value} {us os : Array Value}
    (hl : (Builtin.lenOf xv).run P w = .ok k w) (ho : (Builtin.firstCells i.size sLen (.slice base sLen sCap)).run P w.drew = .ok os w.drew) (hf : (Builtin.firstCells i.size k xv).run P w.drew = .ok us w.drew)
    (hc : sCap < sLen + k) (hb : sLen + k ≤ 2 ^ 36) (hby : i.bytes ≤ 1024) :
    (Builtin.append_ #[t, t] ty #[.slice base sLen sCap, xv]).run P w =
      .ok (.slice (some ⟨w.heap.size, 0, none⟩) (sLen + k) (grownCap w (sLen + k) sCap e))
        (w.drew.alloc (.cells (os ++ us ++ Builtin.zeroCells z.cells (grownCap w (sLen + k) sCap e - (sLen + k))) e)) := by
  have hn : ¬ (sLen + k ≤ sCap) := by omega
  have h63' : ¬ (9223372036854775807 < ((sLen : Int) + (k : Int))) := by omega
  have hm : (sLen + k) * i.bytes ≤ 2 ^ 36 * 1024 := Nat.mul_le_mul hb hby
  have h48 := growslice_fits hc (bytes := i.bytes) (by omega)
  have h48' : ¬ (281474976710656 < Builtin.nextslicecap (sLen + k) sCap * i.bytes) := by omega
  simp [Builtin.append_, run_underlying ht, sizeOf, typeInfo, zeroValue, hi, hz, hl, hn, h63', h48', Question.forced, hf, ho, newRow, grownCap]

/-- A grown row stands for the abstract new block. -/
theorem grown_row {e len k sCap es : Nat} {old new z : List AVal} {os us : Array Value} {zv : Value} (hs : Sim β m w) (hf : Free β m (m.push (old ++ new)))
    (ho : LRel β old os) (hu : LRel β new us) (hlo : old.length = len * es) (hln : new.length = k * es) (hz : LRel β z zv.cells) (hzl : z.length = es) :
    VRel (upd β m.size ⟨w.heap.size, 0, (os ++ us ++ Builtin.zeroCells zv.cells (grownCap w (len + k) sCap e - (len + k))).size⟩) (.sl m.size 0 (len + k) none es) (.slice (some ⟨w.heap.size, 0, none⟩) (len + k) (grownCap w (len + k) sCap e)) ∧
    Post fl β m w (m.push (old ++ new)) (upd β m.size ⟨w.heap.size, 0, (os ++ us ++ Builtin.zeroCells zv.cells (grownCap w (len + k) sCap e - (len + k))).size⟩)
      (w.drew.alloc (.cells (os ++ us ++ Builtin.zeroCells zv.cells (grownCap w (len + k) sCap e - (len + k))) e)) := by
  have hn : β m.size = none := hf m.size (Nat.le_refl _) (by simp)
  have hge := grownCap_ge w (len + k) sCap e
  refine ⟨.sl m.size 0 (len + k) _ es none _ _ (upd_same _ _ _) (fun _ => rfl) hge ?_ (fun c e => by cases e), ?_⟩
  · simp only [Array.size_append, size_zeroCells, ← ho.1, ← hu.1, ← hz.1, hlo, hln, hzl, Nat.zero_add]
    rw [← Nat.add_mul, ← Nat.add_mul]
    exact Nat.mul_le_mul_right _ (by omega)
  · exact Post.drew (post_alloc hs.drew hn e ((ho.append hu).toC_append _))

theorem first_old {n o len es ccap : Nat} {cs : List AVal} {p : Place} {a : Addr} (hs : Sim β m w) (hb : β n = some p) (ha : ccap ≠ 0 → a = ⟨p.cb, p.co + o, none⟩) (hl : len ≤ ccap) (h : alds m n o (len * es) = some cs) :
    ∃ os, (Builtin.firstCells es len (.slice (some a) len ccap)).run P w = .ok os w ∧ LRel β cs os := by
  obtain ⟨us, hr, hlr⟩ := loads_cells (P := P) hs hb h
  refine ⟨us, ?_, hlr⟩
  simp only [Builtin.firstCells]
  by_cases h0 : ccap = 0
  · have : len = 0 := by omega
    subst this
    simp only [Nat.zero_mul] at hr ⊢
    have : us = #[] := by
      have := hlr.1
      rw [(alds_len h).1] at this
      simp at this
      exact Array.eq_empty_of_size_eq_zero this.symm
    subst this
    simp [loadCells, loadCellsFrom]
  · rw [ha h0]; exact hr

theorem free_one {cs : List AVal} (h : β m.size = none) : Free β m (m.push cs) := by
  intro n h1 h2
  have : n = m.size := by simp at h2; omega
  rw [this]
  exact h

theorem sok_append {t tx ty : Nat} {s x v : AVal} {sv xv : Value} (hs : Sim β m w) (hS : VRel β s sv) (hX : VRel β x xv) (h : aappend P fl m t tx s x = some (v, m')) (hf : Free β m m') :
    SOk P fl β m w (Builtin.append_ #[t, tx] ty #[sv, xv]) v m' := by
  unfold aappend at h
  split at h
  case h_2 => cases h
  rename_i e he htx
  simp at htx
  subst htx
  have hund := und_elem he
  split at h
  case h_2 => cases h
  rename_i es by_ z h1 h2 h3
  split at h
  case isFalse => cases h
  rename_i hc
  obtain ⟨hby, hzl⟩ := hc
  obtain ⟨i, zv, hi, rfl, rfl, hz, hzr⟩ := info_of h1 h2 h3
  split at h
  case h_2 => cases h
  rename_i k new hadd
  obtain ⟨hlen, hnl, us, hus, hlr⟩ := add_cells (P := P) hs hX hadd
  split at h
  · -- nothing is added
    rename_i hk
    subst hk
    have hus0 : us = [] := by
      have := hlr.1
      rw [hnl] at this
      simp at this
      exact List.length_eq_zero_iff.1 this.symm
    subst hus0
    split at h
    · simp at h
      obtain ⟨rfl, rfl⟩ := h
      cases hS
      have := run_append_fit (P := P) (ty := ty) (base := none) (sLen := 0) (sCap := 0) hund hi hlen hus (Nat.le_refl _)
      exact .same hs this .nilSl
    · simp at h
      obtain ⟨rfl, rfl⟩ := h
      cases hS with
      | emptySl a c =>
        have := run_append_fit (P := P) (ty := ty) (base := a) (sLen := 0) (sCap := c) hund hi hlen hus (by omega)
        cases a with
        | none => exact .same hs this (.emptySl none c)
        | some a => exact .same hs (by rw [this]; simp [storeCells]) (.emptySl (some a) c)
    · rename_i n o len cap es'
      simp at h
      obtain ⟨rfl, rfl⟩ := h
      cases hS with
      | sl _ _ _ ccap _ _ p a hb ha hl hc hcap =>
        have := run_append_fit (P := P) (ty := ty) (base := some a) (sLen := len) (sCap := ccap) hund hi hlen hus (by omega)
        exact .same hs (by rw [this]; simp [storeCells]) (.sl n o len ccap es' cap p a hb ha hl hc hcap)
    · cases h
  · rename_i hk
    split at h
    · split at h
      case isFalse => cases h
      rename_i hb
      simp at h
      obtain ⟨rfl, rfl⟩ := h
      cases hS
      have hlen' : (Builtin.lenOf xv).run P w = .ok k w := hlen
      obtain ⟨_, _, us', hus', hlr'⟩ := add_cells (P := P) (w := w.drew) hs.drew hX hadd
      have := run_append_new (P := P) (ty := ty) (base := none) (sLen := 0) (sCap := 0) (os := #[]) hund hi hz hlen (by simp [Builtin.firstCells]) hus' (by omega) (by omega) hby
      have hg := grown_row (fl := fl) (e := e) (len := 0) (k := k) (sCap := 0) (es := i.size) (old := []) (new := new) hs hf (LRel.nil β) hlr' (by simp) hnl (hzr β) hzl
      simp only [List.nil_append, Nat.zero_add] at hg this
      exact ⟨_, _, _, this, hg.1, hg.2⟩
    · rename_i n o len cap es'
      split at h
      case isFalse => cases h
      rename_i hb
      obtain ⟨rfl, hb⟩ := hb
      split at h
      case h_2 => cases h
      rename_i old hold
      obtain ⟨ol1, ol2, ol3, ol4, ol5⟩ := alds_len hold
      cases hS with
      | sl _ _ _ ccap _ _ p a hpb ha hl hcs hcap =>
      obtain ⟨_, _, us', hus', hlr'⟩ := add_cells (P := P) (w := w.drew) hs.drew hX hadd
      have grown : ccap < len + k → β m.size = none → SOk P fl β m w (Builtin.append_ #[tx, tx] ty #[.slice (some a) len ccap, xv]) (.sl m.size 0 (len + k) none i.size) (m.push (old ++ new)) := by
        intro hlt hfree
        obtain ⟨os, hos, hor⟩ := first_old (P := P) (w := w.drew) hs.drew hpb ha hl hold
        have := run_append_new (P := P) (ty := ty) (base := some a) (sLen := len) (sCap := ccap) hund hi hz hlen hos hus' hlt hb hby
        have hg := grown_row (fl := fl) (e := e) (len := len) (k := k) (sCap := ccap) (es := i.size) (old := old) (new := new) hs (free_one hfree) hor hlr' ol1 hnl (hzr β) hzl
        exact ⟨_, _, _, this, hg.1, hg.2⟩
      split at h
      · rename_i hcc
        simp at h
        obtain ⟨rfl, rfl⟩ := h
        refine grown ?_ (hf m.size (Nat.le_refl _) (by simp))
        cases cap with
        | none => simp at hcc
        | some c => simp at hcc; rw [hcap c rfl]; exact hcc
      · split at h
        case isFalse => cases h
        rename_i hcc
        obtain ⟨q1, q2, q3, q4⟩ := hcc
        simp at h
        obtain ⟨rfl, rfl⟩ := h
        have hfree : β m.size = none := hf m.size (Nat.le_refl _) (by simp)
        by_cases hroom : len + k ≤ ccap
        · -- in place
          have hcpos : ccap ≠ 0 := by omega
          have hae := ha hcpos
          subst hae
          have hdrop : (m.blk n).cells.drop o = old := by rw [ol4, List.take_of_length_le (by simp; omega)]
          have hroom2 : p.co + o + old.length + new.length ≤ p.cs := by
            rw [ol1, hnl]
            have : (len + k) * i.size ≤ ccap * i.size := Nat.mul_le_mul_right _ hroom
            rw [Nat.add_mul] at this
            omega
          obtain ⟨w', hst, hpost⟩ := post_regrow (P := P) (fl := fl) hs q1 ol2 hpb q2 hfree hdrop (by rw [ol1]; omega) hlr q4 hroom2
          have := run_append_fit (P := P) (ty := ty) (base := some ⟨p.cb, p.co + o, none⟩) (sLen := len) (sCap := ccap) hund hi hlen hus hroom
          refine ⟨_, w', _, ?_, .sl m.size 0 (len + k) ccap i.size none ⟨p.cb, p.co + o, p.cs⟩ _ (upd_same _ _ _) (fun _ => rfl) hroom (by simpa using hcs) (fun c e => by cases e), hpost⟩
          rw [this]
          have haa : (⟨p.cb, p.co + o, none⟩ : Addr).add (len * i.size) = ⟨p.cb, p.co + o + old.length, none⟩ := by rw [addr_add _ _ rfl, ol1]
          simp only [haa]
          rw [hst]
          rfl
        · obtain ⟨cv, w', β', r1, r2, r3⟩ := grown (by omega) hfree
          refine ⟨cv, w', β', r1, r2, ?_⟩
          -- the old block may be forgotten
          have hsz : ((m.push (old ++ new)).kill n).size = (m.push (old ++ new)).size := rfl
          refine ⟨⟨fun k' q hk' hq => r3.sim.lt k' q hk' hq, fun k' q hk' hq hm' => ?_, fun k' q hk' hq hm' => ?_, fun k1 p1 k2 p2 g1 g2 g3 g4 g5 g6 g7 => ?_⟩, r3.ext, r3.nb, r3.fr, r3.os, r3.tape, r3.output, r3.size⟩
          · by_cases ek : k' = n
            · subst ek; simp at hm'
            · have hb' : ((m.push (old ++ new)).kill n).blk k' = (m.push (old ++ new)).blk k' := by simp [ek]
              rw [hb'] at hm' ⊢
              exact r3.sim.ro k' q hk' hq hm'
          · by_cases ek : k' = n
            · subst ek; simp at hm'
            · have hb' : ((m.push (old ++ new)).kill n).blk k' = (m.push (old ++ new)).blk k' := by simp [ek]
              rw [hb'] at hm' ⊢
              exact r3.sim.rw k' q hk' hq hm'
          · by_cases e1 : k1 = n
            · subst e1; simp at g6
            · by_cases e2 : k2 = n
              · subst e2; simp at g7
              · have hb1 : ((m.push (old ++ new)).kill n).blk k1 = (m.push (old ++ new)).blk k1 := by simp [e1]
                have hb2 : ((m.push (old ++ new)).kill n).blk k2 = (m.push (old ++ new)).blk k2 := by simp [e2]
                rw [hb1] at g6
                rw [hb2] at g7
                exact r3.sim.ex k1 p1 k2 p2 g1 g2 g3 g4 g5 g6 g7
    · cases h

end ops
end Go.Ab
