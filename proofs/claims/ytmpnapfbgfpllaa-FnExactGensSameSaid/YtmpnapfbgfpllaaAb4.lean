/-
  What is proved here: literals, slices, arithmetic and append do what the abstract operations say.
-/
import Derived.Test.YtmpnapfbgfpllaaAb3
import Derived.Laws.BytesString
namespace Go.Ab
open Go.RowKit

theorem getElem_lt {α : Type} {l : List α} {i : Nat} {a : α} (h : l[i]? = some a) : i < l.length := by
  rcases Nat.lt_or_ge i l.length with h' | h'
  · exact h'
  · simp [List.getElem?_eq_none h'] at h

/-- A row of single stores into an array. -/
theorem lrel_fold {β : Inj} : ∀ (xs : List AVal) (us : List Value) (_ : LRel β xs us.toArray) (cs : List AVal) (c : Array Value) (_ : LRel β cs c) (off k : Nat),
    LRel β (setCells cs (off + k) xs) ((us.zipIdx k).foldl (fun c (p : Value × Nat) => c.setIfInBounds (off + p.2) p.1) c) := by
  intro xs
  induction xs with
  | nil =>
    intro us hl cs c hc off k
    have : us = [] := by have := hl.1; simp at this; exact List.length_eq_zero_iff.1 this.symm
    subst this
    exact hc
  | cons x xs ih =>
    intro us hl cs c hc off k
    match us, hl with
    | [], hl => have := hl.1; simp at this
    | u :: us, hl =>
      have hx : VRel β x u := hl.2 0 x u (by simp) (by simp)
      have hr : LRel β xs us.toArray := ⟨by have := hl.1; simpa using this, fun i a v h1 h2 => hl.2 (i + 1) a v (by simpa using h1) (by simpa using h2)⟩
      have := ih us hr (cs.set (off + k) x) (c.setIfInBounds (off + k) u) (hc.set _ hx) off (k + 1)
      simpa [setCells, Nat.add_assoc] using this

theorem fill_rel {β : Inj} (place : Nat → Option (Nat × Nat)) : ∀ (ps : List (Nat × AVal)) (qs : List (Nat × Value)) (_ : ps.length = qs.length) (_ : ∀ (i : Nat) p q, ps[i]? = some p → qs[i]? = some q → p.1 = q.1 ∧ VRel β p.2 q.2)
    (cs : List AVal) (c : Array Value) (_ : LRel β cs c) (cs' : List AVal) (_ : afill place cs ps = some cs'), ∃ c', Instr.fill place c qs = some c' ∧ LRel β cs' c' := by
  intro ps
  induction ps with
  | nil =>
    intro qs hlen _ cs c hc cs' h
    have : qs = [] := List.length_eq_zero_iff.1 hlen.symm
    subst this
    simp [afill] at h
    subst h
    exact ⟨c, rfl, hc⟩
  | cons p ps ih =>
    intro qs hlen hr cs c hc cs' h
    match qs, hlen with
    | [], hlen => simp at hlen
    | (j, v) :: qs, hlen =>
      obtain ⟨i, x⟩ := p
      obtain ⟨h1, h2⟩ := hr 0 (i, x) (j, v) (by simp) (by simp)
      simp only at h1 h2
      subst h1
      simp only [afill] at h
      cases hp : place i with
      | none => rw [hp] at h; cases h
      | some os =>
        obtain ⟨off, size⟩ := os
        rw [hp] at h
        simp only at h
        split at h
        · rename_i hc2
          obtain ⟨hfit, hle⟩ := hc2
          obtain ⟨hl, hlen2⟩ := h2.cells hfit
          have hl' : LRel β x.cells v.cells.toList.toArray := by simpa using hl
          have hnew := lrel_fold x.cells v.cells.toList hl' cs c hc off 0
          simp only [Nat.add_zero] at hnew
          obtain ⟨c', hf, hcr⟩ := ih qs (by simpa using hlen) (fun k p q g1 g2 => hr (k + 1) p q (by simpa using g1) (by simpa using g2)) _ _ hnew cs' h
          refine ⟨c', ?_, hcr⟩
          have hsz : v.cells.size = size := by rw [← hl.1, hlen2]
          have hsz2 : ¬ (off + v.cells.size > c.size) := by rw [← hc.1, hsz]; omega
          simp only [Instr.fill, hp]
          rw [if_neg (by simp [hsz]; rw [← hc.1]; omega)]
          have e : (v.cells.zipIdx.foldl (fun (cs : Array Value) (p : Value × Nat) => cs.setIfInBounds (off + p.2) p.1) c) = ((v.cells.toList.zipIdx 0).foldl (fun c (p : Value × Nat) => c.setIfInBounds (off + p.2) p.1) c) := by
            rw [← Array.foldl_toList, Array.toList_zipIdx]
          rw [← e] at hf
          exact hf
        · cases h

theorem setfill_length (place : Nat → Option (Nat × Nat)) : ∀ (ps : List (Nat × AVal)) (cs cs' : List AVal), afill place cs ps = some cs' → cs'.length = cs.length := by
  intro ps
  induction ps with
  | nil => intro cs cs' h; simp [afill] at h; rw [h]
  | cons p ps ih =>
    intro cs cs' h
    obtain ⟨i, x⟩ := p
    simp only [afill] at h
    split at h
    · cases h
    · split at h
      · rw [ih _ _ h, setCells_length]
      · cases h

section ops
variable {P : Program} {fl : Nat} {β : Inj} {m m' : Mem} {w : World}

theorem parts_rel {ρa : Operand → AVal} {ρ : Operand → Value} (parts : Array (Nat × Operand)) (hρ : ∀ x ∈ parts.toList.map (·.2), VRel β (ρa x) (ρ x)) :
    (parts.toList.map fun p => (p.1, ρa p.2)).length = ((parts.map fun (i, x) => (i, ρ x)).toList).length ∧
    ∀ (i : Nat) (p : Nat × AVal) (q : Nat × Value), (parts.toList.map fun p => (p.1, ρa p.2))[i]? = some p → ((parts.map fun (i, x) => (i, ρ x)).toList)[i]? = some q → p.1 = q.1 ∧ VRel β p.2 q.2 := by
  refine ⟨by simp, fun i p q h1 h2 => ?_⟩
  simp only [Array.toList_map, List.getElem?_map] at h1 h2
  cases hi : parts.toList[i]? with
  | none => rw [hi] at h1; simp at h1
  | some x =>
    rw [hi] at h1 h2
    simp at h1 h2
    subst h1; subst h2
    exact ⟨rfl, hρ x.2 (List.mem_map.2 ⟨x, List.mem_of_getElem? hi, rfl⟩)⟩

theorem fields_run {fs : Array Field} {l : List (Nat × Nat)} (h : fs.toList.mapM (fun x => (tSize P x.type).map fun z => (x.offset, z)) = some l) :
    (fs.mapM fun f => do pure (f.offset, ← sizeOf f.type) : Sem _).run P w = .ok l.toArray w := by
  have key : ∀ (fs : List Field) (l : List (Nat × Nat)), fs.mapM (fun x => (tSize P x.type).map fun z => (x.offset, z)) = some l →
      (fs.mapM (fun f => do pure (f.offset, ← sizeOf f.type)) : Sem _).run P w = .ok l w := by
    intro fs
    induction fs with
    | nil => intro l h; simp at h; subst h; simp
    | cons f fs ih =>
      intro l h
      rw [List.mapM_cons] at h
      cases hz : tSize P f.type with
      | none => rw [hz] at h; simp at h
      | some z =>
        rw [hz] at h
        simp only [Option.map_some, Option.pure_def, Option.bind_eq_bind, Option.bind_some] at h
        cases hr : fs.mapM (fun x => (tSize P x.type).map fun z => (x.offset, z)) with
        | none => rw [hr] at h; simp at h
        | some r =>
          rw [hr] at h
          simp at h
          subst h
          simp only [List.mapM_cons, Sem.run_bind, run_size hz, Result.andThen_ok, Sem.run_pure, ih r hr]
  rw [Array.mapM_eq_mapM_toList, Sem.run_map, key _ _ h]
  rfl

theorem sok_build {t : Nat} {fs : List (Nat × Nat)} {z cs : List AVal} {ρa : Operand → AVal} {ρ : Operand → Value} (parts : Array (Nat × Operand)) (hs : Sim β m w) (hρ : ∀ x ∈ parts.toList.map (·.2), VRel β (ρa x) (ρ x))
    (hfs : tFields P t = some fs) (hz : tZero P t = some z) (h : afill (fs[·]?) z (parts.toList.map fun p => (p.1, ρa p.2)) = some cs) :
    SOk P fl β m w (Instr.build t (parts.map fun (i, x) => (i, ρ x))) (.agg cs) m := by
  unfold tFields at hfs
  split at hfs
  · rename_i fds hd
    obtain ⟨v, hv, hl⟩ := run_zero (w := w) β hz
    obtain ⟨p1, p2⟩ := parts_rel (β := β) (ρa := ρa) (ρ := ρ) parts hρ
    obtain ⟨c', hf, hc⟩ := fill_rel _ _ _ p1 p2 z v.cells hl cs h
    refine .same hs (cv := .agg c') ?_ (.agg cs c' hc.1 hc.2)
    unfold Instr.build
    simp only [Sem.run_bind, hv, Result.andThen_ok, run_und hd, fields_run hfs]
    have e : (fun x : Nat => (fs[x]? : Option (Nat × Nat))) = fun x : Nat => (fs.toArray[x]? : Option (Nat × Nat)) := by funext x; simp
    rw [← e, hf]
    simp
  · cases hfs

theorem zero_row {z : List AVal} {zc : Array Value} {es : Nat} (hz : LRel β z zc) (hlen : z.length = es) (hes : 0 < es) (len : Nat) :
    LRel β (List.replicate len z).flatten ((Array.range (len * es)).map (zc[· % zc.size]!)) := by
  have hzs : zc.size = es := by rw [← hz.1, hlen]
  have hfl : ∀ (len : Nat), ((List.replicate len z).flatten).length = len * es := by
    intro len
    induction len with
    | zero => simp
    | succ n ih => simp [List.replicate_succ, ih, hlen, Nat.succ_mul]; omega
  have hget : ∀ (len i : Nat), i < len * es → ((List.replicate len z).flatten)[i]? = z[i % es]? := by
    intro len
    induction len with
    | zero => intro i hi; simp at hi
    | succ n ih =>
      intro i hi
      simp only [List.replicate_succ, List.flatten_cons]
      rw [List.getElem?_append]
      by_cases h : i < z.length
      · rw [if_pos h, Nat.mod_eq_of_lt (by omega)]
      · rw [if_neg h, ih _ (by rw [Nat.succ_mul] at hi; omega), hlen, ← Nat.mod_eq_sub_mod (by omega)]
  refine ⟨by simp [hfl], fun i a v h1 h2 => ?_⟩
  have hi : i < len * es := by rw [← hfl len]; exact getElem_lt h1
  rw [hget len i hi] at h1
  have hm : i % es < es := Nat.mod_lt _ hes
  obtain ⟨u, hu, hr⟩ := hz.get h1
  have : v = u := by
    rw [Array.getElem?_map] at h2
    rw [Array.getElem?_range, if_pos hi] at h2
    simp only [Option.map_some, Option.some.injEq, hzs] at h2
    rw [← h2]
    rw [getElem!_def, hu]
  rw [this]; exact hr

theorem sok_buildSlice {t e es len : Nat} {z cs : List AVal} {ρa : Operand → AVal} {ρ : Operand → Value} (parts : Array (Nat × Operand)) (hs : Sim β m w) (hρ : ∀ x ∈ parts.toList.map (·.2), VRel β (ρa x) (ρ x))
    (he : tElem P t = some e) (hes : tSize P e = some es) (hz : tZero P e = some z) (hzl : z.length = es) (hb : len * es ≤ 2 ^ 24)
    (h : afill (fun i => some (i * es, es)) (List.replicate len z).flatten (parts.toList.map fun p => (p.1, ρa p.2)) = some cs) (hf : Free β m (m.push cs)) :
    SOk P fl β m w (Instr.buildSlice t len (parts.map fun (i, x) => (i, ρ x))) (.sl m.size 0 len (some len) es) (m.push cs) := by
  obtain ⟨v, hv, hl⟩ := run_zero (w := w) β hz
  obtain ⟨p1, p2⟩ := parts_rel (β := β) (ρa := ρa) (ρ := ρ) parts hρ
  have hrow : ∃ c0 : Array Value, LRel β (List.replicate len z).flatten c0 ∧ c0.size = len * es ∧
      (Instr.buildSlice t len (parts.map fun (i, x) => (i, ρ x))).run P w = ((match Instr.fill (fun i => some (i * es, es)) c0 (parts.map fun (i, x) => (i, ρ x)).toList with
        | some cells => (do pure (.slice (some (← newRow e cells)) len len) : Sem Value)
        | none => stuck "buildSlice: a part of the wrong size") : Sem Value).run P w := by
    have hb' : ¬ (16777216 < len * es) := by omega
    by_cases h0 : len * es = 0
    · refine ⟨#[], ?_, by simp [h0], ?_⟩
      · have : (List.replicate len z).flatten = [] := by
          rcases Nat.mul_eq_zero.1 h0 with h0 | h0
          · subst h0; rfl
          · have : z = [] := List.length_eq_zero_iff.1 (hzl.trans h0)
            subst this
            simp
        rw [this]
        exact LRel.nil β
      · unfold Instr.buildSlice
        have h0' : ¬ (16777216 < 0) := by omega
        simp only [Sem.run_bind, run_und (und_elem he), run_size hes, Result.andThen_ok]
        have hr0 : Array.range 0 = #[] := rfl
        simp only [h0, hr0]
        simp
        generalize Instr.fill (fun i => some (i * es, es)) #[] _ = q
        cases q <;> rfl
    · have hpos : 0 < es := by rcases Nat.eq_zero_or_pos es with h | h; (subst h; simp at h0); exact h
      refine ⟨_, zero_row hl hzl hpos len, by simp, ?_⟩
      unfold Instr.buildSlice
      simp only [Sem.run_bind, run_und (und_elem he), run_size hes, Result.andThen_ok]
      simp [hb', h0, hv]
      generalize Instr.fill (fun i => some (i * es, es)) _ _ = q
      cases q <;> rfl
  obtain ⟨c0, hc0, hsz0, hrun⟩ := hrow
  obtain ⟨c', hfl, hc⟩ := fill_rel _ _ _ p1 p2 _ c0 hc0 cs h
  obtain ⟨h1, hn, h2⟩ := new_row (P := P) (fl := fl) e hs hf hc.toC
  have hcs : c'.size = len * es := by
    have := setfill_length _ _ _ _ h
    rw [← hc.1, this, hc0.1, hsz0]
  refine ⟨_, _, _, ?_, .sl m.size 0 len len es (some len) _ _ (upd_same _ _ _) (fun _ => rfl) (Nat.le_refl _) (by simp [hcs]) (fun c e => by simpa using e), h2⟩
  rw [hrun, hfl]
  simp [h1]

end ops
end Go.Ab
