/-
  What is proved here: every abstract operation is what the model's operation does, in every world that the abstract memory stands for.
-/
import Derived.Test.YtmpnapfbgfpllaaAb6
namespace Go.Ab
open Go.RowKit

section ops
variable {P : Program} {fl : Nat} {β : Inj} {m m' : Mem} {w : World}

theorem intVal_rel {x : AVal} {v : Value} {n : Int} (h : VRel β x v) (hi : intVal x = some n) : ∃ k, v = .int k n := by
  unfold intVal at hi
  split at hi
  · simp at hi; subst hi; cases h; exact ⟨_, rfl⟩
  · cases hi

theorem run_boundN {k : IntKind} {i y : Nat} (c : BoundsCode) (h1 : i ≤ y) : (Instr.sliceBound (.int k (i : Int)) y c).run P w = .ok i w := by
  simp [Instr.sliceBound, asIntOf]
  intro h
  omega

theorem run_sliceBounds {isSlice : Bool} {len cap l h mm : Nat} {lov hiv mxv : Option Value}
    (HM : (mxv = none ∧ mm = cap) ∨ ∃ k, mxv = some (.int k (mm : Int)) ∧ mm ≤ cap ∧ hiv ≠ none)
    (HH : (hiv = none ∧ h = len) ∨ ∃ k, hiv = some (.int k (h : Int))) (hhm : h ≤ mm)
    (HL : (lov = none ∧ l = 0) ∨ ∃ k, lov = some (.int k (l : Int))) (hlh : l ≤ h) :
    (Instr.sliceBounds isSlice len cap lov hiv mxv).run P w = .ok (l, h, mm) w := by
  rcases HM with ⟨rfl, rfl⟩ | ⟨k1, rfl, hm, hne⟩ <;> rcases HH with ⟨rfl, rfl⟩ | ⟨k2, rfl⟩ <;> rcases HL with ⟨rfl, rfl⟩ | ⟨k3, rfl⟩
  all_goals first
    | (exact absurd rfl hne)
    | (simp only [Instr.sliceBounds]; simp (disch := assumption) [run_boundN])

/-- An optional index. -/
def ORel (β : Inj) (a : Option AVal) (v : Option Value) : Prop := (a = none ∧ v = none) ∨ ∃ x u, a = some x ∧ v = some u ∧ VRel β x u

theorem oidx {a : Option AVal} {v : Option Value} {d n : Int} (h : ORel β a v) (hi : oint a d = some n) (h0 : 0 ≤ n) : (v = none ∧ n = d) ∨ ∃ k, v = some (.int k (n.toNat : Int)) := by
  rcases h with ⟨rfl, rfl⟩ | ⟨x, u, rfl, rfl, hr⟩
  · simp [oint] at hi; exact .inl ⟨rfl, hi.symm⟩
  · simp only [oint] at hi
    obtain ⟨k, hu⟩ := intVal_rel hr hi
    exact .inr ⟨k, by rw [hu, Int.toNat_of_nonneg h0]⟩

theorem slice_plain {t : Nat} {d : TypeDesc} {xv : Value} {lov hiv mxv : Option Value} (hd : P.underlying t = some d) (ha : isAggD d = false) : (Instr.sliceAt t xv lov hiv mxv).run P w = (Instr.slice t xv lov hiv mxv).run P w := by
  unfold Instr.sliceAt
  rw [Sem.run_bind, run_und hd]
  cases d <;> first | rfl | (simp [isAggD] at ha)

theorem sok_slice {t : Nat} {x v : AVal} {xv : Value} {lo hi mx : Option AVal} {lov hiv mxv : Option Value} (hs : Sim β m w) (hx : VRel β x xv)
    (hlo : ORel β lo lov) (hhi : ORel β hi hiv) (hmx : ORel β mx mxv) (h : aslice P t x lo hi mx = some v) : SOk P fl β m w (Instr.sliceAt t xv lov hiv mxv) v m := by
  unfold aslice at h
  split at h
  · -- a string
    rename_i s hk
    have hd := kd_string hk
    cases hx
    split at h
    case h_2 => cases h
    rename_i hh hl e2 e3
    split at h
    case isFalse => cases h
    rename_i hc
    obtain ⟨c1, c2, c3⟩ := hc
    simp at h
    subst h
    obtain ⟨_, rfl⟩ : (none : Option AVal) = none ∧ mxv = none := hmx.resolve_right (by rintro ⟨a, u, h, _⟩; cases h)
    have HH := oidx hhi e2 (by omega)
    have HL := oidx hlo e3 c1
    refine .same hs (cv := .string (s.extract hl.toNat hh.toNat)) ?_ (.str _)
    rw [slice_plain hd rfl]
    have := run_sliceBounds (P := P) (w := w) (isSlice := false) (len := s.size) (cap := s.size) (l := hl.toNat) (h := hh.toNat) (mm := s.size) (lov := lov) (hiv := hiv) (mxv := none) (.inl ⟨rfl, rfl⟩)
      (HH.imp (fun ⟨a, b⟩ => ⟨a, by omega⟩) id) (by omega) (HL.imp (fun ⟨a, b⟩ => ⟨a, by omega⟩) id) (by omega)
    unfold Instr.slice
    rw [Sem.run_bind, run_und hd]
    simp [this]
  · -- a slice
    rename_i n o len cap es hk
    obtain ⟨e, hd⟩ := kd_slice hk
    split at h
    case isFalse => cases h
    rename_i hes
    have hte : tElem P t = some e := by unfold tElem; rw [hd]
    rw [hte] at hes
    simp only [Option.bind_some] at hes
    split at h
    case h_2 => cases h
    rename_i hh hl e2 e3
    split at h
    case isFalse => cases h
    rename_i hc
    obtain ⟨c1, c2, c3⟩ := hc
    have HH := oidx hhi e2 (by omega)
    have HL := oidx hlo e3 c1
    cases hx with
    | sl _ _ _ ccap _ _ p a hb ha hlc hcs hcap =>
    -- the result, at a bound mm for the capacity
    have fin : ∀ (mm : Nat) (cap' : Option Nat), hh.toNat ≤ mm → mm ≤ ccap → (∀ c, cap' = some c → mm - hl.toNat = c) →
        (Instr.sliceBounds true len ccap lov hiv mxv).run P w = .ok (hl.toNat, hh.toNat, mm) w →
        SOk P fl β m w (Instr.sliceAt t (.slice (some a) len ccap) lov hiv mxv) (.sl n (o + hl.toNat * es) (hh.toNat - hl.toNat) cap' es) m := by
      intro mm cap' g1 g2 g3 g4
      refine .same hs (cv := .slice (some (if mm = hl.toNat then a else a.add (hl.toNat * es))) (hh.toNat - hl.toNat) (mm - hl.toNat)) ?_ ?_
      · rw [slice_plain hd rfl]
        unfold Instr.slice
        rw [Sem.run_bind, run_und hd]
        simp only [Result.andThen_ok, Sem.run_bind, g4, run_size hes, Sem.run_pure]
        congr 2
        split <;> rfl
      · refine .sl n _ _ _ es cap' p _ hb (fun hne => ?_) (by omega) ?_ g3
        · have hml : ¬ (mm = hl.toNat) := by omega
          rw [if_neg hml, ha (by omega), addr_add _ _ rfl]
          simp [Nat.add_assoc]
        · have h1 : (hl.toNat + (mm - hl.toNat)) * es ≤ ccap * es := Nat.mul_le_mul_right _ (by omega)
          rw [Nat.add_mul] at h1
          omega
    split at h
    · -- no third index
      simp at h
      subst h
      obtain ⟨_, rfl⟩ : (none : Option AVal) = none ∧ mxv = none := hmx.resolve_right (by rintro ⟨a, u, h, _⟩; cases h)
      refine fin ccap _ (by omega) (Nat.le_refl _) (fun c hc => ?_) ?_
      · cases cap with
        | none => cases hc
        | some c0 => simp at hc; rw [hcap c0 rfl]; exact hc
      · exact run_sliceBounds (.inl ⟨rfl, rfl⟩) (HH.imp (fun ⟨a, b⟩ => ⟨a, by omega⟩) id) (by omega) (HL.imp (fun ⟨a, b⟩ => ⟨a, by omega⟩) id) (by omega)
    · rename_i qv
      split at h
      case h_2 => cases h
      rename_i q hiq eq1
      split at h
      case isFalse => cases h
      rename_i hq
      obtain ⟨hq1, hq2⟩ := hq
      simp at h
      subst h
      rcases hmx with ⟨hm, _⟩ | ⟨qa, qu, hm, rfl, hqr⟩
      · cases hm
      · simp at hm
        subst hm
        obtain ⟨k, hu⟩ := intVal_rel hqr eq1
        have hne : hiv ≠ none := by
          rcases hhi with ⟨hh0, _⟩ | ⟨a, u, _, hh0, _⟩
          · cases hh0
          · rw [hh0]; simp
        refine fin q.toNat _ (by omega) (by omega) (fun c hc => by simpa using hc) ?_
        exact run_sliceBounds (.inr ⟨k, by rw [hu, Int.toNat_of_nonneg (by omega)], by omega, hne⟩) (HH.imp (fun ⟨a, b⟩ => ⟨a, by omega⟩) id) (by omega) (HL.imp (fun ⟨a, b⟩ => ⟨a, by omega⟩) id) (by omega)
  · -- nil
    rename_i hk
    obtain ⟨e, hd⟩ := kd_slice hk
    cases hx
    split at h
    · rename_i es hes e2 e3
      simp at h
      subst h
      obtain ⟨_, rfl⟩ : (none : Option AVal) = none ∧ mxv = none := hmx.resolve_right (by rintro ⟨a, u, h, _⟩; cases h)
      have hte : tElem P t = some e := by unfold tElem; rw [hd]
      rw [hte] at hes
      simp only [Option.bind_some] at hes
      have HH := oidx hhi e2 (by omega)
      have HL := oidx hlo e3 (by omega)
      refine .same hs (cv := .slice none 0 0) ?_ .nilSl
      rw [slice_plain hd rfl]
      have := run_sliceBounds (P := P) (w := w) (isSlice := true) (len := 0) (cap := 0) (l := 0) (h := 0) (mm := 0) (lov := lov) (hiv := hiv) (mxv := none) (.inl ⟨rfl, rfl⟩)
        (HH.imp (fun ⟨a, b⟩ => ⟨a, rfl⟩) id) (by omega) (HL.imp (fun ⟨a, b⟩ => ⟨a, rfl⟩) id) (by omega)
      unfold Instr.slice
      rw [Sem.run_bind, run_und hd]
      simp [this, run_size hes]
    · cases h
  · cases h

theorem sok_bin {op : BinOp} {t : TypeId} {x y v : AVal} {xv yv : Value} (xo yo : Operand) (hs : Sim β m w) (hx : VRel β x xv) (hy : VRel β y yv) (h : abin P op t x y = some v) :
    SOk P fl β m w (do eqGuard op t xo yo xv yv; binOp op t xv yv) v m := by
  have hg : ∀ (a b : Value), (∀ c, a ≠ .agg c) → a ≠ .nilIface → (eqGuard op t xo yo a b).run P w = .ok () w := by
    intro a b h1 h2
    unfold eqGuard
    cases a <;> first | (exact absurd rfl (h1 _)) | (exact absurd rfl h2) | (cases op <;> rfl) | (cases op <;> cases b <;> rfl)
  unfold abin at h
  split at h
  · rename_i k a k' b
    cases hx; cases hy
    split at h
    case isFalse => cases h
    rename_i hk
    subst hk
    have g := hg (.int k a) (.int k b) (by intro c h; cases h) (by intro h; cases h)
    cases op <;> simp only at h <;> first
      | (cases h; done)
      | (simp at h; subst h; refine .same hs ?_ (by constructor); rw [Sem.run_bind, g]; simp [binOp, Op.intArith, Op.intCmp, Op.intBits]; done)
      | (split at h
         case isTrue => cases h
         rename_i hb
         simp at h
         subst h
         refine .same hs ?_ (by constructor)
         rw [Sem.run_bind, g]
         simp [binOp, Op.intDiv, hb])
  · rename_i a b
    cases hx; cases hy
    have g := hg (.string a) (.string b) (by intro c h; cases h) (by intro h; cases h)
    cases op <;> simp only at h <;> first
      | (cases h; done)
      | (simp at h; subst h; refine .same hs ?_ (by constructor); rw [Sem.run_bind, g]; simp [binOp, Op.stringOp]; done)
      | (split at h
         case isFalse => cases h
         rename_i hb
         simp at h
         subst h
         refine .same hs ?_ (by constructor)
         rw [Sem.run_bind, g]
         have hb' : ¬ (((a.size + b.size : Nat) : Int) > IntKind.i64.max) := by
           have : IntKind.i64.max = 9223372036854775807 := by decide
           rw [this]; omega
         simp only [binOp, Op.stringOp, Result.andThen_ok]
         rw [if_neg hb']
         rfl)
  · rename_i a b
    cases hx; cases hy
    split at h
    case isFalse => cases h
    rename_i hk
    have hd := kd_bool hk
    have g := hg (.bool a) (.bool b) (by intro c h; cases h) (by intro h; cases h)
    have he : (Op.equal t (.bool a) (.bool b)).run P w = .ok (a == b) w := by
      show (Op.equalIn (9999 + 1) t (.bool a) (.bool b)).run P w = _
      unfold Op.equalIn
      rw [Sem.run_bind, run_und hd]
      rfl
    cases op <;> simp only at h <;> first
      | (cases h; done)
      | (simp at h; subst h; refine .same hs ?_ (by constructor); rw [Sem.run_bind, g]; simp [binOp, he])
  · cases hx; cases hy
    split at h
    case isFalse => cases h
    rename_i hk
    obtain ⟨e, hd⟩ := kd_slice hk
    have g := hg (.slice none 0 0) (.slice none 0 0) (by intro c h; cases h) (by intro h; cases h)
    have he : (Op.equal t (.slice none 0 0) (.slice none 0 0)).run P w = .ok true w := by
      show (Op.equalIn (9999 + 1) t _ _).run P w = _
      unfold Op.equalIn
      rw [Sem.run_bind, run_und hd]
      rfl
    cases op <;> simp only at h <;> first
      | (cases h; done)
      | (simp at h; subst h; refine .same hs ?_ (by constructor); rw [Sem.run_bind, g]; simp [binOp, he])
  · cases hy
    split at h
    case isFalse => cases h
    rename_i hk
    obtain ⟨e, hd⟩ := kd_slice hk
    cases hx with
    | sl _ _ _ ccap _ _ p a hb ha hlc hcs hcap =>
    have g := fun len => hg (.slice (some a) len ccap) (.slice none 0 0) (by intro c h; cases h) (by intro h; cases h)
    have he : ∀ len, (Op.equal t (.slice (some a) len ccap) (.slice none 0 0)).run P w = .ok false w := by
      intro len
      show (Op.equalIn (9999 + 1) t _ _).run P w = _
      unfold Op.equalIn
      rw [Sem.run_bind, run_und hd]
      rfl
    cases op <;> simp only at h <;> first
      | (cases h; done)
      | (simp at h; subst h; refine .same hs ?_ (by constructor); rw [Sem.run_bind, g]; simp [binOp, he])
  · cases h

theorem abytes_rel : ∀ {cs : List AVal} {us : Array Value} {l : List UInt8}, LRel β cs us → abytes cs = some l → ∃ ns : List Int, us = (ns.map (Value.int .u8)).toArray ∧ l = ns.map fun n => UInt8.ofNat n.toNat := by
  intro cs
  induction cs with
  | nil =>
    intro us l hr h
    simp [abytes] at h
    subst h
    have : us = #[] := Array.eq_empty_of_size_eq_zero (by have := hr.1; simpa using this.symm)
    exact ⟨[], by simp [this], rfl⟩
  | cons x cs ih =>
    intro us l hr h
    obtain ⟨us⟩ := us
    cases us with
    | nil => have := hr.1; simp at this
    | cons u us =>
      have hx : VRel β x u := hr.2 0 x u (by simp) (by simp)
      have hrest : LRel β cs us.toArray := ⟨by have := hr.1; simpa using this, fun i a v h1 h2 => hr.2 (i + 1) a v (by simpa using h1) (by simpa using h2)⟩
      unfold abytes at h
      split at h
      · rename_i heq; cases heq
      · rename_i n r heq
        simp at heq
        obtain ⟨rfl, rfl⟩ := heq
        rw [Option.map_eq_some_iff] at h
        obtain ⟨l', h1, rfl⟩ := h
        obtain ⟨ns, h2, h3⟩ := ih hrest h1
        cases hx
        refine ⟨n :: ns, ?_, by simp [h3]⟩
        simp at h2
        simp [h2]
      · cases h

theorem foldl_push (ns : List Int) (s : ByteArray) : ns.foldl (fun r n => r.push (UInt8.ofNat n.toNat)) s = ⟨(s.data.toList ++ ns.map fun n => UInt8.ofNat n.toNat).toArray⟩ := by
  induction ns generalizing s with
  | nil => cases s; simp
  | cons n ns ih =>
    rw [List.foldl_cons, ih]
    simp [ByteArray.push]

theorem sok_convert {src dst : TypeId} {x v : AVal} {xv : Value} (hs : Sim β m w) (hx : VRel β x xv) (h : aconvert P m src dst x = some v) : SOk P fl β m w (convert src dst xv) v m := by
  unfold aconvert at h
  split at h
  · rename_i k n k1 k2 h1 h2
    simp at h
    subst h
    cases hx
    have hd := kd_int h2
    obtain ⟨d1, hd1⟩ : ∃ d, P.underlying src = some d := by
      unfold tKd at h1
      cases hq : P.underlying src with
      | none => rw [hq] at h1; cases h1
      | some d => exact ⟨d, rfl⟩
    refine .same hs ?_ (.int _ _)
    unfold convert
    simp only [Sem.run_bind, run_und hd1, run_und hd, Result.andThen_ok]
    cases d1 <;> rfl
  · rename_i s h1 h2
    simp at h
    subst h
    cases hx
    refine .same hs (cv := .string s) ?_ (.str _)
    unfold convert
    simp only [Sem.run_bind, run_und (kd_string h1), run_und (kd_string h2), Result.andThen_ok]
    rfl
  · rename_i n o len cap h1 h2
    split at h
    case isFalse => cases h
    rename_i he
    obtain ⟨e, hd⟩ := kd_slice h1
    have hte : tElem P src = some e := by unfold tElem; rw [hd]
    rw [hte] at he
    simp only [Option.bind_some] at he
    rw [Option.map_eq_some_iff] at h
    obtain ⟨l, hl, rfl⟩ := h
    rw [Option.bind_eq_some_iff] at hl
    obtain ⟨cs, hcs, hb⟩ := hl
    cases hx with
    | sl _ _ _ ccap _ _ p a hpb ha hlc hcs' hcap =>
    obtain ⟨us, hr, hlr⟩ := loads_cells (P := P) hs hpb hcs
    obtain ⟨ns, rfl, rfl⟩ := abytes_rel hlr hb
    have hload : (loadCells a len).run P w = .ok (ns.map (Value.int .u8)).toArray w := by
      by_cases h0 : ccap = 0
      · have h00 : len = 0 := by omega
        subst h00
        have : ns = [] := by
          have := hlr.1
          rw [(alds_len hcs).1] at this
          simp at this
          exact List.length_eq_zero_iff.1 this.symm
        subst this
        rfl
      · rw [ha h0]; exact hr
    refine .same hs ?_ (.str _)
    rw [run_convert_bytes_string w src dst e (some a) len ccap hd (kd_int he) (kd_string h2), run_bytesToString w a len ccap ns hload, foldl_push]
    rfl
  · cases h

end ops
end Go.Ab
