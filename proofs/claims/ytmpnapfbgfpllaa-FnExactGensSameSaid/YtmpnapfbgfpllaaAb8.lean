/-
  What is proved here: every abstract operation that is no call of a Go function is what the model's operation does.
-/
import Derived.Test.YtmpnapfbgfpllaaAb7
namespace Go.Ab
open Go.RowKit

section ops
variable {P : Program} {fl : Nat} {β : Inj} {m m' : Mem} {w : World}

theorem addr_add' (b o n : Nat) : (⟨b, o, none⟩ : Addr).add n = ⟨b, o + n, none⟩ := addr_add _ _ rfl

theorem sok_index {t : TypeId} {x i : AVal} {xv iv : Value} {n o len es : Nat} {cap : Option Nat} {j : Int} (hs : Sim β m w) (hx : VRel β x xv) (hi : VRel β i iv) (e1 : x = .sl n o len cap es) (e2 : intVal i = some j)
    (h0 : 0 ≤ j) (h1 : j < len) (he : (tElem P t).bind (tSize P) = some es) : SOk P fl β m w (Instr.indexAt t xv iv) (.ptr (some (n, o + j.toNat * es))) m := by
  subst e1
  obtain ⟨k, rfl⟩ := intVal_rel hi e2
  cases hte : tElem P t with
  | none => rw [hte] at he; cases he
  | some e =>
    rw [hte] at he
    simp only [Option.bind_some] at he
    have hd := und_elem hte
    cases hx with
    | sl _ _ _ ccap _ _ p a hpb ha hlc hcs hcap =>
    have := ha (by omega)
    subst this
    refine .same hs (cv := .pointer (some ⟨p.cb, p.co + (o + j.toNat * es), none⟩)) ?_ (.ptr n _ p hpb)
    have hc : 0 ≤ j ∧ j < (len : Int) := ⟨h0, h1⟩
    simp [Instr.indexAt, asIntOf, run_und hd, hc, run_size he, addr_add', Nat.add_assoc]

theorem sok_make {t e by_ : Nat} {z : AVal} {kl kc : IntKind} {l c : Int} (hs : Sim β m w) (he : tElem P t = some e) (h1 : tSize P e = some 1) (h2 : tBytes P e = some by_) (h3 : tZero P e = some [z])
    (hb : by_ ≤ 1024) (h0 : 0 ≤ l) (hlc : l ≤ c) (hc : c ≤ 2 ^ 36) (hf : Free β m (m.push (List.replicate c.toNat z))) :
    SOk P fl β m w (Instr.makeSlice t (.int kl l) (.int kc c)) (.sl m.size 0 l.toNat (some c.toNat) 1) (m.push (List.replicate c.toNat z)) := by
  obtain ⟨i, zv, hi, hsz, rfl, hz, hzr⟩ := info_of h1 h2 h3
  have hbytes : (i.bytes : Int) * c ≤ 281474976710656 := by
    have : (i.bytes : Int) * c ≤ 1024 * c := Int.mul_le_mul_of_nonneg_right (by omega) (by omega)
    omega
  have hr := run_make (P := P) w t e i zv (und_elem he) hi hz kl kc l c h0 hlc hbytes (by omega)
  have hrow : LRel β (List.replicate c.toNat z) (madeCells zv.cells (c.toNat * i.size)) := by
    have := zero_row (β := β) (hzr β) (es := 1) (by simp) (by omega) c.toNat
    have hfl : (List.replicate c.toNat [z]).flatten = List.replicate c.toNat z := by
      generalize c.toNat = n
      induction n with
      | zero => rfl
      | succ n ih => simp [List.replicate_succ, ih]
    rw [hfl] at this
    rw [hsz]
    exact this
  have hn : β m.size = none := hf m.size (Nat.le_refl _) (by simp)
  refine ⟨_, _, _, hr, .sl m.size 0 _ _ 1 _ _ _ (upd_same _ _ _) (fun _ => rfl) (by omega) ?_ (fun c' h => by simpa using h), post_alloc hs hn e hrow.toC⟩
  simp [size_madeCells, hsz]

/-- What an operation does. -/
def OOk (P : Program) (fl : Nat) (β : Inj) (m : Mem) (w : World) (s : Sem Next) (v : AVal) (m' : Mem) : Prop :=
  ∃ n cv w' β', s.run P w = .ok n w' ∧ (n = .value cv ∨ (n = .skip ∧ cv = undef)) ∧ VRel β' v cv ∧ Post fl β m w m' β' w'

theorem SOk.op {s : Sem Value} {v : AVal} (h : SOk P fl β m w s v m') : OOk P fl β m w (do pure (.value (← s))) v m' := by
  obtain ⟨cv, w', β', h1, h2, h3⟩ := h
  exact ⟨.value cv, cv, w', β', by rw [Sem.run_bind, h1]; rfl, .inl rfl, h2, h3⟩

theorem aop_sound {ρa : Operand → AVal} {ρ : Operand → Value} {o : Oper} {v : AVal} (h : aop P ρa m fl o.op = some (v, m')) (hs : Sim β m w) (hf : Free β m m')
    (hρ : ∀ x ∈ o.op.operands, VRel β (ρa x) (ρ x)) : OOk P fl β m w (execOp ρ o) v m' := by
  obtain ⟨dst, op, ty, pos, after, guard⟩ := o
  simp only at h hρ
  cases op <;> simp only [aop] at h <;> simp only [Op.operands] at hρ
  case move x =>
    simp at h
    obtain ⟨rfl, rfl⟩ := h
    exact ⟨_, _, w, β, rfl, .inl rfl, hρ x (by simp), Post.refl hs⟩
  case assign x =>
    simp at h
    obtain ⟨rfl, rfl⟩ := h
    exact ⟨_, _, w, β, rfl, .inl rfl, hρ x (by simp), Post.refl hs⟩
  case pick c a b =>
    split at h
    · rename_i t ht
      simp at h
      obtain ⟨rfl, rfl⟩ := h
      have hc := hρ c (by simp)
      rw [ht] at hc
      have hcv : ρ c = .bool t := by generalize ρ c = q at hc; cases hc; rfl
      refine ⟨.value (if t then ρ a else ρ b), _, w, β, ?_, .inl rfl, ?_, Post.refl hs⟩
      · simp only [execOp, hcv, asBool, Sem.run_bind, Sem.run_pure, Result.andThen_ok]
      · cases t
        · exact hρ b (by simp)
        · exact hρ a (by simp)
    · cases h
  case alloc t =>
    split at h
    · rename_i z hz
      simp at h
      obtain ⟨rfl, rfl⟩ := h
      exact (sok_alloc hs hz hf _ rfl).op
    · cases h
  case box t x =>
    split at h
    · rename_i hfit
      simp at h
      obtain ⟨rfl, rfl⟩ := h
      exact (sok_box hs (hρ x (by simp)) hfit hf).op
    · cases h
  case build t parts =>
    split at h
    · rename_i fs z hfs hz
      rw [Option.map_eq_some_iff] at h
      obtain ⟨cs, hcs, he⟩ := h
      simp at he
      obtain ⟨rfl, rfl⟩ := he
      exact (sok_build parts hs (fun x hx => hρ x (by simpa using hx)) hfs hz hcs).op
    · cases h
  case buildSlice t len parts =>
    split at h
    · rename_i e he
      split at h
      · rename_i es z h1 h2
        split at h
        · rename_i hc
          rw [Option.map_eq_some_iff] at h
          obtain ⟨cs, hcs, he'⟩ := h
          simp at he'
          obtain ⟨rfl, rfl⟩ := he'
          exact (sok_buildSlice parts hs (fun x hx => hρ x (by simpa using hx)) he h1 h2 hc.1 hc.2 hcs hf).op
        · cases h
      · cases h
    · cases h
  case load t a =>
    rw [Option.map_eq_some_iff] at h
    obtain ⟨u, hu, he⟩ := h
    simp at he
    obtain ⟨rfl, rfl⟩ := he
    unfold aload at hu
    split at hu
    · rename_i n o ha
      have hp := hρ a (by simp)
      rw [ha] at hp
      split at hu
      · rename_i k h1 h2
        rw [Option.map_eq_some_iff] at hu
        obtain ⟨cs, hcs, rfl⟩ := hu
        exact (sok_load hs hp (.inl ⟨k, cs, h1, h2, hcs, rfl⟩)).op
      · rename_i h1
        exact (sok_load hs hp (.inr ⟨h1, hu⟩)).op
      · cases hu
    · cases hu
  case store t a x =>
    rw [Option.map_eq_some_iff] at h
    obtain ⟨m1, hm1, he⟩ := h
    simp at he
    obtain ⟨rfl, rfl⟩ := he
    unfold astore at hm1
    split at hm1
    · rename_i n o ha
      have hp := hρ a (by simp)
      rw [ha] at hp
      split at hm1
      · rename_i k hk
        split at hm1
        · rename_i hfit
          obtain ⟨w', hr, hpost⟩ := sok_store (fl := fl) hs hp (hρ x (by simp)) hk hfit hm1
          exact ⟨.skip, undef, w', β, by simp only [execOp, Sem.run_bind, hr, Result.andThen_ok]; rfl, .inr ⟨rfl, rfl⟩, .tup [] #[] rfl (fun i a v h => by simp at h), hpost⟩
        · cases hm1
      · cases hm1
    · cases hm1
  case nilCheck x =>
    have hx := hρ x (by simp)
    split at h
    · rename_i a ha
      simp at h
      obtain ⟨rfl, rfl⟩ := h
      rw [ha] at hx
      refine ⟨.value (ρ x), _, w, β, ?_, .inl rfl, hx, Post.refl hs⟩
      simp only [execOp]
      generalize ρ x = q at hx
      cases hx
      rfl
    · rename_i f a b ha
      simp at h
      obtain ⟨rfl, rfl⟩ := h
      rw [ha] at hx
      refine ⟨.value (ρ x), _, w, β, ?_, .inl rfl, hx, Post.refl hs⟩
      simp only [execOp]
      generalize ρ x = q at hx
      cases hx
      rfl
    · cases h
  case binOp op t x y yt =>
    rw [Option.map_eq_some_iff] at h
    obtain ⟨u, hu, he⟩ := h
    simp at he
    obtain ⟨rfl, rfl⟩ := he
    exact (sok_bin x y hs (hρ x (by simp)) (hρ y (by simp)) hu).op
  case unOp op t x =>
    have hx := hρ x (by simp)
    cases op <;> simp only at h <;> first
      | (cases h; done)
      | skip
    all_goals
      split at h
      case h_2 => cases h
      rename_i ha
      simp at h
      obtain ⟨rfl, rfl⟩ := h
      rw [ha] at hx
      generalize hq : ρ x = q at hx
      cases hx
      first
        | exact SOk.op (.same hs (by rw [hq]; rfl) (.bool _))
        | exact SOk.op (.same hs (by rw [hq]; simp [Op.unary, Op.intArith]) (.int _ _))
  case convert src dst x =>
    rw [Option.map_eq_some_iff] at h
    obtain ⟨u, hu, he⟩ := h
    simp at he
    obtain ⟨rfl, rfl⟩ := he
    exact (sok_convert hs (hρ x (by simp)) hu).op
  case makeFunc fn first captured =>
    cases fn <;> simp only at h <;> first
      | (cases h; done)
      | skip
    rename_i f
    simp at h
    obtain ⟨rfl, rfl⟩ := h
    refine SOk.op (.same hs (cv := .func (.func f) (first.map ρ) (captured.map ρ)) rfl ?_)
    refine .fn f _ _ _ _ (by simp) (by simp) (fun i a v h1 h2 => ?_) (fun i a v h1 h2 => ?_)
    · rw [List.getElem?_map] at h1
      rw [Array.getElem?_map] at h2
      cases hq : first[i]? with
      | none => rw [hq] at h2; simp at h2
      | some y =>
        rw [hq] at h2
        have : first.toList[i]? = some y := by simpa using hq
        rw [this] at h1
        simp at h1 h2
        subst h1; subst h2
        exact hρ y (by simp; exact .inl (Array.mem_of_getElem? hq))
    · rw [List.getElem?_map] at h1
      rw [Array.getElem?_map] at h2
      cases hq : captured[i]? with
      | none => rw [hq] at h2; simp at h2
      | some y =>
        rw [hq] at h2
        have : captured.toList[i]? = some y := by simpa using hq
        rw [this] at h1
        simp at h1 h2
        subst h1; subst h2
        exact hρ y (by simp; exact .inr (Array.mem_of_getElem? hq))
  case makeSlice t l c =>
    unfold amake at h
    split at h
    case h_2 => cases h
    rename_i e kl l' kc c' he hl hc
    split at h
    case h_2 => cases h
    rename_i by_ z h1 h2 h3
    split at h
    case isFalse => cases h
    rename_i hcond
    obtain ⟨c1, c2, c3, c4⟩ := hcond
    simp at h
    obtain ⟨rfl, rfl⟩ := h
    have hl' := hρ l (by simp)
    have hc' := hρ c (by simp)
    rw [hl] at hl'
    rw [hc] at hc'
    generalize hq : ρ l = ql at hl'
    generalize hq2 : ρ c = qc at hc'
    cases hl'; cases hc'
    have := sok_make (fl := fl) (kl := kl) (kc := kc) hs he h1 h2 h3 c1 c2 c3 c4 hf
    rw [← hq, ← hq2] at this
    exact this.op
  case slice t x lo hi mx =>
    rw [Option.map_eq_some_iff] at h
    obtain ⟨u, hu, he⟩ := h
    simp at he
    obtain ⟨rfl, rfl⟩ := he
    have opt : ∀ (q : Option Operand), (∀ y ∈ q.toArray, VRel β (ρa y) (ρ y)) → ORel β (q.map ρa) (q.map ρ) := by
      intro q hq
      cases q with
      | none => exact .inl ⟨rfl, rfl⟩
      | some y => exact .inr ⟨_, _, rfl, rfl, hq y (by simp)⟩
    exact (sok_slice hs (hρ x (by simp)) (opt lo fun y hy => hρ y (by simp at hy ⊢; simp [hy])) (opt hi fun y hy => hρ y (by simp at hy ⊢; simp [hy])) (opt mx fun y hy => hρ y (by simp at hy ⊢; simp [hy])) hu).op
  case fieldAddr s x f =>
    rw [Option.map_eq_some_iff] at h
    obtain ⟨u, h, he⟩ := h
    simp at he
    obtain ⟨rfl, rfl⟩ := he
    unfold afieldAddr at h
    split at h
    case h_2 => cases h
    rename_i n o off ft hx htf
    split at h
    case h_2 => cases h
    rename_i k hsz
    simp at h
    subst h
    have hx' := hρ x (by simp)
    rw [hx] at hx'
    unfold tField at htf
    split at htf
    case h_2 => cases htf
    rename_i fs hd
    rw [Option.map_eq_some_iff] at htf
    obtain ⟨fd, hfd, he⟩ := htf
    simp at he
    obtain ⟨rfl, rfl⟩ := he
    generalize hq : ρ x = q at hx'
    cases hx' with
    | ptr _ _ p hp =>
    refine SOk.op (.same hs (cv := .pointer (some ⟨p.cb, p.co + (o + fd.offset), none⟩)) ?_ (.ptr n _ p hp))
    rw [hq]
    simp [Instr.fieldAt, run_und hd, hfd, Instr.sureAddr, fieldPlace, run_size hsz, addr_add', Nat.add_assoc]
  case field s x f =>
    split at h
    case h_2 => cases h
    rename_i cs off ft hx htf
    have hx' := hρ x (by simp)
    rw [hx] at hx'
    unfold tField at htf
    split at htf
    case h_2 => cases htf
    rename_i fs hd
    rw [Option.map_eq_some_iff] at htf
    obtain ⟨fd, hfd, he⟩ := htf
    simp at he
    obtain ⟨rfl, rfl⟩ := he
    generalize hq : ρ x = q at hx'
    cases hx' with
    | agg _ us g1 g2 =>
    split at h
    · rename_i k ha hsz
      simp at h
      obtain ⟨rfl, rfl⟩ := h
      refine SOk.op (.same hs (cv := .agg (us.extract fd.offset (fd.offset + k))) ?_ ?_)
      · rw [hq]
        simp [Instr.field, run_und hd, hfd, asAgg, part, run_agg ha, run_size hsz]
      · refine .agg _ _ (by simp [g1]; omega) (fun i a v q1 q2 => ?_)
        rw [List.getElem?_take] at q1
        split at q1
        · rw [List.getElem?_drop] at q1
          rw [Array.getElem?_extract] at q2
          split at q2
          · exact g2 _ _ _ q1 q2
          · cases q2
        · cases q1
    · rename_i ha
      rw [Option.map_eq_some_iff] at h
      obtain ⟨u, hu, he⟩ := h
      simp at he
      obtain ⟨rfl, rfl⟩ := he
      obtain ⟨cv, hcv, hr⟩ := (show LRel β cs us from ⟨g1, g2⟩).get hu
      refine SOk.op (.same hs (cv := cv) ?_ hr)
      rw [hq]
      simp [Instr.field, run_und hd, hfd, asAgg, part, run_agg ha, hcv]
    · cases h
  case indexAddr t x i =>
    rw [Option.map_eq_some_iff] at h
    obtain ⟨u, h, he⟩ := h
    simp at he
    obtain ⟨rfl, rfl⟩ := he
    unfold aindexAddr at h
    split at h
    case h_2 => cases h
    rename_i n o len cap es j hx hi
    split at h
    case isFalse => cases h
    rename_i hc
    simp at h
    subst h
    exact (sok_index hs (hρ x (by simp)) (hρ i (by simp)) hx hi hc.1 hc.2.1 hc.2.2).op
  case index t x i =>
    split at h
    case h_2 => cases h
    rename_i s j hx hi
    split at h
    case isFalse => cases h
    rename_i hc
    split at h
    case h_2 => cases h
    rename_i b hb
    simp at h
    obtain ⟨rfl, rfl⟩ := h
    have hx' := hρ x (by simp)
    rw [hx] at hx'
    obtain ⟨k, hiv⟩ := intVal_rel (hρ i (by simp)) hi
    generalize hq : ρ x = q at hx'
    cases hx'
    refine SOk.op (.same hs (cv := .int .u8 b.toNat) ?_ (.int _ _))
    rw [hq, hiv]
    simp only [Instr.index, asIntOf, Sem.run_bind, Sem.run_pure, Result.andThen_ok, run_und (kd_string hc.1)]
    rw [if_pos hc.2, hb]
    rfl
  case extract x i =>
    split at h
    case h_2 => cases h
    rename_i xs hx
    rw [Option.map_eq_some_iff] at h
    obtain ⟨u, hu, he⟩ := h
    simp at he
    obtain ⟨rfl, rfl⟩ := he
    have hx' := hρ x (by simp)
    rw [hx] at hx'
    generalize hq : ρ x = q at hx'
    cases hx' with
    | tup _ us g1 g2 =>
    obtain ⟨cv, hcv, hr⟩ := (show LRel β xs us from ⟨g1, g2⟩).get hu
    refine SOk.op (.same hs (cv := cv) ?_ hr)
    rw [hq]
    simp [Instr.extract, hcv]
  case call c =>
    obtain ⟨callee, args, argTypes⟩ := c
    unfold abuiltin at h
    simp only at h
    split at h
    · rename_i x t
      have hx := hρ x (by simp [Call.operands])
      have hr : ∀ n : Int, (Builtin.len_ #[t] ty #[ρ x]).run P w = .ok (.int .i64 n) w → OOk P fl β m w (execOp ρ ⟨dst, .call ⟨.builtin .len, ⟨[x]⟩, ⟨[t]⟩⟩, ty, pos, after, guard⟩) (.int .i64 n) m := by
        intro n hn
        refine ⟨.value (.int .i64 n), _, w, β, ?_, .inl rfl, .int _ _, Post.refl hs⟩
        simp [execOp, resolve, invoke, builtin, hn]
      rw [Option.map_eq_some_iff] at h
      obtain ⟨u, h, he⟩ := h
      simp at he
      obtain ⟨rfl, rfl⟩ := he
      unfold alen at h
      generalize hq : ρ x = q at hx
      split at h
      · rename_i hk hax
        simp at h
        subst h
        rw [hax] at hx
        obtain ⟨e, hd⟩ := kd_slice hk
        cases hx
        exact hr _ (by rw [hq]; simp [Builtin.len_, run_und hd, goInt])
      · rename_i hk hax
        simp at h
        subst h
        rw [hax] at hx
        obtain ⟨e, hd⟩ := kd_slice hk
        cases hx
        exact hr _ (by rw [hq]; simp [Builtin.len_, run_und hd, goInt])
      · rename_i hk hax
        simp at h
        subst h
        rw [hax] at hx
        obtain ⟨e, hd⟩ := kd_slice hk
        cases hx
        exact hr _ (by rw [hq]; simp [Builtin.len_, run_und hd, goInt])
      · rename_i hk hax
        simp at h
        subst h
        rw [hax] at hx
        have hd := kd_string hk
        cases hx
        exact hr _ (by rw [hq]; simp [Builtin.len_, run_und hd, goInt])
      · cases h
    · rename_i s x t tx
      have hS := hρ s (by simp [Call.operands])
      have hX := hρ x (by simp [Call.operands])
      obtain ⟨cv, w', β', h1, h2, h3⟩ := sok_append (ty := ty) hs hS hX h hf
      refine ⟨.value cv, cv, w', β', ?_, .inl rfl, h2, h3⟩
      simp [execOp, resolve, invoke, builtin, h1]
    · cases h
  all_goals first
    | (cases h; done)
    | skip

theorem astep_asts {n o : Nat} {vs : List AVal} (h : asts fl m n o vs = some m') : AStep fl m m' := by
  unfold asts at h
  split at h
  · rename_i hc
    simp at h
    subst h
    exact astep_put hc.1 (fun _ => .inl hc.2.2.1.symm)
  · cases h

theorem aop_step {ρa : Operand → AVal} {op : Op} {v : AVal} (h : aop P ρa m fl op = some (v, m')) : AStep fl m m' := by
  cases op <;> simp only [aop] at h
  all_goals try simp only [Option.map_eq_some_iff, Prod.mk.injEq] at h
  case store t a x =>
    obtain ⟨m1, h, _, rfl⟩ := h
    unfold astore at h
    split at h
    · split at h
      · split at h
        · exact astep_asts h
        · cases h
      · cases h
    · cases h
  case call c =>
    unfold abuiltin at h
    split at h
    · rw [Option.map_eq_some_iff] at h
      obtain ⟨u, _, he⟩ := h
      simp at he
      rw [← he.2]
      exact AStep.refl _ _
    · unfold aappend at h
      split at h
      case h_2 => cases h
      split at h
      case h_2 => cases h
      split at h
      case isFalse => cases h
      split at h
      case h_2 => cases h
      split at h
      · split at h <;> first
          | (simp at h; rw [← h.2]; exact AStep.refl _ _)
          | (cases h; done)
      · split at h
        · split at h
          · simp at h; rw [← h.2]; exact astep_push _ _ _
          · cases h
        · split at h
          · split at h
            · split at h
              · simp at h; rw [← h.2]; exact astep_push _ _ _
              · split at h
                · rename_i hc
                  simp at h
                  rw [← h.2]
                  refine (astep_push fl m _).trans (astep_put hc.1 (fun _ => .inr rfl))
                · cases h
            · cases h
          · cases h
        · cases h
    · cases h
  case unOp op t x =>
    cases op <;> simp only at h <;> first
      | (cases h; done)
      | (split at h <;> first
          | (simp at h; rw [← h.2]; exact AStep.refl _ _)
          | (cases h; done))
  case makeFunc fn a b =>
    cases fn <;> simp only at h <;> first
      | (cases h; done)
      | (simp at h; rw [← h.2]; exact AStep.refl _ _)
  case makeSlice t l c =>
    unfold amake at h
    repeat' split at h
    all_goals first
      | (cases h; done)
      | (simp at h; rw [← h.2]; exact astep_push _ _ _)
  all_goals
    repeat' split at h
  all_goals first
    | (cases h; done)
    | (simp at h; rw [← h.2]; exact AStep.refl _ _)
    | (simp at h; rw [← h.2]; exact astep_push _ _ _)
    | (obtain ⟨u, _, h2⟩ := h; rw [← h2.2]; exact AStep.refl _ _)
    | (rw [Option.map_eq_some_iff] at h; obtain ⟨u, _, h2⟩ := h; simp at h2; rw [← h2.2]; exact AStep.refl _ _)
    | (rw [Option.map_eq_some_iff] at h; obtain ⟨u, _, h2⟩ := h; simp at h2; rw [← h2.2]; exact astep_push _ _ _)

end ops
end Go.Ab
