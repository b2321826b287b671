/-
  What is proved here: a region of operations, in whatever order the model draws, does what its operations do abstractly in the order of the text; a call of a function by its contract.
-/
import Derived.Test.YtmpnapfbgfpllaaAb8
namespace Go.Ab
open Go.RowKit

/-- A function with a body is entered. -/
def Enters (P : Program) (f : FuncId) : Prop := ∃ fn, P.funcs[f]? = some fn ∧ (fn.name == "runtime.NumGoroutine") = false ∧ fn.body.isSome = true

/-- A call takes these arguments in this memory to this value and that memory, in every world. -/
def DCalls (P : Program) (fl : Nat) (f : FuncId) (args : List AVal) (m : Mem) (v : AVal) (m' : Mem) : Prop :=
  Enters P f ∧ AStep fl m m' ∧ ∀ β w (cargs : Array Value), LRel β args cargs → Sim β m w → Free β m m' →
    Calls P f cargs w fun e w' => ∃ cv β', e = .returned cv ∧ VRel β' v cv ∧ Post fl β m w m' β' w'

theorem DCalls.of_size {P : Program} {fl : Nat} {f : FuncId} {args : List AVal} {m m' : Mem} {v : AVal} (h : DCalls P m.size f args m v m') : DCalls P fl f args m v m' :=
  ⟨h.1, h.2.1.of_size, fun β w cargs hl hs hf => (h.2.2 β w cargs hl hs hf).mono fun _ _ ⟨cv, β', h1, h2, h3⟩ => ⟨cv, β', h1, h2, h3.of_size⟩⟩
theorem DCalls.mono {P : Program} {fl fl' : Nat} {f : FuncId} {args : List AVal} {m m' : Mem} {v : AVal} (h : DCalls P fl f args m v m') (hf : fl' ≤ fl) : DCalls P fl' f args m v m' :=
  ⟨h.1, h.2.1.mono hf, fun β w cargs hl hs hfr => (h.2.2 β w cargs hl hs hfr).mono fun _ _ ⟨cv, β', h1, h2, h3⟩ => ⟨cv, β', h1, h2, h3.mono hf⟩⟩

/-- An operation takes this memory to this value and that memory, in every world. -/
def DOp (P : Program) (fl : Nat) (o : Oper) (ρa : Operand → AVal) (m : Mem) (v : AVal) (m' : Mem) : Prop :=
  AStep fl m m' ∧ ∀ β w (a : Act), (∀ x ∈ o.op.operands, VRel β (ρa x) (a.eval x)) → Sim β m w → Free β m m' →
    ∀ (K : Act → World → Prop) (Q : Exit → Act → World → Prop), (∀ cv β' w', VRel β' v cv → Post fl β m w m' β' w' → K (a.put o.dst cv) w') → o.wp P a w K Q

theorem dop_of_aop {P : Program} {fl : Nat} {o : Oper} {ρa : Operand → AVal} {m m' : Mem} {v : AVal} (h : aop P ρa m fl o.op = some (v, m')) : DOp P fl o ρa m v m' := by
  refine ⟨aop_step h, fun β w a hρ hs hf K Q hK => ?_⟩
  obtain ⟨n, cv, w', β', h1, h2, h3, h4⟩ := aop_sound h hs hf hρ
  unfold Oper.wp
  rw [h1]
  rcases h2 with rfl | ⟨rfl, rfl⟩
  · exact hK cv β' w' h3 h4
  · exact hK undef β' w' h3 h4

theorem dop_of_call {P : Program} {fl : Nat} {o : Oper} {ρa : Operand → AVal} {m m' : Mem} {v : AVal} {c : Call} {x : Operand} {f : FuncId} {xs ys : List AVal} (ho : o.op = .call c) (hc : c.callee = .value x)
    (hx : ρa x = .fn f xs ys) (h : DCalls P fl f (xs ++ c.args.toList.map ρa ++ ys) m v m') : DOp P fl o ρa m v m' := by
  obtain ⟨⟨fn, hfn, hname, hbody⟩, hstep, hcall⟩ := h
  refine ⟨hstep, fun β w a hρ hs hf K Q hK => ?_⟩
  have hops : o.op.operands = #[x] ++ c.args := by rw [ho]; simp [Op.operands, Call.operands, hc]
  have hfx := hρ x (by rw [hops]; simp)
  rw [hx] at hfx
  have hargs : LRel β (c.args.toList.map ρa) (c.args.map a.eval) := by
    refine ⟨by simp, fun i b u h1 h2 => ?_⟩
    rw [List.getElem?_map] at h1
    rw [Array.getElem?_map] at h2
    cases hq : c.args[i]? with
    | none => rw [hq] at h2; simp at h2
    | some y =>
      rw [hq] at h2
      have : c.args.toList[i]? = some y := by simpa using hq
      rw [this] at h1
      simp at h1 h2
      subst h1; subst h2
      exact hρ y (by rw [hops]; simp; exact .inr (Array.mem_of_getElem? hq))
  generalize hq : a.eval x = q at hfx
  cases hfx with
  | fn _ _ _ us vs h1 h2 r1 r2 =>
  have hl : LRel β (xs ++ c.args.toList.map ρa ++ ys) (us ++ c.args.map a.eval ++ vs) := ((show LRel β xs us from ⟨h1, r1⟩).append hargs).append ⟨h2, r2⟩
  have hrun : (execOp a.eval o).run P w = .ok (.enter f (us ++ c.args.map a.eval ++ vs)) w := by
    unfold execOp
    simp only [ho]
    rw [Sem.run_bind]
    have hres : (resolve a.eval c o.type).run P w = .ok { target := .fn (.func f) vs, args := us ++ c.args.map a.eval } w := by
      unfold resolve
      simp only [hc, hq, Deferred.ofValue]
      rfl
    rw [hres]
    have hb : fn.body.isNone = false := by cases hbb : fn.body <;> simp_all
    simp only [Result.andThen_ok, invoke, callFunc, Sem.run_bind, run_program, hfn, hname, hb, Bool.false_eq_true, if_false]
    rfl
  unfold Oper.wp
  rw [hrun, Oper.upon_enter]
  refine (hcall β w _ hl hs hf).mono ?_
  rintro e w' ⟨cv, β', rfl, hr, hp⟩
  exact hK cv β' w' hr hp

def aput (ts : Frm) (dst : Option Tmp) (v : AVal) : Frm :=
  match dst with
  | some d => fset ts d v
  | none => ts
theorem frel_put {β : Inj} {n : Nat} {ts : Frm} {a : Act} (h : FRel β n ts a.tmps) (dst : Option Tmp) {v : AVal} {cv : Value} (hv : VRel β v cv) : FRel β n (aput ts dst v) (a.put dst cv).tmps := by
  cases dst with
  | none => exact h
  | some d => exact h.set d hv

/-- Is the operation's guard met? (gd: where each operation's value goes.) -/
def awanted (n : Nat) (gd : Nat → Option Tmp) (ts : Frm) (o : Oper) : Option Bool :=
  match o.guard with
  | none => some true
  | some (j, want) =>
    match gd j with
    | none => none
    | some d =>
      if d < n then
        match ts d with
        | .bool b => some (b == want)
        | .tup [] => some false
        | _ => none
      else none

def gdOf (ops : Array Oper) (j : Nat) : Option Tmp := (ops[j]?).bind (·.dst)

theorem wanted_of {β : Inj} {n : Nat} {ops : Array Oper} {ts : Frm} {a : Act} {o : Oper} {b : Bool} (hn : n ≤ a.tmps.size) (h : ∀ j want d, o.guard = some (j, want) → gdOf ops j = some d → ∀ v, a.tmps[d]? = some v → VRel β (ts d) v)
    (hw : awanted n (gdOf ops) ts o = some b) : Region.wanted o (yielded ops a.tmps) = b := by
  unfold awanted at hw
  unfold Region.wanted
  split at hw
  · rename_i hg
    simp at hw
    subst hw
    rw [hg]
  · rename_i j want hg
    split at hw
    · cases hw
    · rename_i d hd
      by_cases hdn : d < n
      case neg => rw [if_neg hdn] at hw; cases hw
      rw [if_pos hdn] at hw
      have hlt : d < a.tmps.size := Nat.lt_of_lt_of_le hdn hn
      have hv := Array.getElem?_eq_getElem hlt
      have key := h j want d hg hd _ hv
      have hd' : (ops[j]?).bind (·.dst) = some d := hd
      rw [hg]
      simp only [yielded, hd', Option.bind_some, hv]
      generalize a.tmps[d] = q at key
      split at hw
      · rename_i c hc
        rw [hc] at key
        simp at hw
        cases key
        simp [hw]
      · rename_i hc
        rw [hc] at key
        simp at hw
        cases key
        simp [hw]
      · cases hw

/-- One operation of a region. -/
def RStep (P : Program) (n : Nat) (ops : Array Oper) (fl : Nat) (o : Oper) (ts : Frm) (m : Mem) (v : AVal) (ts' : Frm) (m' : Mem) : Prop :=
  ts' = aput ts o.dst v ∧ ((awanted n (gdOf ops) ts o = some false ∧ v = aundef ∧ m' = m) ∨ (awanted n (gdOf ops) ts o = some true ∧ DOp P fl o (aev n ts) m v m'))

theorem RStep.step {P : Program} {n : Nat} {ops : Array Oper} {fl : Nat} {o : Oper} {ts ts' : Frm} {m m' : Mem} {v : AVal} (h : RStep P n ops fl o ts m v ts' m') : AStep fl m m' := by
  rcases h.2 with ⟨_, _, rfl⟩ | ⟨_, h⟩
  · exact AStep.refl _ _
  · exact h.1

/-- What stands before what, by the edges. -/
inductive Before (ops : Array Oper) : Nat → Nat → Prop where
  | edge (j : Nat) (o : Oper) (e : Edge) (h : ops[j]? = some o) (he : e ∈ o.after) (hb : Region.binds .any e = true) : Before ops e.on j
  | trans (i j : Nat) (o : Oper) (e : Edge) (h : ops[j]? = some o) (he : e ∈ o.after) (hb : Region.binds .any e = true) (hi : Before ops i e.on) : Before ops i j

/-- The temporaries that an operation looks at. -/
def looksAt (ops : Array Oper) (o : Oper) : List Tmp :=
  (o.op.operands.toList.filterMap fun | .tmp t => some t | _ => none) ++
  (match o.guard with
   | some (g, _) => ((ops[g]?).bind (·.dst)).toList
   | none => [])

/-- Do two operations share a temporary that one of them writes? -/
def Shares (ops : Array Oper) (x y : Oper) : Prop :=
  (∃ d, x.dst = some d ∧ (d ∈ looksAt ops y ∨ y.dst = some d)) ∨ ∃ d, y.dst = some d ∧ d ∈ looksAt ops x

/-- Abstract states of a region, one behind the other. -/
structure Trace (P : Program) (nt : Nat) (ops : Array Oper) (fl : Nat) where
  ts : Nat → Frm
  m : Nat → Mem
  v : Nat → AVal
  fls : Nat → Nat
  step : ∀ i o, ops[i]? = some o → RStep P nt ops (fls i) o (ts i) (m i) (v i) (ts (i + 1)) (m (i + 1))
  floor : ∀ i, i < ops.size → fls i = (m i).size ∨ (fls i = fl ∧ (∀ k, k < i → Before ops k i) ∧ (∀ k, k < ops.size → i < k → Before ops i k))
  temps : ∀ i j x y, i < j → ops[i]? = some x → ops[j]? = some y → Shares ops x y → Before ops i j
  back : ∀ j o e, ops[j]? = some o → e ∈ o.after → Region.binds .any e = true → e.on < j

section region
variable {P : Program} {nt : Nat} {ops : Array Oper} {fl : Nat}

/-- The value that a temporary has when just these operations have been carried out. -/
def cur (ops : Array Oper) (v : Nat → AVal) (l : Array Bool) (t : Nat) (x : AVal) : Nat → AVal
  | 0 => x
  | k + 1 => if l.getD k false = true ∧ (ops[k]?).bind (·.dst) = some t then v k else cur ops v l t x k

theorem Trace.size_le (T : Trace P nt ops fl) {i j : Nat} (h : i ≤ j) (hj : j ≤ ops.size) : (T.m i).size ≤ (T.m j).size := by
  induction j with
  | zero => have : i = 0 := by omega
            subst this; exact Nat.le_refl _
  | succ j ih =>
    by_cases e : i = j + 1
    · subst e; exact Nat.le_refl _
    · have ho : ops[j]? = some ops[j] := Array.getElem?_eq_getElem (by omega)
      exact Nat.le_trans (ih (by omega) (by omega)) (T.step j _ ho).step.size

theorem Trace.mode_back (T : Trace P nt ops fl) {i : Nat} (hi : i ≤ ops.size) {n : Nat} (hn : n < (T.m 0).size) (h : ((T.m i).blk n).mode = .rw) : ((T.m 0).blk n).mode = .rw := by
  induction i with
  | zero => exact h
  | succ i ih =>
    have ho : ops[i]? = some ops[i] := Array.getElem?_eq_getElem (by omega)
    have hs := (T.step i _ ho).step
    rcases hs.mode n (Nat.lt_of_lt_of_le hn (T.size_le (Nat.zero_le _) (by omega))) with e | e
    · exact ih (by omega) (e ▸ h)
    · rw [e] at h; cases h

/-- Between two places with no separator between, what is there stays. -/
theorem Trace.quiet (T : Trace P nt ops fl) {i j : Nat} (h : i ≤ j) (hj : j ≤ ops.size) (hq : ∀ k, i ≤ k → k < j → T.fls k = (T.m k).size) {n : Nat} (hn : n < (T.m i).size) : (T.m j).blk n = (T.m i).blk n := by
  induction j with
  | zero => have : i = 0 := by omega
            subst this; rfl
  | succ j ih =>
    by_cases e : i = j + 1
    · subst e; rfl
    · have ho : ops[j]? = some ops[j] := Array.getElem?_eq_getElem (by omega)
      have hs := (T.step j _ ho).step
      have hlt : n < (T.m j).size := Nat.lt_of_lt_of_le hn (T.size_le (by omega) (by omega))
      rw [hs.same n hlt (by rw [hq j (by omega) (by omega)]; exact hlt)]
      exact ih (by omega) (by omega) fun k h1 h2 => hq k h1 (by omega)

theorem Trace.ts_eq (T : Trace P nt ops fl) (l : Array Bool) {t : Nat} : ∀ (j : Nat), j ≤ ops.size → (∀ i x, i < j → ops[i]? = some x → x.dst = some t → l.getD i false = true) → T.ts j t = cur ops T.v l t (T.ts 0 t) j := by
  intro j
  induction j with
  | zero => intro _ _; rfl
  | succ j ih =>
    intro hj hl
    have ho : ops[j]? = some ops[j] := Array.getElem?_eq_getElem (by omega)
    have hs := (T.step j _ ho).1
    rw [hs]
    by_cases hd : ops[j].dst = some t
    · rw [hd]
      have hlj := hl j _ (by omega) ho hd
      simp only [aput, fset_app, if_true, cur, hlj, ho, Option.bind_some, hd, and_self]
    · have : aput (T.ts j) ops[j].dst (T.v j) t = T.ts j t := by
        cases hdd : ops[j].dst with
        | none => rfl
        | some d =>
          simp only [aput, fset_app]
          rw [if_neg (by intro e; subst e; exact hd hdd)]
      rw [this, ih (by omega) (fun i x h1 => hl i x (by omega))]
      simp only [cur, ho, Option.bind_some, hd, and_false, if_false]

theorem cur_above {v : Nat → AVal} {l : Array Bool} {t : Nat} {x : AVal} {j : Nat} : ∀ n, j ≤ n → (∀ i y, j ≤ i → i < n → ops[i]? = some y → y.dst = some t → l.getD i false = false) → cur ops v l t x n = cur ops v l t x j := by
  intro n
  induction n with
  | zero => intro h _; have : j = 0 := by omega
            subst this; rfl
  | succ n ih =>
    intro h hl
    by_cases e : j = n + 1
    · subst e; rfl
    · rw [cur]
      rw [if_neg]
      · exact ih (by omega) fun i y h1 h2 => hl i y h1 (by omega)
      · rintro ⟨h1, h2⟩
        cases ho : ops[n]? with
        | none => rw [ho] at h2; simp at h2
        | some y =>
          rw [ho] at h2
          simp at h2
          have := hl n y (by omega) (by omega) ho h2
          rw [this] at h1
          cases h1

/-- The state in the middle of a region: these operations have been carried out. -/
structure Inv (T : Trace P nt ops fl) (β0 : Inj) (w0 : World) (l : Array Bool) (a : Act) (w : World) (β : Inj) (K : Nat) : Prop where
  lsize : l.size = ops.size
  closed : ∀ j o e, ops[j]? = some o → l.getD j false = true → e ∈ o.after → Region.binds .any e = true → l.getD e.on false = true
  tsize : nt ≤ a.tmps.size
  defers : a.defers = []
  temps : ∀ t u, a.tmps[t]? = some u → VRel β (cur ops T.v l t (T.ts 0 t) ops.size) u
  kle : K ≤ ops.size
  kbelow : ∀ i, i < K → T.fls i ≠ (T.m i).size → l.getD i false = true
  ksep : K = ops.size ∨ (T.fls K ≠ (T.m K).size ∧ l.getD K false = false)
  sim : Sim β (T.m K) w
  none : ∀ i, i < ops.size → l.getD i false = false → ∀ n, (T.m i).size ≤ n → n < (T.m (i + 1)).size → β n = none
  ext : ∀ n, ¬ ((T.m 0).size ≤ n ∧ n < (T.m ops.size).size) → β n = β0 n
  nb : ∀ n p, (T.m 0).size ≤ n → n < (T.m ops.size).size → β n = some p → w0.heap.size ≤ p.cb ∨ MayWrite fl β0 (T.m 0) p.cb
  fr : ∀ k, k < w0.heap.size → ¬ MayWrite fl β0 (T.m 0) k → w.heap[k]? = w0.heap[k]?
  os : w.os = w0.os
  tape : w.tape = w0.tape
  output : w.output = w0.output
  size : w0.heap.size ≤ w.heap.size

theorem before_listed {l : Array Bool} (hc : ∀ j o e, ops[j]? = some o → l.getD j false = true → e ∈ o.after → Region.binds .any e = true → l.getD e.on false = true) {i j : Nat} (h : Before ops i j) (hj : l.getD j false = true) : l.getD i false = true := by
  induction h with
  | edge j o e h he hb => exact hc j o e h hj he hb
  | trans i j o e h he hb _ ih => exact ih (hc j o e h hj he hb)
theorem before_ready {l : Array Bool} (hc : ∀ j o e, ops[j]? = some o → l.getD j false = true → e ∈ o.after → Region.binds .any e = true → l.getD e.on false = true) {i j : Nat} (h : Before ops i j)
    (hj : ∀ o e, ops[j]? = some o → e ∈ o.after → Region.binds .any e = true → l.getD e.on false = true) : l.getD i false = true := by
  cases h with
  | edge _ o e h he hb => exact hj o e h he hb
  | trans _ _ o e h he hb hi => exact before_listed hc hi (hj o e h he hb)

theorem sim_of_blk {β : Inj} {m m' : Mem} {w : World} (hs : Sim β m w) (hsz : m'.size ≤ m.size) (hb : ∀ n, n < m'.size → m.blk n = m'.blk n) : Sim β m' w :=
  ⟨fun n p hn hp => hs.lt n p (by omega) hp,
   fun n p hn hp hm => by rw [← hb n hn] at hm ⊢; exact hs.ro n p (by omega) hp hm,
   fun n p hn hp hm => by rw [← hb n hn] at hm ⊢; exact hs.rw n p (by omega) hp hm,
   fun n p n' p' hn hn' hne hp hp' hm hm' => hs.ex n p n' p' (by omega) (by omega) hne hp hp' (by rw [hb n hn]; exact hm) (by rw [hb n' hn']; exact hm')⟩

/-- The next separator. -/
theorem next_sep (T : Trace P nt ops fl) : ∀ d j, j + d = ops.size → ∃ K, j ≤ K ∧ K ≤ ops.size ∧ (∀ i, j ≤ i → i < K → T.fls i = (T.m i).size) ∧ (K = ops.size ∨ T.fls K ≠ (T.m K).size) := by
  intro d
  induction d with
  | zero => intro j hj; exact ⟨j, Nat.le_refl _, by omega, fun i h1 h2 => by omega, .inl (by omega)⟩
  | succ d ih =>
    intro j hj
    by_cases e : T.fls j = (T.m j).size
    · obtain ⟨K, h1, h2, h3, h4⟩ := ih (j + 1) (by omega)
      refine ⟨K, by omega, h2, fun i g1 g2 => ?_, h4⟩
      by_cases ei : i = j
      · subst ei; exact e
      · exact h3 i (by omega) g2
    · exact ⟨j, Nat.le_refl _, by omega, fun i h1 h2 => by omega, .inr e⟩

end region
end Go.Ab
