/-
  What is proved here: the rule for a region of operations and the rule for a function's body.
-/
import Derived.Test.YtmpnapfbgfpllaaAb11
namespace Go.Ab
open Go.RowKit

/-- For each operation, the set of those that stand before it, as bits. -/
def masksGo : List Oper → List Nat → List Nat
  | [], acc => acc
  | o :: rest, acc => masksGo rest (acc ++ [o.after.toList.foldl (fun s e => if Region.binds .any e then s ||| 2 ^ e.on ||| acc.getD e.on 0 else s) 0])
def masks (ops : List Oper) : List Nat := masksGo ops []
def bit (ms : List Nat) (i j : Nat) : Bool := (ms.getD j 0).testBit i

theorem masksGo_sound (ops : Array Oper) : ∀ (rest : List Oper) (acc : List Nat), (∀ i j, (acc.getD j 0).testBit i = true → Before ops i j) → (∀ k o, rest[k]? = some o → ops[acc.length + k]? = some o) →
    ∀ i j, ((masksGo rest acc).getD j 0).testBit i = true → Before ops i j := by
  intro rest
  induction rest with
  | nil => intro acc h _; exact h
  | cons o rest ih =>
    intro acc h hr
    have ho : ops[acc.length]? = some o := by simpa using hr 0 o (by simp)
    refine ih _ (fun i j hb => ?_) (fun k o' hk => ?_)
    · rw [List.getD_eq_getElem?_getD, List.getElem?_append] at hb
      by_cases hj : j < acc.length
      · rw [if_pos hj] at hb
        exact h i j (by rw [List.getD_eq_getElem?_getD]; exact hb)
      · rw [if_neg hj] at hb
        by_cases e : j = acc.length
        · subst e
          simp only [Nat.sub_self, List.getElem?_cons_zero, Option.getD_some] at hb
          have key : ∀ (es : List Edge) (s : Nat), (∀ e ∈ es, e ∈ o.after) → (s.testBit i = true → Before ops i acc.length) →
              (es.foldl (fun s e => if Region.binds .any e then s ||| 2 ^ e.on ||| acc.getD e.on 0 else s) s).testBit i = true → Before ops i acc.length := by
            intro es
            induction es with
            | nil => intro s _ hs hb; exact hs hb
            | cons e es ihe =>
              intro s hes hs hb
              rw [List.foldl_cons] at hb
              refine ihe _ (fun e' he' => hes e' (by simp [he'])) ?_ hb
              intro hb'
              split at hb'
              · rename_i hbind
                rw [Nat.testBit_or, Nat.testBit_or, Bool.or_eq_true, Bool.or_eq_true] at hb'
                have hea : e ∈ o.after := hes e (by simp)
                rcases hb' with (hb' | hb') | hb'
                · exact hs hb'
                · rw [Nat.testBit_two_pow] at hb'
                  have : e.on = i := by simpa using hb'
                  rw [← this]
                  exact .edge _ o e ho hea hbind
                · exact .trans _ _ o e ho hea hbind (h i e.on hb')
              · exact hs hb'
          exact key _ 0 (fun e he => by simpa using he) (fun h => by simp at h) hb
        · have : j - acc.length = (j - acc.length - 1) + 1 := by omega
          rw [this] at hb
          simp at hb
    · have := hr (k + 1) o' (by simpa using hk)
      simp only [List.length_append, List.length_cons, List.length_nil]
      rw [show acc.length + (0 + 1) + k = acc.length + (k + 1) by omega]
      exact this

theorem bit_sound {ops : Array Oper} {i j : Nat} (h : bit (masks ops.toList) i j = true) : Before ops i j :=
  masksGo_sound ops ops.toList [] (fun i j h => by simp at h) (fun k o h => by simpa using h) i j h

def sharesB (x y : Option Tmp × List Tmp) : Bool :=
  (match x.1 with | some d => y.2.contains d || y.1 == some d | none => false) || (match y.1 with | some d => x.2.contains d | none => false)
theorem sharesB_of {ops : Array Oper} {x y : Oper} (h : Shares ops x y) : sharesB (x.dst, looksAt ops x) (y.dst, looksAt ops y) = true := by
  unfold sharesB
  rcases h with ⟨d, h1, h2⟩ | ⟨d, h1, h2⟩
  · simp only [h1, Bool.or_eq_true, List.contains_iff_mem, beq_iff_eq]
    exact .inl h2
  · simp only [h1, Bool.or_eq_true, List.contains_iff_mem]
    exact .inr h2

/-- The check of a region whose order is drawn. -/
def regionOk (ops : Array Oper) : Bool :=
  let ms := masks ops.toList
  let info := ops.toList.map fun o => (o.dst, looksAt ops o)
  (ops.toList.zipIdx.all fun p => p.1.after.toList.all fun e => !Region.binds .any e || decide (e.on < p.2)) &&
  (info.zipIdx.all fun y => info.zipIdx.all fun x => !decide (x.2 < y.2) || !sharesB x.1 y.1 || bit ms x.2 y.2)

theorem regionOk_back {ops : Array Oper} (h : regionOk ops = true) : ∀ (j : Nat) o e, ops[j]? = some o → e ∈ o.after → Region.binds .any e = true → e.on < j := by
  intro j o e ho he hb
  unfold regionOk at h
  simp only [Bool.and_eq_true, List.all_eq_true] at h
  have hm : (o, j) ∈ ops.toList.zipIdx := by
    rw [List.mem_zipIdx_iff_getElem?]
    simpa using ho
  have := h.1 (o, j) hm e (by simpa using he)
  rw [hb] at this
  simpa using this
theorem regionOk_temps {ops : Array Oper} (h : regionOk ops = true) : ∀ (i j : Nat) x y, i < j → ops[i]? = some x → ops[j]? = some y → Shares ops x y → Before ops i j := by
  intro i j x y hij hx hy hs
  unfold regionOk at h
  simp only [Bool.and_eq_true, List.all_eq_true] at h
  have hmx : ((x.dst, looksAt ops x), i) ∈ (ops.toList.map fun o => (o.dst, looksAt ops o)).zipIdx := by
    rw [List.mem_zipIdx_iff_getElem?]
    simp [hx]
  have hmy : ((y.dst, looksAt ops y), j) ∈ (ops.toList.map fun o => (o.dst, looksAt ops o)).zipIdx := by
    rw [List.mem_zipIdx_iff_getElem?]
    simp [hy]
  have := h.2 _ hmy _ hmx
  rw [sharesB_of hs] at this
  simp [hij] at this
  exact bit_sound this

/-- Does the operation stand before or behind every other one? -/
def sepB (ops : Array Oper) (i : Nat) : Bool :=
  let ms := masks ops.toList
  (List.range ops.size).all fun k => (!decide (k < i) || bit ms k i) && (!decide (i < k) || bit ms i k)
theorem sepB_sound {ops : Array Oper} {i : Nat} (h : sepB ops i = true) (hi : i < ops.size) : (∀ k, k < i → Before ops k i) ∧ (∀ k, k < ops.size → i < k → Before ops i k) := by
  unfold sepB at h
  simp only [List.all_eq_true, Bool.and_eq_true] at h
  refine ⟨fun k hk => ?_, fun k hk hik => ?_⟩
  · have := (h k (List.mem_range.2 (by omega))).1
    simp [hk] at this
    exact bit_sound this
  · have := (h k (List.mem_range.2 hk)).2
    simp [hik] at this
    exact bit_sound this

/-- The floor of an operation: in a region whose order is drawn only one that stands before or behind every other may write what was there. -/
def opFl (dr : Bool) (sep : Nat → Bool) (i fl : Nat) (m : Mem) : Nat := if dr = true then (if sep i = true then fl else m.size) else fl
theorem opFl_seq (sep : Nat → Bool) (i fl : Nat) (m : Mem) : opFl false sep i fl m = fl := rfl
theorem opFl_sep {sep : Nat → Bool} {i fl : Nat} {m : Mem} (h : sep i = true) : opFl true sep i fl m = fl := by simp [opFl, h]

/-- The function that an operation calls, with its arguments. -/
def calleeOf (ρ : Operand → AVal) : Op → Option (FuncId × List AVal)
  | .call c =>
    match c.callee with
    | .value x => match ρ x with
      | .fn f xs ys => some (f, xs ++ c.args.toList.map ρ ++ ys)
      | _ => none
    | _ => none
  | _ => none

/-- One operation, walked abstractly; K: what follows. -/
def AOp1 (P : Program) (nt : Nat) (gd : Nat → Option Tmp) (sep : Nat → Bool) (fl : Nat) (dr : Bool) (i : Nat) (o : Oper) (K : Frm → Mem → Prop) (ts : Frm) (m : Mem) : Prop :=
  match awanted nt gd ts o with
  | none => False
  | some false => K (aput ts o.dst aundef) m
  | some true =>
    match calleeOf (aev nt ts) o.op with
    | some (f, args) => ∃ v m', (DCalls P m.size f args m v m' ∨ DCalls P (opFl dr sep i fl m) f args m v m') ∧ K (aput ts o.dst v) m'
    | none =>
      match aop P (aev nt ts) m (opFl dr sep i fl m) o.op with
      | some (v, m') => K (aput ts o.dst v) m'
      | none => False

/-- The operations of a region, walked abstractly in the order of the text. -/
def AOps (P : Program) (nt : Nat) (gd : Nat → Option Tmp) (sep : Nat → Bool) (fl : Nat) (dr : Bool) (Q : Frm → Mem → Prop) : List Oper → Nat → Frm → Mem → Prop
  | [], _, ts, m => Q ts m
  | o :: rest, i, ts, m => AOp1 P nt gd sep fl dr i o (fun ts m => AOps P nt gd sep fl dr Q rest (i + 1) ts m) ts m

theorem aop1_mono {P : Program} {nt : Nat} {gd : Nat → Option Tmp} {sep : Nat → Bool} {fl : Nat} {dr : Bool} {i : Nat} {o : Oper} {K K' : Frm → Mem → Prop} {ts : Frm} {m : Mem} (h : ∀ ts m, K ts m → K' ts m) (hk : AOp1 P nt gd sep fl dr i o K ts m) : AOp1 P nt gd sep fl dr i o K' ts m := by
  unfold AOp1 at *
  split
  · rename_i hw; rw [hw] at hk; exact hk
  · rename_i hw; rw [hw] at hk; exact h _ _ hk
  · rename_i hw
    rw [hw] at hk
    simp only at hk
    split
    · rename_i hc
      rw [hc] at hk
      obtain ⟨v, m', hd, hk⟩ := hk
      exact ⟨v, m', hd, h _ _ hk⟩
    · rename_i hc
      rw [hc] at hk
      simp only at hk
      split
      · rename_i ha; rw [ha] at hk; exact h _ _ hk
      · rename_i ha; rw [ha] at hk; exact hk
theorem aops_cons {P : Program} {nt : Nat} {gd : Nat → Option Tmp} {sep : Nat → Bool} {fl : Nat} {dr : Bool} {Q : Frm → Mem → Prop} {o : Oper} {rest : List Oper} {i : Nat} {ts : Frm} {m : Mem}
    (h : ∀ K : Frm → Mem → Prop, (∀ ts m, AOps P nt gd sep fl dr Q rest (i + 1) ts m → K ts m) → AOp1 P nt gd sep fl dr i o K ts m) : AOps P nt gd sep fl dr Q (o :: rest) i ts m :=
  h _ fun _ _ h => h
theorem aops_nil {P : Program} {nt : Nat} {gd : Nat → Option Tmp} {sep : Nat → Bool} {fl : Nat} {dr : Bool} {Q : Frm → Mem → Prop} {i : Nat} {ts : Frm} {m : Mem} (h : Q ts m) : AOps P nt gd sep fl dr Q [] i ts m := h

structure Steps' (P : Program) (nt : Nat) (ops : Array Oper) (fl : Nat) (dr : Bool) (i : Nat) (ts0 : Frm) (m0 : Mem) (Q : Frm → Mem → Prop) where
  ts : Nat → Frm
  m : Nat → Mem
  v : Nat → AVal
  fls : Nat → Nat
  ts_i : ts i = ts0
  m_i : m i = m0
  step : ∀ k o, i ≤ k → ops[k]? = some o → RStep P nt ops (fls k) o (ts k) (m k) (v k) (ts (k + 1)) (m (k + 1))
  floor : ∀ k, i ≤ k → k < ops.size → fls k = (m k).size ∨ fls k = opFl dr (sepB ops) k fl (m k)
  post : Q (ts ops.size) (m ops.size)

theorem callee_dop {P : Program} {fl : Nat} {o : Oper} {ρ : Operand → AVal} {f : FuncId} {args : List AVal} {m m' : Mem} {v : AVal} (h : calleeOf ρ o.op = some (f, args)) (hd : DCalls P fl f args m v m') : DOp P fl o ρ m v m' := by
  unfold calleeOf at h
  split at h
  · rename_i c ho
    split at h
    · rename_i x hc
      split at h
      · rename_i f' xs ys hx
        simp at h
        obtain ⟨rfl, rfl⟩ := h
        refine dop_of_call ho hc hx ?_
        simpa using hd
      · cases h
    · cases h
  · cases h

theorem steps_of_aops {P : Program} {nt : Nat} {ops : Array Oper} {fl : Nat} {dr : Bool} {Q : Frm → Mem → Prop} : ∀ (rest : List Oper) (i : Nat) (ts0 : Frm) (m0 : Mem), ops.toList.drop i = rest → i ≤ ops.size → AOps P nt (gdOf ops) (sepB ops) fl dr Q rest i ts0 m0 →
    Nonempty (Steps' P nt ops fl dr i ts0 m0 Q) := by
  intro rest
  induction rest with
  | nil =>
    intro i ts0 m0 hd hi h
    have : i = ops.size := by
      have := congrArg List.length hd
      simp at this
      omega
    subst this
    exact ⟨⟨fun _ => ts0, fun _ => m0, fun _ => aundef, fun _ => 0, rfl, rfl, fun k o h1 h2 => by simp [Array.getElem?_eq_none h1] at h2, fun k h1 h2 => by omega, h⟩⟩
  | cons o rest ih =>
    intro i ts0 m0 hd hi h
    have hin : i < ops.size := by
      rcases Nat.lt_or_ge i ops.size with h' | h'
      · exact h'
      · rw [List.drop_eq_nil_of_le (by simpa using h')] at hd; cases hd
    have ho : ops[i]? = some o := by
      have h2 : ops.toList[i]? = some o := by
        have := List.getElem?_drop (xs := ops.toList) (i := i) (j := 0)
        rw [hd] at this
        simpa using this.symm
      simpa using h2
    have hrest : ops.toList.drop (i + 1) = rest := by
      rw [← List.tail_drop, hd]; rfl
    -- one step more
    have build : ∀ (ts1 : Frm) (m1 : Mem) (v : AVal) (f : Nat), RStep P nt ops f o ts0 m0 v ts1 m1 → (f = m0.size ∨ f = opFl dr (sepB ops) i fl m0) → Nonempty (Steps' P nt ops fl dr (i + 1) ts1 m1 Q) → Nonempty (Steps' P nt ops fl dr i ts0 m0 Q) := by
      rintro ts1 m1 v f hr hf ⟨S⟩
      refine ⟨⟨fun k => if k ≤ i then ts0 else S.ts k, fun k => if k ≤ i then m0 else S.m k, fun k => if k ≤ i then v else S.v k, fun k => if k ≤ i then f else S.fls k, by simp, by simp, fun k o' h1 h2 => ?_, fun k h1 h2 => ?_, ?_⟩⟩
      · by_cases e : k = i
        · subst e
          rw [ho] at h2
          simp at h2
          subst h2
          simp only [Nat.le_refl, if_true, if_neg (show ¬ (k + 1 ≤ k) by omega)]
          rw [S.ts_i, S.m_i]
          exact hr
        · simp only [if_neg (show ¬ (k ≤ i) by omega), if_neg (show ¬ (k + 1 ≤ i) by omega)]
          exact S.step k o' (by omega) h2
      · by_cases e : k = i
        · subst e
          simp only [Nat.le_refl, if_true]
          exact hf
        · simp only [if_neg (show ¬ (k ≤ i) by omega)]
          exact S.floor k (by omega) h2
      · simp only [if_neg (show ¬ (ops.size ≤ i) by omega)]
        exact S.post
    simp only [AOps, AOp1] at h
    split at h
    · exact h.elim
    · rename_i hw
      exact build _ _ aundef (opFl dr (sepB ops) i fl m0) ⟨rfl, .inl ⟨hw, rfl, rfl⟩⟩ (.inr rfl) (ih _ _ _ hrest hin h)
    · rename_i hw
      split at h
      · rename_i f args hc
        obtain ⟨v, m', hd', h⟩ := h
        rcases hd' with hd' | hd'
        · exact build _ _ v m0.size ⟨rfl, .inr ⟨hw, callee_dop hc hd'⟩⟩ (.inl rfl) (ih _ _ _ hrest hin h)
        · exact build _ _ v _ ⟨rfl, .inr ⟨hw, callee_dop hc hd'⟩⟩ (.inr rfl) (ih _ _ _ hrest hin h)
      · split at h
        · rename_i v m' ha
          exact build _ _ v _ ⟨rfl, .inr ⟨hw, dop_of_aop ha⟩⟩ (.inr rfl) (ih _ _ _ hrest hin h)
        · exact h.elim

theorem DOp.of_size {P : Program} {fl : Nat} {o : Oper} {ρ : Operand → AVal} {m m' : Mem} {v : AVal} (h : DOp P m.size o ρ m v m') : DOp P fl o ρ m v m' :=
  ⟨h.1.of_size, fun β w a hρ hs hf K Q hK => h.2 β w a hρ hs hf K Q fun cv β' w' hv hp => hK cv β' w' hv hp.of_size⟩
theorem RStep.of_size {P : Program} {nt : Nat} {ops : Array Oper} {fl : Nat} {o : Oper} {ts ts' : Frm} {m m' : Mem} {v : AVal} (h : RStep P nt ops m.size o ts m v ts' m') : RStep P nt ops fl o ts m v ts' m' :=
  ⟨h.1, h.2.imp id fun ⟨h1, h2⟩ => ⟨h1, h2.of_size⟩⟩

section rules
variable {P : Program} {nt fl : Nat} {Q : AExit → Frm → Mem → Prop} {ts : Frm} {m : Mem}

theorem seq_steps {ops : Array Oper} {Q' : Frm → Mem → Prop} (S : Steps' P nt ops fl false 0 ts m Q') : ∀ d k, k + d = ops.size → AStep fl (S.m k) (S.m ops.size) ∧
    ∀ β w (a : Act), FRel β nt (S.ts k) a.tmps → a.defers = [] → Sim β (S.m k) w → Free β (S.m k) (S.m ops.size) → ∀ QQ : Exit → Act → World → Prop,
      (∀ a' β' w', FRel β' nt (S.ts ops.size) a'.tmps → a'.defers = [] → Post fl β (S.m k) w (S.m ops.size) β' w' → QQ .normal a' w') → wpOps P ops QQ (List.range' k d) a w := by
  intro d
  induction d with
  | zero =>
    intro k hk
    have : k = ops.size := by omega
    subst this
    exact ⟨AStep.refl _ _, fun β w a hl hd hs _ QQ hQ => hQ a β w hl hd (Post.refl hs)⟩
  | succ d ih =>
    intro k hk
    obtain ⟨st, go⟩ := ih (k + 1) (by omega)
    have hkn : k < ops.size := by omega
    have ho : ops[k]? = some ops[k] := Array.getElem?_eq_getElem hkn
    have hr : RStep P nt ops fl ops[k] (S.ts k) (S.m k) (S.v k) (S.ts (k + 1)) (S.m (k + 1)) := by
      have := S.step k _ (Nat.zero_le _) ho
      rcases S.floor k (Nat.zero_le _) hkn with e | e
      · rw [e] at this; exact this.of_size
      · rw [e, opFl_seq] at this; exact this
    refine ⟨hr.step.trans st, fun β w a hl hd hs hf QQ hQ => ?_⟩
    rw [List.range'_succ, wpOps_cons]
    unfold wpOp
    simp only [ho]
    obtain ⟨h1, h2⟩ := hr
    rcases h2 with ⟨hw, hv, hm⟩ | ⟨hw, hdop⟩
    · have hwant : Region.wanted ops[k] (yielded ops a.tmps) = false := wanted_of (β := β) hl.1 (fun g want d' _ _ v hv => hl.2 d' v hv) hw
      rw [if_neg (by rw [hwant]; simp)]
      rw [hm] at go
      refine go β w (a.put ops[k].dst undef) ?_ (by cases ops[k].dst <;> exact hd) hs hf QQ fun a' β' w' q1 q2 q3 => hQ a' β' w' q1 q2 q3
      rw [h1, hv]
      exact frel_put hl _ (aundef_rel β)
    · have hwant : Region.wanted ops[k] (yielded ops a.tmps) = true := wanted_of (β := β) hl.1 (fun g want d' _ _ v hv => hl.2 d' v hv) hw
      rw [if_pos hwant]
      refine .inl (hdop.2 β w a (fun x _ => hl.aev x) hs (hf.left st.size) _ _ fun cv β' w' hv hp => ?_)
      refine go β' w' _ ?_ (by cases ops[k].dst <;> exact hd) hp.sim (hf.right hdop.1.size hp) QQ fun a' β2 w2 q1 q2 q3 => hQ a' β2 w2 q1 q2 (hp.trans hdop.1 st q3)
      rw [h1]
      exact frel_put (hl.mono (hp.le (hf.left st.size))) _ hv

theorem awp_region_seq {id : Nat} {ops : Array Oper} (h : AOps P nt (gdOf ops) (sepB ops) fl false (fun ts m => Q .normal ts m) ops.toList 0 ts m) : AWp P nt fl (.region id ops false) Q ts m := by
  obtain ⟨S⟩ := steps_of_aops _ 0 ts m rfl (Nat.zero_le _) h
  obtain ⟨st, go⟩ := seq_steps S ops.size 0 (by omega)
  refine ⟨.normal, S.ts ops.size, S.m ops.size, S.post, ?_, fun β w a hl hd hs hf => wp_region ?_⟩
  · rw [S.m_i] at st; exact st
  · rw [S.ts_i, S.m_i] at go
    have := go β w a hl hd hs hf (fun e' a' w' => ∃ β', e' = AExit.normal.to ∧ FRel β' nt (S.ts ops.size) a'.tmps ∧ a'.defers = [] ∧ Post fl β m w (S.m ops.size) β' w') fun a' β' w' q1 q2 q3 => ⟨β', rfl, q1, q2, q3⟩
    rw [List.range_eq_range']
    exact this

theorem awp_region_draw {id : Nat} {ops : Array Oper} (hm : P.follows .mixedOrders = true) (hok : regionOk ops = true) (h : AOps P nt (gdOf ops) (sepB ops) fl true (fun ts m => Q .normal ts m) ops.toList 0 ts m) : AWp P nt fl (.region id ops true) Q ts m := by
  obtain ⟨S⟩ := steps_of_aops _ 0 ts m rfl (Nat.zero_le _) h
  have hfloor : ∀ k, k < ops.size → S.fls k = (S.m k).size ∨ (S.fls k = fl ∧ (∀ i, i < k → Before ops i k) ∧ (∀ i, i < ops.size → k < i → Before ops k i)) := by
    intro k hk
    rcases S.floor k (Nat.zero_le _) hk with e | e
    · exact .inl e
    · by_cases hs : sepB ops k = true
      · exact .inr ⟨by rw [e, opFl_sep hs], sepB_sound hs hk⟩
      · refine .inl ?_
        rw [e]
        simp [opFl, hs]
  let T : Trace P nt ops fl := ⟨S.ts, S.m, S.v, S.fls, fun k o ho => S.step k o (Nat.zero_le _) ho, hfloor, regionOk_temps hok, regionOk_back hok⟩
  have st : ∀ k, k ≤ ops.size → AStep fl (S.m 0) (S.m k) := by
    intro k
    induction k with
    | zero => intro _; exact AStep.refl _ _
    | succ k ih =>
      intro hk
      have ho : ops[k]? = some ops[k] := Array.getElem?_eq_getElem (by omega)
      have hr := S.step k _ (Nat.zero_le _) ho
      refine (ih (by omega)).trans ?_
      rcases T.floor k (by omega) with e | ⟨e, _⟩
      · have : RStep P nt ops (S.m k).size ops[k] (S.ts k) (S.m k) (S.v k) (S.ts (k + 1)) (S.m (k + 1)) := by
          have e' : S.fls k = (S.m k).size := e
          rw [← e']; exact hr
        exact this.step.of_size
      · have e' : S.fls k = fl := e
        rw [e'] at hr
        exact hr.step
  refine ⟨.normal, S.ts ops.size, S.m ops.size, S.post, by have := st ops.size (Nat.le_refl _); rw [S.m_i] at this; exact this, fun β w a hl hd hs hf => ?_⟩
  have h0 : T.ts 0 = ts := S.ts_i
  have h1 : T.m 0 = m := S.m_i
  refine region_draw T hm (β := β) (w := w) (by rw [h0]; exact hl) hd (by rw [h1]; exact hs) (by rw [h1]; exact hf) fun a' β' w' q1 q2 q3 => ⟨β', rfl, q1, q2, ?_⟩
  rw [h1] at q3
  exact q3

/-- A result. -/
def ares1 (P : Program) (nt : Nat) (ts : Frm) (m : Mem) : ResultVar → Option AVal
  | .tmp t => some (aev nt ts (.tmp t))
  | .cell a t =>
    match aev nt ts (.tmp a) with
    | .ptr (some (n, o)) => match tAgg P t, tSize P t with
      | some true, some k => (alds m n o k).map fun cs => .agg cs
      | some false, _ => ald m n o
      | _, _ => none
    | _ => none
def tupled : List AVal → AVal
  | [v] => v
  | vs => .tup vs
def aress (P : Program) (nt : Nat) (ts : Frm) (m : Mem) : List ResultVar → Option (List AVal)
  | [] => some []
  | r :: rs => match ares1 P nt ts m r, aress P nt ts m rs with
    | some v, some vs => some (v :: vs)
    | _, _ => none

def resOne (tmps : Array Value) : ResultVar → Sem Value
  | .tmp t => pure (tmps.getD t undef)
  | .cell a t => do loadVar t (← asAddr (tmps.getD a undef))
theorem results_eq (fn : Func) (tmps : Array Value) : results fn tmps = (do let vs ← fn.results.mapM (resOne tmps); pure (if h : vs.size = 1 then vs[0] else .tuple vs)) := by
  unfold results
  congr 1

theorem ares1_run {β : Inj} {w : World} {tmps : Array Value} (hl : FRel β nt ts tmps) (hs : Sim β m w) {r : ResultVar} {v : AVal} (h : ares1 P nt ts m r = some v) :
    ∃ cv, (resOne tmps r).run P w = .ok cv w ∧ VRel β v cv := by
  have hev : ∀ t, VRel β (aev nt ts (.tmp t)) (tmps.getD t undef) := fun t => FRel.aev (a := ⟨tmps, []⟩) hl (.tmp t)
  cases r with
  | tmp t =>
    simp [ares1] at h
    subst h
    exact ⟨_, rfl, hev t⟩
  | cell a t =>
    show ∃ cv, (do loadVar t (← asAddr (tmps.getD a undef)) : Sem Value).run P w = .ok cv w ∧ VRel β v cv
    simp only [ares1] at h
    split at h
    · rename_i n o ha
      have hp := hev a
      rw [ha] at hp
      generalize tmps.getD a undef = q at hp
      have hload : ∀ v, ((∃ k cs, tAgg P t = some true ∧ tSize P t = some k ∧ alds m n o k = some cs ∧ v = .agg cs) ∨ (tAgg P t = some false ∧ ald m n o = some v)) → ∃ cv, (do loadVar t (← asAddr q) : Sem Value).run P w = .ok cv w ∧ VRel β v cv := by
        intro v hv
        cases hp with
        | ptr _ _ p hb =>
          rcases hv with ⟨k, cs, h1, h2, h3, rfl⟩ | ⟨h1, h2⟩
          · obtain ⟨us, hr, hl⟩ := loads_cells (P := P) hs hb h3
            exact ⟨.agg us, by simp [asAddr, loadVar, run_agg h1, run_size h2, hr], .agg cs us hl.1 hl.2⟩
          · unfold ald at h2
            split at h2
            · rename_i hc
              obtain ⟨u, hu, hr⟩ := hs.cell hc.1 hb hc.2 h2
              exact ⟨u, by simp [asAddr, loadVar, run_agg h1, hu], hr⟩
            · cases h2
      split at h
      · rename_i k h1 h2
        rw [Option.map_eq_some_iff] at h
        obtain ⟨cs, hcs, rfl⟩ := h
        exact hload _ (.inl ⟨k, cs, h1, h2, hcs, rfl⟩)
      · rename_i h1
        exact hload _ (.inr ⟨h1, h⟩)
      · cases h
    · cases h

theorem aress_run {β : Inj} {w : World} {tmps : Array Value} (hl : FRel β nt ts tmps) (hs : Sim β m w) : ∀ (rs : List ResultVar) (vs : List AVal), aress P nt ts m rs = some vs →
    ∃ cvs : List Value, (rs.mapM (resOne tmps) : Sem (List Value)).run P w = .ok cvs w ∧ LRel β vs cvs.toArray := by
  intro rs
  induction rs with
  | nil => intro vs h; simp [aress] at h; subst h; exact ⟨[], rfl, LRel.nil β⟩
  | cons r rs ih =>
    intro vs h
    simp only [aress] at h
    split at h
    · rename_i v vs' h1 h2
      simp at h
      subst h
      obtain ⟨cv, g1, g2⟩ := ares1_run hl hs h1
      obtain ⟨cvs, g3, g4⟩ := ih vs' h2
      refine ⟨cv :: cvs, ?_, ?_⟩
      · rw [List.mapM_cons, Sem.run_bind, g1]
        simp only [Result.andThen_ok, Sem.run_bind, g3, Sem.run_pure]
      · have : LRel β [v] #[cv] := (LRel.nil β).push g2
        simpa using this.append g4
    · cases h

theorem results_run {fn : Func} {β : Inj} {w : World} {tmps : Array Value} (hl : FRel β nt ts tmps) (hs : Sim β m w) {vs : List AVal} (h : aress P nt ts m fn.results.toList = some vs) :
    ∃ cv, (results fn tmps).run P w = .ok cv w ∧ VRel β (tupled vs) cv := by
  obtain ⟨cvs, h1, h2⟩ := aress_run hl hs _ _ h
  have hm : (fn.results.mapM (resOne tmps) : Sem (Array Value)).run P w = .ok cvs.toArray w := by
    rw [Array.mapM_eq_mapM_toList, Sem.run_map, h1]
    rfl
  rw [results_eq, Sem.run_bind, hm]
  simp only [Result.andThen_ok]
  match vs, cvs, h2 with
  | [], [], h2 => exact ⟨.tuple #[], rfl, .tup [] #[] h2.1 h2.2⟩
  | [v], [cv], h2 => exact ⟨cv, rfl, h2.2 0 v cv (by simp) (by simp)⟩
  | v :: v2 :: vs, cv :: cv2 :: cvs, h2 =>
    refine ⟨.tuple (cv :: cv2 :: cvs).toArray, ?_, .tup _ _ h2.1 h2.2⟩
    rw [dif_neg (by simp)]
    rfl
  | [], _ :: _, h2 => exact absurd h2.1 (by simp)
  | _ :: _, [], h2 => exact absurd h2.1 (by simp)
  | [_], _ :: _ :: _, h2 => exact absurd h2.1 (by simp)
  | _ :: _ :: _, [_], h2 => exact absurd h2.1 (by simp)

/-- The end of a function's body. -/
def Ends (P : Program) (nt : Nat) (rs : List ResultVar) (Q : AVal → Mem → Prop) : AExit → Frm → Mem → Prop
  | .exit _, _, _ => False
  | _, ts, m => ∃ vs, aress P nt ts m rs = some vs ∧ Q (tupled vs) m

/-- A function's contract out of a walk of its body. -/
theorem dcalls_of {f : FuncId} {fn : Func} {c : Code} {args : List AVal} {Q : AVal → Mem → Prop} (hf : P.funcs[f]? = some fn) (hn : (fn.name == "runtime.NumGoroutine") = false) (hb : fn.body = some c)
    (h : AWp P fn.ntmps fl c (Ends P fn.ntmps fn.results.toList Q) (fargs args) m) : ∃ v m', Q v m' ∧ DCalls P fl f args m v m' := by
  obtain ⟨e, ts', m', hq, d1, d2⟩ := h
  have hq' : ∃ vs, aress P fn.ntmps ts' m' fn.results.toList = some vs ∧ Q (tupled vs) m' := by
    cases e with
    | normal => exact hq
    | ret => exact hq
    | exit id => exact hq.elim
  obtain ⟨vs, hr, hQ⟩ := hq'
  refine ⟨_, m', hQ, ⟨fn, hf, hn, by rw [hb]; rfl⟩, d1, fun β w cargs hl hs hfr => calls_of_wp hf hb ?_⟩
  have hargs : FRel β fn.ntmps (fargs args) (cargs ++ Array.replicate (fn.ntmps - cargs.size) undef) := by
    refine ⟨by simp; omega, fun i v h2 => ?_⟩
    unfold fargs
    rw [List.getD_eq_getElem?_getD]
    rw [Array.getElem?_append] at h2
    by_cases hi : i < cargs.size
    · rw [if_pos hi] at h2
      have hi' : i < args.length := by rw [hl.1]; exact hi
      have h1 : args[i]? = some args[i] := List.getElem?_eq_getElem hi'
      rw [h1]
      exact hl.2 i _ v h1 h2
    · rw [if_neg hi] at h2
      rw [List.getElem?_eq_none (by rw [hl.1]; omega)]
      rw [Array.getElem?_replicate] at h2
      split at h2
      · simp at h2
        subst h2
        exact aundef_rel β
      · cases h2
  refine wp_mono (d2 β w _ hargs rfl hs hfr) ?_
  rintro e' a' w' ⟨β', rfl, g1, g2, g3⟩
  obtain ⟨cv, g4, g5⟩ := results_run (P := P) (fn := fn) g1 g3.sim hr
  cases e with
  | normal => exact ⟨g2, cv, g4, cv, β', rfl, g5, g3⟩
  | ret => exact ⟨g2, cv, g4, cv, β', rfl, g5, g3⟩
  | exit id => exact hq.elim

end rules
end Go.Ab
