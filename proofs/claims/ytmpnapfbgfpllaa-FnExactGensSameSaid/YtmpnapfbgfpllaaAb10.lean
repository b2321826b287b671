/-
  What is proved here: a region of operations, in whatever order the model draws, does what its operations do abstractly in the order of the text.
-/
import Derived.Test.YtmpnapfbgfpllaaAb9
namespace Go.Ab
open Go.RowKit

section region
variable {P : Program} {nt : Nat} {ops : Array Oper} {fl : Nat}

theorem inv_step (T : Trace P nt ops fl) {β0 : Inj} {w0 : World} {l : Array Bool} {a : Act} {w : World} {β : Inj} {K : Nat} (I : Inv T β0 w0 l a w β K) {j : Nat} {o : Oper} (ho : ops[j]? = some o) (hj : l.getD j false = false)
    (hready : ∀ e, e ∈ o.after → Region.binds .any e = true → l.getD e.on false = true) {cv : Value} {β' : Inj} {w' : World} (hv : VRel β' (T.v j) cv) (hp : Post (T.fls j) β (T.m j) w (T.m (j + 1)) β' w') (hfree : Free β (T.m j) (T.m (j + 1))) :
    ∃ K', Inv T β0 w0 (l.setIfInBounds j true) (a.put o.dst cv) w' β' K' := by
  have hjn : j < ops.size := by
    rcases Nat.lt_or_ge j ops.size with h | h
    · exact h
    · simp [Array.getElem?_eq_none h] at ho
  have hjl : j < l.size := by rw [I.lsize]; exact hjn
  have hset : ∀ i, (l.setIfInBounds j true).getD i false = if i = j then true else l.getD i false := by
    intro i
    simp only [Array.getD_eq_getD_getElem?, Array.getElem?_setIfInBounds]
    by_cases e : i = j
    · subst e; simp [hjl]
    · rw [if_neg (fun h => e h.symm), if_neg e]
  have hready' : ∀ o' e, ops[j]? = some o' → e ∈ o'.after → Region.binds .any e = true → l.getD e.on false = true := by
    intro o' e h he hb
    rw [ho] at h; simp at h; subst h
    exact hready e he hb
  have hbefore : ∀ {i}, Before ops i j → l.getD i false = true := fun h => before_ready I.closed h hready'
  have hafter : ∀ {i}, Before ops j i → l.getD i false = false := fun {i} h => by
    cases hl : l.getD i false with
    | false => rfl
    | true => rw [before_listed I.closed h hl] at hj; cases hj
  have hle : β.le β' := hp.le hfree
  have hst := (T.step j o ho).step
  have s0j := T.size_le (Nat.zero_le j) (Nat.le_of_lt hjn)
  have sj1 := hst.size
  have s1n := T.size_le (i := j + 1) (j := ops.size) hjn (Nat.le_refl _)
  -- where j stands to the next separator
  have hjK : j ≤ K := by
    rcases I.ksep with e | ⟨hk1, hk2⟩
    · omega
    · rcases Nat.lt_or_ge K ops.size with hKn | h
      · rcases T.floor K hKn with e | ⟨_, _, h3⟩
        · exact absurd e hk1
        · rcases Nat.lt_or_ge K j with h | h
          · rw [hbefore (h3 j hjn h)] at hk2; cases hk2
          · exact h
      · omega
  -- what may have been written
  have back : ∀ k, MayWrite (T.fls j) β (T.m j) k → w0.heap.size ≤ k ∨ MayWrite fl β0 (T.m 0) k := by
    intro k hw
    rcases T.floor j hjn with e | ⟨e, _, _⟩
    · rw [e] at hw; exact absurd hw not_mayWrite_size
    · rw [e] at hw
      obtain ⟨n, p, h1, h2, h3, h4, h5⟩ := hw
      by_cases hn : n < (T.m 0).size
      · rw [I.ext n (by omega)] at h3
        exact .inr ⟨n, p, h1, hn, h3, T.mode_back (Nat.le_of_lt hjn) hn h4, h5⟩
      · rcases I.nb n p (by omega) (by omega) h3 with e | e
        · exact .inl (h5 ▸ e)
        · exact .inr (h5 ▸ e)
  have hsim1 : Sim β' (T.m (j + 1)) w' := hp.sim
  have memory : ∃ K', K' ≤ ops.size ∧ (∀ i, i < K' → T.fls i ≠ (T.m i).size → (l.setIfInBounds j true).getD i false = true) ∧ (K' = ops.size ∨ (T.fls K' ≠ (T.m K').size ∧ (l.setIfInBounds j true).getD K' false = false)) ∧ Sim β' (T.m K') w' := by
    by_cases hsep : T.fls j = (T.m j).size
    · -- no separator
      refine ⟨K, I.kle, fun i h1 h2 => ?_, ?_, ?_⟩
      · rw [hset]
        by_cases e : i = j
        · rw [if_pos e]
        · rw [if_neg e]; exact I.kbelow i h1 h2
      · rcases I.ksep with e | ⟨e1, e2⟩
        · exact .inl e
        · have : K ≠ j := by intro e; subst e; exact e1 hsep
          exact .inr ⟨e1, by rw [hset, if_neg this]; exact e2⟩
      · have hKj : j < K := by
          rcases I.ksep with e | ⟨e1, e2⟩
          · omega
          · rcases Nat.lt_or_ge j K with h | h
            · exact h
            · have : K = j := by omega
              subst this
              exact absurd hsep e1
        have hq : ∀ k, j ≤ k → k < K → T.fls k = (T.m k).size := by
          intro k h1 h2
          rcases T.floor k (by have := I.kle; omega) with e | ⟨_, h3, _⟩
          · exact e
          · by_cases e : T.fls k = (T.m k).size
            · exact e
            · exfalso
              have hk := I.kbelow k h2 e
              by_cases ek : k = j
              · subst ek; exact e hsep
              · have := before_listed I.closed (h3 j (by omega)) hk
                rw [this] at hj; cases hj
        have sK := T.size_le (i := j + 1) (j := K) hKj I.kle
        have sKn := T.size_le (i := K) (j := ops.size) I.kle (Nat.le_refl _)
        have q1 : ∀ n, n < (T.m (j + 1)).size → (T.m K).blk n = (T.m (j + 1)).blk n := fun n hn => T.quiet hKj I.kle (fun k h1 h2 => hq k (by omega) h2) hn
        rw [hsep] at hp
        have hfr : ∀ k, k < w.heap.size → w'.heap[k]? = w.heap[k]? := fun k hk => hp.fr k hk not_mayWrite_size
        have old : ∀ n, ¬ ((T.m j).size ≤ n ∧ n < (T.m (j + 1)).size) → β' n = β n := hp.ext
        refine ⟨fun n p hn hp' => ?_, fun n p hn hp' hm i x hx => ?_, fun n p hn hp' hm => ?_, fun n p n' p' hn hn' hne hp1 hp2 hm hm' => ?_⟩
        · by_cases h1 : n < (T.m (j + 1)).size
          · exact hsim1.lt n p h1 hp'
          · rw [old n (by omega)] at hp'
            exact Nat.lt_of_lt_of_le (I.sim.lt n p hn hp') hp.size
        · by_cases h1 : n < (T.m (j + 1)).size
          · rw [q1 n h1] at hm hx
            exact hsim1.ro n p h1 hp' hm i x hx
          · rw [old n (by omega)] at hp'
            obtain ⟨u, g1, g2⟩ := I.sim.ro n p hn hp' hm i x hx
            refine ⟨u, ?_, g2.mono hle⟩
            rw [← g1]
            exact World.cell?_of_block (w := w) (w' := w') (hfr _ (I.sim.lt n p hn hp'))
        · by_cases h1 : n < (T.m (j + 1)).size
          · rw [q1 n h1] at hm ⊢
            exact hsim1.rw n p h1 hp' hm
          · rw [old n (by omega)] at hp'
            obtain ⟨c, e, g1, g2, g3, g4⟩ := I.sim.rw n p hn hp' hm
            refine ⟨c, e, by rw [hfr _ (I.sim.lt n p hn hp')]; exact g1, g2, g3, fun i x hx => ?_⟩
            obtain ⟨u, r1, r2⟩ := g4 i x hx
            exact ⟨u, r1, r2.mono hle⟩
        · have isnew : ∀ n p, (T.m j).size ≤ n → n < (T.m (j + 1)).size → β' n = some p → w.heap.size ≤ p.cb := fun n p h1 h2 h3 => (hp.nb n p h1 h2 h3).resolve_right not_mayWrite_size
          by_cases e1 : (T.m j).size ≤ n ∧ n < (T.m (j + 1)).size
          · by_cases e2 : (T.m j).size ≤ n' ∧ n' < (T.m (j + 1)).size
            · rw [q1 n e1.2] at hm
              rw [q1 n' e2.2] at hm'
              exact hsim1.ex n p n' p' e1.2 e2.2 hne hp1 hp2 hm hm'
            · rw [old n' e2] at hp2
              have := isnew n p e1.1 e1.2 hp1
              have := I.sim.lt n' p' hn' hp2
              omega
          · rw [old n e1] at hp1
            by_cases e2 : (T.m j).size ≤ n' ∧ n' < (T.m (j + 1)).size
            · have := isnew n' p' e2.1 e2.2 hp2
              have := I.sim.lt n p hn hp1
              omega
            · rw [old n' e2] at hp2
              exact I.sim.ex n p n' p' hn hn' hne hp1 hp2 hm hm'
    · -- a separator
      have hall := (T.floor j hjn).resolve_left hsep
      obtain ⟨K', k1, k2, k3, k4⟩ := next_sep T (ops.size - (j + 1)) (j + 1) (by omega)
      have hlow : ∀ i, i < j → l.getD i false = true := fun i hi => hbefore (hall.2.1 i hi)
      have hhigh : ∀ i, j < i → i < ops.size → l.getD i false = false := fun i h1 h2 => hafter (hall.2.2 i h2 h1)
      refine ⟨K', k2, fun i h1 h2 => ?_, ?_, ?_⟩
      · rw [hset]
        by_cases e : i = j
        · rw [if_pos e]
        · rw [if_neg e]
          rcases Nat.lt_or_ge i j with h | h
          · exact hlow i h
          · exact absurd (k3 i (by omega) h1) h2
      · rcases k4 with e | e
        · exact .inl e
        · rcases Nat.lt_or_ge K' ops.size with h | h
          · exact .inr ⟨e, by rw [hset, if_neg (by omega)]; exact hhigh K' (by omega) h⟩
          · exact .inl (by omega)
      · have sK := T.size_le (i := j + 1) (j := K') k1 k2
        have q1 : ∀ n, n < (T.m (j + 1)).size → (T.m K').blk n = (T.m (j + 1)).blk n := fun n hn => T.quiet k1 k2 k3 hn
        have nothing : ∀ i, j + 1 ≤ i → i ≤ K' → ∀ n, (T.m (j + 1)).size ≤ n → n < (T.m i).size → β' n = none := by
          intro i
          induction i with
          | zero => intro h; omega
          | succ i ih =>
            intro h1 h2 n h3 h4
            by_cases e : j = i
            · subst e; omega
            · by_cases h5 : n < (T.m i).size
              · exact ih (by omega) (by omega) n h3 h5
              · rw [hp.ext n (by omega)]
                exact I.none i (by omega) (hhigh i (by omega) (by omega)) n (by omega) h4
        have hb : ∀ n p, n < (T.m K').size → β' n = some p → n < (T.m (j + 1)).size := by
          intro n p hn hp'
          rcases Nat.lt_or_ge n (T.m (j + 1)).size with h | h
          · exact h
          · rw [nothing K' k1 (Nat.le_refl _) n h hn] at hp'; cases hp'
        refine ⟨fun n p hn hp' => hsim1.lt n p (hb n p hn hp') hp', fun n p hn hp' hm i x hx => ?_, fun n p hn hp' hm => ?_, fun n p n' p' hn hn' hne hp1 hp2 hm hm' => ?_⟩
        · have h1 := hb n p hn hp'
          rw [q1 n h1] at hm hx
          exact hsim1.ro n p h1 hp' hm i x hx
        · have h1 := hb n p hn hp'
          rw [q1 n h1] at hm ⊢
          exact hsim1.rw n p h1 hp' hm
        · have h1 := hb n p hn hp1
          have h2 := hb n' p' hn' hp2
          rw [q1 n h1] at hm
          rw [q1 n' h2] at hm'
          exact hsim1.ex n p n' p' h1 h2 hne hp1 hp2 hm hm'
  obtain ⟨K', hk1, hk2, hk3, hk4⟩ := memory
  refine ⟨K', by simpa using I.lsize, fun j' o' e h hl he hb => ?_, ?_, (by have := I.defers; cases o.dst <;> exact this), fun t u hu => ?_, hk1, hk2, hk3, hk4, fun i hi hl n h1 h2 => ?_, fun n hn => ?_, fun n p h1 h2 h3 => ?_, fun k h1 h2 => ?_, hp.os.trans I.os, hp.tape.trans I.tape, hp.output.trans I.output, Nat.le_trans I.size hp.size⟩
  · rw [hset] at hl ⊢
    by_cases e' : e.on = j
    · rw [if_pos e']
    · rw [if_neg e']
      by_cases ej : j' = j
      · subst ej; exact hready' o' e h he hb
      · rw [if_neg ej] at hl; exact I.closed j' o' e h hl he hb
  · have := I.tsize
    cases o.dst <;> simpa [Act.put] using this
  · -- temporaries
    by_cases hd : o.dst = some t
    · have hc : cur ops T.v (l.setIfInBounds j true) t (T.ts 0 t) ops.size = T.v j := by
        rw [cur_above (j := j + 1) ops.size hjn (fun i y h1 h2 hy hdy => by
          rw [hset, if_neg (by omega)]
          exact hafter (T.temps j i o y (by omega) ho hy (.inl ⟨t, hd, .inr hdy⟩)))]
        have : (l.setIfInBounds j true).getD j false = true := by rw [hset, if_pos rfl]
        simp only [cur, this, ho, Option.bind_some, hd, and_self, if_true]
      rw [hc]
      rw [hd] at hu
      simp only [Act.put] at hu
      have hlt : t < a.tmps.size := by
        rcases Nat.lt_or_ge t a.tmps.size with h | h
        · exact h
        · rw [Array.getElem?_eq_none (by simpa using h)] at hu; cases hu
      rw [Array.getElem?_setIfInBounds] at hu
      simp only [if_true, hlt] at hu
      simp at hu
      subst hu
      exact hv
    · have hc : ∀ n, cur ops T.v (l.setIfInBounds j true) t (T.ts 0 t) n = cur ops T.v l t (T.ts 0 t) n := by
        intro n
        induction n with
        | zero => rfl
        | succ n ih =>
          simp only [cur, hset]
          by_cases e : n = j
          · subst e
            simp only [ho, Option.bind_some, hd, and_false, if_false]
            exact ih
          · rw [if_neg e, ih]
      rw [hc]
      have hu' : a.tmps[t]? = some u := by
        cases hdd : o.dst with
        | none => rw [hdd] at hu; exact hu
        | some d =>
          rw [hdd] at hu
          simp only [Act.put] at hu
          rw [Array.getElem?_setIfInBounds_ne (by intro e; subst e; exact hd hdd)] at hu
          exact hu
      exact (I.temps t u hu').mono hle
  · rw [hset] at hl
    by_cases e : i = j
    · rw [if_pos e] at hl; cases hl
    · rw [if_neg e] at hl
      rw [hp.ext n ?_]
      · exact I.none i hi hl n h1 h2
      · rcases Nat.lt_or_ge i j with h | h
        · have := T.size_le (i := i + 1) (j := j) h (Nat.le_of_lt hjn); omega
        · have := T.size_le (i := j + 1) (j := i) (by omega) (Nat.le_of_lt hi); omega
  · rw [hp.ext n (by omega)]; exact I.ext n hn
  · by_cases e : (T.m j).size ≤ n ∧ n < (T.m (j + 1)).size
    · rcases hp.nb n p e.1 e.2 h3 with h | h
      · exact .inl (Nat.le_trans I.size h)
      · exact back _ h
    · rw [hp.ext n e] at h3
      exact I.nb n p h1 h2 h3
  · rw [hp.fr k (Nat.lt_of_lt_of_le h1 I.size) (fun hw => ?_)]
    · exact I.fr k h1 h2
    · rcases back k hw with h | h
      · omega
      · exact h2 h

/-- What an unlisted, ready operation finds. -/
theorem inv_ready (T : Trace P nt ops fl) {β0 : Inj} {w0 : World} {l : Array Bool} {a : Act} {w : World} {β : Inj} {K : Nat} (I : Inv T β0 w0 l a w β K) {j : Nat} {o : Oper} (ho : ops[j]? = some o) (hj : l.getD j false = false)
    (hready : ∀ e, e ∈ o.after → Region.binds .any e = true → l.getD e.on false = true) :
    Sim β (T.m j) w ∧ Free β (T.m j) (T.m (j + 1)) ∧ ∀ t, t ∈ looksAt ops o → ∀ u, a.tmps[t]? = some u → VRel β (T.ts j t) u := by
  have hjn : j < ops.size := by
    rcases Nat.lt_or_ge j ops.size with h | h
    · exact h
    · simp [Array.getElem?_eq_none h] at ho
  have hready' : ∀ o' e, ops[j]? = some o' → e ∈ o'.after → Region.binds .any e = true → l.getD e.on false = true := by
    intro o' e h he hb
    rw [ho] at h; simp at h; subst h
    exact hready e he hb
  have hbefore : ∀ {i}, Before ops i j → l.getD i false = true := fun h => before_ready I.closed h hready'
  have hafter : ∀ {i}, Before ops j i → l.getD i false = false := fun {i} h => by
    cases hl : l.getD i false with
    | false => rfl
    | true => rw [before_listed I.closed h hl] at hj; cases hj
  refine ⟨?_, fun n h1 h2 => I.none j hjn hj n h1 h2, fun t ht u hu => ?_⟩
  · have hjK : j ≤ K := by
      rcases I.ksep with e | ⟨hk1, hk2⟩
      · omega
      · rcases Nat.lt_or_ge K ops.size with hKn | h
        · rcases T.floor K hKn with e | ⟨_, _, h3⟩
          · exact absurd e hk1
          · rcases Nat.lt_or_ge K j with h | h
            · rw [hbefore (h3 j hjn h)] at hk2; cases hk2
            · exact h
        · omega
    have hq : ∀ k, j ≤ k → k < K → T.fls k = (T.m k).size := by
      intro k h1 h2
      by_cases e : T.fls k = (T.m k).size
      · exact e
      · exfalso
        have hk := I.kbelow k h2 e
        rcases T.floor k (by have := I.kle; omega) with e' | ⟨_, h3, _⟩
        · exact e e'
        · by_cases ek : k = j
          · subst ek; rw [hk] at hj; cases hj
          · have := before_listed I.closed (h3 j (by omega)) hk
            rw [this] at hj; cases hj
    exact sim_of_blk I.sim (T.size_le hjK I.kle) fun n hn => T.quiet hjK I.kle hq hn
  · rw [T.ts_eq l (t := t) j (Nat.le_of_lt hjn) (fun i y h1 hy hd => hbefore (T.temps i j y o h1 hy ho (.inl ⟨t, hd, .inl ht⟩)))]
    have := I.temps t u hu
    rwa [cur_above (j := j) ops.size (Nat.le_of_lt hjn) (fun i y h1 h2 hy hdy => by
      by_cases e : i = j
      · subst e; exact hj
      · exact hafter (T.temps j i o y (by omega) ho hy (.inr ⟨t, hdy, ht⟩)))] at this

def missing (ops : Array Oper) (l : Array Bool) : Nat := (List.range ops.size).countP fun i => !l.getD i false

theorem countP_lt {p q : Nat → Bool} (h : ∀ x, q x = true → p x = true) {j : Nat} (hp : p j = true) (hq : q j = false) : ∀ (L : List Nat), j ∈ L → L.countP q < L.countP p := by
  intro L
  induction L with
  | nil => intro h; simp at h
  | cons y L ih =>
    intro hm
    simp only [List.countP_cons]
    have hle : L.countP q ≤ L.countP p := List.countP_mono_left fun x _ => h x
    by_cases e : y = j
    · subst e
      rw [hp, hq]
      simp
      omega
    · have := ih (by simp at hm; exact hm.resolve_left (fun h => e h.symm))
      cases hqy : q y
      · simp only [Bool.false_eq_true, if_false]; omega
      · rw [h y hqy]; simp only [if_true]; omega

theorem any_of_inv (T : Trace P nt ops fl) {β0 : Inj} {w0 : World} {Q : Exit → Act → World → Prop}
    (hQ : ∀ l a w β K, Inv T β0 w0 l a w β K → (∀ i, i < ops.size → l.getD i false = true) → Q .normal a w) :
    ∀ (fuel : Nat) (l : Array Bool) (a : Act) (w : World) (β : Inj) (K : Nat), Inv T β0 w0 l a w β K → missing ops l ≤ fuel → wpAny P .any ops Q fuel l a w := by
  have all_of_ready : ∀ (l : Array Bool), l.size = ops.size → Region.ready .any ops l = [] → ∀ i, i < ops.size → l.getD i false = true := by
    intro l hl hr i
    induction i using Nat.strongRecOn with
    | _ i ih =>
      intro hi
      cases hli : l.getD i false with
      | true => rfl
      | false =>
        exfalso
        have ho : ops[i]? = some ops[i] := Array.getElem?_eq_getElem hi
        have : i ∈ Region.ready .any ops l := by
          unfold Region.ready
          rw [List.mem_filter]
          refine ⟨List.mem_range.2 hi, ?_⟩
          have h1 : l.getD i true = false := by
            rw [Array.getD_eq_getD_getElem?] at hli ⊢
            have : l[i]? = some (l[i]'(by omega)) := Array.getElem?_eq_getElem _
            rw [this] at hli ⊢
            exact hli
          rw [h1, ho]
          simp only [Bool.not_false, Option.map_some, Option.getD_some, Bool.true_and]
          rw [Array.all_eq_true']
          intro e he
          cases hb : Region.binds .any e with
          | false => simp
          | true =>
            have hlt := T.back i _ e ho he hb
            simp only [Bool.not_true, Bool.false_or]
            exact ih e.on hlt (by omega)
        rw [hr] at this
        cases this
  intro fuel
  induction fuel with
  | zero =>
    intro l a w β K I hm
    have hall : ∀ i, i < ops.size → l.getD i false = true := by
      intro i hi
      have h0 : (List.range ops.size).countP (fun i => !l.getD i false) = 0 := by unfold missing at hm; omega
      rw [List.countP_eq_zero] at h0
      have := h0 i (List.mem_range.2 hi)
      simpa using this
    refine ⟨?_, hQ l a w β K I hall⟩
    unfold Region.ready
    rw [List.filter_eq_nil_iff]
    intro i hi
    have hi' := List.mem_range.1 hi
    have : l.getD i true = true := by
      have := hall i hi'
      rw [Array.getD_eq_getD_getElem?] at this ⊢
      have h2 : l[i]? = some (l[i]'(by rw [I.lsize]; exact hi')) := Array.getElem?_eq_getElem _
      rw [h2] at this ⊢
      exact this
    simp [this]
  | succ fuel ih =>
    intro l a w β K I hm
    refine ⟨fun hr => hQ l a w β K I (all_of_ready l I.lsize hr), fun j hj => ?_⟩
    unfold Region.ready at hj
    rw [List.mem_filter] at hj
    obtain ⟨hj1, hj2⟩ := hj
    have hjn := List.mem_range.1 hj1
    have ho : ops[j]? = some ops[j] := Array.getElem?_eq_getElem hjn
    rw [ho] at hj2
    simp only [Option.map_some, Option.getD_some, Bool.and_eq_true, Bool.not_eq_true'] at hj2
    obtain ⟨hj3, hj4⟩ := hj2
    rw [Array.all_eq_true'] at hj4
    have hjl : l.getD j false = false := by
      rw [Array.getD_eq_getD_getElem?] at hj3 ⊢
      have h2 : l[j]? = some (l[j]'(by rw [I.lsize]; exact hjn)) := Array.getElem?_eq_getElem _
      rw [h2] at hj3 ⊢
      exact hj3
    have hready : ∀ e, e ∈ ops[j].after → Region.binds .any e = true → l.getD e.on false = true := by
      intro e he hb
      have := hj4 e he
      rw [hb] at this
      simpa using this
    obtain ⟨hsim, hfree, hlook⟩ := inv_ready T I ho hjl hready
    have hfewer : missing ops (l.setIfInBounds j true) ≤ fuel := by
      have hset : ∀ i, (l.setIfInBounds j true).getD i false = if i = j then true else l.getD i false := by
        intro i
        simp only [Array.getD_eq_getD_getElem?, Array.getElem?_setIfInBounds]
        by_cases e : i = j
        · subst e; simp [I.lsize, hjn]
        · rw [if_neg (fun h => e h.symm), if_neg e]
      have := countP_lt (p := fun i => !l.getD i false) (q := fun i => !(l.setIfInBounds j true).getD i false) (fun x hx => by
        simp only [hset] at hx
        by_cases e : x = j
        · rw [if_pos e] at hx; simp at hx
        · rw [if_neg e] at hx; exact hx) (j := j) (by simp only [hjl]; rfl) (by simp only [hset]; simp) (List.range ops.size) hj1
      unfold missing at hm ⊢
      omega
    have hstep := T.step j _ ho
    have next : ∀ (cv : Value) (β' : Inj) (w' : World), VRel β' (T.v j) cv → Post (T.fls j) β (T.m j) w (T.m (j + 1)) β' w' → wpAny P .any ops Q fuel (l.setIfInBounds j true) (a.put ops[j].dst cv) w' := by
      intro cv β' w' hv hp
      obtain ⟨K', I'⟩ := inv_step T I ho hjl hready hv hp hfree
      exact ih _ _ _ _ _ I' hfewer
    unfold wpOp
    simp only [ho]
    rcases hstep.2 with ⟨hw, hvv, hmm⟩ | ⟨hw, hd⟩
    · have hwant : Region.wanted ops[j] (yielded ops a.tmps) = false := by
        refine wanted_of (β := β) (ts := T.ts j) I.tsize (fun g want d hg hd v hv => hlook d ?_ v hv) hw
        unfold looksAt
        rw [hg]
        have hd' : (ops[g]?).bind (·.dst) = some d := hd
        simp [hd']
      rw [if_neg (by rw [hwant]; simp)]
      refine next undef β w ?_ ?_
      · rw [hvv]; exact .tup [] #[] rfl (fun i a v h => by simp at h)
      · rw [hmm]; exact Post.refl hsim
    · have hwant : Region.wanted ops[j] (yielded ops a.tmps) = true := by
        refine wanted_of (β := β) (ts := T.ts j) I.tsize (fun g want d hg hd v hv => hlook d ?_ v hv) hw
        unfold looksAt
        rw [hg]
        have hd' : (ops[g]?).bind (·.dst) = some d := hd
        simp [hd']
      rw [if_pos hwant]
      refine .inl (hd.2 β w a (fun x hx => aev_rel I.tsize x fun t v hxt hv => hlook t ?_ v hv) hsim hfree _ _ next)
      subst hxt
      unfold looksAt
      rw [List.mem_append]
      exact .inl (List.mem_filterMap.2 ⟨.tmp t, by simpa using hx, rfl⟩)

theorem region_draw (T : Trace P nt ops fl) (hm : P.follows .mixedOrders = true) {id : Nat} {β : Inj} {w : World} {a : Act} (ht : FRel β nt (T.ts 0) a.tmps) (hd : a.defers = []) (hs : Sim β (T.m 0) w) (hf : Free β (T.m 0) (T.m ops.size)) {Q : Exit → Act → World → Prop}
    (hQ : ∀ a' β' w', FRel β' nt (T.ts ops.size) a'.tmps → a'.defers = [] → Post fl β (T.m 0) w (T.m ops.size) β' w' → Q .normal a' w') : (Code.region id ops true).wp P Q a w := by
  refine wp_region_any hm ?_
  obtain ⟨K, k1, k2, k3, k4⟩ := next_sep T ops.size 0 (by omega)
  have hl0 : ∀ i, (Array.replicate ops.size false).getD i false = false := by
    intro i
    rw [Array.getD_eq_getD_getElem?]
    by_cases h : i < ops.size
    · simp [h]
    · simp [h]
  have hcur : ∀ t x n, cur ops T.v (Array.replicate ops.size false) t x n = x := by
    intro t x n
    induction n with
    | zero => rfl
    | succ n ih => rw [cur, if_neg (by rw [hl0]; simp)]; exact ih
  have s0n := T.size_le (i := 0) (j := ops.size) (Nat.zero_le _) (Nat.le_refl _)
  have hb : ∀ n p, n < (T.m K).size → β n = some p → n < (T.m 0).size := by
    intro n p hn hp
    rcases Nat.lt_or_ge n (T.m 0).size with h | h
    · exact h
    · rw [hf n h (Nat.lt_of_lt_of_le hn (T.size_le k2 (Nat.le_refl _)))] at hp; cases hp
  have q1 : ∀ n, n < (T.m 0).size → (T.m K).blk n = (T.m 0).blk n := fun n hn => T.quiet (Nat.zero_le _) k2 (fun k h1 h2 => k3 k h1 h2) hn
  have I0 : Inv T β w (Array.replicate ops.size false) a w.drew β K := by
    refine ⟨by simp, fun j o e _ hl => ?_, ht.1, hd, fun t u hu => ?_, k2, fun i h1 h2 => absurd (k3 i (Nat.zero_le _) h1) h2, ?_, ?_, fun i hi _ n h1 h2 => ?_, fun n _ => rfl, fun n p h1 h2 h3 => ?_, fun k _ _ => rfl, rfl, rfl, rfl, Nat.le_refl _⟩
    · rw [hl0] at hl; cases hl
    · rw [hcur]; exact ht.2 t u hu
    · rcases k4 with e | e
      · exact .inl e
      · exact .inr ⟨e, hl0 K⟩
    · refine ⟨fun n p hn hp => hs.lt n p (hb n p hn hp) hp, fun n p hn hp hmm i x hx => ?_, fun n p hn hp hmm => ?_, fun n p n' p' hn hn' hne hp1 hp2 hmm hm' => ?_⟩
      · rw [q1 n (hb n p hn hp)] at hmm hx
        exact hs.ro n p (hb n p hn hp) hp hmm i x hx
      · rw [q1 n (hb n p hn hp)] at hmm ⊢
        exact hs.rw n p (hb n p hn hp) hp hmm
      · rw [q1 n (hb n p hn hp1)] at hmm
        rw [q1 n' (hb n' p' hn' hp2)] at hm'
        exact hs.ex n p n' p' (hb n p hn hp1) (hb n' p' hn' hp2) hne hp1 hp2 hmm hm'
    · exact hf n (Nat.le_trans (T.size_le (Nat.zero_le _) (Nat.le_of_lt hi)) h1) (Nat.lt_of_lt_of_le h2 (T.size_le hi (Nat.le_refl _)))
    · rw [hf n h1 h2] at h3; cases h3
  refine any_of_inv T ?_ ops.size _ a _ β K I0 (by unfold missing; exact Nat.le_trans List.countP_le_length (by simp))
  intro l a' w' β' K' I hall
  have hK : K' = ops.size := by
    rcases I.ksep with e | ⟨_, e⟩
    · exact e
    · rcases Nat.lt_or_ge K' ops.size with h | h
      · rw [hall K' h] at e; cases e
      · exact Nat.le_antisymm I.kle h
  have hsim := I.sim
  rw [hK] at hsim
  refine hQ a' β' w' ⟨I.tsize, fun t u hu => ?_⟩ I.defers ⟨hsim, I.ext, I.nb, I.fr, I.os, I.tape, I.output, I.size⟩
  rw [T.ts_eq l (t := t) ops.size (Nat.le_refl _) (fun i _ h1 _ _ => hall i h1)]
  exact I.temps t u hu

end region
end Go.Ab
