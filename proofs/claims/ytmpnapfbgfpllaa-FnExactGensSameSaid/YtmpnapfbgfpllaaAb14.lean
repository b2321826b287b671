/-
  What is proved here: memories in a normal form of pushes; which blocks a value owns; memories that differ at named blocks alone.
-/
import Derived.Test.YtmpnapfbgfpllaaAb13
namespace Go.Ab

theorem put_push {m : Mem} {cs cs' : List AVal} : (m.push cs).put m.size ⟨cs', .rw⟩ = m.push cs' := by
  unfold Mem.push Mem.put
  congr 1
  funext k
  by_cases h : k = m.size <;> simp [h]
theorem put_push_old {m : Mem} {cs : List AVal} {n : Nat} {b : Blk} (h : n < m.size) : (m.push cs).put n b = (m.put n b).push cs := by
  unfold Mem.push Mem.put
  congr 1
  funext k
  by_cases h1 : k = m.size
  · subst h1; simp [show ¬ m.size = n by omega]
  · by_cases h2 : k = n
    · subst h2; simp [h1]
    · simp [h1, h2]
theorem asts_new {fl : Nat} {m : Mem} {cs : List AVal} {n o : Nat} {vs : List AVal} (h : n = m.size) (hf : fl ≤ n) (hl : o + vs.length ≤ cs.length) (ho : vs.all (·.one) = true) : asts fl (m.push cs) n o vs = some (m.push (setCells cs o vs)) := by
  subst h
  simp only [asts, Mem.size_push, Mem.blk_push, if_true]
  rw [if_pos ⟨hf, by omega, trivial, hl, ho⟩, put_push]
theorem asts_old {fl : Nat} {m : Mem} {cs : List AVal} {n o : Nat} {vs : List AVal} (h : n < m.size) : asts fl (m.push cs) n o vs = (asts fl m n o vs).map (·.push cs) := by
  simp only [asts, Mem.size_push, Mem.blk_push, if_neg (show ¬ n = m.size by omega)]
  by_cases hh : fl ≤ n ∧ n < m.size ∧ (m.blk n).mode = .rw ∧ o + vs.length ≤ (m.blk n).cells.length ∧ vs.all (·.one) = true
  · rw [if_pos ⟨hh.1, by omega, hh.2.2⟩, if_pos hh, put_push_old h]; rfl
  · rw [if_neg (fun q => hh ⟨q.1, h, q.2.2⟩), if_neg hh]; rfl

theorem put_put {m : Mem} {n : Nat} {b b' : Blk} : (m.put n b).put n b' = m.put n b' := by
  unfold Mem.put
  congr 1
  funext k
  by_cases h : k = n <;> simp [h]
theorem put_comm {m : Mem} {n k : Nat} {b b' : Blk} (h : k ≠ n) : (m.put n b).put k b' = (m.put k b').put n b := by
  unfold Mem.put
  congr 1
  funext j
  by_cases h1 : j = n
  · subst h1; simp [Ne.symm h]
  · by_cases h2 : j = k
    · subst h2; simp [h1]
    · simp [h1, h2]
theorem blk_new {m : Mem} {cs : List AVal} {n : Nat} (h : n = m.size) : (m.push cs).blk n = ⟨cs, .rw⟩ := by simp [h]
theorem blk_old {m : Mem} {cs : List AVal} {n : Nat} (h : n < m.size) : (m.push cs).blk n = m.blk n := by simp; omega
theorem blk_same {m : Mem} {b : Blk} {n k : Nat} (h : k = n) : (m.put n b).blk k = b := by simp [h]
theorem blk_other {m : Mem} {b : Blk} {n k : Nat} (h : k ≠ n) : (m.put n b).blk k = m.blk k := by simp [h]
theorem ald_same {m : Mem} {cs : List AVal} {n k o : Nat} (h : k = n) (hn : n < m.size) : Ab.ald (m.put n ⟨cs, .rw⟩) k o = cs[o]? := by
  subst h
  simp [Ab.ald, hn]
theorem ald_other {m : Mem} {b : Blk} {n k o : Nat} (h : k ≠ n) : Ab.ald (m.put n b) k o = Ab.ald m k o := by simp [Ab.ald, h]
theorem alds_same {m : Mem} {cs : List AVal} {n k o j : Nat} (h : k = n) (hn : n < m.size) (hl : o + j ≤ cs.length) : Ab.alds (m.put n ⟨cs, .rw⟩) k o j = some ((cs.drop o).take j) := by
  subst h
  simp [Ab.alds, hn, hl]
theorem alds_other {m : Mem} {b : Blk} {n k o j : Nat} (h : k ≠ n) : Ab.alds (m.put n b) k o j = Ab.alds m k o j := by simp [Ab.alds, h]
theorem asts_same {fl : Nat} {m : Mem} {cs : List AVal} {n k o : Nat} {vs : List AVal} (h : k = n) (hn : n < m.size) (hf : fl ≤ k) (hl : o + vs.length ≤ cs.length) (ho : vs.all (·.one) = true) :
    asts fl (m.put n ⟨cs, .rw⟩) k o vs = some (m.put n ⟨setCells cs o vs, .rw⟩) := by
  subst h
  simp only [asts, Mem.size_put, Mem.blk_put, if_true]
  rw [if_pos ⟨hf, hn, trivial, hl, ho⟩, put_put]
theorem asts_other {fl : Nat} {m : Mem} {b : Blk} {n k o : Nat} {vs : List AVal} (h : k ≠ n) : asts fl (m.put n b) k o vs = (asts fl m k o vs).map (·.put n b) := by
  simp only [asts, Mem.size_put, Mem.blk_put, if_neg h]
  split
  · rw [put_comm h]; rfl
  · rfl
theorem Ext.asts {M m : Mem} (e : Ext M m) {fl n o : Nat} {vs : List AVal} (h : n < M.size) : asts fl m n o vs = (Ab.asts fl M n o vs).map fun M' => m.put n (M'.blk n) := by
  simp only [Ab.asts, e.blk n h, h, Nat.lt_of_lt_of_le h e.size, true_and]
  split
  · simp
  · rfl

/-- The block that a value points to. -/
def blkOf : AVal → Option Nat
  | .sl n _ _ _ _ => some n
  | _ => none

/-- The values' blocks: all different, none below lo, each to be written. -/
structure Own (lo : Nat) (m : Mem) (vs : List AVal) : Prop where
  nodup : (vs.filterMap blkOf).Nodup
  rw : ∀ n ∈ vs.filterMap blkOf, lo ≤ n ∧ n < m.size ∧ (m.blk n).mode = .rw

theorem Own.ext {lo : Nat} {m m' : Mem} {vs : List AVal} (h : Own lo m vs) (e : Ext m m') : Own lo m' vs :=
  ⟨h.nodup, fun n hn => ⟨(h.rw n hn).1, Nat.lt_of_lt_of_le (h.rw n hn).2.1 e.size, by rw [e.blk n (h.rw n hn).2.1]; exact (h.rw n hn).2.2⟩⟩
theorem Own.mono {lo lo' : Nat} {m : Mem} {vs : List AVal} (h : Own lo m vs) (l : lo' ≤ lo) : Own lo' m vs := ⟨h.nodup, fun n hn => ⟨Nat.le_trans l (h.rw n hn).1, (h.rw n hn).2⟩⟩
theorem Own.nil (lo : Nat) (m : Mem) : Own lo m [] := ⟨by simp, by simp⟩
theorem Own.append {lo : Nat} {m m' : Mem} {vs ws : List AVal} (h : Own lo m vs) (k : Own m.size m' ws) (e : Ext m m') (hl : lo ≤ m.size) : Own lo m' (vs ++ ws) := by
  have h' := h.ext e
  refine ⟨?_, fun n hn => ?_⟩
  · rw [List.filterMap_append, List.nodup_append]
    refine ⟨h.nodup, k.nodup, fun a ha b hb e => ?_⟩
    have := (h.rw a ha).2.1
    have := (k.rw b hb).1
    omega
  · rw [List.filterMap_append, List.mem_append] at hn
    rcases hn with hn | hn
    · exact h'.rw n hn
    · exact ⟨Nat.le_trans hl (k.rw n hn).1, (k.rw n hn).2⟩
theorem Own.of_sub {lo : Nat} {m : Mem} {vs ws : List AVal} (h : Own lo m ws) (s : List.Sublist vs ws) : Own lo m vs :=
  ⟨(s.filterMap blkOf).nodup h.nodup, fun n hn => h.rw n ((s.filterMap blkOf).subset hn)⟩
theorem Own.cons_of {lo : Nat} {m : Mem} {v : AVal} {vs : List AVal} (h : Own lo m (v :: vs)) : Own lo m vs := h.of_sub (List.sublist_cons_self _ _)
theorem Own.head {lo : Nat} {m : Mem} {v : AVal} {vs : List AVal} (h : Own lo m (v :: vs)) : Own lo m [v] := h.of_sub (by simp)

/-- The blocks from lo on are as they were. -/
structure Keep (lo : Nat) (m M : Mem) : Prop where
  size : m.size ≤ M.size
  blk : ∀ n, lo ≤ n → n < m.size → M.blk n = m.blk n
theorem Rd.keep {α : Type} {f : α → AVal} {lo : Nat} {m M : Mem} {v : AVal} {xs : List α} (h : Rd f m v xs) (o : ∀ k, blkOf v = some k → lo ≤ k) (K : Keep lo m M) : Rd f M v xs := by
  rcases h with h | h | ⟨n, o', cap, rfl, h2, h3, h4⟩
  · exact .inl h
  · exact .inr (.inl h)
  · have hb : M.blk n = m.blk n := K.blk n (o n rfl) h2
    exact .inr (.inr ⟨n, o', cap, rfl, Nat.lt_of_lt_of_le h2 K.size, by rw [hb]; exact h3, fun i x hx => by rw [hb]; exact h4 i x hx⟩)
theorem Own.keep {lo : Nat} {m M : Mem} {vs : List AVal} (h : Own lo m vs) (K : Keep lo m M) : Own lo M vs :=
  ⟨h.nodup, fun n hn => ⟨(h.rw n hn).1, Nat.lt_of_lt_of_le (h.rw n hn).2.1 K.size, by rw [K.blk n (h.rw n hn).1 (h.rw n hn).2.1]; exact (h.rw n hn).2.2⟩⟩
theorem Own.from' {lo : Nat} {m : Mem} {v : AVal} {vs : List AVal} (h : Own lo m vs) (hv : v ∈ vs) (k : Nat) (hk : blkOf v = some k) : lo ≤ k := (h.rw k (List.mem_filterMap.2 ⟨v, hv, hk⟩)).1
theorem Own.app {lo mid : Nat} {M : Mem} {vs ws : List AVal} (h : Own lo M vs) (k : Own mid M ws) (hl : lo ≤ mid) (hlt : ∀ n ∈ vs.filterMap blkOf, n < mid) : Own lo M (vs ++ ws) := by
  refine ⟨?_, fun n hn => ?_⟩
  · rw [List.filterMap_append, List.nodup_append]
    refine ⟨h.nodup, k.nodup, fun a ha b hb e => ?_⟩
    have := hlt a ha
    have := (k.rw b hb).1
    omega
  · rw [List.filterMap_append, List.mem_append] at hn
    rcases hn with hn | hn
    · exact h.rw n hn
    · exact ⟨Nat.le_trans hl (k.rw n hn).1, (k.rw n hn).2⟩

/-- Only the blocks named have turned. -/
structure Chg (m m' : Mem) (ns : List Nat) : Prop where
  size : m.size ≤ m'.size
  blk : ∀ n, n < m.size → n ∉ ns → m'.blk n = m.blk n
  mode : ∀ n, n < m.size → (m'.blk n).mode = (m.blk n).mode

theorem Chg.of_ext {m m' : Mem} (e : Ext m m') : Chg m m' [] := ⟨e.size, fun n h _ => e.blk n h, fun n h => by rw [e.blk n h]⟩
theorem Chg.trans {a b c : Mem} {ns ks : List Nat} (h : Chg a b ns) (k : Chg b c ks) : Chg a c (ns ++ ks) :=
  ⟨Nat.le_trans h.size k.size, fun n hn hh => by
    simp only [List.mem_append, not_or] at hh
    rw [k.blk n (Nat.lt_of_lt_of_le hn h.size) hh.2, h.blk n hn hh.1], fun n hn => by rw [k.mode n (Nat.lt_of_lt_of_le hn h.size), h.mode n hn]⟩
theorem Chg.mono {a b : Mem} {ns ks : List Nat} (h : Chg a b ns) (s : ∀ n, n ∈ ns → n ∈ ks) : Chg a b ks := ⟨h.size, fun n hn hh => h.blk n hn (fun q => hh (s n q)), h.mode⟩
theorem Own.chg {lo : Nat} {m m' : Mem} {vs : List AVal} {ns : List Nat} (h : Own lo m vs) (c : Chg m m' ns) : Own lo m' vs :=
  ⟨h.nodup, fun n hn => ⟨(h.rw n hn).1, Nat.lt_of_lt_of_le (h.rw n hn).2.1 c.size, by rw [c.mode n (h.rw n hn).2.1]; exact (h.rw n hn).2.2⟩⟩
theorem Rd.chg {α : Type} {f : α → AVal} {m m' : Mem} {v : AVal} {xs : List α} {ns : List Nat} (h : Rd f m v xs) (c : Chg m m' ns) (d : ∀ n, blkOf v = some n → n ∉ ns) : Rd f m' v xs := by
  rcases h with h | h | ⟨n, o, cap, rfl, h2, h3, h4⟩
  · exact .inl h
  · exact .inr (.inl h)
  · have hb : m'.blk n = m.blk n := c.blk n h2 (d n rfl)
    exact .inr (.inr ⟨n, o, cap, rfl, Nat.lt_of_lt_of_le h2 c.size, by rw [hb]; exact h3, fun i x hx => by rw [hb]; exact h4 i x hx⟩)
/-- A slice's block lies below the memory's end. -/
theorem Rd.lt {α : Type} {f : α → AVal} {m : Mem} {v : AVal} {xs : List α} (h : Rd f m v xs) {n : Nat} (hn : blkOf v = some n) : n < m.size := by
  rcases h with ⟨rfl, _⟩ | ⟨rfl, _⟩ | ⟨k, o, cap, rfl, h2, _⟩
  · cases hn
  · cases hn
  · cases hn; exact h2
theorem Own.get {lo : Nat} {m : Mem} {v : AVal} {vs : List AVal} (h : Own lo m vs) (hv : v ∈ vs) {n : Nat} (hn : blkOf v = some n) : lo ≤ n ∧ n < m.size ∧ (m.blk n).mode = .rw :=
  h.rw n (List.mem_filterMap.2 ⟨v, hv, hn⟩)

theorem Own.pw {lo : Nat} {m : Mem} {vs : List AVal} (h : Own lo m vs) : vs.Pairwise fun a b => ∀ n, blkOf a = some n → n ∉ [b].filterMap blkOf := by
  refine (List.pairwise_filterMap.1 h.nodup).imp fun {a b} hh n hn hm => ?_
  cases e : blkOf b with
  | none => simp [e] at hm
  | some k =>
    simp [e] at hm
    exact hh n hn k e hm
theorem notMem_swap {a b : AVal} (h : ∀ n, blkOf a = some n → n ∉ [b].filterMap blkOf) : ∀ n, blkOf b = some n → n ∉ [a].filterMap blkOf := by
  intro n hn hm
  cases e : blkOf a with
  | none => simp [e] at hm
  | some k =>
    simp [e] at hm
    subst hm
    exact h n e (by simp [hn])
theorem notMem_append {n : Nat} {xs ys : List Nat} (h : n ∉ xs) (k : n ∉ ys) : n ∉ xs ++ ys := by simp [h, k]

theorem Chg.ald {M m1 : Mem} {ns : List Nat} (c : Chg M m1 ns) {n o : Nat} (h : n < M.size) (hn : n ∉ ns) : Ab.ald m1 n o = Ab.ald M n o := by
  unfold Ab.ald
  rw [c.blk n h hn]
  simp [h, Nat.lt_of_lt_of_le h c.size]
theorem Chg.alds {M m1 : Mem} {ns : List Nat} (c : Chg M m1 ns) {n o k : Nat} (h : n < M.size) (hn : n ∉ ns) : Ab.alds m1 n o k = Ab.alds M n o k := by
  unfold Ab.alds
  rw [c.blk n h hn]
  simp [h, Nat.lt_of_lt_of_le h c.size]
theorem notMem_of {x : AVal} {n : Nat} (h : ∀ k, blkOf x = some k → k ≠ n) : n ∉ [x].filterMap blkOf := by
  intro hm
  cases e : blkOf x with
  | none => simp [e] at hm
  | some k => simp [e] at hm; exact h k e hm.symm

/-- k, k + 1, .. -/
def iota (k : Int) (n : Nat) : List Int := (List.range n).map fun i : Nat => k + (i : Int)
theorem iota_length (k : Int) (n : Nat) : (iota k n).length = n := by simp [iota]
theorem iota_getElem? {k : Int} {n i : Nat} (h : i < n) : (iota k n)[i]? = some (k + i) := by simp [iota, h]
theorem iota_getD {k : Int} {n i : Nat} (h : i < n) : (iota k n).getD i 0 = k + i := by rw [List.getD_eq_getElem?_getD, iota_getElem? h]; rfl
def iotaB (k : Int) (n : Nat) : List Bool := (List.range n).map fun i : Nat => (k + (i : Int)).tmod 3 == 0
theorem iotaB_length (k : Int) (n : Nat) : (iotaB k n).length = n := by simp [iotaB]
theorem iotaB_getElem? {k : Int} {n i : Nat} (h : i < n) : (iotaB k n)[i]? = some ((k + (i : Int)).tmod 3 == 0) := by simp [iotaB, h]
theorem iotaB_getD {k : Int} {n i : Nat} (h : i < n) : (iotaB k n).getD i false = ((k + (i : Int)).tmod 3 == 0) := by rw [List.getD_eq_getElem?_getD, iotaB_getElem? h]; rfl

/-- A slice that was just made. -/
theorem Rd.new {α : Type} {f : α → AVal} {m : Mem} {xs : List α} {cap : Option Nat} : Rd f (m.push (xs.map f)) (.sl m.size 0 xs.length cap 1) xs :=
  .inr (.inr ⟨m.size, 0, cap, rfl, by simp, by simp, fun i x hx => by simp [hx]⟩)

theorem ends_ret {P : Program} {nt : Nat} {rs : List ResultVar} {Q : AVal → Mem → Prop} {ts : Frm} {m : Mem} {vs : List AVal} (h : aress P nt ts m rs = some vs) (k : Q (tupled vs) m) : Ends P nt rs Q .ret ts m := ⟨vs, h, k⟩

section calls
variable {P : Program} {F : Nat} {f : FuncId} {args : List AVal} {m : Mem} {Q K : AVal → Mem → Prop}
/-- A call by a contract that writes nothing old. -/
theorem acall {s : Nat} (hs : s = m.size) (C : ∃ v m', Q v m' ∧ DCalls P m.size f args m v m') (h : ∀ v m', Q v m' → Ext m m' → K v m') : ∃ v m', (DCalls P s f args m v m' ∨ DCalls P F f args m v m') ∧ K v m' :=
  let ⟨v, m', q, d⟩ := C; ⟨v, m', .inl (hs ▸ d), h v m' q d.ext⟩
/-- A call by a contract that writes. -/
theorem acallw {s : Nat} (hs : s = m.size) (C : ∃ v m', Q v m' ∧ DCalls P F f args m v m') (h : ∀ v m', Q v m' → K v m') : ∃ v m', (DCalls P s f args m v m' ∨ DCalls P F f args m v m') ∧ K v m' :=
  have _ := hs; let ⟨v, m', q, d⟩ := C; ⟨v, m', .inr d, h v m' q⟩
end calls

theorem Rd.at {α : Type} {f : α → AVal} {m : Mem} {n : Nat} {xs : List α} {cap : Option Nat} (h : n < m.size) (hb : m.blk n = ⟨xs.map f, .rw⟩) : Rd f m (.sl n 0 xs.length cap 1) xs :=
  .inr (.inr ⟨n, 0, cap, rfl, h, by rw [hb]; simp, fun i x hx => by rw [hb]; simp [hx]⟩)

attribute [go_sem] blk_new blk_old blk_same blk_other ald_same ald_other alds_same alds_other asts_same asts_other asts_new asts_old alds_new alds_old List.drop_succ_cons List.drop_zero List.take_succ_cons List.take_zero
end Go.Ab
