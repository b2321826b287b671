/-
  What is proved here: the words of an abstract machine for Go's translated code: abstract values, an abstract memory of blocks, how they stand for the model's values and worlds, and that steps compose. No condition beyond those written in each statement.
-/
import Derived.Below
import Derived.Orders
import Derived.Deep.LoopGhost
namespace Go.Ab

/-- An abstract value. `any`: nothing is known. Addresses are (abstract block, offset). -/
inductive AVal where
  | any
  | bool (b : Bool)
  | int (k : IntKind) (n : Int)
  | str (s : ByteArray)
  | ptr (a : Option (Nat × Nat))
  | sl (n o len : Nat) (cap : Option Nat) (es : Nat)
  | nilSl
  | emptySl
  | fn (f : FuncId) (first captured : List AVal)
  | nilFn
  | nilIfc
  | ifc (t : TypeId) (v : AVal)
  | agg (cs : List AVal)
  | tup (cs : List AVal)
  | map (r : Option Nat)
  deriving Inhabited

/-- What a temporary holds where nothing was put. -/
def aundef : AVal := .tup []

def AVal.cells : AVal → List AVal
  | .agg cs => cs
  | v => [v]

/-- Is it surely one cell? -/
def AVal.one : AVal → Bool
  | .any | .agg _ | .tup _ => false
  | _ => true

/-- A concrete place: block, offset, how many cells the block has. -/
structure Place where
  cb : Nat
  co : Nat
  cs : Nat

abbrev Inj := Nat → Option Place

/-- The abstract value stands for the concrete one. -/
inductive VRel (β : Inj) : AVal → Value → Prop where
  | any (v : Value) : VRel β .any v
  | bool (b : Bool) : VRel β (.bool b) (.bool b)
  | int (k : IntKind) (n : Int) : VRel β (.int k n) (.int k n)
  | str (s : ByteArray) : VRel β (.str s) (.string s)
  | nilPtr : VRel β (.ptr none) (.pointer none)
  | ptr (n o : Nat) (p : Place) (h : β n = some p) : VRel β (.ptr (some (n, o))) (.pointer (some ⟨p.cb, p.co + o, none⟩))
  | sl (n o len ccap es : Nat) (cap : Option Nat) (p : Place) (a : Addr) (h : β n = some p) (ha : ccap ≠ 0 → a = ⟨p.cb, p.co + o, none⟩) (hl : len ≤ ccap) (hc : p.co + o + ccap * es ≤ p.cs) (he : ∀ c, cap = some c → ccap = c) :
      VRel β (.sl n o len cap es) (.slice (some a) len ccap)
  | nilSl : VRel β .nilSl (.slice none 0 0)
  | emptySl (a : Option Addr) (c : Nat) : VRel β .emptySl (.slice a 0 c)
  | fn (f : FuncId) (xs ys : List AVal) (us vs : Array Value) (h1 : xs.length = us.size) (h2 : ys.length = vs.size)
      (r1 : ∀ (i : Nat) a v, xs[i]? = some a → us[i]? = some v → VRel β a v) (r2 : ∀ (i : Nat) a v, ys[i]? = some a → vs[i]? = some v → VRel β a v) :
      VRel β (.fn f xs ys) (.func (.func f) us vs)
  | nilFn : VRel β .nilFn .nilFunc
  | nilIfc : VRel β .nilIfc .nilIface
  | ifc (t : TypeId) (x : AVal) (v : Value) (h : VRel β x v) : VRel β (.ifc t x) (.iface t v)
  | agg (xs : List AVal) (us : Array Value) (h1 : xs.length = us.size) (r1 : ∀ (i : Nat) a v, xs[i]? = some a → us[i]? = some v → VRel β a v) : VRel β (.agg xs) (.agg us)
  | tup (xs : List AVal) (us : Array Value) (h1 : xs.length = us.size) (r1 : ∀ (i : Nat) a v, xs[i]? = some a → us[i]? = some v → VRel β a v) : VRel β (.tup xs) (.tuple us)
  | nilMap : VRel β (.map none) (.map none)
  | map (n : Nat) (p : Place) (h : β n = some p) : VRel β (.map (some n)) (.map (some p.cb))

def Inj.le (β β' : Inj) : Prop := ∀ n p, β n = some p → β' n = some p
theorem Inj.le.refl (β : Inj) : β.le β := fun _ _ h => h
theorem Inj.le.trans {a b c : Inj} (h : a.le b) (k : b.le c) : a.le c := fun _ _ e => k _ _ (h _ _ e)

theorem VRel.mono {β β' : Inj} (h : β.le β') {a : AVal} {v : Value} (r : VRel β a v) : VRel β' a v := by
  induction r with
  | any v => exact .any v
  | bool b => exact .bool b
  | int k n => exact .int k n
  | str s => exact .str s
  | nilPtr => exact .nilPtr
  | ptr n o p e => exact .ptr n o p (h _ _ e)
  | sl n o len ccap es cap p a e ha hl hc he => exact .sl n o len ccap es cap p a (h _ _ e) ha hl hc he
  | nilSl => exact .nilSl
  | emptySl a c => exact .emptySl a c
  | fn f xs ys us vs h1 h2 _ _ i1 i2 => exact .fn f xs ys us vs h1 h2 i1 i2
  | nilFn => exact .nilFn
  | nilIfc => exact .nilIfc
  | ifc t x v _ ih => exact .ifc t x v ih
  | agg xs us h1 _ i1 => exact .agg xs us h1 i1
  | tup xs us h1 _ i1 => exact .tup xs us h1 i1
  | nilMap => exact .nilMap
  | map n p e => exact .map n p (h _ _ e)

/-- Lists of values. -/
def LRel (β : Inj) (xs : List AVal) (us : Array Value) : Prop := xs.length = us.size ∧ ∀ (i : Nat) a v, xs[i]? = some a → us[i]? = some v → VRel β a v
theorem LRel.mono {β β' : Inj} (h : β.le β') {xs : List AVal} {us : Array Value} (r : LRel β xs us) : LRel β' xs us :=
  ⟨r.1, fun i a v h1 h2 => (r.2 i a v h1 h2).mono h⟩
theorem LRel.nil (β : Inj) : LRel β [] #[] := ⟨rfl, fun i a v h => by simp at h⟩
theorem LRel.get {β : Inj} {xs : List AVal} {us : Array Value} (r : LRel β xs us) {i : Nat} {a : AVal} (h : xs[i]? = some a) : ∃ v, us[i]? = some v ∧ VRel β a v := by
  have hi : i < xs.length := by
    rcases Nat.lt_or_ge i xs.length with h' | h'
    · exact h'
    · simp [List.getElem?_eq_none h'] at h
  have hu : us[i]? = some (us[i]'(r.1 ▸ hi)) := Array.getElem?_eq_getElem (r.1 ▸ hi)
  exact ⟨_, hu, r.2 i a _ h hu⟩
theorem LRel.push {β : Inj} {xs : List AVal} {us : Array Value} (r : LRel β xs us) {a : AVal} {v : Value} (h : VRel β a v) : LRel β (xs ++ [a]) (us.push v) := by
  refine ⟨by simp [r.1], fun i b u hb hu => ?_⟩
  rw [List.getElem?_append] at hb
  rw [Array.getElem?_push] at hu
  by_cases hi : i < xs.length
  · rw [if_pos hi] at hb
    rw [if_neg (by rw [← r.1]; omega)] at hu
    exact r.2 i b u hb hu
  · rw [if_neg hi] at hb
    by_cases he : i = us.size
    · rw [if_pos he] at hu
      have : i - xs.length = 0 := by rw [he, r.1]; omega
      rw [this] at hb
      simp at hb hu
      subst hb; subst hu
      exact h
    · rw [if_neg he] at hu
      have : us.size ≤ i := by rw [← r.1]; omega
      simp [Array.getElem?_eq_none this] at hu
theorem LRel.append {β : Inj} {xs ys : List AVal} {us vs : Array Value} (r : LRel β xs us) (s : LRel β ys vs) : LRel β (xs ++ ys) (us ++ vs) := by
  refine ⟨by simp [r.1, s.1], fun i b u hb hu => ?_⟩
  rw [List.getElem?_append] at hb
  rw [Array.getElem?_append] at hu
  by_cases hi : i < xs.length
  · rw [if_pos hi] at hb
    rw [if_pos (by rw [← r.1]; omega)] at hu
    exact r.2 i b u hb hu
  · rw [if_neg hi] at hb
    rw [if_neg (by rw [← r.1]; omega), ← r.1] at hu
    exact s.2 _ b u hb hu
theorem LRel.set {β : Inj} {xs : List AVal} {us : Array Value} (r : LRel β xs us) (d : Nat) {a : AVal} {v : Value} (h : VRel β a v) : LRel β (xs.set d a) (us.setIfInBounds d v) := by
  refine ⟨by simp [r.1], fun i b u hb hu => ?_⟩
  rw [List.getElem?_set] at hb
  rw [Array.getElem?_setIfInBounds] at hu
  by_cases hi : d = i
  · rw [if_pos hi] at hb hu
    by_cases hl : d < xs.length
    · rw [if_pos hl] at hb
      rw [if_pos (by rw [← r.1]; omega)] at hu
      simp at hb hu
      subst hb; subst hu
      exact h
    · rw [if_neg hl] at hb
      simp at hb
  · rw [if_neg hi] at hb hu
    exact r.2 i b u hb hu
theorem LRel.take {β : Inj} {xs : List AVal} {us : Array Value} (r : LRel β xs us) (n : Nat) : LRel β (xs.take n) (us.extract 0 n) := by
  refine ⟨by simp [r.1], fun i b u hb hu => ?_⟩
  rw [List.getElem?_take] at hb
  split at hb
  · rw [Array.getElem?_extract] at hu
    split at hu
    · simp at hu
      exact r.2 i b u hb hu
    · simp at hu
  · simp at hb

inductive Mode where
  | ro | rw | dead
  deriving DecidableEq, Inhabited

structure Blk where
  cells : List AVal
  mode : Mode
  deriving Inhabited

structure Mem where
  size : Nat
  blk : Nat → Blk

def Mem.push (m : Mem) (cs : List AVal) : Mem := ⟨m.size + 1, fun n => if n = m.size then ⟨cs, .rw⟩ else m.blk n⟩
def Mem.put (m : Mem) (n : Nat) (b : Blk) : Mem := ⟨m.size, fun k => if k = n then b else m.blk k⟩
def Mem.kill (m : Mem) (n : Nat) : Mem := m.put n ⟨[], .dead⟩

@[simp] theorem Mem.size_push (m : Mem) (cs : List AVal) : (m.push cs).size = m.size + 1 := id rfl
@[simp] theorem Mem.size_put (m : Mem) (n : Nat) (b : Blk) : (m.put n b).size = m.size := id rfl
@[simp] theorem Mem.size_kill (m : Mem) (n : Nat) : (m.kill n).size = m.size := id rfl
@[simp] theorem Mem.blk_push (m : Mem) (cs : List AVal) (k : Nat) : (m.push cs).blk k = if k = m.size then ⟨cs, .rw⟩ else m.blk k := rfl
@[simp] theorem Mem.blk_put (m : Mem) (n : Nat) (b : Blk) (k : Nat) : (m.put n b).blk k = if k = n then b else m.blk k := rfl
@[simp] theorem Mem.blk_kill (m : Mem) (n : Nat) (k : Nat) : (m.kill n).blk k = if k = n then ⟨[], .dead⟩ else m.blk k := rfl

/-- The concrete world holds what the abstract memory says, at the places that β names. -/
structure Sim (β : Inj) (m : Mem) (w : World) : Prop where
  lt : ∀ n p, n < m.size → β n = some p → p.cb < w.heap.size
  ro : ∀ n p, n < m.size → β n = some p → (m.blk n).mode = .ro → ∀ (i : Nat) a, (m.blk n).cells[i]? = some a → ∃ v, w.cell? ⟨p.cb, p.co + i, none⟩ = some v ∧ VRel β a v
  rw : ∀ n p, n < m.size → β n = some p → (m.blk n).mode = .rw → ∃ (c : Array Value) (e : TypeId), w.heap[p.cb]? = some (.cells c e (0, 0)) ∧ c.size = p.cs ∧ p.co + (m.blk n).cells.length ≤ c.size ∧
    ∀ (i : Nat) a, (m.blk n).cells[i]? = some a → ∃ v, c[p.co + i]? = some v ∧ VRel β a v
  ex : ∀ n p n' p', n < m.size → n' < m.size → n ≠ n' → β n = some p → β n' = some p' → (m.blk n).mode = .rw → (m.blk n').mode ≠ .dead → p.cb ≠ p'.cb

/-- The abstract side of a step with floor fl: nothing below the floor has turned. -/
structure AStep (fl : Nat) (m m' : Mem) : Prop where
  size : m.size ≤ m'.size
  same : ∀ n, n < m.size → n < fl → m'.blk n = m.blk n
  mode : ∀ n, n < m.size → (m'.blk n).mode = (m.blk n).mode ∨ (m'.blk n).mode = .dead
theorem AStep.refl (fl : Nat) (m : Mem) : AStep fl m m := ⟨Nat.le_refl _, fun _ _ _ => rfl, fun _ _ => .inl rfl⟩
theorem AStep.trans {fl : Nat} {a b c : Mem} (h : AStep fl a b) (k : AStep fl b c) : AStep fl a c := by
  refine ⟨Nat.le_trans h.size k.size, fun n hn hf => (k.same n (Nat.lt_of_lt_of_le hn h.size) hf).trans (h.same n hn hf), fun n hn => ?_⟩
  rcases k.mode n (Nat.lt_of_lt_of_le hn h.size) with e | e
  · rcases h.mode n hn with e' | e'
    · exact .inl (e.trans e')
    · exact .inr (e.trans e')
  · exact .inr e
theorem AStep.mono {fl fl' : Nat} {a b : Mem} (h : AStep fl a b) (hf : fl' ≤ fl) : AStep fl' a b :=
  ⟨h.size, fun n hn hl => h.same n hn (Nat.lt_of_lt_of_le hl hf), h.mode⟩
theorem AStep.of_size {fl : Nat} {a b : Mem} (h : AStep a.size a b) : AStep fl a b :=
  ⟨h.size, fun n hn _ => h.same n hn hn, h.mode⟩

/-- The blocks that a step with floor fl may write, at their concrete places. -/
def MayWrite (fl : Nat) (β : Inj) (m : Mem) (k : Nat) : Prop := ∃ n p, fl ≤ n ∧ n < m.size ∧ β n = some p ∧ (m.blk n).mode = .rw ∧ p.cb = k

/-- The concrete side of a step. -/
structure Post (fl : Nat) (β : Inj) (m : Mem) (w : World) (m' : Mem) (β' : Inj) (w' : World) : Prop where
  sim : Sim β' m' w'
  ext : ∀ n, ¬ (m.size ≤ n ∧ n < m'.size) → β' n = β n
  nb : ∀ n p, m.size ≤ n → n < m'.size → β' n = some p → w.heap.size ≤ p.cb ∨ MayWrite fl β m p.cb
  fr : ∀ k, k < w.heap.size → ¬ MayWrite fl β m k → w'.heap[k]? = w.heap[k]?
  os : w'.os = w.os
  tape : w'.tape = w.tape
  output : w'.output = w.output
  size : w.heap.size ≤ w'.heap.size

/-- β is free where the step makes its new blocks. -/
def Free (β : Inj) (m m' : Mem) : Prop := ∀ n, m.size ≤ n → n < m'.size → β n = none

theorem Post.le {fl : Nat} {β β' : Inj} {m m' : Mem} {w w' : World} (h : Post fl β m w m' β' w') (hf : Free β m m') : β.le β' := by
  intro n p e
  by_cases hn : m.size ≤ n ∧ n < m'.size
  · rw [hf n hn.1 hn.2] at e; cases e
  · rw [h.ext n hn]; exact e

theorem Post.refl {fl : Nat} {β : Inj} {m : Mem} {w : World} (h : Sim β m w) : Post fl β m w m β w :=
  ⟨h, fun _ _ => rfl, fun n p h1 h2 => by omega, fun _ _ _ => rfl, rfl, rfl, rfl, Nat.le_refl _⟩

theorem Free.left {β : Inj} {a b c : Mem} (h : Free β a c) (k : b.size ≤ c.size) : Free β a b := fun n h1 h2 => h n h1 (by omega)
theorem Free.right {fl : Nat} {β β1 : Inj} {a b c : Mem} {w w1 : World} (h : Free β a c) (ab : a.size ≤ b.size) (p : Post fl β a w b β1 w1) : Free β1 b c := fun n h1 h2 => by
  rw [p.ext n (by omega)]; exact h n (by omega) h2

theorem Post.trans {fl : Nat} {β β1 β2 : Inj} {a b c : Mem} {w w1 w2 : World} (sab : AStep fl a b) (sbc : AStep fl b c) (h : Post fl β a w b β1 w1) (k : Post fl β1 b w1 c β2 w2) : Post fl β a w c β2 w2 := by
  have hab := sab.size
  have hbc := sbc.size
  have back : ∀ j, MayWrite fl β1 b j → w.heap.size ≤ j ∨ MayWrite fl β a j := by
    rintro j ⟨n, p, h1, h2, h3, h4, h5⟩
    by_cases hn : n < a.size
    · rw [h.ext n (by omega)] at h3
      refine .inr ⟨n, p, h1, hn, h3, ?_, h5⟩
      rcases sab.mode n hn with e | e
      · rw [← e]; exact h4
      · rw [e] at h4; cases h4
    · rcases h.nb n p (by omega) h2 h3 with e | e
      · exact .inl (h5 ▸ e)
      · exact .inr (h5 ▸ e)
  refine ⟨k.sim, fun n hn => ?_, fun n p h1 h2 h3 => ?_, fun j hj hm => ?_, k.os.trans h.os, k.tape.trans h.tape, k.output.trans h.output, Nat.le_trans h.size k.size⟩
  · rw [k.ext n (by omega), h.ext n (by omega)]
  · by_cases hn : n < b.size
    · rw [k.ext n (by omega)] at h3
      exact h.nb n p h1 hn h3
    · rcases k.nb n p (by omega) h2 h3 with e | e
      · exact .inl (Nat.le_trans h.size e)
      · exact back _ e
  · rw [k.fr j (Nat.lt_of_lt_of_le hj h.size) (fun hw => ?_)]
    · exact h.fr j hj hm
    · rcases back j hw with e | e
      · omega
      · exact hm e

theorem MayWrite.mono {fl fl' : Nat} {β : Inj} {m : Mem} {k : Nat} (h : MayWrite fl β m k) (hf : fl' ≤ fl) : MayWrite fl' β m k :=
  let ⟨n, p, h1, h2, h3⟩ := h; ⟨n, p, Nat.le_trans hf h1, h2, h3⟩
theorem Post.mono {fl fl' : Nat} {β β' : Inj} {m m' : Mem} {w w' : World} (h : Post fl β m w m' β' w') (hf : fl' ≤ fl) : Post fl' β m w m' β' w' :=
  ⟨h.sim, h.ext, fun n p h1 h2 h3 => (h.nb n p h1 h2 h3).imp id (·.mono hf), fun k hk hm => h.fr k hk fun hw => hm (hw.mono hf), h.os, h.tape, h.output, h.size⟩
theorem not_mayWrite_size {β : Inj} {m : Mem} {k : Nat} : ¬ MayWrite m.size β m k := by
  rintro ⟨n, p, h1, h2, _⟩; omega
theorem Post.of_size {fl : Nat} {β β' : Inj} {m m' : Mem} {w w' : World} (h : Post m.size β m w m' β' w') : Post fl β m w m' β' w' :=
  ⟨h.sim, h.ext, fun n p h1 h2 h3 => (h.nb n p h1 h2 h3).imp id (fun x => absurd x not_mayWrite_size), fun k hk _ => h.fr k hk not_mayWrite_size, h.os, h.tape, h.output, h.size⟩
/-- A step that writes nothing old leaves all old blocks. -/
theorem Post.below {β β' : Inj} {m m' : Mem} {w w' : World} (h : Post m.size β m w m' β' w') : RowKit.Below w.heap.size w w' :=
  ⟨h.os, h.tape, h.output, h.size, fun k hk => h.fr k hk not_mayWrite_size⟩

end Go.Ab
