/-
  What is proved here: what an operation of the translated code that is no call of a Go function does abstractly, and that the model's operation does just that in every world that the abstract memory stands for.
-/
import Derived.Test.YtmpnapfbgfpllaaAb1
import Derived.Laws.Append
import Derived.Laws.AppendOwn
import Derived.Laws.Build
import Derived.Laws.MakeOwn
import Derived.Laws.Entries
namespace Go.Ab
open Go.RowKit

section types
variable (P : Program)
def tSize (t : TypeId) : Option Nat := (P.info? t).map (·.size)
def tBytes (t : TypeId) : Option Nat := (P.info? t).map (·.bytes)
def isAggD : TypeDesc → Bool
  | .struct _ | .array _ _ => true
  | _ => false
def tAgg (t : TypeId) : Option Bool := (P.underlying t).map isAggD
def ofScal : Value → AVal
  | .bool b => .bool b
  | .int k n => .int k n
  | .string s => .str s
  | .pointer none => .ptr none
  | .slice none 0 0 => .nilSl
  | .map none => .map none
  | .nilFunc => .nilFn
  | .nilIface => .nilIfc
  | .func (.func f) ⟨[]⟩ ⟨[]⟩ => .fn f [] []
  | _ => .any
def ofVal : Value → AVal
  | .agg cs => .agg (cs.toList.map ofScal)
  | .tuple cs => .tup (cs.toList.map ofScal)
  | v => ofScal v
def tZero (t : TypeId) : Option (List AVal) := (P.info? t).bind fun i => i.zero.map fun v => v.cells.toList.map ofScal
def tElem (t : TypeId) : Option TypeId :=
  match P.underlying t with
  | some (.slice e) => some e
  | _ => none
/-- A struct's field: its offset in cells, its type. -/
def tField (s : TypeId) (f : Nat) : Option (Nat × TypeId) :=
  match P.underlying s with
  | some (.struct fs) => (fs[f]?).map fun x => (x.offset, x.type)
  | _ => none
/-- A struct's fields: offset and size. -/
def tFields (s : TypeId) : Option (List (Nat × Nat)) :=
  match P.underlying s with
  | some (.struct fs) => fs.toList.mapM fun x => (tSize P x.type).map fun z => (x.offset, z)
  | _ => none
inductive Kd where
  | bool | int (k : IntKind) | string | slice | map | iface | other
  deriving DecidableEq
def kdOf : TypeDesc → Kd
  | .bool => .bool
  | .int k => .int k
  | .string => .string
  | .slice _ => .slice
  | .map _ _ => .map
  | .interface _ => .iface
  | _ => .other
def tKd (t : TypeId) : Option Kd := (P.underlying t).map kdOf
end types

theorem ofScal_rel (β : Inj) (v : Value) : VRel β (ofScal v) v := by
  unfold ofScal
  split
  · exact .bool _
  · exact .int _ _
  · exact .str _
  · exact .nilPtr
  · exact .nilSl
  · exact .nilMap
  · exact .nilFn
  · exact .nilIfc
  · rename_i f
    exact .fn f [] [] #[] #[] rfl rfl (fun i a v h => by simp at h) (fun i a v h => by simp at h)
  · exact .any _
theorem ofScals_rel (β : Inj) (cs : Array Value) : LRel β (cs.toList.map ofScal) cs := by
  refine ⟨by simp, fun i a v h1 h2 => ?_⟩
  rw [List.getElem?_map] at h1
  have : cs.toList[i]? = some v := by simpa using h2
  rw [this] at h1
  simp at h1
  subst h1
  exact ofScal_rel β v
theorem ofVal_rel (β : Inj) (v : Value) : VRel β (ofVal v) v := by
  unfold ofVal
  split
  · rename_i cs
    exact .agg _ _ (ofScals_rel β cs).1 (ofScals_rel β cs).2
  · rename_i cs
    exact .tup _ _ (ofScals_rel β cs).1 (ofScals_rel β cs).2
  · exact ofScal_rel β v

/-- A frame: what is known of each temporary. -/
abbrev Frm := Nat → AVal
/-- An operand, in a frame of at least n temporaries. -/
def aev (n : Nat) (ts : Frm) : Operand → AVal
  | .tmp t => if t < n then ts t else .any
  | .const v => ofVal v
  | .global _ => .any
  | .func f => .fn f [] []
def fset (ts : Frm) (d : Nat) (v : AVal) : Frm := fun i => if i = d then v else ts i
theorem fset_app (ts : Frm) (d : Nat) (v : AVal) (i : Nat) : fset ts d v i = if i = d then v else ts i := rfl
theorem fset_b (ts : Frm) (d : Nat) (v : AVal) (i : Nat) : fset ts d v i = bif i == d then v else ts i := by
  unfold fset
  by_cases h : i = d
  · subst h; simp
  · have e : (i == d) = false := by simpa using h
    rw [if_neg h, e]; rfl
/-- The frame that a call begins with. -/
def fargs (args : List AVal) : Frm := fun i => args.getD i aundef

/-- The frame stands for the temporaries. -/
def FRel (β : Inj) (n : Nat) (ts : Frm) (us : Array Value) : Prop := n ≤ us.size ∧ ∀ (i : Nat) v, us[i]? = some v → VRel β (ts i) v
theorem FRel.mono {β β' : Inj} (h : β.le β') {n : Nat} {ts : Frm} {us : Array Value} (r : FRel β n ts us) : FRel β' n ts us := ⟨r.1, fun i v e => (r.2 i v e).mono h⟩
theorem FRel.set {β : Inj} {n : Nat} {ts : Frm} {us : Array Value} (r : FRel β n ts us) (d : Nat) {a : AVal} {v : Value} (h : VRel β a v) : FRel β n (fset ts d a) (us.setIfInBounds d v) := by
  refine ⟨by simpa using r.1, fun i u hu => ?_⟩
  rw [Array.getElem?_setIfInBounds] at hu
  unfold fset
  by_cases e : d = i
  · subst e
    rw [if_pos rfl] at hu ⊢
    split at hu
    · simp at hu; subst hu; exact h
    · cases hu
  · rw [if_neg e] at hu
    rw [if_neg (fun h => e h.symm)]
    exact r.2 i u hu

theorem aundef_rel (β : Inj) : VRel β aundef undef := .tup [] #[] rfl (fun i a v h => by simp at h)

theorem aev_rel {β : Inj} {n : Nat} {ts : Frm} {a : Act} (hn : n ≤ a.tmps.size) (x : Operand) (h : ∀ t v, x = .tmp t → a.tmps[t]? = some v → VRel β (ts t) v) : VRel β (aev n ts x) (a.eval x) := by
  cases x with
  | tmp t =>
    simp only [aev, Act.eval]
    by_cases ht : t < n
    · have hlt : t < a.tmps.size := Nat.lt_of_lt_of_le ht hn
      have h2 : a.tmps[t]? = some (a.tmps[t]'hlt) := Array.getElem?_eq_getElem hlt
      rw [if_pos ht]
      simp only [Array.getD_eq_getD_getElem?, h2, Option.getD_some]
      exact h t _ rfl h2
    · rw [if_neg ht]
      exact .any _
  | const v => exact ofVal_rel β v
  | global g => exact .any _
  | func f => exact .fn f [] [] #[] #[] rfl rfl (fun i a v h => by simp at h) (fun i a v h => by simp at h)
theorem FRel.aev {β : Inj} {n : Nat} {ts : Frm} {a : Act} (h : FRel β n ts a.tmps) (x : Operand) : VRel β (Ab.aev n ts x) (a.eval x) := aev_rel h.1 x fun t v _ e => h.2 t v e

/-- Is it a proper value of so many cells? -/
def AVal.fits (v : AVal) (k : Nat) : Bool :=
  match v with
  | .any | .tup _ => false
  | .agg cs => cs.length == k
  | _ => k == 1

theorem VRel.cells {β : Inj} {x : AVal} {v : Value} (h : VRel β x v) {k : Nat} (hf : x.fits k = true) : LRel β x.cells v.cells ∧ x.cells.length = k := by
  cases h with
  | any v => simp [AVal.fits] at hf
  | agg xs us h1 r1 => exact ⟨⟨h1, r1⟩, by simpa [AVal.fits, AVal.cells] using hf⟩
  | tup xs us h1 r1 => simp [AVal.fits] at hf
  | _ =>
    refine ⟨⟨rfl, fun i a v h1 h2 => ?_⟩, by simp [AVal.fits] at hf; simp [AVal.cells, hf]⟩
    cases i with
    | zero =>
      simp [AVal.cells, Value.cells] at h1 h2
      subst h1; subst h2
      constructor <;> assumption
    | succ i => simp [AVal.cells] at h1

/-- A literal's cells, filled part by part. -/
def afill (place : Nat → Option (Nat × Nat)) : List AVal → List (Nat × AVal) → Option (List AVal)
  | cs, [] => some cs
  | cs, (i, v) :: rest =>
    match place i with
    | none => none
    | some (off, size) => if v.fits size = true ∧ off + size ≤ cs.length then afill place (setCells cs off v.cells) rest else none

def intVal : AVal → Option Int
  | .int _ n => some n
  | _ => none

def abin (P : Program) (op : BinOp) (t : TypeId) (x y : AVal) : Option AVal :=
  match x, y with
  | .int k a, .int k' b =>
    if k = k' then
      match op with
      | .add => some (.int k (k.wrap (a + b)))
      | .sub => some (.int k (k.wrap (a - b)))
      | .mul => some (.int k (k.wrap (a * b)))
      | .quo => if b = 0 then none else some (.int k (k.wrap (a.tdiv b)))
      | .rem => if b = 0 then none else some (.int k (a.tmod b))
      | .xor => some (.int k (k.wrap (BitVec.ofInt k.bits a ^^^ BitVec.ofInt k.bits b).toNat))
      | .eql => some (.bool (a == b))
      | .neq => some (.bool (a != b))
      | .lss => some (.bool (a < b))
      | .leq => some (.bool (a ≤ b))
      | .gtr => some (.bool (a > b))
      | .geq => some (.bool (a ≥ b))
      | _ => none
    else none
  | .str a, .str b =>
    match op with
    | .add => if a.size + b.size ≤ 2 ^ 62 then some (.str (a ++ b)) else none
    | .eql => some (.bool (a.toList == b.toList))
    | .neq => some (.bool (!(a.toList == b.toList)))
    | .lss => some (.bool (Op.bytesLess a.toList b.toList))
    | .geq => some (.bool (!(Op.bytesLess a.toList b.toList)))
    | _ => none
  | .bool a, .bool b =>
    if tKd P t = some .bool then
      match op with
      | .eql => some (.bool (a == b))
      | .neq => some (.bool (!(a == b)))
      | _ => none
    else none
  | .nilSl, .nilSl =>
    if tKd P t = some .slice then (match op with | .eql => some (.bool true) | .neq => some (.bool false) | _ => none) else none
  | .sl .., .nilSl =>
    if tKd P t = some .slice then (match op with | .eql => some (.bool false) | .neq => some (.bool true) | _ => none) else none
  | _, _ => none

/-- The cells that append adds. -/
def addCells (m : Mem) (es : Nat) : AVal → Option (Nat × List AVal)
  | .nilSl | .emptySl => some (0, [])
  | .sl n o len _ es' => if es' = es then (alds m n o (len * es)).map fun cs => (len, cs) else none
  | _ => none

def aappend (P : Program) (fl : Nat) (m : Mem) (t tx : TypeId) (s x : AVal) : Option (AVal × Mem) :=
  match tElem P t, decide (tx = t) with
  | some e, true =>
    match tSize P e, tBytes P e, tZero P e with
    | some es, some by_, some z =>
      if by_ ≤ 1024 ∧ z.length = es then
        match addCells m es x with
        | some (k, new) =>
          if k = 0 then
            match s with
            | .nilSl => some (.nilSl, m)
            | .emptySl => some (.emptySl, m)
            | .sl n o len cap es' => some (.sl n o len cap es', m)
            | _ => none
          else
            match s with
            | .nilSl => if k ≤ 2 ^ 36 then some (.sl m.size 0 k none es, m.push new) else none
            | .sl n o len cap es' =>
              if es' = es ∧ len + k ≤ 2 ^ 36 then
                match alds m n o (len * es) with
                | some old =>
                  if cap.any (· < len + k) = true then some (.sl m.size 0 (len + k) none es, m.push (old ++ new))
                  else if fl ≤ n ∧ (m.blk n).mode = .rw ∧ o + len * es = (m.blk n).cells.length ∧ new.all (·.one) = true then some (.sl m.size 0 (len + k) none es, (m.push (old ++ new)).kill n)
                  else none
                | none => none
              else none
            | _ => none
        | none => none
      else none
    | _, _, _ => none
  | _, _ => none

def oint (a : Option AVal) (d : Int) : Option Int :=
  match a with
  | some v => intVal v
  | none => some d

def aslice (P : Program) (t : TypeId) (x : AVal) (lo hi mx : Option AVal) : Option AVal :=
  match tKd P t, x with
  | some .string, .str s =>
    match mx, oint hi s.size, oint lo 0 with
    | none, some h, some l => if 0 ≤ l ∧ l ≤ h ∧ h ≤ s.size then some (.str (s.extract l.toNat h.toNat)) else none
    | _, _, _ => none
  | some .slice, .sl n o len cap es =>
    if (tElem P t).bind (tSize P) = some es then
      match oint hi len, oint lo 0 with
      | some h, some l =>
        if 0 ≤ l ∧ l ≤ h ∧ h ≤ len then
          match mx with
          | none => some (.sl n (o + l.toNat * es) (h.toNat - l.toNat) (cap.map (· - l.toNat)) es)
          | some v =>
            match intVal v, hi with
            | some q, some _ => if h ≤ q ∧ q ≤ len then some (.sl n (o + l.toNat * es) (h.toNat - l.toNat) (some (q.toNat - l.toNat)) es) else none
            | _, _ => none
        else none
      | _, _ => none
    else none
  | some .slice, .nilSl =>
    match (tElem P t).bind (tSize P), mx, oint hi 0, oint lo 0 with
    | some _, none, some 0, some 0 => some .nilSl
    | _, _, _, _ => none
  | _, _ => none

def abytes : List AVal → Option (List UInt8)
  | [] => some []
  | .int .u8 n :: r => (abytes r).map (UInt8.ofNat n.toNat :: ·)
  | _ => none

def aconvert (P : Program) (m : Mem) (src dst : TypeId) (x : AVal) : Option AVal :=
  match x, tKd P src, tKd P dst with
  | .int _ n, some _, some (.int k) => some (.int k (k.wrap n))
  | .str s, some .string, some .string => some (.str s)
  | .sl n o len _ 1, some .slice, some .string =>
    if (tElem P src).bind (tKd P) = some (.int .u8) then ((alds m n o len).bind abytes).map fun l => .str ⟨l.toArray⟩ else none
  | _, _, _ => none

def aload (P : Program) (m : Mem) (t : TypeId) (a : AVal) : Option AVal :=
  match a with
  | .ptr (some (n, o)) => match tAgg P t, tSize P t with
    | some true, some k => (alds m n o k).map .agg
    | some false, _ => ald m n o
    | _, _ => none
  | _ => none
def astore (P : Program) (fl : Nat) (m : Mem) (t : TypeId) (a x : AVal) : Option Mem :=
  match a with
  | .ptr (some (n, o)) => match tSize P t with
    | some k => if x.fits k = true then asts fl m n o x.cells else none
    | none => none
  | _ => none
def aindexAddr (P : Program) (t : TypeId) (x i : AVal) : Option AVal :=
  match x, intVal i with
  | .sl n o len _ es, some i => if 0 ≤ i ∧ i < len ∧ (tElem P t).bind (tSize P) = some es then some (.ptr (some (n, o + i.toNat * es))) else none
  | _, _ => none
def alen (P : Program) (t : TypeId) (x : AVal) : Option AVal :=
  match tKd P t, x with
  | some .slice, .sl _ _ len _ _ => some (.int .i64 len)
  | some .slice, .nilSl => some (.int .i64 0)
  | some .slice, .emptySl => some (.int .i64 0)
  | some .string, .str s => some (.int .i64 s.size)
  | _, _ => none
def afieldAddr (P : Program) (s : TypeId) (x : AVal) (f : Nat) : Option AVal :=
  match x, tField P s f with
  | .ptr (some (n, o)), some (off, ft) => match tSize P ft with | some (_ + 1) => some (.ptr (some (n, o + off))) | _ => none
  | _, _ => none
def amake (P : Program) (m : Mem) (t : TypeId) (l c : AVal) : Option (AVal × Mem) :=
  match tElem P t, l, c with
  | some e, .int _ l, .int _ c => match tSize P e, tBytes P e, tZero P e with
    | some 1, some by_, some [z] => if by_ ≤ 1024 ∧ 0 ≤ l ∧ l ≤ c ∧ c ≤ 2 ^ 36 then some (.sl m.size 0 l.toNat (some c.toNat) 1, m.push (List.replicate c.toNat z)) else none
    | _, _, _ => none
  | _, _, _ => none

def abuiltin (P : Program) (ρ : Operand → AVal) (m : Mem) (fl : Nat) (c : Call) : Option (AVal × Mem) :=
  match c.callee, c.args, c.argTypes with
  | .builtin .len, ⟨[x]⟩, ⟨[t]⟩ => (alen P t (ρ x)).map fun v => (v, m)
  | .builtin .append, ⟨[s, x]⟩, ⟨[t, tx]⟩ => aappend P fl m t tx (ρ s) (ρ x)
  | _, _, _ => none

def aop (P : Program) (ρ : Operand → AVal) (m : Mem) (fl : Nat) : Op → Option (AVal × Mem)
  | .move x | .assign x => some (ρ x, m)
  | .pick c a b => match ρ c with | .bool t => some (if t then ρ a else ρ b, m) | _ => none
  | .alloc t => match tZero P t with | some z => some (.ptr (some (m.size, 0)), m.push z) | none => none
  | .box _ x => if (ρ x).fits (ρ x).cells.length = true then some (.ptr (some (m.size, 0)), m.push (ρ x).cells) else none
  | .build t parts =>
    match tFields P t, tZero P t with
    | some fs, some z => (afill (fs[·]?) z (parts.toList.map fun p => (p.1, ρ p.2))).map fun cs => (.agg cs, m)
    | _, _ => none
  | .buildSlice t len parts =>
    match tElem P t with
    | some e => match tSize P e, tZero P e with
      | some es, some z =>
        if z.length = es ∧ len * es ≤ 2 ^ 24 then
          (afill (fun i => some (i * es, es)) (List.replicate len z).flatten (parts.toList.map fun p => (p.1, ρ p.2))).map fun cs => (.sl m.size 0 len (some len) es, m.push cs)
        else none
      | _, _ => none
    | none => none
  | .load t a => (aload P m t (ρ a)).map fun v => (v, m)
  | .store t a x => (astore P fl m t (ρ a) (ρ x)).map fun m' => (aundef, m')
  | .nilCheck x => match ρ x with | .ptr (some a) => some (.ptr (some a), m) | .fn f a b => some (.fn f a b, m) | _ => none
  | .binOp op t x y _ => (abin P op t (ρ x) (ρ y)).map fun v => (v, m)
  | .unOp .not _ x => match ρ x with | .bool b => some (.bool !b, m) | _ => none
  | .unOp .neg _ x => match ρ x with | .int k n => some (.int k (k.wrap (0 - n)), m) | _ => none
  | .convert src dst x => (aconvert P m src dst (ρ x)).map fun v => (v, m)
  | .makeFunc (.func f) first captured => some (.fn f (first.toList.map ρ) (captured.toList.map ρ), m)
  | .makeSlice t l c => amake P m t (ρ l) (ρ c)
  | .slice t x lo hi mx => (aslice P t (ρ x) (lo.map ρ) (hi.map ρ) (mx.map ρ)).map fun v => (v, m)
  | .fieldAddr s x f => (afieldAddr P s (ρ x) f).map fun v => (v, m)
  | .field s x f =>
    match ρ x, tField P s f with
    | .agg cs, some (off, ft) => match tAgg P ft, tSize P ft with
      | some true, some k => some (.agg ((cs.drop off).take k), m)
      | some false, _ => (cs[off]?).map fun v => (v, m)
      | _, _ => none
    | _, _ => none
  | .indexAddr t x i => (aindexAddr P t (ρ x) (ρ i)).map fun v => (v, m)
  | .index t x i =>
    match ρ x, intVal (ρ i) with
    | .str s, some i => if tKd P t = some .string ∧ 0 ≤ i then (match s[i.toNat]? with | some b => some (.int .u8 b.toNat, m) | none => none) else none
    | _, _ => none
  | .extract x i => match ρ x with | .tup xs => (xs[i]?).map fun v => (v, m) | _ => none
  | .call c => abuiltin P ρ m fl c
  | _ => none

end Go.Ab
