/-
  What is proved here: more rules for walking code abstractly: frames of which only some slots are kept, memories that extend one another, slices that read as lists.
-/
import Derived.Test.YtmpnapfbgfpllaaAb12
import Derived.IntWalk
namespace Go.Ab

section rules
variable {P : Program} {fl : Nat} {m : Mem}
theorem enter {f : FuncId} {fn : Func} {c : Code} {args : List AVal} {Q : AVal → Mem → Prop} {n : Nat} {rs : List ResultVar} (hf : P.funcs[f]? = some fn) (hn : (fn.name == "runtime.NumGoroutine") = false) (hb : fn.body = some c)
    (ht : fn.ntmps = n) (hr : fn.results = ⟨rs⟩) (h : AWp P n fl c (Ends P n rs Q) (fargs args) m) : ∃ v m', Q v m' ∧ DCalls P fl f args m v m' :=
  dcalls_of hf hn hb (by rw [ht, hr]; exact h)
theorem region_seq {nt : Nat} {Q : AExit → Frm → Mem → Prop} {ts : Frm} {id : Nat} {ops : Array Oper} (h : ∀ gd sep, (∀ j, gd j = gdOf ops j) → AOps P nt gd sep fl false (fun ts m => Q .normal ts m) ops.toList 0 ts m) : AWp P nt fl (.region id ops false) Q ts m :=
  awp_region_seq (h _ _ fun _ => rfl)
theorem region_draw' {nt : Nat} {Q : AExit → Frm → Mem → Prop} {ts : Frm} {id : Nat} {ops : Array Oper} (hm : P.follows .mixedOrders = true) (hok : regionOk ops = true)
    (h : ∀ gd sep, (∀ j, gd j = gdOf ops j) → (∀ j, sep j = sepB ops j) → AOps P nt gd sep fl true (fun ts m => Q .normal ts m) ops.toList 0 ts m) : AWp P nt fl (.region id ops true) Q ts m :=
  awp_region_draw hm hok (h _ _ (fun _ => rfl) fun _ => rfl)
end rules

/-- All that was there is there. -/
structure Ext (m m' : Mem) : Prop where
  size : m.size ≤ m'.size
  blk : ∀ n, n < m.size → m'.blk n = m.blk n
theorem Ext.refl (m : Mem) : Ext m m := ⟨Nat.le_refl _, fun _ _ => rfl⟩
theorem Ext.trans {a b c : Mem} (h : Ext a b) (k : Ext b c) : Ext a c := ⟨Nat.le_trans h.size k.size, fun n hn => (k.blk n (Nat.lt_of_lt_of_le hn h.size)).trans (h.blk n hn)⟩
theorem Ext.push (m : Mem) (cs : List AVal) : Ext m (m.push cs) := ⟨by simp, fun n hn => by simp; omega⟩
theorem Ext.put {m m' : Mem} (h : Ext m m') {n : Nat} (hn : m.size ≤ n) (b : Blk) : Ext m (m'.put n b) := ⟨h.size, fun k hk => by simp; rw [if_neg (by omega)]; exact h.blk k hk⟩
theorem Ext.kill {m m' : Mem} (h : Ext m m') {n : Nat} (hn : m.size ≤ n) : Ext m (m'.kill n) := h.put hn _
theorem DCalls.ext {P : Program} {f : FuncId} {args : List AVal} {m m' : Mem} {v : AVal} (h : DCalls P m.size f args m v m') : Ext m m' := ⟨h.2.1.size, fun n hn => h.2.1.same n hn hn⟩
theorem Ext.ald {m m' : Mem} (h : Ext m m') {n o : Nat} (hn : n < m.size) : ald m' n o = Ab.ald m n o := by
  unfold Ab.ald
  rw [h.blk n hn]
  simp [hn, Nat.lt_of_lt_of_le hn h.size]
theorem Ext.alds {m m' : Mem} (h : Ext m m') {n o k : Nat} (hn : n < m.size) : alds m' n o k = Ab.alds m n o k := by
  unfold Ab.alds
  rw [h.blk n hn]
  simp [hn, Nat.lt_of_lt_of_le hn h.size]

theorem ald_new {m : Mem} {cs : List AVal} {n o : Nat} (h : n = m.size) : ald (m.push cs) n o = cs[o]? := by
  subst h
  simp [ald]
theorem ald_old {m : Mem} {cs : List AVal} {n o : Nat} (h : n < m.size) : ald (m.push cs) n o = ald m n o := (Ext.push m cs).ald h
theorem alds_new {m : Mem} {cs : List AVal} {n o k : Nat} (h : n = m.size) (hk : o + k ≤ cs.length) : alds (m.push cs) n o k = some ((cs.drop o).take k) := by
  subst h
  simp [alds, hk]
theorem alds_old {m : Mem} {cs : List AVal} {n o k : Nat} (h : n < m.size) : alds (m.push cs) n o k = alds m n o k := (Ext.push m cs).alds h

/-- The slice reads as the list, one cell an element. -/
def Rd {α : Type} (f : α → AVal) (m : Mem) (v : AVal) (xs : List α) : Prop :=
  (v = .nilSl ∧ xs = []) ∨ (v = .emptySl ∧ xs = []) ∨
    ∃ n o cap, v = .sl n o xs.length cap 1 ∧ n < m.size ∧ (m.blk n).mode ≠ .dead ∧ ∀ (i : Nat) x, xs[i]? = some x → (m.blk n).cells[o + i]? = some (f x)

def elemPtr : AVal → Int → AVal
  | .sl n o _ _ es, i => .ptr (some (n, o + i.toNat * es))
  | _, _ => .any

section reads
variable {α : Type} {f : α → AVal} {m : Mem} {v : AVal} {xs : List α} {P : Program}
theorem Rd.ext {m' : Mem} (h : Rd f m v xs) (e : Ext m m') : Rd f m' v xs := by
  rcases h with h | h | ⟨n, o, cap, h1, h2, h3, h4⟩
  · exact .inl h
  · exact .inr (.inl h)
  · exact .inr (.inr ⟨n, o, cap, h1, Nat.lt_of_lt_of_le h2 e.size, by rw [e.blk n h2]; exact h3, fun i x hx => by rw [e.blk n h2]; exact h4 i x hx⟩)
theorem Rd.gLen {t : TypeId} (h : Rd f m v xs) (hk : tKd P t = some .slice) : alen P t v = some (.int .i64 xs.length) := by
  rcases h with ⟨rfl, rfl⟩ | ⟨rfl, rfl⟩ | ⟨n, o, cap, rfl, _⟩ <;> simp [Ab.alen, hk]
theorem Rd.gIdx {t : TypeId} (h : Rd f m v xs) (he : (tElem P t).bind (tSize P) = some 1) {k : IntKind} {i : Int} (h0 : 0 ≤ i) (h1 : i < xs.length) : aindexAddr P t v (.int k i) = some (elemPtr v i) := by
  rcases h with ⟨rfl, rfl⟩ | ⟨rfl, rfl⟩ | ⟨n, o, cap, rfl, _⟩
  · simp at h1; omega
  · simp at h1; omega
  · simp [aindexAddr, intVal, elemPtr, he, h0, h1]
theorem Rd.gLoad {t : TypeId} (h : Rd f m v xs) (ht : tAgg P t = some false) {i : Int} (h0 : 0 ≤ i) (h1 : i < xs.length) {x : α} (hx : xs[i.toNat]? = some x) : aload P m t (elemPtr v i) = some (f x) := by
  rcases h with ⟨rfl, rfl⟩ | ⟨rfl, rfl⟩ | ⟨n, o, cap, rfl, hn, hm, hr⟩
  · simp at h1; omega
  · simp at h1; omega
  · have := hr i.toNat x hx
    simp only [Ab.aload, elemPtr, ht, Nat.mul_one]
    cases tSize P t <;> simp [ald, hn, hm, this]
theorem Rd.nil : Rd f m .nilSl [] := .inl ⟨rfl, rfl⟩
end reads

/-- Arithmetic within bounds. -/
theorem w64 {x : Int} (h0 : -9223372036854775808 ≤ x) (h1 : x ≤ 9223372036854775807) : IntKind.i64.wrap x = x := by
  rw [IntKind.wrap_i64]; omega

theorem getElem?_getD {l : List Int} {i : Nat} (h : i < l.length) : l[i]? = some (l.getD i 0) := by
  rw [List.getD_eq_getElem?_getD, List.getElem?_eq_getElem h]; rfl

theorem fits_bool (b : Bool) : AVal.fits (.bool b) 1 = true := id rfl
theorem cells_bool (b : Bool) : AVal.cells (.bool b) = [(.bool b)] := id rfl
theorem one_bool (b : Bool) : AVal.one (.bool b) = true := id rfl
theorem fits_int (k : IntKind) (n : Int) : AVal.fits (.int k n) 1 = true := id rfl
theorem cells_int (k : IntKind) (n : Int) : AVal.cells (.int k n) = [(.int k n)] := id rfl
theorem one_int (k : IntKind) (n : Int) : AVal.one (.int k n) = true := id rfl
theorem fits_str (s : ByteArray) : AVal.fits (.str s) 1 = true := id rfl
theorem cells_str (s : ByteArray) : AVal.cells (.str s) = [(.str s)] := id rfl
theorem one_str (s : ByteArray) : AVal.one (.str s) = true := id rfl
theorem fits_ptr (a : Option (Nat × Nat)) : AVal.fits (.ptr a) 1 = true := id rfl
theorem cells_ptr (a : Option (Nat × Nat)) : AVal.cells (.ptr a) = [(.ptr a)] := id rfl
theorem one_ptr (a : Option (Nat × Nat)) : AVal.one (.ptr a) = true := id rfl
theorem fits_sl (n o len : Nat) (cap : Option Nat) (es : Nat) : AVal.fits (.sl n o len cap es) 1 = true := id rfl
theorem cells_sl (n o len : Nat) (cap : Option Nat) (es : Nat) : AVal.cells (.sl n o len cap es) = [(.sl n o len cap es)] := id rfl
theorem one_sl (n o len : Nat) (cap : Option Nat) (es : Nat) : AVal.one (.sl n o len cap es) = true := id rfl
theorem fits_nilSl  : AVal.fits .nilSl 1 = true := id rfl
theorem cells_nilSl  : AVal.cells .nilSl = [.nilSl] := id rfl
theorem one_nilSl  : AVal.one .nilSl = true := id rfl
theorem fits_emptySl  : AVal.fits .emptySl 1 = true := id rfl
theorem cells_emptySl  : AVal.cells .emptySl = [.emptySl] := id rfl
theorem one_emptySl  : AVal.one .emptySl = true := id rfl
theorem fits_fn (f : FuncId) (a b : List AVal) : AVal.fits (.fn f a b) 1 = true := id rfl
theorem cells_fn (f : FuncId) (a b : List AVal) : AVal.cells (.fn f a b) = [(.fn f a b)] := id rfl
theorem one_fn (f : FuncId) (a b : List AVal) : AVal.one (.fn f a b) = true := id rfl
theorem fits_nilFn  : AVal.fits .nilFn 1 = true := id rfl
theorem cells_nilFn  : AVal.cells .nilFn = [.nilFn] := id rfl
theorem one_nilFn  : AVal.one .nilFn = true := id rfl
theorem fits_nilIfc  : AVal.fits .nilIfc 1 = true := id rfl
theorem cells_nilIfc  : AVal.cells .nilIfc = [.nilIfc] := id rfl
theorem one_nilIfc  : AVal.one .nilIfc = true := id rfl
theorem fits_ifc (t : TypeId) (v : AVal) : AVal.fits (.ifc t v) 1 = true := id rfl
theorem cells_ifc (t : TypeId) (v : AVal) : AVal.cells (.ifc t v) = [(.ifc t v)] := id rfl
theorem one_ifc (t : TypeId) (v : AVal) : AVal.one (.ifc t v) = true := id rfl
theorem fits_map (r : Option Nat) : AVal.fits (.map r) 1 = true := id rfl
theorem cells_map (r : Option Nat) : AVal.cells (.map r) = [(.map r)] := id rfl
theorem one_map (r : Option Nat) : AVal.one (.map r) = true := id rfl
theorem fits_agg (cs : List AVal) (k : Nat) : AVal.fits (.agg cs) k = (cs.length == k) := id rfl
theorem cells_agg (cs : List AVal) : AVal.cells (.agg cs) = cs := id rfl
theorem Rd.fits {α : Type} {f : α → AVal} {m : Mem} {v : AVal} {xs : List α} (h : Rd f m v xs) : v.fits 1 = true := by rcases h with ⟨rfl, _⟩ | ⟨rfl, _⟩ | ⟨n, o, cap, rfl, _⟩ <;> rfl
theorem Rd.cells {α : Type} {f : α → AVal} {m : Mem} {v : AVal} {xs : List α} (h : Rd f m v xs) : v.cells = [v] := by rcases h with ⟨rfl, _⟩ | ⟨rfl, _⟩ | ⟨n, o, cap, rfl, _⟩ <;> rfl
theorem Rd.one {α : Type} {f : α → AVal} {m : Mem} {v : AVal} {xs : List α} (h : Rd f m v xs) : v.one = true := by rcases h with ⟨rfl, _⟩ | ⟨rfl, _⟩ | ⟨n, o, cap, rfl, _⟩ <;> rfl

attribute [go_sem] fits_bool cells_bool one_bool fits_int cells_int one_int fits_str cells_str one_str fits_ptr cells_ptr one_ptr fits_sl cells_sl one_sl fits_nilSl cells_nilSl one_nilSl fits_emptySl cells_emptySl one_emptySl fits_fn cells_fn one_fn fits_nilFn cells_nilFn one_nilFn fits_nilIfc cells_nilIfc one_nilIfc fits_ifc cells_ifc one_ifc fits_map cells_map one_map fits_agg cells_agg
attribute [go_sem] AOp1 awanted calleeOf aop abuiltin aput aev fset_b fargs ofVal ofScal intVal oint abin List.getD_cons_zero List.getD_cons_succ List.getElem?_cons_zero List.getElem?_cons_succ List.map_cons List.map_nil List.append_nil List.cons_append List.nil_append Option.bind_some Option.map_some Option.map_none Nx Caught opFl_seq and_self and_true true_and Nat.mul_one Nat.zero_mul List.all_cons List.all_nil Bool.and_self Bool.and_true Bool.true_and afill setCells List.replicate List.flatten_cons List.flatten_nil List.set_cons_zero List.set_cons_succ List.length_cons List.length_nil Nat.add_zero Nat.zero_add BEq.rfl cond_true cond_false w64 ald_new ald_old Mem.size_push Mem.size_put Mem.size_kill

end Go.Ab
