/- What is proved here: the words of an abstract machine for the translated code (values, a memory of blocks, how they stand for the model's values and worlds), that steps compose, and that reading, writing and making blocks agree with the model. No condition beyond those written in each statement. -/
import Derived.Below
import Derived.Orders
import Derived.Deep.LoopGhost
import Derived.Laws.Append
import Derived.Laws.AppendOwn
import Derived.Laws.Build
import Derived.Laws.MakeOwn
import Derived.Laws.Entries
namespace Go.Ab
inductive AVal where
 |any
 |bool (b:Bool)
 |int (k:IntKind) (n:Int)
 |str (s:ByteArray)
 |ptr (a:Option (Nat×Nat))
 |sl (n o len:Nat) (cap:Option Nat) (es:Nat)
 |nilSl
 |emptySl
 |fn (f:FuncId) (first captured:List AVal)
 |nilFn
 |nilIfc
 |ifc (t:TypeId) (v:AVal)
 |agg (cs:List AVal)
 |tup (cs:List AVal)
 |map (r:Option Nat)
 |slf (n o:Nat) (t:TypeId)
 |sb (n len:Nat)
 deriving Inhabited
def aundef:AVal:= .tup []
def AVal.cells:AVal→List AVal
 | .agg cs=>cs
 |v=>[v]
def AVal.one:AVal→Bool
 | .any| .agg _| .tup _=>false
 |_=>true
structure Place where
 cb:Nat
 co:Nat
 cs:Nat
 ct:TypeId
def byT:TypeId:=5
abbrev Inj:=Nat→Option Place
inductive VRel (β:Inj):AVal→Value→Prop where
 |any (v:Value):VRel β .any v
 |bool (b:Bool):VRel β (.bool b) (.bool b)
 |int (k:IntKind) (n:Int):VRel β (.int k n) (.int k n)
 |str (s:ByteArray):VRel β (.str s) (.string s)
 |nilPtr:VRel β (.ptr none) (.pointer none)
 |ptr (n o:Nat) (p:Place) (h:β n=some p):VRel β (.ptr (some (n,o))) (.pointer (some ⟨p.cb,p.co+o,none⟩))
 |sl (n o len ccap es:Nat) (cap:Option Nat) (p:Place) (a:Addr) (h:β n=some p) (ha:ccap≠0→a=⟨p.cb,p.co+o,none⟩) (hl:len≤ccap) (hc:p.co+o+ccap*es≤p.cs) (he:∀c,cap=some c→ccap=c):
  VRel β (.sl n o len cap es) (.slice (some a) len ccap)
 |nilSl:VRel β .nilSl (.slice none 0 0)
 |emptySl (a:Addr) (c:Nat):VRel β .emptySl (.slice (some a) 0 c)
 |fn (f:FuncId) (xs ys:List AVal) (us vs:Array Value) (h1:xs.length=us.size) (h2:ys.length=vs.size)
  (r1:∀(i:Nat) a v,xs[i]? =some a→us[i]? =some v→VRel β a v) (r2:∀(i:Nat) a v,ys[i]? =some a→vs[i]? =some v→VRel β a v):
  VRel β (.fn f xs ys) (.func (.func f) us vs)
 |nilFn:VRel β .nilFn .nilFunc
 |nilIfc:VRel β .nilIfc .nilIface
 |ifc (t:TypeId) (x:AVal) (v:Value) (h:VRel β x v):VRel β (.ifc t x) (.iface t v)
 |agg (xs:List AVal) (us:Array Value) (h1:xs.length=us.size) (r1:∀(i:Nat) a v,xs[i]? =some a→us[i]? =some v→VRel β a v):VRel β (.agg xs) (.agg us)
 |tup (xs:List AVal) (us:Array Value) (h1:xs.length=us.size) (r1:∀(i:Nat) a v,xs[i]? =some a→us[i]? =some v→VRel β a v):VRel β (.tup xs) (.tuple us)
 |nilMap:VRel β (.map none) (.map none)
 |map (n:Nat) (p:Place) (h:β n=some p):VRel β (.map (some n)) (.map (some p.cb))
 |slfN (n o:Nat) (t:TypeId) (p:Place) (h:β n=some p) (hc:p.co=0) (ht:p.ct=t):VRel β (.slf n o t) (.pointer none)
 |slfP (n o:Nat) (t:TypeId) (p:Place) (h:β n=some p) (hc:p.co=0) (ht:p.ct=t):VRel β (.slf n o t) (.pointer (some ⟨p.cb,o,none⟩))
 |sb (n len ccap:Nat) (p:Place) (h:β n=some p) (ht:p.ct=byT) (ho:p.co=0) (h0:0<len) (hl:len≤ccap) (hc:ccap≤p.cs):VRel β (.sb n len) (.slice (some ⟨p.cb,0,none⟩) len ccap)
def Inj.le (β β':Inj):Prop:=∀n p,β n=some p→β' n=some p
theorem Inj.le.refl (β:Inj):β.le β:=fun _ _ h=>h
theorem Inj.le.trans {a b c:Inj} (h:a.le b) (k:b.le c):a.le c:=fun _ _ e=>k _ _ (h _ _ e)
theorem VRel.mono {β β':Inj} (h:β.le β') {a:AVal} {v:Value} (r:VRel β a v):VRel β' a v:=by
 induction r with
 |any v=>exact .any v
 |bool b=>exact .bool b
 |int k n=>exact .int k n
 |str s=>exact .str s
 |nilPtr=>exact .nilPtr
 |ptr n o p e=>exact .ptr n o p (h _ _ e)
 |sl n o len ccap es cap p a e ha hl hc he=>exact .sl n o len ccap es cap p a (h _ _ e) ha hl hc he
 |nilSl=>exact .nilSl
 |emptySl a c=>exact .emptySl a c
 |fn f xs ys us vs h1 h2 _ _ i1 i2=>exact .fn f xs ys us vs h1 h2 i1 i2
 |nilFn=>exact .nilFn
 |nilIfc=>exact .nilIfc
 |ifc t x v _ ih=>exact .ifc t x v ih
 |agg xs us h1 _ i1=>exact .agg xs us h1 i1
 |tup xs us h1 _ i1=>exact .tup xs us h1 i1
 |nilMap=>exact .nilMap
 |map n p e=>exact .map n p (h _ _ e)
 |slfN n o t p e hc ht=>exact .slfN n o t p (h _ _ e) hc ht
 |slfP n o t p e hc ht=>exact .slfP n o t p (h _ _ e) hc ht
 |sb n len ccap p e ht ho h0 hl hc=>exact .sb n len ccap p (h _ _ e) ht ho h0 hl hc
def LRel (β:Inj) (xs:List AVal) (us:Array Value):Prop:=xs.length=us.size∧∀(i:Nat) a v,xs[i]? =some a→us[i]? =some v→VRel β a v
theorem LRel.mono {β β':Inj} (h:β.le β') {xs:List AVal} {us:Array Value} (r:LRel β xs us):LRel β' xs us:=
 ⟨r.1,fun i a v h1 h2=>(r.2 i a v h1 h2).mono h⟩
theorem LRel.nil (β:Inj):LRel β [] #[]:=⟨rfl,fun i a v h=>by simp at h⟩
theorem LRel.get {β:Inj} {xs:List AVal} {us:Array Value} (r:LRel β xs us) {i:Nat} {a:AVal} (h:xs[i]? =some a):∃v,us[i]? =some v∧VRel β a v:=by
 have hi:i<xs.length:=by
  rcases Nat.lt_or_ge i xs.length with h'|h'
  ·exact h'
  ·simp[List.getElem?_eq_none h']at h
 have hu:us[i]? =some (us[i]'(r.1▸hi)):=Array.getElem?_eq_getElem (r.1▸hi)
 exact⟨_,hu,r.2 i a _ h hu⟩
theorem LRel.push {β:Inj} {xs:List AVal} {us:Array Value} (r:LRel β xs us) {a:AVal} {v:Value} (h:VRel β a v):LRel β (xs++[a]) (us.push v):=by
 refine⟨by simp[r.1],fun i b u hb hu=> ?_⟩
 rw[List.getElem?_append]at hb
 rw[Array.getElem?_push]at hu
 by_cases hi:i<xs.length
 ·rw[if_pos hi]at hb
  rw[if_neg (by rw[←r.1];omega)]at hu
  exact r.2 i b u hb hu
 ·rw[if_neg hi]at hb
  by_cases he:i=us.size
  ·rw[if_pos he]at hu
   have:i-xs.length=0:=by rw[he,r.1];omega
   rw[this]at hb
   simp at hb hu
   subst hb;subst hu
   exact h
  ·rw[if_neg he]at hu
   have:us.size≤i:=by rw[←r.1];omega
   simp[Array.getElem?_eq_none this]at hu
theorem LRel.append {β:Inj} {xs ys:List AVal} {us vs:Array Value} (r:LRel β xs us) (s:LRel β ys vs):LRel β (xs++ys) (us++vs):=by
 refine⟨by simp[r.1,s.1],fun i b u hb hu=> ?_⟩
 rw[List.getElem?_append]at hb
 rw[Array.getElem?_append]at hu
 by_cases hi:i<xs.length
 ·rw[if_pos hi]at hb
  rw[if_pos (by rw[←r.1];omega)]at hu
  exact r.2 i b u hb hu
 ·rw[if_neg hi]at hb
  rw[if_neg (by rw[←r.1];omega),←r.1]at hu
  exact s.2 _ b u hb hu
theorem LRel.set {β:Inj} {xs:List AVal} {us:Array Value} (r:LRel β xs us) (d:Nat) {a:AVal} {v:Value} (h:VRel β a v):LRel β (xs.set d a) (us.setIfInBounds d v):=by
 refine⟨by simp[r.1],fun i b u hb hu=> ?_⟩
 rw[List.getElem?_set]at hb
 rw[Array.getElem?_setIfInBounds]at hu
 by_cases hi:d=i
 ·rw[if_pos hi]at hb hu
  by_cases hl:d<xs.length
  ·rw[if_pos hl]at hb
   rw[if_pos (by rw[←r.1];omega)]at hu
   simp at hb hu
   subst hb;subst hu
   exact h
  ·rw[if_neg hl]at hb
   simp at hb
 ·rw[if_neg hi]at hb hu
  exact r.2 i b u hb hu
theorem LRel.take {β:Inj} {xs:List AVal} {us:Array Value} (r:LRel β xs us) (n:Nat):LRel β (xs.take n) (us.extract 0 n):=by
 refine⟨by simp[r.1],fun i b u hb hu=> ?_⟩
 rw[List.getElem?_take]at hb
 split at hb
 ·rw[Array.getElem?_extract]at hu
  split at hu
  ·simp at hu
   exact r.2 i b u hb hu
  ·simp at hu
 ·simp at hb
inductive Mode where
 |ro|rw|dead
 |mp (ks:List (List UInt8))
 deriving DecidableEq,Inhabited
def Mode.wr:Mode→Bool
 | .rw| .mp _=>true
 |_=>false
theorem wr_rw {m:Mode} (h:m= .rw):m.wr=true:=by rw[h];rfl
theorem wr_nd {m:Mode} (h:m.wr=true):m≠ .dead:=by intro e;rw[e]at h;cases h
theorem wr_nr {m:Mode} (h:m.wr=true):m≠ .ro:=by intro e;rw[e]at h;cases h
def G0:Nat:=9
structure Blk where
 cells:List AVal
 mode:Mode
 deriving Inhabited
structure Mem where
 size:Nat
 blk:Nat→Blk
def Mem.push (m:Mem) (cs:List AVal):Mem:=⟨m.size+1,fun n=>if n=m.size then⟨cs, .rw⟩else m.blk n⟩
def Mem.put (m:Mem) (n:Nat) (b:Blk):Mem:=⟨m.size,fun k=>if k=n then b else m.blk k⟩
def Mem.pushB (m:Mem) (b:Blk):Mem:=⟨m.size+1,fun n=>if n=m.size then b else m.blk n⟩
def Mem.kill (m:Mem) (n:Nat):Mem:=m.put n ⟨[], .dead⟩
@[simp] theorem Mem.size_push (m:Mem) (cs:List AVal):(m.push cs).size=m.size+1:=id rfl
@[simp] theorem Mem.size_pushB (m:Mem) (b:Blk):(m.pushB b).size=m.size+1:=id rfl
@[simp] theorem Mem.blk_pushB (m:Mem) (b:Blk) (k:Nat):(m.pushB b).blk k=if k=m.size then b else m.blk k:=rfl
@[simp] theorem Mem.size_put (m:Mem) (n:Nat) (b:Blk):(m.put n b).size=m.size:=id rfl
@[simp] theorem Mem.size_kill (m:Mem) (n:Nat):(m.kill n).size=m.size:=id rfl
@[simp] theorem Mem.blk_push (m:Mem) (cs:List AVal) (k:Nat):(m.push cs).blk k=if k=m.size then⟨cs, .rw⟩else m.blk k:=rfl
@[simp] theorem Mem.blk_put (m:Mem) (n:Nat) (b:Blk) (k:Nat):(m.put n b).blk k=if k=n then b else m.blk k:=rfl
@[simp] theorem Mem.blk_kill (m:Mem) (n:Nat) (k:Nat):(m.kill n).blk k=if k=n then⟨[], .dead⟩else m.blk k:=rfl
def MapHas (es:Array MapEntry) (ks:List (List UInt8)):Prop:=es.toList.map (fun e=>(e.key,e.val))=ks.map fun k=>(Value.string ⟨k.toArray⟩,Value.bool true)
def gszL:List (Nat×Nat):=[(2,20)]
def gszF:List (Nat×Nat)→Nat→Option Nat
 |[],_=>none
 |(g,s)::r,k=>if k=g then some s else gszF r k
def GZ (w:World):Prop:=∀n s,n<G0→gszF gszL n=some s→∀c e f,w.heap[n]? =some (.cells c e f)→c.size=s
theorem GZ.of {w w':World} (h:GZ w) (hr:∀n,n<G0→∀c e f,w'.heap[n]? =some (.cells c e f)→∃c0 e0 f0,w.heap[n]? =some (.cells c0 e0 f0)∧c0.size=c.size):GZ w':=by
 intro n s hn hs c e f hc
 obtain⟨c0,e0,f0,h1,h2⟩:=hr n hn c e f hc
 rw[←h2]
 exact h n s hn hs c0 e0 f0 h1
structure Sim (β:Inj) (m:Mem) (w:World):Prop where
 lt:∀n p,n<m.size→β n=some p→p.cb<w.heap.size
 ro:∀n p,n<m.size→β n=some p→(m.blk n).mode= .ro→∀(i:Nat) a,(m.blk n).cells[i]? =some a→∃v,w.cell? ⟨p.cb,p.co+i,none⟩=some v∧VRel β a v
 rw:∀n p,n<m.size→β n=some p→(m.blk n).mode= .rw→∃(c:Array Value) (e:TypeId),w.heap[p.cb]? =some (.cells c e (0,0))∧c.size=p.cs∧p.co+(m.blk n).cells.length≤c.size∧
  ∀(i:Nat) a,(m.blk n).cells[i]? =some a→∃v,c[p.co+i]? =some v∧VRel β a v
 ex:∀n p n' p',n<m.size→n'<m.size→n≠n'→β n=some p→β n'=some p'→(m.blk n).mode.wr=true→(m.blk n').mode≠ .dead→p.cb≠p'.cb
 mp:∀n p ks,n<m.size→β n=some p→(m.blk n).mode= .mp ks→(m.blk n).cells=[]∧∃es clock,w.heap[p.cb]? =some (.map es clock)∧MapHas es ks
 gl:∀n,n<G0→n<m.size∧∃cs,β n=some ⟨n,0,cs,0⟩
 ct:∀n p,n<m.size→β n=some p→(m.blk n).mode= .rw→∃c,w.heap[p.cb]? =some (.cells c p.ct (0,0))
 gz:GZ w
theorem Sim.glt {β:Inj} {m:Mem} {w:World} (h:Sim β m w) {n:Nat} (hn:n<G0):n<w.heap.size:=by
 obtain⟨a,cs,b⟩:=h.gl n hn
 exact h.lt n _ a b
structure AStep (fl:Nat) (m m':Mem):Prop where
 size:m.size≤m'.size
 same:∀n,n<m.size→n<fl→m'.blk n=m.blk n
 mode:∀n,n<m.size→((m'.blk n).mode.wr=true→(m.blk n).mode.wr=true)∧((m.blk n).mode= .dead→(m'.blk n).mode= .dead)
theorem AStep.refl (fl:Nat) (m:Mem):AStep fl m m:=⟨Nat.le_refl _,fun _ _ _=>rfl,fun _ _=>⟨id,id⟩⟩
theorem AStep.trans {fl:Nat} {a b c:Mem} (h:AStep fl a b) (k:AStep fl b c):AStep fl a c:=
 ⟨Nat.le_trans h.size k.size,fun n hn hf=>(k.same n (Nat.lt_of_lt_of_le hn h.size) hf).trans (h.same n hn hf),fun n hn=>
  have h1:=h.mode n hn;have k1:=k.mode n (Nat.lt_of_lt_of_le hn h.size)
  ⟨fun e=>h1.1 (k1.1 e),fun e=>k1.2 (h1.2 e)⟩⟩
theorem AStep.mono {fl fl':Nat} {a b:Mem} (h:AStep fl a b) (hf:fl'≤fl):AStep fl' a b:=
 ⟨h.size,fun n hn hl=>h.same n hn (Nat.lt_of_lt_of_le hl hf),h.mode⟩
theorem AStep.of_size {fl:Nat} {a b:Mem} (h:AStep a.size a b):AStep fl a b:=
 ⟨h.size,fun n hn _=>h.same n hn hn,h.mode⟩
def MayWrite (fl:Nat) (β:Inj) (m:Mem) (k:Nat):Prop:=∃n p,fl≤n∧n<m.size∧β n=some p∧(m.blk n).mode.wr=true∧p.cb=k
structure Post (fl:Nat) (β:Inj) (m:Mem) (w:World) (m':Mem) (β':Inj) (w':World):Prop where
 sim:Sim β' m' w'
 ext:∀n,¬(m.size≤n∧n<m'.size)→β' n=β n
 nb:∀n p,m.size≤n→n<m'.size→β' n=some p→w.heap.size≤p.cb∨MayWrite fl β m p.cb
 fr:∀k,k<w.heap.size→¬MayWrite fl β m k→w'.heap[k]? =w.heap[k]?
 os:w'.os=w.os
 tape:w'.tape=w.tape
 output:w'.output=w.output
 size:w.heap.size≤w'.heap.size
def Free (β:Inj) (m m':Mem):Prop:=∀n,m.size≤n→n<m'.size→β n=none
theorem Post.le {fl:Nat} {β β':Inj} {m m':Mem} {w w':World} (h:Post fl β m w m' β' w') (hf:Free β m m'):β.le β':=by
 intro n p e
 by_cases hn:m.size≤n∧n<m'.size
 ·rw[hf n hn.1 hn.2]at e;cases e
 ·rw[h.ext n hn];exact e
theorem Post.refl {fl:Nat} {β:Inj} {m:Mem} {w:World} (h:Sim β m w):Post fl β m w m β w:=
 ⟨h,fun _ _=>rfl,fun n p h1 h2=>by omega,fun _ _ _=>rfl,rfl,rfl,rfl,Nat.le_refl _⟩
theorem Free.left {β:Inj} {a b c:Mem} (h:Free β a c) (k:b.size≤c.size):Free β a b:=fun n h1 h2=>h n h1 (by omega)
theorem Free.right {fl:Nat} {β β1:Inj} {a b c:Mem} {w w1:World} (h:Free β a c) (ab:a.size≤b.size) (p:Post fl β a w b β1 w1):Free β1 b c:=fun n h1 h2=>by
 rw[p.ext n (by omega)];exact h n (by omega) h2
theorem Post.trans {fl:Nat} {β β1 β2:Inj} {a b c:Mem} {w w1 w2:World} (sab:AStep fl a b) (sbc:AStep fl b c) (h:Post fl β a w b β1 w1) (k:Post fl β1 b w1 c β2 w2):Post fl β a w c β2 w2:=by
 have hab:=sab.size
 have hbc:=sbc.size
 have back:∀j,MayWrite fl β1 b j→w.heap.size≤j∨MayWrite fl β a j:=by
  rintro j ⟨n,p,h1,h2,h3,h4,h5⟩
  by_cases hn:n<a.size
  ·rw[h.ext n (by omega)]at h3
   exact .inr ⟨n,p,h1,hn,h3,(sab.mode n hn).1 h4,h5⟩
  ·rcases h.nb n p (by omega) h2 h3 with e|e
   ·exact .inl (h5▸e)
   ·exact .inr (h5▸e)
 refine⟨k.sim,fun n hn=> ?_,fun n p h1 h2 h3=> ?_,fun j hj hm=> ?_,k.os.trans h.os,k.tape.trans h.tape,k.output.trans h.output,Nat.le_trans h.size k.size⟩
 ·rw[k.ext n (by omega),h.ext n (by omega)]
 ·by_cases hn:n<b.size
  ·rw[k.ext n (by omega)]at h3
   exact h.nb n p h1 hn h3
  ·rcases k.nb n p (by omega) h2 h3 with e|e
   ·exact .inl (Nat.le_trans h.size e)
   ·exact back _ e
 ·rw[k.fr j (Nat.lt_of_lt_of_le hj h.size) (fun hw=> ?_)]
  ·exact h.fr j hj hm
  ·rcases back j hw with e|e
   ·omega
   ·exact hm e
theorem MayWrite.mono {fl fl':Nat} {β:Inj} {m:Mem} {k:Nat} (h:MayWrite fl β m k) (hf:fl'≤fl):MayWrite fl' β m k:=
 let ⟨n,p,h1,h2,h3⟩:=h;⟨n,p,Nat.le_trans hf h1,h2,h3⟩
theorem Post.mono {fl fl':Nat} {β β':Inj} {m m':Mem} {w w':World} (h:Post fl β m w m' β' w') (hf:fl'≤fl):Post fl' β m w m' β' w':=
 ⟨h.sim,h.ext,fun n p h1 h2 h3=>(h.nb n p h1 h2 h3).imp id (·.mono hf),fun k hk hm=>h.fr k hk fun hw=>hm (hw.mono hf),h.os,h.tape,h.output,h.size⟩
theorem not_mayWrite_size {β:Inj} {m:Mem} {k:Nat}:¬MayWrite m.size β m k:=by
 rintro⟨n,p,h1,h2,_⟩;omega
theorem Post.of_size {fl:Nat} {β β':Inj} {m m':Mem} {w w':World} (h:Post m.size β m w m' β' w'):Post fl β m w m' β' w':=
 ⟨h.sim,h.ext,fun n p h1 h2 h3=>(h.nb n p h1 h2 h3).imp id (fun x=>absurd x not_mayWrite_size),fun k hk _=>h.fr k hk not_mayWrite_size,h.os,h.tape,h.output,h.size⟩
theorem Post.below {β β':Inj} {m m':Mem} {w w':World} (h:Post m.size β m w m' β' w'):RowKit.Below w.heap.size w w':=
 ⟨h.os,h.tape,h.output,h.size,fun k hk=>h.fr k hk not_mayWrite_size⟩
end Go.Ab
namespace Go.Ab
open Go.RowKit
def upd (β:Inj) (n:Nat) (p:Place):Inj:=fun k=>if k=n then some p else β k
theorem le_upd {β:Inj} {n:Nat} {p:Place} (h:β n=none):β.le (upd β n p):=by
 intro k q e
 unfold upd
 by_cases hk:k=n
 ·subst hk;rw[h]at e;cases e
 ·rw[if_neg hk];exact e
theorem upd_same (β:Inj) (n:Nat) (p:Place):upd β n p n=some p:=by simp[upd]
theorem upd_other (β:Inj) {n k:Nat} (p:Place) (h:k≠n):upd β n p k=β k:=by simp[upd,h]
theorem heap_alloc_lt (w:World) (o:Obj) (k:Nat) (h:k<w.heap.size):(w.alloc o).heap[k]? =w.heap[k]? :=by
 show(w.heap.push o)[k]? =_
 rw[Array.getElem?_push,if_neg (by omega)]
theorem heap_alloc_eq (w:World) (o:Obj):(w.alloc o).heap[w.heap.size]? =some o:=by
 show(w.heap.push o)[w.heap.size]? =_
 simp
def CRel (β:Inj) (cs:List AVal) (c:Array Value):Prop:=cs.length≤c.size∧∀(i:Nat) a,cs[i]? =some a→∃v,c[i]? =some v∧VRel β a v
theorem LRel.toC {β:Inj} {cs:List AVal} {c:Array Value} (h:LRel β cs c):CRel β cs c:=⟨by rw[h.1];exact Nat.le_refl _,fun _ _ ha=>h.get ha⟩
theorem LRel.toC_append {β:Inj} {cs:List AVal} {c:Array Value} (h:LRel β cs c) (r:Array Value):CRel β cs (c++r):=by
 refine⟨by simp[h.1],fun i a ha=> ?_⟩
 obtain⟨v,hv,hr⟩:=h.get ha
 refine⟨v, ?_,hr⟩
 have:i<c.size:=by
  rcases Nat.lt_or_ge i c.size with h'|h'
  ·exact h'
  ·simp[Array.getElem?_eq_none h']at hv
 rw[Array.getElem?_append,if_pos this]
 exact hv
theorem post_alloc {fl:Nat} {β:Inj} {m:Mem} {w:World} (hs:Sim β m w) (hf:β m.size=none) {cs:List AVal} {c:Array Value} (t:TypeId) (hc:CRel β cs c):
  Post fl β m w (m.push cs) (upd β m.size ⟨w.heap.size,0,c.size,t⟩) (w.alloc (.cells c t)):=by
 have hle:=le_upd (p:=⟨w.heap.size,0,c.size,t⟩) hf
 refine⟨⟨fun n p hn hp=> ?_,fun n p hn hp hm i a ha=> ?_,fun n p hn hp hm=> ?_,fun n p n' p' hn hn' hne hp hp' hm hm'=> ?_,fun n p ks hn hp hm=> ?_,fun n hn=> ?_,fun n p hn hp hm=> ?_,hs.gz.of fun n hn c e f hc=>⟨c,e,f,by rw[heap_alloc_lt _ _ _ (hs.glt hn)]at hc;exact hc,rfl⟩⟩,fun n hn=> ?_,fun n p h1 h2 h3=> ?_,fun k hk _=>heap_alloc_lt _ _ _ hk,rfl,rfl,rfl,by simp⟩
 ·simp only[World.size_alloc]
  by_cases e:n=m.size
  ·subst e;rw[upd_same]at hp;simp at hp;subst hp;simp
  ·rw[upd_other _ _ e]at hp
   have:=hs.lt n p (by simp at hn;omega) hp
   omega
 ·by_cases e:n=m.size
  ·subst e;simp at hm
  ·rw[upd_other _ _ e]at hp
   simp only[Mem.blk_push,if_neg e]at hm ha
   have hn':n<m.size:=by simp at hn;omega
   obtain⟨v,h1,h2⟩:=hs.ro n p hn' hp hm i a ha
   exact⟨v,by rw[World.cell?_alloc_lt _ _ _ (hs.lt n p hn' hp)];exact h1,h2.mono hle⟩
 ·by_cases e:n=m.size
  ·subst e
   rw[upd_same]at hp
   simp at hp
   subst hp
   refine⟨c,t,heap_alloc_eq _ _,rfl,by simpa using hc.1,fun i a ha=> ?_⟩
   simp only[Mem.blk_push,if_true]at ha
   obtain⟨v,h1,h2⟩:=hc.2 i a ha
   exact⟨v,by simpa using h1,h2.mono hle⟩
  ·rw[upd_other _ _ e]at hp
   have hn':n<m.size:=by simp at hn;omega
   simp only[Mem.blk_push,if_neg e]at hm⊢
   obtain⟨c',e',h1,h2,h3,h4⟩:=hs.rw n p hn' hp hm
   refine⟨c',e', ?_,h2,h3,fun i a ha=> ?_⟩
   ·rw[heap_alloc_lt _ _ _ (hs.lt n p hn' hp)];exact h1
   ·obtain⟨v,g1,g2⟩:=h4 i a ha
    exact⟨v,g1,g2.mono hle⟩
 ·by_cases e:n=m.size
  ·subst e
   rw[upd_same]at hp
   simp at hp
   subst hp
   have e':n'≠m.size:=fun h=>hne h.symm
   rw[upd_other _ _ e']at hp'
   have:=hs.lt n' p' (by simp at hn';omega) hp'
   simp;omega
  ·rw[upd_other _ _ e]at hp
   have hlt:=hs.lt n p (by simp at hn;omega) hp
   by_cases e':n'=m.size
   ·subst e'
    rw[upd_same]at hp'
    simp at hp'
    subst hp'
    simp;omega
   ·rw[upd_other _ _ e']at hp'
    simp only[Mem.blk_push,if_neg e,if_neg e']at hm hm'
    exact hs.ex n p n' p' (by simp at hn;omega) (by simp at hn';omega) hne hp hp' hm hm'
 ·by_cases e:n=m.size
  ·subst e;simp at hm
  ·rw[upd_other _ _ e]at hp
   simp only[Mem.blk_push,if_neg e]at hm⊢
   have hn':n<m.size:=by simp at hn;omega
   obtain⟨q1,es,cl,q2,q3⟩:=hs.mp n p ks hn' hp hm
   exact⟨q1,es,cl,by rw[heap_alloc_lt _ _ _ (hs.lt n p hn' hp)];exact q2,q3⟩
 ·obtain⟨a,cs,b⟩:=hs.gl n hn
  exact⟨by simp;omega,cs,by rw[upd_other _ _ (by omega)];exact b⟩
 ·by_cases e:n=m.size
  ·subst e
   rw[upd_same]at hp
   simp at hp
   subst hp
   exact⟨c,heap_alloc_eq _ _⟩
  ·rw[upd_other _ _ e]at hp
   have hn':n<m.size:=by simp at hn;omega
   simp only[Mem.blk_push,if_neg e]at hm
   obtain⟨c',q2⟩:=hs.ct n p hn' hp hm
   exact⟨c',by rw[heap_alloc_lt _ _ _ (hs.lt n p hn' hp)];exact q2⟩
 ·rw[upd_other]
  intro e
  subst e
  simp at hn
 ·have:n=m.size:=by simp at h2;omega
  subst this
  rw[upd_same]at h3
  simp at h3
  subst h3
  exact .inl (Nat.le_refl _)
theorem astep_push (fl:Nat) (m:Mem) (cs:List AVal):AStep fl m (m.push cs):=
 ⟨by simp,fun n hn _=>by simp;omega,fun n hn=>by simp;rw[if_neg (by omega)];simp⟩
theorem Sim.cell {β:Inj} {m:Mem} {w:World} (hs:Sim β m w) {n:Nat} {p:Place} (hn:n<m.size) (hp:β n=some p) (hm:(m.blk n).mode≠ .dead) {i:Nat} {a:AVal} (ha:(m.blk n).cells[i]? =some a):
  ∃v,w.cell? ⟨p.cb,p.co+i,none⟩=some v∧VRel β a v:=by
 cases hmm:(m.blk n).mode with
 |dead=>exact absurd hmm hm
 |ro=>exact hs.ro n p hn hp hmm i a ha
 |mp ks=>rw[(hs.mp n p ks hn hp hmm).1]at ha;simp at ha
 |rw=>
  obtain⟨c,e,h1,_,_,h4⟩:=hs.rw n p hn hp hmm
  obtain⟨v,g1,g2⟩:=h4 i a ha
  exact⟨v,by simp[World.cell?,h1,g1],g2⟩
def ald (m:Mem) (n o:Nat):Option AVal:=if n<m.size∧(m.blk n).mode≠ .dead then(m.blk n).cells[o]? else none
def alds (m:Mem) (n o k:Nat):Option (List AVal):=if n<m.size∧(m.blk n).mode≠ .dead∧o+k≤(m.blk n).cells.length then some (((m.blk n).cells.drop o).take k)else none
def setCells:List AVal→Nat→List AVal→List AVal
 |cs,_,[]=>cs
 |cs,o,v::vs=>setCells (cs.set o v) (o+1) vs
def asts (fl:Nat) (m:Mem) (n o:Nat) (vs:List AVal):Option Mem:=
 if fl≤n∧n<m.size∧(m.blk n).mode= .rw∧o+vs.length≤(m.blk n).cells.length∧vs.all (·.one)=true then some (m.put n ⟨setCells (m.blk n).cells o vs, .rw⟩)else none
theorem setCells_length (vs:List AVal):∀(cs:List AVal) (o:Nat),(setCells cs o vs).length=cs.length:=by
 induction vs with
 |nil=>intro cs o;rfl
 |cons v vs ih=>intro cs o;rw[setCells,ih];simp
theorem astep_put {fl:Nat} {m:Mem} {n:Nat} {b:Blk} (hf:fl≤n) (hm:n<m.size→b.mode=(m.blk n).mode∨b.mode= .dead):AStep fl m (m.put n b):=by
 refine⟨by simp,fun k hk hl=>by simp;omega,fun k hk=> ?_⟩
 by_cases e:k=n
 ·subst e
  simp only[Mem.blk_put,if_true]
  rcases hm hk with h|h
  ·rw[h];exact⟨id,id⟩
  ·rw[h];exact⟨fun q=>by(cases q),fun _=>rfl⟩
 ·simp[e]
theorem astep_putB {fl:Nat} {m:Mem} {n:Nat} {b:Blk} (hf:fl≤n) (hm:(m.blk n).mode.wr=true):AStep fl m (m.put n b):=by
 refine⟨by simp,fun k hk hl=>by simp;omega,fun k hk=> ?_⟩
 by_cases e:k=n
 ·subst e
  simp only[Mem.blk_put,if_true]
  exact⟨fun _=>hm,fun q=>absurd q (wr_nd hm)⟩
 ·simp[e]
theorem VRel.one_cells {β:Inj} {x:AVal} {v:Value} (h:VRel β x v) (ho:x.one=true):v.cells= #[v]∧v.oneCell'=true:=by
 cases h<;>first|exact⟨rfl,rfl⟩|(simp[AVal.one]at ho)
theorem addr_add (a:Addr) (n:Nat) (h:a.spot=none):a.add n=⟨a.block,a.off+n,none⟩:=by
 unfold Addr.add
 split
 ·rename_i e;subst e;cases a;simp at h;subst h;rfl
 ·rfl
theorem post_set {fl:Nat} {β:Inj} {m:Mem} {w:World} (hs:Sim β m w) {n:Nat} {p:Place} (hf:fl≤n) (hn:n<m.size) (hp:β n=some p) (hm:(m.blk n).mode= .rw) {o:Nat} (ho:o<(m.blk n).cells.length)
  {x:AVal} {v:Value} (hx:VRel β x v):
  (∃u,w.cell? ⟨p.cb,p.co+o,none⟩=some u)∧w.frozen? ⟨p.cb,p.co+o,none⟩=false∧
  Post fl β m w (m.put n ⟨(m.blk n).cells.set o x, .rw⟩) β (w.setCell ⟨p.cb,p.co+o,none⟩ v):=by
 obtain⟨c,e,h1,h2,h3,h4⟩:=hs.rw n p hn hp hm
 have hsame:(w.setCell ⟨p.cb,p.co+o,none⟩ v).heap[p.cb]? =some (.cells (c.setIfInBounds (p.co+o) v) e (0,0)):=by
  simp[World.setCell,Array.getElem?_modify,h1]
 have hother:∀k,k≠p.cb→(w.setCell ⟨p.cb,p.co+o,none⟩ v).heap[k]? =w.heap[k]? :=by
  intro k hk
  simp only[World.setCell,Array.getElem?_modify]
  rw[if_neg (fun e=>hk e.symm)]
 refine⟨?_,by simp[World.frozen?,h1],⟨⟨fun n' p' hn' hp'=>by simpa using hs.lt n' p' (by simpa using hn') hp',fun n' p' hn' hp' hm' i a ha=> ?_,fun n' p' hn' hp' hm'=> ?_,fun n1 p1 n2 p2 g1 g2 g3 g4 g5 g6 g7=> ?_,fun n' p' ks hn' hp' hm'=> ?_,hs.gl,fun n' p' hn' hp' hm'=> ?_,hs.gz.of fun k _ c' e' f' hc'=>by
  by_cases hk:k=p.cb
  ·subst hk;rw[hsame]at hc';simp at hc';exact⟨c,e,(0,0),h1,by rw[←hc'.1];simp⟩
  ·rw[hother k hk]at hc';exact⟨_,_,_,hc',rfl⟩⟩,fun _ _=>rfl,fun n' p' q1 q2 _=>by simp at q2;omega,fun k hk hw=> ?_,rfl,rfl,rfl,by simp⟩⟩
 ·have:p.co+o<c.size:=by omega
  exact⟨c[p.co+o],by simp[World.cell?,h1,this]⟩
 ·have e':n'≠n:=by intro e';subst e';simp at hm'
  simp only[Mem.blk_put,if_neg e']at hm' ha
  obtain⟨u,k1,k2⟩:=hs.ro n' p' (by simpa using hn') hp' hm' i a ha
  have hne:p.cb≠p'.cb:=hs.ex n p n' p' hn (by simpa using hn') (fun q=>e' q.symm) hp hp' (wr_rw hm) (by rw[hm'];simp)
  refine⟨u, ?_,k2⟩
  rw[World.cell?_setCell_other _ _ _ _ (by intro q;simp at q;exact hne q.1)]
  exact k1
 ·by_cases e':n'=n
  ·subst e'
   rw[hp]at hp';simp at hp';subst hp'
   refine⟨_,e,hsame,by simpa using h2,by simpa using h3,fun i a ha=> ?_⟩
   simp only[Mem.blk_put,if_true,List.getElem?_set]at ha
   by_cases hi:o=i
   ·subst hi
    simp[ho]at ha
    subst ha
    exact⟨v,by simp[Array.getElem?_setIfInBounds];omega,hx⟩
   ·simp[hi]at ha
    obtain⟨u,k1,k2⟩:=h4 i a ha
    exact⟨u,by rw[Array.getElem?_setIfInBounds_ne (by omega)];exact k1,k2⟩
  ·simp only[Mem.blk_put,if_neg e']at hm'⊢
   obtain⟨c',f',k1,k2,k3,k4⟩:=hs.rw n' p' (by simpa using hn') hp' hm'
   have hne:p.cb≠p'.cb:=hs.ex n p n' p' hn (by simpa using hn') (fun q=>e' q.symm) hp hp' (wr_rw hm) (by rw[hm'];simp)
   exact⟨c',f',by rw[hother _ (fun q=>hne q.symm)];exact k1,k2,k3,k4⟩
 ·refine hs.ex n1 p1 n2 p2 (by simpa using g1) (by simpa using g2) g3 g4 g5 ?_ ?_
  ·by_cases e1:n1=n
   ·subst e1;exact wr_rw hm
   ·simpa[e1]using g6
  ·by_cases e1:n2=n
   ·subst e1;rw[hm];simp
   ·simpa[e1]using g7
 ·have e':n'≠n:=by intro e';subst e';simp at hm'
  simp only[Mem.blk_put,if_neg e']at hm'⊢
  obtain⟨q1,es,cl,q2,q3⟩:=hs.mp n' p' ks (by simpa using hn') hp' hm'
  have hne:p.cb≠p'.cb:=hs.ex n p n' p' hn (by simpa using hn') (fun q=>e' q.symm) hp hp' (wr_rw hm) (by rw[hm'];simp)
  exact⟨q1,es,cl,by rw[hother _ (fun q=>hne q.symm)];exact q2,q3⟩
 ·by_cases e':n'=n
  ·subst e'
   rw[hp]at hp';simp at hp';subst hp'
   obtain⟨c',q2⟩:=hs.ct n' p hn hp hm
   rw[h1]at q2
   simp at q2
   exact⟨_,q2.2▸hsame⟩
  ·simp only[Mem.blk_put,if_neg e']at hm'
   obtain⟨c',q2⟩:=hs.ct n' p' (by simpa using hn') hp' hm'
   have hne:p.cb≠p'.cb:=hs.ex n p n' p' hn (by simpa using hn') (fun q=>e' q.symm) hp hp' (wr_rw hm) (by rw[hm'];simp)
   exact⟨c',by rw[hother _ (fun q=>hne q.symm)];exact q2⟩
 ·exact hother k (fun q=>hw ⟨n,p,hf,hn,hp,wr_rw hm,q.symm⟩)
theorem post_sts {P:Program} {fl:Nat}:∀(vs:List AVal) (us:List Value) {β:Inj} {m:Mem} {w:World} (_:Sim β m w) {n:Nat} {p:Place} (_:fl≤n) (_:n<m.size) (_:β n=some p) (_:(m.blk n).mode= .rw) {o:Nat}
  (_:o+vs.length≤(m.blk n).cells.length) (_:vs.all (·.one)=true) (_:LRel β vs us.toArray) (a0:Addr) (i0:Nat) (_:a0.spot=none) (_:a0.block=p.cb) (_:a0.off+i0=p.co+o),
  ∃w',(storeCells a0 us i0).run P w= .ok () w'∧Post fl β m w (m.put n ⟨setCells (m.blk n).cells o vs, .rw⟩) β w':=by
 intro vs
 induction vs with
 |nil=>
  intro us β m w hs n p hf hn hp hm o _ _ hl a0 i0 _ _ _
  have:us=[]:=by
   have:=hl.1
   simp at this
   exact List.length_eq_zero_iff.1 this.symm
  subst this
  refine⟨w,rfl, ?_⟩
  have:m.put n ⟨setCells (m.blk n).cells o [], .rw⟩=m:=by
   cases m with
   |mk s b=>
    simp only[Mem.put,setCells]
    congr 1
    funext k
    by_cases e:k=n
    ·subst e
     rw[if_pos rfl]
     have:(b k).mode= .rw:=hm
     cases hb:b k
     rw[hb]at this
     simp_all
    ·rw[if_neg e]
  rw[this]
  exact Post.refl hs
 |cons x vs ih=>
  intro us β m w hs n p hf hn hp hm o hlen hone hl a0 i0 hsp hbl hoff
  match us,hl with
  |[],hl=>have:=hl.1;simp at this
  |u::us,hl=>
   simp only[List.all_cons,Bool.and_eq_true]at hone
   have hxu:VRel β x u:=hl.2 0 x u (by simp) (by simp)
   have hrest:LRel β vs us.toArray:=⟨by have:=hl.1;simpa using this,fun i a v h1 h2=>hl.2 (i+1) a v (by simpa using h1) (by simpa using h2)⟩
   have hlt:o<(m.blk n).cells.length:=by simp at hlen;omega
   obtain⟨⟨q,hq⟩,hfz,hpost⟩:=post_set (fl:=fl) hs hf hn hp hm hlt hxu
   have haddr:a0.add i0=⟨p.cb,p.co+o,none⟩:=by rw[addr_add _ _ hsp,hbl,hoff]
   obtain⟨w',hrun,hpost'⟩:=ih us hpost.sim (n:=n) (p:=p) (o:=o+1) hf (by simpa using hn) hp (by simp) (by simp at hlen⊢;omega) hone.2 hrest a0 (i0+1) hsp hbl (by omega)
   refine⟨w', ?_, ?_⟩
   ·unfold storeCells
    rw[Sem.run_bind,run_store P w _ u _ (hxu.one_cells hone.1).2,haddr,hq]
    simp only[hfz,Bool.false_eq_true,if_false,Result.andThen_ok]
    exact hrun
   ·have st1:AStep fl m (m.put n ⟨(m.blk n).cells.set o x, .rw⟩):=astep_put hf (fun _=> .inl hm.symm)
    have st2:AStep fl (m.put n ⟨(m.blk n).cells.set o x, .rw⟩) ((m.put n ⟨(m.blk n).cells.set o x, .rw⟩).put n ⟨setCells ((m.put n ⟨(m.blk n).cells.set o x, .rw⟩).blk n).cells (o+1) vs, .rw⟩):=astep_put hf (fun _=> .inl (by simp))
    have:=Post.trans st1 st2 hpost hpost'
    have e:(m.put n ⟨(m.blk n).cells.set o x, .rw⟩).put n ⟨setCells ((m.put n ⟨(m.blk n).cells.set o x, .rw⟩).blk n).cells (o+1) vs, .rw⟩=m.put n ⟨setCells (m.blk n).cells o (x::vs), .rw⟩:=by
     unfold Mem.put
     simp only[setCells,if_true,Mem.mk.injEq,true_and]
     funext k
     by_cases e:k=n<;>simp[e]
    rw[e]at this
    exact this
theorem loads_from {P:Program} {β:Inj} {w:World} (a0:Addr) (hsp:a0.spot=none):∀(vs:List AVal) (i0:Nat) (acc:Array Value),
  (∀(j:Nat) x,vs[j]? =some x→∃v,w.cell? ⟨a0.block,a0.off+i0+j,none⟩=some v∧VRel β x v)→
  ∃us:Array Value,(loadCellsFrom a0 i0 vs.length acc).run P w= .ok (acc++us) w∧LRel β vs us:=by
 intro vs
 induction vs with
 |nil=>intro i0 acc _;exact⟨#[],by simp[loadCellsFrom],LRel.nil β⟩
 |cons x vs ih=>
  intro i0 acc h
  obtain⟨v,hv,hr⟩:=h 0 x (by simp)
  obtain⟨us,hrun,hl⟩:=ih (i0+1) (acc.push v) (fun j y hy=>by
   have:=h (j+1) y (by simpa using hy)
   rw[show a0.off+(i0+1)+j=a0.off+i0+(j+1) by omega];exact this)
  refine⟨#[v]++us, ?_, ?_⟩
  ·unfold loadCellsFrom
   simp only[List.length_cons,Sem.run_bind,run_load,addr_add _ _ hsp]
   simp only[Nat.add_zero]at hv
   rw[hv]
   simp only[Result.andThen_ok]
   rw[hrun]
   simp
  ·have h1:LRel β [x] #[v]:=⟨rfl,fun i a u h1 h2=>by
    cases i with
    |zero=>simp at h1 h2;subst h1;subst h2;exact hr
    |succ i=>simp at h1⟩
   exact h1.append hl
theorem loads_cells {P:Program} {β:Inj} {m:Mem} {w:World} (hs:Sim β m w) {n o k:Nat} {p:Place} (hp:β n=some p) {vs:List AVal} (h:alds m n o k=some vs):
  ∃us,(loadCells ⟨p.cb,p.co+o,none⟩ k).run P w= .ok us w∧LRel β vs us:=by
 unfold alds at h
 split at h
 ·rename_i hc
  obtain⟨h1,h2,h3⟩:=hc
  simp at h
  have hl:vs.length=k:=by rw[←h];simp;omega
  obtain⟨us,hrun,hr⟩:=loads_from (P:=P) (β:=β) (w:=w) ⟨p.cb,p.co+o,none⟩ rfl vs 0 #[] (fun j x hx=>by
   rw[←h,List.getElem?_take]at hx
   split at hx
   ·rw[List.getElem?_drop]at hx
    obtain⟨v,g1,g2⟩:=hs.cell h1 hp h2 hx
    exact⟨v,by simpa[Nat.add_assoc]using g1,g2⟩
   ·cases hx)
  refine⟨us, ?_,hr⟩
  unfold loadCells
  rw[hl]at hrun
  simpa using hrun
 ·cases h
end Go.Ab
namespace Go.Ab
open Go.RowKit
section types
variable (P:Program)
def tSize (t:TypeId):Option Nat:=(P.info? t).map (·.size)
def tBytes (t:TypeId):Option Nat:=(P.info? t).map (·.bytes)
def isAggD:TypeDesc→Bool
 | .struct _| .array _ _=>true
 |_=>false
def tAgg (t:TypeId):Option Bool:=(P.underlying t).map isAggD
def ofScal:Value→AVal
 | .bool b=> .bool b
 | .int k n=> .int k n
 | .string s=> .str s
 | .pointer none=> .ptr none
 | .slice none 0 0=> .nilSl
 | .map none=> .map none
 | .nilFunc=> .nilFn
 | .nilIface=> .nilIfc
 | .func (.func f) ⟨[]⟩ ⟨[]⟩=> .fn f [] []
 |_=> .any
def ofVal:Value→AVal
 | .agg cs=> .agg (cs.toList.map ofScal)
 | .tuple cs=> .tup (cs.toList.map ofScal)
 |v=>ofScal v
def tZero (t:TypeId):Option (List AVal):=(P.info? t).bind fun i=>i.zero.map fun v=>v.cells.toList.map ofScal
def tElem (t:TypeId):Option TypeId:=
 match P.underlying t with
 |some (.slice e)=>some e
 |_=>none
def tArr (t:TypeId):Option (Nat×TypeId):=
 match P.underlying t with
 |some (.array n e)=>some (n,e)
 |_=>none
def tField (s:TypeId) (f:Nat):Option (Nat×TypeId):=
 match P.underlying s with
 |some (.struct fs)=>(fs[f]?).map fun x=>(x.offset,x.type)
 |_=>none
def tFields (s:TypeId):Option (List (Nat×Nat)):=
 match P.underlying s with
 |some (.struct fs)=>fs.toList.mapM fun x=>(tSize P x.type).map fun z=>(x.offset,z)
 |_=>none
inductive Kd where
 |bool|int (k:IntKind)|string|slice|map|iface|other
 deriving DecidableEq
def kdOf:TypeDesc→Kd
 | .bool=> .bool
 | .int k=> .int k
 | .string=> .string
 | .slice _=> .slice
 | .map _ _=> .map
 | .interface _=> .iface
 |_=> .other
def tKd (t:TypeId):Option Kd:=(P.underlying t).map kdOf
end types
theorem ofScal_rel (β:Inj) (v:Value):VRel β (ofScal v) v:=by
 unfold ofScal
 split
 ·exact .bool _
 ·exact .int _ _
 ·exact .str _
 ·exact .nilPtr
 ·exact .nilSl
 ·exact .nilMap
 ·exact .nilFn
 ·exact .nilIfc
 ·rename_i f
  exact .fn f [] [] #[] #[] rfl rfl (fun i a v h=>by simp at h) (fun i a v h=>by simp at h)
 ·exact .any _
theorem ofScals_rel (β:Inj) (cs:Array Value):LRel β (cs.toList.map ofScal) cs:=by
 refine⟨by simp,fun i a v h1 h2=> ?_⟩
 rw[List.getElem?_map]at h1
 have:cs.toList[i]? =some v:=by simpa using h2
 rw[this]at h1
 simp at h1
 subst h1
 exact ofScal_rel β v
theorem ofVal_rel (β:Inj) (v:Value):VRel β (ofVal v) v:=by
 unfold ofVal
 split
 ·rename_i cs
  exact .agg _ _ (ofScals_rel β cs).1 (ofScals_rel β cs).2
 ·rename_i cs
  exact .tup _ _ (ofScals_rel β cs).1 (ofScals_rel β cs).2
 ·exact ofScal_rel β v
abbrev Frm:=Nat→AVal
def aev (n:Nat) (ts:Frm):Operand→AVal
 | .tmp t=>if t<n then ts t else .any
 | .const v=>ofVal v
 | .global g=>if g<G0 then .ptr (some (g,0))else .any
 | .func f=> .fn f [] []
def fset (ts:Frm) (d:Nat) (v:AVal):Frm:=fun i=>if i=d then v else ts i
theorem fset_app (ts:Frm) (d:Nat) (v:AVal) (i:Nat):fset ts d v i=if i=d then v else ts i:=rfl
theorem fset_b (ts:Frm) (d:Nat) (v:AVal) (i:Nat):fset ts d v i=bif i==d then v else ts i:=by
 unfold fset
 by_cases h:i=d
 ·subst h;simp
 ·have e:(i==d)=false:=by simpa using h
  rw[if_neg h,e];rfl
def fargs (args:List AVal):Frm:=fun i=>args.getD i aundef
def FRel (β:Inj) (n:Nat) (ts:Frm) (us:Array Value):Prop:=n≤us.size∧∀(i:Nat) v,us[i]? =some v→VRel β (ts i) v
theorem FRel.mono {β β':Inj} (h:β.le β') {n:Nat} {ts:Frm} {us:Array Value} (r:FRel β n ts us):FRel β' n ts us:=⟨r.1,fun i v e=>(r.2 i v e).mono h⟩
theorem FRel.set {β:Inj} {n:Nat} {ts:Frm} {us:Array Value} (r:FRel β n ts us) (d:Nat) {a:AVal} {v:Value} (h:VRel β a v):FRel β n (fset ts d a) (us.setIfInBounds d v):=by
 refine⟨by simpa using r.1,fun i u hu=> ?_⟩
 rw[Array.getElem?_setIfInBounds]at hu
 unfold fset
 by_cases e:d=i
 ·subst e
  rw[if_pos rfl]at hu⊢
  split at hu
  ·simp at hu;subst hu;exact h
  ·cases hu
 ·rw[if_neg e]at hu
  rw[if_neg (fun h=>e h.symm)]
  exact r.2 i u hu
theorem aundef_rel (β:Inj):VRel β aundef undef:= .tup [] #[] rfl (fun i a v h=>by simp at h)
def GlB (β:Inj):Prop:=∀n,n<G0→∃cs,β n=some ⟨n,0,cs,0⟩
theorem Sim.glb {β:Inj} {m:Mem} {w:World} (h:Sim β m w):GlB β:=fun n hn=>(h.gl n hn).2
theorem aev_rel {β:Inj} (hg:GlB β) {n:Nat} {ts:Frm} {a:Act} (hn:n≤a.tmps.size) (x:Operand) (h:∀t v,x= .tmp t→a.tmps[t]? =some v→VRel β (ts t) v):VRel β (aev n ts x) (a.eval x):=by
 cases x with
 |tmp t=>
  simp only[aev,Act.eval]
  by_cases ht:t<n
  ·have hlt:t<a.tmps.size:=Nat.lt_of_lt_of_le ht hn
   have h2:a.tmps[t]? =some (a.tmps[t]'hlt):=Array.getElem?_eq_getElem hlt
   rw[if_pos ht]
   simp only[Array.getD_eq_getD_getElem?,h2,Option.getD_some]
   exact h t _ rfl h2
  ·rw[if_neg ht]
   exact .any _
 |const v=>exact ofVal_rel β v
 |global g=>
  simp only[aev,Act.eval]
  split
  ·rename_i h1
   obtain⟨cs,h2⟩:=hg g h1
   exact .ptr g 0 _ h2
  ·exact .any _
 |func f=>exact .fn f [] [] #[] #[] rfl rfl (fun i a v h=>by simp at h) (fun i a v h=>by simp at h)
theorem FRel.aev {β:Inj} (hg:GlB β) {n:Nat} {ts:Frm} {a:Act} (h:FRel β n ts a.tmps) (x:Operand):VRel β (Ab.aev n ts x) (a.eval x):=aev_rel hg h.1 x fun t v _ e=>h.2 t v e
def AVal.fits (v:AVal) (k:Nat):Bool:=
 match v with
 | .any| .tup _=>false
 | .agg cs=>cs.length==k
 |_=>k==1
theorem VRel.cells {β:Inj} {x:AVal} {v:Value} (h:VRel β x v) {k:Nat} (hf:x.fits k=true):LRel β x.cells v.cells∧x.cells.length=k:=by
 cases h with
 |any v=>simp[AVal.fits]at hf
 |agg xs us h1 r1=>exact⟨⟨h1,r1⟩,by simpa[AVal.fits,AVal.cells]using hf⟩
 |tup xs us h1 r1=>simp[AVal.fits]at hf
 |_=>
  refine⟨⟨rfl,fun i a v h1 h2=> ?_⟩,by simp[AVal.fits]at hf;simp[AVal.cells,hf]⟩
  cases i with
  |zero=>
   simp[AVal.cells,Value.cells]at h1 h2
   subst h1;subst h2
   constructor<;>assumption
  |succ i=>simp[AVal.cells]at h1
def afill (place:Nat→Option (Nat×Nat)):List AVal→List (Nat×AVal)→Option (List AVal)
 |cs,[]=>some cs
 |cs,(i,v)::rest=>
  match place i with
  |none=>none
  |some (off,size)=>if v.fits size=true∧off+size≤cs.length then afill place (setCells cs off v.cells) rest else none
def intVal:AVal→Option Int
 | .int _ n=>some n
 |_=>none
def intFld (P:Program) (f:Field) (o:Nat):Bool:=f.name != "_" &&f.offset==o&&(match P.underlying f.type with
 |some (.int .i64)=>true
 |_=>false)
def intF3 (P:Program) (t:TypeId):Bool:=
 match P.underlying t with
 |some (.struct ⟨[f,g,h]⟩)=>intFld P f 0&&intFld P g 1&&intFld P h 2&& !P.stoodInHeld t&& !P.eqGuardType P.depth t
 |_=>false
def abin (P:Program) (op:BinOp) (t:TypeId) (x y:AVal):Option AVal:=
 match x,y with
 | .int k a, .int k' b=>
  if k=k' then
   match op with
   | .add=>some (.int k (k.wrap (a+b)))
   | .sub=>some (.int k (k.wrap (a-b)))
   | .mul=>some (.int k (k.wrap (a*b)))
   | .quo=>if b=0 then none else some (.int k (k.wrap (a.tdiv b)))
   | .rem=>if b=0 then none else some (.int k (a.tmod b))
   | .xor=>some (.int k (k.wrap (BitVec.ofInt k.bits a^^^BitVec.ofInt k.bits b).toNat))
   | .and=>some (.int k (k.wrap (BitVec.ofInt k.bits a&&&BitVec.ofInt k.bits b).toNat))
   | .shr=>if b<0 then none else some (.int k (a.fdiv (2^min b.toNat k.bits)))
   | .eql=>some (.bool (a==b))
   | .neq=>some (.bool (a !=b))
   | .lss=>some (.bool (a<b))
   | .leq=>some (.bool (a≤b))
   | .gtr=>some (.bool (a>b))
   | .geq=>some (.bool (a≥b))
   |_=>none
  else none
 | .str a, .str b=>
  match op with
  | .add=>if a.size+b.size≤2^62 then some (.str (a++b))else none
  | .eql=>some (.bool (a.toList==b.toList))
  | .neq=>some (.bool (!(a.toList==b.toList)))
  | .lss=>some (.bool (Op.bytesLess a.toList b.toList))
  | .geq=>some (.bool (!(Op.bytesLess a.toList b.toList)))
  |_=>none
 | .bool a, .bool b=>
  if tKd P t=some .bool then
   match op with
   | .eql=>some (.bool (a==b))
   | .neq=>some (.bool (!(a==b)))
   |_=>none
  else none
 | .agg [.int .i64 a1, .int .i64 a2, .int .i64 a3], .agg [.int .i64 b1, .int .i64 b2, .int .i64 b3]=>
  if intF3 P t=true then(match op with
   | .eql=>some (.bool (a1==b1&&(a2==b2&&a3==b3)))
   | .neq=>some (.bool (!(a1==b1&&(a2==b2&&a3==b3))))
   |_=>none)else none
 | .nilSl, .nilSl=>
  if tKd P t=some .slice then(match op with| .eql=>some (.bool true)| .neq=>some (.bool false)|_=>none)else none
 | .emptySl, .nilSl| .sl .., .nilSl=>
  if tKd P t=some .slice then(match op with| .eql=>some (.bool false)| .neq=>some (.bool true)|_=>none)else none
 |_,_=>none
def isNilC:Operand→Bool
 | .const .nilIface=>true
 |_=>false
def abinY (P:Program) (op:BinOp) (t:TypeId) (x:AVal) (y:Operand) (yv:AVal):Option AVal:=
 match isNilC y with
 |false=>abin P op t x yv
 |true=>match tKd P t,x,yv,op with
  |some .iface, .nilIfc, .nilIfc, .eql=>some (.bool true)
  |some .iface, .nilIfc, .nilIfc, .neq=>some (.bool false)
  |some .iface, .ifc _ _, .nilIfc, .eql=>some (.bool false)
  |some .iface, .ifc _ _, .nilIfc, .neq=>some (.bool true)
  |_,_,_,_=>none
def addCells (m:Mem) (es:Nat):AVal→Option (Nat×List AVal)
 | .nilSl| .emptySl=>some (0,[])
 | .sl n o len _ es'=>if es'=es then(if len=0 then some (0,[])else(alds m n o (len*es)).map fun cs=>(len,cs))else none
 |_=>none
def aappend (P:Program) (fl:Nat) (m:Mem) (t tx:TypeId) (s x:AVal):Option (AVal×Mem):=
 match tElem P t,decide (tx=t)with
 |some e,true=>
  match tSize P e,tBytes P e,tZero P e with
  |some es,some by_,some z=>
   if by_≤1024∧z.length=es then
    match addCells m es x with
    |some (k,new)=>
     if k=0 then
      match s with
      | .nilSl=>some (.nilSl,m)
      | .emptySl=>some (.emptySl,m)
      | .sl n o len cap es'=>some (.sl n o len cap es',m)
      |_=>none
     else
      match s with
      | .nilSl=>if k≤2^36 then some (.sl m.size 0 k none es,m.push new)else none
      | .sl n o len cap es'=>
       if es'=es∧len+k≤2^36 then
        match alds m n o (len*es)with
        |some old=>
         if cap.any (·<len+k)=true then some (.sl m.size 0 (len+k) none es,m.push (old++new))
         else if fl≤n∧(m.blk n).mode= .rw∧o+len*es=(m.blk n).cells.length∧new.all (·.one)=true then some (.sl m.size 0 (len+k) none es,(m.push (old++new)).kill n)
         else none
        |none=>none
       else none
      |_=>none
    |none=>none
   else none
  |_,_,_=>none
 |_,_=>none
def bytesA (s:ByteArray):List AVal:=s.data.toList.map fun b=> .int .u8 b.toNat
def asapp (P:Program) (fl:Nat) (m:Mem) (t tx:TypeId) (s x:AVal):Option (AVal×Mem):=
 match x with
 | .str q=>
  if tElem P t=some byT∧tKd P tx=some .string∧tSize P byT=some 1∧tBytes P byT=some 1∧(tZero P byT).map (·.length)=some 1 then
   match s with
   | .nilSl=>if q.size=0 then some (.nilSl,m)else if q.size≤2^36 then some (.sb m.size q.size,m.push (bytesA q))else none
   | .sb n len=>if q.size=0 then some (.sb n len,m)else
    if len+q.size≤2^36∧fl≤n∧n<m.size∧(m.blk n).mode= .rw∧(m.blk n).cells.length=len then some (.sb m.size (len+q.size),(m.push ((m.blk n).cells++bytesA q)).kill n)else none
   |_=>none
  else none
 |_=>none
def oint (a:Option AVal) (d:Int):Option Int:=
 match a with
 |some v=>intVal v
 |none=>some d
def aslice (P:Program) (t:TypeId) (x:AVal) (lo hi mx:Option AVal):Option AVal:=
 match tKd P t,x with
 |some .string, .str s=>
  match mx,oint hi s.size,oint lo 0 with
  |none,some h,some l=>if 0≤l∧l≤h∧h≤s.size then some (.str (s.extract l.toNat h.toNat))else none
  |_,_,_=>none
 |some .slice, .sl n o len cap es=>
  if(tElem P t).bind (tSize P)=some es then
   match oint hi len,oint lo 0 with
   |some h,some l=>
    if 0≤l∧l≤h∧h≤len then
     match mx with
     |none=>some (.sl n (o+l.toNat*es) (h.toNat-l.toNat) (cap.map (·-l.toNat)) es)
     |some v=>
      match intVal v,hi with
      |some q,some _=>if h≤q∧q≤len then some (.sl n (o+l.toNat*es) (h.toNat-l.toNat) (some (q.toNat-l.toNat)) es)else none
      |_,_=>none
    else none
   |_,_=>none
  else none
 |some .slice, .nilSl=>
  match(tElem P t).bind (tSize P),mx,oint hi 0,oint lo 0 with
  |some _,none,some 0,some 0=>some .nilSl
  |some _,some q,some 0,some 0=>if intVal q=some 0∧hi.isSome=true then some .nilSl else none
  |_,_,_,_=>none
 |some .slice, .emptySl=>
  match(tElem P t).bind (tSize P),mx,oint hi 0,oint lo 0 with
  |some _,none,some 0,some 0=>some .emptySl
  |_,_,_,_=>none
 |_,_=>none
def abytes:List AVal→Option (List UInt8)
 |[]=>some []
 | .int .u8 n::r=>(abytes r).map (UInt8.ofNat n.toNat::·)
 |_=>none
def aconvert (P:Program) (m:Mem) (src dst:TypeId) (x:AVal):Option AVal:=
 match x,tKd P src,tKd P dst with
 | .int _ n,some _,some (.int k)=>some (.int k (k.wrap n))
 | .str s,some .string,some .string=>some (.str s)
 | .sl n o len _ 1,some .slice,some .string=>
  if(tElem P src).bind (tKd P)=some (.int .u8)then((alds m n o len).bind abytes).map fun l=> .str ⟨l.toArray⟩else none
 |_,_,_=>none
def aload (P:Program) (m:Mem) (t:TypeId) (a:AVal):Option AVal:=
 match a with
 | .ptr (some (n,o))=>match tAgg P t,tSize P t with
  |some true,some k=>(alds m n o k).map .agg
  |some false,_=>ald m n o
  |_,_=>none
 |_=>none
def astore (P:Program) (fl:Nat) (m:Mem) (t:TypeId) (a x:AVal):Option Mem:=
 match a with
 | .ptr (some (n,o))=>match tSize P t with
  |some k=>if x.fits k=true then asts fl m n o x.cells else none
  |none=>none
 |_=>none
def aindexAddr (P:Program) (t:TypeId) (x i:AVal):Option AVal:=
 match x,intVal i with
 | .sl n o len _ es,some i=>if 0≤i∧i<len∧(tElem P t).bind (tSize P)=some es then some (.ptr (some (n,o+i.toNat*es)))else none
 | .ptr (some (n,o)),some i=>match tArr P t with
  |some (len,e)=>match tSize P e with
   |some sz=>if 0≤i∧i<len then some (.ptr (some (n,o+i.toNat*sz)))else none
   |none=>none
  |none=>none
 |_,_=>none
def alen (P:Program) (t:TypeId) (x:AVal):Option AVal:=
 match tKd P t,x with
 |some .slice, .sl _ _ len _ _=>some (.int .i64 len)
 |some .slice, .nilSl=>some (.int .i64 0)
 |some .slice, .emptySl=>some (.int .i64 0)
 |some .slice, .sb _ len=>some (.int .i64 len)
 |some .string, .str s=>some (.int .i64 s.size)
 |_,_=>none
def afieldAddr (P:Program) (s:TypeId) (x:AVal) (f:Nat):Option AVal:=
 match x,tField P s f with
 | .ptr (some (n,o)),some (off,ft)=>match tSize P ft with|some (_+1)=>some (.ptr (some (n,o+off)))|_=>none
 |_,_=>none
def amake (P:Program) (m:Mem) (t:TypeId) (l c:AVal):Option (AVal×Mem):=
 match tElem P t,l,c with
 |some e, .int _ l, .int _ c=>match tSize P e,tBytes P e,tZero P e with
  |some es,some by_,some z=>if by_≤1024∧0<es∧z.length=es∧0≤l∧l≤c∧c≤2^36 then some (.sl m.size 0 l.toNat (some c.toNat) es,m.push (List.replicate c.toNat z).flatten)else none
  |_,_,_=>none
 |_,_,_=>none
def acopy (P:Program) (fl:Nat) (m:Mem) (t:TypeId) (d s:AVal):Option (AVal×Mem):=
 match(tElem P t).bind (tSize P),d,s with
 |some 1, .sl n o len _ 1, .sl n' o' len' _ 1=>
  match Nat.min len' len with
  |0=>some (.int .i64 0,m)
  |k+1=>match alds m n' o' (k+1)with
   |some cs=>(asts fl m n o cs).map fun m'=>(.int .i64 ((k+1:Nat):Int),m')
   |none=>none
 |_,_,_=>none
def azap (P:Program) (m:Mem) (t tx:TypeId) (s x:AVal):Option (AVal×Mem):=
 match tElem P t,tKd P tx,s,x with
 |some e,some (.int .i64), .nilSl, .int .i64 n=>match tSize P e,tBytes P e,tZero P e with
  |some 1,some by_,some [z]=>if by_≤1024∧0<n∧n≤2^36 then some (.sl m.size 0 n.toNat none 1,m.push (List.replicate n.toNat z))else none
  |_,_,_=>none
 |_,_,_,_=>none
def abuiltin (P:Program) (ρ:Operand→AVal) (m:Mem) (fl:Nat) (c:Call):Option (AVal×Mem):=
 match c.callee,c.args,c.argTypes with
 | .builtin .len,⟨[x]⟩,⟨[t]⟩=>(alen P t (ρ x)).map fun v=>(v,m)
 | .builtin .append,⟨[s,x]⟩,⟨[t,tx]⟩=>match aappend P fl m t tx (ρ s) (ρ x)with
  |some r=>some r
  |none=>match azap P m t tx (ρ s) (ρ x)with
   |some r=>some r
   |none=>asapp P fl m t tx (ρ s) (ρ x)
 | .builtin .copy,⟨[d,s]⟩,⟨[t,_]⟩=>acopy P fl m t (ρ d) (ρ s)
 | .builtin .cap,⟨[x]⟩,⟨[t]⟩=>match tKd P t,ρ x with
  |some .slice, .nilSl=>some (.int .i64 0,m)
  |_,_=>none
 |_,_,_=>none
def tMapB (P:Program) (t:TypeId):Bool:=
 match P.underlying t with
 |some (.map k e)=>(match P.underlying k with|some .string=>true|_=>false)&&(match(P.info? e).bind (·.zero)with|some (.bool false)=>true|_=>false)
 |_=>false
def addKey (ks:List (List UInt8)) (s:List UInt8):List (List UInt8):=if s∈ks then ks else ks++[s]
def aset (P:Program) (m:Mem) (fl:Nat) (t:TypeId) (x k v:AVal):Option (AVal×Mem):=
 match x,k,v with
 | .map (some n), .str s, .bool true=>if tMapB P t=true∧fl≤n∧n<m.size then(match(m.blk n).mode with
  | .mp ks=>some (aundef,m.put n ⟨[], .mp (addKey ks s.data.toList)⟩)
  |_=>none)else none
 |_,_,_=>none
def aask (P:Program) (m:Mem) (t:TypeId) (x k:AVal):Option AVal:=
 match x,k with
 | .map (some n), .str s=>if tMapB P t=true∧n<m.size then(match(m.blk n).mode with
  | .mp ks=>some (.bool (ks.contains s.data.toList))
  |_=>none)else none
 |_,_=>none
def slfTs:List (Nat×Nat):=[(75,11)]
def slfO:List (Nat×Nat)→Nat→Option Nat
 |[],_=>none
 |(t,o)::r,u=>bif Nat.beq u t then some o else slfO r u
def slfC (n:Nat) (t:TypeId) (z:List AVal):List AVal:=
 match slfO slfTs t with
 |some o=>match z[o]?,z[o+1]? with
  |some (.ptr none),some .nilSl=>z.set o (.slf n o t)
  |_,_=>z
 |none=>z
def aop (P:Program) (ρ:Operand→AVal) (m:Mem) (fl:Nat):Op→Option (AVal×Mem)
 | .move x| .assign x=>some (ρ x,m)
 | .pick c a b=>match ρ c with| .bool t=>some (if t then ρ a else ρ b,m)|_=>none
 | .alloc t=>match tZero P t with|some z=>some (.ptr (some (m.size,0)),m.push (slfC m.size t z))|none=>none
 | .box t x=>if(ρ x).fits (ρ x).cells.length=true then some (.ptr (some (m.size,0)),m.push (slfC m.size t (ρ x).cells))else none
 | .build t parts=>
  match tFields P t,tZero P t with
  |some fs,some z=>(afill (fs[·]?) z (parts.toList.map fun p=>(p.1,ρ p.2))).map fun cs=>(.agg cs,m)
  |_,_=>none
 | .buildSlice t len parts=>
  match tElem P t with
  |some e=>match tSize P e,tZero P e with
   |some es,some z=>
    if z.length=es∧len*es≤2^24 then
     (afill (fun i=>some (i*es,es)) (List.replicate len z).flatten (parts.toList.map fun p=>(p.1,ρ p.2))).map fun cs=>(.sl m.size 0 len (some len) es,m.push cs)
    else none
   |_,_=>none
  |none=>none
 | .load t a=>(aload P m t (ρ a)).map fun v=>(v,m)
 | .store t a x=>(astore P fl m t (ρ a) (ρ x)).map fun m'=>(aundef,m')
 | .nilCheck x=>match ρ x with| .ptr (some a)=>some (.ptr (some a),m)| .fn f a b=>some (.fn f a b,m)|_=>none
 | .binOp op t x y _=>(abinY P op t (ρ x) y (ρ y)).map fun v=>(v,m)
 | .unOp .not _ x=>match ρ x with| .bool b=>some (.bool !b,m)|_=>none
 | .unOp .neg _ x=>match ρ x with| .int k n=>some (.int k (k.wrap (0-n)),m)|_=>none
 | .convert src dst x=>(aconvert P m src dst (ρ x)).map fun v=>(v,m)
 | .makeFunc (.func f) first captured=>some (.fn f (first.toList.map ρ) (captured.toList.map ρ),m)
 | .makeSlice t l c=>amake P m t (ρ l) (ρ c)
 | .slice t x lo hi mx=>(aslice P t (ρ x) (lo.map ρ) (hi.map ρ) (mx.map ρ)).map fun v=>(v,m)
 | .fieldAddr s x f=>(afieldAddr P s (ρ x) f).map fun v=>(v,m)
 | .field s x f=>
  match ρ x,tField P s f with
  | .agg cs,some (off,ft)=>match tAgg P ft,tSize P ft with
   |some true,some k=>some (.agg ((cs.drop off).take k),m)
   |some false,_=>(cs[off]?).map fun v=>(v,m)
   |_,_=>none
  |_,_=>none
 | .indexAddr t x i=>(aindexAddr P t (ρ x) (ρ i)).map fun v=>(v,m)
 | .index t x i=>
  match ρ x,intVal (ρ i)with
  | .str s,some i=>if tKd P t=some .string∧0≤i then(match s[i.toNat]? with|some b=>some (.int .u8 b.toNat,m)|none=>none)else none
  |_,_=>none
 | .extract x i=>match ρ x with| .tup xs=>(xs[i]?).map fun v=>(v,m)|_=>none
 | .call c=>abuiltin P ρ m fl c
 | .makeMap _ none=>some (.map (some m.size),m.pushB ⟨[], .mp []⟩)
 | .insert t x k v=>aset P m fl t (ρ x) (ρ k) (ρ v)
 | .mapUpdate t x k v=>aset P m fl t (ρ x) (ρ k) (ρ v)
 | .lookup t x k false=>(aask P m t (ρ x) (ρ k)).map fun v=>(v,m)
 |_=>none
end Go.Ab
