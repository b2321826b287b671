/- What is proved here: how typed symbolic values stand for abstract ones, and that this stays so under steps. No condition beyond those written in each statement. -/
import Derived.Test.YtigomgblkieahaaGreatDoorT0
namespace Go.Ab
set_option linter.unusedVariables false
set_option linter.unusedSimpArgs false
structure Cfg where
 E:Nat→Option (Nat×Nat)
 tm:TMem
 m:Mem
 F:Nat→Prop
 N:Nat→Prop
def NzA (c:Cfg) (es:Nat) (a:AVal):Prop:=a= .nilSl∨∃n o,a= .sl n o 0 (some 0) es∧c.N n∧o≤(c.m.blk n).cells.length
def EmpA (es:Nat) (a:AVal):Prop:=a= .nilSl∨a= .emptySl∨∃n o cap,a= .sl n o 0 cap es
inductive RV (c:Cfg):TV→AVal→Prop where
 |any (a:AVal):RV c .any a
 |tt:RV c .tt (.bool true)
 |ff:RV c .ff (.bool false)
 |bool (b:Bool):RV c (.bool b) (.bool b)
 |int (k:IntKind) (n:Int):RV c (.int k n) (.int k n)
 |str (l:List UInt8):RV c (.str l) (.str ⟨l.toArray⟩)
 |nilp:RV c .nilp (.ptr none)
 |nilfn:RV c .nilfn .nilFn
 |nili:RV c .nili .nilIfc
 |nilm:RV c .nilm (.map none)
 |nil:RV c .nil .nilSl
 |nz (es:Nat) (a:AVal) (ha:NzA c es a):RV c (.nz es) a
 |ptr (k o n p:Nat) (hk:k<c.tm.length) (hE:c.E k=some (n,p)):RV c (.ptr k o) (.ptr (some (n,p+o)))
 |slD (k:Nat) (b:TB) (h:c.tm[k]? =some b) (hd:b.k= .dead) (a:AVal) (ho:a.one=true):RV c (.sl k) a
 |sl (k:Nat) (b:TB) (e:EK) (len n p:Nat) (cap:Option Nat) (h:c.tm[k]? =some b) (hs:b.k.shape=some (e,len)) (hE:c.E k=some (n,p)):RV c (.sl k) (.sl n p len cap e.es)
 |slV (k:Nat) (b:TB) (e:EK) (a:AVal) (h:c.tm[k]? =some b) (hs:b.k.shape=some (e,0)) (hE:c.E k=none) (ha:NzA c e.es a):RV c (.sl k) a
 |plE (e:EK) (a:AVal) (ha:EmpA e.es a):RV c (.pl e []) a
 |pl (e:EK) (l:List e.T) (n p:Nat) (cap:Option Nat) (cs:Nat→AVal) (hF:c.F n) (hp:p+l.length*e.es≤(c.m.blk n).cells.length) (hc:∀i,i<l.length*e.es→(c.m.blk n).cells[p+i]? =some (cs i))
  (hr:∀(i:Nat) x (j:Nat) t,l[i]? =some x→(enc e x)[j]? =some t→RV c t (cs (i*e.es+j))):RV c (.pl e l) (.sl n p l.length cap e.es)
 |eptrD (k:Nat) (i:Int) (j:Nat) (b:TB) (h:c.tm[k]? =some b) (hd:b.k= .dead) (a:AVal) (ho:a.one=true):RV c (.eptr k i j) a
 |eptr (k:Nat) (i:Int) (j:Nat) (b:TB) (e:EK) (len n p:Nat) (h:c.tm[k]? =some b) (hs:b.k.shape=some (e,len)) (hE:c.E k=some (n,p)) (h0:0≤i) (h1:i<len):
  RV c (.eptr k i j) (.ptr (some (n,p+i.toNat*e.es+j)))
 |svD (k:Nat) (l q:Int) (b:TB) (h:c.tm[k]? =some b) (hd:b.k= .dead) (a:AVal) (ho:a.one=true):RV c (.sv k l q) a
 |sv (k:Nat) (l q:Int) (b:TB) (e:EK) (len n p:Nat) (cap:Option Nat) (h:c.tm[k]? =some b) (hs:b.k.shape=some (e,len)) (hE:c.E k=some (n,p)) (h0:0≤l) (h1:l≤q) (h2:q≤len):
  RV c (.sv k l q) (.sl n (p+l.toNat*e.es) (q.toNat-l.toNat) cap e.es)
 |svE (k:Nat) (b:TB) (e:EK) (a:AVal) (h:c.tm[k]? =some b) (hs:b.k.shape=some (e,0)) (ha:NzA c e.es a):RV c (.sv k 0 0) a
 |fptr (ts:List TV) (n p:Nat) (cs:Nat→AVal) (hF:c.F n) (hp:p+ts.length≤(c.m.blk n).cells.length) (hc:∀i,i<ts.length→(c.m.blk n).cells[p+i]? =some (cs i)) (hr:∀(i:Nat) t,ts[i]? =some t→RV c t (cs i)):
  RV c (.fptr ts) (.ptr (some (n,p)))
 |agg (ts:List TV) (as:List AVal) (hl:ts.length=as.length) (hr:∀(i:Nat) t a,ts[i]? =some t→as[i]? =some a→RV c t a):RV c (.agg ts) (.agg as)
 |tup (ts:List TV) (as:List AVal) (hl:ts.length=as.length) (hr:∀(i:Nat) t a,ts[i]? =some t→as[i]? =some a→RV c t a):RV c (.tup ts) (.tup as)
 |mp (k n p:Nat) (hk:k<c.tm.length) (hE:c.E k=some (n,p)):RV c (.mp k) (.map (some n))
 |er (b:Bool) (a:AVal) (h:(b=true∧a= .nilIfc)∨(b=false∧∃t x,a= .ifc t x)):RV c (.er b) a
 |sbD (k:Nat) (b:TB) (h:c.tm[k]? =some b) (hd:b.k= .dead) (a:AVal) (ho:a.one=true):RV c (.sb k) a
 |sbV (k:Nat) (b:TB) (h:c.tm[k]? =some b) (hs:b.k.shape=some (.byte,0)) (hE:c.E k=none):RV c (.sb k) .nilSl
 |sb (k:Nat) (b:TB) (len n:Nat) (h:c.tm[k]? =some b) (hs:b.k.shape=some (.byte,len)) (hE:c.E k=some (n,0)):RV c (.sb k) (.sb n len)
 |slf (k o n:Nat) (t:TypeId) (hk:k<c.tm.length) (hE:c.E k=some (n,0)):RV c (.slf k o t) (.slf n o t)
 |fn (f:FuncId) (xs ys:List TV) (as bs:List AVal) (h1:xs.length=as.length) (h2:ys.length=bs.length)
  (r1:∀(i:Nat) t a,xs[i]? =some t→as[i]? =some a→RV c t a) (r2:∀(i:Nat) t a,ys[i]? =some t→bs[i]? =some a→RV c t a):RV c (.fn f xs ys) (.fn f as bs)
theorem RV.toBl {c:Cfg} {t:TV} {a:AVal} (r:RV c t a):RV c (toBl t) a:=by
 cases t<;>first|exact r|(cases r;exact .bool _)
def LV (c:Cfg) (ts:List TV) (as:List AVal):Prop:=ts.length=as.length∧∀(i:Nat) t a,ts[i]? =some t→as[i]? =some a→RV c t a
structure Mv (c c':Cfg):Prop where
 len:c.tm.length≤c'.tm.length
 e:∀k,k<c.tm.length→c'.E k=c.E k
 kind:∀(k:Nat) b e n,c.tm[k]? =some b→b.k.shape=some (e,n)→∃b',c'.tm[k]? =some b'∧(b'.k= .dead∨b'.k.shape=some (e,n))
 dead:∀(k:Nat) b,c.tm[k]? =some b→b.k= .dead→∃b',c'.tm[k]? =some b'∧b'.k= .dead
 fz:∀n,c.F n→c'.F n∧c'.m.blk n=c.m.blk n
 nz:∀n,c.N n→c'.N n∧c'.m.blk n=c.m.blk n
theorem Mv.refl (c:Cfg):Mv c c:=⟨Nat.le_refl _,fun _ _=>rfl,fun k b e n h1 h2=>⟨b,h1, .inr h2⟩,fun k b h1 h2=>⟨b,h1,h2⟩,fun n h=>⟨h,rfl⟩,fun n h=>⟨h,rfl⟩⟩
theorem getElem?_lt {α:Type} {l:List α} {i:Nat} {a:α} (h:l[i]? =some a):i<l.length:=by
 rcases Nat.lt_or_ge i l.length with h'|h'
 ·exact h'
 ·simp[List.getElem?_eq_none h']at h
theorem Mv.trans {a b c:Cfg} (h:Mv a b) (k:Mv b c):Mv a c:=by
 refine⟨Nat.le_trans h.len k.len,fun i hi=>(k.e i (Nat.lt_of_lt_of_le hi h.len)).trans (h.e i hi),fun i x e n h1 h2=> ?_,fun i x h1 h2=> ?_,fun n hn=> ?_,fun n hn=> ?_⟩
 ·obtain⟨y,g1,g2⟩:=h.kind i x e n h1 h2
  rcases g2 with g2|g2
  ·obtain⟨z,q1,q2⟩:=k.dead i y g1 g2
   exact⟨z,q1, .inl q2⟩
  ·exact k.kind i y e n g1 g2
 ·obtain⟨y,g1,g2⟩:=h.dead i x h1 h2
  exact k.dead i y g1 g2
 ·obtain⟨g1,g2⟩:=h.fz n hn
  obtain⟨q1,q2⟩:=k.fz n g1
  exact⟨q1,q2.trans g2⟩
 ·obtain⟨g1,g2⟩:=h.nz n hn
  obtain⟨q1,q2⟩:=k.nz n g1
  exact⟨q1,q2.trans g2⟩
theorem NzA.mv {c c':Cfg} (h:Mv c c') {es:Nat} {a:AVal} (r:NzA c es a):NzA c' es a:=by
 rcases r with r|⟨n,o,h1,h2,h3⟩
 ·exact .inl r
 ·obtain⟨g1,g2⟩:=h.nz n h2
  exact .inr ⟨n,o,h1,g1,by rw[g2];exact h3⟩
theorem NzA.one {c:Cfg} {es:Nat} {a:AVal} (r:NzA c es a):a.one=true:=by
 rcases r with r|⟨n,o,h1,h2,h3⟩
 ·subst r;rfl
 ·subst h1;rfl
theorem EmpA.one {es:Nat} {a:AVal} (r:EmpA es a):a.one=true:=by
 rcases r with r|r|⟨n,o,cap,r⟩<;>subst r<;>rfl
theorem RV.mv {c c':Cfg} (h:Mv c c') {t:TV} {a:AVal} (r:RV c t a):RV c' t a:=by
 induction r with
 |any a=>exact .any a
 |tt=>exact .tt
 |ff=>exact .ff
 |bool b=>exact .bool b
 |int k n=>exact .int k n
 |str l=>exact .str l
 |nilp=>exact .nilp
 |nilfn=>exact .nilfn
 |nili=>exact .nili
 |nilm=>exact .nilm
 |nil=>exact .nil
 |nz es a ha=>exact .nz es a (ha.mv h)
 |ptr k o n p hk hE=>exact .ptr k o n p (Nat.lt_of_lt_of_le hk h.len) ((h.e k hk).trans hE)
 |mp k n p hk hE=>exact .mp k n p (Nat.lt_of_lt_of_le hk h.len) ((h.e k hk).trans hE)
 |er b a hb=>exact .er b a hb
 |sbD k b hb hd a ho=>
  obtain⟨b',h1,h2⟩:=h.dead k b hb hd
  exact .sbD k b' h1 h2 a ho
 |sbV k b hb hs hE=>
  obtain⟨b',h1,h2⟩:=h.kind k b .byte 0 hb hs
  rcases h2 with h2|h2
  ·exact .sbD k b' h1 h2 _ rfl
  ·exact .sbV k b' h1 h2 ((h.e k (getElem?_lt hb)).trans hE)
 |sb k b len n hb hs hE=>
  obtain⟨b',h1,h2⟩:=h.kind k b .byte len hb hs
  rcases h2 with h2|h2
  ·exact .sbD k b' h1 h2 _ rfl
  ·exact .sb k b' len n h1 h2 ((h.e k (getElem?_lt hb)).trans hE)
 |slf k o n t hk hE=>exact .slf k o n t (Nat.lt_of_lt_of_le hk h.len) ((h.e k hk).trans hE)
 |slD k b hb hd a ho=>
  obtain⟨b',h1,h2⟩:=h.dead k b hb hd
  exact .slD k b' h1 h2 a ho
 |sl k b e len n p cap hb hs hE=>
  obtain⟨b',h1,h2⟩:=h.kind k b e len hb hs
  rcases h2 with h2|h2
  ·exact .slD k b' h1 h2 _ rfl
  ·exact .sl k b' e len n p cap h1 h2 ((h.e k (getElem?_lt hb)).trans hE)
 |slV k b e a hb hs hE ha=>
  obtain⟨b',h1,h2⟩:=h.kind k b e 0 hb hs
  rcases h2 with h2|h2
  ·exact .slD k b' h1 h2 _ ha.one
  ·exact .slV k b' e a h1 h2 ((h.e k (getElem?_lt hb)).trans hE) (ha.mv h)
 |plE e a ha=>exact .plE e a ha
 |pl e l n p cap cs hF hp hc hr ih=>
  obtain⟨g1,g2⟩:=h.fz n hF
  exact .pl e l n p cap cs g1 (by rw[g2];exact hp) (fun i hi=>by rw[g2];exact hc i hi) ih
 |eptrD k i j b hb hd a ho=>
  obtain⟨b',h1,h2⟩:=h.dead k b hb hd
  exact .eptrD k i j b' h1 h2 a ho
 |eptr k i j b e len n p hb hs hE h0 h1=>
  obtain⟨b',g1,g2⟩:=h.kind k b e len hb hs
  rcases g2 with g2|g2
  ·exact .eptrD k i j b' g1 g2 _ rfl
  ·exact .eptr k i j b' e len n p g1 g2 ((h.e k (getElem?_lt hb)).trans hE) h0 h1
 |svD k l q b hb hd a ho=>
  obtain⟨b',h1,h2⟩:=h.dead k b hb hd
  exact .svD k l q b' h1 h2 a ho
 |sv k l q b e len n p cap hb hs hE h0 h1 h2=>
  obtain⟨b',g1,g2⟩:=h.kind k b e len hb hs
  rcases g2 with g2|g2
  ·exact .svD k l q b' g1 g2 _ rfl
  ·exact .sv k l q b' e len n p cap g1 g2 ((h.e k (getElem?_lt hb)).trans hE) h0 h1 h2
 |svE k b e a hb hs ha=>
  obtain⟨b',h1,h2⟩:=h.kind k b e 0 hb hs
  rcases h2 with h2|h2
  ·exact .svD k 0 0 b' h1 h2 _ ha.one
  ·exact .svE k b' e a h1 h2 (ha.mv h)
 |fptr ts n p cs hF hp hc hr ih=>
  obtain⟨g1,g2⟩:=h.fz n hF
  exact .fptr ts n p cs g1 (by rw[g2];exact hp) (fun i hi=>by rw[g2];exact hc i hi) ih
 |agg ts as hl hr ih=>exact .agg ts as hl ih
 |tup ts as hl hr ih=>exact .tup ts as hl ih
 |fn f xs ys as bs h1 h2 r1 r2 i1 i2=>exact .fn f xs ys as bs h1 h2 i1 i2
theorem LV.mv {c c':Cfg} (h:Mv c c') {ts:List TV} {as:List AVal} (r:LV c ts as):LV c' ts as:=⟨r.1,fun i t a h1 h2=>(r.2 i t a h1 h2).mv h⟩
def GVv (c:Cfg):Prop:=(∀n,n<G0→c.F n)∧GP c.m.blk
theorem GVv.mv {c c':Cfg} (g:GVv c) (h:Mv c c'):GVv c':=⟨fun n hn=>(h.fz n (g.1 n hn)).1,g.2.congr fun n hn=>(h.fz n (g.1 n hn)).2⟩
theorem GVv.of {c c':Cfg} (g:GVv c) (h:∀n,c.F n→c'.F n∧c'.m.blk n=c.m.blk n):GVv c':=⟨fun n hn=>(h n (g.1 n hn)).1,g.2.congr fun n hn=>(h n (g.1 n hn)).2⟩
structure RM (c:Cfg) (A:Nat→Prop):Prop where
 cells:∀(k:Nat) w l,c.tm[k]? =some ⟨w, .cells l⟩→∃n p,c.E k=some (n,p)∧n<c.m.size∧(c.m.blk n).mode≠ .dead∧(w=true→(c.m.blk n).mode= .rw∧A n)∧p+l.length≤(c.m.blk n).cells.length∧
  ∀(i:Nat) t,l[i]? =some t→∃a,(c.m.blk n).cells[p+i]? =some a∧RV c t a
 list:∀(k:Nat) w e l,c.tm[k]? =some ⟨w, .list e l⟩→(c.E k=none∧l=[])∨∃n p,c.E k=some (n,p)∧n<c.m.size∧(c.m.blk n).mode≠ .dead∧(w=true→(c.m.blk n).mode= .rw∧A n)∧
  (c.m.blk n).cells.length=p+l.length*e.es∧∀(i:Nat) x (j:Nat) t,l[i]? =some x→(enc e x)[j]? =some t→∃a,(c.m.blk n).cells[p+i*e.es+j]? =some a∧RV c t a
 inj:∀(k k':Nat) b b' n p n' p',k≠k'→c.tm[k]? =some b→c.tm[k']? =some b'→b.w=true→b.k≠ .dead→b'.k≠ .dead→c.E k=some (n,p)→c.E k'=some (n',p')→n≠n'
 fz:∀n,c.F n→n<c.m.size∧(c.m.blk n).mode= .ro
 low:∀(k:Nat) b n p,c.tm[k]? =some b→b.k≠ .dead→c.E k=some (n,p)→n<c.m.size
 nf:∀n,c.N n→n<c.m.size∧(c.m.blk n).mode= .ro
 keys:∀(k:Nat) ks,c.tm[k]? =some ⟨true, .keys ks⟩→∃n p,c.E k=some (n,p)∧n<c.m.size∧(c.m.blk n).mode= .mp ks∧A n
 gv:GVv c
structure Stp (c c':Cfg) (A:Nat→Prop):Prop where
 mv:Mv c c'
 keep:∀(k:Nat) b,c.tm[k]? =some b→b.w=false→∃b',c'.tm[k]? =some b'∧b'.w=false∧b'.k.shape=b.k.shape∧(b'.k= .dead↔b.k= .dead)
 size:c.m.size≤c'.m.size
 out:∀n,n<c.m.size→¬A n→c'.m.blk n=c.m.blk n
 ro:∀n,n<c.m.size→(c.m.blk n).mode= .ro→c'.m.blk n=c.m.blk n
 md:∀n,n<c.m.size→(c'.m.blk n).mode= .rw→(c.m.blk n).mode= .rw
 fnew:∀n,c'.F n→c.F n∨c.m.size≤n∨(c.m.blk n).mode= .rw
 nnew:∀n,c'.N n→c.N n∨c.m.size≤n
theorem Stp.refl (c:Cfg) (A:Nat→Prop):Stp c c A:=⟨Mv.refl c,fun _ b h hw=>⟨b,h,hw,rfl,Iff.rfl⟩,Nat.le_refl _,fun _ _ _=>rfl,fun _ _ _=>rfl,fun _ _ h=>h,fun _ h=> .inl h,fun _ h=> .inl h⟩
theorem Stp.trans {a b c:Cfg} {A:Nat→Prop} (h:Stp a b A) (k:Stp b c A):Stp a c A:=
 ⟨h.mv.trans k.mv,fun i x h1 h2=>by
  obtain⟨y,g1,g2,g3,g4⟩:=h.keep i x h1 h2
  obtain⟨z,q1,q2,q3,q4⟩:=k.keep i y g1 g2
  exact⟨z,q1,q2,q3.trans g3,q4.trans g4⟩,Nat.le_trans h.size k.size,fun n hn ha=>(k.out n (Nat.lt_of_lt_of_le hn h.size) ha).trans (h.out n hn ha),
  fun n hn hr=>(k.ro n (Nat.lt_of_lt_of_le hn h.size) (by rw[h.ro n hn hr];exact hr)).trans (h.ro n hn hr),fun n hn hr=>h.md n hn (k.md n (Nat.lt_of_lt_of_le hn h.size) hr),fun n hn=>by
  rcases k.fnew n hn with g|g|g
  ·exact h.fnew n g
  ·exact .inr (.inl (Nat.le_trans h.size g))
  ·by_cases hlt:n<a.m.size
   ·exact .inr (.inr (h.md n hlt g))
   ·exact .inr (.inl (by omega)),fun n hn=>by
  rcases k.nnew n hn with g|g
  ·exact h.nnew n g
  ·exact .inr (Nat.le_trans h.size g)⟩
theorem er_one {b:Bool} {a:AVal} (h:(b=true∧a= .nilIfc)∨(b=false∧∃t x,a= .ifc t x)):a.one=true:=by
 rcases h with⟨_,rfl⟩|⟨_,t,x,rfl⟩<;>rfl
theorem RV.one {c:Cfg} {t:TV} {a:AVal} (r:RV c t a) (h:oneT t=true):a.one=true:=by
 cases r<;>first
  |(apply er_one;assumption)
  |rfl
  |(simp[oneT]at h;done)
  |(apply NzA.one;assumption)
  |(apply EmpA.one;assumption)
  |assumption
theorem one_cells {a:AVal} (h:a.one=true):a.cells=[a]∧a.fits 1=true:=by
 cases a<;>first
  |exact⟨rfl,rfl⟩
  |(simp[AVal.one]at h)
theorem LV.single {c:Cfg} {t:TV} {a:AVal} (r:RV c t a):LV c [t] [a]:=⟨rfl,fun i t' a' h1 h2=>by
 cases i with
 |zero=>simp at h1 h2;subst h1;subst h2;exact r
 |succ i=>simp at h1⟩
theorem RV.cells {c:Cfg} {t:TV} {a:AVal} {cs:List TV} (r:RV c t a) (h:cellsT t=some cs):LV c cs a.cells∧a.fits cs.length=true:=by
 by_cases ho:oneT t=true
 ·have hc:cs=[t]:=by
   cases t<;>first
    |(simp[oneT]at ho;done)
    |(simp[cellsT]at h;exact h.symm)
  obtain⟨g1,g2⟩:=one_cells (r.one ho)
  subst hc
  rw[g1]
  exact⟨.single r,g2⟩
 ·cases t<;>first
   |(simp[oneT]at ho;done)
   |(simp[cellsT]at h;done)
   |skip
  simp[cellsT]at h
  subst h
  cases r with
  |agg ts as hl hr=>exact⟨⟨hl,hr⟩,by simp[AVal.fits,hl]⟩
theorem LV.get {c:Cfg} {ts:List TV} {as:List AVal} (r:LV c ts as) {i:Nat} {t:TV} (h:ts[i]? =some t):∃a,as[i]? =some a∧RV c t a:=by
 have hi:i<as.length:=by rw[←r.1];exact getElem?_lt h
 exact⟨as[i],List.getElem?_eq_getElem hi,r.2 i t _ h (List.getElem?_eq_getElem hi)⟩
theorem LV.nil (c:Cfg):LV c [] []:=⟨rfl,fun i t a h=>by simp at h⟩
theorem LV.append {c:Cfg} {ts us:List TV} {as bs:List AVal} (r:LV c ts as) (s:LV c us bs):LV c (ts++us) (as++bs):=by
 refine⟨by simp[r.1,s.1],fun i t a h1 h2=> ?_⟩
 rw[List.getElem?_append]at h1 h2
 by_cases h:i<ts.length
 ·rw[if_pos h]at h1;rw[if_pos (by rw[←r.1];exact h)]at h2;exact r.2 i t a h1 h2
 ·rw[if_neg h]at h1;rw[if_neg (by rw[←r.1];exact h),←r.1]at h2;exact s.2 _ t a h1 h2
theorem LV.drop {c:Cfg} {ts:List TV} {as:List AVal} (r:LV c ts as) (n:Nat):LV c (ts.drop n) (as.drop n):=
 ⟨by simp[r.1],fun i t a h1 h2=>r.2 (n+i) t a (by simpa using h1) (by simpa using h2)⟩
theorem LV.take {c:Cfg} {ts:List TV} {as:List AVal} (r:LV c ts as) (n:Nat):LV c (ts.take n) (as.take n):=by
 refine⟨by simp[r.1],fun i t a h1 h2=> ?_⟩
 rw[List.getElem?_take]at h1 h2
 split at h1
 ·rename_i h;rw[if_pos h]at h2;exact r.2 i t a h1 h2
 ·cases h1
theorem LV.set {c:Cfg} {ts:List TV} {as:List AVal} (r:LV c ts as) (i:Nat) {t:TV} {a:AVal} (h:RV c t a):LV c (ts.set i t) (as.set i a):=by
 refine⟨by simp[r.1],fun j t' a' h1 h2=> ?_⟩
 rw[List.getElem?_set]at h1 h2
 by_cases e:i=j
 ·rw[if_pos e]at h1 h2
  split at h1
  ·split at h2
   ·simp at h1 h2;subst h1;subst h2;exact h
   ·cases h2
  ·cases h1
 ·rw[if_neg e]at h1 h2;exact r.2 j t' a' h1 h2
theorem LV.map {c:Cfg} {α:Type} {f:α→TV} {g:α→AVal} (xs:List α) (h:∀x∈xs,RV c (f x) (g x)):LV c (xs.map f) (xs.map g):=by
 refine⟨by simp,fun i t a h1 h2=> ?_⟩
 rw[List.getElem?_map]at h1 h2
 cases hx:xs[i]? with
 |none=>rw[hx]at h1;simp at h1
 |some x=>
  rw[hx]at h1 h2
  simp at h1 h2
  subst h1;subst h2
  exact h x (List.mem_of_getElem? hx)
theorem setC_length {α:Type} (vs:List α):∀(cs:List α) (o:Nat),(setC cs o vs).length=cs.length:=by
 induction vs with
 |nil=>intro cs o;rfl
 |cons v vs ih=>intro cs o;rw[setC,ih];simp
theorem LV.setC {c:Cfg}:∀{vs:List TV} {bs:List AVal} (_:LV c vs bs) {ts:List TV} {as:List AVal} (_:LV c ts as) (o:Nat),LV c (setC ts o vs) (setCells as o bs):=by
 intro vs
 induction vs with
 |nil=>
  intro bs h ts as r o
  have:bs=[]:=List.length_eq_zero_iff.1 h.1.symm
  subst this
  exact r
 |cons v vs ih=>
  intro bs h ts as r o
  match bs,h with
  |[],h=>exact absurd h.1 (by simp)
  |b::bs,h=>
   exact ih ⟨by have:=h.1;simpa using this,fun i t a h1 h2=>h.2 (i+1) t a (by simpa using h1) (by simpa using h2)⟩ (r.set o (h.2 0 v b (by simp) (by simp))) (o+1)
theorem LV.all_one {c:Cfg} {vs:List TV} {bs:List AVal} (h:LV c vs bs) (ho:vs.all oneT=true):bs.all (·.one)=true:=by
 rw[List.all_eq_true]at ho⊢
 intro b hb
 obtain⟨i,hi⟩:=List.mem_iff_getElem?.1 hb
 have hl:i<vs.length:=by rw[h.1];exact getElem?_lt hi
 exact(h.2 i _ b (List.getElem?_eq_getElem hl) hi).one (ho _ (List.getElem_mem hl))
theorem enc_length (e:EK) (x:e.T):(enc e x).length=e.es:=by cases e<;>rfl
theorem EK.es_pos (e:EK):0<e.es:=by cases e<;>simp[EK.es]
theorem asB_rv {c:Cfg} {t:TV} {b:Bool} (h:asB t=some b) {a:AVal} (r:RV c t a):a= .bool b:=by
 cases t<;>simp[asB]at h<;>subst h<;>cases r<;>rfl
theorem asInts_rv {c:Cfg} {t:TV} {l:List Int} (h:asInts t=some l) {a:AVal} (r:RV c t a):RV c (.pl .int l) a:=by
 cases t<;>simp[asInts]at h
 ·subst h;cases r;exact .plE .int _ (.inl rfl)
 ·rename_i e l'
  cases e<;>simp at h
  subst h;exact r
theorem asOps_rv {c:Cfg} {t:TV} {l:List OpV} (h:asOps t=some l) {a:AVal} (r:RV c t a):RV c (.pl .op l) a:=by
 cases t<;>simp[asOps]at h
 ·subst h;cases r;exact .plE .op _ (.inl rfl)
 ·rename_i e l'
  cases e<;>simp at h
  subst h;exact r
theorem dec_lv {c:Cfg} {e:EK} {cs:List TV} {x:e.T} (h:dec e cs=some x) {as:List AVal} (r:LV c cs as):LV c (enc e x) as:=by
 unfold dec at h
 split at h
 ·simp at h;subst h;exact r
 ·simp at h;subst h;exact r
 ·rename_i t
  obtain⟨a,h1,h2⟩:=r.get (i:=0) (t:=t) (by simp)
  have:as=[a]:=by
   have hl:=r.1
   match as,hl with
   |[b],_=>simp at h1;rw[h1]
   |[],hl=>simp at hl
   |_::_::_,hl=>simp at hl
  subst this
  have:=asB_rv h h2
  subst this
  exact .single (.bool x)
 ·simp at h;subst h;exact r
 ·simp at h;subst h;exact r
 ·rename_i t
  obtain⟨a,h1,h2⟩:=r.get (i:=0) (t:=t) (by simp)
  have:as=[a]:=by
   have hl:=r.1
   match as,hl with
   |[b],_=>simp at h1;rw[h1]
   |[],hl=>simp at hl
   |_::_::_,hl=>simp at hl
  subst this
  exact .single (asInts_rv h h2)
 ·rename_i t1 t2 t3 t4 p t5 q t6 s t7 rr
  split at h
  ·rename_i a1 a2 a3 a4 a5 a6 a7 e1 e2 e3 e4 e5 e6 e7
   simp at h
   subst h
   refine⟨by have:=r.1;simpa[enc]using this,fun i t a h1 h2=> ?_⟩
   have key:∀(i:Nat) t a,([t1,t2,t3,t4,TV.int .i64 p,t5, .int .i64 q,t6, .int .i64 s,t7, .str rr]:List TV)[i]? =some t→as[i]? =some a→RV c t a:=r.2
   match i,h1 with
   |0,h1=>simp[enc]at h1;subst h1;exact asInts_rv e1 (key 0 t1 a rfl h2)
   |1,h1=>simp[enc]at h1;subst h1;exact asInts_rv e2 (key 1 t2 a rfl h2)
   |2,h1=>simp[enc]at h1;subst h1;exact asInts_rv e3 (key 2 t3 a rfl h2)
   |3,h1=>simp[enc]at h1;subst h1;exact asInts_rv e4 (key 3 t4 a rfl h2)
   |4,h1=>simp[enc]at h1;subst h1;exact key 4 _ a rfl h2
   |5,h1=>simp[enc]at h1;subst h1;exact asInts_rv e5 (key 5 t5 a rfl h2)
   |6,h1=>simp[enc]at h1;subst h1;exact key 6 _ a rfl h2
   |7,h1=>simp[enc]at h1;subst h1;exact asOps_rv e6 (key 7 t6 a rfl h2)
   |8,h1=>simp[enc]at h1;subst h1;exact key 8 _ a rfl h2
   |9,h1=>simp[enc]at h1;subst h1;rw[asB_rv e7 (key 9 t7 a rfl h2)];exact .bool _
   |10,h1=>simp[enc]at h1;subst h1;exact key 10 _ a rfl h2
   |i+11,h1=>simp[enc]at h1
  ·cases h
 ·cases h
theorem enc_one (e:EK) (x:e.T):(enc e x).all oneT=true:=by cases e<;>rfl
theorem tvA_rv (c : Cfg) (a : AVal) : RV c (tvA a) a := by
  unfold tvA
  split <;> first
    | exact .tt
    | exact .ff
    | exact .int _ _
    | (rename_i s; have : s = ⟨s.data.toList.toArray⟩ := by cases s; rfl
       rw [this]; exact .str _)
    | exact .nilp
    | exact .nil
    | exact .nilm
    | exact .nilfn
    | exact .nili
    | exact .any _
theorem tvAs_lv (c:Cfg) (z:List AVal):LV c (z.map tvA) z:=by
 have:=LV.map (c:=c) (f:=tvA) (g:=id) z (fun x _=>tvA_rv c x)
 simpa using this
theorem tvScal_rv (c : Cfg) (v : Value) : RV c (tvScal v) (ofScal v) := by
  unfold tvScal ofScal
  split <;> first
    | exact .tt
    | exact .ff
    | exact .int _ _
    | (rename_i s; have : s = ⟨s.data.toList.toArray⟩ := by cases s; rfl
       simp only; rw [this]; exact .str _)
    | exact .nilp
    | exact .nil
    | exact .nilm
    | exact .nilfn
    | exact .nili
    | exact .fn _ [] [] [] [] rfl rfl (fun i t a h => by simp at h) (fun i t a h => by simp at h)
    | exact .any _
theorem tvVal_rv (c:Cfg) (v:Value):RV c (tvVal v) (ofVal v):=by
 unfold tvVal ofVal
 split
 ·rename_i cs
  have:=LV.map (c:=c) (f:=tvScal) (g:=ofScal) cs.toList (fun x _=>tvScal_rv c x)
  exact .agg _ _ this.1 this.2
 ·rename_i cs
  have:=LV.map (c:=c) (f:=tvScal) (g:=ofScal) cs.toList (fun x _=>tvScal_rv c x)
  exact .tup _ _ this.1 this.2
 ·rename_i h1 h2
  split
  ·rename_i cs;exact absurd rfl (h1 cs)
  ·rename_i cs;exact absurd rfl (h2 cs)
  ·exact tvScal_rv c v
def FV (c:Cfg) (ts:TFrm) (fr:Frm):Prop:=GVv c∧∀i,RV c (ts i) (fr i)
theorem FV.mv {c c':Cfg} (h:Mv c c') {ts:TFrm} {fr:Frm} (r:FV c ts fr):FV c' ts fr:=⟨r.1.mv h,fun i=>(r.2 i).mv h⟩
theorem tset_app (ts:TFrm) (d:Nat) (v:TV) (i:Nat):tset ts d v i=if i=d then v else ts i:=by
 unfold tset
 by_cases h:i=d
 ·subst h;simp
 ·have:Nat.beq i d=false:=by
   cases hb:Nat.beq i d
   ·rfl
   ·exact absurd (Nat.eq_of_beq_eq_true hb) h
  simp[this,h]
theorem FV.set {c:Cfg} {ts:TFrm} {fr:Frm} (r:FV c ts fr) (d:Nat) {v:TV} {a:AVal} (h:RV c v a):FV c (tset ts d v) (fset fr d a):=by
 refine⟨r.1,fun i=> ?_⟩
 rw[tset_app,fset_app]
 split
 ·exact h
 ·exact r.2 i
theorem FV.put {c:Cfg} {ts:TFrm} {fr:Frm} (r:FV c ts fr) (d:Option Tmp) {v:TV} {a:AVal} (h:RV c v a):FV c (tput ts d v) (aput fr d a):=by
 cases d with
 |none=>exact r
 |some d=>exact r.set d h
theorem FV.lit {c:Cfg} {ts:TFrm} {fr:Frm} (r:FV c ts fr) (d:Nat) {v:TV} (h:RV c v (fr d)):FV c (tset ts d v) fr:=by
 refine⟨r.1,fun i=> ?_⟩
 rw[tset_app]
 split
 ·rename_i e;subst e;exact h
 ·exact r.2 i
theorem lookG_mem:∀{t:List (Nat×List (List UInt8))} {g:Nat} {l:List (List UInt8)},lookG t g=some l→(g,l)∈t
 |[],_,_,h=>by cases h
 |(g',l')::r,g,l,h=>by
  unfold lookG at h
  cases hb:Nat.beq g g' with
  |true=>
   rw[hb]at h
   have:=Nat.eq_of_beq_eq_true hb
   simp at h;subst this;subst h;simp
  |false=>rw[hb]at h;exact List.mem_cons_of_mem _ (lookG_mem h)
theorem FV.ev {c:Cfg} {n:Nat} {ts:TFrm} {fr:Frm} (r:FV c ts fr) (x:Operand):RV c (tev n ts x) (aev n fr x):=by
 cases x with
 |tmp t=>
  simp only[tev,aev]
  by_cases h:t<n
  ·rw[if_pos h]
   have:Nat.blt t n=true:=Nat.ble_eq_true_of_le h
   rw[this];exact r.2 t
  ·have:Nat.blt t n=false:=by
    cases hb:Nat.blt t n
    ·rfl
    ·exact absurd (Nat.le_of_ble_eq_true hb) h
   rw[this];exact .any _
 |const v=>exact tvVal_rv c v
 |global g=>
  simp only[tev,aev]
  cases h:lookG gtab g with
  |none=>exact .any _
  |some l=>
   obtain⟨h1,h2⟩:=r.1.2.1 (g,l) (lookG_mem h)
   rw[if_pos h1]
   refine .fptr (l.map .str) g 0 (fun i=>((c.m.blk g).cells[i]?).getD .any) (r.1.1 g h1) (by simp[h2]) (fun i hi=> ?_) (fun i t ht=> ?_)
   ·have:i<(c.m.blk g).cells.length:=by rw[h2];simpa using hi
    rw[Nat.zero_add,List.getElem?_eq_getElem this];rfl
   ·rw[List.getElem?_map]at ht
    obtain⟨s,e1,e2⟩:=Option.map_eq_some_iff.1 ht
    have:(c.m.blk g).cells[i]? =some (.str ⟨s.toArray⟩):=by rw[h2,List.getElem?_map,e1];rfl
    simp only[this,Option.getD_some]
    rw[←e2];exact .str s
 |func f=>exact .fn f [] [] [] [] rfl rfl (fun i t a h=>by simp at h) (fun i t a h=>by simp at h)
end Go.Ab
