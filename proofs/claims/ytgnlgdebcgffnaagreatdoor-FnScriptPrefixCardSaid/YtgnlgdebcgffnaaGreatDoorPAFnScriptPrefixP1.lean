/- What is proved here: the plain laws that the law FnScriptPrefix needs: what its functions compute, and that its model returns true. Conditions: those written in each statement. -/
import Derived.Test.YtgnlgdebcgffnaaGreatDoorPAFnScriptPrefix
namespace Go.Ab
set_option linter.unusedVariables false
set_option linter.unusedSimpArgs false
theorem Eu {l r ro fr:List Int} {K:Int→Int→Bool→List Int→Prop} (hv:dR l r ro fr) (hK:K 0 0 true (List.replicate l.length 0)):pd l r ro fr K:=by
 have h8:=hv.h.l8
 refine ca (ak (by simp[hv]) ⟨⟨by simp only[aa];omega,rfl,by simp only[aa];omega⟩, ?_⟩)
 rw[aa,Int.toNat_natCast];exact hK
theorem Ag {l r ro fr:List Int} {ops:List aA} {K:Int→Int→Int→Bool→Bool→List Int→List Int→List Int→List Int→List Int→List aA→Prop} (hv:dR l r ro fr) (ho:jb ops ro.length) (hK:K 0 0 0 false true l r ro fr (List.replicate l.length 0) ops):jd l r ro fr ops K:=by
 have h8:=hv.h.l8;have f8:=hv.f8;have:=ho.len
 exact Eu hv (ak rfl (we rfl (ak (by simp[ho]) (eH hv.h (by omega) ⟨by omega,hK⟩))))
theorem wM {b:List Int} {p:Int} {k:Nat} {K:List UInt8→List Int→Int→Prop} (h:jN b p (k+25)) (hK:∀s p',hT s→s.length≤24→jN b p' k→K s b p'):jL b p K:=by
 refine xp (k:=k+24) h (by simp) fun n hn h=> ?_
 have hn:0≤n∧n≤24:=by simp at hn;omega
 obtain⟨m,rfl⟩:∃m:Nat,n=(m:Int):=⟨n.toNat,by omega⟩
 refine af (fun i st=>∃s p',st=(s,((m-i:Nat):Int),b,p')∧jN b p' (k+(m-i))∧s.length=i∧hT s) m ⟨[],_,by simp,h.le (by omega),rfl,by simp[hT]⟩ ?_ ?_
 ·rintro i _ hi ⟨s,p',rfl,hr,hl,ho⟩ Kb hKb
  refine ap (by simp;omega) (Ha (k:=k+(m-(i+1))) (hr.le (by omega)) (by simp) fun v hv h=> ?_)
  have hv1:v.length=1∧hT v:=by
   simp at hv
   rcases hv with rfl|rfl<;>exact⟨rfl,by decide⟩
  refine⟨by simp only;omega,hKb _ ⟨s++v,_, ?_,h,by rw[List.length_append];omega,fun c hc=> ?_⟩⟩
  ·show(s++v,b6 ((m-i:Nat):Int) 1,b,p'+1)=_
   rw[jx (by omega) (by omega),show((m-i:Nat):Int)-1=((m-(i+1):Nat):Int) by omega]
  ·rcases List.mem_append.1 hc with hc|hc
   ·exact ho c hc
   ·exact hv1.2 c hc
 ·rintro _ ⟨s,p',rfl,hr,hl,ho⟩ Kb
  exact ak (by simp) (hK _ _ ho (by show s.length≤24;omega) (hr.le (by omega)))
structure I6 (b:av):Prop where
 l:b.s.h.l.length≤8
 r:b.s.h.r.length≤8
 ro:b.s.h.ro.length≤3
 f:b.s.free.length≤8
 c:b.g.color.length≤8
 o:b.ops.length≤13
theorem cf.sm {b:av} (h:cf b):I6 b:=by
 have h8:=h.g.sv.h.l8;have:=h.g.sv.f8;have:=h.g.sv.h.lr;have:=h.g.c.len;have:=h.o.len;have:=h.g.sv.h.r3
 exact⟨by omega,by omega,by omega,by omega,by omega,by omega⟩
def Bd:List Int→Nat
 |[]=>0
 |c::l=>(2-c).toNat+Bd l
theorem vP:∀{l:List Int} {i:Nat} {v:Int},i<l.length→l.getD i 0<v→v≤2→Bd (l.set i v)<Bd l
 |[],i,v,h,_,_=>by simp at h
 |c::l,0,v,_,h,h2=>by
  simp only[List.getD_cons_zero]at h
  simp only[List.set_cons_zero,Bd];omega
 |c::l,i+1,v,hi,h,h2=>by
  simp only[List.getD_cons_succ]at h
  simp only[List.set_cons_succ,Bd]
  have:=vP (l:=l) (i:=i) (v:=v) (by simpa using hi) h h2
  omega
theorem vX:∀{l:List Int},(∀x∈l,0≤x)→Bd l≤2*l.length
 |[],_=>by simp[Bd]
 |c::l,h=>by
  have:=vX (l:=l) fun x hx=>h x (by simp[hx])
  have:=h c (by simp)
  simp only[Bd,List.length_cons];omega
theorem pW {p:Int} {col:List Int} (hp:dH col.length p):Bd (bI p col)≤Bd col∧(p≠-1→col.getD p.toNat 0=0→Bd (bI p col)<Bd col):=by
 unfold bI
 split
 ·rename_i h
  have hc:=hp.cell h.1
  have:=vP (l:=col) (i:=p.toNat) (v:=1) (by omega) (by rw[h.2];omega) (by omega)
  exact⟨by omega,fun _ _=>this⟩
 ·rename_i h
  exact⟨Nat.le_refl _,fun h1 h2=>absurd ⟨h1,h2⟩ h⟩
theorem Dk {p:Int} {col:List Int} {i:Nat} (hi:i<col.length):(bI p col).getD i 0=if p≠-1∧col.getD p.toNat 0=0∧p.toNat=i then 1 else col.getD i 0:=by
 unfold bI
 split
 ·rename_i h
  rw[jk hi]
  by_cases e:p.toNat=i
  ·rw[if_pos e,if_pos ⟨h.1,h.2,e⟩]
  ·rw[if_neg e,if_neg fun q=>e q.2.2]
 ·rename_i h
  rw[if_neg fun q=>h ⟨q.1,q.2.1⟩]
theorem zk {p:Int} {col:List Int} {i:Nat} (hi:i<col.length) (h:col.getD i 0≠0):(bI p col).getD i 0=col.getD i 0:=by
 rw[Dk hi]
 split
 ·rename_i q;rw[q.2.2]at q;exact absurd q.2.1 h
 ·rfl
theorem Cj {s:aB} {g:lu} (h:kI s g) (ha:0≤fc g.color 1):Bd (qo s (fc g.color 1).toNat g.color)<Bd g.color:=by
 have hh:=vM g.color 1
 have hl:=h.c.len
 have hlr:=h.sv.h.lr
 have hm:(1:Int)∈g.color:=by
  refine Decidable.by_contra fun hn=> ?_
  have:=dy.2 hn;omega
 have hg:=(GU hm).2
 generalize fc g.color 1=c at*
 have hc:c.toNat<g.color.length:=by omega
 unfold qo
 have o1:dH g.color.length (s.h.l.getD c.toNat 0):=by rw[hl];exact h.sv.h.okl _ (al 0 (by omega))
 have o2:dH (bI (s.h.l.getD c.toNat 0) g.color).length (s.h.r.getD c.toNat 0):=by rw[c8,hl];exact h.sv.h.okr _ (al 0 (by omega))
 have w1:=(pW o1).1
 have w2:=(pW o2).1
 have g1:(bI (s.h.l.getD c.toNat 0) g.color).getD c.toNat 0=1:=by rw[zk hc (by rw[hg];omega),hg]
 have g2:(bI (s.h.r.getD c.toNat 0) (bI (s.h.l.getD c.toNat 0) g.color)).getD c.toNat 0=1:=by rw[zk (by rw[c8];exact hc) (by rw[g1];omega),g1]
 have:=vP (l:=bI (s.h.r.getD c.toNat 0) (bI (s.h.l.getD c.toNat 0) g.color)) (i:=c.toNat) (v:=2) (by rw[c8,c8];exact hc) (by rw[g2];omega) (by omega)
 omega
def hM (n q:Nat) (g:lu):Nat:=if g.phase=3 then(n-g.pos).toNat else if g.phase=2 then 9+Bd g.color else if g.phase=1 then 26+(q-g.pos).toNat else 30
def mJ (b:av):Nat:=if b.lost then 0 else hM b.s.h.l.length b.s.h.ro.length b.g
theorem lS {s:aB} {g:lu} (h:kI s g):1≤hM s.h.l.length s.h.ro.length g∧hM s.h.l.length s.h.ro.length g≤30:=by
 have hp:=h.p
 have h8:=h.sv.h.l8;have h3:=h.sv.h.r3
 have hw:=vX (l:=g.color) fun x hx=>(h.c.ok x hx).1
 have hl:=h.c.len
 unfold jt at hp
 unfold hM
 split
 ·omega
 ·split
  ·omega
  ·split<;>omega
theorem zZ {s:aB} {g:lu} (h:kI s g):(dM s g).2.phase=0∨hM s.h.l.length s.h.ro.length (dM s g).2<hM s.h.l.length s.h.ro.length g:=by
 have hp:=h.p
 have hl:=h.c.len
 have h8:=h.sv.h.l8;have h3:=h.sv.h.r3
 have hw:=vX (l:=g.color) fun x hx=>(h.c.ok x hx).1
 unfold jt at hp
 unfold dM
 split
 ·rename_i h0
  right
  unfold hM
  simp only[h0]
  simp;omega
 split
 ·rename_i h0 h1
  right
  have hc2:=(h.c.shade (s.h.ro.getD g.pos.toNat 0))
  have hw2:=vX (l:=bI (s.h.ro.getD g.pos.toNat 0) g.color) fun x hx=>(hc2.ok x hx).1
  have hl2:=hc2.len
  unfold kf hM
  split
  ·simp only[h1];simp[-List.getD_eq_getElem?_getD];omega
  ·simp only[h1];simp[-List.getD_eq_getElem?_getD];omega
 split
 ·rename_i h0 h1 h2
  right
  unfold qQ
  split
  ·rename_i ha
   have:=Cj h ha
   unfold hM
   simp only[h2];simp;exact this
  ·split
   ·rename_i ha hr
    have hh:=(jA (bR g.color) s.h.ro).2
    have hg:=xr _ _ hr
    have hm:s.h.ro.getD (fW (bR g.color) s.h.ro).toNat 0∈s.h.ro:=al 0 (by omega)
    unfold bR at hg
    simp only[Bool.and_eq_true,decide_eq_true_eq]at hg
    have:=(pW (p:=s.h.ro.getD (fW (bR g.color) s.h.ro).toNat 0) (col:=g.color) (by rw[hl];exact h.sv.h.oko _ hm)).2 hg.1 hg.2
    unfold hM
    simp only[h2];simp;exact this
   ·have hpos:g.pos=0:=by omega
    unfold hM
    simp only[h2];simp;omega
 ·rename_i h0 h1 h2
  have h3:g.phase=3:=by omega
  simp only
  unfold kf
  split
  ·left;rfl
  ·right
   unfold hM
   simp only[h3];simp;omega
theorem tr {s:aB} {g:lu}:(dM s g).1.h.l.length=s.h.l.length∧(dM s g).1.h.ro=s.h.ro:=by
 unfold dM
 repeat' split
 all_goals first|exact⟨rfl,rfl⟩|exact oa _ _
theorem EP {b:av} (h:cf b) (hl:b.lost=false):((ew b).lost=false∧(ew b).g.phase=0)∨mJ (ew b)<mJ b:=by
 have hb:=lS h.g
 have hr:mJ b=hM b.s.h.l.length b.s.h.ro.length b.g:=by unfold mJ;rw[hl];rfl
 rw[hr]
 unfold ew
 split
 ·right;exact hb.1
 ·have hs:=tr (s:=b.s) (g:=b.g)
  have e:mJ ⟨(dM b.s b.g).1,(dM b.s b.g).2,b.ops,b.pos,b.lost⟩=hM b.s.h.l.length b.s.h.ro.length (dM b.s b.g).2:=by
   unfold mJ;rw[hl]
   show hM (dM b.s b.g).1.h.l.length (dM b.s b.g).1.h.ro.length (dM b.s b.g).2=_
   rw[hs.1,hs.2]
  rcases zZ h.g with h1|h1
  ·exact .inl ⟨hl,h1⟩
  ·right;rw[e];exact h1
def B0:Nat→Nat→av→av
 |0,_,b=>b
 |f+1,k,b=>if 2≤k∨b.lost=true then b else B0 f (if(ew b).lost=false∧(ew b).g.phase=0 then k+1 else k) (ew b)
def mu (k:Nat) (b:av):Nat:=(2-k)*31+mJ b
theorem pi {k:Nat} {b:av} (h:cf b) (hk:¬(2≤k∨b.lost=true)):mu (if(ew b).lost=false∧(ew b).g.phase=0 then k+1 else k) (ew b)<mu k b:=by
 have hl:b.lost=false:=by
  cases hb:b.lost with
  |false=>rfl
  |true=>exact absurd (.inr hb) hk
 have hv:=fV h
 have h1:=lS h.g
 have h2:=lS hv.g
 have e1:mJ b=hM b.s.h.l.length b.s.h.ro.length b.g:=by unfold mJ;rw[hl];rfl
 have e2:mJ (ew b)≤30:=by unfold mJ;split<;>omega
 unfold mu
 split
 ·omega
 ·rename_i hn
  rcases EP h hl with h3|h3
  ·exact absurd h3 hn
  ·omega
theorem yb:∀{f k:Nat} {b:av},cf b→mu k b<f→B0 (f+1) k b=B0 f k b
 |0,k,b,_,h=>by omega
 |f+1,k,b,hv,h=>by
  rw[show B0 (f+1+1) k b=if 2≤k∨b.lost=true then b else B0 (f+1) (if(ew b).lost=false∧(ew b).g.phase=0 then k+1 else k) (ew b)from rfl,
   show B0 (f+1) k b=if 2≤k∨b.lost=true then b else B0 f (if(ew b).lost=false∧(ew b).g.phase=0 then k+1 else k) (ew b)from rfl]
  split
  ·rfl
  ·rename_i hk
   have:=pi hv hk
   exact yb (fV hv) (by omega)
theorem D5 {k:Nat} {b:av} (h:cf b):∀{f:Nat},mu k b<f→B0 f k b=B0 (mu k b+1) k b
 |0,hf=>by omega
 |f+1,hf=>by
  by_cases e:f=mu k b
  ·rw[e]
  ·rw[yb h (by omega)];exact D5 h (by omega)
def pP (k:Nat) (b:av):av:=B0 (mu k b+1) k b
theorem kn {k:Nat} {b:av} (h:2≤k∨b.lost=true):pP k b=b:=by
 unfold pP
 rw[show B0 (mu k b+1) k b=if 2≤k∨b.lost=true then b else B0 (mu k b) (if(ew b).lost=false∧(ew b).g.phase=0 then k+1 else k) (ew b)from rfl,if_pos h]
theorem qb {k:Nat} {b:av} (hv:cf b) (h:¬(2≤k∨b.lost=true)):pP k b=pP (if(ew b).lost=false∧(ew b).g.phase=0 then k+1 else k) (ew b):=by
 unfold pP
 rw[show B0 (mu k b+1) k b=if 2≤k∨b.lost=true then b else B0 (mu k b) (if(ew b).lost=false∧(ew b).g.phase=0 then k+1 else k) (ew b)from rfl,if_neg h]
 exact D5 (fV hv) (pi hv h)
def wl (bar:Bool):Nat→av→av
 |0,b=>b
 |n+1,b=>if b.lost=false∧b.pos<b.ops.length then wl bar n (jr b bar)else b
def rp (b:av):Nat:=(b.ops.length-b.pos).toNat
def ui (bar:Bool) (b:av):av:=wl bar (rp b) b
theorem vv {bar:Bool} {b:av} (h:¬(b.lost=false∧b.pos<b.ops.length)):ui bar b=b:=by
 unfold ui
 cases rp b with
 |zero=>rfl
 |succ n=>rw[show wl bar (n+1) b=if b.lost=false∧b.pos<b.ops.length then wl bar n (jr b bar)else b from rfl,if_neg h]
theorem vx {bar:Bool} {b:av} (h0:0≤b.pos) (h:b.lost=false∧b.pos<b.ops.length):ui bar b=ui bar (jr b bar):=by
 have hr:=iX b bar
 have:rp b=rp (jr b bar)+1:=by unfold rp;rw[hr.1,hr.2.2];omega
 unfold ui
 rw[this,show wl bar (rp (jr b bar)+1) b=if b.lost=false∧b.pos<b.ops.length then wl bar (rp (jr b bar)) (jr b bar)else b from rfl,if_pos h]
theorem tU {bar:Bool}:∀{n:Nat} {b:av},cf b→cf (wl bar n b)
 |0,b,h=>h
 |n+1,b,h=>by
  rw[show wl bar (n+1) b=if b.lost=false∧b.pos<b.ops.length then wl bar n (jr b bar)else b from rfl]
  split
  ·rename_i hh;exact tU (jX h hh.2 bar)
  ·exact h
def hH (bar:Bool) (b:av):av:=pP 0 (ui bar b)
abbrev LI:=List Int
def HF (bar:Bool) (b:av):Bool×Int×Int×Int×Bool×Int×Int×Int×Bool×LI×LI×LI×LI×LI×List aA×LI×LI×LI×LI×LI×List aA:=
 (bar,b.g.phase,b.g.pos,b.pos,b.lost,0,0,0,false,b.s.h.l,b.s.h.r,b.s.h.ro,b.s.free,b.g.color,b.ops,[],[],[],[],[],[])
def Ei (k:Int) (b:av):Int×Int×Int×Int×Bool×Int×Int×Int×Bool×LI×LI×LI×LI×LI×List aA×LI×LI×LI×LI×LI×List aA:=
 (k,b.g.phase,b.g.pos,b.pos,b.lost,0,0,0,false,b.s.h.l,b.s.h.r,b.s.h.ro,b.s.free,b.g.color,b.ops,[],[],[],[],[],[])
def yq (bar:Bool) (b:av):Bool×Int×Int×Int×Bool×Int×Int×Int×Bool×LI×LI×LI×LI×LI×List aA×LI×LI×LI×LI×LI×List aA:=
 (bar,0,0,0,false,b.g.phase,b.g.pos,b.pos,b.lost,[],[],[],[],[],[],b.s.h.l,b.s.h.r,b.s.h.ro,b.s.free,b.g.color,b.ops)
def tq (k:Int) (b:av):Int×Int×Int×Int×Bool×Int×Int×Int×Bool×LI×LI×LI×LI×LI×List aA×LI×LI×LI×LI×LI×List aA:=
 (k,0,0,0,false,b.g.phase,b.g.pos,b.pos,b.lost,[],[],[],[],[],[],b.s.h.l,b.s.h.r,b.s.h.ro,b.s.free,b.g.color,b.ops)
theorem um {l r ro fr col:List Int} {ph a i:Int} {ops:List aA} {lost bar:Bool} {K:Int→Int→Int→Bool→Bool→List Int→List Int→List Int→List Int→List Int→List aA→Prop} (hf:fr.length<2^60) (hc:col.length<2^60) (ho:ops.length<2^60)
  (hn:¬cf ⟨⟨⟨l,r,ro⟩,fr⟩,⟨ph,col,a⟩,ops,i,lost⟩→K 0 0 0 false false [] [] [] [] [] [])
  (hy:cf ⟨⟨⟨l,r,ro⟩,fr⟩,⟨ph,col,a⟩,ops,i,lost⟩→KB (fun p a i lost l r ro fr c ops=>K p a i lost true l r ro fr c ops) (hH bar ⟨⟨⟨l,r,ro⟩,fr⟩,⟨ph,col,a⟩,ops,i,lost⟩)):jG l r ro fr ph col a ops i lost bar K:=by
 refine cJ hf hc ho (br (fun e=>hn (by simpa using e)) fun e=> ?_)
 have e:cf ⟨⟨⟨l,r,ro⟩,fr⟩,⟨ph,col,a⟩,ops,i,lost⟩:=by simpa using e
 refine sQ e ?_
 have hy:=hy e
 show ar _ (HF bar ⟨⟨⟨l,r,ro⟩,fr⟩,⟨ph,col,a⟩,ops,i,lost⟩) _
 clear hn hf hc ho
 generalize (⟨⟨⟨l,r,ro⟩,fr⟩,⟨ph,col,a⟩,ops,i,lost⟩:av)=b0 at e hy
 refine cD (fun s=>∃b,s=HF bar b∧cf b∧ui bar b=ui bar b0) (fun s=>(s.2.2.2.2.2.2.2.2.2.2.2.2.2.2.1.length-s.2.2.2.1).toNat) ?_ ⟨b0,rfl,e,rfl⟩
 rintro _ ⟨b,rfl,hv,he⟩ Kb hKb
 have hi0:=hv.i0
 have hi1:=hv.i1
 have second:¬(b.lost=false∧b.pos<b.ops.length)→ar (S:=Int×Int×Int×Int×Bool×Int×Int×Int×Bool×LI×LI×LI×LI×LI×List aA×LI×LI×LI×LI×LI×List aA) (fun aF Kb20 Kx20=>
   (((decide (aF.1<2))=true→(eV aF.2.2.2.2.2.2.2.2.2.1 aF.2.2.2.2.2.2.2.2.2.2.1 aF.2.2.2.2.2.2.2.2.2.2.2.1 aF.2.2.2.2.2.2.2.2.2.2.2.2.1 aF.2.1 aF.2.2.2.2.2.2.2.2.2.2.2.2.2.1 aF.2.2.1 aF.2.2.2.2.2.2.2.2.2.2.2.2.2.2.1 aF.2.2.2.1 aF.2.2.2.2.1 fun y21 y22 y23 y24 y25 y26 y27 y28 y29 y30 y31=>
   (((!y25)=true→(Kx20 (aF.1,aF.2.1,aF.2.2.1,aF.2.2.2.1,aF.2.2.2.2.1,aF.2.2.2.2.2.1,aF.2.2.2.2.2.2.1,aF.2.2.2.2.2.2.2.1,aF.2.2.2.2.2.2.2.2.1,aF.2.2.2.2.2.2.2.2.2.1,aF.2.2.2.2.2.2.2.2.2.2.1,aF.2.2.2.2.2.2.2.2.2.2.2.1,aF.2.2.2.2.2.2.2.2.2.2.2.2.1,aF.2.2.2.2.2.2.2.2.2.2.2.2.2.1,aF.2.2.2.2.2.2.2.2.2.2.2.2.2.2.1,aF.2.2.2.2.2.2.2.2.2.2.2.2.2.2.2.1,aF.2.2.2.2.2.2.2.2.2.2.2.2.2.2.2.2.1,aF.2.2.2.2.2.2.2.2.2.2.2.2.2.2.2.2.2.1,aF.2.2.2.2.2.2.2.2.2.2.2.2.2.2.2.2.2.2.1,aF.2.2.2.2.2.2.2.2.2.2.2.2.2.2.2.2.2.2.2.1,aF.2.2.2.2.2.2.2.2.2.2.2.2.2.2.2.2.2.2.2.2)))∧
   ((!y25)=false→(((!y24)=true→(((y21==0)=true→(Kb20 ((ah aF.1 1),y21,y22,y23,y24,aF.2.2.2.2.2.1,aF.2.2.2.2.2.2.1,aF.2.2.2.2.2.2.2.1,aF.2.2.2.2.2.2.2.2.1,y26,y27,y28,y29,y30,y31,aF.2.2.2.2.2.2.2.2.2.2.2.2.2.2.2.1,aF.2.2.2.2.2.2.2.2.2.2.2.2.2.2.2.2.1,aF.2.2.2.2.2.2.2.2.2.2.2.2.2.2.2.2.2.1,aF.2.2.2.2.2.2.2.2.2.2.2.2.2.2.2.2.2.2.1,aF.2.2.2.2.2.2.2.2.2.2.2.2.2.2.2.2.2.2.2.1,aF.2.2.2.2.2.2.2.2.2.2.2.2.2.2.2.2.2.2.2.2)))∧
   ((y21==0)=false→(Kb20 (aF.1,y21,y22,y23,y24,aF.2.2.2.2.2.1,aF.2.2.2.2.2.2.1,aF.2.2.2.2.2.2.2.1,aF.2.2.2.2.2.2.2.2.1,y26,y27,y28,y29,y30,y31,aF.2.2.2.2.2.2.2.2.2.2.2.2.2.2.2.1,aF.2.2.2.2.2.2.2.2.2.2.2.2.2.2.2.2.1,aF.2.2.2.2.2.2.2.2.2.2.2.2.2.2.2.2.2.1,aF.2.2.2.2.2.2.2.2.2.2.2.2.2.2.2.2.2.2.1,aF.2.2.2.2.2.2.2.2.2.2.2.2.2.2.2.2.2.2.2.1,aF.2.2.2.2.2.2.2.2.2.2.2.2.2.2.2.2.2.2.2.2)))))∧
   ((!y24)=false→(Kb20 (aF.1,y21,y22,y23,y24,aF.2.2.2.2.2.1,aF.2.2.2.2.2.2.1,aF.2.2.2.2.2.2.2.1,aF.2.2.2.2.2.2.2.2.1,y26,y27,y28,y29,y30,y31,aF.2.2.2.2.2.2.2.2.2.2.2.2.2.2.2.1,aF.2.2.2.2.2.2.2.2.2.2.2.2.2.2.2.2.1,aF.2.2.2.2.2.2.2.2.2.2.2.2.2.2.2.2.2.1,aF.2.2.2.2.2.2.2.2.2.2.2.2.2.2.2.2.2.2.1,aF.2.2.2.2.2.2.2.2.2.2.2.2.2.2.2.2.2.2.2.1,aF.2.2.2.2.2.2.2.2.2.2.2.2.2.2.2.2.2.2.2.2))))))))∧
   ((decide (aF.1<2))=false→(Kx20 (aF.1,aF.2.1,aF.2.2.1,aF.2.2.2.1,aF.2.2.2.2.1,aF.2.2.2.2.2.1,aF.2.2.2.2.2.2.1,aF.2.2.2.2.2.2.2.1,aF.2.2.2.2.2.2.2.2.1,aF.2.2.2.2.2.2.2.2.2.1,aF.2.2.2.2.2.2.2.2.2.2.1,aF.2.2.2.2.2.2.2.2.2.2.2.1,aF.2.2.2.2.2.2.2.2.2.2.2.2.1,aF.2.2.2.2.2.2.2.2.2.2.2.2.2.1,aF.2.2.2.2.2.2.2.2.2.2.2.2.2.2.1,aF.2.2.2.2.2.2.2.2.2.2.2.2.2.2.2.1,aF.2.2.2.2.2.2.2.2.2.2.2.2.2.2.2.2.1,aF.2.2.2.2.2.2.2.2.2.2.2.2.2.2.2.2.2.1,aF.2.2.2.2.2.2.2.2.2.2.2.2.2.2.2.2.2.2.1,aF.2.2.2.2.2.2.2.2.2.2.2.2.2.2.2.2.2.2.2.1,aF.2.2.2.2.2.2.2.2.2.2.2.2.2.2.2.2.2.2.2.2)))))
   (Ei 0 b) fun aF=>(K aF.2.1 aF.2.2.1 aF.2.2.2.1 aF.2.2.2.2.1 true aF.2.2.2.2.2.2.2.2.2.1 aF.2.2.2.2.2.2.2.2.2.2.1 aF.2.2.2.2.2.2.2.2.2.2.2.1 aF.2.2.2.2.2.2.2.2.2.2.2.2.1 aF.2.2.2.2.2.2.2.2.2.2.2.2.2.1 aF.2.2.2.2.2.2.2.2.2.2.2.2.2.2.1):=fun hstop=>by
  rw[vv hstop]at he
  unfold hH at hy
  rw[←he]at hy
  clear hKb Kb he
  refine cD (fun s=>∃(k:Nat) (c:av),s=Ei k c∧cf c∧k≤2∧pP k c=pP 0 b) (fun s=>mu s.1.toNat ⟨⟨⟨s.2.2.2.2.2.2.2.2.2.1,s.2.2.2.2.2.2.2.2.2.2.1,s.2.2.2.2.2.2.2.2.2.2.2.1⟩,s.2.2.2.2.2.2.2.2.2.2.2.2.1⟩,⟨s.2.1,s.2.2.2.2.2.2.2.2.2.2.2.2.2.1,s.2.2.1⟩,s.2.2.2.2.2.2.2.2.2.2.2.2.2.2.1,s.2.2.2.1,s.2.2.2.2.1⟩) ?_ ⟨0,b,rfl,hv,by omega,rfl⟩
  rintro _ ⟨k,c,rfl,hv,hk2,he⟩ Kb hKb
  refine br (fun e1=> ?_) fun e1=> ?_
  ·have hk:k<2:=by have:=of_decide_eq_true e1;simp only[Ei]at this;omega
   have stop:c.lost=true→KB (fun p a i lost l r ro fr c ops=>K p a i lost true l r ro fr c ops) c:=fun h=>by
    rw[kn (.inr h)]at he;rw[he];exact hy
   have nx:c.lost=false→∀k',k'=(if(ew c).lost=false∧(ew c).g.phase=0 then k+1 else k)→Kb (Ei (k':Nat) (ew c)):=fun hl k' hk'=>by
    have hns:¬(2≤k∨c.lost=true):=by rw[hl];simp;omega
    refine hKb _ ⟨k',ew c,rfl,fV hv,by rw[hk'];split<;>omega,by rw[hk',←qb hv hns,he]⟩ ?_
    show mu (k':Int).toNat (ew c)<mu (k:Int).toNat c
    rw[Int.toNat_natCast,Int.toNat_natCast,hk']
    exact pi hv hns
   obtain⟨⟨⟨l,r,ro⟩,fr⟩,⟨ph,col,a⟩,ops,i,lost⟩:=c
   refine nU hv (fun h=>ap rfl (stop h)) fun h=> ?_
   have nx:=nx h
   change KB _ (ew ⟨⟨⟨l,r,ro⟩,fr⟩,⟨ph,col,a⟩,ops,i,lost⟩)
   generalize ew ⟨⟨⟨l,r,ro⟩,fr⟩,⟨ph,col,a⟩,ops,i,lost⟩=d at nx
   obtain⟨⟨⟨l',r',ro'⟩,fr'⟩,⟨ph',col',a'⟩,ops',i',lost'⟩:=d
   refine ak rfl ?_
   refine br (fun h1=>br (fun h2=> ?_) fun h2=> ?_) fun h1=> ?_
   ·have h1:lost'=false:=by simpa using h1
    have h2:ph'=0:=by simpa using h2
    have:=nx (k+1) (by rw[if_pos ⟨h1,h2⟩])
    show Kb (ah (k:Int) 1,_)
    rw[ai (by omega)]
    exact this
   ·have h2:¬ph'=0:=by simpa using h2
    exact nx k (by rw[if_neg fun q=>h2 q.2])
   ·have h1:¬lost'=false:=by simpa using h1
    exact nx k (by rw[if_neg fun q=>h1 q.1])
  ·have hk:2≤k:=by have:=of_decide_eq_false e1;simp only[Ei]at this;omega
   rw[kn (.inl hk)]at he
   show KB (fun p a i lost l r ro fr c ops=>K p a i lost true l r ro fr c ops) c
   rw[he];exact hy
 have nx:b.lost=false→b.pos<b.ops.length→Kb (HF bar (jr b bar)):=fun h1 h2=>hKb _ ⟨_,rfl,jX hv h2 bar,by rw[←vx hi0 ⟨h1,h2⟩,he]⟩ (by
  have hr:=iX b bar
  show((jr b bar).ops.length-(jr b bar).pos).toNat<(b.ops.length-b.pos).toNat
  rw[hr.1,hr.2.2];omega)
 obtain⟨⟨⟨l,r,ro⟩,fr⟩,⟨ph,col,a⟩,ops,i,lost⟩:=b
 refine sO hv (fun hh=>ap rfl (second fun q=> ?_)) fun h1 h2=>ak rfl (nx h1 h2)
 rcases hh with hh|hh
 ·have hh:lost=true:=hh
  rw[hh]at q;cases q.1
 ·have hh:i=(ops.length:Int):=hh
  have:=q.2;simp only at this;omega
theorem ul {l r ro fr col:List Int} {ph a i:Int} {ops:List aA} {lost bar:Bool} {K:Int→Int→Int→Bool→Bool→List Int→List Int→List Int→List Int→List Int→List aA→Prop}
   (hn:¬cf ⟨⟨⟨l,r,ro⟩,fr⟩,⟨ph,col,a⟩,ops,i,lost⟩→K 0 0 0 false false [] [] [] [] [] [])
   (hy:cf ⟨⟨⟨l,r,ro⟩,fr⟩,⟨ph,col,a⟩,ops,i,lost⟩→KB (fun p a i lost l r ro fr c ops=>K p a i lost true l r ro fr c ops) (hH bar ⟨⟨⟨l,r,ro⟩,fr⟩,⟨ph,col,a⟩,ops,i,lost⟩)):jH l r ro fr ph col a ops i lost bar K:=by
  refine iq (br (fun e=>hn (by simpa using e)) fun e=> ?_)
  have e:cf ⟨⟨⟨l,r,ro⟩,fr⟩,⟨ph,col,a⟩,ops,i,lost⟩:=by simpa using e
  refine gy e ?_
  have hy:=hy e
  show ar _ (yq bar ⟨⟨⟨l,r,ro⟩,fr⟩,⟨ph,col,a⟩,ops,i,lost⟩) _
  clear hn
  generalize (⟨⟨⟨l,r,ro⟩,fr⟩,⟨ph,col,a⟩,ops,i,lost⟩:av)=b0 at e hy
  refine cD (fun s=>∃b,s=yq bar b∧cf b∧ui bar b=ui bar b0) (fun s=>(s.2.2.2.2.2.2.2.2.2.2.2.2.2.2.2.2.2.2.2.2.length-s.2.2.2.2.2.2.2.1).toNat) ?_ ⟨b0,rfl,e,rfl⟩
  rintro _ ⟨b,rfl,hv,he⟩ Kb hKb
  have hi0:=hv.i0
  have hi1:=hv.i1
  have second:¬(b.lost=false∧b.pos<b.ops.length)→ar (S:=Int×Int×Int×Int×Bool×Int×Int×Int×Bool×LI×LI×LI×LI×LI×List aA×LI×LI×LI×LI×LI×List aA) (fun s12 Kb12 Kx12=>
 (((decide (s12.1<2))=true→
 (((!s12.2.2.2.2.2.2.2.2.1)=true→
 (kV s12.2.2.2.2.2.2.2.2.2.2.2.2.2.2.2.1 s12.2.2.2.2.2.2.2.2.2.2.2.2.2.2.2.2.1 s12.2.2.2.2.2.2.2.2.2.2.2.2.2.2.2.2.2.1 s12.2.2.2.2.2.2.2.2.2.2.2.2.2.2.2.2.2.2.1 s12.2.2.2.2.2.1 s12.2.2.2.2.2.2.2.2.2.2.2.2.2.2.2.2.2.2.2.1 s12.2.2.2.2.2.2.1 s12.2.2.2.2.2.2.2.2.2.2.2.2.2.2.2.2.2.2.2.2 s12.2.2.2.2.2.2.2.1 s12.2.2.2.2.2.2.2.2.1 fun(y13:Int) (y14:Int) (y15:Bool) (y16:List Int) (y17:List Int) (y18:List Int) (y19:List Int) (y20:List Int)=>
 (((y13==0)=true→
 (Kb12 ((ah s12.1 1),s12.2.1,s12.2.2.1,s12.2.2.2.1,s12.2.2.2.2.1,y13,y14,s12.2.2.2.2.2.2.2.1,y15,s12.2.2.2.2.2.2.2.2.2.1,s12.2.2.2.2.2.2.2.2.2.2.1,s12.2.2.2.2.2.2.2.2.2.2.2.1,s12.2.2.2.2.2.2.2.2.2.2.2.2.1,s12.2.2.2.2.2.2.2.2.2.2.2.2.2.1,s12.2.2.2.2.2.2.2.2.2.2.2.2.2.2.1,y16,y17,y18,y19,y20,s12.2.2.2.2.2.2.2.2.2.2.2.2.2.2.2.2.2.2.2.2)))∧
 ((y13==0)=false→
 (Kb12 (s12.1,s12.2.1,s12.2.2.1,s12.2.2.2.1,s12.2.2.2.2.1,y13,y14,s12.2.2.2.2.2.2.2.1,y15,s12.2.2.2.2.2.2.2.2.2.1,s12.2.2.2.2.2.2.2.2.2.2.1,s12.2.2.2.2.2.2.2.2.2.2.2.1,s12.2.2.2.2.2.2.2.2.2.2.2.2.1,s12.2.2.2.2.2.2.2.2.2.2.2.2.2.1,s12.2.2.2.2.2.2.2.2.2.2.2.2.2.2.1,y16,y17,y18,y19,y20,s12.2.2.2.2.2.2.2.2.2.2.2.2.2.2.2.2.2.2.2.2))))))∧
 ((!s12.2.2.2.2.2.2.2.2.1)=false→
 (Kx12 (s12.1,s12.2.1,s12.2.2.1,s12.2.2.2.1,s12.2.2.2.2.1,s12.2.2.2.2.2.1,s12.2.2.2.2.2.2.1,s12.2.2.2.2.2.2.2.1,s12.2.2.2.2.2.2.2.2.1,s12.2.2.2.2.2.2.2.2.2.1,s12.2.2.2.2.2.2.2.2.2.2.1,s12.2.2.2.2.2.2.2.2.2.2.2.1,s12.2.2.2.2.2.2.2.2.2.2.2.2.1,s12.2.2.2.2.2.2.2.2.2.2.2.2.2.1,s12.2.2.2.2.2.2.2.2.2.2.2.2.2.2.1,s12.2.2.2.2.2.2.2.2.2.2.2.2.2.2.2.1,s12.2.2.2.2.2.2.2.2.2.2.2.2.2.2.2.2.1,s12.2.2.2.2.2.2.2.2.2.2.2.2.2.2.2.2.2.1,s12.2.2.2.2.2.2.2.2.2.2.2.2.2.2.2.2.2.2.1,s12.2.2.2.2.2.2.2.2.2.2.2.2.2.2.2.2.2.2.2.1,s12.2.2.2.2.2.2.2.2.2.2.2.2.2.2.2.2.2.2.2.2)))))∧
 ((decide (s12.1<2))=false→
 (Kx12 (s12.1,s12.2.1,s12.2.2.1,s12.2.2.2.1,s12.2.2.2.2.1,s12.2.2.2.2.2.1,s12.2.2.2.2.2.2.1,s12.2.2.2.2.2.2.2.1,s12.2.2.2.2.2.2.2.2.1,s12.2.2.2.2.2.2.2.2.2.1,s12.2.2.2.2.2.2.2.2.2.2.1,s12.2.2.2.2.2.2.2.2.2.2.2.1,s12.2.2.2.2.2.2.2.2.2.2.2.2.1,s12.2.2.2.2.2.2.2.2.2.2.2.2.2.1,s12.2.2.2.2.2.2.2.2.2.2.2.2.2.2.1,s12.2.2.2.2.2.2.2.2.2.2.2.2.2.2.2.1,s12.2.2.2.2.2.2.2.2.2.2.2.2.2.2.2.2.1,s12.2.2.2.2.2.2.2.2.2.2.2.2.2.2.2.2.2.1,s12.2.2.2.2.2.2.2.2.2.2.2.2.2.2.2.2.2.2.1,s12.2.2.2.2.2.2.2.2.2.2.2.2.2.2.2.2.2.2.2.1,s12.2.2.2.2.2.2.2.2.2.2.2.2.2.2.2.2.2.2.2.2)))))
    (tq 0 b) fun s12=>(K s12.2.2.2.2.2.1 s12.2.2.2.2.2.2.1 s12.2.2.2.2.2.2.2.1 s12.2.2.2.2.2.2.2.2.1 true s12.2.2.2.2.2.2.2.2.2.2.2.2.2.2.2.1 s12.2.2.2.2.2.2.2.2.2.2.2.2.2.2.2.2.1 s12.2.2.2.2.2.2.2.2.2.2.2.2.2.2.2.2.2.1 s12.2.2.2.2.2.2.2.2.2.2.2.2.2.2.2.2.2.2.1 s12.2.2.2.2.2.2.2.2.2.2.2.2.2.2.2.2.2.2.2.1 s12.2.2.2.2.2.2.2.2.2.2.2.2.2.2.2.2.2.2.2.2):=fun hstop=>by
   rw[vv hstop]at he
   unfold hH at hy
   rw[←he]at hy
   clear hKb Kb he
   refine cD (fun s=>∃(k:Nat) (c:av),s=tq k c∧cf c∧k≤2∧pP k c=pP 0 b) (fun s=>mu s.1.toNat ⟨⟨⟨s.2.2.2.2.2.2.2.2.2.2.2.2.2.2.2.1,s.2.2.2.2.2.2.2.2.2.2.2.2.2.2.2.2.1,s.2.2.2.2.2.2.2.2.2.2.2.2.2.2.2.2.2.1⟩,s.2.2.2.2.2.2.2.2.2.2.2.2.2.2.2.2.2.2.1⟩,⟨s.2.2.2.2.2.1,s.2.2.2.2.2.2.2.2.2.2.2.2.2.2.2.2.2.2.2.1,s.2.2.2.2.2.2.1⟩,s.2.2.2.2.2.2.2.2.2.2.2.2.2.2.2.2.2.2.2.2,s.2.2.2.2.2.2.2.1,s.2.2.2.2.2.2.2.2.1⟩) ?_ ⟨0,b,rfl,hv,by omega,rfl⟩
   rintro _ ⟨k,c,rfl,hv,hk2,he⟩ Kb hKb
   refine br (fun e1=> ?_) fun e1=> ?_
   ·have hk:k<2:=by have:=of_decide_eq_true e1;simp only[tq]at this;omega
    have stop:c.lost=true→KB (fun p a i lost l r ro fr c ops=>K p a i lost true l r ro fr c ops) c:=fun h=>by
     rw[kn (.inr h)]at he;rw[he];exact hy
    have ph1:c.lost=false→(ew c).lost=true→(ew c).g.phase≠0:=fun h0 h=>by
     unfold ew at h⊢
     split at h
     ·rename_i hh
      rw[if_pos hh]
      have:=(fa hv.g hh.1).1
      show c.g.phase≠0;omega
     ·rw[show c.lost=true from h]at h0;cases h0
    have nx:c.lost=false→∀k',k'=(if(ew c).lost=false∧(ew c).g.phase=0 then k+1 else k)→Kb (tq (k':Nat) (ew c)):=fun hl k' hk'=>by
     have hns:¬(2≤k∨c.lost=true):=by rw[hl];simp;omega
     refine hKb _ ⟨k',ew c,rfl,fV hv,by rw[hk'];split<;>omega,by rw[hk',←qb hv hns,he]⟩ ?_
     show mu (k':Int).toNat (ew c)<mu (k:Int).toNat c
     rw[Int.toNat_natCast,Int.toNat_natCast,hk']
     exact pi hv hns
    have hr:=lR c
    obtain⟨⟨⟨l,r,ro⟩,fr⟩,⟨ph,col,a⟩,ops,i,lost⟩:=c
    refine br (fun h=>AO hv ?_) fun h=>stop (by simpa[tq]using h)
    have h:lost=false:=by simpa[tq]using h
    have nx2:=nx h
    have ph2:=ph1 h
    clear nx ph1
    change KB _ (ew ⟨⟨⟨l,r,ro⟩,fr⟩,⟨ph,col,a⟩,ops,i,lost⟩)
    generalize ew ⟨⟨⟨l,r,ro⟩,fr⟩,⟨ph,col,a⟩,ops,i,lost⟩=d at nx2 ph2 hr
    obtain⟨⟨⟨l',r',ro'⟩,fr'⟩,⟨ph',col',a'⟩,ops',i',lost'⟩:=d
    simp only at ph2 hr
    obtain⟨rfl,rfl⟩:=hr
    refine br (fun h2=> ?_) fun h2=> ?_
    ·have h3:ph'=0:=by simpa using h2
     have h1:lost'=false:=by
      cases hl:lost' with
      |false=>rfl
      |true=>exact absurd h3 (ph2 hl)
     have:=nx2 (k+1) (by rw[if_pos ⟨h1,h3⟩])
     show Kb (ah (k:Int) 1,_)
     rw[ai (by omega)]
     exact this
    ·have h2:¬ph'=0:=by simpa using h2
     exact nx2 k (by rw[if_neg fun q=>h2 q.2])
   ·have hk:2≤k:=by have:=of_decide_eq_false e1;simp only[tq]at this;omega
    rw[kn (.inl hk)]at he
    show KB (fun p a i lost l r ro fr c ops=>K p a i lost true l r ro fr c ops) c
    rw[he];exact hy
  have nx:b.lost=false→b.pos<b.ops.length→Kb (yq bar (jr b bar)):=fun h1 h2=>hKb _ ⟨_,rfl,jX hv h2 bar,by rw[←vx hi0 ⟨h1,h2⟩,he]⟩ (by
   have hr:=iX b bar
   show((jr b bar).ops.length-(jr b bar).pos).toNat<(b.ops.length-b.pos).toNat
   rw[hr.1,hr.2.2];omega)
  have hr:=iX b bar
  obtain⟨⟨⟨l,r,ro⟩,fr⟩,⟨ph,col,a⟩,ops,i,lost⟩:=b
  refine br (fun h2=>br (fun h1=>wb hv (of_decide_eq_true h2) ?_) fun h1=>second fun q=> ?_) fun h2=>second fun q=> ?_
  ·have h1:lost=false:=by simpa[yq]using h1
   have nx2:=nx h1 (of_decide_eq_true h2)
   clear nx
   change KB _ (jr ⟨⟨⟨l,r,ro⟩,fr⟩,⟨ph,col,a⟩,ops,i,lost⟩ bar)
   generalize jr ⟨⟨⟨l,r,ro⟩,fr⟩,⟨ph,col,a⟩,ops,i,lost⟩ bar=d at nx2 hr
   obtain⟨⟨⟨l',r',ro'⟩,fr'⟩,⟨ph',col',a'⟩,ops',i',lost'⟩:=d
   simp only at hr
   obtain⟨rfl,rfl,_⟩:=hr
   exact nx2
  ·have h1:lost=true:=by simpa[yq]using h1
   rw[h1]at q;cases q.1
  ·exact of_decide_eq_false h2 q.2
theorem uN:∀(n k:Nat) (b:av),mu k b<n→cf b→(pP k b).ops=b.ops∧(pP k b).pos=b.pos∧cf (pP k b)
 |0,k,b,h,_=>by omega
 |n+1,k,b,h,hv=>by
  by_cases hs:2≤k∨b.lost=true
  ·rw[kn hs];exact⟨rfl,rfl,hv⟩
  ·rw[qb hv hs]
   have hm:=pi hv hs
   have:=uN n (if(ew b).lost=false∧(ew b).g.phase=0 then k+1 else k) (ew b) (by omega) (fV hv)
   have hr:=lR b
   exact⟨this.1.trans hr.1,this.2.1.trans hr.2,this.2.2⟩
abbrev Jg (s t:aB) (φ:Int→Int) (D:Int→Prop):Prop:=tO s.h.l s.h.r s.h.ro t.h.l t.h.r t.h.ro φ D
structure Mg (s t:aB):Prop where
 sv:SV s
 tv:SV t
 ren:∃φ,Jg s t φ (live s)
 fr:s.free.length≤t.free.length
theorem Mg.ro {s t:aB} {φ:Int→Int} {D:Int→Prop} (hr:Jg s t φ D) {i:Int} (h0:0≤i) (h1:i<s.h.ro.length):n7 t i=φ (n7 s i):=by
 unfold n7
 rw[hr.hro,aw (by rw[List.length_map];omega),aw (by omega),List.getElem_map]
theorem cf.small {b:av} (h:cf b):b.s.h.l.length≤8∧b.s.h.r.length≤8∧b.s.h.ro.length≤3∧b.s.free.length≤8∧b.g.color.length≤8∧b.ops.length≤12:=by
 have h8:=h.g.sv.h.l8;have:=h.g.sv.f8;have:=h.g.sv.h.lr;have:=h.g.c.len;have:=h.o.len;have:=h.g.sv.h.r3
 exact⟨by omega,by omega,by omega,by omega,by omega,by omega⟩
theorem zR {l r ro fr:List Int} {K:List Int→Prop} (hv:dR l r ro fr) (hK:K ((gA l r ro).filter fun x=>decide (x∉fr))):lH l r ro fr K:=by
 have h8:=hv.h.l8;have f8:=hv.f8
 refine c7 (by omega) (ak (by simp[hv]) (qS (fun _=> ?_) fun h=>absurd hv.h h))
 have hg:(gA l r ro).length≤8:=by
  unfold gA eC
  rw[List.length_map]
  exact Nat.le_trans (List.length_filter_le _ _) (by simp;omega)
 generalize gA l r ro=q at hK hg
 refine af (fun i s=>s=(len q,(i:Int),l,r,ro,fr,(q.take i).filter (fun x=>decide (x∉fr)),q)) q.length rfl ?_ ?_
 ·rintro i _ hi rfl Kb hKb
  have ht:(q.take (i+1)).filter (fun x=>decide (x∉fr))=(q.take i).filter (fun x=>decide (x∉fr))++(if q.getD i 0∈fr then[]else[q.getD i 0]):=by
   rw[List.take_add_one,List.getElem?_eq_getElem hi,List.filter_append,aw hi]
   by_cases h:q[i]∈fr<;>simp[h]
  have hf:((q.take i).filter (fun x=>decide (x∉fr))).length≤8:=Nat.le_trans (List.length_filter_le _ _) (by simp;omega)
  refine ap (by simp[aa];exact hi) ⟨by rw[aj];exact hi, ?_⟩
  simp only[an]
  refine dS (by omega) (br (fun h=>⟨by simp only[List.length_cons,List.length_nil];omega,hKb _ ?_⟩) fun h=>hKb _ ?_)
  ·have h:q.getD i 0∉fr:=by simpa[-List.getD_eq_getElem?_getD]using h
   rw[ai (by omega),ht,if_neg h]
  ·have h:q.getD i 0∈fr:=by simpa[-List.getD_eq_getElem?_getD]using h
   rw[ai (by omega),ht,if_pos h,List.append_nil]
 ·rintro _ rfl Kb
  refine ak (by simp[aa]) ?_
  rw[List.take_length];exact hK
theorem IC {b:av} {bar:Bool}:(jr b bar).s.h.ro.length=b.s.h.ro.length:=by
 unfold jr
 split
 ·rfl
 ·exact(j6 _ _).2.2
structure CS where
 l:List Int
 r:List Int
 ct:List Int
 op:List Int
 fr:List Int
def JC (ct:List Int):Nat:=ct.countP fun x=>decide (0<x)
def LQ (l r ro op:List Int) (c:Nat):Nat:=l.count (c:Int)+r.count (c:Int)+ro.count (c:Int)+op.count (c:Int)
structure GI (ro:List Int) (n:Nat) (s:CS) (i:Nat):Prop where
 ll:s.l.length=n
 lr:s.r.length=n
 lc:s.ct.length=n
 n8:n≤8
 r3:ro.length≤3
 okl:∀x∈s.l,dH n x
 okr:∀x∈s.r,dH n x
 oko:∀x∈ro,dH n x
 okp:∀x∈s.op,dH n x
 ile:i≤s.op.length
 cn:∀c:Nat,c<n→s.ct.getD c 0=(LQ s.l s.r ro (s.op.drop i) c:Nat)
 b:s.op.length+2*JC s.ct≤17
 bf:s.fr.length+JC s.ct≤16
theorem zJ {op:List Int} {i:Nat} (hi:i<op.length) (c:Int):(op.drop i).count c=(op.drop (i+1)).count c+if op.getD i 0=c then 1 else 0:=by
 rw[List.drop_eq_getElem_cons hi,List.count_cons,aw hi]
 simp[beq_iff_eq]
section gi
variable {ro:List Int} {n:Nat} {s:CS} {i:Nat}
theorem GI.pos (h:GI ro n s i) (hi:i<s.op.length) (hn:s.op.getD i 0≠-1):1≤s.ct.getD (s.op.getD i 0).toNat 0∧s.ct.getD (s.op.getD i 0).toNat 0≤1000:=by
 have hc:=(h.okp _ (al 0 hi)).cell hn
 obtain⟨c,e⟩:∃c:Nat,s.op.getD i 0=(c:Int):=⟨(s.op.getD i 0).toNat,by omega⟩
 have hd:=zJ hi (c:Int)
 rw[if_pos e]at hd
 rw[e,Int.toNat_natCast,h.cn c (by omega)]
 unfold LQ
 have h1:=List.count_le_length (a:=(c:Int)) (l:=s.l)
 have h2:=List.count_le_length (a:=(c:Int)) (l:=s.r)
 have h3:=List.count_le_length (a:=(c:Int)) (l:=ro)
 have h4:=List.count_le_length (a:=(c:Int)) (l:=s.op.drop i)
 have h5:(s.op.drop i).length≤s.op.length:=by simp
 have:=h.ll;have:=h.lr;have:=h.n8;have:=h.r3;have:=h.b
 omega
end gi
theorem yH {l r ro:List Int} {K:List Int→Prop} (hy:be l r ro→K (nC l r ro)) (hn:¬be l r ro→K []):mI l r ro K:=by
 refine b7 (br (fun h=>hn (by simpa using h)) fun h=> ?_)
 have hv:be l r ro:=by simpa using h
 have h8:=hv.l8;have hlr:=hv.lr;have h3:=hv.r3
 refine⟨⟨by simp[aa],rfl,by simp only[aa];omega⟩,by omega,by omega,by simp;omega, ?_⟩
 have hok:∀x∈l++r++ro,dH l.length x:=by
  intro x hx
  simp at hx
  rcases hx with hx|hx|hx
  ·exact hv.okl x hx
  ·exact hv.okr x hx
  ·exact hv.oko x hx
 have hq:(l++r++ro).length≤100:=by simp;omega
 have hF:nC l r ro=gc (l++r++ro) l.length (l++r++ro).length:=by unfold nC;simp
 generalize l++r++ro=q at hok hq hF
 refine af (fun i s=>s=((i:Int),gc q l.length i,q)) q.length ?_ ?_ ?_
 ·have:gc q l.length 0=List.replicate l.length 0:=by
   refine cq 0 _ _ (by simp[dW]) fun j hj=> ?_
   rw[dW]at hj
   rw[eY hj,aw (by simpa using hj)];simp
  rw[this];simp[aa]
 ·rintro i _ hi rfl Kb hKb
  have hx:=hok _ (al 0 hi)
  refine ap (by simp[aa];exact hi) ⟨by rw[aj];exact hi,br (fun e=> ?_) fun e=>hKb _ ?_⟩
  ·have e:q.getD i 0≠-1:=by simpa only[an,bne_iff_ne]using e
   have hc:=hx.cell e
   have hb:aq (q.getD i 0) (gc q l.length i).length:=⟨hc.1,by rw[dW];exact hc.2⟩
   have hcc:(gc q l.length i).getD (q.getD i 0).toNat 0≤100∧0≤(gc q l.length i).getD (q.getD i 0).toNat 0:=by
    rw[eY (by omega)]
    have:=List.count_le_length (a:=(((q.getD i 0).toNat:Nat):Int)) (l:=q.take i)
    have h2:(q.take i).length≤q.length:=by simp;omega
    omega
   have hadd:ah ((gc q l.length i).getD (q.getD i 0).toNat 0) 1=(gc q l.length i).getD (q.getD i 0).toNat 0+1:=bF (by omega) (by omega)
   simp only[an]
   refine⟨by rw[aj];exact hi,by rw[aj];exact hi,hb,hb,hKb _ ?_⟩
   rw[ai (by omega),←uH hi hc.1 hc.2]
   simp only[uL,fG,hadd]
  ·have e:q.getD i 0= -1:=by simpa only[an,bne_eq_false_iff_eq]using e
   rw[ai (by omega),vk hi e]
 ·rintro _ rfl Kb
  refine ak (by simp[aa]) ?_
  rw[←hF];exact hy hv
structure DB (B:Nat) (l r ro:List Int):Prop where
 l1:1≤l.length
 l:l.length≤B
 r:r.length≤B
 ro:ro.length≤B
theorem DB.le {B B':Nat} {l r ro:List Int} (h:DB B l r ro) (hb:B≤B'):DB B' l r ro:=⟨h.l1,by have:=h.l;omega,by have:=h.r;omega,by have:=h.ro;omega⟩
theorem n6 {x:Int} {K:List UInt8→Prop} (h0:0≤x) (h1:x<100) (hK:K (Lib.decDigits x.toNat)):bv x K:=⟨⟨by omega,by omega⟩,by unfold Lib.itoa;rw[if_neg (by omega)];exact hK⟩
theorem ku {n:Nat} (h:n<10):Lib.decDigits n=[UInt8.ofNat (48+n)]:=by unfold Lib.decDigits;rw[dif_pos h]
theorem HO {n:Nat} (h:10≤n) (h2:n<100):Lib.decDigits n=[UInt8.ofNat (48+n/10),UInt8.ofNat (48+n % 10)]:=by
 rw[Lib.decDigits,dif_neg (by omega),ku (by omega)];rfl
theorem fx {n:Nat} (h:n<100):(Lib.decDigits n).length≤2:=by
 by_cases h1:n<10
 ·rw[ku h1];simp
 ·rw[HO (by omega) h];simp
def mC (x:Int):List UInt8:=if x= -1 then[45]else Lib.decDigits x.toNat
theorem rH {x:Int} (h0: -1≤x) (h1:x<10):mC x=if x= -1 then[45]else[UInt8.ofNat (48+x.toNat)]:=by
 unfold mC
 split
 ·rfl
 ·rw[ku (by omega)]
theorem cj {x:Int} (h0: -1≤x) (h1:x<10):(mC x).length=1:=by rw[rH h0 h1];split<;>rfl
theorem kg:∀a:Fin 10,∀b:Fin 10,(UInt8.ofNat (48+a.1)=UInt8.ofNat (48+b.1)→a=b)∧UInt8.ofNat (48+a.1)≠45:=by decide
theorem ue {x y:Int} (x0: -1≤x) (x1:x<10) (y0: -1≤y) (y1:y<10) (h:mC x=mC y):x=y:=by
 rw[rH x0 x1,rH y0 y1]at h
 split at h
 ·split at h
  ·omega
  ·rename_i e1 e2
   simp only[List.cons.injEq,and_true]at h
   exact absurd h.symm (kg ⟨y.toNat,by omega⟩ 0).2
 ·split at h
  ·rename_i e1 e2
   simp only[List.cons.injEq,and_true]at h
   exact absurd h (kg ⟨x.toNat,by omega⟩ 0).2
  ·simp only[List.cons.injEq,and_true]at h
   have:=(kg ⟨x.toNat,by omega⟩ ⟨y.toNat,by omega⟩).1 h
   simp only[Fin.mk.injEq]at this
   omega
theorem wX {x:Int} {K:List UInt8→Prop} (h0: -1≤x) (h1:x<10) (hK:K (mC x)):my x K:=by
 unfold mC at hK
 exact br (fun e=>by rw[if_pos (beq_iff_eq.1 e)]at hK;exact hK) fun e=>by
  have e:=beq_eq_false_iff_ne.1 e
  rw[if_neg e]at hK
  exact n6 (by omega) (by omega) hK
def g8 (f:Nat→List UInt8) (n:Nat):List UInt8:=(List.range n).flatMap f
theorem bJ (f:Nat→List UInt8) (n:Nat):g8 f (n+1)=g8 f n++f n:=by simp[g8,List.range_succ]
theorem aZ {f:Nat→List UInt8} {k:Nat}:∀{n:Nat},(∀i,i<n→(f i).length=k)→(g8 f n).length=n*k
 |0,_=>by simp[g8]
 |n+1,h=>by rw[bJ,List.length_append,aZ (fun i hi=>h i (by omega)),h n (by omega),Nat.succ_mul]
theorem xB {f g:Nat→List UInt8} {k:Nat}:∀{n:Nat},(∀i,i<n→(f i).length=k)→(∀i,i<n→(g i).length=k)→g8 f n=g8 g n→∀i,i<n→f i=g i
 |0,_,_,_,i,hi=>by omega
 |n+1,hf,hg,h,i,hi=>by
  rw[bJ,bJ]at h
  have h:=List.append_inj h (by rw[aZ (fun i hi=>hf i (by omega)),aZ (fun i hi=>hg i (by omega))])
  rcases Nat.lt_succ_iff_lt_or_eq.1 hi with e|e
  ·exact xB (fun i hi=>hf i (by omega)) (fun i hi=>hg i (by omega)) h.1 i e
  ·subst e;exact h.2
theorem sS {f g:Nat→List UInt8} {k n:Nat} {t t':List UInt8} (hf:∀i,i<n→(f i).length=k) (hg:∀i,i<n→(g i).length=k) (h:g8 f n++t=g8 g n++t'):(∀i,i<n→f i=g i)∧t=t':=by
 have h:=List.append_inj h (by rw[aZ hf,aZ hg])
 exact⟨xB hf hg h.1,h.2⟩
def eS (l r:List Int) (n:Nat):List UInt8:=g8 (fun i=>(mC (l.getD i 0)++mC (r.getD i 0))++[32]) n
def iL (ro:List Int) (n:Nat):List UInt8:=g8 (fun i=>[32]++mC (ro.getD i 0)) n
def nJ (l r ro:List Int):List UInt8:=(eS l r l.length++[47])++iL ro ro.length
def da (fr:List Int) (n:Nat):List UInt8:=g8 (fun i=>[32]++Lib.decDigits (fr.getD i 0).toNat) n
theorem be.at {l r ro:List Int} (h:be l r ro):(∀i,i<l.length→dH l.length (l.getD i 0))∧(∀i,i<l.length→dH l.length (r.getD i 0))∧(∀i,i<ro.length→dH l.length (ro.getD i 0)):=
 ⟨fun i hi=>h.okl _ (al 0 hi),fun i hi=>h.okr _ (al 0 (by have:=h.lr;omega)),fun i hi=>h.oko _ (al 0 hi)⟩
theorem ed {l r ro:List Int} (h:be l r ro):∀i,i<l.length→((mC (l.getD i 0)++mC (r.getD i 0))++[32]).length=3:=fun i hi=>by
 have a:=h.at.1 i hi;have b:=h.at.2.1 i hi;have h8:=h.l8
 unfold dH at a b
 simp only[List.length_append,cj (x:=l.getD i 0) (by omega) (by omega),cj (x:=r.getD i 0) (by omega) (by omega),List.length_cons,List.length_nil]
theorem jT {l r ro:List Int} (h:be l r ro):∀i,i<ro.length→([32]++mC (ro.getD i 0)).length=2:=fun i hi=>by
 have a:=h.at.2.2 i hi;have h8:=h.l8
 unfold dH at a
 simp only[List.length_append,cj (x:=ro.getD i 0) (by omega) (by omega),List.length_cons,List.length_nil]
theorem m8 {l r ro:List Int} (h:be l r ro):(nJ l r ro).length≤31:=by
 have h8:=h.l8;have r3:=h.r3
 unfold nJ eS iL
 rw[List.length_append,List.length_append,aZ (ed h),aZ (jT h)]
 simp;omega
theorem oT {l r ro:List Int} {K:List UInt8→Prop} (hK:be l r ro→K (nJ l r ro)) (hn:¬be l r ro→K []):gf l r ro K:=by
 refine dx (br (fun e=>hn (by simpa using e)) fun e=> ?_)
 have hv:be l r ro:=by simpa using e
 replace hK:=hK hv
 have h8:=hv.l8;have r3:=hv.r3;have hlr:=hv.lr
 refine af (fun i s=>s=(eS l r i,len l,(i:Int),l,r,ro)) l.length rfl ?_ ?_
 ·rintro i _ hi rfl Kb hKb
  have a:=hv.at.1 i hi;have b:=hv.at.2.1 i hi
  unfold dH at a b
  have e1:(eS l r i).length=i*3:=aZ fun j hj=>ed hv j (by omega)
  have e2:=cj (x:=l.getD i 0) (by omega) (by omega)
  have e3:=cj (x:=r.getD i 0) (by omega) (by omega)
  refine ap (by simp[aa];exact hi) ⟨by rw[aj];exact hi, ?_⟩
  simp only[an]
  refine wX (by omega) (by omega) ⟨by rw[aj];omega,wX (by omega) (by omega) ⟨by omega,by simp[-List.getD_eq_getElem?_getD,e2,e3],by simp[-List.getD_eq_getElem?_getD,e1,e2,e3];omega,hKb _ ?_⟩⟩
  rw[ai (by omega)]
  unfold eS
  rw[bJ]
 ·rintro _ rfl Kb
  refine ak (by simp[aa]) ⟨?_, ?_⟩
  ·have e1:(eS l r l.length).length=l.length*3:=aZ (ed hv)
   simp[e1];omega
  refine af (fun i s=>s=((eS l r l.length++[47])++iL ro i,ro,len ro,(i:Int))) ro.length (by simp[iL,g8]) ?_ ?_
  ·rintro i _ hi rfl Kb hKb
   have a:=hv.at.2.2 i hi
   unfold dH at a
   have e1:(eS l r l.length).length=l.length*3:=aZ (ed hv)
   have e4:(iL ro i).length=i*2:=aZ fun j hj=>jT hv j (by omega)
   have e2:=cj (x:=ro.getD i 0) (by omega) (by omega)
   refine ap (by simp[aa];exact hi) ⟨by rw[aj];exact hi, ?_⟩
   simp only[an]
   refine wX (by omega) (by omega) ⟨by simp[-List.getD_eq_getElem?_getD,e2],by simp[-List.getD_eq_getElem?_getD,e1,e2,e4];omega,hKb _ ?_⟩
   rw[ai (by omega)]
   unfold iL
   rw[bJ,List.append_assoc]
  ·rintro _ rfl Kb
   exact ak (by simp[aa]) hK
theorem pq {l r ro fr:List Int} (h:dR l r ro fr):∀i,i<fr.length→([32]++Lib.decDigits (fr.getD i 0).toNat).length=2:=fun i hi=>by
 have a:=h.c.ok _ (al 0 hi);have h8:=h.h.l8
 rw[ku (by omega)];rfl
theorem El {l r ro fr:List Int} {K:List UInt8→Prop} (hv:dR l r ro fr) (hK:K (da fr fr.length)):ef fr K:=by
 have h8:=hv.h.l8;have f8:=hv.f8
 refine af (fun i s=>s=(da fr i,fr,len fr,(i:Int))) fr.length (by simp[da,g8]) ?_ ?_
 ·rintro i _ hi rfl Kb hKb
  have a:=hv.c.ok _ (al (0:Int) hi)
  have e4:(da fr i).length=i*2:=aZ fun j hj=>pq hv j (by omega)
  have e2:=pq hv i hi
  refine ap (by simp[aa];exact hi) ⟨by rw[aj];exact hi, ?_⟩
  simp only[an]
  refine n6 (by omega) (by omega) ⟨by have:=fx (n:=(fr.getD i 0).toNat) (by omega);simp only[List.length_cons,List.length_nil];omega,by rw[e4,e2];omega,hKb _ ?_⟩
  rw[ai (by omega)]
  unfold da
  rw[bJ]
 ·rintro _ rfl Kb
  exact ak (by simp[aa]) hK
def lg (s:aB):List UInt8:=(nJ s.h.l s.h.r s.h.ro++[32,102,114,101,101])++da s.free s.free.length
theorem k8 {l r ro fr:List Int} (h:dR l r ro fr):(lg ⟨⟨l,r,ro⟩,fr⟩).length≤60:=by
 have:=m8 h.h;have f8:=h.f8;have h8:=h.h.l8
 unfold lg da
 rw[List.length_append,List.length_append,aZ (pq h)]
 simp;omega
theorem nL {l r ro fr:List Int} {K:List UInt8→Prop} (hv:dR l r ro fr) (hK:K (lg ⟨⟨l,r,ro⟩,fr⟩)):fA l r ro fr K:=by
 have f8:=hv.f8;have h8:=hv.h.l8
 have h31:=m8 hv.h
 refine c7 (by omega) (ak (by simp[hv]) (oT (fun _=>⟨by simp;omega,El hv ⟨?_,hK⟩⟩) fun h=>absurd hv.h h))
 have:(da fr fr.length).length=fr.length*2:=aZ (pq hv)
 simp;omega
def DE (p:Int):List UInt8:=gS [[105,100,108,101],[114,111,111,116,115],[109,97,114,107],[115,119,101,101,112]] p
def n5 (col:List Int) (n:Nat):List UInt8:=g8 (fun i=>sub ([119,103,98]:List UInt8) (col.getD i 0) (col.getD i 0+1)) n
def oS (i:Int) (lost:Bool):List UInt8:=[32,97,116,32]++Lib.decDigits i.toNat++if lost then[32,108,111,115,116]else[]
def eB (b:av):List UInt8:=lg b.s++([32]++(DE b.g.phase++([32]++(Lib.decDigits b.g.pos.toNat++([32]++(n5 b.g.color b.g.color.length++oS b.pos b.lost))))))
theorem ie {n:Nat} {col:List Int} (h:fy n col):∀i,i<col.length→(sub ([119,103,98]:List UInt8) (col.getD i 0) (col.getD i 0+1)).length=1:=fun i hi=>by
 have a:=h.ok _ (al 0 hi)
 generalize col.getD i 0=x at a
 rcases(show x=0∨x=1∨x=2 by omega)with rfl|rfl|rfl<;>rfl
theorem JZ {s:aB} {g:lu} (h:kI s g):g.phase=0∨g.phase=1∨g.phase=2∨g.phase=3:=by have:=h.p;unfold jt at this;omega
theorem D1 {s:aB} {g:lu} (h:kI s g):0≤g.pos∧g.pos<8:=by have hp:=h.p;have:=h.sv.h.l8;have:=h.sv.h.r3;unfold jt at hp;omega
theorem vZ {p:Int} (h:p=0∨p=1∨p=2∨p=3):(DE p).length≤5:=by rcases h with rfl|rfl|rfl|rfl<;>decide
theorem fD {l r ro fr col:List Int} {ph a i:Int} {ops:List aA} {lost:Bool} {K:List UInt8→Prop} (h:cf ⟨⟨⟨l,r,ro⟩,fr⟩,⟨ph,col,a⟩,ops,i,lost⟩)
  (hK:K (eB ⟨⟨⟨l,r,ro⟩,fr⟩,⟨ph,col,a⟩,ops,i,lost⟩)):ce l r ro fr ph col a ops i lost K:=by
 have sm:=h.sm
 have hv:dR l r ro fr:=h.g.sv
 have hc:fy l.length col:=h.g.c
 have hp:=JZ h.g
 have ha:=D1 h.g
 have i0:=h.i0;have i1:=h.i1;have o12:=h.o.len
 have f8:=hv.f8;have h8:=hv.h.l8;have cl:=hc.len
 simp only at hp ha i0 i1 o12
 have e1:=k8 hv
 have e2:=vZ hp
 have e3:=fx (n:=a.toNat) (by omega)
 have e5:=fx (n:=i.toNat) (by omega)
 refine cJ (by omega) (by omega) (by omega) (ak (by simp[h]) (nL hv ⟨by simp;omega,⟨by omega,by show ph<4;omega⟩, ?_⟩))
 have e2':(gS [[105,100,108,101],[114,111,111,116,115],[109,97,114,107],[115,119,101,101,112]] ph).length≤5:=e2
 refine⟨by simp only[List.length_append,List.length_cons,List.length_nil];omega,by simp only[List.length_append,List.length_cons,List.length_nil];omega,n6 (by omega) (by omega) ⟨by simp only[List.length_append,List.length_cons,List.length_nil];omega,by simp only[List.length_append,List.length_cons,List.length_nil];omega, ?_⟩⟩
 refine af (fun j s=>s=((((((lg ⟨⟨l,r,ro⟩,fr⟩++[32])++DE ph)++[32])++Lib.decDigits a.toNat)++[32])++n5 col j,col,len col,(j:Int),l,r,ro,fr,ph,col,a,ops,i,lost)) col.length (by simp[n5,g8,DE]) ?_ ?_
 ·rintro j _ hj rfl Kb hKb
  have ac:=hc.ok _ (al (0:Int) hj)
  have e6:(n5 col j).length=j*1:=aZ fun k hk=>ie hc k (by omega)
  have e7:=ie hc j hj
  have e8:ah (col.getD j 0) 1=col.getD j 0+1:=bF (by omega) (by omega)
  refine ap (by simp[aa];exact hj) ⟨by rw[aj];exact hj, ?_⟩
  simp only[an,e8]
  refine⟨⟨by omega,by omega,by simp only[aa,List.length_cons,List.length_nil];omega⟩,by rw[e7];simp only[List.length_append,List.length_cons,List.length_nil];omega,hKb _ ?_⟩
  rw[ai (by omega)]
  unfold n5
  rw[bJ,List.append_assoc]
 ·rintro _ rfl Kb
  have e6:(n5 col col.length).length=col.length*1:=aZ (ie hc)
  refine ak (by simp[aa]) (n6 (x:=i) (by omega) (by omega) ⟨by simp only[List.length_cons,List.length_nil];omega,by simp only[List.length_append,List.length_cons,List.length_nil];omega, ?_⟩)
  unfold eB oS at hK
  simp only[List.append_assoc]at hK⊢
  refine br (fun e=>⟨by simp only[List.length_append,List.length_cons,List.length_nil];omega, ?_⟩) fun e=> ?_
  ·rw[show lost=true from e]at hK
   simpa using hK
  ·rw[show lost=false from e]at hK
   simpa using hK
theorem EQ {fr fr':List Int} {c c':UInt8} {t t':List UInt8} (hc:97≤c) (hc':97≤c') (h:∀x∈fr,0≤x∧x<10) (h':∀x∈fr',0≤x∧x<10)
  (e:(fr.flatMap fun x=>[32]++Lib.decDigits x.toNat)++32::c::t=(fr'.flatMap fun x=>[32]++Lib.decDigits x.toNat)++32::c'::t'):fr=fr'∧c::t=c'::t':=by
 have dl:∀x:Int,0≤x∧x<10→∀d:UInt8,97≤d→UInt8.ofNat (48+x.toNat)≠d:=fun x hx d hd q=>by
  have:=UInt8.le_iff_toNat_le.1 hd
  rw[←q,UInt8.toNat_ofNat']at this
  have:UInt8.toNat 97=97:=rfl
  omega
 induction fr generalizing fr' with
 |nil=>
  cases fr' with
  |nil=>simpa using e
  |cons y fr'=>
   exfalso
   have hy:=h' y (by simp)
   rw[List.flatMap_cons,ku (by omega)]at e
   simp only[List.flatMap_nil,List.nil_append,List.cons_append,List.cons.injEq,true_and]at e
   exact dl y hy c hc e.1.symm
 |cons x fr ih=>
  have hx:=h x (by simp)
  rw[List.flatMap_cons,ku (n:=x.toNat) (by omega)]at e
  cases fr' with
  |nil=>
   exfalso
   simp only[List.flatMap_nil,List.nil_append,List.cons_append,List.cons.injEq,true_and]at e
   exact dl x hx c' hc' e.1
  |cons y fr'=>
   have hy:=h' y (by simp)
   rw[List.flatMap_cons,ku (n:=y.toNat) (by omega)]at e
   simp only[List.cons_append,List.nil_append,List.cons.injEq,true_and]at e
   have:=(kg ⟨x.toNat,by omega⟩ ⟨y.toNat,by omega⟩).1 e.1
   simp only[Fin.mk.injEq]at this
   have e2:=ih (fun z hz=>h z (by simp[hz])) (fun z hz=>h' z (by simp[hz])) e.2
   exact⟨by rw[e2.1,show x=y by omega],e2.2⟩
theorem uJ {l:List Int} {f:Int→List UInt8}:∀n,n≤l.length→g8 (fun i=>f (l.getD i 0)) n=(l.take n).flatMap f
 |0,_=>by simp[g8]
 |n+1,h=>by
  rw[bJ,uJ n (by omega),List.take_add_one,List.getElem?_eq_getElem (by omega),List.flatMap_append,aw (by omega)]
  simp
theorem sc (fr:List Int):da fr fr.length=fr.flatMap fun x=>[32]++Lib.decDigits x.toNat:=by
 unfold da
 rw[uJ (f:=fun x=>[32]++Lib.decDigits x.toNat) _ (Nat.le_refl _),List.take_length]
theorem CR {l r ro l' r' ro':List Int} {t t':List UInt8} (h:be l r ro) (h':be l' r' ro') (hl:l.length=l'.length) (hr:ro.length=ro'.length) (e:nJ l r ro++t=nJ l' r' ro'++t'):l=l'∧r=r'∧ro=ro'∧t=t':=by
 unfold nJ eS iL at e
 rw[←hl,←hr]at e
 simp only[List.append_assoc]at e
 have h8:=h.l8;have h8':=h'.l8;have q1:=h.lr;have q2:=h'.lr
 have e1:=sS (fun i hi=>by have:=ed h i hi;simpa only[List.append_assoc]using this) (fun i hi=>by have:=ed h' i (by omega);simpa only[List.append_assoc]using this) e
 have e2:=e1.2
 simp only[List.cons_append,List.nil_append,List.cons.injEq,true_and]at e2
 have e3:=sS (jT h) (fun i hi=>jT h' i (by omega)) (f:=fun i=>[32]++mC (ro.getD i 0)) (g:=fun i=>[32]++mC (ro'.getD i 0)) e2
 refine⟨cq 0 l l' hl fun j hj=> ?_,cq 0 r r' (by omega) fun j hj=> ?_,cq 0 ro ro' hr fun j hj=> ?_,e3.2⟩
 ·have a:=h.at.1 j hj;have a':=h'.at.1 j (by omega)
  unfold dH at a a'
  have:=e1.1 j hj
  exact ue (by omega) (by omega) (by omega) (by omega) (List.append_inj this (by rw[cj (by omega) (by omega),cj (by omega) (by omega)])).1
 ·have a:=h.at.1 j (by omega);have a':=h'.at.1 j (by omega);have b:=h.at.2.1 j (by omega);have b':=h'.at.2.1 j (by omega)
  unfold dH at a a' b b'
  have:=e1.1 j (by omega)
  have:=(List.append_inj this (by rw[cj (by omega) (by omega),cj (by omega) (by omega)])).2
  exact ue (by omega) (by omega) (by omega) (by omega) (List.append_inj this (by rw[cj (by omega) (by omega),cj (by omega) (by omega)])).1
 ·have a:=h.at.2.2 j hj;have a':=h'.at.2.2 j (by omega)
  unfold dH at a a'
  have:=e3.1 j hj
  simp only[List.cons_append,List.nil_append,List.cons.injEq,true_and]at this
  exact ue (by omega) (by omega) (by omega) (by omega) this
theorem Gb:∀x:Fin 3,∀y:Fin 3,sub ([119,103,98]:List UInt8) (x.1:Int) ((x.1:Int)+1)=sub ([119,103,98]:List UInt8) (y.1:Int) ((y.1:Int)+1)→x=y:=by decide
theorem FC {i j:Int} {x y:Bool} (i0:0≤i) (i1:i≤12) (j0:0≤j) (j1:j≤12) (e:oS i x=oS j y):i=j∧x=y:=by
 have key:∀a:Fin 13,∀b:Fin 13,∀x y:Bool,((if a.1<10 then[UInt8.ofNat (48+a.1)]else[UInt8.ofNat (48+a.1/10),UInt8.ofNat (48+a.1 % 10)])++if x then([32,108,111,115,116]:List UInt8)else[])=((if b.1<10 then[UInt8.ofNat (48+b.1)]else[UInt8.ofNat (48+b.1/10),UInt8.ofNat (48+b.1 % 10)])++if y then([32,108,111,115,116]:List UInt8)else[])→a=b∧x=y:=by decide
 have hd:∀k:Int,0≤k→k≤12→Lib.decDigits k.toNat=if k.toNat<10 then[UInt8.ofNat (48+k.toNat)]else[UInt8.ofNat (48+k.toNat/10),UInt8.ofNat (48+k.toNat % 10)]:=fun k h0 h1=>by
  split
  ·exact ku (by assumption)
  ·exact HO (by omega) (by omega)
 unfold oS at e
 simp only[List.append_assoc]at e
 have e:=List.append_cancel_left e
 rw[hd i i0 i1,hd j j0 j1]at e
 have:=key ⟨i.toNat,by omega⟩ ⟨j.toNat,by omega⟩ x y e
 simp only[Fin.mk.injEq]at this
 exact⟨by omega,this.2⟩
theorem Ir {p p':Int} (h:p=0∨p=1∨p=2∨p=3) (h':p'=0∨p'=1∨p'=2∨p'=3) {t t':List UInt8} (e:DE p++t=DE p'++t'):p=p'∧t=t':=by
 rcases h with rfl|rfl|rfl|rfl<;>rcases h' with rfl|rfl|rfl|rfl<;>simp[DE,gS,EK.dflt]at e⊢<;>exact e
theorem Br {p:Int} (h:p=0∨p=1∨p=2∨p=3):∃c t,DE p=c::t∧(97:UInt8)≤c:=by
 rcases h with rfl|rfl|rfl|rfl<;>exact⟨_,_,rfl,by decide⟩
theorem Cu {b b':av} (h:cf b) (h':cf b') (hl:b.s.h.l.length=b'.s.h.l.length) (hr:b.s.h.ro.length=b'.s.h.ro.length) (ho:b.ops=b'.ops) (e:eB b=eB b'):b=b':=by
 obtain⟨⟨⟨l,r,ro⟩,fr⟩,⟨ph,col,a⟩,ops,i,lost⟩:=b
 obtain⟨⟨⟨l',r',ro'⟩,fr'⟩,⟨ph',col',a'⟩,ops',i',lost'⟩:=b'
 have g:=h.g;have g':=h'.g
 have p4:=JZ g;have p4':=JZ g'
 have a8:=D1 g;have a8':=D1 g'
 have i0:=h.i0;have i1:=h.i1;have o12:=h.o.len
 have i0':=h'.i0;have i1':=h'.i1;have o12':=h'.o.len
 have hc:fy l.length col:=g.c
 have hc':fy l'.length col':=g'.c
 have hs:dR l r ro fr:=g.sv
 have hs':dR l' r' ro' fr':=g'.sv
 have h8:=hs.h.l8;have h8':=hs'.h.l8;have cl:=hc.len;have cl':=hc'.len
 simp only at hl hr ho p4 p4' a8 a8' i0 i1 o12 i0' i1' o12'
 unfold eB lg at e
 simp only[List.append_assoc]at e
 obtain⟨rfl,rfl,rfl,f1⟩:=CR hs.h hs'.h hl hr e
 have f2:=List.append_cancel_left f1
 rw[sc,sc]at f2
 obtain⟨c,t,q1,q2⟩:=Br p4
 obtain⟨c',t',q1',q2'⟩:=Br p4'
 rw[q1,q1']at f2
 obtain⟨rfl,f3⟩:=EQ (fr:=fr) (fr':=fr') q2 q2' (fun x hx=>by have:=hs.c.ok x hx;omega) (fun x hx=>by have:=hs'.c.ok x hx;omega) f2
 have f4:DE ph++([32]++(Lib.decDigits a.toNat++([32]++(n5 col col.length++oS i lost))))=DE ph'++([32]++(Lib.decDigits a'.toNat++([32]++(n5 col' col'.length++oS i' lost')))):=by rw[q1,q1'];exact f3
 obtain⟨rfl,f5⟩:=Ir p4 p4' f4
 have f6:=List.append_cancel_left f5
 rw[ku (n:=a.toNat) (by omega),ku (n:=a'.toNat) (by omega)]at f6
 simp only[List.cons_append,List.nil_append,List.cons.injEq,true_and]at f6
 have ea:=(kg ⟨a.toNat,by omega⟩ ⟨a'.toNat,by omega⟩).1 f6.1
 simp only[Fin.mk.injEq]at ea
 have f7:=f6.2
 rw[show col'.length=col.length by omega]at f7
 unfold n5 at f7
 have ec:=sS (ie hc) (fun i hi=>ie hc' i (by omega)) (f:=fun i=>sub ([119,103,98]:List UInt8) (col.getD i 0) (col.getD i 0+1)) (g:=fun i=>sub ([119,103,98]:List UInt8) (col'.getD i 0) (col'.getD i 0+1)) f7
 have et:=FC i0 (by omega) i0' (by omega) ec.2
 have hcol:col=col':=cq 0 col col' (by omega) fun j hj=>by
  have k:=hc.ok _ (al (0:Int) hj);have k':=hc'.ok _ (al (0:Int) (l:=col') (i:=j) (by omega))
  have:=ec.1 j hj
  generalize col.getD j 0=x at this k
  generalize col'.getD j 0=y at this k'
  have:=Gb ⟨x.toNat,by omega⟩ ⟨y.toNat,by omega⟩ (by simp only;rw[show((x.toNat:Nat):Int)=x by omega,show((y.toNat:Nat):Int)=y by omega];exact this)
  simp only[Fin.mk.injEq]at this
  omega
 rw[hcol,et.1,et.2,ho,show a=a' by omega]
def dg (x:Int):List UInt8:=[UInt8.ofNat (48+x.toNat)]
def cO (o:aA):List UInt8:=if o.kind=1∨o.kind=7 then(nP o.kind++[32])++dg o.a else(((nP o.kind++[32])++dg o.a)++[32])++dg o.b
theorem IG:∀a:Fin 10,aI [IntKind.u8.wrap (ah 48 (a.1:Int))]=[UInt8.ofNat (48+a.1)]:=by decide+kernel
theorem zB {p:Int} {K:List UInt8→Prop} (h0:0≤p) (h9:p≤9) (hK:K (dg p)):dE p K:=by
 refine ak (by simp;omega) (ak (by simp;omega) ?_)
 refine af (fun i st=>st=(p,([]:List UInt8))) 0 rfl (fun i s hi=>absurd hi (by omega)) ?_
 rintro _ rfl Kb
 refine ak (by simp;omega) ⟨by simp,by simp[aI], ?_⟩
 have:=IG ⟨p.toNat,by omega⟩
 simp only[show((p.toNat:Nat):Int)=p by omega]at this
 simp only[this,List.append_nil]
 exact hK
theorem qV {k a b:Int} {K:List UInt8→Prop} (hy:bB ⟨k,a,b⟩ 3→K (cO ⟨k,a,b⟩)) (hn:¬bB ⟨k,a,b⟩ 3→K []):jw k a b K:=by
 refine jh (q:=3) rfl (br (fun e=>hn (by simpa using e)) fun e=> ?_)
 have ho:bB ⟨k,a,b⟩ 3:=by simpa using e
 replace hy:=hy ho
 have a0:=ho.a0;have a3:=ho.a3;have b0:=ho.b0;have b3:=ho.b3
 simp only at a0 a3 b0 b3
 have hw:=qw k
 unfold cO at hy
 refine xe ⟨by simp;omega,zB a0 (by omega) ⟨by simp[dg];omega,wZ (br (fun e=> ?_) fun e=>⟨by simp[dg];omega,zB b0 (by omega) ⟨by simp[dg];omega, ?_⟩⟩)⟩⟩
 ·rw[if_pos (of_decide_eq_true e)]at hy;exact hy
 ·rw[if_neg (of_decide_eq_false e)]at hy;exact hy
def vb:List aA:=(List.range 7).flatMap fun(k:Nat)=>(List.range 3).flatMap fun(a:Nat)=>(List.range 3).map fun(b:Nat)=>(⟨(k:Int)+1,(a:Int),(b:Int)⟩:aA)
def gX (s:List UInt8):Option aA:=vb.find? fun o=>decide (bB o 3)&&decide (cO o=s)
theorem o4 {o:aA} (h:bB o 3):o∈vb:=by
 obtain⟨k,a,b⟩:=o
 have k1:=h.k1;have k7:=h.k7;have a0:=h.a0;have a3:=h.a3;have b0:=h.b0;have b3:=h.b3
 simp only at k1 k7 a0 a3 b0 b3
 unfold vb
 simp only[List.mem_flatMap,List.mem_range,List.mem_map]
 exact⟨(k-1).toNat,by omega,a.toNat,by omega,b.toNat,by omega,by simp;omega⟩
theorem En:∀o∈vb,bB o 3→∀p∈vb,bB p 3→cO o=cO p→o=p:=by decide+kernel
theorem Bo {o p:aA} (ho:bB o 3) (hp:bB p 3) (h:cO o=cO p):o=p:=En o (o4 ho) ho p (o4 hp) hp h
theorem bT {s:List UInt8} {o:aA}:gX s=some o↔bB o 3∧cO o=s:=by
 constructor
 ·intro h
  have:=List.find?_some h
  simpa using this
 ·rintro⟨h1,h2⟩
  cases h:gX s with
  |none=>
   have:=List.find?_eq_none.1 h o (o4 h1)
   simp[h1,h2]at this
  |some p=>
   have:=List.find?_some h
   simp only[Bool.and_eq_true,decide_eq_true_eq]at this
   rw[Bo h1 this.1 (h2.trans this.2.symm)]
theorem mz {s:List UInt8}:gX s=none↔∀o,bB o 3→cO o≠s:=by
 constructor
 ·intro h o ho e
  rw[bT.2 ⟨ho,e⟩]at h;cases h
 ·intro h
  cases h2:gX s with
  |none=>rfl
  |some o=>exact absurd (bT.1 h2).2 (h o (bT.1 h2).1)
theorem AF {o:aA}:cO o≠[]:=by unfold cO dg;split<;>simp
theorem ta {s:List UInt8} {K:Int→Int→Int→Bool→Prop} (hy:∀o,gX s=some o→K o.kind o.a o.b true) (hn:gX s=none→K 0 0 0 false):i7 s K:=by
 refine af (fun i st=>st=(s,1+(i:Int),0,0,0)∧∀o,bB o 3→o.kind<1+(i:Int)→cO o≠s) 7 ⟨rfl,fun o ho h=>by have:=ho.k1;omega⟩ ?_ ?_
 ·rintro i _ hi ⟨rfl,hj⟩ Kb hKb
  refine ap (by simp;omega) ?_
  refine af (fun j st=>st=(s,1+(i:Int),(j:Int),0,0,0)∧∀o,bB o 3→o.kind=1+(i:Int)→o.a<(j:Int)→cO o≠s) 3 ⟨rfl,fun o ho _ h=>by have:=ho.a0;omega⟩ ?_ ?_
  ·rintro j _ hj2 ⟨rfl,hj3⟩ Kb2 hKb2
   refine ap (by simp;omega) ?_
   refine af (fun m st=>st=(s,1+(i:Int),(j:Int),(m:Int),0,0,0)∧∀o,bB o 3→o.kind=1+(i:Int)→o.a=(j:Int)→o.b<(m:Int)→cO o≠s) 3 ⟨rfl,fun o ho _ _ h=>by have:=ho.b0;omega⟩ ?_ ?_
   ·rintro m _ hm ⟨rfl,hm2⟩ Kb3 hKb3
    have next:(∀o,bB o 3→o.kind=1+(i:Int)→o.a=(j:Int)→o.b=(m:Int)→cO o≠s)→Kb3 (s,1+(i:Int),(j:Int),ah (m:Int) 1,0,0,0):=fun h=>hKb3 _ ⟨by rw[ai (by omega)],fun o ho h1 h2 h3=>by
     rcases Int.lt_or_eq_of_le (show o.b≤(m:Int) by omega)with q|q
     ·exact hm2 o ho h1 h2 q
     ·exact h o ho h1 h2 q⟩
    refine ap (by simp;omega) (br (fun e=>qV (fun hok=>br (fun e2=>hy ⟨1+(i:Int),(j:Int),(m:Int)⟩ (bT.2 ⟨hok,by simpa using e2⟩)) fun e2=>next fun o ho h1 h2 h3=> ?_) fun hok=>ak ?_ (next fun o ho h1 h2 h3=> ?_)) fun e=>next fun o ho h1 h2 h3=> ?_)
    ·have e2:cO ⟨1+(i:Int),(j:Int),(m:Int)⟩≠s:=by simpa using e2
     obtain⟨k,a,b⟩:=o
     simp only at h1 h2 h3
     rw[h1,h2,h3];exact e2
    ·have e:s≠[]:=by simpa using e
     simpa using e
    ·obtain⟨k,a,b⟩:=o
     simp only at h1 h2 h3
     rw[h1,h2,h3]at ho
     exact absurd ho hok
    ·have e:s=[]:=by simpa using e
     rw[e];exact AF
   ·rintro _ ⟨rfl,hm2⟩ Kb3
    refine ak (by simp) (hKb2 _ ⟨by rw[ai (by omega)],fun o ho h1 h2=> ?_⟩)
    rcases Int.lt_or_eq_of_le (show o.a≤(j:Int) by omega)with q|q
    ·exact hj3 o ho h1 q
    ·exact hm2 o ho h1 q ho.b3
  ·rintro _ ⟨rfl,hj3⟩ Kb2
   refine ak (by simp) (hKb _ ⟨?_,fun o ho h1=> ?_⟩)
   ·show(s,ah (1+(i:Int)) 1,(0:Int),(0:Int),(0:Int))=_
    rw[bF (by omega) (by omega)]
    simp only[Prod.mk.injEq,and_true,true_and];omega
   ·rcases Int.lt_or_eq_of_le (show o.kind≤1+(i:Int) by omega)with q|q
    ·exact hj o ho q
    ·exact hj3 o ho q ho.a3
 ·rintro _ ⟨rfl,hj⟩ Kb
  exact ak (by simp) (hn (mz.2 fun o ho=>hj o ho (by have:=ho.k7;omega)))
def wB (s:List UInt8) (c:UInt8):Nat→Nat→Nat→List (List UInt8)
 |0,_,_=>[]
 |n+1,f,i=>if i=s.length then[sub s (f:Int) (i:Int)]else if s.getD i 0=c then sub s (f:Int) (i:Int)::wB s c n (i+1) (i+1)else wB s c n f (i+1)
def vI (s:List UInt8) (c:UInt8):List (List UInt8):=wB s c (s.length+1) 0 0
theorem qx {s:List UInt8} {c:UInt8} {z:Int} {K:List (List UInt8)→Prop} (hz:z=(c.toNat:Int)) (hs:s.length<2^30) (hK:(vI s c).length≤s.length+1→K (vI s c)):jS s z K:=by
 subst hz
 refine af (fun i st=>∃(f:Nat) (q:List (List UInt8)),st=(s,(c.toNat:Int),(f:Int),(i:Int),q)∧f≤i∧q.length≤i∧q++wB s c (s.length+1-i) f i=vI s c) (s.length+1) ⟨0,[],rfl,by omega,by simp,by simp[vI]⟩ ?_ ?_
 ·rintro i _ hi ⟨f,q,rfl,hf,hq,ht⟩ Kb hKb
  rw[show s.length+1-i=(s.length+1-(i+1))+1 by omega]at ht
  unfold wB at ht
  have e:ah (i:Int) 1=(i:Int)+1:=by rw[bF (by omega) (by omega)]
  have hsub:(0:Int)≤(f:Int)∧(f:Int)≤(i:Int)∧(i:Int)≤len s:=⟨by omega,by omega,by simp only[aa];omega⟩
  have hq1:q.length+([sub s (f:Int) (i:Int)]:List (List UInt8)).length≤2^36:=by simp;omega
  refine ap (by simp[aa];omega) (br (fun h=>⟨hsub,hq1, ?_⟩) fun h=>⟨?_,br (fun h2=>⟨hsub,hq1, ?_⟩) fun h2=> ?_⟩)
  ·have h:=beq_iff_eq.1 h
   simp only[aa]at h
   rw[if_pos (by omega)]at ht
   simp only[e]
   refine hKb _ ⟨i+1,q++[sub s (f:Int) (i:Int)],by simp,by omega,by simp;omega, ?_⟩
   rw[show s.length+1-(i+1)=0 by omega]
   simpa[wB]using ht
  ·have h:=beq_eq_false_iff_ne.1 h
   simp only[aa]at h
   exact⟨by show(0:Int)≤(i:Int);omega,by show(i:Int)<(s.length:Int);omega⟩
  ·have h:=beq_eq_false_iff_ne.1 h
   simp only[aa]at h
   rw[if_neg (by omega),if_pos (gq.1 (by have:=beq_iff_eq.1 h2;rw[kS]at this;exact this))]at ht
   simp only[e]
   exact hKb _ ⟨i+1,q++[sub s (f:Int) (i:Int)],by simp,by omega,by simp;omega,by simpa using ht⟩
  ·have h:=beq_eq_false_iff_ne.1 h
   simp only[aa]at h
   rw[if_neg (by omega),if_neg (fun q=>by have:=beq_eq_false_iff_ne.1 h2;rw[kS]at this;exact this (gq.2 q))]at ht
   simp only[e]
   exact hKb _ ⟨f,q,by simp,by omega,by omega,ht⟩
 ·rintro _ ⟨f,q,rfl,hf,hq,ht⟩ Kb
  rw[show s.length+1-(s.length+1)=0 by omega]at ht
  unfold wB at ht
  rw[List.append_nil]at ht
  subst ht
  exact ak (decide_eq_false (by simp only[aa];omega)) (hK hq)
def oZ:Bool→List UInt8→Option aA
 |true,t=>gX t
 |false,[]=>none
 |false,c::t=>if c=32 then gX t else none
def gV:Bool→List (List UInt8)→Option (List aA)
 |_,[]=>some []
 |f,t::ts=>(oZ f t).bind fun o=>(gV false ts).map (o::·)
def qr (s:List UInt8):Option (List aA):=if s=[]then some []else if 12<(vI s 44).length then none else gV true (vI s 44)
theorem yI {s:List UInt8} {K:Bool→List aA→Prop} (hs:s.length<2^30) (hy:∀l,qr s=some l→K true l) (hn:qr s=none→K false []):jv s K:=by
 refine br (fun e=>hy _ ?_) fun e=>qx (c:=44) rfl hs fun hp=> ?_
 ·unfold qr;rw[if_pos (beq_iff_eq.1 e)]
 have e:s≠[]:=by simpa using e
 unfold qr at hy hn
 rw[if_neg e]at hy hn
 generalize vI s 44=parts at hp hy hn
 refine af (fun i st=>∃out:List aA,st=((i:Int),out,parts)∧out.length=i∧gV true parts=(gV (decide (i=0)) (parts.drop i)).map (out++·)) (min parts.length 13) ⟨[],rfl,rfl,by simp⟩ ?_ ?_
 ·rintro i _ hi ⟨out,rfl,hl,ho⟩ Kb hKb
  have hip:i<parts.length:=by omega
  have hd:parts.drop i=gS parts (i:Int)::parts.drop (i+1):=by
   rw[List.drop_eq_getElem_cons hip]
   show _=parts.getD (i:Int).toNat []::_
   rw[Int.toNat_natCast,aw hip]
  rw[hd]at ho
  simp only[gV]at ho
  have bad:oZ (decide (i=0)) (gS parts (i:Int))=none→K false []:=fun q=>hn (by
   split
   ·rfl
   ·rw[ho,q];rfl)
  have one:∀t:List UInt8,oZ (decide (i=0)) (gS parts (i:Int))=gX t→i7 t fun y5 y6 y7 y8=>((((!y8)=true→K false [])∧((!y8)=false→((out.length+List.length ([(aA.mk y5 y6 y7)]:List aA)≤2^36)∧(Kb (ah (i:Int) 1,out++[aA.mk y5 y6 y7],parts)))))):=fun t ht=>
   ta (fun o hok=>ak rfl ⟨by simp;omega,hKb _ ⟨out++[o],by rw[ai (by omega)],by simp;omega,by
    rw[ho,ht,hok,show(decide (i+1=0))=false by simp]
    simp only[Option.bind_some,Option.map_map]
    congr 1
    funext x
    simp⟩⟩) (fun q=>ap rfl (bad (ht.trans q)))
  have hin:aq (i:Int) parts.length:=by rw[aj];omega
  refine ap (by simp[aa];omega) (ap (by simp;omega) ⟨hin,br (fun e=>br (fun e1=>bad ?_) fun e1=>⟨?_,br (fun e2=>bad ?_) fun e2=> ?_⟩) fun e=>ak (b:=decide ((i:Int)>0)) e (one _ ?_)⟩)
  ·have e:(i:Int)>0:=of_decide_eq_true e
   have e1:gS parts (i:Int)=[]:=beq_iff_eq.1 e1
   rw[e1,show decide (i=0)=false by simp;omega];rfl
  ·have:(gS parts (i:Int))≠[]:=by simpa using e1
   have:=List.length_pos_iff.2 this
   exact⟨by omega,by show(0:Int)<((gS parts (i:Int)).length:Int);omega⟩
  ·have e:(i:Int)>0:=of_decide_eq_true e
   have e1:(gS parts (i:Int))≠[]:=by simpa using e1
   rw[show decide (i=0)=false by simp;omega]
   cases hg:gS parts (i:Int)with
   |nil=>exact absurd hg e1
   |cons c t=>
    rw[hg]at e2
    have e2:=bne_iff_ne.1 e2
    rw[show(0:Int)=((0:Nat):Int)from rfl,kS]at e2
    simp only[oZ]
    rw[if_neg fun q=>e2 (by rw[q];rfl)]
  ·have e':(i:Int)>0:=of_decide_eq_true e
   have e1:(gS parts (i:Int))≠[]:=by simpa using e1
   have hp:=List.length_pos_iff.2 e1
   refine ap (b:=decide ((i:Int)>0)) e ⟨⟨by omega,by simp only[aa];omega,by omega⟩,one _ ?_⟩
   rw[show decide (i=0)=false by simp;omega]
   cases hg:gS parts (i:Int)with
   |nil=>exact absurd hg e1
   |cons c t=>
    rw[hg]at e2
    have e2:=bne_eq_false_iff_eq.1 e2
    rw[show(0:Int)=((0:Nat):Int)from rfl,kS]at e2
    have:c=32:=gq.1 e2
    simp only[oZ]
    rw[if_pos this]
    simp[sub,aa]
  ·have e:¬(i:Int)>0:=of_decide_eq_false e
   rw[show decide (i=0)=true by simp;omega];rfl
 ·rintro _ ⟨out,rfl,hl,ho⟩ Kb
  have fin:(((decide ((len parts)>12))=true→(K false []))∧((decide ((len parts)>12))=false→(K true out))):=br (fun h=>hn ?_) fun h=>hy _ ?_
  ·by_cases h13:parts.length≤13
   ·exact ak (by simp[aa];omega) fin
   ·exact ap (by simp[aa];omega) (ak (decide_eq_false (by show ¬(((min parts.length 13:Nat):Int)≤12);omega)) fin)
  ·have h:=of_decide_eq_true h
   simp only[aa]at h
   rw[if_pos (by omega)]
  ·have h:=of_decide_eq_false h
   simp only[aa]at h
   rw[if_neg (by omega),ho,show min parts.length 13=parts.length by omega,List.drop_length]
   simp[gV]
def eU (b:av) (bar:Bool) (c:UInt8):Option av:=if b.lost=true then none else if c=111 then(if b.pos<b.ops.length then some (jr b bar)else none)else some (ew b)
def LW:ax:=EK.dflt .node
def nd (l:List ax) (j:Nat):ax:=l.getD j LW
theorem mc (l:List ax) (j:Nat):gN l (j:Int)=nd l j:=by simp[gN,nd,LW]
def dd (bar:Bool) (l:List ax) (x:ax) (c:UInt8):List ax:=
 match eU x.b bar c with
 |none=>l
 |some n=>if ∃y∈l,y.b=n then l else l++[⟨n,x.road++[c]⟩]
def wd (bar:Bool):Nat→Nat→List ax→Option (List ax)
 |0,_,_=>none
 |f+1,i,l=>if i<l.length then(if 400<(dd bar (dd bar l (nd l i) 103) (nd l i) 111).length then none else wd bar f (i+1) (dd bar (dd bar l (nd l i) 103) (nd l i) 111))else some l
def uq (b:av) (bar:Bool):Option (List ax):=wd bar 402 0 [⟨b,[]⟩]
theorem uM {b n:av} {bar:Bool} {c:UInt8} (h:eU b bar c=some n):b.lost=false∧n=ke b bar c:=by
 unfold eU at h
 split at h
 ·cases h
 ·rename_i hl
  have hl:b.lost=false:=by simpa using hl
  split at h
  ·rename_i hc
   split at h
   ·rename_i hp
    cases h
    exact⟨hl,Aq hl hc hp⟩
   ·cases h
  ·rename_i hc
   cases h
   exact⟨hl,Ai hl hc⟩
structure zr (b0 b:av):Prop where
 v:cf b
 l:b.s.h.l.length=b0.s.h.l.length
 r:b.s.h.ro.length=b0.s.h.ro.length
 o:b.ops=b0.ops
theorem sI (b:av) (bar:Bool):(jr b bar).s.h.l.length=b.s.h.l.length∧(jr b bar).s.h.ro.length=b.s.h.ro.length:=by
 unfold jr
 split
 ·exact⟨rfl,rfl⟩
 ·have:=j6 b.s (gO b.ops b.pos)
  exact⟨this.1,this.2.2⟩
theorem zb (b:av):(ew b).s.h.l.length=b.s.h.l.length∧(ew b).s.h.ro.length=b.s.h.ro.length:=by
 unfold ew
 split
 ·exact⟨rfl,rfl⟩
 ·have:=tr (s:=b.s) (g:=b.g)
  exact⟨this.1,by rw[this.2]⟩
theorem zr.next {b0 b n:av} {bar:Bool} {c:UInt8} (h:zr b0 b) (hn:eU b bar c=some n):zr b0 n:=by
 have e:=uM hn
 refine⟨by rw[e.2];exact tC h.v bar c, ?_, ?_, ?_⟩
 ·rw[e.2];unfold ke
  split
  ·exact h.l
  split
  ·split
   ·rw[(sI b bar).1];exact h.l
   ·exact h.l
  ·rw[(zb b).1];exact h.l
 ·rw[e.2];unfold ke
  split
  ·exact h.r
  split
  ·split
   ·rw[(sI b bar).2];exact h.r
   ·exact h.r
  ·rw[(zb b).2];exact h.r
 ·rw[e.2,Dq];exact h.o
theorem zr.text {b0 b c:av} (h:zr b0 b) (h':zr b0 c) (e:eB b=eB c):b=c:=Cu h.v h'.v (h.l.trans h'.l.symm) (h.r.trans h'.r.symm) (h.o.trans h'.o.symm) e
def rA (b0:av) (bar:Bool) (l:List ax):Prop:=0<l.length∧∀j,j<l.length→(j=0∧nd l j=⟨b0,[]⟩)∨∃k c,k<j∧(c=103∨c=111)∧eU (nd l k).b bar c=some (nd l j).b∧(nd l j).road=(nd l k).road++[c]
theorem qH {l m:List ax} {j:Nat} (h:j<l.length):nd (l++m) j=nd l j:=by
 unfold nd
 rw[List.getD_eq_getElem?_getD,List.getElem?_append_left h,←List.getD_eq_getElem?_getD]
theorem GT {l:List ax} {x:ax}:nd (l++[x]) l.length=x:=by
 unfold nd
 rw[List.getD_eq_getElem?_getD,List.getElem?_append_right (Nat.le_refl _)];simp
theorem AA {l:List ax} {j:Nat} (h:j<l.length):nd l j∈l:=al _ h
theorem wy {l:List ax} {y:ax} (h:y∈l):∃j,j<l.length∧nd l j=y:=by
 obtain⟨j,hj,e⟩:=List.mem_iff_getElem.1 h
 exact⟨j,hj,by unfold nd;rw[aw hj];exact e⟩
theorem jq (bar:Bool) (l:List ax) (x:ax) (c:UInt8):dd bar l x c=l∨∃n,eU x.b bar c=some n∧dd bar l x c=l++[⟨n,x.road++[c]⟩]:=by
 unfold dd
 split
 ·exact .inl rfl
 ·rename_i n e
  split
  ·exact .inl rfl
  ·exact .inr ⟨n,e,rfl⟩
theorem na {bar:Bool} {l:List ax} {x:ax} {c:UInt8} {j:Nat} (h:j<l.length):nd (dd bar l x c) j=nd l j:=by
 rcases jq bar l x c with e|⟨n,_,e⟩<;>rw[e]
 rw[qH h]
theorem fu (bar:Bool) (l:List ax) (x:ax) (c:UInt8):l.length≤(dd bar l x c).length:=by
 rcases jq bar l x c with e|⟨n,_,e⟩<;>rw[e]
 ·exact Nat.le_refl _
 ·simp
theorem iG {b0:av} {bar:Bool} {l:List ax} {c:UInt8} {k:Nat} (hc:c=103∨c=111) (hk:k<l.length) (h:rA b0 bar l):rA b0 bar (dd bar l (nd l k) c):=by
 rcases jq bar l (nd l k) c with e|⟨n,hn,e⟩
 ·rw[e];exact h
 ·rw[e]
  refine⟨by simp,fun j hj=> ?_⟩
  by_cases hj2:j<l.length
  ·rw[qH hj2]
   rcases h.2 j hj2 with q|⟨k2,c2,q1,q2,q3,q4⟩
   ·exact .inl q
   ·exact .inr ⟨k2,c2,q1,q2,by rw[qH (by omega)];exact q3,by rw[qH (by omega)];exact q4⟩
  ·have:j=l.length:=by simp at hj;omega
   subst this
   rw[GT]
   exact .inr ⟨k,c,hk,hc,by rw[qH hk];exact hn,by rw[qH hk]⟩
structure Jx (b0:av) (bar:Bool) (x:ax) (j:Nat):Prop where
 u:zr b0 x.b
 run:x.b=kb b0 bar x.road
 len:x.road.length≤j
 sch:hT x.road
theorem Cg (b:av) (bar:Bool) (l:List UInt8) (c:UInt8):kb b bar (l++[c])=ke (kb b bar l) bar c:=by unfold kb;rw[List.foldl_append];rfl
theorem rR {b0:av} {bar:Bool} {l:List ax} (hv:cf b0) (h:rA b0 bar l):∀j,j<l.length→Jx b0 bar (nd l j) j:=by
 intro j
 induction j using Nat.strongRecOn with
 |ind j ih=>
  intro hj
  rcases h.2 j hj with⟨rfl,q⟩|⟨k,c,q1,q2,q3,q4⟩
  ·rw[q]
   exact⟨⟨hv,rfl,rfl,rfl⟩,rfl,Nat.le_refl _,fun c hc=>by simp at hc⟩
  ·have i:=ih k q1 (by omega)
   refine⟨i.u.next q3, ?_, ?_, ?_⟩
   ·rw[q4,Cg,←i.run];exact(uM q3).2
   ·rw[q4];have:=i.len;simp;omega
   ·rw[q4];intro d hd
    rcases List.mem_append.1 hd with hd|hd
    ·exact i.sch d hd
    ·rw[List.mem_singleton.1 hd]
     exact q2.symm
theorem yC {b0:av} {bar:Bool} {l:List ax} (hv:cf b0) (h:rA b0 bar l):∀y∈l,zr b0 y.b:=fun y hy=>by
 obtain⟨j,hj,e⟩:=wy hy
 rw[←e];exact(rR hv h j hj).u
theorem tf (b0:av) (bar:Bool):rA b0 bar [⟨b0,[]⟩]:=⟨by simp,fun j hj=>by
 have:j=0:=by simp at hj;omega
 subst this;exact .inl ⟨rfl,rfl⟩⟩
theorem iz {b0:av} {bar:Bool}:∀{f i:Nat} {l m:List ax},rA b0 bar l→l.length≤400→wd bar f i l=some m→rA b0 bar m∧m.length≤400
 |0,_,_,_,_,_,h=>by cases h
 |f+1,i,l,m,ht,hl,h=>by
  unfold wd at h
  split at h
  ·rename_i hi
   split at h
   ·cases h
   ·rename_i h4
    refine iz (f:=f) ?_ (by omega) h
    have t1:=iG (c:=103) (.inl rfl) hi ht
    have t2:=iG (c:=111) (k:=i) (.inr rfl) (Nat.lt_of_lt_of_le hi (fu _ _ _ _)) t1
    rwa [na hi]at t2
  ·cases h;exact⟨ht,hl⟩
theorem wN {K:List UInt8→Prop} (hK:K []):ce [] [] [] [] 0 [] 0 [] 0 false K:=by
 refine cJ (by simp) (by simp) (by simp) (ap ?_ hK)
 have:¬cf ⟨⟨⟨[],[],[]⟩,[]⟩,⟨0,[],0⟩,[],0,false⟩:=fun h=>by have:=h.g.sv.h.l1;simp at this
 simp[this]
def tJ (seen:List (List UInt8)) (l:List ax):Prop:=∀t,t∈seen↔∃y∈l,eB y.b=t
theorem Bk {x1 x2 x3 x4:List Int} {x5:Int} {x6:List Int} {x7:Int} {x8:List aA} {x9:Int} {x10:Bool} {road letter:List UInt8} {seen:List (List UInt8)} {all:List ax} {K:List (List UInt8)→List ax→Prop} (hK:K seen all):
 fI [] [] [] [] 0 [] 0 [] 0 false false letter x1 x2 x3 x4 x5 x6 x7 x8 x9 x10 road seen all K:=wN ⟨fun h=>(by cases h),fun _=>hK⟩
theorem yB {b0 n:av} {x:ax} {bar:Bool} {c:UInt8} {x1 x2 x3 x4:List Int} {x5:Int} {x6:List Int} {x7:Int} {x8:List aA} {x9:Int} {x10:Bool} {seen:List (List UInt8)} {all:List ax} {K:List (List UInt8)→List ax→Prop}
  (hx:zr b0 x.b) (hn:eU x.b bar c=some n) (hl:all.length≤500) (hr:x.road.length≤500) (hu:∀y∈all,zr b0 y.b) (hs:tJ seen all) (hK:∀seen',tJ seen' (dd bar all x c)→K seen' (dd bar all x c)):
  KB (fun p a i lost l r ro fr col ops=>fI l r ro fr p col a ops i lost true [c] x1 x2 x3 x4 x5 x6 x7 x8 x9 x10 x.road seen all K) n:=by
 have hnu:=hx.next hn
 obtain⟨⟨⟨l,r,ro⟩,fr⟩,⟨ph,col,a⟩,ops,i,lost⟩:=n
 refine fD hnu.v ⟨fun _=> ?_,fun h=>(by cases h)⟩
 have key:eB ⟨⟨⟨l,r,ro⟩,fr⟩,⟨ph,col,a⟩,ops,i,lost⟩∈seen↔∃y∈all,y.b=⟨⟨⟨l,r,ro⟩,fr⟩,⟨ph,col,a⟩,ops,i,lost⟩:=by
  rw[hs]
  exact⟨fun⟨y,h1,h2⟩=>⟨y,h1,(hu y h1).text hnu h2⟩,fun⟨y,h1,h2⟩=>⟨y,h1,by rw[h2]⟩⟩
 unfold dd at hK
 rw[hn]at hK
 simp only at hK
 refine br (fun e=> ?_) fun e=> ?_
 ·have e:eB ⟨⟨⟨l,r,ro⟩,fr⟩,⟨ph,col,a⟩,ops,i,lost⟩∉seen:=by simpa using e
  rw[if_neg (fun q=>e (key.2 q))]at hK
  refine⟨by simp;omega,by simp;omega, ?_⟩
  unfold ga
  rw[if_neg e]
  refine hK _ fun t=> ?_
  simp only[List.mem_append,hs t,List.mem_singleton]
  constructor
  ·rintro(⟨y,h1,h2⟩|h)
   ·exact⟨y, .inl h1,h2⟩
   ·exact⟨_, .inr rfl,h.symm⟩
  ·rintro⟨y,h1|h1,h2⟩
   ·exact .inl ⟨y,h1,h2⟩
   ·exact .inr (by rw[←h2,h1])
 ·have e:eB ⟨⟨⟨l,r,ro⟩,fr⟩,⟨ph,col,a⟩,ops,i,lost⟩∈seen:=by simpa using e
  rw[if_pos (key.1 e)]at hK
  exact hK _ hs
theorem qD {bar:Bool} {l:List ax} {x:ax} {c:UInt8} (h:eU x.b bar c=none):dd bar l x c=l:=by unfold dd;rw[h]
theorem pr {b0:av} {bar:Bool} {l:List ax} {x:ax} {c:UInt8} (hx:zr b0 x.b) (h:∀y∈l,zr b0 y.b):∀y∈dd bar l x c,zr b0 y.b:=by
 rcases jq bar l x c with e|⟨n,hn,e⟩<;>rw[e]
 ·exact h
 ·intro y hy
  rcases List.mem_append.1 hy with hy|hy
  ·exact h y hy
  ·rw[List.mem_singleton.1 hy];exact hx.next hn
theorem DN {bar:Bool} {l:List ax} {x:ax} {c:UInt8}:(dd bar l x c).length≤l.length+1:=by
 rcases jq bar l x c with e|⟨n,_,e⟩<;>rw[e]
 ·omega
 ·simp
theorem BJ {l r ro fr col:List Int} {ph a i:Int} {ops:List aA} {lost bar:Bool} {K:Bool→List ax→Prop} (hf:fr.length<2^60) (hc:col.length<2^60) (ho:ops.length<2^60)
  (hb:¬cf ⟨⟨⟨l,r,ro⟩,fr⟩,⟨ph,col,a⟩,ops,i,lost⟩→K false [])
  (hn:cf ⟨⟨⟨l,r,ro⟩,fr⟩,⟨ph,col,a⟩,ops,i,lost⟩→uq ⟨⟨⟨l,r,ro⟩,fr⟩,⟨ph,col,a⟩,ops,i,lost⟩ bar=none→K false [])
  (hy:cf ⟨⟨⟨l,r,ro⟩,fr⟩,⟨ph,col,a⟩,ops,i,lost⟩→∀m,uq ⟨⟨⟨l,r,ro⟩,fr⟩,⟨ph,col,a⟩,ops,i,lost⟩ bar=some m→K true m):o6 l r ro fr ph col a ops i lost bar K:=by
 refine cJ hf hc ho (br (fun e=>hb (by simpa using e)) fun e=> ?_)
 have hv:cf ⟨⟨⟨l,r,ro⟩,fr⟩,⟨ph,col,a⟩,ops,i,lost⟩:=by simpa using e
 refine sQ hv (fD hv ?_)
 replace hn:=hn hv
 replace hy:=hy hv
 generalize hb0:(⟨⟨⟨l,r,ro⟩,fr⟩,⟨ph,col,a⟩,ops,i,lost⟩:av)=b0 at hv hn hy
 refine cD (fun s=>∃(j:Nat) (m:List ax) (seen:List (List UInt8)),s=(bar,(j:Int),m,seen)∧j≤401∧rA b0 bar m∧m.length≤400∧j≤m.length∧tJ seen m∧wd bar (402-j) j m=uq b0 bar) (fun s=>(402-s.2.1).toNat) ?_
  ⟨0,[⟨b0,[]⟩],[eB b0],by rw[←hb0];rfl,by omega,tf _ _,by simp,by simp,fun t=>by simp[eq_comm],rfl⟩
 rintro _ ⟨j,m,seen,rfl,hj,ht,hm,hjm,hs,hw⟩ Kb hKb
 rw[show 402-j=(401-j)+1 by omega]at hw
 unfold wd at hw
 have hu:=yC hv ht
 refine br (fun e=> ?_) fun e=> ?_
 ·have e:(j:Int)<len m:=of_decide_eq_true e
  simp only[aa]at e
  have hjl:j<m.length:=by omega
  rw[if_pos hjl]at hw
  refine⟨by rw[aj];exact hjl, ?_⟩
  simp only[mc]
  have hx:=rR hv ht j hjl
  have ht2:rA b0 bar (dd bar (dd bar m (nd m j) 103) (nd m j) 111):=by
   have t1:=iG (c:=103) (.inl rfl) hjl ht
   have t2:=iG (c:=111) (k:=j) (.inr rfl) (Nat.lt_of_lt_of_le hjl (fu _ _ _ _)) t1
   rwa [na hjl]at t2
  have hxl:=hx.len
  have hxu:=hx.u
  generalize nd m j=x at hw hx hxl hxu ht2
  have hxv:cf ⟨⟨⟨x.b.s.h.l,x.b.s.h.r,x.b.s.h.ro⟩,x.b.s.free⟩,⟨x.b.g.phase,x.b.g.color,x.b.g.pos⟩,x.b.ops,x.b.pos,x.b.lost⟩:=hxu.v
  have fin:∀seen2,tJ seen2 (dd bar (dd bar m x 103) x 111)→((((decide ((len (dd bar (dd bar m x 103) x 111))>400))=true→(K false []))∧((decide ((len (dd bar (dd bar m x 103) x 111))>400))=false→(Kb (bar,(ah (j:Int) 1),(dd bar (dd bar m x 103) x 111),seen2))))):=fun seen2 hs2=>by
   refine br (fun e2=>hn ?_) fun e2=> ?_
   ·have e2:=of_decide_eq_true e2
    simp only[aa]at e2
    rw[if_pos (by omega)]at hw;exact hw.symm
   ·have e2:=of_decide_eq_false e2
    simp only[aa]at e2
    rw[if_neg (by omega)]at hw
    have hl1:=fu bar m x 103
    have hl2:=fu bar (dd bar m x 103) x 111
    refine hKb _ ⟨j+1,_,seen2,by rw[ai (by omega)],by omega,ht2,by omega,by omega,hs2,by rw[show 402-(j+1)=401-j by omega];exact hw⟩ ?_
    rw[ai (by omega)]
    show(402-((j+1:Nat):Int)).toNat<(402-(j:Int)).toNat
    omega
  have two:∀seen1,tJ seen1 (dd bar m x 103)→iE x.b.s.h.l x.b.s.h.r x.b.s.h.ro x.b.s.free x.b.g.phase x.b.g.color x.b.g.pos x.b.ops x.b.pos x.b.lost bar (fun y23 y24 y25 y26 y27 y28 y29 y30 y31 y32 y33=>fI y28 y29 y30 y31 y23 y32 y24 y33 y25 y26 y27 [111] x.b.s.h.l x.b.s.h.r x.b.s.h.ro x.b.s.free x.b.g.phase x.b.g.color x.b.g.pos x.b.ops x.b.pos x.b.lost x.road seen1 (dd bar m x 103) fun y34 y35=>(((decide ((len y35)>400))=true→(K false []))∧((decide ((len y35)>400))=false→(Kb (bar,(ah (j:Int) 1),y35,y34))))):=fun seen1 hs1=>by
   have hl1:=DN (bar:=bar) (l:=m) (x:=x) (c:=103)
   refine sO hxv (fun hno=> ?_) fun h1 h2=> ?_
   ·have:eU x.b bar 111=none:=by
     unfold eU
     rcases hno with h|h
     ·rw[if_pos h]
     ·split
      ·rfl
      ·rw[if_pos rfl,if_neg (by omega)]
    have:=qD (l:=dd bar m x 103) this
    rw[this]at fin
    exact Bk (fin _ hs1)
   ·have:eU x.b bar 111=some (jr x.b bar):=by
     unfold eU
     rw[if_neg (by rw[h1];decide),if_pos rfl,if_pos h2]
    exact yB hxu this (by omega) (by omega) (pr hxu hu) hs1 fin
  refine nU hxv (fun hno=> ?_) fun h1=> ?_
  ·have:eU x.b bar 103=none:=by unfold eU;rw[if_pos hno]
   have:=qD (l:=m) this
   rw[this]at two
   exact Bk (two _ hs)
  ·have:eU x.b bar 103=some (ew x.b):=by
    unfold eU
    rw[if_neg (by rw[h1];decide),if_neg (by decide)]
   exact yB hxu this (by omega) (by omega) hu hs two
 ·have e:¬(j:Int)<len m:=of_decide_eq_false e
  simp only[aa]at e
  rw[if_neg (by omega)]at hw
  exact hy _ hw.symm
theorem CY {p1 p3 p4 p6:Int} {p2 p5:List Int} {K:Bool→Prop} (h:p2.length<2^62) (hK:K (decide (p1=p4∧p3=p6∧p2=p5))):qe p1 p2 p3 p4 p5 p6 K:=by
 refine br (fun e1=>br (fun e2=>mr h ?_) fun e2=> ?_) fun e1=> ?_
 ·have e1:=beq_iff_eq.1 e1;have e2:=beq_iff_eq.1 e2
  simpa[e1,e2]using hK
 ·have e2:=beq_eq_false_iff_ne.1 e2
  simpa[e2]using hK
 ·have e1:=beq_eq_false_iff_ne.1 e1
  simpa[e1]using hK
theorem wi {p1 p2 p3 p4 p5 p6 p7 p8:List Int} {K:Bool→Prop} (h1:p1.length<2^62) (h2:p2.length<2^62) (h3:p3.length<2^62) (h4:p4.length<2^62) (hK:K (decide (p1=p5∧p2=p6∧p3=p7∧p4=p8))):lx p1 p2 p3 p4 p5 p6 p7 p8 K:=by
 have no:¬(p1=p5∧p2=p6∧p3=p7)→K false:=fun h=>by
  have:¬(p1=p5∧p2=p6∧p3=p7∧p4=p8):=fun q=>h ⟨q.1,q.2.1,q.2.2.1⟩
  simpa[this]using hK
 have hh:∀K':Bool→Prop,K' (decide (p1=p5∧p2=p6∧p3=p7))→l4 p1 p2 p3 p5 p6 p7 K':=fun K' hK'=>by
  refine mr h1 ?_
  refine br (fun e1=> ?_) fun e1=> ?_
  ·refine mr h2 ?_
   refine br (fun e2=> ?_) fun e2=> ?_
   ·refine mr h3 ?_
    have e1:=of_decide_eq_true e1;have e2:=of_decide_eq_true e2
    simpa[e1,e2]using hK'
   ·have e2:=of_decide_eq_false e2
    simpa[e2]using hK'
  ·have e1:=of_decide_eq_false e1
   simpa[e1]using hK'
 refine hh _ ?_
 refine br (fun e1=> ?_) fun e1=>no (of_decide_eq_false e1)
 refine mr h4 ?_
 have e1:=of_decide_eq_true e1
 simpa[e1.1,e1.2.1,e1.2.2]using hK
theorem DW {b0:av} {list:List ax} {l r ro fr col:List Int} {ph a i:Int} {ops:List aA} {lost:Bool} {K:Int→Prop} (hl:list.length<2^60) (hu:∀y∈list,zr b0 y.b) (hn:zr b0 ⟨⟨⟨l,r,ro⟩,fr⟩,⟨ph,col,a⟩,ops,i,lost⟩)
  (hy:(∃y∈list,y.b=⟨⟨⟨l,r,ro⟩,fr⟩,⟨ph,col,a⟩,ops,i,lost⟩)→∀j:Nat,K j) (hno:¬(∃y∈list,y.b=⟨⟨⟨l,r,ro⟩,fr⟩,⟨ph,col,a⟩,ops,i,lost⟩)→K (-1)):pI list l r ro fr ph col a ops i lost K:=by
 refine af (fun j s=>s=(list,(j:Int),l,r,ro,fr,ph,col,a,ops,i,lost)∧∀k,k<j→(nd list k).b≠⟨⟨⟨l,r,ro⟩,fr⟩,⟨ph,col,a⟩,ops,i,lost⟩) list.length ⟨rfl,fun k h=>absurd h (by omega)⟩ ?_ ?_
 ·rintro j _ hj ⟨rfl,hk⟩ Kb hKb
  have hju:=hu _ (AA hj)
  have hxm:=AA hj
  have go:(nd list j).b≠⟨⟨⟨l,r,ro⟩,fr⟩,⟨ph,col,a⟩,ops,i,lost⟩→Kb (list,ah (j:Int) 1,l,r,ro,fr,ph,col,a,ops,i,lost):=fun h=>hKb _ ⟨by rw[ai (by omega)],fun k hk2=>by
   rcases Nat.lt_succ_iff_lt_or_eq.1 hk2 with q|q
   ·exact hk k q
   ·rw[q];exact h⟩
  refine ap (by simp[aa];exact hj) ⟨by rw[aj];exact hj, ?_⟩
  simp only[mc]
  generalize nd list j=x at hju hxm go
  obtain⟨⟨⟨⟨l',r',ro'⟩,fr'⟩,⟨ph',col',a'⟩,ops',i',lost'⟩,road⟩:=x
  have ho:ops'=ops:=hju.o.trans hn.o.symm
  have sm:=hju.v.g
  have s1:=sm.sv.h.l8;have s2:=sm.sv.h.lr;have s3:=sm.sv.h.r3;have s4:=sm.sv.f8;have s5:=sm.c.len
  simp only at s1 s2 s3 s4 s5
  refine br (fun e1=>br (fun e2=>CY (by show col'.length<_;omega) (br (fun e3=>wi (by show l'.length<_;omega) (by show r'.length<_;omega) (by show ro'.length<_;omega) (by show fr'.length<_;omega) (br (fun e4=> ?_) fun e4=>go ?_)) fun e3=>go ?_)) fun e2=>go ?_) fun e1=>go ?_
  ·have e1:=beq_iff_eq.1 e1;have e2:=beq_iff_eq.1 e2
   have e3:=of_decide_eq_true e3;have e4:=of_decide_eq_true e4
   simp only at e1 e2 e3 e4
   exact hy ⟨_,hxm,by simp[e1,e2,e3,e4,ho]⟩ _
  ·have e4:=of_decide_eq_false e4
   rintro⟨⟩;exact e4 ⟨rfl,rfl,rfl,rfl⟩
  ·have e3:=of_decide_eq_false e3
   rintro⟨⟩;exact e3 ⟨rfl,rfl,rfl⟩
  ·have e2:=beq_eq_false_iff_ne.1 e2
   rintro⟨⟩;exact e2 rfl
  ·have e1:=beq_eq_false_iff_ne.1 e1
   rintro⟨⟩;exact e1 rfl
 ·rintro _ ⟨rfl,hk⟩ Kb
  refine ak (by simp[aa]) (hno ?_)
  rintro⟨y,h1,h2⟩
  obtain⟨j,hj,e⟩:=wy h1
  exact hk j hj (by rw[e];exact h2)
theorem Es {l r ro fr col:List Int} {ph a i z:Int} {ops:List aA} {lost bar:Bool} {c:UInt8} {K:Int→Int→Int→Bool→Bool→List Int→List Int→List Int→List Int→List Int→List aA→Prop} (h:cf ⟨⟨⟨l,r,ro⟩,fr⟩,⟨ph,col,a⟩,ops,i,lost⟩) (hz:z=(c.toNat:Int))
  (hn:eU ⟨⟨⟨l,r,ro⟩,fr⟩,⟨ph,col,a⟩,ops,i,lost⟩ bar c=none→K 0 0 0 false false [] [] [] [] [] [])
  (hy:∀n,eU ⟨⟨⟨l,r,ro⟩,fr⟩,⟨ph,col,a⟩,ops,i,lost⟩ bar c=some n→KB (fun p a i lost l r ro fr c ops=>K p a i lost true l r ro fr c ops) n):qB l r ro fr ph col a ops i lost z bar K:=by
 subst hz
 have i1:=h.i1;have i0:=h.i0
 simp only at i1 i0
 unfold eU at hn hy
 simp only at hn hy
 refine br (fun e=>hn (by rw[if_pos e])) fun e=> ?_
 rw[if_neg (by rw[e];decide)]at hn hy
 have isO:((c.toNat:Int)==111)=decide (c=111):=by rw[Bool.eq_iff_iff,beq_iff_eq,decide_eq_true_eq];exact gq (c:=111)
 refine br (fun e1=>br (fun e2=>hn ?_) fun e2=>br (fun e3=> ?_) fun e3=> ?_) fun e1=>br (fun e3=> ?_) fun e3=> ?_
 ·rw[isO]at e1
  have e2:=beq_iff_eq.1 e2
  simp only[aa]at e2
  rw[if_pos (of_decide_eq_true e1),if_neg (by omega)]
 ·rw[isO]at e1
  have e2:=beq_eq_false_iff_ne.1 e2
  simp only[aa]at e2
  rw[if_pos (of_decide_eq_true e1),if_pos (by omega)]at hy
  have hh:=hy _ rfl
  refine wb h (by omega) ?_
  have hr:=iX ⟨⟨⟨l,r,ro⟩,fr⟩,⟨ph,col,a⟩,ops,i,lost⟩ bar
  generalize jr ⟨⟨⟨l,r,ro⟩,fr⟩,⟨ph,col,a⟩,ops,i,lost⟩ bar=n at hh hr
  obtain⟨⟨⟨l',r',ro'⟩,fr'⟩,⟨ph',col',a'⟩,ops',i',lost'⟩:=n
  simp only at hr
  rw[hr.1,hr.2.1]at hh
  exact hh
 ·rw[e1]at e3;cases e3
 ·rw[e1]at e3;cases e3
 ·rw[isO]at e1
  rw[if_neg (of_decide_eq_false e1)]at hy
  have hh:=hy _ rfl
  refine AO h ?_
  have hr:=lR ⟨⟨⟨l,r,ro⟩,fr⟩,⟨ph,col,a⟩,ops,i,lost⟩
  generalize ew ⟨⟨⟨l,r,ro⟩,fr⟩,⟨ph,col,a⟩,ops,i,lost⟩=n at hh hr
  obtain⟨⟨⟨l',r',ro'⟩,fr'⟩,⟨ph',col',a'⟩,ops',i',lost'⟩:=n
  simp only at hr
  rw[hr.1,hr.2]at hh
  exact hh
theorem Ci {k:Nat} (hk:k<2):∃c:UInt8,(c=103∨c=111)∧gY [103,111] (k:Int)=(c.toNat:Int)∧aI [gY [103,111] (k:Int)]=[c]∧c=(if k=0 then 103 else 111):=by
 rcases(show k=0∨k=1 by omega)with rfl|rfl
 ·exact⟨103, .inl rfl,rfl,rfl,rfl⟩
 ·exact⟨111, .inr rfl,rfl,rfl,rfl⟩
def en (bar:Bool) (m:List ax) (x:ax):Nat→List ax
 |0=>m
 |1=>dd bar m x 103
 |_=>dd bar (dd bar m x 103) x 111
theorem A6 {bar:Bool} {m:List ax} {x:ax} {k:Nat} (hk:k<2):en bar m x (k+1)=dd bar (en bar m x k) x (if k=0 then 103 else 111):=by
 rcases(show k=0∨k=1 by omega)with rfl|rfl<;>rfl
theorem Ew {bar:Bool} {m:List ax} {x:ax} {k:Nat} (hk:k≤2):(en bar m x k).length≤(en bar m x 2).length:=by
 have h1:=fu bar m x 103
 have h2:=fu bar (dd bar m x 103) x 111
 rcases(show k=0∨k=1∨k=2 by omega)with rfl|rfl|rfl
 ·show m.length≤(dd bar (dd bar m x 103) x 111).length
  omega
 ·exact h2
 ·exact Nat.le_refl _
theorem Bm {l r ro fr col:List Int} {ph a i:Int} {ops:List aA} {lost bar:Bool} {K:Bool→List ax→Prop}
  (hb:¬cf ⟨⟨⟨l,r,ro⟩,fr⟩,⟨ph,col,a⟩,ops,i,lost⟩→K false [])
  (hn:cf ⟨⟨⟨l,r,ro⟩,fr⟩,⟨ph,col,a⟩,ops,i,lost⟩→uq ⟨⟨⟨l,r,ro⟩,fr⟩,⟨ph,col,a⟩,ops,i,lost⟩ bar=none→K false [])
  (hy:cf ⟨⟨⟨l,r,ro⟩,fr⟩,⟨ph,col,a⟩,ops,i,lost⟩→∀m,uq ⟨⟨⟨l,r,ro⟩,fr⟩,⟨ph,col,a⟩,ops,i,lost⟩ bar=some m→K true m):oM l r ro fr ph col a ops i lost bar K:=by
 refine iq (br (fun e=>hb (by simpa using e)) fun e=> ?_)
 have hv:cf ⟨⟨⟨l,r,ro⟩,fr⟩,⟨ph,col,a⟩,ops,i,lost⟩:=by simpa using e
 refine gy hv ?_
 replace hn:=hn hv
 replace hy:=hy hv
 generalize hb0:(⟨⟨⟨l,r,ro⟩,fr⟩,⟨ph,col,a⟩,ops,i,lost⟩:av)=b0 at hv hn hy
 refine cD (fun s=>∃(j:Nat) (m:List ax),s=(bar,(j:Int),m,[103,111])∧j≤401∧rA b0 bar m∧m.length≤400∧j≤m.length∧wd bar (402-j) j m=uq b0 bar) (fun s=>(402-s.2.1).toNat) ?_
  ⟨0,[⟨b0,[]⟩],rfl,by omega,tf _ _,by simp,by simp,rfl⟩
 rintro _ ⟨j,m,rfl,hj,ht,hm,hjm,hw⟩ Kb hKb
 rw[show 402-j=(401-j)+1 by omega]at hw
 unfold wd at hw
 have hu:=yC hv ht
 refine br (fun e=> ?_) fun e=> ?_
 ·have e:(j:Int)<len m:=of_decide_eq_true e
  simp only[aa]at e
  have hjl:j<m.length:=by omega
  rw[if_pos hjl]at hw
  have hx:=rR hv ht j hjl
  have hxl:=hx.len
  have hxu:=hx.u
  have ht2:rA b0 bar (dd bar (dd bar m (nd m j) 103) (nd m j) 111):=by
   have t1:=iG (c:=103) (.inl rfl) hjl ht
   have t2:=iG (c:=111) (k:=j) (.inr rfl) (Nat.lt_of_lt_of_le hjl (fu _ _ _ _)) t1
   rwa [na hjl]at t2
  have hndk:∀k,nd (en bar m (nd m j) k) j=nd m j:=fun k=>by
   match k with
   |0=>rfl
   |1=>exact na hjl
   |k+2=>exact(na (Nat.lt_of_lt_of_le hjl (fu _ _ _ _))).trans (na hjl)
  have huk:∀k,∀y∈en bar m (nd m j) k,zr b0 y.b:=fun k=>by
   match k with
   |0=>exact hu
   |1=>exact pr hxu hu
   |k+2=>exact pr hxu (pr hxu hu)
  have hjk:∀k,k≤2→j<(en bar m (nd m j) k).length:=fun k hk=>by
   rcases(show k=0∨k=1∨k=2 by omega)with rfl|rfl|rfl
   ·exact hjl
   ·exact Nat.lt_of_lt_of_le hjl (fu _ _ _ _)
   ·exact Nat.lt_of_lt_of_le (Nat.lt_of_lt_of_le hjl (fu _ _ _ _)) (fu _ _ _ _)
  change (if 400<(en bar m (nd m j) 2).length then none else wd bar (401-j) (j+1) (en bar m (nd m j) 2))=_ at hw
  change rA b0 bar (en bar m (nd m j) 2)at ht2
  generalize nd m j=x at hw hx hxl hxu ht2 hndk huk hjk
  refine af (fun k s=>s=(bar,(j:Int),(k:Int),en bar m x k,[103,111])∧(en bar m x k).length≤400) 2 ⟨rfl,hm⟩ ?_ ?_
  ·rintro k _ hk ⟨rfl,h4⟩ Kb2 hKb2
   have hin:aq (j:Int) (en bar m x k).length:=by rw[aj];exact hjk k (by omega)
   have hk2:aq (k:Int) ([103,111]:List Int).length:=by rw[aj];exact hk
   obtain⟨c,hc1,hc2,hc3,hc4⟩:=Ci hk
   have hrs:=A6 (bar:=bar) (m:=m) (x:=x) hk
   rw[←hc4]at hrs
   have keep:en bar m x (k+1)=en bar m x k→Kb2 (bar,(j:Int),ah (k:Int) 1,en bar m x k,[103,111]):=fun q=>hKb2 _ ⟨by rw[ai (by omega),q],by rw[q];exact h4⟩
   refine ap (by simp;omega) ⟨hin,hk2, ?_⟩
   simp only[mc,hndk]
   refine Es hxu.v hc2 (fun q=>ap rfl (keep (by rw[hrs];exact qD q))) fun n hnx=> ?_
   have hnx:eU x.b bar c=some n:=hnx
   have hnu:=hxu.next hnx
   unfold dd at hrs
   rw[hnx]at hrs
   simp only at hrs
   obtain⟨⟨⟨l',r',ro'⟩,fr'⟩,⟨ph',col',a'⟩,ops',i',lost'⟩:=n
   refine ak (b:= !true) rfl (DW (by omega) (huk k) hnu (fun hm2 q=>ap (by simp) (keep (by rw[hrs,if_pos hm2]))) fun hm2=>ak (by decide) ?_)
   rw[if_neg hm2]at hrs
   have hle:=Ew (bar:=bar) (m:=m) (x:=x) (k:=k+1) (by omega)
   refine br (fun e4=>hn ?_) fun e4=>⟨hin,hk2,by simp, ?_⟩
   ·have e4:=beq_iff_eq.1 e4
    simp only[aa]at e4
    rw[if_pos (by rw[hrs]at hle;simp at hle;omega)]at hw
    exact hw.symm
   ·have e4:=beq_eq_false_iff_ne.1 e4
    simp only[aa]at e4
    simp only[mc,hndk,hc3]
    refine⟨by simp;omega,by simp;omega,hKb2 _ ⟨by rw[ai (by omega),hrs],by rw[hrs];simp;omega⟩⟩
  ·rintro _ ⟨rfl,h4⟩ Kb2
   refine ak (by simp) ?_
   rw[if_neg (by omega)]at hw
   have hjj:=hjk 2 (Nat.le_refl _)
   refine hKb _ ⟨j+1,_,by rw[ai (by omega)],by omega,ht2,h4,by omega,by rw[show 402-(j+1)=401-j by omega];exact hw⟩ ?_
   rw[ai (by omega)]
   show(402-((j+1:Nat):Int)).toNat<(402-(j:Int)).toNat
   omega
 ·have e:¬(j:Int)<len m:=of_decide_eq_false e
  simp only[aa]at e
  rw[if_neg (by omega)]at hw
  exact hy _ hw.symm
def fH (b:av) (bar:Bool):Option ax:=if cf b then(uq b bar).bind fun m=>m.find? fun x=>x.b.lost else none
def oV (b:av) (bar:Bool):Bool×Bool:=if cf b then(match uq b bar with|none=>(false,false)|some m=>(m.any fun x=>x.b.lost,true))else(false,false)
theorem ud {m:List ax} {j:Nat} (hj:j<m.length) (h1:(nd m j).b.lost=true) (h2:∀k,k<j→(nd m k).b.lost=false):m.find? (fun x=>x.b.lost)=some (nd m j):=by
 rw[List.find?_eq_some_iff_getElem]
 refine⟨h1,j,hj,by unfold nd;rw[aw hj],fun k hk=> ?_⟩
 have:=h2 k hk
 unfold nd at this
 rw[aw (by omega)]at this
 simp[this]
theorem uK {m:List ax} (h2:∀k,k<m.length→(nd m k).b.lost=false):m.find? (fun x=>x.b.lost)=none:=by
 rw[List.find?_eq_none]
 intro x hx
 obtain⟨j,hj,e⟩:=wy hx
 rw[←e,h2 j hj];decide
theorem vz {m:List ax} {j:Nat} (hj:j<m.length) (h1:(nd m j).b.lost=true):(m.any fun x=>x.b.lost)=true:=List.any_eq_true.2 ⟨_,AA hj,h1⟩
theorem xq {m:List ax} (h2:∀k,k<m.length→(nd m k).b.lost=false):(m.any fun x=>x.b.lost)=false:=by
 rw[List.any_eq_false]
 intro x hx
 obtain⟨j,hj,e⟩:=wy hx
 rw[←e,h2 j hj];decide
theorem wg {l r ro fr col:List Int} {ph a i:Int} {ops:List aA} {lost bar:Bool} {K:List UInt8→Bool→Prop} (hf:fr.length<2^60) (hc:col.length<2^60) (ho:ops.length<2^60)
  (hn:fH ⟨⟨⟨l,r,ro⟩,fr⟩,⟨ph,col,a⟩,ops,i,lost⟩ bar=none→K [] false) (hy:∀x,fH ⟨⟨⟨l,r,ro⟩,fr⟩,⟨ph,col,a⟩,ops,i,lost⟩ bar=some x→K x.road true):lf l r ro fr ph col a ops i lost bar K:=by
 have nil:fH ⟨⟨⟨l,r,ro⟩,fr⟩,⟨ph,col,a⟩,ops,i,lost⟩ bar=none→ar (S:=Int×Int×List ax) (fun s3 Kb3 Kx3=>(((decide (s3.2.1<s3.1))=true→((aq s3.2.1 (List.length s3.2.2))∧(((gN s3.2.2 s3.2.1).b.lost=true→(K ((gN s3.2.2 s3.2.1).road) true))∧((gN s3.2.2 s3.2.1).b.lost=false→(Kb3 (s3.1,(ah s3.2.1 1),s3.2.2))))))∧((decide (s3.2.1<s3.1))=false→(Kx3 (s3.1,s3.2.1,s3.2.2))))) ((len ([]:List ax)),0,[]) fun s3=>(K ([]:List UInt8) false):=fun h=>by
  refine af (fun j s=>s=((len ([]:List ax)),0,[])) 0 rfl (fun i s hi=>absurd hi (by omega)) ?_
  rintro _ rfl Kb
  exact ak (by simp[aa]) (hn h)
 refine BJ hf hc ho (fun h=>nil (by unfold fH;rw[if_neg h])) (fun h h2=>nil (by unfold fH;rw[if_pos h,h2];rfl)) fun h m hm=> ?_
 unfold fH at hn hy
 rw[if_pos h,hm]at hn hy
 simp only[Option.bind_some]at hn hy
 have hl:=(iz (tf _ _) (by simp) hm).2
 refine af (fun j s=>s=(len m,(j:Int),m)∧∀k,k<j→(nd m k).b.lost=false) m.length ⟨rfl,fun k hk=>absurd hk (by omega)⟩ ?_ ?_
 ·rintro j _ hj ⟨rfl,hk⟩ Kb hKb
  refine ap (by simp[aa];exact hj) ⟨by rw[aj];exact hj, ?_⟩
  simp only[mc]
  refine br (fun e=>hy _ (ud hj e hk)) fun e=>hKb _ ⟨by rw[ai (by omega)],fun k hk2=> ?_⟩
  rcases Nat.lt_succ_iff_lt_or_eq.1 hk2 with q|q
  ·exact hk k q
  ·rw[q];exact e
 ·rintro _ ⟨rfl,hk⟩ Kb
  exact ak (by simp[aa]) (hn (uK hk))
theorem vY {l r ro fr col:List Int} {ph a i:Int} {ops:List aA} {lost bar:Bool} {K:List UInt8→Bool→Prop}
  (hn:fH ⟨⟨⟨l,r,ro⟩,fr⟩,⟨ph,col,a⟩,ops,i,lost⟩ bar=none→K [] false) (hy:∀x,fH ⟨⟨⟨l,r,ro⟩,fr⟩,⟨ph,col,a⟩,ops,i,lost⟩ bar=some x→K x.road true):kU l r ro fr ph col a ops i lost bar K:=by
 have nil:fH ⟨⟨⟨l,r,ro⟩,fr⟩,⟨ph,col,a⟩,ops,i,lost⟩ bar=none→ar (S:=Int×List ax) (fun s3 Kb3 Kx3=>(((decide (s3.1<(len s3.2)))=true→((aq s3.1 (List.length s3.2))∧(((gN s3.2 s3.1).b.lost=true→((aq s3.1 (List.length s3.2))∧(K ((gN s3.2 s3.1).road) true)))∧((gN s3.2 s3.1).b.lost=false→(Kb3 ((ah s3.1 1),s3.2))))))∧((decide (s3.1<(len s3.2)))=false→(Kx3 (s3.1,s3.2))))) (0,([]:List ax)) fun s3=>(K ([]:List UInt8) false):=fun h=>by
  refine af (fun j s=>s=(0,([]:List ax))) 0 rfl (fun i s hi=>absurd hi (by omega)) ?_
  rintro _ rfl Kb
  exact ak (by simp[aa]) (hn h)
 refine Bm (fun h=>nil (by unfold fH;rw[if_neg h])) (fun h h2=>nil (by unfold fH;rw[if_pos h,h2];rfl)) fun h m hm=> ?_
 unfold fH at hn hy
 rw[if_pos h,hm]at hn hy
 simp only[Option.bind_some]at hn hy
 have hl:=(iz (tf _ _) (by simp) hm).2
 refine af (fun j s=>s=((j:Int),m)∧∀k,k<j→(nd m k).b.lost=false) m.length ⟨rfl,fun k hk=>absurd hk (by omega)⟩ ?_ ?_
 ·rintro j _ hj ⟨rfl,hk⟩ Kb hKb
  have hin:aq (j:Int) m.length:=by rw[aj];exact hj
  refine ap (by simp[aa];exact hj) ⟨hin, ?_⟩
  simp only[mc]
  refine br (fun e=>⟨hin,hy _ (ud hj e hk)⟩) fun e=>hKb _ ⟨by rw[ai (by omega)],fun k hk2=> ?_⟩
  rcases Nat.lt_succ_iff_lt_or_eq.1 hk2 with q|q
  ·exact hk k q
  ·rw[q];exact e
 ·rintro _ ⟨rfl,hk⟩ Kb
  exact ak (by simp[aa]) (hn (uK hk))
theorem zW {l r ro fr col:List Int} {ph a i:Int} {ops:List aA} {lost bar:Bool} {K:Bool→Bool→Prop} (hf:fr.length<2^60) (hc:col.length<2^60) (ho:ops.length<2^60)
  (hK:K (oV ⟨⟨⟨l,r,ro⟩,fr⟩,⟨ph,col,a⟩,ops,i,lost⟩ bar).1 (oV ⟨⟨⟨l,r,ro⟩,fr⟩,⟨ph,col,a⟩,ops,i,lost⟩ bar).2):oG l r ro fr ph col a ops i lost bar K:=by
 have gen:∀(m:List ax) (K':Bool→Prop),m.length≤400→K' (m.any fun x=>x.b.lost)→eq m K':=fun m K' hl hK'=>by
  refine af (fun j s=>s=(m,len m,(j:Int))∧∀k,k<j→(nd m k).b.lost=false) m.length ⟨rfl,fun k hk=>absurd hk (by omega)⟩ ?_ ?_
  ·rintro j _ hj ⟨rfl,hk⟩ Kb hKb
   refine ap (by simp[aa];exact hj) ⟨by rw[aj];exact hj, ?_⟩
   simp only[mc]
   refine br (fun e=> ?_) fun e=>hKb _ ⟨by rw[ai (by omega)],fun k hk2=> ?_⟩
   ·rw[vz hj e]at hK'
    simpa using hK'
   ·rcases Nat.lt_succ_iff_lt_or_eq.1 hk2 with q|q
    ·exact hk k q
    ·rw[q];exact e
  ·rintro _ ⟨rfl,hk⟩ Kb
   rw[xq hk]at hK'
   exact ak (by simp[aa]) (by simpa using hK')
 refine BJ hf hc ho (fun h=> ?_) (fun h h2=> ?_) fun h m hm=> ?_
 ·unfold oV at hK
  rw[if_neg h]at hK
  exact gen [] _ (by simp) hK
 ·unfold oV at hK
  rw[if_pos h,h2]at hK
  exact gen [] _ (by simp) hK
 ·unfold oV at hK
  rw[if_pos h,hm]at hK
  exact gen m _ (iz (tf _ _) (by simp) hm).2 hK
theorem A9 {l r ro fr col:List Int} {ph a i:Int} {ops:List aA} {lost bar:Bool} {K:Bool→Bool→Prop}
  (hK:K (oV ⟨⟨⟨l,r,ro⟩,fr⟩,⟨ph,col,a⟩,ops,i,lost⟩ bar).1 (oV ⟨⟨⟨l,r,ro⟩,fr⟩,⟨ph,col,a⟩,ops,i,lost⟩ bar).2):og l r ro fr ph col a ops i lost bar K:=by
 have gen:∀(m:List ax) (ok:Bool),m.length≤400→((m.any fun x=>x.b.lost)=true→ok=true)→K (m.any fun x=>x.b.lost) ok→ar (S:=Bool×Int×List ax) (fun s3 Kb3 Kx3=>(((decide (s3.2.1<(len s3.2.2)))=true→((aq s3.2.1 (List.length s3.2.2))∧(((gN s3.2.2 s3.2.1).b.lost=true→(K true true))∧((gN s3.2.2 s3.2.1).b.lost=false→(Kb3 (s3.1,(ah s3.2.1 1),s3.2.2))))))∧((decide (s3.2.1<(len s3.2.2)))=false→(Kx3 (s3.1,s3.2.1,s3.2.2))))) (ok,0,m) fun s3=>(K false s3.1):=fun m ok hl hok hK'=>by
  refine af (fun j s=>s=(ok,(j:Int),m)∧∀k,k<j→(nd m k).b.lost=false) m.length ⟨rfl,fun k hk=>absurd hk (by omega)⟩ ?_ ?_
  ·rintro j _ hj ⟨rfl,hk⟩ Kb hKb
   refine ap (by simp[aa];exact hj) ⟨by rw[aj];exact hj, ?_⟩
   simp only[mc]
   refine br (fun e=> ?_) fun e=>hKb _ ⟨by rw[ai (by omega)],fun k hk2=> ?_⟩
   ·have e2:=vz hj e
    rw[hok e2,e2]at hK'
    exact hK'
   ·rcases Nat.lt_succ_iff_lt_or_eq.1 hk2 with q|q
    ·exact hk k q
    ·rw[q];exact e
  ·rintro _ ⟨rfl,hk⟩ Kb
   rw[xq hk]at hK'
   exact ak (by simp[aa]) hK'
 refine Bm (fun h=> ?_) (fun h h2=> ?_) fun h m hm=> ?_
 ·unfold oV at hK
  rw[if_neg h]at hK
  exact gen [] _ (by simp) (by simp) hK
 ·unfold oV at hK
  rw[if_pos h,h2]at hK
  exact gen [] _ (by simp) (by simp) hK
 ·unfold oV at hK
  rw[if_pos h,hm]at hK
  exact gen m _ (iz (tf _ _) (by simp) hm).2 (fun _=>rfl) hK
theorem Ez (b:av) (bar:Bool):(oV b bar).1=(fH b bar).isSome:=by
 unfold oV fH
 split
 ·cases uq b bar with
  |none=>rfl
  |some m=>simp only[Option.bind_some];rw[Bool.eq_iff_iff,List.find?_isSome,List.any_eq_true]
 ·rfl
abbrev aV:=List UInt8
theorem HY {x:Int} (h0:0≤x) (h1:x<10):dg x=mC x:=by
 rw[rH (by omega) h1,if_neg (by omega)];rfl
theorem tg {x:Int} {K:List UInt8→Prop} (h0: -1≤x) (h1:x<10) (hK:K (mC x)):kz x K:=by
 refine br (fun e=> ?_) fun e=> ?_
 ·have e:=beq_iff_eq.1 e
  rw[e]at hK;exact hK
 ·have e:=beq_eq_false_iff_ne.1 e
  exact zB (by omega) (by omega) (by rw[HY (by omega) h1];exact hK)
theorem nI {l r ro:List Int} {K:List UInt8→Prop} (hK:be l r ro→K (nJ l r ro)) (hn:¬be l r ro→K []):gj l r ro K:=by
 refine b7 (br (fun e=>hn (by simpa using e)) fun e=> ?_)
 have hv:be l r ro:=by simpa using e
 replace hK:=hK hv
 have h8:=hv.l8;have r3:=hv.r3;have hlr:=hv.lr
 refine af (fun i s=>s=(eS l r i,(i:Int),l,r,ro)) l.length rfl ?_ ?_
 ·rintro i _ hi rfl Kb hKb
  have a:=hv.at.1 i hi;have b:=hv.at.2.1 i hi
  unfold dH at a b
  have e1:(eS l r i).length=i*3:=aZ fun j hj=>ed hv j (by omega)
  have e2:=cj (x:=l.getD i 0) (by omega) (by omega)
  have e3:=cj (x:=r.getD i 0) (by omega) (by omega)
  refine ap (by simp[aa];exact hi) ⟨by rw[aj];exact hi, ?_⟩
  simp only[an]
  refine tg (by omega) (by omega) ⟨by omega,by rw[aj];omega,tg (by omega) (by omega) ⟨by simp[-List.getD_eq_getElem?_getD,e1,e2,e3];omega,by simp[-List.getD_eq_getElem?_getD,e1,e2,e3];omega,hKb _ ?_⟩⟩
  rw[ai (by omega)]
  unfold eS
  rw[bJ]
  simp only[List.append_assoc]
 ·rintro _ rfl Kb
  refine ak (by simp[aa]) ⟨?_, ?_⟩
  ·have e1:(eS l r l.length).length=l.length*3:=aZ (ed hv)
   simp[e1];omega
  refine af (fun i s=>s=((eS l r l.length++[47])++iL ro i,(i:Int),l,r,ro)) ro.length (by simp[iL,g8]) ?_ ?_
  ·rintro i _ hi rfl Kb hKb
   have a:=hv.at.2.2 i hi
   unfold dH at a
   have e1:(eS l r l.length).length=l.length*3:=aZ (ed hv)
   have e4:(iL ro i).length=i*2:=aZ fun j hj=>jT hv j (by omega)
   have e2:=cj (x:=ro.getD i 0) (by omega) (by omega)
   refine ap (by simp[aa];exact hi) ⟨by simp[-List.getD_eq_getElem?_getD,e1,e4];omega,by rw[aj];exact hi, ?_⟩
   simp only[an]
   refine tg (by omega) (by omega) ⟨by simp[-List.getD_eq_getElem?_getD,e1,e2,e4];omega,hKb _ ?_⟩
   rw[ai (by omega)]
   unfold iL
   rw[bJ]
   simp only[List.append_assoc]
  ·rintro _ rfl Kb
   exact ak (by simp[aa]) hK
theorem H4 (l:List aV) (i:Nat):gS l (i:Int)=l.getD i []:=by simp[gS,EK.dflt]
theorem lp {s sep:aV} (h:Lib.index s sep= -1):Lib.split s sep=[s]:=by unfold Lib.split;rw[Lib.count_miss h];rfl
theorem qP (sep:aV) (k:Nat) (s:aV):Lib.splitK sep 0 (k+1) s=if Lib.index s sep== -1 then[s]else s.take ((Lib.index s sep).toNat+0)::Lib.splitK sep 0 k (s.drop ((Lib.index s sep).toNat+sep.length)):=rfl
theorem qi {s sep:aV} {i:Nat} (hs:sep≠[]) (h:Lib.index s sep=i):Lib.split s sep=s.take i::Lib.split (s.drop (i+sep.length)) sep:=by
 unfold Lib.split
 rw[Lib.count_hit hs h,Nat.add_comm 1,qP]
 have hm:¬(Lib.index s sep== -1)=true:=fun e=>by have:=beq_iff_eq.1 e;omega
 have e:(Lib.index s sep).toNat=i:=by omega
 rw[if_neg hm,e,Nat.add_zero]
theorem wV {c:UInt8}:∀{u:aV},c∉u→Lib.indexByte u c= -1
 |[],_=>rfl
 |b::u,h=>by
  unfold Lib.indexByte
  have hb:¬(b==c)=true:=fun e=>h (by rw[beq_iff_eq.1 e];simp)
  rw[if_neg hb,if_pos (by rw[wV fun q=>h (by simp[q])];rfl)]
theorem zE {c:UInt8}:∀{u v:aV},c∉u→Lib.indexByte (u++c::v) c=(u.length:Int)
 |[],v,_=>by simp[Lib.indexByte]
 |b::u,v,h=>by
  rw[List.cons_append]
  unfold Lib.indexByte
  have hb:¬(b==c)=true:=fun e=>h (by rw[beq_iff_eq.1 e];simp)
  have ih:=zE (c:=c) (u:=u) (v:=v) fun q=>h (by simp[q])
  rw[if_neg hb,ih,if_neg (by intro e;have:=beq_iff_eq.1 e;omega)]
  simp
theorem d9 {c:UInt8} {u v:aV} (h:c∉u):Lib.split (u++c::v) [c]=u::Lib.split v [c]:=by
 rw[qi (i:=u.length) (by simp) (by rw[Lib.index_one,zE h])]
 simp
theorem dF {c:UInt8} {u:aV} (h:c∉u):Lib.split u [c]=[u]:=lp (by rw[Lib.index_one,wV h])
theorem tS {c:UInt8}:∀{ps:List aV} {t:aV},c∉t→(∀p∈ps,c∉p)→Lib.split (t++ps.flatMap (fun p=>[c]++p)) [c]=t::ps
 |[],t,ht,_=>by simpa using dF ht
 |p::ps,t,ht,h=>by
  rw[List.flatMap_cons,show t++(([c]++p)++ps.flatMap (fun p=>[c]++p))=t++c::(p++ps.flatMap (fun p=>[c]++p)) by simp,d9 ht,tS (h p (by simp)) fun q hq=>h q (by simp[hq])]
theorem qT (p1 p2:aV):Lib.countB ⟨p1.toArray⟩ ⟨p2.toArray⟩=Lib.count p1 p2:=by unfold Lib.countB;rfl
theorem Bq {s sep:aV} {K:List aV→Prop} (hs:s.length<4294967281) (h1:1≤sep.length) (hK:K (Lib.split s sep)):eM s sep K:=by
 refine⟨⟨hs,h1⟩, ?_⟩
 rw[Lib.splitB_data,qT]
 exact hK
def wR (c:UInt8) (acc:aV):aV→List aV
 |[]=>[acc]
 |x::l=>if x=c then acc::wR c [] l else wR c (acc++[x]) l
theorem AC {s:aV} {c:UInt8}:∀(n f i:Nat),n=s.length+1-i→f≤i→i≤s.length→wB s c n f i=wR c ((s.take i).drop f) (s.drop i)
 |0,f,i,hn,_,hi=>by omega
 |n+1,f,i,hn,hf,hi=>by
  unfold wB
  have hsub:sub s (f:Int) (i:Int)=(s.take i).drop f:=by simp[sub]
  split
  ·rename_i e
   subst e
   rw[List.drop_length,hsub];rfl
  ·rename_i e
   have hil:i<s.length:=by omega
   have hd:s.drop i=s.getD i 0::s.drop (i+1):=by rw[List.drop_eq_getElem_cons hil,aw hil]
   rw[hd]
   unfold wR
   split
   ·rw[AC n (i+1) (i+1) (by omega) (Nat.le_refl _) (by omega),hsub]
    congr 2
    simp
   ·rw[AC n f (i+1) (by omega) (by omega) (by omega)]
    congr 1
    rw[List.take_add_one,List.getElem?_eq_getElem hil,List.drop_append_of_le_length (by simp;omega),aw hil]
    rfl
theorem rK {c:UInt8}:∀(l acc:aV),c∉acc→Lib.split (acc++l) [c]=wR c acc l
 |[],acc,h=>by rw[List.append_nil,dF h];rfl
 |x::l,acc,h=>by
  unfold wR
  split
  ·rename_i e
   subst e
   rw[d9 h]
   have:=rK (c:=x) l [] (by simp)
   rw[List.nil_append]at this
   rw[this]
  ·rename_i e
   have:=rK (c:=c) l (acc++[x]) (by simp[h];exact fun q=>e q.symm)
   rw[←this];simp
theorem nX (s:aV) (c:UInt8):vI s c=Lib.split s [c]:=by
 have h1:=AC (s:=s) (c:=c) (s.length+1) 0 0 (by omega) (Nat.le_refl _) (Nat.zero_le _)
 have h2:=rK (c:=c) s [] (by simp)
 unfold vI
 rw[h1]
 simpa using h2.symm
theorem qd {s:aV} {c:UInt8}:(Lib.split s [c]).length≤s.length+1:=by
 have key:∀(l acc:aV),(wR c acc l).length≤l.length+1:=fun l=>by
  induction l with
  |nil=>intro acc;simp[wR]
  |cons x l ih=>
   intro acc
   unfold wR
   split
   ·have:=ih [];simp;omega
   ·have:=ih (acc++[x]);simp;omega
 have h2:=rK (c:=c) s [] (by simp)
 rw[List.nil_append]at h2
 rw[h2];exact key _ _
abbrev ug:aV:=[44,32]
theorem Dx {u v:aV} (h:(44:UInt8)∉u):Lib.index (u++(44::32::v)) ug=(u.length:Int):=by
 refine Lib.index_first (by simp) (by simp[Lib.occAt]) fun j hj=> ?_
 unfold Lib.occAt
 have hd:(u++(44::32::v)).drop j=u[j]::(u++(44::32::v)).drop (j+1):=by
  rw[List.drop_eq_getElem_cons (by simp;omega),List.getElem_append_left hj]
 rw[hd]
 have:u[j]≠44:=fun e=>h (e▸List.getElem_mem hj)
 simp[List.isPrefixOf,this.symm]
theorem wJ {u:aV} (h:(44:UInt8)∉u):Lib.index u ug= -1:=by
 refine Lib.index_none fun j hj=> ?_
 unfold Lib.occAt
 rcases Nat.lt_or_eq_of_le hj with hj|hj
 ·rw[List.drop_eq_getElem_cons hj]
  have:u[j]≠44:=fun e=>h (e▸List.getElem_mem hj)
  simp[List.isPrefixOf,this.symm]
 ·rw[hj,List.drop_length];rfl
theorem Bn (sep q:aV) (r:List aV):Lib.joinTail sep (q::r)=sep++Lib.join (q::r) sep:=by
 rw[Lib.join_cons]
 simp[Lib.joinTail]
theorem qX:∀{ps:List aV},ps≠[]→(∀p∈ps,(44:UInt8)∉p)→Lib.split (Lib.join ps ug) ug=ps
 |[p],_,h=>by rw[Lib.join_one,lp (wJ (h p (by simp)))]
 |p::q::r,_,h=>by
  rw[Lib.join_cons,Bn]
  have hx:p++(ug++Lib.join (q::r) ug)=p++(44::32::Lib.join (q::r) ug):=rfl
  rw[hx,qi (i:=p.length) (by simp) (Dx (h p (by simp)))]
  have:(p++44::32::Lib.join (q::r) ug).drop (p.length+List.length ug)=Lib.join (q::r) ug:=by
   rw[List.drop_append,List.drop_eq_nil_of_le (by simp)]
   simp
  rw[this,qX (by simp) fun x hx=>h x (List.mem_cons_of_mem _ hx)]
  simp
theorem sd (s sep:aV):Lib.split s sep≠[]:=by
 unfold Lib.split
 cases Lib.count s sep with
 |zero=>simp[Lib.splitK]
 |succ k=>rw[qP];split<;>simp
theorem so {sep:aV} (hs:sep≠[]):∀(n:Nat) (s:aV),s.length≤n→Lib.join (Lib.split s sep) sep=s:=by
 have hpos:=List.length_pos_iff.2 hs
 intro n
 induction n with
 |zero=>
  intro s hl
  have:s=[]:=List.length_eq_zero_iff.1 (by omega)
  subst this
  rw[lp (by cases sep with|nil=>exact absurd rfl hs|cons a t=>rfl),Lib.join_one]
 |succ n ih=>
  intro s hl
  rcases Lib.index_spec s sep with⟨h,_⟩|⟨i,h,hi,ho,_⟩
  ·rw[lp h,Lib.join_one]
  ·rw[qi hs h,Lib.join_cons]
   unfold Lib.occAt at ho
   rw[List.isPrefixOf_iff_prefix]at ho
   obtain⟨t,ht⟩:=ho
   have hd:s.drop (i+sep.length)=t:=by rw[←List.drop_drop,←ht];simp
   rw[hd]
   have hlt:t.length≤n:=by
    have:=congrArg List.length ht
    simp at this;omega
   have e:=ih t hlt
   obtain⟨q,r,hq⟩:∃q r,Lib.split t sep=q::r:=by
    cases h2:Lib.split t sep with
    |nil=>exact absurd h2 (sd t sep)
    |cons q r=>exact⟨q,r,rfl⟩
   rw[hq]at e⊢
   rw[Bn,e,ht,List.take_append_drop]
def sV (l:List aA):aV:=Lib.join (l.map cO) ug
def kB (s:aV) (l:List aA):Prop:=jb l 3∧sV l=s
theorem zL {o:aA} (h:bB o 3):(44:UInt8)∉cO o:=by
 have key:∀o∈vb,(44:UInt8)∉cO o:=by decide+kernel
 exact key o (o4 h)
theorem Hf (o:aA):(cO o).length≤12:=by
 unfold cO dg
 have:=qw o.kind
 split<;>simp<;>omega
theorem qK {s:aV} {l:List aA} (h:kB s l) (hs:s≠[]):Lib.split s ug=l.map cO:=by
 obtain⟨h1,rfl⟩:=h
 refine qX (fun e=>hs ?_) fun p hp=> ?_
 ·unfold sV;rw[e];rfl
 ·obtain⟨o,ho,rfl⟩:=List.mem_map.1 hp
  exact zL (h1.ok o ho)
theorem o0 {s:aV} {l l':List aA} (h:kB s l) (h':kB s l'):l=l':=by
 by_cases hs:s=[]
 ·have nil:∀{l:List aA},kB s l→l=[]:=fun{l} h=>by
   cases l with
   |nil=>rfl
   |cons o l=>
    exfalso
    have e:=h.2
    unfold sV at e
    rw[hs,List.map_cons,Lib.join_cons]at e
    exact AF (List.append_eq_nil_iff.1 e).1
  rw[nil h,nil h']
 ·have e:=(qK h hs).symm.trans (qK h' hs)
  have hl:l.length=l'.length:=by simpa using congrArg List.length e
  refine List.ext_getElem hl fun i h1 h2=> ?_
  have ei:(l.map cO)[i]? =(l'.map cO)[i]? :=by rw[e]
  simp[h1,h2]at ei
  exact Bo (h.1.ok _ (List.getElem_mem h1)) (h'.1.ok _ (List.getElem_mem h2)) ei
theorem Fp (k:Int) (h1:1≤k) (h7:k≤7):gS [([]:List UInt8),[110,101,119],[99,111,112,121],[108,101,102,116],[114,105,103,104,116],[112,117,116,108,101,102,116],[112,117,116,114,105,103,104,116],[99,108,101,97,114]] k=nP k:=by
 rcases(show k=1∨k=2∨k=3∨k=4∨k=5∨k=6∨k=7 by omega)with rfl|rfl|rfl|rfl|rfl|rfl|rfl<;>decide
theorem xE {k a b:Int} {K:List UInt8→Prop} (hy:bB ⟨k,a,b⟩ 3→K (cO ⟨k,a,b⟩)) (hn:¬bB ⟨k,a,b⟩ 3→K []):lK k a b K:=by
 refine ld (q:=3) rfl (br (fun e=>hn (by simpa using e)) fun e=> ?_)
 have ho:bB ⟨k,a,b⟩ 3:=by simpa using e
 replace hy:=hy ho
 have k1:=ho.k1;have k7:=ho.k7;have a0:=ho.a0;have a3:=ho.a3;have b0:=ho.b0;have b3:=ho.b3
 simp only at k1 k7 a0 a3 b0 b3
 have hw:=qw k
 have d1:Lib.decDigits a.toNat=dg a:=by rw[ku (by omega)];rfl
 have d2:Lib.decDigits b.toNat=dg b:=by rw[ku (by omega)];rfl
 unfold cO at hy
 refine⟨⟨by omega,show k<8 by omega⟩, ?_⟩
 simp only[Fp k k1 k7]
 refine⟨by simp;omega,n6 a0 (by omega) ?_⟩
 rw[d1]
 refine⟨by simp[dg];omega,br (fun e1=>br (fun e2=>n6 b0 (by omega) ?_) fun e2=> ?_) fun e1=> ?_⟩
 ·rw[d2]
  have e1:=bne_iff_ne.1 e1;have e2:=bne_iff_ne.1 e2
  rw[if_neg (not_or.2 ⟨e1,e2⟩)]at hy
  refine⟨by simp[dg],by simp[dg];omega, ?_⟩
  rw[←List.append_assoc];exact hy
 ·have e2:=bne_eq_false_iff_eq.1 e2
  rw[if_pos (.inr e2)]at hy;exact hy
 ·have e1:=bne_eq_false_iff_eq.1 e1
  rw[if_pos (.inl e1)]at hy;exact hy
theorem sA {s:List UInt8} {K:Int→Int→Int→Bool→Prop} (hy:∀o,gX s=some o→K o.kind o.a o.b true) (hn:gX s=none→K 0 0 0 false):kX s K:=by
 refine af (fun i st=>st=(s,1+(i:Int),0,0,0)∧∀o,bB o 3→o.kind<1+(i:Int)→cO o≠s) 7 ⟨rfl,fun o ho h=>by have:=ho.k1;omega⟩ ?_ ?_
 ·rintro i _ hi ⟨rfl,hj⟩ Kb hKb
  refine ap (by simp;omega) ?_
  refine af (fun j st=>st=(s,1+(i:Int),(j:Int),0,0,0)∧∀o,bB o 3→o.kind=1+(i:Int)→o.a<(j:Int)→cO o≠s) 3 ⟨rfl,fun o ho _ h=>by have:=ho.a0;omega⟩ ?_ ?_
  ·rintro j _ hj2 ⟨rfl,hj3⟩ Kb2 hKb2
   refine ap (by simp;omega) ?_
   refine af (fun m st=>st=(s,1+(i:Int),(j:Int),(j:Int),(m:Int),0,0,0)∧∀o,bB o 3→o.kind=1+(i:Int)→o.a=(j:Int)→o.b<(m:Int)→cO o≠s) 3 ⟨rfl,fun o ho _ _ h=>by have:=ho.b0;omega⟩ ?_ ?_
   ·rintro m _ hm ⟨rfl,hm2⟩ Kb3 hKb3
    have next:(∀o,bB o 3→o.kind=1+(i:Int)→o.a=(j:Int)→o.b=(m:Int)→cO o≠s)→Kb3 (s,1+(i:Int),(j:Int),(j:Int),ah (m:Int) 1,0,0,0):=fun h=>hKb3 _ ⟨by rw[ai (by omega)],fun o ho h1 h2 h3=>by
     rcases Int.lt_or_eq_of_le (show o.b≤(m:Int) by omega)with q|q
     ·exact hm2 o ho h1 h2 q
     ·exact h o ho h1 h2 q⟩
    refine ap (by simp;omega) (br (fun e=>xE (fun hok=>br (fun e2=>hy ⟨1+(i:Int),(j:Int),(m:Int)⟩ (bT.2 ⟨hok,by simpa using e2⟩)) fun e2=>next fun o ho h1 h2 h3=> ?_) fun hok=>ak ?_ (next fun o ho h1 h2 h3=> ?_)) fun e=>next fun o ho h1 h2 h3=> ?_)
    ·have e2:cO ⟨1+(i:Int),(j:Int),(m:Int)⟩≠s:=by simpa using e2
     obtain⟨k,a,b⟩:=o
     simp only at h1 h2 h3
     rw[h1,h2,h3];exact e2
    ·have e:s≠[]:=by simpa using e
     simpa using e
    ·obtain⟨k,a,b⟩:=o
     simp only at h1 h2 h3
     rw[h1,h2,h3]at ho
     exact absurd ho hok
    ·have e:s=[]:=by simpa using e
     rw[e];exact AF
   ·rintro _ ⟨rfl,hm2⟩ Kb3
    refine ak (by simp) (hKb2 _ ⟨by rw[ai (by omega)],fun o ho h1 h2=> ?_⟩)
    rcases Int.lt_or_eq_of_le (show o.a≤(j:Int) by omega)with q|q
    ·exact hj3 o ho h1 q
    ·exact hm2 o ho h1 q ho.b3
  ·rintro _ ⟨rfl,hj3⟩ Kb2
   refine ak (by simp) (hKb _ ⟨?_,fun o ho h1=> ?_⟩)
   ·show(s,ah (1+(i:Int)) 1,(0:Int),(0:Int),(0:Int))=_
    rw[bF (by omega) (by omega)]
    simp only[Prod.mk.injEq,and_true,true_and];omega
   ·rcases Int.lt_or_eq_of_le (show o.kind≤1+(i:Int) by omega)with q|q
    ·exact hj o ho q
    ·exact hj3 o ho q ho.a3
 ·rintro _ ⟨rfl,hj⟩ Kb
  exact ak (by simp) (hn (mz.2 fun o ho=>hj o ho (by have:=ho.k7;omega)))
theorem Av {s:aV}:(Lib.split s ug).length≤s.length+1:=by
 have h:=Lib.splitB_all ⟨ug.toArray⟩ (by decide) 0 _ ⟨s.toArray⟩ rfl
 have h2:=Lib.countB_le ⟨ug.toArray⟩ (by decide) s.length ⟨s.toArray⟩ (by simp[ByteArray.size])
 have e:Lib.split s ug=(Lib.splitB ⟨ug.toArray⟩ 0 (Lib.countB ⟨s.toArray⟩ ⟨ug.toArray⟩) ⟨s.toArray⟩).map (·.data.toList):=by rw[Lib.splitB_data,qT];rfl
 rw[e,List.length_map,h]
 simp[ByteArray.size]at h2
 omega
theorem zo {s:aV} {K:Bool→List aA→Prop} (hs:s.length<2^31) (hy:∀l,kB s l→K true l) (hn:(∀l,¬kB s l)→K false []):mL s K:=by
 refine br (fun e=> ?_) fun e=> ?_
 ·have e:s=[]:=beq_iff_eq.1 e
  exact hy [] ⟨⟨by simp,by simp⟩,by rw[e];rfl⟩
 have hne:s≠[]:=by simpa using e
 refine Bq (by omega) (by decide) ?_
 have hj:=so (sep:=ug) (by decide) s.length s (Nat.le_refl _)
 have hp:∀l,kB s l→Lib.split s ug=l.map cO:=fun l h=>qK h hne
 have hsl:=Av (s:=s)
 generalize hps:Lib.split s ug=ps at hj hsl hp
 refine af (fun i st=>∃out:List aA,st=(len ps,(i:Int),out,ps)∧i≤12∧out.length=i∧out.map cO=ps.take i∧∀o∈out,bB o 3) ps.length ⟨[],rfl,by omega,rfl,rfl,by simp⟩ ?_ ?_
 ·rintro i _ hi ⟨out,rfl,h12,hl,hm,ho⟩ Kb hKb
  refine ap (by simp[aa];exact hi) ⟨by rw[aj];exact hi, ?_⟩
  simp only[H4]
  have hg:ps.getD i []=ps[i]:=aw hi
  refine sA (fun o hok=>ak rfl (br (fun e=>hn fun l h=> ?_) fun e=>⟨by simp;omega,hKb _ ⟨out++[o],by rw[ai (by omega)], ?_,by simp;omega, ?_,fun q hq=> ?_⟩⟩)) fun hno=>ap rfl (hn fun l h=> ?_)
  ·have e:=beq_iff_eq.1 e
   simp only[aa]at e
   have:=congrArg List.length (hp l h)
   have h13:=h.1.len
   simp at this;omega
  ·have e:=beq_eq_false_iff_ne.1 e
   simp only[aa]at e;omega
  ·rw[List.map_append,hm,List.take_add_one,List.getElem?_eq_getElem hi]
   have e3:cO o=ps[i]:=(bT.1 hok).2.trans hg
   rw[List.map_cons,List.map_nil,e3];rfl
  ·rcases List.mem_append.1 hq with hq|hq
   ·exact ho q hq
   ·rw[List.mem_singleton.1 hq];exact(bT.1 hok).1
  ·have e:=hp l h
   have hil:i<l.length:=by have:=congrArg List.length e;simp at this;omega
   have ei:ps[i]? =(l.map cO)[i]? :=by rw[e]
   rw[List.getElem?_eq_getElem hi,List.getElem?_map,List.getElem?_eq_getElem hil]at ei
   simp at ei
   exact mz.1 hno l[i] (h.1.ok _ (List.getElem_mem hil)) (by rw[hg,ei])
 ·rintro _ ⟨out,rfl,h12,hl,hm,ho⟩ Kb
  refine ak (by simp[aa]) (hy out ⟨⟨ho,by omega⟩, ?_⟩)
  rw[List.take_length]at hm
  unfold sV
  rw[hm];exact hj
theorem lw:∀{ts:List aV} {l:List aA},gV false ts=some l↔(∀o∈l,bB o 3)∧ts=l.map fun o=>32::cO o
 |[],l=>by
  cases l with
  |nil=>simp[gV]
  |cons o l=>simp[gV]
 |t::ts,l=>by
  simp only[gV,Option.bind_eq_some_iff,Option.map_eq_some_iff]
  constructor
  ·rintro⟨o,ho,l',hl,rfl⟩
   obtain⟨h1,h2⟩:=lw.1 hl
   cases t with
   |nil=>simp[oZ]at ho
   |cons c t=>
    simp only[oZ]at ho
    split at ho
    ·rename_i hc
     have:=bT.1 ho
     refine⟨fun q hq=> ?_, ?_⟩
     ·rcases List.mem_cons.1 hq with rfl|hq
      ·exact this.1
      ·exact h1 q hq
     ·rw[List.map_cons,←h2,this.2,hc]
    ·cases ho
  ·rintro⟨h1,h2⟩
   cases l with
   |nil=>simp at h2
   |cons o l=>
    rw[List.map_cons]at h2
    obtain⟨e1,e2⟩:=List.cons.inj h2
    refine⟨o, ?_,l,lw.2 ⟨fun q hq=>h1 q (by simp[hq]),e2⟩,rfl⟩
    rw[e1]
    simp only[oZ,if_true]
    exact bT.2 ⟨h1 o (by simp),rfl⟩
theorem E5:∀(r:List aV),Lib.joinTail [44] (r.map (32::·))=Lib.joinTail ug r
 |[]=>rfl
 |q::r=>by
  have:=E5 r
  simp[Lib.joinTail]at this⊢
  rw[this]
theorem ua {s:aV} {l:List aA}:qr s=some l↔kB s l:=by
 unfold qr
 by_cases hs:s=[]
 ·rw[if_pos hs]
  constructor
  ·intro h;cases h
   exact⟨⟨by simp,by simp⟩,by rw[hs];rfl⟩
  ·intro h
   rw[o0 h (l':=[]) ⟨⟨by simp,by simp⟩,by rw[hs];rfl⟩]
 rw[if_neg hs,nX]
 have back:∀{o:aA} {r:List aA},Lib.split s [44]=cO o::r.map (fun o=>32::cO o)→sV (o::r)=s:=fun{o r} h=>by
  have hj:=so (sep:=[44]) (by decide) s.length s (Nat.le_refl _)
  rw[h,Lib.join_cons]at hj
  unfold sV
  rw[List.map_cons,Lib.join_cons,←E5]
  rw[List.map_map]
  exact hj
 constructor
 ·intro h
  split at h
  ·cases h
  ·rename_i h12
   cases hp:Lib.split s [44]with
   |nil=>exact absurd hp (sd _ _)
   |cons t ts=>
    rw[hp]at h h12
    simp only[gV,Option.bind_eq_some_iff,Option.map_eq_some_iff]at h
    obtain⟨o,ho,l',hl,rfl⟩:=h
    obtain⟨h1,h2⟩:=lw.1 hl
    simp only[oZ]at ho
    have:=bT.1 ho
    rw[←this.2,h2]at hp
    refine⟨⟨fun q hq=> ?_, ?_⟩,back hp⟩
    ·rcases List.mem_cons.1 hq with rfl|hq
     ·exact this.1
     ·exact h1 q hq
    ·have:=congrArg List.length h2
     simp at this h12⊢;omega
 ·intro h
  obtain⟨hok,hj⟩:=h
  cases l with
  |nil=>exact absurd hj.symm hs
  |cons o r=>
   have hp:Lib.split s [44]=cO o::r.map (fun o=>32::cO o):=by
    rw[←hj]
    unfold sV
    rw[List.map_cons,Lib.join_cons,←E5,List.map_map]
    have:=tS (c:=44) (ps:=r.map fun o=>32::cO o) (t:=cO o) (zL (hok.ok o (by simp))) fun p hp=>by
     obtain⟨q,hq,rfl⟩:=List.mem_map.1 hp
     simp only[List.mem_cons,not_or]
     exact⟨by decide,zL (hok.ok q (by simp[hq]))⟩
    have e:Lib.joinTail [44] (r.map ((fun x=>32::x)∘cO))=(r.map fun o=>32::cO o).flatMap (fun p=>[44]++p):=by
     unfold Lib.joinTail
     rw[List.flatMap_def];rfl
    rw[e];exact this
   rw[hp]
   have h12:=hok.len
   rw[if_neg (by simp at h12⊢;omega)]
   simp only[gV,Option.bind_eq_some_iff,Option.map_eq_some_iff]
   exact⟨o,bT.2 ⟨hok.ok o (by simp),rfl⟩,r,lw.2 ⟨fun q hq=>hok.ok q (by simp[hq]),rfl⟩,rfl⟩
theorem xG {s:aV} {K:Bool→List aA→Prop} (hs:s.length<2^30) (hy:∀l,kB s l→K true l) (hn:(∀l,¬kB s l)→K false []):jv s K:=
 yI hs (fun l h=>hy l (ua.1 h)) fun h=>hn fun l q=>by rw[ua.2 q]at h;cases h
theorem J1 {r ro fr:List Int}:¬dR [] r ro fr:=fun h=>by have:=h.h.l1;simp at this
theorem E8 {l r ro fr:List Int} {K:Int→Int→Bool→List Int→Prop} (hv:dR l r ro fr) (hK:K 0 0 true (List.replicate l.length 0)):sC l r ro fr K:=by
 have h8:=hv.h.l8;have f8:=hv.f8
 refine c7 (by omega) (ak (by simp[hv]) ⟨⟨by simp only[aa];omega,rfl,by simp only[aa];omega⟩, ?_⟩)
 rw[aa,Int.toNat_natCast];exact hK
theorem Ao {l r ro fr:List Int} {ops:List aA} {K:Int→Int→Int→Bool→Bool→List Int→List Int→List Int→List Int→List Int→List aA→Prop} (ho:ops.length≤12) (hv:dR l r ro fr) (hy:jb ops ro.length→K 0 0 0 false true l r ro fr (List.replicate l.length 0) ops) (hn:¬jb ops ro.length→K 0 0 0 false false [] [] [] [] [] []):oE l r ro fr ops K:=by
 have h8:=hv.h.l8;have f8:=hv.f8
 refine E8 hv (ak rfl (wh rfl (by omega) (br (fun e=>hn (by simpa using e)) fun e=> ?_)))
 exact oY hv.h (by omega) (t8 (by omega) (hy (by simpa using e)))
theorem lL:∀(l l':List UInt8) (acc:Nat),Lib.decFrom acc (l++l')=(Lib.decFrom acc l).bind fun m=>Lib.decFrom m l'
 |[],l',acc=>rfl
 |b::l,l',acc=>by
  simp only[List.cons_append,Lib.decFrom]
  cases Lib.digitVal b with
  |none=>rfl
  |some d=>exact lL l l' _
theorem vl {n:Nat} (h:n<10):Lib.digitVal (UInt8.ofNat (48+n))=some n:=by
 have key:∀a:Fin 10,Lib.digitVal (UInt8.ofNat (48+a.1))=some a.1:=by decide
 exact key ⟨n,h⟩
theorem de (n:Nat):Lib.decFrom 0 (Lib.decDigits n)=some n:=by
 induction n using Nat.strongRecOn with
 |_ n ih=>
  by_cases h:n<10
  ·rw[ku h]
   simp only[Lib.decFrom,vl h]
   simp
  ·rw[Lib.decDigits,dif_neg h,lL,ih (n/10) (by omega)]
   show(match Lib.digitVal _ with|some d=>_|none=>_)=_
   rw[vl (Nat.mod_lt _ (by omega))]
   show some _=some _
   congr 1
   omega
theorem d7 (n:Nat):Lib.decDigits n≠[]:=fun e=>by
 by_cases h:n<10
 ·rw[ku h]at e;cases e
 ·rw[Lib.decDigits,dif_neg h]at e;simp at e
theorem nO (n:Nat):Lib.decNat (Lib.decDigits n)=some n:=by
 unfold Lib.decNat
 rw[if_neg (by simp[d7]),de]
theorem lU (n:Nat):Lib.atoi (Lib.decDigits n)=some (n:Int):=by
 have h1:=nO n
 have h2:=de n
 cases e:Lib.decDigits n with
 |nil=>exact absurd e (d7 n)
 |cons b t=>
  rw[e]at h1 h2
  have hb:b≠45∧b≠43:=by
   constructor
   ·rintro rfl
    have:Lib.digitVal 45=none:=by decide
    simp only[Lib.decFrom,this]at h2
    cases h2
   ·rintro rfl
    have:Lib.digitVal 43=none:=by decide
    simp only[Lib.decFrom,this]at h2
    cases h2
  simp only[Lib.atoi]
  rw[if_neg (by simpa using hb.1),if_neg (by simpa using hb.2),h1]
  rfl
def kj (s:aV):Option Nat:=if s.length≤17∧Lib.decDigits ((Lib.decNat s).getD 0)=s then some ((Lib.decNat s).getD 0)else none
theorem iw {s:aV} {n:Nat}:kj s=some n↔s.length≤17∧Lib.decDigits n=s:=by
 unfold kj
 constructor
 ·intro h
  split at h
  ·rename_i q
   cases h
   exact q
  ·cases h
 ·rintro⟨h,rfl⟩
  rw[nO]
  simp[h]
theorem nv {s:aV} {K:Int→Bool→Prop} (hs:s.length≤281474976710656) (hy:∀n,kj s=some n→K n true) (hn:kj s=none→∀x,K x false):iU s K:=by
 refine⟨hs, ?_⟩
 have hno:(∀n:Nat,Lib.decDigits n=s→17<s.length)→kj s=none:=fun h=>by
  cases e:kj s with
  |none=>rfl
  |some n=>have:=iw.1 e;have:=h n this.2;omega
 have hF:∀{y:Int×Bool},mO s=y→s.length≤17→y=match Lib.atoi s with|none=>(0,false)|some v=>(v,true):=fun e h=>by
  rw[←e]
  unfold mO
  rw[Lib.atoiAll_short s (by omega)]
  cases Lib.atoi s<;>rfl
 generalize mO s=F at hF⊢
 obtain⟨v,y⟩:=F
 have hF:=fun h=>hF rfl h
 refine br (fun ey=>br (fun e0=>br (fun e17=> ?_) fun e17=>hn (hno fun n h=> ?_) _) fun e0=>hn (hno fun n h=> ?_) _) fun ey=>hn (hno fun n h=> ?_) _
 ·have e0v:0≤v:=of_decide_eq_true e0
  have e17:s.length≤17:=by have:=of_decide_eq_true e17;simp only[aa]at this;omega
  have hF:=hF e17
  change y=true at ey
  subst ey
  cases ha:Lib.atoi s with
  |none=>rw[ha]at hF;cases hF
  |some w=>
   rw[ha]at hF
   cases hF
   have hb:v<1000000000000000000:=by
    obtain⟨b0,r,rfl,h⟩:=Lib.atoi_cases ha
    have hl:r.length≤17:=by simp at e17;omega
    rcases h with⟨_,m,_,hm,rfl⟩|⟨_,m,_,hm,rfl⟩|⟨_,_,m,hm,rfl⟩
    ·have:=Lib.decFrom_lt18 hm (by omega);omega
    ·have:=Lib.decFrom_lt18 hm (by omega);omega
    ·have:=Lib.decFrom_lt18 hm (by omega);omega
   have e2:Lib.itoa v=Lib.decDigits v.toNat:=by unfold Lib.itoa;rw[if_neg (by omega)]
   refine⟨⟨by show _≤v;omega,by show v≤_;omega⟩, ?_⟩
   show K v (Lib.itoa v==s)
   rw[e2]
   by_cases he:Lib.decDigits v.toNat=s
   ·rw[beq_iff_eq.2 he]
    have:=hy v.toNat (iw.2 ⟨e17,he⟩)
    rwa [Int.toNat_of_nonneg e0v]at this
   ·rw[beq_eq_false_iff_ne.2 he]
    exact hn (hno fun n h=>by rw[←h,lU]at ha;cases ha;exact absurd (by simpa using h) he) _
 ·have:=of_decide_eq_false e17
  simp only[aa]at this
  omega
 ·refine Decidable.byContradiction fun q=> ?_
  have hF:=hF (by omega)
  have e0:=of_decide_eq_false e0
  rw[←h,lU]at hF
  cases hF
  exact e0 (Int.natCast_nonneg n)
 ·refine Decidable.byContradiction fun q=> ?_
  have hF:=hF (by omega)
  rw[←h,lU]at hF
  cases hF
  cases ey
theorem wP {c:UInt8} {u v:aV} (h:c∉u):Lib.cut (u++c::v) [c]=(u,v,true):=by
 unfold Lib.cut
 rw[Lib.index_one,zE h,if_pos (by omega)]
 simp
theorem tD {c:UInt8} {u:aV} (h:c∉u):Lib.cut u [c]=(u,[],false):=by
 unfold Lib.cut
 rw[Lib.index_one,wV h,if_neg (by omega)]
theorem m5 (c:UInt8) (s:aV):c∉s∨∃u v,s=u++c::v∧c∉u:=by
 by_cases h:c∈s
 ·exact .inr (List.append_of_mem h|>.elim fun _ _=>by
   obtain⟨u,v,e,hu⟩:=List.eq_append_cons_of_mem h
   exact⟨u,v,e,hu⟩)
 ·exact .inl h
theorem BR {c:UInt8} {s:aV}:(Lib.cut s [c]).1.length≤s.length∧(Lib.cut s [c]).2.1.length≤s.length:=by
 rcases m5 c s with h|⟨u,v,rfl,h⟩
 ·rw[tD h];simp
 ·rw[wP h];simp;omega
theorem Hg {s:aV} {K:aV→aV→Bool→Prop} (hs:s.length<4294967281) (hK:K (Lib.cut s [32]).1 (Lib.cut s [32]).2.1 (Lib.cut s [32]).2.2):gn s [32] K:=⟨hs,hK⟩
theorem BF {f:Nat→List UInt8} {k:Nat}:∀{n:Nat},(∀i,i<n→(f i).length≤k)→(g8 f n).length≤n*k
 |0,_=>by simp[g8]
 |n+1,h=>by
  rw[bJ,List.length_append,Nat.succ_mul]
  have:=BF (f:=f) (k:=k) fun i (hi:i<n)=>h i (by omega)
  have:=h n (by omega)
  omega
theorem pz {fr:List Int} (h:∀x∈fr,0≤x∧x<100) {n:Nat} (hn:n≤fr.length):(da fr n).length≤n*3:=BF fun i hi=>by
 have:=h _ (al (0:Int) (by omega:i<fr.length))
 have:=fx (n:=(fr.getD i 0).toNat) (by omega)
 simp only[List.length_append,List.length_cons,List.length_nil]
 omega
theorem kh {fr:List Int} {K:List UInt8→Prop} (h:∀x∈fr,0≤x∧x<100) (hl:fr.length≤1000) (hK:K (da fr fr.length)):ef fr K:=by
 refine af (fun i s=>s=(da fr i,fr,len fr,(i:Int))) fr.length (by simp[da,g8]) ?_ ?_
 ·rintro i _ hi rfl Kb hKb
  have a:=h _ (al (0:Int) hi)
  have e4:=pz h (n:=i) (by omega)
  have e2:=fx (n:=(fr.getD i 0).toNat) (by omega)
  refine ap (by simp[aa];exact hi) ⟨by rw[aj];exact hi, ?_⟩
  simp only[an]
  refine n6 (by omega) (by omega) ⟨by simp only[List.length_cons,List.length_nil];omega,by simp only[List.length_append,List.length_cons,List.length_nil];omega,hKb _ ?_⟩
  rw[ai (by omega)]
  unfold da
  rw[bJ]
 ·rintro _ rfl Kb
  exact ak (by simp[aa]) hK
theorem nq {p:Nat→Bool} {n:Nat} {x:Int}:x∈eC p n↔∃i:Nat,i<n∧p i=true∧x=i:=by
 unfold eC
 simp only[List.mem_map,List.mem_filter,List.mem_range]
 constructor
 ·rintro⟨i,⟨h1,h2⟩,rfl⟩;exact⟨i,h1,h2,rfl⟩
 ·rintro⟨i,h1,h2,rfl⟩;exact⟨i,⟨h1,h2⟩,rfl⟩
def mw (l r:List Int) (c:Int):List Int:=eC (fun i=>decide (l.getD i 0=c∨r.getD i 0=c)) l.length
theorem xz {l r ro:List Int} {c:Int} {K:List Int→Prop} (hv:be l r ro) (h0:0≤c) (h1:c<l.length) (hK:K (mw l r c)):ln l r ro c K:=by
 have h8:=hv.l8;have hlr:=hv.lr
 refine wG hv (ak (by simp[h0,h1]) ?_)
 refine af (fun i s=>s=(c,len l,(i:Int),l,r,ro,eC (fun i=>decide (l.getD i 0=c∨r.getD i 0=c)) i)) l.length rfl ?_ ?_
 ·rintro i _ hi rfl Kb hKb
  have hl:=kC (fun i=>decide (l.getD i 0=c∨r.getD i 0=c)) i
  have hs:=ox (fun i=>decide (l.getD i 0=c∨r.getD i 0=c)) i
  have hw:ah (i:Int) 1=((i+1:Nat):Int):=ai (by omega)
  refine ap (by simp[aa];exact hi) ⟨by rw[aj];exact hi, ?_⟩
  simp only[an]
  refine br (fun e=>⟨by simp only[List.length_cons,List.length_nil];omega,hKb _ ?_⟩) fun e=>⟨by rw[aj];omega,br (fun e2=>⟨by simp only[List.length_cons,List.length_nil];omega,hKb _ ?_⟩) fun e2=>hKb _ ?_⟩
  ·have e:=beq_iff_eq.1 e
   rw[hw,hs,if_pos (by simp only[decide_eq_true_eq];exact .inl e)]
  ·have e2:=beq_iff_eq.1 e2
   rw[hw,hs,if_pos (by simp only[decide_eq_true_eq];exact .inr e2)]
  ·have e:=beq_eq_false_iff_ne.1 e
   have e2:=beq_eq_false_iff_ne.1 e2
   rw[hw,hs,if_neg (by simp only[decide_eq_true_eq];rintro(q|q)<;>contradiction)]
 ·rintro _ rfl Kb
  exact ak (by simp[aa]) hK
def eN (l r d:List Int):Prop:=∀c:Nat,c<l.length→d.getD c 0>1→∃y:Nat,y<l.length∧(l.getD y 0=c∨r.getD y 0=c)∧0<d.getD y 0∧d.getD y 0=d.getD c 0-1
theorem vT {l r:List Int} {st:List Int×List Int} (hd:hB l.length st) (h:eN l r st.1) {p far:Int} (hp:dH l.length p)
  (hy:far>1→p≠-1→∃y:Nat,y<l.length∧(l.getD y 0=p∨r.getD y 0=p)∧0<st.1.getD y 0∧st.1.getD y 0=far-1):eN l r (dm p far st).1:=by
 intro c hc hg
 have keep:∀y:Nat,0<st.1.getD y 0→(dm p far st).1.getD y 0=st.1.getD y 0:=fun y h0=>vD (by omega) fun q=>by rw[hd.len];exact hp.cell q
 by_cases q:p≠-1∧st.1.getD p.toNat 0=0
 ·have hpc:=hp.cell q.1
  have e:(dm p far st).1=st.1.set p.toNat far:=by unfold dm;rw[if_pos q]
  by_cases ec:p.toNat=c
  ·have ev:(dm p far st).1.getD c 0=far:=by rw[e,gQ (by rw[hd.len];omega),if_pos ec]
   rw[ev]at hg⊢
   obtain⟨y,y1,y2,y3,y4⟩:=hy hg q.1
   exact⟨y,y1,by rw[←ec,Int.toNat_of_nonneg hpc.1];exact y2,by rw[keep y y3];exact y3,by rw[keep y y3];exact y4⟩
  ·have ev:(dm p far st).1.getD c 0=st.1.getD c 0:=by rw[e,gQ (by rw[hd.len];omega),if_neg ec]
   rw[ev]at hg⊢
   obtain⟨y,y1,y2,y3,y4⟩:=h c hc hg
   exact⟨y,y1,y2,by rw[keep y y3];exact y3,by rw[keep y y3];exact y4⟩
 ·have e:dm p far st=st:=by unfold dm;rw[if_neg q]
  rw[e]at hg⊢
  exact h c hc hg
theorem C5 {l r ro:List Int} (hv:be l r ro) {st:List Int×List Int} (h:hB l.length st) (hq:eN l r st.1) {i:Nat} (hi:i<st.2.length) (hm:lF st.1 st.2 (st.1.getD (st.2.getD i 0).toNat 0+1)):eN l r (dst l r st i).1:=by
 have hg:=h.c.get hi
 have hmm:((st.2.getD i 0).toNat:Int)∈st.2:=by rw[Int.toNat_of_nonneg hg.1];exact al 0 hi
 have hne:=(h.m (st.2.getD i 0).toNat (by omega)).2 hmm
 have hpos:=h.pos (st.2.getD i 0).toNat (by omega)
 have hup:=h.up (st.2.getD i 0).toNat (by omega)
 have ol:=hv.atl hg.1 hg.2
 have or_:=hv.atr hg.1 hg.2
 obtain⟨h1,e1⟩:=h.meet (p:=l.getD (st.2.getD i 0).toNat 0) (far:=st.1.getD (st.2.getD i 0).toNat 0+1) ol (by omega) (by omega)
 have k1:=(h.step hv hi hm).2.2.2.2
 refine vT h1 (vT h hq ol fun _ _=>⟨(st.2.getD i 0).toNat,by omega, .inl rfl,by omega,by omega⟩) or_ fun _ _=>⟨(st.2.getD i 0).toNat,by omega, .inr rfl, ?_, ?_⟩
 ·rw[k1];omega
 ·rw[k1];omega
theorem yc {l r ro:List Int} (hv:be l r ro):∀(f i:Nat) (st:List Int×List Int),hB l.length st→eN l r st.1→(i<st.2.length→lF st.1 st.2 (st.1.getD (st.2.getD i 0).toNat 0+1))→eN l r (lG l r f i st).1
 |0,i,st,h,hq,hm=>hq
 |f+1,i,st,h,hq,hm=>by
  simp only[lG]
  by_cases hi:i<st.2.length
  ·rw[if_pos hi]
   obtain⟨h1,e1,k1,m1,_⟩:=h.step hv hi (hm hi)
   refine yc hv f (i+1) _ h1 (C5 hv h hq hi (hm hi)) fun hi1=>⟨m1.mono,fun k hk=> ?_⟩
   have a1:=m1.top k hk
   have a2:=m1.mono i (i+1) (by omega) hi1
   have a3:(dst l r st i).2.getD i 0=st.2.getD i 0:=by rw[e1];exact jg (jo l r st.2 i) hi
   rw[a3,k1]at a2
   omega
  ·rw[if_neg hi];exact hq
theorem yS {l r:List Int}:∀{ps:List Int} {st:List Int×List Int},hB l.length st→eN l r st.1→(∀x∈ps,dH l.length x)→eN l r (lD ps st).1
 |[],st,h,hq,_=>hq
 |p::ps,st,h,hq,hp=>yS (ps:=ps) (h.meet (p:=p) (far:=1) (hp p (by simp)) (by omega) (by omega)).1 (vT h hq (hp p (by simp)) fun e=>by omega) fun x hx=>hp x (by simp[hx])
theorem oj {l r ro:List Int} (hv:be l r ro):eN l r (bi l r ro):=by
 obtain⟨h1,e1,m1⟩:=o7 (yN l.length) hv.oko ⟨fun j k _ hk=>by simp at hk,fun k hk=>by simp at hk⟩
 have h0:eN l r (List.replicate l.length (0:Int)):=fun c hc hg=>by
  rw[aw (by simpa using hc)]at hg
  simp at hg
 refine yc hv (l.length+1) 0 _ h1 (yS (yN l.length) h0 hv.oko) fun hi=>⟨m1.mono,fun k hk=> ?_⟩
 have hg:=h1.c.get hi
 have hmm:(((lD ro (List.replicate l.length 0,[])).2.getD 0 0).toNat:Int)∈(lD ro (List.replicate l.length 0,[])).2:=by rw[Int.toNat_of_nonneg hg.1];exact al 0 hi
 have h2:=(h1.m _ (by omega)).2 hmm
 have h3:=h1.pos ((lD ro (List.replicate l.length 0,[])).2.getD 0 0).toNat (by omega)
 have:=m1.top k hk
 omega
def Af (l r d:List Int) (p:List Int):List Int:=
 match(mw l r (p.getD 0 0)).find? fun x=>decide (d.getD x.toNat 0=d.getD (p.getD 0 0).toNat 0-1)with
 |some x=>x::p
 |none=>p
def fp (l r d:List Int) (c:Int):Nat→List Int
 |0=>[c]
 |k+1=>Af l r d (fp l r d c k)
def pa (l r ro:List Int) (c:Int):List Int:=fp l r (bi l r ro) c ((bi l r ro).getD c.toNat 0-1).toNat
theorem wa {α:Type} {p:α→Bool} {d:α}:∀{l:List α} {j:Nat},j<l.length→(∀k,k<j→p (l.getD k d)=false)→p (l.getD j d)=true→l.find? p=some (l.getD j d)
 |[],j,h,_,_=>by simp at h
 |x::l,0,_,_,h=>by
  simp only[List.getD_cons_zero]at h⊢
  rw[List.find?_cons_of_pos h]
 |x::l,j+1,hj,h1,h2=>by
  have h0:=h1 0 (by omega)
  simp only[List.getD_cons_zero,List.getD_cons_succ]at h0 h2⊢
  rw[List.find?_cons_of_neg (by simp[h0])]
  exact wa (by simpa using hj) (fun k hk=>by have:=h1 (k+1) (by omega);simpa using this) h2
structure Ef (l r d:List Int) (c:Int) (k:Nat) (p:List Int):Prop where
 h0:0≤p.getD 0 0
 h1:p.getD 0 0<l.length
 far:d.getD (p.getD 0 0).toNat 0=d.getD c.toNat 0-k
 len:p.length=k+1
 all:∀x∈p,0≤x∧x<l.length
theorem oB {l r d:List Int} {c:Int} (hp:eN l r d) {k:Nat} (hk:(k:Int)+1<d.getD c.toNat 0) {p:List Int} (h:Ef l r d c k p):
  ∃x,(mw l r (p.getD 0 0)).find? (fun x=>decide (d.getD x.toNat 0=d.getD (p.getD 0 0).toNat 0-1))=some x∧Af l r d p=x::p∧Ef l r d c (k+1) (x::p):=by
 have h0:=h.h0;have h1:=h.h1;have hf:=h.far
 obtain⟨y,y1,y2,y3,y4⟩:=hp (p.getD 0 0).toNat (by omega) (by omega)
 rw[Int.toNat_of_nonneg h0]at y2
 have hy:(y:Int)∈mw l r (p.getD 0 0):=nq.2 ⟨y,y1,by simpa using y2,rfl⟩
 cases e:(mw l r (p.getD 0 0)).find? fun x=>decide (d.getD x.toNat 0=d.getD (p.getD 0 0).toNat 0-1)with
 |none=>
  have:=List.find?_eq_none.1 e y hy
  simp only[Int.toNat_natCast,decide_eq_true_eq]at this
  exact absurd y4 this
 |some x=>
  have hx:=List.mem_of_find?_eq_some e
  have hx2:=List.find?_some e
  simp only[decide_eq_true_eq]at hx2
  obtain⟨i,i1,i2,rfl⟩:=nq.1 hx
  refine⟨i,rfl,by unfold Af;rw[e],⟨by simp,by simp;omega,by simp only[List.getD_cons_zero];rw[hx2];omega,by simp[h.len],fun z hz=> ?_⟩⟩
  rcases List.mem_cons.1 hz with rfl|hz
  ·omega
  ·exact h.all z hz
theorem mB {l r d:List Int} {c:Int} (h0:0≤c) (h1:c<l.length) (hp:eN l r d):∀k:Nat,(k:Int)<d.getD c.toNat 0→Ef l r d c k (fp l r d c k)
 |0,_=>⟨by simpa[fp]using h0,by simpa[fp]using h1,by simp[fp],by simp[fp],fun x hx=>by simp[fp]at hx;subst hx;omega⟩
 |k+1,hk=>by
  obtain⟨x,_,e2,h2⟩:=oB hp (k:=k) (by omega) (mB h0 h1 hp k (by omega))
  simp only[fp]
  rw[e2];exact h2
theorem rO {l r ro:List Int} (hv:be l r ro) {c:Nat} (hc:c<l.length):0≤(bi l r ro).getD c 0∧(bi l r ro).getD c 0≤l.length:=by
 obtain⟨st,e1,e2,h,_⟩:=nk hv
 have a:=h.pos c hc
 have b:=h.up c hc
 have:=h.c.len
 rw[e1]at a b
 omega
theorem tz {l r ro:List Int} (hv:be l r ro) {c:Int} (h0:0≤c) (h1:c<l.length) (hd:(bi l r ro).getD c.toNat 0≠0):(pa l r ro c).length≤8∧∀x∈pa l r ro c,0≤x∧x<l.length:=by
 have hu:=rO hv (c:=c.toNat) (by omega)
 have h8:=hv.l8
 have:=mB (l:=l) (r:=r) (d:=bi l r ro) h0 h1 (oj hv) ((bi l r ro).getD c.toNat 0-1).toNat (by omega)
 exact⟨by have:=this.len;unfold pa;omega,this.all⟩
theorem xH {l r ro:List Int} {c:Int} {K:Bool→List Int→Prop} (hv:be l r ro) (hn:¬(0≤c∧c<l.length∧(bi l r ro).getD c.toNat 0≠0)→K false [])
  (hy:0≤c→c<l.length→(bi l r ro).getD c.toNat 0≠0→K true (pa l r ro c)):pQ l r ro c K:=by
 have h8:=hv.l8;have hlr:=hv.lr
 refine wG hv (br (fun e=>hn (by simp at e;rintro⟨q1,q2,_⟩;omega)) fun e=> ?_)
 have hc:0≤c∧c<l.length:=by simpa using e
 have hdl:=kE hv
 obtain⟨ci,rfl⟩:=Int.eq_ofNat_of_zero_le hc.1
 have hci:ci<l.length:=by omega
 refine qU hv ⟨by rw[aj];omega,br (fun e=>hn ?_) fun e=> ?_⟩
 ·rw[an]at e
  have e:=beq_iff_eq.1 e
  rintro⟨_,_,q⟩
  simp only[Int.toNat_natCast]at q
  exact q e
 rw[an]at e
 have hd:=beq_eq_false_iff_ne.1 e
 replace hy:=hy hc.1 hc.2 (by simpa using hd)
 have hu:=rO hv hci
 have hpred:=oj hv
 unfold pa at hy
 rw[Int.toNat_natCast]at hy
 generalize bi l r ro=d at*
 have hgI:∀{p:List Int},gI p 0=p.getD 0 0:=fun{p}=>by have:=an p 0;simpa using this
 have hgJ:∀{x:Int},0≤x→gI d x=d.getD x.toNat 0:=fun{x} hx=>by
  have:=an d x.toNat
  rwa [Int.toNat_of_nonneg hx]at this
 have hinJ:∀{x:Int} {n:Nat},0≤x→x<n→aq x n:=fun{x n} hx hn=>⟨hx,hn⟩
 refine af (fun k s=>s=(l,r,ro,d,fp l r d ci k)) (d.getD ci 0-1).toNat rfl ?_ ?_
 ·rintro k _ hk rfl Kb hKb
  have hP:=mB (c:=(ci:Int)) (r:=r) hc.1 hc.2 hpred k (by simp only[Int.toNat_natCast];omega)
  obtain⟨x,f1,f2,hP2⟩:=oB hpred (c:=(ci:Int)) (k:=k) (by simp only[Int.toNat_natCast];omega) hP
  have p0:=hP.h0;have p1:=hP.h1;have pf:=hP.far;have pl:=hP.len
  simp only[Int.toNat_natCast]at pf
  have hnx:fp l r d ci (k+1)=x::fp l r d ci k:=f2
  generalize fp l r d ci k=p at*
  simp only[hgI]
  refine⟨hinJ (by omega) (by omega), ?_⟩
  refine⟨hinJ p0 (by omega),ap (decide_eq_true (by rw[hgJ p0];omega)) ⟨hinJ (by omega) (by omega),xz hv p0 p1 ?_⟩⟩
  have hsl:(mw l r (p.getD 0 0)).length≤8:=by have:=kC (fun i=>decide (l.getD i 0=p.getD 0 0∨r.getD i 0=p.getD 0 0)) l.length;unfold mw;omega
  have hsm:∀j:Nat,j<(mw l r (p.getD 0 0)).length→0≤(mw l r (p.getD 0 0)).getD j 0∧(mw l r (p.getD 0 0)).getD j 0<l.length:=fun j hj=>by
   obtain⟨i,i1,_,i3⟩:=nq.1 (al (0:Int) hj)
   unfold mw
   omega
  have hfm:=List.mem_of_find?_eq_some f1
  have hfs:=List.find?_some f1
  have hfa:∀j,j<(mw l r (p.getD 0 0)).length→(∀k,k<j→d.getD ((mw l r (p.getD 0 0)).getD k 0).toNat 0≠d.getD (p.getD 0 0).toNat 0-1)→d.getD ((mw l r (p.getD 0 0)).getD j 0).toNat 0=d.getD (p.getD 0 0).toNat 0-1→(mw l r (p.getD 0 0)).getD j 0=x:=fun j hj g1 g2=>by
   have:=wa (p:=fun x=>decide (d.getD x.toNat 0=d.getD (p.getD 0 0).toNat 0-1)) (d:=(0:Int)) hj (fun k hk=>by simpa using g1 k hk) (by simpa using g2)
   rw[f1]at this
   exact(Option.some.inj this).symm
  generalize mw l r (p.getD 0 0)=q at*
  refine af (fun j s=>s=(len q,(j:Int),l,r,ro,d,p,q)∧∀k,k<j→d.getD (q.getD k 0).toNat 0≠d.getD (p.getD 0 0).toNat 0-1) q.length ⟨rfl,fun k hk=>by omega⟩ ?_ ?_
  ·rintro j _ hj ⟨rfl,hno⟩ Kc hKc
   have hqj:=hsm j hj
   refine ap (by simp[aa];exact hj) ⟨by rw[aj];exact hj, ?_⟩
   simp only[an,hgI]
   refine⟨hinJ hqj.1 (by omega),hinJ (by omega) (by omega),hinJ p0 (by omega), ?_⟩
   rw[hgJ hqj.1,hgJ p0,jx (by omega) (by omega)]
   refine br (fun e=>⟨by simp only[List.length_cons,List.length_nil];omega, ?_⟩) fun e=>hKc _ ⟨by rw[ai (by omega)],fun k' hk'=> ?_⟩
   ·have e:=beq_iff_eq.1 e
    have:=hfa j hj hno e
    refine hKb _ ?_
    rw[hnx,this];rfl
   ·rcases Nat.lt_succ_iff_lt_or_eq.1 hk' with e'|rfl
    ·exact hno k' e'
    ·exact beq_eq_false_iff_ne.1 e
  ·rintro _ ⟨rfl,hno⟩ Kc
   exfalso
   obtain⟨j,hj,ej⟩:=List.getElem_of_mem hfm
   have:=hno j hj
   rw[aw hj,ej]at this
   simp only[decide_eq_true_eq]at hfs
   exact this hfs
 ·rintro _ rfl Kb
  have hP:=mB (c:=(ci:Int)) (r:=r) hc.1 hc.2 hpred (d.getD ci 0-1).toNat (by simp only[Int.toNat_natCast];omega)
  have p0:=hP.h0;have p1:=hP.h1;have pf:=hP.far;have pl:=hP.len
  simp only[Int.toNat_natCast]at pf
  generalize fp l r d ci (d.getD ci 0-1).toNat=p at*
  simp only[hgI]
  refine⟨hinJ (by omega) (by omega), ?_⟩
  exact⟨hinJ p0 (by omega),ak (decide_eq_false (by rw[hgJ p0];omega)) hy⟩
structure jR where
 b:av
 bar:Bool
def kA (c q:Nat):av:=⟨⟨⟨List.replicate c (-1),List.replicate c (-1),List.replicate q (-1)⟩,Ax c⟩,⟨0,List.replicate c 0,0⟩,[],0,false⟩
theorem vQ {c q:Nat} (h1:1≤c) (h8:c≤8) (q1:1≤q) (q3:q≤3):cf (kA c q):=
 ⟨⟨qJ h1 h8 q1 q3,⟨by simp[kA],fun x hx=>by simp[kA]at hx;omega⟩, .inl ⟨rfl,rfl⟩⟩,⟨fun o ho=>by simp[kA]at ho,by simp[kA]⟩,by simp[kA],by simp[kA]⟩
def oq (b:av) (o:List aA) (i:Int):av:=⟨b.s,b.g,o,i,b.lost⟩
theorem Bv {b:av} (h:cf b) {o:List aA} (ho:jb o b.s.h.ro.length):cf (oq b o 0):=⟨h.g,ho,by simp[oq],by simp[oq]⟩
def Gm (s:jR) (o:aA):jR:=⟨oq (jr (oq s.b [o] 0) s.bar) s.b.ops s.b.pos,s.bar⟩
def Iz (e:Int):aV:=gS [[111,107],[102,117,108,108],[110,111,110,101]] e
open Classical in
noncomputable def du (s:jR) (w:aV):jR×Option aV:=
 if w=[102,105,110,105,115,104]then(⟨hH s.bar s.b,s.bar⟩,some (eB (hH s.bar s.b)))
 else if w=[115,104,111,119]then(s,some (eB s.b))
 else if w=[115,116,111,114,101]then(s,some (lg s.b.s))
 else if w=[103,97,114,98,97,103,101]then(s,some (w++da (gA s.b.s.h.l s.b.s.h.r s.b.s.h.ro) (gA s.b.s.h.l s.b.s.h.r s.b.s.h.ro).length))
 else if w=[108,101,97,107,101,100]then(s,some (w++da ((gA s.b.s.h.l s.b.s.h.r s.b.s.h.ro).filter fun x=>decide (x∉s.b.s.free)) ((gA s.b.s.h.l s.b.s.h.r s.b.s.h.ro).filter fun x=>decide (x∉s.b.s.free)).length))
 else if w=[99,111,117,110,116,115]then(s,some (w++da (nC s.b.s.h.l s.b.s.h.r s.b.s.h.ro) (nC s.b.s.h.l s.b.s.h.r s.b.s.h.ro).length))
 else if w=[111,114,100,101,114]then(s,some (w++da (bM s.b.s.h.l s.b.s.h.r s.b.s.h.ro) (bM s.b.s.h.l s.b.s.h.r s.b.s.h.ro).length))
 else if w=[99,111,112,121]then(s,some (nJ (wQ s.b.s.h.l (bM s.b.s.h.l s.b.s.h.r s.b.s.h.ro) s.b.s.h.l.length) (wQ s.b.s.h.r (bM s.b.s.h.l s.b.s.h.r s.b.s.h.ro) s.b.s.h.l.length) (s.b.s.h.ro.map (fc (bM s.b.s.h.l s.b.s.h.r s.b.s.h.ro)))))
 else if w=[108,111,115,101]then(s,some (if(oV s.b s.bar).2=false then[117,110,107,110,111,119,110]else match fH s.b s.bar with
  |some x=>[108,111,115,101,32]++x.road
  |none=>[110,101,118,101,114]))
 else(s,none)
open Classical in
noncomputable def hY (s:jR) (u v:aV):jR×Option aV:=
 if u=[110,101,119]then(match kj (Lib.cut v [32]).1,kj (Lib.cut v [32]).2.1 with
  |some a,some b=>if 1≤a∧a≤8∧1≤b∧b≤3 then(⟨kA a b,true⟩,some [111,107])else(s,none)
  |_,_=>(s,none))
 else if u=[100,111]then(match gX v with
  |some o=>if bB o s.b.s.h.ro.length∧s.b.lost=false then(Gm s o,some (Iz (bm s.b.s o).2))else(s,none)
  |none=>(s,none))
 else if u=[112,114,111,103,114,97,109]then(if h:∃l,kB v l∧jb l s.b.s.h.ro.length then(⟨oq s.b h.choose 0,s.bar⟩,some [111,107])else(s,none))
 else if u=[114,117,110]then(if v.length≤100∧hT v then(⟨kb s.b s.bar v,s.bar⟩,some (eB (kb s.b s.bar v)))else(s,none))
 else if u=[98,97,114,114,105,101,114]then(if v=[111,110]then(⟨s.b,true⟩,some [111,107])else if v=[111,102,102]then(⟨s.b,false⟩,some [111,107])else(s,none))
 else if u=[112,97,116,104]then(match kj v with
  |some n=>if n<s.b.s.h.l.length∧(bi s.b.s.h.l s.b.s.h.r s.b.s.h.ro).getD n 0≠0 then(s,some ([112,97,116,104]++da (pa s.b.s.h.l s.b.s.h.r s.b.s.h.ro n) (pa s.b.s.h.l s.b.s.h.r s.b.s.h.ro n).length))else(s,none)
  |none=>(s,none))
 else(s,none)
noncomputable def gK (s:jR) (x:aV):jR×aV:=
 (fun r:jR×Option aV=>(r.1,(r.2.getD [119,104,97,116])++[10])) (if(Lib.cut x [32]).2.2 then hY s (Lib.cut x [32]).1 (Lib.cut x [32]).2.1 else du s (Lib.cut x [32]).1)
noncomputable def dV:List aV→Nat→jR→aV→aV
 |[],_,_,out=>out
 |x::t,i,s,out=>if x=[]then dV t (i+1) s out else if 200≤i∨40000<out.length then out++([102,117,108,108]++[10])else dV t (i+1) (gK s x).1 (out++(gK s x).2)
theorem fR (i:Nat) (s:jR) (out:aV):dV [] i s out=out:=rfl
theorem dw (x:aV) (t:List aV) (i:Nat) (s:jR) (out:aV):dV (x::t) i s out=if x=[]then dV t (i+1) s out else if 200≤i∨40000<out.length then out++([102,117,108,108]++[10])else dV t (i+1) (gK s x).1 (out++(gK s x).2):=rfl
noncomputable def nF (text:aV):aV:=if 20000<text.length then[108,111,110,103,10]else dV (Lib.split text [10]) 0 ⟨kA 4 3,true⟩ []
theorem nh {b:av} (h:cf b) (bar:Bool):cf (hH bar b):=(uN _ 0 _ (Nat.lt_succ_self _) (tU (n:=rp b) h)).2.2
theorem sK {b:av} (h:cf b):(eB b).length≤200:=by
 obtain⟨⟨⟨l,r,ro⟩,fr⟩,⟨ph,col,a⟩,ops,i,lost⟩:=b
 have hv:dR l r ro fr:=h.g.sv
 have hc:fy l.length col:=h.g.c
 have hp:=JZ h.g
 have ha:=D1 h.g
 have i0:=h.i0;have i1:=h.i1;have o12:=h.o.len
 have h8:=hv.h.l8;have cl:=hc.len
 simp only at hp ha i0 i1 o12
 have e1:=k8 hv
 have e2:=vZ hp
 have e3:=fx (n:=a.toNat) (by omega)
 have e5:=fx (n:=i.toNat) (by omega)
 have e6:(n5 col col.length).length=col.length*1:=aZ (ie hc)
 unfold eB oS
 simp only[List.length_append,List.length_cons,List.length_nil]
 split
 ·simp only[List.length_append,List.length_cons,List.length_nil];omega
 ·simp only[List.length_append,List.length_cons,List.length_nil];omega
theorem eI {l r ro:List Int} (h8:l.length≤8):(gA l r ro).length≤8∧∀x∈gA l r ro,0≤x∧x<100:=by
 refine⟨Nat.le_trans (kC _ _) h8,fun x hx=> ?_⟩
 obtain⟨i,hi,_,rfl⟩:=nq.1 hx
 omega
theorem tG {l r ro:List Int} (hv:be l r ro):(nC l r ro).length≤8∧∀x∈nC l r ro,0≤x∧x<100:=by
 have h8:=hv.l8;have hlr:=hv.lr;have r3:=hv.r3
 refine⟨by simp[nC,gc];omega,fun x hx=> ?_⟩
 unfold nC gc at hx
 obtain⟨c,_,rfl⟩:=List.mem_map.1 hx
 have:=List.count_le_length (a:=(c:Int)) (l:=([l,r,ro].flatten.take [l,r,ro].flatten.length))
 simp only[List.length_take,List.flatten_cons,List.flatten_nil,List.append_nil,List.length_append]at this
 simp only[List.flatten_cons,List.flatten_nil,List.append_nil,List.length_append]
 omega
theorem tH {l r ro:List Int} (hv:be l r ro):(bM l r ro).length≤8∧∀x∈bM l r ro,0≤x∧x<100:=by
 obtain⟨st,_,e2,h,_⟩:=nk hv
 have h8:=hv.l8
 rw[←e2]
 exact⟨by have:=h.c.len;omega,fun x hx=>by have:=h.c.ok x hx;omega⟩
theorem tl {fr:List Int} (h:fr.length≤8∧∀x∈fr,0≤x∧x<100):(da fr fr.length).length≤24:=by have:=pz h.2 (n:=fr.length) (Nat.le_refl _);omega
theorem Bp {b:av} {bar:Bool} {x:ax} (h:fH b bar=some x):cf b∧x.road.length≤400:=by
 unfold fH at h
 split at h
 ·rename_i hv
  refine⟨hv, ?_⟩
  cases e:uq b bar with
  |none=>rw[e]at h;cases h
  |some m=>
   rw[e]at h
   have hx:=List.mem_of_find?_eq_some h
   obtain⟨ht,hl⟩:=iz (tf b bar) (by simp) e
   obtain⟨j,hj,rfl⟩:=List.getElem_of_mem hx
   have:=(rR hv ht j hj).len
   unfold nd at this
   rw[aw hj]at this
   omega
 ·cases h
theorem sr (s:aB) (o:aA):0≤(bm s o).2∧(bm s o).2≤2:=by
 unfold bm
 repeat' split
 all_goals simp
theorem AJ {s:jR} (h:cf s.b) {o:aA} (ho:bB o s.b.s.h.ro.length):cf (oq s.b [o] 0)∧cf (Gm s o).b:=by
 have h1:cf (oq s.b [o] 0):=Bv h ⟨fun x hx=>by simp at hx;subst hx;exact ho,by simp⟩
 have h2:=jX h1 (by simp[oq]) s.bar
 refine⟨h1,h2.g, ?_,h.i0,h.i1⟩
 show jb s.b.ops (jr (oq s.b [o] 0) s.bar).s.h.ro.length
 rw[IC]
 exact h.o
theorem Gp (e:Int):(Iz e).length≤4:=by
 unfold Iz gS
 rcases e.toNat with _|_|_|n
 ·decide
 ·decide
 ·decide
 ·simp[EK.dflt]
structure Az (s:jR) (p:jR×Option aV):Prop where
 b:cf p.1.b
 t:∀t,p.2=some t→t.length≤1000
 n:p.2=none→p.1=s
theorem Az.no {s:jR} (h:cf s.b):Az s (s,none):=⟨h,fun t ht=>(by cases ht),fun _=>rfl⟩
theorem Az.yes {s s':jR} {t:aV} (h:cf s'.b) (ht:t.length≤1000):Az s (s',some t):=⟨h,fun t e=>(by cases e;exact ht),fun h=>(by cases h)⟩
theorem qL {a b:aV} {m n:Nat} (h1:a.length≤m) (h2:b.length≤n) (h:m+n≤1000):(a++b).length≤1000:=by rw[List.length_append];omega
theorem iy {s:jR} (h:cf s.b) (w:aV):Az s (du s w)∧(du s w).1.bar=s.bar:=by
 have hv:be s.b.s.h.l s.b.s.h.r s.b.s.h.ro:=h.g.sv.h
 unfold du
 split
 ·exact⟨.yes (nh h _) (Nat.le_trans (sK (nh h _)) (by decide)),rfl⟩
 split
 ·exact⟨.yes h (Nat.le_trans (sK h) (by decide)),rfl⟩
 split
 ·exact⟨.yes h (Nat.le_trans (k8 h.g.sv) (by decide)),rfl⟩
 split
 ·rename_i e;subst e;exact⟨.yes h (qL (m:=100) (by decide) (tl (eI hv.l8)) (by decide)),rfl⟩
 split
 ·rename_i e;subst e;exact⟨.yes h (qL (m:=100) (by decide) (tl ⟨Nat.le_trans (List.length_filter_le _ _) (eI hv.l8).1,fun x hx=>(eI hv.l8).2 x (List.mem_filter.1 hx).1⟩) (by decide)),rfl⟩
 split
 ·rename_i e;subst e;exact⟨.yes h (qL (m:=100) (by decide) (tl (tG hv)) (by decide)),rfl⟩
 split
 ·rename_i e;subst e;exact⟨.yes h (qL (m:=100) (by decide) (tl (tH hv)) (by decide)),rfl⟩
 split
 ·exact⟨.yes h (Nat.le_trans (m8 (tW hv)) (by decide)),rfl⟩
 split
 ·refine⟨.yes h ?_,rfl⟩
  split
  ·decide
  ·split
   ·rename_i x e;exact qL (m:=5) (by decide) (Bp e).2 (by decide)
   ·decide
 ·exact⟨.no h,rfl⟩
theorem pC {s:jR} (h:cf s.b) (u v:aV):Az s (hY s u v):=by
 have hv:be s.b.s.h.l s.b.s.h.r s.b.s.h.ro:=h.g.sv.h
 unfold hY
 split
 ·split
  ·split
   ·rename_i hq;exact .yes (vQ hq.1 hq.2.1 hq.2.2.1 hq.2.2.2) (by decide)
   ·exact .no h
  ·exact .no h
 split
 ·split
  ·split
   ·rename_i hq;exact .yes (AJ h hq.1).2 (Nat.le_trans (Gp _) (by decide))
   ·exact .no h
  ·exact .no h
 split
 ·split
  ·rename_i hq;exact .yes (Bv h hq.choose_spec.2) (by decide)
  ·exact .no h
 split
 ·split
  ·exact .yes (i6 _ _ h) (Nat.le_trans (sK (i6 _ _ h)) (by decide))
  ·exact .no h
 split
 ·split
  ·exact .yes h (by decide)
  ·split
   ·exact .yes h (by decide)
   ·exact .no h
 split
 ·split
  ·rename_i n _
   split
   ·rename_i hq
    have hp:=tz hv (c:=(n:Int)) (by omega) (by omega) (by simpa using hq.2)
    exact .yes h (qL (m:=100) (by decide) (tl ⟨hp.1,fun x hx=>by have:=hp.2 x hx;have:=hv.l8;omega⟩) (by decide))
   ·exact .no h
  ·exact .no h
 ·exact .no h
theorem DX {s:jR} (h:cf s.b) (x:aV):cf (gK s x).1.b∧(gK s x).2.length≤1001:=by
 have key:Az s (if(Lib.cut x [32]).2.2 then hY s (Lib.cut x [32]).1 (Lib.cut x [32]).2.1 else du s (Lib.cut x [32]).1):=by
  split
  ·exact pC h _ _
  ·exact(iy h _).1
 unfold gK
 generalize (if(Lib.cut x [32]).2.2 then hY s (Lib.cut x [32]).1 (Lib.cut x [32]).2.1 else du s (Lib.cut x [32]).1)=p at key
 refine⟨key.b, ?_⟩
 show(p.2.getD [119,104,97,116]++[10]).length≤1001
 cases e:p.2 with
 |none=>decide
 |some t=>have:=key.t t e;simp only[Option.getD_some,List.length_append,List.length_cons,List.length_nil];omega
theorem lb (q:aV):aI (aN q)=q:=by
 unfold aI aN
 rw[List.map_map]
 refine(List.map_congr_left fun b _=> ?_).trans (List.map_id q)
 simp
theorem cp {t out:aV} {p a i:Int} {lost bar:Bool} {l r ro fr c:List Int} {ops:List aA} {K:List Int→Prop} (ht:t.length≤1000) (ho:out.length≤42000) (hK:K (aN (out++(t++[10])))):ay t p a i lost bar l r ro fr c ops (aN out) K:=by
 refine⟨by simp;omega, ?_⟩
 refine⟨by simp[aN];omega, ?_⟩
 have e:aN out++aN (t++[10])=aN (out++(t++[10])):=by simp[aN]
 rw[e];exact hK
theorem Cm {a b:aV} (h:(a++b).length≤1000):a.length+b.length≤2^62:=by rw[List.length_append]at h;omega
theorem xg {n q:Int} {K:Bool→List Int→List Int→List Int→List Int→Prop} (hn:¬(1≤n∧n≤8∧1≤q∧q≤3)→K false [] [] [] [])
  (hy:1≤n→n≤8→1≤q→q≤3→K true (List.replicate n.toNat (-1)) (List.replicate n.toNat (-1)) (List.replicate q.toNat (-1)) (Ax n.toNat)):ml n q K:=by
 by_cases h:1≤n∧n≤8∧1≤q∧q≤3
 ·obtain⟨h1,h8,q1,q3⟩:=h
  obtain⟨m,rfl⟩:=Int.eq_ofNat_of_zero_le (show 0≤n by omega)
  obtain⟨t,rfl⟩:=Int.eq_ofNat_of_zero_le (show 0≤q by omega)
  refine ve (by omega) (by omega) (by omega) (by omega) (ak rfl ?_)
  have hy:=hy h1 h8 q1 q3
  simp only[Int.toNat_natCast]at hy
  refine af (fun i s=>s=((m:Int),(i:Int),[],[],[],[],List.replicate m (-1),List.replicate m (-1),List.replicate t (-1),Ax i)) m (by simp[Ax,len]) ?_ ?_
  ·rintro i _ hi rfl Kb hKb
   refine ap (by simp;omega) ⟨by simp[Ax];omega,hKb _ ?_⟩
   rw[ai (by omega)]
   simp[Ax,List.range_succ]
  ·rintro _ rfl Kb
   exact ak (by simp) hy
 ·refine br (fun e=>ap rfl (hn h)) fun e1=>br (fun e=>ap rfl (hn h)) fun e2=>br (fun e=>ap rfl (hn h)) fun e3=>br (fun e=>ap rfl (hn h)) fun e4=> ?_
  exfalso
  have e1:=of_decide_eq_false e1
  have e2:=of_decide_eq_false e2
  have e3:=of_decide_eq_false e3
  have e4:=of_decide_eq_false e4
  exact h ⟨by omega,by omega,by omega,by omega⟩
theorem B2 {n q p a i:Int} {lost bar:Bool} {l r ro fr c out:List Int} {ops:List aA} {K:Bool→Int→Int→Int→Bool→Bool→List Int→List Int→List Int→List Int→List Int→List aA→Prop}
  (hn:¬(1≤n∧n≤8∧1≤q∧q≤3)→K false p a i lost bar l r ro fr c ops)
  (hy:1≤n→n≤8→1≤q→q≤3→KB (fun p a i lost l r ro fr c ops=>K true p a i lost true l r ro fr c ops) (kA n.toNat q.toNat)):gt n q p a i lost bar l r ro fr c ops out K:=
 xg (fun h=>ak rfl (hn h)) fun h1 h8 q1 q3=>ap rfl (Ao (by simp) (qJ (by omega) (by omega) (by omega) (by omega)) (fun _=>by have:=hy h1 h8 q1 q3;unfold kA KB at this;simpa using this) fun h=>absurd ⟨fun o ho=>by simp at ho,by simp⟩ h)
theorem Hb {l r ro fr col:List Int} {ph a i:Int} {ops:List aA} {lost bar:Bool} {K:Int→Int→Int→Bool→Int→Bool→List Int→List Int→List Int→List Int→List Int→List aA→Prop} (hf:fr.length<2^60) (hc:col.length<2^60) (ho:ops.length<2^60) (h:¬cf ⟨⟨⟨l,r,ro⟩,fr⟩,⟨ph,col,a⟩,ops,i,lost⟩)
 (hn:K 0 0 0 false 0 false [] [] [] [] [] []):oL l r ro fr ph col a ops i lost bar K:=cJ hf hc ho (ap (by simp[h]) hn)
abbrev KL (K:Bool→Int→Int→Int→Bool→Bool→List Int→List Int→List Int→List Int→List Int→List aA→List Int→Prop) (ok:Bool) (s:jR) (out:aV):Prop:=KB (fun p a i lost l r ro fr c ops=>K ok p a i lost s.bar l r ro fr c ops (aN out)) s.b
theorem G6 {w out:aV} {s:jR} {K:Bool→Int→Int→Int→Bool→List Int→List Int→List Int→List Int→List Int→List aA→List Int→Prop} (h:cf s.b) (ho:out.length≤42000)
  (hy:∀t,(du s w).2=some t→KB (fun p a i lost l r ro fr c ops=>K true p a i lost l r ro fr c ops (aN (out++(t++[10])))) (du s w).1.b)
  (hn:(du s w).2=none→KB (fun p a i lost l r ro fr c ops=>K false p a i lost l r ro fr c ops (aN out)) s.b):
  KB (fun p a i lost l r ro fr c ops=>gg w p a i lost s.bar l r ro fr c ops (aN out) K) s.b:=by
 have hO:=(iy h w).1
 obtain⟨⟨⟨⟨l,r,ro⟩,fr⟩,⟨ph,col,a⟩,ops,i,lost⟩,bar⟩:=s
 have hs:dR l r ro fr:=h.g.sv
 have hv:=hs.h
 have h8:=hv.l8
 have sm:=h.small
 simp only at sm
 have hf6:fr.length<2^60:=by omega
 have hc6:col.length<2^60:=by omega
 have ho6:ops.length<2^60:=by omega
 generalize hP:du ⟨⟨⟨⟨l,r,ro⟩,fr⟩,⟨ph,col,a⟩,ops,i,lost⟩,bar⟩ w=P at hO hy hn
 unfold du at hP
 refine br (fun e=> ?_) fun e=> ?_
 ·rw[if_pos (beq_iff_eq.1 e)]at hP
  subst hP
  have hE:=nh h bar
  refine um hf6 hc6 ho6 (fun q=>absurd h q) fun _=> ?_
  have ht:=hO.t _ rfl
  have hy:=hy _ rfl
  simp only at ht hy hE
  generalize hH bar ⟨⟨⟨l,r,ro⟩,fr⟩,⟨ph,col,a⟩,ops,i,lost⟩=b at*
  obtain⟨⟨⟨l',r',ro'⟩,fr'⟩,⟨ph',col',a'⟩,ops',i',lost'⟩:=b
  exact fD hE (cp ht ho hy)
 rw[if_neg (beq_eq_false_iff_ne.1 e)]at hP
 refine br (fun e=> ?_) fun e=> ?_
 ·rw[if_pos (beq_iff_eq.1 e)]at hP
  subst hP
  exact fD h (cp (hO.t _ rfl) ho (hy _ rfl))
 rw[if_neg (beq_eq_false_iff_ne.1 e)]at hP
 refine br (fun e=> ?_) fun e=> ?_
 ·rw[if_pos (beq_iff_eq.1 e)]at hP
  subst hP
  exact nL hs (cp (hO.t _ rfl) ho (hy _ rfl))
 rw[if_neg (beq_eq_false_iff_ne.1 e)]at hP
 refine br (fun e=> ?_) fun e=> ?_
 ·rw[if_pos (beq_iff_eq.1 e)]at hP
  subst hP
  have ht:=hO.t _ rfl
  exact qS (fun _=>kh (eI h8).2 (Nat.le_trans (eI h8).1 (by decide)) ⟨Cm ht,cp ht ho (hy _ rfl)⟩) fun q=>absurd hv q
 rw[if_neg (beq_eq_false_iff_ne.1 e)]at hP
 refine br (fun e=> ?_) fun e=> ?_
 ·rw[if_pos (beq_iff_eq.1 e)]at hP
  subst hP
  have ht:=hO.t _ rfl
  exact zR hs (kh (fun x hx=>(eI h8).2 x (List.mem_filter.1 hx).1) (Nat.le_trans (List.length_filter_le _ _) (Nat.le_trans (eI h8).1 (by decide))) ⟨Cm ht,cp ht ho (hy _ rfl)⟩)
 rw[if_neg (beq_eq_false_iff_ne.1 e)]at hP
 refine br (fun e=> ?_) fun e=> ?_
 ·rw[if_pos (beq_iff_eq.1 e)]at hP
  subst hP
  have ht:=hO.t _ rfl
  exact sw (fun _=>kh (tG hv).2 (Nat.le_trans (tG hv).1 (by decide)) ⟨Cm ht,cp ht ho (hy _ rfl)⟩) fun q=>absurd hv q
 rw[if_neg (beq_eq_false_iff_ne.1 e)]at hP
 refine br (fun e=> ?_) fun e=> ?_
 ·rw[if_pos (beq_iff_eq.1 e)]at hP
  subst hP
  have ht:=hO.t _ rfl
  refine tI ?_
  rw[if_pos hv]
  exact kh (tH hv).2 (Nat.le_trans (tH hv).1 (by decide)) ⟨Cm ht,cp ht ho (hy _ rfl)⟩
 rw[if_neg (beq_eq_false_iff_ne.1 e)]at hP
 refine br (fun e=> ?_) fun e=> ?_
 ·rw[if_pos (beq_iff_eq.1 e)]at hP
  subst hP
  exact xC (fun _=>oT (fun _=>cp (hO.t _ rfl) ho (hy _ rfl)) fun q=>absurd (tW hv) q) fun q=>absurd hv q
 rw[if_neg (beq_eq_false_iff_ne.1 e)]at hP
 refine br (fun e=> ?_) fun e=> ?_
 ·rw[if_pos (beq_iff_eq.1 e)]at hP
  refine zW hf6 hc6 ho6 (wg hf6 hc6 ho6 (fun q=> ?_) fun x q=> ?_)
  ·simp only[q]at hP
   refine br (fun e1=> ?_) fun e1=>ak rfl ?_
   ·rw[if_pos (by simpa using e1)]at hP
    subst hP
    exact cp (hO.t _ rfl) ho (hy _ rfl)
   ·rw[if_neg (by simpa using e1)]at hP
    subst hP
    exact cp (hO.t _ rfl) ho (hy _ rfl)
  ·simp only[q]at hP
   refine br (fun e1=> ?_) fun e1=>ap rfl ?_
   ·rw[if_pos (by simpa using e1)]at hP
    subst hP
    exact cp (hO.t _ rfl) ho (hy _ rfl)
   ·rw[if_neg (by simpa using e1)]at hP
    subst hP
    have ht:=hO.t _ rfl
    exact⟨Cm ht,cp ht ho (hy _ rfl)⟩
 rw[if_neg (beq_eq_false_iff_ne.1 e)]at hP
 subst hP
 exact hn rfl
theorem HI {u v out:aV} {s:jR} {K:Bool→Int→Int→Int→Bool→Bool→List Int→List Int→List Int→List Int→List Int→List aA→List Int→Prop} (h:cf s.b) (ho:out.length≤42000) (hv2:v.length≤20000)
  (hy:∀t,(hY s u v).2=some t→KL K true (hY s u v).1 (out++(t++[10])))
  (hn:(hY s u v).2=none→KL K false s out):
  KB (fun p a i lost l r ro fr c ops=>k6 u v p a i lost s.bar l r ro fr c ops (aN out) K) s.b:=by
 have hO:=pC h u v
 obtain⟨⟨⟨⟨l,r,ro⟩,fr⟩,⟨ph,col,a⟩,ops,i,lost⟩,bar⟩:=s
 have hs:dR l r ro fr:=h.g.sv
 have hv:=hs.h
 have h8:=hv.l8
 have sm:=h.small
 simp only at sm
 have hf6:fr.length<2^60:=by omega
 have hc6:col.length<2^60:=by omega
 have ho6:ops.length<2^60:=by omega
 generalize hP:hY ⟨⟨⟨⟨l,r,ro⟩,fr⟩,⟨ph,col,a⟩,ops,i,lost⟩,bar⟩ u v=P at hO hy hn
 unfold hY at hP
 refine br (fun e=> ?_) fun e=> ?_
 ·rw[if_pos (beq_iff_eq.1 e)]at hP
  have hcl:=BR (c:=32) (s:=v)
  refine Hg (by omega) (nv (by omega) (fun n hd=>nv (by omega) (fun q uo=>ak rfl (ak rfl (B2 (fun hq=>ap rfl ?_) fun q1 q2 q3 q4=>ak rfl ?_))) fun uo x=>ak rfl (ap rfl ?_)) fun hd x=>nv (by omega) (fun q uo=>ap rfl ?_) fun uo x=>ap rfl ?_)
  ·simp only[hd,uo]at hP
   rw[if_neg (by omega)]at hP
   subst hP
   exact hn rfl
  ·simp only[hd,uo]at hP
   rw[if_pos (by omega)]at hP
   subst hP
   exact cp (by decide) ho (hy _ rfl)
  ·simp only[hd,uo]at hP
   subst hP
   exact hn rfl
  ·simp only[hd,uo]at hP
   subst hP
   exact hn rfl
  ·simp only[hd,uo]at hP
   subst hP
   exact hn rfl
 rw[if_neg (beq_eq_false_iff_ne.1 e)]at hP
 refine br (fun e=> ?_) fun e=> ?_
 ·rw[if_pos (beq_iff_eq.1 e)]at hP
  refine sA (fun o hp=>ak rfl ?_) fun hp=>ap rfl ?_
  ·simp only[hp]at hP
   by_cases hok:bB o ro.length
   ·have h1:=AJ (s:=⟨⟨⟨⟨l,r,ro⟩,fr⟩,⟨ph,col,a⟩,ops,i,lost⟩,bar⟩) h hok
    have eo:(⟨o.kind,o.a,o.b⟩:aA)=o:=rfl
    rw[eo]
    refine FL h1.1 (fun q=>ap rfl ?_) fun hl _ e he=> ?_
    ·rcases q with q|q
     ·rw[if_neg (by rintro⟨_,q2⟩;rw[show lost=true from q]at q2;cases q2)]at hP
      subst hP
      exact hn rfl
     ·exact absurd q (by simp[oq])
    ·rw[if_pos ⟨hok,hl⟩]at hP
     have eg:gO (oq ⟨⟨⟨l,r,ro⟩,fr⟩,⟨ph,col,a⟩,ops,i,lost⟩ [o] 0).ops 0=o:=rfl
     have he:e=(bm ⟨⟨l,r,ro⟩,fr⟩ o).2:=he
     subst hP
     have ht:=hO.t _ rfl
     have hy:=hy _ rfl
     simp only at hy ht
     rw[←he]at hy ht
     have hb3:=sr ⟨⟨l,r,ro⟩,fr⟩ o
     rw[←he]at hb3
     unfold Gm at hy
     simp only at hy
     unfold oq at hy
     simp only at hy
     generalize jr ⟨⟨⟨l,r,ro⟩,fr⟩,⟨ph,col,a⟩,[o],0,lost⟩ bar=b at hy⊢
     obtain⟨⟨⟨l',r',ro'⟩,fr'⟩,⟨ph',col',a'⟩,ops',i',lost'⟩:=b
     exact ak rfl ⟨⟨hb3.1,by show e<3;omega⟩,cp ht ho hy⟩
   ·rw[if_neg (fun q=>hok q.1)]at hP
    subst hP
    refine Hb hf6 hc6 (by simp) (fun q=>hok (q.o.ok _ (by simp))) (ap rfl (hn rfl))
  ·simp only[hp]at hP
   subst hP
   exact hn rfl
 rw[if_neg (beq_eq_false_iff_ne.1 e)]at hP
 refine br (fun e=> ?_) fun e=> ?_
 ·rw[if_pos (beq_iff_eq.1 e)]at hP
  refine zo (by omega) (fun ol hl=>ak rfl (wh (q:=ro.length) rfl (by have:=hl.1.len;omega) ?_)) fun hl=>ap rfl ?_
  ·by_cases hop:jb ol ro.length
   ·have hex:∃l,kB v l∧jb l ro.length:=⟨ol,hl,hop⟩
    rw[dif_pos hex]at hP
    have:hex.choose=ol:=o0 hex.choose_spec.1 hl
    rw[this]at hP
    subst hP
    exact ak (by simp[hop]) (cp (by decide) ho (hy _ rfl))
   ·rw[dif_neg (by rintro⟨l',h1,h2⟩;exact hop (o0 hl h1▸h2))]at hP
    subst hP
    exact ap (by simp[hop]) (hn rfl)
  ·rw[dif_neg (by rintro⟨l',h1,h2⟩;exact hl _ h1)]at hP
   subst hP
   exact hn rfl
 rw[if_neg (beq_eq_false_iff_ne.1 e)]at hP
 refine br (fun e=> ?_) fun e=> ?_
 ·rw[if_pos (beq_iff_eq.1 e)]at hP
  refine An hf6 hc6 ho6 (fun q=>ap rfl ?_) fun _ q1 q2=> ?_
  ·rw[if_neg (fun q2=>q ⟨h,q2⟩)]at hP
   subst hP
   exact hn rfl
  ·rw[if_pos ⟨q1,q2⟩]at hP
   subst hP
   have ht:=hO.t _ rfl
   have hb:=hO.b
   have hy:=hy _ rfl
   simp only at ht hy hb
   generalize kb ⟨⟨⟨l,r,ro⟩,fr⟩,⟨ph,col,a⟩,ops,i,lost⟩ bar v=b at*
   obtain⟨⟨⟨l',r',ro'⟩,fr'⟩,⟨ph',col',a'⟩,ops',i',lost'⟩:=b
   exact ak rfl (fD hb (cp ht ho hy))
 rw[if_neg (beq_eq_false_iff_ne.1 e)]at hP
 refine br (fun e=> ?_) fun e=> ?_
 ·rw[if_pos (beq_iff_eq.1 e)]at hP
  refine br (fun e1=>br (fun e2=> ?_) fun e2=> ?_) fun e1=> ?_
  ·rw[if_neg (by simpa using e1),if_neg (by simpa using e2)]at hP
   subst hP
   exact hn rfl
  ·rw[if_neg (by simpa using e1),if_pos (by simpa using e2)]at hP
   have e3:(v==[111,110])=false:=by simpa using e1
   subst hP
   rw[e3]
   exact cp (by decide) ho (hy _ rfl)
  ·rw[if_pos (by simpa using e1)]at hP
   have e3:(v==[111,110])=true:=by simpa using e1
   subst hP
   rw[e3]
   exact cp (by decide) ho (hy _ rfl)
 rw[if_neg (beq_eq_false_iff_ne.1 e)]at hP
 refine br (fun e=> ?_) fun e=> ?_
 ·rw[if_pos (beq_iff_eq.1 e)]at hP
  refine nv (by omega) (fun n hd=>xH (l:=l) (r:=r) (ro:=ro) hv (fun q=>ak rfl (ap rfl ?_)) fun q0 q1 q2=>ak rfl (ak rfl ?_)) fun hd x=>xH (l:=l) (r:=r) (ro:=ro) hv (fun q=>ap rfl ?_) fun q0 q1 q2=>ap rfl ?_
  ·simp only[hd]at hP
   rw[if_neg (by rintro⟨h1,h2⟩;exact q ⟨by omega,by have:n<l.length:=h1;omega,by simpa using h2⟩)]at hP
   subst hP
   exact hn rfl
  ·simp only[hd]at hP
   rw[if_pos ⟨by show n<l.length;omega,by simpa using q2⟩]at hP
   subst hP
   have ht:=hO.t _ rfl
   have hp:=tz hv q0 q1 q2
   exact kh (fun x hx=>by have:=hp.2 x hx;omega) (Nat.le_trans hp.1 (by decide)) ⟨Cm ht,cp ht ho (hy _ rfl)⟩
  ·simp only[hd]at hP
   subst hP
   exact hn rfl
  ·simp only[hd]at hP
   subst hP
   exact hn rfl
 rw[if_neg (beq_eq_false_iff_ne.1 e)]at hP
 subst hP
 exact hn rfl
theorem xK {c:UInt8} (n:Nat):∀(s:aV),s.length≤n→∀x∈Lib.split s [c],x.length≤n:=by
 suffices H:∀(k:Nat) (s:aV),s.length≤k→∀x∈Lib.split s [c],x.length≤s.length from fun s hs x hx=>Nat.le_trans (H _ s (Nat.le_refl _) x hx) hs
 intro k
 induction k with
 |zero=>
  intro s hs x hx
  have:s=[]:=List.length_eq_zero_iff.1 (by omega)
  subst this
  rw[dF (by simp)]at hx
  simp at hx;subst hx;simp
 |succ k ih=>
  intro s hs x hx
  rcases m5 c s with h|⟨u,v,rfl,h⟩
  ·rw[dF h]at hx
   simp at hx;subst hx;exact Nat.le_refl _
  ·rw[d9 h]at hx
   simp only[List.length_append,List.length_cons]at hs⊢
   rcases List.mem_cons.1 hx with rfl|hx
   ·omega
   ·have:=ih v (by omega) x hx
    omega
abbrev D7 (L:List aV) (z:Int) (st:jR) (out:aV):Int×Int×Int×Int×Int×Bool×Bool×List aV×List Int×List Int×List Int×List Int×List Int×List aA×List Int:=
 KB (fun p a i lost l r ro fr c ops=>(len L,z,p,a,i,lost,st.bar,L,l,r,ro,fr,c,ops,aN out)) st.b
theorem o5 {text:aV} {K:aV→Prop} (hK:K (nF text)):ii text K:=by
 unfold nF at hK
 refine br (fun e=> ?_) fun e=> ?_
 ·rw[if_pos (by have:=of_decide_eq_true e;simp only[aa]at this;omega)]at hK
  exact hK
 have e:=of_decide_eq_false e
 simp only[aa]at e
 rw[if_neg (by omega)]at hK
 refine B2 (fun q=>absurd q (by decide)) fun _ _ _ _=>Bq (by omega) (by decide) ?_
 have hll:=qd (s:=text) (c:=10)
 have hlm:=xK (c:=10) 20000 text (by omega)
 have h0:=vQ (c:=4) (q:=3) (by decide) (by decide) (by decide) (by decide)
 have e43:kA (Int.toNat 4) (Int.toNat 3)=kA 4 3:=rfl
 rw[e43]
 generalize Lib.split text [10]=L at hK hll hlm⊢
 generalize kA 4 3=b0 at hK h0⊢
 refine af (fun j s=>∃(st:jR) (out:aV),cf st.b∧out.length≤42000∧dV (L.drop j) j st out=dV L 0 ⟨b0,true⟩ []∧s=D7 L (j:Int) st out) L.length ⟨⟨b0,true⟩,[],h0,by simp,rfl,rfl⟩ ?_ ?_
 ·rintro j _ hj ⟨st,out,hb,hout,hr,rfl⟩ Kb hKb
  have hx:L.getD j []∈L:=al [] hj
  have hxl:=hlm _ hx
  have hd:L.drop j=L.getD j []::L.drop (j+1):=by rw[List.drop_eq_getElem_cons hj,aw hj]
  rw[hd,dw]at hr
  have hgS:gS L (j:Int)=L.getD j []:=by simp[gS,EK.dflt]
  have hw:ah (j:Int) 1=((j+1:Nat):Int):=ai (by omega)
  have Ih:out++([102,117,108,108]++[10])=dV L 0 ⟨b0,true⟩ []→(aN (aI (aN (out++([102,117,108,108]++[10]))))=aN (out++([102,117,108,108]++[10]))∧(aN (out++([102,117,108,108]++[10]))).length≤2^36)∧K (aI (aN (out++([102,117,108,108]++[10])))):=fun ho=>
   ⟨⟨by rw[lb],by simp[aN];omega⟩,by rw[lb,ho];exact hK⟩
  have next:∀(st':jR) (o:aV),cf st'.b→o.length≤42000→dV (L.drop (j+1)) (j+1) st' o=dV L 0 ⟨b0,true⟩ []→Kb (D7 L (ah (j:Int) 1) st' o):=fun st' o h1 h2 h3=>hKb _ ⟨st',o,h1,h2,h3,congrArg (fun z=>D7 L z st' o) hw⟩
  refine ap (decide_eq_true (by show(j:Int)<len L;rw[aa];omega)) ⟨⟨by show(0:Int)≤j;omega,by show(j:Int)<L.length;omega⟩, ?_⟩
  dsimp only[KB,D7]
  rw[hgS]
  generalize L.getD j []=x at hr hxl⊢
  refine br (fun ex=> ?_) fun ex=> ?_
  ·rw[if_pos (beq_iff_eq.1 ex)]at hr
   exact next st out hb hout hr
  rw[if_neg (beq_eq_false_iff_ne.1 ex)]at hr
  refine br (fun e2=> ?_) fun e2=>br (fun e3=> ?_) fun e3=> ?_
  ·rw[if_pos (.inl (by have:=of_decide_eq_true e2;omega))]at hr
   exact cp (by decide) hout (Ih hr)
  ·rw[if_pos (.inr (by have:=of_decide_eq_true e3;simp only[aa,aN,List.length_map]at this;omega))]at hr
   exact cp (by decide) hout (Ih hr)
  have e2:=of_decide_eq_false e2
  have e3:=of_decide_eq_false e3
  simp only[aa,aN,List.length_map]at e3
  rw[if_neg (by omega)]at hr
  have hcl:=BR (c:=32) (s:=x)
  refine Hg (by omega) ?_
  unfold gK at hr
  generalize Lib.cut x [32]=c at hr hcl
  obtain⟨u,v,y⟩:=c
  simp only at hr hcl
  refine br (fun ey=> ?_) fun ey=> ?_
  ·have ey:y=true:=ey
   subst ey
   rw[if_pos rfl]at hr
   have hO:=pC hb u v
   refine HI hb hout (by show v.length≤20000;omega) (fun t ht=> ?_) fun hn=> ?_
   ·rw[ht]at hr
    exact ak rfl (ak rfl (next _ _ hO.b (by have:=hO.t t ht;simp only[List.length_append,List.length_cons,List.length_nil];omega) hr))
   ·rw[hn,hO.n hn]at hr
    exact ap rfl (cp (by decide) hout (next _ _ hb (by simp only[List.length_append,List.length_cons,List.length_nil];omega) hr))
  ·have ey:y=false:=ey
   subst ey
   rw[if_neg (by decide)]at hr
   have hO:=(iy hb u).1
   have hbar:=(iy hb u).2
   refine ap rfl (G6 hb hout (fun t ht=> ?_) fun hn=> ?_)
   ·rw[ht]at hr
    have:=next _ _ hO.b (by have:=hO.t t ht;simp only[Option.getD_some,List.length_append,List.length_cons,List.length_nil];omega) hr
    dsimp only[D7]at this
    rw[hbar]at this
    exact ak rfl this
   ·rw[hn,hO.n hn]at hr
    exact ap rfl (cp (by decide) hout (next _ _ hb (by simp only[List.length_append,List.length_cons,List.length_nil];omega) hr))
 ·rintro _ ⟨st,out,hb,hout,hr,rfl⟩ Kb
  refine ak (decide_eq_false (by show ¬((L.length:Int)<len L);rw[aa];omega)) ?_
  rw[List.drop_length,fR]at hr
  refine⟨⟨by rw[lb],by simp[aN];omega⟩, ?_⟩
  show K (aI (aN out))
  rw[lb,hr]
  exact hK
theorem Dn (s:jR) {u:aV} (h:(32:UInt8)∉u) (v:aV):gK s (u++32::v)=((hY s u v).1,((hY s u v).2.getD [119,104,97,116])++[10]):=by
 unfold gK;rw[wP h];rfl
theorem zQ (s:jR) {u:aV} (h:(32:UInt8)∉u):gK s u=((du s u).1,((du s u).2.getD [119,104,97,116])++[10]):=by
 unfold gK;rw[tD h];rfl
theorem Gi {i:Nat} {s:jR} {out:aV}:dV [[]] i s out=out:=by rw[dw,if_pos rfl,fR]
theorem jm {text:aV} (h:text.length≤20000):nF text=dV (Lib.split text [10]) 0 ⟨kA 4 3,true⟩ []:=by unfold nF;rw[if_neg (by omega)]
theorem w8 {n q:Int} {K:Bool→List Int→List Int→List Int→List Int→Prop} (hn:¬(1≤n∧n≤8∧1≤q∧q≤3)→K false [] [] [] [])
  (hy:1≤n→n≤8→1≤q→q≤3→K true (List.replicate n.toNat (-1)) (List.replicate n.toNat (-1)) (List.replicate q.toNat (-1)) (Ax n.toNat)):jz n q K:=by
 by_cases h:1≤n∧n≤8∧1≤q∧q≤3
 ·obtain⟨h1,h8,q1,q3⟩:=h
  have hy:=hy h1 h8 q1 q3
  obtain⟨m,rfl⟩:=Int.eq_ofNat_of_zero_le (show 0≤n by omega)
  obtain⟨t,rfl⟩:=Int.eq_ofNat_of_zero_le (show 0≤q by omega)
  simp only[Int.toNat_natCast]at hy
  exact zS (by omega) (by omega) (by omega) (by omega) hy
 ·refine br (fun e=>ap rfl (hn h)) fun e1=>br (fun e=>ap rfl (hn h)) fun e2=>br (fun e=>ap rfl (hn h)) fun e3=>br (fun e=>ap rfl (hn h)) fun e4=> ?_
  exfalso
  have e1:=of_decide_eq_false e1
  have e2:=of_decide_eq_false e2
  have e3:=of_decide_eq_false e3
  have e4:=of_decide_eq_false e4
  exact h ⟨by omega,by omega,by omega,by omega⟩
theorem zm {m d:Nat} (hm:1≤m) (hd:d<10):Lib.decDigits (m*10+d)=Lib.decDigits m++[UInt8.ofNat (48+d)]:=by
 rw[Lib.decDigits,dif_neg (by omega)]
 congr 2
 ·omega
 ·congr 2;omega
theorem tY {b:UInt8} {d:Nat} (h:Lib.digitVal b=some d):d<10∧b=UInt8.ofNat (48+d):=by
 obtain⟨h1,h2,rfl⟩:=Lib.digitVal_eq h
 refine⟨by omega, ?_⟩
 rw[show 48+(b.toNat-48)=b.toNat by omega]
 simp
theorem uZ:∀(n:Nat) (z:aV) (v:Nat),z.length=n+1→(n=0∨z.getD 0 0≠48)→Lib.decFrom 0 z=some v→Lib.decDigits v=z
 |0,z,v,hl,_,h=>by
  obtain⟨b,rfl⟩:=List.length_eq_one_iff.1 hl
  simp only[Lib.decFrom]at h
  cases hd:Lib.digitVal b with
  |none=>rw[hd]at h;cases h
  |some d=>
   rw[hd]at h
   simp only[Nat.zero_mul,Nat.zero_add,Option.some.injEq]at h
   subst h
   obtain⟨h1,h2⟩:=tY hd
   rw[ku h1,←h2]
 |n+1,z,v,hl,hz,h=>by
  have hz:z.getD 0 0≠48:=hz.elim (fun hz=>by omega) fun hz=>hz
  obtain⟨w,b,rfl⟩:∃w b,z=w++[b]:=⟨z.dropLast,z.getLast (by intro q;rw[q]at hl;simp at hl),(List.dropLast_concat_getLast _).symm⟩
  have hw:w.length=n+1:=by simpa using hl
  rw[lL]at h
  cases hm:Lib.decFrom 0 w with
  |none=>rw[hm]at h;cases h
  |some m=>
   rw[hm]at h
   simp only[Option.bind_some,Lib.decFrom]at h
   cases hd:Lib.digitVal b with
   |none=>rw[hd]at h;cases h
   |some d=>
    rw[hd]at h
    simp only[Option.some.injEq]at h
    subst h
    have hw0:w.getD 0 0≠48:=by
     have:(w++[b]).getD 0 0=w.getD 0 0:=by
      rw[List.getD_eq_getElem?_getD,List.getD_eq_getElem?_getD,List.getElem?_append_left (by omega)]
     rwa [this]at hz
    have ih:=uZ n w m hw (.inr hw0) hm
    obtain⟨h1,h2⟩:=tY hd
    have hm1:1≤m:=by
     refine Decidable.byContradiction fun q=>hw0 ?_
     have:m=0:=by omega
     rw[this,ku (by omega)]at ih
     rw[←ih];rfl
    rw[zm hm1 h1,ih,←h2]
theorem xa {v:Nat}:(Lib.decDigits v).length=1∨(Lib.decDigits v).getD 0 0≠48:=by
 induction v using Nat.strongRecOn with
 |_ v ih=>
  by_cases h:v<10
  ·left;rw[ku h];rfl
  ·right
   have e:Lib.decDigits v=Lib.decDigits (v/10)++[UInt8.ofNat (48+v % 10)]:=by rw[Lib.decDigits,dif_neg h]
   have hp:0<(Lib.decDigits (v/10)).length:=List.length_pos_iff.2 (d7 _)
   rw[e,List.getD_eq_getElem?_getD,List.getElem?_append_left hp,←List.getD_eq_getElem?_getD]
   by_cases h2:v/10<10
   ·rw[ku h2]
    have key:∀a:Fin 10,a.1≠0→UInt8.ofNat (48+a.1)≠48:=by decide
    exact key ⟨v/10,h2⟩ (by show v/10≠0;omega)
   ·rcases ih (v/10) (by omega)with q|q
    ·exfalso
     rw[Lib.decDigits,dif_neg h2]at q
     have:=List.length_pos_iff.2 (d7 (v/10/10))
     simp only[List.length_append,List.length_cons,List.length_nil]at q;omega
    ·exact q
theorem xX {z:aV} {neg:Bool} {K:Int→Bool→Prop} {Kx:aV×Bool×Int×Int→Prop} (h17:z.length≤17) (h1:1≤z.length) (hz:z.length=1∨z.getD 0 0≠48)
  (hx:∀v:Nat,Lib.decDigits v=z→Kx (z,neg,(v:Int),(z.length:Int))) (hb:(∀v,Lib.decDigits v≠z)→K 0 false):
  ar (S:=List UInt8×Bool×Int×Int) (fun s3 Kb3 Kx3=>
   ((decide (s3.2.2.2<(len s3.1)))=true→((aq s3.2.2.2 (List.length s3.1))∧(((decide ((gC s3.1 s3.2.2.2)<48))=true→(K 0 false))∧((decide ((gC s3.1 s3.2.2.2)<48))=false→
    ((aq s3.2.2.2 (List.length s3.1))∧(((decide ((gC s3.1 s3.2.2.2)>57))=true→(K 0 false))∧((decide ((gC s3.1 s3.2.2.2)>57))=false→((aq s3.2.2.2 (List.length s3.1))∧
    (let v4:Int:=(IntKind.wrap .i64 (IntKind.wrap .u8 ((gC s3.1 s3.2.2.2)-48)));(Kb3 (s3.1,s3.2.1,(ah (nE s3.2.2.1 10) v4),(ah s3.2.2.2 1))))))))))))∧
   ((decide (s3.2.2.2<(len s3.1)))=false→(Kx3 (s3.1,s3.2.1,s3.2.2.1,s3.2.2.2)))) (z,neg,0,0) Kx:=by
 refine af (fun i s=>∃v:Nat,s=(z,neg,(v:Int),(i:Int))∧Lib.decFrom 0 (z.take i)=some v) z.length ⟨0,rfl,rfl⟩ ?_ ?_
 ·rintro i _ hi ⟨v,rfl,hv⟩ Kb hKb
  have hbad:Lib.digitVal z[i]=none→∀v,Lib.decDigits v≠z:=fun q v hv=>by
   have h2:=de v
   rw[hv]at h2
   obtain⟨d,hd⟩:=Lib.digit_of_decFrom z 0 v h2 i z[i] (List.getElem?_eq_getElem hi)
   rw[q]at hd;cases hd
  have hin:aq (i:Int) z.length:=by rw[aj];exact hi
  have hg:gC z (i:Int)=(z[i].toNat:Int):=by rw[kS,aw hi]
  refine ap (decide_eq_true (by show(i:Int)<len z;rw[aa];omega)) ⟨hin, ?_⟩
  dsimp only
  rw[hg]
  refine br (fun e=>hb (hbad ?_)) fun e=>⟨hin,br (fun e2=>hb (hbad ?_)) fun e2=>⟨hin,hKb _ ⟨v*10+(z[i].toNat-48), ?_, ?_⟩⟩⟩
  ·have e:=of_decide_eq_true e
   unfold Lib.digitVal;rw[if_neg (by omega)]
  ·have e2:=of_decide_eq_true e2
   unfold Lib.digitVal;rw[if_neg (by omega)]
  ·have e:=of_decide_eq_false e
   have e2:=of_decide_eq_false e2
   have hlt:=Lib.decFrom_lt _ _ _ hv
   have hp:10^(z.take i).length≤10^17:=Nat.pow_le_pow_right (by omega) (by simp;omega)
   have hp2:(10:Nat)^17=100000000000000000:=rfl
   have key:∀a:Fin 10,IntKind.wrap .i64 (IntKind.wrap .u8 (((48+a.1:Nat):Int)-48))=a.1:=by decide+kernel
   have k:=key ⟨z[i].toNat-48,by omega⟩
   simp only at k
   rw[show 48+(z[i].toNat-48)=z[i].toNat by omega]at k
   rw[k,mS (by omega) (by omega),bF (by omega) (by omega),ai (by omega)]
   congr 3
   all_goals omega
  ·have e:=of_decide_eq_false e
   have e2:=of_decide_eq_false e2
   exact Lib.decFrom_take z i 0 v z[i] _ hv (List.getElem?_eq_getElem hi) (by unfold Lib.digitVal;rw[if_pos (by omega)])
 ·rintro _ ⟨v,rfl,hv⟩ Kb
  refine ak (decide_eq_false (by show ¬((z.length:Int)<len z);rw[aa];omega)) (hx v ?_)
  rw[List.take_length]at hv
  exact uZ (z.length-1) z v (by omega) (hz.elim (fun h=> .inl (by omega)) fun h=> .inr h) hv
theorem DM {s:aV} {K:Int→Bool→Prop} (hy:∀n,kj s=some n→K n true) (hn:kj s=none→∀x,K x false) (hneg:kj s=none→∀x:Int,x<0→K x true):eW s K:=by
 have no:∀{t:aV},(∀v,Lib.decDigits v=s→17<s.length)→kj s=none:=fun{t} h=>by
  cases e:kj s with
  |none=>rfl
  |some n=>have:=iw.1 e;have:=h n this.2;omega
 cases s with
 |nil=>exact ak rfl (ap rfl (hn (no (t:=[]) fun v h=>absurd h (d7 v)) _))
 |cons b t=>
  have hg0:gC (b::t) 0=(b.toNat:Int):=rfl
  have h45:(gC (b::t) 0==45)=decide (b=45):=by rw[hg0,Bool.eq_iff_iff,beq_iff_eq,decide_eq_true_eq];exact gq (c:=45)
  refine ap (decide_eq_true (by simp only[aa,List.length_cons];omega)) ⟨⟨by decide,by simp⟩, ?_⟩
  rw[h45]
  have nodash:b=45→∀v,Lib.decDigits v≠b::t:=fun e v hv=>by
   have h2:=de v
   rw[hv,e]at h2
   have:Lib.digitVal 45=none:=by decide
   simp only[Lib.decFrom,this]at h2
   cases h2
  have first:∀(c:UInt8) (r:aV),(gC (c::r) 0==48)=decide (c=48):=fun c r=>by
   have:gC (c::r) 0=(c.toNat:Int):=rfl
   rw[this,Bool.eq_iff_iff,beq_iff_eq,decide_eq_true_eq];exact gq (c:=48)
  refine br (fun e=>⟨⟨by decide,by simp only[aa,List.length_cons];omega,Int.le_refl _⟩, ?_⟩) fun e=> ?_
  ·have e:b=45:=of_decide_eq_true e
   have hd:=no (t:=[]) fun v hv=>absurd hv (nodash e v)
   have hs:sub (b::t) 1 (len (b::t))=t:=by simp[sub,aa]
   rw[hs]
   refine br (fun e1=>hn hd _) fun e1=>br (fun e2=>hn hd _) fun e2=> ?_
   cases t with
   |nil=>simp[aa]at e1
   |cons c r=>
    refine⟨⟨by decide,by simp⟩, ?_⟩
    rw[first]
    have h17:(c::r).length≤17:=by have:=of_decide_eq_false e2;simp only[aa]at this;omega
    refine br (fun e3=>br (fun _=>hn hd _) fun e4=>ap (decide_eq_true e) (hn hd _)) fun e3=> ?_
    have e3:c≠48:=of_decide_eq_false e3
    refine xX h17 (by simp) (.inr (by simpa using e3)) (fun v hv=>ap (decide_eq_true e) ?_) fun _=>hn hd _
    have hv1:1≤v:=by
     refine Decidable.byContradiction fun q=>e3 ?_
     have:v=0:=by omega
     rw[this,ku (by omega)]at hv
     cases hv;rfl
    have hb:v<100000000000000000:=by
     have h2:=de v
     rw[hv]at h2
     have:=Lib.decFrom_lt _ _ _ h2
     have hp:10^(c::r).length≤10^17:=Nat.pow_le_pow_right (by omega) h17
     have hp2:(10:Nat)^17=100000000000000000:=rfl
     omega
    show K (IntKind.wrap .i64 (0-(v:Int))) true
    rw[iW (by omega) (by omega)]
    exact hneg hd _ (by omega)
  ·have e:b≠45:=of_decide_eq_false e
   refine br (fun e1=>by simp[aa]at e1;omega) fun e1=>br (fun e2=>hn (no (t:=[]) fun v hv=> ?_) _) fun e2=>⟨⟨by decide,by simp⟩, ?_⟩
   ·have:=of_decide_eq_true e2;simp only[aa]at this;omega
   have h17:(b::t).length≤17:=by have:=of_decide_eq_false e2;simp only[aa]at this;omega
   rw[first]
   have tail:((b::t).length=1∨(b::t).getD 0 0≠48)→ar (S:=List UInt8×Bool×Int×Int) _ (b::t,decide (b=45),0,0) fun s3=>((s3.2.1=true→(K (IntKind.wrap .i64 (0-s3.2.2.1)) true))∧(s3.2.1=false→(K s3.2.2.1 true))):=fun hz=>
    xX (K:=K) h17 (by simp) hz (fun v hv=>ak (decide_eq_false e) (hy v (iw.2 ⟨h17,hv⟩))) fun h=>hn (no (t:=[]) fun v hv=>absurd hv (h v)) _
   refine br (fun e3=>br (fun e4=>hn (no (t:=[]) fun v hv=> ?_) _) fun e4=>ak (decide_eq_false e) ?_) fun e3=> ?_
   ·exfalso
    have e3:b=48:=of_decide_eq_true e3
    have e4:=of_decide_eq_true e4
    simp only[aa]at e4
    rcases @xa v with q|q
    ·rw[hv]at q;omega
    ·rw[hv]at q;exact q (by simpa using e3)
   ·exact tail (.inl (by have:=of_decide_eq_false e4;simp only[aa,List.length_cons]at this⊢;omega))
   ·exact tail (.inr (by simpa using(of_decide_eq_false e3:¬b=48)))
theorem mX {x:Int} {K:aV→Prop} (h0:0≤x) (h1:x<100) (hK:K (Lib.decDigits x.toNat)):dE x K:=by
 refine ak (decide_eq_false (by omega)) (ak (decide_eq_false (by omega)) ?_)
 obtain⟨n,rfl⟩:=Int.eq_ofNat_of_zero_le h0
 rw[Int.toNat_natCast]at hK
 have one:∀a:Fin 10,aI [(IntKind.wrap .u8 (ah 48 (a.1:Int)))]=[UInt8.ofNat (48+a.1)]:=by decide+kernel
 have two:∀a:Fin 100,aI [(IntKind.wrap .u8 (ah 48 (Int.tmod (a.1:Int) 10)))]=[UInt8.ofNat (48+a.1 % 10)]∧wT (a.1:Int) 10=((a.1/10:Nat):Int):=by decide+kernel
 by_cases h9:n<10
 ·have e1:=one ⟨n,h9⟩
  simp only at e1
  refine⟨1,ak (decide_eq_false (by omega)) ⟨by simp,by simp[aI], ?_⟩⟩
  show K (aI [(IntKind.wrap .u8 (ah 48 (n:Int)))]++[])
  rw[e1,List.append_nil,←ku h9];exact hK
 ·obtain⟨e1,e2⟩:=two ⟨n,by omega⟩
  have e3:=one ⟨n/10,by omega⟩
  simp only at e1 e2 e3
  refine⟨2,ap (decide_eq_true (by omega)) ⟨by decide,by simp,by simp[aI],⟨by decide, ?_⟩⟩⟩
  show((decide (wT (n:Int) 10>9))=true→_)∧((decide (wT (n:Int) 10>9))=false→_)
  rw[e2]
  refine ak (decide_eq_false (by omega)) ⟨by simp,by simp[aI], ?_⟩
  show K (aI [(IntKind.wrap .u8 (ah 48 ((n/10:Nat):Int)))]++(aI [(IntKind.wrap .u8 (ah 48 (Int.tmod (n:Int) 10)))]++[]))
  rw[e3,e1,List.append_nil]
  rw[HO (by omega) (by omega)]at hK
  exact hK
theorem iS {w:aV} {fr:List Int} {K:aV→Prop} (hw:w.length≤1000) (h:∀x∈fr,0≤x∧x<100) (hl:fr.length≤1000) (hK:K ((w++da fr fr.length)++[10])):dZ w fr K:=by
 refine af (fun i s=>s=(fr,w++da fr i,(i:Int))) fr.length (by simp[da,g8]) ?_ ?_
 ·rintro i _ hi rfl Kb hKb
  have a:=h _ (al (0:Int) hi)
  have e4:=pz h (n:=i) (by omega)
  have e2:=fx (n:=(fr.getD i 0).toNat) (by omega)
  refine ap (decide_eq_true (by show(i:Int)<len fr;rw[aa];omega)) ⟨by simp only[List.length_append,List.length_cons,List.length_nil];omega,by rw[aj];exact hi, ?_⟩
  simp only[an]
  refine mX a.1 a.2 ⟨by simp only[List.length_append,List.length_cons,List.length_nil];omega,hKb _ ?_⟩
  rw[ai (by omega)]
  unfold da
  rw[bJ]
  simp only[List.append_assoc]
 ·rintro _ rfl Kb
  have e4:=pz h (n:=fr.length) (Nat.le_refl _)
  exact ak (decide_eq_false (by show ¬((fr.length:Int)<len fr);rw[aa];omega)) ⟨by simp only[List.length_append,List.length_cons,List.length_nil];omega,hK⟩
theorem mh {l r ro fr:List Int} {K:aV→Prop} (hv:dR l r ro fr) (hK:K (lg ⟨⟨l,r,ro⟩,fr⟩)):fe l r ro fr K:=by
 have f8:=hv.f8;have h8:=hv.h.l8
 have h31:=m8 hv.h
 have hfr:∀x∈fr,0≤x∧x<100:=fun x hx=>by have:=hv.c.ok x hx;omega
 refine ca (ak (by simp[hv]) (nI (fun _=>⟨by simp only[List.length_cons,List.length_nil];omega, ?_⟩) fun h=>absurd hv.h h))
 refine af (fun i s=>s=((nJ l r ro++[32,102,114,101,101])++da fr i,(i:Int),l,r,ro,fr)) fr.length (by simp[da,g8]) ?_ ?_
 ·rintro i _ hi rfl Kb hKb
  have a:=hfr _ (al (0:Int) hi)
  have e4:=pz hfr (n:=i) (by omega)
  have e2:=fx (n:=(fr.getD i 0).toNat) (by omega)
  refine ap (decide_eq_true (by show(i:Int)<len fr;rw[aa];omega)) ⟨by simp only[List.length_append,List.length_cons,List.length_nil];omega,by rw[aj];exact hi, ?_⟩
  simp only[an]
  refine mX a.1 a.2 ⟨by simp only[List.length_append,List.length_cons,List.length_nil];omega,hKb _ ?_⟩
  rw[ai (by omega)]
  unfold da
  rw[bJ]
  simp only[List.append_assoc]
 ·rintro _ rfl Kb
  exact ak (decide_eq_false (by show ¬((fr.length:Int)<len fr);rw[aa];omega)) hK
theorem jP {l r ro fr col:List Int} {ph a i:Int} {ops:List aA} {lost:Bool} {K:aV→Prop} (h:cf ⟨⟨⟨l,r,ro⟩,fr⟩,⟨ph,col,a⟩,ops,i,lost⟩)
  (hK:K (eB ⟨⟨⟨l,r,ro⟩,fr⟩,⟨ph,col,a⟩,ops,i,lost⟩)):eE l r ro fr ph col a ops i lost K:=by
 have hv:dR l r ro fr:=h.g.sv
 have hc:fy l.length col:=h.g.c
 have hp:=JZ h.g
 have ha:=D1 h.g
 have i0:=h.i0;have i1:=h.i1;have o12:=h.o.len
 have f8:=hv.f8;have h8:=hv.h.l8;have cl:=hc.len
 simp only at hp ha i0 i1 o12
 have e1:=k8 hv
 have e2:=vZ hp
 have e3:=fx (n:=a.toNat) (by omega)
 have e5:=fx (n:=i.toNat) (by omega)
 have e2':(gS [[105,100,108,101],[114,111,111,116,115],[109,97,114,107],[115,119,101,101,112]] ph).length≤5:=e2
 refine iq (ak (by simp[h]) (mh hv ⟨by simp only[List.length_cons,List.length_nil];omega,⟨by omega,by show ph<4;omega⟩,by simp only[List.length_append,List.length_cons,List.length_nil];omega,by simp only[List.length_append,List.length_cons,List.length_nil];omega,mX (by omega) (by omega) ⟨by simp only[List.length_append,List.length_cons,List.length_nil];omega,by simp only[List.length_append,List.length_cons,List.length_nil];omega, ?_⟩⟩))
 refine af (fun j s=>s=((((((lg ⟨⟨l,r,ro⟩,fr⟩++[32])++DE ph)++[32])++Lib.decDigits a.toNat)++[32])++n5 col j,(j:Int),l,r,ro,fr,ph,col,a,ops,i,lost,[[119],[103],[98]])) col.length (by simp[n5,g8,DE]) ?_ ?_
 ·rintro j _ hj rfl Kb hKb
  have ac:=hc.ok _ (al (0:Int) hj)
  have e6:(n5 col j).length=j*1:=aZ fun k hk=>ie hc k (by omega)
  have e7:gS [[119],[103],[98]] (col.getD j 0)=sub ([119,103,98]:List UInt8) (col.getD j 0) (col.getD j 0+1):=by
   generalize col.getD j 0=x at ac
   rcases(show x=0∨x=1∨x=2 by omega)with rfl|rfl|rfl<;>rfl
  have e8:=ie hc j hj
  refine ap (decide_eq_true (by show(j:Int)<len col;rw[aa];omega)) ⟨by rw[aj];exact hj, ?_⟩
  simp only[an,e7]
  refine⟨⟨by omega,by simp only[List.length_cons,List.length_nil];omega⟩,by rw[e8];simp only[List.length_append,List.length_cons,List.length_nil];omega,hKb _ ?_⟩
  rw[ai (by omega)]
  unfold n5
  rw[bJ,List.append_assoc]
 ·rintro _ rfl Kb
  have e6:(n5 col col.length).length=col.length*1:=aZ (ie hc)
  refine ak (decide_eq_false (by show ¬((col.length:Int)<len col);rw[aa];omega)) ⟨by simp only[List.length_append,List.length_cons,List.length_nil];omega,mX (x:=i) (by omega) (by omega) ⟨by simp only[List.length_append,List.length_cons,List.length_nil];omega, ?_⟩⟩
  unfold eB oS at hK
  simp only[List.append_assoc]at hK⊢
  refine br (fun e=>⟨by simp only[List.length_append,List.length_cons,List.length_nil];omega, ?_⟩) fun e=> ?_
  ·rw[show lost=true from e]at hK
   simpa using hK
  ·rw[show lost=false from e]at hK
   simpa using hK
theorem xU {l r ro fr:List Int} {K:List Int→Prop} (hv:dR l r ro fr) (hK:K ((gA l r ro).filter fun x=>decide (x∉fr))):mt l r ro fr K:=by
 have f8:=hv.f8;have h8:=hv.h.l8
 have hgl:=(eI (r:=r) (ro:=ro) h8).1
 refine ca (ak (by simp[hv]) (o8 hv.h ?_))
 generalize gA l r ro=g at hK hgl⊢
 refine af (fun i s=>s=((i:Int),l,r,ro,fr,(g.take i).filter (fun x=>decide (x∉fr)),g)) g.length (by simp) ?_ ?_
 ·rintro i _ hi rfl Kb hKb
  have htk:g.take (i+1)=g.take i++[g.getD i 0]:=by rw[List.take_add_one,List.getElem?_eq_getElem hi,aw hi];rfl
  have hfl:((g.take i).filter fun x=>decide (x∉fr)).length≤8:=Nat.le_trans (List.length_filter_le _ _) (by simp;omega)
  have hw:ah (i:Int) 1=((i+1:Nat):Int):=ai (by omega)
  refine ap (decide_eq_true (by show(i:Int)<len g;rw[aa];omega)) ⟨by rw[aj];exact hi, ?_⟩
  simp only[an]
  refine jQ (by omega) (br (fun e=>⟨by rw[aj];exact hi,by simp only[List.length_cons,List.length_nil];omega,hKb _ ?_⟩) fun e=>hKb _ ?_)
  ·have e:=dy.1 (of_decide_eq_true e)
   rw[hw,htk,List.filter_append,List.filter_cons_of_pos (by simpa using e),List.filter_nil]
  ·have e:g.getD i 0∈fr:=Decidable.byContradiction fun q=>of_decide_eq_false e (dy.2 q)
   rw[hw,htk,List.filter_append,List.filter_cons_of_neg (by simpa using e),List.filter_nil,List.append_nil]
 ·rintro _ rfl Kb
  refine ak (decide_eq_false (by show ¬((g.length:Int)<len g);rw[aa];omega)) ?_
  show K ((g.take g.length).filter fun x=>decide (x∉fr))
  rw[List.take_length];exact hK
theorem Dw {p q:Nat→Bool} {n:Nat}:(eC p n).find? (fun x=>q x.toNat)=((List.range n).find? fun i=>p i&&q i).map fun(i:Nat)=>(i:Int):=by
 unfold eC
 rw[List.find?_map,List.find?_filter]
 congr 2
 funext i
 simp
theorem Ap {p:Nat→Bool} {n j:Nat} (hj:j<n) (h1:∀k,k<j→p k=false) (h2:p j=true):(List.range n).find? p=some j:=by
 have hg:∀k,k<n→(List.range n).getD k 0=k:=fun k hk=>by rw[aw (by simpa using hk)];simp
 have:=wa (p:=p) (d:=0) (l:=List.range n) (j:=j) (by simpa using hj) (fun k hk=>by rw[hg k (by omega)];exact h1 k hk) (by rw[hg j hj];exact h2)
 rwa [hg j hj]at this
theorem Cr {l r ro:List Int} {c:Int} {K:Bool→List Int→Prop} (hv:be l r ro) (hn:¬(0≤c∧c<l.length∧(bi l r ro).getD c.toNat 0≠0)→K false [])
  (hy:0≤c→c<l.length→(bi l r ro).getD c.toNat 0≠0→K true (pa l r ro c)):m6 l r ro c K:=by
 have h8:=hv.l8;have hlr:=hv.lr
 unfold m6 jO
 refine DZ ?_
 rw[show decide (be l r ro∧0≤c∧c<l.length)=decide (0≤c∧c<l.length) by simp[hv]]
 refine br (fun e=>ap rfl (hn fun q=> ?_)) fun e=> ?_
 ·simp at e;omega
 have hc:0≤c∧c<l.length:=by simpa using e
 have hdl:=kE hv
 obtain⟨ci,rfl⟩:=Int.eq_ofNat_of_zero_le hc.1
 have hci:ci<l.length:=by omega
 have hml:((bi l r ro).map e2).length=l.length:=by rw[List.length_map];exact hdl
 have hme:∀j,j<l.length→((bi l r ro).map e2).getD j 0=e2 ((bi l r ro).getD j 0):=fun j hj=>by
  rw[aw (by omega),aw (by omega)];simp
 have hu:=rO hv hci
 refine jK hv ⟨by rw[aj];omega, ?_⟩
 rw[an,hme ci hci]
 refine br (fun e=>ap rfl (hn ?_)) fun e=>⟨by rw[aj];omega,ak rfl (jK hv ?_)⟩
 ·have e:=of_decide_eq_true e
  unfold e2 at e
  rintro⟨_,_,q⟩
  simp only[Int.toNat_natCast]at q
  rw[if_neg q]at e
  omega
 have hd:(bi l r ro).getD ci 0≠0:=fun q=>by have e:=of_decide_eq_false e;unfold e2 at e;rw[if_pos q]at e;omega
 have e2c:e2 ((bi l r ro).getD ci 0)=(bi l r ro).getD ci 0:=by unfold e2;rw[if_neg hd]
 rw[e2c]
 replace hy:=hy hc.1 hc.2 (by simpa using hd)
 have hpred:=oj hv
 have hpos:∀j,j<l.length→0≤(bi l r ro).getD j 0:=fun j hj=>(rO hv hj).1
 unfold pa at hy
 rw[Int.toNat_natCast]at hy
 generalize (bi l r ro).map e2=m at*
 generalize bi l r ro=d at*
 refine af (fun k s=>s=(d.getD ci 0-k,l,r,ro,m,fp l r d ci k)) (d.getD ci 0-1).toNat (by simp[fp]) ?_ ?_
 ·rintro k _ hk rfl Kb hKb
  have hP:=mB (c:=(ci:Int)) (r:=r) hc.1 hc.2 hpred k (by simp only[Int.toNat_natCast];omega)
  obtain⟨x,f1,f2,hP2⟩:=oB hpred (c:=(ci:Int)) (k:=k) (by simp only[Int.toNat_natCast];omega) hP
  have p0:=hP.h0;have p1:=hP.h1;have pf:=hP.far;have pl:=hP.len
  simp only[Int.toNat_natCast]at pf
  have hnx:fp l r d ci (k+1)=x::fp l r d ci k:=f2
  generalize fp l r d ci k=p at*
  have hgI:gI p 0=p.getD 0 0:=by have:=an p 0;simpa using this
  unfold mw at f1
  rw[Dw (q:=fun i=>decide (d.getD i 0=d.getD (p.getD 0 0).toNat 0-1))]at f1
  obtain⟨xi,f1',rfl⟩:=Option.map_eq_some_iff.1 f1
  replace f1:=f1'
  have hxm:=List.mem_range.1 (List.mem_of_find?_eq_some f1)
  have hxs:=List.find?_some f1
  simp only[Bool.and_eq_true,decide_eq_true_eq]at hxs
  refine ap (decide_eq_true (by show d.getD ci 0-k>1;omega)) ?_
  refine af (fun j s=>s=(d.getD ci 0-k,(j:Int),l,r,ro,m,p)∧∀k',k'<j→(decide (l.getD k' 0=p.getD 0 0∨r.getD k' 0=p.getD 0 0)&&decide (d.getD k' 0=d.getD (p.getD 0 0).toNat 0-1))=false) l.length ⟨rfl,fun k hk=>by omega⟩ ?_ ?_
  ·rintro j _ hj ⟨rfl,hno⟩ Kc hKc
   have hw:ah (j:Int) 1=((j+1:Nat):Int):=ai (by omega)
   have hp0:=hpos j hj
   have next:(decide (l.getD j 0=p.getD 0 0∨r.getD j 0=p.getD 0 0)&&decide (d.getD j 0=d.getD (p.getD 0 0).toNat 0-1))=false→∀k',k'<j+1→(decide (l.getD k' 0=p.getD 0 0∨r.getD k' 0=p.getD 0 0)&&decide (d.getD k' 0=d.getD (p.getD 0 0).toNat 0-1))=false:=fun hh k' hk'=>by
    rcases Nat.lt_succ_iff_lt_or_eq.1 hk' with q|rfl
    ·exact hno k' q
    ·exact hh
   refine ap (decide_eq_true (by show(j:Int)<len m;rw[aa,hml];omega)) ⟨by rw[aj];show j<m.length;omega, ?_⟩
   simp only[an,hgI,hme j hj,jx (a:=d.getD ci 0-k) (b:=1) (by omega) (by omega)]
   refine br (fun e=>⟨⟨by decide,by show(0:Int)<p.length;omega⟩, ?_⟩) fun e=>hKc _ ⟨by rw[hw],next ?_⟩
   ·have e:=beq_iff_eq.1 e
    have e':d.getD j 0=d.getD (p.getD 0 0).toNat 0-1:=by
     unfold e2 at e
     split at e<;>omega
    have pts:∀{K:Bool→Prop},K (decide (l.getD j 0=p.getD 0 0∨r.getD j 0=p.getD 0 0))→lW l r ro j (p.getD 0 0) K:=fun{K} hK=>by
     refine⟨by rw[aj];exact hj, ?_⟩
     rw[an,an]
     refine br (fun q=> ?_) fun q=>⟨by rw[aj];omega, ?_⟩
     ·have q:=beq_iff_eq.1 q
      rwa [decide_eq_true (.inl q)]at hK
     ·have q:=beq_eq_false_iff_ne.1 q
      have:(r.getD j 0==p.getD 0 0)=decide (l.getD j 0=p.getD 0 0∨r.getD j 0=p.getD 0 0):=by
       rw[Bool.eq_iff_iff,beq_iff_eq,decide_eq_true_eq]
       exact⟨.inr,fun h=>h.resolve_left q⟩
      rw[this];exact hK
    refine pts (br (fun q=>⟨by simp only[List.length_cons,List.length_nil];omega,hKb _ ?_⟩) fun q=>hKc _ ⟨by rw[hw],next (by rw[q];rfl)⟩)
    have:=Ap hj hno (by rw[q,e'];simp)
    rw[f1]at this
    have hxj:=Option.some.inj this
    subst hxj
    rw[hnx]
    simp only[List.cons_append,List.nil_append,Prod.mk.injEq,and_true]
    omega
   ·have e:=beq_eq_false_iff_ne.1 e
    have:¬d.getD j 0=d.getD (p.getD 0 0).toNat 0-1:=fun q=>e (by unfold e2;rw[if_neg (by omega)];omega)
    rw[decide_eq_false this,Bool.and_false]
  ·rintro _ ⟨rfl,hno⟩ Kc
   exfalso
   have:=hno xi hxm
   rw[decide_eq_true hxs.1,decide_eq_true hxs.2]at this
   cases this
 ·rintro _ rfl Kb
  exact ak (decide_eq_false (by show ¬(d.getD ci 0-((d.getD ci 0-1).toNat:Int)>1);omega)) hy
theorem xF {ops:List aA} {K:Int→Int→Int→Bool→Bool→List Int→List Int→List Int→List Int→List Int→List aA→Prop} (hK:K 0 0 0 false false [] [] [] [] [] []):jd [] [] [] [] ops K:=by
 unfold jd pd
 exact ca (ap (by simp[J1]) (ap rfl hK))
theorem sR {n q:Int} {K:Int→Int→Int→Bool→Bool→Bool→List Int→List Int→List Int→List Int→List Int→List aA→Prop} (hn:¬(1≤n∧n≤8∧1≤q∧q≤3)→K 0 0 0 false true false [] [] [] [] [] [])
  (hy:1≤n→n≤8→1≤q→q≤3→KB (fun p a i lost l r ro fr c ops=>K p a i lost true true l r ro fr c ops) (kA n.toNat q.toNat)):ko n q K:=
 w8 (fun h=>xF (hn h)) fun a b c d=>Ag (qJ (by omega) (by omega) (by omega) (by omega)) ⟨fun o ho=>by simp at ho,by simp⟩ (by have:=hy a b c d;unfold kA KB at this;simpa using this)
def Hu (s:aV) (x:Int) (ok:Bool):Prop:=(∃n:Nat,kj s=some n∧x=n∧ok=true)∨(kj s=none∧(ok=false∨x<0))
theorem sn {s:aV} {K:Int→Bool→Prop} (h:∀x ok,Hu s x ok→K x ok):eW s K:=
 DM (fun n hn=>h _ _ (.inl ⟨n,hn,rfl,rfl⟩)) (fun hn x=>h _ _ (.inr ⟨hn, .inl rfl⟩)) fun hn x hx=>h _ _ (.inr ⟨hn, .inr hx⟩)
theorem Hy {w:aV} {s:jR} {K:Int→Int→Int→Bool→aV→List Int→List Int→List Int→List Int→List Int→List aA→Prop} (h:cf s.b)
  (hy:KB (fun p a i lost l r ro fr c ops=>K p a i lost (((du s w).2.getD [119,104,97,116])++[10]) l r ro fr c ops) (du s w).1.b):
  KB (fun p a i lost l r ro fr c ops=>nB p a i lost s.bar w l r ro fr c ops K) s.b:=by
 have hO:=(iy h w).1
 have hcl:= @Ez s.b s.bar
 obtain⟨⟨⟨⟨l,r,ro⟩,fr⟩,⟨ph,col,a⟩,ops,i,lost⟩,bar⟩:=s
 have hs:dR l r ro fr:=h.g.sv
 have hv:=hs.h
 have h8:=hv.l8
 have tb:∀{t:aV},t.length≤1000→t.length+List.length [(10:UInt8)]≤2^62:=fun h=>by simp only[List.length_cons,List.length_nil];omega
 refine br (fun e=> ?_) fun e1=>br (fun e=> ?_) fun e2=>br (fun e=> ?_) fun e3=>br (fun e=> ?_) fun e4=>br (fun e=> ?_) fun e5=>br (fun e=> ?_) fun e6=>br (fun e=> ?_) fun e7=>br (fun e=> ?_) fun e8=>br (fun e=> ?_) fun e9=> ?_
 ·have e:=beq_iff_eq.1 e;subst e
  exact jP h ⟨tb (hO.t _ rfl),hy⟩
 ·have e:=beq_iff_eq.1 e;subst e
  exact mh hs ⟨tb (hO.t _ rfl),hy⟩
 ·have e:=beq_iff_eq.1 e;subst e
  exact o8 hv (iS (by decide) (eI h8).2 (Nat.le_trans (eI h8).1 (by decide)) hy)
 ·have e:=beq_iff_eq.1 e;subst e
  exact xU hs (iS (by decide) (fun x hx=>(eI h8).2 x (List.mem_filter.1 hx).1) (Nat.le_trans (List.length_filter_le _ _) (Nat.le_trans (eI h8).1 (by decide))) hy)
 ·have e:=beq_iff_eq.1 e;subst e
  exact yH (fun _=>iS (by decide) (tG hv).2 (Nat.le_trans (tG hv).1 (by decide)) hy) fun q=>absurd hv q
 ·have e:=beq_iff_eq.1 e;subst e
  refine AY ?_
  rw[if_pos hv]
  exact iS (by decide) (tH hv).2 (Nat.le_trans (tH hv).1 (by decide)) hy
 ·have e:=beq_iff_eq.1 e;subst e
  exact xR (fun _=>nI (fun _=>⟨tb (hO.t _ rfl),hy⟩) fun q=>absurd (tW hv) q) fun q=>absurd hv q
 ·have e:=beq_iff_eq.1 e;subst e
  have hE:=nh h bar
  refine ul (fun q=>absurd h q) fun _=> ?_
  have ht:=hO.t _ rfl
  have ep:∀s:jR,du s [102,105,110,105,115,104]=(⟨hH s.bar s.b,s.bar⟩,some (eB (hH s.bar s.b))):=fun s=>rfl
  rw[ep]at hy
  simp only[Option.getD_some]at hy
  change (eB (hH bar _)).length≤1000 at ht
  generalize hH bar ⟨⟨⟨l,r,ro⟩,fr⟩,⟨ph,col,a⟩,ops,i,lost⟩=b at*
  obtain⟨⟨⟨l',r',ro'⟩,fr'⟩,⟨ph',col',a'⟩,ops',i',lost'⟩:=b
  exact jP hE ⟨tb ht,hy⟩
 ·have e:=beq_iff_eq.1 e;subst e
  have ep:∀s:jR,du s [108,111,115,101]=(s,some (if(oV s.b s.bar).2=false then[117,110,107,110,111,119,110]else match fH s.b s.bar with
   |some x=>[108,111,115,101,32]++x.road
   |none=>[110,101,118,101,114])):=fun s=>rfl
  rw[ep]at hy
  simp only[Option.getD_some]at hy hcl
  refine A9 (vY (fun q=> ?_) fun x q=> ?_)
  ·rw[q]at hy hcl
   refine br (fun e1=> ?_) fun e1=>ak hcl ?_
   ·rw[if_pos ((Bool.not_eq_true' _).mp e1)]at hy
    exact hy
   ·rw[if_neg (by rw[(Bool.not_eq_false' _).mp e1];simp)]at hy
    exact hy
  ·have hr:=(Bp q).2
   rw[q]at hy hcl
   refine br (fun e1=> ?_) fun e1=>ap hcl ⟨by simp only[List.length_cons,List.length_nil];omega,by simp only[List.length_append,List.length_cons,List.length_nil];omega, ?_⟩
   ·rw[if_pos ((Bool.not_eq_true' _).mp e1)]at hy
    exact hy
   ·rw[if_neg (by rw[(Bool.not_eq_false' _).mp e1];simp)]at hy
    exact hy
 ·have:du ⟨⟨⟨⟨l,r,ro⟩,fr⟩,⟨ph,col,a⟩,ops,i,lost⟩,bar⟩ w=(⟨⟨⟨⟨l,r,ro⟩,fr⟩,⟨ph,col,a⟩,ops,i,lost⟩,bar⟩,none):=by
   unfold du
   rw[if_neg (beq_eq_false_iff_ne.1 e8),if_neg (beq_eq_false_iff_ne.1 e1),if_neg (beq_eq_false_iff_ne.1 e2),if_neg (beq_eq_false_iff_ne.1 e3),if_neg (beq_eq_false_iff_ne.1 e4),if_neg (beq_eq_false_iff_ne.1 e5),if_neg (beq_eq_false_iff_ne.1 e6),if_neg (beq_eq_false_iff_ne.1 e7),if_neg (beq_eq_false_iff_ne.1 e9)]
  rw[this]at hy
  exact hy
theorem C7 {w:aV} (h:(32:UInt8)∈w):kj w=none:=by
 cases e:kj w with
 |none=>rfl
 |some n=>
  exfalso
  have h2:=de n
  rw[(iw.1 e).2]at h2
  obtain⟨k,hk,ek⟩:=List.getElem_of_mem h
  obtain⟨d,hd⟩:=Lib.digit_of_decFrom w 0 n h2 k 32 (by rw[List.getElem?_eq_getElem hk,ek])
  have:Lib.digitVal 32=none:=by decide
  rw[this]at hd;cases hd
theorem Ea:kj []=none:=by
 cases e:kj []with
 |none=>rfl
 |some n=>exact absurd (iw.1 e).2 (d7 n)
theorem EI {u v:aV} {s:jR} {K:Int→Int→Int→Bool→Bool→aV→List Int→List Int→List Int→List Int→List Int→List aA→Prop} (h:cf s.b) (hv2:v.length≤20000)
  (hy:(fun s':jR=>KB (fun p a i lost l r ro fr c ops=>K p a i lost s'.bar (((hY s u v).2.getD [119,104,97,116])++[10]) l r ro fr c ops) s'.b) (hY s u v).1):
  KB (fun p a i lost l r ro fr c ops=>jE p a i lost s.bar u v l r ro fr c ops K) s.b:=by
 have hO:=pC h u v
 obtain⟨⟨⟨⟨l,r,ro⟩,fr⟩,⟨ph,col,a⟩,ops,i,lost⟩,bar⟩:=s
 have hs:dR l r ro fr:=h.g.sv
 have hv:=hs.h
 have h8:=hv.l8
 have h12:=h.o.len
 simp only at h12
 have tb:∀{t:aV},t.length≤1000→t.length+List.length [(10:UInt8)]≤2^62:=fun h=>by simp only[List.length_cons,List.length_nil];omega
 generalize hP:hY ⟨⟨⟨⟨l,r,ro⟩,fr⟩,⟨ph,col,a⟩,ops,i,lost⟩,bar⟩ u v=P at hO hy
 unfold hY at hP
 refine br (fun e=> ?_) fun e1=>br (fun e=> ?_) fun e2=>br (fun e=> ?_) fun e3=>br (fun e=> ?_) fun e4=>br (fun e=> ?_) fun e5=>br (fun e=> ?_) fun e6=> ?_
 ·have e:=beq_iff_eq.1 e;subst e
  rw[if_neg (by decide),if_pos rfl]at hP
  refine ta (fun o hp=>gy h ?_) fun hp=>gy h (ap rfl ?_)
  ·simp only[hp]at hP
   refine ak rfl (jh (q:=ro.length) rfl (br (fun q=> ?_) fun q=>br (fun q2=> ?_) fun q2=> ?_))
   ·have q:¬bB o ro.length:=fun hh=>by
     have:decide (bB ⟨o.kind,o.a,o.b⟩ ro.length)=true:=decide_eq_true hh
     rw[this]at q;cases q
    rw[if_neg fun hh=>q hh.1]at hP
    subst hP;exact hy
   ·rw[if_neg fun hh=>by rw[show lost=true from q2]at hh;cases hh.2]at hP
    subst hP;exact hy
   ·have hok:bB o ro.length:=of_decide_eq_true ((Bool.not_eq_false' _).mp q)
    rw[if_pos ⟨hok,q2⟩]at hP
    subst hP
    have h1:=AJ (s:=⟨⟨⟨⟨l,r,ro⟩,fr⟩,⟨ph,col,a⟩,ops,i,lost⟩,bar⟩) h hok
    refine yx hs hok (wb h1.1 (by simp[oq]) ?_)
    have hb3:=sr ⟨⟨l,r,ro⟩,fr⟩ o
    have ht:=hO.t _ rfl
    simp only[Option.getD_some]at hy ht
    have eo:(⟨o.kind,o.a,o.b⟩:aA)=o:=rfl
    rw[eo]
    generalize (bm ⟨⟨l,r,ro⟩,fr⟩ o).2=e at hy ht hb3⊢
    unfold Gm at hy
    simp only at hy
    unfold oq at hy
    simp only at hy
    change KB _ (jr ⟨⟨⟨l,r,ro⟩,fr⟩,⟨ph,col,a⟩,[o],0,lost⟩ bar)
    have ql:lost=false:=q2
    have hlost:(jr ⟨⟨⟨l,r,ro⟩,fr⟩,⟨ph,col,a⟩,[o],0,lost⟩ bar).lost=lost:=by unfold jr;split<;>rfl
    generalize jr ⟨⟨⟨l,r,ro⟩,fr⟩,⟨ph,col,a⟩,[o],0,lost⟩ bar=b at hy hlost⊢
    obtain⟨⟨⟨l',r',ro'⟩,fr'⟩,⟨ph',col',a'⟩,ops',i',lost'⟩:=b
    simp only at hlost
    subst hlost
    exact⟨by show ops.length≤_;omega,⟨hb3.1,by show e<3;omega⟩,tb ht,hy⟩
  ·simp only[hp]at hP
   subst hP;exact hy
 ·have e:=beq_iff_eq.1 e;subst e
  rw[if_neg (by decide),if_neg (by decide),if_pos rfl]at hP
  refine xG (by omega) (fun ol hl=>ak rfl (we (q:=ro.length) rfl ?_)) fun hl=>ap rfl ?_
  ·by_cases hop:jb ol ro.length
   ·have hex:∃l,kB v l∧jb l ro.length:=⟨ol,hl,hop⟩
    rw[dif_pos hex]at hP
    have:hex.choose=ol:=o0 hex.choose_spec.1 hl
    rw[this]at hP
    subst hP
    exact ak (by simp[hop]) (gy h hy)
   ·rw[dif_neg (by rintro⟨l',h1,h2⟩;exact hop (o0 hl h1▸h2))]at hP
    subst hP
    exact ap (by simp[hop]) hy
  ·rw[dif_neg (by rintro⟨l',h1,h2⟩;exact hl _ h1)]at hP
   subst hP;exact hy
 ·have e:=beq_iff_eq.1 e;subst e
  rw[if_neg (by decide),if_neg (by decide),if_neg (by decide),if_pos rfl]at hP
  refine zG (fun q=>ap rfl ?_) fun _ q1 q2=> ?_
  ·rw[if_neg (fun q2=>q ⟨h,q2⟩)]at hP
   subst hP;exact hy
  ·rw[if_pos ⟨q1,q2⟩]at hP
   subst hP
   have ht:=hO.t _ rfl
   have hb:=hO.b
   simp only[Option.getD_some]at ht hy hb
   generalize kb ⟨⟨⟨l,r,ro⟩,fr⟩,⟨ph,col,a⟩,ops,i,lost⟩ bar v=b at*
   obtain⟨⟨⟨l',r',ro'⟩,fr'⟩,⟨ph',col',a'⟩,ops',i',lost'⟩:=b
   exact ak rfl (jP hb ⟨tb ht,hy⟩)
 ·have e:=beq_iff_eq.1 e;subst e
  rw[if_neg (by decide),if_neg (by decide),if_neg (by decide),if_neg (by decide),if_neg (by decide),if_pos rfl]at hP
  refine sn fun x ok hx=>Cr (l:=l) (r:=r) (ro:=ro) hv (fun q=> ?_) fun q0 q1 q2=> ?_
  ·rcases hx with⟨n,hd,rfl,rfl⟩|⟨hd,hx⟩
   ·simp only[hd]at hP
    rw[if_neg (by rintro⟨h1,h2⟩;exact q ⟨by omega,by have:n<l.length:=h1;omega,by simpa using h2⟩)]at hP
    subst hP;exact ak rfl (ap rfl hy)
   ·simp only[hd]at hP
    subst hP
    exact br (fun _=>hy) fun _=>ap rfl hy
  ·rcases hx with⟨n,hd,rfl,rfl⟩|⟨hd,hx⟩
   ·simp only[hd]at hP
    rw[if_pos ⟨by show n<l.length;omega,by simpa using q2⟩]at hP
    subst hP
    have hp:=tz hv q0 q1 q2
    exact ak rfl (ak rfl (iS (by decide) (fun x hx=>by have:=hp.2 x hx;omega) (Nat.le_trans hp.1 (by decide)) hy))
   ·simp only[hd]at hP
    subst hP
    rcases hx with rfl|hx
    ·exact ap rfl hy
    ·omega
 ·have e:=beq_iff_eq.1 e;subst e
  rw[if_neg (by decide),if_neg (by decide),if_neg (by decide),if_neg (by decide),if_pos rfl]at hP
  refine br (fun f1=>br (fun f2=> ?_) fun f2=> ?_) fun f1=> ?_
  ·rw[if_neg (by simpa using f1),if_neg (by simpa using f2)]at hP
   subst hP;exact hy
  ·rw[if_neg (by simpa using f1),if_pos (by simpa using f2)]at hP
   have f3:(v==[111,110])=false:=by simpa using f1
   subst hP
   rw[f3];exact hy
  ·rw[if_pos (by simpa using f1)]at hP
   have f3:(v==[111,110])=true:=by simpa using f1
   subst hP
   rw[f3];exact hy
 ·have e:=beq_iff_eq.1 e;subst e
  rw[if_pos rfl]at hP
  refine qx (c:=32) rfl (by omega) fun _=> ?_
  rw[nX]
  have many:∀parts:List aV,parts.length≠2→1≤parts.length→parts.length≤20001→P=(⟨⟨⟨⟨l,r,ro⟩,fr⟩,⟨ph,col,a⟩,ops,i,lost⟩,bar⟩,none)→(((aq 0 (List.length parts))∧
    (eW (gS parts 0) fun(y30:Int) (y31:Bool)=>((aq (b6 (len parts) 1) (List.length parts))∧(eW (gS parts (b6 (len parts) 1)) fun(y32:Int) (y33:Bool)=>
    (ko y30 y32 fun(y34:Int) (y35:Int) (y36:Int) (y37:Bool) (y38:Bool) (y39:Bool) (y40:List Int) (y41:List Int) (y42:List Int) (y43:List Int) (y44:List Int) (y45:List aA)=>
    ((((len parts) !=2)=true→(K ph a i lost bar [119,104,97,116,10] l r ro fr col ops))∧(((len parts) !=2)=false→(((!y31)=true→(K ph a i lost bar [119,104,97,116,10] l r ro fr col ops))∧((!y31)=false→(((!y33)=true→(K ph a i lost bar [119,104,97,116,10] l r ro fr col ops))∧
    ((!y33)=false→(((!y39)=true→(K ph a i lost bar [119,104,97,116,10] l r ro fr col ops))∧((!y39)=false→(K y34 y35 y36 y37 y38 [111,107,10] y40 y41 y42 y43 y44 y45))))))))))))))):=by
   intro parts h2 h1 hb hp
   rw[hp]at hy
   have hne:((len parts) !=2)=true:=by rw[aa,bne_iff_ne];omega
   have hi:b6 (len parts) 1=((parts.length-1:Nat):Int):=by rw[aa,jx (by omega) (by omega)];omega
   refine⟨⟨by decide,by omega⟩,sn fun x ok _=>⟨by rw[hi];exact⟨by omega,by omega⟩,sn fun y ok' _=>sR (fun _=>ap hne hy) fun _ _ _ _=>ap hne hy⟩⟩
  rcases m5 32 v with h32|⟨q,w,rfl,h32⟩
  ·rw[tD h32]at hP
   rw[dF h32]
   refine many _ (by simp) (by simp) (by simp) ?_
   simp only[Ea]at hP
   rw[←hP]
   split<;>first|rfl|simp_all
  ·rw[wP h32]at hP
   rw[d9 h32]
   rcases m5 32 w with h33|⟨q2,w2,rfl,h33⟩
   ·rw[dF h33]
    refine⟨⟨by decide,by simp⟩,sn fun x ok hx=>⟨⟨(by show(0:Int)≤1;decide),(by show(1:Int)<2;decide)⟩,sn fun y ok' hx'=> ?_⟩⟩
    have two:(len [q,w] !=2)=false:=rfl
    have hx:Hu q x ok:=hx
    have hx':Hu w y ok':=hx'
    simp only at hP
    refine sR (fun hq=>ak two ?_) fun a1 a2 a3 a4=>ak two ?_
    ·have:P=(⟨⟨⟨⟨l,r,ro⟩,fr⟩,⟨ph,col,a⟩,ops,i,lost⟩,bar⟩,none):=by
      rcases hx with⟨n,hd,rfl,rfl⟩|⟨hd,hx⟩
      ·rcases hx' with⟨m,hd',rfl,rfl⟩|⟨hd',hx'⟩
       ·simp only[hd,hd']at hP
        rw[if_neg (by omega)]at hP
        exact hP.symm
       ·simp only[hd,hd']at hP
        exact hP.symm
      ·simp only[hd]at hP
       exact hP.symm
     rw[this]at hy
     exact br (fun _=>hy) fun _=>br (fun _=>hy) fun _=>ap rfl hy
    ·rcases hx with⟨n,hd,rfl,rfl⟩|⟨hd,hx⟩
     ·rcases hx' with⟨m,hd',rfl,rfl⟩|⟨hd',hx'⟩
      ·simp only[hd,hd']at hP
       rw[if_pos (by omega)]at hP
       subst hP
       exact ak rfl (ak rfl (ak rfl hy))
      ·simp only[hd,hd']at hP
       subst hP
       rcases hx' with rfl|hx'
       ·exact ak rfl (ap rfl hy)
       ·omega
     ·simp only[hd]at hP
      subst hP
      rcases hx with rfl|hx
      ·exact ap rfl hy
      ·omega
   ·have hl:=qd (s:=w2) (c:=32)
    have hne:=sd w2 [32]
    have hp1:1≤(Lib.split w2 [32]).length:=List.length_pos_iff.2 hne
    rw[d9 h33]
    simp only[List.length_append,List.length_cons]at hv2
    refine many _ (by simp only[List.length_cons];omega) (by simp) (by simp only[List.length_cons];omega) ?_
    have hd:=C7 (w:=q2++32::w2) (by simp)
    simp only[hd]at hP
    rw[←hP]
    split<;>first|rfl|simp_all
 ·rw[if_neg (beq_eq_false_iff_ne.1 e6),if_neg (beq_eq_false_iff_ne.1 e1),if_neg (beq_eq_false_iff_ne.1 e2),if_neg (beq_eq_false_iff_ne.1 e3),if_neg (beq_eq_false_iff_ne.1 e5),if_neg (beq_eq_false_iff_ne.1 e4)]at hP
  subst hP;exact hy
end Go.Ab
