/- What is proved here: what is read of a region over typed values holds of the region's abstract walk, drawn or not. -/
import Derived.Test.YtigomgblkieahaaGreatDoorT8
namespace Go.Ab
set_option linter.unusedVariables false
set_option linter.unusedSimpArgs false
def calleeOf (ρ:Operand→AVal):Op→Option (FuncId×List AVal)
 | .call c=>
  match c.callee with
  | .value x=>match ρ x with
   | .fn f xs ys=>some (f,xs++c.args.toList.map ρ++ys)
   |_=>none
  |_=>none
 |_=>none
theorem callee_dop {P:Program} {fl:Nat} {o:Oper} {ρ:Operand→AVal} {f:FuncId} {args:List AVal} {m m':Mem} {v:AVal} (h:calleeOf ρ o.op=some (f,args)) (hd:DCalls P fl f args m v m'):DOp P fl o ρ m v m':=by
 unfold calleeOf at h
 split at h
 ·rename_i c ho
  split at h
  ·rename_i x hc
   split at h
   ·rename_i f' xs ys hx
    simp at h
    obtain⟨rfl,rfl⟩:=h
    refine dop_of_call ho hc hx ?_
    simpa using hd
   ·cases h
  ·cases h
 ·cases h
def CSound (P:Program) (f:FuncId) (C:Con):Prop:=∀(args:List TV) (K:TV→TMem→Prop) (c:Cfg),C args c.tm K→∀(fl:Nat) (A:Nat→Prop) (aargs:List AVal),(∀n,A n→fl≤n)→(∀n,c.m.size≤n→A n)→RM c A→LV c args aargs→
 ∃v c' r,K r c'.tm∧RV c' r v∧DCalls P fl f aargs c.m v c'.m∧RM c' A∧Stp c c' A
def GSound (P:Program) (Γ:List (Nat×Con)):Prop:=∀f C,lookC Γ f=some C→CSound P f C
section exec
variable {P:Program} {nt fl:Nat} {Γ:List (Nat×Con)} {c:Cfg} {A:Nat→Prop} {ts:TFrm} {fr:Frm}
theorem callee_rv (hf:FV c ts fr) {op:Op} {f:FuncId} {args:List TV} (h:calleeT (tev nt ts) op=some (f,args)):∃aargs,calleeOf (aev nt fr) op=some (f,aargs)∧LV c args aargs:=by
 unfold calleeT at h
 split at h
 ·rename_i cl
  split at h
  ·rename_i x hc
   split at h
   ·rename_i f' xs ys hx
    simp only[Option.some.injEq,Prod.mk.injEq]at h
    obtain⟨rfl,rfl⟩:=h
    have hr:=hf.ev (n:=nt) x
    rw[hx]at hr
    generalize hq:aev nt fr x=q at hr
    cases hr with
    |fn _ _ _ as bs h1 h2 r1 r2=>
    refine⟨as++cl.args.toList.map (aev nt fr)++bs, ?_, ?_⟩
    ·unfold calleeOf;simp only[hc,hq]
    ·exact((show LV c xs as from⟨h1,r1⟩).append (LV.map _ fun x _=>hf.ev x)).append ⟨h2,r2⟩
   ·cases h
  ·cases h
 ·cases h
theorem texec_ok (hΓ:GSound P Γ) (hA:∀n,A n→fl≤n) (hN:∀n,c.m.size≤n→A n) (R:RM c A) (hf:FV c ts fr) {o:Oper} {K:TV→TMem→Prop} {fz:Bool×Bool} (h:texec P nt Γ fz o ts c.tm K):∃v tm',K v tm'∧OpOk P fl o (aev nt fr) c A v tm':=by
 unfold texec at h
 split at h
 ·rename_i f args hc
  split at h
  ·rename_i C hC
   obtain⟨aargs,h1,h2⟩:=callee_rv hf hc
   obtain⟨v,c',r,g1,g2,g3,g4,g5⟩:=hΓ f C hC args K c h fl A aargs hA hN R h2
   exact⟨r,c'.tm,g1,v,c',callee_dop h1 g3,rfl,g4,g2,g5⟩
  ·exact h.elim
 ·obtain⟨fz,vw⟩:=fz
  cases vw with
  |true=>
   simp only[cond_true]at h
   cases hb:bldO o.op with
   |false=>rw[hb]at h;exact topV_sound hA R (fun x _=>hf.ev x) h
   |true=>rw[hb]at h;exact top_sound hA hN R (fun x _=>hf.ev x) h
  |false=>
  simp only[cond_false]at h
  obtain⟨v,tm',hk,a,c1,g1,rfl,g2,g3,g4⟩:=top_sound hA hN R (fun x _=>hf.ev x) h
  unfold frzK at hk
  cases fz with
  |false=>exact⟨v,_,hk,a,c1,g1,rfl,g2,g3,g4⟩
  |true=>
   simp only[cond_true]at hk
   split at hk
   ·rename_i v2 tm2 hco
    obtain⟨c2,rfl,s2,s3,s4,_⟩:=coeT_ok _ hco g2 g3
    obtain⟨q,y1,y2⟩:=s4.gh
    refine⟨v2,_,hk,a,c2, ?_,rfl,s2,s3,g4.trans s4.stp⟩
    rw[y2]
    exact g1.weak fun n hn=> .inl (hA n (y1 n hn))
   ·exact hk.elim
end exec
theorem OpOk.mono {P:Program} {fl:Nat} {o:Oper} {ρa:Operand→AVal} {c:Cfg} {A:Nat→Prop} {v:TV} {tm':TMem} (h:OpOk P fl o ρa c A v tm'):∃a c',DOp P fl o ρa c.m a c'.m∧c'.tm=tm'∧RM c' A∧RV c' v a∧Stp c c' A:=h
def locB (E:Nat→Option (Nat×Nat)) (k n:Nat):Bool:=
 match E k with
 |some (n',_)=>Nat.beq n' n
 |none=>false
def zz (ms:List Nat) (W:List (Nat×List Nat)) (E:Nat→Option (Nat×Nat)) (i n:Nat):Bool:=W.any fun p=>hits ms i p.2&&locB E p.1 n
def zq (pu:Nat) (ms:List Nat) (W:List (Nat×List Nat)) (E:Nat→Option (Nat×Nat)) (i n:Nat):Bool:=
 bif Nat.beq pu 1 then true else bif Nat.beq pu 2 then !(W.any fun p=>locB E p.1 n)else zz ms W E i n
def puO (W:List (Nat×List Nat)) (op:Op):Nat:=bif blO op then 1 else bif ldO op&&prW W then 2 else 0
def rr (sp:Bool) (W:List (Nat×List Nat)) (E:Nat→Option (Nat×Nat)) (i n:Nat):Bool:= !(bif sp then !(prW W&&W.any fun p=>locB E p.1 n)else W.any fun p=>p.2.any (Nat.beq i)&&locB E p.1 n)
theorem wlive_get {tm:TMem} {k:Nat} (h:wlive tm k=true):∃b,tm[k]? =some b∧b.w=true∧((∃l,b.k= .cells l)∨∃e l,b.k= .list e l):=by
 unfold wlive at h
 split at h
 ·rename_i l hb;exact⟨_,hb,rfl, .inl ⟨l,rfl⟩⟩
 ·rename_i e l hb;exact⟨_,hb,rfl, .inr ⟨e,l,rfl⟩⟩
 ·cases h
theorem live_nd {b:TB} (h:(∃l,b.k= .cells l)∨∃e l,b.k= .list e l):b.k≠ .dead:=by rcases h with⟨l,h⟩|⟨e,l,h⟩<;>rw[h]<;>simp
theorem goneK_shape (k:TK):(goneK k).shape=k.shape∧(goneK k= .dead↔k= .dead):=by cases k<;>simp[goneK,TK.shape]
theorem lockK_shape (k:TK):(lockK k).shape=k.shape∧(lockK k= .dead↔k= .dead):=by cases k<;>simp[lockK,TK.shape]
theorem lockK_keep {k:TK} (h:(∃l,lockK k= .cells l)∨∃e l,lockK k= .list e l):lockK k=k:=by
 cases k<;>simp_all [lockK]
theorem tview1_shape {ms:List Nat} {sp:Bool} {W:List (Nat×List Nat)} {i k:Nat} (b:TB):(tview1 ms sp W i k b).k.shape=b.k.shape∧((tview1 ms sp W i k b).k= .dead↔b.k= .dead):=by
 unfold tview1
 cases hitZ ms W i k
 ·cases mayV sp W i k
  ·exact lockK_shape b.k
  ·exact⟨rfl,Iff.rfl⟩
 ·exact goneK_shape b.k
theorem tview_get {ms:List Nat} {sp:Bool} {W:List (Nat×List Nat)} {i:Nat}:∀{tm:TMem} {k j:Nat},(tviewGo ms sp W i k tm)[j]? =(tm[j]?).map (tview1 ms sp W i (k+j))
 |[],k,j=>by simp[tviewGo]
 |b::r,k,0=>by simp[tviewGo]
 |b::r,k,j+1=>by simp only[tviewGo,List.getElem?_cons_succ,tview_get];congr 2;omega
theorem tview_len {ms:List Nat} {sp:Bool} {W:List (Nat×List Nat)} {i:Nat}:∀{tm:TMem} {k:Nat},(tviewGo ms sp W i k tm).length=tm.length
 |[],k=>rfl
 |b::r,k=>by simp[tviewGo,tview_len]
def vis (ms:List Nat) (sp:Bool) (W:List (Nat×List Nat)) (i k:Nat):Bool:= !(hitZ ms W i k)&&mayV sp W i k
theorem tglue_get {ms:List Nat} {sp:Bool} {W:List (Nat×List Nat)} {i:Nat}:∀{tm tm':TMem} {k j:Nat} (_:tm.length≤tm'.length),(tglueGo ms sp W i k tm tm')[j]? =if j<tm.length then(bif vis ms sp W i (k+j)then tm'[j]? else tm[j]?)else tm'[j]?
 |[],tm',k,j,_=>by simp[tglueGo]
 |b::r,[],k,j,h=>by simp at h
 |b::r,b'::r',k,0,_=>by
  simp only[tglueGo,List.getElem?_cons_zero,List.length_cons,Nat.zero_lt_succ,if_true,Nat.add_zero]
  show some (bif vis ms sp W i k then b' else b)=_
  cases vis ms sp W i k<;>rfl
 |b::r,b'::r',k,j+1,h=>by
  simp only[tglueGo,List.getElem?_cons_succ]
  rw[tglue_get (by simpa using h)]
  simp only[List.length_cons,Nat.add_lt_add_iff_right]
  rw[show k+1+j=k+(j+1) by omega]
theorem tglue_len {ms:List Nat} {sp:Bool} {W:List (Nat×List Nat)} {i:Nat}:∀{tm tm':TMem} {k:Nat} (_:tm.length≤tm'.length),(tglueGo ms sp W i k tm tm').length=tm'.length
 |[],tm',k,_=>by simp[tglueGo]
 |b::r,[],k,h=>by simp at h
 |b::r,b'::r',k,h=>by simp only[tglueGo,List.length_cons];rw[tglue_len (by simpa using h)]
theorem below_ok {c:Cfg} {A:Nat→Prop} (R:RM c A) {m:Mem} (hs:m.size=c.m.size) (hb:∀n,n<c.m.size→m.blk n=c.m.blk n):
  RM ⟨c.E,c.tm,m,c.F,c.N⟩ A∧Stp c ⟨c.E,c.tm,m,c.F,c.N⟩ A:=by
 have mv:Mv c ⟨c.E,c.tm,m,c.F,c.N⟩:=⟨Nat.le_refl _,fun _ _=>rfl,fun k b e n h1 h2=>⟨b,h1, .inr h2⟩,fun k b h1 h2=>⟨b,h1,h2⟩,fun n h=>⟨h,hb n (R.fz n h).1⟩,fun n h=>⟨h,hb n (R.nf n h).1⟩⟩
 refine⟨⟨fun k w l hk=> ?_,fun k w e l hk=> ?_,R.inj,fun n hn=> ?_,fun k b n p h1 h2 h3=> ?_,fun n hn=> ?_,fun k ks hk=> ?_,R.gv.mv mv⟩,mv,fun _ b h hw=>⟨b,h,hw,rfl,Iff.rfl⟩,by show c.m.size≤m.size;omega,fun n hn _=>hb n hn,fun n hn _=>hb n hn,fun n hn hr=> ?_,fun n h=> .inl h,fun n h=> .inl h⟩
 ·obtain⟨n,p,q1,q2,q3,q4,q5,q6⟩:=R.cells k w l hk
  have:=hb n q2
  exact⟨n,p,q1,by show n<m.size;omega,by show(m.blk n).mode≠_;rw[this];exact q3,by show _→(m.blk n).mode=_∧_;rw[this];exact q4,by show _≤(m.blk n).cells.length;rw[this];exact q5,fun i t ht=>let ⟨a,r1,r2⟩:=q6 i t ht;⟨a,by show(m.blk n).cells[_]? =_;rw[this];exact r1,r2.mv mv⟩⟩
 ·rcases R.list k w e l hk with q|⟨n,p,q1,q2,q3,q4,q5,q6⟩
  ·exact .inl q
  ·have:=hb n q2
   exact .inr ⟨n,p,q1,by show n<m.size;omega,by show(m.blk n).mode≠_;rw[this];exact q3,by show _→(m.blk n).mode=_∧_;rw[this];exact q4,by show(m.blk n).cells.length=_;rw[this];exact q5,fun i x q t s1 s2=>let ⟨a,r1,r2⟩:=q6 i x q t s1 s2;⟨a,by show(m.blk n).cells[_]? =_;rw[this];exact r1,r2.mv mv⟩⟩
 ·have:=R.fz n hn
  exact⟨by show n<m.size;omega,by show(m.blk n).mode=_;rw[hb n this.1];exact this.2⟩
 ·have:=R.low k b n p h1 h2 h3
  show n<m.size;omega
 ·have:=R.nf n hn
  exact⟨by show n<m.size;omega,by show(m.blk n).mode=_;rw[hb n this.1];exact this.2⟩
 ·obtain⟨n,p,q1,q2,q3,q4⟩:=R.keys k ks hk
  exact⟨n,p,q1,by show n<m.size;omega,by show(m.blk n).mode=_;rw[hb n q2];exact q3,q4⟩
 ·have hr':(m.blk n).mode= .rw:=hr
  rw[hb n hn]at hr';exact hr'
section draw
variable {P:Program} {nt fl:Nat} {Γ:List (Nat×Con)} {c c0:Cfg} {A:Nat→Prop} {ts:TFrm} {fr:Frm} {ms:List Nat} {sp:Bool} {W:List (Nat×List Nat)} {i:Nat}
theorem view_ok (R:RM c A) (S0:Stp c0 c A) (hW:∀p∈W,p.1<c0.tm.length) {D:Mem→AVal→Mem→Prop} (hD:∀m v m',D m v m'→AStep fl m m') {X:TMem→(TV→TMem→Prop)→Prop} {K:TV→TMem→Prop}
  (hX:∀(cv:Cfg) (K':TV→TMem→Prop),RM cv A→Mv c cv→cv.m.size=c.m.size→X cv.tm K'→∃v tm',K' v tm'∧∃a c1,D cv.m a c1.m∧c1.tm=tm'∧RM c1 A∧RV c1 v a∧Stp cv c1 A)
  (hall:(W.all fun p=>wlive c.tm p.1)=true) (h:X (tviewGo ms sp W i 0 c.tm) fun v tm'=>bif (tm'.drop c.tm.length).all (·.w)then K v (tglueGo ms sp W i 0 c.tm tm')else False):
  ∃v a mv c',K v c'.tm∧D (c.m.view (zz ms W c0.E i) (rr sp W c0.E i)) a mv∧c'.m=c.m.glue (zz ms W c0.E i) (rr sp W c0.E i) mv∧RM c' A∧RV c' v a∧Stp c c' A:=by
 have hw:∀p∈W,wlive c.tm p.1=true:=fun p hp=>by have:=List.all_eq_true.1 hall p hp;simpa using this
 have hloc:∀{p:Nat×List Nat} {n:Nat},p∈W→locB c0.E p.1 n=true→∃q,c.E p.1=some (n,q):=by
  intro p n hp hl
  unfold locB at hl
  split at hl
  ·rename_i n' q he
   have:=Nat.eq_of_beq_eq_true hl
   subst this
   exact⟨q,(S0.mv.e _ (hW p hp)).trans he⟩
  ·cases hl
 have hloc':∀{p:Nat×List Nat} {n q:Nat},p∈W→c.E p.1=some (n,q)→locB c0.E p.1 n=true:=by
  intro p n q hp he
  rw[S0.mv.e _ (hW p hp)]at he
  simp[locB,he]
 have only:∀{p:Nat×List Nat} {k:Nat} {b:TB} {n q:Nat},p∈W→locB c0.E p.1 n=true→c.tm[k]? =some b→b.k≠ .dead→c.E k=some (n,q)→k=p.1:=by
  intro p k b n q hp hl hb hd hE
  obtain⟨b',g1,g2,g3⟩:=wlive_get (hw p hp)
  obtain⟨q',hE'⟩:=hloc hp hl
  by_cases e:k=p.1
  ·exact e
  ·exact absurd rfl (R.inj p.1 k b' b n q' n q (fun h=>e h.symm) g1 hb g2 (live_nd g3) hd hE' hE)
 have zlive:∀{k:Nat} {b:TB} {n q:Nat},c.tm[k]? =some b→b.k≠ .dead→c.E k=some (n,q)→zz ms W c0.E i n=hitZ ms W i k:=by
  intro k b n q hb hd hE
  rw[Bool.eq_iff_iff]
  unfold zz hitZ
  rw[List.any_eq_true,List.any_eq_true]
  constructor
  ·rintro⟨p,hp,hq⟩
   rw[Bool.and_eq_true]at hq
   have:=only hp hq.2 hb hd hE
   exact⟨p,hp,by rw[Bool.and_eq_true];exact⟨by rw[this];exact Nat.beq_refl _,hq.1⟩⟩
  ·rintro⟨p,hp,hq⟩
   rw[Bool.and_eq_true]at hq
   have:=Nat.eq_of_beq_eq_true hq.1
   exact⟨p,hp,by rw[Bool.and_eq_true];exact⟨hq.2,hloc' hp (by rw[this];exact hE)⟩⟩
 have rlive:∀{k:Nat} {b:TB} {n q:Nat},c.tm[k]? =some b→b.k≠ .dead→c.E k=some (n,q)→rr sp W c0.E i n= !(mayV sp W i k):=by
  intro k b n q hb hd hE
  have:(W.any fun p=>p.2.any (Nat.beq i)&&locB c0.E p.1 n)=mayW W i k:=by
   rw[Bool.eq_iff_iff]
   unfold mayW
   rw[List.any_eq_true,List.any_eq_true]
   constructor
   ·rintro⟨p,hp,hq⟩
    rw[Bool.and_eq_true]at hq
    have:=only hp hq.2 hb hd hE
    exact⟨p,hp,by rw[Bool.and_eq_true];exact⟨by rw[this];exact Nat.beq_refl _,hq.1⟩⟩
   ·rintro⟨p,hp,hq⟩
    rw[Bool.and_eq_true]at hq
    have:=Nat.eq_of_beq_eq_true hq.1
    exact⟨p,hp,by rw[Bool.and_eq_true];exact⟨hq.2,hloc' hp (by rw[this];exact hE)⟩⟩
  have h2:(W.any fun p=>locB c0.E p.1 n)=W.any fun p=>Nat.beq p.1 k:=by
   rw[Bool.eq_iff_iff,List.any_eq_true,List.any_eq_true]
   constructor
   ·rintro⟨p,hp,hq⟩
    have:=only hp hq hb hd hE
    exact⟨p,hp,by rw[this];exact Nat.beq_refl _⟩
   ·rintro⟨p,hp,hq⟩
    have:=Nat.eq_of_beq_eq_true hq
    exact⟨p,hp,hloc' hp (by rw[this];exact hE)⟩
  unfold rr mayV protK
  rw[this,h2]
 have zF:∀n,c.F n→zz ms W c0.E i n=false:=by
  intro n hn
  cases hz:zz ms W c0.E i n
  ·rfl
  ·unfold zz at hz
   rw[List.any_eq_true]at hz
   obtain⟨p,hp,hq⟩:=hz
   rw[Bool.and_eq_true]at hq
   obtain⟨b',g1,g2,g3⟩:=wlive_get (hw p hp)
   obtain⟨q',hE'⟩:=hloc hp hq.2
   have:=(R.live g1 g2 g3 hE').2.1
   rw[(R.fz n hn).2]at this
   cases this
 have zN:∀n,c.N n→zz ms W c0.E i n=false:=by
  intro n hn
  cases hz:zz ms W c0.E i n
  ·rfl
  ·unfold zz at hz
   rw[List.any_eq_true]at hz
   obtain⟨p,hp,hq⟩:=hz
   rw[Bool.and_eq_true]at hq
   obtain⟨b',g1,g2,g3⟩:=wlive_get (hw p hp)
   obtain⟨q',hE'⟩:=hloc hp hq.2
   have:=(R.live g1 g2 g3 hE').2.1
   rw[(R.nf n hn).2]at this
   cases this
 generalize hzd:zz ms W c0.E i=z at*
 generalize hrd:rr sp W c0.E i=r at*
 have vF:∀n,c.F n→(c.m.view z r).blk n=c.m.blk n:=by
  intro n hn
  have h1:=zF n hn
  have h2:=(R.fz n hn).2
  unfold Mem.view
  simp only[h1,Bool.false_eq_true,if_false]
  split
  ·simp[Blk.roify,h2,Mode.wr]
  ·rfl
 have vN:∀n,c.N n→(c.m.view z r).blk n=c.m.blk n:=by
  intro n hn
  have h1:=zN n hn
  have h2:=(R.nf n hn).2
  unfold Mem.view
  simp only[h1,Bool.false_eq_true,if_false]
  split
  ·simp[Blk.roify,h2,Mode.wr]
  ·rfl
 have vis1:∀{k:Nat} {b:TB} {n q:Nat},c.tm[k]? =some b→b.k≠ .dead→c.E k=some (n,q)→vis ms sp W i k=true→z n=false∧r n=false∧(c.m.view z r).blk n=c.m.blk n:=by
  intro k b n q hb hd hE hv
  unfold vis at hv
  rw[Bool.and_eq_true]at hv
  have h1:z n=false:=by rw[zlive hb hd hE];simpa using hv.1
  have h2:r n=false:=by rw[rlive hb hd hE,hv.2];rfl
  exact⟨h1,h2,by simp[Mem.view,h1,h2]⟩
 have hid1:∀{k:Nat} {b:TB} {n q:Nat},c.tm[k]? =some b→b.k≠ .dead→c.E k=some (n,q)→vis ms sp W i k=false→z n=true∨r n=true:=by
  intro k b n q hb hd hE hv
  unfold vis at hv
  rw[Bool.and_eq_false_iff]at hv
  rcases hv with h|h
  ·exact .inl (by rw[zlive hb hd hE];simpa using h)
  ·exact .inr (by rw[rlive hb hd hE,h];rfl)
 let cv:Cfg:=⟨c.E,tviewGo ms sp W i 0 c.tm,c.m.view z r,c.F,c.N⟩
 have cvget:∀{k:Nat},cv.tm[k]? =(c.tm[k]?).map (tview1 ms sp W i k):=fun{k}=>by
  have:=tview_get (ms:=ms) (sp:=sp) (W:=W) (i:=i) (tm:=c.tm) (k:=0) (j:=k)
  rw[Nat.zero_add]at this;exact this
 have cvback:∀{k:Nat} {b:TB},cv.tm[k]? =some b→∃b',c.tm[k]? =some b'∧b=tview1 ms sp W i k b':=by
  intro k b hb
  rw[cvget]at hb
  obtain⟨b',h1,h2⟩:=Option.map_eq_some_iff.1 hb
  exact⟨b',h1,h2.symm⟩
 have cvfor:∀{k:Nat} {b:TB},c.tm[k]? =some b→cv.tm[k]? =some (tview1 ms sp W i k b):=fun hb=>by rw[cvget,hb];rfl
 have hmv:Mv c cv:=by
  refine⟨by rw[show cv.tm=tviewGo ms sp W i 0 c.tm from rfl,tview_len];exact Nat.le_refl _,fun _ _=>rfl,fun k b e n h1 h2=>⟨_,cvfor h1, .inr ((tview1_shape b).1.trans h2)⟩,fun k b h1 h2=>⟨_,cvfor h1,(tview1_shape b).2.2 h2⟩,fun n hn=>⟨hn,vF n hn⟩,fun n hn=>⟨hn,vN n hn⟩⟩
 have entry:∀{k:Nat} {b b':TB},c.tm[k]? =some b'→b=tview1 ms sp W i k b'→((∃l,b.k= .cells l)∨∃e l,b.k= .list e l)→b.k=b'.k∧hitZ ms W i k=false∧((b.w=true→vis ms sp W i k=true∧b'.w=true)):=by
  intro k b b' hb he hl
  subst he
  unfold tview1 at hl⊢
  cases hz:hitZ ms W i k
  ·rw[hz]at hl
   cases hm:mayV sp W i k
   ·rw[hm]at hl
    exact⟨lockK_keep hl,rfl,fun h=>by simp at h⟩
   ·refine⟨rfl,rfl,fun h=>⟨by unfold vis;rw[hz,hm];rfl,by simpa using h⟩⟩
  ·rw[hz]at hl
   simp only[cond_true]at hl
   obtain⟨w,bk⟩:=b'
   rcases hl with⟨l,hl⟩|⟨e,l,hl⟩<;>cases bk<;>simp[goneK]at hl
 have vmode:∀{k:Nat} {b':TB} {n q:Nat},c.tm[k]? =some b'→b'.k≠ .dead→c.E k=some (n,q)→hitZ ms W i k=false→(c.m.blk n).mode≠ .dead→((c.m.view z r).blk n).mode≠ .dead∧((c.m.view z r).blk n).cells=(c.m.blk n).cells:=by
  intro k b' n q hb hd hE hz hm
  have h1:z n=false:=by rw[zlive hb hd hE];exact hz
  unfold Mem.view
  simp only[h1,Bool.false_eq_true,if_false]
  split
  ·exact⟨fun q=>hm (Blk.roify_dead.1 q),Blk.roify_cells _⟩
  ·exact⟨hm,rfl⟩
 have RVm:RM cv A:=by
  refine⟨fun k w l hk=> ?_,fun k w e l hk=> ?_,fun k k' b b' n p n' p' hne hk hk' hwb hd hd' h1 h2=> ?_,fun n hn=>⟨(R.fz n hn).1,by show(Mem.blk _ _).mode=_;rw[vF n hn];exact(R.fz n hn).2⟩,fun k b n p hk hd h1=> ?_,fun n hn=>⟨(R.nf n hn).1,by show(Mem.blk _ _).mode=_;rw[vN n hn];exact(R.nf n hn).2⟩,fun k ks hk=> ?_,R.gv.mv hmv⟩
  ·obtain⟨b',g1,g2⟩:=cvback hk
   obtain⟨e1,e2,e3⟩:=entry g1 g2 (.inl ⟨l,rfl⟩)
   obtain⟨w',bk⟩:=b'
   simp only at e1
   subst e1
   obtain⟨n,p,q1,q2,q3,q4,q5,q6⟩:=R.cells k w' l g1
   obtain⟨v1,v2⟩:=vmode g1 (by simp) q1 e2 q3
   refine⟨n,p,q1,q2,v1,fun hw'=> ?_,by rw[show(cv.m.blk n).cells=_ from v2];exact q5,fun j t ht=> ?_⟩
   ·obtain⟨w1,w2⟩:=e3 hw'
    obtain⟨_,_,w3⟩:=vis1 g1 (by simp) q1 w1
    obtain⟨w4,w5⟩:=q4 w2
    exact⟨by show(Mem.blk _ _).mode=_;rw[w3];exact w4,w5⟩
   ·obtain⟨a,r1,r2⟩:=q6 j t ht
    exact⟨a,by rw[show(cv.m.blk n).cells=_ from v2];exact r1,r2.mv hmv⟩
  ·obtain⟨b',g1,g2⟩:=cvback hk
   obtain⟨e1,e2,e3⟩:=entry g1 g2 (.inr ⟨e,l,rfl⟩)
   obtain⟨w',bk⟩:=b'
   simp only at e1
   subst e1
   rcases R.list k w' e l g1 with q|⟨n,p,q1,q2,q3,q4,q5,q6⟩
   ·exact .inl q
   ·obtain⟨v1,v2⟩:=vmode g1 (by simp) q1 e2 q3
    refine .inr ⟨n,p,q1,q2,v1,fun hw'=> ?_,by rw[show(cv.m.blk n).cells=_ from v2];exact q5,fun j x q t s1 s2=> ?_⟩
    ·obtain⟨w1,w2⟩:=e3 hw'
     obtain⟨_,_,w3⟩:=vis1 g1 (by simp) q1 w1
     obtain⟨w4,w5⟩:=q4 w2
     exact⟨by show(Mem.blk _ _).mode=_;rw[w3];exact w4,w5⟩
    ·obtain⟨a,r1,r2⟩:=q6 j x q t s1 s2
     exact⟨a,by rw[show(cv.m.blk n).cells=_ from v2];exact r1,r2.mv hmv⟩
  ·obtain⟨x,g1,g2⟩:=cvback hk
   obtain⟨y,q1,q2⟩:=cvback hk'
   have hx:x.k≠ .dead:=fun h=>hd (by rw[g2];exact(tview1_shape x).2.2 h)
   have hy:y.k≠ .dead:=fun h=>hd' (by rw[q2];exact(tview1_shape y).2.2 h)
   have hxw:x.w=true:=by
    rw[g2]at hwb
    unfold tview1 at hwb
    cases hz:hitZ ms W i k
    ·rw[hz]at hwb
     cases hm:mayV sp W i k
     ·rw[hm]at hwb;cases hwb
     ·rw[hm]at hwb;exact hwb
    ·rw[hz]at hwb;cases hwb
   exact R.inj k k' x y n p n' p' hne g1 q1 hxw hx hy h1 h2
  ·obtain⟨x,g1,g2⟩:=cvback hk
   have hx:x.k≠ .dead:=fun h=>hd (by rw[g2];exact(tview1_shape x).2.2 h)
   exact R.low k x n p g1 hx h1
  ·obtain⟨x,g1,g2⟩:=cvback hk
   have hx:vis ms sp W i k=true∧x=⟨true, .keys ks⟩:=by
    unfold tview1 at g2
    unfold vis
    cases hz:hitZ ms W i k
    ·rw[hz]at g2
     cases hm:mayV sp W i k
     ·rw[hm]at g2;simp at g2
     ·rw[hm]at g2;exact⟨rfl,g2.symm⟩
    ·rw[hz]at g2;simp at g2
   obtain⟨hv,rfl⟩:=hx
   obtain⟨n,p,q1,q2,q3,q4⟩:=R.keys k ks g1
   obtain⟨_,_,h3⟩:=vis1 g1 (by simp) q1 hv
   exact⟨n,p,q1,q2,by show(Mem.blk _ _).mode=_;rw[h3];exact q3,q4⟩
 obtain⟨v,tm',hK,a,c1,hd,htm,R1,hrv,S1⟩:=hX cv _ RVm hmv rfl h
 subst htm
 cases hnew:(c1.tm.drop c.tm.length).all (·.w)with
 |false=>rw[hnew]at hK;exact hK.elim
 |true=>
 rw[hnew]at hK
 simp only[cond_true]at hK
 have hlen:c.tm.length≤c1.tm.length:=by have:=S1.mv.len;rw[show cv.tm.length=c.tm.length from tview_len]at this;exact this
 let cG:Cfg:=⟨c1.E,tglueGo ms sp W i 0 c.tm c1.tm,c.m.glue z r c1.m,c1.F,c1.N⟩
 have gget:∀{k:Nat},cG.tm[k]? =if k<c.tm.length then(bif vis ms sp W i k then c1.tm[k]? else c.tm[k]?)else c1.tm[k]? :=fun{k}=>by
  have:=tglue_get (ms:=ms) (sp:=sp) (W:=W) (i:=i) (k:=0) (j:=k) hlen
  rw[Nat.zero_add]at this;exact this
 have st:AStep fl (c.m.view z r) c1.m:=hD _ _ _ hd
 have newW:∀{k:Nat} {b:TB},c.tm.length≤k→c1.tm[k]? =some b→b.w=true:=by
  intro k b hk hb
  have:=List.all_eq_true.1 hnew b (List.mem_of_getElem? (i:=k-c.tm.length) (by rw[List.getElem?_drop];rw[show c.tm.length+(k-c.tm.length)=k by omega];exact hb))
  exact this
 have parts:∀{k:Nat} {b:TB},cG.tm[k]? =some b→(k<c.tm.length∧vis ms sp W i k=false∧c.tm[k]? =some b)∨(c1.tm[k]? =some b∧(k<c.tm.length→vis ms sp W i k=true)):=by
  intro k b hb
  rw[gget]at hb
  by_cases hk:k<c.tm.length
  ·rw[if_pos hk]at hb
   cases hv:vis ms sp W i k
   ·rw[hv]at hb;exact .inl ⟨hk,rfl,hb⟩
   ·rw[hv]at hb;exact .inr ⟨hb,fun _=>rfl⟩
  ·rw[if_neg hk]at hb;exact .inr ⟨hb,fun h=>absurd h hk⟩
 have Eold:∀{k:Nat} {b:TB},c.tm[k]? =some b→c1.E k=c.E k:=fun{k b} hb=>S1.mv.e k (by rw[show cv.tm.length=c.tm.length from tview_len];exact getElem?_lt hb)
 have gold:∀{n},n<c.m.size→(z n=true∨r n=true)→cG.m.blk n=c.m.blk n:=fun h1 h2=>glue_old h1 h2
 have gvis:∀{n},z n=false→r n=false→cG.m.blk n=c1.m.blk n:=fun h1 h2=>glue_vis h1 h2
 have gnew:∀{n},c.m.size≤n→cG.m.blk n=c1.m.blk n:=fun h=>glue_new h
 have grw:∀{n},(c1.m.blk n).mode.wr=true→cG.m.blk n=c1.m.blk n:=by
  intro n hrw
  by_cases hn:n<c.m.size
  ·have:=(st.mode n hn).1 hrw
   obtain⟨h1,h2,_⟩:=view_rw this
   exact gvis h1 h2
  ·exact gnew (by omega)
 have gF:∀{n},c1.F n→cG.m.blk n=c1.m.blk n:=by
  intro n hn
  by_cases hlt:n<c.m.size
  ·rcases S1.fnew n hn with h|h|h
   ·have h1:c.F n:=h
    have h2:=(S1.mv.fz n h).2
    have h3:c1.m.blk n=c.m.blk n:=h2.trans (vF n h1)
    by_cases hq:z n=true∨r n=true
    ·rw[gold hlt hq,h3]
    ·simp only[not_or,Bool.not_eq_true]at hq
     exact gvis hq.1 hq.2
   ·have:c.m.size≤n:=h;omega
   ·obtain⟨h1,h2,_⟩:=view_rw (wr_rw h)
    exact gvis h1 h2
  ·exact gnew (by omega)
 have gN:∀{n},c1.N n→cG.m.blk n=c1.m.blk n:=by
  intro n hn
  by_cases hlt:n<c.m.size
  ·rcases S1.nnew n hn with h|h
   ·have h1:c.N n:=h
    have h2:=(S1.mv.nz n h).2
    have h3:c1.m.blk n=c.m.blk n:=h2.trans (vN n h1)
    by_cases hq:z n=true∨r n=true
    ·rw[gold hlt hq,h3]
    ·simp only[not_or,Bool.not_eq_true]at hq
     exact gvis hq.1 hq.2
   ·have:c.m.size≤n:=h;omega
  ·exact gnew (by omega)
 have keptE:∀{k:Nat} {b:TB} {n q:Nat},c.tm[k]? =some b→b.k≠ .dead→c.E k=some (n,q)→vis ms sp W i k=false→cG.m.blk n=c.m.blk n:=fun hb hd' hE hv=>gold (R.low _ _ _ _ hb hd' hE) (hid1 hb hd' hE hv)
 have liveOf:∀{k:Nat} {b b1:TB},c.tm[k]? =some b→c1.tm[k]? =some b1→b1.k≠ .dead→b.k≠ .dead:=by
  intro k b b1 hb hb1 h1 h2
  obtain⟨b2,g1,g2⟩:=S1.mv.dead k _ (cvfor hb) ((tview1_shape b).2.2 h2)
  rw[hb1]at g1;simp at g1;subst g1
  exact h1 g2
 have mv1G:Mv c1 cG:=by
  refine⟨by rw[show cG.tm.length=c1.tm.length from tglue_len hlen];exact Nat.le_refl _,fun _ _=>rfl,fun k b e n h1 h2=> ?_,fun k b h1 h2=> ?_,fun n hn=>⟨hn,gF hn⟩,fun n hn=>⟨hn,gN hn⟩⟩
  ·by_cases hk:k<c.tm.length
   ·cases hv:vis ms sp W i k
    ·have hb:c.tm[k]? =some c.tm[k]:=List.getElem?_eq_getElem hk
     refine⟨c.tm[k],by rw[gget,if_pos hk,hv];exact hb, .inr ?_⟩
     have hwf:(tview1 ms sp W i k c.tm[k]).w=false:=by
      unfold vis at hv
      unfold tview1
      cases hz:hitZ ms W i k
      ·rw[hz]at hv
       cases hm:mayV sp W i k
       ·rfl
       ·rw[hm]at hv;cases hv
      ·rfl
     obtain⟨b',g1,g2,g3,g4⟩:=S1.keep k _ (cvfor hb) hwf
     rw[h1]at g1;simp at g1;subst g1
     rw[g3]at h2
     exact((tview1_shape _).1).symm.trans h2
    ·exact⟨b,by rw[gget,if_pos hk,hv];exact h1, .inr h2⟩
   ·exact⟨b,by rw[gget,if_neg hk];exact h1, .inr h2⟩
  ·by_cases hk:k<c.tm.length
   ·cases hv:vis ms sp W i k
    ·have hb:c.tm[k]? =some c.tm[k]:=List.getElem?_eq_getElem hk
     refine⟨c.tm[k],by rw[gget,if_pos hk,hv];exact hb, ?_⟩
     have hwf:(tview1 ms sp W i k c.tm[k]).w=false:=by
      unfold vis at hv
      unfold tview1
      cases hz:hitZ ms W i k
      ·rw[hz]at hv
       cases hm:mayV sp W i k
       ·rfl
       ·rw[hm]at hv;cases hv
      ·rfl
     obtain⟨b',g1,g2,g3,g4⟩:=S1.keep k _ (cvfor hb) hwf
     rw[h1]at g1;simp at g1;subst g1
     exact(tview1_shape _).2.1 (g4.1 h2)
    ·exact⟨b,by rw[gget,if_pos hk,hv];exact h1,h2⟩
   ·exact⟨b,by rw[gget,if_neg hk];exact h1,h2⟩
 have mvG:Mv c cG:=by
  refine⟨by rw[show cG.tm.length=c1.tm.length from tglue_len hlen];exact hlen,fun k hk=>S1.mv.e k (by rw[show cv.tm.length=c.tm.length from tview_len];exact hk),fun k b e n h1 h2=> ?_,fun k b h1 h2=> ?_,fun n hn=> ?_,fun n hn=> ?_⟩
  ·have hk:=getElem?_lt h1
   cases hv:vis ms sp W i k
   ·exact⟨b,by rw[gget,if_pos hk,hv];exact h1, .inr h2⟩
   ·obtain⟨b',g1,g2⟩:=S1.mv.kind k _ e n (cvfor h1) ((tview1_shape b).1.trans h2)
    exact⟨b',by rw[gget,if_pos hk,hv];exact g1,g2⟩
  ·have hk:=getElem?_lt h1
   cases hv:vis ms sp W i k
   ·exact⟨b,by rw[gget,if_pos hk,hv];exact h1,h2⟩
   ·obtain⟨b',g1,g2⟩:=S1.mv.dead k _ (cvfor h1) ((tview1_shape b).2.2 h2)
    exact⟨b',by rw[gget,if_pos hk,hv];exact g1,g2⟩
  ·obtain⟨g1,g2⟩:=S1.mv.fz n hn
   exact⟨g1,by rw[gF g1,g2];exact vF n hn⟩
  ·obtain⟨g1,g2⟩:=S1.mv.nz n hn
   exact⟨g1,by rw[gN g1,g2];exact vN n hn⟩
 have RG:RM cG A:=by
  refine⟨fun k w l hk=> ?_,fun k w e l hk=> ?_,fun k k' b b' n p n' p' hne hk hk' hwb hbd hbd' h1 h2=> ?_,fun n hn=> ?_,fun k b n p hk hbd h1=> ?_,fun n hn=>⟨(R1.nf n hn).1,by rw[gN hn];exact(R1.nf n hn).2⟩,fun k ks hk=> ?_,R.gv.mv mvG⟩
  ·rcases parts hk with⟨hlt,hv,hb⟩|⟨hb,hv⟩
   ·obtain⟨n,p,q1,q2,q3,q4,q5,q6⟩:=R.cells k w l hb
    have hbl:=keptE hb (by simp) q1 hv
    exact⟨n,p,(Eold hb).trans q1,Nat.lt_of_lt_of_le q2 st.size,by rw[hbl];exact q3,by rw[hbl];exact q4,by rw[hbl];exact q5,fun j t ht=>let ⟨a,r1,r2⟩:=q6 j t ht;⟨a,by rw[hbl];exact r1,r2.mv mvG⟩⟩
   ·obtain⟨n,p,q1,q2,q3,q4,q5,q6⟩:=R1.cells k w l hb
    have hbl:cG.m.blk n=c1.m.blk n:=by
     by_cases hlt:k<c.tm.length
     ·have hb0:c.tm[k]? =some c.tm[k]:=List.getElem?_eq_getElem hlt
      have hl0:=liveOf hb0 hb (by simp)
      obtain⟨w1,w2,_⟩:=vis1 hb0 hl0 ((Eold hb0).symm.trans q1) (hv hlt)
      exact gvis w1 w2
     ·exact grw (wr_rw (q4 (newW (by omega) hb)).1)
    exact⟨n,p,q1,q2,by rw[hbl];exact q3,by rw[hbl];exact q4,by rw[hbl];exact q5,fun j t ht=>let ⟨a,r1,r2⟩:=q6 j t ht;⟨a,by rw[hbl];exact r1,r2.mv mv1G⟩⟩
  ·rcases parts hk with⟨hlt,hv,hb⟩|⟨hb,hv⟩
   ·rcases R.list k w e l hb with q|⟨n,p,q1,q2,q3,q4,q5,q6⟩
    ·exact .inl ⟨(Eold hb).trans q.1,q.2⟩
    ·have hbl:=keptE hb (by simp) q1 hv
     exact .inr ⟨n,p,(Eold hb).trans q1,Nat.lt_of_lt_of_le q2 st.size,by rw[hbl];exact q3,by rw[hbl];exact q4,by rw[hbl];exact q5,fun j x q t s1 s2=>let ⟨a,r1,r2⟩:=q6 j x q t s1 s2;⟨a,by rw[hbl];exact r1,r2.mv mvG⟩⟩
   ·rcases R1.list k w e l hb with q|⟨n,p,q1,q2,q3,q4,q5,q6⟩
    ·exact .inl q
    ·have hbl:cG.m.blk n=c1.m.blk n:=by
      by_cases hlt:k<c.tm.length
      ·have hb0:c.tm[k]? =some c.tm[k]:=List.getElem?_eq_getElem hlt
       have hl0:=liveOf hb0 hb (by simp)
       obtain⟨w1,w2,_⟩:=vis1 hb0 hl0 ((Eold hb0).symm.trans q1) (hv hlt)
       exact gvis w1 w2
      ·exact grw (wr_rw (q4 (newW (by omega) hb)).1)
     exact .inr ⟨n,p,q1,q2,by rw[hbl];exact q3,by rw[hbl];exact q4,by rw[hbl];exact q5,fun j x q t s1 s2=>let ⟨a,r1,r2⟩:=q6 j x q t s1 s2;⟨a,by rw[hbl];exact r1,r2.mv mv1G⟩⟩
  ·
   have like:∀{k:Nat} {b:TB},cG.tm[k]? =some b→b.k≠ .dead→∃b1,c1.tm[k]? =some b1∧b1.k≠ .dead:=by
    intro k b hk hbd
    rcases parts hk with⟨hlt,hv,hb⟩|⟨hb,_⟩
    ·have hwf:(tview1 ms sp W i k b).w=false:=by
      unfold vis at hv
      unfold tview1
      cases hz:hitZ ms W i k
      ·rw[hz]at hv
       cases hm:mayV sp W i k
       ·rfl
       ·rw[hm]at hv;cases hv
      ·rfl
     obtain⟨b',g1,g2,g3,g4⟩:=S1.keep k _ (cvfor hb) hwf
     exact⟨b',g1,fun q=>hbd ((tview1_shape b).2.1 (g4.1 q))⟩
    ·exact⟨b,hb,hbd⟩
   have h1':c1.E k=some (n,p):=h1
   have h2':c1.E k'=some (n',p'):=h2
   rcases parts hk with⟨hlt,hv,hb⟩|⟨hb,_⟩
   ·rcases parts hk' with⟨hlt',hv',hb'⟩|⟨hb',hv'⟩
    ·rw[Eold hb]at h1'
     rw[Eold hb']at h2'
     exact R.inj k k' b b' n p n' p' hne hb hb' hwb hbd hbd' h1' h2'
    ·by_cases hlt':k'<c.tm.length
     ·have hb0:c.tm[k']? =some c.tm[k']:=List.getElem?_eq_getElem hlt'
      have hl0:=liveOf hb0 hb' hbd'
      rw[Eold hb]at h1'
      rw[Eold hb0]at h2'
      exact R.inj k k' b _ n p n' p' hne hb hb0 hwb hbd hl0 h1' h2'
     ·obtain⟨b1,g1,g2⟩:=like hk hbd
      exact(R1.inj k' k b' b1 n' p' n p (Ne.symm hne) hb' g1 (newW (by omega) hb') hbd' g2 h2' h1').symm
   ·obtain⟨b1,g1,g2⟩:=like hk' hbd'
    exact R1.inj k k' b b1 n p n' p' hne hb g1 hwb hbd g2 h1' h2'
  ·have:=R1.fz n hn
   exact⟨this.1,by rw[gF hn];exact this.2⟩
  ·have h1':c1.E k=some (n,p):=h1
   rcases parts hk with⟨hlt,hv,hb⟩|⟨hb,_⟩
   ·rw[Eold hb]at h1'
    exact Nat.lt_of_lt_of_le (R.low k b n p hb hbd h1') st.size
   ·exact R1.low k b n p hb hbd h1'
  ·rcases parts hk with⟨hlt,hv,hb⟩|⟨hb,hv⟩
   ·obtain⟨n,p,q1,q2,q3,q4⟩:=R.keys k ks hb
    have hbl:=keptE hb (by simp) q1 hv
    exact⟨n,p,(Eold hb).trans q1,Nat.lt_of_lt_of_le q2 st.size,by rw[hbl];exact q3,q4⟩
   ·obtain⟨n,p,q1,q2,q3,q4⟩:=R1.keys k ks hb
    have hbl:cG.m.blk n=c1.m.blk n:=grw (by rw[q3];rfl)
    exact⟨n,p,q1,q2,by rw[hbl];exact q3,q4⟩
 refine⟨v,a,c1.m,cG,hK,hd,rfl,RG,hrv.mv mv1G,⟨mvG,fun k b hb hbw=> ?_,st.size,fun n hn ha=> ?_,fun n hn hr=> ?_,fun n hn hr=> ?_,fun n hn=> ?_,fun n hn=>S1.nnew n hn⟩⟩
 ·have hk:=getElem?_lt hb
  cases hv:vis ms sp W i k
  ·exact⟨b,by rw[gget,if_pos hk,hv];exact hb,hbw,rfl,Iff.rfl⟩
  ·have:(tview1 ms sp W i k b).w=false:=by
    unfold tview1
    cases hitZ ms W i k
    ·cases mayV sp W i k
     ·rfl
     ·exact hbw
    ·rfl
   obtain⟨b',g1,g2,g3,g4⟩:=S1.keep k _ (cvfor hb) this
   exact⟨b',by rw[gget,if_pos hk,hv];exact g1,g2,g3.trans (tview1_shape b).1,g4.trans (tview1_shape b).2⟩
 ·by_cases hq:z n=true∨r n=true
  ·exact gold hn hq
  ·simp only[not_or,Bool.not_eq_true]at hq
   rw[gvis hq.1 hq.2,S1.out n hn ha]
   simp[cv,Mem.view,hq.1,hq.2]
 ·by_cases hq:z n=true∨r n=true
  ·exact gold hn hq
  ·simp only[not_or,Bool.not_eq_true]at hq
   have hb:(c.m.view z r).blk n=c.m.blk n:=by simp[Mem.view,hq.1,hq.2]
   rw[gvis hq.1 hq.2,S1.ro n hn (by show(Mem.blk _ _).mode=_;rw[hb];exact hr)]
   exact hb
 ·by_cases hq:z n=true∨r n=true
  ·rw[gold hn hq]at hr;exact hr
  ·simp only[not_or,Bool.not_eq_true]at hq
   have hb:(c.m.view z r).blk n=c.m.blk n:=by simp[Mem.view,hq.1,hq.2]
   rw[gvis hq.1 hq.2]at hr
   have:=S1.md n hn hr
   rw[show cv.m.blk n=_ from hb]at this;exact this
 ·rcases S1.fnew n hn with h|h|h
  ·exact .inl h
  ·exact .inr (.inl h)
  ·refine .inr (.inr ?_)
   have:=view_rw (wr_rw h)
   rw[←this.2.2];exact h
theorem aload_blk {m m':Mem} {t:TypeId} {n q:Nat} (hs:m'.size=m.size) (h:(m'.blk n).cells=(m.blk n).cells) (hd:(m'.blk n).mode= .dead↔(m.blk n).mode= .dead):aload P m' t (.ptr (some (n,q)))=aload P m t (.ptr (some (n,q))):=by
 have h1:∀o k,alds m' n o k=alds m n o k:=fun o k=>by unfold alds;simp only[h,hd,hs,ne_eq]
 have h2:∀o,ald m' n o=ald m n o:=fun o=>by unfold ald;simp only[h,hd,hs,ne_eq]
 simp only[aload,h1,h2]
theorem texec_load (hA:∀n,A n→fl≤n) (R:RM c A) (hf:FV c ts fr) {o:Oper} {K:TV→TMem→Prop} {fz:Bool×Bool} (hl:ldO o.op=true) (h:texec P nt Γ fz o ts c.tm K):
  ∃v tm',K v tm'∧∃a c1,(DOp P fl o (aev nt fr) c.m a c1.m∧(true=true→c1.m.size=c.m.size))∧c1.tm=tm'∧RM c1 A∧RV c1 v a∧Stp c c1 A:=by
 obtain⟨t,x,hop⟩:∃t x,o.op= .load t x:=by
  cases hop:o.op with
  |load t x=>exact⟨t,x,rfl⟩
  |_=>rw[hop]at hl;cases hl
 unfold texec at h
 rw[hop]at h
 simp only[calleeT]at h
 obtain⟨fz,vw⟩:=fz
 cases vw with
 |true=>exact h.elim
 |false=>
 simp only[cond_false,top]at h
 obtain⟨v,hk,b,g1,g2⟩:=ok_load R (hf.ev x) h
 have hd:DOp P fl o (aev nt fr) c.m b c.m:=dop_of_aop (by rw[hop];simp only[aop,g1,Option.map_some])
 unfold frzK at hk
 cases fz with
 |false=>exact⟨v,_,hk,b,c,⟨hd,fun _=>rfl⟩,rfl,R,g2,Stp.refl _ _⟩
 |true=>
  simp only[cond_true]at hk
  split at hk
  ·rename_i v2 tm2 hco
   obtain⟨c2,rfl,s2,s3,s4,_⟩:=coeT_ok _ hco R g2
   obtain⟨q,y1,y2⟩:=s4.gh
   exact⟨v2,_,hk,b,c2,⟨by rw[y2];exact hd.weak fun n hn=> .inl (hA n (y1 n hn)),fun _=>by rw[y2];rfl⟩,rfl,s2,s3,s4.stp⟩
  ·exact hk.elim
theorem tdraw_ok (hΓ:GSound P Γ) (hA:∀n,A n→fl≤n) (hN:∀n,c.m.size≤n→A n) (R:RM c A) (S0:Stp c0 c A) (hW:∀p∈W,p.1<c0.tm.length) (hf:FV c ts fr) {o:Oper} {K:TV→TMem→Prop} {fz:Bool×Bool} (h:tdraw P nt Γ fz ms sp W i o ts c.tm K):
  ∃v a mv c',K v c'.tm∧DOp P fl o (aev nt fr) (c.m.view (zq (puO W o.op) ms W c0.E i) (rr sp W c0.E i)) a mv∧c'.m=c.m.glue (zq (puO W o.op) ms W c0.E i) (rr sp W c0.E i) mv∧(stillO o.op=true→c'.m.size=c.m.size)∧RM c' A∧RV c' v a∧Stp c c' A:=by
 unfold tdraw at h
 cases hbl:blO o.op with
 |true=>
  rw[hbl]at h
  simp only[cond_true]at h
  have hpq:puO W o.op=1:=by simp[puO,hbl]
  rw[hpq]
  cases hpu:pureO o.op with
  |false=>
   have hal:allocO o.op=true:=by simpa[blO,hpu]using hbl
   obtain⟨t,ht⟩:∃t,o.op= .alloc t:=by
    cases hop:o.op with
    |alloc t=>exact⟨t,rfl⟩
    |_=>rw[hop]at hal;cases hal
   rw[ht]at h
   simp only[topD,top]at h
   split at h
   case h_2=>exact h.elim
   rename_i zc hz
   obtain⟨q,hq,h⟩:=newO_ok h
   obtain⟨c',q1,q2,q3,q4,q5⟩:=new_slf_ok (z:=zc) (m':=c.m.glue (zq 1 ms W c0.E i) (rr sp W c0.E i) ((c.m.view (zq 1 ms W c0.E i) (rr sp W c0.E i)).push (slfC c.m.size t zc))) R (hN _ (Nat.le_refl _)) t (tvAs_lv c zc) hq rfl
    (fun n hn=>glue_old hn (.inl (by simp[zq]))) (by rw[glue_new (Nat.le_refl _)];simp[Mem.view])
   exact⟨_, .ptr (some (c.m.size,0)),(c.m.view (zq 1 ms W c0.E i) (rr sp W c0.E i)).push (slfC c.m.size t zc),c',by rw[q2];exact h,dop_of_aop (by rw[ht];simp only[aop,hz];rfl),q1,fun q=>(by rw[ht]at q;cases q),q3,q4,q5⟩
  |true=>
  obtain⟨v,hk,a,g1,g2⟩:=top_pure (fl:=fl) hpu (fun x _=>hf.ev x) h
  obtain⟨R2,S2⟩:=below_ok R (m:=c.m.glue (zq 1 ms W c0.E i) (rr sp W c0.E i) (c.m.view (zq 1 ms W c0.E i) (rr sp W c0.E i))) rfl (fun n hn=>glue_old hn (.inl (by simp[zq])))
  exact⟨v,a,c.m.view (zq 1 ms W c0.E i) (rr sp W c0.E i),⟨c.E,c.tm,c.m.glue (zq 1 ms W c0.E i) (rr sp W c0.E i) (c.m.view (zq 1 ms W c0.E i) (rr sp W c0.E i)),c.F,c.N⟩,hk,dop_of_aop (g1 _),rfl,fun _=>rfl,R2,g2.mv S2.mv,S2⟩
 |false=>
 rw[hbl]at h
 simp only[cond_false]at h
 cases hall:W.all fun p=>wlive c.tm p.1 with
 |false=>rw[hall]at h;exact h.elim
 |true=>
 rw[hall]at h
 simp only[cond_true]at h
 cases hld:ldO o.op&&prW W with
 |true=>
  have hpq:puO W o.op=2:=by simp[puO,hbl,hld]
  rw[hld]at h
  simp only[cond_true]at h
  rw[hpq]
  unfold ldT at h
  split at h
  case h_2=>exact h.elim
  rename_i t x hop
  split at h
  case h_2=>exact h.elim
  rename_i k off hx
  cases hpk:protK W k with
  |false=>rw[hpk]at h;exact h.elim
  |true=>
  rw[hpk]at h
  simp only[cond_true]at h
  have hrx:=hf.ev (n:=nt) x
  rw[hx]at hrx
  obtain⟨v,hk,b,g1,g2⟩:=ok_load R hrx h
  generalize hq:aev nt fr x=q at hrx g1
  generalize hz:zq 2 ms W c0.E i=z
  generalize hr:rr sp W c0.E i=r
  cases hrx with
  |ptr _ _ n p hkl hE=>
  have hzn:z n=false:=by
   unfold protK at hpk
   rw[Bool.and_eq_true,List.any_eq_true]at hpk
   obtain⟨p',hp',hq'⟩:=hpk.2
   have:=Nat.eq_of_beq_eq_true hq'
   have hE0:c0.E p'.1=some (n,p):=(S0.mv.e _ (hW p' hp')).symm.trans (by rw[this];exact hE)
   rw[←hz]
   show(!(W.any fun p=>locB c0.E p.1 n))=false
   rw[Bool.not_eq_false']
   exact List.any_eq_true.2 ⟨p',hp',by simp[locB,hE0]⟩
  have hcells:((c.m.view z r).blk n).cells=(c.m.blk n).cells∧(((c.m.view z r).blk n).mode= .dead↔(c.m.blk n).mode= .dead):=by
   unfold Mem.view
   simp only[hzn,Bool.false_eq_true,if_false]
   split
   ·exact⟨Blk.roify_cells _,Blk.roify_dead⟩
   ·exact⟨rfl,Iff.rfl⟩
  have hal:aload P (c.m.view z r) t (.ptr (some (n,p+off)))=some b:=by
   rw[←g1];exact aload_blk rfl hcells.1 hcells.2
  obtain⟨R2,S2⟩:=below_ok R (m:=c.m.glue z r (c.m.view z r)) rfl (fun j hj=>by
   by_cases hq:z j=true∨r j=true
   ·exact glue_old hj hq
   ·simp only[not_or,Bool.not_eq_true]at hq
    rw[glue_vis hq.1 hq.2]
    simp[Mem.view,hq.1,hq.2])
  exact⟨v,b,c.m.view z r,⟨c.E,c.tm,c.m.glue z r (c.m.view z r),c.F,c.N⟩,hk,dop_of_aop (by rw[hop];simp only[aop,hq,hal,Option.map_some]),rfl,fun _=>rfl,R2,g2.mv S2.mv,S2⟩
 |false=>
 rw[hld]at h
 simp only[cond_false]at h
 have hpq:puO W o.op=0:=by simp[puO,hbl,hld]
 rw[hpq]
 have hzq:zq 0 ms W c0.E i=zz ms W c0.E i:=rfl
 rw[hzq]
 obtain⟨v,a,mv,c',g1,⟨g2,g2'⟩,g3,g4,g5,g6⟩:=view_ok (D:=fun m v m'=>DOp P fl o (aev nt fr) m v m'∧(ldO o.op=true→m'.size=m.size)) R S0 hW (fun _ _ _ hd=>hd.1.1) (X:=fun tm K=>texec P nt Γ fz o ts tm K)
  (fun cv K' hr hmv hs hx=>by
   cases hl:ldO o.op with
   |false=>
    obtain⟨v,tm',k1,a,c1,k2,k3⟩:=texec_ok (c:=cv) hΓ hA (fun n hn=>hN n (by omega)) hr (hf.mv hmv) hx
    exact⟨v,tm',k1,a,c1,⟨k2,fun q=>by cases q⟩,k3⟩
   |true=>exact texec_load hA hr (hf.mv hmv) hl hx) hall h
 exact⟨v,a,mv,c',g1,g2,g3,(fun q=>by
  have hl:ldO o.op=true:=by
   rcases Bool.or_eq_true _ _▸q with q|q
   ·simp[blO,q]at hbl
   ·exact q
  rw[g3];exact g2' hl),g4,g5,g6⟩
def onlyC (ws:List Nat) (G:Con):Con:=fun args tm K=>
 let W:=ws.map fun b=>(b,[0])
 bif W.all fun p=>wlive tm p.1 then
  G args (tviewGo [] false W 0 0 tm) fun v tm'=>bif (tm'.drop tm.length).all (·.w)then K v (tglueGo [] false W 0 0 tm tm')else False
 else False
theorem onlyC_ok {f:FuncId} {G:Con} {ws:List Nat} (hG:CSound P f G):CSound P f (onlyC ws G):=by
 intro args K c h fl A aargs hA hN R hl
 unfold onlyC at h
 simp only at h
 cases hall:(ws.map fun b=>(b,[0])).all fun p=>wlive c.tm p.1 with
 |false=>rw[hall]at h;exact h.elim
 |true=>
 rw[hall]at h
 simp only[cond_true]at h
 have hW:∀p∈ws.map fun b=>(b,[0]),p.1<c.tm.length:=fun p hp=>by
  have:=List.all_eq_true.1 hall p hp
  obtain⟨b,h1,_⟩:=wlive_get (by simpa using this)
  exact getElem?_lt h1
 obtain⟨v,a,mv,c',g1,g2,g3,g4,g5,g6⟩:=view_ok (D:=fun m v m'=>DCalls P fl f aargs m v m') R (Stp.refl c A) hW (fun _ _ _ hd=>hd.2.1) (X:=fun tm K=>G args tm K)
  (fun cv K' hr hmv hs hx=>by
   obtain⟨v,c',r,w1,w2,w3,w4,w5⟩:=hG args K' cv hx fl A aargs hA (fun n hn=>hN n (by omega)) hr (hl.mv hmv)
   exact⟨r,c'.tm,w1,v,c',w3,rfl,w4,w2,w5⟩) hall h
 refine⟨a,c',v,g1,g5, ?_,g4,g6⟩
 rw[g3]
 exact g2.view
end draw
end Go.Ab
