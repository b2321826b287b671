/- What is proved here: what is read of a function's code over typed values is a contract of the function. -/
import Derived.Test.YtgnlgdebcgffnaaGreatDoorT9
namespace Go.Ab
set_option linter.unusedVariables false
set_option linter.unusedSimpArgs false
section code
variable {P:Program} {nt fl:Nat} {Γ:List (Nat×jy)} {A:Nat→Prop} {c0:aE}
def RQ (c0:aE) (A:Nat→Prop) (K:aU→am→Prop) (fr:dc) (m:au):Prop:=∃ts c,c.m=m∧K ts c.tm∧RM c A∧FV c ts fr∧db c0 c A
theorem BK (hΓ:gZ P Γ) (hA:∀n,A n→fl≤n) (hN:∀n,c0.m.size≤n→A n) {gd:Nat→Option Tmp} {dr:Bool} {ms:List Nat} {sp:Nat→Bool} {W:List (Nat×List Nat)} {vw:Nat→Bool} {pu:Nat→Nat} (hW:∀p∈W,p.1<c0.tm.length) {K:aU→am→Prop}:
  ∀(rest:List Oper) (i:Nat) (_:∀k o,rest[k]? =some o→pu (i+k)=uh W o.op) (ts:aU) (c:aE) (fr:dc),RM c A→FV c ts fr→db c0 c A→qm P nt Γ gd dr ms sp W vw rest i K ts c.tm→
  ma P nt gd (fun i n=>dr&&zq (pu i) ms W c0.E i n) (fun i n=>dr&&rr (sp i) W c0.E i n) fl (RQ c0 A K) rest i fr c.m:=by
 intro rest
 induction rest with
 |nil=>intro i hpu ts c fr R hf S h;exact⟨ts,c,rfl,h,R,hf,S⟩
 |cons o rest ih=>
  intro i hpu ts c fr R hf S h
  have hp0:pu i=uh W o.op:=hpu 0 o rfl
  have hpu':∀k o',rest[k]? =some o'→pu (i+1+k)=uh W o'.op:=fun k o' hk=>by rw[show i+1+k=i+(k+1) by omega];exact hpu (k+1) o' hk
  have hN':∀n,c.m.size≤n→A n:=fun n hn=>hN n (Nat.le_trans S.size hn)
  have ex:∀ts,FV c ts fr→(bif dr then BH P nt Γ (Gd o rest||vw (i+1000),vw i) ms (sp i) W i o ts c.tm fun v tm'=>qm P nt Γ gd dr ms sp W vw rest (i+1) K (Bb ts o.dst v) tm'
   else ru P nt Γ (Gd o rest||vw (i+1000),vw i) o ts c.tm fun v tm'=>qm P nt Γ gd dr ms sp W vw rest (i+1) K (Bb ts o.dst v) tm')→fm nt gd fr o=some true→
   ma P nt gd (fun i n=>dr&&zq (pu i) ms W c0.E i n) (fun i n=>dr&&rr (sp i) W c0.E i n) fl (RQ c0 A K) (o::rest) i fr c.m:=by
   intro ts hf h hw
   simp only[ma,De,hw]
   cases dr with
   |true=>
    obtain⟨v,a,mv,c',g1,g2,g3,g3',g4,g5,g6⟩:=Eb hΓ hA hN' R S hW hf h
    rw[←hp0]at g2 g3
    refine⟨a,mv,by simpa using g2,fun q _=>by have:=g3' q;rw[g3]at this;simpa using this, ?_⟩
    have:=ih (i+1) hpu' _ c' (uw fr o.dst a) g4 ((hf.mv g6.mv).put o.dst g5) (S.trans g6) g1
    rw[g3]at this
    simpa using this
   |false=>
    obtain⟨v,tm',g1,a,c',g2,rfl,g4,g5,g6⟩:=yA hΓ hA hN' R hf h
    refine⟨a,c'.m,by simpa[kt]using g2,fun _ q=>by obtain⟨_,q⟩:=q;simp at q, ?_⟩
    have:=ih (i+1) hpu' _ c' (uw fr o.dst a) g4 ((hf.mv g6.mv).put o.dst g5) (S.trans g6) g1
    simpa[Ct]using this
  have sk:∀ts,FV c ts fr→qm P nt Γ gd dr ms sp W vw rest (i+1) K (Bb ts o.dst (.tup [])) c.tm→fm nt gd fr o=some false→
   ma P nt gd (fun i n=>dr&&zq (pu i) ms W c0.E i n) (fun i n=>dr&&rr (sp i) W c0.E i n) fl (RQ c0 A K) (o::rest) i fr c.m:=by
   intro ts hf h hw
   simp only[ma,De,hw]
   exact ih (i+1) hpu' _ c _ R (hf.put o.dst (.tup [] [] rfl fun i t a h=>by simp at h)) S h
  simp only[qm]at h
  cases hg:o.guard with
  |none=>
   rw[hg]at h
   exact ex ts hf h (by simp[fm,hg])
  |some p=>
   obtain⟨j,want⟩:=p
   rw[hg]at h
   simp only at h
   cases hd:gd j with
   |none=>rw[hd]at h;exact h.elim
   |some d=>
   rw[hd]at h
   simp only at h
   cases hlt:Nat.blt d nt with
   |false=>rw[hlt]at h;exact h.elim
   |true=>
   rw[hlt]at h
   simp only[cond_true]at h
   have hdn:d<nt:=Nat.le_of_ble_eq_true hlt
   have hfd:=hf.2 d
   have wn:∀b:Bool,fr d= .bool b→fm nt gd fr o=some (b==want):=fun b hb=>by simp[fm,hg,hd,hdn,hb]
   cases hv:ts d with
   |tt=>
    rw[hv]at h hfd
    generalize hq:fr d=q at hfd
    cases hfd
    have hw:=wn true hq
    cases want with
    |true=>exact ex ts hf h hw
    |false=>exact sk ts hf h hw
   |ff=>
    rw[hv]at h hfd
    generalize hq:fr d=q at hfd
    cases hfd
    have hw:=wn false hq
    cases want with
    |true=>exact sk ts hf h hw
    |false=>exact ex ts hf h hw
   |bool b=>
    rw[hv]at h hfd
    generalize hq:fr d=q at hfd
    cases hfd
    have hw:=wn b hq
    cases b with
    |true=>
     have h':=h.1 rfl
     have hf':FV c (qy ts d .tt) fr:=hf.lit d (by rw[hq];exact .tt)
     cases want with
     |true=>exact ex _ hf' h' hw
     |false=>exact sk _ hf' h' hw
    |false=>
     have h':=h.2 rfl
     have hf':FV c (qy ts d .ff) fr:=hf.lit d (by rw[hq];exact .ff)
     cases want with
     |true=>exact sk _ hf' h' hw
     |false=>exact ex _ hf' h' hw
   |tup l=>
    rw[hv]at h hfd
    cases l with
    |cons x l=>exact h.elim
    |nil=>
     generalize hq:fr d=q at hfd
     cases hfd with
     |tup _ as hl hr=>
     have:as=[]:=List.length_eq_zero_iff.1 hl.symm
     subst this
     exact sk ts hf h (by simp[fm,hg,hd,hdn,hq])
   |_=>rw[hv]at h;exact h.elim
def QQ (c0:aE) (A:Nat→Prop) (Q:bU→aU→am→Prop) (e:bU) (fr:dc) (m:au):Prop:=
 ∃ts c r,c.m=m.view (fun _=>false) r∧(∀n,r n=true→A n)∧Q e ts c.tm∧RM c A∧FV c ts fr∧db c0 c A
theorem QQ.of {Q:bU→aU→am→Prop} {e:bU} {ts:aU} {c:aE} {fr:dc} (h:Q e ts c.tm) (R:RM c A) (hf:FV c ts fr) (S:db c0 c A):QQ c0 A Q e fr c.m:=
 ⟨ts,c,fun _=>false,(kt c.m).symm,fun n h=>(by cases h),h,R,hf,S⟩
theorem sN {c:aE} {fr:dc}:∀(keep:List (Nat×Sh)) (vs:List TV),LV c vs (keep.map fun p=>fr p.1)→∀i,RV c (bE keep vs i) (fr i)
 |[],vs,h=>fun i=>by unfold bE;exact .any _
 |p::ks,[],h=>fun i=>by unfold bE;exact .any _
 |(t,s)::ks,v::vs,h=>fun i=>by
  show RV c (bif Nat.beq i t then v else bE ks vs i) (fr i)
  cases hb:Nat.beq i t with
  |true=>
   have:=Nat.eq_of_beq_eq_true hb
   subst this
   exact h.2 0 v _ rfl rfl
  |false=>exact sN ks vs ⟨by have:=h.1;simpa using this,fun i t a h1 h2=>h.2 (i+1) t a (by simpa using h1) (by simpa using h2)⟩ i
theorem rV {h:LH} {ts:aU} {c:aE} {fr:dc} {K:h.S→Prop} (R:RM c A) (hf:FV c ts fr) (S:db c0 c A) (hh:jC c0.tm.length h ts c.tm K):
  ∃s c',K s∧c'.tm=(h.enc s).2∧FV c' (bE h.keep (h.enc s).1) fr∧RM c' A∧db c0 c' A∧∃r:Nat→Bool,(∀n,r n=true→A n)∧c'.m=c.m.view (fun _=>false) r:=by
 unfold jC at hh
 split at hh
 case h_2=>exact hh.elim
 rename_i vs tm' hco
 have hl:LV c (h.keep.map fun p=>ts p.1) (h.keep.map fun p=>fr p.1):=LV.map _ fun p _=>hf.2 p.1
 obtain⟨c1,rfl,R1,hl1,G1,_⟩:=mU _ hco R hl
 obtain⟨vs',c2,hd,hm,R2,S2,hl2⟩:=xf R1 (S.trans G1.stp) hl1 hh
 obtain⟨s,he,hK⟩:=h.law _ _ _ hd
 refine⟨s,c2,hK,by rw[he], ?_,R2,S2, ?_⟩
 ·rw[he];exact⟨R2.gv,sN _ _ hl2⟩
 ·obtain⟨r,r1,r2⟩:=G1.gh
  exact⟨r,r1,hm.trans r2⟩
theorem lV {m m1:au} {r s:Nat→Bool} (hr:∀n,r n=true→A n) (hs:∀n,s n=true→A n) (h:m1=(m.view (fun _=>false) r).view (fun _=>false) s):
  ∃q:Nat→Bool,(∀n,q n=true→A n)∧m1=m.view (fun _=>false) q:=
 ⟨fun n=>r n||s n,fun n hn=>by
  have hn':(r n||s n)=true:=hn
  cases h1:r n
  ·rw[h1]at hn';exact hs n (by simpa using hn')
  ·exact hr n h1,by rw[h,ux]⟩
theorem Jw {H:List (Nat×LH)} {WW:List (Nat×List (Nat×List Nat))} (hmix:P.follows .mixedOrders=true) (hΓ:gZ P Γ) (hA:∀n,A n→fl≤n) (hN:∀n,c0.m.size≤n→A n):
  ∀(x:Code) (Q:bU→aU→am→Prop) (ts:aU) (c:aE) (fr:dc),RM c A→FV c ts fr→db c0 c A→TW P nt Γ H WW c0.tm.length x Q ts c.tm→pM P nt fl x (QQ c0 A Q) fr c.m:=by
 suffices all:∀(x:Code),(∀(Q:bU→aU→am→Prop) (ts:aU) (c:aE) (fr:dc),RM c A→FV c ts fr→db c0 c A→TW P nt Γ H WW c0.tm.length x Q ts c.tm→pM P nt fl x (QQ c0 A Q) fr c.m)∧
   ∀b,x= .loop b→∀(Q:bU→aU→am→Prop) (ts:aU) (c:aE) (fr:dc),RM c A→FV c ts fr→db c0 c A→TW P nt Γ H WW c0.tm.length b Q ts c.tm→pM P nt fl b (QQ c0 A Q) fr c.m from fun x=>(all x).1
 have ghost:∀{x:Code} {Q':bU→dc→au→Prop} {fr:dc} {m m1:au} {r:Nat→Bool},(∀n,r n=true→A n)→m1=m.view (fun _=>false) r→pM P nt fl x Q' fr m1→pM P nt fl x Q' fr m:=by
  intro x Q' fr m m1 r hr hm h
  subst hm
  exact CL (fun n hn=>hA n (hr n hn)) h
 intro x
 induction x with
 |skip=>exact⟨fun Q ts c fr R hf S h=>E6 (.of h R hf S),fun b h=>by cases h⟩
 |ret=>exact⟨fun Q ts c fr R hf S h=>Hd (.of h R hf S),fun b h=>by cases h⟩
 |exit id=>exact⟨fun Q ts c fr R hf S h=>Fe (.of h R hf S),fun b h=>by cases h⟩
 |loop b ih=>exact⟨fun Q ts c fr R hf S h=>h.elim,fun b' h=>by cases h;exact ih.1⟩
 |seq x y ihx ihy=>
  refine⟨?_,fun b h=>by cases h⟩
  intro Q ts c fr R hf S h
  refine Ga fun K hK=>oX (ihx.1 _ ts c fr R hf S h) fun e fr' m' hq=> ?_
  obtain⟨ts',c',r,h1,h2,h3,h4,h5,h6⟩:=hq
  cases e with
  |normal=>exact hK _ _ (ghost h2 h1 (ihy.1 Q ts' c' fr' h4 h5 h6 h3))
  |ret=>exact⟨ts',c',r,h1,h2,h3,h4,h5,h6⟩
  |exit id=>exact⟨ts',c',r,h1,h2,h3,h4,h5,h6⟩
 |cond cd x y ihx ihy=>
  refine⟨?_,fun b h=>by cases h⟩
  intro Q ts c fr R hf S h
  cases cd with
  |tmp t=>
   have he:=hf.ev (n:=nt) (.tmp t)
   simp only[TW]at h
   cases hv:zO nt ts (.tmp t)with
   |tt=>
    rw[hv]at h he
    generalize hq:aev nt fr (.tmp t)=q at he
    cases he
    exact jZ (t:=true) hq (ihx.1 Q ts c fr R hf S h)
   |ff=>
    rw[hv]at h he
    generalize hq:aev nt fr (.tmp t)=q at he
    cases he
    exact jZ (t:=false) hq (ihy.1 Q ts c fr R hf S h)
   |bool b=>
    rw[hv]at h he
    generalize hq:aev nt fr (.tmp t)=q at he
    cases he
    have hfd:fr t= .bool b:=by
     simp only[aev]at hq
     split at hq
     ·exact hq
     ·cases hq
    cases b with
    |true=>exact jZ (t:=true) hq (ihx.1 Q _ c fr R (hf.lit t (by rw[hfd];exact .tt)) S (h.1 rfl))
    |false=>exact jZ (t:=false) hq (ihy.1 Q _ c fr R (hf.lit t (by rw[hfd];exact .ff)) S (h.2 rfl))
   |_=>rw[hv]at h;exact h.elim
  |const v=>
   have he:=hf.ev (n:=nt) (.const v)
   simp only[TW]at h
   simp only[zO]at he
   cases hv:yZ v with
   |tt=>
    rw[hv]at h he
    generalize hq:aev nt fr (.const v)=q at he
    cases he
    exact jZ (t:=true) hq (ihx.1 Q ts c fr R hf S h)
   |ff=>
    rw[hv]at h he
    generalize hq:aev nt fr (.const v)=q at he
    cases he
    exact jZ (t:=false) hq (ihy.1 Q ts c fr R hf S h)
   |_=>rw[hv]at h;exact h.elim
  |_=>exact h.elim
 |region id ops dr=>
  refine⟨?_,fun b h=>by cases h⟩
  intro Q ts0 cc fr0 Rc hfc Sc h0
  simp only[TW]at h0
  suffices core:∀(ts:aU) (c:aE) (fr:dc),RM c A→FV c ts fr→db c0 c A→Cs P nt Γ WW id ops dr Q ts c.tm→pM P nt fl (.region id ops dr) (QQ c0 A Q) fr c.m by
   split at h0
   ·obtain⟨s,c1,hK,htm,hf1,R1,S1,r,hr,hm⟩:=rV Rc hfc Sc h0
    exact ghost hr hm (core _ c1 fr0 R1 hf1 S1 (by rw[htm];exact hK))
   ·exact core ts0 cc fr0 Rc hfc Sc h0
  intro ts c fr R hf S h
  simp only[Cs]at h
  cases hb:(!dr||(fg ops&&(di WW id).all fun p=>mi c.tm p.1))with
  |false=>rw[hb]at h;exact h.elim
  |true=>
  rw[hb]at h
  simp only[cond_true]at h
  have hN':∀n,c.m.size≤n→A n:=fun n hn=>hN n (Nat.le_trans S.size hn)
  have post:∀fr' m',RQ c A (fun ts tm=>Q .normal ts tm) fr' m'→QQ c0 A Q .normal fr' m':=by
   rintro fr' m' ⟨ts',c',rfl,h1,h2,h3,h4⟩
   exact .of h1 h2 h3 (S.trans h4)
  cases dr with
  |false=>
   have hW:∀p∈([]:List (Nat×List Nat)),p.1<c.tm.length:=by simp
   have hz:∀(rest:List Oper) (i:Nat) (ts:aU) (c1:aE) (fr:dc),RM c1 A→FV c1 ts fr→db c c1 A→qm P nt Γ (nH ops) false (ly ops.toList) (I1 ops (di WW id)) (di WW id) (GQ (di WW (2000000+id))) rest i (fun ts tm=>Q .normal ts tm) ts c1.tm→
     ma P nt (nH ops) (fun _ _=>false) (fun _ _=>false) fl (RQ c A fun ts tm=>Q .normal ts tm) rest i fr c1.m:=by
    intro rest i ts c1 fr R1 hf1 S1 h1
    have key:∀(rest:List Oper) (i:Nat) (K:aU→am→Prop) (ts:aU) (tm:am),qm P nt Γ (nH ops) false (ly ops.toList) (I1 ops (di WW id)) (di WW id) (GQ (di WW (2000000+id))) rest i K ts tm=qm P nt Γ (nH ops) false (ly ops.toList) (I1 ops (di WW id)) [] (GQ (di WW (2000000+id))) rest i K ts tm:=by
     intro rest
     induction rest with
     |nil=>intro i K ts tm;rfl
     |cons o rest ih=>intro i K ts tm;simp only[qm,ih,cond_false]
    rw[key]at h1
    have:=BK (W:=[]) (pu:=fun k=>((rest[k-i]?).map fun o=>uh [] o.op).getD 0) hΓ hA hN' hW rest i (fun k o hk=>by simp[hk]) ts c1 fr R1 hf1 S1 h1
    simpa using this
   refine tj (z:=fun _ _=>false) (r:=fun _ _=>false) ?_
   have:=hz _ 0 ts c fr R hf (db.refl _ _) h
   have mono:∀(rest:List Oper) (i:Nat) (fr:dc) (m:au) {Q1 Q2:dc→au→Prop},(∀fr m,Q1 fr m→Q2 fr m)→ma P nt (nH ops) (fun _ _=>false) (fun _ _=>false) fl Q1 rest i fr m→ma P nt (nH ops) (fun _ _=>false) (fun _ _=>false) fl Q2 rest i fr m:=by
    intro rest
    induction rest with
    |nil=>intro i fr m Q1 Q2 hq h;exact hq _ _ h
    |cons o rest ih=>
     intro i fr m Q1 Q2 hq h
     simp only[ma,De]at h⊢
     split at h
     ·exact h.elim
     ·exact ih _ _ _ hq h
     ·obtain⟨v,mv,g1,g3,g2⟩:=h;exact⟨v,mv,g1,g3,ih _ _ _ hq g2⟩
   exact mono _ _ _ _ post this
  |true=>
   have hb':(fg ops&&(di WW id).all fun p=>mi c.tm p.1)=true:=by simpa using hb
   rw[Bool.and_eq_true]at hb'
   have hok:fg ops=true:=hb'.1
   have hWl:=hb'.2
   have mono:∀{z r:Nat→Nat→Bool} (rest:List Oper) (i:Nat) (fr:dc) (m:au) {Q1 Q2:dc→au→Prop},(∀fr m,Q1 fr m→Q2 fr m)→ma P nt (nH ops) z r fl Q1 rest i fr m→ma P nt (nH ops) z r fl Q2 rest i fr m:=by
    intro z r rest
    induction rest with
    |nil=>intro i fr m Q1 Q2 hq h;exact hq _ _ h
    |cons o rest ih=>
     intro i fr m Q1 Q2 hq h
     simp only[ma,De]at h⊢
     split at h
     ·exact h.elim
     ·exact ih _ _ _ hq h
     ·obtain⟨v,mv,g1,g3,g2⟩:=h;exact⟨v,mv,g1,g3,ih _ _ _ hq g2⟩
   have hW:∀p∈di WW id,p.1<c.tm.length:=fun p hp=>by
    have:=List.all_eq_true.1 hWl p hp
    obtain⟨b,h1,_⟩:=iB (by simpa using this)
    exact ae h1
   have hpz:∀k o,ops.toList[k]? =some o→((ops[0+k]?).map fun o=>uh (di WW id) o.op).getD 0=uh (di WW id) o.op:=fun k o hk=>by
    have hk':ops[k]? =some o:=by simpa using hk
    simp[hk']
   have h2:=BK (pu:=fun k=>((ops[k]?).map fun o=>uh (di WW id) o.op).getD 0) hΓ hA hN' hW ops.toList 0 hpz ts c fr R hf (db.refl _ _) h
   simp only[Bool.true_and]at h2
   refine rB hmix hok (fun k o ho hp n=>by simp[zq,ho,uh,hp]) (fun i n hi hz hr=> ?_) (mono _ _ _ _ post h2)
   unfold rr at hr
   rw[Bool.not_eq_false']at hr
   cases hsp:I1 ops (di WW id) i with
   |true=>
    rw[hsp]at hr
    simp only[cond_true,Bool.not_eq_true',Bool.and_eq_false_iff]at hr
    unfold I1 at hsp
    rw[Bool.or_eq_true,Bool.and_eq_true]at hsp
    rcases hsp with h3|⟨h3,h4⟩
    ·exact .inl h3
    ·refine .inr (.inl ⟨h4,fun k o ho hl=> ?_⟩)
     have hz0:((di WW id).any fun p=>jF c.E p.1 n)=false:=by
      rcases hr with hr|hr
      ·rw[h3]at hr;cases hr
      ·exact hr
     simp only[ho,Option.map_some,Option.getD_some]
     cases hbl:DD o.op with
     |true=>simp[zq,uh,hbl]
     |false=>
      have:uh (di WW id) o.op=2:=by simp[uh,hbl,hl,h3]
      rw[this]
      show(!((di WW id).any fun p=>jF c.E p.1 n))=true
      rw[hz0];rfl
   |false=>
    rw[hsp]at hr
    have h3':((di WW id).any fun p=>p.2.any (Nat.beq i)&&jF c.E p.1 n)=true:=by simpa using hr
    rw[List.any_eq_true]at h3'
    obtain⟨p,hp,hq⟩:=h3'
    rw[Bool.and_eq_true]at hq
    have hnp:F4 (di WW id)=false:=by
     cases hpr:F4 (di WW id)with
     |false=>rfl
     |true=>
      unfold F4 at hpr
      rw[Bool.and_eq_true]at hpr
      have:=List.all_eq_true.1 hpr.2 p hp
      have h0:=hq.1
      rw[List.isEmpty_iff.1 this]at h0
      cases h0
    right;right
    have hpl:=List.all_eq_true.1 hWl p hp
    obtain⟨b,g1,g2,g3⟩:=iB (by simpa using hpl)
    obtain⟨q,hE⟩:∃q,c.E p.1=some (n,q):=by
     have:=hq.2
     unfold jF at this
     split at this
     ·rename_i n' q he
      have:=Nat.eq_of_beq_eq_true this
      subst this
      exact⟨q,he⟩
     ·cases this
    refine⟨(R.live g1 g2 g3 hE).1,fun k hk hne=> ?_⟩
    by_cases b1:DC (ly ops.toList) k i=true
    ·exact .inl b1
    ·by_cases b2:DC (ly ops.toList) i k=true
     ·exact .inr (.inl b2)
     ·refine .inr (.inr ?_)
      cases hok:ops[k]? with
      |none=>rw[Array.getElem?_eq_getElem hk]at hok;cases hok
      |some o=>
      simp only[Option.map_some,Option.getD_some]
      cases hbl:DD o.op with
      |true=>simp[zq,uh,hbl]
      |false=>
      have:uh (di WW id) o.op=0:=by simp[uh,hbl,hnp]
      rw[this]
      show zz _ _ _ _ _=true
      unfold zz
      rw[List.any_eq_true]
      refine⟨p,hp, ?_⟩
      rw[Bool.and_eq_true]
      refine⟨?_,hq.2⟩
      unfold Hx
      rw[List.any_eq_true]
      obtain⟨w,hw1,hw2⟩:=List.any_eq_true.1 hq.1
      have:=Nat.eq_of_beq_eq_true hw2
      subst this
      refine⟨i,hw1, ?_⟩
      have hnb:Nat.beq i k=false:=by
       cases hb:Nat.beq i k
       ·rfl
       ·exact absurd (Nat.eq_of_beq_eq_true hb).symm hne
      simp only[Bool.not_eq_true]at b1 b2
      simp[hnb,Hl,b1,b2]
 |block id x ih=>
  refine⟨?_,fun b h=>by cases h⟩
  intro Q ts c fr R hf S h
  have plain:TW P nt Γ H WW c0.tm.length x (fun e ts tm=>match e with
   | .normal=>Q .normal ts tm
   | .ret=>Q .ret ts tm
   | .exit j=>bif Nat.beq j id then Q .normal ts tm else Q (.exit j) ts tm) ts c.tm→pM P nt fl (.block id x) (QQ c0 A Q) fr c.m:=by
   intro h
   refine uE (oX (ih.1 _ ts c fr R hf S h) fun e fr' m' hq=> ?_)
   obtain⟨ts',c',r,h1,h2,h3,h4,h5,h6⟩:=hq
   cases e with
   |normal=>exact⟨ts',c',r,h1,h2,h3,h4,h5,h6⟩
   |ret=>exact⟨ts',c',r,h1,h2,h3,h4,h5,h6⟩
   |exit j=>
    simp only[tF]
    simp only at h3
    cases hb:Nat.beq j id with
    |true=>
     rw[hb]at h3
     rw[if_pos (Nat.eq_of_beq_eq_true hb)]
     exact⟨ts',c',r,h1,h2,h3,h4,h5,h6⟩
    |false=>
     rw[hb]at h3
     rw[if_neg (by rintro rfl;simp at hb)]
     exact⟨ts',c',r,h1,h2,h3,h4,h5,h6⟩
  cases x with
  |loop b=>
   simp only[TW]at h
   split at h
   case h_2=>exact h.elim
   rename_i hh hlook
   obtain⟨s0,c1,⟨n0,hit⟩,htm,hf1,R1,S1,r1,hr1,hm1⟩:=rV R hf S h
   refine ghost hr1 hm1 (uE (FR (fun n fr m=>∃s c r,c.m=m.view (fun _=>false) r∧(∀n,r n=true→A n)∧RM c A∧FV c (bE hh.keep (hh.enc s).1) fr∧c.tm=(hh.enc s).2∧db c0 c A∧
    IZ (fun s Kb Kx=>TW P nt Γ H WW c0.tm.length b (fun e ts tm=>match e with
     | .normal=>jC c0.tm.length hh ts tm Kb
     | .ret=>Q .ret ts tm
     | .exit j=>bif Nat.beq j id then jC c0.tm.length hh ts tm Kx else Q (.exit j) ts tm) (bE hh.keep (hh.enc s).1) (hh.enc s).2) n s fun s=>Q .normal (bE hh.keep (hh.enc s).1) (hh.enc s).2) n0
    ⟨s0,c1,fun _=>false,(kt _).symm,fun n h=>(by cases h),R1,hf1,htm,S1,hit⟩ ?_))
   rintro n fr m ⟨s,c,r,hm,hr,R,hf,htm,S,hit⟩ K hK
   cases n with
   |zero=>exact hit.elim
   |succ n=>
   simp only[IZ]at hit
   rw[←htm]at hit
   refine ghost hr hm (oX (ih.2 b rfl _ _ c fr R hf S hit) fun e fr' m' hq=> ?_)
   obtain⟨ts',c',r',h1,h2,h3,h4,h5,h6⟩:=hq
   cases e with
   |normal=>
    obtain⟨s',c2,g1,g2,g3,g4,g5,q,g6,g7⟩:=rV h4 h5 h6 h3
    obtain⟨q',w1,w2⟩:=lV (m:=m') (m1:=c2.m) h2 g6 (by rw[g7,h1])
    exact hK n fr' m' (Nat.lt_succ_self _) ⟨s',c2,q',w2,w1,g4,g3,g2,g5,g1⟩
   |ret=>exact⟨ts',c',r',h1,h2,h3,h4,h5,h6⟩
   |exit j=>
    simp only[Nx,tF]
    simp only at h3
    cases hb:Nat.beq j id with
    |true=>
     rw[hb]at h3
     rw[if_pos (Nat.eq_of_beq_eq_true hb)]
     obtain⟨s',c2,g1,g2,g3,g4,g5,q,g6,g7⟩:=rV h4 h5 h6 h3
     obtain⟨q',w1,w2⟩:=lV (m:=m') (m1:=c2.m) h2 g6 (by rw[g7,h1])
     exact⟨_,c2,q',w2,w1,by rw[g2];exact g1,g4,g3,g5⟩
    |false=>
     rw[hb]at h3
     rw[if_neg (by rintro rfl;simp at hb)]
     exact⟨ts',c',r',h1,h2,h3,h4,h5,h6⟩
  |_=>exact plain h
 |_=>exact⟨fun Q ts c fr R hf S h=>h.elim,fun b h=>by cases h⟩
end code
end Go.Ab
