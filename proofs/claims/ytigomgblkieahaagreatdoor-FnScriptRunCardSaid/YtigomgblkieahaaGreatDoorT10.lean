/- What is proved here: what is read of a function's code over typed values is a contract of the function. -/
import Derived.Test.YtigomgblkieahaaGreatDoorT9
namespace Go.Ab
set_option linter.unusedVariables false
set_option linter.unusedSimpArgs false
section code
variable {P:Program} {nt fl:Nat} {Γ:List (Nat×Con)} {A:Nat→Prop} {c0:Cfg}
def RQ (c0:Cfg) (A:Nat→Prop) (K:TFrm→TMem→Prop) (fr:Frm) (m:Mem):Prop:=∃ts c,c.m=m∧K ts c.tm∧RM c A∧FV c ts fr∧Stp c0 c A
theorem TOps_ok (hΓ:GSound P Γ) (hA:∀n,A n→fl≤n) (hN:∀n,c0.m.size≤n→A n) {gd:Nat→Option Tmp} {dr:Bool} {ms:List Nat} {sp:Nat→Bool} {W:List (Nat×List Nat)} {vw:Nat→Bool} {pu:Nat→Nat} (hW:∀p∈W,p.1<c0.tm.length) {K:TFrm→TMem→Prop}:
  ∀(rest:List Oper) (i:Nat) (_:∀k o,rest[k]? =some o→pu (i+k)=puO W o.op) (ts:TFrm) (c:Cfg) (fr:Frm),RM c A→FV c ts fr→Stp c0 c A→TOps P nt Γ gd dr ms sp W vw rest i K ts c.tm→
  AOps P nt gd (fun i n=>dr&&zq (pu i) ms W c0.E i n) (fun i n=>dr&&rr (sp i) W c0.E i n) fl (RQ c0 A K) rest i fr c.m:=by
 intro rest
 induction rest with
 |nil=>intro i hpu ts c fr R hf S h;exact⟨ts,c,rfl,h,R,hf,S⟩
 |cons o rest ih=>
  intro i hpu ts c fr R hf S h
  have hp0:pu i=puO W o.op:=hpu 0 o rfl
  have hpu':∀k o',rest[k]? =some o'→pu (i+1+k)=puO W o'.op:=fun k o' hk=>by rw[show i+1+k=i+(k+1) by omega];exact hpu (k+1) o' hk
  have hN':∀n,c.m.size≤n→A n:=fun n hn=>hN n (Nat.le_trans S.size hn)
  have ex:∀ts,FV c ts fr→(bif dr then tdraw P nt Γ (litB o rest||vw (i+1000),vw i) ms (sp i) W i o ts c.tm fun v tm'=>TOps P nt Γ gd dr ms sp W vw rest (i+1) K (tput ts o.dst v) tm'
   else texec P nt Γ (litB o rest||vw (i+1000),vw i) o ts c.tm fun v tm'=>TOps P nt Γ gd dr ms sp W vw rest (i+1) K (tput ts o.dst v) tm')→awanted nt gd fr o=some true→
   AOps P nt gd (fun i n=>dr&&zq (pu i) ms W c0.E i n) (fun i n=>dr&&rr (sp i) W c0.E i n) fl (RQ c0 A K) (o::rest) i fr c.m:=by
   intro ts hf h hw
   simp only[AOps,AOp1,hw]
   cases dr with
   |true=>
    obtain⟨v,a,mv,c',g1,g2,g3,g3',g4,g5,g6⟩:=tdraw_ok hΓ hA hN' R S hW hf h
    rw[←hp0]at g2 g3
    refine⟨a,mv,by simpa using g2,fun q _=>by have:=g3' q;rw[g3]at this;simpa using this, ?_⟩
    have:=ih (i+1) hpu' _ c' (aput fr o.dst a) g4 ((hf.mv g6.mv).put o.dst g5) (S.trans g6) g1
    rw[g3]at this
    simpa using this
   |false=>
    obtain⟨v,tm',g1,a,c',g2,rfl,g4,g5,g6⟩:=texec_ok hΓ hA hN' R hf h
    refine⟨a,c'.m,by simpa[view_none]using g2,fun _ q=>by obtain⟨_,q⟩:=q;simp at q, ?_⟩
    have:=ih (i+1) hpu' _ c' (aput fr o.dst a) g4 ((hf.mv g6.mv).put o.dst g5) (S.trans g6) g1
    simpa[glue_none]using this
  have sk:∀ts,FV c ts fr→TOps P nt Γ gd dr ms sp W vw rest (i+1) K (tput ts o.dst (.tup [])) c.tm→awanted nt gd fr o=some false→
   AOps P nt gd (fun i n=>dr&&zq (pu i) ms W c0.E i n) (fun i n=>dr&&rr (sp i) W c0.E i n) fl (RQ c0 A K) (o::rest) i fr c.m:=by
   intro ts hf h hw
   simp only[AOps,AOp1,hw]
   exact ih (i+1) hpu' _ c _ R (hf.put o.dst (.tup [] [] rfl fun i t a h=>by simp at h)) S h
  simp only[TOps]at h
  cases hg:o.guard with
  |none=>
   rw[hg]at h
   exact ex ts hf h (by simp[awanted,hg])
  |some p=>
   obtain⟨j,want⟩:=p
   rw[hg]at h
   simp only at h
   cases hd:gd j with
   |none=>rw[hd]at h;exact h.elim
   |some d=>
   rw[hd]at h
   simp only at h
   cases hlt:Nat.blt d nt with
   |false=>rw[hlt]at h;exact h.elim
   |true=>
   rw[hlt]at h
   simp only[cond_true]at h
   have hdn:d<nt:=Nat.le_of_ble_eq_true hlt
   have hfd:=hf.2 d
   have wn:∀b:Bool,fr d= .bool b→awanted nt gd fr o=some (b==want):=fun b hb=>by simp[awanted,hg,hd,hdn,hb]
   cases hv:ts d with
   |tt=>
    rw[hv]at h hfd
    generalize hq:fr d=q at hfd
    cases hfd
    have hw:=wn true hq
    cases want with
    |true=>exact ex ts hf h hw
    |false=>exact sk ts hf h hw
   |ff=>
    rw[hv]at h hfd
    generalize hq:fr d=q at hfd
    cases hfd
    have hw:=wn false hq
    cases want with
    |true=>exact sk ts hf h hw
    |false=>exact ex ts hf h hw
   |bool b=>
    rw[hv]at h hfd
    generalize hq:fr d=q at hfd
    cases hfd
    have hw:=wn b hq
    cases b with
    |true=>
     have h':=h.1 rfl
     have hf':FV c (tset ts d .tt) fr:=hf.lit d (by rw[hq];exact .tt)
     cases want with
     |true=>exact ex _ hf' h' hw
     |false=>exact sk _ hf' h' hw
    |false=>
     have h':=h.2 rfl
     have hf':FV c (tset ts d .ff) fr:=hf.lit d (by rw[hq];exact .ff)
     cases want with
     |true=>exact sk _ hf' h' hw
     |false=>exact ex _ hf' h' hw
   |tup l=>
    rw[hv]at h hfd
    cases l with
    |cons x l=>exact h.elim
    |nil=>
     generalize hq:fr d=q at hfd
     cases hfd with
     |tup _ as hl hr=>
     have:as=[]:=List.length_eq_zero_iff.1 hl.symm
     subst this
     exact sk ts hf h (by simp[awanted,hg,hd,hdn,hq])
   |_=>rw[hv]at h;exact h.elim
def QQ (c0:Cfg) (A:Nat→Prop) (Q:AExit→TFrm→TMem→Prop) (e:AExit) (fr:Frm) (m:Mem):Prop:=
 ∃ts c r,c.m=m.view (fun _=>false) r∧(∀n,r n=true→A n)∧Q e ts c.tm∧RM c A∧FV c ts fr∧Stp c0 c A
theorem QQ.of {Q:AExit→TFrm→TMem→Prop} {e:AExit} {ts:TFrm} {c:Cfg} {fr:Frm} (h:Q e ts c.tm) (R:RM c A) (hf:FV c ts fr) (S:Stp c0 c A):QQ c0 A Q e fr c.m:=
 ⟨ts,c,fun _=>false,(view_none c.m).symm,fun n h=>(by cases h),h,R,hf,S⟩
theorem frameOf_rv {c:Cfg} {fr:Frm}:∀(keep:List (Nat×Sh)) (vs:List TV),LV c vs (keep.map fun p=>fr p.1)→∀i,RV c (frameOf keep vs i) (fr i)
 |[],vs,h=>fun i=>by unfold frameOf;exact .any _
 |p::ks,[],h=>fun i=>by unfold frameOf;exact .any _
 |(t,s)::ks,v::vs,h=>fun i=>by
  show RV c (bif Nat.beq i t then v else frameOf ks vs i) (fr i)
  cases hb:Nat.beq i t with
  |true=>
   have:=Nat.eq_of_beq_eq_true hb
   subst this
   exact h.2 0 v _ rfl rfl
  |false=>exact frameOf_rv ks vs ⟨by have:=h.1;simpa using this,fun i t a h1 h2=>h.2 (i+1) t a (by simpa using h1) (by simpa using h2)⟩ i
theorem head_ok {h:LH} {ts:TFrm} {c:Cfg} {fr:Frm} {K:h.S→Prop} (R:RM c A) (hf:FV c ts fr) (S:Stp c0 c A) (hh:headT c0.tm.length h ts c.tm K):
  ∃s c',K s∧c'.tm=(h.enc s).2∧FV c' (frameOf h.keep (h.enc s).1) fr∧RM c' A∧Stp c0 c' A∧∃r:Nat→Bool,(∀n,r n=true→A n)∧c'.m=c.m.view (fun _=>false) r:=by
 unfold headT at hh
 split at hh
 case h_2=>exact hh.elim
 rename_i vs tm' hco
 have hl:LV c (h.keep.map fun p=>ts p.1) (h.keep.map fun p=>fr p.1):=LV.map _ fun p _=>hf.2 p.1
 obtain⟨c1,rfl,R1,hl1,G1,_⟩:=coeL_ok _ hco R hl
 obtain⟨vs',c2,hd,hm,R2,S2,hl2⟩:=canon_ok R1 (S.trans G1.stp) hl1 hh
 obtain⟨s,he,hK⟩:=h.law _ _ _ hd
 refine⟨s,c2,hK,by rw[he], ?_,R2,S2, ?_⟩
 ·rw[he];exact⟨R2.gv,frameOf_rv _ _ hl2⟩
 ·obtain⟨r,r1,r2⟩:=G1.gh
  exact⟨r,r1,hm.trans r2⟩
theorem ghost_trans {m m1:Mem} {r s:Nat→Bool} (hr:∀n,r n=true→A n) (hs:∀n,s n=true→A n) (h:m1=(m.view (fun _=>false) r).view (fun _=>false) s):
  ∃q:Nat→Bool,(∀n,q n=true→A n)∧m1=m.view (fun _=>false) q:=
 ⟨fun n=>r n||s n,fun n hn=>by
  have hn':(r n||s n)=true:=hn
  cases h1:r n
  ·rw[h1]at hn';exact hs n (by simpa using hn')
  ·exact hr n h1,by rw[h,view_view]⟩
theorem TW_ok {H:List (Nat×LH)} {WW:List (Nat×List (Nat×List Nat))} (hmix:P.follows .mixedOrders=true) (hΓ:GSound P Γ) (hA:∀n,A n→fl≤n) (hN:∀n,c0.m.size≤n→A n):
  ∀(x:Code) (Q:AExit→TFrm→TMem→Prop) (ts:TFrm) (c:Cfg) (fr:Frm),RM c A→FV c ts fr→Stp c0 c A→TW P nt Γ H WW c0.tm.length x Q ts c.tm→AWp P nt fl x (QQ c0 A Q) fr c.m:=by
 suffices all:∀(x:Code),(∀(Q:AExit→TFrm→TMem→Prop) (ts:TFrm) (c:Cfg) (fr:Frm),RM c A→FV c ts fr→Stp c0 c A→TW P nt Γ H WW c0.tm.length x Q ts c.tm→AWp P nt fl x (QQ c0 A Q) fr c.m)∧
   ∀b,x= .loop b→∀(Q:AExit→TFrm→TMem→Prop) (ts:TFrm) (c:Cfg) (fr:Frm),RM c A→FV c ts fr→Stp c0 c A→TW P nt Γ H WW c0.tm.length b Q ts c.tm→AWp P nt fl b (QQ c0 A Q) fr c.m from fun x=>(all x).1
 have ghost:∀{x:Code} {Q':AExit→Frm→Mem→Prop} {fr:Frm} {m m1:Mem} {r:Nat→Bool},(∀n,r n=true→A n)→m1=m.view (fun _=>false) r→AWp P nt fl x Q' fr m1→AWp P nt fl x Q' fr m:=by
  intro x Q' fr m m1 r hr hm h
  subst hm
  exact awp_ghost (fun n hn=>hA n (hr n hn)) h
 intro x
 induction x with
 |skip=>exact⟨fun Q ts c fr R hf S h=>awp_skip (.of h R hf S),fun b h=>by cases h⟩
 |ret=>exact⟨fun Q ts c fr R hf S h=>awp_ret (.of h R hf S),fun b h=>by cases h⟩
 |exit id=>exact⟨fun Q ts c fr R hf S h=>awp_exit (.of h R hf S),fun b h=>by cases h⟩
 |loop b ih=>exact⟨fun Q ts c fr R hf S h=>h.elim,fun b' h=>by cases h;exact ih.1⟩
 |seq x y ihx ihy=>
  refine⟨?_,fun b h=>by cases h⟩
  intro Q ts c fr R hf S h
  refine awp_seq fun K hK=>awp_mono (ihx.1 _ ts c fr R hf S h) fun e fr' m' hq=> ?_
  obtain⟨ts',c',r,h1,h2,h3,h4,h5,h6⟩:=hq
  cases e with
  |normal=>exact hK _ _ (ghost h2 h1 (ihy.1 Q ts' c' fr' h4 h5 h6 h3))
  |ret=>exact⟨ts',c',r,h1,h2,h3,h4,h5,h6⟩
  |exit id=>exact⟨ts',c',r,h1,h2,h3,h4,h5,h6⟩
 |cond cd x y ihx ihy=>
  refine⟨?_,fun b h=>by cases h⟩
  intro Q ts c fr R hf S h
  cases cd with
  |tmp t=>
   have he:=hf.ev (n:=nt) (.tmp t)
   simp only[TW]at h
   cases hv:tev nt ts (.tmp t)with
   |tt=>
    rw[hv]at h he
    generalize hq:aev nt fr (.tmp t)=q at he
    cases he
    exact awp_cond (t:=true) hq (ihx.1 Q ts c fr R hf S h)
   |ff=>
    rw[hv]at h he
    generalize hq:aev nt fr (.tmp t)=q at he
    cases he
    exact awp_cond (t:=false) hq (ihy.1 Q ts c fr R hf S h)
   |bool b=>
    rw[hv]at h he
    generalize hq:aev nt fr (.tmp t)=q at he
    cases he
    have hfd:fr t= .bool b:=by
     simp only[aev]at hq
     split at hq
     ·exact hq
     ·cases hq
    cases b with
    |true=>exact awp_cond (t:=true) hq (ihx.1 Q _ c fr R (hf.lit t (by rw[hfd];exact .tt)) S (h.1 rfl))
    |false=>exact awp_cond (t:=false) hq (ihy.1 Q _ c fr R (hf.lit t (by rw[hfd];exact .ff)) S (h.2 rfl))
   |_=>rw[hv]at h;exact h.elim
  |const v=>
   have he:=hf.ev (n:=nt) (.const v)
   simp only[TW]at h
   simp only[tev]at he
   cases hv:tvVal v with
   |tt=>
    rw[hv]at h he
    generalize hq:aev nt fr (.const v)=q at he
    cases he
    exact awp_cond (t:=true) hq (ihx.1 Q ts c fr R hf S h)
   |ff=>
    rw[hv]at h he
    generalize hq:aev nt fr (.const v)=q at he
    cases he
    exact awp_cond (t:=false) hq (ihy.1 Q ts c fr R hf S h)
   |_=>rw[hv]at h;exact h.elim
  |_=>exact h.elim
 |region id ops dr=>
  refine⟨?_,fun b h=>by cases h⟩
  intro Q ts0 cc fr0 Rc hfc Sc h0
  simp only[TW]at h0
  suffices core:∀(ts:TFrm) (c:Cfg) (fr:Frm),RM c A→FV c ts fr→Stp c0 c A→regT P nt Γ WW id ops dr Q ts c.tm→AWp P nt fl (.region id ops dr) (QQ c0 A Q) fr c.m by
   split at h0
   ·obtain⟨s,c1,hK,htm,hf1,R1,S1,r,hr,hm⟩:=head_ok Rc hfc Sc h0
    exact ghost hr hm (core _ c1 fr0 R1 hf1 S1 (by rw[htm];exact hK))
   ·exact core ts0 cc fr0 Rc hfc Sc h0
  intro ts c fr R hf S h
  simp only[regT]at h
  cases hb:(!dr||(regionOk ops&&(lookW WW id).all fun p=>wlive c.tm p.1))with
  |false=>rw[hb]at h;exact h.elim
  |true=>
  rw[hb]at h
  simp only[cond_true]at h
  have hN':∀n,c.m.size≤n→A n:=fun n hn=>hN n (Nat.le_trans S.size hn)
  have post:∀fr' m',RQ c A (fun ts tm=>Q .normal ts tm) fr' m'→QQ c0 A Q .normal fr' m':=by
   rintro fr' m' ⟨ts',c',rfl,h1,h2,h3,h4⟩
   exact .of h1 h2 h3 (S.trans h4)
  cases dr with
  |false=>
   have hW:∀p∈([]:List (Nat×List Nat)),p.1<c.tm.length:=by simp
   have hz:∀(rest:List Oper) (i:Nat) (ts:TFrm) (c1:Cfg) (fr:Frm),RM c1 A→FV c1 ts fr→Stp c c1 A→TOps P nt Γ (gdOf ops) false (masks ops.toList) (spP ops (lookW WW id)) (lookW WW id) (vwOf (lookW WW (2000000+id))) rest i (fun ts tm=>Q .normal ts tm) ts c1.tm→
     AOps P nt (gdOf ops) (fun _ _=>false) (fun _ _=>false) fl (RQ c A fun ts tm=>Q .normal ts tm) rest i fr c1.m:=by
    intro rest i ts c1 fr R1 hf1 S1 h1
    have key:∀(rest:List Oper) (i:Nat) (K:TFrm→TMem→Prop) (ts:TFrm) (tm:TMem),TOps P nt Γ (gdOf ops) false (masks ops.toList) (spP ops (lookW WW id)) (lookW WW id) (vwOf (lookW WW (2000000+id))) rest i K ts tm=TOps P nt Γ (gdOf ops) false (masks ops.toList) (spP ops (lookW WW id)) [] (vwOf (lookW WW (2000000+id))) rest i K ts tm:=by
     intro rest
     induction rest with
     |nil=>intro i K ts tm;rfl
     |cons o rest ih=>intro i K ts tm;simp only[TOps,ih,cond_false]
    rw[key]at h1
    have:=TOps_ok (W:=[]) (pu:=fun k=>((rest[k-i]?).map fun o=>puO [] o.op).getD 0) hΓ hA hN' hW rest i (fun k o hk=>by simp[hk]) ts c1 fr R1 hf1 S1 h1
    simpa using this
   refine awp_region_seq (z:=fun _ _=>false) (r:=fun _ _=>false) ?_
   have:=hz _ 0 ts c fr R hf (Stp.refl _ _) h
   have mono:∀(rest:List Oper) (i:Nat) (fr:Frm) (m:Mem) {Q1 Q2:Frm→Mem→Prop},(∀fr m,Q1 fr m→Q2 fr m)→AOps P nt (gdOf ops) (fun _ _=>false) (fun _ _=>false) fl Q1 rest i fr m→AOps P nt (gdOf ops) (fun _ _=>false) (fun _ _=>false) fl Q2 rest i fr m:=by
    intro rest
    induction rest with
    |nil=>intro i fr m Q1 Q2 hq h;exact hq _ _ h
    |cons o rest ih=>
     intro i fr m Q1 Q2 hq h
     simp only[AOps,AOp1]at h⊢
     split at h
     ·exact h.elim
     ·exact ih _ _ _ hq h
     ·obtain⟨v,mv,g1,g3,g2⟩:=h;exact⟨v,mv,g1,g3,ih _ _ _ hq g2⟩
   exact mono _ _ _ _ post this
  |true=>
   have hb':(regionOk ops&&(lookW WW id).all fun p=>wlive c.tm p.1)=true:=by simpa using hb
   rw[Bool.and_eq_true]at hb'
   have hok:regionOk ops=true:=hb'.1
   have hWl:=hb'.2
   have mono:∀{z r:Nat→Nat→Bool} (rest:List Oper) (i:Nat) (fr:Frm) (m:Mem) {Q1 Q2:Frm→Mem→Prop},(∀fr m,Q1 fr m→Q2 fr m)→AOps P nt (gdOf ops) z r fl Q1 rest i fr m→AOps P nt (gdOf ops) z r fl Q2 rest i fr m:=by
    intro z r rest
    induction rest with
    |nil=>intro i fr m Q1 Q2 hq h;exact hq _ _ h
    |cons o rest ih=>
     intro i fr m Q1 Q2 hq h
     simp only[AOps,AOp1]at h⊢
     split at h
     ·exact h.elim
     ·exact ih _ _ _ hq h
     ·obtain⟨v,mv,g1,g3,g2⟩:=h;exact⟨v,mv,g1,g3,ih _ _ _ hq g2⟩
   have hW:∀p∈lookW WW id,p.1<c.tm.length:=fun p hp=>by
    have:=List.all_eq_true.1 hWl p hp
    obtain⟨b,h1,_⟩:=wlive_get (by simpa using this)
    exact getElem?_lt h1
   have hpz:∀k o,ops.toList[k]? =some o→((ops[0+k]?).map fun o=>puO (lookW WW id) o.op).getD 0=puO (lookW WW id) o.op:=fun k o hk=>by
    have hk':ops[k]? =some o:=by simpa using hk
    simp[hk']
   have h2:=TOps_ok (pu:=fun k=>((ops[k]?).map fun o=>puO (lookW WW id) o.op).getD 0) hΓ hA hN' hW ops.toList 0 hpz ts c fr R hf (Stp.refl _ _) h
   simp only[Bool.true_and]at h2
   refine awp_region_draw hmix hok (fun k o ho hp n=>by simp[zq,ho,puO,hp]) (fun i n hi hz hr=> ?_) (mono _ _ _ _ post h2)
   unfold rr at hr
   rw[Bool.not_eq_false']at hr
   cases hsp:spP ops (lookW WW id) i with
   |true=>
    rw[hsp]at hr
    simp only[cond_true,Bool.not_eq_true',Bool.and_eq_false_iff]at hr
    unfold spP at hsp
    rw[Bool.or_eq_true,Bool.and_eq_true]at hsp
    rcases hsp with h3|⟨h3,h4⟩
    ·exact .inl h3
    ·refine .inr (.inl ⟨h4,fun k o ho hl=> ?_⟩)
     have hz0:((lookW WW id).any fun p=>locB c.E p.1 n)=false:=by
      rcases hr with hr|hr
      ·rw[h3]at hr;cases hr
      ·exact hr
     simp only[ho,Option.map_some,Option.getD_some]
     cases hbl:blO o.op with
     |true=>simp[zq,puO,hbl]
     |false=>
      have:puO (lookW WW id) o.op=2:=by simp[puO,hbl,hl,h3]
      rw[this]
      show(!((lookW WW id).any fun p=>locB c.E p.1 n))=true
      rw[hz0];rfl
   |false=>
    rw[hsp]at hr
    have h3':((lookW WW id).any fun p=>p.2.any (Nat.beq i)&&locB c.E p.1 n)=true:=by simpa using hr
    rw[List.any_eq_true]at h3'
    obtain⟨p,hp,hq⟩:=h3'
    rw[Bool.and_eq_true]at hq
    have hnp:prW (lookW WW id)=false:=by
     cases hpr:prW (lookW WW id)with
     |false=>rfl
     |true=>
      unfold prW at hpr
      rw[Bool.and_eq_true]at hpr
      have:=List.all_eq_true.1 hpr.2 p hp
      have h0:=hq.1
      rw[List.isEmpty_iff.1 this]at h0
      cases h0
    right;right
    have hpl:=List.all_eq_true.1 hWl p hp
    obtain⟨b,g1,g2,g3⟩:=wlive_get (by simpa using hpl)
    obtain⟨q,hE⟩:∃q,c.E p.1=some (n,q):=by
     have:=hq.2
     unfold locB at this
     split at this
     ·rename_i n' q he
      have:=Nat.eq_of_beq_eq_true this
      subst this
      exact⟨q,he⟩
     ·cases this
    refine⟨(R.live g1 g2 g3 hE).1,fun k hk hne=> ?_⟩
    by_cases b1:bit (masks ops.toList) k i=true
    ·exact .inl b1
    ·by_cases b2:bit (masks ops.toList) i k=true
     ·exact .inr (.inl b2)
     ·refine .inr (.inr ?_)
      cases hok:ops[k]? with
      |none=>rw[Array.getElem?_eq_getElem hk]at hok;cases hok
      |some o=>
      simp only[Option.map_some,Option.getD_some]
      cases hbl:blO o.op with
      |true=>simp[zq,puO,hbl]
      |false=>
      have:puO (lookW WW id) o.op=0:=by simp[puO,hbl,hnp]
      rw[this]
      show zz _ _ _ _ _=true
      unfold zz
      rw[List.any_eq_true]
      refine⟨p,hp, ?_⟩
      rw[Bool.and_eq_true]
      refine⟨?_,hq.2⟩
      unfold hits
      rw[List.any_eq_true]
      obtain⟨w,hw1,hw2⟩:=List.any_eq_true.1 hq.1
      have:=Nat.eq_of_beq_eq_true hw2
      subst this
      refine⟨i,hw1, ?_⟩
      have hnb:Nat.beq i k=false:=by
       cases hb:Nat.beq i k
       ·rfl
       ·exact absurd (Nat.eq_of_beq_eq_true hb).symm hne
      simp only[Bool.not_eq_true]at b1 b2
      simp[hnb,unord,b1,b2]
 |block id x ih=>
  refine⟨?_,fun b h=>by cases h⟩
  intro Q ts c fr R hf S h
  have plain:TW P nt Γ H WW c0.tm.length x (fun e ts tm=>match e with
   | .normal=>Q .normal ts tm
   | .ret=>Q .ret ts tm
   | .exit j=>bif Nat.beq j id then Q .normal ts tm else Q (.exit j) ts tm) ts c.tm→AWp P nt fl (.block id x) (QQ c0 A Q) fr c.m:=by
   intro h
   refine awp_block (awp_mono (ih.1 _ ts c fr R hf S h) fun e fr' m' hq=> ?_)
   obtain⟨ts',c',r,h1,h2,h3,h4,h5,h6⟩:=hq
   cases e with
   |normal=>exact⟨ts',c',r,h1,h2,h3,h4,h5,h6⟩
   |ret=>exact⟨ts',c',r,h1,h2,h3,h4,h5,h6⟩
   |exit j=>
    simp only[Caught]
    simp only at h3
    cases hb:Nat.beq j id with
    |true=>
     rw[hb]at h3
     rw[if_pos (Nat.eq_of_beq_eq_true hb)]
     exact⟨ts',c',r,h1,h2,h3,h4,h5,h6⟩
    |false=>
     rw[hb]at h3
     rw[if_neg (by rintro rfl;simp at hb)]
     exact⟨ts',c',r,h1,h2,h3,h4,h5,h6⟩
  cases x with
  |loop b=>
   simp only[TW]at h
   split at h
   case h_2=>exact h.elim
   rename_i hh hlook
   obtain⟨s0,c1,⟨n0,hit⟩,htm,hf1,R1,S1,r1,hr1,hm1⟩:=head_ok R hf S h
   refine ghost hr1 hm1 (awp_block (awp_loop (fun n fr m=>∃s c r,c.m=m.view (fun _=>false) r∧(∀n,r n=true→A n)∧RM c A∧FV c (frameOf hh.keep (hh.enc s).1) fr∧c.tm=(hh.enc s).2∧Stp c0 c A∧
    itP (fun s Kb Kx=>TW P nt Γ H WW c0.tm.length b (fun e ts tm=>match e with
     | .normal=>headT c0.tm.length hh ts tm Kb
     | .ret=>Q .ret ts tm
     | .exit j=>bif Nat.beq j id then headT c0.tm.length hh ts tm Kx else Q (.exit j) ts tm) (frameOf hh.keep (hh.enc s).1) (hh.enc s).2) n s fun s=>Q .normal (frameOf hh.keep (hh.enc s).1) (hh.enc s).2) n0
    ⟨s0,c1,fun _=>false,(view_none _).symm,fun n h=>(by cases h),R1,hf1,htm,S1,hit⟩ ?_))
   rintro n fr m ⟨s,c,r,hm,hr,R,hf,htm,S,hit⟩ K hK
   cases n with
   |zero=>exact hit.elim
   |succ n=>
   simp only[itP]at hit
   rw[←htm]at hit
   refine ghost hr hm (awp_mono (ih.2 b rfl _ _ c fr R hf S hit) fun e fr' m' hq=> ?_)
   obtain⟨ts',c',r',h1,h2,h3,h4,h5,h6⟩:=hq
   cases e with
   |normal=>
    obtain⟨s',c2,g1,g2,g3,g4,g5,q,g6,g7⟩:=head_ok h4 h5 h6 h3
    obtain⟨q',w1,w2⟩:=ghost_trans (m:=m') (m1:=c2.m) h2 g6 (by rw[g7,h1])
    exact hK n fr' m' (Nat.lt_succ_self _) ⟨s',c2,q',w2,w1,g4,g3,g2,g5,g1⟩
   |ret=>exact⟨ts',c',r',h1,h2,h3,h4,h5,h6⟩
   |exit j=>
    simp only[Nx,Caught]
    simp only at h3
    cases hb:Nat.beq j id with
    |true=>
     rw[hb]at h3
     rw[if_pos (Nat.eq_of_beq_eq_true hb)]
     obtain⟨s',c2,g1,g2,g3,g4,g5,q,g6,g7⟩:=head_ok h4 h5 h6 h3
     obtain⟨q',w1,w2⟩:=ghost_trans (m:=m') (m1:=c2.m) h2 g6 (by rw[g7,h1])
     exact⟨_,c2,q',w2,w1,by rw[g2];exact g1,g4,g3,g5⟩
    |false=>
     rw[hb]at h3
     rw[if_neg (by rintro rfl;simp at hb)]
     exact⟨ts',c',r',h1,h2,h3,h4,h5,h6⟩
  |_=>exact plain h
 |_=>exact⟨fun Q ts c fr R hf S h=>h.elim,fun b h=>by cases h⟩
end code
end Go.Ab
