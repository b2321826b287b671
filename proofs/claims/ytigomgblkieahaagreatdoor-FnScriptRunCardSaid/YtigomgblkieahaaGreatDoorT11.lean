/- What is proved here: the contract of a function out of what is read of its code; the contract of a call out of that of the function. -/
import Derived.Test.YtigomgblkieahaaGreatDoorT10
namespace Go.Ab
set_option linter.unusedVariables false
set_option linter.unusedSimpArgs false
def argsF (args:List TV):TFrm:=fun i=>args.getD i (.tup [])
section ends
variable {P:Program} {nt fl:Nat} {A:Nat→Prop} {c0:Cfg}
theorem ald_view {m:Mem} {r:Nat→Bool} {n o:Nat}:ald (m.view (fun _=>false) r) n o=ald m n o:=by
 unfold ald
 rw[view_cells]
 have:((m.view (fun _=>false) r).blk n).mode≠ .dead↔(m.blk n).mode≠ .dead:=by
  constructor
  ·intro h;exact(view_live h).2.1
  ·intro h q
   apply h
   unfold Mem.view at q
   simp only[Bool.false_eq_true,if_false]at q
   split at q
   ·exact Blk.roify_dead.1 q
   ·exact q
 simp only[this]
 rfl
theorem alds_view {m:Mem} {r:Nat→Bool} {n o k:Nat}:alds (m.view (fun _=>false) r) n o k=alds m n o k:=by
 unfold alds
 rw[view_cells]
 have:((m.view (fun _=>false) r).blk n).mode≠ .dead↔(m.blk n).mode≠ .dead:=by
  constructor
  ·intro h;exact(view_live h).2.1
  ·intro h q
   apply h
   unfold Mem.view at q
   simp only[Bool.false_eq_true,if_false]at q
   split at q
   ·exact Blk.roify_dead.1 q
   ·exact q
 simp only[this]
 rfl
theorem aress_view {fr:Frm} {m:Mem} {r:Nat→Bool}:∀rs,aress P nt fr (m.view (fun _=>false) r) rs=aress P nt fr m rs
 |[]=>rfl
 |x::rs=>by
  have:ares1 P nt fr (m.view (fun _=>false) r) x=ares1 P nt fr m x:=by
   cases x with
   |tmp t=>rfl
   |cell a t=>simp only[ares1,ald_view,alds_view]
  simp only[aress,this,aress_view rs]
theorem tres1_ok {ts:TFrm} {c:Cfg} {fr:Frm} (R:RM c A) (hf:FV c ts fr) {x:ResultVar} {v:TV} (h:tres1 P nt ts c.tm x=some v):∃a,ares1 P nt fr c.m x=some a∧RV c v a:=by
 cases x with
 |tmp t=>simp only[tres1,Option.some.injEq]at h;subst h;exact⟨_,rfl,hf.ev (.tmp t)⟩
 |cell a t=>
  simp only[tres1]at h
  have he:=hf.ev (n:=nt) (.tmp a)
  split at h
  ·rename_i k o hk
   rw[hk]at he
   obtain⟨n,p,h1,h2,h3⟩:=rv_ptr he
   split at h
   ·rename_i w l hb
    obtain⟨n',p',g1,g2,g3,_,g5,g6⟩:=R.cells k _ l hb
    rw[h2]at g1;simp at g1;obtain⟨rfl,rfl⟩:=g1
    obtain⟨b,q1,q2⟩:=load_row (c:=c) (n:=n) (q:=p+o) (ts:=l.drop o) g2 g3 (fun hne=>by
     have hlt:o<l.length:=by
      rcases Nat.lt_or_ge o l.length with h|h
      ·exact h
      ·exact absurd (List.drop_eq_nil_of_le h) hne
     simp;omega) (fun i t' ht=>by
     rw[List.getElem?_drop]at ht
     obtain⟨b,k1,k2⟩:=g6 _ _ ht
     exact⟨b,by rw[Nat.add_assoc];exact k1,k2⟩) h
    refine⟨b, ?_,q2⟩
    simp only[ares1,h3]
    simp only[aload]at q1
    exact q1
   ·cases h
  ·cases h
theorem tress_ok {ts:TFrm} {c:Cfg} {fr:Frm} (R:RM c A) (hf:FV c ts fr):∀(rs:List ResultVar) {vs:List TV},tress P nt ts c.tm rs=some vs→∃as,aress P nt fr c.m rs=some as∧LV c vs as
 |[],vs,h=>by simp only[tress,Option.some.injEq]at h;subst h;exact⟨[],rfl,LV.nil c⟩
 |x::rs,vs,h=>by
  simp only[tress]at h
  split at h
  ·rename_i v vs' h1 h2
   simp only[Option.some.injEq]at h
   subst h
   obtain⟨a,g1,g2⟩:=tres1_ok R hf h1
   obtain⟨as,q1,q2⟩:=tress_ok R hf rs h2
   exact⟨a::as,by simp only[aress,g1,q1],(LV.single g2).append q2⟩
  ·cases h
theorem tupled_rv {c:Cfg} {vs:List TV} {as:List AVal} (h:LV c vs as):RV c (tupT vs) (tupled as):=by
 match vs,as,h with
 |[],[],h=>exact .tup [] [] rfl (fun i t a h=>by simp at h)
 |[v],[a],h=>exact h.2 0 v a rfl rfl
 |v::v2::vs,a::a2::as,h=>exact .tup _ _ h.1 h.2
 |[],_::_,h=>exact absurd h.1 (by simp)
 |_::_,[],h=>exact absurd h.1 (by simp)
 |[_],_::_::_,h=>exact absurd h.1 (by simp)
 |_::_::_,[_],h=>exact absurd h.1 (by simp)
theorem renB_w (ρ:Nat→Option Nat) (b:TB):(renB ρ b).w=b.w∧(renB ρ b).k.shape=b.k.shape∧((renB ρ b).k= .dead↔b.k= .dead):=by
 unfold renB
 split
 ·rename_i l h;exact⟨rfl,by rw[h];rfl,by simp[h]⟩
 ·exact⟨rfl,rfl,Iff.rfl⟩
theorem renB_cells2 {ρ:Nat→Option Nat} {b:TB} {w:Bool} {l:List TV} (h:renB ρ b=⟨w, .cells l⟩):∃l0,b=⟨w, .cells l0⟩∧l=renL ρ l0:=by
 unfold renB at h
 split at h
 ·rename_i l0 hk
  obtain⟨bw,bk⟩:=b
  simp at h hk
  obtain⟨rfl,rfl⟩:=h
  subst hk
  exact⟨l0,rfl,rfl⟩
 ·rename_i hk
  subst h
  exact absurd rfl (hk l)
theorem renB_list2 {ρ:Nat→Option Nat} {b:TB} {w:Bool} {e:EK} {l:List e.T} (h:renB ρ b=⟨w, .list e l⟩):b=⟨w, .list e l⟩:=by
 unfold renB at h
 split at h
 ·simp at h
 ·exact h
theorem move2_ok {c:Cfg} (R:RM c A) {k:Nat} {e:EK} {l:List e.T} (h:c.tm[k]? =some ⟨true, .list e l⟩):
  ∃c',c'.tm=(c.tm.set k ⟨true, .dead⟩++([⟨true, .list e l⟩]:TMem)).map (renB fun i=>some (bif Nat.beq i k then c.tm.length else i))∧c'.m=c.m∧RM c' A∧Stp c c' A∧Rn (fun i=>some (bif Nat.beq i k then c.tm.length else i)) c c':=by
 obtain⟨c1,t1,m1,R1,S1,N1⟩:=move1_ok R h
 generalize hρ:(fun i:Nat=>some (bif Nat.beq i k then c.tm.length else i))=ρ at N1⊢
 have hget:∀(j:Nat) b,(c1.tm.map (renB ρ))[j]? =some b→∃b0,c1.tm[j]? =some b0∧b=renB ρ b0:=by
  intro j b hj
  rw[List.getElem?_map]at hj
  cases hq:c1.tm[j]? with
  |none=>rw[hq]at hj;cases hj
  |some b0=>rw[hq]at hj;exact⟨b0,rfl,by simpa using hj.symm⟩
 have hfwd:∀(j:Nat) b0,c1.tm[j]? =some b0→(c1.tm.map (renB ρ))[j]? =some (renB ρ b0):=fun j b0 hj=>by rw[List.getElem?_map,hj];rfl
 have M:Mv c1 ⟨c1.E,c1.tm.map (renB ρ),c1.m,c1.F,c1.N⟩:=
  ⟨by simp,fun _ _=>rfl,fun j b e n hj hs=>⟨_,hfwd j b hj, .inr ((renB_w ρ b).2.1.trans hs)⟩,fun j b hj hd=>⟨_,hfwd j b hj,(renB_w ρ b).2.2.2 hd⟩,fun n hn=>⟨hn,rfl⟩,fun n hn=>⟨hn,rfl⟩⟩
 have S2:Stp c1 ⟨c1.E,c1.tm.map (renB ρ),c1.m,c1.F,c1.N⟩ A:=
  ⟨M,fun j b hj hw=>⟨_,hfwd j b hj,(renB_w ρ b).1.trans hw,(renB_w ρ b).2.1,(renB_w ρ b).2.2⟩,Nat.le_refl _,fun _ _ _=>rfl,fun _ _ _=>rfl,fun _ _ q=>q,fun _ q=> .inl q,fun _ q=> .inl q⟩
 refine⟨⟨c1.E,c1.tm.map (renB ρ),c1.m,c1.F,c1.N⟩,by rw[←t1],m1, ?_,S1.trans S2, ?_⟩
 ·refine⟨fun j w l' hj=> ?_,fun j w e' l' hj=> ?_,fun j j' b b' n p n' p' hne hj hj' hw hd hd' hE hE'=> ?_,R1.fz,fun j b n p hj hd hE=> ?_,R1.nf,fun j ks hj=> ?_,R1.gv⟩
  ·obtain⟨b0,q0,q1⟩:=hget j _ hj
   obtain⟨l0,rfl,rfl⟩:=renB_cells2 q1.symm
   rw[t1]at q0
   have hjl:j<c.tm.length∧j≠k∧c.tm[j]? =some ⟨w, .cells l0⟩:=by
    by_cases hlt:j<c.tm.length
    ·rw[List.getElem?_append_left (by simpa using hlt),List.getElem?_set]at q0
     by_cases ek:k=j
     ·subst ek;simp[hlt]at q0
     ·rw[if_neg ek]at q0;exact⟨hlt,fun e=>ek e.symm,q0⟩
    ·rw[List.getElem?_append_right (by simp;omega)]at q0
     have:=List.getElem?_eq_some_iff.1 q0
     obtain⟨h1,h2⟩:=this
     simp at h1
     simp[show j-c.tm.length=0 by omega]at h2
   obtain⟨hlt,hne,hcj⟩:=hjl
   obtain⟨n,p,g1,g2,g3,g4,g5,g6⟩:=R.cells j w l0 hcj
   have hρj:ρ j=some j:=by
    rw[←hρ]
    cases hb:Nat.beq j k with
    |true=>exact absurd (Nat.eq_of_beq_eq_true hb) hne
    |false=>simp[hb]
   refine⟨n,p,(N1.e j j hρj hlt).trans g1,by rw[m1];exact g2,by rw[m1];exact g3,by rw[m1];exact g4,by rw[renL_map,List.length_map,m1];exact g5,fun i t ht=> ?_⟩
   obtain⟨u,u1,rfl⟩:=renL_get ht
   obtain⟨a,a1,a2⟩:=g6 i u u1
   exact⟨a,by rw[m1];exact a1,(a2.rn N1).mv M⟩
  ·obtain⟨b0,q0,q1⟩:=hget j _ hj
   have:=renB_list2 q1.symm
   subst this
   rcases R1.list j w e' l' q0 with g|⟨n,p,g1,g2,g3,g4,g5,g6⟩
   ·exact .inl g
   ·exact .inr ⟨n,p,g1,g2,g3,g4,g5,fun i x jj t r1 r2=>let ⟨a,s1,s2⟩:=g6 i x jj t r1 r2;⟨a,s1,s2.mv M⟩⟩
  ·obtain⟨b0,q0,rfl⟩:=hget j _ hj
   obtain⟨b0',q0',rfl⟩:=hget j' _ hj'
   exact R1.inj j j' b0 b0' n p n' p' hne q0 q0' ((renB_w ρ b0).1.symm.trans hw) (fun q=>hd ((renB_w ρ b0).2.2.2 q)) (fun q=>hd' ((renB_w ρ b0').2.2.2 q)) hE hE'
  ·obtain⟨b0,q0,rfl⟩:=hget j _ hj
   exact R1.low j b0 n p q0 (fun q=>hd ((renB_w ρ b0).2.2.2 q)) hE
  ·obtain⟨b0,q0,q1⟩:=hget j _ hj
   have:=renB_keys q1.symm
   subst this
   exact R1.keys j ks q0
 ·refine⟨fun i i' hi hlt=> ?_,fun i i' hi hlt=>N1.e i i' hi hlt,fun i i' b hi hb=> ?_,N1.fz,N1.nz⟩
  ·have:=N1.len i i' hi hlt
   simpa using this
  ·obtain⟨b',q1,q2⟩:=N1.sh i i' b hi hb
   refine⟨_,hfwd i' b' q1, ?_⟩
   rcases q2 with q2|⟨q2,q3⟩
   ·exact .inl ((renB_w ρ b').2.2.2 q2)
   ·exact .inr ⟨q2,(renB_w ρ b').2.1.trans q3⟩
theorem move_ok {K:List TV→TMem→Prop} {as:List AVal}:∀(ks:List Nat) {vs:List TV} {c:Cfg},moveB ks vs c.tm K→RM c A→LV c vs as→∃vs' c',K vs' c'.tm∧c'.m=c.m∧RM c' A∧LV c' vs' as∧Stp c c' A
 |[],vs,c,h,R,hv=>⟨vs,c,h,rfl,R,hv,Stp.refl _ _⟩
 |k::ks,vs,c,h,R,hv=>by
  simp only[moveB]at h
  split at h
  ·rename_i e l hb
   obtain⟨c1,g1,g2,g3,g4,g5⟩:=move2_ok R hb
   rw[←g1]at h
   obtain⟨vs',c',q1,q2,q3,q4,q5⟩:=move_ok ks h g3 (hv.rn g5)
   exact⟨vs',c',q1,q2.trans g2,q3,q4,g4.trans q5⟩
  ·exact move_ok ks h R hv
  ·exact h.elim
theorem fun_ok {f:FuncId} {fn:Func} {x:Code} {rs:List ResultVar} {Γ:List (Nat×Con)} {H:List (Nat×LH)} {WW:List (Nat×List (Nat×List Nat))} {shs:List Sh} {cons:List Nat} (hmix:P.follows .mixedOrders=true) (hfn:P.funcs[f]? =some fn)
  (hn:(fn.name== "runtime.NumGoroutine")=false) (hb:fn.body=some x) (ht:fn.ntmps=nt) (hr:fn.results=⟨rs⟩) (hΓ:GSound P Γ) {args:List TV} {K:TV→TMem→Prop} {c:Cfg}
  (h:TW P nt Γ H WW c.tm.length x (endT P nt rs shs cons c.tm.length K) (argsF args) c.tm) {A:Nat→Prop} {aargs:List AVal} (hA:∀n,A n→fl≤n) (hN:∀n,c.m.size≤n→A n) (R:RM c A) (hl:LV c args aargs):
  ∃v c' r,K r c'.tm∧RV c' r v∧DCalls P fl f aargs c.m v c'.m∧RM c' A∧Stp c c' A:=by
 have hfv:FV c (argsF args) (fargs aargs):=by
  refine⟨R.gv,fun i=> ?_⟩
  unfold argsF fargs
  rw[List.getD_eq_getElem?_getD,List.getD_eq_getElem?_getD]
  cases hi:args[i]? with
  |none=>
   have:aargs[i]? =none:=by
    rw[List.getElem?_eq_none_iff]at hi⊢
    rw[←hl.1];exact hi
   rw[this]
   exact .tup [] [] rfl (fun i t a h=>by simp at h)
  |some t=>
   obtain⟨a,h1,h2⟩:=hl.get hi
   rw[h1];exact h2
 have hw:=TW_ok (nt:=nt) hmix hΓ hA hN x _ _ c _ R hfv (Stp.refl c A) h
 obtain⟨v,m',⟨c',r,q,h1,h2,h3,h4,h5,h6⟩,hd⟩:=dcalls_of (Q:=fun v m'=>∃(c':Cfg) (r:TV) (q:Nat→Bool),c'.m=m'.view (fun _=>false) q∧(∀n,q n=true→A n)∧K r c'.tm∧RV c' r v∧RM c' A∧Stp c c' A) (fl:=fl) (m:=c.m) (args:=aargs) hfn hn hb (by
   rw[ht,hr]
   refine awp_mono hw fun e fr m' hq=> ?_
   obtain⟨ts,c1,r1,g1,g2,g3,g4,g5,g6⟩:=hq
   have fin:(match tress P nt ts c1.tm rs with
     |some vs=>moveB cons vs c1.tm fun vs tm=>match coeL shs vs tm with
      |some (vs,tm)=>canonT c.tm.length vs tm fun vs tm=>K (tupT vs) tm
      |none=>False
     |none=>False)→∃vs,aress P nt fr m' rs=some vs∧∃(c':Cfg) (r:TV) (q:Nat→Bool),c'.m=m'.view (fun _=>false) q∧(∀n,q n=true→A n)∧K r c'.tm∧RV c' r (tupled vs)∧RM c' A∧Stp c c' A:=by
    intro hh
    split at hh
    case h_2=>exact hh.elim
    rename_i vs hvs
    obtain⟨as,w1,w2⟩:=tress_ok g4 g5 rs hvs
    rw[g1,aress_view]at w1
    obtain⟨vs1,c2,k1,k2,k3,k4,k5⟩:=move_ok cons hh g4 w2
    split at k1
    case h_2=>exact k1.elim
    rename_i vs2 tm2 hco
    obtain⟨c3,rfl,s2,s3,s4,_⟩:=coeL_ok _ hco k3 k4
    obtain⟨vs4,c4,z1,z2,z3,z4,z5⟩:=canon_ok s2 ((g6.trans k5).trans s4.stp) s3 k1
    obtain⟨q,y1,y2⟩:=s4.gh
    obtain⟨q',x1,x2⟩:=ghost_trans (A:=A) (m:=m') (m1:=c4.m) g2 y1 (by rw[z2,y2,k2,g1])
    exact⟨as,w1,c4,_,q',x2,x1,z1,tupled_rv z5,z3,z4⟩
   cases e with
   |normal=>exact fin g3
   |ret=>exact fin g3
   |exit id=>exact g3.elim)
 refine⟨v,c',r,h3,h4, ?_,h5,h6⟩
 rw[h1]
 exact hd.weak fun n hn=> .inl (hA n (h2 n hn))
end ends
end Go.Ab
