/- What is proved here: the rules by which translated code is walked abstractly: sequences, branches, blocks, loops, regions seen through views, results, calls; memories of which less is asked. -/
import Derived.Test.YtigomgblkieahaaGreatDoorB4
namespace Go.Ab
open Go.RowKit
theorem view_dead {m:Mem} {z r:Nat→Bool} {n:Nat} (h:(m.blk n).mode= .dead):((m.view z r).blk n).mode= .dead:=by
 unfold Mem.view
 simp only
 split
 ·rfl
 ·split
  ·exact Blk.roify_dead.2 h
  ·exact h
inductive AExit where
 |normal
 |exit (id:Nat)
 |ret
 deriving DecidableEq
def AExit.to:AExit→Exit
 | .normal=> .normal
 | .exit id=> .exit id
 | .ret=> .ret
def DCode (P:Program) (nt fl:Nat) (c:Code) (ts:Frm) (m:Mem) (e:AExit) (ts':Frm) (m':Mem):Prop:=
 AStep fl m m'∧∀β w (a:Act),FRel β nt ts a.tmps→a.defers=[]→Sim β m w→Free β m m'→
  c.wp P (fun e' a' w'=>∃β',e'=e.to∧FRel β' nt ts' a'.tmps∧a'.defers=[]∧Post fl β m w m' β' w') a w
def AWp (P:Program) (nt fl:Nat) (c:Code) (Q:AExit→Frm→Mem→Prop) (ts:Frm) (m:Mem):Prop:=
 ∃e ts' m',Q e ts' m'∧DCode P nt fl c ts m e ts' m'
section rules
variable {P:Program} {nt fl:Nat} {Q:AExit→Frm→Mem→Prop} {ts:Frm} {m:Mem}
theorem awp_mono {c:Code} {Q':AExit→Frm→Mem→Prop} (h:AWp P nt fl c Q ts m) (hq:∀e ts m,Q e ts m→Q' e ts m):AWp P nt fl c Q' ts m:=
 let ⟨e,ts',m',q,d⟩:=h;⟨e,ts',m',hq _ _ _ q,d⟩
theorem awp_skip (h:Q .normal ts m):AWp P nt fl .skip Q ts m:=
 ⟨.normal,ts,m,h,AStep.refl _ _,fun β _ _ hl hd hs _=>wp_skip ⟨β,rfl,hl,hd,Post.refl hs⟩⟩
theorem awp_ret (h:Q .ret ts m):AWp P nt fl .ret Q ts m:=
 ⟨.ret,ts,m,h,AStep.refl _ _,fun β _ _ hl hd hs _=>wp_ret ⟨β,rfl,hl,hd,Post.refl hs⟩⟩
theorem awp_exit {id:Nat} (h:Q (.exit id) ts m):AWp P nt fl (.exit id) Q ts m:=
 ⟨.exit id,ts,m,h,AStep.refl _ _,fun β _ _ hl hd hs _=>wp_exit ⟨β,rfl,hl,hd,Post.refl hs⟩⟩
def Nx (K:Frm→Mem→Prop) (Q:AExit→Frm→Mem→Prop):AExit→Frm→Mem→Prop
 | .normal,ts,m=>K ts m
 |e,ts,m=>Q e ts m
theorem awp_seq {x y:Code} (h:∀K:Frm→Mem→Prop,(∀ts m,AWp P nt fl y Q ts m→K ts m)→AWp P nt fl x (Nx K Q) ts m):AWp P nt fl (.seq x y) Q ts m:=by
 obtain⟨e,ts1,m1,hq,d1,d2⟩:=h (fun ts m=>AWp P nt fl y Q ts m) fun _ _ h=>h
 cases e with
 |normal=>
  obtain⟨e,ts2,m2,hq2,d3,d4⟩:=hq
  refine⟨e,ts2,m2,hq2,d1.trans d3,fun β w a hl hd hs hf=>wp_seq (wp_mono (d2 β w a hl hd hs (hf.left d3.size)) ?_)⟩
  rintro e' a' w' ⟨β',rfl,hl',hd',hp'⟩
  refine wp_mono (d4 β' w' a' hl' hd' hp'.sim (hf.right d1.size hp')) ?_
  rintro e' a2 w2 ⟨β2,he,hl2,hd2,hp2⟩
  exact⟨β2,he,hl2,hd2,hp'.trans d1 d3 hp2⟩
 |exit id=>
  refine⟨.exit id,ts1,m1,hq,d1,fun β w a hl hd hs hf=>wp_seq (wp_mono (d2 β w a hl hd hs hf) ?_)⟩
  rintro e' a' w' ⟨β',rfl,hl',hd',hp'⟩
  exact⟨β',rfl,hl',hd',hp'⟩
 |ret=>
  refine⟨.ret,ts1,m1,hq,d1,fun β w a hl hd hs hf=>wp_seq (wp_mono (d2 β w a hl hd hs hf) ?_)⟩
  rintro e' a' w' ⟨β',rfl,hl',hd',hp'⟩
  exact⟨β',rfl,hl',hd',hp'⟩
theorem awp_cond {c:Operand} {x y:Code} {t:Bool} (hc:aev nt ts c= .bool t) (h:AWp P nt fl (if t then x else y) Q ts m):AWp P nt fl (.cond c x y) Q ts m:=by
 obtain⟨e,ts1,m1,hq,d1,d2⟩:=h
 refine⟨e,ts1,m1,hq,d1,fun β w a hl hd hs hf=>wp_cond (t:=t) ?_ (d2 β w a hl hd hs hf)⟩
 have:=hl.aev hs.glb c
 rw[hc]at this
 generalize a.eval c=q at this
 cases this
 rfl
theorem awp_if {c:Operand} {x y:Code} {t:Bool} (hc:aev nt ts c= .bool t) (h1:t=true→AWp P nt fl x Q ts m) (h2:t=false→AWp P nt fl y Q ts m):AWp P nt fl (.cond c x y) Q ts m:=by
 refine awp_cond hc ?_
 cases t
 ·exact h2 rfl
 ·exact h1 rfl
def Caught (id:Nat) (Q:AExit→Frm→Mem→Prop):AExit→Frm→Mem→Prop
 | .exit id',ts,m=>if id'=id then Q .normal ts m else Q (.exit id') ts m
 |e,ts,m=>Q e ts m
theorem awp_block {id:Nat} {c:Code} (h:AWp P nt fl c (Caught id Q) ts m):AWp P nt fl (.block id c) Q ts m:=by
 obtain⟨e,ts1,m1,hq,d1,d2⟩:=h
 cases e with
 |normal=>
  refine⟨.normal,ts1,m1,hq,d1,fun β w a hl hd hs hf=>wp_block (wp_mono (d2 β w a hl hd hs hf) ?_)⟩
  rintro e' a' w' ⟨β',rfl,hl',hd',hp'⟩
  exact⟨β',rfl,hl',hd',hp'⟩
 |ret=>
  refine⟨.ret,ts1,m1,hq,d1,fun β w a hl hd hs hf=>wp_block (wp_mono (d2 β w a hl hd hs hf) ?_)⟩
  rintro e' a' w' ⟨β',rfl,hl',hd',hp'⟩
  exact⟨β',rfl,hl',hd',hp'⟩
 |exit id'=>
  by_cases he:id'=id
  ·simp only[Caught,he,if_true]at hq
   refine⟨.normal,ts1,m1,hq,d1,fun β w a hl hd hs hf=>wp_block (wp_mono (d2 β w a hl hd hs hf) ?_)⟩
   rintro e' a' w' ⟨β',rfl,hl',hd',hp'⟩
   simp only[AExit.to,Exit.inBlock,he,if_true]
   exact⟨β',trivial,hl',hd',hp'⟩
  ·simp only[Caught,he,if_false]at hq
   refine⟨.exit id',ts1,m1,hq,d1,fun β w a hl hd hs hf=>wp_block (wp_mono (d2 β w a hl hd hs hf) ?_)⟩
   rintro e' a' w' ⟨β',rfl,hl',hd',hp'⟩
   simp only[AExit.to,Exit.inBlock,he,if_false]
   exact⟨β',trivial,hl',hd',hp'⟩
inductive LTr (P:Program) (nt fl:Nat) (c:Code) (e:AExit) (ts':Frm) (m':Mem):Nat→Frm→Mem→Prop where
 |last (ts:Frm) (m:Mem) (n:Nat) (he:e≠ .normal) (h:DCode P nt fl c ts m e ts' m'):LTr P nt fl c e ts' m' n ts m
 |more (ts:Frm) (m:Mem) (ts1:Frm) (m1:Mem) (n:Nat) (h:DCode P nt fl c ts m .normal ts1 m1) (r:LTr P nt fl c e ts' m' n ts1 m1):LTr P nt fl c e ts' m' (n+1) ts m
theorem LTr.step {c:Code} {e:AExit} {ts':Frm} {m':Mem} {n:Nat} (h:LTr P nt fl c e ts' m' n ts m):AStep fl m m':=by
 induction h with
 |last ts m n he h=>exact h.1
 |more ts m ts1 m1 n h _ ih=>exact h.1.trans ih
theorem dcode_loop {c:Code} {e:AExit} {ts':Frm} {m':Mem} {n:Nat} (h:LTr P nt fl c e ts' m' n ts m):DCode P nt fl (.loop c) ts m e ts' m':=by
 refine⟨h.step,fun β0 w0 a0 hl0 hd0 hs0 hf0=> ?_⟩
 refine wp_loop_ghost (fun j a w=>∃ts1 m1 β,LTr P nt fl c e ts' m' j ts1 m1∧FRel β nt ts1 a.tmps∧a.defers=[]∧AStep fl m m1∧Post fl β0 m w0 m1 β w) n ⟨ts,m,β0,h,hl0,hd0,AStep.refl _ _,Post.refl hs0⟩ ?_
 rintro j a w ⟨ts1,m1,β,hr,hl,hd,hst,hp⟩
 have hfree:Free β m1 m':=hf0.right hst.size hp
 cases hr with
 |last _ _ _ he h1=>
  refine wp_mono (h1.2 β w a hl hd hp.sim hfree) ?_
  rintro e' a' w' ⟨β',rfl,hl',hd',hp'⟩
  have:∃β',FRel β' nt ts' a'.tmps∧a'.defers=[]∧Post fl β0 m w0 m' β' w':=⟨β',hl',hd',hp.trans hst h1.1 hp'⟩
  obtain⟨β'',g1,g2,g3⟩:=this
  cases e with
  |normal=>exact absurd rfl he
  |exit id=>exact⟨β'',rfl,g1,g2,g3⟩
  |ret=>exact⟨β'',rfl,g1,g2,g3⟩
 |more _ _ ts2 m2 j' h1 hr'=>
  refine wp_mono (h1.2 β w a hl hd hp.sim (hfree.left hr'.step.size)) ?_
  rintro e' a' w' ⟨β',rfl,hl',hd',hp'⟩
  exact⟨j',Nat.lt_succ_self _,ts2,m2,β',hr',hl',hd',hst.trans h1.1,hp.trans hst h1.1 hp'⟩
theorem awp_loop {c:Code} (I:Nat→Frm→Mem→Prop) (n:Nat) (h0:I n ts m)
  (round:∀n ts m,I n ts m→∀K:Frm→Mem→Prop,(∀n' ts m,n'<n→I n' ts m→K ts m)→AWp P nt fl c (Nx K Q) ts m):AWp P nt fl (.loop c) Q ts m:=by
 have key:∀n ts m,I n ts m→∃e ts' m' k,Q e ts' m'∧LTr P nt fl c e ts' m' k ts m:=by
  intro n
  induction n using Nat.strongRecOn with
  |_ n ih=>
   intro ts m hI
   obtain⟨e,ts1,m1,hq,d⟩:=round n ts m hI (fun ts m=>∃n',n'<n∧I n' ts m) fun n' ts m h1 h2=>⟨n',h1,h2⟩
   cases e with
   |normal=>
    obtain⟨n',hlt,hI'⟩:=hq
    obtain⟨e,ts',m',k,hq',ht⟩:=ih n' hlt ts1 m1 hI'
    exact⟨e,ts',m',k+1,hq', .more _ _ _ _ _ d ht⟩
   |exit id=>exact⟨.exit id,ts1,m1,0,hq, .last _ _ _ (by simp) d⟩
   |ret=>exact⟨.ret,ts1,m1,0,hq, .last _ _ _ (by simp) d⟩
 obtain⟨e,ts',m',k,hq,ht⟩:=key n ts m h0
 exact⟨e,ts',m',hq,dcode_loop ht⟩
theorem awp_less {c:Code} {ts0:Frm} (hle:∀i,ts i=AVal.any∨ts i=ts0 i) (h:AWp P nt fl c Q ts m):AWp P nt fl c Q ts0 m:=by
 obtain⟨e,ts',m',hq,d1,d2⟩:=h
 refine⟨e,ts',m',hq,d1,fun β w a hl=>d2 β w a ⟨hl.1,fun i v h2=> ?_⟩⟩
 rcases hle i with h3|h3
 ·rw[h3];exact .any v
 ·rw[h3];exact hl.2 i v h2
theorem awp_cut {x y:Code} (J:Frm→Mem→Prop) (h:∀K:Frm→Mem→Prop,(∀ts m,J ts m→K ts m)→AWp P nt fl x (Nx K Q) ts m) (k:∀ts m,J ts m→AWp P nt fl y Q ts m):AWp P nt fl (.seq x y) Q ts m:=
 awp_seq fun K hK=>h K fun ts m hj=>hK ts m (k ts m hj)
theorem awp_ghost {c:Code} {r:Nat→Bool} (hr:∀n,r n=true→fl≤n) (h:AWp P nt fl c Q ts (m.view (fun _=>false) r)):AWp P nt fl c Q ts m:=by
 obtain⟨e,ts',m',hq,d1,d2⟩:=h
 have hb:∀n,n<fl→(m.view (fun _=>false) r).blk n=m.blk n:=fun n hn=>by
  have:r n=false:=by
   cases h:r n
   ·rfl
   ·have:=hr n h;omega
  simp[Mem.view,this]
 refine⟨e,ts',m',hq,⟨d1.size,fun n hn hf=>(d1.same n hn hf).trans (hb n hf),fun n hn=>⟨fun h=> ?_,fun h=>(d1.mode n hn).2 ?_⟩⟩,fun β w a hl hd hs hf=> ?_⟩
 ·have:=(d1.mode n hn).1 h
  have h2:=view_rw this
  rw[←h2.2.2];exact this
 ·exact view_dead h
 ·refine wp_mono (d2 β w a hl hd (sim_view hs) hf) ?_
  rintro e' a' w' ⟨β',h1,h2,h3,h4⟩
  have may:∀k,MayWrite fl β (m.view (fun _=>false) r) k→MayWrite fl β m k:=by
   rintro k ⟨n,p,g1,g2,g3,g4,g5⟩
   have:=view_rw g4
   rw[this.2.2]at g4
   exact⟨n,p,g1,g2,g3,g4,g5⟩
  exact⟨β',h1,h2,h3,⟨h4.sim,h4.ext,fun n p g1 g2 g3=>(h4.nb n p g1 g2 g3).imp id (may _),fun k hk hm=>h4.fr k hk fun q=>hm (may k q),h4.os,h4.tape,h4.output,h4.size⟩⟩
end rules
theorem DCalls.weak {P:Program} {fl:Nat} {f:FuncId} {args:List AVal} {m m':Mem} {v:AVal} {r:Nat→Bool} (hr:∀n,r n=true→fl≤n∨m.size≤n) (h:DCalls P fl f args m v m'):DCalls P fl f args m v (m'.view (fun _=>false) r):=by
 refine⟨h.1,⟨h.2.1.size,fun n hn hf=> ?_,fun n hn=>⟨fun q=> ?_,fun q=> ?_⟩⟩,fun β w cargs hl hs hf=>(h.2.2 β w cargs hl hs hf).mono ?_⟩
 ·have:r n=false:=by
   cases h:r n
   ·rfl
   ·rcases hr n h with h|h<;>omega
  rw[←h.2.1.same n hn hf]
  simp[Mem.view,this]
 ·have h2:=view_rw q
  rw[h2.2.2]at q
  exact(h.2.1.mode n hn).1 q
 ·exact view_dead ((h.2.1.mode n hn).2 q)
 ·rintro e w' ⟨cv,β',h1,h2,h3⟩
  exact⟨cv,β',h1,h2,⟨sim_view h3.sim,h3.ext,h3.nb,h3.fr,h3.os,h3.tape,h3.output,h3.size⟩⟩
theorem DOp.weak {P:Program} {fl:Nat} {o:Oper} {ρa:Operand→AVal} {m m':Mem} {v:AVal} {r:Nat→Bool} (hr:∀n,r n=true→fl≤n∨m.size≤n) (h:DOp P fl o ρa m v m'):DOp P fl o ρa m v (m'.view (fun _=>false) r):=by
 refine⟨⟨h.1.size,fun n hn hf=> ?_,fun n hn=>⟨fun q=> ?_,fun q=> ?_⟩⟩,fun β w a hρ hs hf K Q hK=>h.2 β w a hρ hs hf K Q fun cv β' w' hv h3=>hK cv β' w' hv ⟨sim_view h3.sim,h3.ext,h3.nb,h3.fr,h3.os,h3.tape,h3.output,h3.size⟩⟩
 ·have:r n=false:=by
   cases h:r n
   ·rfl
   ·rcases hr n h with h|h<;>omega
  rw[←h.1.same n hn hf]
  simp[Mem.view,this]
 ·have h2:=view_rw q
  rw[h2.2.2]at q
  exact(h.1.mode n hn).1 q
 ·exact view_dead ((h.1.mode n hn).2 q)
theorem DOp.view {P:Program} {fl:Nat} {o:Oper} {ρa:Operand→AVal} {z r:Nat→Bool} {m mv:Mem} {v:AVal} (h:DOp P fl o ρa (m.view z r) v mv):DOp P fl o ρa m v (m.glue z r mv):=
 ⟨astep_view h.1,fun β w a hρ hs hf K Q hK=>h.2 β w a hρ (sim_view hs) hf K Q fun cv β' w' hv hp=>hK cv β' w' hv (post_glue h.1 hs hf hp)⟩
def masksGo:List Oper→List Nat→List Nat
 |[],acc=>acc
 |o::rest,acc=>masksGo rest (acc++[o.after.toList.foldl (fun s e=>if Region.binds .any e then s|||2^e.on|||acc.getD e.on 0 else s) 0])
def masks (ops:List Oper):List Nat:=masksGo ops []
def bit (ms:List Nat) (i j:Nat):Bool:=(ms.getD j 0).testBit i
theorem masksGo_sound (ops:Array Oper):∀(rest:List Oper) (acc:List Nat),(∀i j,(acc.getD j 0).testBit i=true→Before ops i j)→(∀k o,rest[k]? =some o→ops[acc.length+k]? =some o)→
  ∀i j,((masksGo rest acc).getD j 0).testBit i=true→Before ops i j:=by
 intro rest
 induction rest with
 |nil=>intro acc h _;exact h
 |cons o rest ih=>
  intro acc h hr
  have ho:ops[acc.length]? =some o:=by simpa using hr 0 o (by simp)
  refine ih _ (fun i j hb=> ?_) (fun k o' hk=> ?_)
  ·rw[List.getD_eq_getElem?_getD,List.getElem?_append]at hb
   by_cases hj:j<acc.length
   ·rw[if_pos hj]at hb
    exact h i j (by rw[List.getD_eq_getElem?_getD];exact hb)
   ·rw[if_neg hj]at hb
    by_cases e:j=acc.length
    ·subst e
     simp only[Nat.sub_self,List.getElem?_cons_zero,Option.getD_some]at hb
     have key:∀(es:List Edge) (s:Nat),(∀e∈es,e∈o.after)→(s.testBit i=true→Before ops i acc.length)→
       (es.foldl (fun s e=>if Region.binds .any e then s|||2^e.on|||acc.getD e.on 0 else s) s).testBit i=true→Before ops i acc.length:=by
      intro es
      induction es with
      |nil=>intro s _ hs hb;exact hs hb
      |cons e es ihe=>
       intro s hes hs hb
       rw[List.foldl_cons]at hb
       refine ihe _ (fun e' he'=>hes e' (by simp[he'])) ?_ hb
       intro hb'
       split at hb'
       ·rename_i hbind
        rw[Nat.testBit_or,Nat.testBit_or,Bool.or_eq_true,Bool.or_eq_true]at hb'
        have hea:e∈o.after:=hes e (by simp)
        rcases hb' with(hb'|hb')|hb'
        ·exact hs hb'
        ·rw[Nat.testBit_two_pow]at hb'
         have:e.on=i:=by simpa using hb'
         rw[←this]
         exact .edge _ o e ho hea hbind
        ·exact .trans _ _ o e ho hea hbind (h i e.on hb')
       ·exact hs hb'
     exact key _ 0 (fun e he=>by simpa using he) (fun h=>by simp at h) hb
    ·have:j-acc.length=(j-acc.length-1)+1:=by omega
     rw[this]at hb
     simp at hb
  ·have:=hr (k+1) o' (by simpa using hk)
   simp only[List.length_append,List.length_cons,List.length_nil]
   rw[show acc.length+(0+1)+k=acc.length+(k+1) by omega]
   exact this
theorem bit_sound {ops:Array Oper} {i j:Nat} (h:bit (masks ops.toList) i j=true):Before ops i j:=
 masksGo_sound ops ops.toList [] (fun i j h=>by simp at h) (fun k o h=>by simpa using h) i j h
def sharesB (x y:Option Tmp×List Tmp):Bool:=
 (match x.1 with|some d=>y.2.contains d||y.1==some d|none=>false)||(match y.1 with|some d=>x.2.contains d|none=>false)
theorem sharesB_of {ops:Array Oper} {x y:Oper} (h:Shares ops x y):sharesB (x.dst,looksAt ops x) (y.dst,looksAt ops y)=true:=by
 unfold sharesB
 rcases h with⟨d,h1,h2⟩|⟨d,h1,h2⟩
 ·simp only[h1,Bool.or_eq_true,List.contains_iff_mem,beq_iff_eq]
  exact .inl h2
 ·simp only[h1,Bool.or_eq_true,List.contains_iff_mem]
  exact .inr h2
def regionOk (ops:Array Oper):Bool:=
 let ms:=masks ops.toList
 let info:=ops.toList.map fun o=>(o.dst,looksAt ops o)
 (ops.toList.zipIdx.all fun p=>p.1.after.toList.all fun e=> !Region.binds .any e||decide (e.on<p.2))&&
 (info.zipIdx.all fun y=>info.zipIdx.all fun x=> !decide (x.2<y.2)|| !sharesB x.1 y.1||bit ms x.2 y.2)
theorem regionOk_back {ops:Array Oper} (h:regionOk ops=true):∀(j:Nat) o e,ops[j]? =some o→e∈o.after→Region.binds .any e=true→e.on<j:=by
 intro j o e ho he hb
 unfold regionOk at h
 simp only[Bool.and_eq_true,List.all_eq_true]at h
 have hm:(o,j)∈ops.toList.zipIdx:=by
  rw[List.mem_zipIdx_iff_getElem?]
  simpa using ho
 have:=h.1 (o,j) hm e (by simpa using he)
 rw[hb]at this
 simpa using this
theorem regionOk_temps {ops:Array Oper} (h:regionOk ops=true):∀(i j:Nat) x y,i<j→ops[i]? =some x→ops[j]? =some y→Shares ops x y→Before ops i j:=by
 intro i j x y hij hx hy hs
 unfold regionOk at h
 simp only[Bool.and_eq_true,List.all_eq_true]at h
 have hmx:((x.dst,looksAt ops x),i)∈(ops.toList.map fun o=>(o.dst,looksAt ops o)).zipIdx:=by
  rw[List.mem_zipIdx_iff_getElem?]
  simp[hx]
 have hmy:((y.dst,looksAt ops y),j)∈(ops.toList.map fun o=>(o.dst,looksAt ops o)).zipIdx:=by
  rw[List.mem_zipIdx_iff_getElem?]
  simp[hy]
 have:=h.2 _ hmy _ hmx
 rw[sharesB_of hs]at this
 simp[hij]at this
 exact bit_sound this
def pureO:Op→Bool
 | .move _=>true
 | .assign _=>true
 | .binOp .. =>true
 | .fieldAddr .. =>true
 | .extract .. =>true
 | .unOp .. =>true
 | .slice .. =>true
 |_=>false
def allocO:Op→Bool
 | .alloc _=>true
 |_=>false
def blO (op:Op):Bool:=pureO op||allocO op
def sepP (ops:Array Oper) (i:Nat):Bool:=
 let ms:=masks ops.toList
 (List.range ops.size).all fun k=>Nat.beq k i||bit ms k i||bit ms i k||pureO ((ops[k]?).map (·.op)|>.getD (.move (.tmp 0)))||(Nat.blt i k&&allocO ((ops[k]?).map (·.op)|>.getD (.move (.tmp 0))))
theorem sepP_sound {ops:Array Oper} {i:Nat} (h:sepP ops i=true):∀k o,ops[k]? =some o→k≠i→Before ops k i∨Before ops i k∨pureO o.op=true∨(i<k∧allocO o.op=true):=by
 intro k o ho hne
 have hk:k<ops.size:=by
  rcases Nat.lt_or_ge k ops.size with h|h
  ·exact h
  ·simp[Array.getElem?_eq_none h]at ho
 unfold sepP at h
 simp only[List.all_eq_true]at h
 have h:=h k (List.mem_range.2 hk)
 simp only[Bool.or_eq_true,Bool.and_eq_true,ho,Option.map_some,Option.getD_some]at h
 rcases h with(((h|h)|h)|h)|h
 ·exact absurd (Nat.eq_of_beq_eq_true h) hne
 ·exact .inl (bit_sound h)
 ·exact .inr (.inl (bit_sound h))
 ·exact .inr (.inr (.inl h))
 ·exact .inr (.inr (.inr ⟨Nat.le_of_ble_eq_true h.1,h.2⟩))
def ldO:Op→Bool
 | .load .. =>true
 |_=>false
def stillO (op:Op):Bool:=pureO op||ldO op
def sepL (ops:Array Oper) (i:Nat):Bool:=
 let ms:=masks ops.toList
 (List.range ops.size).all fun k=>Nat.beq k i||bit ms k i||bit ms i k||(pureO ((ops[k]?).map (·.op)|>.getD (.move (.tmp 0)))||ldO ((ops[k]?).map (·.op)|>.getD (.move (.tmp 0))))||(Nat.blt i k&&allocO ((ops[k]?).map (·.op)|>.getD (.move (.tmp 0))))
theorem sepL_sound {ops:Array Oper} {i:Nat} (h:sepL ops i=true):∀k o,ops[k]? =some o→k≠i→Before ops k i∨Before ops i k∨(pureO o.op=true∨ldO o.op=true)∨(i<k∧allocO o.op=true):=by
 intro k o ho hne
 have hk:k<ops.size:=by
  rcases Nat.lt_or_ge k ops.size with h|h
  ·exact h
  ·simp[Array.getElem?_eq_none h]at ho
 unfold sepL at h
 simp only[List.all_eq_true]at h
 have h:=h k (List.mem_range.2 hk)
 simp only[Bool.or_eq_true,Bool.and_eq_true,ho,Option.map_some,Option.getD_some]at h
 rcases h with(((h|h)|h)|h)|h
 ·exact absurd (Nat.eq_of_beq_eq_true h) hne
 ·exact .inl (bit_sound h)
 ·exact .inr (.inl (bit_sound h))
 ·exact .inr (.inr (.inl h))
 ·exact .inr (.inr (.inr ⟨Nat.le_of_ble_eq_true h.1,h.2⟩))
def sepB (ops:Array Oper) (i:Nat):Bool:=
 let ms:=masks ops.toList
 (List.range ops.size).all fun k=>(!decide (k<i)||bit ms k i)&&(!decide (i<k)||bit ms i k)
theorem sepB_sound {ops:Array Oper} {i:Nat} (h:sepB ops i=true) (hi:i<ops.size):(∀k,k<i→Before ops k i)∧(∀k,k<ops.size→i<k→Before ops i k):=by
 unfold sepB at h
 simp only[List.all_eq_true,Bool.and_eq_true]at h
 refine⟨fun k hk=> ?_,fun k hk hik=> ?_⟩
 ·have:=(h k (List.mem_range.2 (by omega))).1
  simp[hk]at this
  exact bit_sound this
 ·have:=(h k (List.mem_range.2 hk)).2
  simp[hik]at this
  exact bit_sound this
def AOp1 (P:Program) (nt:Nat) (gd:Nat→Option Tmp) (z r:Nat→Nat→Bool) (fl:Nat) (i:Nat) (o:Oper) (K:Frm→Mem→Prop) (ts:Frm) (m:Mem):Prop:=
 match awanted nt gd ts o with
 |none=>False
 |some false=>K (aput ts o.dst aundef) m
 |some true=>∃v mv,DOp P fl o (aev nt ts) (m.view (z i) (r i)) v mv∧(stillO o.op=true→(∃n,z i n=true)→(m.glue (z i) (r i) mv).size=m.size)∧K (aput ts o.dst v) (m.glue (z i) (r i) mv)
def AOps (P:Program) (nt:Nat) (gd:Nat→Option Tmp) (z r:Nat→Nat→Bool) (fl:Nat) (Q:Frm→Mem→Prop):List Oper→Nat→Frm→Mem→Prop
 |[],_,ts,m=>Q ts m
 |o::rest,i,ts,m=>AOp1 P nt gd z r fl i o (fun ts m=>AOps P nt gd z r fl Q rest (i+1) ts m) ts m
structure Steps' (P:Program) (nt:Nat) (ops:Array Oper) (fl:Nat) (z r:Nat→Nat→Bool) (i:Nat) (ts0:Frm) (m0:Mem) (Q:Frm→Mem→Prop) where
 ts:Nat→Frm
 m:Nat→Mem
 v:Nat→AVal
 ts_i:ts i=ts0
 m_i:m i=m0
 step:∀k o,i≤k→ops[k]? =some o→RStep P nt ops fl (z k) (r k) o (ts k) (m k) (v k) (ts (k+1)) (m (k+1))
 still:∀k o,i≤k→ops[k]? =some o→stillO o.op=true→(∃n,z k n=true)→(m (k+1)).size=(m k).size
 post:Q (ts ops.size) (m ops.size)
theorem steps_of_aops {P:Program} {nt:Nat} {ops:Array Oper} {fl:Nat} {z r:Nat→Nat→Bool} {Q:Frm→Mem→Prop}:∀(rest:List Oper) (i:Nat) (ts0:Frm) (m0:Mem),ops.toList.drop i=rest→i≤ops.size→AOps P nt (gdOf ops) z r fl Q rest i ts0 m0→
  Nonempty (Steps' P nt ops fl z r i ts0 m0 Q):=by
 intro rest
 induction rest with
 |nil=>
  intro i ts0 m0 hd hi h
  have:i=ops.size:=by
   have:=congrArg List.length hd
   simp at this
   omega
  subst this
  exact⟨⟨fun _=>ts0,fun _=>m0,fun _=>aundef,rfl,rfl,fun k o h1 h2=>by simp[Array.getElem?_eq_none h1]at h2,fun k o h1 h2=>by simp[Array.getElem?_eq_none h1]at h2,h⟩⟩
 |cons o rest ih=>
  intro i ts0 m0 hd hi h
  have hin:i<ops.size:=by
   rcases Nat.lt_or_ge i ops.size with h'|h'
   ·exact h'
   ·rw[List.drop_eq_nil_of_le (by simpa using h')]at hd;cases hd
  have ho:ops[i]? =some o:=by
   have h2:ops.toList[i]? =some o:=by
    have:=List.getElem?_drop (xs:=ops.toList) (i:=i) (j:=0)
    rw[hd]at this
    simpa using this.symm
   simpa using h2
  have hrest:ops.toList.drop (i+1)=rest:=by
   rw[←List.tail_drop,hd];rfl
  have build:∀(ts1:Frm) (m1:Mem) (v:AVal),RStep P nt ops fl (z i) (r i) o ts0 m0 v ts1 m1→(stillO o.op=true→(∃n,z i n=true)→m1.size=m0.size)→Nonempty (Steps' P nt ops fl z r (i+1) ts1 m1 Q)→Nonempty (Steps' P nt ops fl z r i ts0 m0 Q):=by
   rintro ts1 m1 v hr hq ⟨S⟩
   refine⟨⟨fun k=>if k≤i then ts0 else S.ts k,fun k=>if k≤i then m0 else S.m k,fun k=>if k≤i then v else S.v k,by simp,by simp,fun k o' h1 h2=> ?_,fun k o' h1 h2 h3 h4=> ?_, ?_⟩⟩
   ·by_cases e:k=i
    ·subst e
     rw[ho]at h2
     simp at h2
     subst h2
     simp only[Nat.le_refl,if_true,if_neg (show ¬(k+1≤k) by omega)]
     rw[S.ts_i,S.m_i]
     exact hr
    ·simp only[if_neg (show ¬(k≤i) by omega),if_neg (show ¬(k+1≤i) by omega)]
     exact S.step k o' (by omega) h2
   ·by_cases e:k=i
    ·subst e
     rw[ho]at h2
     simp at h2
     subst h2
     simp only[Nat.le_refl,if_true,if_neg (show ¬(k+1≤k) by omega)]
     rw[S.m_i]
     exact hq h3 h4
    ·simp only[if_neg (show ¬(k≤i) by omega),if_neg (show ¬(k+1≤i) by omega)]
     exact S.still k o' (by omega) h2 h3 h4
   ·simp only[if_neg (show ¬(ops.size≤i) by omega)]
    exact S.post
  simp only[AOps,AOp1]at h
  split at h
  ·exact h.elim
  ·rename_i hw
   exact build _ _ aundef ⟨rfl, .inl ⟨hw,rfl,rfl⟩⟩ (fun _ _=>rfl) (ih _ _ _ hrest hin h)
  ·rename_i hw
   obtain⟨v,mv,hd',hq,h⟩:=h
   exact build _ _ v ⟨rfl, .inr ⟨hw,mv,hd',rfl⟩⟩ hq (ih _ _ _ hrest hin h)
section rules
variable {P:Program} {nt fl:Nat} {Q:AExit→Frm→Mem→Prop} {ts:Frm} {m:Mem}
theorem seq_steps {ops:Array Oper} {z r:Nat→Nat→Bool} {Q':Frm→Mem→Prop} (S:Steps' P nt ops fl z r 0 ts m Q'):∀d k,k+d=ops.size→AStep fl (S.m k) (S.m ops.size)∧
  ∀β w (a:Act),FRel β nt (S.ts k) a.tmps→a.defers=[]→Sim β (S.m k) w→Free β (S.m k) (S.m ops.size)→∀QQ:Exit→Act→World→Prop,
   (∀a' β' w',FRel β' nt (S.ts ops.size) a'.tmps→a'.defers=[]→Post fl β (S.m k) w (S.m ops.size) β' w'→QQ .normal a' w')→wpOps P ops QQ (List.range' k d) a w:=by
 intro d
 induction d with
 |zero=>
  intro k hk
  have:k=ops.size:=by omega
  subst this
  exact⟨AStep.refl _ _,fun β w a hl hd hs _ QQ hQ=>hQ a β w hl hd (Post.refl hs)⟩
 |succ d ih=>
  intro k hk
  obtain⟨st,go⟩:=ih (k+1) (by omega)
  have hkn:k<ops.size:=by omega
  have ho:ops[k]? =some ops[k]:=Array.getElem?_eq_getElem hkn
  have hr:=S.step k _ (Nat.zero_le _) ho
  refine⟨hr.step.trans st,fun β w a hl hd hs hf QQ hQ=> ?_⟩
  rw[List.range'_succ,wpOps_cons]
  unfold wpOp
  simp only[ho]
  obtain⟨h1,h2⟩:=hr
  rcases h2 with⟨hw,hv,hm⟩|⟨hw,mv,hdop,hm⟩
  ·have hwant:Region.wanted ops[k] (yielded ops a.tmps)=false:=wanted_of (β:=β) hl.1 (fun g want d' _ _ v hv=>hl.2 d' v hv) hw
   rw[if_neg (by rw[hwant];simp)]
   rw[hm]at go
   refine go β w (a.put ops[k].dst undef) ?_ (by cases ops[k].dst<;>exact hd) hs hf QQ fun a' β' w' q1 q2 q3=>hQ a' β' w' q1 q2 q3
   rw[h1,hv]
   exact frel_put hl _ (aundef_rel β)
  ·have hwant:Region.wanted ops[k] (yielded ops a.tmps)=true:=wanted_of (β:=β) hl.1 (fun g want d' _ _ v hv=>hl.2 d' v hv) hw
   rw[if_pos hwant]
   have hdop':=hdop.view
   rw[←hm]at hdop'
   refine .inl (hdop'.2 β w a (fun x _=>hl.aev hs.glb x) hs (hf.left st.size) _ _ fun cv β' w' hv hp=> ?_)
   refine go β' w' _ ?_ (by cases ops[k].dst<;>exact hd) hp.sim (hf.right hdop'.1.size hp) QQ fun a' β2 w2 q1 q2 q3=>hQ a' β2 w2 q1 q2 (hp.trans hdop'.1 st q3)
   rw[h1]
   exact frel_put (hl.mono (hp.le (hf.left st.size))) _ hv
theorem awp_region_seq {id:Nat} {ops:Array Oper} {z r:Nat→Nat→Bool} (h:AOps P nt (gdOf ops) z r fl (fun ts m=>Q .normal ts m) ops.toList 0 ts m):AWp P nt fl (.region id ops false) Q ts m:=by
 obtain⟨S⟩:=steps_of_aops _ 0 ts m rfl (Nat.zero_le _) h
 obtain⟨st,go⟩:=seq_steps S ops.size 0 (by omega)
 refine⟨.normal,S.ts ops.size,S.m ops.size,S.post, ?_,fun β w a hl hd hs hf=>wp_region ?_⟩
 ·rw[S.m_i]at st;exact st
 ·rw[S.ts_i,S.m_i]at go
  have:=go β w a hl hd hs hf (fun e' a' w'=>∃β',e'=AExit.normal.to∧FRel β' nt (S.ts ops.size) a'.tmps∧a'.defers=[]∧Post fl β m w (S.m ops.size) β' w') fun a' β' w' q1 q2 q3=>⟨β',rfl,q1,q2,q3⟩
  rw[List.range_eq_range']
  exact this
theorem awp_region_draw {id : Nat} {ops : Array Oper} {z r : Nat → Nat → Bool} (hm : P.follows .mixedOrders = true) (hok : regionOk ops = true)
    (hpure : ∀ k o, ops[k]? = some o → blO o.op = true → ∀ n, z k n = true)
    (hsep : ∀ i n, i < ops.size → z i n = false → r i n = false → sepP ops i = true ∨ (sepL ops i = true ∧ ∀ k o, ops[k]? = some o → ldO o.op = true → z k n = true) ∨ (n < m.size ∧ ∀ k, k < ops.size → k ≠ i → bit (masks ops.toList) k i = true ∨ bit (masks ops.toList) i k = true ∨ z k n = true))
    (h : AOps P nt (gdOf ops) z r fl (fun ts m => Q .normal ts m) ops.toList 0 ts m) : AWp P nt fl (.region id ops true) Q ts m := by
  obtain ⟨S⟩ := steps_of_aops _ 0 ts m rfl (Nat.zero_le _) h
  let T : Trace P nt ops fl := ⟨S.ts, S.m, S.v, z, r, fun k o ho => S.step k o (Nat.zero_le _) ho, fun i n hi h1 h2 k hk hne => by
      have ho : ops[k]? = some ops[k] := Array.getElem?_eq_getElem hk
      rcases hsep i n hi h1 h2 with h | ⟨h, hl⟩ | ⟨h, h'⟩
      · rcases sepP_sound h k _ ho hne with h | h | hp | ⟨hik, hp⟩
        · exact .inl h
        · exact .inr (.inl h)
        · have hz := hpure k _ ho (by simp [blO, hp])
          exact .inr (.inr ⟨hz n, .inr (.inl (S.still k _ (Nat.zero_le _) ho (by simp [stillO, hp]) ⟨n, hz n⟩))⟩)
        · exact .inr (.inr ⟨hpure k _ ho (by simp [blO, hp]) n, .inr (.inr hik)⟩)
      · rcases sepL_sound h k _ ho hne with h | h | hp | ⟨hik, hp⟩
        · exact .inl h
        · exact .inr (.inl h)
        · have hz : z k n = true := by
            rcases hp with hp | hp
            · exact hpure k _ ho (by simp [blO, hp]) n
            · exact hl k _ ho hp
          exact .inr (.inr ⟨hz, .inr (.inl (S.still k _ (Nat.zero_le _) ho (by simpa [stillO] using hp) ⟨n, hz⟩))⟩)
        · exact .inr (.inr ⟨hpure k _ ho (by simp [blO, hp]) n, .inr (.inr hik)⟩)
      · exact (h' k hk hne).imp bit_sound (.imp bit_sound fun q => ⟨q, .inl (by rw [S.m_i]; exact h)⟩), regionOk_temps hok, regionOk_back hok⟩
  have st : ∀ k, k ≤ ops.size → AStep fl (S.m 0) (S.m k) := by
    intro k
    induction k with
    | zero => intro _; exact AStep.refl _ _
    | succ k ih =>
      intro hk
      have ho : ops[k]? = some ops[k] := Array.getElem?_eq_getElem (by omega)
      exact (ih (by omega)).trans (S.step k _ (Nat.zero_le _) ho).step
  refine ⟨.normal, S.ts ops.size, S.m ops.size, S.post, by have := st ops.size (Nat.le_refl _); rw [S.m_i] at this; exact this, fun β w a hl hd hs hf => ?_⟩
  have h0 : T.ts 0 = ts := S.ts_i
  have h1 : T.m 0 = m := S.m_i
  refine region_draw T hm (β := β) (w := w) (by rw [h0]; exact hl) hd (by rw [h1]; exact hs) (by rw [h1]; exact hf) fun a' β' w' q1 q2 q3 => ⟨β', rfl, q1, q2, ?_⟩
  rw [h1] at q3
  exact q3
def ares1 (P:Program) (nt:Nat) (ts:Frm) (m:Mem):ResultVar→Option AVal
 | .tmp t=>some (aev nt ts (.tmp t))
 | .cell a t=>
  match aev nt ts (.tmp a)with
  | .ptr (some (n,o))=>match tAgg P t,tSize P t with
   |some true,some k=>(alds m n o k).map fun cs=> .agg cs
   |some false,_=>ald m n o
   |_,_=>none
  |_=>none
def tupled:List AVal→AVal
 |[v]=>v
 |vs=> .tup vs
def aress (P:Program) (nt:Nat) (ts:Frm) (m:Mem):List ResultVar→Option (List AVal)
 |[]=>some []
 |r::rs=>match ares1 P nt ts m r,aress P nt ts m rs with
  |some v,some vs=>some (v::vs)
  |_,_=>none
def resOne (tmps:Array Value):ResultVar→Sem Value
 | .tmp t=>pure (tmps.getD t undef)
 | .cell a t=>do loadVar t (←asAddr (tmps.getD a undef))
theorem results_eq (fn:Func) (tmps:Array Value):results fn tmps=(do let vs←fn.results.mapM (resOne tmps);pure (if h:vs.size=1 then vs[0]else .tuple vs)):=by
 unfold results
 congr 1
theorem ares1_run {β:Inj} {w:World} {tmps:Array Value} (hl:FRel β nt ts tmps) (hs:Sim β m w) {r:ResultVar} {v:AVal} (h:ares1 P nt ts m r=some v):
  ∃cv,(resOne tmps r).run P w= .ok cv w∧VRel β v cv:=by
 have hev:∀t,VRel β (aev nt ts (.tmp t)) (tmps.getD t undef):=fun t=>FRel.aev (a:=⟨tmps,[]⟩) hs.glb hl (.tmp t)
 cases r with
 |tmp t=>
  simp[ares1]at h
  subst h
  exact⟨_,rfl,hev t⟩
 |cell a t=>
  show ∃cv,(do loadVar t (←asAddr (tmps.getD a undef)):Sem Value).run P w= .ok cv w∧VRel β v cv
  simp only[ares1]at h
  split at h
  ·rename_i n o ha
   have hp:=hev a
   rw[ha]at hp
   generalize tmps.getD a undef=q at hp
   have hload:∀v,((∃k cs,tAgg P t=some true∧tSize P t=some k∧alds m n o k=some cs∧v= .agg cs)∨(tAgg P t=some false∧ald m n o=some v))→∃cv,(do loadVar t (←asAddr q):Sem Value).run P w= .ok cv w∧VRel β v cv:=by
    intro v hv
    cases hp with
    |ptr _ _ p hb=>
     rcases hv with⟨k,cs,h1,h2,h3,rfl⟩|⟨h1,h2⟩
     ·obtain⟨us,hr,hl⟩:=loads_cells (P:=P) hs hb h3
      exact⟨.agg us,by simp[asAddr,loadVar,run_agg h1,run_size h2,hr], .agg cs us hl.1 hl.2⟩
     ·unfold ald at h2
      split at h2
      ·rename_i hc
       obtain⟨u,hu,hr⟩:=hs.cell hc.1 hb hc.2 h2
       exact⟨u,by simp[asAddr,loadVar,run_agg h1,hu],hr⟩
      ·cases h2
   split at h
   ·rename_i k h1 h2
    rw[Option.map_eq_some_iff]at h
    obtain⟨cs,hcs,rfl⟩:=h
    exact hload _ (.inl ⟨k,cs,h1,h2,hcs,rfl⟩)
   ·rename_i h1
    exact hload _ (.inr ⟨h1,h⟩)
   ·cases h
  ·cases h
theorem aress_run {β:Inj} {w:World} {tmps:Array Value} (hl:FRel β nt ts tmps) (hs:Sim β m w):∀(rs:List ResultVar) (vs:List AVal),aress P nt ts m rs=some vs→
  ∃cvs:List Value,(rs.mapM (resOne tmps):Sem (List Value)).run P w= .ok cvs w∧LRel β vs cvs.toArray:=by
 intro rs
 induction rs with
 |nil=>intro vs h;simp[aress]at h;subst h;exact⟨[],rfl,LRel.nil β⟩
 |cons r rs ih=>
  intro vs h
  simp only[aress]at h
  split at h
  ·rename_i v vs' h1 h2
   simp at h
   subst h
   obtain⟨cv,g1,g2⟩:=ares1_run hl hs h1
   obtain⟨cvs,g3,g4⟩:=ih vs' h2
   refine⟨cv::cvs, ?_, ?_⟩
   ·rw[List.mapM_cons,Sem.run_bind,g1]
    simp only[Result.andThen_ok,Sem.run_bind,g3,Sem.run_pure]
   ·have:LRel β [v] #[cv]:=(LRel.nil β).push g2
    simpa using this.append g4
  ·cases h
theorem results_run {fn:Func} {β:Inj} {w:World} {tmps:Array Value} (hl:FRel β nt ts tmps) (hs:Sim β m w) {vs:List AVal} (h:aress P nt ts m fn.results.toList=some vs):
  ∃cv,(results fn tmps).run P w= .ok cv w∧VRel β (tupled vs) cv:=by
 obtain⟨cvs,h1,h2⟩:=aress_run hl hs _ _ h
 have hm:(fn.results.mapM (resOne tmps):Sem (Array Value)).run P w= .ok cvs.toArray w:=by
  rw[Array.mapM_eq_mapM_toList,Sem.run_map,h1]
  rfl
 rw[results_eq,Sem.run_bind,hm]
 simp only[Result.andThen_ok]
 match vs,cvs,h2 with
 |[],[],h2=>exact⟨.tuple #[],rfl, .tup [] #[] h2.1 h2.2⟩
 |[v],[cv],h2=>exact⟨cv,rfl,h2.2 0 v cv (by simp) (by simp)⟩
 |v::v2::vs,cv::cv2::cvs,h2=>
  refine⟨.tuple (cv::cv2::cvs).toArray, ?_, .tup _ _ h2.1 h2.2⟩
  rw[dif_neg (by simp)]
  rfl
 |[],_::_,h2=>exact absurd h2.1 (by simp)
 |_::_,[],h2=>exact absurd h2.1 (by simp)
 |[_],_::_::_,h2=>exact absurd h2.1 (by simp)
 |_::_::_,[_],h2=>exact absurd h2.1 (by simp)
def Ends (P:Program) (nt:Nat) (rs:List ResultVar) (Q:AVal→Mem→Prop):AExit→Frm→Mem→Prop
 | .exit _,_,_=>False
 |_,ts,m=>∃vs,aress P nt ts m rs=some vs∧Q (tupled vs) m
theorem dcalls_of {f:FuncId} {fn:Func} {c:Code} {args:List AVal} {Q:AVal→Mem→Prop} (hf:P.funcs[f]? =some fn) (hn:(fn.name== "runtime.NumGoroutine")=false) (hb:fn.body=some c)
  (h:AWp P fn.ntmps fl c (Ends P fn.ntmps fn.results.toList Q) (fargs args) m):∃v m',Q v m'∧DCalls P fl f args m v m':=by
 obtain⟨e,ts',m',hq,d1,d2⟩:=h
 have hq':∃vs,aress P fn.ntmps ts' m' fn.results.toList=some vs∧Q (tupled vs) m':=by
  cases e with
  |normal=>exact hq
  |ret=>exact hq
  |exit id=>exact hq.elim
 obtain⟨vs,hr,hQ⟩:=hq'
 refine⟨_,m',hQ,⟨fn,hf,hn,by rw[hb];rfl⟩,d1,fun β w cargs hl hs hfr=>calls_of_wp hf hb ?_⟩
 have hargs:FRel β fn.ntmps (fargs args) (cargs++Array.replicate (fn.ntmps-cargs.size) undef):=by
  refine⟨by simp;omega,fun i v h2=> ?_⟩
  unfold fargs
  rw[List.getD_eq_getElem?_getD]
  rw[Array.getElem?_append]at h2
  by_cases hi:i<cargs.size
  ·rw[if_pos hi]at h2
   have hi':i<args.length:=by rw[hl.1];exact hi
   have h1:args[i]? =some args[i]:=List.getElem?_eq_getElem hi'
   rw[h1]
   exact hl.2 i _ v h1 h2
  ·rw[if_neg hi]at h2
   rw[List.getElem?_eq_none (by rw[hl.1];omega)]
   rw[Array.getElem?_replicate]at h2
   split at h2
   ·simp at h2
    subst h2
    exact aundef_rel β
   ·cases h2
 refine wp_mono (d2 β w _ hargs rfl hs hfr) ?_
 rintro e' a' w' ⟨β',rfl,g1,g2,g3⟩
 obtain⟨cv,g4,g5⟩:=results_run (P:=P) (fn:=fn) g1 g3.sim hr
 cases e with
 |normal=>exact⟨g2,cv,g4,cv,β',rfl,g5,g3⟩
 |ret=>exact⟨g2,cv,g4,cv,β',rfl,g5,g3⟩
 |exit id=>exact hq.elim
end rules
end Go.Ab
