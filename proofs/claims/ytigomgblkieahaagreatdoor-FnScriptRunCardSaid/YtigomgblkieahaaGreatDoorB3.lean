/- What is proved here: views of an abstract memory (blocks that an operation may neither see nor write), and that a region of operations, in whatever order the model draws, does what its operations do abstractly in the order of the text; a call of a function by its contract. -/
import Derived.Test.YtigomgblkieahaaGreatDoorB2
namespace Go.Ab
open Go.RowKit
def Enters (P:Program) (f:FuncId):Prop:=∃fn,P.funcs[f]? =some fn∧(fn.name== "runtime.NumGoroutine")=false∧fn.body.isSome=true
def DCalls (P:Program) (fl:Nat) (f:FuncId) (args:List AVal) (m:Mem) (v:AVal) (m':Mem):Prop:=
 Enters P f∧AStep fl m m'∧∀β w (cargs:Array Value),LRel β args cargs→Sim β m w→Free β m m'→
  Calls P f cargs w fun e w'=>∃cv β',e= .returned cv∧VRel β' v cv∧Post fl β m w m' β' w'
theorem DCalls.of_size {P:Program} {fl:Nat} {f:FuncId} {args:List AVal} {m m':Mem} {v:AVal} (h:DCalls P m.size f args m v m'):DCalls P fl f args m v m':=
 ⟨h.1,h.2.1.of_size,fun β w cargs hl hs hf=>(h.2.2 β w cargs hl hs hf).mono fun _ _ ⟨cv,β',h1,h2,h3⟩=>⟨cv,β',h1,h2,h3.of_size⟩⟩
theorem DCalls.mono {P:Program} {fl fl':Nat} {f:FuncId} {args:List AVal} {m m':Mem} {v:AVal} (h:DCalls P fl f args m v m') (hf:fl'≤fl):DCalls P fl' f args m v m':=
 ⟨h.1,h.2.1.mono hf,fun β w cargs hl hs hfr=>(h.2.2 β w cargs hl hs hfr).mono fun _ _ ⟨cv,β',h1,h2,h3⟩=>⟨cv,β',h1,h2,h3.mono hf⟩⟩
def DOp (P:Program) (fl:Nat) (o:Oper) (ρa:Operand→AVal) (m:Mem) (v:AVal) (m':Mem):Prop:=
 AStep fl m m'∧∀β w (a:Act),(∀x∈o.op.operands,VRel β (ρa x) (a.eval x))→Sim β m w→Free β m m'→
  ∀(K:Act→World→Prop) (Q:Exit→Act→World→Prop),(∀cv β' w',VRel β' v cv→Post fl β m w m' β' w'→K (a.put o.dst cv) w')→o.wp P a w K Q
theorem dop_of_aop {P:Program} {fl:Nat} {o:Oper} {ρa:Operand→AVal} {m m':Mem} {v:AVal} (h:aop P ρa m fl o.op=some (v,m')):DOp P fl o ρa m v m':=by
 refine⟨aop_step h,fun β w a hρ hs hf K Q hK=> ?_⟩
 obtain⟨n,cv,w',β',h1,h2,h3,h4⟩:=aop_sound h hs hf hρ
 unfold Oper.wp
 rw[h1]
 rcases h2 with rfl|⟨rfl,rfl⟩
 ·exact hK cv β' w' h3 h4
 ·exact hK undef β' w' h3 h4
theorem dop_of_call {P:Program} {fl:Nat} {o:Oper} {ρa:Operand→AVal} {m m':Mem} {v:AVal} {c:Call} {x:Operand} {f:FuncId} {xs ys:List AVal} (ho:o.op= .call c) (hc:c.callee= .value x)
  (hx:ρa x= .fn f xs ys) (h:DCalls P fl f (xs++c.args.toList.map ρa++ys) m v m'):DOp P fl o ρa m v m':=by
 obtain⟨⟨fn,hfn,hname,hbody⟩,hstep,hcall⟩:=h
 refine⟨hstep,fun β w a hρ hs hf K Q hK=> ?_⟩
 have hops:o.op.operands= #[x]++c.args:=by rw[ho];simp[Op.operands,Call.operands,hc]
 have hfx:=hρ x (by rw[hops];simp)
 rw[hx]at hfx
 have hargs:LRel β (c.args.toList.map ρa) (c.args.map a.eval):=by
  refine⟨by simp,fun i b u h1 h2=> ?_⟩
  rw[List.getElem?_map]at h1
  rw[Array.getElem?_map]at h2
  cases hq:c.args[i]? with
  |none=>rw[hq]at h2;simp at h2
  |some y=>
   rw[hq]at h2
   have:c.args.toList[i]? =some y:=by simpa using hq
   rw[this]at h1
   simp at h1 h2
   subst h1;subst h2
   exact hρ y (by rw[hops];simp;exact .inr (Array.mem_of_getElem? hq))
 generalize hq:a.eval x=q at hfx
 cases hfx with
 |fn _ _ _ us vs h1 h2 r1 r2=>
 have hl:LRel β (xs++c.args.toList.map ρa++ys) (us++c.args.map a.eval++vs):=((show LRel β xs us from⟨h1,r1⟩).append hargs).append ⟨h2,r2⟩
 have hrun:(execOp a.eval o).run P w= .ok (.enter f (us++c.args.map a.eval++vs)) w:=by
  unfold execOp
  simp only[ho]
  rw[Sem.run_bind]
  have hres:(resolve a.eval c o.type).run P w= .ok {target:= .fn (.func f) vs,args:=us++c.args.map a.eval} w:=by
   unfold resolve
   simp only[hc,hq,Deferred.ofValue]
   rfl
  rw[hres]
  have hb:fn.body.isNone=false:=by cases hbb:fn.body<;>simp_all
  simp only[Result.andThen_ok,invoke,callFunc,Sem.run_bind,run_program,hfn,hname,hb,Bool.false_eq_true,if_false]
  rfl
 unfold Oper.wp
 rw[hrun,Oper.upon_enter]
 refine(hcall β w _ hl hs hf).mono ?_
 rintro e w' ⟨cv,β',rfl,hr,hp⟩
 exact hK cv β' w' hr hp
def aput (ts:Frm) (dst:Option Tmp) (v:AVal):Frm:=
 match dst with
 |some d=>fset ts d v
 |none=>ts
theorem frel_put {β:Inj} {n:Nat} {ts:Frm} {a:Act} (h:FRel β n ts a.tmps) (dst:Option Tmp) {v:AVal} {cv:Value} (hv:VRel β v cv):FRel β n (aput ts dst v) (a.put dst cv).tmps:=by
 cases dst with
 |none=>exact h
 |some d=>exact h.set d hv
def awanted (n:Nat) (gd:Nat→Option Tmp) (ts:Frm) (o:Oper):Option Bool:=
 match o.guard with
 |none=>some true
 |some (j,want)=>
  match gd j with
  |none=>none
  |some d=>
   if d<n then
    match ts d with
    | .bool b=>some (b==want)
    | .tup []=>some false
    |_=>none
   else none
def gdOf (ops:Array Oper) (j:Nat):Option Tmp:=(ops[j]?).bind (·.dst)
theorem wanted_of {β:Inj} {n:Nat} {ops:Array Oper} {ts:Frm} {a:Act} {o:Oper} {b:Bool} (hn:n≤a.tmps.size) (h:∀j want d,o.guard=some (j,want)→gdOf ops j=some d→∀v,a.tmps[d]? =some v→VRel β (ts d) v)
  (hw:awanted n (gdOf ops) ts o=some b):Region.wanted o (yielded ops a.tmps)=b:=by
 unfold awanted at hw
 unfold Region.wanted
 split at hw
 ·rename_i hg
  simp at hw
  subst hw
  rw[hg]
 ·rename_i j want hg
  split at hw
  ·cases hw
  ·rename_i d hd
   by_cases hdn:d<n
   case neg=>rw[if_neg hdn]at hw;cases hw
   rw[if_pos hdn]at hw
   have hlt:d<a.tmps.size:=Nat.lt_of_lt_of_le hdn hn
   have hv:=Array.getElem?_eq_getElem hlt
   have key:=h j want d hg hd _ hv
   have hd':(ops[j]?).bind (·.dst)=some d:=hd
   rw[hg]
   simp only[yielded,hd',Option.bind_some,hv]
   generalize a.tmps[d]=q at key
   split at hw
   ·rename_i c hc
    rw[hc]at key
    simp at hw
    cases key
    simp[hw]
   ·rename_i hc
    rw[hc]at key
    simp at hw
    cases key
    simp[hw]
   ·cases hw
def Blk.roify (b:Blk):Blk:=if b.mode.wr=true then⟨b.cells, .ro⟩else b
def Mem.view (z r:Nat→Bool) (m:Mem):Mem:=⟨m.size,fun n=>if z n=true then⟨[], .dead⟩else if r n=true then(m.blk n).roify else m.blk n⟩
def Mem.glue (z r:Nat→Bool) (m mv:Mem):Mem:=⟨mv.size,fun n=>if n<m.size∧(z n=true∨r n=true)then m.blk n else mv.blk n⟩
section views
variable {z r:Nat→Bool} {m mv:Mem} {fl:Nat}
theorem Blk.roify_cells (b:Blk):b.roify.cells=b.cells:=by unfold Blk.roify;split<;>rfl
theorem Blk.roify_wr (b:Blk):b.roify.mode.wr=false:=by
 unfold Blk.roify
 split
 ·rfl
 ·rename_i h;simpa using h
theorem Blk.roify_dead {b:Blk}:b.roify.mode= .dead↔b.mode= .dead:=by
 unfold Blk.roify
 split
 ·rename_i h
  exact⟨fun q=>(nomatch q),fun q=>absurd q (wr_nd h)⟩
 ·exact Iff.rfl
theorem view_rw {n:Nat} (h:((m.view z r).blk n).mode.wr=true):z n=false∧r n=false∧(m.view z r).blk n=m.blk n:=by
 unfold Mem.view at h⊢
 simp only at h⊢
 by_cases hz:z n=true
 ·rw[if_pos hz]at h;cases h
 ·rw[if_neg hz]at h⊢
  by_cases hr:r n=true
  ·rw[if_pos hr,Blk.roify_wr]at h;cases h
  ·rw[if_neg hr]at h⊢
   exact⟨by simpa using hz,by simpa using hr,rfl⟩
theorem view_live {n:Nat} (h:((m.view z r).blk n).mode≠ .dead):z n=false∧(m.blk n).mode≠ .dead∧((m.view z r).blk n).cells=(m.blk n).cells:=by
 unfold Mem.view at h⊢
 simp only at h⊢
 by_cases hz:z n=true
 ·rw[if_pos hz]at h;exact absurd rfl h
 ·rw[if_neg hz]at h⊢
  refine⟨by simpa using hz, ?_, ?_⟩
  ·split at h
   ·exact fun q=>h (Blk.roify_dead.2 q)
   ·exact h
  ·split
   ·exact Blk.roify_cells _
   ·rfl
theorem glue_old {n:Nat} (hn:n<m.size) (h:z n=true∨r n=true):(m.glue z r mv).blk n=m.blk n:=by simp[Mem.glue,hn,h]
theorem glue_vis {n:Nat} (hz:z n=false) (hr:r n=false):(m.glue z r mv).blk n=mv.blk n:=by simp[Mem.glue,hz,hr]
theorem glue_new {n:Nat} (hn:m.size≤n):(m.glue z r mv).blk n=mv.blk n:=by simp[Mem.glue];omega
theorem view_none (m:Mem):m.view (fun _=>false) (fun _=>false)=m:=by simp[Mem.view]
theorem glue_none (m mv:Mem):m.glue (fun _=>false) (fun _=>false) mv=mv:=by simp[Mem.glue]
theorem sim_view {β:Inj} {w:World} (hs:Sim β m w):Sim β (m.view z r) w:=by
 refine⟨fun n p hn hp=>hs.lt n p hn hp,fun n p hn hp hm i a ha=> ?_,fun n p hn hp hm=> ?_,fun n p n' p' hn hn' hne hp hp' hm hm'=> ?_,fun n p ks hn hp hm=> ?_,hs.gl,fun n p hn hp hm=> ?_,hs.gz⟩
 ·obtain⟨_,h2,h3⟩:=view_live (m:=m) (z:=z) (r:=r) (n:=n) (by rw[hm];simp)
  rw[h3]at ha
  exact hs.cell hn hp h2 ha
 ·obtain⟨_,_,h⟩:=view_rw (wr_rw hm)
  rw[h]at hm⊢
  exact hs.rw n p hn hp hm
 ·obtain⟨_,_,h⟩:=view_rw hm
  rw[h]at hm
  exact hs.ex n p n' p' hn hn' hne hp hp' hm (view_live hm').2.1
 ·obtain⟨_,_,h⟩:=view_rw (by rw[hm];rfl)
  rw[h]at hm⊢
  exact hs.mp n p ks hn hp hm
 ·obtain⟨_,_,h⟩:=view_rw (wr_rw hm)
  rw[h]at hm
  exact hs.ct n p hn hp hm
theorem astep_view (h:AStep fl (m.view z r) mv):AStep fl m (m.glue z r mv):=by
 refine⟨h.size,fun n hn hf=> ?_,fun n hn=> ?_⟩
 ·by_cases hq:z n=true∨r n=true
  ·exact glue_old hn hq
  ·simp only[not_or,Bool.not_eq_true]at hq
   rw[glue_vis hq.1 hq.2,h.same n hn hf]
   simp[Mem.view,hq.1,hq.2]
 ·by_cases hq:z n=true∨r n=true
  ·rw[glue_old hn hq];exact⟨id,id⟩
  ·simp only[not_or,Bool.not_eq_true]at hq
   rw[glue_vis hq.1 hq.2]
   have:=h.mode n hn
   simpa[Mem.view,hq.1,hq.2]using this
theorem not_may {β:Inj} {w:World} (hs:Sim β m w) {n:Nat} {p:Place} (hn:n<m.size) (hp:β n=some p) (hm:(m.blk n).mode≠ .dead) (hq:z n=true∨r n=true):¬MayWrite fl β (m.view z r) p.cb:=by
 rintro⟨n',p',_,hn',hp',hm',hcb⟩
 obtain⟨h1,h2,h3⟩:=view_rw hm'
 rw[h3]at hm'
 have hne:n'≠n:=by rintro rfl;rcases hq with h|h<;>simp_all
 exact hs.ex n' p' n p hn' hn hne hp' hp hm' hm hcb
theorem sim_glue {β β':Inj} {w w':World} (hst:AStep fl (m.view z r) mv) (hs:Sim β m w) (hf:Free β m mv) (hp:Post fl β (m.view z r) w mv β' w'):Sim β' (m.glue z r mv) w':=by
 have hle:β.le β':=hp.le hf
 have hsz:m.size≤mv.size:=hst.size
 have old:∀n p,n<m.size→(z n=true∨r n=true)→β' n=some p→β n=some p:=fun n p hn _ h=>by
  rw[hp.ext n (by show ¬(m.size≤n∧_);omega)]at h;exact h
 have keep:∀n p,n<m.size→(z n=true∨r n=true)→β n=some p→(m.blk n).mode≠ .dead→w'.heap[p.cb]? =w.heap[p.cb]? :=fun n p hn hq h hm=>
  hp.fr p.cb (hs.lt n p hn h) (not_may hs hn h hm hq)
 have split:∀n,(n<m.size∧(z n=true∨r n=true)∧(m.glue z r mv).blk n=m.blk n)∨(¬(n<m.size∧(z n=true∨r n=true))∧(m.glue z r mv).blk n=mv.blk n):=fun n=>by
  by_cases h:n<m.size∧(z n=true∨r n=true)
  ·exact .inl ⟨h.1,h.2,glue_old h.1 h.2⟩
  ·refine .inr ⟨h, ?_⟩
   show(if _ then _ else _)=_
   rw[if_neg h]
 refine⟨fun n p hn h=>hp.sim.lt n p hn h,fun n p hn h hm i a ha=> ?_,fun n p hn h hm=> ?_,fun n1 p1 n2 p2 hn1 hn2 hne h1 h2 hm1 hm2=> ?_,fun n p ks hn h hm=> ?_,hp.sim.gl,fun n p hn h hm=> ?_,hp.sim.gz⟩
 ·rcases split n with⟨q1,q2,q3⟩|⟨q1,q3⟩
  ·rw[q3]at hm ha
   have hb:=old n p q1 q2 h
   obtain⟨v,g1,g2⟩:=hs.ro n p q1 hb hm i a ha
   exact⟨v,by rw[←g1];exact World.cell?_of_block (w:=w) (w':=w') (keep n p q1 q2 hb (by rw[hm];simp)),g2.mono hle⟩
  ·rw[q3]at hm ha
   exact hp.sim.ro n p hn h hm i a ha
 ·rcases split n with⟨q1,q2,q3⟩|⟨q1,q3⟩
  ·rw[q3]at hm⊢
   have hb:=old n p q1 q2 h
   obtain⟨c,e,g1,g2,g3,g4⟩:=hs.rw n p q1 hb hm
   refine⟨c,e,by rw[keep n p q1 q2 hb (by rw[hm];simp)];exact g1,g2,g3,fun i a ha=> ?_⟩
   obtain⟨v,k1,k2⟩:=g4 i a ha
   exact⟨v,k1,k2.mono hle⟩
  ·rw[q3]at hm⊢
   exact hp.sim.rw n p hn h hm
 ·
  have oldvis:∀n,¬(n<m.size∧(z n=true∨r n=true))→n<m.size→(m.view z r).blk n=m.blk n:=fun n q h=>by
   have:z n=false∧r n=false:=by
    cases hz:z n<;>cases hr:r n<;>simp_all
   simp[Mem.view,this.1,this.2]
  have fresh:∀n p n' p',m.size≤n→n<mv.size→β' n=some p→n'<m.size→(z n'=true∨r n'=true)→β n'=some p'→(m.blk n').mode≠ .dead→p.cb≠p'.cb:=fun n p n' p' g1 g2 g3 g4 g5 g6 g7=>by
   rcases hp.nb n p g1 g2 g3 with e|e
   ·have:=hs.lt n' p' g4 g6;omega
   ·intro he
    rw[he]at e
    exact not_may hs g4 g6 g7 g5 e
  rcases split n1 with⟨q1,q2,q3⟩|⟨q1,q3⟩
  ·rw[q3]at hm1
   have hb1:=old n1 p1 q1 q2 h1
   rcases split n2 with⟨r1,r2,r3⟩|⟨r1,r3⟩
   ·rw[r3]at hm2
    exact hs.ex n1 p1 n2 p2 q1 r1 hne hb1 (old n2 p2 r1 r2 h2) hm1 hm2
   ·rw[r3]at hm2
    rcases Nat.lt_or_ge n2 m.size with hlt|hge
    ·have hb2:β n2=some p2:=by rw[hp.ext n2 (by show ¬(m.size≤n2∧_);omega)]at h2;exact h2
     refine hs.ex n1 p1 n2 p2 q1 hlt hne hb1 hb2 hm1 fun hd=>hm2 ((hst.mode n2 hlt).2 ?_)
     rw[oldvis n2 r1 hlt];exact hd
    ·exact fun e=>fresh n2 p2 n1 p1 hge hn2 h2 q1 q2 hb1 (wr_nd hm1) e.symm
  ·rw[q3]at hm1
   rcases split n2 with⟨r1,r2,r3⟩|⟨r1,r3⟩
   ·rw[r3]at hm2
    have hb2:=old n2 p2 r1 r2 h2
    rcases Nat.lt_or_ge n1 m.size with hlt|hge
    ·have hb1:β n1=some p1:=by rw[hp.ext n1 (by show ¬(m.size≤n1∧_);omega)]at h1;exact h1
     have:=(hst.mode n1 hlt).1 hm1
     rw[oldvis n1 q1 hlt]at this
     exact hs.ex n1 p1 n2 p2 hlt r1 hne hb1 hb2 this hm2
    ·exact fresh n1 p1 n2 p2 hge hn1 h1 r1 r2 hb2 hm2
   ·rw[r3]at hm2
    exact hp.sim.ex n1 p1 n2 p2 hn1 hn2 hne h1 h2 hm1 hm2
 ·rcases split n with⟨q1,q2,q3⟩|⟨q1,q3⟩
  ·rw[q3]at hm⊢
   have hb:=old n p q1 q2 h
   obtain⟨g0,es,cl,g1,g2⟩:=hs.mp n p ks q1 hb hm
   exact⟨g0,es,cl,by rw[keep n p q1 q2 hb (by rw[hm];simp)];exact g1,g2⟩
  ·rw[q3]at hm⊢
   exact hp.sim.mp n p ks hn h hm
 ·rcases split n with⟨q1,q2,q3⟩|⟨q1,q3⟩
  ·rw[q3]at hm
   have hb:=old n p q1 q2 h
   obtain⟨c,g1⟩:=hs.ct n p q1 hb hm
   exact⟨c,by rw[keep n p q1 q2 hb (by rw[hm];simp)];exact g1⟩
  ·rw[q3]at hm
   exact hp.sim.ct n p hn h hm
theorem post_glue {β β':Inj} {w w':World} (hst:AStep fl (m.view z r) mv) (hs:Sim β m w) (hf:Free β m mv) (hp:Post fl β (m.view z r) w mv β' w'):Post fl β m w (m.glue z r mv) β' w':=by
 have may:∀k,MayWrite fl β (m.view z r) k→MayWrite fl β m k:=by
  rintro k ⟨n,p,h1,h2,h3,h4,h5⟩
  have:=view_rw h4
  rw[this.2.2]at h4
  exact⟨n,p,h1,h2,h3,h4,h5⟩
 exact⟨sim_glue hst hs hf hp,hp.ext,fun n p h1 h2 h3=>(hp.nb n p h1 h2 h3).imp id (may _),fun k hk hm=>hp.fr k hk fun h=>hm (may k h),hp.os,hp.tape,hp.output,hp.size⟩
theorem DCalls.view {P:Program} {f:FuncId} {args:List AVal} {v:AVal} (h:DCalls P fl f args (m.view z r) v mv):DCalls P fl f args m v (m.glue z r mv):=
 ⟨h.1,astep_view h.2.1,fun β w cargs hl hs hf=>(h.2.2 β w cargs hl (sim_view hs) hf).mono fun _ _ ⟨cv,β',h1,h2,h3⟩=>⟨cv,β',h1,h2,post_glue h.2.1 hs hf h3⟩⟩
end views
def RStep (P:Program) (n:Nat) (ops:Array Oper) (fl:Nat) (z r:Nat→Bool) (o:Oper) (ts:Frm) (m:Mem) (v:AVal) (ts':Frm) (m':Mem):Prop:=
 ts'=aput ts o.dst v∧((awanted n (gdOf ops) ts o=some false∧v=aundef∧m'=m)∨(awanted n (gdOf ops) ts o=some true∧∃mv,DOp P fl o (aev n ts) (m.view z r) v mv∧m'=m.glue z r mv))
theorem RStep.step {P:Program} {n:Nat} {ops:Array Oper} {fl:Nat} {z r:Nat→Bool} {o:Oper} {ts ts':Frm} {m m':Mem} {v:AVal} (h:RStep P n ops fl z r o ts m v ts' m'):AStep fl m m':=by
 rcases h.2 with⟨_,_,rfl⟩|⟨_,mv,hd,rfl⟩
 ·exact AStep.refl _ _
 ·exact astep_view hd.1
theorem RStep.same {P:Program} {n:Nat} {ops:Array Oper} {fl:Nat} {z r:Nat→Bool} {o:Oper} {ts ts':Frm} {m m':Mem} {v:AVal} (h:RStep P n ops fl z r o ts m v ts' m') {k:Nat} (hk:k<m.size) (hq:z k=true∨r k=true):m'.blk k=m.blk k:=by
 rcases h.2 with⟨_,_,rfl⟩|⟨_,mv,hd,rfl⟩
 ·rfl
 ·exact glue_old hk hq
inductive Before (ops:Array Oper):Nat→Nat→Prop where
 |edge (j:Nat) (o:Oper) (e:Edge) (h:ops[j]? =some o) (he:e∈o.after) (hb:Region.binds .any e=true):Before ops e.on j
 |trans (i j:Nat) (o:Oper) (e:Edge) (h:ops[j]? =some o) (he:e∈o.after) (hb:Region.binds .any e=true) (hi:Before ops i e.on):Before ops i j
def looksAt (ops:Array Oper) (o:Oper):List Tmp:=
 (o.op.operands.toList.filterMap fun| .tmp t=>some t|_=>none)++
 (match o.guard with
  |some (g,_)=>((ops[g]?).bind (·.dst)).toList
  |none=>[])
def Shares (ops:Array Oper) (x y:Oper):Prop:=
 (∃d,x.dst=some d∧(d∈looksAt ops y∨y.dst=some d))∨∃d,y.dst=some d∧d∈looksAt ops x
structure Trace (P:Program) (nt:Nat) (ops:Array Oper) (fl:Nat) where
 ts:Nat→Frm
 m:Nat→Mem
 v:Nat→AVal
 z:Nat→Nat→Bool
 r:Nat→Nat→Bool
 step:∀i o,ops[i]? =some o→RStep P nt ops fl (z i) (r i) o (ts i) (m i) (v i) (ts (i+1)) (m (i+1))
 sep:∀i n,i<ops.size→z i n=false→r i n=false→∀k,k<ops.size→k≠i→Before ops k i∨Before ops i k∨(z k n=true∧(n<(m 0).size∨(m (k+1)).size=(m k).size∨i<k))
 temps:∀i j x y,i<j→ops[i]? =some x→ops[j]? =some y→Shares ops x y→Before ops i j
 back:∀j o e,ops[j]? =some o→e∈o.after→Region.binds .any e=true→e.on<j
section region
variable {P:Program} {nt:Nat} {ops:Array Oper} {fl:Nat}
def cur (ops:Array Oper) (v:Nat→AVal) (l:Array Bool) (t:Nat) (x:AVal):Nat→AVal
 |0=>x
 |k+1=>if l.getD k false=true∧(ops[k]?).bind (·.dst)=some t then v k else cur ops v l t x k
theorem Trace.size_le (T : Trace P nt ops fl) {i j : Nat} (h : i ≤ j) (hj : j ≤ ops.size) : (T.m i).size ≤ (T.m j).size := by
  induction j with
  | zero => have : i = 0 := by omega
            subst this; exact Nat.le_refl _
  | succ j ih =>
    by_cases e : i = j + 1
    · subst e; exact Nat.le_refl _
    · have ho : ops[j]? = some ops[j] := Array.getElem?_eq_getElem (by omega)
      exact Nat.le_trans (ih (by omega) (by omega)) (T.step j _ ho).step.size
theorem before_lt (T:Trace P nt ops fl) {i j:Nat} (h:Before ops i j):i<j:=by
 induction h with
 |edge j o e h he hb=>exact T.back j o e h he hb
 |trans i j o e h he hb _ ih=>have:=T.back j o e h he hb;omega
def Trace.chg (T:Trace P nt ops fl) (i n:Nat):Prop:=n<(T.m i).size∧T.z i n=false∧T.r i n=false
theorem Trace.quiet (T : Trace P nt ops fl) {i j : Nat} (h : i ≤ j) (hj : j ≤ ops.size) {n : Nat} (hn : n < (T.m i).size) (hq : ∀ k, i ≤ k → k < j → ¬ T.chg k n) : (T.m j).blk n = (T.m i).blk n := by
  induction j with
  | zero => have : i = 0 := by omega
            subst this; rfl
  | succ j ih =>
    by_cases e : i = j + 1
    · subst e; rfl
    · have ho : ops[j]? = some ops[j] := Array.getElem?_eq_getElem (by omega)
      have hlt : n < (T.m j).size := Nat.lt_of_lt_of_le hn (T.size_le (by omega) (by omega))
      have hc := hq j (by omega) (by omega)
      have hzr : T.z j n = true ∨ T.r j n = true := by
        cases h1 : T.z j n <;> cases h2 : T.r j n <;> simp_all [Trace.chg]
      rw [(T.step j _ ho).same hlt hzr]
      exact ih (by omega) (by omega) fun k h1 h2 => hq k h1 (by omega)
theorem Trace.ts_eq (T:Trace P nt ops fl) (l:Array Bool) {t:Nat}:∀(j:Nat),j≤ops.size→(∀i x,i<j→ops[i]? =some x→x.dst=some t→l.getD i false=true)→T.ts j t=cur ops T.v l t (T.ts 0 t) j:=by
 intro j
 induction j with
 |zero=>intro _ _;rfl
 |succ j ih=>
  intro hj hl
  have ho:ops[j]? =some ops[j]:=Array.getElem?_eq_getElem (by omega)
  have hs:=(T.step j _ ho).1
  rw[hs]
  by_cases hd:ops[j].dst=some t
  ·rw[hd]
   have hlj:=hl j _ (by omega) ho hd
   simp only[aput,fset_app,if_true,cur,hlj,ho,Option.bind_some,hd,and_self]
  ·have:aput (T.ts j) ops[j].dst (T.v j) t=T.ts j t:=by
    cases hdd:ops[j].dst with
    |none=>rfl
    |some d=>
     simp only[aput,fset_app]
     rw[if_neg (by intro e;subst e;exact hd hdd)]
   rw[this,ih (by omega) (fun i x h1=>hl i x (by omega))]
   simp only[cur,ho,Option.bind_some,hd,and_false,if_false]
theorem cur_above {v : Nat → AVal} {l : Array Bool} {t : Nat} {x : AVal} {j : Nat} : ∀ n, j ≤ n → (∀ i y, j ≤ i → i < n → ops[i]? = some y → y.dst = some t → l.getD i false = false) → cur ops v l t x n = cur ops v l t x j := by
  intro n
  induction n with
  | zero => intro h _; have : j = 0 := by omega
            subst this; rfl
  | succ n ih =>
    intro h hl
    by_cases e : j = n + 1
    · subst e; rfl
    · rw [cur]
      rw [if_neg]
      · exact ih (by omega) fun i y h1 h2 => hl i y h1 (by omega)
      · rintro ⟨h1, h2⟩
        cases ho : ops[n]? with
        | none => rw [ho] at h2; simp at h2
        | some y =>
          rw [ho] at h2
          simp at h2
          have := hl n y (by omega) (by omega) ho h2
          rw [this] at h1
          cases h1
def Trace.at (T:Trace P nt ops fl) (κ:Nat→Nat):Mem:=⟨(T.m ops.size).size,fun n=>(T.m (κ n)).blk n⟩
structure Inv (T:Trace P nt ops fl) (β0:Inj) (w0:World) (l:Array Bool) (a:Act) (w:World) (β:Inj) (κ:Nat→Nat):Prop where
 lsize:l.size=ops.size
 closed:∀j o e,ops[j]? =some o→l.getD j false=true→e∈o.after→Region.binds .any e=true→l.getD e.on false=true
 tsize:nt≤a.tmps.size
 defers:a.defers=[]
 temps:∀t u,a.tmps[t]? =some u→VRel β (cur ops T.v l t (T.ts 0 t) ops.size) u
 kle:∀n,κ n≤ops.size
 cut:∀i n,i<ops.size→T.chg i n→(l.getD i false=true↔i<κ n)
 born:∀n p,n<(T.m ops.size).size→β n=some p→n<(T.m (κ n)).size
 sim:Sim β (T.at κ) w
 none:∀i,i<ops.size→l.getD i false=false→∀n,(T.m i).size≤n→n<(T.m (i+1)).size→β n=none
 ext:∀n,¬((T.m 0).size≤n∧n<(T.m ops.size).size)→β n=β0 n
 nb:∀n p,(T.m 0).size≤n→n<(T.m ops.size).size→β n=some p→w0.heap.size≤p.cb∨MayWrite fl β0 (T.m 0) p.cb
 fr:∀k,k<w0.heap.size→¬MayWrite fl β0 (T.m 0) k→w.heap[k]? =w0.heap[k]?
 os:w.os=w0.os
 tape:w.tape=w0.tape
 output:w.output=w0.output
 size:w0.heap.size≤w.heap.size
 g0:∀n,n<G0→n<(T.m 0).size
theorem Trace.mode_back (T:Trace P nt ops fl) {i:Nat} (hi:i≤ops.size) {n:Nat} (hn:n<(T.m 0).size) (h:((T.m i).blk n).mode.wr=true):((T.m 0).blk n).mode.wr=true:=by
 induction i with
 |zero=>exact h
 |succ i ih=>
  have ho:ops[i]? =some ops[i]:=Array.getElem?_eq_getElem (by omega)
  exact ih (by omega) (((T.step i _ ho).step.mode n (Nat.lt_of_lt_of_le hn (T.size_le (Nat.zero_le _) (by omega)))).1 h)
theorem before_listed {l:Array Bool} (hc:∀j o e,ops[j]? =some o→l.getD j false=true→e∈o.after→Region.binds .any e=true→l.getD e.on false=true) {i j:Nat} (h:Before ops i j) (hj:l.getD j false=true):l.getD i false=true:=by
 induction h with
 |edge j o e h he hb=>exact hc j o e h hj he hb
 |trans i j o e h he hb _ ih=>exact ih (hc j o e h hj he hb)
theorem before_ready {l:Array Bool} (hc:∀j o e,ops[j]? =some o→l.getD j false=true→e∈o.after→Region.binds .any e=true→l.getD e.on false=true) {i j:Nat} (h:Before ops i j)
  (hj:∀o e,ops[j]? =some o→e∈o.after→Region.binds .any e=true→l.getD e.on false=true):l.getD i false=true:=by
 cases h with
 |edge _ o e h he hb=>exact hj o e h he hb
 |trans _ _ o e h he hb hi=>exact before_listed hc hi (hj o e h he hb)
def missing (ops:Array Oper) (l:Array Bool):Nat:=(List.range ops.size).countP fun i=> !l.getD i false
theorem countP_lt {p q:Nat→Bool} (h:∀x,q x=true→p x=true) {j:Nat} (hp:p j=true) (hq:q j=false):∀(L:List Nat),j∈L→L.countP q<L.countP p:=by
 intro L
 induction L with
 |nil=>intro h;simp at h
 |cons y L ih=>
  intro hm
  simp only[List.countP_cons]
  have hle:L.countP q≤L.countP p:=List.countP_mono_left fun x _=>h x
  by_cases e:y=j
  ·subst e
   rw[hp,hq]
   simp
   omega
  ·have:=ih (by simp at hm;exact hm.resolve_left (fun h=>e h.symm))
   cases hqy:q y
   ·simp only[Bool.false_eq_true,if_false];omega
   ·rw[h y hqy];simp only[if_true];omega
end region
end Go.Ab
