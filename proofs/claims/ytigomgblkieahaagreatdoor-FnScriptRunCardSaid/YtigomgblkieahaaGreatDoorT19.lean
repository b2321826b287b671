/- What is proved here: typed values and memories are read along a list of signs, by one reader with one law; a function's model is sound by one theorem. Conditions: those written in each statement. -/
import Derived.Test.YtigomgblkieahaaGreatDoorT17
import Derived.KernelRfl
namespace Go.Ab
set_option linter.unusedVariables false
set_option linter.unusedSimpArgs false
inductive LT where
 |b|i|s|p (e:EK)
def LT.T:LT→Type
 | .b=>Bool
 | .i=>Int
 | .s=>List UInt8
 | .p e=>List e.T
def HL (l:List LT):Type:=List.rec Unit (fun a _ ih=>a.T×ih) l
inductive Tok where
 |b|i (k:IntKind)|s|p (e:EK)|L (n:Nat)|Q (n:Nat)|A|U|T (a:AT)|F (f:FuncId)|N|E|bL (w:Bool) (e:EK)|bC (w:Bool)|bD (w:Bool)|bH (w:Bool)|M (n:Nat)|bK|P (n o:Nat)|S (n o:Nat) (t:TypeId)|B (n:Nat)|Z
def lv1 (t:Tok) (l:List LT):List LT:=match t with
 | .b=> .b::l
 | .Z=> .b::l
 | .i _=> .i::l
 | .s=> .s::l
 | .p e=> .p e::l
 | .bL _ e=> .p e::l
 | .bK=> .p .str::l
 |_=>l
noncomputable def lvs (l:List Tok):List LT:=List.rec [] (fun t _ ih=>lv1 t ih) l
abbrev St3:=List TV×List (List TV)×TMem
def hd2 (x:List (List TV)):List TV:=match x with
 |a::_=>a
 |[]=>[]
def tl2 (x:List (List TV)):List (List TV):=match x with
 |_::a=>a
 |[]=>[]
noncomputable def wr1 (t:Tok) (l:List Tok) (ih:HL (lvs l)→St3):HL (lvs (t::l))→St3:=match t with
 | .b=>fun x=>(.bool x.1::(ih x.2).1,(ih x.2).2)
 | .i k=>fun x=>(.int k x.1::(ih x.2).1,(ih x.2).2)
 | .s=>fun x=>(.str x.1::(ih x.2).1,(ih x.2).2)
 | .p e=>fun x=>(.pl e x.1::(ih x.2).1,(ih x.2).2)
 | .L n=>fun x=>(.sl n::(ih x).1,(ih x).2)
 | .Q n=>fun x=>(.ptr n 0::(ih x).1,(ih x).2)
 | .T a=>fun x=>(a.tv::(ih x).1,(ih x).2)
 | .A=>fun x=>(.agg (ih x).1::hd2 (ih x).2.1,tl2 (ih x).2.1,(ih x).2.2)
 | .U=>fun x=>(.tup (ih x).1::hd2 (ih x).2.1,tl2 (ih x).2.1,(ih x).2.2)
 | .F f=>fun x=>(.fn f (ih x).1 (hd2 (ih x).2.1)::hd2 (tl2 (ih x).2.1),tl2 (tl2 (ih x).2.1),(ih x).2.2)
 | .N=>fun x=>([],(ih x).1::(ih x).2.1,(ih x).2.2)
 | .E=>fun x=>([],(ih x).1::(ih x).2.1,(ih x).2.2)
 | .bL w e=>fun x=>((ih x.2).1,(ih x.2).2.1,⟨w, .list e x.1⟩::(ih x.2).2.2)
 | .bC w=>fun x=>(hd2 (ih x).2.1,tl2 (ih x).2.1,⟨w, .cells (ih x).1⟩::(ih x).2.2)
 | .bD w=>fun x=>((ih x).1,(ih x).2.1,⟨w, .dead⟩::(ih x).2.2)
 | .bH w=>fun x=>((ih x).1,(ih x).2.1,⟨w, .hid⟩::(ih x).2.2)
 | .M n=>fun x=>(.mp n::(ih x).1,(ih x).2)
 | .P n o=>fun x=>(.ptr n o::(ih x).1,(ih x).2)
 | .S n o t=>fun x=>(.slf n o t::(ih x).1,(ih x).2)
 | .B n=>fun x=>(.sb n::(ih x).1,(ih x).2)
 | .Z=>fun x=>(.er x.1::(ih x.2).1,(ih x.2).2)
 | .bK=>fun x=>((ih x.2).1,(ih x.2).2.1,⟨true, .keys x.1⟩::(ih x.2).2.2)
noncomputable def wr (l:List Tok):HL (lvs l)→St3:=List.rec (motive:=fun l=>HL (lvs l)→St3) (fun _=>([],[],[])) (fun t l ih=>wr1 t l ih) l
def cM (n:Nat) (l:List TV) (k:List TV→Prop):Prop:=match l with
 | .mp j::r=>bif Nat.beq j n then k r else False
 |_=>False
theorem cM_in {n:Nat} {l:List TV} {k:List TV→Prop} {G:Prop} (g:∀r,l= .mp n::r→k r→G) (h:cM n l k):G:=by
 unfold cM at h
 split at h
 ·rename_i j r
  cases hb:Nat.beq j n with
  |false=>rw[hb]at h;exact h.elim
  |true=>rw[hb]at h;exact g r (by rw[Nat.eq_of_beq_eq_true hb]) h
 ·exact h.elim
def cK (n o:Nat) (l:List TV) (k:List TV→Prop):Prop:=match l with
 | .ptr j i::r=>bif Nat.beq j n&&Nat.beq i o then k r else False
 |_=>False
theorem cK_in {n o:Nat} {l:List TV} {k:List TV→Prop} {G:Prop} (g:∀r,l= .ptr n o::r→k r→G) (h:cK n o l k):G:=by
 unfold cK at h
 split at h
 ·rename_i j i r
  cases hb:Nat.beq j n&&Nat.beq i o with
  |false=>rw[hb]at h;exact h.elim
  |true=>
   rw[hb]at h
   rw[Bool.and_eq_true]at hb
   exact g r (by rw[Nat.eq_of_beq_eq_true hb.1,Nat.eq_of_beq_eq_true hb.2]) h
 ·exact h.elim
def cZ (n o t:Nat) (l:List TV) (k:List TV→Prop):Prop:=match l with
 | .slf j i u::r=>bif Nat.beq j n&&(Nat.beq i o&&Nat.beq u t)then k r else False
 |_=>False
theorem cZ_in {n o t:Nat} {l:List TV} {k:List TV→Prop} {G:Prop} (g:∀r,l= .slf n o t::r→k r→G) (h:cZ n o t l k):G:=by
 unfold cZ at h
 split at h
 ·rename_i j i u r
  cases hb:Nat.beq j n&&(Nat.beq i o&&Nat.beq u t)with
  |false=>rw[hb]at h;exact h.elim
  |true=>
   rw[hb]at h
   simp only[Bool.and_eq_true]at hb
   exact g r (by rw[Nat.eq_of_beq_eq_true hb.1,Nat.eq_of_beq_eq_true hb.2.1,Nat.eq_of_beq_eq_true hb.2.2]) h
 ·exact h.elim
def cW (n:Nat) (l:List TV) (k:List TV→Prop):Prop:=match l with
 | .sb j::r=>bif Nat.beq j n then k r else False
 |_=>False
theorem cW_in {n:Nat} {l:List TV} {k:List TV→Prop} {G:Prop} (g:∀r,l= .sb n::r→k r→G) (h:cW n l k):G:=by
 unfold cW at h
 split at h
 ·rename_i j r
  cases hb:Nat.beq j n with
  |false=>rw[hb]at h;exact h.elim
  |true=>rw[hb]at h;exact g r (by rw[Nat.eq_of_beq_eq_true hb]) h
 ·exact h.elim
def cE (l:List TV) (k:Bool→List TV→Prop):Prop:=match l with
 | .er b::r=>k b r
 |_=>False
theorem cE_in {l:List TV} {k:Bool→List TV→Prop} {G:Prop} (g:∀b r,l= .er b::r→k b r→G) (h:cE l k):G:=by
 unfold cE at h
 split at h
 ·exact g _ _ rfl h
 ·exact h.elim
def bK (m:TMem) (k:List (List UInt8)→TMem→Prop):Prop:=match m with
 |⟨true, .keys p⟩::r=>k p r
 |_=>False
theorem bK_in {m:TMem} {k:List (List UInt8)→TMem→Prop} {G:Prop} (g:∀p r,m=⟨true, .keys p⟩::r→k p r→G) (h:bK m k):G:=by
 unfold bK at h
 split at h
 ·exact g _ _ rfl h
 ·exact h.elim
def dPop (c:List TV) (st:List (List TV)) (k:List TV→List (List TV)→Prop):Prop:=match c,st with
 |[],r::st=>k r st
 |_,_=>False
def dFin (c:List TV) (st:List (List TV)) (tm:TMem) (p:Prop):Prop:=match c,st,tm with
 |[],[],[]=>p
 |_,_,_=>False
theorem dPop_ok {c:List TV} {st:List (List TV)} {k:List TV→List (List TV)→Prop} (h:dPop c st k):∃r s,c=[]∧st=r::s∧k r s:=by
 unfold dPop at h
 split at h
 ·exact⟨_,_,rfl,rfl,h⟩
 ·exact h.elim
theorem dFin_ok {c:List TV} {st:List (List TV)} {tm:TMem} {p:Prop} (h:dFin c st tm p):c=[]∧st=[]∧tm=[]∧p:=by
 unfold dFin at h
 split at h
 ·exact⟨rfl,rfl,rfl,h⟩
 ·exact h.elim
abbrev RdT (l:List Tok):=List TV→List (List TV)→TMem→(HL (lvs l)→Prop)→Prop
noncomputable def rd1 (t:Tok) (l:List Tok) (ih:RdT l):RdT (t::l):=match t with
 | .b=>fun c st tm k=>cB c fun p r=>ih r st tm fun x=>k (p,x)
 | .i q=>fun c st tm k=>cI q c fun p r=>ih r st tm fun x=>k (p,x)
 | .s=>fun c st tm k=>cS c fun p r=>ih r st tm fun x=>k (p,x)
 | .p e=>fun c st tm k=>cP e c fun p r=>ih r st tm fun x=>k (p,x)
 | .L n=>fun c st tm k=>cL n c fun r=>ih r st tm k
 | .Q n=>fun c st tm k=>cQ n c fun r=>ih r st tm k
 | .T a=>fun c st tm k=>cT a c fun r=>ih r st tm k
 | .A=>fun c st tm k=>cA c fun p r=>ih p (r::st) tm k
 | .U=>fun c st tm k=>cU c fun p r=>ih p (r::st) tm k
 | .F f=>fun c st tm k=>dCons c fun a r=>dFn f a fun x y=>ih x (y::r::st) tm k
 | .N=>fun c st tm k=>dPop c st fun r s=>ih r s tm k
 | .E=>fun c st tm k=>dPop c st fun r s=>ih r s tm k
 | .bL w e=>fun c st tm k=>bL w e tm fun p r=>ih c st r fun x=>k (p,x)
 | .bC w=>fun c st tm k=>bC w tm fun p r=>ih p (c::st) r k
 | .bD w=>fun c st tm k=>bD w tm fun r=>ih c st r k
 | .bH w=>fun c st tm k=>bH w tm fun r=>ih c st r k
 | .M n=>fun c st tm k=>cM n c fun r=>ih r st tm k
 | .P n o=>fun c st tm k=>cK n o c fun r=>ih r st tm k
 | .S n o t=>fun c st tm k=>cZ n o t c fun r=>ih r st tm k
 | .B n=>fun c st tm k=>cW n c fun r=>ih r st tm k
 | .Z=>fun c st tm k=>cE c fun p r=>ih r st tm fun x=>k (p,x)
 | .bK=>fun c st tm k=>bK tm fun p r=>ih c st r fun x=>k (p,x)
noncomputable def rd (l:List Tok):RdT l:=List.rec (motive:=RdT) (fun c st tm k=>dFin c st tm (k ())) (fun t l ih=>rd1 t l ih) l
theorem wr_cons (t:Tok) (l:List Tok) (x:HL (lvs (t::l))):wr (t::l) x=wr1 t l (wr l) x:=rfl
theorem rd_ok:∀(l:List Tok) {c:List TV} {st:List (List TV)} {tm:TMem} {k:HL (lvs l)→Prop},rd l c st tm k→∃x,wr l x=(c,st,tm)∧k x
 |[],c,st,tm,k,h=>by
  obtain⟨rfl,rfl,rfl,h⟩:=dFin_ok h
  exact⟨(),rfl,h⟩
 | .b::l,c,st,tm,k,h=>by
  refine cB_in ?_ h;rintro p r rfl h
  obtain⟨x,e,h⟩:=rd_ok l h
  exact⟨(p,x),congrArg (fun z:St3=>(TV.bool p::z.1,z.2)) e,h⟩
 | .i q::l,c,st,tm,k,h=>by
  refine cI_in ?_ h;rintro p r rfl h
  obtain⟨x,e,h⟩:=rd_ok l h
  exact⟨(p,x),congrArg (fun z:St3=>(TV.int q p::z.1,z.2)) e,h⟩
 | .s::l,c,st,tm,k,h=>by
  refine cS_in ?_ h;rintro p r rfl h
  obtain⟨x,e,h⟩:=rd_ok l h
  exact⟨(p,x),congrArg (fun z:St3=>(TV.str p::z.1,z.2)) e,h⟩
 | .p ek::l,c,st,tm,k,h=>by
  refine cP_in ?_ h;rintro p r rfl h
  obtain⟨x,e,h⟩:=rd_ok l h
  exact⟨(p,x),congrArg (fun z:St3=>(TV.pl ek p::z.1,z.2)) e,h⟩
 | .L n::l,c,st,tm,k,h=>by
  refine cL_in ?_ h;rintro r rfl h
  obtain⟨x,e,h⟩:=rd_ok l h
  exact⟨x,congrArg (fun z:St3=>(TV.sl n::z.1,z.2)) e,h⟩
 | .Q n::l,c,st,tm,k,h=>by
  refine cQ_in ?_ h;rintro r rfl h
  obtain⟨x,e,h⟩:=rd_ok l h
  exact⟨x,congrArg (fun z:St3=>(TV.ptr n 0::z.1,z.2)) e,h⟩
 | .T a::l,c,st,tm,k,h=>by
  refine cT_in ?_ h;rintro r rfl h
  obtain⟨x,e,h⟩:=rd_ok l h
  exact⟨x,congrArg (fun z:St3=>(a.tv::z.1,z.2)) e,h⟩
 | .A::l,c,st,tm,k,h=>by
  refine cA_in ?_ h;rintro p r rfl h
  obtain⟨x,e,h⟩:=rd_ok l h
  exact⟨x,congrArg (fun z:St3=>(TV.agg z.1::hd2 z.2.1,tl2 z.2.1,z.2.2)) e,h⟩
 | .U::l,c,st,tm,k,h=>by
  refine cU_in ?_ h;rintro p r rfl h
  obtain⟨x,e,h⟩:=rd_ok l h
  exact⟨x,congrArg (fun z:St3=>(TV.tup z.1::hd2 z.2.1,tl2 z.2.1,z.2.2)) e,h⟩
 | .F f::l,c,st,tm,k,h=>by
  refine dCons_in ?_ h;rintro a r rfl h
  refine dFn_in ?_ h;rintro xs ys rfl h
  obtain⟨x,e,h⟩:=rd_ok l h
  exact⟨x,congrArg (fun z:St3=>(TV.fn f z.1 (hd2 z.2.1)::hd2 (tl2 z.2.1),tl2 (tl2 z.2.1),z.2.2)) e,h⟩
 | .N::l,c,st,tm,k,h=>by
  obtain⟨r,s,rfl,rfl,h⟩:=dPop_ok h
  obtain⟨x,e,h⟩:=rd_ok l h
  exact⟨x,congrArg (fun z:St3=>(([]:List TV),z.1::z.2.1,z.2.2)) e,h⟩
 | .E::l,c,st,tm,k,h=>by
  obtain⟨r,s,rfl,rfl,h⟩:=dPop_ok h
  obtain⟨x,e,h⟩:=rd_ok l h
  exact⟨x,congrArg (fun z:St3=>(([]:List TV),z.1::z.2.1,z.2.2)) e,h⟩
 | .bL w ek::l,c,st,tm,k,h=>by
  refine bL_in ?_ h;rintro p r rfl h
  obtain⟨x,e,h⟩:=rd_ok l h
  exact⟨(p,x),congrArg (fun z:St3=>(z.1,z.2.1,(⟨w, .list ek p⟩:TB)::z.2.2)) e,h⟩
 | .bC w::l,c,st,tm,k,h=>by
  refine bC_in ?_ h;rintro p r rfl h
  obtain⟨x,e,h⟩:=rd_ok l h
  exact⟨x,congrArg (fun z:St3=>(hd2 z.2.1,tl2 z.2.1,(⟨w, .cells z.1⟩:TB)::z.2.2)) e,h⟩
 | .bD w::l,c,st,tm,k,h=>by
  refine bD_in ?_ h;rintro r rfl h
  obtain⟨x,e,h⟩:=rd_ok l h
  exact⟨x,congrArg (fun z:St3=>(z.1,z.2.1,(⟨w, .dead⟩:TB)::z.2.2)) e,h⟩
 | .bH w::l,c,st,tm,k,h=>by
  refine bH_in ?_ h;rintro r rfl h
  obtain⟨x,e,h⟩:=rd_ok l h
  exact⟨x,congrArg (fun z:St3=>(z.1,z.2.1,(⟨w, .hid⟩:TB)::z.2.2)) e,h⟩
 | .M n::l,c,st,tm,k,h=>by
  refine cM_in ?_ h;rintro r rfl h
  obtain⟨x,e,h⟩:=rd_ok l h
  exact⟨x,congrArg (fun z:St3=>(TV.mp n::z.1,z.2)) e,h⟩
 | .P n o::l,c,st,tm,k,h=>by
  refine cK_in ?_ h;rintro r rfl h
  obtain⟨x,e,h⟩:=rd_ok l h
  exact⟨x,congrArg (fun z:St3=>(TV.ptr n o::z.1,z.2)) e,h⟩
 | .S n o t::l,c,st,tm,k,h=>by
  refine cZ_in ?_ h;rintro r rfl h
  obtain⟨x,e,h⟩:=rd_ok l h
  exact⟨x,congrArg (fun z:St3=>(TV.slf n o t::z.1,z.2)) e,h⟩
 | .B n::l,c,st,tm,k,h=>by
  refine cW_in ?_ h;rintro r rfl h
  obtain⟨x,e,h⟩:=rd_ok l h
  exact⟨x,congrArg (fun z:St3=>(TV.sb n::z.1,z.2)) e,h⟩
 | .Z::l,c,st,tm,k,h=>by
  refine cE_in ?_ h;rintro p r rfl h
  obtain⟨x,e,h⟩:=rd_ok l h
  exact⟨(p,x),congrArg (fun z:St3=>(TV.er p::z.1,z.2)) e,h⟩
 | .bK::l,c,st,tm,k,h=>by
  refine bK_in ?_ h;rintro p r rfl h
  obtain⟨x,e,h⟩:=rd_ok l h
  exact⟨(p,x),congrArg (fun z:St3=>(z.1,z.2.1,(⟨true, .keys p⟩:TB)::z.2.2)) e,h⟩
def PT1 (a:LT) (l:List LT) (ih:Type):Type:=match l with
 |[]=>a.T
 |_::_=>a.T×ih
def PT (l:List LT):Type:=List.rec Unit (fun a l ih=>PT1 a l ih) l
noncomputable def toP1 (a:LT) (l:List LT) (ih:HL l→PT l):HL (a::l)→PT (a::l):=match l,ih with
 |[],_=>fun x=>x.1
 |_::_,ih=>fun x=>(x.1,ih x.2)
noncomputable def toP (l:List LT):HL l→PT l:=List.rec (motive:=fun l=>HL l→PT l) (fun _=>()) (fun a l ih=>toP1 a l ih) l
noncomputable def toH1 (a:LT) (l:List LT) (ih:PT l→HL l):PT (a::l)→HL (a::l):=match l,ih with
 |[],_=>fun x=>(x,())
 |_::_,ih=>fun x=>(x.1,ih x.2)
noncomputable def toH (l:List LT):PT l→HL l:=List.rec (motive:=fun l=>PT l→HL l) (fun _=>()) (fun a l ih=>toH1 a l ih) l
theorem toH_toP:∀(l:List LT) (x:HL l),toH l (toP l x)=x
 |[],_=>rfl
 |[_],_=>rfl
 |_::d::l,x=>by
  show(x.1,toH (d::l) (toP (d::l) x.2))=x
  rw[toH_toP (d::l) x.2]
  rfl
noncomputable def mkH (keep:List (Nat×Sh)) (l:List Tok):LH where
 keep:=keep
 S:=PT (lvs l)
 enc:=fun s=>((wr l (toH _ s)).1,(wr l (toH _ s)).2.2)
 dec:=fun vs tm K=>rd l vs [] tm fun x=>K (toP _ x)
 law:=fun vs tm K h=>by
  obtain⟨x,e,h⟩:=rd_ok l h
  exact⟨toP _ x,by rw[toH_toP,e],h⟩
abbrev Body (l:List Tok):=HL (lvs l)→(TV→TMem→Prop)→Prop
noncomputable def rdG (l:List Tok) (B:Body l):Con:=fun args tm K=>rd l args [] tm fun x=>B x K
def AllL (l:List LT):(HL l→Prop)→Prop:=List.rec (motive:=fun l=>(HL l→Prop)→Prop) (fun Q=>Q ()) (fun a l ih Q=>∀p:a.T,ih fun x=>Q (p,x)) l
theorem AllL_ok:∀(l:List LT) {Q:HL l→Prop},AllL l Q→∀x,Q x
 |[],_,h,_=>h
 |_::l,_,h,x=>AllL_ok l (h x.1) x.2
def Eqn (P:Program) (nt:Nat) (Γ:List (Nat×Con)) (H:List (Nat×LH)) (WW:List (Nat×List (Nat×List Nat))) (c:Code) (rs:List ResultVar) (shs:List Sh) (cons:List Nat) (l:List Tok) (B:Body l):Prop:=
 AllL (lvs l) fun x=>∀K,TW P nt Γ H WW (wr l x).2.2.length c (endT P nt rs shs cons (wr l x).2.2.length K) (argsF (wr l x).1) (wr l x).2.2=B x K
theorem fun_sk {P:Program} {nt:Nat} {f:FuncId} {fn:Func} {c:Code} {rs:List ResultVar} {Γ:List (Nat×Con)} {H:List (Nat×LH)} {WW:List (Nat×List (Nat×List Nat))} {shs:List Sh} {cons:List Nat} {l:List Tok} {B:Body l} (hmix:P.follows .mixedOrders=true) (hfn:P.funcs[f]? =some fn)
  (hn:(fn.name== "runtime.NumGoroutine")=false) (hb:fn.body=some c) (ht:fn.ntmps=nt) (hr:fn.results=⟨rs⟩) (hΓ:GSound P Γ) (e:Eqn P nt Γ H WW c rs shs cons l B):CSound P f (rdG l B):=by
 intro args K c h fl A aargs hA hN R hl
 obtain⟨x,hx,h⟩:=rd_ok l h
 have h1:args=(wr l x).1:=by rw[hx]
 have h2:c.tm=(wr l x).2.2:=by rw[hx]
 have h:=(AllL_ok _ e x K).mpr h
 rw[←h1,←h2]at h
 exact fun_ok hmix hfn hn hb ht hr hΓ h hA hN R hl
abbrev Tok.j:=Tok.p .int
abbrev Tok.k:=Tok.i .i64
abbrev Sh.q:=Sh.pure .int
abbrev Sh.o:=Sh.own .int
structure SC (P:Program) where
 n:FuncId
 c:Con
 h:CSound P n c
noncomputable def gam {P:Program} (l:List (SC P)):List (Nat×Con):=List.rec [] (fun s _ ih=>(s.n,s.c)::ih) l
theorem gam_ok {P:Program}:∀l:List (SC P),GSound P (gam l)
 |[]=> .nil
 |s::l=> .cons s.h (gam_ok l)
def CurL (l:List LT) (κ:Type):Type:=List.rec (κ→Prop) (fun a _ ih=>a.T→ih) l
noncomputable def cuL {κ:Type} (l:List LT):CurL l κ→HL l→κ→Prop:=List.rec (motive:=fun l=>CurL l κ→HL l→κ→Prop) (fun m _ k=>m k) (fun _ _ ih m x k=>ih (m x.1) x.2 k) l
noncomputable def cu {l:List Tok} {κ:Type} (m:CurL (lvs l) κ) (w:(TV→TMem→Prop)→κ):Body l:=fun x K=>cuL (lvs l) m x (w K)
def chkF (fn:Func):Bool:= !(fn.name== "runtime.NumGoroutine")&&fn.body.isSome
theorem fun_sk2 {P:Program} (hm:P.follows .mixedOrders=true) {f:FuncId} {fn:Func} {us:List (SC P)} {H:List (Nat×LH)} {WW:List (Nat×List (Nat×List Nat))} {shs:List Sh} {cons:List Nat} {l:List Tok} {B:Body l} (hfn:P.funcs[f]? =some fn) (hc:chkF fn=true)
  (e:Eqn P fn.ntmps (gam us) H WW (bodyOf fn) fn.results.toList shs cons l B):CSound P f (rdG l B):=by
 unfold chkF at hc
 rw[Bool.and_eq_true]at hc
 have hb:fn.body=some (bodyOf fn):=by
  unfold bodyOf
  cases hx:fn.body with
  |none=>rw[hx]at hc;exact absurd hc.2 (by decide)
  |some c=>rfl
 exact fun_sk hm hfn (by simpa using hc.1) hb rfl rfl (gam_ok us) e
noncomputable def mkF {P:Program} (hm:P.follows .mixedOrders=true) {f:FuncId} {fn:Func} {l:List Tok} (hfn:P.funcs[f]? =some fn) (us:List (SC P)) (B:Body l) (shs:List Sh) (H:List (Nat×LH):=[]) (WW:List (Nat×List (Nat×List Nat)):=[]) (cons:List Nat:=[]) (hc:chkF fn=true:=by kernel_rfl)
 (e:Eqn P fn.ntmps (gam us) H WW (bodyOf fn) fn.results.toList shs cons l B:=by
  repeat intro _
  kernel_rfl):SC P:=⟨f,rdG l B,fun_sk2 hm hfn hc e⟩
noncomputable def SC.u {P:Program} (s:SC P) (sig:List Sh):SC P:=⟨s.n,useC sig s.c,useC_ok s.h⟩
noncomputable def SC.on {P:Program} (s:SC P) (ws:List Nat):SC P:=⟨s.n,onlyC ws s.c,onlyC_ok s.h⟩
end Go.Ab
