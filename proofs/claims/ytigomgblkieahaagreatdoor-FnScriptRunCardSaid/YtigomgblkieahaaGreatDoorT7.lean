/- What is proved here: nothing yet: the reader of translated code over typed values: regions, branches, loops by their shapes, calls by contracts. -/
import Derived.Test.YtigomgblkieahaaGreatDoorT6
namespace Go.Ab
abbrev Con:=List TV→TMem→(TV→TMem→Prop)→Prop
def lookC:List (Nat×Con)→Nat→Option Con
 |[],_=>none
 |(g,C)::r,f=>bif Nat.beq f g then some C else lookC r f
inductive Sh where
 |x
 |bl
 |own (e:EK)
 |mv (e:EK)
 |pure (e:EK)
 |ag (l:List Sh)
 |pc (l:List Sh)
mutual
def coeT:Sh→TV→TMem→Option (TV×TMem)
 | .x,v,tm=>some (v,tm)
 | .bl, .tt,tm=>some (.bool true,tm)
 | .bl, .ff,tm=>some (.bool false,tm)
 | .bl, .bool b,tm=>some (.bool b,tm)
 | .own e, .nil,tm=>some (.sl tm.length,tm++[⟨true, .list e []⟩])
 | .own e, .nz es,tm=>bif Nat.beq es e.es then some (.sl tm.length,tm++[⟨true, .list e []⟩])else none
 | .own _, .sl k,tm=>some (.sl k,tm)
 | .mv e, .nil,tm=>some (.sl tm.length,tm++[⟨true, .list e []⟩])
 | .mv e, .nz es,tm=>bif Nat.beq es e.es then some (.sl tm.length,tm++[⟨true, .list e []⟩])else none
 | .mv _, .sl k,tm=>match tm[k]? with
  |some ⟨true, .list e l⟩=>some (.sl tm.length,tm.set k ⟨true, .dead⟩++[⟨true, .list e l⟩])
  |_=>none
 | .pure e, .nil,tm=>some (.pl e [],tm)
 | .pure e, .nz es,tm=>bif Nat.beq es e.es then some (.pl e [],tm)else none
 | .pure _, .pl e l,tm=>some (.pl e l,tm)
 | .pure _, .sl k,tm=>match tm[k]? with
  |some ⟨true, .list e l⟩=>some (.pl e l,tm.set k ⟨true, .dead⟩)
  |_=>none
 | .ag ss, .agg vs,tm=>match coeL ss vs tm with
  |some (vs',tm')=>some (.agg vs',tm')
  |none=>none
 | .pc ss, .ptr k 0,tm=>match tm[k]? with
  |some ⟨w, .cells l⟩=>match coeL ss l tm with
   |some (l',tm')=>match tm'[k]? with
    |some ⟨w', .cells _⟩=>bif w==w' then some (.ptr k 0,tm'.set k ⟨w, .cells l'⟩)else none
    |_=>none
   |none=>none
  |_=>none
 |_,_,_=>none
def coeL:List Sh→List TV→TMem→Option (List TV×TMem)
 |[],[],tm=>some ([],tm)
 |s::ss,v::vs,tm=>match coeT s v tm with
  |some (v',tm')=>match coeL ss vs tm' with
   |some (vs',tm2)=>some (v'::vs',tm2)
   |none=>none
  |none=>none
 |_,_,_=>none
end
def calleeT (ρ:Operand→TV):Op→Option (FuncId×List TV)
 | .call c=>
  match c.callee with
  | .value x=>match ρ x with
   | .fn f xs ys=>some (f,xs++c.args.toList.map ρ++ys)
   |_=>none
  |_=>none
 |_=>none
def unord (ms:List Nat) (i k:Nat):Bool:= !(bit ms i k)&& !(bit ms k i)
def hits (ms:List Nat) (i:Nat) (ws:List Nat):Bool:=ws.any fun w=> !(Nat.beq w i)&&unord ms i w
def hitZ (ms:List Nat) (W:List (Nat×List Nat)) (i b:Nat):Bool:=W.any fun p=>Nat.beq p.1 b&&hits ms i p.2
def mayW (W:List (Nat×List Nat)) (i b:Nat):Bool:=W.any fun p=>Nat.beq p.1 b&&p.2.any (Nat.beq i)
def goneK:TK→TK
 | .list e l=> .gone e l.length
 | .gone e n=> .gone e n
 | .dead=> .dead
 |_=> .hid
def lockK:TK→TK
 | .keys _=> .hid
 |k=>k
def wlive (tm:TMem) (k:Nat):Bool:=
 match tm[k]? with
 |some ⟨true, .cells _⟩=>true
 |some ⟨true, .list _ _⟩=>true
 |_=>false
def prW (W:List (Nat×List Nat)):Bool:= !W.isEmpty&&W.all fun p=>p.2.isEmpty
def protK (W:List (Nat×List Nat)) (b:Nat):Bool:=prW W&&W.any fun p=>Nat.beq p.1 b
def mayV (sp:Bool) (W:List (Nat×List Nat)) (i b:Nat):Bool:=bif sp then !(protK W b)else mayW W i b
def tview1 (ms:List Nat) (sp:Bool) (W:List (Nat×List Nat)) (i k:Nat) (b:TB):TB:=
 bif hitZ ms W i k then⟨false,goneK b.k⟩else bif mayV sp W i k then b else⟨false,lockK b.k⟩
def tviewGo (ms:List Nat) (sp:Bool) (W:List (Nat×List Nat)) (i:Nat):Nat→TMem→TMem
 |_,[]=>[]
 |k,b::r=>tview1 ms sp W i k b::tviewGo ms sp W i (k+1) r
def tglueGo (ms:List Nat) (sp:Bool) (W:List (Nat×List Nat)) (i:Nat):Nat→TMem→TMem→TMem
 |_,[],tm'=>tm'
 |_,tm,[]=>tm
 |k,b::r,b'::r'=>(bif !(hitZ ms W i k)&&mayV sp W i k then b' else b)::tglueGo ms sp W i (k+1) r r'
def isTmp (d:Nat):Operand→Bool
 | .tmp t=>Nat.beq t d
 |_=>false
def litB (o:Oper) (rest:List Oper):Bool:=
 match o.op,o.dst with
 | .buildSlice _ (_+1) _,some d=>rest.any fun p=>match p.op with
  | .call c=>match c.callee with
   | .value _=>c.args.toList.any (isTmp d)
   |_=>false
  |_=>false
 |_,_=>false
def vwOf (l:List (Nat×List Nat)) (i:Nat):Bool:=l.any fun p=>p.2.any (Nat.beq i)
mutual
def shF:TV→Sh
 | .sl _=> .pure .int
 | .agg vs=> .ag (shFL vs)
 |_=> .x
def shFL:List TV→List Sh
 |[]=>[]
 |v::vs=>shF v::shFL vs
end
def frzK (fz:Bool) (K:TV→TMem→Prop) (v:TV) (tm:TMem):Prop:=
 bif fz then(match coeT (shF v) v tm with
  |some (v,tm)=>K v tm
  |none=>False)else K v tm
def bldO:Op→Bool
 | .buildSlice .. =>true
 |_=>false
def texec (P:Program) (nt:Nat) (Γ:List (Nat×Con)) (fz:Bool×Bool) (o:Oper) (ts:TFrm) (tm:TMem) (K:TV→TMem→Prop):Prop:=
 match calleeT (tev nt ts) o.op with
 |some (f,args)=>match lookC Γ f with
  |some C=>C args tm K
  |none=>False
 |none=>bif fz.2 then(bif bldO o.op then(top P (tev nt ts) tm o.op).holds K else(topV P (tev nt ts) tm o.op).holds K)else(top P (tev nt ts) tm o.op).holds (frzK fz.1 K)
def ldT (P:Program) (nt:Nat) (W:List (Nat×List Nat)) (o:Oper) (ts:TFrm) (tm:TMem) (K:TV→TMem→Prop):Prop:=
 match o.op with
 | .load t a=>match tev nt ts a with
  | .ptr k off=>bif protK W k then(tloadAt P t (.ptr k off) tm).holds K else False
  |_=>False
 |_=>False
def tdraw (P:Program) (nt:Nat) (Γ:List (Nat×Con)) (fz:Bool×Bool) (ms:List Nat) (sp:Bool) (W:List (Nat×List Nat)) (i:Nat) (o:Oper) (ts:TFrm) (tm:TMem) (K:TV→TMem→Prop):Prop:=
 bif blO o.op then(topD P (tev nt ts) tm o.op).holds K else
 bif W.all fun p=>wlive tm p.1 then
  bif ldO o.op&&prW W then ldT P nt W o ts tm K else texec P nt Γ fz o ts (tviewGo ms sp W i 0 tm) fun v tm'=>bif (tm'.drop tm.length).all (·.w)then K v (tglueGo ms sp W i 0 tm tm')else False
 else False
def TOps (P:Program) (nt:Nat) (Γ:List (Nat×Con)) (gd:Nat→Option Tmp) (dr:Bool) (ms:List Nat) (sp:Nat→Bool) (W:List (Nat×List Nat)) (vw:Nat→Bool):List Oper→Nat→(TFrm→TMem→Prop)→TFrm→TMem→Prop
 |[],_,K,ts,tm=>K ts tm
 |o::rest,i,K,ts,tm=>
  let ex:TFrm→Prop:=fun ts=>bif dr then tdraw P nt Γ (litB o rest||vw (i+1000),vw i) ms (sp i) W i o ts tm fun v tm'=>TOps P nt Γ gd dr ms sp W vw rest (i+1) K (tput ts o.dst v) tm'
   else texec P nt Γ (litB o rest||vw (i+1000),vw i) o ts tm fun v tm'=>TOps P nt Γ gd dr ms sp W vw rest (i+1) K (tput ts o.dst v) tm'
  let sk:TFrm→Prop:=fun ts=>TOps P nt Γ gd dr ms sp W vw rest (i+1) K (tput ts o.dst (.tup [])) tm
  match o.guard with
  |none=>ex ts
  |some (j,want)=>match gd j with
   |none=>False
   |some d=>bif Nat.blt d nt then
     match ts d with
     | .tt=>bif want then ex ts else sk ts
     | .ff=>bif want then sk ts else ex ts
     | .tup []=>sk ts
     | .bool b=>(b=true→bif want then ex (tset ts d .tt)else sk (tset ts d .tt))∧(b=false→bif want then sk (tset ts d .ff)else ex (tset ts d .ff))
     |_=>False
    else False
mutual
def noPure:Sh→Bool
 | .pure _=>false
 | .ag l=>noPureL l
 | .pc l=>noPureL l
 |_=>true
def noPureL:List Sh→Bool
 |[]=>true
 |s::l=>noPure s&&noPureL l
end
mutual
def renT (ρ:Nat→Option Nat):TV→TV
 | .ptr k o=>match ρ k with
  |some k'=> .ptr k' o
  |none=> .any
 | .sl k=>match ρ k with
  |some k'=> .sl k'
  |none=> .any
 | .eptr k i j=>match ρ k with
  |some k'=> .eptr k' i j
  |none=> .any
 | .sv k l h=>match ρ k with
  |some k'=> .sv k' l h
  |none=> .any
 | .mp k=>match ρ k with
  |some k'=> .mp k'
  |none=> .any
 | .slf k o t=>match ρ k with
  |some k'=> .slf k' o t
  |none=> .any
 | .sb k=>match ρ k with
  |some k'=> .sb k'
  |none=> .any
 | .fptr cs=> .fptr (renL ρ cs)
 | .agg cs=> .agg (renL ρ cs)
 | .tup cs=> .tup (renL ρ cs)
 | .fn f xs ys=> .fn f (renL ρ xs) (renL ρ ys)
 |v=>v
def renL (ρ:Nat→Option Nat):List TV→List TV
 |[]=>[]
 |v::vs=>renT ρ v::renL ρ vs
end
def renB (ρ:Nat→Option Nat) (b:TB):TB:=
 match b.k with
 | .cells l=>⟨b.w, .cells (renL ρ l)⟩
 |_=>b
mutual
def refsT:TV→List Nat
 | .ptr k _=>[k]
 | .sl k=>[k]
 | .eptr k _ _=>[k]
 | .sv k _ _=>[k]
 | .mp k=>[k]
 | .slf k _ _=>[k]
 | .sb k=>[k]
 | .fptr cs=>refsL cs
 | .agg cs=>refsL cs
 | .tup cs=>refsL cs
 | .fn _ xs ys=>refsL xs++refsL ys
 |_=>[]
def refsL:List TV→List Nat
 |[]=>[]
 |v::vs=>refsT v++refsL vs
end
def refsB (b:TB):List Nat:=
 match b.k with
 | .cells l=>refsL l
 |_=>[]
def memB:List Nat→Nat→Bool
 |[],_=>false
 |a::l,k=>bif Nat.beq a k then true else memB l k
def idxB:List Nat→Nat→Option Nat
 |[],_=>none
 |a::l,k=>bif Nat.beq a k then some 0 else(idxB l k).map (·+1)
def getB (tm:TMem) (k:Nat):TB:=(tm[k]?).getD ⟨true, .dead⟩
def reach (tm:TMem):Nat→List Nat→List Nat→List Nat
 |0,done,_=>done
 |_+1,done,[]=>done
 |n+1,done,k::todo=>bif memB done k then reach tm n done todo else reach tm n (done++[k]) (todo++refsB (getB tm k))
def nodupB:List Nat→Bool
 |[]=>true
 |a::l=>bif memB l a then false else nodupB l
def shrink (σ:List Nat) (vs:List TV) (tm:TMem):List TV×TMem:=(renL (idxB σ) vs,σ.map fun k=>renB (idxB σ) (getB tm k))
def prefB:Nat→List Nat→Bool
 |_,[]=>true
 |n,a::l=>bif Nat.beq n a then prefB (n+1) l else false
def canonT (k0:Nat) (vs:List TV) (tm:TMem) (K:List TV→TMem→Prop):Prop:=
 let σ:=reach tm 400 [] (List.range k0++refsL vs)
 bif nodupB σ&&prefB 0 (σ.take k0)&&Nat.ble k0 σ.length then K (shrink σ vs tm).1 (shrink σ vs tm).2 else False
def itP {S:Type} (body:S→(S→Prop)→(S→Prop)→Prop):Nat→S→(S→Prop)→Prop
 |0,_,_=>False
 |n+1,s,Kx=>body s (fun s'=>itP body n s' Kx) Kx
def LoopP {S:Type} (body:S→(S→Prop)→(S→Prop)→Prop) (s:S) (Kx:S→Prop):Prop:=∃n,itP body n s Kx
structure LH where
 keep:List (Nat×Sh)
 S:Type
 enc:S→List TV×TMem
 dec:List TV→TMem→(S→Prop)→Prop
 law:∀vs tm K,dec vs tm K→∃s,enc s=(vs,tm)∧K s
def frameOf:List (Nat×Sh)→List TV→TFrm
 |(t,_)::ks,v::vs=>fun i=>bif Nat.beq i t then v else frameOf ks vs i
 |_,_=>fun _=> .any
def lookH:List (Nat×LH)→Nat→Option LH
 |[],_=>none
 |(g,h)::r,id=>bif Nat.beq id g then some h else lookH r id
def lookW:List (Nat×List (Nat×List Nat))→Nat→List (Nat×List Nat)
 |[],_=>[]
 |(g,w)::r,id=>bif Nat.beq id g then w else lookW r id
def spP (ops:Array Oper) (W:List (Nat×List Nat)) (i:Nat):Bool:=sepP ops i||(prW W&&sepL ops i)
def regT (P:Program) (nt:Nat) (Γ:List (Nat×Con)) (WW:List (Nat×List (Nat×List Nat))) (id:Nat) (ops:Array Oper) (dr:Bool) (Q:AExit→TFrm→TMem→Prop) (ts:TFrm) (tm:TMem):Prop:=
 bif !dr||(regionOk ops&&(lookW WW id).all fun p=>wlive tm p.1)then
  TOps P nt Γ (gdOf ops) dr (masks ops.toList) (spP ops (lookW WW id)) (lookW WW id) (vwOf (lookW WW (2000000+id))) ops.toList 0 (fun ts tm=>Q .normal ts tm) ts tm
 else False
def headT (k0:Nat) (h:LH) (ts:TFrm) (tm:TMem) (K:h.S→Prop):Prop:=
 match coeL (h.keep.map (·.2)) (h.keep.map fun p=>ts p.1) tm with
 |some (vs,tm')=>canonT k0 vs tm' fun vs tm=>h.dec vs tm K
 |none=>False
def TW (P:Program) (nt:Nat) (Γ:List (Nat×Con)) (H:List (Nat×LH)) (WW:List (Nat×List (Nat×List Nat))) (k0:Nat):Code→(AExit→TFrm→TMem→Prop)→TFrm→TMem→Prop
 | .skip,Q,ts,tm=>Q .normal ts tm
 | .ret,Q,ts,tm=>Q .ret ts tm
 | .exit id,Q,ts,tm=>Q (.exit id) ts tm
 | .seq x y,Q,ts,tm=>TW P nt Γ H WW k0 x (fun e ts tm=>match e with
   | .normal=>TW P nt Γ H WW k0 y Q ts tm
   | .ret=>Q .ret ts tm
   | .exit id=>Q (.exit id) ts tm) ts tm
 | .cond (.tmp t) x y,Q,ts,tm=>match tev nt ts (.tmp t)with
  | .tt=>TW P nt Γ H WW k0 x Q ts tm
  | .ff=>TW P nt Γ H WW k0 y Q ts tm
  | .bool b=>(b=true→TW P nt Γ H WW k0 x Q (tset ts t .tt) tm)∧(b=false→TW P nt Γ H WW k0 y Q (tset ts t .ff) tm)
  |_=>False
 | .cond (.const v) x y,Q,ts,tm=>match tvVal v with
  | .tt=>TW P nt Γ H WW k0 x Q ts tm
  | .ff=>TW P nt Γ H WW k0 y Q ts tm
  |_=>False
 | .block id (.loop c),Q,ts,tm=>match lookH H id with
  |some h=>headT k0 h ts tm fun s=>LoopP (fun s Kb Kx=>TW P nt Γ H WW k0 c (fun e ts tm=>match e with
    | .normal=>headT k0 h ts tm Kb
    | .ret=>Q .ret ts tm
    | .exit j=>bif Nat.beq j id then headT k0 h ts tm Kx else Q (.exit j) ts tm) (frameOf h.keep (h.enc s).1) (h.enc s).2) s
    fun s=>Q .normal (frameOf h.keep (h.enc s).1) (h.enc s).2
  |none=>False
 | .block id c,Q,ts,tm=>TW P nt Γ H WW k0 c (fun e ts tm=>match e with
   | .normal=>Q .normal ts tm
   | .ret=>Q .ret ts tm
   | .exit j=>bif Nat.beq j id then Q .normal ts tm else Q (.exit j) ts tm) ts tm
 | .region id ops dr,Q,ts,tm=>match lookH H (1000000+id)with
  |some h=>headT k0 h ts tm fun s=>regT P nt Γ WW id ops dr Q (frameOf h.keep (h.enc s).1) (h.enc s).2
  |none=>regT P nt Γ WW id ops dr Q ts tm
 |_,_,_,_=>False
mutual
def ownS:Sh→Sh
 | .pure _=> .x
 | .ag l=> .ag (ownL l)
 | .pc l=> .pc (ownL l)
 |s=>s
def ownL:List Sh→List Sh
 |[]=>[]
 |s::l=>ownS s::ownL l
end
mutual
def borT (tm:TMem):Sh→TV→Option (TV×List Nat)
 | .pure e, .nil=>some (.pl e [],[])
 | .pure e, .nz es=>bif Nat.beq es e.es then some (.pl e [],[])else none
 | .pure _, .pl e l=>some (.pl e l,[])
 | .pure _, .sl k=>match tm[k]? with
  |some ⟨_, .list e l⟩=>some (.pl e l,[k])
  |_=>none
 | .pure _, .sv k l h=>match tm[k]? with
  |some ⟨_, .list e s⟩=>some (.pl e ((s.take h.toNat).drop l.toNat),[k])
  |_=>none
 | .ag ss, .agg vs=>match borL tm ss vs with
  |some (vs',bs)=>some (.agg vs',bs)
  |none=>none
 | .x,v=>some (v,[])
 | .bl,v=>some (v,[])
 | .own _,v=>some (v,[])
 | .mv _,v=>some (v,[])
 | .pc _,v=>some (v,[])
 |_,_=>none
def borL (tm:TMem):List Sh→List TV→Option (List TV×List Nat)
 |[],[]=>some ([],[])
 |s::ss,v::vs=>match borT tm s v,borL tm ss vs with
  |some (v',bs),some (vs',bs')=>some (v'::vs',bs++bs')
  |_,_=>none
 |_,_=>none
end
mutual
def noPlT:TV→Bool
 | .pl _ _=>false
 | .fptr _=>false
 | .agg cs=>noPlL cs
 | .tup cs=>noPlL cs
 | .fn _ xs ys=>noPlL xs&&noPlL ys
 |_=>true
def noPlL:List TV→Bool
 |[]=>true
 |v::vs=>noPlT v&&noPlL vs
end
def noPlB (b:TB):Bool:=
 match b.k with
 | .cells l=>noPlL l
 | .list .ints _=>false
 | .list .node _=>false
 |_=>true
def killB (bs:List Nat):Nat→TMem→TMem
 |_,[]=>[]
 |k,b::r=>(bif memB bs k then⟨true, .dead⟩else b)::killB bs (k+1) r
def backB (σ:List Nat) (len j:Nat):Option Nat:=bif Nat.blt j σ.length then σ[j]? else some (len+(j-σ.length))
def mergeB (σ:List Nat) (tm tm':TMem):TMem:=
 ((List.range tm.length).map fun k=>match idxB σ k with
  |some j=>renB (backB σ tm.length) (getB tm' j)
  |none=>getB tm k)++(tm'.drop σ.length).map (renB (backB σ tm.length))
def mergeG (σ:List Nat) (len:Nat) (tm':TMem):Nat→TMem→TMem
 |_,[]=>[]
 |k,b::r=>(match idxB σ k with
  |some j=>renB (backB σ len) (getB tm' j)
  |none=>b)::mergeG σ len tm' (k+1) r
def mergeF (σ:List Nat) (tm tm':TMem):TMem:=mergeG σ tm.length tm' 0 tm++(tm'.drop σ.length).map (renB (backB σ tm.length))
theorem mergeG_get (σ:List Nat) (len:Nat) (tm':TMem):∀(tm:TMem) (k i:Nat),(mergeG σ len tm' k tm)[i]? =(tm[i]?).map fun b=>match idxB σ (k+i)with
  |some j=>renB (backB σ len) (getB tm' j)
  |none=>b
 |[],k,i=>by simp[mergeG]
 |b::r,k,0=>by simp[mergeG]
 |b::r,k,i+1=>by
  rw[mergeG,List.getElem?_cons_succ,mergeG_get σ len tm' r (k+1) i,List.getElem?_cons_succ,show k+1+i=k+(i+1) by omega]
theorem mergeF_eq (σ:List Nat) (tm tm':TMem):mergeF σ tm tm'=mergeB σ tm tm':=by
 unfold mergeF mergeB
 congr 1
 apply List.ext_getElem?
 intro i
 rw[mergeG_get,List.getElem?_map]
 by_cases h:i<tm.length
 ·rw[List.getElem?_range h,List.getElem?_eq_getElem h]
  simp only[Option.map_some,Nat.zero_add]
  cases idxB σ i with
  |some j=>rfl
  |none=>simp[getB,h]
 ·rw[List.getElem?_eq_none (by omega),List.getElem?_eq_none (by simp;omega)]
  rfl
def freshB (b:TB):Bool:=
 match b.k with
 | .cells _=>b.w
 | .list _ _=>b.w
 | .dead=>b.w
 |_=>false
def useC (sig:List Sh) (G:Con):Con:=fun args tm K=>
 match coeL (ownL sig) args tm with
 |none=>False
 |some (args1,tm1)=>match borL tm1 sig args1 with
  |none=>False
  |some (args2,bs)=>
   let tmb:=killB bs 0 tm1
   let σ:=reach tmb 400 [] (refsL args2)
   bif nodupB σ&&σ.all (Nat.blt · tm1.length)&&bs.all (fun b=> !memB σ b)then
    G (shrink σ args2 tmb).1 (shrink σ args2 tmb).2 fun r tm'=>
     bif Nat.ble σ.length tm'.length&&(tm'.drop σ.length).all freshB&&(bs.isEmpty||(noPlT r&&tm'.all noPlB))then K (renT (backB σ tm1.length) r) (mergeF σ tm1 tm')else False
   else False
def tres1 (P:Program) (nt:Nat) (ts:TFrm) (tm:TMem):ResultVar→Option TV
 | .tmp t=>some (tev nt ts (.tmp t))
 | .cell a t=>match tev nt ts (.tmp a)with
  | .ptr k o=>match tm[k]? with
   |some ⟨_, .cells l⟩=>tload P t (l.drop o)
   |_=>none
  |_=>none
def tress (P:Program) (nt:Nat) (ts:TFrm) (tm:TMem):List ResultVar→Option (List TV)
 |[]=>some []
 |r::rs=>match tres1 P nt ts tm r,tress P nt ts tm rs with
  |some v,some vs=>some (v::vs)
  |_,_=>none
def tupT:List TV→TV
 |[v]=>v
 |vs=> .tup vs
def moveB:List Nat→List TV→TMem→(List TV→TMem→Prop)→Prop
 |[],vs,tm,K=>K vs tm
 |k::ks,vs,tm,K=>match tm[k]? with
  |some ⟨true, .list e l⟩=>moveB ks (renL (fun i=>some (bif Nat.beq i k then tm.length else i)) vs) ((tm.set k ⟨true, .dead⟩++([⟨true, .list e l⟩]:TMem)).map (renB fun i=>some (bif Nat.beq i k then tm.length else i))) K
  |some ⟨_, .dead⟩=>moveB ks vs tm K
  |_=>False
def endT (P:Program) (nt:Nat) (rs:List ResultVar) (shs:List Sh) (cons:List Nat) (k0:Nat) (K:TV→TMem→Prop):AExit→TFrm→TMem→Prop
 | .exit _,_,_=>False
 |_,ts,tm=>match tress P nt ts tm rs with
  |some vs=>moveB cons vs tm fun vs tm=>match coeL shs vs tm with
   |some (vs,tm)=>canonT k0 vs tm fun vs tm=>K (tupT vs) tm
   |none=>False
  |none=>False
end Go.Ab
