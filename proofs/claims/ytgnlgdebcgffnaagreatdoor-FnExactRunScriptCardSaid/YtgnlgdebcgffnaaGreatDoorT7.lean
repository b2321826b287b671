/- What is proved here: nothing yet: the reader of translated code over typed values: regions, branches, loops by their shapes, calls by contracts. -/
import Derived.Test.YtgnlgdebcgffnaaGreatDoorT6
namespace Go.Ab
abbrev jy:=List TV→am→(TV→am→Prop)→Prop
def B4:List (Nat×jy)→Nat→Option jy
 |[],_=>none
 |(g,C)::r,f=>bif Nat.beq f g then some C else B4 r f
inductive Sh where
 |x
 |bl
 |own (e:EK)
 |mv (e:EK)
 |pure (e:EK)
 |ag (l:List Sh)
 |pc (l:List Sh)
mutual
def gM:Sh→TV→am→Option (TV×am)
 | .x,v,tm=>some (v,tm)
 | .bl, .tt,tm=>some (.bool true,tm)
 | .bl, .ff,tm=>some (.bool false,tm)
 | .bl, .bool b,tm=>some (.bool b,tm)
 | .own e, .nil,tm=>some (.sl tm.length,tm++[⟨true, .list e []⟩])
 | .own e, .nz es,tm=>bif Nat.beq es e.es then some (.sl tm.length,tm++[⟨true, .list e []⟩])else none
 | .own _, .sl k,tm=>some (.sl k,tm)
 | .mv e, .nil,tm=>some (.sl tm.length,tm++[⟨true, .list e []⟩])
 | .mv e, .nz es,tm=>bif Nat.beq es e.es then some (.sl tm.length,tm++[⟨true, .list e []⟩])else none
 | .mv _, .sl k,tm=>match tm[k]? with
  |some ⟨true, .list e l⟩=>some (.sl tm.length,tm.set k ⟨true, .dead⟩++[⟨true, .list e l⟩])
  |_=>none
 | .pure e, .nil,tm=>some (.pl e [],tm)
 | .pure e, .nz es,tm=>bif Nat.beq es e.es then some (.pl e [],tm)else none
 | .pure _, .pl e l,tm=>some (.pl e l,tm)
 | .pure _, .sl k,tm=>match tm[k]? with
  |some ⟨true, .list e l⟩=>some (.pl e l,tm.set k ⟨true, .dead⟩)
  |_=>none
 | .ag ss, .agg vs,tm=>match rF ss vs tm with
  |some (vs',tm')=>some (.agg vs',tm')
  |none=>none
 | .pc ss, .ptr k 0,tm=>match tm[k]? with
  |some ⟨w, .cells l⟩=>match rF ss l tm with
   |some (l',tm')=>match tm'[k]? with
    |some ⟨w', .cells _⟩=>bif w==w' then some (.ptr k 0,tm'.set k ⟨w, .cells l'⟩)else none
    |_=>none
   |none=>none
  |_=>none
 |_,_,_=>none
def rF:List Sh→List TV→am→Option (List TV×am)
 |[],[],tm=>some ([],tm)
 |s::ss,v::vs,tm=>match gM s v tm with
  |some (v',tm')=>match rF ss vs tm' with
   |some (vs',tm2)=>some (v'::vs',tm2)
   |none=>none
  |none=>none
 |_,_,_=>none
end
def rT (ρ:Operand→TV):Op→Option (FuncId×List TV)
 | .call c=>
  match c.callee with
  | .value x=>match ρ x with
   | .fn f xs ys=>some (f,xs++c.args.toList.map ρ++ys)
   |_=>none
  |_=>none
 |_=>none
def Hl (ms:List Nat) (i k:Nat):Bool:= !(DC ms i k)&& !(DC ms k i)
def Hx (ms:List Nat) (i:Nat) (ws:List Nat):Bool:=ws.any fun w=> !(Nat.beq w i)&&Hl ms i w
def ou (ms:List Nat) (W:List (Nat×List Nat)) (i b:Nat):Bool:=W.any fun p=>Nat.beq p.1 b&&Hx ms i p.2
def HW (W:List (Nat×List Nat)) (i b:Nat):Bool:=W.any fun p=>Nat.beq p.1 b&&p.2.any (Nat.beq i)
def yR:TK→TK
 | .list e l=> .gone e l.length
 | .gone e n=> .gone e n
 | .dead=> .dead
 |_=> .hid
def rj:TK→TK
 | .keys _=> .hid
 |k=>k
def mi (tm:am) (k:Nat):Bool:=
 match tm[k]? with
 |some ⟨true, .cells _⟩=>true
 |some ⟨true, .list _ _⟩=>true
 |_=>false
def F4 (W:List (Nat×List Nat)):Bool:= !W.isEmpty&&W.all fun p=>p.2.isEmpty
def yQ (W:List (Nat×List Nat)) (b:Nat):Bool:=F4 W&&W.any fun p=>Nat.beq p.1 b
def qq (sp:Bool) (W:List (Nat×List Nat)) (i b:Nat):Bool:=bif sp then !(yQ W b)else HW W i b
def dj (ms:List Nat) (sp:Bool) (W:List (Nat×List Nat)) (i k:Nat) (b:TB):TB:=
 bif ou ms W i k then⟨false,yR b.k⟩else bif qq sp W i k then b else⟨false,rj b.k⟩
def eL (ms:List Nat) (sp:Bool) (W:List (Nat×List Nat)) (i:Nat):Nat→am→am
 |_,[]=>[]
 |k,b::r=>dj ms sp W i k b::eL ms sp W i (k+1) r
def eO (ms:List Nat) (sp:Bool) (W:List (Nat×List Nat)) (i:Nat):Nat→am→am→am
 |_,[],tm'=>tm'
 |_,tm,[]=>tm
 |k,b::r,b'::r'=>(bif !(ou ms W i k)&&qq sp W i k then b' else b)::eO ms sp W i (k+1) r r'
def JO (d:Nat):Operand→Bool
 | .tmp t=>Nat.beq t d
 |_=>false
def Gd (o:Oper) (rest:List Oper):Bool:=
 match o.op,o.dst with
 | .buildSlice _ (_+1) _,some d=>rest.any fun p=>match p.op with
  | .call c=>match c.callee with
   | .value _=>c.args.toList.any (JO d)
   |_=>false
  |_=>false
 |_,_=>false
def GQ (l:List (Nat×List Nat)) (i:Nat):Bool:=l.any fun p=>p.2.any (Nat.beq i)
mutual
def Ly:TV→Sh
 | .sl _=> .pure .int
 | .agg vs=> .ag (JY vs)
 |_=> .x
def JY:List TV→List Sh
 |[]=>[]
 |v::vs=>Ly v::JY vs
end
def Ie (fz:Bool) (K:TV→am→Prop) (v:TV) (tm:am):Prop:=
 bif fz then(match gM (Ly v) v tm with
  |some (v,tm)=>K v tm
  |none=>False)else K v tm
def Jb:Op→Bool
 | .buildSlice .. =>true
 |_=>false
def ru (P:Program) (nt:Nat) (Γ:List (Nat×jy)) (fz:Bool×Bool) (o:Oper) (ts:aU) (tm:am) (K:TV→am→Prop):Prop:=
 match rT (zO nt ts) o.op with
 |some (f,args)=>match B4 Γ f with
  |some C=>C args tm K
  |none=>False
 |none=>bif fz.2 then(bif Jb o.op then(top P (zO nt ts) tm o.op).holds K else(IE P (zO nt ts) tm o.op).holds K)else(top P (zO nt ts) tm o.op).holds (Ie fz.1 K)
def LL (P:Program) (nt:Nat) (W:List (Nat×List Nat)) (o:Oper) (ts:aU) (tm:am) (K:TV→am→Prop):Prop:=
 match o.op with
 | .load t a=>match zO nt ts a with
  | .ptr k off=>bif yQ W k then(nc P t (.ptr k off) tm).holds K else False
  |_=>False
 |_=>False
def BH (P:Program) (nt:Nat) (Γ:List (Nat×jy)) (fz:Bool×Bool) (ms:List Nat) (sp:Bool) (W:List (Nat×List Nat)) (i:Nat) (o:Oper) (ts:aU) (tm:am) (K:TV→am→Prop):Prop:=
 bif DD o.op then(zp P (zO nt ts) tm o.op).holds K else
 bif W.all fun p=>mi tm p.1 then
  bif E4 o.op&&F4 W then LL P nt W o ts tm K else ru P nt Γ fz o ts (eL ms sp W i 0 tm) fun v tm'=>bif (tm'.drop tm.length).all (·.w)then K v (eO ms sp W i 0 tm tm')else False
 else False
def qm (P:Program) (nt:Nat) (Γ:List (Nat×jy)) (gd:Nat→Option Tmp) (dr:Bool) (ms:List Nat) (sp:Nat→Bool) (W:List (Nat×List Nat)) (vw:Nat→Bool):List Oper→Nat→(aU→am→Prop)→aU→am→Prop
 |[],_,K,ts,tm=>K ts tm
 |o::rest,i,K,ts,tm=>
  let ex:aU→Prop:=fun ts=>bif dr then BH P nt Γ (Gd o rest||vw (i+1000),vw i) ms (sp i) W i o ts tm fun v tm'=>qm P nt Γ gd dr ms sp W vw rest (i+1) K (Bb ts o.dst v) tm'
   else ru P nt Γ (Gd o rest||vw (i+1000),vw i) o ts tm fun v tm'=>qm P nt Γ gd dr ms sp W vw rest (i+1) K (Bb ts o.dst v) tm'
  let sk:aU→Prop:=fun ts=>qm P nt Γ gd dr ms sp W vw rest (i+1) K (Bb ts o.dst (.tup [])) tm
  match o.guard with
  |none=>ex ts
  |some (j,want)=>match gd j with
   |none=>False
   |some d=>bif Nat.blt d nt then
     match ts d with
     | .tt=>bif want then ex ts else sk ts
     | .ff=>bif want then sk ts else ex ts
     | .tup []=>sk ts
     | .bool b=>(b=true→bif want then ex (qy ts d .tt)else sk (qy ts d .tt))∧(b=false→bif want then sk (qy ts d .ff)else ex (qy ts d .ff))
     |_=>False
    else False
mutual
def A1:Sh→Bool
 | .pure _=>false
 | .ag l=>k9 l
 | .pc l=>k9 l
 |_=>true
def k9:List Sh→Bool
 |[]=>true
 |s::l=>A1 s&&k9 l
end
mutual
def cC (ρ:Nat→Option Nat):TV→TV
 | .ptr k o=>match ρ k with
  |some k'=> .ptr k' o
  |none=> .any
 | .sl k=>match ρ k with
  |some k'=> .sl k'
  |none=> .any
 | .eptr k i j=>match ρ k with
  |some k'=> .eptr k' i j
  |none=> .any
 | .sv k l h=>match ρ k with
  |some k'=> .sv k' l h
  |none=> .any
 | .mp k=>match ρ k with
  |some k'=> .mp k'
  |none=> .any
 | .slf k o t=>match ρ k with
  |some k'=> .slf k' o t
  |none=> .any
 | .sb k=>match ρ k with
  |some k'=> .sb k'
  |none=> .any
 | .fptr cs=> .fptr (mK ρ cs)
 | .agg cs=> .agg (mK ρ cs)
 | .tup cs=> .tup (mK ρ cs)
 | .fn f xs ys=> .fn f (mK ρ xs) (mK ρ ys)
 |v=>v
def mK (ρ:Nat→Option Nat):List TV→List TV
 |[]=>[]
 |v::vs=>cC ρ v::mK ρ vs
end
def cw (ρ:Nat→Option Nat) (b:TB):TB:=
 match b.k with
 | .cells l=>⟨b.w, .cells (mK ρ l)⟩
 |_=>b
mutual
def Ju:TV→List Nat
 | .ptr k _=>[k]
 | .sl k=>[k]
 | .eptr k _ _=>[k]
 | .sv k _ _=>[k]
 | .mp k=>[k]
 | .slf k _ _=>[k]
 | .sb k=>[k]
 | .fptr cs=>kH cs
 | .agg cs=>kH cs
 | .tup cs=>kH cs
 | .fn _ xs ys=>kH xs++kH ys
 |_=>[]
def kH:List TV→List Nat
 |[]=>[]
 |v::vs=>Ju v++kH vs
end
def Jh (b:TB):List Nat:=
 match b.k with
 | .cells l=>kH l
 |_=>[]
def ib:List Nat→Nat→Bool
 |[],_=>false
 |a::l,k=>bif Nat.beq a k then true else ib l k
def dC:List Nat→Nat→Option Nat
 |[],_=>none
 |a::l,k=>bif Nat.beq a k then some 0 else(dC l k).map (·+1)
def dA (tm:am) (k:Nat):TB:=(tm[k]?).getD ⟨true, .dead⟩
def qW (tm:am):Nat→List Nat→List Nat→List Nat
 |0,done,_=>done
 |_+1,done,[]=>done
 |n+1,done,k::todo=>bif ib done k then qW tm n done todo else qW tm n (done++[k]) (todo++Jh (dA tm k))
def ot:List Nat→Bool
 |[]=>true
 |a::l=>bif ib l a then false else ot l
def shrink (σ:List Nat) (vs:List TV) (tm:am):List TV×am:=(mK (dC σ) vs,σ.map fun k=>cw (dC σ) (dA tm k))
def uX:Nat→List Nat→Bool
 |_,[]=>true
 |n,a::l=>bif Nat.beq n a then uX (n+1) l else false
def tN (k0:Nat) (vs:List TV) (tm:am) (K:List TV→am→Prop):Prop:=
 let σ:=qW tm 400 [] (List.range k0++kH vs)
 bif ot σ&&uX 0 (σ.take k0)&&Nat.ble k0 σ.length then K (shrink σ vs tm).1 (shrink σ vs tm).2 else False
def IZ {S:Type} (body:S→(S→Prop)→(S→Prop)→Prop):Nat→S→(S→Prop)→Prop
 |0,_,_=>False
 |n+1,s,Kx=>body s (fun s'=>IZ body n s' Kx) Kx
def ar {S:Type} (body:S→(S→Prop)→(S→Prop)→Prop) (s:S) (Kx:S→Prop):Prop:=∃n,IZ body n s Kx
structure LH where
 keep:List (Nat×Sh)
 S:Type
 enc:S→List TV×am
 dec:List TV→am→(S→Prop)→Prop
 law:∀vs tm K,dec vs tm K→∃s,enc s=(vs,tm)∧K s
def bE:List (Nat×Sh)→List TV→aU
 |(t,_)::ks,v::vs=>fun i=>bif Nat.beq i t then v else bE ks vs i
 |_,_=>fun _=> .any
def Cd:List (Nat×LH)→Nat→Option LH
 |[],_=>none
 |(g,h)::r,id=>bif Nat.beq id g then some h else Cd r id
def di:List (Nat×List (Nat×List Nat))→Nat→List (Nat×List Nat)
 |[],_=>[]
 |(g,w)::r,id=>bif Nat.beq id g then w else di r id
def I1 (ops:Array Oper) (W:List (Nat×List Nat)) (i:Nat):Bool:=FY ops i||(F4 W&&GJ ops i)
def Cs (P:Program) (nt:Nat) (Γ:List (Nat×jy)) (WW:List (Nat×List (Nat×List Nat))) (id:Nat) (ops:Array Oper) (dr:Bool) (Q:bU→aU→am→Prop) (ts:aU) (tm:am):Prop:=
 bif !dr||(fg ops&&(di WW id).all fun p=>mi tm p.1)then
  qm P nt Γ (nH ops) dr (ly ops.toList) (I1 ops (di WW id)) (di WW id) (GQ (di WW (2000000+id))) ops.toList 0 (fun ts tm=>Q .normal ts tm) ts tm
 else False
def jC (k0:Nat) (h:LH) (ts:aU) (tm:am) (K:h.S→Prop):Prop:=
 match rF (h.keep.map (·.2)) (h.keep.map fun p=>ts p.1) tm with
 |some (vs,tm')=>tN k0 vs tm' fun vs tm=>h.dec vs tm K
 |none=>False
def TW (P:Program) (nt:Nat) (Γ:List (Nat×jy)) (H:List (Nat×LH)) (WW:List (Nat×List (Nat×List Nat))) (k0:Nat):Code→(bU→aU→am→Prop)→aU→am→Prop
 | .skip,Q,ts,tm=>Q .normal ts tm
 | .ret,Q,ts,tm=>Q .ret ts tm
 | .exit id,Q,ts,tm=>Q (.exit id) ts tm
 | .seq x y,Q,ts,tm=>TW P nt Γ H WW k0 x (fun e ts tm=>match e with
   | .normal=>TW P nt Γ H WW k0 y Q ts tm
   | .ret=>Q .ret ts tm
   | .exit id=>Q (.exit id) ts tm) ts tm
 | .cond (.tmp t) x y,Q,ts,tm=>match zO nt ts (.tmp t)with
  | .tt=>TW P nt Γ H WW k0 x Q ts tm
  | .ff=>TW P nt Γ H WW k0 y Q ts tm
  | .bool b=>(b=true→TW P nt Γ H WW k0 x Q (qy ts t .tt) tm)∧(b=false→TW P nt Γ H WW k0 y Q (qy ts t .ff) tm)
  |_=>False
 | .cond (.const v) x y,Q,ts,tm=>match yZ v with
  | .tt=>TW P nt Γ H WW k0 x Q ts tm
  | .ff=>TW P nt Γ H WW k0 y Q ts tm
  |_=>False
 | .block id (.loop c),Q,ts,tm=>match Cd H id with
  |some h=>jC k0 h ts tm fun s=>ar (fun s Kb Kx=>TW P nt Γ H WW k0 c (fun e ts tm=>match e with
    | .normal=>jC k0 h ts tm Kb
    | .ret=>Q .ret ts tm
    | .exit j=>bif Nat.beq j id then jC k0 h ts tm Kx else Q (.exit j) ts tm) (bE h.keep (h.enc s).1) (h.enc s).2) s
    fun s=>Q .normal (bE h.keep (h.enc s).1) (h.enc s).2
  |none=>False
 | .block id c,Q,ts,tm=>TW P nt Γ H WW k0 c (fun e ts tm=>match e with
   | .normal=>Q .normal ts tm
   | .ret=>Q .ret ts tm
   | .exit j=>bif Nat.beq j id then Q .normal ts tm else Q (.exit j) ts tm) ts tm
 | .region id ops dr,Q,ts,tm=>match Cd H (1000000+id)with
  |some h=>jC k0 h ts tm fun s=>Cs P nt Γ WW id ops dr Q (bE h.keep (h.enc s).1) (h.enc s).2
  |none=>Cs P nt Γ WW id ops dr Q ts tm
 |_,_,_,_=>False
mutual
def JM:Sh→Sh
 | .pure _=> .x
 | .ag l=> .ag (Dc l)
 | .pc l=> .pc (Dc l)
 |s=>s
def Dc:List Sh→List Sh
 |[]=>[]
 |s::l=>JM s::Dc l
end
mutual
def fo (tm:am):Sh→TV→Option (TV×List Nat)
 | .pure e, .nil=>some (.pl e [],[])
 | .pure e, .nz es=>bif Nat.beq es e.es then some (.pl e [],[])else none
 | .pure _, .pl e l=>some (.pl e l,[])
 | .pure _, .sl k=>match tm[k]? with
  |some ⟨_, .list e l⟩=>some (.pl e l,[k])
  |_=>none
 | .pure _, .sv k l h=>match tm[k]? with
  |some ⟨_, .list e s⟩=>some (.pl e ((s.take h.toNat).drop l.toNat),[k])
  |_=>none
 | .ag ss, .agg vs=>match qt tm ss vs with
  |some (vs',bs)=>some (.agg vs',bs)
  |none=>none
 | .x,v=>some (v,[])
 | .bl,v=>some (v,[])
 | .own _,v=>some (v,[])
 | .mv _,v=>some (v,[])
 | .pc _,v=>some (v,[])
 |_,_=>none
def qt (tm:am):List Sh→List TV→Option (List TV×List Nat)
 |[],[]=>some ([],[])
 |s::ss,v::vs=>match fo tm s v,qt tm ss vs with
  |some (v',bs),some (vs',bs')=>some (v'::vs',bs++bs')
  |_,_=>none
 |_,_=>none
end
mutual
def nN:TV→Bool
 | .pl _ _=>false
 | .fptr _=>false
 | .agg cs=>lz cs
 | .tup cs=>lz cs
 | .fn _ xs ys=>lz xs&&lz ys
 |_=>true
def lz:List TV→Bool
 |[]=>true
 |v::vs=>nN v&&lz vs
end
def ze (b:TB):Bool:=
 match b.k with
 | .cells l=>lz l
 | .list .ints _=>false
 | .list .node _=>false
 |_=>true
def jn (bs:List Nat):Nat→am→am
 |_,[]=>[]
 |k,b::r=>(bif ib bs k then⟨true, .dead⟩else b)::jn bs (k+1) r
def kx (σ:List Nat) (len j:Nat):Option Nat:=bif Nat.blt j σ.length then σ[j]? else some (len+(j-σ.length))
def l6 (σ:List Nat) (tm tm':am):am:=
 ((List.range tm.length).map fun k=>match dC σ k with
  |some j=>cw (kx σ tm.length) (dA tm' j)
  |none=>dA tm k)++(tm'.drop σ.length).map (cw (kx σ tm.length))
def pU (σ:List Nat) (len:Nat) (tm':am):Nat→am→am
 |_,[]=>[]
 |k,b::r=>(match dC σ k with
  |some j=>cw (kx σ len) (dA tm' j)
  |none=>b)::pU σ len tm' (k+1) r
def zD (σ:List Nat) (tm tm':am):am:=pU σ tm.length tm' 0 tm++(tm'.drop σ.length).map (cw (kx σ tm.length))
theorem sY (σ:List Nat) (len:Nat) (tm':am):∀(tm:am) (k i:Nat),(pU σ len tm' k tm)[i]? =(tm[i]?).map fun b=>match dC σ (k+i)with
  |some j=>cw (kx σ len) (dA tm' j)
  |none=>b
 |[],k,i=>by simp[pU]
 |b::r,k,0=>by simp[pU]
 |b::r,k,i+1=>by
  rw[pU,List.getElem?_cons_succ,sY σ len tm' r (k+1) i,List.getElem?_cons_succ,show k+1+i=k+(i+1) by omega]
theorem CI (σ:List Nat) (tm tm':am):zD σ tm tm'=l6 σ tm tm':=by
 unfold zD l6
 congr 1
 apply List.ext_getElem?
 intro i
 rw[sY,List.getElem?_map]
 by_cases h:i<tm.length
 ·rw[List.getElem?_range h,List.getElem?_eq_getElem h]
  simp only[Option.map_some,Nat.zero_add]
  cases dC σ i with
  |some j=>rfl
  |none=>simp[dA,h]
 ·rw[List.getElem?_eq_none (by omega),List.getElem?_eq_none (by simp;omega)]
  rfl
def sP (b:TB):Bool:=
 match b.k with
 | .cells _=>b.w
 | .list _ _=>b.w
 | .dead=>b.w
 |_=>false
def Iy (sig:List Sh) (G:jy):jy:=fun args tm K=>
 match rF (Dc sig) args tm with
 |none=>False
 |some (args1,tm1)=>match qt tm1 sig args1 with
  |none=>False
  |some (args2,bs)=>
   let tmb:=jn bs 0 tm1
   let σ:=qW tmb 400 [] (kH args2)
   bif ot σ&&σ.all (Nat.blt · tm1.length)&&bs.all (fun b=> !ib σ b)then
    G (shrink σ args2 tmb).1 (shrink σ args2 tmb).2 fun r tm'=>
     bif Nat.ble σ.length tm'.length&&(tm'.drop σ.length).all sP&&(bs.isEmpty||(nN r&&tm'.all ze))then K (cC (kx σ tm1.length) r) (zD σ tm1 tm')else False
   else False
def B1 (P:Program) (nt:Nat) (ts:aU) (tm:am):ResultVar→Option TV
 | .tmp t=>some (zO nt ts (.tmp t))
 | .cell a t=>match zO nt ts (.tmp a)with
  | .ptr k o=>match tm[k]? with
   |some ⟨_, .cells l⟩=>px P t (l.drop o)
   |_=>none
  |_=>none
def uG (P:Program) (nt:Nat) (ts:aU) (tm:am):List ResultVar→Option (List TV)
 |[]=>some []
 |r::rs=>match B1 P nt ts tm r,uG P nt ts tm rs with
  |some v,some vs=>some (v::vs)
  |_,_=>none
def Ix:List TV→TV
 |[v]=>v
 |vs=> .tup vs
def uV:List Nat→List TV→am→(List TV→am→Prop)→Prop
 |[],vs,tm,K=>K vs tm
 |k::ks,vs,tm,K=>match tm[k]? with
  |some ⟨true, .list e l⟩=>uV ks (mK (fun i=>some (bif Nat.beq i k then tm.length else i)) vs) ((tm.set k ⟨true, .dead⟩++([⟨true, .list e l⟩]:am)).map (cw fun i=>some (bif Nat.beq i k then tm.length else i))) K
  |some ⟨_, .dead⟩=>uV ks vs tm K
  |_=>False
def kr (P:Program) (nt:Nat) (rs:List ResultVar) (shs:List Sh) (cons:List Nat) (k0:Nat) (K:TV→am→Prop):bU→aU→am→Prop
 | .exit _,_,_=>False
 |_,ts,tm=>match uG P nt ts tm rs with
  |some vs=>uV cons vs tm fun vs tm=>match rF shs vs tm with
   |some (vs,tm)=>tN k0 vs tm fun vs tm=>K (Ix vs) tm
   |none=>False
  |none=>False
end Go.Ab
