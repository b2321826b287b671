/- What is proved here: nothing yet: the words of a layer of typed symbolic values over the abstract machine, and a reader of the translated code that says what is to be shown of it. -/
import Derived.Test.YtigomgblkieahaaGreatDoorB5
namespace Go.Ab
structure HeapV where
 l:List Int
 r:List Int
 ro:List Int
 deriving DecidableEq
structure OpV where
 kind:Int
 a:Int
 b:Int
 deriving DecidableEq
structure StoreV where
 h:HeapV
 free:List Int
 deriving DecidableEq
structure GcV where
 phase:Int
 color:List Int
 pos:Int
 deriving DecidableEq
structure BothV where
 s:StoreV
 g:GcV
 ops:List OpV
 pos:Int
 lost:Bool
 deriving DecidableEq
structure NodeV where
 b:BothV
 road:List UInt8
 deriving DecidableEq
inductive EK where
 |int|byte|bool|str|op|ints|node
@[reducible] def EK.T:EK→Type
 | .int=>Int
 | .byte=>Int
 | .bool=>Bool
 | .str=>List UInt8
 | .op=>OpV
 | .ints=>List Int
 | .node=>NodeV
def EK.es:EK→Nat
 | .op=>3
 | .node=>11
 |_=>1
def EK.beq:EK→EK→Bool
 | .int, .int| .byte, .byte| .bool, .bool| .str, .str| .op, .op| .ints, .ints| .node, .node=>true
 |_,_=>false
def EK.dflt:(e:EK)→e.T
 | .int=>(0:Int)
 | .byte=>(0:Int)
 | .bool=>false
 | .str=>([]:List UInt8)
 | .op=>(⟨0,0,0⟩:OpV)
 | .ints=>([]:List Int)
 | .node=>(⟨⟨⟨⟨[],[],[]⟩,[]⟩,⟨0,[],0⟩,[],0,false⟩,[]⟩:NodeV)
def castE:(e e':EK)→List e.T→Option (List e'.T)
 | .int, .int,l=>some l
 | .byte, .byte,l=>some l
 | .bool, .bool,l=>some l
 | .str, .str,l=>some l
 | .op, .op,l=>some l
 | .ints, .ints,l=>some l
 | .node, .node,l=>some l
 |_,_,_=>none
inductive TV where
 |any
 |tt
 |ff
 |bool (b:Bool)
 |int (k:IntKind) (n:Int)
 |str (s:List UInt8)
 |nilp
 |nilfn
 |nili
 |nilm
 |nil
 |nz (es:Nat)
 |ptr (k o:Nat)
 |sl (k:Nat)
 |pl (e:EK) (l:List e.T)
 |eptr (k:Nat) (i:Int) (j:Nat)
 |sv (k:Nat) (l h:Int)
 |fptr (cs:List TV)
 |agg (cs:List TV)
 |tup (cs:List TV)
 |fn (f:FuncId) (xs ys:List TV)
 |mp (k:Nat)
 |slf (k o:Nat) (t:TypeId)
 |sb (k:Nat)
 |er (b:Bool)
 deriving Inhabited
def enc:(e:EK)→e.T→List TV
 | .int,n=>[.int .i64 n]
 | .byte,n=>[.int .u8 n]
 | .bool,b=>[.bool b]
 | .str,s=>[.str s]
 | .op,o=>[.int .i64 o.kind, .int .i64 o.a, .int .i64 o.b]
 | .ints,l=>[.pl .int l]
 | .node,x=>[.pl .int x.b.s.h.l, .pl .int x.b.s.h.r, .pl .int x.b.s.h.ro, .pl .int x.b.s.free, .int .i64 x.b.g.phase, .pl .int x.b.g.color, .int .i64 x.b.g.pos, .pl .op x.b.ops, .int .i64 x.b.pos, .bool x.b.lost, .str x.road]
def asInts:TV→Option (List Int)
 | .pl .int l=>some l
 | .nil=>some []
 |_=>none
def asOps:TV→Option (List OpV)
 | .pl .op l=>some l
 | .nil=>some []
 |_=>none
def asB:TV→Option Bool
 | .bool b=>some b
 | .tt=>some true
 | .ff=>some false
 |_=>none
def asI:TV→Option Int
 | .int .i64 n=>some n
 |_=>none
def dec:(e:EK)→List TV→Option e.T
 | .int,[.int .i64 n]=>some n
 | .byte,[.int .u8 n]=>some n
 | .bool,[t]=>asB t
 | .str,[.str s]=>some s
 | .op,[.int .i64 k, .int .i64 a, .int .i64 b]=>some ⟨k,a,b⟩
 | .ints,[t]=>asInts t
 | .node,[a,b,c,d, .int .i64 p,e, .int .i64 q,f, .int .i64 s,g, .str r]=>
  match asInts a,asInts b,asInts c,asInts d,asInts e,asOps f,asB g with
  |some a,some b,some c,some d,some e,some f,some g=>some ⟨⟨⟨⟨a,b,c⟩,d⟩,⟨p,e,q⟩,f,s,g⟩,r⟩
  |_,_,_,_,_,_,_=>none
 |_,_=>none
inductive TK where
 |dead
 |hid
 |gone (e:EK) (n:Nat)
 |cells (l:List TV)
 |list (e:EK) (l:List e.T)
 |keys (ks:List (List UInt8))
 deriving Inhabited
def TK.shape:TK→Option (EK×Nat)
 | .list e l=>some (e,l.length)
 | .gone e n=>some (e,n)
 |_=>none
structure TB where
 w:Bool
 k:TK
 deriving Inhabited
abbrev TMem:=List TB
abbrev TFrm:=Nat→TV
def tset (ts:TFrm) (d:Nat) (v:TV):TFrm:=fun i=>bif Nat.beq i d then v else ts i
def tput (ts:TFrm) (dst:Option Tmp) (v:TV):TFrm:=
 match dst with
 |some d=>tset ts d v
 |none=>ts
def tvScal:Value→TV
 | .bool true=> .tt
 | .bool false=> .ff
 | .int k n=> .int k n
 | .string s=> .str s.data.toList
 | .pointer none=> .nilp
 | .slice none 0 0=> .nil
 | .map none=> .nilm
 | .nilFunc=> .nilfn
 | .nilIface=> .nili
 | .func (.func f) ⟨[]⟩ ⟨[]⟩=> .fn f [] []
 |_=> .any
def tvVal:Value→TV
 | .agg cs=> .agg (cs.toList.map tvScal)
 | .tuple cs=> .tup (cs.toList.map tvScal)
 |v=>tvScal v
def gtab:List (Nat×List (List UInt8)):=[(0,[[],[110,101,119],[99,111,112,121],[108,101,102,116],[114,105,103,104,116],[112,117,116,108,101,102,116],[112,117,116,114,105,103,104,116],[99,108,101,97,114]])]
def gints:List Nat:=[1]
def gtabI:List (Nat×List Int):=[(2,[1,10,100,1000,10000,100000,1000000,10000000,100000000,1000000000,10000000000,100000000000,1000000000000,10000000000000,100000000000000,1000000000000000,10000000000000000,100000000000000000,1000000000000000000,10000000000000000000])]
def gerrs:List Nat:=[5,6]
def GP (bs:Nat→Blk):Prop:=(∀p∈gtab,p.1<G0∧(bs p.1).cells=p.2.map fun s=>AVal.str ⟨s.toArray⟩)∧(∀g∈gints,g<G0∧∃k,(bs g).cells=[.int .i64 k])∧
 (∀p∈gtabI,p.1<G0∧(bs p.1).cells=p.2.map (.int .u64))∧∀g∈gerrs,g<G0∧∃a,(bs g).cells=[a]∧(a= .nilIfc∨∃t,a= .ifc t .any)
theorem GP.congr {bs bs':Nat→Blk} (h:GP bs) (e:∀n,n<G0→bs' n=bs n):GP bs':=
 ⟨fun p hp=>⟨(h.1 p hp).1,by rw[e _ (h.1 p hp).1];exact(h.1 p hp).2⟩,fun g hg=>⟨(h.2.1 g hg).1,by rw[e _ (h.2.1 g hg).1];exact(h.2.1 g hg).2⟩,
  fun p hp=>⟨(h.2.2.1 p hp).1,by rw[e _ (h.2.2.1 p hp).1];exact(h.2.2.1 p hp).2⟩,fun g hg=>⟨(h.2.2.2 g hg).1,by rw[e _ (h.2.2.2 g hg).1];exact(h.2.2.2 g hg).2⟩⟩
def lookG:List (Nat×List (List UInt8))→Nat→Option (List (List UInt8))
 |[],_=>none
 |(g,l)::r,k=>bif Nat.beq k g then some l else lookG r k
def tev (n:Nat) (ts:TFrm):Operand→TV
 | .tmp t=>bif Nat.blt t n then ts t else .any
 | .const v=>tvVal v
 | .global g=>match lookG gtab g with
  |some l=> .fptr (l.map .str)
  |none=> .any
 | .func f=> .fn f [] []
def tvA:AVal→TV
 | .bool true=> .tt
 | .bool false=> .ff
 | .int k n=> .int k n
 | .str s=> .str s.data.toList
 | .ptr none=> .nilp
 | .nilSl=> .nil
 | .map none=> .nilm
 | .nilFn=> .nilfn
 | .nilIfc=> .nili
 |_=> .any
def cellsT:TV→Option (List TV)
 | .agg cs=>some cs
 | .any| .tup _| .slf .. =>none
 |v=>some [v]
def oneT:TV→Bool
 | .any| .agg _| .tup _| .slf .. =>false
 |_=>true
def setC {α:Type}:List α→Nat→List α→List α
 |cs,_,[]=>cs
 |cs,o,v::vs=>setC (cs.set o v) (o+1) vs
def tfill (place:Nat→Option (Nat×Nat)):List TV→List (Nat×TV)→Option (List TV)
 |cs,[]=>some cs
 |cs,(i,v)::rest=>
  match place i,cellsT v with
  |some (off,size),some vs=>bif Nat.beq vs.length size&&Nat.ble (off+size) cs.length then tfill place (setC cs off vs) rest else none
  |_,_=>none
def lbuild (e:EK):Nat→List (Nat×TV)→Option (List e.T)
 |_,[]=>some []
 |s,(i,v)::rest=>
  match cellsT v with
  |some vs=>match dec e vs,lbuild e (s+1) rest with
   |some x,some l=>bif Nat.beq i s&&Nat.beq vs.length e.es then some (x::l)else none
   |_,_=>none
  |none=>none
section types
variable (P:Program)
def ekT (t:TypeId):Option EK:=
 match tKd P t with
 |some (.int .i64)=>some .int
 |some (.int .u8)=>some .byte
 |some .bool=>some .bool
 |some .string=>some .str
 |some .slice=>match tElem P t with
  |some e=>match tKd P e with
   |some (.int .i64)=>some .ints
   |_=>none
  |none=>none
 |some .other=>match tSize P t with
  |some 3=>some .op
  |some 11=>some .node
  |_=>none
 |_=>none
def ekS (t:TypeId):Option EK:=
 match tElem P t with
 |some e=>match ekT P e,tSize P e with
  |some k,some s=>bif Nat.beq s k.es then some k else none
  |_,_=>none
 |none=>none
end types
inductive TR where
 |stuck
 |ok (v:TV) (tm:TMem)
 |chk (p:Prop) (v:TV) (tm:TMem)
 |anyb (p:Bool→Prop) (tm:TMem)
def ints2 (op:BinOp) (k:IntKind) (a b:Int) (tm:TMem):TR:=
 match op with
 | .add=> .ok (.int k (k.wrap (a+b))) tm
 | .sub=> .ok (.int k (k.wrap (a-b))) tm
 | .mul=> .ok (.int k (k.wrap (a*b))) tm
 | .quo=> .chk (b≠0) (.int k (k.wrap (a.tdiv b))) tm
 | .rem=> .chk (b≠0) (.int k (a.tmod b)) tm
 | .xor=> .ok (.int k (k.wrap (BitVec.ofInt k.bits a^^^BitVec.ofInt k.bits b).toNat)) tm
 | .and=> .ok (.int k (k.wrap (BitVec.ofInt k.bits a&&&BitVec.ofInt k.bits b).toNat)) tm
 | .shr=> .chk (0≤b) (.int k (a.fdiv (2^min b.toNat k.bits))) tm
 | .eql=> .ok (.bool (a==b)) tm
 | .neq=> .ok (.bool (a !=b)) tm
 | .lss=> .ok (.bool (a<b)) tm
 | .leq=> .ok (.bool (a≤b)) tm
 | .gtr=> .ok (.bool (a>b)) tm
 | .geq=> .ok (.bool (a≥b)) tm
 |_=> .stuck
def IntKind.bq:IntKind→IntKind→Bool
 | .i64, .i64| .u8, .u8| .i8, .i8| .i16, .i16| .i32, .i32| .u16, .u16| .u32, .u32| .u64, .u64=>true
 |_,_=>false
def nilT (tm:TMem):TV→Option Nat
 | .pl _ l=>some l.length
 | .sl k=>match tm[k]? with
  |some b=>b.k.shape.map (·.2)
  |none=>none
 | .nz _=>some 0
 |_=>none
def tbin (P:Program) (op:BinOp) (t:TypeId) (x y:TV) (tm:TMem):TR:=
 match x,y with
 | .int k a, .int k' b=>bif IntKind.bq k k' then ints2 op k a b tm else .stuck
 | .str a, .str b=>
  match op with
  | .add=> .chk (a.length+b.length≤2^62) (.str (a++b)) tm
  | .eql=> .ok (.bool (a==b)) tm
  | .neq=> .ok (.bool (!(a==b))) tm
  | .lss=> .ok (.bool (Op.bytesLess a b)) tm
  | .geq=> .ok (.bool (!(Op.bytesLess a b))) tm
  |_=> .stuck
 | .agg [.int .i64 a1, .int .i64 a2, .int .i64 a3], .agg [.int .i64 b1, .int .i64 b2, .int .i64 b3]=>
  bif intF3 P t then(match op with
   | .eql=> .ok (.bool (a1==b1&&(a2==b2&&a3==b3))) tm
   | .neq=> .ok (.bool (!(a1==b1&&(a2==b2&&a3==b3)))) tm
   |_=> .stuck)else .stuck
 |x, .nil=>
  match tKd P t,nilT tm x,op with
  |some .slice,some n, .eql=> .anyb (fun b=>n≠0→b=false) tm
  |some .slice,some n, .neq=> .anyb (fun b=>n≠0→b=true) tm
  |_,_,_=> .stuck
 |_,_=>
  match asB x,asB y,tKd P t with
  |some a,some b,some .bool=>
   match op with
   | .eql=> .ok (.bool (a==b)) tm
   | .neq=> .ok (.bool (!(a==b))) tm
   |_=> .stuck
  |_,_,_=> .stuck
def tbinY (P:Program) (op:BinOp) (t:TypeId) (x:TV) (y:Operand) (yv:TV) (tm:TMem):TR:=
 match isNilC y with
 |false=>tbin P op t x yv tm
 |true=>match tKd P t,x,yv,op with
  |some .iface, .er b, .nili, .eql=> .ok (.bool b) tm
  |some .iface, .er b, .nili, .neq=> .ok (.bool !b) tm
  |_,_,_,_=> .stuck
def rdT (tm:TMem):TV→Option ((e:EK)×List e.T)
 | .pl e l=>some ⟨e,l⟩
 | .sl k=>match tm[k]? with
  |some ⟨_, .list e l⟩=>some ⟨e,l⟩
  |_=>none
 |_=>none
def tload (P:Program) (t:TypeId) (cs:List TV):Option TV:=
 match tAgg P t,tSize P t with
 |some true,some s=>bif Nat.ble s cs.length&&Nat.blt 0 s then some (.agg (cs.take s))else none
 |some false,_=>cs[0]?
 |_,_=>none
def optR (v:Option TV) (tm:TMem):TR:=
 match v with
 |some v=> .ok v tm
 |none=> .stuck
def srcT (tm:TMem) (e:EK):TV→Option (List e.T)
 | .nil=>some []
 | .nz es=>bif Nat.beq es e.es then some []else none
 | .pl e' l=>castE e' e l
 | .sl k=>match tm[k]? with
  |some ⟨_, .list e' l⟩=>castE e' e l
  |_=>none
 | .sv k l h=>match tm[k]? with
  |some ⟨_, .list e' s⟩=>castE e' e ((s.take h.toNat).drop l.toNat)
  |_=>none
 |_=>none
def bytesI (q:List UInt8):List Int:=q.map fun b=>(b.toNat:Int)
def tsapp (P:Program) (t tx:TypeId) (s:TV) (q:List UInt8) (tm:TMem):TR:=
 match tElem P t,tKd P tx,tSize P byT,tBytes P byT,(tZero P byT).map (·.length)with
 |some e,some .string,some 1,some 1,some 1=>bif Nat.beq e byT then
   match s with
   | .sb k=>match tm[k]? with
    |some ⟨true, .list .byte l⟩=> .chk (l.length+q.length≤2^36) (.sb tm.length) (tm.set k ⟨true, .dead⟩++[⟨true, .list .byte (l++bytesI q)⟩])
    |_=> .stuck
   |_=> .stuck
  else .stuck
 |_,_,_,_,_=> .stuck
def tappend (P:Program) (t tx:TypeId) (s x:TV) (tm:TMem):TR:=
 match ekS P t,Nat.beq tx t,(tElem P t).bind (tBytes P),((tElem P t).bind (tZero P)).map (·.length)with
 |some e,true,some by_,some zl=>
  bif Nat.ble by_ 1024&&Nat.beq zl e.es then
   match srcT tm e x with
   |some ys=>
    match s with
    | .nil=> .chk (ys.length≤2^36) (.sl tm.length) (tm++[⟨true, .list e ys⟩])
    | .nz es=>bif Nat.beq es e.es then .chk (ys.length≤2^36) (.sl tm.length) (tm++[⟨true, .list e ys⟩])else .stuck
    | .sl k=>match tm[k]? with
     |some ⟨true, .list e' l⟩=>match castE e' e l with
      |some xs=> .chk (xs.length+ys.length≤2^36) (.sl tm.length) (tm.set k ⟨true, .dead⟩++[⟨true, .list e (xs++ys)⟩])
      |none=> .stuck
     |_=> .stuck
    |_=> .stuck
   |none=> .stuck
  else .stuck
 |_,_,_,_=> .stuck
def ointT:Option TV→Int→Option Int
 |some (.int _ n),_=>some n
 |none,d=>some d
 |_,_=>none
def tslice (P:Program) (t:TypeId) (x:TV) (lo hi mx:Option TV) (tm:TMem):TR:=
 match x with
 | .str s=>match tKd P t,mx,ointT hi s.length,ointT lo 0 with
  |some .string,none,some h,some l=> .chk (0≤l∧l≤h∧h≤s.length) (.str ((s.take h.toNat).drop l.toNat)) tm
  |_,_,_,_=> .stuck
 | .pl e s=>match tKd P t,ekS P t,mx,ointT hi s.length,ointT lo 0 with
  |some .slice,some e',none,some h,some l=>bif Nat.beq e'.es e.es then .chk (0≤l∧l≤h∧h≤s.length) (.pl e ((s.take h.toNat).drop l.toNat)) tm else .stuck
  |_,_,_,_,_=> .stuck
 | .sl k=>match tm[k]? with
  |some ⟨true, .list e s⟩=>match tKd P t,ekS P t,ointT hi s.length,ointT lo 0 with
   |some .slice,some e',some h,some l=>bif Nat.beq e'.es e.es then
     match mx with
     |none=> .chk (0≤l∧l≤h∧h≤s.length) (.sl tm.length) (tm.set k ⟨true, .dead⟩++[⟨true, .list e ((s.take h.toNat).drop l.toNat)⟩])
     |some (.int _ q)=>match hi with
      |some _=> .chk (0≤l∧l≤h∧h≤q∧q≤s.length) (.sl tm.length) (tm.set k ⟨true, .dead⟩++[⟨true, .list e ((s.take h.toNat).drop l.toNat)⟩])
      |none=> .stuck
     |_=> .stuck
    else .stuck
   |_,_,_,_=> .stuck
  |_=> .stuck
 | .nil=>match tKd P t,ekS P t,mx,ointT hi 0,ointT lo 0 with
  |some .slice,some _,none,some h,some l=> .chk (h=0∧l=0) .nil tm
  |_,_,_,_,_=> .stuck
 |_=> .stuck
def tzap (P:Program) (t tx:TypeId) (s x:TV) (tm:TMem):TR:=
 match ekS P t,tKd P tx,(tElem P t).bind (tBytes P),(tElem P t).bind (tZero P),s,x with
 |some e,some (.int .i64),some by_,some [z], .nil, .int .i64 n=>match dec e [tvA z]with
  |some v=>bif Nat.ble by_ 1024&&Nat.beq e.es 1 then .chk (0<n∧n≤2^36) (.sl tm.length) (tm++[⟨true, .list e (List.replicate n.toNat v)⟩])else .stuck
  |none=> .stuck
 |_,_,_,_,_,_=> .stuck
def tsliceV (P:Program) (t:TypeId) (x:TV) (lo hi:Option TV) (tm:TMem):TR:=
 match x with
 | .sl k=>match tm[k]? with
  |some b=>match b.k.shape with
   |some (e,n)=>match tKd P t,ekS P t,ointT hi n,ointT lo 0 with
    |some .slice,some e',some h,some l=>bif Nat.beq e'.es e.es then .chk (0≤l∧l≤h∧h≤n) (.sv k l h) tm else .stuck
    |_,_,_,_=> .stuck
   |none=> .stuck
  |none=> .stuck
 |_=> .stuck
def topV (P:Program) (ρ:Operand→TV) (tm:TMem):Op→TR
 | .slice t x lo hi mx=>match mx,ρ x with
  |none, .sl k=>tsliceV P t (.sl k) (lo.map ρ) (hi.map ρ) tm
  |mx,v=>tslice P t v (lo.map ρ) (hi.map ρ) (mx.map ρ) tm
 |_=> .stuck
def cpSrc (tm:TMem):TV→Option ((e:EK)×List e.T)
 | .pl e l=>some ⟨e,l⟩
 | .sl k=>match tm[k]? with
  |some ⟨_, .list e l⟩=>some ⟨e,l⟩
  |_=>none
 | .sv k l h=>match tm[k]? with
  |some ⟨_, .list e s⟩=>some ⟨e,(s.take h.toNat).drop l.toNat⟩
  |_=>none
 |_=>none
def cpDst (tm:TMem):TV→Option (Nat×Int×Int)
 | .sl k=>match tm[k]? with
  |some ⟨_, .list _ s⟩=>some (k,0,s.length)
  |_=>none
 | .sv k l h=>some (k,l,h)
 |_=>none
def tcopy (P:Program) (t:TypeId) (d s:TV) (tm:TMem):TR:=
 match ekS P t,cpDst tm d,cpSrc tm s with
 |some e',some (k,l,h),some ⟨e2,xs⟩=>match tm[k]? with
  |some ⟨true, .list e q⟩=>match castE e2 e xs with
   |some ys=>bif Nat.beq e'.es 1&&Nat.beq e.es 1 then
    .chk (0<ys.length∧l<h) (.int .i64 (Nat.min ys.length (h-l).toNat:Nat)) (tm.set k ⟨true, .list e (setC q l.toNat (ys.take (h-l).toNat))⟩)else .stuck
   |none=> .stuck
  |_=> .stuck
 |_,_,_=> .stuck
def tloadAt (P:Program) (t:TypeId) (x:TV) (tm:TMem):TR:=
 match x with
 | .ptr k o=>match tm[k]? with
  |some ⟨_, .cells l⟩=>optR (tload P t (l.drop o)) tm
  |_=> .stuck
 | .eptr k i j=>match tm[k]? with
  |some ⟨_, .list e l⟩=>optR (tload P t ((enc e (l.getD i.toNat e.dflt)).drop j)) tm
  |_=> .stuck
 | .fptr cs=>optR (tload P t cs) tm
 |_=> .stuck
def isSlf:TV→Bool
 | .slf .. =>true
 |_=>false
def toBl:TV→TV
 | .tt=> .bool true
 | .ff=> .bool false
 |v=>v
def nrmB (l:List TV):List TV:=bif l.any isSlf then l.map toBl else l
def tstoreAt (P:Program) (t:TypeId) (x y:TV) (tm:TMem):TR:=
 match cellsT y,tSize P t with
 |some vs,some s=>bif Nat.beq vs.length s&&vs.all oneT then
   match x with
   | .ptr k o=>match tm[k]? with
    |some ⟨true, .cells l⟩=>bif Nat.ble (o+s) l.length then .ok (.tup []) (tm.set k ⟨true, .cells (nrmB (setC l o vs))⟩)else .stuck
    |_=> .stuck
   | .eptr k i j=>match tm[k]? with
    |some ⟨true, .list e l⟩=>bif Nat.ble (j+s) e.es then
      match dec e (setC (enc e (l.getD i.toNat e.dflt)) j vs)with
      |some v=> .ok (.tup []) (tm.set k ⟨true, .list e (l.set i.toNat v)⟩)
      |none=> .stuck
     else .stuck
    |_=> .stuck
   |_=> .stuck
  else .stuck
 |_,_=> .stuck
def strsOf:List TV→Option (List (List UInt8))
 |[]=>some []
 | .str s::r=>(strsOf r).map (s::·)
 |_=>none
def tindexAt (P:Program) (t:TypeId) (x i:TV) (tm:TMem):TR:=
 match ekS P t,x,i with
 |none, .fptr cs, .int _ i=>match tArr P t,strsOf cs with
  |some (n,e),some l=>bif Nat.beq ((tSize P e).getD 0) 1&&Nat.beq n l.length then .chk (0≤i∧i<l.length) (.fptr [.str (l.getD i.toNat [])]) tm else .stuck
  |_,_=> .stuck
 |some e', .sl k, .int _ i=>match tm[k]? with
  |some ⟨_, .list e l⟩=>bif Nat.beq e'.es e.es then .chk (0≤i∧i<l.length) (.eptr k i 0) tm else .stuck
  |_=> .stuck
 |some e', .pl e l, .int _ i=>bif Nat.beq e'.es e.es then .chk (0≤i∧i<l.length) (.fptr (enc e (l.getD i.toNat e.dflt))) tm else .stuck
 |_,_,_=> .stuck
def liveT (tm:TMem) (k:Nat):Bool:=
 match tm[k]? with
 |some b=>b.k.shape.isSome
 |none=>false
def bytesOf (l:List Int):List UInt8:=l.map fun n=>UInt8.ofNat n.toNat
def tset_ (P:Program) (t:TypeId) (x k v:TV) (tm:TMem):TR:=
 match x,k,v with
 | .mp b, .str s, .tt=>match tm[b]? with
  |some ⟨true, .keys ks⟩=>bif tMapB P t then .ok (.tup []) (tm.set b ⟨true, .keys (addKey ks s)⟩)else .stuck
  |_=> .stuck
 |_,_,_=> .stuck
def task (P:Program) (t:TypeId) (x k:TV) (tm:TMem):TR:=
 match x,k with
 | .mp b, .str s=>match tm[b]? with
  |some ⟨true, .keys ks⟩=>bif tMapB P t then .ok (.bool (ks.contains s)) tm else .stuck
  |_=> .stuck
 |_,_=> .stuck
def slfV (k:Nat) (t:TypeId) (l:List TV):Option TMem:=
 match slfO slfTs t with
 |some o=>match l[o]?,l[o+1]? with
  |some .nilp,some .nil=>some [⟨true, .cells (((l.set o (.slf k o t)).set (o+1) (.sb (k+1))).map toBl)⟩,⟨true, .list .byte []⟩]
  |_,_=>none
 |none=>some [⟨true, .cells l⟩]
def newO (t:TypeId) (l:List TV) (tm:TMem):TR:=
 match slfV tm.length t l with
 |some q=> .ok (.ptr tm.length 0) (tm++q)
 |none=> .stuck
def top (P:Program) (ρ:Operand→TV) (tm:TMem):Op→TR
 | .move x| .assign x=> .ok (ρ x) tm
 | .pick c a b=>match ρ c with
  | .tt=> .ok (ρ a) tm
  | .ff=> .ok (ρ b) tm
  |_=> .stuck
 | .alloc t=>match tZero P t with
  |some z=>newO t (z.map tvA) tm
  |none=> .stuck
 | .box t x=>match cellsT (ρ x)with
  |some cs=>newO t cs tm
  |none=> .stuck
 | .build t parts=>match tFields P t,tZero P t with
  |some fs,some z=>match tfill (fs[·]?) (z.map tvA) (parts.toList.map fun p=>(p.1,ρ p.2))with
   |some cs=> .ok (.agg cs) tm
   |none=> .stuck
  |_,_=> .stuck
 | .buildSlice t len parts=>match ekS P t,((tElem P t).bind (tZero P)).map (·.length)with
  |some e,some zl=>bif Nat.beq zl e.es&&Nat.ble (len*e.es) 16777216 then
    match lbuild e 0 (parts.toList.map fun p=>(p.1,ρ p.2))with
    |some l=>bif Nat.beq l.length len then(match len with
      |0=> .ok (.nz e.es) tm
      |_+1=> .ok (.sl tm.length) (tm++[⟨true, .list e l⟩]))else .stuck
    |none=> .stuck
   else .stuck
  |_,_=> .stuck
 | .load t a=>tloadAt P t (ρ a) tm
 | .store t a x=>tstoreAt P t (ρ a) (ρ x) tm
 | .nilCheck x=>match ρ x with
  | .ptr k o=> .ok (.ptr k o) tm
  | .eptr k i j=>bif liveT tm k then .ok (.eptr k i j) tm else .stuck
  | .fptr cs=> .ok (.fptr cs) tm
  | .fn f a b=> .ok (.fn f a b) tm
  |_=> .stuck
 | .binOp op t x y _=>tbinY P op t (ρ x) y (ρ y) tm
 | .unOp .not _ x=>match ρ x with
  | .tt=> .ok .ff tm
  | .ff=> .ok .tt tm
  | .bool b=> .ok (.bool !b) tm
  |_=> .stuck
 | .unOp .neg _ x=>match ρ x with
  | .int k n=> .ok (.int k (k.wrap (0-n))) tm
  |_=> .stuck
 | .convert src dst x=>match ρ x,tKd P src,tKd P dst with
  | .int _ n,some _,some (.int k)=> .ok (.int k (k.wrap n)) tm
  | .str s,some .string,some .string=> .ok (.str s) tm
  |x,some .slice,some .string=>match rdT tm x,(tElem P src).bind (tKd P)with
   |some ⟨.byte,l⟩,some (.int .u8)=> .chk (0<l.length) (.str (bytesOf l)) tm
   |_,_=> .stuck
  |_,_,_=> .stuck
 | .makeFunc (.func f) first captured=> .ok (.fn f (first.toList.map ρ) (captured.toList.map ρ)) tm
 | .makeSlice t l c=>match ekS P t,(tElem P t).bind (tBytes P),(tElem P t).bind (tZero P),ρ l,ρ c with
  |some e,some by_,some z, .int _ l, .int _ c=>match dec e (z.map tvA)with
   |some x=>bif Nat.ble by_ 1024 then .chk (0≤l∧l=c∧c≤2^36) (.sl tm.length) (tm++[⟨true, .list e (List.replicate l.toNat x)⟩])else .stuck
   |none=> .stuck
  |_,_,_,_,_=> .stuck
 | .slice t x lo hi mx=>tslice P t (ρ x) (lo.map ρ) (hi.map ρ) (mx.map ρ) tm
 | .fieldAddr s x f=>match tField P s f with
  |some (off,ft)=>match tSize P ft with
   |some (_+1)=>match ρ x with
    | .ptr k o=> .ok (.ptr k (o+off)) tm
    | .eptr k i j=>bif liveT tm k then .ok (.eptr k i (j+off)) tm else .stuck
    | .fptr cs=>bif Nat.ble off cs.length then .ok (.fptr (cs.drop off)) tm else .stuck
    |_=> .stuck
   |_=> .stuck
  |none=> .stuck
 | .field s x f=>match ρ x,tField P s f with
  | .agg cs,some (off,ft)=>optR (tload P ft (cs.drop off)) tm
  |_,_=> .stuck
 | .indexAddr t x i=>tindexAt P t (ρ x) (ρ i) tm
 | .index t x i=>match tKd P t,ρ x,ρ i with
  |some .string, .str s, .int _ i=> .chk (0≤i∧i<s.length) (.int .u8 (s.getD i.toNat 0).toNat) tm
  |_,_,_=> .stuck
 | .extract x i=>match ρ x with
  | .tup xs=>optR xs[i]? tm
  |_=> .stuck
 | .makeMap _ none=> .ok (.mp tm.length) (tm++[⟨true, .keys []⟩])
 | .insert t x k v=>tset_ P t (ρ x) (ρ k) (ρ v) tm
 | .mapUpdate t x k v=>tset_ P t (ρ x) (ρ k) (ρ v) tm
 | .lookup t x k false=>task P t (ρ x) (ρ k) tm
 | .call c=>match c.callee,c.args,c.argTypes with
  | .builtin .len,⟨[x]⟩,⟨[t]⟩=>match tKd P t,ρ x with
   |some .string, .str s=> .ok (.int .i64 s.length) tm
   |some .slice, .nil=> .ok (.int .i64 0) tm
   |some .slice, .nz _=> .ok (.int .i64 0) tm
   |some .slice, .pl _ l=> .ok (.int .i64 l.length) tm
   |some .slice, .sl k=>match tm[k]? with
    |some b=>match b.k.shape with
     |some (_,n)=> .ok (.int .i64 n) tm
     |none=> .stuck
    |none=> .stuck
   |some .slice, .sb k=>match tm[k]? with
    |some b=>match b.k.shape with
     |some (.byte,n)=> .ok (.int .i64 n) tm
     |_=> .stuck
    |none=> .stuck
   |_,_=> .stuck
  | .builtin .append,⟨[s,x]⟩,⟨[t,tx]⟩=>match ρ x with
   | .int k n=>tzap P t tx (ρ s) (.int k n) tm
   | .str q=>tsapp P t tx (ρ s) q tm
   |x=>tappend P t tx (ρ s) x tm
  | .builtin .copy,⟨[d,s]⟩,⟨[t,_]⟩=>tcopy P t (ρ d) (ρ s) tm
  | .builtin .cap,⟨[x]⟩,⟨[t]⟩=>match tKd P t,ρ x with
   |some .slice, .nil=> .ok (.int .i64 0) tm
   |_,_=> .stuck
  |_,_,_=> .stuck
 |_=> .stuck
def topD (P:Program) (ρ:Operand→TV) (tm:TMem):Op→TR
 | .slice t x lo hi mx=>match mx,ρ x with
  |none, .sl k=>tsliceV P t (.sl k) (lo.map ρ) (hi.map ρ) tm
  |none, .str s=>tslice P t (.str s) (lo.map ρ) (hi.map ρ) none tm
  |none, .pl e s=>tslice P t (.pl e s) (lo.map ρ) (hi.map ρ) none tm
  |_,_=> .stuck
 |op=>top P ρ tm op
end Go.Ab
