/- What is proved here: readers of typed values and memories, each with its law; the words of the models; rules of loops. -/
import Derived.Test.YtigomgblkieahaaGreatDoorT13
namespace Go.Ab
def dCons (l:List TV) (k:TV→List TV→Prop):Prop:=
 match l with
 |a::r=>k a r
 |[]=>False
def dNil (l:List TV) (p:Prop):Prop:=
 match l with
 |[]=>p
 |_=>False
def dInt (ik:IntKind) (t:TV) (k:Int→Prop):Prop:=
 match t with
 | .int j n=>bif IntKind.bq j ik then k n else False
 |_=>False
def dBool (t:TV) (k:Bool→Prop):Prop:=
 match t with
 | .bool b=>k b
 |_=>False
def dStr (t:TV) (k:List UInt8→Prop):Prop:=
 match t with
 | .str b=>k b
 |_=>False
def dPl (e:EK) (t:TV) (k:List e.T→Prop):Prop:=
 match t with
 | .pl e' l=>match castE e' e l with
  |some l=>k l
  |none=>False
 |_=>False
def dSl (n:Nat) (t:TV) (p:Prop):Prop:=
 match t with
 | .sl m=>bif Nat.beq m n then p else False
 |_=>False
def dPtr (n:Nat) (t:TV) (p:Prop):Prop:=
 match t with
 | .ptr m 0=>bif Nat.beq m n then p else False
 |_=>False
def dAgg (t:TV) (k:List TV→Prop):Prop:=
 match t with
 | .agg l=>k l
 |_=>False
def dTup (t:TV) (k:List TV→Prop):Prop:=
 match t with
 | .tup l=>k l
 |_=>False
inductive AT where
 |any|nilp|nilfn|nili|nilm|nil
def AT.tv:AT→TV
 | .any=> .any
 | .nilp=> .nilp
 | .nilfn=> .nilfn
 | .nili=> .nili
 | .nilm=> .nilm
 | .nil=> .nil
def dAt (a:AT) (t:TV) (p:Prop):Prop:=
 match a,t with
 | .any, .any| .nilp, .nilp| .nilfn, .nilfn| .nili, .nili| .nilm, .nilm| .nil, .nil=>p
 |_,_=>False
def dFn (f:FuncId) (t:TV) (k:List TV→List TV→Prop):Prop:=
 match t with
 | .fn g xs ys=>bif Nat.beq g f then k xs ys else False
 |_=>False
def dBlk (w:Bool) (tm:TMem) (k:TK→TMem→Prop):Prop:=
 match tm with
 |b::r=>bif b.w==w then k b.k r else False
 |[]=>False
def dEnd (tm:TMem) (p:Prop):Prop:=
 match tm with
 |[]=>p
 |_=>False
def dCells (b:TK) (k:List TV→Prop):Prop:=
 match b with
 | .cells l=>k l
 |_=>False
def dList (e:EK) (b:TK) (k:List e.T→Prop):Prop:=
 match b with
 | .list e' l=>match castE e' e l with
  |some l=>k l
  |none=>False
 |_=>False
def dDead (b:TK) (p:Prop):Prop:=
 match b with
 | .dead=>p
 |_=>False
def dHid (b:TK) (p:Prop):Prop:=
 match b with
 | .hid=>p
 |_=>False
theorem dCons_ok {l:List TV} {k:TV→List TV→Prop} (h:dCons l k):∃a r,l=a::r∧k a r:=by
 cases l with
 |nil=>exact h.elim
 |cons a r=>exact⟨a,r,rfl,h⟩
theorem dNil_ok {l:List TV} {p:Prop} (h:dNil l p):l=[]∧p:=by
 cases l with
 |nil=>exact⟨rfl,h⟩
 |cons a r=>exact h.elim
theorem dInt_ok {ik:IntKind} {t:TV} {k:Int→Prop} (h:dInt ik t k):∃n,t= .int ik n∧k n:=by
 unfold dInt at h
 split at h
 ·rename_i j n
  cases hb:IntKind.bq j ik with
  |false=>rw[hb]at h;exact h.elim
  |true=>rw[hb]at h;exact⟨n,by rw[bq_eq hb],h⟩
 ·exact h.elim
theorem dBool_ok {t:TV} {k:Bool→Prop} (h:dBool t k):∃n,t= .bool n∧k n:=by
 unfold dBool at h
 split at h
 ·exact⟨_,rfl,h⟩
 ·exact h.elim
theorem dStr_ok {t:TV} {k:List UInt8→Prop} (h:dStr t k):∃n,t= .str n∧k n:=by
 unfold dStr at h
 split at h
 ·exact⟨_,rfl,h⟩
 ·exact h.elim
theorem dPl_ok {e:EK} {t:TV} {k:List e.T→Prop} (h:dPl e t k):∃l,t= .pl e l∧k l:=by
 unfold dPl at h
 split at h
 ·split at h
  ·rename_i hc
   obtain⟨rfl,h2⟩:=castE_eq hc
   exact⟨_,by rw[←h2],h⟩
  ·exact h.elim
 ·exact h.elim
theorem dSl_ok {n:Nat} {t:TV} {p:Prop} (h:dSl n t p):t= .sl n∧p:=by
 unfold dSl at h
 split at h
 ·rename_i m
  cases hb:Nat.beq m n with
  |false=>rw[hb]at h;exact h.elim
  |true=>rw[hb]at h;exact⟨by rw[Nat.eq_of_beq_eq_true hb],h⟩
 ·exact h.elim
theorem dPtr_ok {n:Nat} {t:TV} {p:Prop} (h:dPtr n t p):t= .ptr n 0∧p:=by
 unfold dPtr at h
 split at h
 ·rename_i m
  cases hb:Nat.beq m n with
  |false=>rw[hb]at h;exact h.elim
  |true=>rw[hb]at h;exact⟨by rw[Nat.eq_of_beq_eq_true hb],h⟩
 ·exact h.elim
theorem dAgg_ok {t:TV} {k:List TV→Prop} (h:dAgg t k):∃l,t= .agg l∧k l:=by
 unfold dAgg at h
 split at h
 ·exact⟨_,rfl,h⟩
 ·exact h.elim
theorem dTup_ok {t:TV} {k:List TV→Prop} (h:dTup t k):∃l,t= .tup l∧k l:=by
 unfold dTup at h
 split at h
 ·exact⟨_,rfl,h⟩
 ·exact h.elim
theorem dAt_ok {a:AT} {t:TV} {p:Prop} (h:dAt a t p):t=a.tv∧p:=by
 unfold dAt at h
 split at h<;>first|exact⟨rfl,h⟩|exact h.elim
theorem dFn_ok {f:FuncId} {t:TV} {k:List TV→List TV→Prop} (h:dFn f t k):∃xs ys,t= .fn f xs ys∧k xs ys:=by
 unfold dFn at h
 split at h
 ·rename_i m _ _
  cases hb:Nat.beq m f with
  |false=>rw[hb]at h;exact h.elim
  |true=>rw[hb]at h;exact⟨_,_,by rw[Nat.eq_of_beq_eq_true hb],h⟩
 ·exact h.elim
theorem dBlk_ok {w:Bool} {tm:TMem} {k:TK→TMem→Prop} (h:dBlk w tm k):∃b r,tm=⟨w,b⟩::r∧k b r:=by
 unfold dBlk at h
 split at h
 ·rename_i b r
  cases hb:b.w==w with
  |false=>rw[hb]at h;exact h.elim
  |true=>
   rw[hb]at h
   have:=eq_of_beq hb
   subst this
   exact⟨b.k,r,rfl,h⟩
 ·exact h.elim
theorem dEnd_ok {tm:TMem} {p:Prop} (h:dEnd tm p):tm=[]∧p:=by
 cases tm with
 |nil=>exact⟨rfl,h⟩
 |cons a r=>exact h.elim
theorem dCells_ok {b:TK} {k:List TV→Prop} (h:dCells b k):∃l,b= .cells l∧k l:=by
 unfold dCells at h
 split at h
 ·exact⟨_,rfl,h⟩
 ·exact h.elim
theorem dList_ok {e:EK} {b:TK} {k:List e.T→Prop} (h:dList e b k):∃l,b= .list e l∧k l:=by
 unfold dList at h
 split at h
 ·split at h
  ·rename_i hc
   obtain⟨rfl,h2⟩:=castE_eq hc
   exact⟨_,by rw[←h2],h⟩
  ·exact h.elim
 ·exact h.elim
theorem dDead_ok {b:TK} {p:Prop} (h:dDead b p):b= .dead∧p:=by
 unfold dDead at h
 split at h
 ·exact⟨rfl,h⟩
 ·exact h.elim
theorem dHid_ok {b:TK} {p:Prop} (h:dHid b p):b= .hid∧p:=by
 unfold dHid at h
 split at h
 ·exact⟨rfl,h⟩
 ·exact h.elim
theorem GSound.nil {P:Program}:GSound P []:=fun f C h=>by cases h
theorem GSound.cons {P:Program} {f:FuncId} {C:Con} {Γ:List (Nat×Con)} (h:CSound P f C) (hΓ:GSound P Γ):GSound P ((f,C)::Γ):=by
 intro g D hl
 unfold lookC at hl
 cases hb:Nat.beq g f with
 |false=>rw[hb]at hl;exact hΓ g D hl
 |true=>
  rw[hb]at hl
  cases hl
  rw[Nat.eq_of_beq_eq_true hb];exact h
def bodyOf (f:Func):Code:=
 match f.body with
 |some c=>c
 |none=> .skip
def iadd (a b:Int):Int:=IntKind.i64.wrap (a+b)
def isub (a b:Int):Int:=IntKind.i64.wrap (a-b)
def imul (a b:Int):Int:=IntKind.i64.wrap (a*b)
def iquo (a b:Int):Int:=IntKind.i64.wrap (a.tdiv b)
def inB (i:Int) (n:Nat):Prop:=0≤i∧i<n
def gI (l:List Int) (i:Int):Int:=l.getD i.toNat (EK.dflt .int)
def gY (l:List Int) (i:Int):Int:=l.getD i.toNat (EK.dflt .byte)
def gB (l:List Bool) (i:Int):Bool:=l.getD i.toNat (EK.dflt .bool)
def gS (l:List (List UInt8)) (i:Int):List UInt8:=l.getD i.toNat (EK.dflt .str)
def gO (l:List OpV) (i:Int):OpV:=l.getD i.toNat (EK.dflt .op)
def gL (l:List (List Int)) (i:Int):List Int:=l.getD i.toNat (EK.dflt .ints)
def gN (l:List NodeV) (i:Int):NodeV:=l.getD i.toNat (EK.dflt .node)
def gC (l:List UInt8) (i:Int):Int:=(l.getD i.toNat 0).toNat
def uL {α:Type} (l:List α) (i:Int) (v:α):List α:=l.set i.toNat v
def sub {α:Type} (l:List α) (lo hi:Int):List α:=(l.take hi.toNat).drop lo.toNat
def len {α:Type} (l:List α):Int:=(l.length:Nat)
def I64 (x:Int):Prop:=(Lit.int .i64 x).wf=true
def U8 (x:Int):Prop:=(Lit.int .u8 x).wf=true
theorem LoopP_inv {S:Type} {body:S→(S→Prop)→(S→Prop)→Prop} {Kx:S→Prop} (I:S→Prop) (μ:S→Nat)
  (step:∀s,I s→∀Kb:S→Prop,(∀s',I s'→μ s'<μ s→Kb s')→body s Kb Kx) {s:S} (h:I s):LoopP body s Kx:=by
 suffices hh:∀n s,μ s<n→I s→itP body n s Kx from⟨μ s+1,hh _ s (Nat.lt_succ_self _) h⟩
 intro n
 induction n with
 |zero=>intro s h;omega
 |succ n ih=>intro s hs hi;exact step s hi _ fun s' h1 h2=>ih s' (by omega) h1
theorem let_all {α:Sort _} {P:α→Prop} (e:α) (h:∀v,v=e→P v):(let v:=e;P v):=h e rfl
end Go.Ab
