/- What is proved here: readers of typed values and memories, each with its law; the words of the models; rules of loops. -/
import Derived.Test.YtgnlgdebcgffnaaGreatDoorT13
namespace Go.Ab
def lA (l:List TV) (k:TV→List TV→Prop):Prop:=
 match l with
 |a::r=>k a r
 |[]=>False
def DG (l:List TV) (p:Prop):Prop:=
 match l with
 |[]=>p
 |_=>False
def Hv (ik:IntKind) (t:TV) (k:Int→Prop):Prop:=
 match t with
 | .int j n=>bif IntKind.bq j ik then k n else False
 |_=>False
def ET (t:TV) (k:Bool→Prop):Prop:=
 match t with
 | .bool b=>k b
 |_=>False
def IA (t:TV) (k:List UInt8→Prop):Prop:=
 match t with
 | .str b=>k b
 |_=>False
def Kk (e:EK) (t:TV) (k:List e.T→Prop):Prop:=
 match t with
 | .pl e' l=>match nK e' e l with
  |some l=>k l
  |none=>False
 |_=>False
def KV (n:Nat) (t:TV) (p:Prop):Prop:=
 match t with
 | .sl m=>bif Nat.beq m n then p else False
 |_=>False
def IW (n:Nat) (t:TV) (p:Prop):Prop:=
 match t with
 | .ptr m 0=>bif Nat.beq m n then p else False
 |_=>False
def Id (t:TV) (k:List TV→Prop):Prop:=
 match t with
 | .agg l=>k l
 |_=>False
def Ij (t:TV) (k:List TV→Prop):Prop:=
 match t with
 | .tup l=>k l
 |_=>False
inductive AT where
 |any|nilp|nilfn|nili|nilm|nil
def AT.tv:AT→TV
 | .any=> .any
 | .nilp=> .nilp
 | .nilfn=> .nilfn
 | .nili=> .nili
 | .nilm=> .nilm
 | .nil=> .nil
def K1 (a:AT) (t:TV) (p:Prop):Prop:=
 match a,t with
 | .any, .any| .nilp, .nilp| .nilfn, .nilfn| .nili, .nili| .nilm, .nilm| .nil, .nil=>p
 |_,_=>False
def Ke (f:FuncId) (t:TV) (k:List TV→List TV→Prop):Prop:=
 match t with
 | .fn g xs ys=>bif Nat.beq g f then k xs ys else False
 |_=>False
def Cx (w:Bool) (tm:am) (k:TK→am→Prop):Prop:=
 match tm with
 |b::r=>bif b.w==w then k b.k r else False
 |[]=>False
def IJ (tm:am) (p:Prop):Prop:=
 match tm with
 |[]=>p
 |_=>False
def zM (b:TK) (k:List TV→Prop):Prop:=
 match b with
 | .cells l=>k l
 |_=>False
def FU (e:EK) (b:TK) (k:List e.T→Prop):Prop:=
 match b with
 | .list e' l=>match nK e' e l with
  |some l=>k l
  |none=>False
 |_=>False
def Ee (b:TK) (p:Prop):Prop:=
 match b with
 | .dead=>p
 |_=>False
def Ib (b:TK) (p:Prop):Prop:=
 match b with
 | .hid=>p
 |_=>False
theorem eA {l:List TV} {k:TV→List TV→Prop} (h:lA l k):∃a r,l=a::r∧k a r:=by
 cases l with
 |nil=>exact h.elim
 |cons a r=>exact⟨a,r,rfl,h⟩
theorem Gs {l:List TV} {p:Prop} (h:DG l p):l=[]∧p:=by
 cases l with
 |nil=>exact⟨rfl,h⟩
 |cons a r=>exact h.elim
theorem GL {ik:IntKind} {t:TV} {k:Int→Prop} (h:Hv ik t k):∃n,t= .int ik n∧k n:=by
 unfold Hv at h
 split at h
 ·rename_i j n
  cases hb:IntKind.bq j ik with
  |false=>rw[hb]at h;exact h.elim
  |true=>rw[hb]at h;exact⟨n,by rw[Hs hb],h⟩
 ·exact h.elim
theorem Em {t:TV} {k:Bool→Prop} (h:ET t k):∃n,t= .bool n∧k n:=by
 unfold ET at h
 split at h
 ·exact⟨_,rfl,h⟩
 ·exact h.elim
theorem Gh {t:TV} {k:List UInt8→Prop} (h:IA t k):∃n,t= .str n∧k n:=by
 unfold IA at h
 split at h
 ·exact⟨_,rfl,h⟩
 ·exact h.elim
theorem HD {e:EK} {t:TV} {k:List e.T→Prop} (h:Kk e t k):∃l,t= .pl e l∧k l:=by
 unfold Kk at h
 split at h
 ·split at h
  ·rename_i hc
   obtain⟨rfl,h2⟩:=ka hc
   exact⟨_,by rw[←h2],h⟩
  ·exact h.elim
 ·exact h.elim
theorem Iq {n:Nat} {t:TV} {p:Prop} (h:KV n t p):t= .sl n∧p:=by
 unfold KV at h
 split at h
 ·rename_i m
  cases hb:Nat.beq m n with
  |false=>rw[hb]at h;exact h.elim
  |true=>rw[hb]at h;exact⟨by rw[Nat.eq_of_beq_eq_true hb],h⟩
 ·exact h.elim
theorem F8 {n:Nat} {t:TV} {p:Prop} (h:IW n t p):t= .ptr n 0∧p:=by
 unfold IW at h
 split at h
 ·rename_i m
  cases hb:Nat.beq m n with
  |false=>rw[hb]at h;exact h.elim
  |true=>rw[hb]at h;exact⟨by rw[Nat.eq_of_beq_eq_true hb],h⟩
 ·exact h.elim
theorem Gc {t:TV} {k:List TV→Prop} (h:Id t k):∃l,t= .agg l∧k l:=by
 unfold Id at h
 split at h
 ·exact⟨_,rfl,h⟩
 ·exact h.elim
theorem GX {t:TV} {k:List TV→Prop} (h:Ij t k):∃l,t= .tup l∧k l:=by
 unfold Ij at h
 split at h
 ·exact⟨_,rfl,h⟩
 ·exact h.elim
theorem HP {a:AT} {t:TV} {p:Prop} (h:K1 a t p):t=a.tv∧p:=by
 unfold K1 at h
 split at h<;>first|exact⟨rfl,h⟩|exact h.elim
theorem ID {f:FuncId} {t:TV} {k:List TV→List TV→Prop} (h:Ke f t k):∃xs ys,t= .fn f xs ys∧k xs ys:=by
 unfold Ke at h
 split at h
 ·rename_i m _ _
  cases hb:Nat.beq m f with
  |false=>rw[hb]at h;exact h.elim
  |true=>rw[hb]at h;exact⟨_,_,by rw[Nat.eq_of_beq_eq_true hb],h⟩
 ·exact h.elim
theorem rS {w:Bool} {tm:am} {k:TK→am→Prop} (h:Cx w tm k):∃b r,tm=⟨w,b⟩::r∧k b r:=by
 unfold Cx at h
 split at h
 ·rename_i b r
  cases hb:b.w==w with
  |false=>rw[hb]at h;exact h.elim
  |true=>
   rw[hb]at h
   have:=eq_of_beq hb
   subst this
   exact⟨b.k,r,rfl,h⟩
 ·exact h.elim
theorem GR {tm:am} {p:Prop} (h:IJ tm p):tm=[]∧p:=by
 cases tm with
 |nil=>exact⟨rfl,h⟩
 |cons a r=>exact h.elim
theorem Db {b:TK} {k:List TV→Prop} (h:zM b k):∃l,b= .cells l∧k l:=by
 unfold zM at h
 split at h
 ·exact⟨_,rfl,h⟩
 ·exact h.elim
theorem Fz {e:EK} {b:TK} {k:List e.T→Prop} (h:FU e b k):∃l,b= .list e l∧k l:=by
 unfold FU at h
 split at h
 ·split at h
  ·rename_i hc
   obtain⟨rfl,h2⟩:=ka hc
   exact⟨_,by rw[←h2],h⟩
  ·exact h.elim
 ·exact h.elim
theorem Fd {b:TK} {p:Prop} (h:Ee b p):b= .dead∧p:=by
 unfold Ee at h
 split at h
 ·exact⟨rfl,h⟩
 ·exact h.elim
theorem F0 {b:TK} {p:Prop} (h:Ib b p):b= .hid∧p:=by
 unfold Ib at h
 split at h
 ·exact⟨rfl,h⟩
 ·exact h.elim
theorem gZ.nil {P:Program}:gZ P []:=fun f C h=>by cases h
theorem gZ.cons {P:Program} {f:FuncId} {C:jy} {Γ:List (Nat×jy)} (h:bG P f C) (hΓ:gZ P Γ):gZ P ((f,C)::Γ):=by
 intro g D hl
 unfold B4 at hl
 cases hb:Nat.beq g f with
 |false=>rw[hb]at hl;exact hΓ g D hl
 |true=>
  rw[hb]at hl
  cases hl
  rw[Nat.eq_of_beq_eq_true hb];exact h
def bV (f:Func):Code:=
 match f.body with
 |some c=>c
 |none=> .skip
def ah (a b:Int):Int:=IntKind.i64.wrap (a+b)
def b6 (a b:Int):Int:=IntKind.i64.wrap (a-b)
def nE (a b:Int):Int:=IntKind.i64.wrap (a*b)
def wT (a b:Int):Int:=IntKind.i64.wrap (a.tdiv b)
def aq (i:Int) (n:Nat):Prop:=0≤i∧i<n
def gI (l:List Int) (i:Int):Int:=l.getD i.toNat (EK.dflt .int)
def gY (l:List Int) (i:Int):Int:=l.getD i.toNat (EK.dflt .byte)
def gB (l:List Bool) (i:Int):Bool:=l.getD i.toNat (EK.dflt .bool)
def gS (l:List (List UInt8)) (i:Int):List UInt8:=l.getD i.toNat (EK.dflt .str)
def gO (l:List aA) (i:Int):aA:=l.getD i.toNat (EK.dflt .op)
def gL (l:List (List Int)) (i:Int):List Int:=l.getD i.toNat (EK.dflt .ints)
def gN (l:List ax) (i:Int):ax:=l.getD i.toNat (EK.dflt .node)
def gC (l:List UInt8) (i:Int):Int:=(l.getD i.toNat 0).toNat
def uL {α:Type} (l:List α) (i:Int) (v:α):List α:=l.set i.toNat v
def sub {α:Type} (l:List α) (lo hi:Int):List α:=(l.take hi.toNat).drop lo.toNat
def len {α:Type} (l:List α):Int:=(l.length:Nat)
theorem cD {S:Type} {body:S→(S→Prop)→(S→Prop)→Prop} {Kx:S→Prop} (I:S→Prop) (μ:S→Nat)
  (step:∀s,I s→∀Kb:S→Prop,(∀s',I s'→μ s'<μ s→Kb s')→body s Kb Kx) {s:S} (h:I s):ar body s Kx:=by
 suffices hh:∀n s,μ s<n→I s→IZ body n s Kx from⟨μ s+1,hh _ s (Nat.lt_succ_self _) h⟩
 intro n
 induction n with
 |zero=>intro s h;omega
 |succ n ih=>intro s hs hi;exact step s hi _ fun s' h1 h2=>ih s' (by omega) h1
end Go.Ab
