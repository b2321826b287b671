/- What is proved here: a function's code may be read in segments, each from a cut to the next one. No condition beyond those written in each statement. -/
import Derived.Test.YtgnlgdebcgffnaaGreatDoorT14
namespace Go.Ab
def nZ:Code→Code
 | .seq _ y=>y
 |c=>c
def fj:Nat→Code→Code
 |0,c=>c
 |n+1,c=>fj n (nZ c)
theorem uC:∀(n:Nat) (c:Code),fj (n+1) c=nZ (fj n c)
 |0,_=>rfl
 |n+1,c=>uC n (nZ c)
theorem yM:∀(a b:Nat) (c:Code),fj (a+b) c=fj b (fj a c)
 |0,b,c=>by rw[Nat.zero_add];rfl
 |a+1,b,c=>by rw[show a+1+b=(a+b)+1 by omega];exact yM a b (nZ c)
theorem ow (n m k:Nat) (h:n+1+m=k) (c:Code):fj k c=fj m (nZ (fj n c)):=by rw[←h,yM,uC]
def Ar:Nat→Code→Bool
 |0,_=>true
 |n+1, .seq _ y=>Ar n y
 |_+1,_=>false
def td:Code→Option Nat
 | .seq (.region id _ _) _=>some id
 |_=>none
section seg
variable (P:Program) (nt:Nat) (Γ:List (Nat×jy)) (H:List (Nat×LH)) (WW:List (Nat×List (Nat×List Nat))) (k0:Nat)
def Jj : Nat → Code → (aU → am → Prop) → (bU → aU → am → Prop) → aU → am → Prop
  | 0, _, J, _, ts, tm => J ts tm
  | n + 1, .seq x y, J, Q, ts, tm => TW P nt Γ H WW k0 x (fun e ts tm => match e with
      | .normal => Jj n y J Q ts tm
      | .ret => Q .ret ts tm
      | .exit id => Q (.exit id) ts tm) ts tm
  | _ + 1, _, _, _, _, _ => False
def vH (c:Code) (Q:bU→aU→am→Prop) (ts:aU) (tm:am):Prop:=
 match c with
 | .seq (.region id ops dr) y=>Cs P nt Γ WW id ops dr (fun e ts tm=>match e with
  | .normal=>TW P nt Γ H WW k0 y Q ts tm
  | .ret=>Q .ret ts tm
  | .exit id=>Q (.exit id) ts tm) ts tm
 |_=>False
def D3 (n:Nat) (c:Code) (J:aU→am→Prop) (Q:bU→aU→am→Prop) (ts:aU) (tm:am):Prop:=
 match c with
 | .seq (.region id ops dr) y=>Cs P nt Γ WW id ops dr (fun e ts tm=>match e with
  | .normal=>Jj P nt Γ H WW k0 n y J Q ts tm
  | .ret=>Q .ret ts tm
  | .exit id=>Q (.exit id) ts tm) ts tm
 |_=>False
variable {P nt Γ H WW k0}
theorem wv:∀(n:Nat) (c:Code) {J:aU→am→Prop} {Q:bU→aU→am→Prop},Ar n c=true→(∀ts tm,J ts tm=TW P nt Γ H WW k0 (fj n c) Q ts tm)→TW P nt Γ H WW k0 c Q=Jj P nt Γ H WW k0 n c J Q
 |0,c,J,Q,_,hJ=>by funext ts tm;exact(hJ ts tm).symm
 |n+1,c,J,Q,hp,hJ=>by
  cases c with
  |seq x y=>
   have ih:=wv n y (J:=J) (Q:=Q) hp hJ
   funext ts tm
   show TW P nt Γ H WW k0 x _ ts tm=TW P nt Γ H WW k0 x _ ts tm
   congr 1
   funext e ts tm
   cases e with
   |normal=>exact congrFun (congrFun ih ts) tm
   |ret=>rfl
   |exit id=>rfl
  |_=>cases hp
theorem sU {c:Code} {id:Nat} {h:LH} {Q:bU→aU→am→Prop} (hr:td c=some id) (hl:Cd H (1000000+id)=some h) {F:h.S→Prop}
  (hF:∀s,vH P nt Γ H WW k0 c Q (bE h.keep (h.enc s).1) (h.enc s).2=F s) (ts:aU) (tm:am):jC k0 h ts tm F=TW P nt Γ H WW k0 c Q ts tm:=by
 unfold td at hr
 split at hr
 ·rename_i id' ops dr y
  simp only[Option.some.injEq]at hr
  subst hr
  have e:F=fun s=>vH P nt Γ H WW k0 (.seq (.region id' ops dr) y) Q (bE h.keep (h.enc s).1) (h.enc s).2:=funext fun s=>(hF s).symm
  rw[e]
  simp only[TW,hl]
  rfl
 ·cases hr
theorem vO {n:Nat} {c:Code} {J:aU→am→Prop} {Q:bU→aU→am→Prop} {ts:aU} {tm:am} (hp:Ar n (nZ c)=true) (hJ:∀ts tm,J ts tm=TW P nt Γ H WW k0 (fj n (nZ c)) Q ts tm):
  vH P nt Γ H WW k0 c Q ts tm=D3 P nt Γ H WW k0 n c J Q ts tm:=by
 unfold vH D3
 split
 ·rename_i id ops dr y
  have e:=wv n y (J:=J) (Q:=Q) hp hJ
  rw[e]
 ·rfl
end seg
end Go.Ab
