/- What is proved here: a function's code may be read in segments, each from a cut to the next one. No condition beyond those written in each statement. -/
import Derived.Test.YtigomgblkieahaaGreatDoorT14
namespace Go.Ab
def rightC:Code→Code
 | .seq _ y=>y
 |c=>c
def sufC:Nat→Code→Code
 |0,c=>c
 |n+1,c=>sufC n (rightC c)
theorem sufC_succ:∀(n:Nat) (c:Code),sufC (n+1) c=rightC (sufC n c)
 |0,_=>rfl
 |n+1,c=>sufC_succ n (rightC c)
theorem sufC_add:∀(a b:Nat) (c:Code),sufC (a+b) c=sufC b (sufC a c)
 |0,b,c=>by rw[Nat.zero_add];rfl
 |a+1,b,c=>by rw[show a+1+b=(a+b)+1 by omega];exact sufC_add a b (rightC c)
theorem sufC_split (n m k:Nat) (h:n+1+m=k) (c:Code):sufC k c=sufC m (rightC (sufC n c)):=by rw[←h,sufC_add,sufC_succ]
def partsC:Nat→Code→Bool
 |0,_=>true
 |n+1, .seq _ y=>partsC n y
 |_+1,_=>false
def regOf:Code→Option Nat
 | .seq (.region id _ _) _=>some id
 |_=>none
section seg
variable (P:Program) (nt:Nat) (Γ:List (Nat×Con)) (H:List (Nat×LH)) (WW:List (Nat×List (Nat×List Nat))) (k0:Nat)
def TWn : Nat → Code → (TFrm → TMem → Prop) → (AExit → TFrm → TMem → Prop) → TFrm → TMem → Prop
  | 0, _, J, _, ts, tm => J ts tm
  | n + 1, .seq x y, J, Q, ts, tm => TW P nt Γ H WW k0 x (fun e ts tm => match e with
      | .normal => TWn n y J Q ts tm
      | .ret => Q .ret ts tm
      | .exit id => Q (.exit id) ts tm) ts tm
  | _ + 1, _, _, _, _, _ => False
def segT (c:Code) (Q:AExit→TFrm→TMem→Prop) (ts:TFrm) (tm:TMem):Prop:=
 match c with
 | .seq (.region id ops dr) y=>regT P nt Γ WW id ops dr (fun e ts tm=>match e with
  | .normal=>TW P nt Γ H WW k0 y Q ts tm
  | .ret=>Q .ret ts tm
  | .exit id=>Q (.exit id) ts tm) ts tm
 |_=>False
def segN (n:Nat) (c:Code) (J:TFrm→TMem→Prop) (Q:AExit→TFrm→TMem→Prop) (ts:TFrm) (tm:TMem):Prop:=
 match c with
 | .seq (.region id ops dr) y=>regT P nt Γ WW id ops dr (fun e ts tm=>match e with
  | .normal=>TWn P nt Γ H WW k0 n y J Q ts tm
  | .ret=>Q .ret ts tm
  | .exit id=>Q (.exit id) ts tm) ts tm
 |_=>False
variable {P nt Γ H WW k0}
theorem TWn_eq:∀(n:Nat) (c:Code) {J:TFrm→TMem→Prop} {Q:AExit→TFrm→TMem→Prop},partsC n c=true→(∀ts tm,J ts tm=TW P nt Γ H WW k0 (sufC n c) Q ts tm)→TW P nt Γ H WW k0 c Q=TWn P nt Γ H WW k0 n c J Q
 |0,c,J,Q,_,hJ=>by funext ts tm;exact(hJ ts tm).symm
 |n+1,c,J,Q,hp,hJ=>by
  cases c with
  |seq x y=>
   have ih:=TWn_eq n y (J:=J) (Q:=Q) hp hJ
   funext ts tm
   show TW P nt Γ H WW k0 x _ ts tm=TW P nt Γ H WW k0 x _ ts tm
   congr 1
   funext e ts tm
   cases e with
   |normal=>exact congrFun (congrFun ih ts) tm
   |ret=>rfl
   |exit id=>rfl
  |_=>cases hp
theorem TW_seg {c:Code} {id:Nat} {h:LH} {Q:AExit→TFrm→TMem→Prop} (hr:regOf c=some id) (hl:lookH H (1000000+id)=some h) {F:h.S→Prop}
  (hF:∀s,segT P nt Γ H WW k0 c Q (frameOf h.keep (h.enc s).1) (h.enc s).2=F s) (ts:TFrm) (tm:TMem):headT k0 h ts tm F=TW P nt Γ H WW k0 c Q ts tm:=by
 unfold regOf at hr
 split at hr
 ·rename_i id' ops dr y
  simp only[Option.some.injEq]at hr
  subst hr
  have e:F=fun s=>segT P nt Γ H WW k0 (.seq (.region id' ops dr) y) Q (frameOf h.keep (h.enc s).1) (h.enc s).2:=funext fun s=>(hF s).symm
  rw[e]
  simp only[TW,hl]
  rfl
 ·cases hr
theorem segN_eq {n:Nat} {c:Code} {J:TFrm→TMem→Prop} {Q:AExit→TFrm→TMem→Prop} {ts:TFrm} {tm:TMem} (hp:partsC n (rightC c)=true) (hJ:∀ts tm,J ts tm=TW P nt Γ H WW k0 (sufC n (rightC c)) Q ts tm):
  segT P nt Γ H WW k0 c Q ts tm=segN P nt Γ H WW k0 n c J Q ts tm:=by
 unfold segT segN
 split
 ·rename_i id ops dr y
  have e:=TWn_eq n y (J:=J) (Q:=Q) hp hJ
  rw[e]
 ·rfl
end seg
end Go.Ab
