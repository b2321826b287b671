/- What is proved here: what a row's list of laid variables says of their cells. No condition beyond those written in each statement. -/
import Derived.Test.YtigomgblkieahaaGreatDoorT23
import Derived.OpenShut
import Derived.ChangeArms
namespace Go.Ab
open Go.RowKit
variable {H:Type} {enc:TypeId×Value→H} {P:Program} {w:World} {base:Nat} {sp:Nat→Bool} {held:Bool} {fuel:Nat} {t e:TypeId} {n:Nat} {cs:List Value} {p:List MemPlace}
theorem cells_at {ds:List (DataW H)} (ht:P.underlying t=some (.array n e)) (hce:P.cellsOf e=1) (hct:P.cellsOf t=n) (h:DataW.trod enc P w base sp held fuel t cs=some (.agg ds,p)):
  cs.length=n∧ds.length=n∧∀(i:Nat) d,ds[i]? =some d→∃m v q,cs[i]? =some v∧DataW.trod enc P w base sp held m e [v]=some (d,q):=by
 obtain⟨xs,m,rfl,hx,hl,hn,hall⟩:=DataW.trod_array ht h
 have e1:ds=xs.map (·.1):=by
  have:=congrArg Prod.fst hx
  simpa using this
 refine⟨by omega,by rw[e1];simpa using hn,fun i d hd=> ?_⟩
 rw[e1,List.getElem?_map]at hd
 obtain⟨x,hxi,rfl⟩:=Option.map_eq_some_iff.1 hd
 have hi:i<xs.length:=getElem?_lt hxi
 have h2:=hall i (by omega)
 rw[hce,hxi]at h2
 have hci:i<cs.length:=by omega
 have e2:(cs.drop (i*1)).take 1=[cs[i]]:=by rw[Nat.mul_one,List.drop_eq_getElem_cons hci];rfl
 rw[e2]at h2
 exact⟨m,cs[i],x.2,List.getElem?_eq_getElem hci,h2⟩
theorem laid_strs {l:List (List UInt8)} (ht:P.underlying t=some (.array n e)) (he:P.underlying e=some .string) (hce:P.cellsOf e=1) (hct:P.cellsOf t=n) (h:DataW.trod enc P w base sp held fuel t cs=some (.agg (l.map fun s=> .lit (.string s)),p)):
  ∀(i:Nat) s,l[i]? =some s→cs[i]? =some (.string ⟨s.toArray⟩):=fun i s hs=>by
 obtain⟨m,v,q,hv,hd⟩:=(cells_at ht hce hct h).2.2 i (.lit (.string s)) (by rw[List.getElem?_map,hs];rfl)
 obtain⟨s',hc,hx',_⟩:=DataW.trod_string he hd
 have h3:=congrArg Prod.fst hx'
 simp only[DataW.lit.injEq,Lit.string.injEq]at h3
 have h4:v= .string s':=by simpa using hc
 rw[hv,h4,h3]
theorem laid_ints {k:IntKind} {l:List Int} (ht:P.underlying t=some (.array n e)) (he:P.underlying e=some (.int k)) (hce:P.cellsOf e=1) (hct:P.cellsOf t=n) (h:DataW.trod enc P w base sp held fuel t cs=some (.agg (l.map fun x=> .lit (.int k x)),p)):
  cs.length=n∧∀(i:Nat) x,l[i]? =some x→cs[i]? =some (.int k x):=⟨(cells_at ht hce hct h).1,fun i x hs=>by
 obtain⟨m,v,q,hv,hd⟩:=(cells_at ht hce hct h).2.2 i (.lit (.int k x)) (by rw[List.getElem?_map,hs];rfl)
 obtain⟨x',hc,hx',_⟩:=DataW.trod_int he hd
 have h3:=congrArg Prod.fst hx'
 simp only[DataW.lit.injEq,Lit.int.injEq,true_and]at h3
 have h4:v= .int k x':=by simpa using hc
 rw[hv,h4,h3]⟩
theorem laid_ifc {ms:Array (String×TypeId)} {name:String} {d:DataW H} (ht:P.underlying t=some (.interface ms)) (h:DataW.trod enc P w base sp held fuel t cs=some (.iface name d,p)):∃u v,cs=[.iface u v]:=by
 cases fuel with
 |zero=>simp[DataW.trod]at h
 |succ n=>
  unfold DataW.trod at h
  rw[ht]at h
  split at h<;>simp_all
theorem gz_var {W:World} {P:Program} {name:String} {g s:Nat} {cs:Array Value} (hg:P.globalNamed name=some g) (hv:W.var? P name=some cs) (hs:cs.size=s):∀c e f,W.heap[g]? =some (.cells c e f)→c.size=s:=fun c e f hc=>by
 unfold World.var? at hv
 rw[hg]at hv
 simp only[Option.bind_some,hc]at hv
 cases hv
 exact hs
end Go.Ab
