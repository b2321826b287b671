/- What is proved here: arguments that came in, read as data, stand as typed values in an abstract memory of blocks that are only read. No condition beyond those written in each statement. -/
import Derived.Test.YtgnlgdebcgffnaaGreatDoorT14
import Derived.OpenShut
import Derived.ChangeSlices
import Derived.ChangeArms
import Derived.Deep.Grids
namespace Go.Ab
set_option linter.unusedVariables false
open Go.ChangeShapes Go.WideShapes
structure FX (W:World) (m:au) (β:bh):Prop where
 sim:dP β m W
 none:∀n,m.size≤n→β n= .none
 ro:∀n,n<m.size→(m.blk n).mode= .ro
 gp:GP m.blk
structure BQ (m m':au):Prop where
 size:m.size≤m'.size
 blk:∀n,n<m.size→m'.blk n=m.blk n
theorem BQ.refl (m:au):BQ m m:=⟨Nat.le_refl _,fun _ _=>rfl⟩
theorem BQ.trans {a b c:au} (h:BQ a b) (k:BQ b c):BQ a c:=⟨Nat.le_trans h.size k.size,fun n hn=>(k.blk n (Nat.lt_of_lt_of_le hn h.size)).trans (h.blk n hn)⟩
def au.pushRo (m:au) (cs:List ad):au:=⟨m.size+1,fun n=>if n=m.size then⟨cs, .ro⟩else m.blk n⟩
theorem BQ.pushRo (m:au) (cs:List ad):BQ m (m.pushRo cs):=⟨by simp[au.pushRo],fun n hn=>by simp[au.pushRo];omega⟩
theorem FX.push {W:World} {m:au} {β:bh} (h:FX W m β) (cs:List ad) (b o s:Nat) (hb:b<W.heap.size) (hc:∀(i:Nat) x,cs[i]? =some x→∃v,W.cell? ⟨b,o+i, .none⟩=some v∧az (upd β m.size ⟨b,o,s,0⟩) x v):
  FX W (m.pushRo cs) (upd β m.size ⟨b,o,s,0⟩):=by
 have hn:=h.none m.size (Nat.le_refl _)
 have hle:β.le (upd β m.size ⟨b,o,s,0⟩):=sE hn
 have cas:∀n p,n<(m.pushRo cs).size→upd β m.size ⟨b,o,s,0⟩ n=some p→(n=m.size∧p=⟨b,o,s,0⟩)∨(n<m.size∧β n=some p):=by
  intro n p h1 h2
  by_cases e:n=m.size
  ·subst e;rw[aG]at h2;cases h2;exact .inl ⟨rfl,rfl⟩
  ·rw[aC _ _ e]at h2
   have:n<m.size+1:=h1
   exact .inr ⟨by omega,h2⟩
 have bnew:(m.pushRo cs).blk m.size=⟨cs, .ro⟩:=by simp[au.pushRo]
 have bold:∀n,n<m.size→(m.pushRo cs).blk n=m.blk n:=fun n hn=>by simp[au.pushRo];omega
 have allro:∀n,n<(m.pushRo cs).size→((m.pushRo cs).blk n).mode= .ro:=by
  intro n h1
  by_cases e:n=m.size
  ·subst e;rw[bnew]
  ·have:n<m.size+1:=h1
   rw[bold n (by omega)];exact h.ro n (by omega)
 refine⟨⟨fun n p h1 h2=> ?_,fun n p h1 h2 h3 i a ha=> ?_,fun n p h1 h2 h3=> ?_,fun n p n' p' h1 h2 h3 h4 h5 h6=> ?_,fun n p ks h1 h2 h3=> ?_,fun n hn0=> ?_,fun n p h1 h2 h3=> ?_,h.sim.gz⟩,fun n h1=> ?_,allro,h.gp.congr fun n hn0=>bold n (h.sim.gl n hn0).1⟩
 ·rcases cas n p h1 h2 with⟨rfl,rfl⟩|⟨h1,h2⟩
  ·exact hb
  ·exact h.sim.lt n p h1 h2
 ·rcases cas n p h1 h2 with⟨rfl,rfl⟩|⟨h1,h2⟩
  ·rw[bnew]at ha;exact hc i a ha
  ·rw[bold n h1]at h3 ha
   obtain⟨v,hv,hr⟩:=h.sim.ro n p h1 h2 h3 i a ha
   exact⟨v,hv,hr.mono hle⟩
 ·rw[allro n h1]at h3;cases h3
 ·rw[allro n h1]at h6;cases h6
 ·rw[allro n h1]at h3;cases h3
 ·obtain⟨a,cs,b⟩:=h.sim.gl n hn0
  exact⟨Nat.lt_succ_of_lt a,cs,by rw[aC _ _ (by omega)];exact b⟩
 ·rw[allro n h1]at h3;cases h3
 ·have:m.size+1≤n:=h1
  rw[aC _ _ (by omega)]
  exact h.none n (by omega)
def yW (m:au):aE:=⟨fun _=>none,[],m,fun n=>n<m.size,fun _=>False⟩
theorem HA {W:World} {m:au} {β:bh} (h:FX W m β) (A:Nat→Prop):RM (yW m) A where
 cells k w l hk:=by simp[yW]at hk
 list k w e l hk:=by simp[yW]at hk
 inj k k' b b' n p n' p' _ hk:=by simp[yW]at hk
 fz n hn:=⟨hn,h.ro n hn⟩
 low k b n p hk:=by simp[yW]at hk
 nf n hn:=hn.elim
 keys k ks hk:=by simp[yW]at hk
 gv:=⟨fun n hn=>(h.sim.gl n hn).1,h.gp⟩
theorem H3 {m m':au} (e:BQ m m'):Mv (yW m) (yW m') where
 len:=Nat.le_refl _
 e _ _:=rfl
 kind k b e n hk:=by simp[yW]at hk
 dead k b hk:=by simp[yW]at hk
 fz n hn:=⟨Nat.lt_of_lt_of_le hn e.size,e.blk n hn⟩
 nz n hn:=hn.elim
theorem LV.ext {m m':au} (e:BQ m m') {ts:List TV} {as:List ad} (h:LV (yW m) ts as):LV (yW m') ts as:=⟨h.1,fun i t a h1 h2=>(h.2 i t a h1 h2).mv (H3 e)⟩
def tK (P:Program) (t:TypeId) {α:Type} (tv:α→List TV) (ok:α→Prop):Prop:=
 ∀(H:Type) (enc:TypeId×Value→H) (W:World) (m:au) (β:bh) (fuel:Nat) (cs:List Value) (x:DataW H×List MemPlace),FX W m β→DataW.trod enc P W 0 (fun _=>true) true fuel t cs=some x→
  ∃(d:α) (m':au) (β':bh) (vs:List ad),FX W m' β'∧BQ m m'∧β.le β'∧aK β' vs cs.toArray∧LV (yW m') (tv d) vs∧ok d
theorem wI {c:aE} {t:TV} {a:ad} (h:RV c t a):LV c [t] [a]:=⟨rfl,fun i x y h1 h2=>by
 cases i with
 |zero=>simp at h1 h2;subst h1;subst h2;exact h
 |succ i=>simp at h1⟩
theorem tK.imp {P:Program} {t:TypeId} {α α':Type} {tv:α→List TV} {ok:α→Prop} {tv':α'→List TV} {ok':α'→Prop} (h:tK P t tv ok) (g:α→α') (k:∀d,tv d=tv' (g d)) (k':∀d,ok d→ok' (g d)):tK P t tv' ok':=fun H enc W m β fuel cs x h0 hx=>
 let ⟨d,m',β',vs,a,b,c,e,f,o⟩:=h H enc W m β fuel cs x h0 hx;⟨g d,m',β',vs,a,b,c,e,k d▸f,k' _ o⟩
theorem IY (c:aE):LV c [] []:=⟨rfl,fun i t a h=>by simp at h⟩
theorem Bj {c:aE} {t:TV} {a:ad} {ts:List TV} {as:List ad} (h:RV c t a) (r:LV c ts as):LV c (t::ts) (a::as):=(wI h).append r
theorem Fc {W:World} {m m':au} {β:bh} (h:FX W m β):eQ β m m':=fun n hn _=>h.none n hn
theorem Dv {β:bh} {b:Bool} {v:Value} (h:az β (.bool b) v):v= .bool b:=by cases h;rfl
theorem ES {P:Program} {f:FuncId} {G:jy} (hs:bG P f G) {W:World} {m:au} {β:bh} (h0:FX W m β) {ts:List TV} {as:List ad} (hl:LV (yW m) ts as) (h:G ts [] fun r _=>r= .bool true):
  ∃m',dI P m.size f as m (.bool true) m':=by
 obtain⟨v,c',r,hr,hv,hd,_,_⟩:=hs ts (fun r _=>r= .bool true) (yW m) h m.size (fun n=>m.size≤n) as (fun n hn=>hn) (fun n hn=>hn) (HA h0 _) hl
 subst hr
 cases hv
 exact⟨_,hd⟩
end Go.Ab
