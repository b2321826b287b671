/- What is proved here: arguments that came in, read as data, stand as typed values in an abstract memory of blocks that are only read. No condition beyond those written in each statement. -/
import Derived.Test.YtgnlgdebcgffnaaGreatDoorT14
import Derived.OpenShut
import Derived.ChangeSlices
import Derived.ChangeArms
import Derived.Deep.Grids
namespace Go.Ab
set_option linter.unusedVariables false
open Go.ChangeShapes Go.WideShapes
structure FX (W:World) (m:au) (β:bh):Prop where
 sim:dP β m W
 none:∀n,m.size≤n→β n= .none
 ro:∀n,n<m.size→(m.blk n).mode= .ro
 gp:GP m.blk
structure BQ (m m':au):Prop where
 size:m.size≤m'.size
 blk:∀n,n<m.size→m'.blk n=m.blk n
theorem BQ.refl (m:au):BQ m m:=⟨Nat.le_refl _,fun _ _=>rfl⟩
theorem BQ.trans {a b c:au} (h:BQ a b) (k:BQ b c):BQ a c:=⟨Nat.le_trans h.size k.size,fun n hn=>(k.blk n (Nat.lt_of_lt_of_le hn h.size)).trans (h.blk n hn)⟩
def au.pushRo (m:au) (cs:List ad):au:=⟨m.size+1,fun n=>if n=m.size then⟨cs, .ro⟩else m.blk n⟩
theorem BQ.pushRo (m:au) (cs:List ad):BQ m (m.pushRo cs):=⟨by simp[au.pushRo],fun n hn=>by simp[au.pushRo];omega⟩
theorem FX.push {W:World} {m:au} {β:bh} (h:FX W m β) (cs:List ad) (b o s:Nat) (hb:b<W.heap.size) (hc:∀(i:Nat) x,cs[i]? =some x→∃v,W.cell? ⟨b,o+i, .none⟩=some v∧az (upd β m.size ⟨b,o,s,0⟩) x v):
  FX W (m.pushRo cs) (upd β m.size ⟨b,o,s,0⟩):=by
 have hn:=h.none m.size (Nat.le_refl _)
 have hle:β.le (upd β m.size ⟨b,o,s,0⟩):=sE hn
 have cas:∀n p,n<(m.pushRo cs).size→upd β m.size ⟨b,o,s,0⟩ n=some p→(n=m.size∧p=⟨b,o,s,0⟩)∨(n<m.size∧β n=some p):=by
  intro n p h1 h2
  by_cases e:n=m.size
  ·subst e;rw[aG]at h2;cases h2;exact .inl ⟨rfl,rfl⟩
  ·rw[aC _ _ e]at h2
   have:n<m.size+1:=h1
   exact .inr ⟨by omega,h2⟩
 have bnew:(m.pushRo cs).blk m.size=⟨cs, .ro⟩:=by simp[au.pushRo]
 have bold:∀n,n<m.size→(m.pushRo cs).blk n=m.blk n:=fun n hn=>by simp[au.pushRo];omega
 have allro:∀n,n<(m.pushRo cs).size→((m.pushRo cs).blk n).mode= .ro:=by
  intro n h1
  by_cases e:n=m.size
  ·subst e;rw[bnew]
  ·have:n<m.size+1:=h1
   rw[bold n (by omega)];exact h.ro n (by omega)
 refine⟨⟨fun n p h1 h2=> ?_,fun n p h1 h2 h3 i a ha=> ?_,fun n p h1 h2 h3=> ?_,fun n p n' p' h1 h2 h3 h4 h5 h6=> ?_,fun n p ks h1 h2 h3=> ?_,fun n hn0=> ?_,fun n p h1 h2 h3=> ?_,h.sim.gz⟩,fun n h1=> ?_,allro,h.gp.congr fun n hn0=>bold n (h.sim.gl n hn0).1⟩
 ·rcases cas n p h1 h2 with⟨rfl,rfl⟩|⟨h1,h2⟩
  ·exact hb
  ·exact h.sim.lt n p h1 h2
 ·rcases cas n p h1 h2 with⟨rfl,rfl⟩|⟨h1,h2⟩
  ·rw[bnew]at ha;exact hc i a ha
  ·rw[bold n h1]at h3 ha
   obtain⟨v,hv,hr⟩:=h.sim.ro n p h1 h2 h3 i a ha
   exact⟨v,hv,hr.mono hle⟩
 ·rw[allro n h1]at h3;cases h3
 ·rw[allro n h1]at h6;cases h6
 ·rw[allro n h1]at h3;cases h3
 ·obtain⟨a,cs,b⟩:=h.sim.gl n hn0
  exact⟨Nat.lt_succ_of_lt a,cs,by rw[aC _ _ (by omega)];exact b⟩
 ·rw[allro n h1]at h3;cases h3
 ·have:m.size+1≤n:=h1
  rw[aC _ _ (by omega)]
  exact h.none n (by omega)
theorem EA {W:World} {a:Addr} {i:Nat} {v:Value} (h:W.cell? (a.add i)=some v):W.cell? ⟨a.block,a.off+i, .none⟩=some v:=by
 by_cases e:i=0
 ·subst e
  simp[Addr.add]at h
  have hs:a.spot=none:=by
   unfold World.cell? at h
   split at h
   ·split at h
    ·cases h
    ·rename_i hh;simpa using hh
   ·cases h
  rw[←h]
  cases a
  simp at hs
  subst hs
  rfl
 ·simpa[Addr.add,e]using h
theorem Gl {W:World} {a:Addr} {v:Value} (h:W.cell? a=some v):a.block<W.heap.size:=by
 unfold World.cell? at h
 split at h
 ·rename_i hh
  exact(Array.getElem?_eq_some_iff.1 hh).1
 ·cases h
theorem CN {W:World} {a:Addr} {v:Value} (h:W.cell? (a.add 0)=some v):a.spot=none:=by
 simp[Addr.add]at h
 unfold World.cell? at h
 split at h
 ·split at h
  ·cases h
  ·rename_i hh;simpa using hh
 ·cases h
def yW (m:au):aE:=⟨fun _=>none,[],m,fun n=>n<m.size,fun _=>False⟩
theorem HA {W:World} {m:au} {β:bh} (h:FX W m β) (A:Nat→Prop):RM (yW m) A where
 cells k w l hk:=by simp[yW]at hk
 list k w e l hk:=by simp[yW]at hk
 inj k k' b b' n p n' p' _ hk:=by simp[yW]at hk
 fz n hn:=⟨hn,h.ro n hn⟩
 low k b n p hk:=by simp[yW]at hk
 nf n hn:=hn.elim
 keys k ks hk:=by simp[yW]at hk
 gv:=⟨fun n hn=>(h.sim.gl n hn).1,h.gp⟩
theorem H3 {m m':au} (e:BQ m m'):Mv (yW m) (yW m') where
 len:=Nat.le_refl _
 e _ _:=rfl
 kind k b e n hk:=by simp[yW]at hk
 dead k b hk:=by simp[yW]at hk
 fz n hn:=⟨Nat.lt_of_lt_of_le hn e.size,e.blk n hn⟩
 nz n hn:=hn.elim
theorem LV.ext {m m':au} (e:BQ m m') {ts:List TV} {as:List ad} (h:LV (yW m) ts as):LV (yW m') ts as:=⟨h.1,fun i t a h1 h2=>(h.2 i t a h1 h2).mv (H3 e)⟩
def tK (P:Program) (t:TypeId) {α:Type} (tv:α→List TV) (ok:α→Prop):Prop:=
 ∀(H:Type) (enc:TypeId×Value→H) (W:World) (m:au) (β:bh) (fuel:Nat) (cs:List Value) (x:DataW H×List MemPlace),FX W m β→DataW.trod enc P W 0 (fun _=>true) true fuel t cs=some x→
  ∃(d:α) (m':au) (β':bh) (vs:List ad),FX W m' β'∧BQ m m'∧β.le β'∧aK β' vs cs.toArray∧LV (yW m') (tv d) vs∧ok d
theorem tB {β:bh} {a:ad} {v:Value} (h:az β a v):aK β [a] [v].toArray:=by simpa using(aK.nil β).push h
theorem wI {c:aE} {t:TV} {a:ad} (h:RV c t a):LV c [t] [a]:=⟨rfl,fun i x y h1 h2=>by
 cases i with
 |zero=>simp at h1 h2;subst h1;subst h2;exact h
 |succ i=>simp at h1⟩
theorem CF {P:Program} (e:EK) (hes:e.es=1) {f:e.T→ad} {ok:e.T→Prop} {t:TypeId} (g:e.T→Value) (hfg:∀β x,az β (f x) (g x)) (hrv:∀c x (j:Nat) t,(enc e x)[j]? =some t→j=0∧RV c t (f x))
  (ho:∀(H:Type) (enc:TypeId×Value→H) (W:World) (fuel:Nat) (cs:List Value) (x:DataW H×List MemPlace),DataW.trod enc P W 0 (fun _=>true) true fuel t cs=some x→
   cs=[.slice none 0 0]∨∃(a:Addr) (len cap:Nat) (B:Nat→e.T),cs=[.slice (some a) len cap]∧len≤cap∧cap≤maxLen∧∀i,i<cap→W.cell? (a.add i)=some (g (B i))∧ok (B i)):
  tK P t (fun l:List e.T=>[.pl e l]) fun l=>l.length≤maxLen∧∀x∈l,ok x:=by
 intro H enc W m β fuel cs x h0 hx
 rcases ho H enc W fuel cs x hx with rfl|⟨a,len,cap,B,rfl,hl,hm,hc⟩
 ·exact⟨[],m,β,[.nilSl],h0,BQ.refl m,bh.le.refl β,tB .nilSl,wI (.plE e _ (.inl rfl)),by simp,by simp⟩
 ·by_cases el:len=0
  ·subst el
   exact⟨[],m,β,[.emptySl],h0,BQ.refl m,bh.le.refl β,tB (.emptySl _ _),wI (.plE e _ (.inr (.inl rfl))),by simp,by simp⟩
  ·have hcap:0<cap:=by omega
   have hs:=CN (hc 0 hcap).1
   have hsz:m.size<(m.pushRo (((List.range len).map B).map f)).size:=by simp[au.pushRo]
   have hcell:∀i,i<len→((m.pushRo (((List.range len).map B).map f)).blk m.size).cells[i]? =some (f (B i)):=by
    intro i hi
    simp[au.pushRo,hi]
   have hlen:((m.pushRo (((List.range len).map B).map f)).blk m.size).cells.length=len:=by simp[au.pushRo]
   have rv:RV (yW (m.pushRo (((List.range len).map B).map f))) (.pl e ((List.range len).map B)) (.sl m.size 0 ((List.range len).map B).length none e.es):=by
    refine .pl e _ m.size 0 none (fun i=>f (B i)) hsz ?_ ?_ ?_
    ·show _≤List.length (fF.cells (au.blk (m.pushRo _) m.size))
     rw[hlen,hes];simp
    ·intro i hi
     simp[hes]at hi
     rw[Nat.zero_add]
     exact hcell i hi
    ·intro i x j t hi hj
     obtain⟨rfl,r⟩:=hrv (yW (m.pushRo (((List.range len).map B).map f))) x j t hj
     have hil:i<len:=by have:=ae hi;simpa using this
     rw[List.getElem?_map,List.getElem?_range hil]at hi
     simp at hi
     subst hi
     simpa[hes]using r
   refine⟨(List.range len).map B,m.pushRo (((List.range len).map B).map f),upd β m.size ⟨a.block,a.off,a.off+cap,0⟩,[.sl m.size 0 len none 1],h0.push _ _ _ _ (by simpa[Addr.add]using Gl (hc 0 hcap).1) ?_,BQ.pushRo m _,sE (h0.none _ (Nat.le_refl _)),
    tB (.sl m.size 0 len cap 1 none ⟨a.block,a.off,a.off+cap,0⟩ a (aG _ _ _) (fun _=>by cases a;simp at hs;subst hs;rfl) hl (by simp) (by simp)),wI (by simpa[hes]using rv),by simp;omega, ?_⟩
   ·intro i y hy
    simp at hy
    by_cases hi:i<len
    ·rw[List.getElem?_range hi]at hy
     simp at hy
     subst hy
     exact⟨g (B i),EA (hc i (by omega)).1,hfg _ _⟩
    ·rw[List.getElem?_eq_none (by simp;omega)]at hy
     simp at hy
   ·intro y hy
    simp at hy
    obtain⟨i,hi,rfl⟩:=hy
    exact(hc i (by omega)).2
theorem rk {P:Program} {t e:TypeId} (ht:P.underlying t=some (.slice e)) (he:P.underlying e=some (.int .u8)) (hc:P.cellsOf e=1):
  tK P t (fun l:List Int=>[.pl .byte l]) fun l=>l.length≤maxLen∧∀x∈l,U8 x:=by
 refine CF .byte rfl (ok:=fun x=>(Lit.int .u8 x).wf=true) (Value.int .u8) (fun β x=> .int .u8 x) (fun c x j t h=> ?_) fun H enc W fuel cs x h=> ?_
 ·cases j with
  |zero=>simp[enc]at h;subst h;exact⟨rfl, .int _ _⟩
  |succ j=>simp[enc]at h
 rcases open_ints ht he hc h with⟨rfl,_⟩|⟨a,len,cap,zs,rfl,_,hl,hm,hz,_,hcell,hw⟩
 ·exact .inl rfl
 ·simp at hz
  refine .inr ⟨a,len,cap,fun i=>zs.getD i 0,rfl,hl,hm,fun i hi=>⟨hcell i (by omega),hw _ ?_⟩⟩
  show zs.getD i 0∈zs
  rw[List.getD_eq_getElem?_getD,List.getElem?_eq_getElem (by omega)]
  exact List.getElem_mem _
theorem tK.imp {P:Program} {t:TypeId} {α α':Type} {tv:α→List TV} {ok:α→Prop} {tv':α'→List TV} {ok':α'→Prop} (h:tK P t tv ok) (g:α→α') (k:∀d,tv d=tv' (g d)) (k':∀d,ok d→ok' (g d)):tK P t tv' ok':=fun H enc W m β fuel cs x h0 hx=>
 let ⟨d,m',β',vs,a,b,c,e,f,o⟩:=h H enc W m β fuel cs x h0 hx;⟨g d,m',β',vs,a,b,c,e,k d▸f,k' _ o⟩
theorem FS {β:bh} {v:Value} {vs:List ad} (h:aK β vs [v].toArray):∃a,vs=[a]∧az β a v:=by
 obtain⟨h1,h2⟩:=h
 match vs,h1 with
 |[a],_=>exact⟨a,rfl,h2 0 a v rfl rfl⟩
theorem DQ {c:aE} {t:TV} {a:ad} (h:LV c [t] [a]):RV c t a:=h.2 0 t a rfl rfl
theorem IY (c:aE):LV c [] []:=⟨rfl,fun i t a h=>by simp at h⟩
theorem Bj {c:aE} {t:TV} {a:ad} {ts:List TV} {as:List ad} (h:RV c t a) (r:LV c ts as):LV c (t::ts) (a::as):=(wI h).append r
theorem Fc {W:World} {m m':au} {β:bh} (h:FX W m β):eQ β m m':=fun n hn _=>h.none n hn
theorem Dv {β:bh} {b:Bool} {v:Value} (h:az β (.bool b) v):v= .bool b:=by cases h;rfl
theorem ES {P:Program} {f:FuncId} {G:jy} (hs:bG P f G) {W:World} {m:au} {β:bh} (h0:FX W m β) {ts:List TV} {as:List ad} (hl:LV (yW m) ts as) (h:G ts [] fun r _=>r= .bool true):
  ∃m',dI P m.size f as m (.bool true) m':=by
 obtain⟨v,c',r,hr,hv,hd,_,_⟩:=hs ts (fun r _=>r= .bool true) (yW m) h m.size (fun n=>m.size≤n) as (fun n hn=>hn) (fun n hn=>hn) (HA h0 _) hl
 subst hr
 cases hv
 exact⟨_,hd⟩
end Go.Ab
