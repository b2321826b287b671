/- What is proved here: arguments that came in, read as data, stand as typed values in an abstract memory of blocks that are only read. No condition beyond those written in each statement. -/
import Derived.Test.YtigomgblkieahaaGreatDoorT14
import Derived.OpenShut
import Derived.ChangeSlices
import Derived.ChangeArms
import Derived.Deep.Grids
namespace Go.Ab
set_option linter.unusedVariables false
open Go.ChangeShapes Go.WideShapes
structure Op0 (W:World) (m:Mem) (β:Inj):Prop where
 sim:Sim β m W
 none:∀n,m.size≤n→β n= .none
 ro:∀n,n<m.size→(m.blk n).mode= .ro
 gp:GP m.blk
structure Ext (m m':Mem):Prop where
 size:m.size≤m'.size
 blk:∀n,n<m.size→m'.blk n=m.blk n
theorem Ext.refl (m:Mem):Ext m m:=⟨Nat.le_refl _,fun _ _=>rfl⟩
theorem Ext.trans {a b c:Mem} (h:Ext a b) (k:Ext b c):Ext a c:=⟨Nat.le_trans h.size k.size,fun n hn=>(k.blk n (Nat.lt_of_lt_of_le hn h.size)).trans (h.blk n hn)⟩
def Mem.pushRo (m:Mem) (cs:List AVal):Mem:=⟨m.size+1,fun n=>if n=m.size then⟨cs, .ro⟩else m.blk n⟩
def Mem.empty:Mem:=⟨0,fun _=>⟨[], .ro⟩⟩
theorem op0_empty (W:World) (h0:G0=0) (hg:GP Mem.empty.blk):Op0 W Mem.empty (fun _=> .none):=
 ⟨⟨fun n p h=>absurd h (Nat.not_lt_zero _),fun n p h=>absurd h (Nat.not_lt_zero _),fun n p h=>absurd h (Nat.not_lt_zero _),fun n p n' p' h=>absurd h (Nat.not_lt_zero _),fun n p ks h=>absurd h (Nat.not_lt_zero _),fun n h=>absurd h (by rw[h0];exact Nat.not_lt_zero _),fun n p h=>absurd h (Nat.not_lt_zero _),fun n s h=>absurd h (by rw[h0];exact Nat.not_lt_zero _)⟩,fun _ _=>rfl,fun n h=>absurd h (Nat.not_lt_zero _),hg⟩
theorem Ext.pushRo (m:Mem) (cs:List AVal):Ext m (m.pushRo cs):=⟨by simp[Mem.pushRo],fun n hn=>by simp[Mem.pushRo];omega⟩
theorem Op0.push {W:World} {m:Mem} {β:Inj} (h:Op0 W m β) (cs:List AVal) (b o s:Nat) (hb:b<W.heap.size) (hc:∀(i:Nat) x,cs[i]? =some x→∃v,W.cell? ⟨b,o+i, .none⟩=some v∧VRel (upd β m.size ⟨b,o,s,0⟩) x v):
  Op0 W (m.pushRo cs) (upd β m.size ⟨b,o,s,0⟩):=by
 have hn:=h.none m.size (Nat.le_refl _)
 have hle:β.le (upd β m.size ⟨b,o,s,0⟩):=le_upd hn
 have cas:∀n p,n<(m.pushRo cs).size→upd β m.size ⟨b,o,s,0⟩ n=some p→(n=m.size∧p=⟨b,o,s,0⟩)∨(n<m.size∧β n=some p):=by
  intro n p h1 h2
  by_cases e:n=m.size
  ·subst e;rw[upd_same]at h2;cases h2;exact .inl ⟨rfl,rfl⟩
  ·rw[upd_other _ _ e]at h2
   have:n<m.size+1:=h1
   exact .inr ⟨by omega,h2⟩
 have bnew:(m.pushRo cs).blk m.size=⟨cs, .ro⟩:=by simp[Mem.pushRo]
 have bold:∀n,n<m.size→(m.pushRo cs).blk n=m.blk n:=fun n hn=>by simp[Mem.pushRo];omega
 have allro:∀n,n<(m.pushRo cs).size→((m.pushRo cs).blk n).mode= .ro:=by
  intro n h1
  by_cases e:n=m.size
  ·subst e;rw[bnew]
  ·have:n<m.size+1:=h1
   rw[bold n (by omega)];exact h.ro n (by omega)
 refine⟨⟨fun n p h1 h2=> ?_,fun n p h1 h2 h3 i a ha=> ?_,fun n p h1 h2 h3=> ?_,fun n p n' p' h1 h2 h3 h4 h5 h6=> ?_,fun n p ks h1 h2 h3=> ?_,fun n hn0=> ?_,fun n p h1 h2 h3=> ?_,h.sim.gz⟩,fun n h1=> ?_,allro,h.gp.congr fun n hn0=>bold n (h.sim.gl n hn0).1⟩
 ·rcases cas n p h1 h2 with⟨rfl,rfl⟩|⟨h1,h2⟩
  ·exact hb
  ·exact h.sim.lt n p h1 h2
 ·rcases cas n p h1 h2 with⟨rfl,rfl⟩|⟨h1,h2⟩
  ·rw[bnew]at ha;exact hc i a ha
  ·rw[bold n h1]at h3 ha
   obtain⟨v,hv,hr⟩:=h.sim.ro n p h1 h2 h3 i a ha
   exact⟨v,hv,hr.mono hle⟩
 ·rw[allro n h1]at h3;cases h3
 ·rw[allro n h1]at h6;cases h6
 ·rw[allro n h1]at h3;cases h3
 ·obtain⟨a,cs,b⟩:=h.sim.gl n hn0
  exact⟨Nat.lt_succ_of_lt a,cs,by rw[upd_other _ _ (by omega)];exact b⟩
 ·rw[allro n h1]at h3;cases h3
 ·have:m.size+1≤n:=h1
  rw[upd_other _ _ (by omega)]
  exact h.none n (by omega)
theorem add_spot {W:World} {a:Addr} {i:Nat} {v:Value} (h:W.cell? (a.add i)=some v):W.cell? ⟨a.block,a.off+i, .none⟩=some v:=by
 by_cases e:i=0
 ·subst e
  simp[Addr.add]at h
  have hs:a.spot=none:=by
   unfold World.cell? at h
   split at h
   ·split at h
    ·cases h
    ·rename_i hh;simpa using hh
   ·cases h
  rw[←h]
  cases a
  simp at hs
  subst hs
  rfl
 ·simpa[Addr.add,e]using h
theorem cell_lt {W:World} {a:Addr} {v:Value} (h:W.cell? a=some v):a.block<W.heap.size:=by
 unfold World.cell? at h
 split at h
 ·rename_i hh
  exact(Array.getElem?_eq_some_iff.1 hh).1
 ·cases h
theorem spot_none {W:World} {a:Addr} {v:Value} (h:W.cell? (a.add 0)=some v):a.spot=none:=by
 simp[Addr.add]at h
 unfold World.cell? at h
 split at h
 ·split at h
  ·cases h
  ·rename_i hh;simpa using hh
 ·cases h
def roC (m:Mem):Cfg:=⟨fun _=>none,[],m,fun n=>n<m.size,fun _=>False⟩
theorem roC_rm {W:World} {m:Mem} {β:Inj} (h:Op0 W m β) (A:Nat→Prop):RM (roC m) A where
 cells k w l hk:=by simp[roC]at hk
 list k w e l hk:=by simp[roC]at hk
 inj k k' b b' n p n' p' _ hk:=by simp[roC]at hk
 fz n hn:=⟨hn,h.ro n hn⟩
 low k b n p hk:=by simp[roC]at hk
 nf n hn:=hn.elim
 keys k ks hk:=by simp[roC]at hk
 gv:=⟨fun n hn=>(h.sim.gl n hn).1,h.gp⟩
theorem roC_mv {m m':Mem} (e:Ext m m'):Mv (roC m) (roC m') where
 len:=Nat.le_refl _
 e _ _:=rfl
 kind k b e n hk:=by simp[roC]at hk
 dead k b hk:=by simp[roC]at hk
 fz n hn:=⟨Nat.lt_of_lt_of_le hn e.size,e.blk n hn⟩
 nz n hn:=hn.elim
theorem LV.ext {m m':Mem} (e:Ext m m') {ts:List TV} {as:List AVal} (h:LV (roC m) ts as):LV (roC m') ts as:=⟨h.1,fun i t a h1 h2=>(h.2 i t a h1 h2).mv (roC_mv e)⟩
def OpensT (P:Program) (t:TypeId) {α:Type} (tv:α→List TV) (ok:α→Prop):Prop:=
 ∀(H:Type) (enc:TypeId×Value→H) (W:World) (m:Mem) (β:Inj) (fuel:Nat) (cs:List Value) (x:DataW H×List MemPlace),Op0 W m β→DataW.trod enc P W 0 (fun _=>true) true fuel t cs=some x→
  ∃(d:α) (m':Mem) (β':Inj) (vs:List AVal),Op0 W m' β'∧Ext m m'∧β.le β'∧LRel β' vs cs.toArray∧LV (roC m') (tv d) vs∧ok d
theorem lrel_one {β:Inj} {a:AVal} {v:Value} (h:VRel β a v):LRel β [a] [v].toArray:=by simpa using(LRel.nil β).push h
theorem lv_one {c:Cfg} {t:TV} {a:AVal} (h:RV c t a):LV c [t] [a]:=⟨rfl,fun i x y h1 h2=>by
 cases i with
 |zero=>simp at h1 h2;subst h1;subst h2;exact h
 |succ i=>simp at h1⟩
theorem opens_row {P:Program} (e:EK) (hes:e.es=1) {f:e.T→AVal} {ok:e.T→Prop} {t:TypeId} (g:e.T→Value) (hfg:∀β x,VRel β (f x) (g x)) (hrv:∀c x (j:Nat) t,(enc e x)[j]? =some t→j=0∧RV c t (f x))
  (ho:∀(H:Type) (enc:TypeId×Value→H) (W:World) (fuel:Nat) (cs:List Value) (x:DataW H×List MemPlace),DataW.trod enc P W 0 (fun _=>true) true fuel t cs=some x→
   cs=[.slice none 0 0]∨∃(a:Addr) (len cap:Nat) (B:Nat→e.T),cs=[.slice (some a) len cap]∧len≤cap∧cap≤maxLen∧∀i,i<cap→W.cell? (a.add i)=some (g (B i))∧ok (B i)):
  OpensT P t (fun l:List e.T=>[.pl e l]) fun l=>l.length≤maxLen∧∀x∈l,ok x:=by
 intro H enc W m β fuel cs x h0 hx
 rcases ho H enc W fuel cs x hx with rfl|⟨a,len,cap,B,rfl,hl,hm,hc⟩
 ·exact⟨[],m,β,[.nilSl],h0,Ext.refl m,Inj.le.refl β,lrel_one .nilSl,lv_one (.plE e _ (.inl rfl)),by simp,by simp⟩
 ·by_cases el:len=0
  ·subst el
   exact⟨[],m,β,[.emptySl],h0,Ext.refl m,Inj.le.refl β,lrel_one (.emptySl _ _),lv_one (.plE e _ (.inr (.inl rfl))),by simp,by simp⟩
  ·have hcap:0<cap:=by omega
   have hs:=spot_none (hc 0 hcap).1
   have hsz:m.size<(m.pushRo (((List.range len).map B).map f)).size:=by simp[Mem.pushRo]
   have hcell:∀i,i<len→((m.pushRo (((List.range len).map B).map f)).blk m.size).cells[i]? =some (f (B i)):=by
    intro i hi
    simp[Mem.pushRo,hi]
   have hlen:((m.pushRo (((List.range len).map B).map f)).blk m.size).cells.length=len:=by simp[Mem.pushRo]
   have rv:RV (roC (m.pushRo (((List.range len).map B).map f))) (.pl e ((List.range len).map B)) (.sl m.size 0 ((List.range len).map B).length none e.es):=by
    refine .pl e _ m.size 0 none (fun i=>f (B i)) hsz ?_ ?_ ?_
    ·show _≤List.length (Blk.cells (Mem.blk (m.pushRo _) m.size))
     rw[hlen,hes];simp
    ·intro i hi
     simp[hes]at hi
     rw[Nat.zero_add]
     exact hcell i hi
    ·intro i x j t hi hj
     obtain⟨rfl,r⟩:=hrv (roC (m.pushRo (((List.range len).map B).map f))) x j t hj
     have hil:i<len:=by have:=getElem?_lt hi;simpa using this
     rw[List.getElem?_map,List.getElem?_range hil]at hi
     simp at hi
     subst hi
     simpa[hes]using r
   refine⟨(List.range len).map B,m.pushRo (((List.range len).map B).map f),upd β m.size ⟨a.block,a.off,a.off+cap,0⟩,[.sl m.size 0 len none 1],h0.push _ _ _ _ (by simpa[Addr.add]using cell_lt (hc 0 hcap).1) ?_,Ext.pushRo m _,le_upd (h0.none _ (Nat.le_refl _)),
    lrel_one (.sl m.size 0 len cap 1 none ⟨a.block,a.off,a.off+cap,0⟩ a (upd_same _ _ _) (fun _=>by cases a;simp at hs;subst hs;rfl) hl (by simp) (by simp)),lv_one (by simpa[hes]using rv),by simp;omega, ?_⟩
   ·intro i y hy
    simp at hy
    by_cases hi:i<len
    ·rw[List.getElem?_range hi]at hy
     simp at hy
     subst hy
     exact⟨g (B i),add_spot (hc i (by omega)).1,hfg _ _⟩
    ·rw[List.getElem?_eq_none (by simp;omega)]at hy
     simp at hy
   ·intro y hy
    simp at hy
    obtain⟨i,hi,rfl⟩:=hy
    exact(hc i (by omega)).2
theorem opens_ints {P:Program} {t e:TypeId} (ht:P.underlying t=some (.slice e)) (he:P.underlying e=some (.int .i64)) (hc:P.cellsOf e=1):
  OpensT P t (fun l:List Int=>[.pl .int l]) fun l=>l.length≤maxLen∧∀x∈l,I64 x:=by
 refine opens_row .int rfl (ok:=fun x=>(Lit.int .i64 x).wf=true) (Value.int .i64) (fun β x=> .int .i64 x) (fun c x j t h=> ?_) fun H enc W fuel cs x h=> ?_
 ·cases j with
  |zero=>simp[enc]at h;subst h;exact⟨rfl, .int _ _⟩
  |succ j=>simp[enc]at h
 rcases open_ints ht he hc h with⟨rfl,_⟩|⟨a,len,cap,zs,rfl,_,hl,hm,hz,_,hcell,hw⟩
 ·exact .inl rfl
 ·simp at hz
  refine .inr ⟨a,len,cap,fun i=>zs.getD i 0,rfl,hl,hm,fun i hi=>⟨hcell i (by omega),hw _ ?_⟩⟩
  show zs.getD i 0∈zs
  rw[List.getD_eq_getElem?_getD,List.getElem?_eq_getElem (by omega)]
  exact List.getElem_mem _
theorem opens_bytes {P:Program} {t e:TypeId} (ht:P.underlying t=some (.slice e)) (he:P.underlying e=some (.int .u8)) (hc:P.cellsOf e=1):
  OpensT P t (fun l:List Int=>[.pl .byte l]) fun l=>l.length≤maxLen∧∀x∈l,U8 x:=by
 refine opens_row .byte rfl (ok:=fun x=>(Lit.int .u8 x).wf=true) (Value.int .u8) (fun β x=> .int .u8 x) (fun c x j t h=> ?_) fun H enc W fuel cs x h=> ?_
 ·cases j with
  |zero=>simp[enc]at h;subst h;exact⟨rfl, .int _ _⟩
  |succ j=>simp[enc]at h
 rcases open_ints ht he hc h with⟨rfl,_⟩|⟨a,len,cap,zs,rfl,_,hl,hm,hz,_,hcell,hw⟩
 ·exact .inl rfl
 ·simp at hz
  refine .inr ⟨a,len,cap,fun i=>zs.getD i 0,rfl,hl,hm,fun i hi=>⟨hcell i (by omega),hw _ ?_⟩⟩
  show zs.getD i 0∈zs
  rw[List.getD_eq_getElem?_getD,List.getElem?_eq_getElem (by omega)]
  exact List.getElem_mem _
theorem opens_bools {P:Program} {t e:TypeId} (ht:P.underlying t=some (.slice e)) (he:P.underlying e=some .bool) (hc:P.cellsOf e=1):
  OpensT P t (fun l:List Bool=>[.pl .bool l]) fun l=>l.length≤maxLen∧∀x∈l,True:=by
 refine opens_row .bool rfl (ok:=fun _=>True) Value.bool (fun β x=> .bool x) (fun c x j t h=> ?_) fun H enc W fuel cs x h=> ?_
 ·cases j with
  |zero=>simp[enc]at h;subst h;exact⟨rfl, .bool _⟩
  |succ j=>simp[enc]at h
 rcases Deep.open_bools ht he hc h with⟨rfl,_⟩|⟨a,len,cap,B,rfl,_,hl,hm,_,hcell⟩
 ·exact .inl rfl
 ·exact .inr ⟨a,len,cap,B,rfl,hl,hm,fun i hi=>⟨hcell i hi,trivial⟩⟩
theorem opens_int {P:Program} {t:TypeId} (ht:P.underlying t=some (.int .i64)):OpensT P t (fun n:Int=>[.int .i64 n]) I64:=by
 intro H enc W m β fuel cs x h0 hx
 obtain⟨n,rfl,rfl,hw⟩:=DataW.trod_int ht hx
 exact⟨n,m,β,_,h0,Ext.refl m,Inj.le.refl β,lrel_one (.int .i64 n),lv_one (.int _ _),hw⟩
theorem opens_bool {P:Program} {t:TypeId} (ht:P.underlying t=some .bool):OpensT P t (fun b:Bool=>[.bool b]) fun _=>True:=by
 intro H enc W m β fuel cs x h0 hx
 obtain⟨b,rfl,rfl⟩:=DataW.trod_bool ht hx
 exact⟨b,m,β,_,h0,Ext.refl m,Inj.le.refl β,lrel_one (.bool b),lv_one (.bool _),trivial⟩
theorem lrel_append {β:Inj} {xs ys:List AVal} {us vs:List Value} (r:LRel β xs us.toArray) (s:LRel β ys vs.toArray):LRel β (xs++ys) (us++vs).toArray:=by simpa using r.append s
def OpensF (P:Program) (fs:List Field) (off:Nat) {α:Type} (tv:α→List TV) (ok:α→Prop) (tot:Nat):Prop:=
 ∀(H:Type) (enc:TypeId×Value→H) (W:World) (m:Mem) (β:Inj) (fuel:Nat) (cs:List Value),Op0 W m β→cs.length=tot→(∀(j:Nat) f,fs[j]? =some f→∃x,DataW.trod enc P W 0 (fun _=>true) true fuel f.type ((cs.drop f.offset).take (P.cellsOf f.type))=some x)→
  ∃(d:α) (m':Mem) (β':Inj) (vs:List AVal),Op0 W m' β'∧Ext m m'∧β.le β'∧LRel β' vs (cs.drop off).toArray∧LV (roC m') (tv d) vs∧ok d
theorem opensF_nil {P:Program} {off tot:Nat} (ho:off=tot):OpensF P [] off (fun _:Unit=>[]) (fun _=>True) tot:=by
 subst ho
 intro H enc W m β fuel cs h0 hl hf
 refine⟨(),m,β,[],h0,Ext.refl m,Inj.le.refl β, ?_,⟨rfl,fun i t a h=>by simp at h⟩,trivial⟩
 rw[List.drop_of_length_le (by omega)]
 exact LRel.nil β
theorem opensF_cons {P:Program} {f:Field} {fs:List Field} {off tot:Nat} {α α':Type} {tv:α→List TV} {ok:α→Prop} {tv':α'→List TV} {ok':α'→Prop} (ho:f.offset=off) (h1:OpensT P f.type tv ok) (h2:OpensF P fs (off+P.cellsOf f.type) tv' ok' tot):
  OpensF P (f::fs) off (fun d:α×α'=>tv d.1++tv' d.2) (fun d=>ok d.1∧ok' d.2) tot:=by
 intro H enc W m β fuel cs h0 hl hf
 obtain⟨x,hx⟩:=hf 0 f rfl
 obtain⟨da,ma,βa,va,Oa,ea,la,ra,qa,ka⟩:=h1 H enc W m β fuel _ _ h0 hx
 obtain⟨db,mb,βb,vb,Ob,eb,lb,rb,qb,kb⟩:=h2 H enc W ma βa fuel cs Oa hl (fun j g hj=>hf (j+1) g hj)
 refine⟨(da,db),mb,βb,va++vb,Ob,ea.trans eb,la.trans lb, ?_,(qa.ext eb).append qb,ka,kb⟩
 have hcs:cs.drop off=(cs.drop f.offset).take (P.cellsOf f.type)++cs.drop (off+P.cellsOf f.type):=by
  rw[ho,←List.drop_drop,List.take_append_drop]
 rw[hcs]
 exact lrel_append (ra.mono lb) rb
theorem opens_struct {P:Program} {t:TypeId} {fs:Array Field} {α:Type} {tv:α→List TV} {ok:α→Prop} (ht:P.underlying t=some (.struct fs)) (h:OpensF P fs.toList 0 tv ok (P.cellsOf t)):OpensT P t tv ok:=by
 intro H enc W m β fuel cs x hO hx
 obtain⟨xs,n,_,rfl,hl,hlen,hf⟩:=DataW.trod_struct ht hx
 have:=h H enc W m β n cs hO hl (fun j f hj=>by
  have hj':j<xs.length:=by rw[hlen];simpa using getElem?_lt hj
  exact⟨xs[j],(hf j f (by simpa using hj)).trans (List.getElem?_eq_getElem hj')⟩)
 simpa using this
theorem OpensT.imp {P:Program} {t:TypeId} {α α':Type} {tv:α→List TV} {ok:α→Prop} {tv':α'→List TV} {ok':α'→Prop} (h:OpensT P t tv ok) (g:α→α') (k:∀d,tv d=tv' (g d)) (k':∀d,ok d→ok' (g d)):OpensT P t tv' ok':=fun H enc W m β fuel cs x h0 hx=>
 let ⟨d,m',β',vs,a,b,c,e,f,o⟩:=h H enc W m β fuel cs x h0 hx;⟨g d,m',β',vs,a,b,c,e,k d▸f,k' _ o⟩
theorem arg_struct {β:Inj} {vs:List AVal} {us:Array Value} (h:LRel β vs us.toList.toArray):VRel β (.agg vs) (.agg us):=by
 have h:LRel β vs us:=by simpa using h
 exact .agg vs us h.1 h.2
theorem rv_struct {c:Cfg} {ts:List TV} {vs:List AVal} (h:LV c ts vs):RV c (.agg ts) (.agg vs):= .agg ts vs h.1 h.2
theorem one_of {β:Inj} {v:Value} {vs:List AVal} (h:LRel β vs [v].toArray):∃a,vs=[a]∧VRel β a v:=by
 obtain⟨h1,h2⟩:=h
 match vs,h1 with
 |[a],_=>exact⟨a,rfl,h2 0 a v rfl rfl⟩
theorem lv_get {c:Cfg} {t:TV} {a:AVal} (h:LV c [t] [a]):RV c t a:=h.2 0 t a rfl rfl
theorem lv_nil (c:Cfg):LV c [] []:=⟨rfl,fun i t a h=>by simp at h⟩
theorem lv_cons {c:Cfg} {t:TV} {a:AVal} {ts:List TV} {as:List AVal} (h:RV c t a) (r:LV c ts as):LV c (t::ts) (a::as):=(lv_one h).append r
theorem okW_struct {P:Program} {W:World} {r:Reach} {base:Nat} {t:TypeId} {fs:Array Field} {v:Value} (ht:P.underlying t=some (.struct fs)) (h:Value.okWide P W r base t v):∃us,v= .agg us:=by
 unfold Value.okWide at h
 rw[ht]at h
 obtain⟨cs,rfl,_⟩:=h
 exact⟨cs,rfl⟩
theorem op0_free {W:World} {m m':Mem} {β:Inj} (h:Op0 W m β):Free β m m':=fun n hn _=>h.none n hn
theorem back_bool {β:Inj} {b:Bool} {v:Value} (h:VRel β (.bool b) v):v= .bool b:=by cases h;rfl
theorem law_true {P:Program} {f:FuncId} {G:Con} (hs:CSound P f G) {W:World} {m:Mem} {β:Inj} (h0:Op0 W m β) {ts:List TV} {as:List AVal} (hl:LV (roC m) ts as) (h:G ts [] fun r _=>r= .bool true):
  ∃m',DCalls P m.size f as m (.bool true) m':=by
 obtain⟨v,c',r,hr,hv,hd,_,_⟩:=hs ts (fun r _=>r= .bool true) (roC m) h m.size (fun n=>m.size≤n) as (fun n hn=>hn) (fun n hn=>hn) (roC_rm h0 _) hl
 subst hr
 cases hv
 exact⟨_,hd⟩
end Go.Ab
