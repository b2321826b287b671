/- What is proved here: a region of operations, in whatever order the model draws, does what its operations do abstractly in the order of the text. -/
import Derived.Test.YtigomgblkieahaaGreatDoorB3
namespace Go.Ab
open Go.RowKit
theorem mem_ext {m m':Mem} (h1:m.size=m'.size) (h2:m.blk=m'.blk):m=m':=by cases m;cases m';simp at h1 h2;subst h1;subst h2;rfl
theorem vis_of {p:Prop} {a b:Bool} (h:¬(p∧(a=true∨b=true))) (hp:p):a=false∧b=false:=by
 cases a
 ·cases b
  ·exact⟨rfl,rfl⟩
  ·exact absurd ⟨hp, .inr rfl⟩ h
 ·exact absurd ⟨hp, .inl rfl⟩ h
theorem sim_of_blk {β:Inj} {m m':Mem} {w:World} (hs:Sim β m w) (hsz:m'.size≤m.size) (hg:∀n,n<G0→n<m'.size) (hb:∀n,n<m'.size→m.blk n=m'.blk n):Sim β m' w:=
 ⟨fun n p hn hp=>hs.lt n p (by omega) hp,
  fun n p hn hp hm=>by rw[←hb n hn]at hm⊢;exact hs.ro n p (by omega) hp hm,
  fun n p hn hp hm=>by rw[←hb n hn]at hm⊢;exact hs.rw n p (by omega) hp hm,
  fun n p n' p' hn hn' hne hp hp' hm hm'=>hs.ex n p n' p' (by omega) (by omega) hne hp hp' (by rw[hb n hn];exact hm) (by rw[hb n' hn'];exact hm'),
  fun n p ks hn hp hm=>by rw[←hb n hn]at hm⊢;exact hs.mp n p ks (by omega) hp hm,fun n hn=>⟨by have:=hg n hn;omega,(hs.gl n hn).2⟩,
  fun n p hn hp hm=>by rw[←hb n hn]at hm;exact hs.ct n p (by omega) hp hm,hs.gz⟩
section region
variable {P:Program} {nt:Nat} {ops:Array Oper} {fl:Nat}
theorem inv_seen (T:Trace P nt ops fl) {β0:Inj} {w0:World} {l:Array Bool} {a:Act} {w:World} {β:Inj} {κ:Nat→Nat} (I:Inv T β0 w0 l a w β κ) {j:Nat} {o:Oper} (ho:ops[j]? =some o) (hj:l.getD j false=false)
  (hready:∀e,e∈o.after→Region.binds .any e=true→l.getD e.on false=true) {n:Nat} {p:Place} (hn:n<(T.m j).size) (hp:β n=some p) (hz:T.z j n=false):(T.m (κ n)).blk n=(T.m j).blk n:=by
 have hjn:j<ops.size:=by
  rcases Nat.lt_or_ge j ops.size with h|h
  ·exact h
  ·simp[Array.getElem?_eq_none h]at ho
 have hready':∀o' e,ops[j]? =some o'→e∈o'.after→Region.binds .any e=true→l.getD e.on false=true:=by
  intro o' e h he hb
  rw[ho]at h;simp at h;subst h
  exact hready e he hb
 have hbefore:∀{i},Before ops i j→l.getD i false=true:=fun h=>before_ready I.closed h hready'
 have hafter:∀{i},Before ops j i→l.getD i false=false:=fun{i} h=>by
  cases hl:l.getD i false with
  |false=>rfl
  |true=>rw[before_listed I.closed h hl]at hj;cases hj
 have hnn:n<(T.m ops.size).size:=Nat.lt_of_lt_of_le hn (T.size_le (Nat.le_of_lt hjn) (Nat.le_refl _))
 have key:∀i,i<ops.size→T.chg i n→(i<κ n↔i<j):=by
  intro i hi hc
  rw[←I.cut i n hi hc]
  by_cases e:i=j
  ·subst e;rw[hj];simp
  ·have ord:Before ops i j∨Before ops j i:=by
    rcases T.sep i n hi hc.2.1 hc.2.2 j hjn (fun q=>e q.symm)with h|h|h
    ·exact .inr h
    ·exact .inl h
    ·rw[h.1]at hz;cases hz
   rcases ord with h|h
   ·have:=before_lt T h;have:=hbefore h;simp_all
   ·have h1:=before_lt T h;have h2:=hafter h;rw[h2];simp;omega
 have hborn:=I.born n p hnn hp
 rcases Nat.le_total (κ n) j with h|h
 ·refine(T.quiet h (Nat.le_of_lt hjn) hborn fun k h1 h2 hc=> ?_).symm
  have:=(key k (by omega) hc).2 h2;omega
 ·refine T.quiet h (I.kle n) hn fun k h1 h2 hc=> ?_
  have:=(key k (by have:=I.kle n;omega) hc).1 h2;omega
theorem inv_ready (T:Trace P nt ops fl) {β0:Inj} {w0:World} {l:Array Bool} {a:Act} {w:World} {β:Inj} {κ:Nat→Nat} (I:Inv T β0 w0 l a w β κ) {j:Nat} {o:Oper} (ho:ops[j]? =some o) (hj:l.getD j false=false)
  (hready:∀e,e∈o.after→Region.binds .any e=true→l.getD e.on false=true):
  Sim β ((T.m j).view (T.z j) (T.r j)) w∧Free β (T.m j) (T.m (j+1))∧∀t,t∈looksAt ops o→∀u,a.tmps[t]? =some u→VRel β (T.ts j t) u:=by
 have hjn:j<ops.size:=by
  rcases Nat.lt_or_ge j ops.size with h|h
  ·exact h
  ·simp[Array.getElem?_eq_none h]at ho
 have hready':∀o' e,ops[j]? =some o'→e∈o'.after→Region.binds .any e=true→l.getD e.on false=true:=by
  intro o' e h he hb
  rw[ho]at h;simp at h;subst h
  exact hready e he hb
 have hbefore:∀{i},Before ops i j→l.getD i false=true:=fun h=>before_ready I.closed h hready'
 have hafter:∀{i},Before ops j i→l.getD i false=false:=fun{i} h=>by
  cases hl:l.getD i false with
  |false=>rfl
  |true=>rw[before_listed I.closed h hl]at hj;cases hj
 have hsz:∀{n},n<(T.m j).size→n<(T.m ops.size).size:=fun h=>Nat.lt_of_lt_of_le h (T.size_le (Nat.le_of_lt hjn) (Nat.le_refl _))
 have seen:∀{n p},n<(T.m j).size→β n=some p→T.z j n=false→(T.at κ).blk n=(T.m j).blk n:=fun h1 h2 h3=>inv_seen T I ho hj hready h1 h2 h3
 refine⟨?_,fun n h1 h2=>I.none j hjn hj n h1 h2,fun t ht u hu=> ?_⟩
 ·refine⟨fun n p hn hp=>I.sim.lt n p (hsz hn) hp,fun n p hn hp hm i x hx=> ?_,fun n p hn hp hm=> ?_,fun n p n' p' hn hn' hne hp hp' hm hm'=> ?_,fun n p ks hn hp hm=> ?_,fun n hn=> ?_,fun n p hn hp hm=> ?_,I.sim.gz⟩
  ·obtain⟨h1,h2,h3⟩:=view_live (m:=T.m j) (z:=T.z j) (r:=T.r j) (n:=n) (by rw[hm];simp)
   have hs:=seen hn hp h1
   rw[h3,←hs]at hx
   exact I.sim.cell (hsz hn) hp (by rw[hs];exact h2) hx
  ·obtain⟨h1,_,h3⟩:=view_rw (wr_rw hm)
   rw[h3]at hm⊢
   have hs:=seen hn hp h1
   rw[←hs]at hm⊢
   exact I.sim.rw n p (hsz hn) hp hm
  ·obtain⟨h1,_,h3⟩:=view_rw hm
   rw[h3,←seen hn hp h1]at hm
   obtain⟨k1,k2,_⟩:=view_live hm'
   rw[←seen hn' hp' k1]at k2
   exact I.sim.ex n p n' p' (hsz hn) (hsz hn') hne hp hp' hm k2
  ·obtain⟨h1,_,h3⟩:=view_rw (by rw[hm];rfl)
   rw[h3]at hm⊢
   have hs:=seen hn hp h1
   rw[←hs]at hm⊢
   exact I.sim.mp n p ks (hsz hn) hp hm
  ·exact⟨Nat.lt_of_lt_of_le (I.g0 n hn) (T.size_le (Nat.zero_le j) (Nat.le_of_lt hjn)),(I.sim.gl n hn).2⟩
  ·obtain⟨h1,_,h3⟩:=view_rw (wr_rw hm)
   rw[h3]at hm
   have hs:=seen hn hp h1
   rw[←hs]at hm
   exact I.sim.ct n p (hsz hn) hp hm
 ·rw[T.ts_eq l (t:=t) j (Nat.le_of_lt hjn) (fun i y h1 hy hd=>hbefore (T.temps i j y o h1 hy ho (.inl ⟨t,hd, .inl ht⟩)))]
  have:=I.temps t u hu
  rwa [cur_above (j:=j) ops.size (Nat.le_of_lt hjn) (fun i y h1 h2 hy hdy=>by
   by_cases e:i=j
   ·subst e;exact hj
   ·exact hafter (T.temps j i o y (by omega) ho hy (.inr ⟨t,hdy,ht⟩)))]at this
theorem inv_step (T:Trace P nt ops fl) {β0:Inj} {w0:World} {l:Array Bool} {a:Act} {w:World} {β:Inj} {κ:Nat→Nat} (I:Inv T β0 w0 l a w β κ) {j:Nat} {o:Oper} (ho:ops[j]? =some o) (hj:l.getD j false=false)
  (hready:∀e,e∈o.after→Region.binds .any e=true→l.getD e.on false=true) {mv:Mem} (hst:AStep fl ((T.m j).view (T.z j) (T.r j)) mv) (hmv:T.m (j+1)=(T.m j).glue (T.z j) (T.r j) mv)
  {cv:Value} {β':Inj} {w':World} (hv:VRel β' (T.v j) cv) (hp:Post fl β ((T.m j).view (T.z j) (T.r j)) w mv β' w') (hfree:Free β (T.m j) (T.m (j+1))):
  ∃κ',Inv T β0 w0 (l.setIfInBounds j true) (a.put o.dst cv) w' β' κ':=by
 have hjn:j<ops.size:=by
  rcases Nat.lt_or_ge j ops.size with h|h
  ·exact h
  ·simp[Array.getElem?_eq_none h]at ho
 have hjl:j<l.size:=by rw[I.lsize];exact hjn
 have hset:∀i,(l.setIfInBounds j true).getD i false=if i=j then true else l.getD i false:=by
  intro i
  simp only[Array.getD_eq_getD_getElem?,Array.getElem?_setIfInBounds]
  by_cases e:i=j
  ·subst e;simp[hjl]
  ·rw[if_neg (fun h=>e h.symm),if_neg e]
 have hready':∀o' e,ops[j]? =some o'→e∈o'.after→Region.binds .any e=true→l.getD e.on false=true:=by
  intro o' e h he hb
  rw[ho]at h;simp at h;subst h
  exact hready e he hb
 have hbefore:∀{i},Before ops i j→l.getD i false=true:=fun h=>before_ready I.closed h hready'
 have hafter:∀{i},Before ops j i→l.getD i false=false:=fun{i} h=>by
  cases hl:l.getD i false with
  |false=>rfl
  |true=>rw[before_listed I.closed h hl]at hj;cases hj
 have hszv:(T.m (j+1)).size=mv.size:=by rw[hmv];rfl
 have hfree':Free β ((T.m j).view (T.z j) (T.r j)) mv:=fun n h1 h2=>hfree n h1 (by rw[hszv];exact h2)
 have hle:β.le β':=hp.le hfree'
 have s0j:=T.size_le (Nat.zero_le j) (Nat.le_of_lt hjn)
 have sj1:(T.m j).size≤(T.m (j+1)).size:=(T.step j o ho).step.size
 have s1n:=T.size_le (i:=j+1) (j:=ops.size) hjn (Nat.le_refl _)
 have hsz:∀{n},n<(T.m j).size→n<(T.m ops.size).size:=fun h=>Nat.lt_of_lt_of_le h (T.size_le (Nat.le_of_lt hjn) (Nat.le_refl _))
 have seen:∀{n p},n<(T.m j).size→β n=some p→T.z j n=false→(T.m (κ n)).blk n=(T.m j).blk n:=fun h1 h2 h3=>inv_seen T I ho hj hready h1 h2 h3
 have back:∀k,MayWrite fl β ((T.m j).view (T.z j) (T.r j)) k→w0.heap.size≤k∨MayWrite fl β0 (T.m 0) k:=by
  rintro k ⟨n,p,h1,h2,h3,h4,h5⟩
  obtain⟨_,_,hb⟩:=view_rw h4
  rw[hb]at h4
  by_cases hn:n<(T.m 0).size
  ·rw[I.ext n (by omega)]at h3
   exact .inr ⟨n,p,h1,hn,h3,T.mode_back (Nat.le_of_lt hjn) hn h4,h5⟩
  ·rcases I.nb n p (by omega) (hsz h2) h3 with e|e
   ·exact .inl (h5▸e)
   ·exact .inr (h5▸e)
 let tn:Nat→Prop:=fun n=>n<(T.m (j+1)).size∧¬(n<(T.m j).size∧(T.z j n=true∨T.r j n=true))
 have htn:∀n,tn n→(T.m (j+1)).blk n=mv.blk n:=by
  intro n h
  rw[hmv]
  show(if _ then _ else _)=_
  rw[if_neg h.2]
 classical
 let κ':Nat→Nat:=fun n=>if tn n then j+1 else κ n
 have κ1:∀{n},tn n→κ' n=j+1:=fun{n} h=>if_pos h
 have κ2:∀{n},¬tn n→κ' n=κ n:=fun{n} h=>if_neg h
 have hchg:∀n,tn n→n<(T.m j).size→T.chg j n:=by
  intro n h hn
  refine⟨hn, ?_, ?_⟩
  ·cases hz:T.z j n
   ·rfl
   ·exact absurd ⟨hn, .inl hz⟩ h.2
  ·cases hr:T.r j n
   ·rfl
   ·exact absurd ⟨hn, .inr hr⟩ h.2
 have vis:∀n,T.chg j n→((T.m j).view (T.z j) (T.r j)).blk n=(T.m j).blk n:=by
  intro n h;simp[Mem.view,h.2.1,h.2.2]
 have oldβ:∀n p,¬tn n→β' n=some p→β n=some p:=by
  intro n p h hb
  rw[hp.ext n ?_]at hb
  ·exact hb
  ·rintro⟨h1,h2⟩
   have h1':(T.m j).size≤n:=h1
   exact h ⟨by rw[hszv];exact h2,by omega⟩
 have keep:∀n p,n<(T.m ops.size).size→¬tn n→β n=some p→((T.at κ).blk n).mode≠ .dead→w'.heap[p.cb]? =w.heap[p.cb]? :=by
  intro n p hn h hb hm
  refine hp.fr p.cb (I.sim.lt n p hn hb) ?_
  rintro⟨n2,p2,_,hn2,hb2,hm2,hcb⟩
  have hn2':n2<(T.m j).size:=hn2
  obtain⟨g1,g2,g3⟩:=view_rw hm2
  have hne:n2≠n:=by
   rintro rfl
   exact h ⟨by omega,by simp[g1,g2]⟩
  rw[g3,←seen hn2' hb2 g1]at hm2
  exact I.sim.ex n2 p2 n p (hsz hn2') hn hne hb2 hb hm2 hm hcb
 have atk:∀{n},¬tn n→(T.at κ').blk n=(T.at κ).blk n:=fun{n} h=>by show(T.m (κ' n)).blk n=(T.m (κ n)).blk n;rw[κ2 h]
 have atn:∀{n},tn n→(T.at κ').blk n=mv.blk n:=fun{n} h=>by show(T.m (κ' n)).blk n=_;rw[κ1 h,htn n h]
 have tlt:∀{n},tn n→n<mv.size:=fun{n} h=>by rw[←hszv];exact h.1
 refine⟨κ',by simpa using I.lsize,fun j' o' e h hl he hb=> ?_, ?_,by cases o.dst<;>exact I.defers,fun t u hu=> ?_,fun n=> ?_,fun i n hi hc=> ?_,fun n p hn hb=> ?_, ?_,fun i hi hl n h1 h2=> ?_,fun n hn=> ?_,fun n p h1 h2 h3=> ?_,fun k h1 h2=> ?_,hp.os.trans I.os,hp.tape.trans I.tape,hp.output.trans I.output,Nat.le_trans I.size hp.size,I.g0⟩
 ·rw[hset]at hl⊢
  by_cases e':e.on=j
  ·rw[if_pos e']
  ·rw[if_neg e']
   by_cases ej:j'=j
   ·subst ej;exact hready' o' e h he hb
   ·rw[if_neg ej]at hl;exact I.closed j' o' e h hl he hb
 ·have:=I.tsize
  cases o.dst<;>simpa[Act.put]using this
 ·
  by_cases hd:o.dst=some t
  ·have hc:cur ops T.v (l.setIfInBounds j true) t (T.ts 0 t) ops.size=T.v j:=by
    rw[cur_above (j:=j+1) ops.size hjn (fun i y h1 h2 hy hdy=>by
     rw[hset,if_neg (by omega)]
     exact hafter (T.temps j i o y (by omega) ho hy (.inl ⟨t,hd, .inr hdy⟩)))]
    have:(l.setIfInBounds j true).getD j false=true:=by rw[hset,if_pos rfl]
    simp only[cur,this,ho,Option.bind_some,hd,and_self,if_true]
   rw[hc]
   rw[hd]at hu
   simp only[Act.put]at hu
   have hlt:t<a.tmps.size:=by
    rcases Nat.lt_or_ge t a.tmps.size with h|h
    ·exact h
    ·rw[Array.getElem?_eq_none (by simpa using h)]at hu;cases hu
   rw[Array.getElem?_setIfInBounds]at hu
   simp only[if_true,hlt]at hu
   simp at hu
   subst hu
   exact hv
  ·have hc:∀n,cur ops T.v (l.setIfInBounds j true) t (T.ts 0 t) n=cur ops T.v l t (T.ts 0 t) n:=by
    intro n
    induction n with
    |zero=>rfl
    |succ n ih=>
     simp only[cur,hset]
     by_cases e:n=j
     ·subst e
      simp only[ho,Option.bind_some,hd,and_false,if_false]
      exact ih
     ·rw[if_neg e,ih]
   rw[hc]
   have hu':a.tmps[t]? =some u:=by
    cases hdd:o.dst with
    |none=>rw[hdd]at hu;exact hu
    |some d=>
     rw[hdd]at hu
     simp only[Act.put]at hu
     rw[Array.getElem?_setIfInBounds_ne (by intro e;subst e;exact hd hdd)]at hu
     exact hu
   exact(I.temps t u hu').mono hle
 ·by_cases h:tn n
  ·rw[κ1 h];omega
  ·rw[κ2 h];exact I.kle n
 ·
  rw[hset]
  by_cases h:tn n
  ·rw[κ1 h]
   by_cases e:i=j
   ·subst e;simp
   ·rw[if_neg e]
    rcases Nat.lt_or_ge n (T.m j).size with hn|hn
    ·have hcj:=hchg n h hn
     have ord:Before ops i j∨Before ops j i:=by
      rcases T.sep i n hi hc.2.1 hc.2.2 j hjn (fun q=>e q.symm)with h|h|h
      ·exact .inr h
      ·exact .inl h
      ·have:=h.1;rw[hcj.2.1]at this;cases this
     rcases ord with g|g
     ·have:=before_lt T g;rw[hbefore g];simp;omega
     ·have:=before_lt T g;rw[hafter g];simp;omega
    ·
     have hij:j<i:=by
      rcases Nat.lt_or_ge j i with g|g
      ·exact g
      ·have:=T.size_le (i:=i) (j:=j) g (Nat.le_of_lt hjn)
       have:=hc.1;omega
     rcases T.sep i n hi hc.2.1 hc.2.2 j hjn (fun q=>e q.symm)with g|g|g
     ·rw[hafter g];simp;omega
     ·have:=before_lt T g;omega
     ·have:=tlt h
      rcases g.2 with g2|g2|g2<;>omega
  ·rw[κ2 h]
   by_cases e:i=j
   ·subst e
    refine absurd ⟨by have:=hc.1;omega, ?_⟩ h
    rintro⟨_,q|q⟩
    ·rw[hc.2.1]at q;cases q
    ·rw[hc.2.2]at q;cases q
   ·rw[if_neg e];exact I.cut i n hi hc
 ·by_cases h:tn n
  ·rw[κ1 h];exact h.1
  ·rw[κ2 h];exact I.born n p hn (oldβ n p h hb)
 ·
  refine⟨fun n p hn hb=> ?_,fun n p hn hb hm i x hx=> ?_,fun n p hn hb hm=> ?_,fun n1 p1 n2 p2 hn1 hn2 hne h1 h2 hm1 hm2=> ?_,fun n p ks hn hb hm=> ?_,fun n hn=>⟨(I.sim.gl n hn).1,(hp.sim.gl n hn).2⟩,fun n p hn hb hm=> ?_,hp.sim.gz⟩
  ·by_cases h:tn n
   ·exact hp.sim.lt n p (tlt h) hb
   ·exact Nat.lt_of_lt_of_le (I.sim.lt n p hn (oldβ n p h hb)) hp.size
  ·by_cases h:tn n
   ·rw[atn h]at hm hx
    exact hp.sim.ro n p (tlt h) hb hm i x hx
   ·rw[atk h]at hm hx
    have hb0:=oldβ n p h hb
    obtain⟨v,g1,g2⟩:=I.sim.ro n p hn hb0 hm i x hx
    exact⟨v,by rw[←g1];exact World.cell?_of_block (w:=w) (w':=w') (keep n p hn h hb0 (by rw[hm];simp)),g2.mono hle⟩
  ·by_cases h:tn n
   ·rw[atn h]at hm⊢
    exact hp.sim.rw n p (tlt h) hb hm
   ·rw[atk h]at hm⊢
    have hb0:=oldβ n p h hb
    obtain⟨c,e,g1,g2,g3,g4⟩:=I.sim.rw n p hn hb0 hm
    refine⟨c,e,by rw[keep n p hn h hb0 (by rw[hm];simp)];exact g1,g2,g3,fun i x hx=> ?_⟩
    obtain⟨v,k1,k2⟩:=g4 i x hx
    exact⟨v,k1,k2.mono hle⟩
  ·
   have fresh:∀n p n' p',(T.m j).size≤n→tn n→β' n=some p→n'<(T.m ops.size).size→¬tn n'→β n'=some p'→((T.at κ).blk n').mode≠ .dead→p.cb≠p'.cb:=by
    intro n p n' p' g1 g2 g3 g4 g5 g6 g7
    rcases hp.nb n p g1 (tlt g2) g3 with e|⟨n3,p3,_,k2,k3,k4,k5⟩
    ·have:=I.sim.lt n' p' g4 g6;omega
    ·intro he
     have k2':n3<(T.m j).size:=k2
     obtain⟨q1,q2,q3⟩:=view_rw k4
     have hne:n3≠n':=by
      rintro rfl
      exact g5 ⟨by omega,by simp[q1,q2]⟩
     rw[q3,←seen k2' k3 q1]at k4
     exact I.sim.ex n3 p3 n' p' (hsz k2') g4 hne k3 g6 k4 g7 (k5.trans he)
   have oldat:∀n p,tn n→n<(T.m j).size→β' n=some p→β n=some p∧(T.at κ).blk n=((T.m j).view (T.z j) (T.r j)).blk n:=by
    intro n p g1 g2 g3
    have hb0:β n=some p:=by rw[hp.ext n (by show ¬((T.m j).size≤n∧_);omega)]at g3;exact g3
    have hcj:=hchg n g1 g2
    exact⟨hb0,by rw[vis n hcj];exact seen g2 hb0 hcj.2.1⟩
   by_cases t1:tn n1<;>by_cases t2:tn n2
   ·rw[atn t1]at hm1
    rw[atn t2]at hm2
    exact hp.sim.ex n1 p1 n2 p2 (tlt t1) (tlt t2) hne h1 h2 hm1 hm2
   ·rw[atn t1]at hm1
    rw[atk t2]at hm2
    have hb2:=oldβ n2 p2 t2 h2
    rcases Nat.lt_or_ge n1 (T.m j).size with hlt|hge
    ·obtain⟨hb1,e1⟩:=oldat n1 p1 t1 hlt h1
     have:=(hst.mode n1 hlt).1 hm1
     rw[←e1]at this
     exact I.sim.ex n1 p1 n2 p2 (hsz hlt) hn2 hne hb1 hb2 this hm2
    ·exact fresh n1 p1 n2 p2 hge t1 h1 hn2 t2 hb2 hm2
   ·rw[atk t1]at hm1
    rw[atn t2]at hm2
    have hb1:=oldβ n1 p1 t1 h1
    rcases Nat.lt_or_ge n2 (T.m j).size with hlt|hge
    ·obtain⟨hb2,e2⟩:=oldat n2 p2 t2 hlt h2
     refine I.sim.ex n1 p1 n2 p2 hn1 (hsz hlt) hne hb1 hb2 hm1 fun hd=>hm2 ((hst.mode n2 hlt).2 ?_)
     rw[←e2];exact hd
    ·exact fun e=>fresh n2 p2 n1 p1 hge t2 h2 hn1 t1 hb1 (wr_nd hm1) e.symm
   ·rw[atk t1]at hm1
    rw[atk t2]at hm2
    exact I.sim.ex n1 p1 n2 p2 hn1 hn2 hne (oldβ n1 p1 t1 h1) (oldβ n2 p2 t2 h2) hm1 hm2
  ·by_cases h:tn n
   ·rw[atn h]at hm⊢
    exact hp.sim.mp n p ks (tlt h) hb hm
   ·rw[atk h]at hm⊢
    have hb0:=oldβ n p h hb
    obtain⟨g0,es,cl,g1,g2⟩:=I.sim.mp n p ks hn hb0 hm
    exact⟨g0,es,cl,by rw[keep n p hn h hb0 (by rw[hm];simp)];exact g1,g2⟩
  ·by_cases h:tn n
   ·rw[atn h]at hm
    exact hp.sim.ct n p (tlt h) hb hm
   ·rw[atk h]at hm
    have hb0:=oldβ n p h hb
    obtain⟨c,g1⟩:=I.sim.ct n p hn hb0 hm
    exact⟨c,by rw[keep n p hn h hb0 (by rw[hm];simp)];exact g1⟩
 ·rw[hset]at hl
  by_cases e:i=j
  ·rw[if_pos e]at hl;cases hl
  ·rw[if_neg e]at hl
   rw[hp.ext n ?_]
   ·exact I.none i hi hl n h1 h2
   ·rw[←hszv]
    show ¬((T.m j).size≤n∧_)
    rcases Nat.lt_or_ge i j with h|h
    ·have:=T.size_le (i:=i+1) (j:=j) h (Nat.le_of_lt hjn);omega
    ·have:=T.size_le (i:=j+1) (j:=i) (by omega) (Nat.le_of_lt hi);omega
 ·rw[hp.ext n (by rw[←hszv];show ¬((T.m j).size≤n∧_);omega)];exact I.ext n hn
 ·by_cases e:(T.m j).size≤n∧n<(T.m (j+1)).size
  ·rcases hp.nb n p e.1 (by rw[←hszv];exact e.2) h3 with h|h
   ·exact .inl (Nat.le_trans I.size h)
   ·exact back _ h
  ·rw[hp.ext n (by rw[←hszv];exact e)]at h3
   exact I.nb n p h1 h2 h3
 ·rw[hp.fr k (Nat.lt_of_lt_of_le h1 I.size) (fun hw=> ?_)]
  ·exact I.fr k h1 h2
  ·rcases back k hw with h|h
   ·omega
   ·exact h2 h
theorem any_of_inv (T:Trace P nt ops fl) {β0:Inj} {w0:World} {Q:Exit→Act→World→Prop}
  (hQ:∀l a w β κ,Inv T β0 w0 l a w β κ→(∀i,i<ops.size→l.getD i false=true)→Q .normal a w):
  ∀(fuel:Nat) (l:Array Bool) (a:Act) (w:World) (β:Inj) (κ:Nat→Nat),Inv T β0 w0 l a w β κ→missing ops l≤fuel→wpAny P .any ops Q fuel l a w:=by
 have all_of_ready:∀(l:Array Bool),l.size=ops.size→Region.ready .any ops l=[]→∀i,i<ops.size→l.getD i false=true:=by
  intro l hl hr i
  induction i using Nat.strongRecOn with
  |_ i ih=>
   intro hi
   cases hli:l.getD i false with
   |true=>rfl
   |false=>
    exfalso
    have ho:ops[i]? =some ops[i]:=Array.getElem?_eq_getElem hi
    have:i∈Region.ready .any ops l:=by
     unfold Region.ready
     rw[List.mem_filter]
     refine⟨List.mem_range.2 hi, ?_⟩
     have h1:l.getD i true=false:=by
      rw[Array.getD_eq_getD_getElem?]at hli⊢
      have:l[i]? =some (l[i]'(by omega)):=Array.getElem?_eq_getElem _
      rw[this]at hli⊢
      exact hli
     rw[h1,ho]
     simp only[Bool.not_false,Option.map_some,Option.getD_some,Bool.true_and]
     rw[Array.all_eq_true']
     intro e he
     cases hb:Region.binds .any e with
     |false=>simp
     |true=>
      have hlt:=T.back i _ e ho he hb
      simp only[Bool.not_true,Bool.false_or]
      exact ih e.on hlt (by omega)
    rw[hr]at this
    cases this
 intro fuel
 induction fuel with
 |zero=>
  intro l a w β κ I hm
  have hall:∀i,i<ops.size→l.getD i false=true:=by
   intro i hi
   have h0:(List.range ops.size).countP (fun i=> !l.getD i false)=0:=by unfold missing at hm;omega
   rw[List.countP_eq_zero]at h0
   have:=h0 i (List.mem_range.2 hi)
   simpa using this
  refine⟨?_,hQ l a w β κ I hall⟩
  unfold Region.ready
  rw[List.filter_eq_nil_iff]
  intro i hi
  have hi':=List.mem_range.1 hi
  have:l.getD i true=true:=by
   have:=hall i hi'
   rw[Array.getD_eq_getD_getElem?]at this⊢
   have h2:l[i]? =some (l[i]'(by rw[I.lsize];exact hi')):=Array.getElem?_eq_getElem _
   rw[h2]at this⊢
   exact this
  simp[this]
 |succ fuel ih=>
  intro l a w β κ I hm
  refine⟨fun hr=>hQ l a w β κ I (all_of_ready l I.lsize hr),fun j hj=> ?_⟩
  unfold Region.ready at hj
  rw[List.mem_filter]at hj
  obtain⟨hj1,hj2⟩:=hj
  have hjn:=List.mem_range.1 hj1
  have ho:ops[j]? =some ops[j]:=Array.getElem?_eq_getElem hjn
  rw[ho]at hj2
  simp only[Option.map_some,Option.getD_some,Bool.and_eq_true,Bool.not_eq_true']at hj2
  obtain⟨hj3,hj4⟩:=hj2
  rw[Array.all_eq_true']at hj4
  have hjl:l.getD j false=false:=by
   rw[Array.getD_eq_getD_getElem?]at hj3⊢
   have h2:l[j]? =some (l[j]'(by rw[I.lsize];exact hjn)):=Array.getElem?_eq_getElem _
   rw[h2]at hj3⊢
   exact hj3
  have hready:∀e,e∈ops[j].after→Region.binds .any e=true→l.getD e.on false=true:=by
   intro e he hb
   have:=hj4 e he
   rw[hb]at this
   simpa using this
  obtain⟨hsim,hfree,hlook⟩:=inv_ready T I ho hjl hready
  have hfewer:missing ops (l.setIfInBounds j true)≤fuel:=by
   have hset:∀i,(l.setIfInBounds j true).getD i false=if i=j then true else l.getD i false:=by
    intro i
    simp only[Array.getD_eq_getD_getElem?,Array.getElem?_setIfInBounds]
    by_cases e:i=j
    ·subst e;simp[I.lsize,hjn]
    ·rw[if_neg (fun h=>e h.symm),if_neg e]
   have:=countP_lt (p:=fun i=> !l.getD i false) (q:=fun i=> !(l.setIfInBounds j true).getD i false) (fun x hx=>by
    simp only[hset]at hx
    by_cases e:x=j
    ·rw[if_pos e]at hx;simp at hx
    ·rw[if_neg e]at hx;exact hx) (j:=j) (by simp only[hjl];rfl) (by simp only[hset];simp) (List.range ops.size) hj1
   unfold missing at hm⊢
   omega
  have hstep:=T.step j _ ho
  have next:∀(mv:Mem),AStep fl ((T.m j).view (T.z j) (T.r j)) mv→T.m (j+1)=(T.m j).glue (T.z j) (T.r j) mv→∀(cv:Value) (β':Inj) (w':World),VRel β' (T.v j) cv→Post fl β ((T.m j).view (T.z j) (T.r j)) w mv β' w'→wpAny P .any ops Q fuel (l.setIfInBounds j true) (a.put ops[j].dst cv) w':=by
   intro mv h1 h2 cv β' w' hv hp
   obtain⟨κ',I'⟩:=inv_step T I ho hjl hready h1 h2 hv hp hfree
   exact ih _ _ _ _ _ I' hfewer
  unfold wpOp
  simp only[ho]
  rcases hstep.2 with⟨hw,hvv,hmm⟩|⟨hw,mv,hd,hmv⟩
  ·have hwant:Region.wanted ops[j] (yielded ops a.tmps)=false:=by
    refine wanted_of (β:=β) (ts:=T.ts j) I.tsize (fun g want d hg hd v hv=>hlook d ?_ v hv) hw
    unfold looksAt
    rw[hg]
    have hd':(ops[g]?).bind (·.dst)=some d:=hd
    simp[hd']
   rw[if_neg (by rw[hwant];simp)]
   let mv:Mem:=⟨(T.m j).size,fun n=>if n<(T.m j).size then((T.m j).view (T.z j) (T.r j)).blk n else(T.m j).blk n⟩
   have hlow:∀n,n<(T.m j).size→mv.blk n=((T.m j).view (T.z j) (T.r j)).blk n:=fun n h=>if_pos h
   have hg:T.m (j+1)=(T.m j).glue (T.z j) (T.r j) mv:=by
    rw[hmm]
    refine mem_ext rfl (funext fun n=> ?_)
    by_cases h:n<(T.m j).size∧(T.z j n=true∨T.r j n=true)
    ·exact(glue_old h.1 h.2).symm
    ·show _=if _ then _ else _
     rw[if_neg h]
     by_cases h1:n<(T.m j).size
     ·rw[hlow n h1]
      have:=vis_of h h1
      simp[Mem.view,this.1,this.2]
     ·exact(if_neg h1).symm
   have hst:AStep fl ((T.m j).view (T.z j) (T.r j)) mv:=⟨Nat.le_refl _,fun n h _=>hlow n h,fun n h=>by rw[hlow n h];exact⟨id,id⟩⟩
   refine next mv hst hg undef β w ?_ ?_
   ·rw[hvv];exact .tup [] #[] rfl (fun i a v h=>by simp at h)
   ·exact⟨sim_of_blk hsim (Nat.le_refl _) (fun n hn=>(hsim.gl n hn).1) (fun n hn=>(hlow n hn).symm),fun _ _=>rfl,fun n p h1 h2 _=>by have h1':(T.m j).size≤n:=h1;have h2':n<(T.m j).size:=h2;omega,fun _ _ _=>rfl,rfl,rfl,rfl,Nat.le_refl _⟩
  ·have hwant:Region.wanted ops[j] (yielded ops a.tmps)=true:=by
    refine wanted_of (β:=β) (ts:=T.ts j) I.tsize (fun g want d hg hd v hv=>hlook d ?_ v hv) hw
    unfold looksAt
    rw[hg]
    have hd':(ops[g]?).bind (·.dst)=some d:=hd
    simp[hd']
   rw[if_pos hwant]
   refine .inl (hd.2 β w a (fun x hx=>aev_rel hsim.glb I.tsize x fun t v hxt hv=>hlook t ?_ v hv) hsim (fun n h1 h2=>hfree n h1 (by rw[hmv];exact h2)) _ _ (next mv hd.1 hmv))
   subst hxt
   unfold looksAt
   rw[List.mem_append]
   exact .inl (List.mem_filterMap.2 ⟨.tmp t,by simpa using hx,rfl⟩)
theorem region_draw (T:Trace P nt ops fl) (hm:P.follows .mixedOrders=true) {id:Nat} {β:Inj} {w:World} {a:Act} (ht:FRel β nt (T.ts 0) a.tmps) (hd:a.defers=[]) (hs:Sim β (T.m 0) w) (hf:Free β (T.m 0) (T.m ops.size)) {Q:Exit→Act→World→Prop}
  (hQ:∀a' β' w',FRel β' nt (T.ts ops.size) a'.tmps→a'.defers=[]→Post fl β (T.m 0) w (T.m ops.size) β' w'→Q .normal a' w'):(Code.region id ops true).wp P Q a w:=by
 refine wp_region_any hm ?_
 have hl0:∀i,(Array.replicate ops.size false).getD i false=false:=by
  intro i
  rw[Array.getD_eq_getD_getElem?]
  by_cases h:i<ops.size
  ·simp[h]
  ·simp[h]
 have hcur:∀t x n,cur ops T.v (Array.replicate ops.size false) t x n=x:=by
  intro t x n
  induction n with
  |zero=>rfl
  |succ n ih=>rw[cur,if_neg (by rw[hl0];simp)];exact ih
 have hb:∀n p,n<(T.m ops.size).size→β n=some p→n<(T.m 0).size:=by
  intro n p hn hp
  rcases Nat.lt_or_ge n (T.m 0).size with h|h
  ·exact h
  ·rw[hf n h hn]at hp;cases hp
 have I0:Inv T β w (Array.replicate ops.size false) a w.drew β (fun _=>0):=by
  refine⟨by simp,fun j o e _ hl=> ?_,ht.1,hd,fun t u hu=> ?_,fun _=>Nat.zero_le _,fun i n _ _=> ?_,fun n p hn hp=>hb n p hn hp, ?_,fun i hi _ n h1 h2=> ?_,fun n _=>rfl,fun n p h1 h2 h3=> ?_,fun k _ _=>rfl,rfl,rfl,rfl,Nat.le_refl _,fun n hn=>(hs.gl n hn).1⟩
  ·rw[hl0]at hl;cases hl
  ·rw[hcur];exact ht.2 t u hu
  ·rw[hl0];simp
  ·exact⟨fun n p hn hp=>hs.lt n p (hb n p hn hp) hp,fun n p hn hp hmm i x hx=>hs.ro n p (hb n p hn hp) hp hmm i x hx,fun n p hn hp hmm=>hs.rw n p (hb n p hn hp) hp hmm,
    fun n p n' p' hn hn' hne hp1 hp2 hmm hm'=>hs.ex n p n' p' (hb n p hn hp1) (hb n' p' hn' hp2) hne hp1 hp2 hmm hm',fun n p ks hn hp hmm=>hs.mp n p ks (hb n p hn hp) hp hmm,
    fun n hn=>⟨Nat.lt_of_lt_of_le (hs.gl n hn).1 (T.size_le (Nat.zero_le _) (Nat.le_refl _)),(hs.gl n hn).2⟩,fun n p hn hp hmm=>hs.ct n p (hb n p hn hp) hp hmm,hs.gz⟩
  ·exact hf n (Nat.le_trans (T.size_le (Nat.zero_le _) (Nat.le_of_lt hi)) h1) (Nat.lt_of_lt_of_le h2 (T.size_le hi (Nat.le_refl _)))
  ·rw[hf n h1 h2]at h3;cases h3
 refine any_of_inv T ?_ ops.size _ a _ β _ I0 (by unfold missing;exact Nat.le_trans List.countP_le_length (by simp))
 intro l a' w' β' κ I hall
 have hend:∀n p,n<(T.m ops.size).size→β' n=some p→(T.at κ).blk n=(T.m ops.size).blk n:=by
  intro n p hn hp
  refine(T.quiet (I.kle n) (Nat.le_refl _) (I.born n p hn hp) fun k h1 h2 hc=> ?_).symm
  have:=(I.cut k n h2 hc).1 (hall k h2);omega
 have hsim:Sim β' (T.m ops.size) w':=by
  refine⟨fun n p hn hp=>I.sim.lt n p hn hp,fun n p hn hp hmm i x hx=> ?_,fun n p hn hp hmm=> ?_,fun n p n' p' hn hn' hne hp1 hp2 hmm hm'=> ?_,fun n p ks hn hp hmm=> ?_,I.sim.gl,fun n p hn hp hmm=> ?_,I.sim.gz⟩
  ·rw[←hend n p hn hp]at hmm hx
   exact I.sim.ro n p hn hp hmm i x hx
  ·rw[←hend n p hn hp]at hmm⊢
   exact I.sim.rw n p hn hp hmm
  ·rw[←hend n p hn hp1]at hmm
   rw[←hend n' p' hn' hp2]at hm'
   exact I.sim.ex n p n' p' hn hn' hne hp1 hp2 hmm hm'
  ·rw[←hend n p hn hp]at hmm⊢
   exact I.sim.mp n p ks hn hp hmm
  ·rw[←hend n p hn hp]at hmm
   exact I.sim.ct n p hn hp hmm
 refine hQ a' β' w' ⟨I.tsize,fun t u hu=> ?_⟩ I.defers ⟨hsim,I.ext,I.nb,I.fr,I.os,I.tape,I.output,I.size⟩
 rw[T.ts_eq l (t:=t) ops.size (Nat.le_refl _) (fun i _ h1 _ _=>hall i h1)]
 exact I.temps t u hu
end region
end Go.Ab
