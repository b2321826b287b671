/- What is proved here: typed blocks numbered anew, and values brought into shape, stand for the same abstract values. -/
import Derived.Test.YtigomgblkieahaaGreatDoorT7
namespace Go.Ab
set_option linter.unusedVariables false
set_option linter.unusedSimpArgs false
structure Rn (ρ:Nat→Option Nat) (c c':Cfg):Prop where
 len:∀k k',ρ k=some k'→k<c.tm.length→k'<c'.tm.length
 e:∀k k',ρ k=some k'→k<c.tm.length→c'.E k'=c.E k
 sh:∀(k k':Nat) b,ρ k=some k'→c.tm[k]? =some b→∃b',c'.tm[k']? =some b'∧(b'.k= .dead∨(b.k≠ .dead∧b'.k.shape=b.k.shape))
 fz:∀n,c.F n→c'.F n∧c'.m.blk n=c.m.blk n
 nz:∀n,c.N n→c'.N n∧c'.m.blk n=c.m.blk n
theorem renL_map (ρ:Nat→Option Nat):∀l:List TV,renL ρ l=l.map (renT ρ)
 |[]=>rfl
 |v::vs=>by rw[renL,renL_map ρ vs];rfl
theorem renL_get {ρ:Nat→Option Nat} {l:List TV} {i:Nat} {t:TV} (h:(renL ρ l)[i]? =some t):∃u,l[i]? =some u∧t=renT ρ u:=by
 rw[renL_map,List.getElem?_map]at h
 cases hl:l[i]? with
 |none=>rw[hl]at h;cases h
 |some u=>rw[hl]at h;simp at h;exact⟨u,rfl,h.symm⟩
theorem enc_ren {ρ:Nat→Option Nat} {e:EK} {x:e.T} {j:Nat} {t:TV} (h:(enc e x)[j]? =some t):renT ρ t=t:=by
 have:∀t∈enc e x,renT ρ t=t:=by
  intro t ht
  cases e<;>simp[enc]at ht
  case node=>rcases ht with h|h|h|h|h|h|h|h|h|h|h<;>subst h<;>rfl
  case op=>rcases ht with h|h|h<;>subst h<;>rfl
  all_goals (subst ht;rfl)
 exact this t (List.mem_of_getElem? h)
theorem NzA.rn {ρ:Nat→Option Nat} {c c':Cfg} (h:Rn ρ c c') {es:Nat} {a:AVal} (r:NzA c es a):NzA c' es a:=by
 rcases r with r|⟨n,o,h1,h2,h3⟩
 ·exact .inl r
 ·obtain⟨g1,g2⟩:=h.nz n h2
  exact .inr ⟨n,o,h1,g1,by rw[g2];exact h3⟩
theorem RV.rn {ρ:Nat→Option Nat} {c c':Cfg} (h:Rn ρ c c') {t:TV} {a:AVal} (r:RV c t a):RV c' (renT ρ t) a:=by
 induction r with
 |any a=>exact .any a
 |tt=>exact .tt
 |ff=>exact .ff
 |bool b=>exact .bool b
 |int k n=>exact .int k n
 |str l=>exact .str l
 |nilp=>exact .nilp
 |nilfn=>exact .nilfn
 |nili=>exact .nili
 |nilm=>exact .nilm
 |nil=>exact .nil
 |nz es a ha=>exact .nz es a (ha.rn h)
 |ptr k o n p hk hE=>
  simp only[renT]
  cases hρ:ρ k with
  |none=>exact .any _
  |some k'=>exact .ptr k' o n p (h.len k k' hρ hk) ((h.e k k' hρ hk).trans hE)
 |mp k n p hk hE=>
  simp only[renT]
  cases hρ:ρ k with
  |none=>exact .any _
  |some k'=>exact .mp k' n p (h.len k k' hρ hk) ((h.e k k' hρ hk).trans hE)
 |er b a hb=>
  exact .er b a hb
 |sbD k b hb hd a ho=>
  simp only[renT]
  cases hρ:ρ k with
  |none=>exact .any _
  |some k'=>
   obtain⟨b',h1,h2⟩:=h.sh k k' b hρ hb
   rcases h2 with h2|h2
   ·exact .sbD k' b' h1 h2 a ho
   ·exact absurd hd h2.1
 |sbV k b hb hs hE=>
  simp only[renT]
  cases hρ:ρ k with
  |none=>exact .any _
  |some k'=>
   obtain⟨b',h1,h2⟩:=h.sh k k' b hρ hb
   rcases h2 with h2|h2
   ·exact .sbD k' b' h1 h2 _ rfl
   ·exact .sbV k' b' h1 (h2.2.trans hs) ((h.e k k' hρ (getElem?_lt hb)).trans hE)
 |sb k b len n hb hs hE=>
  simp only[renT]
  cases hρ:ρ k with
  |none=>exact .any _
  |some k'=>
   obtain⟨b',h1,h2⟩:=h.sh k k' b hρ hb
   rcases h2 with h2|h2
   ·exact .sbD k' b' h1 h2 _ rfl
   ·exact .sb k' b' len n h1 (h2.2.trans hs) ((h.e k k' hρ (getElem?_lt hb)).trans hE)
 |slf k o n t hk hE=>
  simp only[renT]
  cases hρ:ρ k with
  |none=>exact .any _
  |some k'=>exact .slf k' o n t (h.len k k' hρ hk) ((h.e k k' hρ hk).trans hE)
 |slD k b hb hd a ho=>
  simp only[renT]
  cases hρ:ρ k with
  |none=>exact .any _
  |some k'=>
   obtain⟨b',h1,h2⟩:=h.sh k k' b hρ hb
   rcases h2 with h2|h2
   ·exact .slD k' b' h1 h2 a ho
   ·exact absurd hd h2.1
 |sl k b e len n p cap hb hs hE=>
  simp only[renT]
  cases hρ:ρ k with
  |none=>exact .any _
  |some k'=>
   obtain⟨b',h1,h2⟩:=h.sh k k' b hρ hb
   rcases h2 with h2|h2
   ·exact .slD k' b' h1 h2 _ rfl
   ·exact .sl k' b' e len n p cap h1 (h2.2.trans hs) ((h.e k k' hρ (getElem?_lt hb)).trans hE)
 |slV k b e a hb hs hE ha=>
  simp only[renT]
  cases hρ:ρ k with
  |none=>exact .any _
  |some k'=>
   obtain⟨b',h1,h2⟩:=h.sh k k' b hρ hb
   rcases h2 with h2|h2
   ·exact .slD k' b' h1 h2 _ ha.one
   ·exact .slV k' b' e a h1 (h2.2.trans hs) ((h.e k k' hρ (getElem?_lt hb)).trans hE) (ha.rn h)
 |plE e a ha=>exact .plE e a ha
 |pl e l n p cap cs hF hp hc hr ih=>
  obtain⟨g1,g2⟩:=h.fz n hF
  exact .pl e l n p cap cs g1 (by rw[g2];exact hp) (fun i hi=>by rw[g2];exact hc i hi) (fun i x j t h1 h2=>by
   have:=ih i x j t h1 h2
   rwa [enc_ren h2]at this)
 |eptrD k i j b hb hd a ho=>
  simp only[renT]
  cases hρ:ρ k with
  |none=>exact .any _
  |some k'=>
   obtain⟨b',h1,h2⟩:=h.sh k k' b hρ hb
   rcases h2 with h2|h2
   ·exact .eptrD k' i j b' h1 h2 a ho
   ·exact absurd hd h2.1
 |eptr k i j b e len n p hb hs hE h0 h1=>
  simp only[renT]
  cases hρ:ρ k with
  |none=>exact .any _
  |some k'=>
   obtain⟨b',g1,g2⟩:=h.sh k k' b hρ hb
   rcases g2 with g2|g2
   ·exact .eptrD k' i j b' g1 g2 _ rfl
   ·exact .eptr k' i j b' e len n p g1 (g2.2.trans hs) ((h.e k k' hρ (getElem?_lt hb)).trans hE) h0 h1
 |svD k l q b hb hd a ho=>
  simp only[renT]
  cases hρ:ρ k with
  |none=>exact .any _
  |some k'=>
   obtain⟨b',h1,h2⟩:=h.sh k k' b hρ hb
   rcases h2 with h2|h2
   ·exact .svD k' l q b' h1 h2 a ho
   ·exact absurd hd h2.1
 |sv k l q b e len n p cap hb hs hE h0 h1 h2=>
  simp only[renT]
  cases hρ:ρ k with
  |none=>exact .any _
  |some k'=>
   obtain⟨b',g1,g2⟩:=h.sh k k' b hρ hb
   rcases g2 with g2|g2
   ·exact .svD k' l q b' g1 g2 _ rfl
   ·exact .sv k' l q b' e len n p cap g1 (g2.2.trans hs) ((h.e k k' hρ (getElem?_lt hb)).trans hE) h0 h1 h2
 |svE k b e a hb hs ha=>
  simp only[renT]
  cases hρ:ρ k with
  |none=>exact .any _
  |some k'=>
   obtain⟨b',h1,h2⟩:=h.sh k k' b hρ hb
   rcases h2 with h2|h2
   ·exact .svD k' 0 0 b' h1 h2 _ ha.one
   ·exact .svE k' b' e a h1 (h2.2.trans hs) (ha.rn h)
 |fptr ts n p cs hF hp hc hr ih=>
  obtain⟨g1,g2⟩:=h.fz n hF
  simp only[renT]
  have hlen:(renL ρ ts).length=ts.length:=by rw[renL_map];simp
  exact .fptr _ n p cs g1 (by rw[hlen,g2];exact hp) (fun i hi=>by rw[hlen]at hi;rw[g2];exact hc i hi) (fun i t ht=>by
   obtain⟨u,h1,rfl⟩:=renL_get ht
   exact ih i u h1)
 |agg ts as hl hr ih=>
  simp only[renT]
  exact .agg _ as (by rw[renL_map];simpa using hl) (fun i t a h1 h2=>by
   obtain⟨u,g1,rfl⟩:=renL_get h1
   exact ih i u a g1 h2)
 |tup ts as hl hr ih=>
  simp only[renT]
  exact .tup _ as (by rw[renL_map];simpa using hl) (fun i t a h1 h2=>by
   obtain⟨u,g1,rfl⟩:=renL_get h1
   exact ih i u a g1 h2)
 |fn f xs ys as bs h1 h2 r1 r2 i1 i2=>
  simp only[renT]
  exact .fn f _ _ as bs (by rw[renL_map];simpa using h1) (by rw[renL_map];simpa using h2) (fun i t a h1 h2=>by
   obtain⟨u,g1,rfl⟩:=renL_get h1
   exact i1 i u a g1 h2) (fun i t a h1 h2=>by
   obtain⟨u,g1,rfl⟩:=renL_get h1
   exact i2 i u a g1 h2)
theorem LV.rn {ρ:Nat→Option Nat} {c c':Cfg} (h:Rn ρ c c') {ts:List TV} {as:List AVal} (r:LV c ts as):LV c' (renL ρ ts) as:=
 ⟨by rw[renL_map];simpa using r.1,fun i t a h1 h2=>by
  obtain⟨u,g1,rfl⟩:=renL_get h1
  exact(r.2 i u a g1 h2).rn h⟩
theorem idxB_get:∀{σ:List Nat} {k j:Nat},idxB σ k=some j→σ[j]? =some k
 |[],k,j,h=>by simp[idxB]at h
 |a::l,k,j,h=>by
  simp only[idxB]at h
  cases hb:Nat.beq a k with
  |true=>rw[hb]at h;simp at h;subst h;simp[Nat.eq_of_beq_eq_true hb]
  |false=>
   rw[hb]at h
   simp only[cond_false]at h
   obtain⟨i,h1,h2⟩:=Option.map_eq_some_iff.1 h
   subst h2
   simpa using idxB_get h1
theorem memB_mem:∀{l:List Nat} {k:Nat},memB l k=false→k∉l
 |[],k,_=>by simp
 |a::l,k,h=>by
  simp only[memB]at h
  cases hb:Nat.beq a k with
  |true=>rw[hb]at h;cases h
  |false=>
   rw[hb]at h
   have hne:a≠k:=by rintro rfl;simp at hb
   simp only[List.mem_cons,not_or]
   exact⟨fun e=>hne e.symm,memB_mem h⟩
theorem nodupB_nodup:∀{l:List Nat},nodupB l=true→l.Nodup
 |[],_=>by simp
 |a::l,h=>by
  simp only[nodupB]at h
  cases hb:memB l a with
  |true=>rw[hb]at h;cases h
  |false=>rw[hb]at h;exact List.nodup_cons.2 ⟨memB_mem hb,nodupB_nodup h⟩
theorem prefB_get:∀{l:List Nat} {n i:Nat},prefB n l=true→i<l.length→l[i]? =some (n+i)
 |[],n,i,_,hi=>by simp at hi
 |a::l,n,i,h,hi=>by
  simp only[prefB]at h
  cases hb:Nat.beq n a with
  |false=>rw[hb]at h;cases h
  |true=>
   rw[hb]at h
   cases i with
   |zero=>simp[Nat.eq_of_beq_eq_true hb]
   |succ i=>
    have:=prefB_get (i:=i) h (by simpa using hi)
    simp only[List.getElem?_cons_succ,this]
    congr 1;omega
def Cfg.shrink (c:Cfg) (σ:List Nat):Cfg:=⟨fun j=>(σ[j]?).bind c.E,σ.map fun k=>renB (idxB σ) (getB c.tm k),c.m,c.F,c.N⟩
theorem renB_shape (ρ:Nat→Option Nat) (b:TB):(renB ρ b).w=b.w∧(renB ρ b).k.shape=b.k.shape∧((renB ρ b).k= .dead↔b.k= .dead):=by
 obtain⟨w,k⟩:=b
 cases k<;>simp[renB,TK.shape]
theorem getB_some {tm:TMem} {k:Nat} {b:TB} (h:getB tm k=b) (hd:b.k≠ .dead):tm[k]? =some b:=by
 unfold getB at h
 cases hg:tm[k]? with
 |none=>rw[hg]at h;subst h;exact absurd rfl hd
 |some x=>rw[hg]at h;simp at h;rw[h]
theorem getB_of {tm:TMem} {k:Nat} {b:TB} (h:tm[k]? =some b):getB tm k=b:=by simp[getB,h]
section shrink
variable {c:Cfg} {A:Nat→Prop} {σ:List Nat}
theorem shrink_get {j:Nat} {b:TB} (h:(c.shrink σ).tm[j]? =some b):∃k,σ[j]? =some k∧b=renB (idxB σ) (getB c.tm k):=by
 simp only[Cfg.shrink,List.getElem?_map]at h
 cases hs:σ[j]? with
 |none=>rw[hs]at h;cases h
 |some k=>rw[hs]at h;simp at h;exact⟨k,rfl,h.symm⟩
theorem shrink_rn:Rn (idxB σ) c (c.shrink σ):=by
 refine⟨fun k k' h _=> ?_,fun k k' h _=> ?_,fun k k' b h hb=> ?_,fun n hn=>⟨hn,rfl⟩,fun n hn=>⟨hn,rfl⟩⟩
 ·simp only[Cfg.shrink,List.length_map];exact getElem?_lt (idxB_get h)
 ·simp[Cfg.shrink,idxB_get h]
 ·refine⟨renB (idxB σ) b,by simp[Cfg.shrink,idxB_get h,getB_of hb], ?_⟩
  obtain⟨_,h2,h3⟩:=renB_shape (idxB σ) b
  by_cases hd:b.k= .dead
  ·exact .inl (h3.2 hd)
  ·exact .inr ⟨hd,h2⟩
theorem renB_cells {ρ:Nat→Option Nat} {b:TB} {w:Bool} {l:List TV} (h:renB ρ b=⟨w, .cells l⟩):∃l',b=⟨w, .cells l'⟩∧l=renL ρ l':=by
 obtain⟨w',k⟩:=b
 cases k<;>simp[renB]at h
 obtain⟨rfl,rfl⟩:=h
 exact⟨_,rfl,rfl⟩
theorem renB_list {ρ:Nat→Option Nat} {b:TB} {w:Bool} {e:EK} {l:List e.T} (h:renB ρ b=⟨w, .list e l⟩):b=⟨w, .list e l⟩:=by
 obtain⟨w',k⟩:=b
 cases k with
 |cells l'=>simp[renB]at h
 |dead=>exact h
 |hid=>exact h
 |gone e' n=>exact h
 |list e' l'=>exact h
 |keys ks=>exact h
theorem renB_keys {ρ:Nat→Option Nat} {b:TB} {ks:List (List UInt8)} (h:renB ρ b=⟨true, .keys ks⟩):b=⟨true, .keys ks⟩:=by
 obtain⟨w',k⟩:=b
 cases k with
 |cells l'=>simp[renB]at h
 |dead=>exact h
 |hid=>exact h
 |gone e' n=>exact h
 |list e' l'=>exact h
 |keys ks=>exact h
theorem shrink_rm (R:RM c A) (hσ:σ.Nodup):RM (c.shrink σ) A:=by
 have hE:∀{j k:Nat},σ[j]? =some k→(c.shrink σ).E j=c.E k:=fun h=>by simp[Cfg.shrink,h]
 refine⟨fun j w l hj=> ?_,fun j w e l hj=> ?_,fun j j' b b' n p n' p' hne hj hj' hw hd hd' h1 h2=> ?_,R.fz,fun j b n p hj hd h1=> ?_,R.nf,fun j ks hj=> ?_,R.gv⟩
 ·obtain⟨k,h1,h2⟩:=shrink_get hj
  obtain⟨l',h3,rfl⟩:=renB_cells h2.symm
  have h4:=getB_some h3 (by simp)
  obtain⟨n,p,g1,g2,g3,g4,g5,g6⟩:=R.cells k w l' h4
  refine⟨n,p,(hE h1).trans g1,g2,g3,g4,by rw[renL_map,List.length_map];exact g5,fun i t ht=> ?_⟩
  obtain⟨u,q1,rfl⟩:=renL_get ht
  obtain⟨a,r1,r2⟩:=g6 i u q1
  exact⟨a,r1,r2.rn shrink_rn⟩
 ·obtain⟨k,h1,h2⟩:=shrink_get hj
  have h4:=getB_some (renB_list h2.symm) (by simp)
  rcases R.list k w e l h4 with⟨g1,g2⟩|⟨n,p,g1,g2,g3,g4,g5,g6⟩
  ·exact .inl ⟨(hE h1).trans g1,g2⟩
  ·refine .inr ⟨n,p,(hE h1).trans g1,g2,g3,g4,g5,fun i x q t r1 r2=> ?_⟩
   obtain⟨a,s1,s2⟩:=g6 i x q t r1 r2
   have:=s2.rn (shrink_rn (σ:=σ))
   rw[enc_ren r2]at this
   exact⟨a,s1,this⟩
 ·obtain⟨k,g1,rfl⟩:=shrink_get hj
  obtain⟨k',g2,rfl⟩:=shrink_get hj'
  have hkk:k≠k':=by
   rintro rfl
   exact hne ((List.getElem?_inj (getElem?_lt g1) hσ).1 (g1.trans g2.symm))
  rw[hE g1]at h1
  rw[hE g2]at h2
  obtain⟨s1,s2,s3⟩:=renB_shape (idxB σ) (getB c.tm k)
  obtain⟨s4,s5,s6⟩:=renB_shape (idxB σ) (getB c.tm k')
  have d1:(getB c.tm k).k≠ .dead:=fun q=>hd (s3.2 q)
  have d2:(getB c.tm k').k≠ .dead:=fun q=>hd' (s6.2 q)
  exact R.inj k k' _ _ n p n' p' hkk (getB_some rfl d1) (getB_some rfl d2) (by rw[←s1];exact hw) d1 d2 h1 h2
 ·obtain⟨k,g1,rfl⟩:=shrink_get hj
  rw[hE g1]at h1
  obtain⟨_,_,s3⟩:=renB_shape (idxB σ) (getB c.tm k)
  have d1:(getB c.tm k).k≠ .dead:=fun q=>hd (s3.2 q)
  exact R.low k _ n p (getB_some rfl d1) d1 h1
 ·obtain⟨k,h1,h2⟩:=shrink_get hj
  have h4:=getB_some (renB_keys h2.symm) (by simp)
  obtain⟨n,p,g1,g2,g3,g4⟩:=R.keys k ks h4
  exact⟨n,p,(hE h1).trans g1,g2,g3,g4⟩
theorem shrink_stp {c0:Cfg} (S:Stp c0 c A) (hp:prefB 0 (σ.take c0.tm.length)=true) (hl:c0.tm.length≤σ.length):Stp c0 (c.shrink σ) A:=by
 have hid:∀k,k<c0.tm.length→σ[k]? =some k:=fun k hk=>by
  have:=prefB_get (i:=k) hp (by simp;omega)
  rw[List.getElem?_take,if_pos hk]at this
  simpa using this
 have hget:∀{k:Nat} {b:TB},k<c0.tm.length→c.tm[k]? =some b→(c.shrink σ).tm[k]? =some (renB (idxB σ) b):=fun hk hb=>by
  simp[Cfg.shrink,hid _ hk,getB_of hb]
 refine⟨⟨by simp[Cfg.shrink];exact hl,fun k hk=> ?_,fun k b e n hb hs=> ?_,fun k b hb hd=> ?_,S.mv.fz,S.mv.nz⟩,fun k b hb hw=> ?_,S.size,S.out,S.ro,S.md,S.fnew,S.nnew⟩
 ·simp only[Cfg.shrink,hid k hk,Option.bind_some];exact S.mv.e k hk
 ·obtain⟨b',g1,g2⟩:=S.mv.kind k b e n hb hs
  obtain⟨_,s2,s3⟩:=renB_shape (idxB σ) b'
  exact⟨_,hget (getElem?_lt hb) g1,g2.imp s3.2 (fun h=>s2.trans h)⟩
 ·obtain⟨b',g1,g2⟩:=S.mv.dead k b hb hd
  exact⟨_,hget (getElem?_lt hb) g1,(renB_shape (idxB σ) b').2.2.2 g2⟩
 ·obtain⟨b',g1,g2,g3,g4⟩:=S.keep k b hb hw
  obtain⟨s1,s2,s3⟩:=renB_shape (idxB σ) b'
  exact⟨_,hget (getElem?_lt hb) g1,s1.trans g2,s2.trans g3,s3.trans g4⟩
theorem canon_ok {c0:Cfg} (R:RM c A) (S:Stp c0 c A) {vs:List TV} {as:List AVal} (hv:LV c vs as) {K:List TV→TMem→Prop} (h:canonT c0.tm.length vs c.tm K):
  ∃vs' c',K vs' c'.tm∧c'.m=c.m∧RM c' A∧Stp c0 c' A∧LV c' vs' as:=by
 unfold canonT at h
 simp only at h
 cases hb:(nodupB (reach c.tm 400 [] (List.range c0.tm.length++refsL vs))&&prefB 0 ((reach c.tm 400 [] (List.range c0.tm.length++refsL vs)).take c0.tm.length)&&Nat.ble c0.tm.length (reach c.tm 400 [] (List.range c0.tm.length++refsL vs)).length)with
 |false=>rw[hb]at h;exact h.elim
 |true=>
 rw[hb]at h
 rw[Bool.and_eq_true,Bool.and_eq_true]at hb
 exact⟨_,c.shrink _,h,rfl,shrink_rm R (nodupB_nodup hb.1.1),shrink_stp S hb.1.2 (Nat.le_of_ble_eq_true hb.2),hv.rn shrink_rn⟩
end shrink
structure Gst (c c':Cfg) (A:Nat→Prop):Prop where
 stp:Stp c c' A
 gh:∃r:Nat→Bool,(∀n,r n=true→A n)∧c'.m=c.m.view (fun _=>false) r
theorem roify_roify (b:Blk):b.roify.roify=b.roify:=by
 have h:=Blk.roify_wr b
 generalize b.roify=q at h
 unfold Blk.roify
 rw[if_neg (by rw[h];simp)]
theorem view_view (m:Mem) (r s:Nat→Bool):(m.view (fun _=>false) r).view (fun _=>false) s=m.view (fun _=>false) (fun n=>r n||s n):=by
 unfold Mem.view
 simp only[Bool.false_eq_true,if_false]
 congr 1
 funext n
 by_cases hr:r n=true<;>by_cases hs:s n=true
 ·rw[if_pos hs,if_pos hr,if_pos (by simp[hr])];exact roify_roify _
 ·rw[if_neg hs,if_pos hr,if_pos (by simp[hr])]
 ·rw[if_pos hs,if_neg hr,if_pos (by simp[hs])]
 ·rw[if_neg hs,if_neg hr,if_neg (by simp[hr,hs])]
theorem Gst.refl (c:Cfg) (A:Nat→Prop):Gst c c A:=⟨Stp.refl _ _,fun _=>false,fun n h=>(by cases h),(view_none c.m).symm⟩
theorem Gst.trans {a b c:Cfg} {A:Nat→Prop} (h:Gst a b A) (k:Gst b c A):Gst a c A:=by
 obtain⟨r,r1,r2⟩:=h.gh
 obtain⟨s,s1,s2⟩:=k.gh
 refine⟨h.stp.trans k.stp,fun n=>r n||s n,fun n hn=> ?_, ?_⟩
 ·rcases Bool.or_eq_true _ _▸hn with h|h
  ·exact r1 n h
  ·exact s1 n h
 ·rw[s2,r2,view_view]
theorem Gst.of_same {c c':Cfg} {A:Nat→Prop} (h:Stp c c' A) (hm:c'.m=c.m):Gst c c' A:=⟨h,fun _=>false,fun n h=>(by cases h),by rw[view_none,hm]⟩
theorem view_cells (m:Mem) (r:Nat→Bool) (n:Nat):((m.view (fun _=>false) r).blk n).cells=(m.blk n).cells:=by
 unfold Mem.view
 simp only[Bool.false_eq_true,if_false]
 split
 ·exact Blk.roify_cells _
 ·rfl
section coe
variable {A:Nat→Prop}
theorem freeze_ok {c:Cfg} (R:RM c A) {k:Nat} {e:EK} {l:List e.T} (h:c.tm[k]? =some ⟨true, .list e l⟩) {a:AVal} (r:RV c (.sl k) a):
  ∃c',c'.tm=c.tm.set k ⟨true, .dead⟩∧RM c' A∧RV c' (.pl e l) a∧Gst c c' A:=by
 obtain⟨R0,S0⟩:=drop_ok R h rfl
 rcases rv_sl h r with⟨n,p,cap,hE,rfl⟩|⟨_,rfl,hnz⟩
 ·rcases R.list k _ _ _ h with⟨q1,_⟩|⟨n',p',q1,q2,q3,q4,q5,q6⟩
  ·rw[hE]at q1;cases q1
  rw[hE]at q1;simp at q1;obtain⟨rfl,rfl⟩:=q1
  obtain⟨hrw,hAn⟩:=q4 rfl
  obtain⟨hfr,hnF,hnN⟩:=drop_free R h rfl (.inr ⟨_,_,rfl⟩) hE
  have blk:∀n',n'≠n→((c.m.view (fun _=>false) (fun i=>i==n)).blk n')=c.m.blk n':=fun n' h=>by simp[Mem.view,h]
  have blkn:(c.m.view (fun _=>false) (fun i=>i==n)).blk n=⟨(c.m.blk n).cells, .ro⟩:=by simp[Mem.view,Blk.roify,hrw,Mode.wr]
  let c':Cfg:=⟨c.E,c.tm.set k ⟨true, .dead⟩,c.m.view (fun _=>false) (fun i=>i==n),fun i=>c.F i∨i=n,c.N⟩
  have hmv:Mv (c.drop k) c':=⟨Nat.le_refl _,fun _ _=>rfl,fun i b e n h1 h2=>⟨b,h1, .inr h2⟩,fun i b h1 h2=>⟨b,h1,h2⟩,fun i hi=>⟨.inl hi,blk i (by rintro rfl;exact hnF hi)⟩,fun i hi=>⟨hi,blk i (by rintro rfl;exact hnN hi)⟩⟩
  have far:∀{i:Nat} {b:TB} {n' p':Nat},(c.drop k).tm[i]? =some b→b.k≠ .dead→c.E i=some (n',p')→n'≠n:=fun h1 h2 h3=>by
   rintro rfl;exact hfr _ _ _ h1 h2 h3
  have R':RM c' A:=by
   refine⟨fun i w l hi=> ?_,fun i w e l hi=> ?_,R0.inj,fun i hi=> ?_,R0.low,fun i hi=>⟨(R0.nf i hi).1,by show(Mem.blk _ _).mode=_;rw[blk i (by rintro rfl;exact hnN hi)];exact(R0.nf i hi).2⟩,fun i ks hi=> ?_,R0.gv.mv hmv⟩
   ·obtain⟨n',p',g1,g2,g3,g4,g5,g6⟩:=R0.cells i w l hi
    have hb:=blk n' (far hi (by simp) g1)
    exact⟨n',p',g1,g2,by show(Mem.blk _ _).mode≠_;rw[hb];exact g3,by show _→(Mem.blk _ _).mode=_∧_;rw[hb];exact g4,by show _≤(Mem.blk _ _).cells.length;rw[hb];exact g5,fun j t ht=>let ⟨a,s1,s2⟩:=g6 j t ht;⟨a,by show(Mem.blk _ _).cells[_]? =_;rw[hb];exact s1,s2.mv hmv⟩⟩
   ·rcases R0.list i w e l hi with g|⟨n',p',g1,g2,g3,g4,g5,g6⟩
    ·exact .inl g
    ·have hb:=blk n' (far hi (by simp) g1)
     exact .inr ⟨n',p',g1,g2,by show(Mem.blk _ _).mode≠_;rw[hb];exact g3,by show _→(Mem.blk _ _).mode=_∧_;rw[hb];exact g4,by show(Mem.blk _ _).cells.length=_;rw[hb];exact g5,fun i x j t r1 r2=>let ⟨a,s1,s2⟩:=g6 i x j t r1 r2;⟨a,by show(Mem.blk _ _).cells[_]? =_;rw[hb];exact s1,s2.mv hmv⟩⟩
   ·rcases hi with hi|rfl
    ·have:=R0.fz i hi
     exact⟨this.1,by show(Mem.blk _ _).mode=_;rw[blk i (by rintro rfl;exact hnF hi)];exact this.2⟩
    ·exact⟨q2,by show(Mem.blk _ _).mode=_;rw[blkn]⟩
   ·obtain⟨n',p',g1,g2,g3,g4⟩:=R0.keys i ks hi
    have hb:=blk n' (far hi (by simp) g1)
    exact⟨n',p',g1,g2,by show(Mem.blk _ _).mode=_;rw[hb];exact g3,g4⟩
  refine⟨c',rfl,R', ?_,⟨S0.trans ⟨hmv,fun i b h1 h2=>⟨b,h1,h2,rfl,Iff.rfl⟩,Nat.le_refl _,fun i hi ha=>blk i (by rintro rfl;exact ha hAn),fun i hi hr=>blk i (by rintro rfl;have hr':(c.m.blk i).mode= .ro:=hr;rw[hrw]at hr';cases hr'),fun i hi hr=>by
    by_cases e':i=n
    ·subst e';exact hrw
    ·have hr':((c.m.view (fun _=>false) (fun i=>i==n)).blk i).mode= .rw:=hr
     rw[blk i e']at hr';exact hr',fun i hi=>by
    rcases hi with h|rfl
    ·exact .inl h
    ·exact .inr (.inr hrw),fun i hi=> .inl hi⟩,fun i=>i==n,fun i hi=>by simp at hi;subst hi;exact hAn,rfl⟩⟩
  have hcl:∀i:Nat,(c'.m.blk n).cells[i]? =(c.m.blk n).cells[i]? :=fun i=>by show(Mem.blk _ _).cells[_]? =_;rw[blkn]
  refine .pl e l n p cap (fun i=>((c.m.blk n).cells[p+i]?).getD .any) (.inr rfl) (by show _≤(Mem.blk _ _).cells.length;rw[blkn];show _≤(c.m.blk n).cells.length;omega) (fun i hi=> ?_) (fun i x j t h1 h2=> ?_)
  ·rw[hcl,List.getElem?_eq_getElem (show p+i<(c.m.blk n).cells.length by omega)];rfl
  ·obtain⟨a,s1,s2⟩:=q6 i x j t h1 h2
   rw[Nat.add_assoc]at s1
   simp only[s1,Option.getD_some]
   exact(s2.mv S0.mv).mv hmv
 ·refine⟨c.drop k,rfl,R0, .plE _ _ ?_, .of_same S0 rfl⟩
  rcases hnz with h|⟨n,o,h,_⟩
  ·exact .inl h
  ·exact .inr (.inr ⟨n,o,_,h⟩)
theorem recell_ok {c:Cfg} (R:RM c A) {k:Nat} {w:Bool} {l0 l:List TV} (h:c.tm[k]? =some ⟨w, .cells l0⟩)
  (hl:∀n p,c.E k=some (n,p)→p+l.length≤(c.m.blk n).cells.length∧∀(i:Nat) t,l[i]? =some t→∃a,(c.m.blk n).cells[p+i]? =some a∧RV c t a):
  ∃c',c'.tm=c.tm.set k ⟨w, .cells l⟩∧c'.m=c.m∧RM c' A∧Stp c c' A:=by
 let c':Cfg:=⟨c.E,c.tm.set k ⟨w, .cells l⟩,c.m,c.F,c.N⟩
 have hk:=getElem?_lt h
 have same:c'.tm[k]? =some ⟨w, .cells l⟩:=by simp[c',hk]
 have other:∀{i:Nat},i≠k→c'.tm[i]? =c.tm[i]? :=fun hi=>by simp[c',Ne.symm hi]
 have back:∀{i:Nat} {b:TB},c'.tm[i]? =some b→∃b',c.tm[i]? =some b'∧b'.w=b.w∧(b'.k= .dead↔b.k= .dead)∧b'.k.shape=b.k.shape:=fun{i b} hb=>by
  by_cases e:i=k
  ·subst e;rw[same]at hb;simp at hb;subst hb;exact⟨_,h,rfl,by simp,rfl⟩
  ·rw[other e]at hb;exact⟨b,hb,rfl,Iff.rfl,rfl⟩
 have forth:∀{i:Nat} {b:TB},c.tm[i]? =some b→∃b',c'.tm[i]? =some b'∧b'.w=b.w∧(b'.k= .dead↔b.k= .dead)∧b'.k.shape=b.k.shape:=fun{i b} hb=>by
  by_cases e:i=k
  ·subst e;rw[h]at hb;simp at hb;subst hb;exact⟨_,same,rfl,by simp,rfl⟩
  ·exact⟨b,by rw[other e];exact hb,rfl,Iff.rfl,rfl⟩
 have hmv:Mv c c':=by
  refine⟨by simp[c'],fun _ _=>rfl,fun i b e n h1 h2=> ?_,fun i b h1 h2=> ?_,fun n hn=>⟨hn,rfl⟩,fun n hn=>⟨hn,rfl⟩⟩
  ·obtain⟨b',g1,_,_,g4⟩:=forth h1;exact⟨b',g1, .inr (g4.trans h2)⟩
  ·obtain⟨b',g1,_,g3,_⟩:=forth h1;exact⟨b',g1,g3.2 h2⟩
 refine⟨c',rfl,rfl,⟨fun i w' l' hi=> ?_,fun i w' e l' hi=> ?_,fun i j x y n p n' p' hne hi hj hw hx hy h1 h2=> ?_,R.fz,fun i x n p hi hx h1=> ?_,R.nf,fun i ks hi=> ?_,R.gv.mv hmv⟩,⟨hmv,fun i b h1 h2=> ?_,Nat.le_refl _,fun _ _ _=>rfl,fun _ _ _=>rfl,fun _ _ h=>h,fun _ h=> .inl h,fun _ h=> .inl h⟩⟩
 ·by_cases e:i=k
  ·subst e
   rw[same]at hi;simp at hi
   obtain⟨rfl,rfl⟩:=hi
   obtain⟨n,p,g1,g2,g3,g4,g5,g6⟩:=R.cells i w l0 h
   obtain⟨q1,q2⟩:=hl n p g1
   exact⟨n,p,g1,g2,g3,g4,q1,fun j t ht=>let ⟨a,r1,r2⟩:=q2 j t ht;⟨a,r1,r2.mv hmv⟩⟩
  ·rw[other e]at hi
   obtain⟨n,p,g1,g2,g3,g4,g5,g6⟩:=R.cells i w' l' hi
   exact⟨n,p,g1,g2,g3,g4,g5,fun j t ht=>let ⟨a,r1,r2⟩:=g6 j t ht;⟨a,r1,r2.mv hmv⟩⟩
 ·by_cases e':i=k
  ·subst e';rw[same]at hi;simp at hi
  ·rw[other e']at hi
   rcases R.list i w' e l' hi with g|⟨n,p,g1,g2,g3,g4,g5,g6⟩
   ·exact .inl g
   ·exact .inr ⟨n,p,g1,g2,g3,g4,g5,fun i x j t r1 r2=>let ⟨a,s1,s2⟩:=g6 i x j t r1 r2;⟨a,s1,s2.mv hmv⟩⟩
 ·obtain⟨x',g1,g2,g3,_⟩:=back hi
  obtain⟨y',q1,q2,q3,_⟩:=back hj
  exact R.inj i j x' y' n p n' p' hne g1 q1 (g2.trans hw) (fun q=>hx (g3.1 q)) (fun q=>hy (q3.1 q)) h1 h2
 ·obtain⟨x',g1,g2,g3,_⟩:=back hi
  exact R.low i x' n p g1 (fun q=>hx (g3.1 q)) h1
 ·by_cases e':i=k
  ·subst e';rw[same]at hi;simp at hi
  ·rw[other e']at hi
   exact R.keys i ks hi
 ·obtain⟨b',g1,g2,g3,g4⟩:=forth h1;exact⟨b',g1,g2.trans h2,g4,g3⟩
theorem move1_ok {c:Cfg} (R:RM c A) {k:Nat} {e:EK} {l:List e.T} (h:c.tm[k]? =some ⟨true, .list e l⟩):
  ∃c',c'.tm=c.tm.set k ⟨true, .dead⟩++[⟨true, .list e l⟩]∧c'.m=c.m∧RM c' A∧Stp c c' A∧Rn (fun i=>some (bif Nat.beq i k then c.tm.length else i)) c c':=by
 obtain⟨R0,S0⟩:=drop_ok R h rfl
 have htl:(c.drop k).tm.length=c.tm.length:=by simp[Cfg.drop]
 have hk:=getElem?_lt h
 obtain⟨h1,h2⟩:=add_ok (tk:= .list e l) (loc:=c.E k) (m':=c.m) R0 (Nat.le_refl _) (fun n _=> .inl rfl) (fun n p hE=>by
   have hfr:=drop_free R h rfl (.inr ⟨_,_,rfl⟩) hE
   obtain⟨g1,g2,g3⟩:=R.live h rfl (.inr ⟨_,_,rfl⟩) hE
   exact⟨g1,g2,g3, .inl hfr⟩) (fun l h=>by cases h) (fun e' l' q=>by
   simp at q
   obtain⟨rfl,q⟩:=q
   simp at q
   subst q
   rcases R.list k _ _ _ h with g|⟨n,p,g1,g2,g3,g4,g5,g6⟩
   ·exact .inl g
   ·exact .inr ⟨n,p,g1,g5,fun i x j t r1 r2=>let ⟨a,s1,s2⟩:=g6 i x j t r1 r2;⟨a,s1,s2.mv S0.mv⟩⟩)
 refine⟨(c.drop k).add ⟨true, .list e l⟩ (c.E k) c.m,rfl,rfl,h1,S0.trans h2, ?_⟩
 refine⟨fun i i' hi hlt=> ?_,fun i i' hi hlt=> ?_,fun i i' b hi hb=> ?_,fun n hn=>⟨hn,rfl⟩,fun n hn=>⟨hn,rfl⟩⟩
 ·simp at hi
  subst hi
  cases hb:Nat.beq i k<;>simp[Cfg.add,htl]<;>omega
 ·simp at hi
  subst hi
  cases hb:Nat.beq i k with
  |true=>
   have:=Nat.eq_of_beq_eq_true hb
   subst this
   simp[Cfg.add,htl]
  |false=>
   simp only[cond_false,Cfg.add]
   rw[if_neg (by rw[htl];omega)]
   rfl
 ·simp at hi
  subst hi
  have hlt:=getElem?_lt hb
  cases hbe:Nat.beq i k with
  |true=>
   have:=Nat.eq_of_beq_eq_true hbe
   subst this
   rw[h]at hb;simp at hb;subst hb
   refine⟨⟨true, .list e l⟩, ?_, .inr ⟨by simp,rfl⟩⟩
   simp only[cond_true,Cfg.add]
   rw[List.getElem?_append_right (by rw[htl];exact Nat.le_refl _),htl]
   simp
  |false=>
   have hne:i≠k:=by rintro rfl;simp at hbe
   simp only[cond_false,Cfg.add]
   have:(c.drop k).tm[i]? =some b:=by simp[Cfg.drop,Ne.symm hne,hb]
   rw[List.getElem?_append_left (by rw[htl];exact hlt),this]
   by_cases hd:b.k= .dead
   ·exact⟨b,rfl, .inl hd⟩
   ·exact⟨b,rfl, .inr ⟨hd,rfl⟩⟩
mutual
theorem coeT_ok:∀(s:Sh) {v v':TV} {tm':TMem} {c:Cfg} {a:AVal},coeT s v c.tm=some (v',tm')→RM c A→RV c v a→∃c',c'.tm=tm'∧RM c' A∧RV c' v' a∧Gst c c' A∧(noPure s=true→c'.m=c.m)
 | .x,v,v',tm',c,a,h,R,r=>by
  simp only[coeT,Option.some.injEq,Prod.mk.injEq]at h
  obtain⟨rfl,rfl⟩:=h
  exact⟨c,rfl,R,r,Gst.refl _ _,fun _=>rfl⟩
 | .bl,v,v',tm',c,a,h,R,r=>by
  cases v with
  |tt=>
   simp only[coeT,Option.some.injEq,Prod.mk.injEq]at h
   obtain⟨rfl,rfl⟩:=h
   cases r
   exact⟨c,rfl,R, .bool true,Gst.refl _ _,fun _=>rfl⟩
  |ff=>
   simp only[coeT,Option.some.injEq,Prod.mk.injEq]at h
   obtain⟨rfl,rfl⟩:=h
   cases r
   exact⟨c,rfl,R, .bool false,Gst.refl _ _,fun _=>rfl⟩
  |bool b=>
   simp only[coeT,Option.some.injEq,Prod.mk.injEq]at h
   obtain⟨rfl,rfl⟩:=h
   exact⟨c,rfl,R,r,Gst.refl _ _,fun _=>rfl⟩
  |_=>simp[coeT]at h
 | .mv e,v,v',tm',c,a,h,R,r=>by
  cases v with
  |nil=>
   simp only[coeT,Option.some.injEq,Prod.mk.injEq]at h
   obtain⟨rfl,rfl⟩:=h
   cases r
   obtain⟨c',g1,g2,g3,g4,g5⟩:=virt_ok R e (.inl rfl)
   exact⟨c',g2,g3,g4, .of_same g5 g1,fun _=>g1⟩
  |nz es=>
   simp only[coeT]at h
   cases hb:Nat.beq es e.es with
   |false=>rw[hb]at h;cases h
   |true=>
   rw[hb]at h
   simp only[cond_true,Option.some.injEq,Prod.mk.injEq]at h
   obtain⟨rfl,rfl⟩:=h
   have:=Nat.eq_of_beq_eq_true hb
   subst this
   cases r with
   |nz _ _ ha=>
   obtain⟨c',g1,g2,g3,g4,g5⟩:=virt_ok R e ha
   exact⟨c',g2,g3,g4, .of_same g5 g1,fun _=>g1⟩
  |sl k=>
   simp only[coeT]at h
   split at h
   ·rename_i e' l hb
    simp only[Option.some.injEq,Prod.mk.injEq]at h
    obtain⟨rfl,rfl⟩:=h
    obtain⟨c1,g1,g2,g3,g4,g5⟩:=move1_ok R hb
    have:=r.rn g5
    simp only[renT,Nat.beq_refl,cond_true]at this
    exact⟨c1,g1,g3,this, .of_same g4 g2,fun _=>g2⟩
   ·cases h
  |_=>simp[coeT]at h
 | .own e,v,v',tm',c,a,h,R,r=>by
  cases v with
  |nil=>
   simp only[coeT,Option.some.injEq,Prod.mk.injEq]at h
   obtain⟨rfl,rfl⟩:=h
   cases r
   obtain⟨c',g1,g2,g3,g4,g5⟩:=virt_ok R e (.inl rfl)
   exact⟨c',g2,g3,g4, .of_same g5 g1,fun _=>g1⟩
  |nz es=>
   simp only[coeT]at h
   cases hb:Nat.beq es e.es with
   |false=>rw[hb]at h;cases h
   |true=>
   rw[hb]at h
   simp only[cond_true,Option.some.injEq,Prod.mk.injEq]at h
   obtain⟨rfl,rfl⟩:=h
   have:=Nat.eq_of_beq_eq_true hb
   subst this
   cases r with
   |nz _ _ ha=>
   obtain⟨c',g1,g2,g3,g4,g5⟩:=virt_ok R e ha
   exact⟨c',g2,g3,g4, .of_same g5 g1,fun _=>g1⟩
  |sl k=>
   simp only[coeT,Option.some.injEq,Prod.mk.injEq]at h
   obtain⟨rfl,rfl⟩:=h
   exact⟨c,rfl,R,r,Gst.refl _ _,fun _=>rfl⟩
  |_=>simp[coeT]at h
 | .pure e,v,v',tm',c,a,h,R,r=>by
  cases v with
  |nil=>
   simp only[coeT,Option.some.injEq,Prod.mk.injEq]at h
   obtain⟨rfl,rfl⟩:=h
   cases r
   exact⟨c,rfl,R, .plE _ _ (.inl rfl),Gst.refl _ _,fun _=>rfl⟩
  |nz es=>
   simp only[coeT]at h
   cases hb:Nat.beq es e.es with
   |false=>rw[hb]at h;cases h
   |true=>
   rw[hb]at h
   simp only[cond_true,Option.some.injEq,Prod.mk.injEq]at h
   obtain⟨rfl,rfl⟩:=h
   have:=Nat.eq_of_beq_eq_true hb
   subst this
   cases r with
   |nz _ _ ha=>
   refine⟨c,rfl,R, .plE _ _ ?_,Gst.refl _ _,fun _=>rfl⟩
   rcases ha with h|⟨n,o,h,_⟩
   ·exact .inl h
   ·exact .inr (.inr ⟨n,o,_,h⟩)
  |pl e' l=>
   simp only[coeT,Option.some.injEq,Prod.mk.injEq]at h
   obtain⟨rfl,rfl⟩:=h
   exact⟨c,rfl,R,r,Gst.refl _ _,fun _=>rfl⟩
  |sl k=>
   simp only[coeT]at h
   split at h
   ·rename_i e' l hb
    simp only[Option.some.injEq,Prod.mk.injEq]at h
    obtain⟨rfl,rfl⟩:=h
    obtain⟨c',f1,f2,f3,f4⟩:=freeze_ok R hb r
    exact⟨c',f1,f2,f3,f4,fun h=>(by cases h)⟩
   ·cases h
  |_=>simp[coeT]at h
 | .ag ss,v,v',tm',c,a,h,R,r=>by
  cases v with
  |agg vs=>
   simp only[coeT]at h
   split at h
   ·rename_i vs' tm2 h2
    simp only[Option.some.injEq,Prod.mk.injEq]at h
    obtain⟨rfl,rfl⟩:=h
    cases r with
    |agg _ as hl hr=>
    obtain⟨c',g1,g2,g3,g4,g5⟩:=coeL_ok ss h2 R ⟨hl,hr⟩
    exact⟨c',g1,g2, .agg _ _ g3.1 g3.2,g4,g5⟩
   ·cases h
  |_=>simp[coeT]at h
 | .pc ss,v,v',tm',c,a,h,R,r=>by
  cases v with
  |ptr k o=>
   cases o with
   |succ o=>simp[coeT]at h
   |zero=>
   simp only[coeT]at h
   split at h
   case h_2=>cases h
   rename_i w l hb
   split at h
   case h_2=>cases h
   rename_i l' tm1 h2
   split at h
   case h_2=>cases h
   rename_i w' l0 hb1
   cases hw:(w==w')with
   |false=>rw[hw]at h;cases h
   |true=>
   rw[hw]at h
   simp only[cond_true,Option.some.injEq,Prod.mk.injEq]at h
   obtain⟨rfl,rfl⟩:=h
   have hww:w=w':=by simpa using hw
   subst hww
   obtain⟨n,p,g1,g2,g3,g4,g5,g6⟩:=R.cells k w l hb
   have hlv:LV c l (((c.m.blk n).cells.drop p).take l.length):=by
    refine⟨by simp;omega,fun i t a h1 h2=> ?_⟩
    obtain⟨a',q1,q2⟩:=g6 i t h1
    rw[List.getElem?_take,if_pos (getElem?_lt h1),List.getElem?_drop,q1]at h2
    simp at h2
    subst h2
    exact q2
   obtain⟨c1,q1,q2,q3,q4,q5⟩:=coeL_ok ss h2 R hlv
   obtain⟨rr,r1,r2⟩:=q4.gh
   have hcl:(c1.m.blk n).cells=(c.m.blk n).cells:=by rw[r2,view_cells]
   have hE1:c1.E k=some (n,p):=(q4.stp.mv.e k (getElem?_lt hb)).trans g1
   subst q1
   obtain⟨c2,s1,s2,s3,s4⟩:=recell_ok (l:=l') q2 hb1 (fun n' p' hE=>by
    rw[hE1]at hE;simp at hE;obtain⟨rfl,rfl⟩:=hE
    have hlen:l'.length=l.length:=by have:=q3.1;simp at this;omega
    refine⟨by rw[hcl,hlen];exact g5,fun i t ht=> ?_⟩
    obtain⟨a,w1,w2⟩:=q3.get ht
    rw[List.getElem?_take,if_pos (by rw[←hlen];exact getElem?_lt ht),List.getElem?_drop]at w1
    exact⟨a,by rw[hcl];exact w1,w2⟩)
   exact⟨c2,s1,s3,(r.mv q4.stp.mv).mv s4.mv,q4.trans (.of_same s4 s2),fun h=>s2.trans (q5 h)⟩
  |_=>simp[coeT]at h
theorem coeL_ok:∀(ss:List Sh) {vs vs':List TV} {tm':TMem} {c:Cfg} {as:List AVal},coeL ss vs c.tm=some (vs',tm')→RM c A→LV c vs as→∃c',c'.tm=tm'∧RM c' A∧LV c' vs' as∧Gst c c' A∧(noPureL ss=true→c'.m=c.m)
 |[],vs,vs',tm',c,as,h,R,r=>by
  cases vs with
  |nil=>
   simp only[coeL,Option.some.injEq,Prod.mk.injEq]at h
   obtain⟨rfl,rfl⟩:=h
   exact⟨c,rfl,R,r,Gst.refl _ _,fun _=>rfl⟩
  |cons v vs=>simp[coeL]at h
 |s::ss,vs,vs',tm',c,as,h,R,r=>by
  cases vs with
  |nil=>simp[coeL]at h
  |cons v vs=>
   simp only[coeL]at h
   split at h
   case h_2=>cases h
   rename_i v1 tm1 h1
   split at h
   case h_2=>cases h
   rename_i vs1 tm2 h2
   simp only[Option.some.injEq,Prod.mk.injEq]at h
   obtain⟨rfl,rfl⟩:=h
   match as,r with
   |[],r=>exact absurd r.1 (by simp)
   |a::as,r=>
    obtain⟨c1,g1,g2,g3,g4,g5⟩:=coeT_ok s h1 R (r.2 0 v a (by simp) (by simp))
    subst g1
    have rest:LV c vs as:=⟨by have:=r.1;simpa using this,fun i t a h1 h2=>r.2 (i+1) t a (by simpa using h1) (by simpa using h2)⟩
    obtain⟨c2,q1,q2,q3,q4,q5⟩:=coeL_ok ss h2 g2 (rest.mv g4.stp.mv)
    refine⟨c2,q1,q2,⟨by have:=q3.1;simp[this],fun i t b w1 w2=> ?_⟩,g4.trans q4,fun h=>by
     simp only[noPureL,Bool.and_eq_true]at h
     rw[q5 h.2,g5 h.1]⟩
    cases i with
    |zero=>simp at w1 w2;subst w1;subst w2;exact g3.mv q4.stp.mv
    |succ i=>exact q3.2 i t b (by simpa using w1) (by simpa using w2)
end
end coe
end Go.Ab
