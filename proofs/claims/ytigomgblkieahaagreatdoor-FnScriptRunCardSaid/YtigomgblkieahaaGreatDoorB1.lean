/- What is proved here: loads, stores, literals, append and slices of the model do what the abstract operations say. -/
import Derived.Test.YtigomgblkieahaaGreatDoorB0
import Derived.Laws.BytesString
import Derived.MapKept
namespace Go.Ab
open Go.RowKit
section runs
variable {P:Program} {w:World}
theorem run_size {t k:Nat} (h:tSize P t=some k):(sizeOf t).run P w= .ok k w:=by
 unfold tSize at h
 cases hi:P.info? t with
 |none=>rw[hi]at h;cases h
 |some i=>rw[hi]at h;simp at h;simp[sizeOf,typeInfo,hi,h]
theorem run_bytes {t k:Nat} (h:tBytes P t=some k):∃i,(typeInfo t).run P w= .ok i w∧i.bytes=k:=by
 unfold tBytes at h
 cases hi:P.info? t with
 |none=>rw[hi]at h;cases h
 |some i=>rw[hi]at h;simp at h;exact⟨i,by simp[typeInfo,hi],h⟩
theorem run_und {t:Nat} {d:TypeDesc} (h:P.underlying t=some d):(underlying t).run P w= .ok d w:=by simp[underlying,h]
theorem run_agg {t:Nat} {b:Bool} (h:tAgg P t=some b):(isAgg t).run P w= .ok b w:=by
 unfold tAgg at h
 cases hd:P.underlying t with
 |none=>rw[hd]at h;cases h
 |some d=>
  rw[hd]at h
  simp at h
  subst h
  unfold isAgg
  rw[Sem.run_bind,run_und hd]
  cases d<;>rfl
theorem run_zero {t:Nat} {z:List AVal} (β:Inj) (h:tZero P t=some z):∃v,(zeroValue t).run P w= .ok v w∧LRel β z v.cells:=by
 unfold tZero at h
 cases hi:P.info? t with
 |none=>rw[hi]at h;cases h
 |some i=>
  rw[hi]at h
  simp only[Option.bind_some,Option.map_eq_some_iff]at h
  obtain⟨v,hv,rfl⟩:=h
  exact⟨v,by simp[zeroValue,typeInfo,hi,hv],ofScals_rel β _⟩
theorem und_elem {t e:Nat} (h:tElem P t=some e):P.underlying t=some (.slice e):=by
 unfold tElem at h
 split at h
 ·rename_i e' he;simp at h;subst h;exact he
 ·cases h
theorem kd_slice {t:Nat} (h:tKd P t=some .slice):∃e,P.underlying t=some (.slice e):=by
 unfold tKd at h
 cases hd:P.underlying t with
 |none=>rw[hd]at h;cases h
 |some d=>rw[hd]at h;cases d<;>simp[kdOf]at h;exact⟨_,rfl⟩
theorem kd_string {t:Nat} (h:tKd P t=some .string):P.underlying t=some .string:=by
 unfold tKd at h
 cases hd:P.underlying t with
 |none=>rw[hd]at h;cases h
 |some d=>rw[hd]at h;cases d<;>simp[kdOf]at h;rfl
theorem kd_bool {t:Nat} (h:tKd P t=some .bool):P.underlying t=some .bool:=by
 unfold tKd at h
 cases hd:P.underlying t with
 |none=>rw[hd]at h;cases h
 |some d=>rw[hd]at h;cases d<;>simp[kdOf]at h;rfl
theorem kd_int {t:Nat} {k:IntKind} (h:tKd P t=some (.int k)):P.underlying t=some (.int k):=by
 unfold tKd at h
 cases hd:P.underlying t with
 |none=>rw[hd]at h;cases h
 |some d=>rw[hd]at h;cases d<;>simp[kdOf]at h;subst h;rfl
end runs
def SOk (P:Program) (fl:Nat) (β:Inj) (m:Mem) (w:World) (s:Sem Value) (v:AVal) (m':Mem):Prop:=
 ∃cv w' β',s.run P w= .ok cv w'∧VRel β' v cv∧Post fl β m w m' β' w'
theorem SOk.same {P:Program} {fl:Nat} {β:Inj} {m:Mem} {w:World} {s:Sem Value} {v:AVal} {cv:Value} (hs:Sim β m w) (h:s.run P w= .ok cv w) (r:VRel β v cv):SOk P fl β m w s v m:=
 ⟨cv,w,β,h,r,Post.refl hs⟩
section ops
variable {P:Program} {fl:Nat} {β:Inj} {m m':Mem} {w:World}
theorem new_row {cs:List AVal} {c:Array Value} (t:TypeId) (hs:Sim β m w) (hf:Free β m (m.push cs)) (hc:CRel β cs c):
  (newRow t c).run P w= .ok ⟨w.heap.size,0,none⟩ (w.alloc (.cells c t))∧β m.size=none∧
  Post fl β m w (m.push cs) (upd β m.size ⟨w.heap.size,0,c.size,t⟩) (w.alloc (.cells c t)):=by
 have hn:β m.size=none:=hf m.size (Nat.le_refl _) (by simp)
 exact⟨by simp[newRow],hn,post_alloc hs hn t hc⟩
theorem post_slf {β1:Inj} {w1:World} {z:List AVal} {t o:Nat} {c:Array Value} (h:Post fl β m w (m.push z) β1 w1) (hb:β1 m.size=some ⟨w.heap.size,0,c.size,t⟩) (ho:z[o]? =some (.ptr none)):
  Post fl β m w (m.push (z.set o (.slf m.size o t))) β1 w1:=by
 have hlen:((m.push z).blk m.size).cells=z:=by simp
 have blk:∀k,k≠m.size→(m.push (z.set o (.slf m.size o t))).blk k=(m.push z).blk k:=fun k hk=>by simp[hk]
 have hs:=h.sim
 refine⟨⟨fun n p hn hp=>hs.lt n p (by simpa using hn) hp,fun n p hn hp hm i a ha=> ?_,fun n p hn hp hm=> ?_,fun n1 p1 n2 p2 g1 g2 g3 g4 g5 g6 g7=> ?_,fun n p ks hn hp hm=> ?_,fun n hn=>⟨by simpa using(hs.gl n hn).1,(hs.gl n hn).2⟩,fun n p hn hp hm=> ?_,hs.gz⟩,fun n hn=>h.ext n (by simpa using hn),fun n p h1 h2 h3=>h.nb n p h1 (by simpa using h2) h3,h.fr,h.os,h.tape,h.output,h.size⟩
 ·by_cases e:n=m.size
  ·subst e;simp at hm
  ·rw[blk n e]at hm ha
   exact hs.ro n p (by simpa using hn) hp hm i a ha
 ·by_cases e:n=m.size
  ·subst e
   obtain⟨c',e',q1,q2,q3,q4⟩:=hs.rw m.size p (by simp) hp (by simp)
   rw[hlen]at q3 q4
   refine⟨c',e',q1,q2,by simpa using q3,fun i a ha=> ?_⟩
   simp only[Mem.blk_push,if_true,List.getElem?_set]at ha
   split at ha
   ·rename_i e2
    subst e2
    split at ha
    ·simp at ha
     subst ha
     obtain⟨v,g1,g2⟩:=q4 o _ ho
     cases g2
     refine⟨_,g1, .slfN _ _ _ p hp ?_ ?_⟩
     ·rw[hb]at hp;simp at hp;rw[←hp]
     ·rw[hb]at hp;simp at hp;rw[←hp]
    ·cases ha
   ·exact q4 i a ha
  ·rw[blk n e]at hm⊢
   exact hs.rw n p (by simpa using hn) hp hm
 ·refine hs.ex n1 p1 n2 p2 (by simpa using g1) (by simpa using g2) g3 g4 g5 ?_ ?_
  ·by_cases e1:n1=m.size
   ·subst e1;simp[Mode.wr]
   ·rwa [blk n1 e1]at g6
  ·by_cases e1:n2=m.size
   ·subst e1;simp
   ·rwa [blk n2 e1]at g7
 ·by_cases e:n=m.size
  ·subst e;simp at hm
  ·rw[blk n e]at hm⊢
   exact hs.mp n p ks (by simpa using hn) hp hm
 ·by_cases e:n=m.size
  ·subst e;exact hs.ct m.size p (by simp) hp (by simp)
  ·rw[blk n e]at hm
   exact hs.ct n p (by simpa using hn) hp hm
theorem post_slfC {β1:Inj} {w1:World} {z:List AVal} {t:Nat} {c:Array Value} (h:Post fl β m w (m.push z) β1 w1) (hb:β1 m.size=some ⟨w.heap.size,0,c.size,t⟩):Post fl β m w (m.push (slfC m.size t z)) β1 w1:=by
 unfold slfC
 split
 ·split
  ·exact post_slf h hb (by assumption)
  ·exact h
 ·exact h
theorem sok_alloc {t:Nat} {z:List AVal} (hs:Sim β m w) (hz:tZero P t=some z) (hf:Free β m (m.push (slfC m.size t z))) (old:Value) (hold:old= .tuple #[]):
  SOk P fl β m w (Instr.alloc t true old) (.ptr (some (m.size,0))) (m.push (slfC m.size t z)):=by
 obtain⟨v,hv,hl⟩:=run_zero (w:=w) β hz
 obtain⟨h1,hn,h2⟩:=new_row (P:=P) (fl:=fl) t hs (cs:=z) hf hl.toC
 have h3:=post_slfC h2 (upd_same _ _ _)
 refine⟨_,_,_, ?_, .ptr m.size 0 _ (upd_same _ _ _),h3⟩
 subst hold
 simp[Instr.alloc,newVar,hv,h1]
theorem sok_box {t:Nat} {x:AVal} {v:Value} (hs:Sim β m w) (hx:VRel β x v) (hfit:x.fits x.cells.length=true) (hf:Free β m (m.push (slfC m.size t x.cells))):
  SOk P fl β m w (Instr.box t v) (.ptr (some (m.size,0))) (m.push (slfC m.size t x.cells)):=by
 obtain⟨hl,_⟩:=hx.cells hfit
 obtain⟨h1,hn,h2⟩:=new_row (P:=P) (fl:=fl) t hs (cs:=x.cells) hf hl.toC
 refine⟨_,_,_, ?_, .ptr m.size 0 _ (upd_same _ _ _),post_slfC h2 (upd_same _ _ _)⟩
 simp[Instr.box,newVar,h1]
theorem sok_load {t n o:Nat} {v:AVal} {pv:Value} (hs:Sim β m w) (hp:VRel β (.ptr (some (n,o))) pv)
  (h:(∃k cs,tAgg P t=some true∧tSize P t=some k∧alds m n o k=some cs∧v= .agg cs)∨(tAgg P t=some false∧ald m n o=some v)):
  SOk P fl β m w (Instr.loadAt t pv) v m:=by
 cases hp with
 |ptr _ _ p hb=>
  rcases h with⟨k,cs,h1,h2,h3,rfl⟩|⟨h1,h2⟩
  ·obtain⟨us,hr,hl⟩:=loads_cells (P:=P) hs hb h3
   exact .same hs (by simp[Instr.loadAt,Instr.sureAddr,loadVar,run_agg h1,run_size h2,hr]) (.agg cs us hl.1 hl.2)
  ·unfold ald at h2
   split at h2
   ·rename_i hc
    obtain⟨u,hu,hr⟩:=hs.cell hc.1 hb hc.2 h2
    exact .same hs (by simp[Instr.loadAt,Instr.sureAddr,loadVar,run_agg h1,hu]) hr
   ·cases h2
theorem fits_one {x:AVal} {k:Nat} (h:x.fits k=true) (ho:x.cells.all (·.one)=true):x.one=true∨∃cs,x= .agg cs:=by
 cases x<;>simp_all [AVal.fits,AVal.one]
theorem sok_store {t n o k:Nat} {x:AVal} {pv xv:Value} (hs:Sim β m w) (hp:VRel β (.ptr (some (n,o))) pv) (hx:VRel β x xv) (hk:tSize P t=some k) (hfit:x.fits k=true) (h:asts fl m n o x.cells=some m'):
  ∃w',(Instr.storeAt t pv xv).run P w= .ok () w'∧Post fl β m w m' β w':=by
 cases hp with
 |ptr _ _ p hb=>
  unfold asts at h
  split at h
  ·rename_i hc
   obtain⟨c1,c2,c3,c4,c5⟩:=hc
   simp at h
   subst h
   obtain⟨hl,hlen⟩:=hx.cells hfit
   have hl':LRel β x.cells xv.cells.toList.toArray:=by simpa using hl
   obtain⟨w',hrun,hpost⟩:=post_sts (P:=P) (fl:=fl) x.cells xv.cells.toList hs c1 c2 hb c3 (o:=o) c4 c5 hl' ⟨p.cb,p.co+o,none⟩ 0 rfl rfl rfl
   refine⟨w', ?_,hpost⟩
   have hsz:xv.cells.size=k:=by rw[←hl.1,hlen]
   simp[Instr.storeAt,Instr.sureAddr,storeVar,run_size hk,hsz,hrun]
  ·cases h
end ops
end Go.Ab
namespace Go.Ab
open Go.RowKit
theorem getElem_lt {α:Type} {l:List α} {i:Nat} {a:α} (h:l[i]? =some a):i<l.length:=by
 rcases Nat.lt_or_ge i l.length with h'|h'
 ·exact h'
 ·simp[List.getElem?_eq_none h']at h
theorem lrel_fold {β:Inj}:∀(xs:List AVal) (us:List Value) (_:LRel β xs us.toArray) (cs:List AVal) (c:Array Value) (_:LRel β cs c) (off k:Nat),
  LRel β (setCells cs (off+k) xs) ((us.zipIdx k).foldl (fun c (p:Value×Nat)=>c.setIfInBounds (off+p.2) p.1) c):=by
 intro xs
 induction xs with
 |nil=>
  intro us hl cs c hc off k
  have:us=[]:=by have:=hl.1;simp at this;exact List.length_eq_zero_iff.1 this.symm
  subst this
  exact hc
 |cons x xs ih=>
  intro us hl cs c hc off k
  match us,hl with
  |[],hl=>have:=hl.1;simp at this
  |u::us,hl=>
   have hx:VRel β x u:=hl.2 0 x u (by simp) (by simp)
   have hr:LRel β xs us.toArray:=⟨by have:=hl.1;simpa using this,fun i a v h1 h2=>hl.2 (i+1) a v (by simpa using h1) (by simpa using h2)⟩
   have:=ih us hr (cs.set (off+k) x) (c.setIfInBounds (off+k) u) (hc.set _ hx) off (k+1)
   simpa[setCells,Nat.add_assoc]using this
theorem fill_rel {β:Inj} (place:Nat→Option (Nat×Nat)):∀(ps:List (Nat×AVal)) (qs:List (Nat×Value)) (_:ps.length=qs.length) (_:∀(i:Nat) p q,ps[i]? =some p→qs[i]? =some q→p.1=q.1∧VRel β p.2 q.2)
  (cs:List AVal) (c:Array Value) (_:LRel β cs c) (cs':List AVal) (_:afill place cs ps=some cs'),∃c',Instr.fill place c qs=some c'∧LRel β cs' c':=by
 intro ps
 induction ps with
 |nil=>
  intro qs hlen _ cs c hc cs' h
  have:qs=[]:=List.length_eq_zero_iff.1 hlen.symm
  subst this
  simp[afill]at h
  subst h
  exact⟨c,rfl,hc⟩
 |cons p ps ih=>
  intro qs hlen hr cs c hc cs' h
  match qs,hlen with
  |[],hlen=>simp at hlen
  |(j,v)::qs,hlen=>
   obtain⟨i,x⟩:=p
   obtain⟨h1,h2⟩:=hr 0 (i,x) (j,v) (by simp) (by simp)
   simp only at h1 h2
   subst h1
   simp only[afill]at h
   cases hp:place i with
   |none=>rw[hp]at h;cases h
   |some os=>
    obtain⟨off,size⟩:=os
    rw[hp]at h
    simp only at h
    split at h
    ·rename_i hc2
     obtain⟨hfit,hle⟩:=hc2
     obtain⟨hl,hlen2⟩:=h2.cells hfit
     have hl':LRel β x.cells v.cells.toList.toArray:=by simpa using hl
     have hnew:=lrel_fold x.cells v.cells.toList hl' cs c hc off 0
     simp only[Nat.add_zero]at hnew
     obtain⟨c',hf,hcr⟩:=ih qs (by simpa using hlen) (fun k p q g1 g2=>hr (k+1) p q (by simpa using g1) (by simpa using g2)) _ _ hnew cs' h
     refine⟨c', ?_,hcr⟩
     have hsz:v.cells.size=size:=by rw[←hl.1,hlen2]
     have hsz2:¬(off+v.cells.size>c.size):=by rw[←hc.1,hsz];omega
     simp only[Instr.fill,hp]
     rw[if_neg (by simp[hsz];rw[←hc.1];omega)]
     have e:(v.cells.zipIdx.foldl (fun(cs:Array Value) (p:Value×Nat)=>cs.setIfInBounds (off+p.2) p.1) c)=((v.cells.toList.zipIdx 0).foldl (fun c (p:Value×Nat)=>c.setIfInBounds (off+p.2) p.1) c):=by
      rw[←Array.foldl_toList,Array.toList_zipIdx]
     rw[←e]at hf
     exact hf
    ·cases h
theorem setfill_length (place:Nat→Option (Nat×Nat)):∀(ps:List (Nat×AVal)) (cs cs':List AVal),afill place cs ps=some cs'→cs'.length=cs.length:=by
 intro ps
 induction ps with
 |nil=>intro cs cs' h;simp[afill]at h;rw[h]
 |cons p ps ih=>
  intro cs cs' h
  obtain⟨i,x⟩:=p
  simp only[afill]at h
  split at h
  ·cases h
  ·split at h
   ·rw[ih _ _ h,setCells_length]
   ·cases h
section ops
variable {P:Program} {fl:Nat} {β:Inj} {m m':Mem} {w:World}
theorem parts_rel {ρa:Operand→AVal} {ρ:Operand→Value} (parts:Array (Nat×Operand)) (hρ:∀x∈parts.toList.map (·.2),VRel β (ρa x) (ρ x)):
  (parts.toList.map fun p=>(p.1,ρa p.2)).length=((parts.map fun(i,x)=>(i,ρ x)).toList).length∧
  ∀(i:Nat) (p:Nat×AVal) (q:Nat×Value),(parts.toList.map fun p=>(p.1,ρa p.2))[i]? =some p→((parts.map fun(i,x)=>(i,ρ x)).toList)[i]? =some q→p.1=q.1∧VRel β p.2 q.2:=by
 refine⟨by simp,fun i p q h1 h2=> ?_⟩
 simp only[Array.toList_map,List.getElem?_map]at h1 h2
 cases hi:parts.toList[i]? with
 |none=>rw[hi]at h1;simp at h1
 |some x=>
  rw[hi]at h1 h2
  simp at h1 h2
  subst h1;subst h2
  exact⟨rfl,hρ x.2 (List.mem_map.2 ⟨x,List.mem_of_getElem? hi,rfl⟩)⟩
theorem fields_run {fs:Array Field} {l:List (Nat×Nat)} (h:fs.toList.mapM (fun x=>(tSize P x.type).map fun z=>(x.offset,z))=some l):
  (fs.mapM fun f=>do pure (f.offset,←sizeOf f.type):Sem _).run P w= .ok l.toArray w:=by
 have key:∀(fs:List Field) (l:List (Nat×Nat)),fs.mapM (fun x=>(tSize P x.type).map fun z=>(x.offset,z))=some l→
   (fs.mapM (fun f=>do pure (f.offset,←sizeOf f.type)):Sem _).run P w= .ok l w:=by
  intro fs
  induction fs with
  |nil=>intro l h;simp at h;subst h;simp
  |cons f fs ih=>
   intro l h
   rw[List.mapM_cons]at h
   cases hz:tSize P f.type with
   |none=>rw[hz]at h;simp at h
   |some z=>
    rw[hz]at h
    simp only[Option.map_some,Option.pure_def,Option.bind_eq_bind,Option.bind_some]at h
    cases hr:fs.mapM (fun x=>(tSize P x.type).map fun z=>(x.offset,z))with
    |none=>rw[hr]at h;simp at h
    |some r=>
     rw[hr]at h
     simp at h
     subst h
     simp only[List.mapM_cons,Sem.run_bind,run_size hz,Result.andThen_ok,Sem.run_pure,ih r hr]
 rw[Array.mapM_eq_mapM_toList,Sem.run_map,key _ _ h]
 rfl
theorem sok_build {t:Nat} {fs:List (Nat×Nat)} {z cs:List AVal} {ρa:Operand→AVal} {ρ:Operand→Value} (parts:Array (Nat×Operand)) (hs:Sim β m w) (hρ:∀x∈parts.toList.map (·.2),VRel β (ρa x) (ρ x))
  (hfs:tFields P t=some fs) (hz:tZero P t=some z) (h:afill (fs[·]?) z (parts.toList.map fun p=>(p.1,ρa p.2))=some cs):
  SOk P fl β m w (Instr.build t (parts.map fun(i,x)=>(i,ρ x))) (.agg cs) m:=by
 unfold tFields at hfs
 split at hfs
 ·rename_i fds hd
  obtain⟨v,hv,hl⟩:=run_zero (w:=w) β hz
  obtain⟨p1,p2⟩:=parts_rel (β:=β) (ρa:=ρa) (ρ:=ρ) parts hρ
  obtain⟨c',hf,hc⟩:=fill_rel _ _ _ p1 p2 z v.cells hl cs h
  refine .same hs (cv:= .agg c') ?_ (.agg cs c' hc.1 hc.2)
  unfold Instr.build
  simp only[Sem.run_bind,hv,Result.andThen_ok,run_und hd,fields_run hfs]
  have e:(fun x:Nat=>(fs[x]? :Option (Nat×Nat)))=fun x:Nat=>(fs.toArray[x]? :Option (Nat×Nat)):=by funext x;simp
  rw[←e,hf]
  simp
 ·cases hfs
theorem zero_row {z:List AVal} {zc:Array Value} {es:Nat} (hz:LRel β z zc) (hlen:z.length=es) (hes:0<es) (len:Nat):
  LRel β (List.replicate len z).flatten ((Array.range (len*es)).map (zc[· % zc.size]!)):=by
 have hzs:zc.size=es:=by rw[←hz.1,hlen]
 have hfl:∀(len:Nat),((List.replicate len z).flatten).length=len*es:=by
  intro len
  induction len with
  |zero=>simp
  |succ n ih=>simp[List.replicate_succ,ih,hlen,Nat.succ_mul];omega
 have hget:∀(len i:Nat),i<len*es→((List.replicate len z).flatten)[i]? =z[i % es]? :=by
  intro len
  induction len with
  |zero=>intro i hi;simp at hi
  |succ n ih=>
   intro i hi
   simp only[List.replicate_succ,List.flatten_cons]
   rw[List.getElem?_append]
   by_cases h:i<z.length
   ·rw[if_pos h,Nat.mod_eq_of_lt (by omega)]
   ·rw[if_neg h,ih _ (by rw[Nat.succ_mul]at hi;omega),hlen,←Nat.mod_eq_sub_mod (by omega)]
 refine⟨by simp[hfl],fun i a v h1 h2=> ?_⟩
 have hi:i<len*es:=by rw[←hfl len];exact getElem_lt h1
 rw[hget len i hi]at h1
 have hm:i % es<es:=Nat.mod_lt _ hes
 obtain⟨u,hu,hr⟩:=hz.get h1
 have:v=u:=by
  rw[Array.getElem?_map]at h2
  rw[Array.getElem?_range,if_pos hi]at h2
  simp only[Option.map_some,Option.some.injEq,hzs]at h2
  rw[←h2]
  rw[getElem!_def,hu]
 rw[this];exact hr
theorem sok_buildSlice {t e es len:Nat} {z cs:List AVal} {ρa:Operand→AVal} {ρ:Operand→Value} (parts:Array (Nat×Operand)) (hs:Sim β m w) (hρ:∀x∈parts.toList.map (·.2),VRel β (ρa x) (ρ x))
  (he:tElem P t=some e) (hes:tSize P e=some es) (hz:tZero P e=some z) (hzl:z.length=es) (hb:len*es≤2^24)
  (h:afill (fun i=>some (i*es,es)) (List.replicate len z).flatten (parts.toList.map fun p=>(p.1,ρa p.2))=some cs) (hf:Free β m (m.push cs)):
  SOk P fl β m w (Instr.buildSlice t len (parts.map fun(i,x)=>(i,ρ x))) (.sl m.size 0 len (some len) es) (m.push cs):=by
 obtain⟨v,hv,hl⟩:=run_zero (w:=w) β hz
 obtain⟨p1,p2⟩:=parts_rel (β:=β) (ρa:=ρa) (ρ:=ρ) parts hρ
 have hrow:∃c0:Array Value,LRel β (List.replicate len z).flatten c0∧c0.size=len*es∧
   (Instr.buildSlice t len (parts.map fun(i,x)=>(i,ρ x))).run P w=((match Instr.fill (fun i=>some (i*es,es)) c0 (parts.map fun(i,x)=>(i,ρ x)).toList with
    |some cells=>(do pure (.slice (some (←newRow e cells)) len len):Sem Value)
    |none=>stuck "buildSlice: a part of the wrong size"):Sem Value).run P w:=by
  have hb':¬(16777216<len*es):=by omega
  by_cases h0:len*es=0
  ·refine⟨#[], ?_,by simp[h0], ?_⟩
   ·have:(List.replicate len z).flatten=[]:=by
     rcases Nat.mul_eq_zero.1 h0 with h0|h0
     ·subst h0;rfl
     ·have:z=[]:=List.length_eq_zero_iff.1 (hzl.trans h0)
      subst this
      simp
    rw[this]
    exact LRel.nil β
   ·unfold Instr.buildSlice
    have h0':¬(16777216<0):=by omega
    simp only[Sem.run_bind,run_und (und_elem he),run_size hes,Result.andThen_ok]
    have hr0:Array.range 0= #[]:=rfl
    simp only[h0,hr0]
    simp
    generalize Instr.fill (fun i=>some (i*es,es)) #[] _=q
    cases q<;>rfl
  ·have hpos:0<es:=by rcases Nat.eq_zero_or_pos es with h|h;(subst h;simp at h0);exact h
   refine⟨_,zero_row hl hzl hpos len,by simp, ?_⟩
   unfold Instr.buildSlice
   simp only[Sem.run_bind,run_und (und_elem he),run_size hes,Result.andThen_ok]
   simp[hb',h0,hv]
   generalize Instr.fill (fun i=>some (i*es,es)) _ _=q
   cases q<;>rfl
 obtain⟨c0,hc0,hsz0,hrun⟩:=hrow
 obtain⟨c',hfl,hc⟩:=fill_rel _ _ _ p1 p2 _ c0 hc0 cs h
 obtain⟨h1,hn,h2⟩:=new_row (P:=P) (fl:=fl) e hs hf hc.toC
 have hcs:c'.size=len*es:=by
  have:=setfill_length _ _ _ _ h
  rw[←hc.1,this,hc0.1,hsz0]
 refine⟨_,_,_, ?_, .sl m.size 0 len len es (some len) _ _ (upd_same _ _ _) (fun _=>rfl) (Nat.le_refl _) (by simp[hcs]) (fun c e=>by simpa using e),h2⟩
 rw[hrun,hfl]
 simp[h1]
end ops
end Go.Ab
namespace Go.Ab
open Go.RowKit
section ops
variable {P:Program} {fl:Nat} {β:Inj} {m m':Mem} {w:World}
theorem post_regrow {n:Nat} {p:Place} (hs:Sim β m w) (hf:fl≤n) (hn:n<m.size) (hp:β n=some p) (hm:(m.blk n).mode= .rw) (hfree:β m.size=none)
  {o:Nat} {old new:List AVal} (ho:(m.blk n).cells.drop o=old) (hon:o+old.length=(m.blk n).cells.length) {us:List Value} (hl:LRel β new us.toArray) (hone:new.all (·.one)=true)
  (hroom:p.co+o+old.length+new.length≤p.cs):
  ∃w',(storeCells ⟨p.cb,p.co+o+old.length,none⟩ us).run P w= .ok () w'∧
   Post fl β m w ((m.push (old++new)).kill n) (upd β m.size ⟨p.cb,p.co+o,p.cs,p.ct⟩) w':=by
 obtain⟨c,e,h1,h2,h3,h4⟩:=hs.rw n p hn hp hm
 have hlt:p.cb<w.heap.size:=hs.lt n p hn hp
 have key:∀(xs:List AVal) (vs:List Value) (w:World) (c:Array Value) (i0:Nat),LRel β xs vs.toArray→xs.all (·.one)=true→w.heap[p.cb]? =some (.cells c e (0,0))→p.co+o+old.length+i0+xs.length≤c.size→
   ∃w' c',(storeCells ⟨p.cb,p.co+o+old.length,none⟩ vs i0).run P w= .ok () w'∧w'.heap[p.cb]? =some (.cells c' e (0,0))∧c'.size=c.size∧
    (∀j,j<p.co+o+old.length+i0→c'[j]? =c[j]?)∧(∀(j:Nat) a,xs[j]? =some a→∃v,c'[p.co+o+old.length+i0+j]? =some v∧VRel β a v)∧
    (∀k,k≠p.cb→w'.heap[k]? =w.heap[k]?)∧w'.os=w.os∧w'.tape=w.tape∧w'.output=w.output∧w'.heap.size=w.heap.size:=by
  intro xs
  induction xs with
  |nil=>
   intro vs w c i0 hl _ hw _
   have:vs=[]:=by have:=hl.1;simp at this;exact List.length_eq_zero_iff.1 this.symm
   subst this
   exact⟨w,c,rfl,hw,rfl,fun _ _=>rfl,fun j a h=>by simp at h,fun _ _=>rfl,rfl,rfl,rfl,rfl⟩
  |cons x xs ih=>
   intro vs w c i0 hl hone hw hsz
   match vs,hl with
   |[],hl=>have:=hl.1;simp at this
   |v::vs,hl=>
    simp only[List.all_cons,Bool.and_eq_true]at hone
    have hx:VRel β x v:=hl.2 0 x v (by simp) (by simp)
    have hr:LRel β xs vs.toArray:=⟨by have:=hl.1;simpa using this,fun i a u h1 h2=>hl.2 (i+1) a u (by simpa using h1) (by simpa using h2)⟩
    have hi:p.co+o+old.length+i0<c.size:=by simp at hsz;omega
    have hcell:w.cell? ⟨p.cb,p.co+o+old.length+i0,none⟩=some c[p.co+o+old.length+i0]:=by simp[World.cell?,hw,hi]
    have hw1:(w.setCell ⟨p.cb,p.co+o+old.length+i0,none⟩ v).heap[p.cb]? =some (.cells (c.setIfInBounds (p.co+o+old.length+i0) v) e (0,0)):=by
     simp[World.setCell,Array.getElem?_modify,hw]
    obtain⟨w',c',q1,q2,q3,q4,q5,q6,q7,q8,q9,q10⟩:=ih vs (w.setCell ⟨p.cb,p.co+o+old.length+i0,none⟩ v) (c.setIfInBounds (p.co+o+old.length+i0) v) (i0+1) hr hone.2 hw1 (by simp at hsz⊢;omega)
    refine⟨w',c', ?_,q2,by simpa using q3,fun j hj=> ?_,fun j a ha=> ?_,fun k hk=> ?_,q7,q8,q9,by simpa using q10⟩
    ·unfold storeCells
     rw[Sem.run_bind,run_store P w _ v _ (hx.one_cells hone.1).2,addr_add _ _ rfl,hcell]
     have hfz:w.frozen? ⟨p.cb,p.co+o+old.length+i0,none⟩=false:=by simp[World.frozen?,hw]
     simp only[hfz,Bool.false_eq_true,if_false,Result.andThen_ok]
     exact q1
    ·rw[q4 j (by omega),Array.getElem?_setIfInBounds_ne (by omega)]
    ·cases j with
     |zero=>
      simp at ha
      subst ha
      refine⟨v, ?_,hx⟩
      rw[Nat.add_zero,q4 _ (by omega)]
      simp[hi]
     |succ j=>
      obtain⟨u,g1,g2⟩:=q5 j a (by simpa using ha)
      exact⟨u,by rw[show p.co+o+old.length+i0+(j+1)=p.co+o+old.length+(i0+1)+j by omega];exact g1,g2⟩
    ·rw[q6 k hk]
     simp only[World.setCell,Array.getElem?_modify]
     rw[if_neg (fun e=>hk e.symm)]
 obtain⟨w',c',q1,q2,q3,q4,q5,q6,q7,q8,q9,q10⟩:=key new us w c 0 hl hone h1 (by rw[h2];omega)
 refine⟨w',q1, ?_⟩
 have hle:=le_upd (p:=⟨p.cb,p.co+o,p.cs,p.ct⟩) hfree
 have hsize:((m.push (old++new)).kill n).size=m.size+1:=rfl
 refine⟨⟨fun k q hk hq=> ?_,fun k q hk hq hmk i a ha=> ?_,fun k q hk hq hmk=> ?_,fun k1 q1' k2 q2' g1 g2 g3 g4 g5 g6 g7=> ?_,fun k q ks hk hq hmk=> ?_,fun k hk=> ?_,fun k q hk hq hmk=> ?_,hs.gz.of fun k _ c1 e1 f1 hc1=>by
  by_cases hk:k=p.cb
  ·subst hk;rw[q2]at hc1;simp at hc1;exact⟨c,e,(0,0),h1,by rw[←hc1.1,q3]⟩
  ·rw[q6 k hk]at hc1;exact⟨_,_,_,hc1,rfl⟩⟩,fun k hk=> ?_,fun k q r1 r2 r3=> ?_,fun k hk hw=> ?_,q7,q8,q9,by omega⟩
 ·rw[q10]
  by_cases e':k=m.size
  ·subst e';rw[upd_same]at hq;simp at hq;subst hq;exact hlt
  ·rw[upd_other _ _ e']at hq
   exact hs.lt k q (by rw[hsize]at hk;omega) hq
 ·by_cases ek:k=n
  ·subst ek;simp at hmk
  ·by_cases e':k=m.size
   ·subst e';simp[ek]at hmk
   ·rw[upd_other _ _ e']at hq
    simp only[Mem.blk_kill,if_neg ek,Mem.blk_push,if_neg e']at hmk ha
    have hk':k<m.size:=by rw[hsize]at hk;omega
    obtain⟨v,g1,g2⟩:=hs.ro k q hk' hq hmk i a ha
    have hne:=hs.ex n p k q hn hk' (fun e=>ek e.symm) hp hq (wr_rw hm) (by rw[hmk];simp)
    refine⟨v, ?_,g2.mono hle⟩
    rw[←g1]
    exact World.cell?_of_block (w:=w) (w':=w') (q6 q.cb (fun e=>hne e.symm))
 ·by_cases ek:k=n
  ·subst ek;simp at hmk
  ·by_cases e':k=m.size
   ·subst e'
    rw[upd_same]at hq
    simp at hq
    subst hq
    have hblk:((m.push (old++new)).kill n).blk m.size=⟨old++new, .rw⟩:=by simp[ek]
    rw[hblk]
    refine⟨c',e,q2,by rw[q3,h2],by simp;rw[q3,h2];omega,fun i a ha=> ?_⟩
    simp only at ha⊢
    rw[List.getElem?_append]at ha
    by_cases hi:i<old.length
    ·rw[if_pos hi]at ha
     rw[q4 _ (by omega)]
     have:(m.blk n).cells[o+i]? =some a:=by rw[←ho,List.getElem?_drop]at ha;exact ha
     obtain⟨v,g1,g2⟩:=h4 _ _ this
     exact⟨v,by rw[←g1];congr 1;omega,g2.mono hle⟩
    ·rw[if_neg hi]at ha
     obtain⟨v,g1,g2⟩:=q5 _ _ ha
     exact⟨v,by rw[←g1];congr 1;omega,g2.mono hle⟩
   ·rw[upd_other _ _ e']at hq
    simp only[Mem.blk_kill,if_neg ek,Mem.blk_push,if_neg e']at hmk⊢
    have hk':k<m.size:=by rw[hsize]at hk;omega
    obtain⟨c2,e2,g1,g2,g3,g4⟩:=hs.rw k q hk' hq hmk
    have hne:=hs.ex n p k q hn hk' (fun e=>ek e.symm) hp hq (wr_rw hm) (by rw[hmk];simp)
    refine⟨c2,e2, ?_,g2,g3,fun i a ha=> ?_⟩
    ·rw[q6 q.cb (fun e=>hne e.symm)];exact g1
    ·obtain⟨v,r1,r2⟩:=g4 i a ha
     exact⟨v,r1,r2.mono hle⟩
 ·
  by_cases ek1:k1=n
  ·subst ek1;simp[Mode.wr]at g6
  ·by_cases ek2:k2=n
   ·subst ek2;simp at g7
   ·simp only[Mem.blk_kill,if_neg ek1,if_neg ek2,Mem.blk_push]at g6 g7
    rw[hsize]at g1 g2
    by_cases e1:k1=m.size
    ·subst e1
     rw[upd_same]at g4
     simp at g4
     subst g4
     have e2:k2≠m.size:=fun h=>g3 h.symm
     rw[upd_other _ _ e2]at g5
     simp only[if_neg e2]at g7
     exact hs.ex n p k2 q2' hn (by omega) (fun e=>ek2 e.symm) hp g5 (wr_rw hm) g7
    ·rw[upd_other _ _ e1]at g4
     simp only[if_neg e1]at g6
     by_cases e2:k2=m.size
     ·subst e2
      rw[upd_same]at g5
      simp at g5
      subst g5
      exact hs.ex k1 q1' n p (by omega) hn ek1 g4 hp g6 (by rw[hm];simp)
     ·rw[upd_other _ _ e2]at g5
      simp only[if_neg e2]at g7
      exact hs.ex k1 q1' k2 q2' (by omega) (by omega) g3 g4 g5 g6 g7
 ·by_cases ek:k=n
  ·subst ek;simp at hmk
  ·by_cases e':k=m.size
   ·subst e';simp[ek]at hmk
   ·rw[upd_other _ _ e']at hq
    simp only[Mem.blk_kill,if_neg ek,Mem.blk_push,if_neg e']at hmk⊢
    have hk':k<m.size:=by rw[hsize]at hk;omega
    obtain⟨r1,es,cl,r2,r3⟩:=hs.mp k q ks hk' hq hmk
    have hne:=hs.ex n p k q hn hk' (fun e=>ek e.symm) hp hq (wr_rw hm) (by rw[hmk];simp)
    exact⟨r1,es,cl,by rw[q6 q.cb (fun e=>hne e.symm)];exact r2,r3⟩
 ·obtain⟨a,cs,b⟩:=hs.gl k hk
  exact⟨by rw[hsize];omega,cs,by rw[upd_other _ _ (by omega)];exact b⟩
 ·by_cases ek:k=n
  ·subst ek;simp at hmk
  ·by_cases e':k=m.size
   ·subst e'
    rw[upd_same]at hq
    simp at hq
    subst hq
    obtain⟨c2,r2⟩:=hs.ct n p hn hp hm
    rw[h1]at r2
    simp at r2
    exact⟨c',r2.2▸q2⟩
   ·rw[upd_other _ _ e']at hq
    simp only[Mem.blk_kill,if_neg ek,Mem.blk_push,if_neg e']at hmk
    have hk':k<m.size:=by rw[hsize]at hk;omega
    obtain⟨c2,r2⟩:=hs.ct k q hk' hq hmk
    have hne:=hs.ex n p k q hn hk' (fun e=>ek e.symm) hp hq (wr_rw hm) (by rw[hmk];simp)
    exact⟨c2,by rw[q6 q.cb (fun e=>hne e.symm)];exact r2⟩
 ·rw[upd_other]
  intro e'
  subst e'
  rw[hsize]at hk
  omega
 ·have:k=m.size:=by rw[hsize]at r2;omega
  subst this
  rw[upd_same]at r3
  simp at r3
  subst r3
  exact .inr ⟨n,p,hf,hn,hp,wr_rw hm,rfl⟩
 ·exact q6 k (fun e'=>hw ⟨n,p,hf,hn,hp,wr_rw hm,e'.symm⟩)
theorem Post.drew {β':Inj} {w':World} (h:Post fl β m w.drew m' β' w'):Post fl β m w m' β' w':=
 ⟨h.sim,h.ext,h.nb,h.fr,h.os,h.tape,h.output,h.size⟩
theorem Sim.drew (h:Sim β m w):Sim β m w.drew:=⟨h.lt,h.ro,h.rw,h.ex,h.mp,h.gl,h.ct,h.gz⟩
theorem alds_len {n o k:Nat} {cs:List AVal} (h:alds m n o k=some cs):cs.length=k∧n<m.size∧(m.blk n).mode≠ .dead∧cs=((m.blk n).cells.drop o).take k∧o+k≤(m.blk n).cells.length:=by
 unfold alds at h
 split at h
 ·rename_i hc
  simp at h
  refine⟨?_,hc.1,hc.2.1,h.symm,hc.2.2⟩
  rw[←h];simp;omega
 ·cases h
theorem add_cells {es k:Nat} {x:AVal} {xv:Value} {new:List AVal} (hs:Sim β m w) (hx:VRel β x xv) (h:addCells m es x=some (k,new)):
  (Builtin.lenOf xv).run P w= .ok k w∧new.length=k*es∧∃us:List Value,(Builtin.firstCells es k xv).run P w= .ok us.toArray w∧LRel β new us.toArray:=by
 unfold addCells at h
 split at h
 ·simp at h
  obtain⟨rfl,rfl⟩:=h
  cases hx
  exact⟨rfl,by simp,[],rfl,LRel.nil β⟩
 ·simp at h
  obtain⟨rfl,rfl⟩:=h
  cases hx with
  |emptySl a c=>
   exact⟨rfl,by simp,[],by simp[Builtin.firstCells,loadCells,loadCellsFrom],LRel.nil β⟩
 ·rename_i n o len cap es'
  split at h
  ·rename_i he
   subst he
   split at h
   ·rename_i h0
    subst h0
    simp at h
    obtain⟨rfl,rfl⟩:=h
    cases hx with
    |sl _ _ _ ccap _ _ p a hb ha hl hc hcap=>exact⟨rfl,by simp,[],by simp[Builtin.firstCells,loadCells,loadCellsFrom],LRel.nil β⟩
   rw[Option.map_eq_some_iff]at h
   obtain⟨cs,hcs,he2⟩:=h
   simp only[Prod.mk.injEq]at he2
   obtain⟨rfl,rfl⟩:=he2
   cases hx with
   |sl _ _ _ ccap _ _ p a hb ha hl hc hcap=>
    obtain⟨us,hr,hlr⟩:=loads_cells (P:=P) hs hb hcs
    refine⟨rfl,(alds_len hcs).1,us.toList, ?_,by simpa using hlr⟩
    simp only[Builtin.firstCells,Array.toArray_toList]
    by_cases h0:ccap=0
    ·have:len=0:=by omega
     subst this
     simp only[Nat.zero_mul]at hr⊢
     have:us= #[]:=by
      have:=hlr.1
      rw[(alds_len hcs).1]at this
      simp at this
      exact Array.eq_empty_of_size_eq_zero this.symm
     subst this
     simp[loadCells,loadCellsFrom]
    ·rw[ha h0];exact hr
  ·cases h
 ·cases h
end ops
end Go.Ab
namespace Go.Ab
open Go.RowKit
theorem ba_beq (a b:List UInt8):((⟨a.toArray⟩:ByteArray)==⟨b.toArray⟩)=decide (a=b):=by
 rw[Bool.eq_iff_iff,MapKept.bytes_beq,decide_eq_true_eq]
 constructor
 ·intro h;simpa using h
 ·intro h;rw[h]
theorem findNow_has {s:List UInt8}:∀(L:List MapEntry) (ks:List (List UInt8)) (i:Nat),L.map (fun e=>(e.key,e.val))=ks.map (fun k=>(Value.string ⟨k.toArray⟩,Value.bool true))→
  Instr.findNow .string (.string ⟨s.toArray⟩) L i=some (if s∈ks then some (i+ks.idxOf s, .bool true)else none)
 |[],ks,i,h=>by
  have:ks=[]:=by cases ks with
   |nil=>rfl
   |cons=>simp at h
  subst this;rfl
 |e::L,ks,i,h=>by
  cases ks with
  |nil=>simp at h
  |cons k ks=>
   simp only[List.map_cons,List.cons.injEq,Prod.mk.injEq]at h
   obtain⟨⟨h1,h2⟩,h3⟩:=h
   have ih:=findNow_has (s:=s) L ks (i+1) h3
   unfold Instr.findNow
   rw[h1]
   simp only[Instr.sameNow,ba_beq]
   by_cases e:s=k
   ·subst e;simp[h2]
   ·rw[decide_eq_false e]
    simp only[ih,List.mem_cons,e,false_or]
    by_cases hm:s∈ks
    ·rw[if_pos hm,if_pos hm,List.idxOf_cons]
     have:(k==s)=false:=beq_eq_false_iff_ne.2 fun q=>e q.symm
     rw[this];simp;omega
    ·rw[if_neg hm,if_neg hm]
theorem run_checkStr {P:Program} {w:World} {t:TypeId} {b:Bool} (h:P.underlying t=some .string) (v:Value):(Instr.checkKey b 10000 t v).run P w= .ok () w:=by
 rw[show(10000:Nat)=9999+1 from rfl]
 unfold Instr.checkKey
 simp[underlying,h]
theorem run_findStr {P:Program} {w:World} {t:TypeId} (h:P.underlying t=some .string) {es:Array MapEntry} {ks:List (List UInt8)} (hm:MapHas es ks) (s:List UInt8):
  (Instr.findKey t (.string ⟨s.toArray⟩) es.toList).run P w= .ok (if s∈ks then some (ks.idxOf s, .bool true)else none) w:=by
 unfold Instr.findKey
 simp only[Sem.run_bind,run_und h,Result.andThen_ok]
 rw[findNow_has es.toList ks 0 hm]
 simp
theorem tMapB_some {P:Program} {t:TypeId} (h:tMapB P t=true):∃k e,P.underlying t=some (.map k e)∧P.underlying k=some .string∧∀w:World,(zeroValue e).run P w= .ok (.bool false) w:=by
 unfold tMapB at h
 split at h
 ·rename_i k e hd
  rw[Bool.and_eq_true]at h
  refine⟨k,e,hd, ?_,fun w=> ?_⟩
  ·have:=h.1
   split at this
   ·assumption
   ·cases this
  ·have:=h.2
   split at this
   ·rename_i hz
    cases hi:P.info? e with
    |none=>rw[hi]at hz;cases hz
    |some i=>
     rw[hi]at hz
     simp only[Option.bind_some]at hz
     simp[zeroValue,typeInfo,hi,hz]
   ·cases this
 ·cases h
section maps
variable {P:Program} {fl:Nat} {β:Inj} {m m':Mem} {w:World}
theorem sok_makeMap {t:TypeId} (hs:Sim β m w) (hf:Free β m (m.pushB ⟨[], .mp []⟩)):SOk P fl β m w (Instr.makeMap t none) (.map (some m.size)) (m.pushB ⟨[], .mp []⟩):=by
 have hn:β m.size=none:=hf m.size (Nat.le_refl _) (by simp)
 have hle:=le_upd (p:=⟨w.heap.size,0,0,0⟩) hn
 refine⟨_,w.alloc (.map #[] 0),upd β m.size ⟨w.heap.size,0,0,0⟩,rfl, .map m.size _ (upd_same _ _ _),⟨⟨fun n p hn' hp=> ?_,fun n p hn' hp hm i a ha=> ?_,fun n p hn' hp hm=> ?_,fun n p n' p' hn1 hn' hne hp hp' hm hm'=> ?_,fun n p ks hn' hp hm=> ?_,fun n hn'=> ?_,fun n p hn' hp hm=> ?_,hs.gz.of fun n hn c e f hc=>⟨c,e,f,by rw[heap_alloc_lt _ _ _ (hs.glt hn)]at hc;exact hc,rfl⟩⟩,fun n hn'=> ?_,fun n p h1 h2 h3=> ?_,fun k hk _=>heap_alloc_lt _ _ _ hk,rfl,rfl,rfl,by simp⟩⟩
 ·simp only[World.size_alloc]
  by_cases e:n=m.size
  ·subst e;rw[upd_same]at hp;simp at hp;subst hp;simp
  ·rw[upd_other _ _ e]at hp
   have:=hs.lt n p (by simp at hn';omega) hp
   omega
 ·by_cases e:n=m.size
  ·subst e;simp at hm
  ·rw[upd_other _ _ e]at hp
   simp only[Mem.blk_pushB,if_neg e]at hm ha
   have hn2:n<m.size:=by simp at hn';omega
   obtain⟨v,h1,h2⟩:=hs.ro n p hn2 hp hm i a ha
   exact⟨v,by rw[World.cell?_alloc_lt _ _ _ (hs.lt n p hn2 hp)];exact h1,h2.mono hle⟩
 ·by_cases e:n=m.size
  ·subst e;simp at hm
  ·rw[upd_other _ _ e]at hp
   have hn2:n<m.size:=by simp at hn';omega
   simp only[Mem.blk_pushB,if_neg e]at hm⊢
   obtain⟨c',e',h1,h2,h3,h4⟩:=hs.rw n p hn2 hp hm
   refine⟨c',e', ?_,h2,h3,fun i a ha=> ?_⟩
   ·rw[heap_alloc_lt _ _ _ (hs.lt n p hn2 hp)];exact h1
   ·obtain⟨v,g1,g2⟩:=h4 i a ha
    exact⟨v,g1,g2.mono hle⟩
 ·by_cases e:n=m.size
  ·subst e
   rw[upd_same]at hp
   simp at hp
   subst hp
   have e':n'≠m.size:=fun h=>hne h.symm
   rw[upd_other _ _ e']at hp'
   have:=hs.lt n' p' (by simp at hn';omega) hp'
   simp;omega
  ·rw[upd_other _ _ e]at hp
   have hlt:=hs.lt n p (by simp at hn1;omega) hp
   by_cases e':n'=m.size
   ·subst e'
    rw[upd_same]at hp'
    simp at hp'
    subst hp'
    simp;omega
   ·rw[upd_other _ _ e']at hp'
    simp only[Mem.blk_pushB,if_neg e,if_neg e']at hm hm'
    exact hs.ex n p n' p' (by simp at hn1;omega) (by simp at hn';omega) hne hp hp' hm hm'
 ·by_cases e:n=m.size
  ·subst e
   rw[upd_same]at hp
   simp at hp
   subst hp
   simp at hm
   subst hm
   exact⟨by simp, #[],0,heap_alloc_eq _ _,rfl⟩
  ·rw[upd_other _ _ e]at hp
   simp only[Mem.blk_pushB,if_neg e]at hm⊢
   have hn2:n<m.size:=by simp at hn';omega
   obtain⟨q1,es,cl,q2,q3⟩:=hs.mp n p ks hn2 hp hm
   exact⟨q1,es,cl,by rw[heap_alloc_lt _ _ _ (hs.lt n p hn2 hp)];exact q2,q3⟩
 ·obtain⟨a,cs,b⟩:=hs.gl n hn'
  exact⟨by simp;omega,cs,by rw[upd_other _ _ (by omega)];exact b⟩
 ·by_cases e:n=m.size
  ·subst e;simp at hm
  ·rw[upd_other _ _ e]at hp
   simp only[Mem.blk_pushB,if_neg e]at hm
   have hn2:n<m.size:=by simp at hn';omega
   obtain⟨c',q2⟩:=hs.ct n p hn2 hp hm
   exact⟨c',by rw[heap_alloc_lt _ _ _ (hs.lt n p hn2 hp)];exact q2⟩
 ·rw[upd_other]
  intro e
  subst e
  simp at hn'
 ·have:n=m.size:=by simp at h2;omega
  subst this
  rw[upd_same]at h3
  simp at h3
  subst h3
  exact .inl (Nat.le_refl _)
theorem astep_pushB (fl:Nat) (m:Mem) (b:Blk):AStep fl m (m.pushB b):=
 ⟨by simp,fun n hn _=>by simp;omega,fun n hn=>by simp;rw[if_neg (by omega)];simp⟩
theorem sok_lookup {t n:Nat} {ks:List (List UInt8)} {s:ByteArray} {mv kv:Value} (hs:Sim β m w) (ht:tMapB P t=true) (hn:n<m.size) (hm:(m.blk n).mode= .mp ks) (h1:VRel β (.map (some n)) mv) (h2:VRel β (.str s) kv):
  SOk P fl β m w (Instr.lookup t mv kv false) (.bool (ks.contains s.data.toList)) m:=by
 cases h1 with
 |map _ p hb=>
 cases h2
 obtain⟨k,e,g1,g2,g3⟩:=tMapB_some ht
 obtain⟨_,es,cl,q1,q2⟩:=hs.mp n p ks hn hb hm
 have hsd:s=⟨s.data.toList.toArray⟩:=by cases s;simp
 refine .same hs (cv:= .bool (ks.contains s.data.toList)) ?_ (.bool _)
 unfold Instr.lookup
 simp only[Sem.run_bind,run_und g1,Result.andThen_ok,MapKept.run_getObj_map q1,Sem.run_pure,run_checkStr g2]
 rw[hsd,run_findStr g2 q2]
 by_cases hx:s.data.toList∈ks
 ·simp[hx]
 ·simp[hx,g3]
theorem sok_mapSet {t n:Nat} {ks:List (List UInt8)} {s:ByteArray} {mv kv xv:Value} (hs:Sim β m w) (ht:tMapB P t=true) (hf:fl≤n) (hn:n<m.size) (hm:(m.blk n).mode= .mp ks) (h1:VRel β (.map (some n)) mv) (h2:VRel β (.str s) kv) (h3:VRel β (.bool true) xv):
  ∃w',(Instr.mapUpdate t mv kv xv).run P w= .ok () w'∧Post fl β m w (m.put n ⟨[], .mp (addKey ks s.data.toList)⟩) β w':=by
 cases h1 with
 |map _ p hb=>
 cases h2
 cases h3
 obtain⟨k,e,g1,g2,g3⟩:=tMapB_some ht
 obtain⟨q0,es,cl,q1,q2⟩:=hs.mp n p ks hn hb hm
 obtain⟨L,rfl⟩:∃L:List UInt8,s=⟨L.toArray⟩:=⟨s.data.toList,by cases s;simp⟩
 show ∃w',_∧Post fl β m w (m.put n ⟨[], .mp (addKey ks L)⟩) β w'
 have hwr:(m.blk n).mode.wr=true:=by rw[hm];rfl
 have key:∀(es':Array MapEntry) (cl':Nat),MapHas es' (addKey ks L)→Post fl β m w (m.put n ⟨[], .mp (addKey ks L)⟩) β {w with heap:=w.heap.setIfInBounds p.cb (.map es' cl')}:=by
  intro es' cl' hes
  have hlt:=hs.lt n p hn hb
  have hother:∀j,j≠p.cb→(w.heap.setIfInBounds p.cb (.map es' cl'))[j]? =w.heap[j]? :=fun j hj=>Array.getElem?_setIfInBounds_ne (fun q=>hj q.symm)
  have hcell:∀a:Addr,a.block≠p.cb→World.cell? {w with heap:=w.heap.setIfInBounds p.cb (.map es' cl')} a=w.cell? a:=fun a ha=>by
   unfold World.cell?;simp only[hother _ ha]
  refine⟨⟨fun n' p' hn' hp'=>by simpa using hs.lt n' p' (by simpa using hn') hp',fun n' p' hn' hp' hm' i a ha=> ?_,fun n' p' hn' hp' hm'=> ?_,fun n1 p1 n2 p2 g1 g2 g3 g4 g5 g6 g7=> ?_,fun n' p' ks' hn' hp' hm'=> ?_,hs.gl,fun n' p' hn' hp' hm'=> ?_,hs.gz.of fun k _ c1 e1 f1 hc1=>by
   by_cases hk:k=p.cb
   ·subst hk;simp[hlt]at hc1
   ·rw[hother k hk]at hc1;exact⟨_,_,_,hc1,rfl⟩⟩,fun _ _=>rfl,fun n' p' q1 q2 _=>by simp at q2;omega,fun j hj hw=> ?_,rfl,rfl,rfl,by simp⟩
  ·have e':n'≠n:=by intro e';subst e';simp at hm'
   simp only[Mem.blk_put,if_neg e']at hm' ha
   obtain⟨u,k1,k2⟩:=hs.ro n' p' (by simpa using hn') hp' hm' i a ha
   have hne:p.cb≠p'.cb:=hs.ex n p n' p' hn (by simpa using hn') (fun q=>e' q.symm) hb hp' hwr (by rw[hm'];simp)
   exact⟨u,by rw[hcell _ (fun q=>hne q.symm)];exact k1,k2⟩
  ·have e':n'≠n:=by intro e';subst e';simp at hm'
   simp only[Mem.blk_put,if_neg e']at hm'⊢
   obtain⟨c',f',k1,k2,k3,k4⟩:=hs.rw n' p' (by simpa using hn') hp' hm'
   have hne:p.cb≠p'.cb:=hs.ex n p n' p' hn (by simpa using hn') (fun q=>e' q.symm) hb hp' hwr (by rw[hm'];simp)
   exact⟨c',f',by rw[hother _ (fun q=>hne q.symm)];exact k1,k2,k3,k4⟩
  ·refine hs.ex n1 p1 n2 p2 (by simpa using g1) (by simpa using g2) g3 g4 g5 ?_ ?_
   ·by_cases e1:n1=n
    ·subst e1;exact hwr
    ·simpa[e1]using g6
   ·by_cases e1:n2=n
    ·subst e1;rw[hm];simp
    ·simpa[e1]using g7
  ·by_cases e':n'=n
   ·subst e'
    rw[hb]at hp';simp at hp';subst hp'
    simp at hm'
    subst hm'
    exact⟨by simp,es',cl',by simp[hlt],hes⟩
   ·simp only[Mem.blk_put,if_neg e']at hm'⊢
    obtain⟨r1,es2,cl2,r2,r3⟩:=hs.mp n' p' ks' (by simpa using hn') hp' hm'
    have hne:p.cb≠p'.cb:=hs.ex n p n' p' hn (by simpa using hn') (fun q=>e' q.symm) hb hp' hwr (by rw[hm'];simp)
    exact⟨r1,es2,cl2,by rw[hother _ (fun q=>hne q.symm)];exact r2,r3⟩
  ·have e':n'≠n:=by intro e';subst e';simp at hm'
   simp only[Mem.blk_put,if_neg e']at hm'
   obtain⟨c2,r2⟩:=hs.ct n' p' (by simpa using hn') hp' hm'
   have hne:p.cb≠p'.cb:=hs.ex n p n' p' hn (by simpa using hn') (fun q=>e' q.symm) hb hp' hwr (by rw[hm'];simp)
   exact⟨c2,by rw[hother _ (fun q=>hne q.symm)];exact r2⟩
  ·exact hother j (fun q=>hw ⟨n,p,hf,hn,hb,hwr,q.symm⟩)
 unfold Instr.mapUpdate
 simp only[Sem.run_bind,run_und g1,Result.andThen_ok,MapKept.run_getObj_map q1,run_checkStr g2]
 rw[run_findStr g2 q2]
 by_cases hx:L∈ks
 ·
  have hlen:es.size=ks.length:=by have:=congrArg List.length q2;simpa using this
  have hi:ks.idxOf L<ks.length:=List.idxOf_lt_length_of_mem hx
  have hent:∀(j:Nat) (e:MapEntry),es[j]? =some e→∃k,ks[j]? =some k∧e.key= .string ⟨k.toArray⟩∧e.val= .bool true:=by
   intro j e he
   have h1:(es.toList.map fun e=>(e.key,e.val))[j]? =some (e.key,e.val):=by rw[List.getElem?_map];simp[he]
   rw[q2,List.getElem?_map]at h1
   cases hk:ks[j]? with
   |none=>rw[hk]at h1;cases h1
   |some k=>rw[hk]at h1;simp at h1;exact⟨k,rfl,h1.1.symm,h1.2.symm⟩
  have hes:es[ks.idxOf L]? =some (es[ks.idxOf L]'(by omega)):=Array.getElem?_eq_getElem (by omega)
  obtain⟨k0,hk0,hk1,hk2⟩:=hent _ _ hes
  have hk3:k0=L:=by
   rw[List.getElem?_eq_getElem hi,List.getElem_idxOf]at hk0
   simpa using hk0.symm
  subst hk3
  refine⟨_, ?_,key (es.modify (ks.idxOf k0) fun e=>{e with key:= .string ⟨k0.toArray⟩,val:= .bool true}) cl ?_⟩
  ·simp only[hx,if_true,Result.andThen_ok,Sem.run_bind,hes,Option.map_some,Option.getD_some,hk1,Instr.keyThatStays,Instr.sameBits,ba_beq,decide_true,Sem.run_pure]
   exact MapKept.run_setObj_map _ q1
  ·unfold MapHas addKey
   rw[if_pos hx,←q2]
   apply List.ext_getElem (by simp)
   intro j h1 h2
   simp only[List.getElem_map,Array.getElem_toList,Array.getElem_modify]
   split
   ·rename_i he
    subst he
    simp[hk1,hk2]
   ·rfl
 ·refine⟨_, ?_,key (es.push {key:= .string ⟨L.toArray⟩,val:= .bool true,born:=cl}) (cl+1) ?_⟩
  ·simp only[hx,if_false,Result.andThen_ok]
   exact MapKept.run_setObj_map _ q1
  ·unfold MapHas addKey
   rw[if_neg hx]
   simp only[Array.toList_push,List.map_append,List.map_cons,List.map_nil]
   rw[q2]
end maps
end Go.Ab
