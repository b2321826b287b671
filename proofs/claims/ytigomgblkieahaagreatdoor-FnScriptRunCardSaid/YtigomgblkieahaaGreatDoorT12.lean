/- What is proved here: the contract of a call out of that of the function: the callee sees of the caller's blocks those alone that it is handed; slices that are lent are read alone. -/
import Derived.Test.YtigomgblkieahaaGreatDoorT11
namespace Go.Ab
set_option linter.unusedVariables false
set_option linter.unusedSimpArgs false
mutual
theorem ownS_np:∀s,noPure (ownS s)=true
 | .x=>rfl
 | .bl=>rfl
 | .own _=>rfl
 | .mv _=>rfl
 | .pure _=>rfl
 | .ag l=>ownL_np l
 | .pc l=>ownL_np l
theorem ownL_np:∀l,noPureL (ownL l)=true
 |[]=>rfl
 |s::l=>by simp only[ownL,noPureL,ownS_np s,ownL_np l];rfl
end
section lend
variable {c:Cfg} {A:Nat→Prop}
def lent (E:Nat→Option (Nat×Nat)) (bs:List Nat) (n:Nat):Bool:=bs.any fun b=>locB E b n
def Cfg.lend (c:Cfg) (bs:List Nat):Cfg:=⟨c.E,killB bs 0 c.tm,c.m.view (fun _=>false) (lent c.E bs),fun n=>c.F n∨(lent c.E bs n=true∧n<c.m.size∧(c.m.blk n).mode≠ .dead),c.N⟩
theorem kill_get {bs:List Nat}:∀{tm:TMem} {k j:Nat},(killB bs k tm)[j]? =(tm[j]?).map fun b=>bif memB bs (k+j)then⟨true, .dead⟩else b
 |[],k,j=>by simp[killB]
 |b::r,k,0=>by simp[killB]
 |b::r,k,j+1=>by
  simp only[killB,List.getElem?_cons_succ,kill_get]
  rw[show k+1+j=k+(j+1) by omega]
theorem kill_len {bs:List Nat}:∀{tm:TMem} {k:Nat},(killB bs k tm).length=tm.length
 |[],k=>rfl
 |b::r,k=>by simp[killB,kill_len]
theorem kill_get0 {bs:List Nat} {tm:TMem} {j:Nat}:(killB bs 0 tm)[j]? =(tm[j]?).map fun b=>bif memB bs j then⟨true, .dead⟩else b:=by
 have:=kill_get (bs:=bs) (tm:=tm) (k:=0) (j:=j)
 rw[Nat.zero_add]at this;exact this
theorem kill_back {bs:List Nat} {tm:TMem} {j:Nat} {b:TB} (h:(killB bs 0 tm)[j]? =some b) (hd:b.k≠ .dead):tm[j]? =some b∧memB bs j=false:=by
 rw[kill_get0]at h
 obtain⟨b',h1,h2⟩:=Option.map_eq_some_iff.1 h
 cases hm:memB bs j with
 |true=>rw[hm]at h2;subst h2;exact absurd rfl hd
 |false=>rw[hm]at h2;subst h2;exact⟨h1,rfl⟩
theorem mem_memB:∀{l:List Nat} {k:Nat},k∈l→memB l k=true
 |[],k,h=>by simp at h
 |a::l,k,h=>by
  simp only[memB]
  cases hb:Nat.beq a k with
  |true=>rfl
  |false=>
   have hne:a≠k:=by rintro rfl;simp at hb
   simp only[cond_false]
   rcases List.mem_cons.1 h with e|e
   ·exact absurd e.symm hne
   ·exact mem_memB e
theorem lend_blk {bs:List Nat} (n:Nat):((c.m.view (fun _=>false) (lent c.E bs)).blk n)=if lent c.E bs n=true then(c.m.blk n).roify else c.m.blk n:=by simp[Mem.view]
theorem lend_mv (R:RM c A) (bs:List Nat):Mv c (c.lend bs):=by
 have fz:∀n,n<c.m.size∧(c.m.blk n).mode= .ro→(c.lend bs).m.blk n=c.m.blk n:=by
  intro n h
  show(c.m.view _ _).blk n=_
  rw[lend_blk]
  split
  ·simp[Blk.roify,h.2,Mode.wr]
  ·rfl
 have get:∀{k:Nat} {b:TB},c.tm[k]? =some b→(c.lend bs).tm[k]? =some (bif memB bs k then⟨true, .dead⟩else b):=fun hb=>by
  show(killB bs 0 c.tm)[_]? =_
  rw[kill_get0,hb];rfl
 refine⟨by show _≤(killB bs 0 c.tm).length;rw[kill_len];exact Nat.le_refl _,fun _ _=>rfl,fun k b e n h1 h2=>⟨_,get h1, ?_⟩,fun k b h1 h2=>⟨_,get h1, ?_⟩,fun n hn=>⟨.inl hn,fz n (R.fz n hn)⟩,fun n hn=>⟨hn,fz n (R.nf n hn)⟩⟩
 ·cases memB bs k
  ·exact .inr h2
  ·exact .inl rfl
 ·cases memB bs k
  ·exact h2
  ·rfl
def LentOk (c:Cfg) (bs:List Nat):Prop:=∀b,b∈bs→∃w e l,c.tm[b]? =some ⟨w, .list e l⟩
theorem lend_rm (R:RM c A) {bs:List Nat} (hbs:LentOk c bs):RM (c.lend bs) A:=by
 have hmv:=lend_mv R bs
 have far:∀{k:Nat} {b:TB} {n p:Nat},c.tm[k]? =some b→b.w=true→b.k≠ .dead→c.E k=some (n,p)→memB bs k=false→lent c.E bs n=false:=by
  intro k b n p hb hw hd hE hm
  cases hl:lent c.E bs n
  ·rfl
  ·unfold lent at hl
   rw[List.any_eq_true]at hl
   obtain⟨j,hj,hq⟩:=hl
   obtain⟨w,e,l,hjb⟩:=hbs j hj
   unfold locB at hq
   split at hq
   ·rename_i n' q hE'
    have:=Nat.eq_of_beq_eq_true hq
    subst this
    have hne:k≠j:=by
     rintro rfl
     rw[mem_memB hj]at hm;cases hm
    exact absurd rfl (R.inj k j b _ n' p n' q hne hb hjb hw hd (by simp) hE hE')
   ·cases hq
 have blk:∀n,((c.lend bs).m.blk n)=if lent c.E bs n=true then(c.m.blk n).roify else c.m.blk n:=fun n=>lend_blk n
 have cells:∀n,((c.lend bs).m.blk n).cells=(c.m.blk n).cells:=fun n=>view_cells _ _ _
 have mode:∀n,(c.m.blk n).mode≠ .dead→((c.lend bs).m.blk n).mode≠ .dead:=fun n h=>by
  rw[blk]
  split
  ·exact fun q=>h (Blk.roify_dead.1 q)
  ·exact h
 refine⟨fun k w l hk=> ?_,fun k w e l hk=> ?_,fun k k' b b' n p n' p' hne hk hk' hw hd hd' h1 h2=> ?_,fun n hn=> ?_,fun k b n p hk hd h1=> ?_,fun n hn=> ?_,fun k ks hk=> ?_,R.gv.mv hmv⟩
 ·obtain⟨hb,hm⟩:=kill_back hk (by simp)
  obtain⟨n,p,g1,g2,g3,g4,g5,g6⟩:=R.cells k w l hb
  refine⟨n,p,g1,g2,mode n g3,fun hw=> ?_,by rw[cells];exact g5,fun i t ht=>let ⟨a,q1,q2⟩:=g6 i t ht;⟨a,by rw[cells];exact q1,q2.mv hmv⟩⟩
  rw[blk,far hb hw (by simp) g1 hm]
  simpa using g4 hw
 ·obtain⟨hb,hm⟩:=kill_back hk (by simp)
  rcases R.list k w e l hb with g|⟨n,p,g1,g2,g3,g4,g5,g6⟩
  ·exact .inl g
  ·refine .inr ⟨n,p,g1,g2,mode n g3,fun hw=> ?_,by rw[cells];exact g5,fun i x j t r1 r2=>let ⟨a,q1,q2⟩:=g6 i x j t r1 r2;⟨a,by rw[cells];exact q1,q2.mv hmv⟩⟩
   rw[blk,far hb hw (by simp) g1 hm]
   simpa using g4 hw
 ·obtain⟨hb,_⟩:=kill_back hk hd
  obtain⟨hb',_⟩:=kill_back hk' hd'
  exact R.inj k k' b b' n p n' p' hne hb hb' hw hd hd' h1 h2
 ·rcases hn with hn|⟨h1,h2,h3⟩
  ·have:=R.fz n hn
   refine⟨this.1, ?_⟩
   rw[blk]
   split
   ·simp[Blk.roify,this.2,Mode.wr]
   ·exact this.2
  ·refine⟨h2, ?_⟩
   rw[blk,if_pos h1]
   unfold Blk.roify
   split
   ·rfl
   ·rename_i h
    cases hm:(c.m.blk n).mode
    ·rfl
    ·rw[hm]at h;exact absurd rfl h
    ·exact absurd hm h3
    ·rw[hm]at h;exact absurd rfl h
 ·obtain⟨hb,_⟩:=kill_back hk hd
  exact R.low k b n p hb hd h1
 ·have:=R.nf n hn
  refine⟨this.1, ?_⟩
  rw[blk]
  split
  ·simp[Blk.roify,this.2,Mode.wr]
  ·exact this.2
 ·obtain⟨hb,hm⟩:=kill_back hk (by simp)
  obtain⟨n,p,g1,g2,g3,g4⟩:=R.keys k ks hb
  refine⟨n,p,g1,g2, ?_,g4⟩
  rw[blk,far hb rfl (by simp) g1 hm]
  simpa using g3
theorem lend_list (R:RM c A) {bs:List Nat} {k:Nat} (hk:k∈bs) {w:Bool} {e:EK} {l:List e.T} (h:c.tm[k]? =some ⟨w, .list e l⟩) {a:AVal} (r:RV c (.sl k) a):RV (c.lend bs) (.pl e l) a:=by
 have hmv:=lend_mv R bs
 rcases rv_sl h r with⟨n,p,cap,hE,rfl⟩|⟨_,rfl,hnz⟩
 ·rcases R.list k _ _ _ h with⟨q1,_⟩|⟨n',p',q1,q2,q3,q4,q5,q6⟩
  ·rw[hE]at q1;cases q1
  rw[hE]at q1;simp at q1;obtain⟨rfl,rfl⟩:=q1
  have hl:lent c.E bs n=true:=by
   unfold lent
   rw[List.any_eq_true]
   exact⟨k,hk,by simp[locB,hE]⟩
  have cells:((c.lend bs).m.blk n).cells=(c.m.blk n).cells:=view_cells _ _ _
  refine .pl e l n p cap (fun i=>((c.m.blk n).cells[p+i]?).getD .any) (.inr ⟨hl,q2,q3⟩) (by rw[cells];omega) (fun i hi=> ?_) (fun i x j t h1 h2=> ?_)
  ·rw[cells,List.getElem?_eq_getElem (show p+i<(c.m.blk n).cells.length by omega)];rfl
  ·obtain⟨a,s1,s2⟩:=q6 i x j t h1 h2
   rw[Nat.add_assoc]at s1
   simp only[s1,Option.getD_some]
   exact s2.mv hmv
 ·refine .plE _ _ ?_
  rcases hnz with h|⟨n,o,h,_⟩
  ·exact .inl h
  ·exact .inr (.inr ⟨n,o,_,h⟩)
theorem lend_view (R:RM c A) {bs:List Nat} {k:Nat} (hk:k∈bs) {w:Bool} {e:EK} {s:List e.T} (h:c.tm[k]? =some ⟨w, .list e s⟩) {l q:Int} {a:AVal} (r:RV c (.sv k l q) a):RV (c.lend bs) (.pl e ((s.take q.toNat).drop l.toNat)) a:=by
 have hmv:=lend_mv R bs
 cases r with
 |svD _ _ _ b' hb' hd _ ho=>rw[h]at hb';simp at hb';subst hb';cases hd
 |svE _ b' e2 _ hb' hs ha=>
  rw[h]at hb';simp at hb';subst hb'
  simp[TK.shape]at hs
  obtain⟨rfl,hs⟩:=hs
  simp only[Int.toNat_zero,List.take_zero,List.drop_nil]
  refine .plE _ _ ?_
  rcases ha with ha|⟨n,o,ha,_⟩
  ·exact .inl ha
  ·exact .inr (.inr ⟨n,o,_,ha⟩)
 |sv _ _ _ b' e2 len n p cap hb' hs hE h0 h1 h2=>
  rw[h]at hb';simp at hb';subst hb'
  simp[TK.shape]at hs
  obtain⟨rfl,rfl⟩:=hs
  rcases R.list k _ _ _ h with⟨q1,_⟩|⟨n',p',q1,q2,q3,q4,q5,q6⟩
  ·rw[hE]at q1;cases q1
  rw[hE]at q1;simp at q1;obtain⟨rfl,rfl⟩:=q1
  have hl:lent c.E bs n=true:=by
   unfold lent
   rw[List.any_eq_true]
   exact⟨k,hk,by simp[locB,hE]⟩
  have cells:((c.lend bs).m.blk n).cells=(c.m.blk n).cells:=view_cells _ _ _
  have hlen:((s.take q.toNat).drop l.toNat).length=q.toNat-l.toNat:=by simp;omega
  have hmul:(l.toNat+(q.toNat-l.toNat))*e.es≤s.length*e.es:=Nat.mul_le_mul_right _ (by omega)
  rw[Nat.add_mul]at hmul
  rw[←hlen]
  refine .pl e _ n (p+l.toNat*e.es) cap (fun i=>((c.m.blk n).cells[p+l.toNat*e.es+i]?).getD .any) (.inr ⟨hl,q2,q3⟩) (by rw[cells,hlen];omega) (fun i hi=> ?_) (fun i x j t h1 h2=> ?_)
  ·rw[hlen]at hi
   rw[cells,List.getElem?_eq_getElem (show p+l.toNat*e.es+i<(c.m.blk n).cells.length by omega)];rfl
  ·rw[List.getElem?_drop,List.getElem?_take]at h1
   split at h1
   ·obtain⟨a,s1,s2⟩:=q6 _ x j t h1 h2
    rw[Nat.add_mul,show p+(l.toNat*e.es+i*e.es)+j=p+l.toNat*e.es+(i*e.es+j) by omega]at s1
    simp only[s1,Option.getD_some]
    exact s2.mv hmv
   ·cases h1
mutual
theorem bor_lent:∀(s:Sh) {v v':TV} {bs:List Nat},borT c.tm s v=some (v',bs)→LentOk c bs
 | .x,v,v',bs,h=>by simp[borT]at h;obtain⟨_,rfl⟩:=h;intro b hb;simp at hb
 | .bl,v,v',bs,h=>by simp[borT]at h;obtain⟨_,rfl⟩:=h;intro b hb;simp at hb
 | .mv e,v,v',bs,h=>by simp[borT]at h;obtain⟨_,rfl⟩:=h;intro b hb;simp at hb
 | .own e,v,v',bs,h=>by simp[borT]at h;obtain⟨_,rfl⟩:=h;intro b hb;simp at hb
 | .pc ss,v,v',bs,h=>by simp[borT]at h;obtain⟨_,rfl⟩:=h;intro b hb;simp at hb
 | .pure e,v,v',bs,h=>by
  cases v with
  |nil=>simp[borT]at h;obtain⟨_,rfl⟩:=h;intro b hb;simp at hb
  |nz es=>
   simp only[borT]at h
   cases hb:Nat.beq es e.es<;>rw[hb]at h<;>simp at h
   obtain⟨_,rfl⟩:=h;intro b hb;simp at hb
  |pl e l=>simp[borT]at h;obtain⟨_,rfl⟩:=h;intro b hb;simp at hb
  |sl k=>
   simp only[borT]at h
   split at h
   ·rename_i w e' l hb
    simp at h
    obtain⟨_,rfl⟩:=h
    intro b hb'
    simp at hb'
    subst hb'
    exact⟨w,e',l,hb⟩
   ·cases h
  |sv k l q=>
   simp only[borT]at h
   split at h
   ·rename_i w e' s hb
    simp at h
    obtain⟨_,rfl⟩:=h
    intro b hb'
    simp at hb'
    subst hb'
    exact⟨w,e',s,hb⟩
   ·cases h
  |_=>simp[borT]at h
 | .ag ss,v,v',bs,h=>by
  cases v with
  |agg vs=>
   simp only[borT]at h
   split at h
   ·rename_i vs' bs' h2
    simp at h
    obtain⟨_,rfl⟩:=h
    exact borL_lent ss h2
   ·cases h
  |_=>simp[borT]at h
theorem borL_lent:∀(ss:List Sh) {vs vs':List TV} {bs:List Nat},borL c.tm ss vs=some (vs',bs)→LentOk c bs
 |[],vs,vs',bs,h=>by
  cases vs with
  |nil=>simp[borL]at h;obtain⟨_,rfl⟩:=h;intro b hb;simp at hb
  |cons v vs=>simp[borL]at h
 |s::ss,vs,vs',bs,h=>by
  cases vs with
  |nil=>simp[borL]at h
  |cons v vs=>
   simp only[borL]at h
   split at h
   ·rename_i v1 bs1 vs1 bs2 h1 h2
    simp at h
    obtain⟨_,rfl⟩:=h
    intro b hb
    rcases List.mem_append.1 hb with hb|hb
    ·exact bor_lent s h1 b hb
    ·exact borL_lent ss h2 b hb
   ·cases h
end
mutual
theorem bor_rv (R:RM c A) (BS:List Nat):∀(s:Sh) {v v':TV} {bs:List Nat} {a:AVal},borT c.tm s v=some (v',bs)→(∀b,b∈bs→b∈BS)→RV c v a→RV (c.lend BS) v' a
 | .x,v,v',bs,a,h,_,r=>by simp[borT]at h;obtain⟨rfl,_⟩:=h;exact r.mv (lend_mv R BS)
 | .bl,v,v',bs,a,h,_,r=>by simp[borT]at h;obtain⟨rfl,_⟩:=h;exact r.mv (lend_mv R BS)
 | .mv e,v,v',bs,a,h,_,r=>by simp[borT]at h;obtain⟨rfl,_⟩:=h;exact r.mv (lend_mv R BS)
 | .own e,v,v',bs,a,h,_,r=>by simp[borT]at h;obtain⟨rfl,_⟩:=h;exact r.mv (lend_mv R BS)
 | .pc ss,v,v',bs,a,h,_,r=>by simp[borT]at h;obtain⟨rfl,_⟩:=h;exact r.mv (lend_mv R BS)
 | .pure e,v,v',bs,a,h,hs,r=>by
  cases v with
  |nil=>simp[borT]at h;obtain⟨rfl,_⟩:=h;cases r;exact .plE _ _ (.inl rfl)
  |nz es=>
   simp only[borT]at h
   cases hb:Nat.beq es e.es with
   |false=>rw[hb]at h;cases h
   |true=>
   rw[hb]at h
   simp at h
   obtain⟨rfl,_⟩:=h
   have:=Nat.eq_of_beq_eq_true hb
   subst this
   cases r with
   |nz _ _ ha=>
   refine .plE _ _ ?_
   rcases ha with h|⟨n,o,h,_⟩
   ·exact .inl h
   ·exact .inr (.inr ⟨n,o,_,h⟩)
  |pl e l=>simp[borT]at h;obtain⟨rfl,_⟩:=h;exact r.mv (lend_mv R BS)
  |sl k=>
   simp only[borT]at h
   split at h
   ·rename_i w e' l hb
    simp at h
    obtain⟨rfl,rfl⟩:=h
    exact lend_list R (hs k (by simp)) hb r
   ·cases h
  |sv k l q=>
   simp only[borT]at h
   split at h
   ·rename_i w e' s hb
    simp at h
    obtain⟨rfl,rfl⟩:=h
    exact lend_view R (hs k (by simp)) hb r
   ·cases h
  |_=>simp[borT]at h
 | .ag ss,v,v',bs,a,h,hs,r=>by
  cases v with
  |agg vs=>
   simp only[borT]at h
   split at h
   ·rename_i vs' bs' h2
    simp at h
    obtain⟨rfl,rfl⟩:=h
    cases r with
    |agg _ as hl hr=>
    have:=borL_rv R BS ss h2 hs ⟨hl,hr⟩
    exact .agg _ _ this.1 this.2
   ·cases h
  |_=>simp[borT]at h
theorem borL_rv (R:RM c A) (BS:List Nat):∀(ss:List Sh) {vs vs':List TV} {bs:List Nat} {as:List AVal},borL c.tm ss vs=some (vs',bs)→(∀b,b∈bs→b∈BS)→LV c vs as→LV (c.lend BS) vs' as
 |[],vs,vs',bs,as,h,_,r=>by
  cases vs with
  |nil=>simp[borL]at h;obtain⟨rfl,_⟩:=h;exact⟨r.1,fun i t a h=>by simp at h⟩
  |cons v vs=>simp[borL]at h
 |s::ss,vs,vs',bs,as,h,hs,r=>by
  cases vs with
  |nil=>simp[borL]at h
  |cons v vs=>
   simp only[borL]at h
   split at h
   ·rename_i v1 bs1 vs1 bs2 h1 h2
    simp at h
    obtain⟨e1,e2⟩:=h
    subst e1
    match as,r with
    |[],r=>exact absurd r.1 (by simp)
    |a::as,r=>
     have g1:=bor_rv R BS s h1 (fun b hb=>hs b (by rw[←e2];exact List.mem_append.2 (.inl hb))) (r.2 0 v a (by simp) (by simp))
     have g2:=borL_rv R BS ss h2 (fun b hb=>hs b (by rw[←e2];exact List.mem_append.2 (.inr hb))) ⟨by have:=r.1;simpa using this,fun i t a h1 h2=>r.2 (i+1) t a (by simpa using h1) (by simpa using h2)⟩
     exact(LV.single g1).append g2
   ·cases h
end
end lend
structure Rn0 (ρ:Nat→Option Nat) (c c':Cfg):Prop where
 len:∀k k',ρ k=some k'→k<c.tm.length→k'<c'.tm.length
 e:∀k k',ρ k=some k'→k<c.tm.length→c'.E k'=c.E k
 sh:∀(k k':Nat) b,ρ k=some k'→c.tm[k]? =some b→∃b',c'.tm[k']? =some b'∧(b'.k= .dead∨(b.k≠ .dead∧b'.k.shape=b.k.shape))
 nz:∀n,c.N n→c'.N n∧c'.m.blk n=c.m.blk n
theorem noPlL_mem:∀{l:List TV},noPlL l=true→∀(i:Nat) t,l[i]? =some t→noPlT t=true
 |[],_,i,t,h=>by simp at h
 |v::vs,h,i,t,ht=>by
  simp only[noPlL,Bool.and_eq_true]at h
  cases i with
  |zero=>simp at ht;subst ht;exact h.1
  |succ i=>exact noPlL_mem h.2 i t (by simpa using ht)
theorem NzA.rn0 {ρ:Nat→Option Nat} {c c':Cfg} (h:Rn0 ρ c c') {es:Nat} {a:AVal} (r:NzA c es a):NzA c' es a:=by
 rcases r with r|⟨n,o,h1,h2,h3⟩
 ·exact .inl r
 ·obtain⟨g1,g2⟩:=h.nz n h2
  exact .inr ⟨n,o,h1,g1,by rw[g2];exact h3⟩
theorem RV.rn0 {ρ:Nat→Option Nat} {c c':Cfg} (h:Rn0 ρ c c') {t:TV} {a:AVal} (r:RV c t a):noPlT t=true→RV c' (renT ρ t) a:=by
 induction r with
 |any a=>intro _;exact .any a
 |tt=>intro _;exact .tt
 |ff=>intro _;exact .ff
 |bool b=>intro _;exact .bool b
 |int k n=>intro _;exact .int k n
 |str l=>intro _;exact .str l
 |nilp=>intro _;exact .nilp
 |nilfn=>intro _;exact .nilfn
 |nili=>intro _;exact .nili
 |nilm=>intro _;exact .nilm
 |nil=>intro _;exact .nil
 |nz es a ha=>intro _;exact .nz es a (ha.rn0 h)
 |ptr k o n p hk hE=>
  intro _
  simp only[renT]
  cases hρ:ρ k with
  |none=>exact .any _
  |some k'=>exact .ptr k' o n p (h.len k k' hρ hk) ((h.e k k' hρ hk).trans hE)
 |mp k n p hk hE=>
  intro _
  simp only[renT]
  cases hρ:ρ k with
  |none=>exact .any _
  |some k'=>exact .mp k' n p (h.len k k' hρ hk) ((h.e k k' hρ hk).trans hE)
 |er b a hb=>
  intro _
  exact .er b a hb
 |sbD k b hb hd a ho=>
  intro _
  simp only[renT]
  cases hρ:ρ k with
  |none=>exact .any _
  |some k'=>
   obtain⟨b',h1,h2⟩:=h.sh k k' b hρ hb
   rcases h2 with h2|h2
   ·exact .sbD k' b' h1 h2 a ho
   ·exact absurd hd h2.1
 |sbV k b hb hs hE=>
  intro _
  simp only[renT]
  cases hρ:ρ k with
  |none=>exact .any _
  |some k'=>
   obtain⟨b',h1,h2⟩:=h.sh k k' b hρ hb
   rcases h2 with h2|h2
   ·exact .sbD k' b' h1 h2 _ rfl
   ·exact .sbV k' b' h1 (h2.2.trans hs) ((h.e k k' hρ (getElem?_lt hb)).trans hE)
 |sb k b len n hb hs hE=>
  intro _
  simp only[renT]
  cases hρ:ρ k with
  |none=>exact .any _
  |some k'=>
   obtain⟨b',h1,h2⟩:=h.sh k k' b hρ hb
   rcases h2 with h2|h2
   ·exact .sbD k' b' h1 h2 _ rfl
   ·exact .sb k' b' len n h1 (h2.2.trans hs) ((h.e k k' hρ (getElem?_lt hb)).trans hE)
 |slf k o n t hk hE=>
  intro _
  simp only[renT]
  cases hρ:ρ k with
  |none=>exact .any _
  |some k'=>exact .slf k' o n t (h.len k k' hρ hk) ((h.e k k' hρ hk).trans hE)
 |slD k b hb hd a ho=>
  intro _
  simp only[renT]
  cases hρ:ρ k with
  |none=>exact .any _
  |some k'=>
   obtain⟨b',h1,h2⟩:=h.sh k k' b hρ hb
   rcases h2 with h2|h2
   ·exact .slD k' b' h1 h2 a ho
   ·exact absurd hd h2.1
 |sl k b e len n p cap hb hs hE=>
  intro _
  simp only[renT]
  cases hρ:ρ k with
  |none=>exact .any _
  |some k'=>
   obtain⟨b',h1,h2⟩:=h.sh k k' b hρ hb
   rcases h2 with h2|h2
   ·exact .slD k' b' h1 h2 _ rfl
   ·exact .sl k' b' e len n p cap h1 (h2.2.trans hs) ((h.e k k' hρ (getElem?_lt hb)).trans hE)
 |slV k b e a hb hs hE ha=>
  intro _
  simp only[renT]
  cases hρ:ρ k with
  |none=>exact .any _
  |some k'=>
   obtain⟨b',h1,h2⟩:=h.sh k k' b hρ hb
   rcases h2 with h2|h2
   ·exact .slD k' b' h1 h2 _ ha.one
   ·exact .slV k' b' e a h1 (h2.2.trans hs) ((h.e k k' hρ (getElem?_lt hb)).trans hE) (ha.rn0 h)
 |plE e a ha=>intro hn;cases hn
 |pl e l n p cap cs hF hp hc hr ih=>intro hn;cases hn
 |eptrD k i j b hb hd a ho=>
  intro _
  simp only[renT]
  cases hρ:ρ k with
  |none=>exact .any _
  |some k'=>
   obtain⟨b',h1,h2⟩:=h.sh k k' b hρ hb
   rcases h2 with h2|h2
   ·exact .eptrD k' i j b' h1 h2 a ho
   ·exact absurd hd h2.1
 |eptr k i j b e len n p hb hs hE h0 h1=>
  intro _
  simp only[renT]
  cases hρ:ρ k with
  |none=>exact .any _
  |some k'=>
   obtain⟨b',g1,g2⟩:=h.sh k k' b hρ hb
   rcases g2 with g2|g2
   ·exact .eptrD k' i j b' g1 g2 _ rfl
   ·exact .eptr k' i j b' e len n p g1 (g2.2.trans hs) ((h.e k k' hρ (getElem?_lt hb)).trans hE) h0 h1
 |svD k l q b hb hd a ho=>
  intro _
  simp only[renT]
  cases hρ:ρ k with
  |none=>exact .any _
  |some k'=>
   obtain⟨b',h1,h2⟩:=h.sh k k' b hρ hb
   rcases h2 with h2|h2
   ·exact .svD k' l q b' h1 h2 a ho
   ·exact absurd hd h2.1
 |sv k l q b e len n p cap hb hs hE h0 h1 h2=>
  intro _
  simp only[renT]
  cases hρ:ρ k with
  |none=>exact .any _
  |some k'=>
   obtain⟨b',g1,g2⟩:=h.sh k k' b hρ hb
   rcases g2 with g2|g2
   ·exact .svD k' l q b' g1 g2 _ rfl
   ·exact .sv k' l q b' e len n p cap g1 (g2.2.trans hs) ((h.e k k' hρ (getElem?_lt hb)).trans hE) h0 h1 h2
 |svE k b e a hb hs ha=>
  intro _
  simp only[renT]
  cases hρ:ρ k with
  |none=>exact .any _
  |some k'=>
   obtain⟨b',h1,h2⟩:=h.sh k k' b hρ hb
   rcases h2 with h2|h2
   ·exact .svD k' 0 0 b' h1 h2 _ ha.one
   ·exact .svE k' b' e a h1 (h2.2.trans hs) (ha.rn0 h)
 |fptr ts n p cs hF hp hc hr ih=>intro hn;cases hn
 |agg ts as hl hr ih=>
  intro hn
  simp only[renT]
  have hn':noPlL ts=true:=hn
  exact .agg _ as (by rw[renL_map];simpa using hl) (fun i t a h1 h2=>by
   obtain⟨u,g1,rfl⟩:=renL_get h1
   exact ih i u a g1 h2 (noPlL_mem hn' i u g1))
 |tup ts as hl hr ih=>
  intro hn
  simp only[renT]
  have hn':noPlL ts=true:=hn
  exact .tup _ as (by rw[renL_map];simpa using hl) (fun i t a h1 h2=>by
   obtain⟨u,g1,rfl⟩:=renL_get h1
   exact ih i u a g1 h2 (noPlL_mem hn' i u g1))
 |fn f xs ys as bs h1 h2 r1 r2 i1 i2=>
  intro hn
  simp only[renT]
  have hn':(noPlL xs&&noPlL ys)=true:=hn
  rw[Bool.and_eq_true]at hn'
  exact .fn f _ _ as bs (by rw[renL_map];simpa using h1) (by rw[renL_map];simpa using h2) (fun i t a h1 h2=>by
   obtain⟨u,g1,rfl⟩:=renL_get h1
   exact i1 i u a g1 h2 (noPlL_mem hn'.1 i u g1)) (fun i t a h1 h2=>by
   obtain⟨u,g1,rfl⟩:=renL_get h1
   exact i2 i u a g1 h2 (noPlL_mem hn'.2 i u g1))
theorem enc_noPl {e:EK} (h:e≠ .ints∧e≠ .node) {x:e.T} {j:Nat} {t:TV} (ht:(enc e x)[j]? =some t):noPlT t=true:=by
 have:∀t∈enc e x,noPlT t=true:=by
  intro t ht
  cases e<;>simp[enc]at ht h
  case op=>rcases ht with h|h|h<;>subst h<;>rfl
  all_goals (subst ht;rfl)
 exact this t (List.mem_of_getElem? ht)
end Go.Ab
