/- What is proved here: the contract of a call out of that of the function. -/
import Derived.Test.YtigomgblkieahaaGreatDoorT12
namespace Go.Ab
set_option linter.unusedVariables false
set_option linter.unusedSimpArgs false
theorem blt_lt {a b:Nat} (h:Nat.blt a b=true):a<b:=Nat.le_of_ble_eq_true h
theorem lt_blt {a b:Nat} (h:a<b):Nat.blt a b=true:=Nat.ble_eq_true_of_le h
theorem idxB_some:∀{σ:List Nat} {k:Nat},k∈σ→∃j,idxB σ k=some j
 |[],k,h=>by simp at h
 |a::l,k,h=>by
  simp only[idxB]
  cases hb:Nat.beq a k with
  |true=>exact⟨0,rfl⟩
  |false=>
   have hne:a≠k:=by rintro rfl;simp at hb
   rcases List.mem_cons.1 h with e|e
   ·exact absurd e.symm hne
   ·obtain⟨j,hj⟩:=idxB_some e
    exact⟨j+1,by simp[hj]⟩
theorem idxB_of {σ:List Nat} (hn:σ.Nodup) {k j:Nat} (h:σ[j]? =some k):idxB σ k=some j:=by
 obtain⟨i,hi⟩:=idxB_some (List.mem_of_getElem? h)
 have:=(List.getElem?_inj (getElem?_lt (idxB_get hi)) hn).1 ((idxB_get hi).trans h.symm)
 rw[←this];exact hi
def wK (k:TK):Prop:=(∃l,k= .cells l)∨(∃e l,k= .list e l)∨∃ks,k= .keys ks
theorem wK_nd {k:TK} (h:wK k):k≠ .dead:=by
 rcases h with⟨l,rfl⟩|⟨e,l,rfl⟩|⟨ks,rfl⟩<;>simp
theorem useC_ok {P:Program} {f:FuncId} {sig:List Sh} {G:Con} (hG:CSound P f G):CSound P f (useC sig G):=by
 intro args K c h fl A aargs hA hN R hl
 unfold useC at h
 split at h
 case h_1=>exact h.elim
 rename_i args1 tm1 hco
 obtain⟨c1,rfl,R1,hl1,G1,hm1⟩:=coeL_ok _ hco R hl
 have hm1:=hm1 (ownL_np sig)
 split at h
 case h_1=>exact h.elim
 rename_i args2 bs hbo
 simp only at h
 have hlent:=borL_lent sig hbo
 have R2:=lend_rm R1 hlent
 have hl2:=borL_rv R1 bs sig hbo (fun _ h=>h) hl1
 generalize hσ:reach (killB bs 0 c1.tm) 400 [] (refsL args2)=σ at h
 cases hc:(nodupB σ&&σ.all (Nat.blt · c1.tm.length)&&bs.all (fun b=> !memB σ b))with
 |false=>rw[hc]at h;exact h.elim
 |true=>
 rw[hc]at h
 rw[Bool.and_eq_true,Bool.and_eq_true]at hc
 obtain⟨⟨hnd,hlt⟩,hdis⟩:=hc
 have hnd:=nodupB_nodup hnd
 have hlt:∀{j k:Nat},σ[j]? =some k→k<c1.tm.length:=fun hj=>blt_lt (List.all_eq_true.1 hlt _ (List.mem_of_getElem? hj))
 have hdis:∀{j k:Nat},σ[j]? =some k→memB bs k=false:=fun{j k} hj=>by
  cases hm:memB bs k with
  |false=>rfl
  |true=>
   have hmem:k∈bs:=by
    have key:∀(l:List Nat),memB l k=true→k∈l:=by
     intro l
     induction l with
     |nil=>intro h;cases h
     |cons a l ih=>
      intro h
      simp only[memB]at h
      cases hb:Nat.beq a k with
      |true=>rw[Nat.eq_of_beq_eq_true hb];simp
      |false=>rw[hb]at h;exact List.mem_cons_of_mem _ (ih h)
    exact key bs hm
   have:=List.all_eq_true.1 hdis k hmem
   have h2:=mem_memB (List.mem_of_getElem? hj)
   rw[h2]at this
   cases this
 simp only[cond_true]at h
 let cb:=c1.lend bs
 let cs:=cb.shrink σ
 have Rs:RM cs A:=shrink_rm R2 hnd
 have hls:LV cs (renL (idxB σ) args2) aargs:=hl2.rn shrink_rn
 have hEs:∀{j k:Nat},σ[j]? =some k→cs.E j=c1.E k:=fun hj=>by simp[cs,Cfg.shrink,hj];rfl
 have ent:∀{j:Nat} {b:TB},cs.tm[j]? =some b→b.k≠ .dead→∃k b1,σ[j]? =some k∧c1.tm[k]? =some b1∧b1.w=b.w∧b1.k.shape=b.k.shape∧b1.k≠ .dead∧memB bs k=false:=by
  intro j b hj hd
  obtain⟨k,g1,rfl⟩:=shrink_get hj
  obtain⟨s1,s2,s3⟩:=renB_shape (idxB σ) (getB cb.tm k)
  have hd1:(getB cb.tm k).k≠ .dead:=fun q=>hd (s3.2 q)
  have g2:=getB_some rfl hd1
  obtain⟨g3,g4⟩:=kill_back g2 hd1
  exact⟨k,_,g1,g3,s1.symm,s2.symm,hd1,g4⟩
 have ent':∀{j k:Nat} {b:TB},σ[j]? =some k→c1.tm[k]? =some b→cs.tm[j]? =some (renB (idxB σ) b):=by
  intro j k b hj hb
  have:cb.tm[k]? =some b:=by
   show(killB bs 0 c1.tm)[k]? =_
   rw[kill_get0,hb]
   simp[hdis hj]
  simp[cs,Cfg.shrink,hj,getB_of this]
 let Ac:Nat→Prop:=fun n=>A n∧(c1.m.size≤n∨∃(j:Nat) (b:TB) (p:Nat),cs.tm[j]? =some b∧b.w=true∧wK b.k∧cs.E j=some (n,p))
 have RsA:RM cs Ac:=by
  refine⟨fun k w l hk=> ?_,fun k w e l hk=> ?_,Rs.inj,Rs.fz,Rs.low,Rs.nf,fun k ks hk=> ?_,Rs.gv⟩
  ·obtain⟨n,p,g1,g2,g3,g4,g5,g6⟩:=Rs.cells k w l hk
   exact⟨n,p,g1,g2,g3,fun hw=>⟨(g4 hw).1,(g4 hw).2, .inr ⟨k,_,p,hk,hw, .inl ⟨l,rfl⟩,g1⟩⟩,g5,g6⟩
  ·rcases Rs.list k w e l hk with g|⟨n,p,g1,g2,g3,g4,g5,g6⟩
   ·exact .inl g
   ·exact .inr ⟨n,p,g1,g2,g3,fun hw=>⟨(g4 hw).1,(g4 hw).2, .inr ⟨k,_,p,hk,hw, .inr (.inl ⟨e,l,rfl⟩),g1⟩⟩,g5,g6⟩
  ·obtain⟨n,p,g1,g2,g3,g4⟩:=Rs.keys k ks hk
   exact⟨n,p,g1,g2,g3,g4, .inr ⟨k,_,p,hk,rfl, .inr (.inr ⟨ks,rfl⟩),g1⟩⟩
 have hsz1:c.m.size=c1.m.size:=by rw[hm1]
 obtain⟨v,c2,r0,hK,hrv,hd,R2c,S2⟩:=hG _ _ cs h fl Ac aargs (fun n hn=>hA n hn.1) (fun n hn=>⟨hN n (by rw[hsz1];exact hn), .inl hn⟩) RsA hls
 cases hcc:(Nat.ble σ.length c2.tm.length&&(c2.tm.drop σ.length).all freshB&&(bs.isEmpty||(noPlT r0&&c2.tm.all noPlB)))with
 |false=>rw[hcc]at hK;exact hK.elim
 |true=>
 rw[hcc]at hK
 simp only[cond_true]at hK
 rw[mergeF_eq]at hK
 rw[Bool.and_eq_true,Bool.and_eq_true]at hcc
 obtain⟨⟨hle,hnew⟩,hpl⟩:=hcc
 have hle:=Nat.le_of_ble_eq_true hle
 have newF:∀{j:Nat} {b:TB},σ.length≤j→c2.tm[j]? =some b→freshB b=true:=by
  intro j b hj hb
  exact List.all_eq_true.1 hnew b (List.mem_of_getElem? (i:=j-σ.length) (by rw[List.getElem?_drop];rw[show σ.length+(j-σ.length)=j by omega];exact hb))
 have newW:∀{j:Nat} {b:TB},σ.length≤j→c2.tm[j]? =some b→b.w=true:=by
  intro j b hj hb
  have h:=newF hj hb
  unfold freshB at h
  split at h<;>first|exact h|cases h
 have newQ:∀{j:Nat} {b:TB},σ.length≤j→c2.tm[j]? =some b→b.k≠ .dead→¬((∃l,b.k= .cells l)∨∃e l,b.k= .list e l)→False:=by
  intro j b hj hb hd hq
  have h:=newF hj hb
  unfold freshB at h
  split at h
  ·exact hq (.inl ⟨_,by assumption⟩)
  ·exact hq (.inr ⟨_,_,by assumption⟩)
  ·exact hd (by assumption)
  ·cases h
 have hslen:cs.tm.length=σ.length:=by simp[cs,Cfg.shrink]
 generalize hrb:lent c1.E bs=rb
 have hcsm:cs.m=c1.m.view (fun _=>false) rb:=by rw[←hrb];rfl
 have hd1:DCalls P fl f aargs c1.m v (c1.m.glue (fun _=>false) rb c2.m):=by
  rw[hcsm]at hd;exact hd.view
 let mG:=c1.m.glue (fun _=>false) rb c2.m
 have gl:∀n,mG.blk n=if n<c1.m.size∧rb n=true then c1.m.blk n else c2.m.blk n:=fun n=>by
  show(if _ then _ else _)=_
  simp
 have glr:∀{n},n<c1.m.size→rb n=true→mG.blk n=c1.m.blk n:=fun h1 h2=>by rw[gl,if_pos ⟨h1,h2⟩]
 have gl2:∀{n},rb n=false→mG.blk n=c2.m.blk n:=fun h=>by rw[gl,if_neg (by rw[h];simp)]
 have gln:∀{n},c1.m.size≤n→mG.blk n=c2.m.blk n:=fun h=>by rw[gl,if_neg (by omega)]
 have csb:∀n,cs.m.blk n=if rb n=true then(c1.m.blk n).roify else c1.m.blk n:=fun n=>by rw[hcsm,←hrb];exact lend_blk n
 have cssz:cs.m.size=c1.m.size:=by rw[hcsm];rfl
 have stm:=hd.2.1
 have szle:c1.m.size≤c2.m.size:=by have:=stm.size;rw[cssz]at this;exact this
 have lentb:∀{n},n<c1.m.size→rb n=true→(c1.m.blk n).mode≠ .dead→c2.m.blk n=(c1.m.blk n).roify:=by
  intro n hn hr hm
  have h1:cs.m.blk n=(c1.m.blk n).roify:=by rw[csb,if_pos hr]
  have h2:(cs.m.blk n).mode= .ro:=by
   rw[h1]
   unfold Blk.roify
   split
   ·rfl
   ·rename_i hq
    cases hmm:(c1.m.blk n).mode
    ·rfl
    ·rw[hmm]at hq;exact absurd rfl hq
    ·exact absurd hmm hm
    ·rw[hmm]at hq;exact absurd rfl hq
  rw[S2.ro n (by rw[cssz];exact hn) h2,h1]
 have same:∀{n},n<c2.m.size→(c2.m.blk n).mode≠ .dead→(mG.blk n).cells=(c2.m.blk n).cells∧(mG.blk n).mode≠ .dead∧((c2.m.blk n).mode.wr=true→mG.blk n=c2.m.blk n):=by
  intro n hn hm
  by_cases hq:n<c1.m.size∧rb n=true
  ·have hm1':(c1.m.blk n).mode≠ .dead:=by
    intro hdd
    have:(cs.m.blk n).mode= .dead:=by rw[csb,if_pos hq.2];exact Blk.roify_dead.2 hdd
    exact hm ((stm.mode n (by rw[cssz];exact hq.1)).2 this)
   have hb:=lentb hq.1 hq.2 hm1'
   rw[glr hq.1 hq.2,hb]
   exact⟨(Blk.roify_cells _).symm,hm1',fun h=>by rw[Blk.roify_wr]at h;cases h⟩
  ·have:mG.blk n=c2.m.blk n:=by rw[gl,if_neg hq]
   rw[this]
   exact⟨rfl,hm,fun _=>rfl⟩
 have rest:∀{k:Nat} {b:TB} {n p:Nat},c1.tm[k]? =some b→b.k≠ .dead→c1.E k=some (n,p)→idxB σ k=none→mG.blk n=c1.m.blk n:=by
  intro k b n p hb hd' hE hi
  have hn:=R1.low k b n p hb hd' hE
  cases hr:rb n with
  |true=>exact glr hn hr
  |false=>
   rw[gl2 hr]
   have:¬Ac n:=by
    rintro⟨_,h1|⟨j,x,q,h1,h2,h3,h4⟩⟩
    ·omega
    ·obtain⟨k2,b2,w1,w2,w3,w4,w5,w6⟩:=ent h1 (wK_nd h3)
     rw[hEs w1]at h4
     have hne:k2≠k:=by
      rintro rfl
      rw[idxB_of hnd w1]at hi;cases hi
     exact R1.inj k2 k b2 b n q n p hne w2 hb (w3.trans h2) w5 hd' h4 hE rfl
   rw[S2.out n (by rw[cssz];exact hn) this,csb,hr]
   rfl
 let back:=backB σ c1.tm.length
 let EG:Nat→Option (Nat×Nat):=fun k=>if k<c1.tm.length then c1.E k else c2.E (k-c1.tm.length+σ.length)
 let tmG:=mergeB σ c1.tm c2.tm
 let FG:Nat→Prop:=if bs=[]then c2.F else c1.F
 let cG:Cfg:=⟨EG,tmG,mG,FG,c2.N⟩
 have tlen:tmG.length=c1.tm.length+(c2.tm.length-σ.length):=by simp[tmG,mergeB]
 have tget:∀{k:Nat},k<c1.tm.length→tmG[k]? =some (match idxB σ k with
   |some j=>renB back (getB c2.tm j)
   |none=>getB c1.tm k):=by
  intro k hk
  show(mergeB σ c1.tm c2.tm)[k]? =_
  unfold mergeB
  rw[List.getElem?_append_left (by simpa using hk)]
  simp[hk]
  rfl
 have tgetn:∀{i:Nat},tmG[c1.tm.length+i]? =(c2.tm[σ.length+i]?).map (renB back):=by
  intro i
  show(mergeB σ c1.tm c2.tm)[c1.tm.length+i]? =_
  unfold mergeB
  rw[List.getElem?_append_right (by simp)]
  simp
  rfl
 have src:∀{k:Nat} {b:TB},tmG[k]? =some b→(k<c1.tm.length∧idxB σ k=none∧getB c1.tm k=b)∨
   ∃j,b=renB back (getB c2.tm j)∧EG k=c2.E j∧back j=some k∧((k<c1.tm.length∧σ[j]? =some k)∨(σ.length≤j∧j<c2.tm.length)):=by
  intro k b hb
  by_cases hk:k<c1.tm.length
  ·rw[tget hk]at hb
   cases hi:idxB σ k with
   |none=>rw[hi]at hb;simp at hb;exact .inl ⟨hk,rfl,hb⟩
   |some j=>
    rw[hi]at hb;simp at hb
    have hj:=idxB_get hi
    have hjl:j<σ.length:=getElem?_lt hj
    refine .inr ⟨j,hb.symm, ?_, ?_, .inl ⟨hk,hj⟩⟩
    ·show(if k<c1.tm.length then c1.E k else _)=_
     rw[if_pos hk,S2.mv.e j (by rw[hslen];exact hjl),hEs hj]
    ·show backB _ _ _=_
     unfold backB
     rw[lt_blt hjl]
     exact hj
  ·obtain⟨i,rfl⟩:∃i,k=c1.tm.length+i:=⟨k-c1.tm.length,by omega⟩
   rw[tgetn]at hb
   obtain⟨b',h1,h2⟩:=Option.map_eq_some_iff.1 hb
   refine .inr ⟨σ.length+i,by rw[getB_of h1];exact h2.symm, ?_, ?_, .inr ⟨by omega,getElem?_lt h1⟩⟩
   ·show(if _ then _ else _)=_
    rw[if_neg hk]
    congr 1;omega
   ·show backB _ _ _=_
    unfold backB
    have:Nat.blt (σ.length+i) σ.length=false:=by
     cases hb:Nat.blt (σ.length+i) σ.length
     ·rfl
     ·have:=blt_lt hb;omega
    rw[this]
    simp
 have fwd:∀{j k':Nat} {b:TB},back j=some k'→c2.tm[j]? =some b→tmG[k']? =some (renB back b)∧EG k'=c2.E j:=by
  intro j k' b hj hb
  have hj':backB σ c1.tm.length j=some k':=hj
  unfold backB at hj'
  by_cases hjl:j<σ.length
  ·rw[lt_blt hjl]at hj'
   have hj2:σ[j]? =some k':=hj'
   have hk:=hlt hj2
   constructor
   ·rw[tget hk,idxB_of hnd hj2];simp only[getB_of hb]
   ·show(if k'<c1.tm.length then c1.E k' else _)=_
    rw[if_pos hk,S2.mv.e j (by rw[hslen];exact hjl),hEs hj2]
  ·have:Nat.blt j σ.length=false:=by
    cases hb:Nat.blt j σ.length
    ·rfl
    ·exact absurd (blt_lt hb) hjl
   rw[this]at hj'
   simp at hj'
   subst hj'
   constructor
   ·rw[tgetn,show σ.length+(j-σ.length)=j by omega,hb];rfl
   ·show(if _ then _ else _)=_
    rw[if_neg (by omega)]
    congr 1;omega
 have fzG:∀n,c2.N n→mG.blk n=c2.m.blk n:=by
  intro n hn
  have h1:=R2c.nf n hn
  by_cases hq:n<c1.m.size∧rb n=true
  ·have hcN:c1.N n:=by
    rcases S2.nnew n hn with h|h
    ·exact h
    ·rw[cssz]at h;omega
   have h2:=(R1.nf n hcN).2
   rw[glr hq.1 hq.2,lentb hq.1 hq.2 (by rw[h2];simp)]
   simp[Blk.roify,h2,Mode.wr]
  ·rw[gl,if_neg hq]
 have rn0:Rn0 back c2 cG:=by
  refine⟨fun j k' hj hlt'=> ?_,fun j k' hj hlt'=> ?_,fun j k' b hj hb=> ?_,fun n hn=>⟨hn,fzG n hn⟩⟩
  ·obtain⟨h1,_⟩:=fwd hj (List.getElem?_eq_getElem hlt')
   exact getElem?_lt h1
  ·exact(fwd hj (List.getElem?_eq_getElem hlt')).2
  ·obtain⟨h1,_⟩:=fwd hj hb
   obtain⟨s1,s2,s3⟩:=renB_shape back b
   refine⟨_,h1, ?_⟩
   by_cases hdd:b.k= .dead
   ·exact .inl (s3.2 hdd)
   ·exact .inr ⟨hdd,s2⟩
 have glN:bs=[]→mG=c2.m:=by
  intro hb
  have:rb=fun _=>false:=by rw[←hrb,hb];rfl
  refine mem_ext rfl (funext fun n=> ?_)
  rw[gl,this];simp
 have trans_:∀{t:TV} {a:AVal},RV c2 t a→(bs=[]∨noPlT t=true)→RV cG (renT back t) a:=by
  intro t a hr hq
  rcases hq with hb|hq
  ·refine hr.rn ⟨rn0.len,rn0.e,rn0.sh,fun n hn=>⟨?_, ?_⟩,rn0.nz⟩
   ·show(if bs=[]then c2.F else c1.F) n
    rw[if_pos hb];exact hn
   ·show mG.blk n=_
    rw[glN hb]
  ·exact hr.rn0 rn0 hq
 have plB:∀{j:Nat} {b:TB},c2.tm[j]? =some b→bs=[]∨noPlB b=true:=by
  intro j b hb
  rw[Bool.or_eq_true]at hpl
  rcases hpl with h|h
  ·exact .inl (List.isEmpty_iff.1 h)
  ·rw[Bool.and_eq_true]at h
   exact .inr (List.all_eq_true.1 h.2 b (List.mem_of_getElem? hb))
 have plR:bs=[]∨noPlT r0=true:=by
  rw[Bool.or_eq_true]at hpl
  rcases hpl with h|h
  ·exact .inl (List.isEmpty_iff.1 h)
  ·rw[Bool.and_eq_true]at h;exact .inr h.1
 have mv1:Mv c1 cG:=by
  refine⟨by rw[show cG.tm.length=_ from tlen];omega,fun k hk=>if_pos hk,fun k b e n hb hs=> ?_,fun k b hb hdd=> ?_,fun n hn=> ?_,fun n hn=> ?_⟩
  ·have hk:=getElem?_lt hb
   cases hi:idxB σ k with
   |none=>exact⟨b,by show tmG[k]? =_;rw[tget hk,hi];simp only[getB_of hb], .inr hs⟩
   |some j=>
    have hj:=idxB_get hi
    obtain⟨s1,s2,s3⟩:=renB_shape (idxB σ) b
    obtain⟨b',g1,g2⟩:=S2.mv.kind j _ e n (ent' hj hb) (s2.trans hs)
    obtain⟨t1,t2,t3⟩:=renB_shape back b'
    exact⟨renB back b',by show tmG[k]? =_;rw[tget hk,hi];simp only[getB_of g1],g2.imp t3.2 (fun h=>t2.trans h)⟩
  ·have hk:=getElem?_lt hb
   cases hi:idxB σ k with
   |none=>exact⟨b,by show tmG[k]? =_;rw[tget hk,hi];simp only[getB_of hb],hdd⟩
   |some j=>
    have hj:=idxB_get hi
    obtain⟨s1,s2,s3⟩:=renB_shape (idxB σ) b
    obtain⟨b',g1,g2⟩:=S2.mv.dead j _ (ent' hj hb) (s3.2 hdd)
    exact⟨renB back b',by show tmG[k]? =_;rw[tget hk,hi];simp only[getB_of g1],(renB_shape back b').2.2.2 g2⟩
  ·have h1:=R1.fz n hn
   have h2:cs.F n:= .inl hn
   obtain⟨g1,g2⟩:=S2.mv.fz n h2
   refine⟨?_, ?_⟩
   ·show(if bs=[]then c2.F else c1.F) n
    split
    ·exact g1
    ·exact hn
   ·show mG.blk n=_
    cases hr:rb n with
    |true=>exact glr h1.1 hr
    |false=>rw[gl2 hr,g2,csb,hr];rfl
  ·have h1:=R1.nf n hn
   have h2:cs.N n:=hn
   obtain⟨g1,g2⟩:=S2.mv.nz n h2
   refine⟨g1, ?_⟩
   show mG.blk n=_
   cases hr:rb n with
   |true=>exact glr h1.1 hr
   |false=>rw[gl2 hr,g2,csb,hr];rfl
 have RG:RM cG A:=by
  refine⟨fun k w l hk=> ?_,fun k w e l hk=> ?_,fun k k' b b' n p n' p' hne hk hk' hwb hbd hbd' h1 h2=> ?_,fun n hn=> ?_,fun k b n p hk hbd h1=> ?_,fun n hn=> ?_,fun k ks hk=> ?_,R1.gv.mv mv1⟩
  ·rcases src hk with⟨hkl,hi,hg⟩|⟨j,hb,hE,hbk,_⟩
   ·have hb:=getB_some hg (by simp)
    obtain⟨n,p,q1,q2,q3,q4,q5,q6⟩:=R1.cells k w l hb
    have hbl:=rest hb (by simp) q1 hi
    have hE:cG.E k=some (n,p):=(if_pos hkl).trans q1
    exact⟨n,p,hE,Nat.lt_of_lt_of_le q2 szle,by show(mG.blk n).mode≠_;rw[hbl];exact q3,by show _→(mG.blk n).mode=_∧_;rw[hbl];exact q4,by show _≤(mG.blk n).cells.length;rw[hbl];exact q5,fun i t ht=>let ⟨a,r1,r2⟩:=q6 i t ht;⟨a,by show(mG.blk n).cells[_]? =_;rw[hbl];exact r1,r2.mv mv1⟩⟩
   ·obtain⟨l',hg,rfl⟩:=renB_cells hb.symm
    have hb2:=getB_some hg (by simp)
    obtain⟨n,p,q1,q2,q3,q4,q5,q6⟩:=R2c.cells j w l' hb2
    obtain⟨s1,s2,s3⟩:=same q2 q3
    refine⟨n,p,hE.trans q1,q2,s2,fun hw=> ?_,by rw[show(cG.m.blk n).cells=_ from s1,renL_map,List.length_map];exact q5,fun i t ht=> ?_⟩
    ·obtain⟨w1,w2⟩:=q4 hw
     exact⟨by show(mG.blk n).mode=_;rw[s3 (wr_rw w1)];exact w1,w2.1⟩
    ·obtain⟨u,g1,rfl⟩:=renL_get ht
     obtain⟨a,r1,r2⟩:=q6 i u g1
     refine⟨a,by rw[show(cG.m.blk n).cells=_ from s1];exact r1,trans_ r2 ?_⟩
     rcases plB hb2 with h|h
     ·exact .inl h
     ·exact .inr (noPlL_mem (by simpa[noPlB]using h) i u g1)
  ·rcases src hk with⟨hkl,hi,hg⟩|⟨j,hb,hE,hbk,_⟩
   ·have hb:=getB_some hg (by simp)
    rcases R1.list k w e l hb with q|⟨n,p,q1,q2,q3,q4,q5,q6⟩
    ·exact .inl ⟨(if_pos hkl).trans q.1,q.2⟩
    ·have hbl:=rest hb (by simp) q1 hi
     have hE:cG.E k=some (n,p):=(if_pos hkl).trans q1
     exact .inr ⟨n,p,hE,Nat.lt_of_lt_of_le q2 szle,by show(mG.blk n).mode≠_;rw[hbl];exact q3,by show _→(mG.blk n).mode=_∧_;rw[hbl];exact q4,by show(mG.blk n).cells.length=_;rw[hbl];exact q5,fun i x q t s1 s2=>let ⟨a,r1,r2⟩:=q6 i x q t s1 s2;⟨a,by show(mG.blk n).cells[_]? =_;rw[hbl];exact r1,r2.mv mv1⟩⟩
   ·have hg:=renB_list hb.symm
    have hb2:=getB_some hg (by simp)
    rcases R2c.list j w e l hb2 with q|⟨n,p,q1,q2,q3,q4,q5,q6⟩
    ·exact .inl ⟨hE.trans q.1,q.2⟩
    ·obtain⟨s1,s2,s3⟩:=same q2 q3
     refine .inr ⟨n,p,hE.trans q1,q2,s2,fun hw=> ?_,by rw[show(cG.m.blk n).cells=_ from s1];exact q5,fun i x q t g1 g2=> ?_⟩
     ·obtain⟨w1,w2⟩:=q4 hw
      exact⟨by show(mG.blk n).mode=_;rw[s3 (wr_rw w1)];exact w1,w2.1⟩
     ·obtain⟨a,r1,r2⟩:=q6 i x q t g1 g2
      have hq:bs=[]∨noPlT t=true:=by
       rcases plB hb2 with h|h
       ·exact .inl h
       ·refine .inr (enc_noPl (e:=e) ?_ g2)
        cases e<;>simp[noPlB]at h⊢
      have:=trans_ r2 hq
      rw[enc_ren g2]at this
      exact⟨a,by rw[show(cG.m.blk n).cells=_ from s1];exact r1,this⟩
  ·
   rcases src hk with⟨hkl,hi,hg⟩|⟨j,hb,hE,hbk,hcase⟩
   ·have hb:=getB_some hg hbd
    have h1':c1.E k=some (n,p):=(if_pos hkl).symm.trans h1
    rcases src hk' with⟨hkl',hi',hg'⟩|⟨j',hb',hE',hbk',hcase'⟩
    ·exact R1.inj k k' b b' n p n' p' hne hb (getB_some hg' hbd') hwb hbd hbd' h1' ((if_pos hkl').symm.trans h2)
    ·have h2':c2.E j'=some (n',p'):=hE'.symm.trans h2
     obtain⟨s1,s2,s3⟩:=renB_shape back (getB c2.tm j')
     have hjd:(getB c2.tm j').k≠ .dead:=fun q=>hbd' (by rw[hb'];exact s3.2 q)
     have hj2:=getB_some rfl hjd
     rcases hcase' with⟨_,hj⟩|⟨hj,_⟩
     ·
      have hcsl:cs.tm[j']? =some (cs.tm[j']'(by rw[hslen];exact getElem?_lt hj)):=List.getElem?_eq_getElem _
      have hcd:(cs.tm[j']'(by rw[hslen];exact getElem?_lt hj)).k≠ .dead:=fun q=>by
       obtain⟨x,w1,w2⟩:=S2.mv.dead j' _ hcsl q
       rw[hj2]at w1;simp at w1;rw[←w1]at w2;exact hjd w2
      obtain⟨k2,b2,w1,w2,w3,w4,w5,w6⟩:=ent hcsl hcd
      rw[hj]at w1;simp at w1;subst w1
      rw[S2.mv.e j' (by rw[hslen];exact getElem?_lt hj),hEs hj]at h2'
      exact R1.inj k k' b b2 n p n' p' hne hb w2 hwb hbd w5 h1' h2'
     ·
      have hlow':=R1.low k b n p hb hbd h1'
      rintro rfl
      have hw':=newW hj hj2
      by_cases hq:(∃l,(getB c2.tm j').k= .cells l)∨∃e l,(getB c2.tm j').k= .list e l
      ·obtain⟨_,_,hAc⟩:=R2c.live hj2 hw' hq h2'
       rcases hAc.2 with h|⟨j3,x,q,z1,z2,z3,z4⟩
       ·omega
       ·obtain⟨k2,b2,w1,w2,w3,w4,w5,w6⟩:=ent z1 (wK_nd z3)
        rw[hEs w1]at z4
        have hne2:k2≠k:=by
         rintro rfl
         rw[idxB_of hnd w1]at hi;cases hi
        exact R1.inj k2 k b2 b n q n p hne2 w2 hb (w3.trans z2) w5 hbd z4 h1' rfl
      ·exact newQ hj hj2 hjd hq
   ·obtain⟨s1,s2,s3⟩:=renB_shape back (getB c2.tm j)
    have hjd:(getB c2.tm j).k≠ .dead:=fun q=>hbd (by rw[hb];exact s3.2 q)
    have hj2:=getB_some rfl hjd
    have hjw:(getB c2.tm j).w=true:=by rw[←s1,←hb];exact hwb
    have h1':c2.E j=some (n,p):=hE.symm.trans h1
    rcases src hk' with⟨hkl',hi',hg'⟩|⟨j',hb',hE',hbk',_⟩
    ·have hb2:=getB_some hg' hbd'
     have h2':c1.E k'=some (n',p'):=(if_pos hkl').symm.trans h2
     rcases hcase with⟨_,hj⟩|⟨hj,_⟩
     ·have hcsl:cs.tm[j]? =some (cs.tm[j]'(by rw[hslen];exact getElem?_lt hj)):=List.getElem?_eq_getElem _
      have hcd:(cs.tm[j]'(by rw[hslen];exact getElem?_lt hj)).k≠ .dead:=fun q=>by
       obtain⟨x,w1,w2⟩:=S2.mv.dead j _ hcsl q
       rw[hj2]at w1;simp at w1;rw[←w1]at w2;exact hjd w2
      have hcw:(cs.tm[j]'(by rw[hslen];exact getElem?_lt hj)).w=true:=by
       cases hq:(cs.tm[j]'(by rw[hslen];exact getElem?_lt hj)).w with
       |true=>rfl
       |false=>
        obtain⟨x,w1,w2,_⟩:=S2.keep j _ hcsl hq
        rw[hj2]at w1;simp at w1;rw[←w1,hjw]at w2;cases w2
      obtain⟨k2,b2,w1,w2,w3,w4,w5,w6⟩:=ent hcsl hcd
      rw[hj]at w1;simp at w1;subst w1
      rw[S2.mv.e j (by rw[hslen];exact getElem?_lt hj),hEs hj]at h1'
      exact R1.inj k k' b2 b' n p n' p' hne w2 hb2 (w3.trans hcw) w5 hbd' h1' h2'
     ·have hlow':=R1.low k' b' n' p' hb2 hbd' h2'
      rintro rfl
      by_cases hq:(∃l,(getB c2.tm j).k= .cells l)∨∃e l,(getB c2.tm j).k= .list e l
      ·obtain⟨_,_,hAc⟩:=R2c.live hj2 hjw hq h1'
       rcases hAc.2 with h|⟨j3,x,q,z1,z2,z3,z4⟩
       ·omega
       ·obtain⟨k2,b2,w1,w2,w3,w4,w5,w6⟩:=ent z1 (wK_nd z3)
        rw[hEs w1]at z4
        have hne2:k2≠k':=by
         rintro rfl
         rw[idxB_of hnd w1]at hi';cases hi'
        exact R1.inj k2 k' b2 b' n q n p' hne2 w2 hb2 (w3.trans z2) w5 hbd' z4 h2' rfl
      ·exact newQ hj hj2 hjd hq
    ·have h2':c2.E j'=some (n',p'):=hE'.symm.trans h2
     obtain⟨t1,t2,t3⟩:=renB_shape back (getB c2.tm j')
     have hjd':(getB c2.tm j').k≠ .dead:=fun q=>hbd' (by rw[hb'];exact t3.2 q)
     have hjj:j≠j':=by
      rintro rfl
      rw[hbk]at hbk';simp at hbk';exact hne hbk'
     exact R2c.inj j j' _ _ n p n' p' hjj hj2 (getB_some rfl hjd') hjw hjd hjd' h1' h2'
  ·have hn':(if bs=[]then c2.F else c1.F) n:=hn
   split at hn'
   ·rename_i hb
    have:=R2c.fz n hn'
    exact⟨this.1,by show(mG.blk n).mode=_;rw[glN hb];exact this.2⟩
   ·have h1:=R1.fz n hn'
    have:=(mv1.fz n hn').2
    exact⟨Nat.lt_of_lt_of_le h1.1 szle,by rw[this];exact h1.2⟩
  ·rcases src hk with⟨hkl,hi,hg⟩|⟨j,hb,hE,hbk,_⟩
   ·exact Nat.lt_of_lt_of_le (R1.low k b n p (getB_some hg hbd) hbd ((if_pos hkl).symm.trans h1)) szle
   ·obtain⟨s1,s2,s3⟩:=renB_shape back (getB c2.tm j)
    have hjd:(getB c2.tm j).k≠ .dead:=fun q=>hbd (by rw[hb];exact s3.2 q)
    exact R2c.low j _ n p (getB_some rfl hjd) hjd (hE.symm.trans h1)
  ·have:=R2c.nf n hn
   exact⟨this.1,by show(mG.blk n).mode=_;rw[fzG n hn];exact this.2⟩
  ·rcases src hk with⟨hkl,hi,hg⟩|⟨j,hb,hE,hbk,_⟩
   ·have hb:=getB_some hg (by simp)
    obtain⟨n,p,q1,q2,q3,q4⟩:=R1.keys k ks hb
    have hbl:=rest hb (by simp) q1 hi
    exact⟨n,p,(if_pos hkl).trans q1,Nat.lt_of_lt_of_le q2 szle,by show(mG.blk n).mode=_;rw[hbl];exact q3,q4⟩
   ·have hb2:=getB_some (renB_keys hb.symm) (by simp)
    obtain⟨n,p,q1,q2,q3,q4⟩:=R2c.keys j ks hb2
    obtain⟨_,_,s3⟩:=same q2 (by rw[q3];simp)
    exact⟨n,p,hE.trans q1,q2,by show(mG.blk n).mode=_;rw[s3 (by rw[q3];rfl)];exact q3,q4.1⟩
 have SG:Stp c1 cG A:=by
  refine⟨mv1,fun k b hb hw=> ?_,szle,fun n hn ha=> ?_,fun n hn hr=> ?_,fun n hn hr=> ?_,fun n hn=> ?_,fun n hn=> ?_⟩
  ·have hk:=getElem?_lt hb
   cases hi:idxB σ k with
   |none=>exact⟨b,by show tmG[k]? =_;rw[tget hk,hi];simp only[getB_of hb],hw,rfl,Iff.rfl⟩
   |some j=>
    have hj:=idxB_get hi
    obtain⟨s1,s2,s3⟩:=renB_shape (idxB σ) b
    obtain⟨b',g1,g2,g3,g4⟩:=S2.keep j _ (ent' hj hb) (s1.trans hw)
    obtain⟨t1,t2,t3⟩:=renB_shape back b'
    exact⟨renB back b',by show tmG[k]? =_;rw[tget hk,hi];simp only[getB_of g1],t1.trans g2,(t2.trans g3).trans s2,(t3.trans g4).trans s3⟩
  ·show mG.blk n=_
   cases hr:rb n with
   |true=>exact glr hn hr
   |false=>rw[gl2 hr,S2.out n (by rw[cssz];exact hn) (fun q=>ha q.1),csb,hr];rfl
  ·show mG.blk n=_
   cases hq:rb n with
   |true=>exact glr hn hq
   |false=>
    have:cs.m.blk n=c1.m.blk n:=by rw[csb,hq];rfl
    rw[gl2 hq,S2.ro n (by rw[cssz];exact hn) (by rw[this];exact hr),this]
  ·have hr':(mG.blk n).mode= .rw:=hr
   cases hq:rb n with
   |true=>rw[glr hn hq]at hr';exact hr'
   |false=>
    rw[gl2 hq]at hr'
    have:=S2.md n (by rw[cssz];exact hn) hr'
    rw[csb,hq]at this;exact this
  ·have hn':(if bs=[]then c2.F else c1.F) n:=hn
   split at hn'
   ·rename_i hb
    rcases S2.fnew n hn' with h|h|h
    ·rcases h with h|⟨h,_⟩
     ·exact .inl h
     ·rw[hb]at h;cases h
    ·rw[cssz]at h;exact .inr (.inl h)
    ·refine .inr (.inr ?_)
     rw[csb]at h
     split at h
     ·have:=Blk.roify_wr (c1.m.blk n);rw[h]at this;cases this
     ·exact h
   ·exact .inl hn'
  ·rcases S2.nnew n hn with h|h
   ·exact .inl h
   ·rw[cssz]at h;exact .inr h
 refine⟨v,cG,_,hK,trans_ hrv plR, ?_,RG,G1.stp.trans SG⟩
 rw[←hm1]
 exact hd1
end Go.Ab
