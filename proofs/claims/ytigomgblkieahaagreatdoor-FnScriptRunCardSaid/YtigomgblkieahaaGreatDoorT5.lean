/- What is proved here: each operation, read over typed values, is an operation of the abstract machine (third part: literals, slices, and all of them). -/
import Derived.Test.YtigomgblkieahaaGreatDoorT4
namespace Go.Ab
set_option linter.unusedVariables false
set_option linter.unusedSimpArgs false
section ops
variable {P:Program} {fl:Nat} {o:Oper} {ρa:Operand→AVal} {ρt:Operand→TV} {c:Cfg} {A:Nat→Prop} {K:TV→TMem→Prop}
theorem DOp.trunc {m m':Mem} {v:AVal} (h:DOp P fl o ρa m v m') {n j:Nat} (hf:fl≤n) (hrw:(m'.blk n).mode= .rw):DOp P fl o ρa m v (m'.put n ⟨(m'.blk n).cells.take j, .rw⟩):=by
 refine⟨h.1.trans (astep_put hf fun _=> .inl hrw.symm),fun β w a hρ hs hf K Q hK=>h.2 β w a hρ hs hf K Q fun cv β' w' hv hp=>hK cv β' w' hv ?_⟩
 have blk:∀k,k≠n→(m'.put n ⟨(m'.blk n).cells.take j, .rw⟩).blk k=m'.blk k:=fun k hk=>by simp[hk]
 have blkn:(m'.put n ⟨(m'.blk n).cells.take j, .rw⟩).blk n=⟨(m'.blk n).cells.take j, .rw⟩:=by simp
 refine⟨⟨fun k p hk hb=>hp.sim.lt k p hk hb,fun k p hk hb hm i a ha=> ?_,fun k p hk hb hm=> ?_,fun k p k' p' hk hk' hne hb hb' hm hm'=> ?_,fun k p ks hk hb hm=> ?_,hp.sim.gl,fun k p hk hb hm=> ?_,hp.sim.gz⟩,hp.ext,hp.nb,hp.fr,hp.os,hp.tape,hp.output,hp.size⟩
 ·by_cases e:k=n
  ·subst e;rw[blkn]at hm;cases hm
  ·rw[blk k e]at hm ha;exact hp.sim.ro k p hk hb hm i a ha
 ·by_cases e:k=n
  ·subst e
   obtain⟨cs,ty,g1,g2,g3,g4⟩:=hp.sim.rw k p hk hb hrw
   rw[blkn]
   refine⟨cs,ty,g1,g2,by simp;omega,fun i a ha=> ?_⟩
   simp only[List.getElem?_take]at ha
   split at ha
   ·exact g4 i a ha
   ·cases ha
  ·rw[blk k e]at hm⊢;exact hp.sim.rw k p hk hb hm
 ·refine hp.sim.ex k p k' p' hk hk' hne hb hb' ?_ ?_
  ·by_cases e:k=n
   ·subst e;exact wr_rw hrw
   ·rw[blk k e]at hm;exact hm
  ·by_cases e:k'=n
   ·subst e;rw[hrw];simp
   ·rw[blk k' e]at hm';exact hm'
 ·by_cases e:k=n
  ·subst e;rw[blkn]at hm;cases hm
  ·rw[blk k e]at hm⊢;exact hp.sim.mp k p ks hk hb hm
 ·by_cases e:k=n
  ·subst e;exact hp.sim.ct k p hk hb hrw
  ·rw[blk k e]at hm;exact hp.sim.ct k p hk hb hm
theorem ointT_rel {x:Option TV} {y:Option AVal} {d n:Int} (h:ointT x d=some n) (hr:(x=none∧y=none)∨∃t a,x=some t∧y=some a∧RV c t a):oint y d=some n:=by
 rcases hr with⟨rfl,rfl⟩|⟨t,a,rfl,rfl,r⟩
 ·simpa[ointT,oint]using h
 ·cases t<;>simp[ointT]at h
  subst h
  cases r
  rfl
theorem ok_sliceP {t:TypeId} {x:TV} {a:AVal} {lo hi mx:Option TV} {lo' hi':Option AVal} (hp:(∃s,x= .str s)∨∃e s,x= .pl e s) (hx:RV c x a)
  (hlo:(lo=none∧lo'=none)∨∃t a,lo=some t∧lo'=some a∧RV c t a) (hhi:(hi=none∧hi'=none)∨∃t a,hi=some t∧hi'=some a∧RV c t a)
  (h:(tslice P t x lo hi mx c.tm).holds K):∃v,K v c.tm∧∃q,aslice P t a lo' hi' none=some q∧RV c v q:=by
 cases x with
 |str s=>
  simp only[tslice]at h
  split at h
  ·rename_i hh ll hk h1 h2
   obtain⟨⟨c1,c2,c3⟩,hK⟩:=h
   cases hx
   have e1:oint hi' (ByteArray.size ⟨s.toArray⟩)=some hh:=by have:=ointT_rel h1 hhi;simpa[ByteArray.size]using this
   have e2:=ointT_rel h2 hlo
   refine⟨_,hK, .str ⟨((s.take hh.toNat).drop ll.toNat).toArray⟩, ?_, .str _⟩
   simp only[aslice,hk,e1,e2]
   rw[if_pos ⟨c1,c2,by simpa[ByteArray.size]using c3⟩]
   congr 2
   apply ByteArray.ext
   simp[ByteArray.data_extract,List.extract_eq_take_drop,List.drop_take]
  ·exact h.elim
 |pl e s=>
  simp only[tslice]at h
  split at h
  ·rename_i e' hh ll hk hes h1 h2
   cases hb:Nat.beq e'.es e.es with
   |false=>rw[hb]at h;exact h.elim
   |true=>
   rw[hb]at h
   obtain⟨⟨c1,c2,c3⟩,hK⟩:=h
   have hee:=Nat.eq_of_beq_eq_true hb
   have hbind:=ekS_bind hes
   rw[hee]at hbind
   have e1:=ointT_rel h1 hhi
   have e2:=ointT_rel h2 hlo
   rcases rv_pl hx with⟨rfl,hE⟩|⟨n,p,cap,hF,hp,rfl,hr⟩
   ·simp at c3
    have hh0:hh=0:=by omega
    have hl0:ll=0:=by omega
    subst hh0;subst hl0
    have e1':oint hi' 0=some 0:=by simpa using e1
    rcases hE with rfl|rfl|⟨n,o',cap,rfl⟩
    ·refine⟨_,hK, .nilSl, ?_, .plE _ _ (.inl rfl)⟩
     simp only[aslice,hk,hbind,e1',e2]
    ·refine⟨_,hK, .emptySl, ?_, .plE _ _ (.inr (.inl rfl))⟩
     simp only[aslice,hk,hbind,e1',e2]
    ·refine⟨_,hK, .sl n o' 0 (cap.map (·-0)) e.es, ?_, .plE _ _ (.inr (.inr ⟨_,_,_,rfl⟩))⟩
     simp only[aslice,hk,hbind,if_true]
     have e1'':oint hi' ((0:Nat):Int)=some 0:=e1'
     rw[e1'',e2]
     simp
   ·have hlen:((s.take hh.toNat).drop ll.toNat).length=hh.toNat-ll.toNat:=by simp;omega
    have hmul:(ll.toNat+(hh.toNat-ll.toNat))*e.es≤s.length*e.es:=Nat.mul_le_mul_right _ (by omega)
    rw[Nat.add_mul]at hmul
    refine⟨_,hK, .sl n (p+ll.toNat*e.es) (hh.toNat-ll.toNat) (cap.map (·-ll.toNat)) e.es, ?_, ?_⟩
    ·simp only[aslice,hk,hbind,if_true,e1,e2]
     rw[if_pos ⟨c1,c2,c3⟩]
    ·rw[←hlen]
     refine .pl e _ n _ _ (fun i=>((c.m.blk n).cells[p+ll.toNat*e.es+i]?).getD .any) hF (by rw[hlen];omega) (fun i hi=> ?_) (fun i y j t' g1 g2=> ?_)
     ·rw[hlen]at hi
      have hlt:p+ll.toNat*e.es+i<(c.m.blk n).cells.length:=by omega
      rw[List.getElem?_eq_getElem hlt];rfl
     ·rw[List.getElem?_drop,List.getElem?_take]at g1
      split at g1
      ·obtain⟨b,q1,q2⟩:=hr _ _ _ _ g1 g2
       have:p+ll.toNat*e.es+(i*e.es+j)=p+(ll.toNat+i)*e.es+j:=by rw[Nat.add_mul];omega
       simp only[this,q1,Option.getD_some]
       exact q2
      ·cases g1
  ·exact h.elim
 |_=>rcases hp with⟨s,h⟩|⟨e,s,h⟩<;>cases h
theorem ok_slice {t:TypeId} {x:TV} {a:AVal} {lo hi mx:Option TV} {lo' hi' mx':Option AVal} (hA:∀n,A n→fl≤n) (R:RM c A) (hx:RV c x a)
  (hlo:(lo=none∧lo'=none)∨∃t a,lo=some t∧lo'=some a∧RV c t a) (hhi:(hi=none∧hi'=none)∨∃t a,hi=some t∧hi'=some a∧RV c t a) (hmx:(mx=none∧mx'=none)∨∃t a,mx=some t∧mx'=some a∧RV c t a)
  (h:(tslice P t x lo hi mx c.tm).holds K) (hop:∀q,aslice P t a lo' hi' mx'=some q→DOp P fl o ρa c.m q c.m):∃v tm',K v tm'∧OpOk P fl o ρa c A v tm':=by
 have nomx:mx=none→mx'=none:=by
  rintro rfl
  rcases hmx with⟨_,h⟩|⟨t,a,h,_⟩
  ·exact h
  ·cases h
 cases x with
 |str s=>
  simp only[tslice]at h
  split at h
  ·rename_i hh ll hk h1 h2
   obtain⟨⟨c1,c2,c3⟩,hK⟩:=h
   cases hx
   have e1:oint hi' (ByteArray.size ⟨s.toArray⟩)=some hh:=by have:=ointT_rel h1 hhi;simpa[ByteArray.size]using this
   have e2:=ointT_rel h2 hlo
   refine⟨_,_,hK,_,c,hop (.str ⟨((s.take hh.toNat).drop ll.toNat).toArray⟩) ?_,rfl,R, .str _,Stp.refl _ _⟩
   simp only[aslice,hk,nomx rfl,e1,e2]
   rw[if_pos ⟨c1,c2,by simpa[ByteArray.size]using c3⟩]
   congr 2
   apply ByteArray.ext
   simp[ByteArray.data_extract,List.extract_eq_take_drop,List.drop_take]
  ·exact h.elim
 |pl e s=>
  simp only[tslice]at h
  split at h
  ·rename_i e' hh ll hk hes h1 h2
   cases hb:Nat.beq e'.es e.es with
   |false=>rw[hb]at h;exact h.elim
   |true=>
   rw[hb]at h
   obtain⟨⟨c1,c2,c3⟩,hK⟩:=h
   have hee:=Nat.eq_of_beq_eq_true hb
   have hbind:=ekS_bind hes
   rw[hee]at hbind
   have e1:=ointT_rel h1 hhi
   have e2:=ointT_rel h2 hlo
   have hmx0:=nomx rfl
   rcases rv_pl hx with⟨rfl,hE⟩|⟨n,p,cap,hF,hp,rfl,hr⟩
   ·simp at c3
    have hh0:hh=0:=by omega
    have hl0:ll=0:=by omega
    subst hh0;subst hl0
    have e1':oint hi' 0=some 0:=by simpa using e1
    rcases hE with rfl|rfl|⟨n,o',cap,rfl⟩
    ·refine⟨_,_,hK,_,c,hop .nilSl ?_,rfl,R, .plE _ _ (.inl rfl),Stp.refl _ _⟩
     simp only[aslice,hk,hbind,hmx0,e1',e2]
    ·refine⟨_,_,hK,_,c,hop .emptySl ?_,rfl,R, .plE _ _ (.inr (.inl rfl)),Stp.refl _ _⟩
     simp only[aslice,hk,hbind,hmx0,e1',e2]
    ·refine⟨_,_,hK,_,c,hop (.sl n o' 0 (cap.map (·-0)) e.es) ?_,rfl,R, .plE _ _ (.inr (.inr ⟨_,_,_,rfl⟩)),Stp.refl _ _⟩
     simp only[aslice,hk,hbind,if_true,hmx0]
     have e1'':oint hi' ((0:Nat):Int)=some 0:=e1'
     rw[e1'',e2]
     simp
   ·have hlen:((s.take hh.toNat).drop ll.toNat).length=hh.toNat-ll.toNat:=by simp;omega
    have hmul:(ll.toNat+(hh.toNat-ll.toNat))*e.es≤s.length*e.es:=Nat.mul_le_mul_right _ (by omega)
    rw[Nat.add_mul]at hmul
    refine⟨_,_,hK,_,c,hop (.sl n (p+ll.toNat*e.es) (hh.toNat-ll.toNat) (cap.map (·-ll.toNat)) e.es) ?_,rfl,R, ?_,Stp.refl _ _⟩
    ·simp only[aslice,hk,hbind,if_true,hmx0,e1,e2]
     rw[if_pos ⟨c1,c2,c3⟩]
    ·rw[←hlen]
     refine .pl e _ n _ _ (fun i=>((c.m.blk n).cells[p+ll.toNat*e.es+i]?).getD .any) hF (by rw[hlen];omega) (fun i hi=> ?_) (fun i y j t' g1 g2=> ?_)
     ·rw[hlen]at hi
      have hlt:p+ll.toNat*e.es+i<(c.m.blk n).cells.length:=by omega
      rw[List.getElem?_eq_getElem hlt];rfl
     ·rw[List.getElem?_drop,List.getElem?_take]at g1
      split at g1
      ·obtain⟨b,q1,q2⟩:=hr _ _ _ _ g1 g2
       have:p+ll.toNat*e.es+(i*e.es+j)=p+(ll.toNat+i)*e.es+j:=by rw[Nat.add_mul];omega
       simp only[this,q1,Option.getD_some]
       exact q2
      ·cases g1
  ·exact h.elim
 |sl k=>
  simp only[tslice]at h
  split at h
  ·rename_i e s hb
   split at h
   ·rename_i e' hh ll hk hes h1 h2
    cases hbe:Nat.beq e'.es e.es with
    |false=>rw[hbe]at h;exact h.elim
    |true=>
    rw[hbe]at h
    simp only[cond_true]at h
    have hee:=Nat.eq_of_beq_eq_true hbe
    have hbind:=ekS_bind hes
    rw[hee]at hbind
    have e1:=ointT_rel h1 hhi
    have e2:=ointT_rel h2 hlo
    obtain⟨R0,S0⟩:=drop_ok R hb rfl
    have htl:(c.drop k).tm.length=c.tm.length:=by simp[Cfg.drop]
    have fin:0≤ll→ll≤hh→hh≤s.length→K (.sl c.tm.length) (c.tm.set k ⟨true, .dead⟩++[⟨true, .list e ((s.take hh.toNat).drop ll.toNat)⟩])→
      (a= .nilSl→aslice P t a lo' hi' mx'=some .nilSl)→(∀n p len cap,a= .sl n p len cap e.es→s.length=len→∃cap',(len=0→cap=some 0→cap'=some 0)∧aslice P t a lo' hi' mx'=some (.sl n (p+ll.toNat*e.es) (hh.toNat-ll.toNat) cap' e.es))→
      ∃v tm',K v tm'∧OpOk P fl o ρa c A v tm':=by
     intro c1 c2 c3 hK g1 g2
     have hlen:((s.take hh.toNat).drop ll.toNat).length=hh.toNat-ll.toNat:=by simp;omega
     rcases rv_sl hb hx with⟨n,p,cap,hE,rfl⟩|⟨hE,rfl,hnz⟩
     ·obtain⟨cap',_,hsl⟩:=g2 n p _ cap rfl rfl
      rcases R.list k _ _ _ hb with⟨q1,_⟩|⟨n',p',q1,q2,q3,q4,q5,q6⟩
      ·rw[hE]at q1;cases q1
      rw[hE]at q1;simp at q1;obtain⟨rfl,rfl⟩:=q1
      obtain⟨hrw,hAn⟩:=q4 rfl
      have hfr:=drop_free R hb rfl (.inr ⟨_,_,rfl⟩) hE
      have hmul:(ll.toNat+(hh.toNat-ll.toNat))*e.es≤s.length*e.es:=Nat.mul_le_mul_right _ (by omega)
      rw[Nat.add_mul]at hmul
      have hcut:=DOp.trunc (j:=p+ll.toNat*e.es+(hh.toNat-ll.toNat)*e.es) (hop _ hsl) (hA n hAn) hrw
      obtain⟨r1,r2⟩:=add_ok (tk:= .list e ((s.take hh.toNat).drop ll.toNat)) (loc:=some (n,p+ll.toNat*e.es)) (m':=c.m.put n ⟨(c.m.blk n).cells.take (p+ll.toNat*e.es+(hh.toNat-ll.toNat)*e.es), .rw⟩) R0 (Nat.le_refl _) (fun k' hk'=>by
        by_cases e':k'=n
        ·subst e';exact .inr ⟨hfr,hAn,hrw⟩
        ·exact .inl (by simp[Cfg.drop,e'])) (fun n' p' h=>by
        simp at h
        obtain⟨rfl,rfl⟩:=h
        exact⟨q2,by simp,hAn, .inl hfr⟩) (fun l h=>by cases h) (fun e2 l2 h=>by
        simp at h
        obtain⟨rfl,h⟩:=h
        simp at h
        subst h
        refine .inr ⟨_,_,rfl,by rw[hlen];simp;omega,fun i y j t' w1 w2=> ?_⟩
        have hi2:i<hh.toNat-ll.toNat:=by rw[←hlen];exact getElem?_lt w1
        have hj2:j<e.es:=by rw[←enc_length e y];exact getElem?_lt w2
        rw[List.getElem?_drop,List.getElem?_take]at w1
        split at w1
        ·obtain⟨b,z1,z2⟩:=q6 _ _ _ _ w1 w2
         refine⟨b, ?_,z2.mv S0.mv⟩
         have hm2:(i+1)*e.es≤(hh.toNat-ll.toNat)*e.es:=Nat.mul_le_mul_right _ (by omega)
         rw[Nat.add_mul]at hm2
         simp only[Mem.blk_put,if_true,List.getElem?_take]
         rw[if_pos (by omega),←z1,Nat.add_mul]
         congr 1;omega
        ·cases w1)
      refine⟨_,_,hK,_,_,hcut,rfl,r1, ?_,S0.trans r2⟩
      rw[←hlen,←htl]
      exact .sl _ ⟨true, .list e _⟩ e _ n _ cap' (by simp[Cfg.add]) rfl (by simp[Cfg.add])
     ·simp at c3
      have hh0:hh=0:=by omega
      have hl0:ll=0:=by omega
      subst hh0;subst hl0
      have hK':K (.sl c.tm.length) ((c.drop k).tm++[⟨true, .list e []⟩]):=by simpa[Cfg.drop]using hK
      have gofin:∀q,NzA c e.es q→aslice P t a lo' hi' mx'=some q→∃v tm',K v tm'∧OpOk P fl o ρa c A v tm':=by
       intro q hq hsl
       obtain⟨c',w1,w2,w3,w4,w5⟩:=virt_ok R0 e (hq.mv S0.mv)
       rw[htl]at w4
       exact⟨_,_,hK',q,c',by rw[w1];exact hop q hsl,w2,w3,w4,S0.trans w5⟩
      rcases hnz with rfl|⟨n,o',rfl,hF,ho⟩
      ·exact gofin .nilSl (.inl rfl) (g1 rfl)
      ·obtain⟨cap',hc',hsl⟩:=g2 n o' 0 (some 0) rfl rfl
       rw[hc' rfl rfl]at hsl
       exact gofin _ (.inr ⟨n,o',by simp,hF,ho⟩) hsl
    split at h
    ·obtain⟨⟨c1,c2,c3⟩,hK⟩:=h
     have hmx0:=nomx rfl
     refine fin c1 c2 c3 hK (fun ha=> ?_) (fun n p len cap ha hl=>⟨cap.map (·-ll.toNat), ?_, ?_⟩)
     ·subst ha
      rcases rv_sl hb hx with⟨n,p,cap,_,h'⟩|⟨_,rfl,_⟩
      ·cases h'
      ·simp at c3
       have hh0:hh=0:=by omega
       have hl0:ll=0:=by omega
       subst hh0;subst hl0
       have e1':oint hi' 0=some 0:=by simpa using e1
       simp only[aslice,hk,hbind,hmx0,e1',e2]
     ·intro _ hcap;subst hcap;simp
     ·subst ha
      rw[hl]at e1 c3
      simp only[aslice,hk,hbind,if_true,hmx0,e1,e2]
      rw[if_pos ⟨c1,c2,c3⟩]
    ·rename_i kq q
     split at h
     ·rename_i hv
      obtain⟨⟨c1,c2,c3,c4⟩,hK⟩:=h
      obtain⟨qa,hmq,hqv⟩:∃qa,mx'=some qa∧intVal qa=some q:=by
       rcases hmx with⟨h,_⟩|⟨t2,a2,h,h',r⟩
       ·cases h
       ·simp at h;subst h;cases r;exact⟨_,h',rfl⟩
      obtain⟨ha',hhi'⟩:∃ha',hi'=some ha':=by
       rcases hhi with⟨h,_⟩|⟨t2,a2,h,h',r⟩
       ·cases h
       ·exact⟨_,h'⟩
      refine fin c1 c2 (by omega) hK (fun ha=> ?_) (fun n p len cap ha hl=>⟨some (q.toNat-ll.toNat), ?_, ?_⟩)
      ·subst ha
       rcases rv_sl hb hx with⟨n,p,cap,_,h'⟩|⟨_,rfl,_⟩
       ·cases h'
       ·simp at c4
        have hh0:hh=0:=by omega
        have hl0:ll=0:=by omega
        have hq0:q=0:=by omega
        subst hh0;subst hl0;subst hq0
        have e1':oint hi' 0=some 0:=by simpa using e1
        rw[hhi']at e1'
        simp only[aslice,hk,hbind,hmq,hhi',e1',e2,hqv,Option.isSome_some,and_self,if_true]
      ·intro h0 _;subst h0;rw[hl]at c4;simp at c4;simp;omega
      ·subst ha
       rw[hl]at e1 c4
       rw[hhi']at e1⊢
       simp only[aslice,hk,hbind,if_true,hmq,e1,e2]
       rw[if_pos ⟨c1,c2,by omega⟩]
       simp only[hqv]
       rw[if_pos ⟨c3,c4⟩]
     ·exact h.elim
    ·exact h.elim
   ·exact h.elim
  ·exact h.elim
 |nil=>
  simp only[tslice]at h
  split at h
  ·rename_i e' hh ll hk hes h1 h2
   obtain⟨⟨rfl,rfl⟩,hK⟩:=h
   cases hx
   have e1:=ointT_rel h1 hhi
   have e2:=ointT_rel h2 hlo
   refine⟨_,_,hK,_,c,hop .nilSl ?_,rfl,R, .nil,Stp.refl _ _⟩
   simp only[aslice,hk,ekS_bind hes,nomx rfl,e1,e2]
  ·exact h.elim
 |_=>simp[tslice]at h;exact h.elim
end ops
theorem cp_src {c:Cfg} {A:Nat→Prop} (R:RM c A) {x:TV} {e:EK} {xs:List e.T} {b:AVal} (h:cpSrc c.tm x=some ⟨e,xs⟩) (r:RV c x b) (hx:0<xs.length):
  ∃n p cap,b= .sl n p xs.length cap e.es∧n<c.m.size∧(c.m.blk n).mode≠ .dead∧p+xs.length*e.es≤(c.m.blk n).cells.length∧
   ∀(i:Nat) x (j:Nat) t,xs[i]? =some x→(enc e x)[j]? =some t→∃a,(c.m.blk n).cells[p+i*e.es+j]? =some a∧RV c t a:=by
 have gen:rdT c.tm x=some ⟨e,xs⟩→_:=fun h'=>(row_of R h' r).resolve_left fun q=>by rw[q.1]at hx;simp at hx
 cases x with
 |pl e' l'=>exact gen h
 |sl k=>exact gen h
 |sv k l q=>
  simp only[cpSrc]at h
  split at h
  case h_2=>cases h
  rename_i w e' s hb
  simp only[Option.some.injEq,Sigma.mk.injEq]at h
  obtain⟨rfl,h⟩:=h
  have h:=eq_of_heq h
  subst h
  cases r with
  |svD _ _ _ b' hb' hd _ ho=>rw[hb]at hb';simp at hb';subst hb';cases hd
  |svE _ b' e2 _ hb' hs ha=>
   rw[hb]at hb';simp at hb';subst hb'
   simp at hx
  |sv _ _ _ b' e2 len n p cap hb' hs hE h0 h1 h2=>
   rw[hb]at hb';simp at hb';subst hb'
   simp[TK.shape]at hs
   obtain⟨rfl,rfl⟩:=hs
   rcases R.list k _ _ _ hb with⟨g1,_⟩|⟨n',p',g1,g2,g3,g4,g5,g6⟩
   ·rw[hE]at g1;cases g1
   rw[hE]at g1;simp at g1;obtain⟨rfl,rfl⟩:=g1
   have hlen:((s.take q.toNat).drop l.toNat).length=q.toNat-l.toNat:=by simp;omega
   have hmul:(l.toNat+(q.toNat-l.toNat))*e'.es≤s.length*e'.es:=Nat.mul_le_mul_right _ (by omega)
   rw[Nat.add_mul]at hmul
   refine⟨n,p+l.toNat*e'.es,cap,by rw[hlen],g2,g3,by rw[hlen,g5];omega,fun i x j t q1 q2=> ?_⟩
   rw[List.getElem?_drop,List.getElem?_take]at q1
   split at q1
   ·obtain⟨a,r1,r2⟩:=g6 _ _ _ _ q1 q2
    refine⟨a, ?_,r2⟩
    rw[←r1,Nat.add_mul]
    congr 1;omega
   ·cases q1
 |_=>simp[cpSrc]at h
theorem cp_dst {c:Cfg} {A:Nat→Prop} (R:RM c A) {d:TV} {k:Nat} {l q:Int} {w:Bool} {e:EK} {s:List e.T} {a:AVal} (h:cpDst c.tm d=some (k,l,q)) (hk:c.tm[k]? =some ⟨w, .list e s⟩) (r:RV c d a) (hlt:l<q):
  ∃n p cap,c.E k=some (n,p)∧0≤l∧q≤s.length∧a= .sl n (p+l.toNat*e.es) (q-l).toNat cap e.es:=by
 cases d with
 |sl k'=>
  simp only[cpDst]at h
  split at h
  case h_2=>cases h
  rename_i w' e' s' hb
  simp only[Option.some.injEq,Prod.mk.injEq]at h
  obtain⟨rfl,rfl,rfl⟩:=h
  rw[hk]at hb
  simp only[Option.some.injEq,TB.mk.injEq,TK.list.injEq]at hb
  obtain⟨rfl,rfl,hb⟩:=hb
  have hb:=eq_of_heq hb
  subst hb
  rcases rv_sl hk r with⟨n,p,cap,hE,rfl⟩|⟨_,rfl,_⟩
  ·exact⟨n,p,cap,hE,Int.le_refl _,Int.le_refl _,by simp⟩
  ·simp at hlt
 |sv k' l' q'=>
  simp only[cpDst,Option.some.injEq,Prod.mk.injEq]at h
  obtain⟨rfl,rfl,rfl⟩:=h
  cases r with
  |svD _ _ _ b' hb' hd _ ho=>rw[hk]at hb';simp at hb';subst hb';cases hd
  |svE _ b' e2 _ hb' hs ha=>omega
  |sv _ _ _ b' e2 len n p cap hb' hs hE h0 h1 h2=>
   rw[hk]at hb';simp at hb';subst hb'
   simp[TK.shape]at hs
   obtain⟨rfl,rfl⟩:=hs
   exact⟨n,p,cap,hE,h0,h2,by rw[show q'.toNat-l'.toNat=(q'-l').toNat by omega]⟩
 |_=>simp[cpDst]at h
theorem ok_copy {P:Program} {fl:Nat} {c:Cfg} {A:Nat→Prop} {K:TV→TMem→Prop} (hA:∀n,A n→fl≤n) (R:RM c A) {t:TypeId} {d x:TV} {a b:AVal} (hd:RV c d a) (hx:RV c x b) (h:(tcopy P t d x c.tm).holds K):
  ∃v tm',K v tm'∧∃q c',acopy P fl c.m t a b=some (q,c'.m)∧c'.tm=tm'∧RM c' A∧RV c' v q∧Stp c c' A:=by
 unfold tcopy at h
 split at h
 case h_2=>exact h.elim
 rename_i e' k l q e2 xs hes hdst hsrc
 split at h
 case h_2=>exact h.elim
 rename_i e s hk
 split at h
 case h_2=>exact h.elim
 rename_i ys hcast
 obtain⟨rfl,hcast⟩:=castE_eq hcast
 simp only at hcast
 subst hcast
 cases hb:(Nat.beq e'.es 1&&Nat.beq e2.es 1)with
 |false=>rw[hb]at h;exact h.elim
 |true=>
 rw[hb]at h
 obtain⟨⟨hy,hlt⟩,hK⟩:=h
 rw[Bool.and_eq_true]at hb
 have es':=Nat.eq_of_beq_eq_true hb.1
 have es:=Nat.eq_of_beq_eq_true hb.2
 obtain⟨n,p,cap,hE,h0,h2,rfl⟩:=cp_dst R hdst hk hd hlt
 obtain⟨n',p',cap',rfl,m1,m2,m3,m4⟩:=cp_src R hsrc hx hy
 rcases R.list k _ _ _ hk with⟨g1,_⟩|⟨n2,p2,g1,g2,g3,g4,g5,g6⟩
 ·rw[hE]at g1;cases g1
 rw[hE]at g1;simp at g1;obtain⟨rfl,rfl⟩:=g1
 obtain⟨hrw,hAn⟩:=g4 rfl
 have hmin:(Nat.min xs.length (q-l).toNat)=min xs.length (q-l).toNat:=rfl
 obtain⟨N,hN⟩:∃N,Nat.min xs.length (q-l).toNat=N+1:=⟨Nat.min xs.length (q-l).toNat-1,by rw[hmin];omega⟩
 have hyl:(xs.take (q-l).toNat).length=N+1:=by rw[List.length_take,←hN,hmin];omega
 have hle:N+1≤xs.length:=by rw[←hN,hmin];omega
 have hle2:N+1≤(q-l).toNat:=by rw[←hN,hmin];omega
 rw[es]at m3 g5
 rw[Nat.mul_one]at m3 g5
 have hrow:Row c e2 (xs.take (q-l).toNat) (((c.m.blk n').cells.drop p').take (N+1)):=by
  have:=row_at (c:=c) (n:=n') (p:=p') (e:=e2) (l:=xs.take (q-l).toNat) (by rw[hyl,es];omega) (fun i x j t q1 q2=>by
   rw[List.getElem?_take]at q1
   split at q1
   ·exact m4 i x j t q1 q2
   ·cases q1)
  rw[hyl,es,Nat.mul_one]at this
  exact this
 have hcl:(((c.m.blk n').cells.drop p').take (N+1)).length=N+1:=by simp;omega
 have hU:=upd_ok (n:=n) (tk':= .list e2 (setC s l.toNat (xs.take (q-l).toNat))) (cs:=setCells (c.m.blk n).cells (p+l.toNat) (((c.m.blk n').cells.drop p').take (N+1))) R hk (.inr ⟨e2,s,rfl⟩) hE
  (by simp[TK.shape,setC_length]) (by simp) (fun l' h=>by cases h) (fun e3 l3 heq=>by
   simp only[TK.list.injEq]at heq
   obtain⟨rfl,heq⟩:=heq
   have heq:=eq_of_heq heq
   subst heq
   refine⟨by rw[setCells_length,setC_length,es];omega,fun i x j t q1 q2=> ?_⟩
   have hj:j<e2.es:=by rw[←enc_length e2 x];exact getElem?_lt q2
   have hj0:j=0:=by omega
   subst hj0
   rw[es,Nat.mul_one,Nat.add_zero]
   rw[setC_get _ _ _ _ (by rw[hyl];omega),hyl]at q1
   rw[setCells_eq,setC_get _ _ _ _ (by rw[hcl];omega),hcl]
   split at q1
   ·rename_i hi
    rw[if_pos (by omega)]
    obtain⟨a,r1,r2⟩:=hrow.2 _ _ _ _ q1 q2
    refine⟨a, ?_,r2⟩
    rw[←r1,es]
    congr 1;omega
   ·rename_i hi
    rw[if_neg (by omega)]
    obtain⟨a,r1,r2⟩:=g6 _ _ _ _ q1 q2
    refine⟨a, ?_,r2⟩
    rw[←r1,es]
    congr 1;omega)
 refine⟨_,_,hK,_,_, ?_,rfl,hU.1, .int _ _,hU.2⟩
 unfold acopy
 rw[ekS_bind hes,es',es]
 simp only[hN,Nat.mul_one]
 have hal:alds c.m n' p' (N+1)=some (((c.m.blk n').cells.drop p').take (N+1)):=by
  unfold alds
  rw[if_pos ⟨m1,m2,by omega⟩]
 have hst:asts fl c.m n (p+l.toNat) (((c.m.blk n').cells.drop p').take (N+1))=some (c.m.put n ⟨setCells (c.m.blk n).cells (p+l.toNat) (((c.m.blk n').cells.drop p').take (N+1)), .rw⟩):=by
  unfold asts
  rw[if_pos ⟨hA n hAn,g2,hrw,by rw[hcl];omega,hrow.all_one⟩]
 rw[hal]
 simp only[hst,Option.map_some]
 rfl
end Go.Ab
