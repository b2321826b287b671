/- What is proved here: the plain laws that the law FnScriptRun needs: what its functions compute, and that its model returns true. Conditions: those written in each statement. -/
import Derived.Test.YtigomgblkieahaaGreatDoorPAFnScriptRun
namespace Go.Ab
set_option linter.unusedVariables false
set_option linter.unusedSimpArgs false
theorem L_FormatStore {l r ro fr:List Int} {K:List UInt8→Prop} (hv:SVp l r ro fr) (hK:K (storeS ⟨⟨l,r,ro⟩,fr⟩)):Mi_FormatStore l r ro fr K:=by
 have f8:=hv.f8;have h8:=hv.h.l8
 have h31:=heapS_len hv.h
 refine L_iStoreValid (by omega) (br_f (by simp[hv]) (L_FormatHeap (fun _=>⟨by simp;omega,L_spaced hv ⟨?_,hK⟩⟩) fun h=>absurd hv.h h))
 have:(freeS fr fr.length).length=fr.length*2:=catN_len (free_len hv)
 simp;omega
def phS (p:Int):List UInt8:=gS [[105,100,108,101],[114,111,111,116,115],[109,97,114,107],[115,119,101,101,112]] p
def colS (col:List Int) (n:Nat):List UInt8:=catN (fun i=>sub ([119,103,98]:List UInt8) (col.getD i 0) (col.getD i 0+1)) n
def tailS (i:Int) (lost:Bool):List UInt8:=[32,97,116,32]++Lib.decDigits i.toNat++if lost then[32,108,111,115,116]else[]
def bothS (b:BothV):List UInt8:=storeS b.s++([32]++(phS b.g.phase++([32]++(Lib.decDigits b.g.pos.toNat++([32]++(colS b.g.color b.g.color.length++tailS b.pos b.lost))))))
theorem col_len {n:Nat} {col:List Int} (h:ColP n col):∀i,i<col.length→(sub ([119,103,98]:List UInt8) (col.getD i 0) (col.getD i 0+1)).length=1:=fun i hi=>by
 have a:=h.ok _ (getD_mem 0 hi)
 generalize col.getD i 0=x at a
 rcases(show x=0∨x=1∨x=2 by omega)with rfl|rfl|rfl<;>rfl
theorem ph4 {s:StoreV} {g:GcV} (h:GcP s g):g.phase=0∨g.phase=1∨g.phase=2∨g.phase=3:=by have:=h.p;unfold phOk at this;omega
theorem pos8 {s:StoreV} {g:GcV} (h:GcP s g):0≤g.pos∧g.pos<8:=by have hp:=h.p;have:=h.sv.h.l8;have:=h.sv.h.r3;unfold phOk at hp;omega
theorem phS_len {p:Int} (h:p=0∨p=1∨p=2∨p=3):(phS p).length≤5:=by rcases h with rfl|rfl|rfl|rfl<;>decide
theorem L_FormatBoth {l r ro fr col:List Int} {ph a i:Int} {ops:List OpV} {lost:Bool} {K:List UInt8→Prop} (h:BoP ⟨⟨⟨l,r,ro⟩,fr⟩,⟨ph,col,a⟩,ops,i,lost⟩)
  (hK:K (bothS ⟨⟨⟨l,r,ro⟩,fr⟩,⟨ph,col,a⟩,ops,i,lost⟩)):Mi_FormatBoth l r ro fr ph col a ops i lost K:=by
 have sm:=h.sm
 have hv:SVp l r ro fr:=h.g.sv
 have hc:ColP l.length col:=h.g.c
 have hp:=ph4 h.g
 have ha:=pos8 h.g
 have i0:=h.i0;have i1:=h.i1;have o12:=h.o.len
 have f8:=hv.f8;have h8:=hv.h.l8;have cl:=hc.len
 simp only at hp ha i0 i1 o12
 have e1:=storeS_len hv
 have e2:=phS_len hp
 have e3:=dec_len (n:=a.toNat) (by omega)
 have e5:=dec_len (n:=i.toNat) (by omega)
 refine L_iBothValid (by omega) (by omega) (by omega) (br_f (by simp[h]) (L_FormatStore hv ⟨by simp;omega,⟨by omega,by show ph<4;omega⟩, ?_⟩))
 have e2':(gS [[105,100,108,101],[114,111,111,116,115],[109,97,114,107],[115,119,101,101,112]] ph).length≤5:=e2
 refine⟨by simp only[List.length_append,List.length_cons,List.length_nil];omega,by simp only[List.length_append,List.length_cons,List.length_nil];omega,L_Itoa (by omega) (by omega) ⟨by simp only[List.length_append,List.length_cons,List.length_nil];omega,by simp only[List.length_append,List.length_cons,List.length_nil];omega, ?_⟩⟩
 refine LoopP_for (fun j s=>s=((((((storeS ⟨⟨l,r,ro⟩,fr⟩++[32])++phS ph)++[32])++Lib.decDigits a.toNat)++[32])++colS col j,col,len col,(j:Int),l,r,ro,fr,ph,col,a,ops,i,lost)) col.length (by simp[colS,catN,phS]) ?_ ?_
 ·rintro j _ hj rfl Kb hKb
  have ac:=hc.ok _ (getD_mem (0:Int) hj)
  have e6:(colS col j).length=j*1:=catN_len fun k hk=>col_len hc k (by omega)
  have e7:=col_len hc j hj
  have e8:iadd (col.getD j 0) 1=col.getD j 0+1:=iadd_eq (by omega) (by omega)
  refine br_t (by simp[len_eq];exact hj) ⟨by rw[inB_nat];exact hj, ?_⟩
  simp only[gI_nat,e8]
  refine⟨⟨by omega,by omega,by simp only[len_eq,List.length_cons,List.length_nil];omega⟩,by rw[e7];simp only[List.length_append,List.length_cons,List.length_nil];omega,hKb _ ?_⟩
  rw[iadd_nat (by omega)]
  unfold colS
  rw[catN_succ,List.append_assoc]
 ·rintro _ rfl Kb
  have e6:(colS col col.length).length=col.length*1:=catN_len (col_len hc)
  refine br_f (by simp[len_eq]) (L_Itoa (x:=i) (by omega) (by omega) ⟨by simp only[List.length_cons,List.length_nil];omega,by simp only[List.length_append,List.length_cons,List.length_nil];omega, ?_⟩)
  unfold bothS tailS at hK
  simp only[List.append_assoc]at hK⊢
  refine br (fun e=>⟨by simp only[List.length_append,List.length_cons,List.length_nil];omega, ?_⟩) fun e=> ?_
  ·rw[show lost=true from e]at hK
   simpa using hK
  ·rw[show lost=false from e]at hK
   simpa using hK
theorem free_inj {fr fr':List Int} {c c':UInt8} {t t':List UInt8} (hc:97≤c) (hc':97≤c') (h:∀x∈fr,0≤x∧x<10) (h':∀x∈fr',0≤x∧x<10)
  (e:(fr.flatMap fun x=>[32]++Lib.decDigits x.toNat)++32::c::t=(fr'.flatMap fun x=>[32]++Lib.decDigits x.toNat)++32::c'::t'):fr=fr'∧c::t=c'::t':=by
 have dl:∀x:Int,0≤x∧x<10→∀d:UInt8,97≤d→UInt8.ofNat (48+x.toNat)≠d:=fun x hx d hd q=>by
  have:=UInt8.le_iff_toNat_le.1 hd
  rw[←q,UInt8.toNat_ofNat']at this
  have:UInt8.toNat 97=97:=rfl
  omega
 induction fr generalizing fr' with
 |nil=>
  cases fr' with
  |nil=>simpa using e
  |cons y fr'=>
   exfalso
   have hy:=h' y (by simp)
   rw[List.flatMap_cons,dec1 (by omega)]at e
   simp only[List.flatMap_nil,List.nil_append,List.cons_append,List.cons.injEq,true_and]at e
   exact dl y hy c hc e.1.symm
 |cons x fr ih=>
  have hx:=h x (by simp)
  rw[List.flatMap_cons,dec1 (n:=x.toNat) (by omega)]at e
  cases fr' with
  |nil=>
   exfalso
   simp only[List.flatMap_nil,List.nil_append,List.cons_append,List.cons.injEq,true_and]at e
   exact dl x hx c' hc' e.1
  |cons y fr'=>
   have hy:=h' y (by simp)
   rw[List.flatMap_cons,dec1 (n:=y.toNat) (by omega)]at e
   simp only[List.cons_append,List.nil_append,List.cons.injEq,true_and]at e
   have:=(dig_small ⟨x.toNat,by omega⟩ ⟨y.toNat,by omega⟩).1 e.1
   simp only[Fin.mk.injEq]at this
   have e2:=ih (fun z hz=>h z (by simp[hz])) (fun z hz=>h' z (by simp[hz])) e.2
   exact⟨by rw[e2.1,show x=y by omega],e2.2⟩
theorem catN_flat {l:List Int} {f:Int→List UInt8}:∀n,n≤l.length→catN (fun i=>f (l.getD i 0)) n=(l.take n).flatMap f
 |0,_=>by simp[catN]
 |n+1,h=>by
  rw[catN_succ,catN_flat n (by omega),List.take_add_one,List.getElem?_eq_getElem (by omega),List.flatMap_append,getD_lt (by omega)]
  simp
theorem freeS_flat (fr:List Int):freeS fr fr.length=fr.flatMap fun x=>[32]++Lib.decDigits x.toNat:=by
 unfold freeS
 rw[catN_flat (f:=fun x=>[32]++Lib.decDigits x.toNat) _ (Nat.le_refl _),List.take_length]
theorem heapS_inj {l r ro l' r' ro':List Int} {t t':List UInt8} (h:HVp l r ro) (h':HVp l' r' ro') (hl:l.length=l'.length) (hr:ro.length=ro'.length) (e:heapS l r ro++t=heapS l' r' ro'++t'):l=l'∧r=r'∧ro=ro'∧t=t':=by
 unfold heapS cellsS rootsS at e
 rw[←hl,←hr]at e
 simp only[List.append_assoc]at e
 have h8:=h.l8;have h8':=h'.l8;have q1:=h.lr;have q2:=h'.lr
 have e1:=catN_app (fun i hi=>by have:=cells_len h i hi;simpa only[List.append_assoc]using this) (fun i hi=>by have:=cells_len h' i (by omega);simpa only[List.append_assoc]using this) e
 have e2:=e1.2
 simp only[List.cons_append,List.nil_append,List.cons.injEq,true_and]at e2
 have e3:=catN_app (roots_len h) (fun i hi=>roots_len h' i (by omega)) (f:=fun i=>[32]++digS (ro.getD i 0)) (g:=fun i=>[32]++digS (ro'.getD i 0)) e2
 refine⟨eqL_iff 0 l l' hl fun j hj=> ?_,eqL_iff 0 r r' (by omega) fun j hj=> ?_,eqL_iff 0 ro ro' hr fun j hj=> ?_,e3.2⟩
 ·have a:=h.at.1 j hj;have a':=h'.at.1 j (by omega)
  unfold okP at a a'
  have:=e1.1 j hj
  exact digS_inj (by omega) (by omega) (by omega) (by omega) (List.append_inj this (by rw[digS_len (by omega) (by omega),digS_len (by omega) (by omega)])).1
 ·have a:=h.at.1 j (by omega);have a':=h'.at.1 j (by omega);have b:=h.at.2.1 j (by omega);have b':=h'.at.2.1 j (by omega)
  unfold okP at a a' b b'
  have:=e1.1 j (by omega)
  have:=(List.append_inj this (by rw[digS_len (by omega) (by omega),digS_len (by omega) (by omega)])).2
  exact digS_inj (by omega) (by omega) (by omega) (by omega) (List.append_inj this (by rw[digS_len (by omega) (by omega),digS_len (by omega) (by omega)])).1
 ·have a:=h.at.2.2 j hj;have a':=h'.at.2.2 j (by omega)
  unfold okP at a a'
  have:=e3.1 j hj
  simp only[List.cons_append,List.nil_append,List.cons.injEq,true_and]at this
  exact digS_inj (by omega) (by omega) (by omega) (by omega) this
theorem col_inj:∀x:Fin 3,∀y:Fin 3,sub ([119,103,98]:List UInt8) (x.1:Int) ((x.1:Int)+1)=sub ([119,103,98]:List UInt8) (y.1:Int) ((y.1:Int)+1)→x=y:=by decide
theorem tail_inj {i j:Int} {x y:Bool} (i0:0≤i) (i1:i≤12) (j0:0≤j) (j1:j≤12) (e:tailS i x=tailS j y):i=j∧x=y:=by
 have key:∀a:Fin 13,∀b:Fin 13,∀x y:Bool,((if a.1<10 then[UInt8.ofNat (48+a.1)]else[UInt8.ofNat (48+a.1/10),UInt8.ofNat (48+a.1 % 10)])++if x then([32,108,111,115,116]:List UInt8)else[])=((if b.1<10 then[UInt8.ofNat (48+b.1)]else[UInt8.ofNat (48+b.1/10),UInt8.ofNat (48+b.1 % 10)])++if y then([32,108,111,115,116]:List UInt8)else[])→a=b∧x=y:=by decide
 have hd:∀k:Int,0≤k→k≤12→Lib.decDigits k.toNat=if k.toNat<10 then[UInt8.ofNat (48+k.toNat)]else[UInt8.ofNat (48+k.toNat/10),UInt8.ofNat (48+k.toNat % 10)]:=fun k h0 h1=>by
  split
  ·exact dec1 (by assumption)
  ·exact dec2 (by omega) (by omega)
 unfold tailS at e
 simp only[List.append_assoc]at e
 have e:=List.append_cancel_left e
 rw[hd i i0 i1,hd j j0 j1]at e
 have:=key ⟨i.toNat,by omega⟩ ⟨j.toNat,by omega⟩ x y e
 simp only[Fin.mk.injEq]at this
 exact⟨by omega,this.2⟩
theorem ph_inj {p p':Int} (h:p=0∨p=1∨p=2∨p=3) (h':p'=0∨p'=1∨p'=2∨p'=3) {t t':List UInt8} (e:phS p++t=phS p'++t'):p=p'∧t=t':=by
 rcases h with rfl|rfl|rfl|rfl<;>rcases h' with rfl|rfl|rfl|rfl<;>simp[phS,gS,EK.dflt]at e⊢<;>exact e
theorem ph_head {p:Int} (h:p=0∨p=1∨p=2∨p=3):∃c t,phS p=c::t∧(97:UInt8)≤c:=by
 rcases h with rfl|rfl|rfl|rfl<;>exact⟨_,_,rfl,by decide⟩
theorem bothS_inj {b b':BothV} (h:BoP b) (h':BoP b') (hl:b.s.h.l.length=b'.s.h.l.length) (hr:b.s.h.ro.length=b'.s.h.ro.length) (ho:b.ops=b'.ops) (e:bothS b=bothS b'):b=b':=by
 obtain⟨⟨⟨l,r,ro⟩,fr⟩,⟨ph,col,a⟩,ops,i,lost⟩:=b
 obtain⟨⟨⟨l',r',ro'⟩,fr'⟩,⟨ph',col',a'⟩,ops',i',lost'⟩:=b'
 have g:=h.g;have g':=h'.g
 have p4:=ph4 g;have p4':=ph4 g'
 have a8:=pos8 g;have a8':=pos8 g'
 have i0:=h.i0;have i1:=h.i1;have o12:=h.o.len
 have i0':=h'.i0;have i1':=h'.i1;have o12':=h'.o.len
 have hc:ColP l.length col:=g.c
 have hc':ColP l'.length col':=g'.c
 have hs:SVp l r ro fr:=g.sv
 have hs':SVp l' r' ro' fr':=g'.sv
 have h8:=hs.h.l8;have h8':=hs'.h.l8;have cl:=hc.len;have cl':=hc'.len
 simp only at hl hr ho p4 p4' a8 a8' i0 i1 o12 i0' i1' o12'
 unfold bothS storeS at e
 simp only[List.append_assoc]at e
 obtain⟨rfl,rfl,rfl,f1⟩:=heapS_inj hs.h hs'.h hl hr e
 have f2:=List.append_cancel_left f1
 rw[freeS_flat,freeS_flat]at f2
 obtain⟨c,t,q1,q2⟩:=ph_head p4
 obtain⟨c',t',q1',q2'⟩:=ph_head p4'
 rw[q1,q1']at f2
 obtain⟨rfl,f3⟩:=free_inj (fr:=fr) (fr':=fr') q2 q2' (fun x hx=>by have:=hs.c.ok x hx;omega) (fun x hx=>by have:=hs'.c.ok x hx;omega) f2
 have f4:phS ph++([32]++(Lib.decDigits a.toNat++([32]++(colS col col.length++tailS i lost))))=phS ph'++([32]++(Lib.decDigits a'.toNat++([32]++(colS col' col'.length++tailS i' lost')))):=by rw[q1,q1'];exact f3
 obtain⟨rfl,f5⟩:=ph_inj p4 p4' f4
 have f6:=List.append_cancel_left f5
 rw[dec1 (n:=a.toNat) (by omega),dec1 (n:=a'.toNat) (by omega)]at f6
 simp only[List.cons_append,List.nil_append,List.cons.injEq,true_and]at f6
 have ea:=(dig_small ⟨a.toNat,by omega⟩ ⟨a'.toNat,by omega⟩).1 f6.1
 simp only[Fin.mk.injEq]at ea
 have f7:=f6.2
 rw[show col'.length=col.length by omega]at f7
 unfold colS at f7
 have ec:=catN_app (col_len hc) (fun i hi=>col_len hc' i (by omega)) (f:=fun i=>sub ([119,103,98]:List UInt8) (col.getD i 0) (col.getD i 0+1)) (g:=fun i=>sub ([119,103,98]:List UInt8) (col'.getD i 0) (col'.getD i 0+1)) f7
 have et:=tail_inj i0 (by omega) i0' (by omega) ec.2
 have hcol:col=col':=eqL_iff 0 col col' (by omega) fun j hj=>by
  have k:=hc.ok _ (getD_mem (0:Int) hj);have k':=hc'.ok _ (getD_mem (0:Int) (l:=col') (i:=j) (by omega))
  have:=ec.1 j hj
  generalize col.getD j 0=x at this k
  generalize col'.getD j 0=y at this k'
  have:=col_inj ⟨x.toNat,by omega⟩ ⟨y.toNat,by omega⟩ (by simp only;rw[show((x.toNat:Nat):Int)=x by omega,show((y.toNat:Nat):Int)=y by omega];exact this)
  simp only[Fin.mk.injEq]at this
  omega
 rw[hcol,et.1,et.2,ho,show a=a' by omega]
def dg (x:Int):List UInt8:=[UInt8.ofNat (48+x.toNat)]
def fmtO (o:OpV):List UInt8:=if o.kind=1∨o.kind=7 then(wordK o.kind++[32])++dg o.a else(((wordK o.kind++[32])++dg o.a)++[32])++dg o.b
theorem dg_dec:∀a:Fin 10,bytesOf [IntKind.u8.wrap (iadd 48 (a.1:Int))]=[UInt8.ofNat (48+a.1)]:=by decide+kernel
theorem L_DecE {p:Int} {K:List UInt8→Prop} (h0:0≤p) (h9:p≤9) (hK:K (dg p)):Ms_l13Dec p K:=by
 refine br_f (by simp;omega) (br_f (by simp;omega) ?_)
 refine LoopP_for (fun i st=>st=(p,([]:List UInt8))) 0 rfl (fun i s hi=>absurd hi (by omega)) ?_
 rintro _ rfl Kb
 refine br_f (by simp;omega) ⟨by simp,by simp[bytesOf], ?_⟩
 have:=dg_dec ⟨p.toNat,by omega⟩
 simp only[show((p.toNat:Nat):Int)=p by omega]at this
 simp only[this,List.append_nil]
 exact hK
theorem L_FormatOpE {k a b:Int} {K:List UInt8→Prop} (hy:opOk ⟨k,a,b⟩ 3→K (fmtO ⟨k,a,b⟩)) (hn:¬opOk ⟨k,a,b⟩ 3→K []):Ms_FormatOp k a b K:=by
 refine L_sOpValid (q:=3) rfl (br (fun e=>hn (by simpa using e)) fun e=> ?_)
 have ho:opOk ⟨k,a,b⟩ 3:=by simpa using e
 replace hy:=hy ho
 have a0:=ho.a0;have a3:=ho.a3;have b0:=ho.b0;have b3:=ho.b3
 simp only at a0 a3 b0 b3
 have hw:=wordK_len k
 unfold fmtO at hy
 refine L_l5Word ⟨by simp;omega,L_DecE a0 (by omega) ⟨by simp[dg];omega,L_l5One (br (fun e=> ?_) fun e=>⟨by simp[dg];omega,L_DecE b0 (by omega) ⟨by simp[dg];omega, ?_⟩⟩)⟩⟩
 ·rw[if_pos (of_decide_eq_true e)]at hy;exact hy
 ·rw[if_neg (of_decide_eq_false e)]at hy;exact hy
def cands:List OpV:=(List.range 7).flatMap fun(k:Nat)=>(List.range 3).flatMap fun(a:Nat)=>(List.range 3).map fun(b:Nat)=>(⟨(k:Int)+1,(a:Int),(b:Int)⟩:OpV)
def parse1 (s:List UInt8):Option OpV:=cands.find? fun o=>decide (opOk o 3)&&decide (fmtO o=s)
theorem cand_mem {o:OpV} (h:opOk o 3):o∈cands:=by
 obtain⟨k,a,b⟩:=o
 have k1:=h.k1;have k7:=h.k7;have a0:=h.a0;have a3:=h.a3;have b0:=h.b0;have b3:=h.b3
 simp only at k1 k7 a0 a3 b0 b3
 unfold cands
 simp only[List.mem_flatMap,List.mem_range,List.mem_map]
 exact⟨(k-1).toNat,by omega,a.toNat,by omega,b.toNat,by omega,by simp;omega⟩
theorem fmt_inj0:∀o∈cands,opOk o 3→∀p∈cands,opOk p 3→fmtO o=fmtO p→o=p:=by decide+kernel
theorem fmt_inj {o p:OpV} (ho:opOk o 3) (hp:opOk p 3) (h:fmtO o=fmtO p):o=p:=fmt_inj0 o (cand_mem ho) ho p (cand_mem hp) hp h
theorem parse1_some {s:List UInt8} {o:OpV}:parse1 s=some o↔opOk o 3∧fmtO o=s:=by
 constructor
 ·intro h
  have:=List.find?_some h
  simpa using this
 ·rintro⟨h1,h2⟩
  cases h:parse1 s with
  |none=>
   have:=List.find?_eq_none.1 h o (cand_mem h1)
   simp[h1,h2]at this
  |some p=>
   have:=List.find?_some h
   simp only[Bool.and_eq_true,decide_eq_true_eq]at this
   rw[fmt_inj h1 this.1 (h2.trans this.2.symm)]
theorem parse1_none {s:List UInt8}:parse1 s=none↔∀o,opOk o 3→fmtO o≠s:=by
 constructor
 ·intro h o ho e
  rw[parse1_some.2 ⟨ho,e⟩]at h;cases h
 ·intro h
  cases h2:parse1 s with
  |none=>rfl
  |some o=>exact absurd (parse1_some.1 h2).2 (h o (parse1_some.1 h2).1)
theorem fmt_ne {o:OpV}:fmtO o≠[]:=by unfold fmtO dg;split<;>simp
def nextB (b:BothV) (bar:Bool) (c:UInt8):Option BothV:=if b.lost=true then none else if c=111 then(if b.pos<b.ops.length then some (opB b bar)else none)else some (gcB b)
def nd0:NodeV:=EK.dflt .node
def nd (l:List NodeV) (j:Nat):NodeV:=l.getD j nd0
theorem gN_nat (l:List NodeV) (j:Nat):gN l (j:Int)=nd l j:=by simp[gN,nd,nd0]
def addN (bar:Bool) (l:List NodeV) (x:NodeV) (c:UInt8):List NodeV:=
 match nextB x.b bar c with
 |none=>l
 |some n=>if ∃y∈l,y.b=n then l else l++[⟨n,x.road++[c]⟩]
def walk (bar:Bool):Nat→Nat→List NodeV→Option (List NodeV)
 |0,_,_=>none
 |f+1,i,l=>if i<l.length then(if 400<(addN bar (addN bar l (nd l i) 103) (nd l i) 111).length then none else walk bar f (i+1) (addN bar (addN bar l (nd l i) 103) (nd l i) 111))else some l
def allB (b:BothV) (bar:Bool):Option (List NodeV):=walk bar 402 0 [⟨b,[]⟩]
theorem nextB_one {b n:BothV} {bar:Bool} {c:UInt8} (h:nextB b bar c=some n):b.lost=false∧n=oneB b bar c:=by
 unfold nextB at h
 split at h
 ·cases h
 ·rename_i hl
  have hl:b.lost=false:=by simpa using hl
  split at h
  ·rename_i hc
   split at h
   ·rename_i hp
    cases h
    exact⟨hl,oneB_o hl hc hp⟩
   ·cases h
  ·rename_i hc
   cases h
   exact⟨hl,oneB_g hl hc⟩
structure Uni (b0 b:BothV):Prop where
 v:BoP b
 l:b.s.h.l.length=b0.s.h.l.length
 r:b.s.h.ro.length=b0.s.h.ro.length
 o:b.ops=b0.ops
theorem runOp_lens (b:BothV) (bar:Bool):(opB b bar).s.h.l.length=b.s.h.l.length∧(opB b bar).s.h.ro.length=b.s.h.ro.length:=by
 unfold opB
 split
 ·exact⟨rfl,rfl⟩
 ·have:=runOp_len b.s (gO b.ops b.pos)
  exact⟨this.1,this.2.2⟩
theorem gcB_lens (b:BothV):(gcB b).s.h.l.length=b.s.h.l.length∧(gcB b).s.h.ro.length=b.s.h.ro.length:=by
 unfold gcB
 split
 ·exact⟨rfl,rfl⟩
 ·have:=stepG_lens (s:=b.s) (g:=b.g)
  exact⟨this.1,by rw[this.2]⟩
theorem Uni.next {b0 b n:BothV} {bar:Bool} {c:UInt8} (h:Uni b0 b) (hn:nextB b bar c=some n):Uni b0 n:=by
 have e:=nextB_one hn
 refine⟨by rw[e.2];exact oneB_valid h.v bar c, ?_, ?_, ?_⟩
 ·rw[e.2];unfold oneB
  split
  ·exact h.l
  split
  ·split
   ·rw[(runOp_lens b bar).1];exact h.l
   ·exact h.l
  ·rw[(gcB_lens b).1];exact h.l
 ·rw[e.2];unfold oneB
  split
  ·exact h.r
  split
  ·split
   ·rw[(runOp_lens b bar).2];exact h.r
   ·exact h.r
  ·rw[(gcB_lens b).2];exact h.r
 ·rw[e.2,oneB_rest];exact h.o
theorem Uni.text {b0 b c:BothV} (h:Uni b0 b) (h':Uni b0 c) (e:bothS b=bothS c):b=c:=bothS_inj h.v h'.v (h.l.trans h'.l.symm) (h.r.trans h'.r.symm) (h.o.trans h'.o.symm) e
def Tree (b0:BothV) (bar:Bool) (l:List NodeV):Prop:=0<l.length∧∀j,j<l.length→(j=0∧nd l j=⟨b0,[]⟩)∨∃k c,k<j∧(c=103∨c=111)∧nextB (nd l k).b bar c=some (nd l j).b∧(nd l j).road=(nd l k).road++[c]
theorem nd_app {l m:List NodeV} {j:Nat} (h:j<l.length):nd (l++m) j=nd l j:=by
 unfold nd
 rw[List.getD_eq_getElem?_getD,List.getElem?_append_left h,←List.getD_eq_getElem?_getD]
theorem nd_last {l:List NodeV} {x:NodeV}:nd (l++[x]) l.length=x:=by
 unfold nd
 rw[List.getD_eq_getElem?_getD,List.getElem?_append_right (Nat.le_refl _)];simp
theorem nd_mem {l:List NodeV} {j:Nat} (h:j<l.length):nd l j∈l:=getD_mem _ h
theorem mem_nd {l:List NodeV} {y:NodeV} (h:y∈l):∃j,j<l.length∧nd l j=y:=by
 obtain⟨j,hj,e⟩:=List.mem_iff_getElem.1 h
 exact⟨j,hj,by unfold nd;rw[getD_lt hj];exact e⟩
theorem addN_cases (bar:Bool) (l:List NodeV) (x:NodeV) (c:UInt8):addN bar l x c=l∨∃n,nextB x.b bar c=some n∧addN bar l x c=l++[⟨n,x.road++[c]⟩]:=by
 unfold addN
 split
 ·exact .inl rfl
 ·rename_i n e
  split
  ·exact .inl rfl
  ·exact .inr ⟨n,e,rfl⟩
theorem addN_nd {bar:Bool} {l:List NodeV} {x:NodeV} {c:UInt8} {j:Nat} (h:j<l.length):nd (addN bar l x c) j=nd l j:=by
 rcases addN_cases bar l x c with e|⟨n,_,e⟩<;>rw[e]
 rw[nd_app h]
theorem addN_le (bar:Bool) (l:List NodeV) (x:NodeV) (c:UInt8):l.length≤(addN bar l x c).length:=by
 rcases addN_cases bar l x c with e|⟨n,_,e⟩<;>rw[e]
 ·exact Nat.le_refl _
 ·simp
theorem addN_tree {b0:BothV} {bar:Bool} {l:List NodeV} {c:UInt8} {k:Nat} (hc:c=103∨c=111) (hk:k<l.length) (h:Tree b0 bar l):Tree b0 bar (addN bar l (nd l k) c):=by
 rcases addN_cases bar l (nd l k) c with e|⟨n,hn,e⟩
 ·rw[e];exact h
 ·rw[e]
  refine⟨by simp,fun j hj=> ?_⟩
  by_cases hj2:j<l.length
  ·rw[nd_app hj2]
   rcases h.2 j hj2 with q|⟨k2,c2,q1,q2,q3,q4⟩
   ·exact .inl q
   ·exact .inr ⟨k2,c2,q1,q2,by rw[nd_app (by omega)];exact q3,by rw[nd_app (by omega)];exact q4⟩
  ·have:j=l.length:=by simp at hj;omega
   subst this
   rw[nd_last]
   exact .inr ⟨k,c,hk,hc,by rw[nd_app hk];exact hn,by rw[nd_app hk]⟩
structure NodeP (b0:BothV) (bar:Bool) (x:NodeV) (j:Nat):Prop where
 u:Uni b0 x.b
 run:x.b=runB b0 bar x.road
 len:x.road.length≤j
 sch:schOk x.road
theorem runB_snoc (b:BothV) (bar:Bool) (l:List UInt8) (c:UInt8):runB b bar (l++[c])=oneB (runB b bar l) bar c:=by unfold runB;rw[List.foldl_append];rfl
theorem tree_ok {b0:BothV} {bar:Bool} {l:List NodeV} (hv:BoP b0) (h:Tree b0 bar l):∀j,j<l.length→NodeP b0 bar (nd l j) j:=by
 intro j
 induction j using Nat.strongRecOn with
 |ind j ih=>
  intro hj
  rcases h.2 j hj with⟨rfl,q⟩|⟨k,c,q1,q2,q3,q4⟩
  ·rw[q]
   exact⟨⟨hv,rfl,rfl,rfl⟩,rfl,Nat.le_refl _,fun c hc=>by simp at hc⟩
  ·have i:=ih k q1 (by omega)
   refine⟨i.u.next q3, ?_, ?_, ?_⟩
   ·rw[q4,runB_snoc,←i.run];exact(nextB_one q3).2
   ·rw[q4];have:=i.len;simp;omega
   ·rw[q4];intro d hd
    rcases List.mem_append.1 hd with hd|hd
    ·exact i.sch d hd
    ·rw[List.mem_singleton.1 hd]
     exact q2.symm
theorem tree_uni {b0:BothV} {bar:Bool} {l:List NodeV} (hv:BoP b0) (h:Tree b0 bar l):∀y∈l,Uni b0 y.b:=fun y hy=>by
 obtain⟨j,hj,e⟩:=mem_nd hy
 rw[←e];exact(tree_ok hv h j hj).u
theorem tree0 (b0:BothV) (bar:Bool):Tree b0 bar [⟨b0,[]⟩]:=⟨by simp,fun j hj=>by
 have:j=0:=by simp at hj;omega
 subst this;exact .inl ⟨rfl,rfl⟩⟩
theorem walk_tree {b0:BothV} {bar:Bool}:∀{f i:Nat} {l m:List NodeV},Tree b0 bar l→l.length≤400→walk bar f i l=some m→Tree b0 bar m∧m.length≤400
 |0,_,_,_,_,_,h=>by cases h
 |f+1,i,l,m,ht,hl,h=>by
  unfold walk at h
  split at h
  ·rename_i hi
   split at h
   ·cases h
   ·rename_i h4
    refine walk_tree (f:=f) ?_ (by omega) h
    have t1:=addN_tree (c:=103) (.inl rfl) hi ht
    have t2:=addN_tree (c:=111) (k:=i) (.inr rfl) (Nat.lt_of_lt_of_le hi (addN_le _ _ _ _)) t1
    rwa [addN_nd hi]at t2
  ·cases h;exact⟨ht,hl⟩
theorem L_FormatNone {K:List UInt8→Prop} (hK:K []):Mi_FormatBoth [] [] [] [] 0 [] 0 [] 0 false K:=by
 refine L_iBothValid (by simp) (by simp) (by simp) (br_t ?_ hK)
 have:¬BoP ⟨⟨⟨[],[],[]⟩,[]⟩,⟨0,[],0⟩,[],0,false⟩:=fun h=>by have:=h.g.sv.h.l1;simp at this
 simp[this]
def seenOk (seen:List (List UInt8)) (l:List NodeV):Prop:=∀t,t∈seen↔∃y∈l,bothS y.b=t
theorem meet_no {x1 x2 x3 x4:List Int} {x5:Int} {x6:List Int} {x7:Int} {x8:List OpV} {x9:Int} {x10:Bool} {road letter:List UInt8} {seen:List (List UInt8)} {all:List NodeV} {K:List (List UInt8)→List NodeV→Prop} (hK:K seen all):
 Mi_comes_1 [] [] [] [] 0 [] 0 [] 0 false false letter x1 x2 x3 x4 x5 x6 x7 x8 x9 x10 road seen all K:=L_FormatNone ⟨fun h=>(by cases h),fun _=>hK⟩
theorem meet_yes {b0 n:BothV} {x:NodeV} {bar:Bool} {c:UInt8} {x1 x2 x3 x4:List Int} {x5:Int} {x6:List Int} {x7:Int} {x8:List OpV} {x9:Int} {x10:Bool} {seen:List (List UInt8)} {all:List NodeV} {K:List (List UInt8)→List NodeV→Prop}
  (hx:Uni b0 x.b) (hn:nextB x.b bar c=some n) (hl:all.length≤500) (hr:x.road.length≤500) (hu:∀y∈all,Uni b0 y.b) (hs:seenOk seen all) (hK:∀seen',seenOk seen' (addN bar all x c)→K seen' (addN bar all x c)):
  KB (fun p a i lost l r ro fr col ops=>Mi_comes_1 l r ro fr p col a ops i lost true [c] x1 x2 x3 x4 x5 x6 x7 x8 x9 x10 x.road seen all K) n:=by
 have hnu:=hx.next hn
 obtain⟨⟨⟨l,r,ro⟩,fr⟩,⟨ph,col,a⟩,ops,i,lost⟩:=n
 refine L_FormatBoth hnu.v ⟨fun _=> ?_,fun h=>(by cases h)⟩
 have key:bothS ⟨⟨⟨l,r,ro⟩,fr⟩,⟨ph,col,a⟩,ops,i,lost⟩∈seen↔∃y∈all,y.b=⟨⟨⟨l,r,ro⟩,fr⟩,⟨ph,col,a⟩,ops,i,lost⟩:=by
  rw[hs]
  exact⟨fun⟨y,h1,h2⟩=>⟨y,h1,(hu y h1).text hnu h2⟩,fun⟨y,h1,h2⟩=>⟨y,h1,by rw[h2]⟩⟩
 unfold addN at hK
 rw[hn]at hK
 simp only at hK
 refine br (fun e=> ?_) fun e=> ?_
 ·have e:bothS ⟨⟨⟨l,r,ro⟩,fr⟩,⟨ph,col,a⟩,ops,i,lost⟩∉seen:=by simpa using e
  rw[if_neg (fun q=>e (key.2 q))]at hK
  refine⟨by simp;omega,by simp;omega, ?_⟩
  unfold addKey
  rw[if_neg e]
  refine hK _ fun t=> ?_
  simp only[List.mem_append,hs t,List.mem_singleton]
  constructor
  ·rintro(⟨y,h1,h2⟩|h)
   ·exact⟨y, .inl h1,h2⟩
   ·exact⟨_, .inr rfl,h.symm⟩
  ·rintro⟨y,h1|h1,h2⟩
   ·exact .inl ⟨y,h1,h2⟩
   ·exact .inr (by rw[←h2,h1])
 ·have e:bothS ⟨⟨⟨l,r,ro⟩,fr⟩,⟨ph,col,a⟩,ops,i,lost⟩∈seen:=by simpa using e
  rw[if_pos (key.1 e)]at hK
  exact hK _ hs
theorem addN_none {bar:Bool} {l:List NodeV} {x:NodeV} {c:UInt8} (h:nextB x.b bar c=none):addN bar l x c=l:=by unfold addN;rw[h]
theorem addN_uni {b0:BothV} {bar:Bool} {l:List NodeV} {x:NodeV} {c:UInt8} (hx:Uni b0 x.b) (h:∀y∈l,Uni b0 y.b):∀y∈addN bar l x c,Uni b0 y.b:=by
 rcases addN_cases bar l x c with e|⟨n,hn,e⟩<;>rw[e]
 ·exact h
 ·intro y hy
  rcases List.mem_append.1 hy with hy|hy
  ·exact h y hy
  ·rw[List.mem_singleton.1 hy];exact hx.next hn
theorem addN_len {bar:Bool} {l:List NodeV} {x:NodeV} {c:UInt8}:(addN bar l x c).length≤l.length+1:=by
 rcases addN_cases bar l x c with e|⟨n,_,e⟩<;>rw[e]
 ·omega
 ·simp
theorem L_comes {l r ro fr col:List Int} {ph a i:Int} {ops:List OpV} {lost bar:Bool} {K:Bool→List NodeV→Prop} (hf:fr.length<2^60) (hc:col.length<2^60) (ho:ops.length<2^60)
  (hb:¬BoP ⟨⟨⟨l,r,ro⟩,fr⟩,⟨ph,col,a⟩,ops,i,lost⟩→K false [])
  (hn:BoP ⟨⟨⟨l,r,ro⟩,fr⟩,⟨ph,col,a⟩,ops,i,lost⟩→allB ⟨⟨⟨l,r,ro⟩,fr⟩,⟨ph,col,a⟩,ops,i,lost⟩ bar=none→K false [])
  (hy:BoP ⟨⟨⟨l,r,ro⟩,fr⟩,⟨ph,col,a⟩,ops,i,lost⟩→∀m,allB ⟨⟨⟨l,r,ro⟩,fr⟩,⟨ph,col,a⟩,ops,i,lost⟩ bar=some m→K true m):Mi_comes l r ro fr ph col a ops i lost bar K:=by
 refine L_iBothValid hf hc ho (br (fun e=>hb (by simpa using e)) fun e=> ?_)
 have hv:BoP ⟨⟨⟨l,r,ro⟩,fr⟩,⟨ph,col,a⟩,ops,i,lost⟩:=by simpa using e
 refine L_anew hv (L_FormatBoth hv ?_)
 replace hn:=hn hv
 replace hy:=hy hv
 generalize hb0:(⟨⟨⟨l,r,ro⟩,fr⟩,⟨ph,col,a⟩,ops,i,lost⟩:BothV)=b0 at hv hn hy
 refine LoopP_inv (fun s=>∃(j:Nat) (m:List NodeV) (seen:List (List UInt8)),s=(bar,(j:Int),m,seen)∧j≤401∧Tree b0 bar m∧m.length≤400∧j≤m.length∧seenOk seen m∧walk bar (402-j) j m=allB b0 bar) (fun s=>(402-s.2.1).toNat) ?_
  ⟨0,[⟨b0,[]⟩],[bothS b0],by rw[←hb0];rfl,by omega,tree0 _ _,by simp,by simp,fun t=>by simp[eq_comm],rfl⟩
 rintro _ ⟨j,m,seen,rfl,hj,ht,hm,hjm,hs,hw⟩ Kb hKb
 rw[show 402-j=(401-j)+1 by omega]at hw
 unfold walk at hw
 have hu:=tree_uni hv ht
 refine br (fun e=> ?_) fun e=> ?_
 ·have e:(j:Int)<len m:=of_decide_eq_true e
  simp only[len_eq]at e
  have hjl:j<m.length:=by omega
  rw[if_pos hjl]at hw
  refine⟨by rw[inB_nat];exact hjl, ?_⟩
  simp only[gN_nat]
  have hx:=tree_ok hv ht j hjl
  have ht2:Tree b0 bar (addN bar (addN bar m (nd m j) 103) (nd m j) 111):=by
   have t1:=addN_tree (c:=103) (.inl rfl) hjl ht
   have t2:=addN_tree (c:=111) (k:=j) (.inr rfl) (Nat.lt_of_lt_of_le hjl (addN_le _ _ _ _)) t1
   rwa [addN_nd hjl]at t2
  have hxl:=hx.len
  have hxu:=hx.u
  generalize nd m j=x at hw hx hxl hxu ht2
  have hxv:BoP ⟨⟨⟨x.b.s.h.l,x.b.s.h.r,x.b.s.h.ro⟩,x.b.s.free⟩,⟨x.b.g.phase,x.b.g.color,x.b.g.pos⟩,x.b.ops,x.b.pos,x.b.lost⟩:=hxu.v
  have fin:∀seen2,seenOk seen2 (addN bar (addN bar m x 103) x 111)→((((decide ((len (addN bar (addN bar m x 103) x 111))>400))=true→(K false []))∧((decide ((len (addN bar (addN bar m x 103) x 111))>400))=false→(Kb (bar,(iadd (j:Int) 1),(addN bar (addN bar m x 103) x 111),seen2))))):=fun seen2 hs2=>by
   refine br (fun e2=>hn ?_) fun e2=> ?_
   ·have e2:=of_decide_eq_true e2
    simp only[len_eq]at e2
    rw[if_pos (by omega)]at hw;exact hw.symm
   ·have e2:=of_decide_eq_false e2
    simp only[len_eq]at e2
    rw[if_neg (by omega)]at hw
    have hl1:=addN_le bar m x 103
    have hl2:=addN_le bar (addN bar m x 103) x 111
    refine hKb _ ⟨j+1,_,seen2,by rw[iadd_nat (by omega)],by omega,ht2,by omega,by omega,hs2,by rw[show 402-(j+1)=401-j by omega];exact hw⟩ ?_
    rw[iadd_nat (by omega)]
    show(402-((j+1:Nat):Int)).toNat<(402-(j:Int)).toNat
    omega
  have two:∀seen1,seenOk seen1 (addN bar m x 103)→Mi_StepOp x.b.s.h.l x.b.s.h.r x.b.s.h.ro x.b.s.free x.b.g.phase x.b.g.color x.b.g.pos x.b.ops x.b.pos x.b.lost bar (fun y23 y24 y25 y26 y27 y28 y29 y30 y31 y32 y33=>Mi_comes_1 y28 y29 y30 y31 y23 y32 y24 y33 y25 y26 y27 [111] x.b.s.h.l x.b.s.h.r x.b.s.h.ro x.b.s.free x.b.g.phase x.b.g.color x.b.g.pos x.b.ops x.b.pos x.b.lost x.road seen1 (addN bar m x 103) fun y34 y35=>(((decide ((len y35)>400))=true→(K false []))∧((decide ((len y35)>400))=false→(Kb (bar,(iadd (j:Int) 1),y35,y34))))):=fun seen1 hs1=>by
   have hl1:=addN_len (bar:=bar) (l:=m) (x:=x) (c:=103)
   refine L_StepOp hxv (fun hno=> ?_) fun h1 h2=> ?_
   ·have:nextB x.b bar 111=none:=by
     unfold nextB
     rcases hno with h|h
     ·rw[if_pos h]
     ·split
      ·rfl
      ·rw[if_pos rfl,if_neg (by omega)]
    have:=addN_none (l:=addN bar m x 103) this
    rw[this]at fin
    exact meet_no (fin _ hs1)
   ·have:nextB x.b bar 111=some (opB x.b bar):=by
     unfold nextB
     rw[if_neg (by rw[h1];decide),if_pos rfl,if_pos h2]
    exact meet_yes hxu this (by omega) (by omega) (addN_uni hxu hu) hs1 fin
  refine L_StepBoth hxv (fun hno=> ?_) fun h1=> ?_
  ·have:nextB x.b bar 103=none:=by unfold nextB;rw[if_pos hno]
   have:=addN_none (l:=m) this
   rw[this]at two
   exact meet_no (two _ hs)
  ·have:nextB x.b bar 103=some (gcB x.b):=by
    unfold nextB
    rw[if_neg (by rw[h1];decide),if_neg (by decide)]
   exact meet_yes hxu this (by omega) (by omega) hu hs two
 ·have e:¬(j:Int)<len m:=of_decide_eq_false e
  simp only[len_eq]at e
  rw[if_neg (by omega)]at hw
  exact hy _ hw.symm
def lossB (b:BothV) (bar:Bool):Option NodeV:=if BoP b then(allB b bar).bind fun m=>m.find? fun x=>x.b.lost else none
def canB (b:BothV) (bar:Bool):Bool×Bool:=if BoP b then(match allB b bar with|none=>(false,false)|some m=>(m.any fun x=>x.b.lost,true))else(false,false)
theorem find_first {m:List NodeV} {j:Nat} (hj:j<m.length) (h1:(nd m j).b.lost=true) (h2:∀k,k<j→(nd m k).b.lost=false):m.find? (fun x=>x.b.lost)=some (nd m j):=by
 rw[List.find?_eq_some_iff_getElem]
 refine⟨h1,j,hj,by unfold nd;rw[getD_lt hj],fun k hk=> ?_⟩
 have:=h2 k hk
 unfold nd at this
 rw[getD_lt (by omega)]at this
 simp[this]
theorem find_none {m:List NodeV} (h2:∀k,k<m.length→(nd m k).b.lost=false):m.find? (fun x=>x.b.lost)=none:=by
 rw[List.find?_eq_none]
 intro x hx
 obtain⟨j,hj,e⟩:=mem_nd hx
 rw[←e,h2 j hj];decide
theorem any_first {m:List NodeV} {j:Nat} (hj:j<m.length) (h1:(nd m j).b.lost=true):(m.any fun x=>x.b.lost)=true:=List.any_eq_true.2 ⟨_,nd_mem hj,h1⟩
theorem any_none {m:List NodeV} (h2:∀k,k<m.length→(nd m k).b.lost=false):(m.any fun x=>x.b.lost)=false:=by
 rw[List.any_eq_false]
 intro x hx
 obtain⟨j,hj,e⟩:=mem_nd hx
 rw[←e,h2 j hj];decide
theorem L_iShortLoss {l r ro fr col:List Int} {ph a i:Int} {ops:List OpV} {lost bar:Bool} {K:List UInt8→Bool→Prop} (hf:fr.length<2^60) (hc:col.length<2^60) (ho:ops.length<2^60)
  (hn:lossB ⟨⟨⟨l,r,ro⟩,fr⟩,⟨ph,col,a⟩,ops,i,lost⟩ bar=none→K [] false) (hy:∀x,lossB ⟨⟨⟨l,r,ro⟩,fr⟩,⟨ph,col,a⟩,ops,i,lost⟩ bar=some x→K x.road true):Mi_ShortLoss l r ro fr ph col a ops i lost bar K:=by
 have nil:lossB ⟨⟨⟨l,r,ro⟩,fr⟩,⟨ph,col,a⟩,ops,i,lost⟩ bar=none→LoopP (S:=Int×Int×List NodeV) (fun s3 Kb3 Kx3=>(((decide (s3.2.1<s3.1))=true→((inB s3.2.1 (List.length s3.2.2))∧(((gN s3.2.2 s3.2.1).b.lost=true→(K ((gN s3.2.2 s3.2.1).road) true))∧((gN s3.2.2 s3.2.1).b.lost=false→(Kb3 (s3.1,(iadd s3.2.1 1),s3.2.2))))))∧((decide (s3.2.1<s3.1))=false→(Kx3 (s3.1,s3.2.1,s3.2.2))))) ((len ([]:List NodeV)),0,[]) fun s3=>(K ([]:List UInt8) false):=fun h=>by
  refine LoopP_for (fun j s=>s=((len ([]:List NodeV)),0,[])) 0 rfl (fun i s hi=>absurd hi (by omega)) ?_
  rintro _ rfl Kb
  exact br_f (by simp[len_eq]) (hn h)
 refine L_comes hf hc ho (fun h=>nil (by unfold lossB;rw[if_neg h])) (fun h h2=>nil (by unfold lossB;rw[if_pos h,h2];rfl)) fun h m hm=> ?_
 unfold lossB at hn hy
 rw[if_pos h,hm]at hn hy
 simp only[Option.bind_some]at hn hy
 have hl:=(walk_tree (tree0 _ _) (by simp) hm).2
 refine LoopP_for (fun j s=>s=(len m,(j:Int),m)∧∀k,k<j→(nd m k).b.lost=false) m.length ⟨rfl,fun k hk=>absurd hk (by omega)⟩ ?_ ?_
 ·rintro j _ hj ⟨rfl,hk⟩ Kb hKb
  refine br_t (by simp[len_eq];exact hj) ⟨by rw[inB_nat];exact hj, ?_⟩
  simp only[gN_nat]
  refine br (fun e=>hy _ (find_first hj e hk)) fun e=>hKb _ ⟨by rw[iadd_nat (by omega)],fun k hk2=> ?_⟩
  rcases Nat.lt_succ_iff_lt_or_eq.1 hk2 with q|q
  ·exact hk k q
  ·rw[q];exact e
 ·rintro _ ⟨rfl,hk⟩ Kb
  exact br_f (by simp[len_eq]) (hn (find_none hk))
theorem L_iCanLose {l r ro fr col:List Int} {ph a i:Int} {ops:List OpV} {lost bar:Bool} {K:Bool→Bool→Prop} (hf:fr.length<2^60) (hc:col.length<2^60) (ho:ops.length<2^60)
  (hK:K (canB ⟨⟨⟨l,r,ro⟩,fr⟩,⟨ph,col,a⟩,ops,i,lost⟩ bar).1 (canB ⟨⟨⟨l,r,ro⟩,fr⟩,⟨ph,col,a⟩,ops,i,lost⟩ bar).2):Mi_CanLose l r ro fr ph col a ops i lost bar K:=by
 have gen:∀(m:List NodeV) (K':Bool→Prop),m.length≤400→K' (m.any fun x=>x.b.lost)→M_ContainsFunc_came m K':=fun m K' hl hK'=>by
  refine LoopP_for (fun j s=>s=(m,len m,(j:Int))∧∀k,k<j→(nd m k).b.lost=false) m.length ⟨rfl,fun k hk=>absurd hk (by omega)⟩ ?_ ?_
  ·rintro j _ hj ⟨rfl,hk⟩ Kb hKb
   refine br_t (by simp[len_eq];exact hj) ⟨by rw[inB_nat];exact hj, ?_⟩
   simp only[gN_nat]
   refine br (fun e=> ?_) fun e=>hKb _ ⟨by rw[iadd_nat (by omega)],fun k hk2=> ?_⟩
   ·rw[any_first hj e]at hK'
    simpa using hK'
   ·rcases Nat.lt_succ_iff_lt_or_eq.1 hk2 with q|q
    ·exact hk k q
    ·rw[q];exact e
  ·rintro _ ⟨rfl,hk⟩ Kb
   rw[any_none hk]at hK'
   exact br_f (by simp[len_eq]) (by simpa using hK')
 refine L_comes hf hc ho (fun h=> ?_) (fun h h2=> ?_) fun h m hm=> ?_
 ·unfold canB at hK
  rw[if_neg h]at hK
  exact gen [] _ (by simp) hK
 ·unfold canB at hK
  rw[if_pos h,h2]at hK
  exact gen [] _ (by simp) hK
 ·unfold canB at hK
  rw[if_pos h,hm]at hK
  exact gen m _ (walk_tree (tree0 _ _) (by simp) hm).2 hK
abbrev Txt:=List UInt8
theorem gS_nat (l:List Txt) (i:Nat):gS l (i:Int)=l.getD i []:=by simp[gS,EK.dflt]
theorem split_miss {s sep:Txt} (h:Lib.index s sep= -1):Lib.split s sep=[s]:=by unfold Lib.split;rw[Lib.count_miss h];rfl
theorem splitK_succ (sep:Txt) (k:Nat) (s:Txt):Lib.splitK sep 0 (k+1) s=if Lib.index s sep== -1 then[s]else s.take ((Lib.index s sep).toNat+0)::Lib.splitK sep 0 k (s.drop ((Lib.index s sep).toNat+sep.length)):=rfl
theorem split_hit {s sep:Txt} {i:Nat} (hs:sep≠[]) (h:Lib.index s sep=i):Lib.split s sep=s.take i::Lib.split (s.drop (i+sep.length)) sep:=by
 unfold Lib.split
 rw[Lib.count_hit hs h,Nat.add_comm 1,splitK_succ]
 have hm:¬(Lib.index s sep== -1)=true:=fun e=>by have:=beq_iff_eq.1 e;omega
 have e:(Lib.index s sep).toNat=i:=by omega
 rw[if_neg hm,e,Nat.add_zero]
theorem ib_miss {c:UInt8}:∀{u:Txt},c∉u→Lib.indexByte u c= -1
 |[],_=>rfl
 |b::u,h=>by
  unfold Lib.indexByte
  have hb:¬(b==c)=true:=fun e=>h (by rw[beq_iff_eq.1 e];simp)
  rw[if_neg hb,if_pos (by rw[ib_miss fun q=>h (by simp[q])];rfl)]
theorem ib_hit {c:UInt8}:∀{u v:Txt},c∉u→Lib.indexByte (u++c::v) c=(u.length:Int)
 |[],v,_=>by simp[Lib.indexByte]
 |b::u,v,h=>by
  rw[List.cons_append]
  unfold Lib.indexByte
  have hb:¬(b==c)=true:=fun e=>h (by rw[beq_iff_eq.1 e];simp)
  have ih:=ib_hit (c:=c) (u:=u) (v:=v) fun q=>h (by simp[q])
  rw[if_neg hb,ih,if_neg (by intro e;have:=beq_iff_eq.1 e;omega)]
  simp
theorem split_sep {c:UInt8} {u v:Txt} (h:c∉u):Lib.split (u++c::v) [c]=u::Lib.split v [c]:=by
 rw[split_hit (i:=u.length) (by simp) (by rw[Lib.index_one,ib_hit h])]
 simp
theorem split_end {c:UInt8} {u:Txt} (h:c∉u):Lib.split u [c]=[u]:=split_miss (by rw[Lib.index_one,ib_miss h])
theorem split_front {c:UInt8} {t:Txt}:∀{ps:List Txt},(∀p∈ps,c∉p)→Lib.split (ps.flatMap (fun p=>p++[c])++t) [c]=ps++Lib.split t [c]
 |[],_=>rfl
 |p::ps,h=>by
  rw[List.flatMap_cons,show(p++[c])++ps.flatMap (fun p=>p++[c])++t=p++c::(ps.flatMap (fun p=>p++[c])++t) by simp,split_sep (h p (by simp)),split_front fun q hq=>h q (by simp[hq])]
  rfl
theorem countB_list (p1 p2:Txt):Lib.countB ⟨p1.toArray⟩ ⟨p2.toArray⟩=Lib.count p1 p2:=by unfold Lib.countB;rfl
theorem L_Split {s sep:Txt} {K:List Txt→Prop} (hs:s.length<4294967281) (h1:1≤sep.length) (hK:K (Lib.split s sep)):M_strings_Split s sep K:=by
 refine⟨⟨hs,h1⟩, ?_⟩
 rw[Lib.splitB_data,countB_list]
 exact hK
def cutR (c:UInt8) (acc:Txt):Txt→List Txt
 |[]=>[acc]
 |x::l=>if x=c then acc::cutR c [] l else cutR c (acc++[x]) l
theorem split_R {c:UInt8}:∀(l acc:Txt),c∉acc→Lib.split (acc++l) [c]=cutR c acc l
 |[],acc,h=>by rw[List.append_nil,split_end h];rfl
 |x::l,acc,h=>by
  unfold cutR
  split
  ·rename_i e
   subst e
   rw[split_sep h]
   have:=split_R (c:=x) l [] (by simp)
   rw[List.nil_append]at this
   rw[this]
  ·rename_i e
   have:=split_R (c:=c) l (acc++[x]) (by simp[h];exact fun q=>e q.symm)
   rw[←this];simp
theorem split_len {s:Txt} {c:UInt8}:(Lib.split s [c]).length≤s.length+1:=by
 have key:∀(l acc:Txt),(cutR c acc l).length≤l.length+1:=fun l=>by
  induction l with
  |nil=>intro acc;simp[cutR]
  |cons x l ih=>
   intro acc
   unfold cutR
   split
   ·have:=ih [];simp;omega
   ·have:=ih (acc++[x]);simp;omega
 have h2:=split_R (c:=c) s [] (by simp)
 rw[List.nil_append]at h2
 rw[h2];exact key _ _
abbrev cs2:Txt:=[44,32]
theorem index_two {u v:Txt} (h:(44:UInt8)∉u):Lib.index (u++(44::32::v)) cs2=(u.length:Int):=by
 refine Lib.index_first (by simp) (by simp[Lib.occAt]) fun j hj=> ?_
 unfold Lib.occAt
 have hd:(u++(44::32::v)).drop j=u[j]::(u++(44::32::v)).drop (j+1):=by
  rw[List.drop_eq_getElem_cons (by simp;omega),List.getElem_append_left hj]
 rw[hd]
 have:u[j]≠44:=fun e=>h (e▸List.getElem_mem hj)
 simp[List.isPrefixOf,this.symm]
theorem index_two_no {u:Txt} (h:(44:UInt8)∉u):Lib.index u cs2= -1:=by
 refine Lib.index_none fun j hj=> ?_
 unfold Lib.occAt
 rcases Nat.lt_or_eq_of_le hj with hj|hj
 ·rw[List.drop_eq_getElem_cons hj]
  have:u[j]≠44:=fun e=>h (e▸List.getElem_mem hj)
  simp[List.isPrefixOf,this.symm]
 ·rw[hj,List.drop_length];rfl
theorem jt_cons (sep q:Txt) (r:List Txt):Lib.joinTail sep (q::r)=sep++Lib.join (q::r) sep:=by
 rw[Lib.join_cons]
 simp[Lib.joinTail]
theorem split_join2:∀{ps:List Txt},ps≠[]→(∀p∈ps,(44:UInt8)∉p)→Lib.split (Lib.join ps cs2) cs2=ps
 |[p],_,h=>by rw[Lib.join_one,split_miss (index_two_no (h p (by simp)))]
 |p::q::r,_,h=>by
  rw[Lib.join_cons,jt_cons]
  have hx:p++(cs2++Lib.join (q::r) cs2)=p++(44::32::Lib.join (q::r) cs2):=rfl
  rw[hx,split_hit (i:=p.length) (by simp) (index_two (h p (by simp)))]
  have:(p++44::32::Lib.join (q::r) cs2).drop (p.length+List.length cs2)=Lib.join (q::r) cs2:=by
   rw[List.drop_append,List.drop_eq_nil_of_le (by simp)]
   simp
  rw[this,split_join2 (by simp) fun x hx=>h x (List.mem_cons_of_mem _ hx)]
  simp
theorem split_ne (s sep:Txt):Lib.split s sep≠[]:=by
 unfold Lib.split
 cases Lib.count s sep with
 |zero=>simp[Lib.splitK]
 |succ k=>rw[splitK_succ];split<;>simp
theorem join_split {sep:Txt} (hs:sep≠[]):∀(n:Nat) (s:Txt),s.length≤n→Lib.join (Lib.split s sep) sep=s:=by
 have hpos:=List.length_pos_iff.2 hs
 intro n
 induction n with
 |zero=>
  intro s hl
  have:s=[]:=List.length_eq_zero_iff.1 (by omega)
  subst this
  rw[split_miss (by cases sep with|nil=>exact absurd rfl hs|cons a t=>rfl),Lib.join_one]
 |succ n ih=>
  intro s hl
  rcases Lib.index_spec s sep with⟨h,_⟩|⟨i,h,hi,ho,_⟩
  ·rw[split_miss h,Lib.join_one]
  ·rw[split_hit hs h,Lib.join_cons]
   unfold Lib.occAt at ho
   rw[List.isPrefixOf_iff_prefix]at ho
   obtain⟨t,ht⟩:=ho
   have hd:s.drop (i+sep.length)=t:=by rw[←List.drop_drop,←ht];simp
   rw[hd]
   have hlt:t.length≤n:=by
    have:=congrArg List.length ht
    simp at this;omega
   have e:=ih t hlt
   obtain⟨q,r,hq⟩:∃q r,Lib.split t sep=q::r:=by
    cases h2:Lib.split t sep with
    |nil=>exact absurd h2 (split_ne t sep)
    |cons q r=>exact⟨q,r,rfl⟩
   rw[hq]at e⊢
   rw[jt_cons,e,ht,List.take_append_drop]
def joinO (l:List OpV):Txt:=Lib.join (l.map fmtO) cs2
def isOps (s:Txt) (l:List OpV):Prop:=OpsP l 3∧joinO l=s
theorem fmt_no {o:OpV} (h:opOk o 3):(44:UInt8)∉fmtO o:=by
 have key:∀o∈cands,(44:UInt8)∉fmtO o:=by decide+kernel
 exact key o (cand_mem h)
theorem fmt_len (o:OpV):(fmtO o).length≤12:=by
 unfold fmtO dg
 have:=wordK_len o.kind
 split<;>simp<;>omega
theorem ops_parts {s:Txt} {l:List OpV} (h:isOps s l) (hs:s≠[]):Lib.split s cs2=l.map fmtO:=by
 obtain⟨h1,rfl⟩:=h
 refine split_join2 (fun e=>hs ?_) fun p hp=> ?_
 ·unfold joinO;rw[e];rfl
 ·obtain⟨o,ho,rfl⟩:=List.mem_map.1 hp
  exact fmt_no (h1.ok o ho)
theorem ops_one {s:Txt} {l l':List OpV} (h:isOps s l) (h':isOps s l'):l=l':=by
 by_cases hs:s=[]
 ·have nil:∀{l:List OpV},isOps s l→l=[]:=fun{l} h=>by
   cases l with
   |nil=>rfl
   |cons o l=>
    exfalso
    have e:=h.2
    unfold joinO at e
    rw[hs,List.map_cons,Lib.join_cons]at e
    exact fmt_ne (List.append_eq_nil_iff.1 e).1
  rw[nil h,nil h']
 ·have e:=(ops_parts h hs).symm.trans (ops_parts h' hs)
  have hl:l.length=l'.length:=by simpa using congrArg List.length e
  refine List.ext_getElem hl fun i h1 h2=> ?_
  have ei:(l.map fmtO)[i]? =(l'.map fmtO)[i]? :=by rw[e]
  simp[h1,h2]at ei
  exact fmt_inj (h.1.ok _ (List.getElem_mem h1)) (h'.1.ok _ (List.getElem_mem h2)) ei
theorem words_eq (k:Int) (h1:1≤k) (h7:k≤7):gS [([]:List UInt8),[110,101,119],[99,111,112,121],[108,101,102,116],[114,105,103,104,116],[112,117,116,108,101,102,116],[112,117,116,114,105,103,104,116],[99,108,101,97,114]] k=wordK k:=by
 rcases(show k=1∨k=2∨k=3∨k=4∨k=5∨k=6∨k=7 by omega)with rfl|rfl|rfl|rfl|rfl|rfl|rfl<;>decide
theorem L_FormatOpI {k a b:Int} {K:List UInt8→Prop} (hy:opOk ⟨k,a,b⟩ 3→K (fmtO ⟨k,a,b⟩)) (hn:¬opOk ⟨k,a,b⟩ 3→K []):Mi_FormatOp k a b K:=by
 refine L_iOpValid (q:=3) rfl (br (fun e=>hn (by simpa using e)) fun e=> ?_)
 have ho:opOk ⟨k,a,b⟩ 3:=by simpa using e
 replace hy:=hy ho
 have k1:=ho.k1;have k7:=ho.k7;have a0:=ho.a0;have a3:=ho.a3;have b0:=ho.b0;have b3:=ho.b3
 simp only at k1 k7 a0 a3 b0 b3
 have hw:=wordK_len k
 have d1:Lib.decDigits a.toNat=dg a:=by rw[dec1 (by omega)];rfl
 have d2:Lib.decDigits b.toNat=dg b:=by rw[dec1 (by omega)];rfl
 unfold fmtO at hy
 refine⟨⟨by omega,show k<8 by omega⟩, ?_⟩
 simp only[words_eq k k1 k7]
 refine⟨by simp;omega,L_Itoa a0 (by omega) ?_⟩
 rw[d1]
 refine⟨by simp[dg];omega,br (fun e1=>br (fun e2=>L_Itoa b0 (by omega) ?_) fun e2=> ?_) fun e1=> ?_⟩
 ·rw[d2]
  have e1:=bne_iff_ne.1 e1;have e2:=bne_iff_ne.1 e2
  rw[if_neg (not_or.2 ⟨e1,e2⟩)]at hy
  refine⟨by simp[dg],by simp[dg];omega, ?_⟩
  rw[←List.append_assoc];exact hy
 ·have e2:=bne_eq_false_iff_eq.1 e2
  rw[if_pos (.inr e2)]at hy;exact hy
 ·have e1:=bne_eq_false_iff_eq.1 e1
  rw[if_pos (.inl e1)]at hy;exact hy
theorem L_ParseOpI {s:List UInt8} {K:Int→Int→Int→Bool→Prop} (hy:∀o,parse1 s=some o→K o.kind o.a o.b true) (hn:parse1 s=none→K 0 0 0 false):Mi_ParseOp s K:=by
 refine LoopP_for (fun i st=>st=(s,1+(i:Int),0,0,0)∧∀o,opOk o 3→o.kind<1+(i:Int)→fmtO o≠s) 7 ⟨rfl,fun o ho h=>by have:=ho.k1;omega⟩ ?_ ?_
 ·rintro i _ hi ⟨rfl,hj⟩ Kb hKb
  refine br_t (by simp;omega) ?_
  refine LoopP_for (fun j st=>st=(s,1+(i:Int),(j:Int),0,0,0)∧∀o,opOk o 3→o.kind=1+(i:Int)→o.a<(j:Int)→fmtO o≠s) 3 ⟨rfl,fun o ho _ h=>by have:=ho.a0;omega⟩ ?_ ?_
  ·rintro j _ hj2 ⟨rfl,hj3⟩ Kb2 hKb2
   refine br_t (by simp;omega) ?_
   refine LoopP_for (fun m st=>st=(s,1+(i:Int),(j:Int),(j:Int),(m:Int),0,0,0)∧∀o,opOk o 3→o.kind=1+(i:Int)→o.a=(j:Int)→o.b<(m:Int)→fmtO o≠s) 3 ⟨rfl,fun o ho _ _ h=>by have:=ho.b0;omega⟩ ?_ ?_
   ·rintro m _ hm ⟨rfl,hm2⟩ Kb3 hKb3
    have next:(∀o,opOk o 3→o.kind=1+(i:Int)→o.a=(j:Int)→o.b=(m:Int)→fmtO o≠s)→Kb3 (s,1+(i:Int),(j:Int),(j:Int),iadd (m:Int) 1,0,0,0):=fun h=>hKb3 _ ⟨by rw[iadd_nat (by omega)],fun o ho h1 h2 h3=>by
     rcases Int.lt_or_eq_of_le (show o.b≤(m:Int) by omega)with q|q
     ·exact hm2 o ho h1 h2 q
     ·exact h o ho h1 h2 q⟩
    refine br_t (by simp;omega) (br (fun e=>L_FormatOpI (fun hok=>br (fun e2=>hy ⟨1+(i:Int),(j:Int),(m:Int)⟩ (parse1_some.2 ⟨hok,by simpa using e2⟩)) fun e2=>next fun o ho h1 h2 h3=> ?_) fun hok=>br_f ?_ (next fun o ho h1 h2 h3=> ?_)) fun e=>next fun o ho h1 h2 h3=> ?_)
    ·have e2:fmtO ⟨1+(i:Int),(j:Int),(m:Int)⟩≠s:=by simpa using e2
     obtain⟨k,a,b⟩:=o
     simp only at h1 h2 h3
     rw[h1,h2,h3];exact e2
    ·have e:s≠[]:=by simpa using e
     simpa using e
    ·obtain⟨k,a,b⟩:=o
     simp only at h1 h2 h3
     rw[h1,h2,h3]at ho
     exact absurd ho hok
    ·have e:s=[]:=by simpa using e
     rw[e];exact fmt_ne
   ·rintro _ ⟨rfl,hm2⟩ Kb3
    refine br_f (by simp) (hKb2 _ ⟨by rw[iadd_nat (by omega)],fun o ho h1 h2=> ?_⟩)
    rcases Int.lt_or_eq_of_le (show o.a≤(j:Int) by omega)with q|q
    ·exact hj3 o ho h1 q
    ·exact hm2 o ho h1 q ho.b3
  ·rintro _ ⟨rfl,hj3⟩ Kb2
   refine br_f (by simp) (hKb _ ⟨?_,fun o ho h1=> ?_⟩)
   ·show(s,iadd (1+(i:Int)) 1,(0:Int),(0:Int),(0:Int))=_
    rw[iadd_eq (by omega) (by omega)]
    simp only[Prod.mk.injEq,and_true,true_and];omega
   ·rcases Int.lt_or_eq_of_le (show o.kind≤1+(i:Int) by omega)with q|q
    ·exact hj o ho q
    ·exact hj3 o ho q ho.a3
 ·rintro _ ⟨rfl,hj⟩ Kb
  exact br_f (by simp) (hn (parse1_none.2 fun o ho=>hj o ho (by have:=ho.k7;omega)))
theorem split2_len {s:Txt}:(Lib.split s cs2).length≤s.length+1:=by
 have h:=Lib.splitB_all ⟨cs2.toArray⟩ (by decide) 0 _ ⟨s.toArray⟩ rfl
 have h2:=Lib.countB_le ⟨cs2.toArray⟩ (by decide) s.length ⟨s.toArray⟩ (by simp[ByteArray.size])
 have e:Lib.split s cs2=(Lib.splitB ⟨cs2.toArray⟩ 0 (Lib.countB ⟨s.toArray⟩ ⟨cs2.toArray⟩) ⟨s.toArray⟩).map (·.data.toList):=by rw[Lib.splitB_data,countB_list];rfl
 rw[e,List.length_map,h]
 simp[ByteArray.size]at h2
 omega
theorem L_ParseOpsI {s:Txt} {K:Bool→List OpV→Prop} (hs:s.length<2^31) (hy:∀l,isOps s l→K true l) (hn:(∀l,¬isOps s l)→K false []):Mi_ParseOps s K:=by
 refine br (fun e=> ?_) fun e=> ?_
 ·have e:s=[]:=beq_iff_eq.1 e
  exact hy [] ⟨⟨by simp,by simp⟩,by rw[e];rfl⟩
 have hne:s≠[]:=by simpa using e
 refine L_Split (by omega) (by decide) ?_
 have hj:=join_split (sep:=cs2) (by decide) s.length s (Nat.le_refl _)
 have hp:∀l,isOps s l→Lib.split s cs2=l.map fmtO:=fun l h=>ops_parts h hne
 have hsl:=split2_len (s:=s)
 generalize hps:Lib.split s cs2=ps at hj hsl hp
 refine LoopP_for (fun i st=>∃out:List OpV,st=(len ps,(i:Int),out,ps)∧i≤12∧out.length=i∧out.map fmtO=ps.take i∧∀o∈out,opOk o 3) ps.length ⟨[],rfl,by omega,rfl,rfl,by simp⟩ ?_ ?_
 ·rintro i _ hi ⟨out,rfl,h12,hl,hm,ho⟩ Kb hKb
  refine br_t (by simp[len_eq];exact hi) ⟨by rw[inB_nat];exact hi, ?_⟩
  simp only[gS_nat]
  have hg:ps.getD i []=ps[i]:=getD_lt hi
  refine L_ParseOpI (fun o hok=>br_f rfl (br (fun e=>hn fun l h=> ?_) fun e=>⟨by simp;omega,hKb _ ⟨out++[o],by rw[iadd_nat (by omega)], ?_,by simp;omega, ?_,fun q hq=> ?_⟩⟩)) fun hno=>br_t rfl (hn fun l h=> ?_)
  ·have e:=beq_iff_eq.1 e
   simp only[len_eq]at e
   have:=congrArg List.length (hp l h)
   have h13:=h.1.len
   simp at this;omega
  ·have e:=beq_eq_false_iff_ne.1 e
   simp only[len_eq]at e;omega
  ·rw[List.map_append,hm,List.take_add_one,List.getElem?_eq_getElem hi]
   have e3:fmtO o=ps[i]:=(parse1_some.1 hok).2.trans hg
   rw[List.map_cons,List.map_nil,e3];rfl
  ·rcases List.mem_append.1 hq with hq|hq
   ·exact ho q hq
   ·rw[List.mem_singleton.1 hq];exact(parse1_some.1 hok).1
  ·have e:=hp l h
   have hil:i<l.length:=by have:=congrArg List.length e;simp at this;omega
   have ei:ps[i]? =(l.map fmtO)[i]? :=by rw[e]
   rw[List.getElem?_eq_getElem hi,List.getElem?_map,List.getElem?_eq_getElem hil]at ei
   simp at ei
   exact parse1_none.1 hno l[i] (h.1.ok _ (List.getElem_mem hil)) (by rw[hg,ei])
 ·rintro _ ⟨out,rfl,h12,hl,hm,ho⟩ Kb
  refine br_f (by simp[len_eq]) (hy out ⟨⟨ho,by omega⟩, ?_⟩)
  rw[List.take_length]at hm
  unfold joinO
  rw[hm];exact hj
theorem lens_fmt:∀(l:List OpV),Lib.lens (l.map fmtO)≤12*l.length
 |[]=>by simp[Lib.lens]
 |o::l=>by
  have:=lens_fmt l
  have h2:=fmt_len o
  simp[Lib.lens]at this⊢
  omega
theorem L_FormatOpsI {l:List OpV} {K:Txt→Prop} (h:OpsP l 3) (hK:K (joinO l)):Mi_FormatOps l K:=by
 have h12:=h.len
 refine L_opsOk (q:=3) rfl (by omega) (br_f (by simp[h]) ?_)
 refine LoopP_for (fun i st=>st=(l,len l,(i:Int),(l.take i).map fmtO)) l.length rfl ?_ ?_
 ·rintro i _ hi rfl Kb hKb
  refine br_t (by simp[len_eq];exact hi) ⟨by rw[inB_nat];exact hi, ?_⟩
  have hm:gO l (i:Int)∈l:=gO_mem (by omega) (by omega)
  have ho:=h.ok _ hm
  have hg:gO l (i:Int)=l[i]:=by rw[gO_nat,getD_lt hi]
  refine L_FormatOpI (fun _=>⟨by simp;omega,hKb _ ?_⟩) fun q=>absurd ho q
  rw[iadd_nat (by omega),List.take_add_one,List.getElem?_eq_getElem hi,List.map_append,←hg]
  rfl
 ·rintro _ rfl Kb
  refine br_f (by simp[len_eq]) ?_
  simp only[List.take_length]
  refine⟨⟨by simp;omega, ?_⟩,hK⟩
  cases l with
  |nil=>simp[Lib.join_nil]
  |cons o r=>
   rw[List.map_cons,Lib.join_length]
   have:=lens_fmt (o::r)
   rw[List.map_cons]at this
   simp at h12 this⊢
   omega
theorem L_iNewGc {l r ro fr:List Int} {K:Int→Int→Bool→List Int→Prop} (hv:SVp l r ro fr) (hK:K 0 0 true (List.replicate l.length 0)):Mi_NewGc l r ro fr K:=by
 have h8:=hv.h.l8;have f8:=hv.f8
 refine L_iStoreValid (by omega) (br_f (by simp[hv]) ⟨⟨by simp only[len_eq];omega,rfl,by simp only[len_eq];omega⟩, ?_⟩)
 rw[len_eq,Int.toNat_natCast];exact hK
theorem L_iNewBoth {l r ro fr:List Int} {ops:List OpV} {K:Int→Int→Int→Bool→Bool→List Int→List Int→List Int→List Int→List Int→List OpV→Prop} (ho:ops.length≤12) (hv:SVp l r ro fr) (hy:OpsP ops ro.length→K 0 0 0 false true l r ro fr (List.replicate l.length 0) ops) (hn:¬OpsP ops ro.length→K 0 0 0 false false [] [] [] [] [] []):Mi_NewBoth l r ro fr ops K:=by
 have h8:=hv.h.l8;have f8:=hv.f8
 refine L_iNewGc hv (br_f rfl (L_opsOk rfl (by omega) (br (fun e=>hn (by simpa using e)) fun e=> ?_)))
 exact L_again hv.h (by omega) (L_Clone_Op (by omega) (hy (by simpa using e)))
theorem decFrom_app:∀(l l':List UInt8) (acc:Nat),Lib.decFrom acc (l++l')=(Lib.decFrom acc l).bind fun m=>Lib.decFrom m l'
 |[],l',acc=>rfl
 |b::l,l',acc=>by
  simp only[List.cons_append,Lib.decFrom]
  cases Lib.digitVal b with
  |none=>rfl
  |some d=>exact decFrom_app l l' _
theorem digit_val {n:Nat} (h:n<10):Lib.digitVal (UInt8.ofNat (48+n))=some n:=by
 have key:∀a:Fin 10,Lib.digitVal (UInt8.ofNat (48+a.1))=some a.1:=by decide
 exact key ⟨n,h⟩
theorem decFrom_digits (n:Nat):Lib.decFrom 0 (Lib.decDigits n)=some n:=by
 induction n using Nat.strongRecOn with
 |_ n ih=>
  by_cases h:n<10
  ·rw[dec1 h]
   simp only[Lib.decFrom,digit_val h]
   simp
  ·rw[Lib.decDigits,dif_neg h,decFrom_app,ih (n/10) (by omega)]
   show(match Lib.digitVal _ with|some d=>_|none=>_)=_
   rw[digit_val (Nat.mod_lt _ (by omega))]
   show some _=some _
   congr 1
   omega
theorem decDigits_ne (n:Nat):Lib.decDigits n≠[]:=fun e=>by
 by_cases h:n<10
 ·rw[dec1 h]at e;cases e
 ·rw[Lib.decDigits,dif_neg h]at e;simp at e
theorem decNat_digits (n:Nat):Lib.decNat (Lib.decDigits n)=some n:=by
 unfold Lib.decNat
 rw[if_neg (by simp[decDigits_ne]),decFrom_digits]
theorem atoi_digits (n:Nat):Lib.atoi (Lib.decDigits n)=some (n:Int):=by
 have h1:=decNat_digits n
 have h2:=decFrom_digits n
 cases e:Lib.decDigits n with
 |nil=>exact absurd e (decDigits_ne n)
 |cons b t=>
  rw[e]at h1 h2
  have hb:b≠45∧b≠43:=by
   constructor
   ·rintro rfl
    have:Lib.digitVal 45=none:=by decide
    simp only[Lib.decFrom,this]at h2
    cases h2
   ·rintro rfl
    have:Lib.digitVal 43=none:=by decide
    simp only[Lib.decFrom,this]at h2
    cases h2
  simp only[Lib.atoi]
  rw[if_neg (by simpa using hb.1),if_neg (by simpa using hb.2),h1]
  rfl
def decP (s:Txt):Option Nat:=if s.length≤17∧Lib.decDigits ((Lib.decNat s).getD 0)=s then some ((Lib.decNat s).getD 0)else none
theorem decP_some {s:Txt} {n:Nat}:decP s=some n↔s.length≤17∧Lib.decDigits n=s:=by
 unfold decP
 constructor
 ·intro h
  split at h
  ·rename_i q
   cases h
   exact q
  ·cases h
 ·rintro⟨h,rfl⟩
  rw[decNat_digits]
  simp[h]
theorem L_decimal {s:Txt} {K:Int→Bool→Prop} (hs:s.length≤281474976710656) (hy:∀n,decP s=some n→K n true) (hn:decP s=none→∀x,K x false):Mi_decimal s K:=by
 refine⟨hs, ?_⟩
 have hno:(∀n:Nat,Lib.decDigits n=s→17<s.length)→decP s=none:=fun h=>by
  cases e:decP s with
  |none=>rfl
  |some n=>have:=decP_some.1 e;have:=h n this.2;omega
 have hF:∀{y:Int×Bool},atoiF s=y→s.length≤17→y=match Lib.atoi s with|none=>(0,false)|some v=>(v,true):=fun e h=>by
  rw[←e]
  unfold atoiF
  rw[Lib.atoiAll_short s (by omega)]
  cases Lib.atoi s<;>rfl
 generalize atoiF s=F at hF⊢
 obtain⟨v,y⟩:=F
 have hF:=fun h=>hF rfl h
 refine br (fun ey=>br (fun e0=>br (fun e17=> ?_) fun e17=>hn (hno fun n h=> ?_) _) fun e0=>hn (hno fun n h=> ?_) _) fun ey=>hn (hno fun n h=> ?_) _
 ·have e0v:0≤v:=of_decide_eq_true e0
  have e17:s.length≤17:=by have:=of_decide_eq_true e17;simp only[len_eq]at this;omega
  have hF:=hF e17
  change y=true at ey
  subst ey
  cases ha:Lib.atoi s with
  |none=>rw[ha]at hF;cases hF
  |some w=>
   rw[ha]at hF
   cases hF
   have hb:v<1000000000000000000:=by
    obtain⟨b0,r,rfl,h⟩:=Lib.atoi_cases ha
    have hl:r.length≤17:=by simp at e17;omega
    rcases h with⟨_,m,_,hm,rfl⟩|⟨_,m,_,hm,rfl⟩|⟨_,_,m,hm,rfl⟩
    ·have:=Lib.decFrom_lt18 hm (by omega);omega
    ·have:=Lib.decFrom_lt18 hm (by omega);omega
    ·have:=Lib.decFrom_lt18 hm (by omega);omega
   have e2:Lib.itoa v=Lib.decDigits v.toNat:=by unfold Lib.itoa;rw[if_neg (by omega)]
   refine⟨⟨by show _≤v;omega,by show v≤_;omega⟩, ?_⟩
   show K v (Lib.itoa v==s)
   rw[e2]
   by_cases he:Lib.decDigits v.toNat=s
   ·rw[beq_iff_eq.2 he]
    have:=hy v.toNat (decP_some.2 ⟨e17,he⟩)
    rwa [Int.toNat_of_nonneg e0v]at this
   ·rw[beq_eq_false_iff_ne.2 he]
    exact hn (hno fun n h=>by rw[←h,atoi_digits]at ha;cases ha;exact absurd (by simpa using h) he) _
 ·have:=of_decide_eq_false e17
  simp only[len_eq]at this
  omega
 ·refine Decidable.byContradiction fun q=> ?_
  have hF:=hF (by omega)
  have e0:=of_decide_eq_false e0
  rw[←h,atoi_digits]at hF
  cases hF
  exact e0 (Int.natCast_nonneg n)
 ·refine Decidable.byContradiction fun q=> ?_
  have hF:=hF (by omega)
  rw[←h,atoi_digits]at hF
  cases hF
  cases ey
theorem cut_hit {c:UInt8} {u v:Txt} (h:c∉u):Lib.cut (u++c::v) [c]=(u,v,true):=by
 unfold Lib.cut
 rw[Lib.index_one,ib_hit h,if_pos (by omega)]
 simp
theorem cut_miss {c:UInt8} {u:Txt} (h:c∉u):Lib.cut u [c]=(u,[],false):=by
 unfold Lib.cut
 rw[Lib.index_one,ib_miss h,if_neg (by omega)]
theorem txt_cut (c:UInt8) (s:Txt):c∉s∨∃u v,s=u++c::v∧c∉u:=by
 by_cases h:c∈s
 ·exact .inr (List.append_of_mem h|>.elim fun _ _=>by
   obtain⟨u,v,e,hu⟩:=List.eq_append_cons_of_mem h
   exact⟨u,v,e,hu⟩)
 ·exact .inl h
theorem cut_len {c:UInt8} {s:Txt}:(Lib.cut s [c]).1.length≤s.length∧(Lib.cut s [c]).2.1.length≤s.length:=by
 rcases txt_cut c s with h|⟨u,v,rfl,h⟩
 ·rw[cut_miss h];simp
 ·rw[cut_hit h];simp;omega
theorem L_Cut {s:Txt} {K:Txt→Txt→Bool→Prop} (hs:s.length<4294967281) (hK:K (Lib.cut s [32]).1 (Lib.cut s [32]).2.1 (Lib.cut s [32]).2.2):M_strings_Cut s [32] K:=⟨hs,hK⟩
theorem catN_le {f:Nat→List UInt8} {k:Nat}:∀{n:Nat},(∀i,i<n→(f i).length≤k)→(catN f n).length≤n*k
 |0,_=>by simp[catN]
 |n+1,h=>by
  rw[catN_succ,List.length_append,Nat.succ_mul]
  have:=catN_le (f:=f) (k:=k) fun i (hi:i<n)=>h i (by omega)
  have:=h n (by omega)
  omega
theorem free_le {fr:List Int} (h:∀x∈fr,0≤x∧x<100) {n:Nat} (hn:n≤fr.length):(freeS fr n).length≤n*3:=catN_le fun i hi=>by
 have:=h _ (getD_mem (0:Int) (by omega:i<fr.length))
 have:=dec_len (n:=(fr.getD i 0).toNat) (by omega)
 simp only[List.length_append,List.length_cons,List.length_nil]
 omega
theorem L_spacedG {fr:List Int} {K:List UInt8→Prop} (h:∀x∈fr,0≤x∧x<100) (hl:fr.length≤1000) (hK:K (freeS fr fr.length)):Mi_spaced fr K:=by
 refine LoopP_for (fun i s=>s=(freeS fr i,fr,len fr,(i:Int))) fr.length (by simp[freeS,catN]) ?_ ?_
 ·rintro i _ hi rfl Kb hKb
  have a:=h _ (getD_mem (0:Int) hi)
  have e4:=free_le h (n:=i) (by omega)
  have e2:=dec_len (n:=(fr.getD i 0).toNat) (by omega)
  refine br_t (by simp[len_eq];exact hi) ⟨by rw[inB_nat];exact hi, ?_⟩
  simp only[gI_nat]
  refine L_Itoa (by omega) (by omega) ⟨by simp only[List.length_cons,List.length_nil];omega,by simp only[List.length_append,List.length_cons,List.length_nil];omega,hKb _ ?_⟩
  rw[iadd_nat (by omega)]
  unfold freeS
  rw[catN_succ]
 ·rintro _ rfl Kb
  exact br_f (by simp[len_eq]) hK
theorem mem_filtU {p:Nat→Bool} {n:Nat} {x:Int}:x∈filtU p n↔∃i:Nat,i<n∧p i=true∧x=i:=by
 unfold filtU
 simp only[List.mem_map,List.mem_filter,List.mem_range]
 constructor
 ·rintro⟨i,⟨h1,h2⟩,rfl⟩;exact⟨i,h1,h2,rfl⟩
 ·rintro⟨i,h1,h2,rfl⟩;exact⟨i,⟨h1,h2⟩,rfl⟩
def srcs (l r:List Int) (c:Int):List Int:=filtU (fun i=>decide (l.getD i 0=c∨r.getD i 0=c)) l.length
theorem L_SourcesOf {l r ro:List Int} {c:Int} {K:List Int→Prop} (hv:HVp l r ro) (h0:0≤c) (h1:c<l.length) (hK:K (srcs l r c)):Mi_SourcesOf l r ro c K:=by
 have h8:=hv.l8;have hlr:=hv.lr
 refine L_has' hv (br_f (by simp[h0,h1]) ?_)
 refine LoopP_for (fun i s=>s=(c,len l,(i:Int),l,r,ro,filtU (fun i=>decide (l.getD i 0=c∨r.getD i 0=c)) i)) l.length rfl ?_ ?_
 ·rintro i _ hi rfl Kb hKb
  have hl:=filtU_len (fun i=>decide (l.getD i 0=c∨r.getD i 0=c)) i
  have hs:=filtU_succ (fun i=>decide (l.getD i 0=c∨r.getD i 0=c)) i
  have hw:iadd (i:Int) 1=((i+1:Nat):Int):=iadd_nat (by omega)
  refine br_t (by simp[len_eq];exact hi) ⟨by rw[inB_nat];exact hi, ?_⟩
  simp only[gI_nat]
  refine br (fun e=>⟨by simp only[List.length_cons,List.length_nil];omega,hKb _ ?_⟩) fun e=>⟨by rw[inB_nat];omega,br (fun e2=>⟨by simp only[List.length_cons,List.length_nil];omega,hKb _ ?_⟩) fun e2=>hKb _ ?_⟩
  ·have e:=beq_iff_eq.1 e
   rw[hw,hs,if_pos (by simp only[decide_eq_true_eq];exact .inl e)]
  ·have e2:=beq_iff_eq.1 e2
   rw[hw,hs,if_pos (by simp only[decide_eq_true_eq];exact .inr e2)]
  ·have e:=beq_eq_false_iff_ne.1 e
   have e2:=beq_eq_false_iff_ne.1 e2
   rw[hw,hs,if_neg (by simp only[decide_eq_true_eq];rintro(q|q)<;>contradiction)]
 ·rintro _ rfl Kb
  exact br_f (by simp[len_eq]) hK
def HasPred (l r d:List Int):Prop:=∀c:Nat,c<l.length→d.getD c 0>1→∃y:Nat,y<l.length∧(l.getD y 0=c∨r.getD y 0=c)∧0<d.getD y 0∧d.getD y 0=d.getD c 0-1
theorem pred_dm {l r:List Int} {st:List Int×List Int} (hd:DInv l.length st) (h:HasPred l r st.1) {p far:Int} (hp:okP l.length p)
  (hy:far>1→p≠-1→∃y:Nat,y<l.length∧(l.getD y 0=p∨r.getD y 0=p)∧0<st.1.getD y 0∧st.1.getD y 0=far-1):HasPred l r (dm p far st).1:=by
 intro c hc hg
 have keep:∀y:Nat,0<st.1.getD y 0→(dm p far st).1.getD y 0=st.1.getD y 0:=fun y h0=>dm_keep (by omega) fun q=>by rw[hd.len];exact hp.cell q
 by_cases q:p≠-1∧st.1.getD p.toNat 0=0
 ·have hpc:=hp.cell q.1
  have e:(dm p far st).1=st.1.set p.toNat far:=by unfold dm;rw[if_pos q]
  by_cases ec:p.toNat=c
  ·have ev:(dm p far st).1.getD c 0=far:=by rw[e,set_getD (by rw[hd.len];omega),if_pos ec]
   rw[ev]at hg⊢
   obtain⟨y,y1,y2,y3,y4⟩:=hy hg q.1
   exact⟨y,y1,by rw[←ec,Int.toNat_of_nonneg hpc.1];exact y2,by rw[keep y y3];exact y3,by rw[keep y y3];exact y4⟩
  ·have ev:(dm p far st).1.getD c 0=st.1.getD c 0:=by rw[e,set_getD (by rw[hd.len];omega),if_neg ec]
   rw[ev]at hg⊢
   obtain⟨y,y1,y2,y3,y4⟩:=h c hc hg
   exact⟨y,y1,y2,by rw[keep y y3];exact y3,by rw[keep y y3];exact y4⟩
 ·have e:dm p far st=st:=by unfold dm;rw[if_neg q]
  rw[e]at hg⊢
  exact h c hc hg
theorem pred_step {l r ro:List Int} (hv:HVp l r ro) {st:List Int×List Int} (h:DInv l.length st) (hq:HasPred l r st.1) {i:Nat} (hi:i<st.2.length) (hm:DMon st.1 st.2 (st.1.getD (st.2.getD i 0).toNat 0+1)):HasPred l r (dst l r st i).1:=by
 have hg:=h.c.get hi
 have hmm:((st.2.getD i 0).toNat:Int)∈st.2:=by rw[Int.toNat_of_nonneg hg.1];exact getD_mem 0 hi
 have hne:=(h.m (st.2.getD i 0).toNat (by omega)).2 hmm
 have hpos:=h.pos (st.2.getD i 0).toNat (by omega)
 have hup:=h.up (st.2.getD i 0).toNat (by omega)
 have ol:=hv.atl hg.1 hg.2
 have or_:=hv.atr hg.1 hg.2
 obtain⟨h1,e1⟩:=h.meet (p:=l.getD (st.2.getD i 0).toNat 0) (far:=st.1.getD (st.2.getD i 0).toNat 0+1) ol (by omega) (by omega)
 have k1:=(h.step hv hi hm).2.2.2.2
 refine pred_dm h1 (pred_dm h hq ol fun _ _=>⟨(st.2.getD i 0).toNat,by omega, .inl rfl,by omega,by omega⟩) or_ fun _ _=>⟨(st.2.getD i 0).toNat,by omega, .inr rfl, ?_, ?_⟩
 ·rw[k1];omega
 ·rw[k1];omega
theorem pred_bfs {l r ro:List Int} (hv:HVp l r ro):∀(f i:Nat) (st:List Int×List Int),DInv l.length st→HasPred l r st.1→(i<st.2.length→DMon st.1 st.2 (st.1.getD (st.2.getD i 0).toNat 0+1))→HasPred l r (dbfs l r f i st).1
 |0,i,st,h,hq,hm=>hq
 |f+1,i,st,h,hq,hm=>by
  simp only[dbfs]
  by_cases hi:i<st.2.length
  ·rw[if_pos hi]
   obtain⟨h1,e1,k1,m1,_⟩:=h.step hv hi (hm hi)
   refine pred_bfs hv f (i+1) _ h1 (pred_step hv h hq hi (hm hi)) fun hi1=>⟨m1.mono,fun k hk=> ?_⟩
   have a1:=m1.top k hk
   have a2:=m1.mono i (i+1) (by omega) hi1
   have a3:(dst l r st i).2.getD i 0=st.2.getD i 0:=by rw[e1];exact pre_getD (stepO_pre' l r st.2 i) hi
   rw[a3,k1]at a2
   omega
  ·rw[if_neg hi];exact hq
theorem pred_drs {l r:List Int}:∀{ps:List Int} {st:List Int×List Int},DInv l.length st→HasPred l r st.1→(∀x∈ps,okP l.length x)→HasPred l r (drs ps st).1
 |[],st,h,hq,_=>hq
 |p::ps,st,h,hq,hp=>pred_drs (ps:=ps) (h.meet (p:=p) (far:=1) (hp p (by simp)) (by omega) (by omega)).1 (pred_dm h hq (hp p (by simp)) fun e=>by omega) fun x hx=>hp x (by simp[hx])
theorem distF_pred {l r ro:List Int} (hv:HVp l r ro):HasPred l r (distF l r ro):=by
 obtain⟨h1,e1,m1⟩:=drs_inv (dinv0 l.length) hv.oko ⟨fun j k _ hk=>by simp at hk,fun k hk=>by simp at hk⟩
 have h0:HasPred l r (List.replicate l.length (0:Int)):=fun c hc hg=>by
  rw[getD_lt (by simpa using hc)]at hg
  simp at hg
 refine pred_bfs hv (l.length+1) 0 _ h1 (pred_drs (dinv0 l.length) h0 hv.oko) fun hi=>⟨m1.mono,fun k hk=> ?_⟩
 have hg:=h1.c.get hi
 have hmm:(((drs ro (List.replicate l.length 0,[])).2.getD 0 0).toNat:Int)∈(drs ro (List.replicate l.length 0,[])).2:=by rw[Int.toNat_of_nonneg hg.1];exact getD_mem 0 hi
 have h2:=(h1.m _ (by omega)).2 hmm
 have h3:=h1.pos ((drs ro (List.replicate l.length 0,[])).2.getD 0 0).toNat (by omega)
 have:=m1.top k hk
 omega
def pathSt (l r d:List Int) (p:List Int):List Int:=
 match(srcs l r (p.getD 0 0)).find? fun x=>decide (d.getD x.toNat 0=d.getD (p.getD 0 0).toNat 0-1)with
 |some x=>x::p
 |none=>p
def pathG (l r d:List Int) (c:Int):Nat→List Int
 |0=>[c]
 |k+1=>pathSt l r d (pathG l r d c k)
def pathF (l r ro:List Int) (c:Int):List Int:=pathG l r (distF l r ro) c ((distF l r ro).getD c.toNat 0-1).toNat
theorem find_at {α:Type} {p:α→Bool} {d:α}:∀{l:List α} {j:Nat},j<l.length→(∀k,k<j→p (l.getD k d)=false)→p (l.getD j d)=true→l.find? p=some (l.getD j d)
 |[],j,h,_,_=>by simp at h
 |x::l,0,_,_,h=>by
  simp only[List.getD_cons_zero]at h⊢
  rw[List.find?_cons_of_pos h]
 |x::l,j+1,hj,h1,h2=>by
  have h0:=h1 0 (by omega)
  simp only[List.getD_cons_zero,List.getD_cons_succ]at h0 h2⊢
  rw[List.find?_cons_of_neg (by simp[h0])]
  exact find_at (by simpa using hj) (fun k hk=>by have:=h1 (k+1) (by omega);simpa using this) h2
structure PathP (l r d:List Int) (c:Int) (k:Nat) (p:List Int):Prop where
 h0:0≤p.getD 0 0
 h1:p.getD 0 0<l.length
 far:d.getD (p.getD 0 0).toNat 0=d.getD c.toNat 0-k
 len:p.length=k+1
 all:∀x∈p,0≤x∧x<l.length
theorem pathG_step {l r d:List Int} {c:Int} (hp:HasPred l r d) {k:Nat} (hk:(k:Int)+1<d.getD c.toNat 0) {p:List Int} (h:PathP l r d c k p):
  ∃x,(srcs l r (p.getD 0 0)).find? (fun x=>decide (d.getD x.toNat 0=d.getD (p.getD 0 0).toNat 0-1))=some x∧pathSt l r d p=x::p∧PathP l r d c (k+1) (x::p):=by
 have h0:=h.h0;have h1:=h.h1;have hf:=h.far
 obtain⟨y,y1,y2,y3,y4⟩:=hp (p.getD 0 0).toNat (by omega) (by omega)
 rw[Int.toNat_of_nonneg h0]at y2
 have hy:(y:Int)∈srcs l r (p.getD 0 0):=mem_filtU.2 ⟨y,y1,by simpa using y2,rfl⟩
 cases e:(srcs l r (p.getD 0 0)).find? fun x=>decide (d.getD x.toNat 0=d.getD (p.getD 0 0).toNat 0-1)with
 |none=>
  have:=List.find?_eq_none.1 e y hy
  simp only[Int.toNat_natCast,decide_eq_true_eq]at this
  exact absurd y4 this
 |some x=>
  have hx:=List.mem_of_find?_eq_some e
  have hx2:=List.find?_some e
  simp only[decide_eq_true_eq]at hx2
  obtain⟨i,i1,i2,rfl⟩:=mem_filtU.1 hx
  refine⟨i,rfl,by unfold pathSt;rw[e],⟨by simp,by simp;omega,by simp only[List.getD_cons_zero];rw[hx2];omega,by simp[h.len],fun z hz=> ?_⟩⟩
  rcases List.mem_cons.1 hz with rfl|hz
  ·omega
  ·exact h.all z hz
theorem pathG_ok {l r d:List Int} {c:Int} (h0:0≤c) (h1:c<l.length) (hp:HasPred l r d):∀k:Nat,(k:Int)<d.getD c.toNat 0→PathP l r d c k (pathG l r d c k)
 |0,_=>⟨by simpa[pathG]using h0,by simpa[pathG]using h1,by simp[pathG],by simp[pathG],fun x hx=>by simp[pathG]at hx;subst hx;omega⟩
 |k+1,hk=>by
  obtain⟨x,_,e2,h2⟩:=pathG_step hp (k:=k) (by omega) (pathG_ok h0 h1 hp k (by omega))
  simp only[pathG]
  rw[e2];exact h2
theorem dist_up {l r ro:List Int} (hv:HVp l r ro) {c:Nat} (hc:c<l.length):0≤(distF l r ro).getD c 0∧(distF l r ro).getD c 0≤l.length:=by
 obtain⟨st,e1,e2,h,_⟩:=distF_inv hv
 have a:=h.pos c hc
 have b:=h.up c hc
 have:=h.c.len
 rw[e1]at a b
 omega
theorem pathF_ok {l r ro:List Int} (hv:HVp l r ro) {c:Int} (h0:0≤c) (h1:c<l.length) (hd:(distF l r ro).getD c.toNat 0≠0):(pathF l r ro c).length≤8∧∀x∈pathF l r ro c,0≤x∧x<l.length:=by
 have hu:=dist_up hv (c:=c.toNat) (by omega)
 have h8:=hv.l8
 have:=pathG_ok (l:=l) (r:=r) (d:=distF l r ro) h0 h1 (distF_pred hv) ((distF l r ro).getD c.toNat 0-1).toNat (by omega)
 exact⟨by have:=this.len;unfold pathF;omega,this.all⟩
theorem L_PathTo {l r ro:List Int} {c:Int} {K:Bool→List Int→Prop} (hv:HVp l r ro) (hn:¬(0≤c∧c<l.length∧(distF l r ro).getD c.toNat 0≠0)→K false [])
  (hy:0≤c→c<l.length→(distF l r ro).getD c.toNat 0≠0→K true (pathF l r ro c)):Mi_PathTo l r ro c K:=by
 have h8:=hv.l8;have hlr:=hv.lr
 refine L_has' hv (br (fun e=>hn (by simp at e;rintro⟨q1,q2,_⟩;omega)) fun e=> ?_)
 have hc:0≤c∧c<l.length:=by simpa using e
 have hdl:=distF_len hv
 obtain⟨ci,rfl⟩:=Int.eq_ofNat_of_zero_le hc.1
 have hci:ci<l.length:=by omega
 refine L_distances hv ⟨by rw[inB_nat];omega,br (fun e=>hn ?_) fun e=> ?_⟩
 ·rw[gI_nat]at e
  have e:=beq_iff_eq.1 e
  rintro⟨_,_,q⟩
  simp only[Int.toNat_natCast]at q
  exact q e
 rw[gI_nat]at e
 have hd:=beq_eq_false_iff_ne.1 e
 replace hy:=hy hc.1 hc.2 (by simpa using hd)
 have hu:=dist_up hv hci
 have hpred:=distF_pred hv
 unfold pathF at hy
 rw[Int.toNat_natCast]at hy
 generalize distF l r ro=d at*
 have hgI:∀{p:List Int},gI p 0=p.getD 0 0:=fun{p}=>by have:=gI_nat p 0;simpa using this
 have hgJ:∀{x:Int},0≤x→gI d x=d.getD x.toNat 0:=fun{x} hx=>by
  have:=gI_nat d x.toNat
  rwa [Int.toNat_of_nonneg hx]at this
 have hinJ:∀{x:Int} {n:Nat},0≤x→x<n→inB x n:=fun{x n} hx hn=>⟨hx,hn⟩
 refine LoopP_for (fun k s=>s=(l,r,ro,d,pathG l r d ci k)) (d.getD ci 0-1).toNat rfl ?_ ?_
 ·rintro k _ hk rfl Kb hKb
  have hP:=pathG_ok (c:=(ci:Int)) (r:=r) hc.1 hc.2 hpred k (by simp only[Int.toNat_natCast];omega)
  obtain⟨x,f1,f2,hP2⟩:=pathG_step hpred (c:=(ci:Int)) (k:=k) (by simp only[Int.toNat_natCast];omega) hP
  have p0:=hP.h0;have p1:=hP.h1;have pf:=hP.far;have pl:=hP.len
  simp only[Int.toNat_natCast]at pf
  have hnx:pathG l r d ci (k+1)=x::pathG l r d ci k:=f2
  generalize pathG l r d ci k=p at*
  simp only[hgI]
  refine⟨hinJ (by omega) (by omega), ?_⟩
  refine⟨hinJ p0 (by omega),br_t (decide_eq_true (by rw[hgJ p0];omega)) ⟨hinJ (by omega) (by omega),L_SourcesOf hv p0 p1 ?_⟩⟩
  have hsl:(srcs l r (p.getD 0 0)).length≤8:=by have:=filtU_len (fun i=>decide (l.getD i 0=p.getD 0 0∨r.getD i 0=p.getD 0 0)) l.length;unfold srcs;omega
  have hsm:∀j:Nat,j<(srcs l r (p.getD 0 0)).length→0≤(srcs l r (p.getD 0 0)).getD j 0∧(srcs l r (p.getD 0 0)).getD j 0<l.length:=fun j hj=>by
   obtain⟨i,i1,_,i3⟩:=mem_filtU.1 (getD_mem (0:Int) hj)
   unfold srcs
   omega
  have hfm:=List.mem_of_find?_eq_some f1
  have hfs:=List.find?_some f1
  have hfa:∀j,j<(srcs l r (p.getD 0 0)).length→(∀k,k<j→d.getD ((srcs l r (p.getD 0 0)).getD k 0).toNat 0≠d.getD (p.getD 0 0).toNat 0-1)→d.getD ((srcs l r (p.getD 0 0)).getD j 0).toNat 0=d.getD (p.getD 0 0).toNat 0-1→(srcs l r (p.getD 0 0)).getD j 0=x:=fun j hj g1 g2=>by
   have:=find_at (p:=fun x=>decide (d.getD x.toNat 0=d.getD (p.getD 0 0).toNat 0-1)) (d:=(0:Int)) hj (fun k hk=>by simpa using g1 k hk) (by simpa using g2)
   rw[f1]at this
   exact(Option.some.inj this).symm
  generalize srcs l r (p.getD 0 0)=q at*
  refine LoopP_for (fun j s=>s=(len q,(j:Int),l,r,ro,d,p,q)∧∀k,k<j→d.getD (q.getD k 0).toNat 0≠d.getD (p.getD 0 0).toNat 0-1) q.length ⟨rfl,fun k hk=>by omega⟩ ?_ ?_
  ·rintro j _ hj ⟨rfl,hno⟩ Kc hKc
   have hqj:=hsm j hj
   refine br_t (by simp[len_eq];exact hj) ⟨by rw[inB_nat];exact hj, ?_⟩
   simp only[gI_nat,hgI]
   refine⟨hinJ hqj.1 (by omega),hinJ (by omega) (by omega),hinJ p0 (by omega), ?_⟩
   rw[hgJ hqj.1,hgJ p0,isub_eq (by omega) (by omega)]
   refine br (fun e=>⟨by simp only[List.length_cons,List.length_nil];omega, ?_⟩) fun e=>hKc _ ⟨by rw[iadd_nat (by omega)],fun k' hk'=> ?_⟩
   ·have e:=beq_iff_eq.1 e
    have:=hfa j hj hno e
    refine hKb _ ?_
    rw[hnx,this];rfl
   ·rcases Nat.lt_succ_iff_lt_or_eq.1 hk' with e'|rfl
    ·exact hno k' e'
    ·exact beq_eq_false_iff_ne.1 e
  ·rintro _ ⟨rfl,hno⟩ Kc
   exfalso
   obtain⟨j,hj,ej⟩:=List.getElem_of_mem hfm
   have:=hno j hj
   rw[getD_lt hj,ej]at this
   simp only[decide_eq_true_eq]at hfs
   exact this hfs
 ·rintro _ rfl Kb
  have hP:=pathG_ok (c:=(ci:Int)) (r:=r) hc.1 hc.2 hpred (d.getD ci 0-1).toNat (by simp only[Int.toNat_natCast];omega)
  have p0:=hP.h0;have p1:=hP.h1;have pf:=hP.far;have pl:=hP.len
  simp only[Int.toNat_natCast]at pf
  generalize pathG l r d ci (d.getD ci 0-1).toNat=p at*
  simp only[hgI]
  refine⟨hinJ (by omega) (by omega), ?_⟩
  exact⟨hinJ p0 (by omega),br_f (decide_eq_false (by rw[hgJ p0];omega)) hy⟩
structure ScV where
 b:BothV
 bar:Bool
def newB (c q:Nat):BothV:=⟨⟨⟨List.replicate c (-1),List.replicate c (-1),List.replicate q (-1)⟩,idI c⟩,⟨0,List.replicate c 0,0⟩,[],0,false⟩
theorem newB_ok {c q:Nat} (h1:1≤c) (h8:c≤8) (q1:1≤q) (q3:q≤3):BoP (newB c q):=
 ⟨⟨new_valid h1 h8 q1 q3,⟨by simp[newB],fun x hx=>by simp[newB]at hx;omega⟩, .inl ⟨rfl,rfl⟩⟩,⟨fun o ho=>by simp[newB]at ho,by simp[newB]⟩,by simp[newB],by simp[newB]⟩
def setO (b:BothV) (o:List OpV) (i:Int):BothV:=⟨b.s,b.g,o,i,b.lost⟩
theorem setO_ok {b:BothV} (h:BoP b) {o:List OpV} (ho:OpsP o b.s.h.ro.length):BoP (setO b o 0):=⟨h.g,ho,by simp[setO],by simp[setO]⟩
def oneS (s:ScV) (o:OpV):ScV:=⟨setO (opB (setO s.b [o] 0) s.bar) s.b.ops s.b.pos,s.bar⟩
def endW (e:Int):Txt:=gS [[111,107],[102,117,108,108],[110,111,110,101]] e
open Classical in
noncomputable def plainS (s:ScV) (w:Txt):ScV×Option Txt:=
 if w=[102,105,110,105,115,104]then(⟨endAll s.bar s.b,s.bar⟩,some (bothS (endAll s.bar s.b)))
 else if w=[115,104,111,119]then(s,some (bothS s.b))
 else if w=[115,116,111,114,101]then(s,some (storeS s.b.s))
 else if w=[103,97,114,98,97,103,101]then(s,some (w++freeS (garbF s.b.s.h.l s.b.s.h.r s.b.s.h.ro) (garbF s.b.s.h.l s.b.s.h.r s.b.s.h.ro).length))
 else if w=[108,101,97,107,101,100]then(s,some (w++freeS ((garbF s.b.s.h.l s.b.s.h.r s.b.s.h.ro).filter fun x=>decide (x∉s.b.s.free)) ((garbF s.b.s.h.l s.b.s.h.r s.b.s.h.ro).filter fun x=>decide (x∉s.b.s.free)).length))
 else if w=[99,111,117,110,116,115]then(s,some (w++freeS (cntF s.b.s.h.l s.b.s.h.r s.b.s.h.ro) (cntF s.b.s.h.l s.b.s.h.r s.b.s.h.ro).length))
 else if w=[111,114,100,101,114]then(s,some (w++freeS (ordF s.b.s.h.l s.b.s.h.r s.b.s.h.ro) (ordF s.b.s.h.l s.b.s.h.r s.b.s.h.ro).length))
 else if w=[99,111,112,121]then(s,some (heapS (cpL s.b.s.h.l (ordF s.b.s.h.l s.b.s.h.r s.b.s.h.ro) s.b.s.h.l.length) (cpL s.b.s.h.r (ordF s.b.s.h.l s.b.s.h.r s.b.s.h.ro) s.b.s.h.l.length) (s.b.s.h.ro.map (atL (ordF s.b.s.h.l s.b.s.h.r s.b.s.h.ro)))))
 else if w=[108,111,115,101]then(s,some (if(canB s.b s.bar).2=false then[117,110,107,110,111,119,110]else match lossB s.b s.bar with
  |some x=>[108,111,115,101,32]++x.road
  |none=>[110,101,118,101,114]))
 else(s,none)
open Classical in
noncomputable def restS (s:ScV) (u v:Txt):ScV×Option Txt:=
 if u=[110,101,119]then(match decP (Lib.cut v [32]).1,decP (Lib.cut v [32]).2.1 with
  |some a,some b=>if 1≤a∧a≤8∧1≤b∧b≤3 then(⟨newB a b,true⟩,some [111,107])else(s,none)
  |_,_=>(s,none))
 else if u=[100,111]then(match parse1 v with
  |some o=>if opOk o s.b.s.h.ro.length∧s.b.lost=false then(oneS s o,some (endW (runOp s.b.s o).2))else(s,none)
  |none=>(s,none))
 else if u=[112,114,111,103,114,97,109]then(if h:∃l,isOps v l∧OpsP l s.b.s.h.ro.length then(⟨setO s.b h.choose 0,s.bar⟩,some [111,107])else(s,none))
 else if u=[114,117,110]then(if v.length≤100∧schOk v then(⟨runB s.b s.bar v,s.bar⟩,some (bothS (runB s.b s.bar v)))else(s,none))
 else if u=[98,97,114,114,105,101,114]then(if v=[111,110]then(⟨s.b,true⟩,some [111,107])else if v=[111,102,102]then(⟨s.b,false⟩,some [111,107])else(s,none))
 else if u=[112,97,116,104]then(match decP v with
  |some n=>if n<s.b.s.h.l.length∧(distF s.b.s.h.l s.b.s.h.r s.b.s.h.ro).getD n 0≠0 then(s,some ([112,97,116,104]++freeS (pathF s.b.s.h.l s.b.s.h.r s.b.s.h.ro n) (pathF s.b.s.h.l s.b.s.h.r s.b.s.h.ro n).length))else(s,none)
  |none=>(s,none))
 else(s,none)
noncomputable def lineS (s:ScV) (x:Txt):ScV×Txt:=
 (fun r:ScV×Option Txt=>(r.1,(r.2.getD [119,104,97,116])++[10])) (if(Lib.cut x [32]).2.2 then restS s (Lib.cut x [32]).1 (Lib.cut x [32]).2.1 else plainS s (Lib.cut x [32]).1)
noncomputable def runLs:List Txt→Nat→ScV→Txt→Txt
 |[],_,_,out=>out
 |x::t,i,s,out=>if x=[]then runLs t (i+1) s out else if 200≤i∨40000<out.length then out++([102,117,108,108]++[10])else runLs t (i+1) (lineS s x).1 (out++(lineS s x).2)
theorem runLs_nil (i:Nat) (s:ScV) (out:Txt):runLs [] i s out=out:=rfl
theorem runLs_cons (x:Txt) (t:List Txt) (i:Nat) (s:ScV) (out:Txt):runLs (x::t) i s out=if x=[]then runLs t (i+1) s out else if 200≤i∨40000<out.length then out++([102,117,108,108]++[10])else runLs t (i+1) (lineS s x).1 (out++(lineS s x).2):=rfl
noncomputable def runS (text:Txt):Txt:=if 20000<text.length then[108,111,110,103,10]else runLs (Lib.split text [10]) 0 ⟨newB 4 3,true⟩ []
theorem endAll_ok {b:BothV} (h:BoP b) (bar:Bool):BoP (endAll bar b):=(endB_rest _ 0 _ (Nat.lt_succ_self _) (finO_valid (n:=restO b) h)).2.2
theorem bothS_le {b:BothV} (h:BoP b):(bothS b).length≤200:=by
 obtain⟨⟨⟨l,r,ro⟩,fr⟩,⟨ph,col,a⟩,ops,i,lost⟩:=b
 have hv:SVp l r ro fr:=h.g.sv
 have hc:ColP l.length col:=h.g.c
 have hp:=ph4 h.g
 have ha:=pos8 h.g
 have i0:=h.i0;have i1:=h.i1;have o12:=h.o.len
 have h8:=hv.h.l8;have cl:=hc.len
 simp only at hp ha i0 i1 o12
 have e1:=storeS_len hv
 have e2:=phS_len hp
 have e3:=dec_len (n:=a.toNat) (by omega)
 have e5:=dec_len (n:=i.toNat) (by omega)
 have e6:(colS col col.length).length=col.length*1:=catN_len (col_len hc)
 unfold bothS tailS
 simp only[List.length_append,List.length_cons,List.length_nil]
 split
 ·simp only[List.length_append,List.length_cons,List.length_nil];omega
 ·simp only[List.length_append,List.length_cons,List.length_nil];omega
theorem garb_ok {l r ro:List Int} (h8:l.length≤8):(garbF l r ro).length≤8∧∀x∈garbF l r ro,0≤x∧x<100:=by
 refine⟨Nat.le_trans (filtU_len _ _) h8,fun x hx=> ?_⟩
 obtain⟨i,hi,_,rfl⟩:=mem_filtU.1 hx
 omega
theorem cnt_ok {l r ro:List Int} (hv:HVp l r ro):(cntF l r ro).length≤8∧∀x∈cntF l r ro,0≤x∧x<100:=by
 have h8:=hv.l8;have hlr:=hv.lr;have r3:=hv.r3
 refine⟨by simp[cntF,cntU];omega,fun x hx=> ?_⟩
 unfold cntF cntU at hx
 obtain⟨c,_,rfl⟩:=List.mem_map.1 hx
 have:=List.count_le_length (a:=(c:Int)) (l:=([l,r,ro].flatten.take [l,r,ro].flatten.length))
 simp only[List.length_take,List.flatten_cons,List.flatten_nil,List.append_nil,List.length_append]at this
 simp only[List.flatten_cons,List.flatten_nil,List.append_nil,List.length_append]
 omega
theorem ord_ok {l r ro:List Int} (hv:HVp l r ro):(ordF l r ro).length≤8∧∀x∈ordF l r ro,0≤x∧x<100:=by
 obtain⟨st,_,e2,h,_⟩:=distF_inv hv
 have h8:=hv.l8
 rw[←e2]
 exact⟨by have:=h.c.len;omega,fun x hx=>by have:=h.c.ok x hx;omega⟩
theorem row_le {fr:List Int} (h:fr.length≤8∧∀x∈fr,0≤x∧x<100):(freeS fr fr.length).length≤24:=by have:=free_le h.2 (n:=fr.length) (Nat.le_refl _);omega
theorem road_le {b:BothV} {bar:Bool} {x:NodeV} (h:lossB b bar=some x):BoP b∧x.road.length≤400:=by
 unfold lossB at h
 split at h
 ·rename_i hv
  refine⟨hv, ?_⟩
  cases e:allB b bar with
  |none=>rw[e]at h;cases h
  |some m=>
   rw[e]at h
   have hx:=List.mem_of_find?_eq_some h
   obtain⟨ht,hl⟩:=walk_tree (tree0 b bar) (by simp) e
   obtain⟨j,hj,rfl⟩:=List.getElem_of_mem hx
   have:=(tree_ok hv ht j hj).len
   unfold nd at this
   rw[getD_lt hj]at this
   omega
 ·cases h
theorem runOp_code (s:StoreV) (o:OpV):0≤(runOp s o).2∧(runOp s o).2≤2:=by
 unfold runOp
 repeat' split
 all_goals simp
theorem one_ok {s:ScV} (h:BoP s.b) {o:OpV} (ho:opOk o s.b.s.h.ro.length):BoP (setO s.b [o] 0)∧BoP (oneS s o).b:=by
 have h1:BoP (setO s.b [o] 0):=setO_ok h ⟨fun x hx=>by simp at hx;subst hx;exact ho,by simp⟩
 have h2:=opB_valid h1 (by simp[setO]) s.bar
 refine⟨h1,h2.g, ?_,h.i0,h.i1⟩
 show OpsP s.b.ops (opB (setO s.b [o] 0) s.bar).s.h.ro.length
 rw[opB_ro]
 exact h.o
theorem endW_le (e:Int):(endW e).length≤4:=by
 unfold endW gS
 rcases e.toNat with _|_|_|n
 ·decide
 ·decide
 ·decide
 ·simp[EK.dflt]
structure OutP (s:ScV) (p:ScV×Option Txt):Prop where
 b:BoP p.1.b
 t:∀t,p.2=some t→t.length≤1000
 n:p.2=none→p.1=s
theorem OutP.no {s:ScV} (h:BoP s.b):OutP s (s,none):=⟨h,fun t ht=>(by cases ht),fun _=>rfl⟩
theorem OutP.yes {s s':ScV} {t:Txt} (h:BoP s'.b) (ht:t.length≤1000):OutP s (s',some t):=⟨h,fun t e=>(by cases e;exact ht),fun h=>(by cases h)⟩
theorem app_le {a b:Txt} {m n:Nat} (h1:a.length≤m) (h2:b.length≤n) (h:m+n≤1000):(a++b).length≤1000:=by rw[List.length_append];omega
theorem plain_out {s:ScV} (h:BoP s.b) (w:Txt):OutP s (plainS s w)∧(plainS s w).1.bar=s.bar:=by
 have hv:HVp s.b.s.h.l s.b.s.h.r s.b.s.h.ro:=h.g.sv.h
 unfold plainS
 split
 ·exact⟨.yes (endAll_ok h _) (Nat.le_trans (bothS_le (endAll_ok h _)) (by decide)),rfl⟩
 split
 ·exact⟨.yes h (Nat.le_trans (bothS_le h) (by decide)),rfl⟩
 split
 ·exact⟨.yes h (Nat.le_trans (storeS_len h.g.sv) (by decide)),rfl⟩
 split
 ·rename_i e;subst e;exact⟨.yes h (app_le (m:=100) (by decide) (row_le (garb_ok hv.l8)) (by decide)),rfl⟩
 split
 ·rename_i e;subst e;exact⟨.yes h (app_le (m:=100) (by decide) (row_le ⟨Nat.le_trans (List.length_filter_le _ _) (garb_ok hv.l8).1,fun x hx=>(garb_ok hv.l8).2 x (List.mem_filter.1 hx).1⟩) (by decide)),rfl⟩
 split
 ·rename_i e;subst e;exact⟨.yes h (app_le (m:=100) (by decide) (row_le (cnt_ok hv)) (by decide)),rfl⟩
 split
 ·rename_i e;subst e;exact⟨.yes h (app_le (m:=100) (by decide) (row_le (ord_ok hv)) (by decide)),rfl⟩
 split
 ·exact⟨.yes h (Nat.le_trans (heapS_len (cp_valid hv)) (by decide)),rfl⟩
 split
 ·refine⟨.yes h ?_,rfl⟩
  split
  ·decide
  ·split
   ·rename_i x e;exact app_le (m:=5) (by decide) (road_le e).2 (by decide)
   ·decide
 ·exact⟨.no h,rfl⟩
theorem rest_out {s:ScV} (h:BoP s.b) (u v:Txt):OutP s (restS s u v):=by
 have hv:HVp s.b.s.h.l s.b.s.h.r s.b.s.h.ro:=h.g.sv.h
 unfold restS
 split
 ·split
  ·split
   ·rename_i hq;exact .yes (newB_ok hq.1 hq.2.1 hq.2.2.1 hq.2.2.2) (by decide)
   ·exact .no h
  ·exact .no h
 split
 ·split
  ·split
   ·rename_i hq;exact .yes (one_ok h hq.1).2 (Nat.le_trans (endW_le _) (by decide))
   ·exact .no h
  ·exact .no h
 split
 ·split
  ·rename_i hq;exact .yes (setO_ok h hq.choose_spec.2) (by decide)
  ·exact .no h
 split
 ·split
  ·exact .yes (runB_valid _ _ h) (Nat.le_trans (bothS_le (runB_valid _ _ h)) (by decide))
  ·exact .no h
 split
 ·split
  ·exact .yes h (by decide)
  ·split
   ·exact .yes h (by decide)
   ·exact .no h
 split
 ·split
  ·rename_i n _
   split
   ·rename_i hq
    have hp:=pathF_ok hv (c:=(n:Int)) (by omega) (by omega) (by simpa using hq.2)
    exact .yes h (app_le (m:=100) (by decide) (row_le ⟨hp.1,fun x hx=>by have:=hp.2 x hx;have:=hv.l8;omega⟩) (by decide))
   ·exact .no h
  ·exact .no h
 ·exact .no h
theorem bytes_back (q:Txt):bytesOf (bytesI q)=q:=by
 unfold bytesOf bytesI
 rw[List.map_map]
 refine(List.map_congr_left fun b _=> ?_).trans (List.map_id q)
 simp
theorem L_tell {t out:Txt} {p a i:Int} {lost bar:Bool} {l r ro fr c:List Int} {ops:List OpV} {K:List Int→Prop} (ht:t.length≤1000) (ho:out.length≤42000) (hK:K (bytesI (out++(t++[10])))):Mi_desk_tell t p a i lost bar l r ro fr c ops (bytesI out) K:=by
 refine⟨by simp;omega, ?_⟩
 refine⟨by simp[bytesI];omega, ?_⟩
 have e:bytesI out++bytesI (t++[10])=bytesI (out++(t++[10])):=by simp[bytesI]
 rw[e];exact hK
theorem app2 {a b:Txt} (h:(a++b).length≤1000):a.length+b.length≤2^62:=by rw[List.length_append]at h;omega
theorem L_NewStoreI {n q:Int} {K:Bool→List Int→List Int→List Int→List Int→Prop} (hn:¬(1≤n∧n≤8∧1≤q∧q≤3)→K false [] [] [] [])
  (hy:1≤n→n≤8→1≤q→q≤3→K true (List.replicate n.toNat (-1)) (List.replicate n.toNat (-1)) (List.replicate q.toNat (-1)) (idI n.toNat)):Mi_NewStore n q K:=by
 by_cases h:1≤n∧n≤8∧1≤q∧q≤3
 ·obtain⟨h1,h8,q1,q3⟩:=h
  obtain⟨m,rfl⟩:=Int.eq_ofNat_of_zero_le (show 0≤n by omega)
  obtain⟨t,rfl⟩:=Int.eq_ofNat_of_zero_le (show 0≤q by omega)
  refine L_NewHeap (by omega) (by omega) (by omega) (by omega) (br_f rfl ?_)
  have hy:=hy h1 h8 q1 q3
  simp only[Int.toNat_natCast]at hy
  refine LoopP_for (fun i s=>s=((m:Int),(i:Int),[],[],[],[],List.replicate m (-1),List.replicate m (-1),List.replicate t (-1),idI i)) m (by simp[idI,len]) ?_ ?_
  ·rintro i _ hi rfl Kb hKb
   refine br_t (by simp;omega) ⟨by simp[idI];omega,hKb _ ?_⟩
   rw[iadd_nat (by omega)]
   simp[idI,List.range_succ]
  ·rintro _ rfl Kb
   exact br_f (by simp) hy
 ·refine br (fun e=>br_t rfl (hn h)) fun e1=>br (fun e=>br_t rfl (hn h)) fun e2=>br (fun e=>br_t rfl (hn h)) fun e3=>br (fun e=>br_t rfl (hn h)) fun e4=> ?_
  exfalso
  have e1:=of_decide_eq_false e1
  have e2:=of_decide_eq_false e2
  have e3:=of_decide_eq_false e3
  have e4:=of_decide_eq_false e4
  exact h ⟨by omega,by omega,by omega,by omega⟩
theorem L_begin {n q p a i:Int} {lost bar:Bool} {l r ro fr c out:List Int} {ops:List OpV} {K:Bool→Int→Int→Int→Bool→Bool→List Int→List Int→List Int→List Int→List Int→List OpV→Prop}
  (hn:¬(1≤n∧n≤8∧1≤q∧q≤3)→K false p a i lost bar l r ro fr c ops)
  (hy:1≤n→n≤8→1≤q→q≤3→KB (fun p a i lost l r ro fr c ops=>K true p a i lost true l r ro fr c ops) (newB n.toNat q.toNat)):Mi_desk_begin n q p a i lost bar l r ro fr c ops out K:=
 L_NewStoreI (fun h=>br_f rfl (hn h)) fun h1 h8 q1 q3=>br_t rfl (L_iNewBoth (by simp) (new_valid (by omega) (by omega) (by omega) (by omega)) (fun _=>by have:=hy h1 h8 q1 q3;unfold newB KB at this;simpa using this) fun h=>absurd ⟨fun o ho=>by simp at ho,by simp⟩ h)
theorem L_step0 {l r ro fr col:List Int} {ph a i:Int} {ops:List OpV} {lost bar:Bool} {K:Int→Int→Int→Bool→Int→Bool→List Int→List Int→List Int→List Int→List Int→List OpV→Prop} (hf:fr.length<2^60) (hc:col.length<2^60) (ho:ops.length<2^60) (h:¬BoP ⟨⟨⟨l,r,ro⟩,fr⟩,⟨ph,col,a⟩,ops,i,lost⟩)
 (hn:K 0 0 0 false 0 false [] [] [] [] [] []):Mi_step l r ro fr ph col a ops i lost bar K:=L_iBothValid hf hc ho (br_t (by simp[h]) hn)
abbrev KL (K:Bool→Int→Int→Int→Bool→Bool→List Int→List Int→List Int→List Int→List Int→List OpV→List Int→Prop) (ok:Bool) (s:ScV) (out:Txt):Prop:=KB (fun p a i lost l r ro fr c ops=>K ok p a i lost s.bar l r ro fr c ops (bytesI out)) s.b
theorem L_plain {w out:Txt} {s:ScV} {K:Bool→Int→Int→Int→Bool→List Int→List Int→List Int→List Int→List Int→List OpV→List Int→Prop} (h:BoP s.b) (ho:out.length≤42000)
  (hy:∀t,(plainS s w).2=some t→KB (fun p a i lost l r ro fr c ops=>K true p a i lost l r ro fr c ops (bytesI (out++(t++[10])))) (plainS s w).1.b)
  (hn:(plainS s w).2=none→KB (fun p a i lost l r ro fr c ops=>K false p a i lost l r ro fr c ops (bytesI out)) s.b):
  KB (fun p a i lost l r ro fr c ops=>Mi_desk_plain w p a i lost s.bar l r ro fr c ops (bytesI out) K) s.b:=by
 have hO:=(plain_out h w).1
 obtain⟨⟨⟨⟨l,r,ro⟩,fr⟩,⟨ph,col,a⟩,ops,i,lost⟩,bar⟩:=s
 have hs:SVp l r ro fr:=h.g.sv
 have hv:=hs.h
 have h8:=hv.l8
 have sm:=h.small
 simp only at sm
 have hf6:fr.length<2^60:=by omega
 have hc6:col.length<2^60:=by omega
 have ho6:ops.length<2^60:=by omega
 generalize hP:plainS ⟨⟨⟨⟨l,r,ro⟩,fr⟩,⟨ph,col,a⟩,ops,i,lost⟩,bar⟩ w=P at hO hy hn
 unfold plainS at hP
 refine br (fun e=> ?_) fun e=> ?_
 ·rw[if_pos (beq_iff_eq.1 e)]at hP
  subst hP
  have hE:=endAll_ok h bar
  refine L_iFinishBoth hf6 hc6 ho6 (fun q=>absurd h q) fun _=> ?_
  have ht:=hO.t _ rfl
  have hy:=hy _ rfl
  simp only at ht hy hE
  generalize endAll bar ⟨⟨⟨l,r,ro⟩,fr⟩,⟨ph,col,a⟩,ops,i,lost⟩=b at*
  obtain⟨⟨⟨l',r',ro'⟩,fr'⟩,⟨ph',col',a'⟩,ops',i',lost'⟩:=b
  exact L_FormatBoth hE (L_tell ht ho hy)
 rw[if_neg (beq_eq_false_iff_ne.1 e)]at hP
 refine br (fun e=> ?_) fun e=> ?_
 ·rw[if_pos (beq_iff_eq.1 e)]at hP
  subst hP
  exact L_FormatBoth h (L_tell (hO.t _ rfl) ho (hy _ rfl))
 rw[if_neg (beq_eq_false_iff_ne.1 e)]at hP
 refine br (fun e=> ?_) fun e=> ?_
 ·rw[if_pos (beq_iff_eq.1 e)]at hP
  subst hP
  exact L_FormatStore hs (L_tell (hO.t _ rfl) ho (hy _ rfl))
 rw[if_neg (beq_eq_false_iff_ne.1 e)]at hP
 refine br (fun e=> ?_) fun e=> ?_
 ·rw[if_pos (beq_iff_eq.1 e)]at hP
  subst hP
  have ht:=hO.t _ rfl
  exact L_GarbageOf (fun _=>L_spacedG (garb_ok h8).2 (Nat.le_trans (garb_ok h8).1 (by decide)) ⟨app2 ht,L_tell ht ho (hy _ rfl)⟩) fun q=>absurd hv q
 rw[if_neg (beq_eq_false_iff_ne.1 e)]at hP
 refine br (fun e=> ?_) fun e=> ?_
 ·rw[if_pos (beq_iff_eq.1 e)]at hP
  subst hP
  have ht:=hO.t _ rfl
  exact L_LeakedOf hs (L_spacedG (fun x hx=>(garb_ok h8).2 x (List.mem_filter.1 hx).1) (Nat.le_trans (List.length_filter_le _ _) (Nat.le_trans (garb_ok h8).1 (by decide))) ⟨app2 ht,L_tell ht ho (hy _ rfl)⟩)
 rw[if_neg (beq_eq_false_iff_ne.1 e)]at hP
 refine br (fun e=> ?_) fun e=> ?_
 ·rw[if_pos (beq_iff_eq.1 e)]at hP
  subst hP
  have ht:=hO.t _ rfl
  exact L_CountsOf (fun _=>L_spacedG (cnt_ok hv).2 (Nat.le_trans (cnt_ok hv).1 (by decide)) ⟨app2 ht,L_tell ht ho (hy _ rfl)⟩) fun q=>absurd hv q
 rw[if_neg (beq_eq_false_iff_ne.1 e)]at hP
 refine br (fun e=> ?_) fun e=> ?_
 ·rw[if_pos (beq_iff_eq.1 e)]at hP
  subst hP
  have ht:=hO.t _ rfl
  refine L_iOrderOf ?_
  rw[if_pos hv]
  exact L_spacedG (ord_ok hv).2 (Nat.le_trans (ord_ok hv).1 (by decide)) ⟨app2 ht,L_tell ht ho (hy _ rfl)⟩
 rw[if_neg (beq_eq_false_iff_ne.1 e)]at hP
 refine br (fun e=> ?_) fun e=> ?_
 ·rw[if_pos (beq_iff_eq.1 e)]at hP
  subst hP
  exact L_iCopyHeap (fun _=>L_FormatHeap (fun _=>L_tell (hO.t _ rfl) ho (hy _ rfl)) fun q=>absurd (cp_valid hv) q) fun q=>absurd hv q
 rw[if_neg (beq_eq_false_iff_ne.1 e)]at hP
 refine br (fun e=> ?_) fun e=> ?_
 ·rw[if_pos (beq_iff_eq.1 e)]at hP
  refine L_iCanLose hf6 hc6 ho6 (L_iShortLoss hf6 hc6 ho6 (fun q=> ?_) fun x q=> ?_)
  ·simp only[q]at hP
   refine br (fun e1=> ?_) fun e1=>br_f rfl ?_
   ·rw[if_pos (by simpa using e1)]at hP
    subst hP
    exact L_tell (hO.t _ rfl) ho (hy _ rfl)
   ·rw[if_neg (by simpa using e1)]at hP
    subst hP
    exact L_tell (hO.t _ rfl) ho (hy _ rfl)
  ·simp only[q]at hP
   refine br (fun e1=> ?_) fun e1=>br_t rfl ?_
   ·rw[if_pos (by simpa using e1)]at hP
    subst hP
    exact L_tell (hO.t _ rfl) ho (hy _ rfl)
   ·rw[if_neg (by simpa using e1)]at hP
    subst hP
    have ht:=hO.t _ rfl
    exact⟨app2 ht,L_tell ht ho (hy _ rfl)⟩
 rw[if_neg (beq_eq_false_iff_ne.1 e)]at hP
 subst hP
 exact hn rfl
theorem L_rest {u v out:Txt} {s:ScV} {K:Bool→Int→Int→Int→Bool→Bool→List Int→List Int→List Int→List Int→List Int→List OpV→List Int→Prop} (h:BoP s.b) (ho:out.length≤42000) (hv2:v.length≤20000)
  (hy:∀t,(restS s u v).2=some t→KL K true (restS s u v).1 (out++(t++[10])))
  (hn:(restS s u v).2=none→KL K false s out):
  KB (fun p a i lost l r ro fr c ops=>Mi_desk_rest u v p a i lost s.bar l r ro fr c ops (bytesI out) K) s.b:=by
 have hO:=rest_out h u v
 obtain⟨⟨⟨⟨l,r,ro⟩,fr⟩,⟨ph,col,a⟩,ops,i,lost⟩,bar⟩:=s
 have hs:SVp l r ro fr:=h.g.sv
 have hv:=hs.h
 have h8:=hv.l8
 have sm:=h.small
 simp only at sm
 have hf6:fr.length<2^60:=by omega
 have hc6:col.length<2^60:=by omega
 have ho6:ops.length<2^60:=by omega
 generalize hP:restS ⟨⟨⟨⟨l,r,ro⟩,fr⟩,⟨ph,col,a⟩,ops,i,lost⟩,bar⟩ u v=P at hO hy hn
 unfold restS at hP
 refine br (fun e=> ?_) fun e=> ?_
 ·rw[if_pos (beq_iff_eq.1 e)]at hP
  have hcl:=cut_len (c:=32) (s:=v)
  refine L_Cut (by omega) (L_decimal (by omega) (fun n hd=>L_decimal (by omega) (fun q hd2=>br_f rfl (br_f rfl (L_begin (fun hq=>br_t rfl ?_) fun q1 q2 q3 q4=>br_f rfl ?_))) fun hd2 x=>br_f rfl (br_t rfl ?_)) fun hd x=>L_decimal (by omega) (fun q hd2=>br_t rfl ?_) fun hd2 x=>br_t rfl ?_)
  ·simp only[hd,hd2]at hP
   rw[if_neg (by omega)]at hP
   subst hP
   exact hn rfl
  ·simp only[hd,hd2]at hP
   rw[if_pos (by omega)]at hP
   subst hP
   exact L_tell (by decide) ho (hy _ rfl)
  ·simp only[hd,hd2]at hP
   subst hP
   exact hn rfl
  ·simp only[hd,hd2]at hP
   subst hP
   exact hn rfl
  ·simp only[hd,hd2]at hP
   subst hP
   exact hn rfl
 rw[if_neg (beq_eq_false_iff_ne.1 e)]at hP
 refine br (fun e=> ?_) fun e=> ?_
 ·rw[if_pos (beq_iff_eq.1 e)]at hP
  refine L_ParseOpI (fun o hp=>br_f rfl ?_) fun hp=>br_t rfl ?_
  ·simp only[hp]at hP
   by_cases hok:opOk o ro.length
   ·have h1:=one_ok (s:=⟨⟨⟨⟨l,r,ro⟩,fr⟩,⟨ph,col,a⟩,ops,i,lost⟩,bar⟩) h hok
    have eo:(⟨o.kind,o.a,o.b⟩:OpV)=o:=rfl
    rw[eo]
    refine L_step h1.1 (fun q=>br_t rfl ?_) fun hl _ e he=> ?_
    ·rcases q with q|q
     ·rw[if_neg (by rintro⟨_,q2⟩;rw[show lost=true from q]at q2;cases q2)]at hP
      subst hP
      exact hn rfl
     ·exact absurd q (by simp[setO])
    ·rw[if_pos ⟨hok,hl⟩]at hP
     have eg:gO (setO ⟨⟨⟨l,r,ro⟩,fr⟩,⟨ph,col,a⟩,ops,i,lost⟩ [o] 0).ops 0=o:=rfl
     have he:e=(runOp ⟨⟨l,r,ro⟩,fr⟩ o).2:=he
     subst hP
     have ht:=hO.t _ rfl
     have hy:=hy _ rfl
     simp only at hy ht
     rw[←he]at hy ht
     have hb3:=runOp_code ⟨⟨l,r,ro⟩,fr⟩ o
     rw[←he]at hb3
     unfold oneS at hy
     simp only at hy
     unfold setO at hy
     simp only at hy
     generalize opB ⟨⟨⟨l,r,ro⟩,fr⟩,⟨ph,col,a⟩,[o],0,lost⟩ bar=b at hy⊢
     obtain⟨⟨⟨l',r',ro'⟩,fr'⟩,⟨ph',col',a'⟩,ops',i',lost'⟩:=b
     exact br_f rfl ⟨⟨hb3.1,by show e<3;omega⟩,L_tell ht ho hy⟩
   ·rw[if_neg (fun q=>hok q.1)]at hP
    subst hP
    refine L_step0 hf6 hc6 (by simp) (fun q=>hok (q.o.ok _ (by simp))) (br_t rfl (hn rfl))
  ·simp only[hp]at hP
   subst hP
   exact hn rfl
 rw[if_neg (beq_eq_false_iff_ne.1 e)]at hP
 refine br (fun e=> ?_) fun e=> ?_
 ·rw[if_pos (beq_iff_eq.1 e)]at hP
  refine L_ParseOpsI (by omega) (fun ol hl=>br_f rfl (L_opsOk (q:=ro.length) rfl (by have:=hl.1.len;omega) ?_)) fun hl=>br_t rfl ?_
  ·by_cases hop:OpsP ol ro.length
   ·have hex:∃l,isOps v l∧OpsP l ro.length:=⟨ol,hl,hop⟩
    rw[dif_pos hex]at hP
    have:hex.choose=ol:=ops_one hex.choose_spec.1 hl
    rw[this]at hP
    subst hP
    exact br_f (by simp[hop]) (L_tell (by decide) ho (hy _ rfl))
   ·rw[dif_neg (by rintro⟨l',h1,h2⟩;exact hop (ops_one hl h1▸h2))]at hP
    subst hP
    exact br_t (by simp[hop]) (hn rfl)
  ·rw[dif_neg (by rintro⟨l',h1,h2⟩;exact hl _ h1)]at hP
   subst hP
   exact hn rfl
 rw[if_neg (beq_eq_false_iff_ne.1 e)]at hP
 refine br (fun e=> ?_) fun e=> ?_
 ·rw[if_pos (beq_iff_eq.1 e)]at hP
  refine L_iRunBoth hf6 hc6 ho6 (fun q=>br_t rfl ?_) fun _ q1 q2=> ?_
  ·rw[if_neg (fun q2=>q ⟨h,q2⟩)]at hP
   subst hP
   exact hn rfl
  ·rw[if_pos ⟨q1,q2⟩]at hP
   subst hP
   have ht:=hO.t _ rfl
   have hb:=hO.b
   have hy:=hy _ rfl
   simp only at ht hy hb
   generalize runB ⟨⟨⟨l,r,ro⟩,fr⟩,⟨ph,col,a⟩,ops,i,lost⟩ bar v=b at*
   obtain⟨⟨⟨l',r',ro'⟩,fr'⟩,⟨ph',col',a'⟩,ops',i',lost'⟩:=b
   exact br_f rfl (L_FormatBoth hb (L_tell ht ho hy))
 rw[if_neg (beq_eq_false_iff_ne.1 e)]at hP
 refine br (fun e=> ?_) fun e=> ?_
 ·rw[if_pos (beq_iff_eq.1 e)]at hP
  refine br (fun e1=>br (fun e2=> ?_) fun e2=> ?_) fun e1=> ?_
  ·rw[if_neg (by simpa using e1),if_neg (by simpa using e2)]at hP
   subst hP
   exact hn rfl
  ·rw[if_neg (by simpa using e1),if_pos (by simpa using e2)]at hP
   have e3:(v==[111,110])=false:=by simpa using e1
   subst hP
   rw[e3]
   exact L_tell (by decide) ho (hy _ rfl)
  ·rw[if_pos (by simpa using e1)]at hP
   have e3:(v==[111,110])=true:=by simpa using e1
   subst hP
   rw[e3]
   exact L_tell (by decide) ho (hy _ rfl)
 rw[if_neg (beq_eq_false_iff_ne.1 e)]at hP
 refine br (fun e=> ?_) fun e=> ?_
 ·rw[if_pos (beq_iff_eq.1 e)]at hP
  refine L_decimal (by omega) (fun n hd=>L_PathTo (l:=l) (r:=r) (ro:=ro) hv (fun q=>br_f rfl (br_t rfl ?_)) fun q0 q1 q2=>br_f rfl (br_f rfl ?_)) fun hd x=>L_PathTo (l:=l) (r:=r) (ro:=ro) hv (fun q=>br_t rfl ?_) fun q0 q1 q2=>br_t rfl ?_
  ·simp only[hd]at hP
   rw[if_neg (by rintro⟨h1,h2⟩;exact q ⟨by omega,by have:n<l.length:=h1;omega,by simpa using h2⟩)]at hP
   subst hP
   exact hn rfl
  ·simp only[hd]at hP
   rw[if_pos ⟨by show n<l.length;omega,by simpa using q2⟩]at hP
   subst hP
   have ht:=hO.t _ rfl
   have hp:=pathF_ok hv q0 q1 q2
   exact L_spacedG (fun x hx=>by have:=hp.2 x hx;omega) (Nat.le_trans hp.1 (by decide)) ⟨app2 ht,L_tell ht ho (hy _ rfl)⟩
  ·simp only[hd]at hP
   subst hP
   exact hn rfl
  ·simp only[hd]at hP
   subst hP
   exact hn rfl
 rw[if_neg (beq_eq_false_iff_ne.1 e)]at hP
 subst hP
 exact hn rfl
theorem split_le {c:UInt8} (n:Nat):∀(s:Txt),s.length≤n→∀x∈Lib.split s [c],x.length≤n:=by
 suffices H:∀(k:Nat) (s:Txt),s.length≤k→∀x∈Lib.split s [c],x.length≤s.length from fun s hs x hx=>Nat.le_trans (H _ s (Nat.le_refl _) x hx) hs
 intro k
 induction k with
 |zero=>
  intro s hs x hx
  have:s=[]:=List.length_eq_zero_iff.1 (by omega)
  subst this
  rw[split_end (by simp)]at hx
  simp at hx;subst hx;simp
 |succ k ih=>
  intro s hs x hx
  rcases txt_cut c s with h|⟨u,v,rfl,h⟩
  ·rw[split_end h]at hx
   simp at hx;subst hx;exact Nat.le_refl _
  ·rw[split_sep h]at hx
   simp only[List.length_append,List.length_cons]at hs⊢
   rcases List.mem_cons.1 hx with rfl|hx
   ·omega
   ·have:=ih v (by omega) x hx
    omega
abbrev tupS (L:List Txt) (z:Int) (st:ScV) (out:Txt):Int×Int×Int×Int×Int×Bool×Bool×List Txt×List Int×List Int×List Int×List Int×List Int×List OpV×List Int:=
 KB (fun p a i lost l r ro fr c ops=>(len L,z,p,a,i,lost,st.bar,L,l,r,ro,fr,c,ops,bytesI out)) st.b
theorem L_iRunScript {text:Txt} {K:Txt→Prop} (hK:K (runS text)):Mi_RunScript text K:=by
 unfold runS at hK
 refine br (fun e=> ?_) fun e=> ?_
 ·rw[if_pos (by have:=of_decide_eq_true e;simp only[len_eq]at this;omega)]at hK
  exact hK
 have e:=of_decide_eq_false e
 simp only[len_eq]at e
 rw[if_neg (by omega)]at hK
 refine L_begin (fun q=>absurd q (by decide)) fun _ _ _ _=>L_Split (by omega) (by decide) ?_
 have hll:=split_len (s:=text) (c:=10)
 have hlm:=split_le (c:=10) 20000 text (by omega)
 have h0:=newB_ok (c:=4) (q:=3) (by decide) (by decide) (by decide) (by decide)
 have e43:newB (Int.toNat 4) (Int.toNat 3)=newB 4 3:=rfl
 rw[e43]
 generalize Lib.split text [10]=L at hK hll hlm⊢
 generalize newB 4 3=b0 at hK h0⊢
 refine LoopP_for (fun j s=>∃(st:ScV) (out:Txt),BoP st.b∧out.length≤42000∧runLs (L.drop j) j st out=runLs L 0 ⟨b0,true⟩ []∧s=tupS L (j:Int) st out) L.length ⟨⟨b0,true⟩,[],h0,by simp,rfl,rfl⟩ ?_ ?_
 ·rintro j _ hj ⟨st,out,hb,hout,hr,rfl⟩ Kb hKb
  have hx:L.getD j []∈L:=getD_mem [] hj
  have hxl:=hlm _ hx
  have hd:L.drop j=L.getD j []::L.drop (j+1):=by rw[List.drop_eq_getElem_cons hj,getD_lt hj]
  rw[hd,runLs_cons]at hr
  have hgS:gS L (j:Int)=L.getD j []:=by simp[gS,EK.dflt]
  have hw:iadd (j:Int) 1=((j+1:Nat):Int):=iadd_nat (by omega)
  have full:out++([102,117,108,108]++[10])=runLs L 0 ⟨b0,true⟩ []→(bytesI (bytesOf (bytesI (out++([102,117,108,108]++[10]))))=bytesI (out++([102,117,108,108]++[10]))∧(bytesI (out++([102,117,108,108]++[10]))).length≤2^36)∧K (bytesOf (bytesI (out++([102,117,108,108]++[10])))):=fun ho=>
   ⟨⟨by rw[bytes_back],by simp[bytesI];omega⟩,by rw[bytes_back,ho];exact hK⟩
  have next:∀(st':ScV) (o:Txt),BoP st'.b→o.length≤42000→runLs (L.drop (j+1)) (j+1) st' o=runLs L 0 ⟨b0,true⟩ []→Kb (tupS L (iadd (j:Int) 1) st' o):=fun st' o h1 h2 h3=>hKb _ ⟨st',o,h1,h2,h3,congrArg (fun z=>tupS L z st' o) hw⟩
  refine br_t (decide_eq_true (by show(j:Int)<len L;rw[len_eq];omega)) ⟨⟨by show(0:Int)≤j;omega,by show(j:Int)<L.length;omega⟩, ?_⟩
  dsimp only[KB,tupS]
  rw[hgS]
  generalize L.getD j []=x at hr hxl⊢
  refine br (fun ex=> ?_) fun ex=> ?_
  ·rw[if_pos (beq_iff_eq.1 ex)]at hr
   exact next st out hb hout hr
  rw[if_neg (beq_eq_false_iff_ne.1 ex)]at hr
  refine br (fun e2=> ?_) fun e2=>br (fun e3=> ?_) fun e3=> ?_
  ·rw[if_pos (.inl (by have:=of_decide_eq_true e2;omega))]at hr
   exact L_tell (by decide) hout (full hr)
  ·rw[if_pos (.inr (by have:=of_decide_eq_true e3;simp only[len_eq,bytesI,List.length_map]at this;omega))]at hr
   exact L_tell (by decide) hout (full hr)
  have e2:=of_decide_eq_false e2
  have e3:=of_decide_eq_false e3
  simp only[len_eq,bytesI,List.length_map]at e3
  rw[if_neg (by omega)]at hr
  have hcl:=cut_len (c:=32) (s:=x)
  refine L_Cut (by omega) ?_
  unfold lineS at hr
  generalize Lib.cut x [32]=c at hr hcl
  obtain⟨u,v,y⟩:=c
  simp only at hr hcl
  refine br (fun ey=> ?_) fun ey=> ?_
  ·have ey:y=true:=ey
   subst ey
   rw[if_pos rfl]at hr
   have hO:=rest_out hb u v
   refine L_rest hb hout (by show v.length≤20000;omega) (fun t ht=> ?_) fun hn=> ?_
   ·rw[ht]at hr
    exact br_f rfl (br_f rfl (next _ _ hO.b (by have:=hO.t t ht;simp only[List.length_append,List.length_cons,List.length_nil];omega) hr))
   ·rw[hn,hO.n hn]at hr
    exact br_t rfl (L_tell (by decide) hout (next _ _ hb (by simp only[List.length_append,List.length_cons,List.length_nil];omega) hr))
  ·have ey:y=false:=ey
   subst ey
   rw[if_neg (by decide)]at hr
   have hO:=(plain_out hb u).1
   have hbar:=(plain_out hb u).2
   refine br_t rfl (L_plain hb hout (fun t ht=> ?_) fun hn=> ?_)
   ·rw[ht]at hr
    have:=next _ _ hO.b (by have:=hO.t t ht;simp only[Option.getD_some,List.length_append,List.length_cons,List.length_nil];omega) hr
    dsimp only[tupS]at this
    rw[hbar]at this
    exact br_f rfl this
   ·rw[hn,hO.n hn]at hr
    exact br_t rfl (L_tell (by decide) hout (next _ _ hb (by simp only[List.length_append,List.length_cons,List.length_nil];omega) hr))
 ·rintro _ ⟨st,out,hb,hout,hr,rfl⟩ Kb
  refine br_f (decide_eq_false (by show ¬((L.length:Int)<len L);rw[len_eq];omega)) ?_
  rw[List.drop_length,runLs_nil]at hr
  refine⟨⟨by rw[bytes_back],by simp[bytesI];omega⟩, ?_⟩
  show K (bytesOf (bytesI out))
  rw[bytes_back,hr]
  exact hK
theorem line_rest (s:ScV) {u:Txt} (h:(32:UInt8)∉u) (v:Txt):lineS s (u++32::v)=((restS s u v).1,((restS s u v).2.getD [119,104,97,116])++[10]):=by
 unfold lineS;rw[cut_hit h];rfl
theorem run_line {x:Txt} (t:List Txt) {i:Nat} {s:ScV} {out:Txt} {p:ScV×Txt} (hx:x≠[]) (hi:i<200) (ho:out.length≤40000) (hp:lineS s x=p):runLs (x::t) i s out=runLs t (i+1) p.1 (out++p.2):=by
 rw[runLs_cons,if_neg hx,if_neg (by omega),hp]
theorem run_end {i:Nat} {s:ScV} {out:Txt}:runLs [[]] i s out=out:=by rw[runLs_cons,if_pos rfl,runLs_nil]
theorem runS_short {text:Txt} (h:text.length≤20000):runS text=runLs (Lib.split text [10]) 0 ⟨newB 4 3,true⟩ []:=by unfold runS;rw[if_neg (by omega)]
theorem split_lines {ls:List Txt} (h:∀p∈ls,(10:UInt8)∉p):Lib.split (ls.flatMap fun p=>p++[10]) [10]=ls++[[]]:=by
 have:=split_front (c:=10) (t:=[]) h
 rw[List.append_nil]at this
 rw[this,split_end (by simp)]
theorem b43:BoP (newB 4 3):=newB_ok (by decide) (by decide) (by decide) (by decide)
theorem fmt_no10 {o:OpV} (h:opOk o 3):(10:UInt8)∉fmtO o:=by
 have key:∀o∈cands,(10:UInt8)∉fmtO o:=by decide+kernel
 exact key o (cand_mem h)
theorem join_no {c:UInt8} (hc:c∉cs2):∀{ps:List Txt},(∀p∈ps,c∉p)→c∉Lib.join ps cs2
 |[],_=>by simp[Lib.join]
 |p::ps,h=>by
  rw[Lib.join_cons]
  intro q
  rcases List.mem_append.1 q with q|q
  ·exact h p (by simp) q
  ·unfold Lib.joinTail at q
   obtain⟨x,hx,hq⟩:=List.mem_flatten.1 q
   obtain⟨y,hy,rfl⟩:=List.mem_map.1 hx
   rcases List.mem_append.1 hq with q|q
   ·exact hc q
   ·exact h y (by simp[hy]) q
theorem joinO_no10 {l:List OpV} (h:OpsP l 3):(10:UInt8)∉joinO l:=join_no (by decide) fun p hp=>by
 obtain⟨o,ho,rfl⟩:=List.mem_map.1 hp
 exact fmt_no10 (h.ok o ho)
theorem joinO_len {l:List OpV} (h:OpsP l 3):(joinO l).length≤300:=by
 have h12:=h.len
 have key:∀l:List OpV,(Lib.join (l.map fmtO) cs2).length≤14*l.length:=by
  intro l
  cases l with
  |nil=>simp[Lib.join]
  |cons o l=>
   rw[List.map_cons,Lib.join_cons]
   have tail:∀l:List OpV,(Lib.joinTail cs2 (l.map fmtO)).length≤14*l.length:=by
    intro l
    induction l with
    |nil=>simp[Lib.joinTail]
    |cons o l ih=>
     have:=fmt_len o
     simp[Lib.joinTail]at ih⊢
     omega
   have:=tail l
   have:=fmt_len o
   simp only[List.length_append,List.length_cons]
   omega
 have:=key l
 unfold joinO
 omega
theorem L_DrawFormatOps {c:List Int} {K:List OpV→Prop} (hc:∀x∈c,U8 x) (hK:∀l:List OpV,l.length≤13→K l):Ms_DrawFormatOps c K:=
 L_l13Open hc fun b h=>L_l5Ops (k:=2) (h.le (by omega)) fun p' ops ho h=>L_pick (k:=1) h fun v _ _ h=>br (fun _=>L_num (k:=0) h (by simp) fun w _ h=>⟨by have:=ho.len;simp;omega,hK _ (by have:=ho.len;simp;omega)⟩) fun _=>hK _ (by have:=ho.len;omega)
theorem L_FormatOpsA {l:List OpV} {K:Txt→Prop} (hl:l.length<2^60) (hy:OpsP l 3→K (joinO l)) (hn:¬OpsP l 3→K []):Mi_FormatOps l K:=by
 by_cases h:OpsP l 3
 ·exact L_FormatOpsI h (hy h)
 ·exact L_opsOk (q:=3) rfl hl (br_t (by simp[h]) (hn h))
theorem joinO_snoc (l:List OpV) (o:OpV):joinO (l++[o])=if l=[]then fmtO o else(joinO l++cs2)++fmtO o:=by
 cases l with
 |nil=>simp[joinO,Lib.join_cons,Lib.joinTail]
 |cons x l=>
  rw[if_neg (by simp)]
  simp[joinO,Lib.join_cons,Lib.joinTail]
theorem L_FormatOpsE {l:List OpV} {K:Txt→Prop} (hl:l.length<2^60) (hy:OpsP l 3→K (joinO l)) (hn:¬OpsP l 3→K []):Ms_FormatOps l K:=by
 by_cases h12:l.length≤12
 ·refine LoopP_for (fun i st=>st=(l,joinO (l.take i),(i:Int))∧∀o∈l.take i,opOk o 3) l.length ⟨rfl,by simp⟩ ?_ ?_
  ·rintro i _ hi ⟨rfl,hok⟩ Kb hKb
   have hg:gO l (i:Int)=l[i]:=by rw[gO_nat,getD_lt hi]
   have htk:l.take (i+1)=l.take i++[l[i]]:=by rw[List.take_add_one,List.getElem?_eq_getElem hi];rfl
   have hsn:=joinO_snoc (l.take i) l[i]
   rw[←htk]at hsn
   have hjl:=joinO_len (l:=l.take i) ⟨hok,by simp;omega⟩
   have hfl:=fmt_len l[i]
   refine br_t (decide_eq_true (by show(i:Int)<len l;rw[len_eq];omega)) (br_t (decide_eq_true (by show len l≤12;rw[len_eq];omega)) ⟨⟨by show(0:Int)≤i;omega,by show(i:Int)<l.length;omega⟩, ?_⟩)
   dsimp only
   rw[hg]
   refine L_FormatOpE (fun ho=>br_f (beq_eq_false_iff_ne.2 fmt_ne) ?_) fun ho=>br_t rfl (hn fun q=>ho (q.ok _ (List.getElem_mem hi)))
   have ho:opOk l[i] 3:=ho
   have next:(∀o∈l.take (i+1),opOk o 3):=fun o hm=>by
    rw[htk]at hm
    rcases List.mem_append.1 hm with hm|hm
    ·exact hok o hm
    ·simp at hm;subst hm;exact ho
   refine br (fun e=>⟨by simp;omega,⟨by show(0:Int)≤i;omega,by show(i:Int)<l.length;omega⟩,L_FormatOpE (fun _=>⟨?_,hKb _ ⟨?_,next⟩⟩) fun q=>absurd ho q⟩) fun e=>⟨⟨by show(0:Int)≤i;omega,by show(i:Int)<l.length;omega⟩,L_FormatOpE (fun _=>⟨?_,hKb _ ⟨?_,next⟩⟩) fun q=>absurd ho q⟩
   ·show(joinO (l.take i)++[44,32]).length+(fmtO l[i]).length≤_
    simp;omega
   ·have e:=of_decide_eq_true e
    rw[hsn,if_neg (by
     intro q
     rcases List.take_eq_nil_iff.1 q with q|q
     ·omega
     ·subst q;simp at hi),iadd_nat (by omega)]
   ·show(joinO (l.take i)).length+(fmtO l[i]).length≤_
    omega
   ·have e:=of_decide_eq_false e
    have:i=0:=by omega
    subst this
    rw[hsn,if_pos (by simp),iadd_nat (by omega)]
    rfl
  ·rintro _ ⟨rfl,hok⟩ Kb
   refine br_f (decide_eq_false (by show ¬((l.length:Int)<len l);rw[len_eq];omega)) ?_
   show K (joinO (l.take l.length))
   rw[List.take_length]at hok⊢
   exact hy ⟨hok,h12⟩
 ·refine LoopP_for (fun i st=>st=(l,([]:Txt),(i:Int))) l.length rfl ?_ ?_
  ·rintro i _ hi rfl Kb hKb
   exact br_t (decide_eq_true (by show(i:Int)<len l;rw[len_eq];omega)) (br_f (decide_eq_false (by show ¬(len l≤12);rw[len_eq];omega)) (hn fun q=>h12 q.len))
  ·rintro _ rfl Kb
   exact br_f (decide_eq_false (by show ¬((l.length:Int)<len l);rw[len_eq];omega)) (hn fun q=>h12 q.len)
theorem head_ops {c:List Int} {K:Bool→Prop} {B:List OpV→Txt→Prop} (hc:∀x∈c,U8 x) (hK:K true) (h:∀l,OpsP l 3→l≠[]→B l (joinO l)):
  Ms_DrawFormatOps c fun y1=>Mi_FormatOps y1 fun y2=>Ms_FormatOps y1 fun y3=>((!(y2==y3))=true→(Ms_FormatOps y1 fun y4=>K (y2==y4)))∧((!(y2==y3))=false→((y2==([]:List UInt8))=true→(Ms_FormatOps y1 fun y5=>K (y2==y5)))∧((y2==([]:List UInt8))=false→B y1 y2)):=by
 refine L_DrawFormatOps hc fun l hl=>L_FormatOpsA (by omega) (fun h1=>L_FormatOpsE (by omega) (fun _=>br_f (by simp) (br (fun _=>L_FormatOpsE (by omega) (fun _=>by simpa using hK) fun q=>absurd h1 q) fun e=>h l h1 ?_)) fun q=>absurd h1 q) fun h1=>L_FormatOpsE (by omega) (fun q=>absurd q h1) fun _=>br_f (by simp) (br_t rfl (L_FormatOpsE (by omega) (fun q=>absurd q h1) fun _=>by simpa using hK))
 rintro rfl
 simp[joinO,Lib.join]at e
theorem L_new4 {K:Bool→List Int→List Int→List Int→List Int→Prop} (hK:K true (newB 4 3).s.h.l (newB 4 3).s.h.r (newB 4 3).s.h.ro (newB 4 3).s.free):Mi_NewStore 4 3 K:=L_NewStoreI (fun h=>absurd (by decide) h) fun _ _ _ _=>hK
theorem prog_line {s:ScV} {l:List OpV} (h3:s.b.s.h.ro.length=3) (hl:OpsP l 3):lineS s ([112,114,111,103,114,97,109,32]++joinO l)=(⟨setO s.b l 0,s.bar⟩,[111,107,10]):=by
 have e:[112,114,111,103,114,97,109,32]++joinO l=[112,114,111,103,114,97,109]++32::joinO l:=rfl
 have hex:∃l',isOps (joinO l) l'∧OpsP l' s.b.s.h.ro.length:=⟨l,⟨hl,rfl⟩,by rw[h3];exact hl⟩
 have hch:hex.choose=l:=ops_one hex.choose_spec.1 ⟨hl,rfl⟩
 rw[e,line_rest s (by decide)]
 unfold restS
 rw[if_neg (by decide),if_neg (by decide),if_pos rfl,dif_pos hex,hch]
 rfl
theorem run_word {s:ScV} {v:Txt} (h:v.length≤100∧schOk v):lineS s ([114,117,110,32]++v)=(⟨runB s.b s.bar v,s.bar⟩,bothS (runB s.b s.bar v)++[10]):=by
 have e:[114,117,110,32]++v=[114,117,110]++32::v:=rfl
 rw[e,line_rest s (by decide)]
 unfold restS
 rw[if_neg (by decide),if_neg (by decide),if_neg (by decide),if_pos rfl,if_pos h]
 rfl
theorem run_bad {s:ScV} {v:Txt} (h:¬(v.length≤100∧schOk v)):lineS s ([114,117,110,32]++v)=(s,[119,104,97,116,10]):=by
 have e:[114,117,110,32]++v=[114,117,110]++32::v:=rfl
 rw[e,line_rest s (by decide)]
 unfold restS
 rw[if_neg (by decide),if_neg (by decide),if_neg (by decide),if_pos rfl,if_neg h]
 rfl
theorem L_DrawRunBoth10 {c:List Int} {K:Int→Int→Int→Bool→List UInt8→Bool→List Int→List Int→List Int→List Int→List Int→List OpV→Prop} (hc:∀x∈c,U8 x)
  (hK:∀(x:BothV) (s:List UInt8) (bar:Bool),s.length≤25→(10:UInt8)∉s→K x.g.phase x.g.pos x.pos x.lost s bar x.s.h.l x.s.h.r x.s.h.ro x.s.free x.g.color x.ops):Ms_DrawRunBoth c K:=
 L_l13Open hc fun b h=>L_l7Draw (k:=30) (h.le (by omega)) fun x p' hx h=>L_l7Schedule (k:=5) h fun s p' hs hl h=>by
  have h10:(10:UInt8)∉s:=fun q=>by rcases hs 10 q with q|q<;>exact absurd q (by decide)
  exact L_pick (k:=4) h fun v _ _ h=>br (fun _=>⟨by simp;omega,L_pick (k:=3) h fun w _ _ h=>hK x _ _ (by simp;omega) (by simp[h10])⟩) fun _=>L_pick (k:=3) h fun w _ _ h=>hK x _ _ (by omega) h10
theorem law_FnScriptRun {c d:List Int} (hc:∀x∈c,U8 x) (hd:∀x∈d,U8 x) {K:Bool→Prop} (hK:K true):Ml_FnScriptRun c d K:=by
 refine br (fun _=>hK) fun _=>br (fun _=>hK) fun _=>L_DrawRunBoth10 hc fun x0 sched bar0 hsl hs10=>head_ops hd hK fun l hl hne=>L_new4 (L_iNewBoth hl.len b43.g.sv (fun _=> ?_) fun q=>absurd hl q)
 have hj:=joinO_len hl
 have hn:=joinO_no10 hl
 have h12:=hl.len
 have b1:=setO_ok b43 (o:=l) hl
 have hs:=split_lines (ls:=[[112,114,111,103,114,97,109,32]++joinO l,[114,117,110,32]++sched]) (by simp[hn,hs10])
 have es:(((([112,114,111,103,114,97,109,32]++joinO l)++[10,114,117,110,32])++sched)++[10])=[[112,114,111,103,114,97,109,32]++joinO l,[114,117,110,32]++sched].flatMap fun p=>p++[10]:=by simp
 have hr:∀p,lineS ⟨setO (newB 4 3) l 0,true⟩ ([114,117,110,32]++sched)=p→runS (((([112,114,111,103,114,97,109,32]++joinO l)++[10,114,117,110,32])++sched)++[10])=[111,107,10]++p.2:=by
  intro p hp
  rw[runS_short (by simp only[List.length_append,List.length_cons,List.length_nil];omega),es,hs]
  show runLs [[112,114,111,103,114,97,109,32]++joinO l,[114,117,110,32]++sched,[]] 0 _ []=_
  rw[run_line _ (by simp) (by decide) (by decide) (prog_line rfl hl),run_line _ (by simp) (by decide) (by simp) hp,run_end]
  rfl
 have lens:∀{R:Prop},R→(List.length [112,114,111,103,114,97,109,32]+List.length (joinO l)≤2^62)∧(List.length ([112,114,111,103,114,97,109,32]++joinO l)+List.length [10,114,117,110,32]≤2^62)∧(List.length (([112,114,111,103,114,97,109,32]++joinO l)++[10,114,117,110,32])+List.length sched≤2^62)∧(List.length ((([112,114,111,103,114,97,109,32]++joinO l)++[10,114,117,110,32])++sched)+List.length [(10:UInt8)]≤2^62)∧R:=fun h=>by
  simp only[List.length_append,List.length_cons,List.length_nil]
  exact⟨by omega,by omega,by omega,by omega,h⟩
 refine L_iRunBoth (by simp[newB,idI]) (by simp[newB]) (by omega) (fun q=> ?_) fun _ q1 q2=> ?_
 ·refine br_f rfl (lens (L_iRunScript (br_t rfl ?_)))
  rw[hr _ (run_bad fun h=>q ⟨b1,h⟩)]
  exact hK
 ·have b2:=runB_valid true sched b1
  have hb2:=bothS_le b2
  have hr2:=hr _ (run_word ⟨q1,q2⟩)
  dsimp only at hr2
  change KB _ (runB (setO (newB 4 3) l 0) true sched)
  generalize runB (setO (newB 4 3) l 0) true sched=b at b2 hb2 hr2⊢
  obtain⟨⟨⟨L,R,RO⟩,FR⟩,⟨PH,COL,A⟩,OPS,I,LOST⟩:=b
  refine br_f rfl (lens (L_iRunScript (br_f rfl (L_FormatBoth b2 ⟨by simp only[List.length_cons,List.length_nil];omega,by simp only[List.length_append,List.length_cons,List.length_nil];omega, ?_⟩))))
  rw[hr2]
  simp only[List.append_assoc,beq_self_eq_true]
  exact hK
end Go.Ab
