/- What is proved here: the plain laws that the law FnScriptPrefix needs: what its functions compute, and that its model returns true. Conditions: those written in each statement. -/
import Derived.Test.YtgnlgdebcgffnaaGreatDoorPAFnScriptPrefixP1
namespace Go.Ab
set_option linter.unusedVariables false
set_option linter.unusedSimpArgs false
abbrev Cp (L:List aV) (z:Int) (st:jR) (out:aV):aV×Int×Int×Int×Int×Bool×Bool×List aV×List Int×List Int×List Int×List Int×List Int×List aA:=
 KB (fun p a i lost l r ro fr c ops=>(out,z,p,a,i,lost,st.bar,L,l,r,ro,fr,c,ops)) st.b
abbrev F3 (L:List aV) (z at_:Int) (st:jR) (out:aV):aV×Int×Int×Int×Int×Int×Bool×Bool×List aV×List Int×List Int×List Int×List Int×List Int×List aA:=
 KB (fun p a i lost l r ro fr c ops=>(out,z,at_,p,a,i,lost,st.bar,L,l,r,ro,fr,c,ops)) st.b
theorem Hp {l:aV} {i:Nat}:(gC l (i:Int) !=32)= !decide (l.getD i 0=32):=by
 have:(gC l (i:Int)==32)=decide (l.getD i 0=32):=by rw[kS,Bool.eq_iff_iff,beq_iff_eq,decide_eq_true_eq];exact gq (c:=32)
 rw[←this];rfl
theorem wk {text:aV} {K:aV→Prop} (hK:K (nF text)):lv text K:=by
 unfold nF at hK
 refine br (fun e=> ?_) fun e=> ?_
 ·rw[if_pos (by have:=of_decide_eq_true e;simp only[aa]at this;omega)]at hK
  exact hK
 have e:=of_decide_eq_false e
 simp only[aa]at e
 rw[if_neg (by omega)]at hK
 refine sR (fun q=>absurd q (by decide)) fun _ _ _ _=>qx (c:=10) rfl (by omega) fun _=> ?_
 rw[nX]
 have hll:=qd (s:=text) (c:=10)
 have hlm:=xK (c:=10) 20000 text (by omega)
 have h0:=vQ (c:=4) (q:=3) (by decide) (by decide) (by decide) (by decide)
 have e43:kA (Int.toNat 4) (Int.toNat 3)=kA 4 3:=rfl
 rw[e43]
 generalize Lib.split text [10]=L at hK hll hlm⊢
 generalize kA 4 3=b0 at hK h0⊢
 refine af (fun j s=>∃(st:jR) (out:aV),cf st.b∧out.length≤42000∧dV (L.drop j) j st out=dV L 0 ⟨b0,true⟩ []∧s=Cp L (j:Int) st out) L.length ⟨⟨b0,true⟩,[],h0,by simp,rfl,rfl⟩ ?_ ?_
 ·rintro j _ hj ⟨st,out,hb,hout,hr,rfl⟩ Kb hKb
  have hx:L.getD j []∈L:=al [] hj
  have hxl:=hlm _ hx
  have hd:L.drop j=L.getD j []::L.drop (j+1):=by rw[List.drop_eq_getElem_cons hj,aw hj]
  rw[hd,dw]at hr
  have hgS:gS L (j:Int)=L.getD j []:=by simp[gS,EK.dflt]
  have hw:ah (j:Int) 1=((j+1:Nat):Int):=ai (by omega)
  have hin:aq (j:Int) L.length:=by rw[aj];exact hj
  have next:∀(st':jR) (o:aV),cf st'.b→o.length≤42000→dV (L.drop (j+1)) (j+1) st' o=dV L 0 ⟨b0,true⟩ []→Kb (Cp L (ah (j:Int) 1) st' o):=fun st' o h1 h2 h3=>hKb _ ⟨st',o,h1,h2,h3,congrArg (fun z=>Cp L z st' o) hw⟩
  refine ap (decide_eq_true (by show(j:Int)<len L;rw[aa];omega)) ⟨hin, ?_⟩
  dsimp only[KB,Cp]
  rw[hgS]
  generalize L.getD j []=x at hr hxl hgS⊢
  refine br (fun ex=> ?_) fun ex=> ?_
  ·rw[if_pos (beq_iff_eq.1 ex)]at hr
   exact next st out hb hout hr
  rw[if_neg (beq_eq_false_iff_ne.1 ex)]at hr
  refine br (fun e2=> ?_) fun e2=>br (fun e3=> ?_) fun e3=> ?_
  ·rw[if_pos (.inl (by have:=of_decide_eq_true e2;omega))]at hr
   exact⟨by simp only[List.length_cons,List.length_nil];omega,by have:out++[102,117,108,108,10]=_:=hr;rw[this];exact hK⟩
  ·rw[if_pos (.inr (by have:=of_decide_eq_true e3;simp only[aa]at this;omega))]at hr
   exact⟨by simp only[List.length_cons,List.length_nil];omega,by have:out++[102,117,108,108,10]=_:=hr;rw[this];exact hK⟩
  have e2:=of_decide_eq_false e2
  have e3:=of_decide_eq_false e3
  simp only[aa]at e3
  rw[if_neg (by omega)]at hr
  have hlo:=DX hb x
  have next2:∀(st':jR) (t:aV),gK st x=(st',t)→(out.length+t.length≤2^62)∧Kb (Cp L (ah (j:Int) 1) st' (out++t)):=fun st' t h1=>by
   rw[h1]at hlo hr
   simp only at hlo hr
   exact⟨by omega,next _ _ hlo.1 (by rw[List.length_append];omega) hr⟩
  obtain⟨n,hn,hpre,hend⟩:∃n:Nat,n≤x.length∧(∀k,k<n→x.getD k 0≠32)∧((n=x.length∧(32:UInt8)∉x)∨∃v,x=x.take n++32::v∧(32:UInt8)∉x.take n∧n<x.length):=by
   rcases m5 32 x with h|⟨u,v,rfl,h⟩
   ·exact⟨x.length,Nat.le_refl _,fun k hk q=>h (q▸al 0 hk), .inl ⟨rfl,h⟩⟩
   ·refine⟨u.length,by simp,fun k hk q=>h ?_, .inr ⟨v,by simp,by simpa using h,by simp⟩⟩
    rw[List.getD_eq_getElem?_getD,List.getElem?_append_left hk,←List.getD_eq_getElem?_getD]at q
    exact q▸al 0 hk
  refine af (fun k s=>s=F3 L (j:Int) (k:Int) st out) n rfl ?_ ?_
  ·rintro k _ hk rfl Kc hKc
   dsimp only[KB,F3]
   rw[hgS]
   refine⟨hin,ap (decide_eq_true (by show(k:Int)<len x;rw[aa];omega)) ⟨hin,by rw[aj];omega, ?_⟩⟩
   rw[Hp,decide_eq_false (hpre k hk)]
   exact ap rfl (hKc _ (congrArg (fun z=>F3 L (j:Int) z st out) (ai (by omega))))
  ·rintro _ rfl Kc
   have tail:(aq (j:Int) (List.length L))∧((((n:Int)==len x)=true→aq (j:Int) (List.length L)∧(KB (fun p a i lost l r ro fr c ops=>nB p a i lost st.bar x l r ro fr c ops fun y17 y18 y19 y20 y21 y22 y23 y24 y25 y26 y27=>(out.length+y21.length≤2^62)∧Kb (out++y21,ah (j:Int) 1,y17,y18,y19,y20,st.bar,L,y22,y23,y24,y25,y26,y27)) st.b))∧
     ((((n:Int)==len x)=false→aq (j:Int) (List.length L)∧((0:Int)≤0∧(0:Int)≤n∧(n:Int)≤len x)∧aq (j:Int) (List.length L)∧((0:Int)≤ah (n:Int) 1∧ah (n:Int) 1≤len x∧len x≤len x)∧
      (KB (fun p a i lost l r ro fr c ops=>jE p a i lost st.bar (sub x 0 (n:Int)) (sub x (ah (n:Int) 1) (len x)) l r ro fr c ops fun y29 y30 y31 y32 y33 y34 y35 y36 y37 y38 y39 y40=>(out.length+y34.length≤2^62)∧Kb (out++y34,ah (j:Int) 1,y29,y30,y31,y32,y33,L,y35,y36,y37,y38,y39,y40)) st.b)))):=by
    refine⟨hin, ?_⟩
    rcases hend with⟨rfl,h32⟩|⟨v,hv,h32,hlt⟩
    ·refine⟨fun _=>⟨hin,Hy hb ?_⟩,fun q=>absurd rfl (beq_eq_false_iff_ne.1 q)⟩
     have hl:=next2 _ _ (zQ st h32)
     have hbar:=(iy hb x).2
     dsimp only[Cp]at hl
     rw[hbar]at hl
     exact hl
    ·have hne:((n:Int)==len x)=false:=beq_eq_false_iff_ne.2 (by rw[aa];omega)
     rw[hne]
     have hw2:ah (n:Int) 1=((n+1:Nat):Int):=ai (by omega)
     have s1:sub x 0 (n:Int)=x.take n:=mZ x n
     have s2:sub x (ah (n:Int) 1) (len x)=v:=by
      have hl:(x.take n).length=n:=List.length_take_of_le hn
      have e:x.drop (n+1)=v:=by
       rw[hv]
       generalize x.take n=u at hl
       subst hl
       rw[List.drop_append]
       simp
      rw[hw2]
      simpa[sub,aa]using e
     refine⟨fun q=>(by cases q),fun _=>⟨hin,⟨Int.le_refl _,by omega,by rw[aa];omega⟩,hin,⟨by rw[hw2];omega,by rw[hw2,aa];omega,Int.le_refl _⟩, ?_⟩⟩
     rw[s1,s2]
     refine EI hb (by have:=congrArg List.length hv;simp at this;omega) ?_
     have hl:gK st x=_:=(congrArg (gK st) hv).trans (Dn st h32 v)
     exact next2 _ _ hl
   dsimp only[KB,F3]
   rw[hgS]
   refine⟨hin, ?_⟩
   rcases hend with⟨hn2,h32⟩|⟨v,hv,h32,hlt⟩
   ·refine ak (decide_eq_false (by show ¬((n:Int)<len x);rw[aa];omega)) ?_
    exact tail
   ·refine ap (decide_eq_true (by show(n:Int)<len x;rw[aa];omega)) ⟨hin,by rw[aj];omega, ?_⟩
    have h0:x.getD n 0=32:=by
     have hl:(x.take n).length=n:=List.length_take_of_le hn
     rw[hv]
     generalize x.take n=u at hl
     subst hl
     rw[List.getD_eq_getElem?_getD,List.getElem?_append_right (Nat.le_refl _),Nat.sub_self];rfl
    rw[Hp,decide_eq_true h0]
    refine ak rfl ?_
    exact tail
 ·rintro _ ⟨st,out,hb,hout,hr,rfl⟩ Kb
  refine ak (decide_eq_false (by show ¬((L.length:Int)<len L);rw[aa];omega)) ?_
  rw[List.drop_length,fR]at hr
  show K out
  rw[hr]
  exact hK
theorem pZ {c:UInt8}:∀(n:Nat) (u v:aV),u.length≤n→Lib.split (u++c::v) [c]=Lib.split u [c]++Lib.split v [c]
 |0,u,v,h=>by
  have:u=[]:=List.length_eq_zero_iff.1 (by omega)
  subst this
  rw[d9 (by simp),dF (c:=c) (u:=[]) (by simp)];rfl
 |n+1,u,v,h=>by
  rcases m5 c u with h1|⟨a,b,rfl,h1⟩
  ·rw[d9 h1,dF h1];rfl
  ·simp only[List.length_append,List.length_cons]at h
   have e:(a++c::b)++c::v=a++c::(b++c::v):=by simp
   rw[e,d9 h1,d9 h1,pZ n b v (by omega)];rfl
theorem qI:∀(L:List aV) (i:Nat) (s:jR) (out:aV),∃t,dV L i s out=out++t
 |[],i,s,out=>⟨[],by rw[fR,List.append_nil]⟩
 |x::L,i,s,out=>by
  rw[dw]
  split
  ·exact qI L _ _ _
  ·split
   ·exact⟨_,rfl⟩
   ·obtain⟨t,ht⟩:=qI L (i+1) (gK s x).1 (out++(gK s x).2)
    exact⟨_,by rw[ht,List.append_assoc]⟩
theorem pN:∀(L L2:List aV) (i:Nat) (s:jR) (out:aV),∃t,dV (L++L2) i s out=dV L i s out++t
 |[],L2,i,s,out=>by rw[List.nil_append,fR];exact qI L2 i s out
 |x::L,L2,i,s,out=>by
  rw[List.cons_append,dw,dw]
  split
  ·exact pN L L2 _ _ _
  ·split
   ·exact⟨[],by rw[List.append_nil]⟩
   ·exact pN L L2 _ _ _
theorem lJ:∀(L:List aV) (i:Nat) (s:jR) (out:aV),dV (L++[[]]) i s out=dV L i s out
 |[],i,s,out=>by rw[List.nil_append,dw,if_pos rfl,fR,fR]
 |x::L,i,s,out=>by
  rw[List.cons_append,dw,dw,lJ L,lJ L]
theorem Fs {u v:aV} (h:(u++10::v).length≤20000):∃t,nF (u++10::v)=nF u++t:=by
 have hu:u.length≤20000:=by simp only[List.length_append,List.length_cons]at h;omega
 rw[jm h,jm hu,pZ _ u v (Nat.le_refl _)]
 exact pN _ _ _ _ _
theorem FI {u:aV} (h:(u++[10]).length≤20000):nF (u++[10])=nF u:=by
 have hu:u.length≤20000:=by simp only[List.length_append,List.length_cons]at h;omega
 rw[jm h,jm hu,pZ _ u [] (Nat.le_refl _),dF (c:=10) (u:=[]) (by simp),lJ]
theorem Ja {l:aV} {i:Nat}:(gC l (i:Int)==10)=decide (l.getD i 0=10):=by
 rw[kS,Bool.eq_iff_iff,beq_iff_eq,decide_eq_true_eq];exact gq (c:=10)
theorem HK {l:aV} {i:Nat} (hi:i<l.length) (h:l.getD i 0=10):l=l.take i++10::l.drop (i+1):=by
 have e:l.drop i=10::l.drop (i+1):=by rw[List.drop_eq_getElem_cons hi,←aw (d:=0) hi,h]
 rw[←e,List.take_append_drop]
theorem ry {c:List Int} {K:aV→Prop} (hc:∀x∈c,U8 x) (hK:∀t:aV,t.length≤1000000→K t):ge c K:=by
 refine CD hc fun b h=>xp (k:=400) (h.le (by omega)) (by simp) fun n hn h=> ?_
 have hn:0≤n∧n≤12:=by simp at hn;omega
 obtain⟨m,rfl⟩:=Int.eq_ofNat_of_zero_le hn.1
 refine af (fun i s=>∃out p,s=(out,((m-i:Nat):Int),b,p)∧jN b p (400-30*i)∧out.length≤1000*i) m ⟨[],1,rfl,h,by simp⟩ ?_ ?_
 ·rintro i _ hi ⟨out,p,rfl,hr,ho⟩ Kb hKb
  have hw:b6 ((m-i:Nat):Int) 1=((m-(i+1):Nat):Int):=by rw[jx (by omega) (by omega)];omega
  have next:∀(o:aV) p',o.length≤out.length+1000→jN b p' (400-30*(i+1))→Kb (o,b6 ((m-i:Nat):Int) 1,b,p'):=fun o p' h1 h2=>hKb _ ⟨o,p',by rw[hw],h2,by omega⟩
  refine ap (decide_eq_true (by show((m-i:Nat):Int)>0;omega)) (od (k:=400-30*(i+1)+29) (hr.le (by omega)) fun v _ _ h=>br (fun _=>⟨by simp only[List.length_cons,List.length_nil];omega,IP (k:=400-30*(i+1)) (h.le (by omega)) fun x y z _ h=> ?_⟩) fun _=>br (fun _=>⟨by simp only[List.length_cons,List.length_nil];omega,wM (k:=400-30*(i+1)) (h.le (by omega)) fun s p' _ hs h=>⟨by simp only[List.length_append,List.length_cons,List.length_nil];omega,by simp only[List.length_append,List.length_cons,List.length_nil];omega,next _ _ (by simp only[List.length_append,List.length_cons,List.length_nil];omega) h⟩⟩) fun _=>br (fun _=>⟨by simp only[List.length_cons,List.length_nil];omega, ?_⟩) fun _=> ?_)
  ·have fin:∀w:aV,w.length≤12→((List.length (out++[100,111,32])+List.length w≤2^62)∧(List.length ((out++[100,111,32])++w)+List.length [(10:UInt8)]≤2^62)∧Kb ((((out++[100,111,32])++w)++[10]),b6 ((m-i:Nat):Int) 1,b,_)):=fun w hw=>⟨by simp only[List.length_append,List.length_cons,List.length_nil];omega,by simp only[List.length_append,List.length_cons,List.length_nil];omega,next _ _ (by simp only[List.length_append,List.length_cons,List.length_nil];omega) h⟩
   exact qV (fun _=>fin _ (Hf _)) fun _=>fin _ (by simp)
  ·have hq:∀{K:List aV→Prop},(∀q:List aV,1≤q.length→(∀s∈q,s.length≤500)→K q)→kW K:=fun hK=>hK _ (by decide) (by decide)
   refine hq fun q hq1 hq2=>Ha (k:=400-30*(i+1)) (h.le (by omega)) hq1 fun s hm h=> ?_
   have:=hq2 s hm
   exact⟨by simp only[List.length_append,List.length_cons,List.length_nil];omega,by simp only[List.length_append,List.length_cons,List.length_nil];omega,next _ _ (by simp only[List.length_append,List.length_cons,List.length_nil];omega) h⟩
  ·refine Ha (k:=400-30*(i+1)) (h.le (by omega)) (by decide) fun s hm h=> ?_
   have hs:s.length≤500:=by
    have key:∀s∈[[115,104,111,119],[115,116,111,114,101],[103,97,114,98,97,103,101],[108,101,97,107,101,100],[99,111,117,110,116,115],[111,114,100,101,114],[99,111,112,121],[102,105,110,105,115,104],[112,97,116,104,32,48],[112,97,116,104,32,49],[112,97,116,104,32,57],[98,97,114,114,105,101,114,32,111,110],[98,97,114,114,105,101,114,32,111,102,102],[98,97,114,114,105,101,114,32,120],[110,101,119,32,51,32,50],[110,101,119,32,57,32,49],[110,101,119,32,51],[112,114,111,103,114,97,109,32,110,101,119,32,53],[100,111,32,120],[119,104,97,116],([]:aV),[32,115,104,111,119],[114,117,110,32,120],[112,114,111,103,114,97,109,32]],s.length≤500:=by decide
    exact key s hm
   exact⟨by show out.length+s.length≤_;omega,by simp only[List.length_append,List.length_cons,List.length_nil];omega,next _ _ (by simp only[List.length_append,List.length_cons,List.length_nil];omega) h⟩
 ·rintro _ ⟨out,p,rfl,hr,ho⟩ Kb
  have ho:out.length≤12000:=by omega
  refine ak (decide_eq_false (by show ¬(((m-m:Nat):Int)>0);omega)) (od (k:=39) (hr.le (by omega)) fun v _ _ h=> ?_)
  have tail:∀(z:aV) (p':Int),z.length≤100000→jN b p' 30→(((len z)==0)=true→K z)∧(((len z)==0)=false→aS 2 b p' fun y47 y48=>((y47==0)=true→K z)∧((y47==0)=false→aS (len z) b y48 fun y49 y50=>((0:Int)≤0∧(0:Int)≤y49∧y49≤len z)∧
    dT [([]:List UInt8),[32],[10],[120],[48]] b y50 fun y51 y52=>(List.length (sub z 0 y49)+List.length y51≤2^62)∧aS 2 b y52 fun y53 y54=>((0:Int)≤ah y49 y53∧ah y49 y53≤len z∧len z≤len z)∧
    (List.length (sub z 0 y49++y51)+List.length (sub z (ah y49 y53) (len z))≤2^62)∧K ((sub z 0 y49++y51)++sub z (ah y49 y53) (len z)))):=by
   intro z p' hz h
   refine br (fun _=>hK _ (by omega)) fun e=>od (k:=29) h fun v _ _ h=>br (fun _=>hK _ (by omega)) fun _=>od (k:=28) h fun w w0 w1 h=> ?_
   have e:=beq_eq_false_iff_ne.1 e
   simp only[aa]at e w1
   have w1:=w1 (by omega)
   obtain⟨wn,rfl⟩:=Int.eq_ofNat_of_zero_le w0
   have hsub:∀(a b:Int),(sub z a b).length≤z.length:=fun a b=>by simp[sub];omega
   refine⟨⟨Int.le_refl _,w0,by rw[aa];omega⟩,Ha (k:=27) h (by decide) fun s hm h=> ?_⟩
   have hs:s.length≤1:=by
    have key:∀s∈[([]:List UInt8),[32],[10],[120],[48]],s.length≤1:=by decide
    exact key s hm
   have h1:=hsub 0 wn
   refine⟨by omega,od (k:=26) h fun x x0 x1 h=> ?_⟩
   have x1:=x1 (by decide)
   have hi:ah (wn:Int) x=wn+x:=bF (by omega) (by omega)
   have h2:=hsub (ah (wn:Int) x) (len z)
   exact⟨⟨by rw[hi];omega,by rw[hi,aa];omega,Int.le_refl _⟩,by rw[List.length_append];omega,hK _ (by rw[List.length_append,List.length_append];omega)⟩
  refine br (fun _=> ?_) fun _=>br (fun _=> ?_) fun _=>br (fun _=>br (fun e=> ?_) fun e=>tail out _ (by omega) (h.le (by omega))) fun _=>tail out _ (by omega) (h.le (by omega))
  ·refine af (fun i s=>∃o:aV,s=(o,(i:Int),b,p+1)∧o.length≤12000+5*i) 201 ⟨out,rfl,by omega⟩ ?_ ?_
   ·rintro i _ hi ⟨o,rfl,h1⟩ Kb hKb
    exact ap (decide_eq_true (by show(i:Int)≤200;omega)) ⟨by simp only[List.length_cons,List.length_nil];omega,hKb _ ⟨_,by rw[ai (by omega)],by simp only[List.length_append,List.length_cons,List.length_nil];omega⟩⟩
   ·rintro _ ⟨o,rfl,h1⟩ Kb
    exact ak (decide_eq_false (by show ¬(((201:Nat):Int)≤200);omega)) (tail o _ (by omega) (h.le (by omega)))
  ·refine cD (fun s:aV×List Int×Int=>∃o:aV,s=(o,b,p+1)∧o.length≤30000) (fun s=>30000-s.1.length) ?_ ⟨out,rfl,by omega⟩
   rintro _ ⟨o,rfl,h1⟩ Kb hKb
   refine br (fun e=> ?_) fun e=>tail o _ (by omega) (h.le (by omega))
   have e:=of_decide_eq_true e
   simp only[aa]at e
   exact⟨by simp only[List.length_cons,List.length_nil];omega,hKb _ ⟨_,rfl,by simp only[List.length_append,List.length_cons,List.length_nil];omega⟩ (by simp only[List.length_append,List.length_cons,List.length_nil];omega)⟩
  ·have e:=of_decide_eq_true e
   simp only[aa]at e
   have hi:b6 (len out) 1=((out.length-1:Nat):Int):=by rw[aa,jx (by omega) (by omega)];omega
   rw[hi]
   refine⟨⟨Int.le_refl _,by omega,by show((out.length-1:Nat):Int)≤len out;rw[aa];omega⟩,hK _ ?_⟩
   rw[mZ,List.length_take]
   show min (out.length-1) out.length≤_
   omega
theorem oo {c d:List Int} (hc:∀x∈c,U8 x) {K:Bool→Prop} (hK:K true):dN c d K:=by
 refine br (fun _=>hK) fun _=>br (fun _=>hK) fun _=>ry hc fun text ht=>o5 (wk (ak (by simp) ?_))
 refine af (fun i s=>∃(n:Int) (cut:Nat),s=(d,text,nF text,n,(cut:Int),(i:Int))∧0≤n∧n≤i∧cut≤i∧(cut=0∨(1≤cut∧text.getD (cut-1) 0=10))) text.length ⟨0,0,rfl,by omega,by omega,by omega, .inl rfl⟩ ?_ ?_
 ·rintro i _ hi ⟨n,cut,rfl,n0,n1,hcut,h10⟩ Kb hKb
  have hw:ah (i:Int) 1=((i+1:Nat):Int):=ai (by omega)
  have hwn:ah n 1=n+1:=bF (by omega) (by omega)
  refine ap (decide_eq_true (by show(i:Int)<len text;rw[aa];omega)) ⟨by rw[aj];exact hi, ?_⟩
  dsimp only
  rw[Ja]
  refine br (fun e=>⟨by decide,br (fun _=>hKb _ ⟨n+1,i+1,by rw[hw,hwn],by omega,by omega,by omega, .inr ⟨by omega,of_decide_eq_true e⟩⟩) fun _=>hKb _ ⟨n+1,cut,by rw[hw,hwn],by omega,by omega,by omega,h10⟩⟩) fun _=>hKb _ ⟨n,cut,by rw[hw],n0,by omega,by omega,h10⟩
 ·rintro _ ⟨n,cut,rfl,n0,n1,hcut,h10⟩ Kb
  refine ak (decide_eq_false (by show ¬((text.length:Int)<len text);rw[aa];omega)) ⟨⟨Int.le_refl _,by show(0:Int)≤cut;omega,by show(cut:Int)≤len text;rw[aa];omega⟩,o5 (br (fun _=>hK) fun e=> ?_)⟩
  have e:=of_decide_eq_false e
  simp only[aa]at e
  dsimp only
  have key:∃t,nF text=nF (sub text 0 (cut:Int))++t:=by
   rw[mZ]
   rcases h10 with rfl|⟨h1,h10⟩
   ·have:nF (text.take 0)=[]:=by
     rw[List.take_zero,jm (by simp),dF (c:=10) (u:=[]) (by simp),Gi]
    exact⟨nF text,by rw[this];rfl⟩
   ·have hca:=HK (i:=cut-1) (by omega) h10
    have e1:text.take cut=text.take (cut-1)++[10]:=by
     have:cut=cut-1+1:=by omega
     rw[this,List.take_add_one,List.getElem?_eq_getElem (by omega),←aw (d:=0) (by omega)]
     simp only[Nat.add_sub_cancel]
     rw[h10];rfl
    obtain⟨t,htt⟩:=Fs (u:=text.take (cut-1)) (v:=text.drop (cut-1+1)) (by rw[←hca];omega)
    rw[←hca]at htt
    rw[e1,FI (by rw[←e1];simp;omega)]
    exact⟨t,htt⟩
  obtain⟨t,htt⟩:=key
  generalize nF (sub text 0 (cut:Int))=y at htt⊢
  rw[htt]
  refine ap (decide_eq_true (by rw[aa,aa,List.length_append];omega)) ⟨⟨Int.le_refl _,by rw[aa];omega,by rw[aa,aa,List.length_append];omega⟩, ?_⟩
  rw[aa,mZ,List.take_left,beq_self_eq_true];exact hK
end Go.Ab
