/- What is proved here: the plain laws that the law FnEveryScript needs: what its functions compute, and that its model returns true. Conditions: those written in each statement. -/
import Derived.Test.YtgnlgdebcgffnaaGreatDoorPAFnEveryScriptP1
namespace Go.Ab
set_option linter.unusedVariables false
set_option linter.unusedSimpArgs false
abbrev F3 (L:List aV) (z at_:Int) (st:jR) (out:aV):aV×Int×Int×Int×Int×Int×Bool×Bool×List aV×List Int×List Int×List Int×List Int×List Int×List aA:=
 KB (fun p a i lost l r ro fr c ops=>(out,z,at_,p,a,i,lost,st.bar,L,l,r,ro,fr,c,ops)) st.b
theorem Hp {l:aV} {i:Nat}:(gC l (i:Int) !=32)= !decide (l.getD i 0=32):=by
 have:(gC l (i:Int)==32)=decide (l.getD i 0=32):=by rw[kS,Bool.eq_iff_iff,beq_iff_eq,decide_eq_true_eq];exact gq (c:=32)
 rw[←this];rfl
theorem wk {text:aV} {K:aV→Prop} (hK:K (nF text)):lv text K:=by
 unfold nF at hK
 refine br (fun e=> ?_) fun e=> ?_
 ·rw[if_pos (by have:=of_decide_eq_true e;simp only[aa]at this;omega)]at hK
  exact hK
 have e:=of_decide_eq_false e
 simp only[aa]at e
 rw[if_neg (by omega)]at hK
 refine sR (fun q=>absurd q (by decide)) fun _ _ _ _=>qx (c:=10) rfl (by omega) fun _=> ?_
 rw[nX]
 have hll:=qd (s:=text) (c:=10)
 have hlm:=xK (c:=10) 20000 text (by omega)
 have h0:=vQ (c:=4) (q:=3) (by decide) (by decide) (by decide) (by decide)
 have e43:kA (Int.toNat 4) (Int.toNat 3)=kA 4 3:=rfl
 rw[e43]
 generalize Lib.split text [10]=L at hK hll hlm⊢
 generalize kA 4 3=b0 at hK h0⊢
 refine af (fun j s=>∃(st:jR) (out:aV),cf st.b∧out.length≤42000∧dV (L.drop j) j st out=dV L 0 ⟨b0,true⟩ []∧s=Cp L (j:Int) st out) L.length ⟨⟨b0,true⟩,[],h0,by simp,rfl,rfl⟩ ?_ ?_
 ·rintro j _ hj ⟨st,out,hb,hout,hr,rfl⟩ Kb hKb
  have hx:L.getD j []∈L:=al [] hj
  have hxl:=hlm _ hx
  have hd:L.drop j=L.getD j []::L.drop (j+1):=by rw[List.drop_eq_getElem_cons hj,aw hj]
  rw[hd,dw]at hr
  have hgS:gS L (j:Int)=L.getD j []:=by simp[gS,EK.dflt]
  have hw:ah (j:Int) 1=((j+1:Nat):Int):=ai (by omega)
  have hin:aq (j:Int) L.length:=by rw[aj];exact hj
  have next:∀(st':jR) (o:aV),cf st'.b→o.length≤42000→dV (L.drop (j+1)) (j+1) st' o=dV L 0 ⟨b0,true⟩ []→Kb (Cp L (ah (j:Int) 1) st' o):=fun st' o h1 h2 h3=>hKb _ ⟨st',o,h1,h2,h3,congrArg (fun z=>Cp L z st' o) hw⟩
  refine ap (decide_eq_true (by show(j:Int)<len L;rw[aa];omega)) ⟨hin, ?_⟩
  dsimp only[KB,Cp]
  rw[hgS]
  generalize L.getD j []=x at hr hxl hgS⊢
  refine br (fun ex=> ?_) fun ex=> ?_
  ·rw[if_pos (beq_iff_eq.1 ex)]at hr
   exact next st out hb hout hr
  rw[if_neg (beq_eq_false_iff_ne.1 ex)]at hr
  refine br (fun e2=> ?_) fun e2=>br (fun e3=> ?_) fun e3=> ?_
  ·rw[if_pos (.inl (by have:=of_decide_eq_true e2;omega))]at hr
   exact⟨by simp only[List.length_cons,List.length_nil];omega,by have:out++[102,117,108,108,10]=_:=hr;rw[this];exact hK⟩
  ·rw[if_pos (.inr (by have:=of_decide_eq_true e3;simp only[aa]at this;omega))]at hr
   exact⟨by simp only[List.length_cons,List.length_nil];omega,by have:out++[102,117,108,108,10]=_:=hr;rw[this];exact hK⟩
  have e2:=of_decide_eq_false e2
  have e3:=of_decide_eq_false e3
  simp only[aa]at e3
  rw[if_neg (by omega)]at hr
  have hlo:=DX hb x
  have next2:∀(st':jR) (t:aV),gK st x=(st',t)→(out.length+t.length≤2^62)∧Kb (Cp L (ah (j:Int) 1) st' (out++t)):=fun st' t h1=>by
   rw[h1]at hlo hr
   simp only at hlo hr
   exact⟨by omega,next _ _ hlo.1 (by rw[List.length_append];omega) hr⟩
  obtain⟨n,hn,hpre,hend⟩:∃n:Nat,n≤x.length∧(∀k,k<n→x.getD k 0≠32)∧((n=x.length∧(32:UInt8)∉x)∨∃v,x=x.take n++32::v∧(32:UInt8)∉x.take n∧n<x.length):=by
   rcases m5 32 x with h|⟨u,v,rfl,h⟩
   ·exact⟨x.length,Nat.le_refl _,fun k hk q=>h (q▸al 0 hk), .inl ⟨rfl,h⟩⟩
   ·refine⟨u.length,by simp,fun k hk q=>h ?_, .inr ⟨v,by simp,by simpa using h,by simp⟩⟩
    rw[List.getD_eq_getElem?_getD,List.getElem?_append_left hk,←List.getD_eq_getElem?_getD]at q
    exact q▸al 0 hk
  refine af (fun k s=>s=F3 L (j:Int) (k:Int) st out) n rfl ?_ ?_
  ·rintro k _ hk rfl Kc hKc
   dsimp only[KB,F3]
   rw[hgS]
   refine⟨hin,ap (decide_eq_true (by show(k:Int)<len x;rw[aa];omega)) ⟨hin,by rw[aj];omega, ?_⟩⟩
   rw[Hp,decide_eq_false (hpre k hk)]
   exact ap rfl (hKc _ (congrArg (fun z=>F3 L (j:Int) z st out) (ai (by omega))))
  ·rintro _ rfl Kc
   have tail:(aq (j:Int) (List.length L))∧((((n:Int)==len x)=true→aq (j:Int) (List.length L)∧(KB (fun p a i lost l r ro fr c ops=>nB p a i lost st.bar x l r ro fr c ops fun y17 y18 y19 y20 y21 y22 y23 y24 y25 y26 y27=>(out.length+y21.length≤2^62)∧Kb (out++y21,ah (j:Int) 1,y17,y18,y19,y20,st.bar,L,y22,y23,y24,y25,y26,y27)) st.b))∧
     ((((n:Int)==len x)=false→aq (j:Int) (List.length L)∧((0:Int)≤0∧(0:Int)≤n∧(n:Int)≤len x)∧aq (j:Int) (List.length L)∧((0:Int)≤ah (n:Int) 1∧ah (n:Int) 1≤len x∧len x≤len x)∧
      (KB (fun p a i lost l r ro fr c ops=>jE p a i lost st.bar (sub x 0 (n:Int)) (sub x (ah (n:Int) 1) (len x)) l r ro fr c ops fun y29 y30 y31 y32 y33 y34 y35 y36 y37 y38 y39 y40=>(out.length+y34.length≤2^62)∧Kb (out++y34,ah (j:Int) 1,y29,y30,y31,y32,y33,L,y35,y36,y37,y38,y39,y40)) st.b)))):=by
    refine⟨hin, ?_⟩
    rcases hend with⟨rfl,h32⟩|⟨v,hv,h32,hlt⟩
    ·refine⟨fun _=>⟨hin,Hy hb ?_⟩,fun q=>absurd rfl (beq_eq_false_iff_ne.1 q)⟩
     have hl:=next2 _ _ (zQ st h32)
     have hbar:=(iy hb x).2
     dsimp only[Cp]at hl
     rw[hbar]at hl
     exact hl
    ·have hne:((n:Int)==len x)=false:=beq_eq_false_iff_ne.2 (by rw[aa];omega)
     rw[hne]
     have hw2:ah (n:Int) 1=((n+1:Nat):Int):=ai (by omega)
     have s1:sub x 0 (n:Int)=x.take n:=mZ x n
     have s2:sub x (ah (n:Int) 1) (len x)=v:=by
      have hl:(x.take n).length=n:=List.length_take_of_le hn
      have e:x.drop (n+1)=v:=by
       rw[hv]
       generalize x.take n=u at hl
       subst hl
       rw[List.drop_append]
       simp
      rw[hw2]
      simpa[sub,aa]using e
     refine⟨fun q=>(by cases q),fun _=>⟨hin,⟨Int.le_refl _,by omega,by rw[aa];omega⟩,hin,⟨by rw[hw2];omega,by rw[hw2,aa];omega,Int.le_refl _⟩, ?_⟩⟩
     rw[s1,s2]
     refine EI hb (by have:=congrArg List.length hv;simp at this;omega) ?_
     have hl:gK st x=_:=(congrArg (gK st) hv).trans (Dn st h32 v)
     exact next2 _ _ hl
   dsimp only[KB,F3]
   rw[hgS]
   refine⟨hin, ?_⟩
   rcases hend with⟨hn2,h32⟩|⟨v,hv,h32,hlt⟩
   ·refine ak (decide_eq_false (by show ¬((n:Int)<len x);rw[aa];omega)) ?_
    exact tail
   ·refine ap (decide_eq_true (by show(n:Int)<len x;rw[aa];omega)) ⟨hin,by rw[aj];omega, ?_⟩
    have h0:x.getD n 0=32:=by
     have hl:(x.take n).length=n:=List.length_take_of_le hn
     rw[hv]
     generalize x.take n=u at hl
     subst hl
     rw[List.getD_eq_getElem?_getD,List.getElem?_append_right (Nat.le_refl _),Nat.sub_self];rfl
    rw[Hp,decide_eq_true h0]
    refine ak rfl ?_
    exact tail
 ·rintro _ ⟨st,out,hb,hout,hr,rfl⟩ Kb
  refine ak (decide_eq_false (by show ¬((L.length:Int)<len L);rw[aa];omega)) ?_
  rw[List.drop_length,fR]at hr
  show K out
  rw[hr]
  exact hK
theorem pZ {c:UInt8}:∀(n:Nat) (u v:aV),u.length≤n→Lib.split (u++c::v) [c]=Lib.split u [c]++Lib.split v [c]
 |0,u,v,h=>by
  have:u=[]:=List.length_eq_zero_iff.1 (by omega)
  subst this
  rw[d9 (by simp),dF (c:=c) (u:=[]) (by simp)];rfl
 |n+1,u,v,h=>by
  rcases m5 c u with h1|⟨a,b,rfl,h1⟩
  ·rw[d9 h1,dF h1];rfl
  ·simp only[List.length_append,List.length_cons]at h
   have e:(a++c::b)++c::v=a++c::(b++c::v):=by simp
   rw[e,d9 h1,d9 h1,pZ n b v (by omega)];rfl
theorem qI:∀(L:List aV) (i:Nat) (s:jR) (out:aV),∃t,dV L i s out=out++t
 |[],i,s,out=>⟨[],by rw[fR,List.append_nil]⟩
 |x::L,i,s,out=>by
  rw[dw]
  split
  ·exact qI L _ _ _
  ·split
   ·exact⟨_,rfl⟩
   ·obtain⟨t,ht⟩:=qI L (i+1) (gK s x).1 (out++(gK s x).2)
    exact⟨_,by rw[ht,List.append_assoc]⟩
theorem pN:∀(L L2:List aV) (i:Nat) (s:jR) (out:aV),∃t,dV (L++L2) i s out=dV L i s out++t
 |[],L2,i,s,out=>by rw[List.nil_append,fR];exact qI L2 i s out
 |x::L,L2,i,s,out=>by
  rw[List.cons_append,dw,dw]
  split
  ·exact pN L L2 _ _ _
  ·split
   ·exact⟨[],by rw[List.append_nil]⟩
   ·exact pN L L2 _ _ _
theorem Fs {u v:aV} (h:(u++10::v).length≤20000):∃t,nF (u++10::v)=nF u++t:=by
 have hu:u.length≤20000:=by simp only[List.length_append,List.length_cons]at h;omega
 rw[jm h,jm hu,pZ _ u v (Nat.le_refl _)]
 exact pN _ _ _ _ _
theorem Ja {l:aV} {i:Nat}:(gC l (i:Int)==10)=decide (l.getD i 0=10):=by
 rw[kS,Bool.eq_iff_iff,beq_iff_eq,decide_eq_true_eq];exact gq (c:=10)
theorem HK {l:aV} {i:Nat} (hi:i<l.length) (h:l.getD i 0=10):l=l.take i++10::l.drop (i+1):=by
 have e:l.drop i=10::l.drop (i+1):=by rw[List.drop_eq_getElem_cons hi,←aw (d:=0) hi,h]
 rw[←e,List.take_append_drop]
theorem MY:nF [110,111,32,115,117,99,104,32,108,105,110,101,10]=[119,104,97,116,10]:=by
 have e:Lib.split [110,111,32,115,117,99,104,32,108,105,110,101,10] [10]=[[110,111,32,115,117,99,104,32,108,105,110,101],[]]:=DB (ls:=[[110,111,32,115,117,99,104,32,108,105,110,101]]) (by decide)
 rw[jm (by decide),e]
 have hl:gK ⟨kA 4 3,true⟩ [110,111,32,115,117,99,104,32,108,105,110,101]=(⟨kA 4 3,true⟩,[119,104,97,116,10]):=(Dn _ (u:=[110,111]) (by decide) [115,117,99,104,32,108,105,110,101]).trans (by
  unfold hY
  rw[if_neg (by decide),if_neg (by decide),if_neg (by decide),if_neg (by decide),if_neg (by decide),if_neg (by decide)];rfl)
 rw[L1 _ (by decide) (by decide) (by decide) hl,Gi];rfl
theorem B3 {text:aV} (ht:text.length<2^63) {K:Bool→Prop} (hK:K true):zs text K:=by
 refine o5 (wk (ak (by simp) ?_))
 refine af (fun i s=>∃n:Nat,s=(text,nF text,(n:Int),len text,(i:Int))∧n≤202) text.length ⟨0,rfl,by omega⟩ ?_ ?_
 ·rintro i _ hi ⟨n,rfl,hn⟩ Kb hKb
  have hw:ah (i:Int) 1=((i+1:Nat):Int):=(by rw[bF]<;>omega)
  have next:Kb (text,nF text,(n:Int),len text,ah (i:Int) 1):=hKb _ ⟨n,by rw[hw],hn⟩
  have hc:(gC text (i:Int) !=10)= !decide (text.getD i 0=10):=by rw[←Ja];rfl
  refine ap (decide_eq_true (by show(i:Int)<len text;rw[aa];omega)) ⟨by rw[aj];exact hi, ?_⟩
  dsimp only
  rw[hc]
  refine br (fun _=>next) fun e=>br (fun _=>next) fun e1=>br (fun _=>next) fun e2=>⟨⟨Int.le_refl _,by omega,by rw[aa];omega⟩,o5 ?_⟩
  have e:text.getD i 0=10:=of_decide_eq_true ((Bool.not_eq_false' _).mp e)
  have e1:=of_decide_eq_false e1
  have e2:=of_decide_eq_false e2
  simp only[aa]at e1
  have hcut:=HK hi e
  obtain⟨t,htt⟩:=Fs (u:=text.take i) (v:=text.drop (i+1)) (by rw[←hcut];omega)
  rw[←hcut]at htt
  rw[mZ]
  have hle:¬(len (nF (text.take i))>len (nF text)):=by rw[htt,aa,aa,List.length_append];omega
  have hpre:sub (nF text) 0 (len (nF (text.take i)))=nF (text.take i):=by rw[aa,mZ,htt,List.take_left]
  refine ak (decide_eq_false hle) ⟨⟨Int.le_refl _,by rw[aa];omega,by omega⟩, ?_⟩
  rw[hpre]
  exact ak (by simp) (hKb _ ⟨n+1,by rw[hw,ai (by omega)],by omega⟩)
 ·rintro _ ⟨n,rfl,hn⟩ Kb
  refine ak (decide_eq_false (by show ¬((text.length:Int)<len text);rw[aa];omega)) (o5 ?_)
  rw[MY];exact hK
end Go.Ab
