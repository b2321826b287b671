/- What is proved here: each operation, read over typed values, is an operation of the abstract machine (first part: loads, stores, indexes, arithmetic). -/
import Derived.Test.YtigomgblkieahaaGreatDoorT2
import Derived.Laws.Strings
namespace Go.Ab
set_option linter.unusedVariables false
set_option linter.unusedSimpArgs false
def TR.holds (r:TR) (K:TV→TMem→Prop):Prop:=
 match r with
 | .stuck=>False
 | .ok v tm=>K v tm
 | .chk p v tm=>p∧K v tm
 | .anyb p tm=>∀b,p b→K (.bool b) tm
def OpOk (P:Program) (fl:Nat) (o:Oper) (ρa:Operand→AVal) (c:Cfg) (A:Nat→Prop) (v:TV) (tm':TMem):Prop:=
 ∃a c',DOp P fl o ρa c.m a c'.m∧c'.tm=tm'∧RM c' A∧RV c' v a∧Stp c c' A
section ops
variable {P:Program} {fl:Nat} {o:Oper} {ρa:Operand→AVal} {c:Cfg} {A:Nat→Prop} {K:TV→TMem→Prop}
theorem ok_same (R:RM c A) {a:AVal} {v:TV} (h:aop P ρa c.m fl o.op=some (a,c.m)) (r:RV c v a):OpOk P fl o ρa c A v c.tm:=
 ⟨a,c,dop_of_aop h,rfl,R,r,Stp.refl _ _⟩
theorem setC_get {α:Type}:∀(vs l:List α) (o i:Nat),o+vs.length≤l.length→(setC l o vs)[i]? =if o≤i∧i<o+vs.length then vs[i-o]? else l[i]? :=by
 intro vs
 induction vs with
 |nil=>intro l o i _;rw[if_neg (by simp)];rfl
 |cons v vs ih=>
  intro l o i h
  simp only[List.length_cons]at h
  rw[setC,ih _ _ _ (by simp;omega)]
  by_cases h1:o+1≤i∧i<o+1+vs.length
  ·rw[if_pos h1,if_pos (by simp;omega)]
   rw[show i-o=(i-(o+1))+1 by omega];simp
  ·rw[if_neg h1]
   by_cases h2:i=o
   ·subst h2
    rw[if_pos (by simp),List.getElem?_set_self (by omega)];simp
   ·rw[if_neg (by simp;omega),List.getElem?_set_ne (fun e=>h2 e.symm)]
theorem setCells_eq:∀(vs l:List AVal) (o:Nat),setCells l o vs=setC l o vs:=by
 intro vs
 induction vs with
 |nil=>intro l o;rfl
 |cons v vs ih=>intro l o;rw[setCells,setC,ih]
theorem load_row {t:TypeId} {n q:Nat} {ts:List TV} {v:TV} (hn:n<c.m.size) (hm:(c.m.blk n).mode≠ .dead) (hq:ts≠[]→q+ts.length≤(c.m.blk n).cells.length)
  (hr:∀(i:Nat) t,ts[i]? =some t→∃a,(c.m.blk n).cells[q+i]? =some a∧RV c t a) (h:tload P t ts=some v):∃a,aload P c.m t (.ptr (some (n,q)))=some a∧RV c v a:=by
 unfold tload at h
 split at h
 ·rename_i s h1 h2
  cases hb:(Nat.ble s ts.length&&Nat.blt 0 s)with
  |false=>rw[hb]at h;cases h
  |true=>
   rw[hb]at h
   simp only[cond_true,Option.some.injEq]at h
   subst h
   rw[Bool.and_eq_true]at hb
   have h3:s≤ts.length:=Nat.le_of_ble_eq_true hb.1
   have h4:0<s:=Nat.le_of_ble_eq_true hb.2
   have hq':=hq (by rintro rfl;simp at h3;omega)
   have hal:alds c.m n q s=some (((c.m.blk n).cells.drop q).take s):=by
    unfold alds
    rw[if_pos ⟨hn,hm,by omega⟩]
   refine⟨.agg (((c.m.blk n).cells.drop q).take s), ?_, .agg _ _ ?_ fun i t a g1 g2=> ?_⟩
   ·simp only[aload,h1,h2,hal,Option.map_some]
   ·simp;omega
   ·rw[List.getElem?_take]at g1 g2
    split at g1
    ·rename_i hi
     rw[if_pos hi,List.getElem?_drop]at g2
     obtain⟨a',k1,k2⟩:=hr i t g1
     rw[k1]at g2;simp at g2;subst g2;exact k2
    ·cases g1
 ·rename_i h1
  obtain⟨a,g1,g2⟩:=hr 0 v h
  refine⟨a, ?_,g2⟩
  simp only[aload,h1]
  rw[Nat.add_zero]at g1
  cases tSize P t<;>simp[ald,hn,hm,g1]
 ·cases h
theorem rv_ptr {k q:Nat} {a:AVal} (r:RV c (.ptr k q) a):∃n p,k<c.tm.length∧c.E k=some (n,p)∧a= .ptr (some (n,p+q)):=by
 cases r with
 |ptr _ _ n p hk hE=>exact⟨n,p,hk,hE,rfl⟩
theorem rv_fptr {ts:List TV} {a:AVal} (r:RV c (.fptr ts) a):∃n p,c.F n∧p+ts.length≤(c.m.blk n).cells.length∧(∀(i:Nat) t,ts[i]? =some t→∃a,(c.m.blk n).cells[p+i]? =some a∧RV c t a)∧a= .ptr (some (n,p)):=by
 cases r with
 |fptr _ n p cs hF hp hc hr=>exact⟨n,p,hF,hp,fun i t ht=>⟨cs i,hc i (getElem?_lt ht),hr i t ht⟩,rfl⟩
theorem rv_eptr (R:RM c A) {k:Nat} {i:Int} {j w:Nat} {b:Bool} {e:EK} {l:List e.T} {a:AVal} (h:c.tm[k]? =some ⟨b, .list e l⟩) (r:RV c (.eptr k i j) a):
  ∃n p,c.E k=some (n,p)∧0≤i∧i<l.length∧a= .ptr (some (n,p+i.toNat*e.es+j)):=by
 cases r with
 |eptrD _ _ _ b' h' hd=>rw[h]at h';simp at h';subst h';cases hd
 |eptr _ _ _ b' e' len n p h' hs hE h0 h1=>
  rw[h]at h';simp at h';subst h'
  simp[TK.shape]at hs
  obtain⟨rfl,rfl⟩:=hs
  exact⟨n,p,hE,h0,h1,rfl⟩
theorem getD_some {α:Type} {l:List α} {i:Int} {d:α} (h0:0≤i) (h1:i<l.length):l[i.toNat]? =some (l.getD i.toNat d):=by
 have:i.toNat<l.length:=by omega
 rw[List.getD_eq_getElem?_getD,List.getElem?_eq_getElem this];rfl
theorem ok_load (R:RM c A) {t:TypeId} {x:TV} {a:AVal} (hx:RV c x a) (h:(tloadAt P t x c.tm).holds K):∃v,K v c.tm∧∃b,aload P c.m t a=some b∧RV c v b:=by
 have opt:∀{q:Option TV},(optR q c.tm).holds K→∃v,q=some v∧K v c.tm:=by
  intro q hq
  cases q with
  |none=>exact hq.elim
  |some v=>exact⟨v,rfl,hq⟩
 cases x with
 |ptr k q=>
  simp only[tloadAt]at h
  obtain⟨n,p,hk,hE,rfl⟩:=rv_ptr hx
  split at h
  ·rename_i w l hb
   obtain⟨v,h1,h2⟩:=opt h
   obtain⟨n',p',g1,g2,g3,_,g5,g6⟩:=R.cells k _ l hb
   rw[hE]at g1;simp at g1;obtain⟨rfl,rfl⟩:=g1
   refine⟨v,h2,load_row g2 g3 (fun hne=> ?_) (fun i t' ht=> ?_) h1⟩
   ·have hlt:q<l.length:=by
     rcases Nat.lt_or_ge q l.length with h|h
     ·exact h
     ·exact absurd (List.drop_eq_nil_of_le h) hne
    simp;omega
   ·rw[List.getElem?_drop]at ht
    obtain⟨b,k1,k2⟩:=g6 _ _ ht
    exact⟨b,by rw[Nat.add_assoc];exact k1,k2⟩
  ·exact h.elim
 |eptr k i j=>
  simp only[tloadAt]at h
  split at h
  ·rename_i w e l hb
   obtain⟨v,h1,h2⟩:=opt h
   obtain⟨n,p,hE,h0,hi,rfl⟩:=rv_eptr (w:=0) R hb hx
   rcases R.list k _ e l hb with⟨g1,_⟩|⟨n',p',g1,g2,g3,_,g5,g6⟩
   ·rw[hE]at g1;cases g1
   rw[hE]at g1;simp at g1;obtain⟨rfl,rfl⟩:=g1
   have hx:=getD_some (l:=l) (d:=e.dflt) h0 hi
   have hlen:=enc_length e (l.getD i.toNat e.dflt)
   refine⟨v,h2,load_row g2 g3 (fun hne=> ?_) (fun q t' ht=> ?_) h1⟩
   ·have hlt:j<(enc e (l.getD i.toNat e.dflt)).length:=by
     rcases Nat.lt_or_ge j (enc e (l.getD i.toNat e.dflt)).length with h|h
     ·exact h
     ·exact absurd (List.drop_eq_nil_of_le h) hne
    have h3:(i.toNat+1)*e.es≤l.length*e.es:=Nat.mul_le_mul_right _ (by omega)
    rw[Nat.add_mul]at h3
    rw[List.length_drop,hlen]
    rw[hlen]at hlt
    omega
   ·rw[List.getElem?_drop]at ht
    obtain⟨b,k1,k2⟩:=g6 _ _ _ _ hx ht
    exact⟨b,by rw[←k1];congr 1;omega,k2⟩
  ·exact h.elim
 |fptr cs=>
  simp only[tloadAt]at h
  obtain⟨v,h1,h2⟩:=opt h
  obtain⟨n,p,hF,hp,hr,rfl⟩:=rv_fptr hx
  obtain⟨g1,g2⟩:=R.fz n hF
  exact⟨v,h2,load_row g1 (by rw[g2];simp) (fun _=>hp) hr h1⟩
 |_=>exact h.elim
theorem nrmB_length (l:List TV):(nrmB l).length=l.length:=by unfold nrmB;cases l.any isSlf<;>simp
theorem nrmB_get {l:List TV} {i:Nat} {t:TV} (h:(nrmB l)[i]? =some t):∃u,l[i]? =some u∧∀(c:Cfg) (a:AVal),RV c u a→RV c t a:=by
 unfold nrmB at h
 cases hb:l.any isSlf with
 |false=>rw[hb]at h;exact⟨t,h,fun _ _ r=>r⟩
 |true=>
  rw[hb]at h
  simp only[cond_true,List.getElem?_map]at h
  obtain⟨u,h1,rfl⟩:=Option.map_eq_some_iff.1 h
  exact⟨u,h1,fun _ _ r=>r.toBl⟩
theorem ok_store (hA:∀n,A n→fl≤n) (R:RM c A) {t:TypeId} {x y:TV} {a b:AVal} (hx:RV c x a) (hy:RV c y b) (h:(tstoreAt P t x y c.tm).holds K):∃v tm',K v tm'∧v= .tup []∧∃c',astore P fl c.m t a b=some c'.m∧c'.tm=tm'∧RM c' A∧Stp c c' A:=by
 unfold tstoreAt at h
 split at h
 case h_2=>exact h.elim
 rename_i vs s hc hs
 obtain⟨hl,hfit⟩:=hy.cells hc
 cases hb:(Nat.beq vs.length s&&vs.all oneT)with
 |false=>rw[hb]at h;exact h.elim
 |true=>
 rw[hb]at h
 simp only[cond_true]at h
 rw[Bool.and_eq_true]at hb
 have hvs:vs.length=s:=Nat.eq_of_beq_eq_true hb.1
 have hone:=hl.all_one hb.2
 have hbl:b.cells.length=s:=by rw[←hl.1,hvs]
 rw[hvs]at hfit
 cases x with
 |ptr k q=>
  simp only at h
  obtain⟨n,p,hk,hE,rfl⟩:=rv_ptr hx
  split at h
  ·rename_i l hb2
   cases hle:Nat.ble (q+s) l.length with
   |false=>rw[hle]at h;exact h.elim
   |true=>
   rw[hle]at h
   simp only[cond_true]at h
   have hle':=Nat.le_of_ble_eq_true hle
   obtain⟨n',p',g1,g2,g3,g4,g5,g6⟩:=R.cells k _ l hb2
   rw[hE]at g1;simp at g1;obtain⟨rfl,rfl⟩:=g1
   obtain⟨hrw,hAn⟩:=g4 rfl
   have hU:=upd_ok (n:=n) (tk':= .cells (nrmB (setC l q vs))) (cs:=setCells (c.m.blk n).cells (p+q) b.cells) R hb2 (.inl ⟨l,rfl⟩) hE rfl (by simp) (fun l' e=>by
    simp at e
    subst e
    refine⟨by rw[nrmB_length,setC_length,setCells_length];exact g5,fun i t ht=> ?_⟩
    obtain⟨t0,ht,up⟩:=nrmB_get ht
    suffices hg:∃a,(setCells (c.m.blk n).cells (p+q) b.cells)[p+i]? =some a∧RV c t0 a from let ⟨a,q1,q2⟩:=hg;⟨a,q1,up c a q2⟩
    rw[setC_get _ _ _ _ (by omega)]at ht
    rw[setCells_eq,setC_get _ _ _ _ (by omega)]
    split at ht
    ·rename_i hi
     rw[if_pos (by omega),show p+i-(p+q)=i-q by omega]
     exact hl.get ht
    ·rename_i hi
     rw[if_neg (by omega)]
     exact g6 i t0 ht) (fun e l' h=>by cases h)
   refine⟨_,_,h,rfl,_, ?_,rfl,hU.1,hU.2⟩
   simp only[astore,hs,hfit,if_true]
   unfold asts
   rw[if_pos ⟨hA n hAn,g2,hrw,by omega,hone⟩]
   rfl
  ·exact h.elim
 |eptr k i j=>
  simp only at h
  split at h
  ·rename_i e l hb2
   cases hle:Nat.ble (j+s) e.es with
   |false=>rw[hle]at h;exact h.elim
   |true=>
   rw[hle]at h
   simp only[cond_true]at h
   have hle':=Nat.le_of_ble_eq_true hle
   split at h
   ·rename_i v hdec
    obtain⟨n,p,hE,h0,hi,rfl⟩:=rv_eptr (w:=0) R hb2 hx
    rcases R.list k _ e l hb2 with⟨g1,_⟩|⟨n',p',g1,g2,g3,g4,g5,g6⟩
    ·rw[hE]at g1;cases g1
    rw[hE]at g1;simp at g1;obtain⟨rfl,rfl⟩:=g1
    obtain⟨hrw,hAn⟩:=g4 rfl
    have hit:i.toNat<l.length:=by omega
    have hge:=getD_some (l:=l) (d:=e.dflt) h0 hi
    have hlen:=enc_length e (l.getD i.toNat e.dflt)
    have hmul:i.toNat*e.es+e.es≤l.length*e.es:=by
     have:=Nat.mul_le_mul_right e.es (show i.toNat+1≤l.length by omega)
     rw[Nat.add_mul]at this;omega
    have hU:=upd_ok (n:=n) (tk':= .list e (l.set i.toNat v)) (cs:=setCells (c.m.blk n).cells (p+i.toNat*e.es+j) b.cells) R hb2 (.inr ⟨e,l,rfl⟩) hE (by simp[TK.shape]) (by simp) (fun l' h=>by cases h) (fun e' l' heq=>by
     simp at heq
     obtain⟨rfl,heq⟩:=heq
     simp at heq
     subst heq
     refine⟨by rw[setCells_length];simpa using g5,fun i2 x2 j2 t h1 h2=> ?_⟩
     have hj2:j2<e.es:=by rw[←enc_length e x2];exact getElem?_lt h2
     by_cases hii:i2=i.toNat
     ·subst hii
      rw[List.getElem?_set_self hit]at h1
      simp at h1
      subst h1
      have hrow:LV c (setC (enc e (l.getD i.toNat e.dflt)) j vs) (((setCells (c.m.blk n).cells (p+i.toNat*e.es+j) b.cells).drop (p+i.toNat*e.es)).take e.es):=by
       refine⟨by rw[setC_length,hlen];simp[setCells_length];omega,fun q t a q1 q2=> ?_⟩
       have hq:q<e.es:=by rw[←hlen,←setC_length vs _ j];exact getElem?_lt q1
       rw[List.getElem?_take,if_pos hq,List.getElem?_drop,setCells_eq,setC_get _ _ _ _ (by omega)]at q2
       rw[setC_get _ _ _ _ (by omega)]at q1
       split at q1
       ·rename_i hc2
        rw[if_pos (by omega),show p+i.toNat*e.es+q-(p+i.toNat*e.es+j)=q-j by omega]at q2
        exact hl.2 _ _ _ q1 q2
       ·rename_i hc2
        rw[if_neg (by omega)]at q2
        obtain⟨a',r1,r2⟩:=g6 _ _ _ _ hge q1
        rw[r1]at q2;simp at q2;subst q2;exact r2
      obtain⟨a,r1,r2⟩:=(dec_lv hdec hrow).get h2
      rw[List.getElem?_take,if_pos hj2,List.getElem?_drop]at r1
      exact⟨a,r1,r2⟩
     ·rw[List.getElem?_set_ne (fun q=>hii q.symm)]at h1
      obtain⟨a,r1,r2⟩:=g6 _ _ _ _ h1 h2
      have hi2:i2<l.length:=getElem?_lt h1
      have hout:¬(p+i.toNat*e.es+j≤p+i2*e.es+j2∧p+i2*e.es+j2<p+i.toNat*e.es+j+b.cells.length):=by
       rcases Nat.lt_or_ge i2 i.toNat with hlt|hge2
       ·have:=Nat.mul_le_mul_right e.es (show i2+1≤i.toNat by omega)
        rw[Nat.add_mul]at this;omega
       ·have:=Nat.mul_le_mul_right e.es (show i.toNat+1≤i2 by omega)
        rw[Nat.add_mul]at this;omega
      rw[setCells_eq,setC_get _ _ _ _ (by omega),if_neg hout]
      exact⟨a,r1,r2⟩)
    refine⟨_,_,h,rfl,_, ?_,rfl,hU.1,hU.2⟩
    simp only[astore,hs,hfit,if_true]
    unfold asts
    rw[if_pos ⟨hA n hAn,g2,hrw,by omega,hone⟩]
    rfl
   ·exact h.elim
  ·exact h.elim
 |_=>exact h.elim
theorem ekS_spec {t:TypeId} {k:EK} (h:ekS P t=some k):∃e,tElem P t=some e∧tSize P e=some k.es:=by
 unfold ekS at h
 split at h
 ·rename_i e he
  split at h
  ·rename_i k' s h1 h2
   cases hb:Nat.beq s k'.es with
   |false=>rw[hb]at h;cases h
   |true=>
    rw[hb]at h
    simp at h
    subst h
    exact⟨e,he,by rw[h2,Nat.eq_of_beq_eq_true hb]⟩
  ·cases h
 ·cases h
theorem ekS_bind {t:TypeId} {k:EK} (h:ekS P t=some k):(tElem P t).bind (tSize P)=some k.es:=by
 obtain⟨e,h1,h2⟩:=ekS_spec h
 simp[h1,h2]
theorem rv_sl {k:Nat} {b:Bool} {e:EK} {l:List e.T} {a:AVal} (h:c.tm[k]? =some ⟨b, .list e l⟩) (r:RV c (.sl k) a):
  (∃n p cap,c.E k=some (n,p)∧a= .sl n p l.length cap e.es)∨(c.E k=none∧l=[]∧NzA c e.es a):=by
 cases r with
 |slD _ b' h' hd=>rw[h]at h';simp at h';subst h';cases hd
 |sl _ b' e' len n p cap h' hs hE=>
  rw[h]at h';simp at h';subst h'
  simp[TK.shape]at hs
  obtain⟨rfl,rfl⟩:=hs
  exact .inl ⟨n,p,cap,hE,rfl⟩
 |slV _ b' e' _ h' hs hE ha=>
  rw[h]at h';simp at h';subst h'
  simp[TK.shape]at hs
  obtain⟨rfl,hs⟩:=hs
  exact .inr ⟨hE,hs,ha⟩
theorem rv_pl {e:EK} {l:List e.T} {a:AVal} (r:RV c (.pl e l) a):(l=[]∧EmpA e.es a)∨∃n p cap,c.F n∧p+l.length*e.es≤(c.m.blk n).cells.length∧a= .sl n p l.length cap e.es∧
  ∀(i:Nat) x (j:Nat) t,l[i]? =some x→(enc e x)[j]? =some t→∃a,(c.m.blk n).cells[p+i*e.es+j]? =some a∧RV c t a:=by
 cases r with
 |plE _ _ ha=>exact .inl ⟨rfl,ha⟩
 |pl _ _ n p cap cs hF hp hc hr=>
  refine .inr ⟨n,p,cap,hF,hp,rfl,fun i x j t h1 h2=>⟨_, ?_,hr i x j t h1 h2⟩⟩
  have hi:=getElem?_lt h1
  have hj:j<e.es:=by rw[←enc_length e x];exact getElem?_lt h2
  have:=Nat.mul_le_mul_right e.es (show i+1≤l.length by omega)
  rw[Nat.add_mul]at this
  rw[Nat.add_assoc]
  exact hc _ (by omega)
theorem strsOf_eq:∀{cs:List TV} {l:List (List UInt8)},strsOf cs=some l→cs=l.map .str
 |[],l,h=>by simp[strsOf]at h;subst h;rfl
 | .str s::r,l,h=>by
  simp only[strsOf,Option.map_eq_some_iff]at h
  obtain⟨q,h1,rfl⟩:=h
  rw[strsOf_eq h1];rfl
 | .bool _::_,_,h=>by simp[strsOf]at h
 | .int _ _::_,_,h=>by simp[strsOf]at h
 | .any::_,_,h=>by simp[strsOf]at h
 | .tt::_,_,h=>by simp[strsOf]at h
 | .ff::_,_,h=>by simp[strsOf]at h
 | .nilp::_,_,h=>by simp[strsOf]at h
 | .nilfn::_,_,h=>by simp[strsOf]at h
 | .nili::_,_,h=>by simp[strsOf]at h
 | .nilm::_,_,h=>by simp[strsOf]at h
 | .nil::_,_,h=>by simp[strsOf]at h
 | .nz _::_,_,h=>by simp[strsOf]at h
 | .ptr _ _::_,_,h=>by simp[strsOf]at h
 | .sl _::_,_,h=>by simp[strsOf]at h
 | .pl _ _::_,_,h=>by simp[strsOf]at h
 | .eptr _ _ _::_,_,h=>by simp[strsOf]at h
 | .sv _ _ _::_,_,h=>by simp[strsOf]at h
 | .fptr _::_,_,h=>by simp[strsOf]at h
 | .agg _::_,_,h=>by simp[strsOf]at h
 | .tup _::_,_,h=>by simp[strsOf]at h
 | .mp _::_,_,h=>by simp[strsOf]at h
 | .slf _ _ _::_,_,h=>by simp[strsOf]at h
 | .sb _::_,_,h=>by simp[strsOf]at h
 | .er _::_,_,h=>by simp[strsOf]at h
 | .fn _ _ _::_,_,h=>by simp[strsOf]at h
theorem ok_indexAddr (R:RM c A) {t:TypeId} {x y:TV} {a b:AVal} (hx:RV c x a) (hy:RV c y b) (h:(tindexAt P t x y c.tm).holds K):∃v,K v c.tm∧∃q,aindexAddr P t a b=some q∧RV c v q:=by
 unfold tindexAt at h
 cases hes:ekS P t with
 |none=>
   rw[hes]at h
   cases y with
   |int kk i=>
    cases x with
    |fptr cs=>
     simp only at h
     cases hy
     split at h
     case h_2=>exact h.elim
     rename_i n e l hta hst
     cases hb:(Nat.beq ((tSize P e).getD 0) 1&&Nat.beq n l.length)with
     |false=>rw[hb]at h;exact h.elim
     |true=>
     rw[hb]at h
     rw[Bool.and_eq_true]at hb
     obtain⟨⟨h0,h1⟩,hK⟩:=h
     have hn:=Nat.eq_of_beq_eq_true hb.2
     have hsz:tSize P e=some 1:=by
      have:=Nat.eq_of_beq_eq_true hb.1
      cases hq:tSize P e with
      |none=>rw[hq]at this;cases this
      |some z=>rw[hq]at this;simp at this;rw[this]
     obtain⟨bn,p,hF,hp,hr,rfl⟩:=rv_fptr hx
     have hcs:=strsOf_eq hst
     have hcl:cs.length=l.length:=by rw[hcs];simp
     have hi:i.toNat<l.length:=by omega
     refine⟨_,hK, .ptr (some (bn,p+i.toNat*1)), ?_, ?_⟩
     ·simp only[aindexAddr,intVal,hta,hsz,h0,true_and]
      rw[if_pos (by omega)]
     ·obtain⟨a,g1,g2⟩:=hr i.toNat (.str (l.getD i.toNat [])) (by rw[hcs,List.getElem?_map,List.getElem?_eq_getElem hi];simp[List.getD_eq_getElem?_getD,hi])
      rw[Nat.mul_one]
      exact .fptr _ bn (p+i.toNat) (fun _=>a) hF (by simp;omega) (fun j hj=>by
       have:j=0:=by simpa using hj
       subst this;rw[Nat.add_zero];exact g1) (fun j t ht=>by
       have:j=0:=by have:=getElem?_lt ht;simpa using this
       subst this;simp at ht;subst ht;exact g2)
    |_=>exact h.elim
   |_=>cases x<;>exact h.elim
 |some e'=>
 rw[hes]at h
 cases y with
 |int kk i=>
  cases x with
  |sl k=>
   simp only at h
   cases hy
   split at h
   ·rename_i w e l hb
    cases hbe:Nat.beq e'.es e.es with
    |false=>rw[hbe]at h;exact h.elim
    |true=>
    rw[hbe]at h
    obtain⟨⟨h0,h1⟩,hK⟩:=h
    have hee:=Nat.eq_of_beq_eq_true hbe
    rcases rv_sl hb hx with⟨n,p,cap,hE,rfl⟩|⟨_,rfl,_⟩
    ·refine⟨_,hK,_, ?_, .eptr k i 0 _ e l.length n p hb rfl hE h0 h1⟩
     simp only[aindexAddr,intVal,ekS_bind hes,hee,h0,h1,and_self,if_true,Nat.add_zero]
    ·simp at h1;omega
   ·exact h.elim
  |pl e l=>
   simp only at h
   cases hy
   cases hbe:Nat.beq e'.es e.es with
   |false=>rw[hbe]at h;exact h.elim
   |true=>
   rw[hbe]at h
   obtain⟨⟨h0,h1⟩,hK⟩:=h
   have hee:=Nat.eq_of_beq_eq_true hbe
   rcases rv_pl hx with⟨rfl,_⟩|⟨n,p,cap,hF,hp,rfl,hr⟩
   ·simp at h1;omega
   ·refine⟨_,hK, .ptr (some (n,p+i.toNat*e.es)), ?_, ?_⟩
    ·simp only[aindexAddr,intVal,ekS_bind hes,hee,h0,h1,and_self,if_true]
    ·have hge:=getD_some (l:=l) (d:=e.dflt) h0 h1
     have hlen:=enc_length e (l.getD i.toNat e.dflt)
     have hmul:i.toNat*e.es+e.es≤l.length*e.es:=by
      have:=Nat.mul_le_mul_right e.es (show i.toNat+1≤l.length by omega)
      rw[Nat.add_mul]at this;omega
     have hget:∀(j:Nat) t,(enc e (l.getD i.toNat e.dflt))[j]? =some t→∃a,(c.m.blk n).cells[p+i.toNat*e.es+j]? =some a∧RV c t a:=fun j t ht=>hr _ _ _ _ hge ht
     refine .fptr _ n _ (fun j=>((c.m.blk n).cells[p+i.toNat*e.es+j]?).getD .any) hF (by omega) (fun j hj=> ?_) (fun j t ht=> ?_)
     ·obtain⟨a,g1,_⟩:=hget j _ (List.getElem?_eq_getElem hj)
      rw[g1];rfl
     ·obtain⟨a,g1,g2⟩:=hget j t ht
      simp only[g1,Option.getD_some];exact g2
  |_=>exact h.elim
 |_=>cases x<;>exact h.elim
theorem bq_eq {k k':IntKind} (h:IntKind.bq k k'=true):k=k':=by cases k<;>cases k'<;>first|rfl|(simp[IntKind.bq]at h)
theorem str_list (l:List UInt8):(⟨l.toArray⟩:ByteArray).toList=l:=by rw[ByteArray.toList_eq]
theorem str_append (a b:List UInt8):(⟨a.toArray⟩:ByteArray)++⟨b.toArray⟩=⟨(a++b).toArray⟩:=by
 apply ByteArray.ext
 simp
theorem nilT_ok {x:TV} {a:AVal} {n:Nat} {t:TypeId} (hx:RV c x a) (_:tKd P t=some .slice) (h:nilT c.tm x=some n):∃q:Bool,((q=true∧a= .nilSl)∨(q=false∧(a= .emptySl∨∃m o l cap es,a= .sl m o l cap es)))∧(n≠0→q=false):=by
 have nz:∀{es:Nat},NzA c es a→n=0→∃q:Bool,((q=true∧a= .nilSl)∨(q=false∧(a= .emptySl∨∃m o l cap es,a= .sl m o l cap es)))∧(n≠0→q=false):=by
  intro es ha h0
  rcases ha with rfl|⟨m,o,rfl,_⟩
  ·exact⟨true, .inl ⟨rfl,rfl⟩,fun h=>(h h0).elim⟩
  ·exact⟨false, .inr ⟨rfl, .inr ⟨_,_,_,_,_,rfl⟩⟩,fun _=>rfl⟩
 cases hx<;>simp only[nilT,Option.some.injEq,reduceCtorEq]at h
 ·rename_i es ha
  exact nz ha h.symm
 ·rename_i k b hb hd ho
  rw[hb]at h
  simp[hd,TK.shape]at h
 ·exact⟨false, .inr ⟨rfl, .inr ⟨_,_,_,_,_,rfl⟩⟩,fun _=>rfl⟩
 ·rename_i k b e hb hs hE ha
  rw[hb]at h
  simp[hs]at h
  exact nz ha h.symm
 ·rename_i e ha
  rcases ha with rfl|rfl|⟨m,o,cap,rfl⟩
  ·exact⟨true, .inl ⟨rfl,rfl⟩,fun h0=>(h0 h.symm).elim⟩
  ·exact⟨false, .inr ⟨rfl, .inl rfl⟩,fun _=>rfl⟩
  ·exact⟨false, .inr ⟨rfl, .inr ⟨_,_,_,_,_,rfl⟩⟩,fun _=>rfl⟩
 ·exact⟨false, .inr ⟨rfl, .inr ⟨_,_,_,_,_,rfl⟩⟩,fun _=>rfl⟩
theorem rv_ints3 {c:Cfg} {a1 a2 a3:Int} {a:AVal} (r:RV c (.agg [.int .i64 a1, .int .i64 a2, .int .i64 a3]) a):a= .agg [.int .i64 a1, .int .i64 a2, .int .i64 a3]:=by
 cases r with
 |agg _ as hl hr=>
 match as,hl with
 |[u1,u2,u3],_=>
  have e1:=hr 0 _ u1 rfl rfl
  have e2:=hr 1 _ u2 rfl rfl
  have e3:=hr 2 _ u3 rfl rfl
  cases e1;cases e2;cases e3
  rfl
 |[],hl=>simp at hl
 |[_],hl=>simp at hl
 |[_,_],hl=>simp at hl
 |_::_::_::_::_,hl=>simp at hl
theorem ok_bin {op:BinOp} {t:TypeId} {x y:TV} {a b:AVal} (hx:RV c x a) (hy:RV c y b) (h:(tbin P op t x y c.tm).holds K):∃v,K v c.tm∧∃q,abin P op t a b=some q∧RV c v q:=by
 unfold tbin at h
 split at h
 ·rename_i k a' k' b'
  cases hx;cases hy
  cases hb:IntKind.bq k k' with
  |false=>rw[hb]at h;exact h.elim
  |true=>
  rw[hb]at h
  have:=bq_eq hb
  subst this
  simp only[cond_true,ints2]at h
  split at h<;>first
   |exact h.elim
   |exact⟨_,h,_,by simp[abin], .int _ _⟩
   |exact⟨_,h,_,by simp[abin], .bool _⟩
   |exact⟨_,h.2,_,by simp[abin,h.1], .int _ _⟩
   |exact⟨_,h.2,_,by simp[abin,Int.not_lt.2 h.1], .int _ _⟩
 ·rename_i a' b'
  cases hx;cases hy
  split at h<;>first
   |exact h.elim
   |exact⟨_,h.2, .str ⟨(a'++b').toArray⟩,by
     simp only[abin]
     rw[if_pos (by simpa[ByteArray.size]using h.1),str_append], .str _⟩
   |exact⟨_,h,_,by simp only[abin,str_list], .bool _⟩
 ·rename_i a1 a2 a3 b1 b2 b3
  rw[rv_ints3 hx,rv_ints3 hy]
  cases hb:intF3 P t with
  |false=>rw[hb]at h;exact h.elim
  |true=>
  rw[hb]at h
  simp only[cond_true]at h
  split at h<;>first
   |exact h.elim
   |exact⟨_,h,_,by simp only[abin,hb,if_true], .bool _⟩
 ·cases hy
  split at h
  ·rename_i n h1 h2
   obtain⟨q,hq,hn⟩:=nilT_ok hx h1 h2
   exact⟨_,h q hn,_,by rcases hq with⟨rfl,rfl⟩|⟨rfl,rfl|⟨_,_,_,_,_,rfl⟩⟩<;>simp[abin,h1], .bool _⟩
  ·rename_i n h1 h2
   obtain⟨q,hq,hn⟩:=nilT_ok hx h1 h2
   exact⟨_,h (!q) (fun h0=>by rw[hn h0];rfl),_,by rcases hq with⟨rfl,rfl⟩|⟨rfl,rfl|⟨_,_,_,_,_,rfl⟩⟩<;>simp[abin,h1], .bool _⟩
  ·exact h.elim
 ·split at h
  ·rename_i a' b' h1 h2 h3
   have:=asB_rv h1 hx
   have:=asB_rv h2 hy
   subst_vars
   split at h<;>first
    |exact h.elim
    |exact⟨_,h,_,by simp[abin,h3], .bool _⟩
  ·exact h.elim
theorem ok_binY {op:BinOp} {t:TypeId} {x z:TV} {y:Operand} {a b:AVal} (hx:RV c x a) (hy:RV c z b) (h:(tbinY P op t x y z c.tm).holds K):∃v,K v c.tm∧∃q,abinY P op t a y b=some q∧RV c v q:=by
 unfold tbinY at h
 unfold abinY
 cases hc:isNilC y with
 |false=>rw[hc]at h;exact ok_bin hx hy h
 |true=>
 rw[hc]at h
 simp only at h⊢
 split at h
 ·rename_i e hk
  cases hy
  cases hx with
  |er _ _ hb=>
  rcases hb with⟨rfl,rfl⟩|⟨rfl,u,v,rfl⟩
  ·exact⟨_,h,_,by simp[hk], .bool _⟩
  ·exact⟨_,h,_,by simp[hk], .bool _⟩
 ·rename_i e hk
  cases hy
  cases hx with
  |er _ _ hb=>
  rcases hb with⟨rfl,rfl⟩|⟨rfl,u,v,rfl⟩
  ·exact⟨_,h,_,by simp[hk], .bool _⟩
  ·exact⟨_,h,_,by simp[hk], .bool _⟩
 ·exact h.elim
end ops
end Go.Ab
