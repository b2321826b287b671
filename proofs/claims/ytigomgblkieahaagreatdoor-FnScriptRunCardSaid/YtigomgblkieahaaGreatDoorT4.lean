/- What is proved here: each operation, read over typed values, is an operation of the abstract machine (second part: literals, append, slices, and all of them). -/
import Derived.Test.YtigomgblkieahaaGreatDoorT3
namespace Go.Ab
set_option linter.unusedVariables false
set_option linter.unusedSimpArgs false
section ops
variable {P:Program} {fl:Nat} {o:Oper} {ρa:Operand→AVal} {c:Cfg} {A:Nat→Prop} {K:TV→TMem→Prop}
theorem castE_eq {e e':EK} {l:List e.T} {l':List e'.T} (h:castE e e' l=some l'):∃q:e=e',q▸l=l':=by
 cases e<;>cases e'<;>simp[castE]at h<;>exact⟨rfl,h⟩
def Row (c:Cfg) (e:EK) (l:List e.T) (cs:List AVal):Prop:=
 cs.length=l.length*e.es∧∀(i:Nat) x (j:Nat) t,l[i]? =some x→(enc e x)[j]? =some t→∃a,cs[i*e.es+j]? =some a∧RV c t a
theorem Row.nil (c:Cfg) (e:EK):Row c e [] []:=⟨by simp,fun i x j t h=>by simp at h⟩
theorem Row.mv {c c':Cfg} (h:Mv c c') {e:EK} {l:List e.T} {cs:List AVal} (r:Row c e l cs):Row c' e l cs:=
 ⟨r.1,fun i x j t h1 h2=>let ⟨a,g1,g2⟩:=r.2 i x j t h1 h2;⟨a,g1,g2.mv h⟩⟩
theorem Row.append {e:EK} {l l':List e.T} {cs cs':List AVal} (r:Row c e l cs) (r':Row c e l' cs'):Row c e (l++l') (cs++cs'):=by
 refine⟨by simp[r.1,r'.1,Nat.add_mul],fun i x j t h1 h2=> ?_⟩
 have hj:j<e.es:=by rw[←enc_length e x];exact getElem?_lt h2
 rw[List.getElem?_append]at h1
 by_cases hi:i<l.length
 ·rw[if_pos hi]at h1
  obtain⟨a,g1,g2⟩:=r.2 i x j t h1 h2
  refine⟨a, ?_,g2⟩
  rw[List.getElem?_append_left (getElem?_lt g1)];exact g1
 ·rw[if_neg hi]at h1
  obtain⟨a,g1,g2⟩:=r'.2 _ x j t h1 h2
  refine⟨a, ?_,g2⟩
  have:l.length*e.es≤i*e.es:=Nat.mul_le_mul_right _ (by omega)
  rw[List.getElem?_append_right (by rw[r.1];omega),r.1,←g1,Nat.sub_mul]
  congr 1;omega
theorem Row.one {e:EK} {x:e.T} {cs:List AVal} (r:LV c (enc e x) cs):Row c e [x] cs:=by
 refine⟨by rw[←r.1,enc_length];simp,fun i y j t h1 h2=> ?_⟩
 cases i with
 |zero=>simp at h1;subst h1;obtain⟨a,g1,g2⟩:=r.get h2;exact⟨a,by simpa using g1,g2⟩
 |succ i=>simp at h1
theorem Row.all_one {e:EK} {l:List e.T} {cs:List AVal} (r:Row c e l cs):cs.all (·.one)=true:=by
 rw[List.all_eq_true]
 intro b hb
 obtain⟨i,hi⟩:=List.mem_iff_getElem?.1 hb
 have hlt:=getElem?_lt hi
 rw[r.1]at hlt
 have hes:=e.es_pos
 have hq:i/e.es<l.length:=Nat.div_lt_of_lt_mul (by rw[Nat.mul_comm];exact hlt)
 have hm:i % e.es<e.es:=Nat.mod_lt _ hes
 have h2:(enc e l[i/e.es])[i % e.es]? =some ((enc e l[i/e.es])[i % e.es]'(by rw[enc_length];exact hm)):=List.getElem?_eq_getElem _
 obtain⟨a,g1,g2⟩:=r.2 (i/e.es) _ _ _ (List.getElem?_eq_getElem hq) h2
 rw[Nat.mul_comm,Nat.div_add_mod,hi]at g1
 simp at g1
 subst g1
 have:=List.all_eq_true.1 (enc_one e l[i/e.es]) _ (List.getElem_mem (by rw[enc_length];exact hm))
 exact g2.one this
theorem row_at {n p:Nat} {e:EK} {l:List e.T} (hp:p+l.length*e.es≤(c.m.blk n).cells.length)
  (hr:∀(i:Nat) x (j:Nat) t,l[i]? =some x→(enc e x)[j]? =some t→∃a,(c.m.blk n).cells[p+i*e.es+j]? =some a∧RV c t a):
  Row c e l (((c.m.blk n).cells.drop p).take (l.length*e.es)):=by
 refine⟨by simp;omega,fun i x j t h1 h2=> ?_⟩
 obtain⟨a,g1,g2⟩:=hr i x j t h1 h2
 have hi:=getElem?_lt h1
 have hj:j<e.es:=by rw[←enc_length e x];exact getElem?_lt h2
 have:=Nat.mul_le_mul_right e.es (show i+1≤l.length by omega)
 rw[Nat.add_mul]at this
 refine⟨a, ?_,g2⟩
 rw[List.getElem?_take,if_pos (by omega),List.getElem?_drop,←Nat.add_assoc]
 exact g1
theorem row_of (R:RM c A) {x:TV} {e:EK} {l:List e.T} (h:rdT c.tm x=some ⟨e,l⟩) {b:AVal} (r:RV c x b):
  (l=[]∧(EmpA e.es b))∨∃n p cap,b= .sl n p l.length cap e.es∧n<c.m.size∧(c.m.blk n).mode≠ .dead∧p+l.length*e.es≤(c.m.blk n).cells.length∧
   ∀(i:Nat) x (j:Nat) t,l[i]? =some x→(enc e x)[j]? =some t→∃a,(c.m.blk n).cells[p+i*e.es+j]? =some a∧RV c t a:=by
 cases x with
 |pl e' l'=>
  simp[rdT]at h
  obtain⟨rfl,h⟩:=h
  simp at h
  subst h
  rcases rv_pl r with⟨h1,h2⟩|⟨n,p,cap,hF,hp,rfl,hr⟩
  ·exact .inl ⟨h1,h2⟩
  ·have:=R.fz n hF
   exact .inr ⟨n,p,cap,rfl,this.1,by rw[this.2];simp,hp,hr⟩
 |sl k=>
  simp only[rdT]at h
  split at h
  ·rename_i w e' l' hb
   simp at h
   obtain⟨rfl,h⟩:=h
   simp at h
   subst h
   rcases rv_sl hb r with⟨n,p,cap,hE,rfl⟩|⟨_,rfl,hn⟩
   ·rcases R.list k _ _ _ hb with⟨g1,_⟩|⟨n',p',g1,g2,g3,g4,g5,g6⟩
    ·rw[hE]at g1;cases g1
    rw[hE]at g1;simp at g1;obtain⟨rfl,rfl⟩:=g1
    exact .inr ⟨n,p,cap,rfl,g2,g3,by rw[g5];exact Nat.le_refl _,g6⟩
   ·refine .inl ⟨rfl, ?_⟩
    rcases hn with h|⟨n,o,h,_⟩
    ·exact .inl h
    ·exact .inr (.inr ⟨n,o,_,h⟩)
  ·cases h
 |_=>simp[rdT]at h
theorem src_of (R:RM c A) {x:TV} {e:EK} {ys:List e.T} {b:AVal} (r:RV c x b)
  (h:srcT c.tm e x=some ys):∃new,addCells c.m e.es b=some (ys.length,new)∧Row c e ys new:=by
 have gen:∀{e':EK} {l:List e'.T},rdT c.tm x=some ⟨e',l⟩→castE e' e l=some ys→∃new,addCells c.m e.es b=some (ys.length,new)∧Row c e ys new:=by
  intro e' l h1 h2
  obtain⟨rfl,h2⟩:=castE_eq h2
  simp at h2
  subst h2
  rcases row_of R h1 r with⟨rfl,h3⟩|⟨n,p,cap,rfl,g1,g2,g3,g4⟩
  ·refine⟨[], ?_,Row.nil _ _⟩
   rcases h3 with rfl|rfl|⟨n,o,cap,rfl⟩
   ·rfl
   ·rfl
   ·simp[addCells]
  ·by_cases h0:l.length=0
   ·have:l=[]:=List.length_eq_zero_iff.1 h0
    subst this
    exact⟨[],by simp[addCells],Row.nil _ _⟩
   ·refine⟨((c.m.blk n).cells.drop p).take (l.length*e'.es), ?_,row_at g3 g4⟩
    simp only[addCells,if_true,if_neg h0]
    unfold alds
    rw[if_pos ⟨g1,g2,g3⟩]
    rfl
 cases x with
 |nil=>
  simp[srcT]at h
  subst h
  cases r
  exact⟨[],rfl,Row.nil _ _⟩
 |nz es=>
  simp only[srcT]at h
  cases hb:Nat.beq es e.es with
  |false=>rw[hb]at h;cases h
  |true=>
  rw[hb]at h
  simp at h
  subst h
  have:=Nat.eq_of_beq_eq_true hb
  subst this
  cases r with
  |nz _ _ ha=>
  rcases ha with rfl|⟨n,o,rfl,_⟩
  ·exact⟨[],rfl,Row.nil _ _⟩
  ·exact⟨[],by simp[addCells],Row.nil _ _⟩
 |sl k=>
  simp only[srcT]at h
  split at h
  ·rename_i w e' l hb;exact gen (by simp only[rdT,hb]) h
  ·cases h
 |pl e' l=>exact gen rfl h
 |sv k l q=>
  simp only[srcT]at h
  split at h
  ·rename_i w e' s hb
   obtain⟨rfl,h⟩:=castE_eq h
   simp at h
   subst h
   have none0:∀b:AVal,EmpA e'.es b→addCells c.m e'.es b=some (0,[]):=fun b hb=>by
    rcases hb with rfl|rfl|⟨n,o,cap,rfl⟩
    ·rfl
    ·rfl
    ·simp[addCells]
   cases r with
   |svD _ _ _ b' hb' hd _ ho=>rw[hb]at hb';simp at hb';subst hb';cases hd
   |svE _ b' e2 _ hb' hs ha=>
    rw[hb]at hb';simp at hb';subst hb'
    simp[TK.shape]at hs
    obtain⟨rfl,hs⟩:=hs
    simp only[Int.toNat_zero,List.take_zero,List.drop_nil]
    refine⟨[],none0 _ ?_,Row.nil _ _⟩
    rcases ha with ha|⟨n,o,ha,_⟩
    ·exact .inl ha
    ·exact .inr (.inr ⟨n,o,_,ha⟩)
   |sv _ _ _ b' e2 len n p cap hb' hs hE h0 h1 h2=>
    rw[hb]at hb';simp at hb';subst hb'
    simp[TK.shape]at hs
    obtain⟨rfl,rfl⟩:=hs
    rcases R.list k _ _ _ hb with⟨g1,_⟩|⟨n',p',g1,g2,g3,g4,g5,g6⟩
    ·rw[hE]at g1;cases g1
    rw[hE]at g1;simp at g1;obtain⟨rfl,rfl⟩:=g1
    have hlen:((s.take q.toNat).drop l.toNat).length=q.toNat-l.toNat:=by simp;omega
    have hmul:(l.toNat+(q.toNat-l.toNat))*e'.es≤s.length*e'.es:=Nat.mul_le_mul_right _ (by omega)
    rw[Nat.add_mul]at hmul
    by_cases hz:q.toNat-l.toNat=0
    ·have hnil:(s.take q.toNat).drop l.toNat=[]:=List.length_eq_zero_iff.1 (by omega)
     rw[hnil]
     exact⟨[],by rw[hz];exact none0 _ (.inr (.inr ⟨_,_,_,rfl⟩)),Row.nil _ _⟩
    ·have hrow:=row_at (c:=c) (e:=e') (l:=(s.take q.toNat).drop l.toNat) (n:=n) (p:=p+l.toNat*e'.es) (by rw[hlen];omega) (fun i x j t k1 k2=>by
      rw[List.getElem?_drop,List.getElem?_take]at k1
      split at k1
      ·obtain⟨a,f1,f2⟩:=g6 _ x j t k1 k2
       refine⟨a, ?_,f2⟩
       rw[←f1];congr 1
       rw[Nat.add_mul];omega
      ·cases k1)
     rw[hlen]at hrow
     refine⟨_, ?_,hrow⟩
     rw[hlen]
     simp only[addCells,if_true,if_neg hz]
     unfold alds
     rw[if_pos ⟨g2,g3,by omega⟩]
     rfl
  ·cases h
 |_=>simp[srcT]at h
theorem new_row_okE {c0:Cfg} (R0:RM c0 A) (hN:A c0.m.size) {e:EK} {l:List e.T} {cs:List AVal} (r:Row c0 e l cs) (cap:Option Nat):
  ∃c',c'.E c0.tm.length=some (c0.m.size,0)∧c'.m=c0.m.push cs∧c'.tm=c0.tm++[⟨true, .list e l⟩]∧RM c' A∧RV c' (.sl c0.tm.length) (.sl c0.m.size 0 l.length cap e.es)∧Stp c0 c' A:=by
 have hlen:∀n,n<c0.m.size→(c0.m.push cs).blk n=c0.m.blk n:=fun n hn=>by simp;omega
 obtain⟨h1,h2⟩:=add_ok (tk:= .list e l) (loc:=some (c0.m.size,0)) (m':=c0.m.push cs) R0 (by simp) (fun n hn=> .inl (hlen n hn)) (fun n p h=>by
   simp at h
   obtain⟨rfl,rfl⟩:=h
   exact⟨by simp,by simp,hN, .inr (Nat.le_refl _)⟩) (fun l' h=>by cases h) (fun e' l' h=>by
   simp at h
   obtain⟨rfl,h⟩:=h
   simp at h
   subst h
   refine .inr ⟨_,_,rfl,by simp[r.1],fun i x j t q1 q2=> ?_⟩
   obtain⟨a,g1,g2⟩:=r.2 i x j t q1 q2
   exact⟨a,by simpa using g1,g2⟩)
 refine⟨_,by simp[Cfg.add],rfl,rfl,h1, ?_,h2⟩
 exact .sl _ ⟨true, .list e l⟩ e l.length c0.m.size 0 cap (by simp[Cfg.add]) rfl (by simp[Cfg.add])
theorem new_row_ok {c0:Cfg} (R0:RM c0 A) (hN:A c0.m.size) {e:EK} {l:List e.T} {cs:List AVal} (r:Row c0 e l cs) (cap:Option Nat):
  ∃c',c'.m=c0.m.push cs∧c'.tm=c0.tm++[⟨true, .list e l⟩]∧RM c' A∧RV c' (.sl c0.tm.length) (.sl c0.m.size 0 l.length cap e.es)∧Stp c0 c' A:=
 let ⟨c',_,h⟩:=new_row_okE R0 hN r cap
 ⟨c',h⟩
theorem regrow_okE {c0:Cfg} (R0:RM c0 A) (hN:A c0.m.size) {n:Nat} (hn:n<c0.m.size) (hF:Fr c0 n) (hA:A n) (hrw:(c0.m.blk n).mode= .rw) {e:EK} {l:List e.T} {cs:List AVal} (r:Row c0 e l cs) (cap:Option Nat):
  ∃c',c'.E c0.tm.length=some (c0.m.size,0)∧c'.m=(c0.m.push cs).kill n∧c'.tm=c0.tm++[⟨true, .list e l⟩]∧RM c' A∧RV c' (.sl c0.tm.length) (.sl c0.m.size 0 l.length cap e.es)∧Stp c0 c' A:=by
 have hne:¬c0.m.size=n:=by omega
 obtain⟨h1,h2⟩:=add_ok (tk:= .list e l) (loc:=some (c0.m.size,0)) (m':=(c0.m.push cs).kill n) R0 (by simp) (fun k hk=>by
   by_cases e':k=n
   ·subst e';exact .inr ⟨hF,hA,hrw⟩
   ·exact .inl (by simp[e'];omega)) (fun k p h=>by
   simp at h
   obtain⟨rfl,rfl⟩:=h
   exact⟨by simp,by simp[hne],hN, .inr (Nat.le_refl _)⟩) (fun l' h=>by cases h) (fun e' l' h=>by
   simp at h
   obtain⟨rfl,h⟩:=h
   simp at h
   subst h
   refine .inr ⟨_,_,rfl,by simp[r.1,hne],fun i x j t q1 q2=> ?_⟩
   obtain⟨a,g1,g2⟩:=r.2 i x j t q1 q2
   exact⟨a,by simpa[hne]using g1,g2⟩)
 refine⟨_,by simp[Cfg.add],rfl,rfl,h1, ?_,h2⟩
 exact .sl _ ⟨true, .list e l⟩ e l.length c0.m.size 0 cap (by simp[Cfg.add]) rfl (by simp[Cfg.add])
theorem regrow_ok {c0:Cfg} (R0:RM c0 A) (hN:A c0.m.size) {n:Nat} (hn:n<c0.m.size) (hF:Fr c0 n) (hA:A n) (hrw:(c0.m.blk n).mode= .rw) {e:EK} {l:List e.T} {cs:List AVal} (r:Row c0 e l cs) (cap:Option Nat):
  ∃c',c'.m=(c0.m.push cs).kill n∧c'.tm=c0.tm++[⟨true, .list e l⟩]∧RM c' A∧RV c' (.sl c0.tm.length) (.sl c0.m.size 0 l.length cap e.es)∧Stp c0 c' A:=
 let ⟨c',_,h⟩:=regrow_okE R0 hN hn hF hA hrw r cap
 ⟨c',h⟩
theorem virt_okE {c0:Cfg} (R0:RM c0 A) (e:EK) {a:AVal} (ha:NzA c0 e.es a):
  ∃c',c'.E c0.tm.length=none∧c'.m=c0.m∧c'.tm=c0.tm++[⟨true, .list e []⟩]∧RM c' A∧RV c' (.sl c0.tm.length) a∧Stp c0 c' A:=by
 obtain⟨h1,h2⟩:=add_ok (tk:= .list e []) (loc:=none) (m':=c0.m) R0 (Nat.le_refl _) (fun n _=> .inl rfl) (fun n p h=>by cases h) (fun l h=>by cases h) (fun e' l h=>by
   simp at h
   obtain⟨rfl,h⟩:=h
   simp at h
   subst h
   exact .inl ⟨rfl,rfl⟩)
 exact⟨c0.add ⟨true, .list e []⟩ none c0.m,by simp[Cfg.add],rfl,rfl,h1, .slV _ ⟨true, .list e []⟩ e a (by simp[Cfg.add]) rfl (by simp[Cfg.add]) (ha.mv h2.mv),h2⟩
theorem virt_ok {c0:Cfg} (R0:RM c0 A) (e:EK) {a:AVal} (ha:NzA c0 e.es a):
  ∃c',c'.m=c0.m∧c'.tm=c0.tm++[⟨true, .list e []⟩]∧RM c' A∧RV c' (.sl c0.tm.length) a∧Stp c0 c' A:=
 let ⟨c',_,h⟩:=virt_okE R0 e ha
 ⟨c',h⟩
theorem same_okE {c0:Cfg} (R0:RM c0 A) {n p:Nat} (hn:n<c0.m.size) (hrw:(c0.m.blk n).mode= .rw) (hA:A n) (hF:Fr c0 n) {e:EK} {l:List e.T} (hl:(c0.m.blk n).cells.length=p+l.length*e.es)
  (hr:∀(i:Nat) x (j:Nat) t,l[i]? =some x→(enc e x)[j]? =some t→∃a,(c0.m.blk n).cells[p+i*e.es+j]? =some a∧RV c0 t a) (cap:Option Nat):
  ∃c',c'.E c0.tm.length=some (n,p)∧c'.m=c0.m∧c'.tm=c0.tm++[⟨true, .list e l⟩]∧RM c' A∧RV c' (.sl c0.tm.length) (.sl n p l.length cap e.es)∧Stp c0 c' A:=by
 obtain⟨h1,h2⟩:=add_ok (tk:= .list e l) (loc:=some (n,p)) (m':=c0.m) R0 (Nat.le_refl _) (fun n _=> .inl rfl) (fun n' p' h=>by
   simp at h
   obtain⟨rfl,rfl⟩:=h
   exact⟨hn,hrw,hA, .inl hF⟩) (fun l h=>by cases h) (fun e' l' h=>by
   simp at h
   obtain⟨rfl,h⟩:=h
   simp at h
   subst h
   exact .inr ⟨n,p,rfl,hl,hr⟩)
 exact⟨c0.add ⟨true, .list e l⟩ (some (n,p)) c0.m,by simp[Cfg.add],rfl,rfl,h1, .sl _ ⟨true, .list e l⟩ e l.length n p cap (by simp[Cfg.add]) rfl (by simp[Cfg.add]),h2⟩
theorem same_ok {c0:Cfg} (R0:RM c0 A) {n p:Nat} (hn:n<c0.m.size) (hrw:(c0.m.blk n).mode= .rw) (hA:A n) (hF:Fr c0 n) {e:EK} {l:List e.T} (hl:(c0.m.blk n).cells.length=p+l.length*e.es)
  (hr:∀(i:Nat) x (j:Nat) t,l[i]? =some x→(enc e x)[j]? =some t→∃a,(c0.m.blk n).cells[p+i*e.es+j]? =some a∧RV c0 t a) (cap:Option Nat):
  ∃c',c'.m=c0.m∧c'.tm=c0.tm++[⟨true, .list e l⟩]∧RM c' A∧RV c' (.sl c0.tm.length) (.sl n p l.length cap e.es)∧Stp c0 c' A:=
 let ⟨c',_,h⟩:=same_okE R0 hn hrw hA hF hl hr cap
 ⟨c',h⟩
def agrow (fl:Nat) (m:Mem) (es k:Nat) (new:List AVal) (a:AVal):Option (AVal×Mem):=
 if k=0 then
  match a with
  | .nilSl=>some (.nilSl,m)
  | .emptySl=>some (.emptySl,m)
  | .sl n o len cap es'=>some (.sl n o len cap es',m)
  |_=>none
 else
  match a with
  | .nilSl=>if k≤2^36 then some (.sl m.size 0 k none es,m.push new)else none
  | .sl n o len cap es'=>
   if es'=es∧len+k≤2^36 then
    match alds m n o (len*es)with
    |some old=>
     if cap.any (·<len+k)=true then some (.sl m.size 0 (len+k) none es,m.push (old++new))
     else if fl≤n∧(m.blk n).mode= .rw∧o+len*es=(m.blk n).cells.length∧new.all (·.one)=true then some (.sl m.size 0 (len+k) none es,(m.push (old++new)).kill n)
     else none
    |none=>none
   else none
  |_=>none
theorem aappend_eq {m:Mem} {t e by_ es k:Nat} {z new:List AVal} {a b:AVal} (h1:tElem P t=some e) (h2:tSize P e=some es) (h3:tBytes P e=some by_) (h4:tZero P e=some z) (h5:by_≤1024) (h6:z.length=es) (h7:addCells m es b=some (k,new)):
  aappend P fl m t t a b=agrow fl m es k new a:=by
 unfold aappend agrow
 simp only[h1,decide_true,h2,h3,h4,h7]
 rw[if_pos ⟨h5,h6⟩]
 cases a<;>rfl
theorem ok_append (hA:∀n,A n→fl≤n) (hN:A c.m.size) (R:RM c A) {t tx:TypeId} {s x:TV} {a b:AVal} (hs:RV c s a) (hx:RV c x b) (h:(tappend P t tx s x c.tm).holds K):
  ∃v tm',K v tm'∧∃q c',aappend P fl c.m t tx a b=some (q,c'.m)∧c'.tm=tm'∧RM c' A∧RV c' v q∧Stp c c' A:=by
 unfold tappend at h
 split at h
 case h_2=>exact h.elim
 rename_i e by_ zl hes htx hby hzl
 cases hc:(Nat.ble by_ 1024&&Nat.beq zl e.es)with
 |false=>rw[hc]at h;exact h.elim
 |true=>
 rw[hc]at h
 simp only[cond_true]at h
 rw[Bool.and_eq_true]at hc
 obtain⟨te,ht,hsz⟩:=ekS_spec hes
 rw[ht]at hby hzl
 simp only[Option.bind_some]at hby hzl
 obtain⟨z,hz,hzl⟩:=Option.map_eq_some_iff.1 hzl
 have htx':=Nat.eq_of_beq_eq_true htx
 have hb1:=Nat.le_of_ble_eq_true hc.1
 have hzes:z.length=e.es:=by rw[hzl];exact Nat.eq_of_beq_eq_true hc.2
 split at h
 case h_2=>exact h.elim
 rename_i ys hys
 obtain⟨new,hadd,hrow⟩:=src_of R hx hys
 subst htx'
 rw[aappend_eq ht hsz hby hz hb1 hzes hadd]
 have hy0:ys.length=0→ys=[]:=List.length_eq_zero_iff.1
 have none_:∀{c0:Cfg},c0.m=c.m→c0.tm.length=c.tm.length→RM c0 A→Stp c c0 A→NzA c0 e.es a→ys.length≤2^36→
   ∃q c',agrow fl c.m e.es ys.length new a=some (q,c'.m)∧c'.tm=c0.tm++[⟨true, .list e ys⟩]∧RM c' A∧RV c' (.sl c.tm.length) q∧Stp c c' A:=by
  intro c0 hm htl R0 S0 hnz hle
  by_cases h0:ys.length=0
  ·obtain rfl:=hy0 h0
   obtain⟨c',g1,g2,g3,g4,g5⟩:=virt_ok R0 e hnz
   refine⟨a,c', ?_,g2,g3,by rw[←htl];exact g4,S0.trans g5⟩
   unfold agrow
   rw[if_pos h0,g1,hm]
   rcases hnz with rfl|⟨n,o,rfl,_⟩<;>rfl
  ·unfold agrow
   rw[if_neg h0]
   obtain⟨c',g1,g2,g3,g4,g5⟩:=new_row_ok R0 (by rw[hm];exact hN) (hrow.mv S0.mv) none
   rw[hm]at g1 g4
   rw[htl]at g4
   refine⟨_,c', ?_,g2,g3,g4,S0.trans g5⟩
   rw[g1]
   rcases hnz with rfl|⟨n,o,rfl,hF,ho⟩
   ·simp only;rw[if_pos hle]
   ·have hfz:=R0.nf n hF
    rw[hm]at hfz ho
    simp only[Nat.zero_mul,Nat.zero_add,true_and]
    rw[if_pos hle]
    have:alds c.m n o 0=some []:=by
     unfold alds
     rw[if_pos ⟨hfz.1,by rw[hfz.2];simp,by omega⟩]
     simp
    rw[this]
    have h2:(some 0).any (fun x=>decide (x<ys.length))=true:=by simp;omega
    simp only[h2,if_true,List.nil_append]
 cases s with
 |nil=>
  obtain⟨hle,hK⟩:=h
  cases hs
  obtain⟨q,c',g1,g2,g3,g4,g5⟩:=none_ rfl rfl R (Stp.refl _ _) (.inl rfl) hle
  exact⟨_,_,hK,q,c',g1,g2,g3,g4,g5⟩
 |nz es=>
  simp only at h
  cases hb:Nat.beq es e.es with
  |false=>rw[hb]at h;exact h.elim
  |true=>
  rw[hb]at h
  obtain⟨hle,hK⟩:=h
  have:=Nat.eq_of_beq_eq_true hb
  subst this
  cases hs with
  |nz _ _ ha=>
  obtain⟨q,c',g1,g2,g3,g4,g5⟩:=none_ rfl rfl R (Stp.refl _ _) ha hle
  exact⟨_,_,hK,q,c',g1,g2,g3,g4,g5⟩
 |sl k=>
  simp only at h
  split at h
  ·rename_i e' l hb
   split at h
   ·rename_i xs hxs
    obtain⟨rfl,hxs⟩:=castE_eq hxs
    simp at hxs
    subst hxs
    obtain⟨hle,hK⟩:=h
    obtain⟨R0,S0⟩:=drop_ok R hb rfl
    have hm0:(c.drop k).m=c.m:=rfl
    have htl:(c.drop k).tm.length=c.tm.length:=by simp[Cfg.drop]
    rcases rv_sl hb hs with⟨n,p,cap,hE,rfl⟩|⟨hE,rfl,hnz⟩
    ·rcases R.list k _ _ _ hb with⟨g1,_⟩|⟨n',p',g1,g2,g3,g4,g5,g6⟩
     ·rw[hE]at g1;cases g1
     rw[hE]at g1;simp at g1;obtain⟨rfl,rfl⟩:=g1
     obtain⟨hrw,hAn⟩:=g4 rfl
     have hfr:=drop_free R hb rfl (.inr ⟨_,_,rfl⟩) hE
     by_cases h0:ys.length=0
     ·obtain rfl:=hy0 h0
      obtain⟨c',q1,q2,q3,q4,q5⟩:=same_ok R0 (n:=n) (p:=p) (e:=e') (l:=l) g2 hrw hAn hfr g5 (fun i x j t r1 r2=>let ⟨a,s1,s2⟩:=g6 i x j t r1 r2;⟨a,s1,s2.mv S0.mv⟩) cap
      refine⟨_,_,hK,_,c', ?_,by rw[q2];simp[Cfg.drop],q3,by rw[←htl];exact q4,S0.trans q5⟩
      unfold agrow
      rw[if_pos h0,q1]
      rfl
     ·have hold:alds c.m n p (l.length*e'.es)=some (((c.m.blk n).cells.drop p).take (l.length*e'.es)):=by
       unfold alds
       rw[if_pos ⟨g2,g3,by rw[g5];exact Nat.le_refl _⟩]
      have hrowl:Row (c.drop k) e' l (((c.m.blk n).cells.drop p).take (l.length*e'.es)):=(row_at (by rw[g5];exact Nat.le_refl _) g6).mv S0.mv
      have hall:=hrowl.append (hrow.mv S0.mv)
      by_cases hcap:cap.any (fun x=>decide (x<l.length+ys.length))=true
      ·obtain⟨c',q1,q2,q3,q4,q5⟩:=new_row_ok R0 hN hall none
       refine⟨_,_,hK,_,c', ?_,q2,q3,by rw[←htl];exact q4,S0.trans q5⟩
       unfold agrow
       rw[if_neg h0]
       simp only[true_and]
       rw[if_pos hle,hold]
       simp only[hcap,if_true]
       rw[q1,List.length_append]
       rfl
      ·obtain⟨c',q1,q2,q3,q4,q5⟩:=regrow_ok R0 hN g2 hfr hAn hrw hall none
       refine⟨_,_,hK,_,c', ?_,q2,q3,by rw[←htl];exact q4,S0.trans q5⟩
       unfold agrow
       rw[if_neg h0]
       simp only[true_and]
       rw[if_pos hle,hold]
       simp only[hcap,Bool.false_eq_true,if_false]
       rw[if_pos ⟨hA n hAn,hrw,g5.symm,hrow.all_one⟩,q1,List.length_append]
       rfl
    ·simp only[List.nil_append,List.length_nil,Nat.zero_add]at hle hK
     obtain⟨q,c',g1,g2,g3,g4,g5⟩:=none_ (c0:=c.drop k) hm0 htl R0 S0 (hnz.mv S0.mv) hle
     exact⟨_,_,hK,q,c',g1,g2,g3,g4,g5⟩
   ·exact h.elim
  ·exact h.elim
 |_=>exact h.elim
theorem sb_of {k n:Nat} {l:List Int} (h:c.tm[k]? =some ⟨true, .list .byte l⟩) (hE:c.E k=some (n,0)):RV c (.sb k) (.sb n l.length):= .sb k _ l.length n h rfl hE
theorem byte_row (c:Cfg) (q:List UInt8):Row c .byte (bytesI q) (bytesA ⟨q.toArray⟩):=by
 refine⟨by simp[bytesA,bytesI,EK.es],fun i x j t k1 k2=> ?_⟩
 have hj:j=0:=by
  have:=getElem?_lt k2
  rw[enc_length]at this
  simp[EK.es]at this;exact this
 subst hj
 unfold bytesI at k1
 rw[List.getElem?_map]at k1
 obtain⟨b,e1,e2⟩:=Option.map_eq_some_iff.1 k1
 subst e2
 have ht:t= .int .u8 b.toNat:=by simp[enc]at k2;exact k2.symm
 subst ht
 exact⟨.int .u8 b.toNat,by simp[bytesA,EK.es,e1], .int _ _⟩
theorem ok_sapp (hA:∀n,A n→fl≤n) (hN:A c.m.size) (R:RM c A) {t tx:TypeId} {s:TV} {q:List UInt8} {a b:AVal} (hs:RV c s a) (hx:RV c (.str q) b) (h:(tsapp P t tx s q c.tm).holds K):
  ∃v tm',K v tm'∧∃q' c',asapp P fl c.m t tx a b=some (q',c'.m)∧c'.tm=tm'∧RM c' A∧RV c' v q'∧Stp c c' A:=by
 unfold tsapp at h
 split at h
 case h_2=>exact h.elim
 rename_i e he hk h1 h2 h3
 cases hb:Nat.beq e byT with
 |false=>rw[hb]at h;exact h.elim
 |true=>
 rw[hb]at h
 simp only[cond_true]at h
 have heb:=Nat.eq_of_beq_eq_true hb
 subst heb
 cases hx
 have hqs:(⟨q.toArray⟩:ByteArray).size=q.length:=by simp[ByteArray.size]
 have cond:tElem P t=some byT∧tKd P tx=some .string∧tSize P byT=some 1∧tBytes P byT=some 1∧(tZero P byT).map (·.length)=some 1:=⟨he,hk,h1,h2,h3⟩
 split at h
 case h_2=>exact h.elim
 rename_i k
 split at h
 case h_2=>exact h.elim
 rename_i l hbk
 obtain⟨hle,hK⟩:=h
 obtain⟨R0,S0⟩:=drop_ok R hbk rfl
 have htl:(c.drop k).tm.length=c.tm.length:=by simp[Cfg.drop]
 have hm0:(c.drop k).m=c.m:=rfl
 cases hs with
 |sbD _ b' hb' hd=>rw[hbk]at hb';simp at hb';subst hb';cases hd
 |sbV _ b' hb' hs' hE'=>
  rw[hbk]at hb';simp at hb';subst hb'
  simp[TK.shape]at hs'
  subst hs'
  simp only[List.nil_append,List.length_nil,Nat.zero_add]at hle hK
  by_cases h0:q=[]
  ·subst h0
   obtain⟨c',gE,g1,g2,g3,g4,g5⟩:=virt_okE R0 .byte (.inl rfl)
   refine⟨_,_,hK, .nilSl,c', ?_,by rw[g2];rfl,g3, ?_,S0.trans g5⟩
   ·unfold asapp
    simp only[if_pos cond]
    rw[if_pos (by simp[ByteArray.size]),g1,hm0]
   ·exact .sbV _ ⟨true, .list .byte []⟩ (by rw[g2,←htl];simp) rfl (by rw[←htl];exact gE)
  ·obtain⟨c',gE,g1,g2,g3,g4,g5⟩:=new_row_okE R0 hN (byte_row (c.drop k) q) none
   refine⟨_,_,hK, .sb c.m.size q.length,c', ?_,by rw[g2];rfl,g3, ?_,S0.trans g5⟩
   ·unfold asapp
    simp only[if_pos cond]
    rw[if_neg (by rw[hqs];intro e;exact h0 (List.length_eq_zero_iff.1 e)),if_pos (by rw[hqs];exact hle),g1,hqs,hm0]
   ·have:=sb_of (c:=c') (k:=c.tm.length) (n:=c.m.size) (l:=bytesI q) (by rw[g2,←htl];simp) (by rw[←htl,←hm0];exact gE)
    simpa[bytesI]using this
 |sb _ b' len n hb' hs' hE'=>
  rw[hbk]at hb';simp at hb';subst hb'
  simp[TK.shape]at hs'
  subst hs'
  rcases R.list k _ _ _ hbk with⟨g1,_⟩|⟨n',p',g1,g2,g3,g4,g5,g6⟩
  ·rw[hE']at g1;cases g1
  rw[hE']at g1;simp at g1;obtain⟨rfl,rfl⟩:=g1
  obtain⟨hrw,hAn⟩:=g4 rfl
  have hfr:=drop_free R hbk rfl (.inr ⟨_,_,rfl⟩) hE'
  have hcl:(c.m.blk n).cells.length=l.length:=by simpa[EK.es]using g5
  by_cases h0:q=[]
  ·subst h0
   simp only[bytesI,List.map_nil,List.append_nil]at hK
   obtain⟨c',gE,q1,q2,q3,q4,q5⟩:=same_okE R0 (n:=n) (p:=0) (e:= .byte) (l:=l) g2 hrw hAn hfr g5 (fun i x j t r1 r2=>let ⟨a,s1,s2⟩:=g6 i x j t r1 r2;⟨a,s1,s2.mv S0.mv⟩) none
   refine⟨_,_,hK, .sb n l.length,c', ?_,by rw[q2];rfl,q3,sb_of (by rw[q2,←htl];simp) (by rw[←htl];exact gE),S0.trans q5⟩
   unfold asapp
   simp only[if_pos cond]
   rw[if_pos (by simp[ByteArray.size]),q1,hm0]
  ·have hrowl:Row (c.drop k) .byte l (c.m.blk n).cells:=by
    refine⟨by rw[g5];simp,fun i x j t r1 r2=> ?_⟩
    obtain⟨a,s1,s2⟩:=g6 i x j t r1 r2
    exact⟨a,by simpa using s1,s2.mv S0.mv⟩
   have hall:=hrowl.append (byte_row (c.drop k) q)
   obtain⟨c',gE,q1,q2,q3,q4,q5⟩:=regrow_okE R0 hN g2 hfr hAn hrw hall none
   refine⟨_,_,hK, .sb c.m.size (l.length+q.length),c', ?_,by rw[q2];rfl,q3, ?_,S0.trans q5⟩
   ·unfold asapp
    simp only[if_pos cond]
    rw[if_neg (by rw[hqs];intro e;exact h0 (List.length_eq_zero_iff.1 e)),if_pos ⟨by rw[hqs];exact hle,hA n hAn,g2,hrw,hcl⟩,hqs,q1,hm0]
   ·have:=sb_of (c:=c') (k:=c.tm.length) (n:=c.m.size) (l:=l++bytesI q) (by rw[q2,←htl];simp) (by rw[←htl,←hm0];exact gE)
    simpa[bytesI]using this
end ops
end Go.Ab
