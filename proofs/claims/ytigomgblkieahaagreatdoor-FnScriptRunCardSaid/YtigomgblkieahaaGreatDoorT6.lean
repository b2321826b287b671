/- What is proved here: each operation, read over typed values, is an operation of the abstract machine. -/
import Derived.Test.YtigomgblkieahaaGreatDoorT5
namespace Go.Ab
set_option linter.unusedVariables false
set_option linter.unusedSimpArgs false
section ops
variable {P:Program} {fl:Nat} {o:Oper} {ρa:Operand→AVal} {ρt:Operand→TV} {c:Cfg} {A:Nat→Prop} {K:TV→TMem→Prop}
theorem fill_lv {place:Nat→Option (Nat×Nat)}:∀(parts:List (Nat×Operand)),(∀x∈parts.map (·.2),RV c (ρt x) (ρa x))→∀{ts ts':List TV} {cs:List AVal},LV c ts cs→
  tfill place ts (parts.map fun p=>(p.1,ρt p.2))=some ts'→∃cs',afill place cs (parts.map fun p=>(p.1,ρa p.2))=some cs'∧LV c ts' cs':=by
 intro parts
 induction parts with
 |nil=>intro _ ts ts' cs r h;simp[tfill]at h;subst h;exact⟨cs,rfl,r⟩
 |cons p parts ih=>
  intro hρ ts ts' cs r h
  obtain⟨i,x⟩:=p
  have hx:=hρ x (by simp)
  simp only[List.map_cons,tfill]at h
  split at h
  ·rename_i off size vs h1 h2
   cases hb:(Nat.beq vs.length size&&Nat.ble (off+size) ts.length)with
   |false=>rw[hb]at h;cases h
   |true=>
   rw[hb]at h
   rw[Bool.and_eq_true]at hb
   have e1:=Nat.eq_of_beq_eq_true hb.1
   have e2:=Nat.le_of_ble_eq_true hb.2
   obtain⟨g1,g2⟩:=hx.cells h2
   obtain⟨cs',q1,q2⟩:=ih (fun y hy=>hρ y (by simp at hy⊢;exact .inr hy)) (g1.setC r off) h
   refine⟨cs', ?_,q2⟩
   simp only[List.map_cons,afill,h1]
   rw[if_pos ⟨by rw[←e1];exact g2,by rw[←r.1];exact e2⟩]
   exact q1
  ·cases h
theorem build_row {e:EK}:∀(parts:List (Nat×Operand)),(∀x∈parts.map (·.2),RV c (ρt x) (ρa x))→∀{s:Nat} {l:List e.T} {cs:List AVal},cs.length=(s+parts.length)*e.es→
  lbuild e s (parts.map fun p=>(p.1,ρt p.2))=some l→l.length=parts.length∧∃cs',afill (fun i=>some (i*e.es,e.es)) cs (parts.map fun p=>(p.1,ρa p.2))=some cs'∧cs'.length=cs.length∧cs'.take (s*e.es)=cs.take (s*e.es)∧Row c e l (cs'.drop (s*e.es)):=by
 intro parts
 induction parts with
 |nil=>
  intro _ s l cs hl h
  simp[lbuild]at h
  subst h
  refine⟨rfl,cs,rfl,rfl,rfl, ?_⟩
  rw[List.drop_eq_nil_of_le (by rw[hl];simp)]
  exact Row.nil _ _
 |cons p parts ih=>
  intro hρ s l cs hl h
  obtain⟨i,x⟩:=p
  have hx:=hρ x (by simp)
  simp only[List.map_cons,lbuild]at h
  split at h
  case h_2=>cases h
  rename_i vs h2
  split at h
  case h_2=>cases h
  rename_i y l' h3 h4
  cases hb:(Nat.beq i s&&Nat.beq vs.length e.es)with
  |false=>rw[hb]at h;cases h
  |true=>
  rw[hb]at h
  simp at h
  subst h
  rw[Bool.and_eq_true]at hb
  have e1:=Nat.eq_of_beq_eq_true hb.1
  have e2:=Nat.eq_of_beq_eq_true hb.2
  subst e1
  obtain⟨g1,g2⟩:=hx.cells h2
  have hlen:(ρa x).cells.length=e.es:=by rw[←g1.1,e2]
  have hcs:i*e.es+e.es≤cs.length:=by
   rw[hl]
   have:=Nat.mul_le_mul_right e.es (show i+1≤i+((i,x)::parts).length by simp)
   rw[Nat.add_mul,Nat.one_mul]at this
   exact this
  obtain⟨k1,cs',q1,q2,q3,q4⟩:=ih (fun y hy=>hρ y (by simp at hy⊢;exact .inr hy)) (s:=i+1) (cs:=setCells cs (i*e.es) (ρa x).cells) (by rw[setCells_length,hl];congr 1;simp;omega) h4
  rw[setCells_length]at q2
  refine⟨by simp[k1],cs', ?_,q2, ?_, ?_⟩
  ·simp only[List.map_cons,afill]
   rw[if_pos ⟨by rw[←e2];exact g2,hcs⟩]
   exact q1
  ·have:cs'.take (i*e.es)=(cs'.take ((i+1)*e.es)).take (i*e.es):=by
    rw[List.take_take,Nat.min_eq_left (Nat.mul_le_mul_right _ (by omega))]
   rw[this,q3,List.take_take,Nat.min_eq_left (Nat.mul_le_mul_right _ (by omega))]
   apply List.ext_getElem?
   intro j
   rw[List.getElem?_take,List.getElem?_take]
   split
   ·rw[setCells_eq,setC_get _ _ _ _ (by omega),if_neg (by omega)]
   ·rfl
  ·have hsplit:cs'.drop (i*e.es)=(cs'.drop (i*e.es)).take e.es++cs'.drop ((i+1)*e.es):=by
    have:cs'.drop ((i+1)*e.es)=(cs'.drop (i*e.es)).drop e.es:=by rw[List.drop_drop,Nat.add_mul,Nat.one_mul]
    rw[this,List.take_append_drop]
   have hel:(cs'.drop (i*e.es)).take e.es=(ρa x).cells:=by
    apply List.ext_getElem?
    intro j
    rw[List.getElem?_take]
    split
    ·rename_i hj
     have hj2:i*e.es+j<(i+1)*e.es:=by rw[Nat.add_mul];omega
     have:(cs'.take ((i+1)*e.es))[i*e.es+j]? =((setCells cs (i*e.es) (ρa x).cells).take ((i+1)*e.es))[i*e.es+j]? :=by rw[q3]
     rw[List.getElem?_take,if_pos hj2,List.getElem?_take,if_pos hj2,setCells_eq,setC_get _ _ _ _ (by omega),if_pos (by omega)]at this
     rw[List.getElem?_drop,this]
     congr 1;omega
    ·rw[List.getElem?_eq_none (by omega)]
   rw[hsplit,hel]
   exact Row.append (Row.one (dec_lv h3 g1)) q4
theorem rv_str {s:List UInt8} {a:AVal} (r:RV c (.str s) a):a= .str ⟨s.toArray⟩:=by cases r;rfl
theorem bytes_cells:∀{l:List Int} {cs:List AVal},cs.length=l.length→(∀(i:Nat) x,l[i]? =some x→cs[i]? =some (.int .u8 x))→abytes cs=some (bytesOf l):=by
 intro l
 induction l with
 |nil=>intro cs h _;have:cs=[]:=List.length_eq_zero_iff.1 (by simpa using h);subst this;rfl
 |cons x l ih=>
  intro cs h hr
  match cs,h with
  |[],h=>simp at h
  |y::cs,h=>
   have h0:=hr 0 x (by simp)
   simp at h0
   subst h0
   simp only[abytes,ih (by simpa using h) (fun i x hx=>by simpa using hr (i+1) x (by simpa using hx))]
   rfl
theorem optR_holds {q:Option TV} {tm:TMem} (h:(optR q tm).holds K):∃v,q=some v∧K v tm:=by
 cases q with
 |none=>exact h.elim
 |some v=>exact⟨v,rfl,h⟩
theorem ok_field {ft:TypeId} {off:Nat} {ts:List TV} {as:List AVal} {v:TV} (r:LV c ts as) (h:tload P ft (ts.drop off)=some v):
  (∃k,tAgg P ft=some true∧tSize P ft=some k∧RV c v (.agg ((as.drop off).take k)))∨(tAgg P ft=some false∧∃a,as[off]? =some a∧RV c v a):=by
 unfold tload at h
 split at h
 ·rename_i s h1 h2
  cases hb:(Nat.ble s (ts.drop off).length&&Nat.blt 0 s)with
  |false=>rw[hb]at h;cases h
  |true=>
   rw[hb]at h
   simp only[cond_true,Option.some.injEq]at h
   subst h
   have:=(r.drop off).take s
   exact .inl ⟨s,h1,h2, .agg _ _ this.1 this.2⟩
 ·rename_i h1
  obtain⟨a,g1,g2⟩:=(r.drop off).get h
  exact .inr ⟨h1,a,by simpa using g1,g2⟩
 ·cases h
theorem new_cells_ok (R:RM c A) (hN:A c.m.size) {l:List TV} {cs:List AVal} (hl:LV c l cs) {m':Mem} (hz:m'.size=c.m.size+1) (ho:∀n,n<c.m.size→m'.blk n=c.m.blk n) (hn:m'.blk c.m.size=⟨cs, .rw⟩):
  ∃c',c'.m=m'∧c'.tm=c.tm++[⟨true, .cells l⟩]∧RM c' A∧RV c' (.ptr c.tm.length 0) (.ptr (some (c.m.size,0)))∧Stp c c' A:=by
 obtain⟨h1,h2⟩:=add_ok (tk:= .cells l) (loc:=some (c.m.size,0)) (m':=m') R (by omega) (fun n hn=> .inl (ho n hn)) (fun n p h=>by
  simp at h
  obtain⟨rfl,rfl⟩:=h
  exact⟨by omega,by simp[hn],hN, .inr (Nat.le_refl _)⟩) (fun l' h=>by
  simp at h
  subst h
  refine⟨_,_,rfl,by simp[hl.1,hn],fun i t ht=> ?_⟩
  obtain⟨a,g1,g2⟩:=hl.get ht
  exact⟨a,by simpa[hn]using g1,g2⟩) (fun e l' h=>by cases h)
 exact⟨_,rfl,rfl,h1, .ptr _ 0 c.m.size 0 (by simp[Cfg.add]) (by simp[Cfg.add]),h2⟩
theorem new_slf_ok (R:RM c A) (hN:A c.m.size) (t:TypeId) {l:List TV} {z:List AVal} (hl:LV c l z) {q:TMem} (hq:slfV c.tm.length t l=some q) {m':Mem} (hz:m'.size=c.m.size+1) (ho:∀n,n<c.m.size→m'.blk n=c.m.blk n) (hn:m'.blk c.m.size=⟨slfC c.m.size t z, .rw⟩):
  ∃c',c'.m=m'∧c'.tm=c.tm++q∧RM c' A∧RV c' (.ptr c.tm.length 0) (.ptr (some (c.m.size,0)))∧Stp c c' A:=by
 unfold slfC at hn
 unfold slfV at hq
 cases hso:slfO slfTs t with
 |none=>
  simp only[hso,Option.some.injEq]at hn hq
  subst hq
  exact new_cells_ok R hN hl hz ho hn
 |some o=>
  simp only[hso]at hn hq
  split at hq
  ·rename_i ho1 ho2
   simp only[Option.some.injEq]at hq
   subst hq
   obtain⟨a1,hzo,ra⟩:=hl.get ho1
   obtain⟨a2,hz1,rb⟩:=hl.get ho2
   cases ra
   cases rb
   simp only[hzo,hz1]at hn
   obtain⟨c1,q1,q2,q3,q4,q5⟩:=new_cells_ok (m':=m'.put c.m.size ⟨z, .rw⟩) R hN hl hz (fun n h=>by rw[Mem.blk_put,if_neg (by omega)];exact ho n h) (by simp)
   have hE:c1.E c.tm.length=some (c.m.size,0):=by
    generalize hq:AVal.ptr (some (c.m.size,0))=q at q4
    cases q4 with
    |ptr _ _ n p hk hE=>simp at hq;obtain⟨rfl,rfl⟩:=hq;exact hE
   have putm:∀(s:Mem) (b:Blk),s.blk c.m.size=b→s.put c.m.size b=s:=fun s b hb=>by
    cases s with
    |mk s bl=>
     simp only[Mem.put,Mem.mk.injEq,true_and]
     funext k
     by_cases e:k=c.m.size
     ·subst e;rw[if_pos rfl];exact hb.symm
     ·rw[if_neg e]
   have hlv:=hl.mv q5.mv
   obtain⟨r1,r2⟩:=upd_ok (tk:= .cells l) (tk':= .cells (l.set o (.slf c.tm.length o t))) (cs:=z.set o (.slf c.m.size o t)) q3 (k:=c.tm.length) (by rw[q2];simp) (.inl ⟨_,rfl⟩) hE rfl (by simp) (fun l' hl'=>by
    injection hl' with hl'
    subst hl'
    have h2:=hlv.set o (RV.slf (c:=c1) c.tm.length o c.m.size t (by rw[q2];simp) hE)
    exact⟨by simp[hl.1],fun i t ht=>by rw[Nat.zero_add];exact h2.get ht⟩) (fun e l' hl'=>by cases hl')
   have hm2:(c1.upd c.tm.length (.cells (l.set o (.slf c.tm.length o t))) c.m.size (z.set o (.slf c.m.size o t))).m=m':=by
    show(c1.m.put c.m.size _)=m'
    rw[q1]
    have:(m'.put c.m.size ⟨z, .rw⟩).put c.m.size ⟨z.set o (.slf c.m.size o t), .rw⟩=m'.put c.m.size ⟨z.set o (.slf c.m.size o t), .rw⟩:=by
     simp only[Mem.put,Mem.mk.injEq,true_and]
     funext k
     by_cases e:k=c.m.size<;>simp[e]
    rw[this,putm _ _ hn]
   have htm2:(c1.upd c.tm.length (.cells (l.set o (.slf c.tm.length o t))) c.m.size (z.set o (.slf c.m.size o t))).tm=c.tm++[⟨true, .cells (l.set o (.slf c.tm.length o t))⟩]:=by simp[Cfg.upd,q2]
   generalize c1.upd c.tm.length (.cells (l.set o (.slf c.tm.length o t))) c.m.size (z.set o (.slf c.m.size o t))=c2 at r1 r2 hm2 htm2
   have q6:=q4.mv r2.mv
   have hE2:c2.E c.tm.length=some (c.m.size,0):=(r2.mv.e _ (by rw[q2];simp)).trans hE
   obtain⟨c3,gE,g1,g2,g3,g4,g5⟩:=virt_okE r1 .byte (.inl rfl)
   have hl2:c2.tm.length=c.tm.length+1:=by rw[htm2];simp
   rw[hl2]at gE
   have hE3:c3.E c.tm.length=some (c.m.size,0):=(g5.mv.e _ (by rw[hl2];omega)).trans hE2
   have hlv3:=((hl.mv q5.mv).mv r2.mv).mv g5.mv
   obtain⟨s1,s2⟩:=upd_ok (tk:= .cells (l.set o (.slf c.tm.length o t))) (tk':= .cells (((l.set o (.slf c.tm.length o t)).set (o+1) (.sb (c.tm.length+1))).map toBl)) (cs:=z.set o (.slf c.m.size o t)) g3 (k:=c.tm.length) (by rw[g2,htm2];simp) (.inl ⟨_,rfl⟩) hE3 rfl (by simp) (fun l' hl'=>by
    injection hl' with hl'
    subst hl'
    have h2:=hlv3.set o (RV.slf (c:=c3) c.tm.length o c.m.size t (by rw[g2,htm2];simp) hE3)
    refine⟨by simp[hl.1],fun i u hu=> ?_⟩
    rw[Nat.zero_add]
    rw[List.getElem?_map]at hu
    obtain⟨u0,hv,rfl⟩:=Option.map_eq_some_iff.1 hu
    clear hu
    suffices hg:∃a,(z.set o (AVal.slf c.m.size o t))[i]? =some a∧RV c3 u0 a from let ⟨a,q1,q2⟩:=hg;⟨a,q1,q2.toBl⟩
    rw[List.getElem?_set]at hv
    split at hv
    ·rename_i e1
     subst e1
     split at hv
     ·simp at hv
      subst hv
      refine⟨.nilSl,by rw[List.getElem?_set,if_neg (by omega)];exact hz1, .sbV _ ⟨true, .list .byte []⟩ ?_ rfl gE⟩
      rw[g2,htm2];simp
     ·cases hv
    ·exact h2.get hv) (fun e l' hl'=>by cases hl')
   refine⟨_, ?_, ?_,s1,(q6.mv g5.mv).mv s2.mv,((q5.trans r2).trans g5).trans s2⟩
   ·show(c3.m.put c.m.size _)=m'
    rw[g1,hm2,putm _ _ hn]
   ·simp only[Cfg.upd,g2,htm2]
    simp
  ·cases hq
theorem newO_ok {t:TypeId} {l:List TV} {tm:TMem} (h:(newO t l tm).holds K):∃q,slfV tm.length t l=some q∧K (.ptr tm.length 0) (tm++q):=by
 unfold newO at h
 split at h
 ·rename_i q hq;exact⟨q,hq,h⟩
 ·exact h.elim
theorem ok_tset (hA:∀n,A n→fl≤n) (R:RM c A) {t:TypeId} {x k v:TV} {a b q:AVal} (hx:RV c x a) (hk:RV c k b) (hv:RV c v q) (h:(tset_ P t x k v c.tm).holds K):
  ∃v tm',K v tm'∧v= .tup []∧∃c',aset P c.m fl t a b q=some (aundef,c'.m)∧c'.tm=tm'∧RM c' A∧Stp c c' A:=by
 unfold tset_ at h
 split at h
 case h_2=>exact h.elim
 rename_i i s
 split at h
 case h_2=>exact h.elim
 rename_i ks hb
 cases ht:tMapB P t with
 |false=>rw[ht]at h;exact h.elim
 |true=>
 rw[ht]at h
 cases hx with
 |mp _ n p hk' hE=>
 cases hk
 cases hv
 obtain⟨n',p',g1,g2,g3,g4⟩:=R.keys i ks hb
 rw[hE]at g1;simp at g1;obtain⟨rfl,rfl⟩:=g1
 obtain⟨r1,r2⟩:=updK_ok (ks':=addKey ks s) R hb hE
 exact⟨_,_,h,rfl,c.updK i n (addKey ks s),by simp only[aset,ht,hA n g4,g2,g3,and_self,if_true];rfl,rfl,r1,r2⟩
theorem ok_task (R:RM c A) {t:TypeId} {x k:TV} {a b:AVal} (hx:RV c x a) (hk:RV c k b) (h:(task P t x k c.tm).holds K):
  ∃v,K v c.tm∧∃u,aask P c.m t a b=some u∧RV c v u:=by
 unfold task at h
 split at h
 case h_2=>exact h.elim
 rename_i i s
 split at h
 case h_2=>exact h.elim
 rename_i ks hb
 cases ht:tMapB P t with
 |false=>rw[ht]at h;exact h.elim
 |true=>
 rw[ht]at h
 cases hx with
 |mp _ n p hk' hE=>
 cases hk
 obtain⟨n',p',g1,g2,g3,g4⟩:=R.keys i ks hb
 rw[hE]at g1;simp at g1;obtain⟨rfl,rfl⟩:=g1
 exact⟨_,h, .bool (ks.contains s),by simp only[aask,ht,g2,g3,and_self,if_true], .bool _⟩
theorem top_sound (hA:∀n,A n→fl≤n) (hN:∀n,c.m.size≤n→A n) (R:RM c A) (hρ:∀x∈o.op.operands,RV c (ρt x) (ρa x)) (h:(top P ρt c.tm o.op).holds K):∃v tm',K v tm'∧OpOk P fl o ρa c A v tm':=by
 obtain⟨dst,op,ty,pos,after,guard⟩:=o
 simp only at h hρ
 have same:∀{v:TV} {a:AVal},K v c.tm→aop P ρa c.m fl op=some (a,c.m)→RV c v a→∃v tm',K v tm'∧OpOk P fl ⟨dst,op,ty,pos,after,guard⟩ ρa c A v tm':=
  fun hk ha hr=>⟨_,_,hk,ok_same R ha hr⟩
 have cells:∀{l:List TV} {cs:List AVal},K (.ptr c.tm.length 0) (c.tm++[⟨true, .cells l⟩])→LV c l cs→aop P ρa c.m fl op=some (.ptr (some (c.m.size,0)),c.m.push cs)→∃v tm',K v tm'∧OpOk P fl ⟨dst,op,ty,pos,after,guard⟩ ρa c A v tm':=by
  intro l cs hk hl ha
  obtain⟨h1,h2⟩:=add_ok (tk:= .cells l) (loc:=some (c.m.size,0)) (m':=c.m.push cs) R (by simp) (fun n hn=> .inl (by simp;omega)) (fun n p h=>by
   simp at h
   obtain⟨rfl,rfl⟩:=h
   exact⟨by simp,by simp,hN _ (Nat.le_refl _), .inr (Nat.le_refl _)⟩) (fun l' h=>by
   simp at h
   subst h
   refine⟨_,_,rfl,by simp[hl.1],fun i t ht=> ?_⟩
   obtain⟨a,g1,g2⟩:=hl.get ht
   exact⟨a,by simpa using g1,g2⟩) (fun e l' h=>by cases h)
  exact⟨_,_,hk,_,_,dop_of_aop ha,rfl,h1, .ptr _ 0 c.m.size 0 (by simp[Cfg.add]) (by simp[Cfg.add]),h2⟩
 cases op with
 |move x=>exact same h rfl (hρ x (by simp[Op.operands]))
 |assign x=>exact same h rfl (hρ x (by simp[Op.operands]))
 |pick cc a b=>
  simp only[top]at h
  have hc:=hρ cc (by simp[Op.operands])
  cases hq:ρt cc with
  |tt=>rw[hq]at h hc;generalize hq2:ρa cc=q at hc;cases hc;exact same h (by simp[aop,hq2]) (hρ a (by simp[Op.operands]))
  |ff=>rw[hq]at h hc;generalize hq2:ρa cc=q at hc;cases hc;exact same h (by simp[aop,hq2]) (hρ b (by simp[Op.operands]))
  |_=>rw[hq]at h;exact h.elim
 |alloc t=>
  simp only[top]at h
  split at h
  ·rename_i z hz
   obtain⟨q,hq,hK⟩:=newO_ok h
   obtain⟨c',q1,q2,q3,q4,q5⟩:=new_slf_ok (z:=z) (m':=c.m.push (slfC c.m.size t z)) R (hN _ (Nat.le_refl _)) t (tvAs_lv c z) hq (by simp) (fun n hn=>by simp;omega) (by simp)
   exact⟨_,_,hK,_,c',by rw[q1];exact dop_of_aop (by simp[aop,hz]),q2,q3,q4,q5⟩
  ·exact h.elim
 |box t x=>
  simp only[top]at h
  split at h
  ·rename_i cs hc
   obtain⟨g1,g2⟩:=(hρ x (by simp[Op.operands])).cells hc
   rw[g1.1]at g2
   obtain⟨q,hq,hK⟩:=newO_ok h
   obtain⟨c',q1,q2,q3,q4,q5⟩:=new_slf_ok (z:=(ρa x).cells) (m':=c.m.push (slfC c.m.size t (ρa x).cells)) R (hN _ (Nat.le_refl _)) t g1 hq (by simp) (fun n hn=>by simp;omega) (by simp)
   exact⟨_,_,hK,_,c',by rw[q1];exact dop_of_aop (by simp[aop,g2]),q2,q3,q4,q5⟩
  ·exact h.elim
 |build t parts=>
  simp only[top]at h
  split at h
  ·rename_i fs z hfs hz
   split at h
   ·rename_i cs hcs
    obtain⟨cs',g1,g2⟩:=fill_lv (ρt:=ρt) (ρa:=ρa) parts.toList (fun x hx=>hρ x (by simpa[Op.operands]using hx)) (tvAs_lv c z) hcs
    exact same h (a:= .agg cs') (by simp only[aop,hfs,hz,g1];rfl) (.agg _ _ g2.1 g2.2)
   ·exact h.elim
  ·exact h.elim
 |buildSlice t len parts=>
  simp only[top]at h
  split at h
  case h_2=>exact h.elim
  rename_i e zl hes hzl
  obtain⟨te,ht,hsz⟩:=ekS_spec hes
  rw[ht]at hzl
  simp only[Option.bind_some]at hzl
  obtain⟨z,hz,hzl⟩:=Option.map_eq_some_iff.1 hzl
  cases hb:(Nat.beq zl e.es&&Nat.ble (len*e.es) 16777216)with
  |false=>rw[hb]at h;exact h.elim
  |true=>
  rw[hb]at h
  simp only[cond_true]at h
  rw[Bool.and_eq_true]at hb
  have e1:=Nat.eq_of_beq_eq_true hb.1
  have e2:=Nat.le_of_ble_eq_true hb.2
  split at h
  case h_2=>exact h.elim
  rename_i l hl
  cases hb2:Nat.beq l.length len with
  |false=>rw[hb2]at h;exact h.elim
  |true=>
  rw[hb2]at h
  simp only[cond_true]at h
  have e3:=Nat.eq_of_beq_eq_true hb2
  have hfl:∀(len:Nat),((List.replicate len z).flatten).length=len*e.es:=by
   intro len
   induction len with
   |zero=>simp
   |succ n ih=>simp[List.replicate_succ,ih,hzl,e1,Nat.succ_mul];omega
  have hpl:parts.toList.length=len:=by
   rw[←e3]
   have:∀(ps:List (Nat×TV)) (s:Nat) (l:List e.T),lbuild e s ps=some l→l.length=ps.length:=by
    intro ps
    induction ps with
    |nil=>intro s l h;simp[lbuild]at h;subst h;rfl
    |cons p ps ih=>
     intro s l h
     obtain⟨i,v⟩:=p
     simp only[lbuild]at h
     split at h
     ·split at h
      ·rename_i x l' _ h4
       rename_i vs _ _ _ _
       cases hb:(Nat.beq i s&&Nat.beq vs.length e.es)with
       |false=>rw[hb]at h;cases h
       |true=>rw[hb]at h;simp at h;subst h;simp[ih _ _ h4]
      ·cases h
     ·cases h
   have:=this _ _ _ hl
   simpa using this.symm
  obtain⟨_,cs',g1,g2,g3,g4⟩:=build_row (ρt:=ρt) (ρa:=ρa) (e:=e) parts.toList (fun x hx=>hρ x (by simpa[Op.operands]using hx)) (s:=0) (cs:=(List.replicate len z).flatten) (by rw[hfl,hpl];simp) hl
  simp only[Nat.zero_mul,List.drop_zero]at g4
  have run:aop P ρa c.m fl (.buildSlice t len parts)=some (.sl c.m.size 0 len (some len) e.es,c.m.push cs'):=by
   simp only[aop,ht,hsz,hz]
   rw[if_pos ⟨by rw[hzl,e1],by omega⟩,g1]
   rfl
  rcases Nat.eq_zero_or_pos len with h0|h0
  ·
   subst h0
   simp only at h
   obtain⟨r1,r2⟩:=fix_ok (cs:=cs') R
   have hd:DOp P fl ⟨dst, .buildSlice t 0 parts,ty,pos,after,guard⟩ ρa c.m (.sl c.m.size 0 0 (some 0) e.es) ((c.m.push cs').view (fun _=>false) (fun n=>n==c.m.size)):=by
    have d0:=dop_of_aop (o:=⟨dst, .buildSlice t 0 parts,ty,pos,after,guard⟩) run
    refine⟨⟨d0.1.size,fun n hn hf=>r2.out n hn (fun q=>by have:=hA n q;omega),fun n hn=> ?_⟩,fun β w a hρ' hs hf K' Q hK=>d0.2 β w a hρ' hs hf K' Q fun cv β' w' hv hp=>hK cv β' w' hv ⟨sim_view hp.sim,hp.ext,hp.nb,hp.fr,hp.os,hp.tape,hp.output,hp.size⟩⟩
    have:((c.m.push cs').view (fun _=>false) (fun n=>n==c.m.size)).blk n=c.m.blk n:=by
     have h1:¬n=c.m.size:=by omega
     simp[Mem.view,h1]
    rw[this];exact⟨id,id⟩
   exact⟨_,_,h,_,⟨c.E,c.tm,(c.m.push cs').view (fun _=>false) (fun n=>n==c.m.size),fun n=>c.F n∨n=c.m.size,fun n=>c.N n∨n=c.m.size⟩,hd,rfl,r1, .nz _ _ (.inr ⟨_,_,rfl, .inr rfl,Nat.zero_le _⟩),r2⟩
  ·obtain⟨len',rfl⟩:∃q,len=q+1:=⟨len-1,by omega⟩
   simp only at h
   obtain⟨c',q1,q2,q3,q4,q5⟩:=new_row_ok R (hN _ (Nat.le_refl _)) g4 (some (len'+1))
   refine⟨_,_,h,_,c',by rw[q1];exact dop_of_aop run,q2,q3, ?_,q5⟩
   rw[e3]at q4;exact q4
 |load t x=>
  obtain⟨v,hk,b,g1,g2⟩:=ok_load (K:=K) R (hρ x (by simp[Op.operands])) h
  exact same hk (by simp[aop,g1]) g2
 |store t x y=>
  obtain⟨v,tm',hk,rfl,c',g1,g2,g3,g4⟩:=ok_store (K:=K) hA R (hρ x (by simp[Op.operands])) (hρ y (by simp[Op.operands])) h
  exact⟨_,_,hk,_,c',dop_of_aop (by simp only[aop,g1];rfl),g2,g3, .tup [] [] rfl (fun i t a h=>by simp at h),g4⟩
 |nilCheck x=>
  simp only[top]at h
  have hx:=hρ x (by simp[Op.operands])
  cases hq:ρt x with
  |ptr k q=>
   rw[hq]at h hx
   obtain⟨n,p,h1,h2,h3⟩:=rv_ptr hx
   exact same h (by simp only[aop,h3]) (.ptr k q n p h1 h2)
  |eptr k i j=>
   rw[hq]at h hx
   simp only at h
   cases hlv:liveT c.tm k with
   |false=>rw[hlv]at h;exact h.elim
   |true=>
   rw[hlv]at h
   generalize hq2:ρa x=q at hx
   cases hx with
   |eptrD _ _ _ b hb hd _ ho=>simp[liveT,hb,hd,TK.shape]at hlv
   |eptr _ _ _ b e len n p hb hs hE h0 h1=>exact same h (by simp only[aop,hq2]) (.eptr k i j b e len n p hb hs hE h0 h1)
  |fptr cs=>
   rw[hq]at h hx
   have hx':=hx
   obtain⟨n,p,_,_,_,h3⟩:=rv_fptr hx
   rw[h3]at hx'
   exact same h (by simp only[aop,h3]) hx'
  |fn f a b=>
   rw[hq]at h hx
   generalize hq2:ρa x=q at hx
   cases hx with
   |fn _ _ _ as bs h1 h2 r1 r2=>exact same h (by simp only[aop,hq2]) (.fn f _ _ as bs h1 h2 r1 r2)
  |_=>rw[hq]at h;exact h.elim
 |binOp op t x y yt=>
  obtain⟨v,hk,q,g1,g2⟩:=ok_binY (hρ x (by simp[Op.operands])) (hρ y (by simp[Op.operands])) h
  exact same hk (by simp only[aop,g1];rfl) g2
 |unOp op t x=>
  have hx:=hρ x (by simp[Op.operands])
  cases op with
  |not=>
   simp only[top]at h
   cases hq:ρt x with
   |tt=>rw[hq]at h hx;generalize hq2:ρa x=q at hx;cases hx;exact same h (by simp only[aop,hq2];rfl) .ff
   |ff=>rw[hq]at h hx;generalize hq2:ρa x=q at hx;cases hx;exact same h (by simp only[aop,hq2];rfl) .tt
   |bool b=>rw[hq]at h hx;generalize hq2:ρa x=q at hx;cases hx;exact same h (by simp only[aop,hq2]) (.bool _)
   |_=>rw[hq]at h;exact h.elim
  |neg=>
   simp only[top]at h
   cases hq:ρt x with
   |int k n=>rw[hq]at h hx;generalize hq2:ρa x=q at hx;cases hx;exact same h (by simp only[aop,hq2]) (.int _ _)
   |_=>rw[hq]at h;exact h.elim
  |_=>exact h.elim
 |convert src dst x=>
  simp only[top]at h
  have hx:=hρ x (by simp[Op.operands])
  split at h
  ·rename_i kk n q k h1 h2 h3
   rw[h1]at hx
   generalize hq2:ρa x=q at hx
   cases hx
   exact same h (by simp only[aop,aconvert,hq2,h2,h3];rfl) (.int _ _)
  ·rename_i s h1 h2 h3
   rw[h1]at hx
   have:=rv_str hx
   exact same h (by simp only[aop,aconvert,this,h2,h3];rfl) (.str _)
  ·rename_i h2 h3
   split at h
   ·rename_i l hr hk
    obtain⟨hpos,hK⟩:=h
    rcases row_of R hr hx with⟨rfl,_⟩|⟨n,p,cap,hb,g1,g2,g3,g4⟩
    ·simp at hpos
    ·refine same hK (a:= .str ⟨(bytesOf l).toArray⟩) ?_ (.str _)
     have hal:alds c.m n p l.length=some (((c.m.blk n).cells.drop p).take l.length):=by
      unfold alds
      rw[if_pos ⟨g1,g2,by simpa[EK.es]using g3⟩]
     have hes:EK.byte.es=1:=rfl
     simp only[aop,aconvert,hb,h2,h3,hk,if_true,hes,hal,Option.bind_some]
     rw[bytes_cells (l:=l) (by simp;have:=g3;simp[EK.es]at this;omega) (fun i y hy=> ?_)]
     ·rfl
     ·obtain⟨a,q1,q2⟩:=g4 i y 0 (.int .u8 y) hy rfl
      cases q2
      have hi:=getElem?_lt hy
      rw[List.getElem?_take,if_pos hi,List.getElem?_drop]
      simpa[EK.es]using q1
   ·exact h.elim
  ·exact h.elim
 |makeFunc fn first captured=>
  cases fn with
  |func f=>
   have h1:=LV.map (c:=c) (f:=ρt) (g:=ρa) first.toList (fun x hx=>hρ x (by simp[Op.operands]at hx⊢;exact .inl hx))
   have h2:=LV.map (c:=c) (f:=ρt) (g:=ρa) captured.toList (fun x hx=>hρ x (by simp[Op.operands]at hx⊢;exact .inr hx))
   exact same h rfl (.fn f _ _ _ _ h1.1 h2.1 h1.2 h2.2)
  |_=>exact h.elim
 |makeSlice t l cc=>
  simp only[top]at h
  split at h
  case h_2=>exact h.elim
  rename_i e by_ z kl ll kc cv hes hby hz hl hc
  obtain⟨te,ht,hsz⟩:=ekS_spec hes
  rw[ht]at hby hz
  simp only[Option.bind_some]at hby hz
  have hl':=hρ l (by simp[Op.operands])
  have hc':=hρ cc (by simp[Op.operands])
  rw[hl]at hl'
  rw[hc]at hc'
  generalize hq1:ρa l=q1 at hl'
  generalize hq2:ρa cc=q2 at hc'
  cases hl';cases hc'
  split at h
  case h_2=>exact h.elim
  rename_i x hx
  cases hb:Nat.ble by_ 1024 with
  |false=>rw[hb]at h;exact h.elim
  |true=>
  rw[hb]at h
  have e1:=Nat.le_of_ble_eq_true hb
  obtain⟨⟨c1,rfl,c3⟩,hK⟩:=h
  have hlv:LV c (enc e x) z:=dec_lv hx (tvAs_lv c z)
  have hzl:z.length=e.es:=by rw[←hlv.1,enc_length]
  have run:aop P ρa c.m fl (.makeSlice t l cc)=some (.sl c.m.size 0 ll.toNat (some ll.toNat) e.es,c.m.push (List.replicate ll.toNat z).flatten):=by
   simp only[aop,amake,ht,hq1,hq2,hsz,hby,hz]
   rw[if_pos ⟨e1,e.es_pos,hzl,c1,Int.le_refl _,c3⟩]
  have hrow:Row c e (List.replicate ll.toNat x) (List.replicate ll.toNat z).flatten:=by
   generalize ll.toNat=n
   induction n with
   |zero=>exact Row.nil _ _
   |succ n ih=>
    rw[List.replicate_succ,List.replicate_succ,List.flatten_cons,←List.singleton_append]
    exact(Row.one hlv).append ih
  obtain⟨c',q1,q2,q3,q4,q5⟩:=new_row_ok R (hN _ (Nat.le_refl _)) hrow (some ll.toNat)
  refine⟨_,_,hK,_,c',by rw[q1];exact dop_of_aop run,q2,q3, ?_,q5⟩
  simp only[List.length_replicate]at q4
  exact q4
 |slice t x lo hi mx=>
  have opt:∀(q:Option Operand),(∀y∈q.toArray,RV c (ρt y) (ρa y))→((q.map ρt=none∧q.map ρa=none)∨∃t a,q.map ρt=some t∧q.map ρa=some a∧RV c t a):=by
   intro q hq
   cases q with
   |none=>exact .inl ⟨rfl,rfl⟩
   |some y=>exact .inr ⟨_,_,rfl,rfl,hq y (by simp)⟩
  refine ok_slice hA R (hρ x (by simp[Op.operands])) (opt lo fun y hy=>hρ y (by simp[Op.operands]at hy⊢;simp[hy])) (opt hi fun y hy=>hρ y (by simp[Op.operands]at hy⊢;simp[hy])) (opt mx fun y hy=>hρ y (by simp[Op.operands]at hy⊢;simp[hy])) h (fun q hq=>dop_of_aop ?_)
  simp only[aop,hq];rfl
 |fieldAddr s x f=>
  simp only[top]at h
  have hx:=hρ x (by simp[Op.operands])
  split at h
  case h_2=>exact h.elim
  rename_i off ft htf
  split at h
  case h_2=>exact h.elim
  rename_i sz hsz
  cases hq:ρt x with
  |ptr k q=>
   rw[hq]at h hx
   obtain⟨n,p,h1,h2,h3⟩:=rv_ptr hx
   refine same h (a:= .ptr (some (n,p+(q+off)))) ?_ (.ptr k _ n p h1 h2)
   simp only[aop,afieldAddr,h3,htf,hsz,Nat.add_assoc];rfl
  |eptr k i j=>
   rw[hq]at h hx
   simp only at h
   cases hlv:liveT c.tm k with
   |false=>rw[hlv]at h;exact h.elim
   |true=>
   rw[hlv]at h
   generalize hq2:ρa x=q at hx
   cases hx with
   |eptrD _ _ _ b hb hd _ ho=>simp[liveT,hb,hd,TK.shape]at hlv
   |eptr _ _ _ b e len n p hb hs hE h0 h1=>
    refine same h (a:= .ptr (some (n,p+i.toNat*e.es+(j+off)))) ?_ (.eptr k i _ b e len n p hb hs hE h0 h1)
    simp only[aop,afieldAddr,hq2,htf,hsz,Nat.add_assoc];rfl
  |fptr cs=>
   rw[hq]at h hx
   obtain⟨n,p,hF,hp,hr,h3⟩:=rv_fptr hx
   simp only at h
   cases hof:Nat.ble off cs.length with
   |false=>rw[hof]at h;exact h.elim
   |true=>
   rw[hof]at h
   have hoff:=Nat.le_of_ble_eq_true hof
   refine same h (a:= .ptr (some (n,p+off))) ?_ (.fptr _ n (p+off) (fun i=>((c.m.blk n).cells[p+off+i]?).getD .any) hF (by simp;omega) (fun i hi=> ?_) (fun i t ht=> ?_))
   ·simp only[aop,afieldAddr,h3,htf,hsz];rfl
   ·simp at hi
    have:p+off+i<(c.m.blk n).cells.length:=by omega
    rw[List.getElem?_eq_getElem this];rfl
   ·rw[List.getElem?_drop]at ht
    obtain⟨a,g1,g2⟩:=hr _ _ ht
    rw[←Nat.add_assoc]at g1
    simp only[g1,Option.getD_some]
    exact g2
  |_=>rw[hq]at h;exact h.elim
 |field s x f=>
  simp only[top]at h
  have hx:=hρ x (by simp[Op.operands])
  split at h
  case h_2=>exact h.elim
  rename_i cs off ft hq htf
  rw[hq]at hx
  generalize hq2:ρa x=q at hx
  cases hx with
  |agg _ as hl hr=>
  obtain⟨v,h1,hK⟩:=optR_holds h
  rcases ok_field ⟨hl,hr⟩ h1 with⟨k,g1,g2,g3⟩|⟨g1,a,g2,g3⟩
  ·exact same hK (by simp only[aop,hq2,htf,g1,g2]) g3
  ·refine same hK (a:=a) ?_ g3
   simp only[aop,hq2,htf,g1]
   cases tSize P ft<;>simp[g2]
 |indexAddr t x i=>
  obtain⟨v,hk,q,g1,g2⟩:=ok_indexAddr (K:=K) R (hρ x (by simp[Op.operands])) (hρ i (by simp[Op.operands])) h
  exact same hk (by simp only[aop,g1];rfl) g2
 |index t x i=>
  simp only[top]at h
  have hx:=hρ x (by simp[Op.operands])
  have hi:=hρ i (by simp[Op.operands])
  split at h
  case h_2=>exact h.elim
  rename_i s kk n hk h1 h2
  obtain⟨⟨c1,c2⟩,hK⟩:=h
  rw[h1]at hx
  rw[h2]at hi
  generalize hq1:ρa x=q1 at hx
  generalize hq2:ρa i=q2 at hi
  cases hx;cases hi
  refine same hK (a:= .int .u8 (s.getD n.toNat 0).toNat) ?_ (.int _ _)
  have hlt:n.toNat<s.length:=by omega
  have hg:(⟨s.toArray⟩:ByteArray)[n.toNat]? =some (s.getD n.toNat 0):=by
   rw[getElem?_pos (⟨s.toArray⟩:ByteArray) n.toNat (show n.toNat<(⟨s.toArray⟩:ByteArray).size by simpa[ByteArray.size]using hlt)]
   have:(⟨s.toArray⟩:ByteArray)[n.toNat]'(by simpa[ByteArray.size]using hlt)=s[n.toNat]:=rfl
   rw[this,List.getD_eq_getElem?_getD,List.getElem?_eq_getElem hlt]
   rfl
  simp only[aop,hq1,hq2,intVal]
  rw[if_pos ⟨hk,c1⟩,hg]
 |extract x i=>
  simp only[top]at h
  have hx:=hρ x (by simp[Op.operands])
  split at h
  case h_2=>exact h.elim
  rename_i xs hq
  rw[hq]at hx
  generalize hq2:ρa x=q at hx
  cases hx with
  |tup _ as hl hr=>
  obtain⟨v,h1,hK⟩:=optR_holds h
  obtain⟨a,g1,g2⟩:=(show LV c xs as from⟨hl,hr⟩).get h1
  exact same hK (by simp only[aop,hq2,g1];rfl) g2
 |call cl=>
  obtain⟨callee,args,argTypes⟩:=cl
  simp only[top]at h
  split at h
  ·rename_i x t
   have hx:=hρ x (by simp[Op.operands,Call.operands])
   split at h
   ·rename_i s hk hq
    rw[hq]at hx
    refine same h (a:= .int .i64 s.length) ?_ (.int _ _)
    simp only[aop,abuiltin,alen,hk,rv_str hx]
    simp[ByteArray.size]
   ·rename_i hk hq
    rw[hq]at hx
    generalize hq2:ρa x=q at hx
    cases hx
    exact same h (by simp only[aop,abuiltin,alen,hk,hq2];rfl) (.int _ _)
   ·rename_i es hk hq
    rw[hq]at hx
    generalize hq2:ρa x=q at hx
    cases hx with
    |nz _ _ ha=>
    rcases ha with rfl|⟨n,o',rfl,_⟩
    ·exact same h (by simp only[aop,abuiltin,alen,hk,hq2];rfl) (.int _ _)
    ·exact same h (by simp only[aop,abuiltin,alen,hk,hq2];rfl) (.int _ _)
   ·rename_i e l hk hq
    rw[hq]at hx
    rcases rv_pl hx with⟨rfl,hE⟩|⟨n,p,cap,hF,hp,ha,hr⟩
    ·rcases hE with h'|h'|⟨n,o',cap,h'⟩
     ·exact same h (by simp only[aop,abuiltin,alen,hk,h'];rfl) (.int _ _)
     ·exact same h (by simp only[aop,abuiltin,alen,hk,h'];rfl) (.int _ _)
     ·exact same h (by simp only[aop,abuiltin,alen,hk,h'];rfl) (.int _ _)
    ·exact same h (by simp only[aop,abuiltin,alen,hk,ha];rfl) (.int _ _)
   ·rename_i k hk hq
    rw[hq]at hx
    split at h
    case h_2=>exact h.elim
    rename_i b hb
    split at h
    case h_2=>exact h.elim
    rename_i e n hs
    generalize hq2:ρa x=q at hx
    cases hx with
    |slD _ b' hb' hd=>rw[hb]at hb';simp at hb';subst hb';rw[hd]at hs;cases hs
    |sl _ b' e' len n' p cap hb' hs' hE=>
     rw[hb]at hb';simp at hb';subst hb'
     rw[hs]at hs';simp at hs'
     obtain⟨rfl,rfl⟩:=hs'
     exact same h (by simp only[aop,abuiltin,alen,hk,hq2];rfl) (.int _ _)
    |slV _ b' e' _ hb' hs' hE ha=>
     rw[hb]at hb';simp at hb';subst hb'
     rw[hs]at hs';simp at hs'
     obtain⟨rfl,rfl⟩:=hs'
     rcases ha with rfl|⟨n',o',rfl,_⟩
     ·exact same h (by simp only[aop,abuiltin,alen,hk,hq2];rfl) (.int _ _)
     ·exact same h (by simp only[aop,abuiltin,alen,hk,hq2];rfl) (.int _ _)
   ·rename_i k hk hq
    rw[hq]at hx
    split at h
    case h_2=>exact h.elim
    rename_i b hb
    split at h
    case h_2=>exact h.elim
    rename_i n hs
    generalize hq2:ρa x=q at hx
    cases hx with
    |sbD _ b' hb' hd=>rw[hb]at hb';simp at hb';subst hb';rw[hd]at hs;cases hs
    |sbV _ b' hb' hs' hE=>
     rw[hb]at hb';simp at hb';subst hb'
     rw[hs]at hs';simp at hs'
     subst hs'
     exact same h (by simp only[aop,abuiltin,alen,hk,hq2];rfl) (.int _ _)
    |sb _ b' len n' hb' hs' hE=>
     rw[hb]at hb';simp at hb';subst hb'
     rw[hs]at hs';simp at hs'
     subst hs'
     exact same h (by simp only[aop,abuiltin,alen,hk,hq2];rfl) (.int _ _)
   ·exact h.elim
  ·rename_i s x t tx
   have hs:=hρ s (by simp[Op.operands,Call.operands])
   have hx:=hρ x (by simp[Op.operands,Call.operands])
   split at h
   ·rename_i kk n hq
    rw[hq]at hx
    generalize hq1:ρa x=q1 at hx
    unfold tzap at h
    split at h
    case h_2=>exact h.elim
    rename_i e by_ z n' hes htx hby hz hqs hqn
    rw[TV.int.injEq]at hqn
    obtain⟨rfl,rfl⟩:=hqn
    obtain⟨te,ht,hsz⟩:=ekS_spec hes
    rw[ht]at hby hz
    simp only[Option.bind_some]at hby hz
    rw[hqs]at hs
    generalize hq2:ρa s=q2 at hs
    cases hs;cases hx
    split at h
    case h_2=>exact h.elim
    rename_i y hy
    cases hb:(Nat.ble by_ 1024&&Nat.beq e.es 1)with
    |false=>rw[hb]at h;exact h.elim
    |true=>
    rw[hb]at h
    rw[Bool.and_eq_true]at hb
    have e1:=Nat.le_of_ble_eq_true hb.1
    have e2:=Nat.eq_of_beq_eq_true hb.2
    obtain⟨⟨c1,c3⟩,hK⟩:=h
    rw[e2]at hsz
    have none':aappend P fl c.m t tx .nilSl (.int .i64 n)=none:=by
     unfold aappend
     split
     ·split
      ·split
       ·rfl
       ·rfl
      ·rfl
     ·rfl
    have run:aop P ρa c.m fl (.call ⟨.builtin .append,⟨[s,x]⟩,⟨[t,tx]⟩⟩)=some (.sl c.m.size 0 n.toNat none 1,c.m.push (List.replicate n.toNat z)):=by
     simp only[aop,abuiltin,hq1,hq2,none',azap,ht,htx,hsz,hby,hz]
     rw[if_pos ⟨e1,c1,c3⟩]
    have hrow:Row c e (List.replicate n.toNat y) (List.replicate n.toNat z):=by
     refine⟨by simp[e2],fun i y' j t h1 h2=> ?_⟩
     have hi:i<n.toNat:=by have:=getElem?_lt h1;simpa using this
     rw[List.getElem?_replicate,if_pos hi]at h1
     simp at h1
     subst h1
     have hj:j<e.es:=by rw[←enc_length e y];exact getElem?_lt h2
     have hj0:j=0:=by omega
     subst hj0
     obtain⟨a,q1,q2⟩:=(dec_lv hy (LV.single (tvA_rv c z))).get h2
     simp at q1
     subst q1
     exact⟨z,by rw[e2];simp[hi],q2⟩
    obtain⟨c',q1,q2,q3,q4,q5⟩:=new_row_ok R (hN _ (Nat.le_refl _)) hrow none
    refine⟨_,_,hK,_,c',by rw[q1];exact dop_of_aop run,q2,q3, ?_,q5⟩
    simp only[List.length_replicate,e2]at q4
    exact q4
   ·rename_i q0 hq
    rw[hq]at hx
    obtain⟨v,tm',hk,q,c',g1,g2,g3,g4,g5⟩:=ok_sapp hA (hN _ (Nat.le_refl _)) R hs hx h
    generalize hq1:ρa x=q1 at hx g1
    cases hx
    have n1:aappend P fl c.m t tx (ρa s) (.str ⟨q0.toArray⟩)=none:=by
     unfold aappend
     split
     ·split
      ·split
       ·rfl
       ·rfl
      ·rfl
     ·rfl
    have n2:azap P c.m t tx (ρa s) (.str ⟨q0.toArray⟩)=none:=by
     unfold azap
     split
     ·rename_i e;cases e
     ·rfl
    exact⟨_,_,hk,q,c',dop_of_aop (by simp only[aop,abuiltin,hq1,n1,n2,g1]),g2,g3,g4,g5⟩
   obtain⟨v,tm',hk,q,c',g1,g2,g3,g4,g5⟩:=ok_append hA (hN _ (Nat.le_refl _)) R hs hx h
   exact⟨_,_,hk,q,c',dop_of_aop (by simp only[aop,abuiltin,g1]),g2,g3,g4,g5⟩
  ·rename_i d x t tx
   obtain⟨v,tm',hk,q,c',g1,g2,g3,g4,g5⟩:=ok_copy (fl:=fl) hA R (hρ d (by simp[Op.operands,Call.operands])) (hρ x (by simp[Op.operands,Call.operands])) h
   exact⟨_,_,hk,q,c',dop_of_aop (by simp only[aop,abuiltin,g1]),g2,g3,g4,g5⟩
  ·rename_i x t
   have hx:=hρ x (by simp[Op.operands,Call.operands])
   split at h
   case h_2=>exact h.elim
   rename_i hk hq
   rw[hq]at hx
   generalize hq2:ρa x=q at hx
   cases hx
   exact same h (a:= .int .i64 0) (by simp only[aop,abuiltin,hk,hq2]) (.int _ _)
  ·exact h.elim
 |makeMap t r=>
  cases r with
  |some r=>exact h.elim
  |none=>
   obtain⟨r1,r2⟩:=newK_ok R (hN _ (Nat.le_refl _))
   exact⟨_,_,h, .map (some c.m.size),c.add ⟨true, .keys []⟩ (some (c.m.size,0)) (c.m.pushB ⟨[], .mp []⟩),dop_of_aop rfl,rfl,r1, .mp _ c.m.size 0 (by simp[Cfg.add]) (by simp[Cfg.add]),r2⟩
 |insert t x k y=>
  obtain⟨v,tm',hk,rfl,c',g1,g2,g3,g4⟩:=ok_tset (fl:=fl) hA R (hρ x (by simp[Op.operands])) (hρ k (by simp[Op.operands])) (hρ y (by simp[Op.operands])) h
  exact⟨_,_,hk,aundef,c',dop_of_aop g1,g2,g3, .tup [] [] rfl (fun i t a h=>by simp at h),g4⟩
 |mapUpdate t x k y=>
  obtain⟨v,tm',hk,rfl,c',g1,g2,g3,g4⟩:=ok_tset (fl:=fl) hA R (hρ x (by simp[Op.operands])) (hρ k (by simp[Op.operands])) (hρ y (by simp[Op.operands])) h
  exact⟨_,_,hk,aundef,c',dop_of_aop g1,g2,g3, .tup [] [] rfl (fun i t a h=>by simp at h),g4⟩
 |lookup t x k ok=>
  cases ok with
  |true=>exact h.elim
  |false=>
   obtain⟨v,hk,u,g1,g2⟩:=ok_task R (hρ x (by simp[Op.operands])) (hρ k (by simp[Op.operands])) h
   exact same hk (by simp only[aop,g1];rfl) g2
 |_=>exact h.elim
theorem ok_sliceV {t:TypeId} {k0:Nat} {a:AVal} {lo hi:Option TV} {lo' hi':Option AVal} (hx:RV c (.sl k0) a)
  (hlo:(lo=none∧lo'=none)∨∃t a,lo=some t∧lo'=some a∧RV c t a) (hhi:(hi=none∧hi'=none)∨∃t a,hi=some t∧hi'=some a∧RV c t a)
  (h:(tsliceV P t (.sl k0) lo hi c.tm).holds K):∃v,K v c.tm∧∃q,aslice P t a lo' hi' none=some q∧RV c v q:=by
 unfold tsliceV at h
 simp only at h
 split at h
 case h_2=>exact h.elim
 rename_i b hb
 split at h
 case h_2=>exact h.elim
 rename_i e n hs
 split at h
 case h_2=>exact h.elim
 rename_i e' h' l hk hes h1 h2
 cases hbe:Nat.beq e'.es e.es with
 |false=>rw[hbe]at h;exact h.elim
 |true=>
 rw[hbe]at h
 obtain⟨⟨c2,c3,c4⟩,hK⟩:=h
 have hee:=Nat.eq_of_beq_eq_true hbe
 cases hx with
 |slD _ b' hb' hd=>rw[hb]at hb';simp at hb';subst hb';rw[hd]at hs;cases hs
 |slV _ b' e2 _ hb' hs' hE ha=>
  rw[hb]at hb';simp at hb';subst hb'
  rw[hs]at hs';simp at hs'
  obtain⟨rfl,rfl⟩:=hs'
  obtain rfl:l=0:=by omega
  obtain rfl:h'=0:=by omega
  have hlo':=ointT_rel h2 hlo
  have hhi':=ointT_rel h1 hhi
  rcases ha with rfl|⟨n,o,rfl,g1,g2⟩
  ·refine⟨_,hK, .nilSl, ?_, .svE _ b e .nilSl hb hs (.inl rfl)⟩
   have hhi2:oint hi' 0=some 0:=hhi'
   simp only[aslice,hk,ekS_bind hes,hee,hhi2,hlo']
  ·refine⟨_,hK, .sl n (o+0*e.es) (0-0) (some (0-0)) e.es, ?_, .svE _ b e _ hb hs (.inr ⟨n,o,by simp,g1,g2⟩)⟩
   simp only[aslice,hk,ekS_bind hes,hee,if_true,hhi',hlo',Option.map_some]
   rfl
 |sl _ b' e2 len m p cap hb' hs' hE=>
  rw[hb]at hb';simp at hb';subst hb'
  have hs2:=hs
  rw[hs']at hs2;simp at hs2
  obtain⟨rfl,rfl⟩:=hs2
  refine⟨_,hK, .sl m (p+l.toNat*e2.es) (h'.toNat-l.toNat) (cap.map (·-l.toNat)) e2.es, ?_, .sv _ l h' b e2 len m p _ hb hs hE c2 c3 c4⟩
  simp only[aslice,hk,ekS_bind hes,hee,if_true,ointT_rel h1 hhi,ointT_rel h2 hlo]
  rw[if_pos ⟨c2,c3,c4⟩]
theorem topV_sound (hA:∀n,A n→fl≤n) (R:RM c A) (hρ:∀x∈o.op.operands,RV c (ρt x) (ρa x)) (h:(topV P ρt c.tm o.op).holds K):∃v tm',K v tm'∧OpOk P fl o ρa c A v tm':=by
 obtain⟨dst,op,ty,pos,after,guard⟩:=o
 simp only at h hρ
 unfold topV at h
 split at h
 case h_2=>exact h.elim
 rename_i t x lo hi mx
 have hx:=hρ x (by simp[Op.operands])
 have opt:∀(q:Option Operand),(∀y∈q.toArray,RV c (ρt y) (ρa y))→((q.map ρt=none∧q.map ρa=none)∨∃t a,q.map ρt=some t∧q.map ρa=some a∧RV c t a):=by
  intro q hq
  cases q with
  |none=>exact .inl ⟨rfl,rfl⟩
  |some y=>exact .inr ⟨_,_,rfl,rfl,hq y (by simp)⟩
 have hlo:=opt lo fun y hy=>hρ y (by simp[Op.operands]at hy⊢;simp[hy])
 have hhi:=opt hi fun y hy=>hρ y (by simp[Op.operands]at hy⊢;simp[hy])
 have hmx:=opt mx fun y hy=>hρ y (by simp[Op.operands]at hy⊢;simp[hy])
 split at h
 case h_2=>
  refine ok_slice hA R hx hlo hhi hmx h (fun q hq=>dop_of_aop ?_)
  simp only[aop,hq];rfl
 rename_i k0 hq0
 rw[hq0]at hx
 obtain⟨v,hK,q,g1,g2⟩:=ok_sliceV hx hlo hhi h
 exact⟨v,_,hK,ok_same R (a:=q) (by simp only[aop,Option.map_none,g1];rfl) g2⟩
theorem top_pure {op:Op} (hp:pureO op=true) (hρ:∀x∈op.operands,RV c (ρt x) (ρa x)) (h:(topD P ρt c.tm op).holds K):∃v,K v c.tm∧∃a,(∀m,aop P ρa m fl op=some (a,m))∧RV c v a:=by
 cases op with
 |slice t x lo hi mx=>
  have hx:=hρ x (by simp[Op.operands])
  have opt:∀(q:Option Operand),(∀y∈q.toArray,RV c (ρt y) (ρa y))→((q.map ρt=none∧q.map ρa=none)∨∃t a,q.map ρt=some t∧q.map ρa=some a∧RV c t a):=by
   intro q hq
   cases q with
   |none=>exact .inl ⟨rfl,rfl⟩
   |some y=>exact .inr ⟨_,_,rfl,rfl,hq y (by simp)⟩
  have hlo:=opt lo fun y hy=>hρ y (by simp[Op.operands]at hy⊢;simp[hy])
  have hhi:=opt hi fun y hy=>hρ y (by simp[Op.operands]at hy⊢;simp[hy])
  unfold topD at h
  simp only at h
  split at h
  ·rename_i k hq
   rw[hq]at hx
   obtain⟨v,hK,q,g1,g2⟩:=ok_sliceV hx hlo hhi h
   exact⟨v,hK,q,fun m=>by simp only[aop,Option.map_none,g1];rfl,g2⟩
  ·rename_i s hq
   rw[hq]at hx
   obtain⟨v,hK,q,g1,g2⟩:=ok_sliceP (.inl ⟨_,rfl⟩) hx hlo hhi h
   exact⟨v,hK,q,fun m=>by simp only[aop,Option.map_none,g1];rfl,g2⟩
  ·rename_i e s hq
   rw[hq]at hx
   obtain⟨v,hK,q,g1,g2⟩:=ok_sliceP (.inr ⟨_,_,rfl⟩) hx hlo hhi h
   exact⟨v,hK,q,fun m=>by simp only[aop,Option.map_none,g1];rfl,g2⟩
  ·exact h.elim
 |move x=>exact⟨_,h,_,fun _=>rfl,hρ x (by simp[Op.operands])⟩
 |assign x=>exact⟨_,h,_,fun _=>rfl,hρ x (by simp[Op.operands])⟩
 |binOp op t x y yt=>
  obtain⟨v,hk,q,g1,g2⟩:=ok_binY (hρ x (by simp[Op.operands])) (hρ y (by simp[Op.operands])) h
  exact⟨v,hk,q,fun m=>by simp only[aop,g1];rfl,g2⟩
 |fieldAddr s x f=>
  simp only[topD,top]at h
  have hx:=hρ x (by simp[Op.operands])
  split at h
  case h_2=>exact h.elim
  rename_i off ft htf
  split at h
  case h_2=>exact h.elim
  rename_i sz hsz
  cases hq:ρt x with
  |ptr k q=>
   rw[hq]at h hx
   obtain⟨n,p,h1,h2,h3⟩:=rv_ptr hx
   refine⟨_,h, .ptr (some (n,p+(q+off))),fun m=> ?_, .ptr k _ n p h1 h2⟩
   simp only[aop,afieldAddr,h3,htf,hsz,Nat.add_assoc];rfl
  |eptr k i j=>
   rw[hq]at h hx
   simp only at h
   cases hlv:liveT c.tm k with
   |false=>rw[hlv]at h;exact h.elim
   |true=>
   rw[hlv]at h
   generalize hq2:ρa x=q at hx
   cases hx with
   |eptrD _ _ _ b hb hd _ ho=>simp[liveT,hb,hd,TK.shape]at hlv
   |eptr _ _ _ b e len n p hb hs hE h0 h1=>
    refine⟨_,h, .ptr (some (n,p+i.toNat*e.es+(j+off))),fun m=> ?_, .eptr k i _ b e len n p hb hs hE h0 h1⟩
    simp only[aop,afieldAddr,hq2,htf,hsz,Nat.add_assoc];rfl
  |fptr cs=>
   rw[hq]at h hx
   obtain⟨n,p,hF,hp,hr,h3⟩:=rv_fptr hx
   simp only at h
   cases hof:Nat.ble off cs.length with
   |false=>rw[hof]at h;exact h.elim
   |true=>
   rw[hof]at h
   have hoff:=Nat.le_of_ble_eq_true hof
   refine⟨_,h, .ptr (some (n,p+off)),fun m=> ?_, .fptr _ n (p+off) (fun i=>((c.m.blk n).cells[p+off+i]?).getD .any) hF (by simp;omega) (fun i hi=> ?_) (fun i t ht=> ?_)⟩
   ·simp only[aop,afieldAddr,h3,htf,hsz];rfl
   ·simp at hi
    have:p+off+i<(c.m.blk n).cells.length:=by omega
    rw[List.getElem?_eq_getElem this];rfl
   ·rw[List.getElem?_drop]at ht
    obtain⟨a,g1,g2⟩:=hr _ _ ht
    rw[←Nat.add_assoc]at g1
    simp only[g1,Option.getD_some]
    exact g2
  |_=>rw[hq]at h;exact h.elim
 |extract x i=>
  simp only[topD,top]at h
  have hx:=hρ x (by simp[Op.operands])
  split at h
  case h_2=>exact h.elim
  rename_i xs hq
  rw[hq]at hx
  generalize hq2:ρa x=q at hx
  cases hx with
  |tup _ as hl hr=>
  obtain⟨v,h1,hK⟩:=optR_holds h
  obtain⟨a,g1,g2⟩:=(show LV c xs as from⟨hl,hr⟩).get h1
  exact⟨v,hK,a,fun m=>by simp only[aop,hq2,g1];rfl,g2⟩
 |unOp op t x=>
  have hx:=hρ x (by simp[Op.operands])
  cases op with
  |not=>
   simp only[topD,top]at h
   cases hq:ρt x with
   |tt=>rw[hq]at h hx;generalize hq2:ρa x=q at hx;cases hx;exact⟨_,h,_,fun m=>(by simp only[aop,hq2];rfl), .ff⟩
   |ff=>rw[hq]at h hx;generalize hq2:ρa x=q at hx;cases hx;exact⟨_,h,_,fun m=>(by simp only[aop,hq2];rfl), .tt⟩
   |bool b=>rw[hq]at h hx;generalize hq2:ρa x=q at hx;cases hx;exact⟨_,h,_,fun m=>(by simp only[aop,hq2]), .bool _⟩
   |_=>rw[hq]at h;exact h.elim
  |neg=>
   simp only[topD,top]at h
   cases hq:ρt x with
   |int k n=>rw[hq]at h hx;generalize hq2:ρa x=q at hx;cases hx;exact⟨_,h,_,fun m=>(by simp only[aop,hq2]), .int _ _⟩
   |_=>rw[hq]at h;exact h.elim
  |_=>exact h.elim
 |_=>cases hp
end ops
end Go.Ab
