/- What is proved here: steps of typed memories: a block goes, a block is added, a block's contents turn. -/
import Derived.Test.YtigomgblkieahaaGreatDoorT1
namespace Go.Ab
set_option linter.unusedVariables false
set_option linter.unusedSimpArgs false
section steps
variable {c:Cfg} {A:Nat→Prop}
theorem RM.live (R:RM c A) {k:Nat} {b:TB} {n p:Nat} (h:c.tm[k]? =some b) (hw:b.w=true) (hk:(∃l,b.k= .cells l)∨∃e l,b.k= .list e l) (hE:c.E k=some (n,p)):n<c.m.size∧(c.m.blk n).mode= .rw∧A n:=by
 obtain⟨w,bk⟩:=b
 simp only at hw hk
 subst hw
 rcases hk with⟨l,rfl⟩|⟨e,l,rfl⟩
 ·obtain⟨n',p',h1,h2,_,h4,_⟩:=R.cells k true l h
  rw[hE]at h1;simp at h1;obtain⟨rfl,rfl⟩:=h1
  exact⟨h2,h4 rfl⟩
 ·rcases R.list k true e l h with⟨h1,_⟩|⟨n',p',h1,h2,_,h4,_⟩
  ·rw[hE]at h1;cases h1
  ·rw[hE]at h1;simp at h1;obtain⟨rfl,rfl⟩:=h1
   exact⟨h2,h4 rfl⟩
def Fr (c:Cfg) (n:Nat):Prop:=(∀(k:Nat) b p,c.tm[k]? =some b→b.k≠ .dead→c.E k=some (n,p)→False)∧¬c.F n∧¬c.N n
def Cfg.drop (c:Cfg) (k:Nat):Cfg:=⟨c.E,c.tm.set k ⟨true, .dead⟩,c.m,c.F,c.N⟩
theorem get_set {α:Type} {l:List α} {k i:Nat} {a x:α} (h:(l.set k a)[i]? =some x):(i=k∧x=a∧k<l.length)∨(i≠k∧l[i]? =some x):=by
 rw[List.getElem?_set]at h
 by_cases e:k=i
 ·subst e
  rw[if_pos rfl]at h
  split at h
  ·rename_i hl;simp at h;exact .inl ⟨rfl,h.symm,hl⟩
  ·cases h
 ·rw[if_neg e]at h;exact .inr ⟨fun q=>e q.symm,h⟩
theorem drop_ok (R:RM c A) {k:Nat} {b:TB} (h:c.tm[k]? =some b) (hw:b.w=true):RM (c.drop k) A∧Stp c (c.drop k) A:=by
 have hk:=getElem?_lt h
 have hmv:Mv c (c.drop k):=by
  refine⟨by simp[Cfg.drop],fun _ _=>rfl,fun i x e n h1 h2=> ?_,fun i x h1 h2=> ?_,fun n hn=>⟨hn,rfl⟩,fun n hn=>⟨hn,rfl⟩⟩
  ·by_cases e':i=k
   ·subst e';exact⟨⟨true, .dead⟩,by simp[Cfg.drop,hk], .inl rfl⟩
   ·exact⟨x,by simp[Cfg.drop,Ne.symm e',h1], .inr h2⟩
  ·by_cases e':i=k
   ·subst e';exact⟨⟨true, .dead⟩,by simp[Cfg.drop,hk],rfl⟩
   ·exact⟨x,by simp[Cfg.drop,Ne.symm e',h1],h2⟩
 refine⟨⟨fun i w l hi=> ?_,fun i w e l hi=> ?_,fun i j x y n p n' p' hne hi hj hxw hx hy hE hE'=> ?_,R.fz,fun i x n p hi hx hE=> ?_,R.nf,fun i ks hi=> ?_,R.gv.mv hmv⟩,hmv,fun i x h1 h2=> ?_,Nat.le_refl _,fun _ _ _=>rfl,fun _ _ _=>rfl,fun _ _ h=>h,fun _ h=> .inl h,fun _ h=> .inl h⟩
 ·rcases get_set hi with⟨_,h2,_⟩|⟨_,h2⟩
  ·cases h2
  ·obtain⟨n,p,g1,g2,g3,g4,g5,g6⟩:=R.cells i w l h2
   exact⟨n,p,g1,g2,g3,g4,g5,fun j t ht=>let ⟨a,q1,q2⟩:=g6 j t ht;⟨a,q1,q2.mv hmv⟩⟩
 ·rcases get_set hi with⟨_,h2,_⟩|⟨_,h2⟩
  ·cases h2
  ·rcases R.list i w e l h2 with g|⟨n,p,g1,g2,g3,g4,g5,g6⟩
   ·exact .inl g
   ·exact .inr ⟨n,p,g1,g2,g3,g4,g5,fun i x j t q1 q2=>let ⟨a,r1,r2⟩:=g6 i x j t q1 q2;⟨a,r1,r2.mv hmv⟩⟩
 ·rcases get_set hi with⟨_,h2,_⟩|⟨_,h2⟩
  ·subst h2;exact absurd rfl hx
  ·rcases get_set hj with⟨_,h3,_⟩|⟨_,h3⟩
   ·subst h3;exact absurd rfl hy
   ·exact R.inj i j x y n p n' p' hne h2 h3 hxw hx hy hE hE'
 ·rcases get_set hi with⟨_,h2,_⟩|⟨_,h2⟩
  ·subst h2;exact absurd rfl hx
  ·exact R.low i x n p h2 hx hE
 ·rcases get_set hi with⟨_,h2,_⟩|⟨_,h2⟩
  ·cases h2
  ·exact R.keys i ks h2
 ·by_cases e':i=k
  ·subst e';rw[h]at h1;simp at h1;subst h1;rw[hw]at h2;cases h2
  ·exact⟨x,by simp[Cfg.drop,Ne.symm e',h1],h2,rfl,Iff.rfl⟩
theorem drop_free (R:RM c A) {k:Nat} {b:TB} (h:c.tm[k]? =some b) (hw:b.w=true) (hk:(∃l,b.k= .cells l)∨∃e l,b.k= .list e l) {n p:Nat} (hE:c.E k=some (n,p)):Fr (c.drop k) n:=by
 refine⟨fun i x q hi hx hE'=> ?_,fun hF=> ?_,fun hF=> ?_⟩
 ·rcases get_set hi with⟨_,h2,_⟩|⟨hne,h2⟩
  ·subst h2;exact hx rfl
  ·exact R.inj k i b x n p n q (Ne.symm hne) h h2 hw (by rcases hk with⟨l,e⟩|⟨e',l,e⟩<;>rw[e]<;>simp) hx hE hE' rfl
 ·have:=(R.live h hw hk hE).2.1
  rw[(R.fz n hF).2]at this
  cases this
 ·have:=(R.live h hw hk hE).2.1
  rw[(R.nf n hF).2]at this
  cases this
def Cfg.add (c:Cfg) (b:TB) (loc:Option (Nat×Nat)) (m':Mem):Cfg:=⟨fun k=>if k=c.tm.length then loc else c.E k,c.tm++[b],m',c.F,c.N⟩
theorem get_add {α:Type} {l:List α} {i:Nat} {a x:α} (h:(l++[a])[i]? =some x):(i=l.length∧x=a)∨(i<l.length∧l[i]? =some x):=by
 rw[List.getElem?_append]at h
 by_cases e:i<l.length
 ·rw[if_pos e]at h;exact .inr ⟨e,h⟩
 ·rw[if_neg e]at h
  cases hq:i-l.length with
  |zero=>rw[hq]at h;simp at h;exact .inl ⟨by omega,h.symm⟩
  |succ q=>rw[hq]at h;simp at h
theorem add_mv {b:TB} {loc:Option (Nat×Nat)} {m':Mem} (R:RM c A) (hb:∀n,n<c.m.size→m'.blk n=c.m.blk n∨(Fr c n∧A n∧(c.m.blk n).mode= .rw)):Mv c (c.add b loc m'):=by
 refine⟨by simp[Cfg.add],fun k hk=>by simp[Cfg.add];omega,fun i x e n h1 h2=>⟨x, ?_, .inr h2⟩,fun i x h1 h2=>⟨x, ?_,h2⟩,fun n hn=>⟨hn, ?_⟩,fun n hn=>⟨hn, ?_⟩⟩
 ·show(c.tm++_)[i]? =_
  rw[List.getElem?_append_left (getElem?_lt h1)];exact h1
 ·show(c.tm++_)[i]? =_
  rw[List.getElem?_append_left (getElem?_lt h1)];exact h1
 ·rcases hb n (R.fz n hn).1 with h|⟨h,_⟩
  ·exact h
  ·exact absurd hn h.2.1
 ·rcases hb n (R.nf n hn).1 with h|⟨h,_⟩
  ·exact h
  ·exact absurd hn h.2.2
def TK.md:TK→Mode
 | .keys ks=> .mp ks
 |_=> .rw
@[simp] theorem TK.md_cells (l:List TV):(TK.cells l).md= .rw:=rfl
@[simp] theorem TK.md_list (e:EK) (l:List e.T):(TK.list e l).md= .rw:=rfl
theorem add_ok (R:RM c A) {tk:TK} {loc:Option (Nat×Nat)} {m':Mem} (hsz:c.m.size≤m'.size) (hb:∀n,n<c.m.size→m'.blk n=c.m.blk n∨(Fr c n∧A n∧(c.m.blk n).mode= .rw))
  (hloc:∀n p,loc=some (n,p)→n<m'.size∧(m'.blk n).mode=tk.md∧A n∧(Fr c n∨c.m.size≤n))
  (hc:∀l,tk= .cells l→∃n p,loc=some (n,p)∧p+l.length≤(m'.blk n).cells.length∧∀(i:Nat) t,l[i]? =some t→∃a,(m'.blk n).cells[p+i]? =some a∧RV c t a)
  (hl:∀e l,tk= .list e l→(loc=none∧l=[])∨∃n p,loc=some (n,p)∧(m'.blk n).cells.length=p+l.length*e.es∧∀(i:Nat) x (j:Nat) t,l[i]? =some x→(enc e x)[j]? =some t→∃a,(m'.blk n).cells[p+i*e.es+j]? =some a∧RV c t a) (hks:∀ks,tk= .keys ks→loc≠none:=by intro ks h;cases h):
  RM (c.add ⟨true,tk⟩ loc m') A∧Stp c (c.add ⟨true,tk⟩ loc m') A:=by
 have hmv:=add_mv (b:=⟨true,tk⟩) (loc:=loc) R hb
 have hE:∀{k:Nat} {x:TB},c.tm[k]? =some x→(c.add ⟨true,tk⟩ loc m').E k=c.E k:=fun h=>hmv.e _ (getElem?_lt h)
 have hEn:(c.add ⟨true,tk⟩ loc m').E c.tm.length=loc:=by simp[Cfg.add]
 have old:∀{k:Nat} {x:TB} {n p:Nat},c.tm[k]? =some x→x.k≠ .dead→c.E k=some (n,p)→n<c.m.size→m'.blk n=c.m.blk n:=by
  intro k x n p h1 h2 h3 h4
  rcases hb n h4 with h|⟨h,_⟩
  ·exact h
  ·exact absurd h3 (fun q=>h.1 k x p h1 h2 q)
 refine⟨⟨fun i w l hi=> ?_,fun i w e l hi=> ?_,fun i j x y n p n' p' hne hi hj hxw hx hy h1 h2=> ?_,fun n hn=> ?_,fun i x n p hi hx h1=> ?_,fun n hn=> ?_,fun i ks hi=> ?_,R.gv.mv hmv⟩,hmv,fun i x h1 h2=> ?_,hsz,fun n hn ha=> ?_,fun n hn hr=> ?_,fun n hn hr=> ?_,fun n hn=> .inl hn,fun n hn=> .inl hn⟩
 ·rcases get_add hi with⟨rfl,h2⟩|⟨_,h2⟩
  ·simp at h2
   obtain⟨rfl,h2⟩:=h2
   obtain⟨n,p,rfl,g1,g2⟩:=hc l h2.symm
   obtain⟨q1,q2,q3,_⟩:=hloc n p rfl
   rw[←h2]at q2
   exact⟨n,p,hEn,q1,by show(m'.blk n).mode≠_;rw[q2];simp[TK.md],fun _=>⟨q2,q3⟩,g1,fun i t ht=>let ⟨a,r1,r2⟩:=g2 i t ht;⟨a,r1,r2.mv hmv⟩⟩
  ·obtain⟨n,p,g1,g2,g3,g4,g5,g6⟩:=R.cells i w l h2
   have hbn:=old h2 (by simp) g1 g2
   refine⟨n,p,(hE h2).trans g1,Nat.lt_of_lt_of_le g2 hsz, ?_, ?_, ?_,fun j t ht=> ?_⟩
   ·show(m'.blk n).mode≠_;rw[hbn];exact g3
   ·show _→(m'.blk n).mode=_∧_;rw[hbn];exact g4
   ·show _≤(m'.blk n).cells.length;rw[hbn];exact g5
   ·obtain⟨a,q1,q2⟩:=g6 j t ht
    exact⟨a,by show(m'.blk n).cells[p+j]? =_;rw[hbn];exact q1,q2.mv hmv⟩
 ·rcases get_add hi with⟨rfl,h2⟩|⟨_,h2⟩
  ·simp at h2
   obtain⟨rfl,h2⟩:=h2
   rcases hl e l h2.symm with⟨rfl,rfl⟩|⟨n,p,rfl,g1,g2⟩
   ·exact .inl ⟨hEn,rfl⟩
   ·obtain⟨q1,q2,q3,_⟩:=hloc n p rfl
    rw[←h2]at q2
    exact .inr ⟨n,p,hEn,q1,by show(m'.blk n).mode≠_;rw[q2];simp[TK.md],fun _=>⟨q2,q3⟩,g1,fun i x j t r1 r2=>let ⟨a,s1,s2⟩:=g2 i x j t r1 r2;⟨a,s1,s2.mv hmv⟩⟩
  ·rcases R.list i w e l h2 with⟨g1,g2⟩|⟨n,p,g1,g2,g3,g4,g5,g6⟩
   ·exact .inl ⟨(hE h2).trans g1,g2⟩
   ·have hbn:=old h2 (by simp) g1 g2
    refine .inr ⟨n,p,(hE h2).trans g1,Nat.lt_of_lt_of_le g2 hsz, ?_, ?_, ?_,fun i x j t r1 r2=> ?_⟩
    ·show(m'.blk n).mode≠_;rw[hbn];exact g3
    ·show _→(m'.blk n).mode=_∧_;rw[hbn];exact g4
    ·show(m'.blk n).cells.length=_;rw[hbn];exact g5
    ·obtain⟨a,q1,q2⟩:=g6 i x j t r1 r2
     exact⟨a,by show(m'.blk n).cells[_]? =_;rw[hbn];exact q1,q2.mv hmv⟩
 ·
  have place:∀{k:Nat} {x:TB} {n p:Nat},c.tm[k]? =some x→x.k≠ .dead→(c.add ⟨true,tk⟩ loc m').E k=some (n,p)→c.E k=some (n,p):=fun h _ q=>(hE h).symm.trans q
  rcases get_add hi with⟨rfl,rfl⟩|⟨_,h3⟩
  ·rw[hEn]at h1
   rcases get_add hj with⟨rfl,_⟩|⟨_,h4⟩
   ·exact absurd rfl hne
   ·have h2':=place h4 hy h2
    rcases(hloc n p h1).2.2.2 with g|g
    ·rintro rfl;exact g.1 j y p' h4 hy h2'
    ·have:=R.low j y n' p' h4 hy h2';omega
  ·have h1':=place h3 hx h1
   rcases get_add hj with⟨rfl,rfl⟩|⟨_,h4⟩
   ·rw[hEn]at h2
    rcases(hloc n' p' h2).2.2.2 with g|g
    ·rintro rfl;exact g.1 i x p h3 hx h1'
    ·have:=R.low i x n p h3 hx h1';omega
   ·exact R.inj i j x y n p n' p' hne h3 h4 hxw hx hy h1' (place h4 hy h2)
 ·obtain⟨h1,h2⟩:=R.fz n hn
  have:=hmv.fz n hn
  exact⟨Nat.lt_of_lt_of_le h1 hsz,by rw[this.2];exact h2⟩
 ·rcases get_add hi with⟨rfl,_⟩|⟨_,h2⟩
  ·rw[hEn]at h1;exact(hloc n p h1).1
  ·exact Nat.lt_of_lt_of_le (R.low i x n p h2 hx ((hE h2).symm.trans h1)) hsz
 ·obtain⟨h1,h2⟩:=R.nf n hn
  have:=hmv.nz n hn
  exact⟨Nat.lt_of_lt_of_le h1 hsz,by rw[this.2];exact h2⟩
 ·rcases get_add hi with⟨rfl,h2⟩|⟨_,h2⟩
  ·simp at h2
   obtain⟨⟨n,p⟩,hl0⟩:=Option.ne_none_iff_exists'.1 (hks ks h2.symm)
   obtain⟨q1,q2,q3,_⟩:=hloc n p hl0
   rw[←h2]at q2
   exact⟨n,p,hEn.trans hl0,q1,q2,q3⟩
  ·obtain⟨n,p,g1,g2,g3,g4⟩:=R.keys i ks h2
   have hbn:=old h2 (by simp) g1 g2
   exact⟨n,p,(hE h2).trans g1,Nat.lt_of_lt_of_le g2 hsz,by show(m'.blk n).mode=_;rw[hbn];exact g3,g4⟩
 ·refine⟨x, ?_,h2,rfl,Iff.rfl⟩
  show(c.tm++_)[i]? =_
  rw[List.getElem?_append_left (getElem?_lt h1)];exact h1
 ·rcases hb n hn with h|⟨_,h,_⟩
  ·exact h
  ·exact absurd h ha
 ·rcases hb n hn with h|⟨_,_,h⟩
  ·exact h
  ·rw[hr]at h;cases h
 ·rcases hb n hn with h|⟨_,_,h⟩
  ·have h':(c.add ⟨true,tk⟩ loc m').m.blk n=c.m.blk n:=h
   rw[←h'];exact hr
  ·exact h
def Cfg.upd (c:Cfg) (k:Nat) (tk:TK) (n:Nat) (cs:List AVal):Cfg:=⟨c.E,c.tm.set k ⟨true,tk⟩,c.m.put n ⟨cs, .rw⟩,c.F,c.N⟩
theorem upd_ok (R:RM c A) {k n p:Nat} {tk tk':TK} {cs:List AVal} (h:c.tm[k]? =some ⟨true,tk⟩) (hlive:(∃l,tk= .cells l)∨∃e l,tk= .list e l) (hE:c.E k=some (n,p)) (hsh:tk'.shape=tk.shape) (hd:tk'≠ .dead)
  (hc:∀l,tk'= .cells l→p+l.length≤cs.length∧∀(i:Nat) t,l[i]? =some t→∃a,cs[p+i]? =some a∧RV c t a)
  (hl:∀e l,tk'= .list e l→cs.length=p+l.length*e.es∧∀(i:Nat) x (j:Nat) t,l[i]? =some x→(enc e x)[j]? =some t→∃a,cs[p+i*e.es+j]? =some a∧RV c t a) (hnk:∀ks,tk'≠ .keys ks:=by intro ks h;cases h):
  RM (c.upd k tk' n cs) A∧Stp c (c.upd k tk' n cs) A:=by
 have hk:=getElem?_lt h
 obtain⟨hn,hrw,hA⟩:=R.live h rfl hlive hE
 have hdead:tk≠ .dead:=by rcases hlive with⟨l,e⟩|⟨e',l,e⟩<;>rw[e]<;>simp
 have same:(c.upd k tk' n cs).tm[k]? =some ⟨true,tk'⟩:=by simp[Cfg.upd,hk]
 have other:∀{i:Nat},i≠k→(c.upd k tk' n cs).tm[i]? =c.tm[i]? :=fun hi=>by simp[Cfg.upd,Ne.symm hi]
 have blk:∀{n'},n'≠n→(c.upd k tk' n cs).m.blk n'=c.m.blk n':=fun h=>by simp[Cfg.upd,h]
 have blkn:(c.upd k tk' n cs).m.blk n=⟨cs, .rw⟩:=by simp[Cfg.upd]
 have hF:∀n',c.F n'→n'≠n:=by
  rintro n' h' rfl
  rw[(R.fz n' h').2]at hrw;cases hrw
 have hN:∀n',c.N n'→n'≠n:=by
  rintro n' h' rfl
  rw[(R.nf n' h').2]at hrw;cases hrw
 have hmv:Mv c (c.upd k tk' n cs):=by
  refine⟨by simp[Cfg.upd],fun _ _=>rfl,fun i x e q h1 h2=> ?_,fun i x h1 h2=> ?_,fun n' hn'=>⟨hn',blk (hF n' hn')⟩,fun n' hn'=>⟨hn',blk (hN n' hn')⟩⟩
  ·by_cases e':i=k
   ·subst e'
    rw[h]at h1;simp at h1;subst h1
    exact⟨_,same, .inr (by show tk'.shape=_;rw[hsh];exact h2)⟩
   ·exact⟨x,(other e').trans h1, .inr h2⟩
  ·by_cases e':i=k
   ·subst e'
    rw[h]at h1;simp at h1;subst h1
    exact absurd h2 hdead
   ·exact⟨x,(other e').trans h1,h2⟩
 have far:∀{i:Nat} {x:TB} {n' p':Nat},i≠k→c.tm[i]? =some x→x.k≠ .dead→c.E i=some (n',p')→n'≠n:=fun hi hx hxd hE'=>
  (R.inj k _ _ _ n p _ _ (Ne.symm hi) h hx rfl hdead hxd hE hE').symm
 refine⟨⟨fun i w l hi=> ?_,fun i w e l hi=> ?_,fun i j x y n1 p1 n2 p2 hne hi hj hxw hx hy h1 h2=> ?_,fun n' hn'=> ?_,fun i x n' p' hi hx h1=> ?_,fun n' hn'=> ?_,fun i ks hi=> ?_,R.gv.mv hmv⟩,hmv,fun i x h1 h2=> ?_,Nat.le_refl _,fun n' hn' ha=> ?_,fun n' hn' hr=> ?_,fun n' hn' hr=> ?_,fun n' h=> .inl h,fun n' h=> .inl h⟩
 ·by_cases e':i=k
  ·subst e'
   rw[same]at hi;simp at hi
   obtain⟨rfl,hi⟩:=hi
   obtain⟨g1,g2⟩:=hc l hi
   exact⟨n,p,hE,hn,by rw[blkn];simp,fun _=>⟨by rw[blkn],hA⟩,by rw[blkn];exact g1,fun i t ht=>let ⟨a,r1,r2⟩:=g2 i t ht;⟨a,by rw[blkn];exact r1,r2.mv hmv⟩⟩
  ·rw[other e']at hi
   obtain⟨n',p',g1,g2,g3,g4,g5,g6⟩:=R.cells i w l hi
   have hb:=blk (far e' hi (by simp) g1)
   exact⟨n',p',g1,g2,by rw[hb];exact g3,by rw[hb];exact g4,by rw[hb];exact g5,fun j t ht=>let ⟨a,q1,q2⟩:=g6 j t ht;⟨a,by rw[hb];exact q1,q2.mv hmv⟩⟩
 ·by_cases e':i=k
  ·subst e'
   rw[same]at hi;simp at hi
   obtain⟨rfl,hi⟩:=hi
   obtain⟨g1,g2⟩:=hl e l hi
   exact .inr ⟨n,p,hE,hn,by rw[blkn];simp,fun _=>⟨by rw[blkn],hA⟩,by rw[blkn];exact g1,fun i x j t r1 r2=>let ⟨a,s1,s2⟩:=g2 i x j t r1 r2;⟨a,by rw[blkn];exact s1,s2.mv hmv⟩⟩
  ·rw[other e']at hi
   rcases R.list i w e l hi with g|⟨n',p',g1,g2,g3,g4,g5,g6⟩
   ·exact .inl g
   ·have hb:=blk (far e' hi (by simp) g1)
    exact .inr ⟨n',p',g1,g2,by rw[hb];exact g3,by rw[hb];exact g4,by rw[hb];exact g5,fun i x j t r1 r2=>let ⟨a,q1,q2⟩:=g6 i x j t r1 r2;⟨a,by rw[hb];exact q1,q2.mv hmv⟩⟩
 ·have back:∀{i:Nat} {x:TB},(c.upd k tk' n cs).tm[i]? =some x→x.w=true→x.k≠ .dead→∃y,c.tm[i]? =some y∧y.w=true∧y.k≠ .dead:=by
   intro i x h1 h2 h3
   by_cases e':i=k
   ·subst e';exact⟨_,h,rfl,hdead⟩
   ·rw[other e']at h1;exact⟨x,h1,h2,h3⟩
  have back':∀{i:Nat} {x:TB},(c.upd k tk' n cs).tm[i]? =some x→x.k≠ .dead→∃y,c.tm[i]? =some y∧y.k≠ .dead:=by
   intro i x h1 h3
   by_cases e':i=k
   ·subst e';exact⟨_,h,hdead⟩
   ·rw[other e']at h1;exact⟨x,h1,h3⟩
  obtain⟨x',q1,q2,q3⟩:=back hi hxw hx
  obtain⟨y',r1,r2⟩:=back' hj hy
  exact R.inj i j x' y' n1 p1 n2 p2 hne q1 r1 q2 q3 r2 h1 h2
 ·have:=R.fz n' hn'
  exact⟨this.1,by rw[blk (hF n' hn')];exact this.2⟩
 ·by_cases e':i=k
  ·subst e';exact R.low i _ n' p' h hdead h1
  ·rw[other e']at hi;exact R.low i x n' p' hi hx h1
 ·have:=R.nf n' hn'
  exact⟨this.1,by rw[blk (hN n' hn')];exact this.2⟩
 ·by_cases e':i=k
  ·subst e'
   rw[same]at hi;simp at hi
   exact absurd hi (hnk ks)
  ·rw[other e']at hi
   obtain⟨n',p',g1,g2,g3,g4⟩:=R.keys i ks hi
   have hb:=blk (far e' hi (by simp) g1)
   exact⟨n',p',g1,g2,by rw[hb];exact g3,g4⟩
 ·by_cases e':i=k
  ·subst e';rw[h]at h1;simp at h1;subst h1;cases h2
  ·exact⟨x,by rw[other e'];exact h1,h2,rfl,Iff.rfl⟩
 ·exact blk (by rintro rfl;exact ha hA)
 ·exact blk (by rintro rfl;rw[hrw]at hr;cases hr)
 ·by_cases e':n'=n
  ·subst e';exact hrw
  ·rw[blk e']at hr;exact hr
theorem fix_ok (R:RM c A) {cs:List AVal}:RM ⟨c.E,c.tm,(c.m.push cs).view (fun _=>false) (fun n=>n==c.m.size),fun n=>c.F n∨n=c.m.size,fun n=>c.N n∨n=c.m.size⟩ A∧
  Stp c ⟨c.E,c.tm,(c.m.push cs).view (fun _=>false) (fun n=>n==c.m.size),fun n=>c.F n∨n=c.m.size,fun n=>c.N n∨n=c.m.size⟩ A:=by
 have old:∀n,n<c.m.size→((c.m.push cs).view (fun _=>false) (fun n=>n==c.m.size)).blk n=c.m.blk n:=fun n hn=>by
  have h1:¬n=c.m.size:=by omega
  simp[Mem.view,h1]
 have new:((c.m.push cs).view (fun _=>false) (fun n=>n==c.m.size)).blk c.m.size=⟨cs, .ro⟩:=by simp[Mem.view,Blk.roify,Mode.wr]
 have hmv:Mv c ⟨c.E,c.tm,(c.m.push cs).view (fun _=>false) (fun n=>n==c.m.size),fun n=>c.F n∨n=c.m.size,fun n=>c.N n∨n=c.m.size⟩:=
  ⟨Nat.le_refl _,fun _ _=>rfl,fun k b e n h1 h2=>⟨b,h1, .inr h2⟩,fun k b h1 h2=>⟨b,h1,h2⟩,fun n hn=>⟨.inl hn,old n (R.fz n hn).1⟩,fun n hn=>⟨.inl hn,old n (R.nf n hn).1⟩⟩
 have hsz:∀{n},n<c.m.size→n<((c.m.push cs).view (fun _=>false) (fun n=>n==c.m.size)).size:=fun h=>by simp[Mem.view];omega
 refine⟨⟨fun i w l hi=> ?_,fun i w e l hi=> ?_,fun i j x y n1 p1 n2 p2 hne hi hj hxw hx hy h1 h2=>R.inj i j x y n1 p1 n2 p2 hne hi hj hxw hx hy h1 h2,fun n' hn'=> ?_,fun i x n' p' hi hx h1=>hsz (R.low i x n' p' hi hx h1),fun n' hn'=> ?_,fun i ks hi=> ?_,R.gv.mv hmv⟩,hmv,fun i x h1 h2=>⟨x,h1,h2,rfl,Iff.rfl⟩,by simp[Mem.view],fun n' hn' _=>old n' hn',fun n' hn' _=>old n' hn',fun n' hn' hr=>by rw[old n' hn']at hr;exact hr,fun n' hn'=>by
  rcases hn' with h|rfl
  ·exact .inl h
  ·exact .inr (.inl (Nat.le_refl _)),fun n' hn'=>by
  rcases hn' with h|rfl
  ·exact .inl h
  ·exact .inr (Nat.le_refl _)⟩
 ·obtain⟨n,p,g1,g2,g3,g4,g5,g6⟩:=R.cells i w l hi
  have hb:=old n g2
  exact⟨n,p,g1,hsz g2,by rw[hb];exact g3,by rw[hb];exact g4,by rw[hb];exact g5,fun j t ht=>let ⟨a,q1,q2⟩:=g6 j t ht;⟨a,by rw[hb];exact q1,q2.mv hmv⟩⟩
 ·rcases R.list i w e l hi with g|⟨n,p,g1,g2,g3,g4,g5,g6⟩
  ·exact .inl g
  ·have hb:=old n g2
   exact .inr ⟨n,p,g1,hsz g2,by rw[hb];exact g3,by rw[hb];exact g4,by rw[hb];exact g5,fun i x j t r1 r2=>let ⟨a,q1,q2⟩:=g6 i x j t r1 r2;⟨a,by rw[hb];exact q1,q2.mv hmv⟩⟩
 ·rcases hn' with h|rfl
  ·have:=R.fz n' h
   exact⟨hsz this.1,by rw[old n' this.1];exact this.2⟩
  ·exact⟨by simp[Mem.view],by rw[new]⟩
 ·rcases hn' with h|rfl
  ·have:=R.nf n' h
   exact⟨hsz this.1,by rw[old n' this.1];exact this.2⟩
  ·exact⟨by simp[Mem.view],by rw[new]⟩
 ·obtain⟨n,p,g1,g2,g3,g4⟩:=R.keys i ks hi
  exact⟨n,p,g1,hsz g2,by rw[old n g2];exact g3,g4⟩
theorem newK_ok (R:RM c A) (hA:A c.m.size):RM (c.add ⟨true, .keys []⟩ (some (c.m.size,0)) (c.m.pushB ⟨[], .mp []⟩)) A∧Stp c (c.add ⟨true, .keys []⟩ (some (c.m.size,0)) (c.m.pushB ⟨[], .mp []⟩)) A:=by
 refine add_ok R (by simp) (fun n hn=> .inl (by simp;omega)) (fun n p h=> ?_) (fun l h=>by cases h) (fun e l h=>by cases h) (fun _ _=>by simp)
 simp at h
 obtain⟨rfl,rfl⟩:=h
 exact⟨by simp,by simp[TK.md],hA, .inr (Nat.le_refl _)⟩
def Cfg.updK (c:Cfg) (k n:Nat) (ks:List (List UInt8)):Cfg:=⟨c.E,c.tm.set k ⟨true, .keys ks⟩,c.m.put n ⟨[], .mp ks⟩,c.F,c.N⟩
theorem updK_ok (R:RM c A) {k n p:Nat} {ks ks':List (List UInt8)} (h:c.tm[k]? =some ⟨true, .keys ks⟩) (hE:c.E k=some (n,p)):RM (c.updK k n ks') A∧Stp c (c.updK k n ks') A:=by
 have hk:=getElem?_lt h
 obtain⟨n0,p0,hE0,hn,hmd,hA⟩:=R.keys k ks h
 rw[hE]at hE0;simp at hE0;obtain⟨rfl,rfl⟩:=hE0
 have same:(c.updK k n ks').tm[k]? =some ⟨true, .keys ks'⟩:=by simp[Cfg.updK,hk]
 have other:∀{i:Nat},i≠k→(c.updK k n ks').tm[i]? =c.tm[i]? :=fun hi=>by simp[Cfg.updK,Ne.symm hi]
 have blk:∀{n'},n'≠n→(c.updK k n ks').m.blk n'=c.m.blk n':=fun h=>by simp[Cfg.updK,h]
 have blkn:(c.updK k n ks').m.blk n=⟨[], .mp ks'⟩:=by simp[Cfg.updK]
 have hF:∀n',c.F n'→n'≠n:=by
  rintro n' h' rfl
  rw[(R.fz n' h').2]at hmd;cases hmd
 have hN:∀n',c.N n'→n'≠n:=by
  rintro n' h' rfl
  rw[(R.nf n' h').2]at hmd;cases hmd
 have hmv:Mv c (c.updK k n ks'):=by
  refine⟨by simp[Cfg.updK],fun _ _=>rfl,fun i x e q h1 h2=> ?_,fun i x h1 h2=> ?_,fun n' hn'=>⟨hn',blk (hF n' hn')⟩,fun n' hn'=>⟨hn',blk (hN n' hn')⟩⟩
  ·by_cases e':i=k
   ·subst e'
    rw[h]at h1;simp at h1;subst h1
    cases h2
   ·exact⟨x,(other e').trans h1, .inr h2⟩
  ·by_cases e':i=k
   ·subst e'
    rw[h]at h1;simp at h1;subst h1
    cases h2
   ·exact⟨x,(other e').trans h1,h2⟩
 have far:∀{i:Nat} {x:TB} {n' p':Nat},i≠k→c.tm[i]? =some x→x.k≠ .dead→c.E i=some (n',p')→n'≠n:=fun hi hx hxd hE'=>
  (R.inj k _ _ _ n p _ _ (Ne.symm hi) h hx rfl (by simp) hxd hE hE').symm
 have back:∀{i:Nat} {x:TB},(c.updK k n ks').tm[i]? =some x→x.k≠ .dead→∃y,c.tm[i]? =some y∧(x.w=true→y.w=true)∧y.k≠ .dead:=by
  intro i x h1 h3
  by_cases e':i=k
  ·subst e';exact⟨_,h,fun _=>rfl,by simp⟩
  ·rw[other e']at h1;exact⟨x,h1,fun q=>q,h3⟩
 refine⟨⟨fun i w l hi=> ?_,fun i w e l hi=> ?_,fun i j x y n1 p1 n2 p2 hne hi hj hxw hx hy h1 h2=> ?_,fun n' hn'=> ?_,fun i x n' p' hi hx h1=> ?_,fun n' hn'=> ?_,fun i ks2 hi=> ?_,R.gv.mv hmv⟩,hmv,fun i x h1 h2=> ?_,Nat.le_refl _,fun n' hn' ha=> ?_,fun n' hn' hr=> ?_,fun n' hn' hr=> ?_,fun n' h=> .inl h,fun n' h=> .inl h⟩
 ·by_cases e':i=k
  ·subst e';rw[same]at hi;simp at hi
  ·rw[other e']at hi
   obtain⟨n',p',g1,g2,g3,g4,g5,g6⟩:=R.cells i w l hi
   have hb:=blk (far e' hi (by simp) g1)
   exact⟨n',p',g1,g2,by rw[hb];exact g3,by rw[hb];exact g4,by rw[hb];exact g5,fun j t ht=>let ⟨a,q1,q2⟩:=g6 j t ht;⟨a,by rw[hb];exact q1,q2.mv hmv⟩⟩
 ·by_cases e':i=k
  ·subst e';rw[same]at hi;simp at hi
  ·rw[other e']at hi
   rcases R.list i w e l hi with g|⟨n',p',g1,g2,g3,g4,g5,g6⟩
   ·exact .inl g
   ·have hb:=blk (far e' hi (by simp) g1)
    exact .inr ⟨n',p',g1,g2,by rw[hb];exact g3,by rw[hb];exact g4,by rw[hb];exact g5,fun i x j t r1 r2=>let ⟨a,q1,q2⟩:=g6 i x j t r1 r2;⟨a,by rw[hb];exact q1,q2.mv hmv⟩⟩
 ·obtain⟨x',q1,q2,q3⟩:=back hi hx
  obtain⟨y',r1,_,r2⟩:=back hj hy
  exact R.inj i j x' y' n1 p1 n2 p2 hne q1 r1 (q2 hxw) q3 r2 h1 h2
 ·have:=R.fz n' hn'
  exact⟨this.1,by rw[blk (hF n' hn')];exact this.2⟩
 ·obtain⟨x',q1,_,q3⟩:=back hi hx
  exact R.low i x' n' p' q1 q3 h1
 ·have:=R.nf n' hn'
  exact⟨this.1,by rw[blk (hN n' hn')];exact this.2⟩
 ·by_cases e':i=k
  ·subst e'
   rw[same]at hi;simp at hi;subst hi
   exact⟨n,p,hE,hn,by rw[blkn],hA⟩
  ·rw[other e']at hi
   obtain⟨n',p',g1,g2,g3,g4⟩:=R.keys i ks2 hi
   have hb:=blk (far e' hi (by simp) g1)
   exact⟨n',p',g1,g2,by rw[hb];exact g3,g4⟩
 ·by_cases e':i=k
  ·subst e';rw[h]at h1;simp at h1;subst h1;cases h2
  ·exact⟨x,by rw[other e'];exact h1,h2,rfl,Iff.rfl⟩
 ·exact blk (by rintro rfl;exact ha hA)
 ·exact blk (by rintro rfl;rw[hmd]at hr;cases hr)
 ·by_cases e':n'=n
  ·subst e';rw[blkn]at hr;cases hr
  ·rw[blk e']at hr;exact hr
end steps
end Go.Ab
