/- What is proved here: contracts of the shelf's form that put other texts into a slice's cells (sorting; running together equal ones) are contracts of the typed layer. Conditions: those written in each statement. -/
import Derived.Test.YtigomgblkieahaaGreatDoorT19
import Derived.Sort.Row
import Derived.Sort.Grow
namespace Go.Ab
set_option linter.unusedVariables false
open Go.RowKit Go.Sort
theorem heap_row {α:Type} [Inhabited α] {enc:α→Value} {w:World} {q blk off:Nat} {d:Array α} {os:Array Obj} {k:Nat} (hk:k<w.heap.size) (hne:k≠blk):(grow (putRow enc (Go.Sort.ahead w q) blk off d) os).heap[k]? =w.heap[k]? :=by
 rw[heap_grow_old _ _ (by simpa using hk)]
 simp[putRow,mapBlock,Array.getElem?_modify,hne.symm]
theorem heap_row_at {α:Type} [Inhabited α] {enc:α→Value} {w:World} {q blk off:Nat} {d:Array α} {os:Array Obj} {c:Array Value} {e:TypeId} {fr:Nat×Nat} (h:w.heap[blk]? =some (.cells c e fr)):(grow (putRow enc (Go.Sort.ahead w q) blk off d) os).heap[blk]? =some (.cells (putCells enc off d c) e fr):=by
 have hk:blk<w.heap.size:=by
  rcases Nat.lt_or_ge blk w.heap.size with h'|h'
  ·exact h'
  ·rw[Array.getElem?_eq_none h']at h;cases h
 rw[heap_grow_old _ _ (by simpa using hk)]
 simp[putRow,mapBlock,Array.getElem?_modify,h,onCells]
theorem getD_lt' {α:Type} {l:List α} {i:Nat} {d:α} (h:i<l.length):l.getD i d=l[i]:=by simp[List.getD_eq_getElem?_getD,h]
theorem post_row {fl:Nat} {β:Inj} {m:Mem} {w:World} {n p q:Nat} {pl:Place} {l:List (List UInt8)} {l':List (List UInt8)} {k:Nat} {os:Array Obj} (hs:Sim β m w) (hn:n<m.size) (hfl:fl≤n) (hβ:β n=some pl) (hm:(m.blk n).mode= .rw)
  (hlen:(m.blk n).cells.length=p+l'.length) (hk:k≤l'.length):
  Post fl β m w (m.put n ⟨(m.blk n).cells.take p++(l'.take k).map (fun s=>AVal.str ⟨s.toArray⟩), .rw⟩) β (grow (putRow (fun s:List UInt8=>Value.string ⟨s.toArray⟩) (Go.Sort.ahead w q) pl.cb (pl.co+p) l'.toArray) os):=by
 have hwn:(m.blk n).mode.wr=true:=wr_rw hm
 have old:∀j,j<w.heap.size→j≠pl.cb→(grow (putRow (fun s:List UInt8=>Value.string ⟨s.toArray⟩) (Go.Sort.ahead w q) pl.cb (pl.co+p) l'.toArray) os).heap[j]? =w.heap[j]? :=fun j h1 h2=>heap_row h1 h2
 have size:w.heap.size≤(grow (putRow (fun s:List UInt8=>Value.string ⟨s.toArray⟩) (Go.Sort.ahead w q) pl.cb (pl.co+p) l'.toArray) os).heap.size:=by simp
 obtain⟨c,e,h1,h2,h3,h4⟩:=hs.rw n pl hn hβ hm
 have at1:=heap_row_at (enc:=fun s:List UInt8=>Value.string ⟨s.toArray⟩) (q:=q) (off:=pl.co+p) (d:=l'.toArray) (os:=os) h1
 have ne:∀n' p',n'<m.size→n'≠n→β n'=some p'→(m.blk n').mode≠ .dead→p'.cb≠pl.cb:=fun n' p' g1 g2 g3 g4=>(hs.ex n pl n' p' hn g1 (Ne.symm g2) hβ g3 hwn g4).symm
 have hos:(grow (putRow (fun s:List UInt8=>Value.string ⟨s.toArray⟩) (Go.Sort.ahead w q) pl.cb (pl.co+p) l'.toArray) os).os=w.os:=rfl
 have htp:(grow (putRow (fun s:List UInt8=>Value.string ⟨s.toArray⟩) (Go.Sort.ahead w q) pl.cb (pl.co+p) l'.toArray) os).tape=w.tape:=rfl
 have hou:(grow (putRow (fun s:List UInt8=>Value.string ⟨s.toArray⟩) (Go.Sort.ahead w q) pl.cb (pl.co+p) l'.toArray) os).output=w.output:=rfl
 generalize grow (putRow (fun s:List UInt8=>Value.string ⟨s.toArray⟩) (Go.Sort.ahead w q) pl.cb (pl.co+p) l'.toArray) os=w' at old size at1 hos htp hou
 refine⟨⟨fun n' p' hn' hp'=>Nat.lt_of_lt_of_le (hs.lt n' p' (by simpa using hn') hp') size,fun n' p' hn' hp' hm' i a ha=> ?_,fun n' p' hn' hp' hm'=> ?_,fun n1 p1 n2 p2 g1 g2 g3 g4 g5 g6 g7=> ?_,fun n' p' ks hn' hp' hm'=> ?_,hs.gl,fun n' p' hn' hp' hm'=> ?_,hs.gz.of fun k hk c1 e1 f1 hc1=>by
  by_cases hkp:k=pl.cb
  ·subst hkp;rw[at1]at hc1;simp at hc1;exact⟨c,e,(0,0),h1,by rw[←hc1.1];simp[putCells]⟩
  ·rw[old k (hs.glt hk) hkp]at hc1;exact⟨_,_,_,hc1,rfl⟩⟩,fun _ _=>rfl,fun n' p' q1 q2 _=>by simp at q2;omega,fun j hj hw=> ?_,hos,htp,hou,size⟩
 ·have e':n'≠n:=by intro e';subst e';simp at hm'
  simp only[Mem.blk_put,if_neg e']at hm' ha
  have hn':n'<m.size:=by simpa using hn'
  obtain⟨u,k1,k2⟩:=hs.ro n' p' hn' hp' hm' i a ha
  refine⟨u, ?_,k2⟩
  rw[←k1]
  simp only[World.cell?]
  rw[old _ (hs.lt n' p' hn' hp') (ne n' p' hn' e' hp' (by rw[hm'];simp))]
 ·have hn':n'<m.size:=by simpa using hn'
  by_cases e':n'=n
  ·subst e'
   rw[hβ]at hp';simp at hp';subst hp'
   have hsz:(putCells (fun s:List UInt8=>Value.string ⟨s.toArray⟩) (pl.co+p) l'.toArray c).size=c.size:=by simp[putCells]
   refine⟨_,e,at1,by rw[hsz];exact h2, ?_,fun i a ha=> ?_⟩
   ·rw[hsz];simp;omega
   ·simp only[Mem.blk_put,if_true]at ha
    have hpl:((m.blk n').cells.take p).length=p:=by simp;omega
    rw[List.getElem?_append]at ha
    simp only[putCells,Array.getElem?_mapIdx]
    split at ha
    ·rename_i hi
     rw[hpl]at hi
     rw[List.getElem?_take_of_lt hi]at ha
     obtain⟨u,k1,k2⟩:=h4 i a ha
     refine⟨u, ?_,k2⟩
     rw[k1,Option.map_some,if_neg (by omega)]
    ·rename_i hi
     rw[hpl]at hi ha
     rw[List.getElem?_map]at ha
     obtain⟨s,e1,e2⟩:=Option.map_eq_some_iff.1 ha
     have hik:i-p<(l'.take k).length:=getElem?_lt e1
     have hil:i-p<l'.length:=by simp at hik;omega
     rw[List.getElem?_take_of_lt (by simp at hik;omega),List.getElem?_eq_getElem hil]at e1
     simp at e1
     have hc:pl.co+i<c.size:=by omega
     refine⟨.string ⟨s.toArray⟩, ?_,by rw[←e2];exact .str _⟩
     rw[Array.getElem?_eq_getElem hc,Option.map_some,if_pos ⟨by omega,by simp;omega⟩]
     rw[show pl.co+i-(pl.co+p)=i-p by omega,getElem!_pos l'.toArray (i-p) (by simpa using hil)]
     simp[e1]
  ·simp only[Mem.blk_put,if_neg e']at hm'⊢
   obtain⟨c',f',k1,k2,k3,k4⟩:=hs.rw n' p' hn' hp' hm'
   exact⟨c',f',by rw[old _ (hs.lt n' p' hn' hp') (ne n' p' hn' e' hp' (by rw[hm'];simp))];exact k1,k2,k3,k4⟩
 ·refine hs.ex n1 p1 n2 p2 (by simpa using g1) (by simpa using g2) g3 g4 g5 ?_ ?_
  ·by_cases e1:n1=n
   ·subst e1;exact hwn
   ·simpa[e1]using g6
  ·by_cases e1:n2=n
   ·subst e1;rw[hm];simp
   ·simpa[e1]using g7
 ·have e':n'≠n:=by intro e';subst e';simp at hm'
  simp only[Mem.blk_put,if_neg e']at hm'⊢
  have hn':n'<m.size:=by simpa using hn'
  obtain⟨q1,es,cl,q2,q3⟩:=hs.mp n' p' ks hn' hp' hm'
  exact⟨q1,es,cl,by rw[old _ (hs.lt n' p' hn' hp') (ne n' p' hn' e' hp' (by rw[hm'];simp))];exact q2,q3⟩
 ·have hn':n'<m.size:=by simpa using hn'
  by_cases e':n'=n
  ·subst e'
   rw[hβ]at hp';simp at hp';subst hp'
   obtain⟨c',q2⟩:=hs.ct n' pl hn hβ hm
   rw[h1]at q2
   simp at q2
   exact⟨_,q2.2▸at1⟩
  ·simp only[Mem.blk_put,if_neg e']at hm'
   obtain⟨c',q2⟩:=hs.ct n' p' hn' hp' hm'
   exact⟨c',by rw[old _ (hs.lt n' p' hn' hp') (ne n' p' hn' e' hp' (by rw[hm'];simp))];exact q2⟩
 ·exact old j hj (fun q=>hw ⟨n,pl,hfl,hn,hβ,hwn,q.symm⟩)
theorem astep_row {fl:Nat} {m:Mem} {n:Nat} {cs:List AVal} (hfl:fl≤n) (hm:(m.blk n).mode= .rw):AStep fl m (m.put n ⟨cs, .rw⟩):=by
 refine⟨by simp,fun k hk hkl=>by simp;intro e;omega,fun k hk=> ?_⟩
 by_cases e:k=n
 ·subst e;simp[hm,Mode.wr]
 ·simp[e]
theorem holds_row {β:Inj} {m:Mem} {w:World} {n p:Nat} {pl:Place} {l:List (List UInt8)} (hs:Sim β m w) (hn:n<m.size) (hβ:β n=some pl) (hm:(m.blk n).mode= .rw)
  (hc:∀i,i<l.length→(m.blk n).cells[p+i]? =some (AVal.str ⟨(l.getD i []).toArray⟩)):Holds (fun s:List UInt8=>Value.string ⟨s.toArray⟩) w pl.cb (pl.co+p) l.toArray:=by
 obtain⟨c,e,h1,h2,h3,h4⟩:=hs.rw n pl hn hβ hm
 intro j hj
 have hj:j<l.length:=by simpa using hj
 obtain⟨v,k1,k2⟩:=h4 _ _ (hc j hj)
 cases k2
 refine⟨?_,by simp[World.frozen?,h1]⟩
 simp only[World.cell?,h1]
 rw[show pl.co+p+j=pl.co+(p+j) by omega]
 simp[k1,getElem!_pos l.toArray j (by simpa using hj),List.getElem?_eq_getElem hj]
def conSort (M:List (List UInt8)→(List (List UInt8)→Prop)→Prop):Con:=fun args tm K=>cL 0 args fun r=>dNil r (bL true .str tm fun l s=>dEnd s (M l fun q=>K (.tup []) [⟨true, .list .str q⟩]))
def conComp (M:List (List UInt8)→(List (List UInt8)→Prop)→Prop):Con:=fun args tm K=>cL 0 args fun r=>dNil r (bL true .str tm fun l s=>dEnd s (M l fun q=>K (.sl 1) [⟨true, .dead⟩,⟨true, .list .str q⟩]))
theorem empty_slice {β:Inj} {a:AVal} {v:Value} (h:VRel β a v) (ha:a= .nilSl∨∃n o cap es,a= .sl n o 0 cap es):∃pp cc,v= .slice pp 0 cc:=by
 rcases ha with rfl|⟨n,o,cap,es,rfl⟩
 ·cases h;exact⟨_,_,rfl⟩
 ·cases h;exact⟨_,_,rfl⟩
theorem nz_empty {c:Cfg} {es:Nat} {a:AVal} (h:NzA c es a):a= .nilSl∨∃n o cap es,a= .sl n o 0 cap es:=by
 rcases h with h|⟨n,o,h,_⟩
 ·exact .inl h
 ·exact .inr ⟨n,o,_,_,h⟩
theorem row_cells {c:Cfg} {A:Nat→Prop} (R:RM c A) {l:List (List UInt8)} (h:c.tm[0]? =some ⟨true, .list .str l⟩) {n p:Nat} (hE:c.E 0=some (n,p)):
  n<c.m.size∧(c.m.blk n).mode= .rw∧A n∧(c.m.blk n).cells.length=p+l.length∧∀i,i<l.length→(c.m.blk n).cells[p+i]? =some (AVal.str ⟨(l.getD i []).toArray⟩):=by
 rcases R.list 0 true .str l h with⟨h1,_⟩|⟨n',p',h1,h2,h3,h4,h5,h6⟩
 ·rw[h1]at hE;cases hE
 ·rw[h1]at hE;cases hE
  refine⟨h2,(h4 rfl).1,(h4 rfl).2,by simpa[EK.es]using h5,fun i hi=> ?_⟩
  obtain⟨a,g1,g2⟩:=h6 i (l.getD i []) 0 (.str (l.getD i [])) (by simp[List.getElem?_eq_getElem hi]) rfl
  cases g2
  simpa[EK.es]using g1
theorem sorted_rv {c:Cfg} {cs:List AVal} {p:Nat} {l:List (List UInt8)} (hp:cs.length=p):(cs++l.map fun s=>AVal.str ⟨s.toArray⟩).length=p+l.length*EK.es .str∧
  ∀(i:Nat) x (j:Nat) t,l[i]? =some x→(enc .str x)[j]? =some t→∃a,(cs++l.map fun s=>AVal.str ⟨s.toArray⟩)[p+i*EK.es .str+j]? =some a∧RV c t a:=by
 refine⟨by simp[EK.es,hp],fun i x j t h1 h2=> ?_⟩
 have hj:j=0:=by
  have:=getElem?_lt h2
  rw[enc_length]at this
  simp[EK.es]at this;exact this
 subst hj
 have ht:t= .str x:=by simp[enc]at h2;exact h2.symm
 subst ht
 refine⟨_, ?_,RV.str x⟩
 rw[List.getElem?_append_right (by simp[EK.es];omega)]
 simp[EK.es,hp,h1]
theorem conSort_ok {P:Program} {f:FuncId} {F:List (List UInt8)→List (List UInt8)} (hE:Enters P f) (hF:∀l,(F l).length=l.length)
  (h0:∀(pp:Option Addr) (cc:Nat) (w:World),Calls P f #[.slice pp 0 cc] w fun e w'=>e= .returned (.tuple #[])∧w'=w)
  (h:∀(blk off cap:Nat) (l:List (List UInt8)) (w:World),Holds (fun s:List UInt8=>Value.string ⟨s.toArray⟩) w blk off l.toArray→blk<w.heap.size→l.length<4611686018427387904→Calls P f #[.slice (some ⟨blk,off,none⟩) l.length cap] w fun e w'=>
   e= .returned (.tuple #[])∧∃q os,w'=grow (putRow (fun s:List UInt8=>Value.string ⟨s.toArray⟩) (Go.Sort.ahead w q) blk off (F l).toArray) os):
  CSound P f (conSort fun l K=>l.length<4611686018427387904∧K (F l)):=by
 intro args K c hc fl A aargs hA hN R hl
 refine cL_in ?_ hc;rintro r rfl hc
 refine dN_in ?_ hc;rintro rfl hc
 refine bL_in ?_ hc;rintro l s htm hc
 refine dE_in ?_ hc;rintro rfl ⟨hlen,hc⟩
 obtain⟨a,l1,rfl,ha,hl⟩:=hl.cons_inv
 obtain rfl:=hl.nil_inv
 have h0tm:c.tm[0]? =some ⟨true, .list .str l⟩:=by rw[htm];rfl
 have tup0:∀c:Cfg,RV c (.tup []) (.tup []):=fun c=> .tup [] [] rfl fun i t a h=>by simp at h
 have empty:l=[]→(a= .nilSl∨∃n o cap es,a= .sl n o 0 cap es)→∃v c' r,K r c'.tm∧RV c' r v∧DCalls P fl f [a] c.m v c'.m∧RM c' A∧Stp c c' A:=fun hl0 ha0=>by
  subst hl0
  have e0:F []=[]:=List.eq_nil_of_length_eq_zero (by rw[hF];rfl)
  rw[e0,←htm]at hc
  refine⟨.tup [],c, .tup [],hc,tup0 c,⟨hE,AStep.refl _ _,fun β w cargs hr hs hf=> ?_⟩,R,Stp.refl c A⟩
  obtain⟨us⟩:=cargs
  obtain⟨v1,us,rfl,g1,hr⟩:=hr.cons_inv
  obtain rfl:=hr.nil_inv
  obtain⟨pp,cc,rfl⟩:=empty_slice g1 ha0
  refine(h0 pp cc w).mono fun e w' hh=> ?_
  obtain⟨rfl,rfl⟩:=hh
  exact⟨_,β,rfl, .tup [] #[] rfl fun i a v h=>by simp at h,Post.refl hs⟩
 rcases rv_sl h0tm ha with⟨n,p,cap,hEn,rfl⟩|⟨hEn,hl0,nz⟩
 ·by_cases hl0:l=[]
  ·exact empty hl0 (.inr ⟨n,p,cap,_,by rw[hl0];rfl⟩)
  have hpos:=List.length_pos_iff.2 hl0
  obtain⟨hn,hrw,hAn,hcl,hcs⟩:=row_cells R h0tm hEn
  have htake:((c.m.blk n).cells.take p).length=p:=by simp;omega
  have hs2:=sorted_rv (c:=c) (l:=F l) htake
  have up:=upd_ok R (tk':= .list .str (F l)) (cs:=(c.m.blk n).cells.take p++(F l).map fun s=>AVal.str ⟨s.toArray⟩) h0tm (.inr ⟨_,_,rfl⟩) hEn (by simp[TK.shape,hF]) (by simp) (fun l h=>by cases h)
   (fun e l' h=>by cases h;exact hs2)
  refine⟨.tup [],_, .tup [], ?_,tup0 _,⟨hE,astep_row (hA n hAn) hrw,fun β w cargs hr hs hf=> ?_⟩,up.1,up.2⟩
  ·show K (.tup []) (c.tm.set 0 ⟨true, .list .str (F l)⟩)
   rw[htm];exact hc
  obtain⟨us⟩:=cargs
  obtain⟨v1,us,rfl,g1,hr⟩:=hr.cons_inv
  obtain rfl:=hr.nil_inv
  cases g1 with
  |sl _ _ _ ccap es _ pl ad hβ had hle hcc he=>
   rw[had (by omega)]
   refine(h pl.cb (pl.co+p) ccap l w (holds_row hs hn hβ hrw hcs) (hs.lt n pl hn hβ) hlen).mono fun e w' hh=> ?_
   obtain⟨rfl,q,os,rfl⟩:=hh
   have pr:=post_row (l:=l) (l':=F l) (k:=(F l).length) (q:=q) (os:=os) hs hn (hA n hAn) hβ hrw (by rw[hF];exact hcl) (Nat.le_refl _)
   rw[List.take_length]at pr
   exact⟨_,β,rfl, .tup [] #[] rfl fun i a v h=>by simp at h,pr⟩
 ·exact empty hl0 (nz_empty nz)
theorem conComp_ok {P:Program} {f:FuncId} {F:List (List UInt8)→List (List UInt8)} (hE:Enters P f) (hF:∀l,(F l).length≤l.length) (hF0:F []=[])
  (h0:∀(pp:Option Addr) (cc:Nat) (w:World),Calls P f #[.slice pp 0 cc] w fun e w'=>e= .returned (.slice pp 0 cc)∧w'=w)
  (h:∀(blk off cap:Nat) (l:List (List UInt8)) (w:World),Holds (fun s:List UInt8=>Value.string ⟨s.toArray⟩) w blk off l.toArray→l.length≤9223372036854775807→l.length≤cap→Calls P f #[.slice (some ⟨blk,off,none⟩) l.length cap] w fun e w'=>
   e= .returned (.slice (some ⟨blk,off,none⟩) (F l).length cap)∧∃q,w'=putRow (fun s:List UInt8=>Value.string ⟨s.toArray⟩) (Go.Sort.ahead w q) blk off (F l++List.replicate (l.length-(F l).length) []).toArray):
  CSound P f (conComp fun l K=>l.length<4611686018427387904∧K (F l)):=by
 intro args K c hc fl A aargs hA hN R hl
 refine cL_in ?_ hc;rintro r rfl hc
 refine dN_in ?_ hc;rintro rfl hc
 refine bL_in ?_ hc;rintro l s htm hc
 refine dE_in ?_ hc;rintro rfl ⟨hlen,hc⟩
 obtain⟨a,l1,rfl,ha,hl⟩:=hl.cons_inv
 obtain rfl:=hl.nil_inv
 have h0tm:c.tm[0]? =some ⟨true, .list .str l⟩:=by rw[htm];rfl
 have dr:=drop_ok R h0tm rfl
 have hlen1:(c.drop 0).tm.length=1:=by simp[Cfg.drop,htm]
 have empty:l=[]→(a= .nilSl∨∃n o cap es,a= .sl n o 0 cap es)→(∀c':Cfg,c'.tm[1]? =some ⟨true, .list .str []⟩→c'.E 1=c.E 0→c'.m=c.m→(∀n,c.N n→c'.N n)→RV c' (.sl 1) a)→
   (∀n p,c.E 0=some (n,p)→n<c.m.size∧(c.m.blk n).mode= .rw∧A n∧(c.m.blk n).cells.length=p)→∃v c' r,K r c'.tm∧RV c' r v∧DCalls P fl f [a] c.m v c'.m∧RM c' A∧Stp c c' A:=fun hl0 ha0 hrv hlo=>by
  subst hl0
  rw[hF0]at hc
  have ad:=add_ok (c:=c.drop 0) (tk:= .list .str []) (loc:=c.E 0) (m':=c.m) dr.1 (Nat.le_refl _) (fun n hn=> .inl rfl)
   (fun n p hp=>by
    obtain⟨g1,g2,g3,g4⟩:=hlo n p hp
    exact⟨g1,g2,g3, .inl (drop_free R h0tm rfl (.inr ⟨_,_,rfl⟩) hp)⟩) (fun l h=>by cases h)
   (fun e l' h=>by
    cases h
    cases hq:c.E 0 with
    |none=>exact .inl ⟨rfl,rfl⟩
    |some np=>
     obtain⟨n,p⟩:=np
     obtain⟨g1,g2,g3,g4⟩:=hlo n p hq
     exact .inr ⟨n,p,rfl,by simpa using g4,fun i x j t h=>by simp at h⟩)
  refine⟨a,(c.drop 0).add ⟨true, .list .str []⟩ (c.E 0) c.m, .sl 1, ?_, ?_,⟨hE,AStep.refl _ _,fun β w cargs hr hs hf=> ?_⟩,ad.1,dr.2.trans ad.2⟩
  ·show K (.sl 1) ((c.drop 0).tm++[⟨true, .list .str []⟩])
   simpa[Cfg.drop,htm]using hc
  ·refine hrv _ (by simp[Cfg.add,Cfg.drop,htm]) (by simp[Cfg.add,hlen1]) rfl fun n h=>h
  obtain⟨us⟩:=cargs
  obtain⟨v1,us,rfl,g1,hr⟩:=hr.cons_inv
  obtain rfl:=hr.nil_inv
  obtain⟨pp,cc,rfl⟩:=empty_slice g1 ha0
  refine(h0 pp cc w).mono fun e w' hh=> ?_
  obtain⟨rfl,rfl⟩:=hh
  exact⟨_,β,rfl,g1,Post.refl hs⟩
 rcases rv_sl h0tm ha with⟨n,p,cap,hEn,rfl⟩|⟨hEn,hl0,nz⟩
 ·obtain⟨hn,hrw,hAn,hcl,hcs⟩:=row_cells R h0tm hEn
  by_cases hl0:l=[]
  ·refine empty hl0 (.inr ⟨n,p,cap,_,by rw[hl0];rfl⟩) (fun c' k1 k2 k3 k4=> ?_) fun n' p' hq=> ?_
   ·subst hl0
    exact .sl 1 _ .str 0 n p cap k1 rfl (k2.trans hEn)
   ·rw[hEn]at hq;cases hq
    exact⟨hn,hrw,hAn,by rw[hcl,hl0];rfl⟩
  have hpos:=List.length_pos_iff.2 hl0
  have htake:((c.m.blk n).cells.take p).length=p:=by simp;omega
  have hs2:=sorted_rv (c:=c.drop 0) (l:=F l) htake
  have hbk:((c.m.put n ⟨(c.m.blk n).cells.take p++(F l).map fun s=>AVal.str ⟨s.toArray⟩, .rw⟩).blk n)=⟨(c.m.blk n).cells.take p++(F l).map fun s=>AVal.str ⟨s.toArray⟩, .rw⟩:=by simp
  have fr:=drop_free R h0tm rfl (.inr ⟨_,_,rfl⟩) hEn
  have ad:=add_ok (c:=c.drop 0) (tk:= .list .str (F l)) (loc:=some (n,p)) (m':=c.m.put n ⟨(c.m.blk n).cells.take p++(F l).map fun s=>AVal.str ⟨s.toArray⟩, .rw⟩) dr.1 (by simp[Cfg.drop])
   (fun k hk=>by
    by_cases e:k=n
    ·subst e;exact .inr ⟨fr,hAn,hrw⟩
    ·exact .inl (by simp[Cfg.drop,e]))
   (fun n' p' hp=>by
    cases hp
    exact⟨by simpa using hn,by rw[hbk];rfl,hAn, .inl fr⟩) (fun l h=>by cases h)
   (fun e l' h=>by
    cases h
    exact .inr ⟨n,p,rfl,by rw[hbk];exact hs2.1,by rw[hbk];exact hs2.2⟩)
  refine⟨.sl n p (F l).length none (EK.es .str),_, .sl 1, ?_, ?_,⟨hE,astep_row (hA n hAn) hrw,fun β w cargs hr hs hf=> ?_⟩,ad.1,dr.2.trans ad.2⟩
  ·show K (.sl 1) ((c.drop 0).tm++[⟨true, .list .str (F l)⟩])
   simpa[Cfg.drop,htm]using hc
  ·exact .sl 1 ⟨true, .list .str (F l)⟩ .str (F l).length n p none (by simp[Cfg.add,Cfg.drop,htm]) (by simp[TK.shape]) (by simp[Cfg.add,hlen1])
  obtain⟨us⟩:=cargs
  obtain⟨v1,us,rfl,g1,hr⟩:=hr.cons_inv
  obtain rfl:=hr.nil_inv
  cases g1 with
  |sl _ _ _ ccap es _ pl ad2 hβ had hle hcc he=>
   rw[had (by omega)]
   refine(h pl.cb (pl.co+p) ccap l w (holds_row hs hn hβ hrw hcs) (by omega) hle).mono fun e w' hh=> ?_
   obtain⟨rfl,q,rfl⟩:=hh
   have hFl:=hF l
   have hll:(c.m.blk n).cells.length=p+(F l++List.replicate (l.length-(F l).length) []).length:=by
    rw[hcl];simp;omega
   have pr:=post_row (l:=l) (l':=F l++List.replicate (l.length-(F l).length) []) (k:=(F l).length) (q:=q) (os:= #[]) hs hn (hA n hAn) hβ hrw hll (by simp)
   rw[List.take_left,grow_empty]at pr
   exact⟨_,β,rfl, .sl n p (F l).length ccap _ none pl _ hβ (fun _=>rfl) (by omega) hcc (fun c h=>by cases h),pr⟩
 ·refine empty hl0 (nz_empty nz) (fun c' k1 k2 k3 k4=> ?_) fun n' p' hq=>by rw[hEn]at hq;cases hq
  refine .slV 1 _ .str a k1 rfl (k2.trans hEn) ?_
  rcases nz with e|⟨n,o,e,g1,g2⟩
  ·exact .inl e
  ·exact .inr ⟨n,o,e,k4 n g1,by rw[k3];exact g2⟩
end Go.Ab
