/- What is proved here: every abstract operation is what the model's operation does, in every world that the abstract memory stands for. -/
import Derived.Laws.IdiomCopy
import Derived.Test.YtigomgblkieahaaGreatDoorB1
namespace Go.Ab
open Go.RowKit
section ops
variable {P:Program} {fl:Nat} {β:Inj} {m m':Mem} {w:World}
theorem info_of {e es by_:Nat} {z:List AVal} (h1:tSize P e=some es) (h2:tBytes P e=some by_) (h3:tZero P e=some z):
  ∃i zv,P.info? e=some i∧i.size=es∧i.bytes=by_∧i.zero=some zv∧∀β,LRel β z zv.cells:=by
 unfold tSize at h1
 unfold tBytes at h2
 unfold tZero at h3
 cases hi:P.info? e with
 |none=>rw[hi]at h1;cases h1
 |some i=>
  rw[hi]at h1 h2 h3
  simp at h1 h2
  simp only[Option.bind_some,Option.map_eq_some_iff]at h3
  obtain⟨v,hv,rfl⟩:=h3
  exact⟨i,v,rfl,h1,h2,hv,fun β=>ofScals_rel β _⟩
def NoInt (P:Program) (t:TypeId):Prop:=∃d,P.underlying t=some d∧∀k,d≠ .int k
theorem run_append_fit {t tx e ty:Nat} {i:TypeInfo} (ht:P.underlying t=some (.slice e)) (hx:NoInt P tx) (hi:P.info? e=some i) {base:Option Addr} {sLen sCap k:Nat} {xv:Value} {us:Array Value}
  (hl:(Builtin.lenOf xv).run P w= .ok k w) (hf:(Builtin.firstCells i.size k xv).run P w= .ok us w) (hc:sLen+k≤sCap):
  (Builtin.append_ #[t,tx] ty #[.slice base sLen sCap,xv]).run P w=
   match base with
   |some a=>((storeCells (a.add (sLen*i.size)) us.toList).run P w).andThen fun _ w'=> .ok (.slice base (sLen+k) sCap) w'
   |none=> .ok (.slice none (sLen+k) sCap) w:=by
 obtain⟨d,hd,hk⟩:=hx
 cases base<;>simp[Builtin.append_,run_underlying ht,run_underlying hd,sizeOf,typeInfo,hi,hl,hc,hf]
theorem run_append_new {t tx e ty:Nat} {i:TypeInfo} {z:Value} (ht:P.underlying t=some (.slice e)) (hx:NoInt P tx) (hi:P.info? e=some i) (hz:i.zero=some z) {base:Option Addr} {sLen sCap k:Nat} {xv:Value} {us os:Array Value}
  (hl:(Builtin.lenOf xv).run P w= .ok k w) (ho:(Builtin.firstCells i.size sLen (.slice base sLen sCap)).run P w.drew= .ok os w.drew) (hf:(Builtin.firstCells i.size k xv).run P w.drew= .ok us w.drew)
  (hc:sCap<sLen+k) (hb:sLen+k≤2^36) (hby:i.bytes≤1024):
  (Builtin.append_ #[t,tx] ty #[.slice base sLen sCap,xv]).run P w=
   .ok (.slice (some ⟨w.heap.size,0,none⟩) (sLen+k) (grownCap w (sLen+k) sCap e))
    (w.drew.alloc (.cells (os++us++Builtin.zeroCells z.cells (grownCap w (sLen+k) sCap e-(sLen+k))) e)):=by
 have hn:¬(sLen+k≤sCap):=by omega
 have h63':¬(9223372036854775807<((sLen:Int)+(k:Int))):=by omega
 have hm:(sLen+k)*i.bytes≤2^36*1024:=Nat.mul_le_mul hb hby
 have h48:=growslice_fits hc (bytes:=i.bytes) (by omega)
 have h48':¬(281474976710656<Builtin.nextslicecap (sLen+k) sCap*i.bytes):=by omega
 obtain⟨d,hd,hk⟩:=hx
 simp[Builtin.append_,run_underlying ht,run_underlying hd,sizeOf,typeInfo,zeroValue,hi,hz,hl,hn,h63',h48',Question.forced,hf,ho,newRow,grownCap]
theorem grown_row {e len k sCap es:Nat} {old new z:List AVal} {os us:Array Value} {zv:Value} (hs:Sim β m w) (hf:Free β m (m.push (old++new)))
  (ho:LRel β old os) (hu:LRel β new us) (hlo:old.length=len*es) (hln:new.length=k*es) (hz:LRel β z zv.cells) (hzl:z.length=es):
  VRel (upd β m.size ⟨w.heap.size,0,(os++us++Builtin.zeroCells zv.cells (grownCap w (len+k) sCap e-(len+k))).size,e⟩) (.sl m.size 0 (len+k) none es) (.slice (some ⟨w.heap.size,0,none⟩) (len+k) (grownCap w (len+k) sCap e))∧
  Post fl β m w (m.push (old++new)) (upd β m.size ⟨w.heap.size,0,(os++us++Builtin.zeroCells zv.cells (grownCap w (len+k) sCap e-(len+k))).size,e⟩)
   (w.drew.alloc (.cells (os++us++Builtin.zeroCells zv.cells (grownCap w (len+k) sCap e-(len+k))) e)):=by
 have hn:β m.size=none:=hf m.size (Nat.le_refl _) (by simp)
 have hge:=grownCap_ge w (len+k) sCap e
 refine⟨.sl m.size 0 (len+k) _ es none _ _ (upd_same _ _ _) (fun _=>rfl) hge ?_ (fun c e=>by cases e), ?_⟩
 ·simp only[Array.size_append,size_zeroCells,←ho.1,←hu.1,←hz.1,hlo,hln,hzl,Nat.zero_add]
  rw[←Nat.add_mul,←Nat.add_mul]
  exact Nat.mul_le_mul_right _ (by omega)
 ·exact Post.drew (post_alloc hs.drew hn e ((ho.append hu).toC_append _))
theorem first_old {n o len es ccap:Nat} {cs:List AVal} {p:Place} {a:Addr} (hs:Sim β m w) (hb:β n=some p) (ha:ccap≠0→a=⟨p.cb,p.co+o,none⟩) (hl:len≤ccap) (h:alds m n o (len*es)=some cs):
  ∃os,(Builtin.firstCells es len (.slice (some a) len ccap)).run P w= .ok os w∧LRel β cs os:=by
 obtain⟨us,hr,hlr⟩:=loads_cells (P:=P) hs hb h
 refine⟨us, ?_,hlr⟩
 simp only[Builtin.firstCells]
 by_cases h0:ccap=0
 ·have:len=0:=by omega
  subst this
  simp only[Nat.zero_mul]at hr⊢
  have:us= #[]:=by
   have:=hlr.1
   rw[(alds_len h).1]at this
   simp at this
   exact Array.eq_empty_of_size_eq_zero this.symm
  subst this
  simp[loadCells,loadCellsFrom]
 ·rw[ha h0];exact hr
theorem free_one {cs:List AVal} (h:β m.size=none):Free β m (m.push cs):=by
 intro n h1 h2
 have:n=m.size:=by simp at h2;omega
 rw[this]
 exact h
theorem post_kill {m1:Mem} {β':Inj} {w':World} (n:Nat) (h:Post fl β m w m1 β' w'):Post fl β m w (m1.kill n) β' w':=by
 have hs:=h.sim
 have hb:∀k,k≠n→(m1.kill n).blk k=m1.blk k:=fun k hk=>by simp[hk]
 have hd:∀k,(m1.kill n).blk k=⟨[], .dead⟩∨(m1.kill n).blk k=m1.blk k:=fun k=>by
  by_cases e:k=n
  ·subst e;exact .inl (by simp)
  ·exact .inr (hb k e)
 refine⟨⟨fun k q hk hq=>hs.lt k q hk hq,fun k q hk hq hm=> ?_,fun k q hk hq hm=> ?_,fun k1 p1 k2 p2 g1 g2 g3 g4 g5 g6 g7=> ?_,fun k q ks hk hq hm=> ?_,hs.gl,fun k q hk hq hm=> ?_,hs.gz⟩,h.ext,h.nb,h.fr,h.os,h.tape,h.output,h.size⟩
 ·rcases hd k with e|e
  ·rw[e]at hm;cases hm
  ·rw[e]at hm⊢;exact hs.ro k q hk hq hm
 ·rcases hd k with e|e
  ·rw[e]at hm;cases hm
  ·rw[e]at hm⊢;exact hs.rw k q hk hq hm
 ·rcases hd k1 with e|e
  ·rw[e]at g6;cases g6
  ·rcases hd k2 with e2|e2
   ·rw[e2]at g7;exact absurd rfl g7
   ·rw[e]at g6;rw[e2]at g7;exact hs.ex k1 p1 k2 p2 g1 g2 g3 g4 g5 g6 g7
 ·rcases hd k with e|e
  ·rw[e]at hm;cases hm
  ·rw[e]at hm⊢;exact hs.mp k q ks hk hq hm
 ·rcases hd k with e|e
  ·rw[e]at hm;cases hm
  ·rw[e]at hm;exact hs.ct k q hk hq hm
theorem sok_append {t tx ty:Nat} {s x v:AVal} {sv xv:Value} (hs:Sim β m w) (hS:VRel β s sv) (hX:VRel β x xv) (h:aappend P fl m t tx s x=some (v,m')) (hf:Free β m m'):
  SOk P fl β m w (Builtin.append_ #[t,tx] ty #[sv,xv]) v m':=by
 unfold aappend at h
 split at h
 case h_2=>cases h
 rename_i e he htx
 have hund:=und_elem he
 have hnx:NoInt P tx:=by
  simp only[decide_eq_true_eq]at htx
  rw[htx]
  exact⟨_,hund,fun k e=>by cases e⟩
 split at h
 case h_2=>cases h
 rename_i es by_ z h1 h2 h3
 split at h
 case isFalse=>cases h
 rename_i hc
 obtain⟨hby,hzl⟩:=hc
 obtain⟨i,zv,hi,rfl,rfl,hz,hzr⟩:=info_of h1 h2 h3
 split at h
 case h_2=>cases h
 rename_i k new hadd
 obtain⟨hlen,hnl,us,hus,hlr⟩:=add_cells (P:=P) hs hX hadd
 split at h
 ·
  rename_i hk
  subst hk
  have hus0:us=[]:=by
   have:=hlr.1
   rw[hnl]at this
   simp at this
   exact List.length_eq_zero_iff.1 this.symm
  subst hus0
  split at h
  ·simp at h
   obtain⟨rfl,rfl⟩:=h
   cases hS
   have:=run_append_fit (P:=P) (ty:=ty) (base:=none) (sLen:=0) (sCap:=0) hund hnx hi hlen hus (Nat.le_refl _)
   exact .same hs this .nilSl
  ·simp at h
   obtain⟨rfl,rfl⟩:=h
   cases hS with
   |emptySl a c=>
    have:=run_append_fit (P:=P) (ty:=ty) (base:=some a) (sLen:=0) (sCap:=c) hund hnx hi hlen hus (by omega)
    exact .same hs (by rw[this];simp[storeCells]) (.emptySl a c)
  ·rename_i n o len cap es'
   simp at h
   obtain⟨rfl,rfl⟩:=h
   cases hS with
   |sl _ _ _ ccap _ _ p a hb ha hl hc hcap=>
    have:=run_append_fit (P:=P) (ty:=ty) (base:=some a) (sLen:=len) (sCap:=ccap) hund hnx hi hlen hus (by omega)
    exact .same hs (by rw[this];simp[storeCells]) (.sl n o len ccap es' cap p a hb ha hl hc hcap)
  ·cases h
 ·rename_i hk
  split at h
  ·split at h
   case isFalse=>cases h
   rename_i hb
   simp at h
   obtain⟨rfl,rfl⟩:=h
   cases hS
   have hlen':(Builtin.lenOf xv).run P w= .ok k w:=hlen
   obtain⟨_,_,us',hus',hlr'⟩:=add_cells (P:=P) (w:=w.drew) hs.drew hX hadd
   have:=run_append_new (P:=P) (ty:=ty) (base:=none) (sLen:=0) (sCap:=0) (os:= #[]) hund hnx hi hz hlen (by simp[Builtin.firstCells]) hus' (by omega) (by omega) hby
   have hg:=grown_row (fl:=fl) (e:=e) (len:=0) (k:=k) (sCap:=0) (es:=i.size) (old:=[]) (new:=new) hs hf (LRel.nil β) hlr' (by simp) hnl (hzr β) hzl
   simp only[List.nil_append,Nat.zero_add]at hg this
   exact⟨_,_,_,this,hg.1,hg.2⟩
  ·rename_i n o len cap es'
   split at h
   case isFalse=>cases h
   rename_i hb
   obtain⟨rfl,hb⟩:=hb
   split at h
   case h_2=>cases h
   rename_i old hold
   obtain⟨ol1,ol2,ol3,ol4,ol5⟩:=alds_len hold
   cases hS with
   |sl _ _ _ ccap _ _ p a hpb ha hl hcs hcap=>
   obtain⟨_,_,us',hus',hlr'⟩:=add_cells (P:=P) (w:=w.drew) hs.drew hX hadd
   have grown:ccap<len+k→β m.size=none→SOk P fl β m w (Builtin.append_ #[t,tx] ty #[.slice (some a) len ccap,xv]) (.sl m.size 0 (len+k) none i.size) (m.push (old++new)):=by
    intro hlt hfree
    obtain⟨os,hos,hor⟩:=first_old (P:=P) (w:=w.drew) hs.drew hpb ha hl hold
    have:=run_append_new (P:=P) (ty:=ty) (base:=some a) (sLen:=len) (sCap:=ccap) hund hnx hi hz hlen hos hus' hlt hb hby
    have hg:=grown_row (fl:=fl) (e:=e) (len:=len) (k:=k) (sCap:=ccap) (es:=i.size) (old:=old) (new:=new) hs (free_one hfree) hor hlr' ol1 hnl (hzr β) hzl
    exact⟨_,_,_,this,hg.1,hg.2⟩
   split at h
   ·rename_i hcc
    simp at h
    obtain⟨rfl,rfl⟩:=h
    refine grown ?_ (hf m.size (Nat.le_refl _) (by simp))
    cases cap with
    |none=>simp at hcc
    |some c=>simp at hcc;rw[hcap c rfl];exact hcc
   ·split at h
    case isFalse=>cases h
    rename_i hcc
    obtain⟨q1,q2,q3,q4⟩:=hcc
    simp at h
    obtain⟨rfl,rfl⟩:=h
    have hfree:β m.size=none:=hf m.size (Nat.le_refl _) (by simp)
    by_cases hroom:len+k≤ccap
    ·
     have hcpos:ccap≠0:=by omega
     have hae:=ha hcpos
     subst hae
     have hdrop:(m.blk n).cells.drop o=old:=by rw[ol4,List.take_of_length_le (by simp;omega)]
     have hroom2:p.co+o+old.length+new.length≤p.cs:=by
      rw[ol1,hnl]
      have:(len+k)*i.size≤ccap*i.size:=Nat.mul_le_mul_right _ hroom
      rw[Nat.add_mul]at this
      omega
     obtain⟨w',hst,hpost⟩:=post_regrow (P:=P) (fl:=fl) hs q1 ol2 hpb q2 hfree hdrop (by rw[ol1];omega) hlr q4 hroom2
     have:=run_append_fit (P:=P) (ty:=ty) (base:=some ⟨p.cb,p.co+o,none⟩) (sLen:=len) (sCap:=ccap) hund hnx hi hlen hus hroom
     refine⟨_,w',_, ?_, .sl m.size 0 (len+k) ccap i.size none ⟨p.cb,p.co+o,p.cs,p.ct⟩ _ (upd_same _ _ _) (fun _=>rfl) hroom (by simpa using hcs) (fun c e=>by cases e),hpost⟩
     rw[this]
     have haa:(⟨p.cb,p.co+o,none⟩:Addr).add (len*i.size)=⟨p.cb,p.co+o+old.length,none⟩:=by rw[addr_add _ _ rfl,ol1]
     simp only[haa]
     rw[hst]
     rfl
    ·obtain⟨cv,w',β',r1,r2,r3⟩:=grown (by omega) hfree
     exact⟨cv,w',β',r1,r2,post_kill n r3⟩
  ·cases h
end ops
end Go.Ab
namespace Go.Ab
open Go.RowKit
section ops
variable {P:Program} {fl:Nat} {β:Inj} {m m':Mem} {w:World}
theorem intVal_rel {x:AVal} {v:Value} {n:Int} (h:VRel β x v) (hi:intVal x=some n):∃k,v= .int k n:=by
 unfold intVal at hi
 split at hi
 ·simp at hi;subst hi;cases h;exact⟨_,rfl⟩
 ·cases hi
theorem run_boundN {k:IntKind} {i y:Nat} (c:BoundsCode) (h1:i≤y):(Instr.sliceBound (.int k (i:Int)) y c).run P w= .ok i w:=by
 simp[Instr.sliceBound,asIntOf]
 intro h
 omega
theorem run_sliceBounds {isSlice:Bool} {len cap l h mm:Nat} {lov hiv mxv:Option Value}
  (HM:(mxv=none∧mm=cap)∨∃k,mxv=some (.int k (mm:Int))∧mm≤cap∧hiv≠none)
  (HH:(hiv=none∧h=len)∨∃k,hiv=some (.int k (h:Int))) (hhm:h≤mm)
  (HL:(lov=none∧l=0)∨∃k,lov=some (.int k (l:Int))) (hlh:l≤h):
  (Instr.sliceBounds isSlice len cap lov hiv mxv).run P w= .ok (l,h,mm) w:=by
 rcases HM with⟨rfl,rfl⟩|⟨k1,rfl,hm,hne⟩<;>rcases HH with⟨rfl,rfl⟩|⟨k2,rfl⟩<;>rcases HL with⟨rfl,rfl⟩|⟨k3,rfl⟩
 all_goals first
  |(exact absurd rfl hne)
  |(simp only[Instr.sliceBounds];simp(disch:=assumption) [run_boundN])
def ORel (β:Inj) (a:Option AVal) (v:Option Value):Prop:=(a=none∧v=none)∨∃x u,a=some x∧v=some u∧VRel β x u
theorem oidx {a:Option AVal} {v:Option Value} {d n:Int} (h:ORel β a v) (hi:oint a d=some n) (h0:0≤n):(v=none∧n=d)∨∃k,v=some (.int k (n.toNat:Int)):=by
 rcases h with⟨rfl,rfl⟩|⟨x,u,rfl,rfl,hr⟩
 ·simp[oint]at hi;exact .inl ⟨rfl,hi.symm⟩
 ·simp only[oint]at hi
  obtain⟨k,hu⟩:=intVal_rel hr hi
  exact .inr ⟨k,by rw[hu,Int.toNat_of_nonneg h0]⟩
theorem slice_plain {t:Nat} {d:TypeDesc} {xv:Value} {lov hiv mxv:Option Value} (hd:P.underlying t=some d) (ha:isAggD d=false):(Instr.sliceAt t xv lov hiv mxv).run P w=(Instr.slice t xv lov hiv mxv).run P w:=by
 unfold Instr.sliceAt
 rw[Sem.run_bind,run_und hd]
 cases d<;>first|rfl|(simp[isAggD]at ha)
theorem sok_slice {t:Nat} {x v:AVal} {xv:Value} {lo hi mx:Option AVal} {lov hiv mxv:Option Value} (hs:Sim β m w) (hx:VRel β x xv)
  (hlo:ORel β lo lov) (hhi:ORel β hi hiv) (hmx:ORel β mx mxv) (h:aslice P t x lo hi mx=some v):SOk P fl β m w (Instr.sliceAt t xv lov hiv mxv) v m:=by
 unfold aslice at h
 split at h
 ·
  rename_i s hk
  have hd:=kd_string hk
  cases hx
  split at h
  case h_2=>cases h
  rename_i hh hl e2 e3
  split at h
  case isFalse=>cases h
  rename_i hc
  obtain⟨c1,c2,c3⟩:=hc
  simp at h
  subst h
  obtain⟨_,rfl⟩:(none:Option AVal)=none∧mxv=none:=hmx.resolve_right (by rintro⟨a,u,h,_⟩;cases h)
  have HH:=oidx hhi e2 (by omega)
  have HL:=oidx hlo e3 c1
  refine .same hs (cv:= .string (s.extract hl.toNat hh.toNat)) ?_ (.str _)
  rw[slice_plain hd rfl]
  have:=run_sliceBounds (P:=P) (w:=w) (isSlice:=false) (len:=s.size) (cap:=s.size) (l:=hl.toNat) (h:=hh.toNat) (mm:=s.size) (lov:=lov) (hiv:=hiv) (mxv:=none) (.inl ⟨rfl,rfl⟩)
   (HH.imp (fun⟨a,b⟩=>⟨a,by omega⟩) id) (by omega) (HL.imp (fun⟨a,b⟩=>⟨a,by omega⟩) id) (by omega)
  unfold Instr.slice
  rw[Sem.run_bind,run_und hd]
  simp[this]
 ·
  rename_i n o len cap es hk
  obtain⟨e,hd⟩:=kd_slice hk
  split at h
  case isFalse=>cases h
  rename_i hes
  have hte:tElem P t=some e:=by unfold tElem;rw[hd]
  rw[hte]at hes
  simp only[Option.bind_some]at hes
  split at h
  case h_2=>cases h
  rename_i hh hl e2 e3
  split at h
  case isFalse=>cases h
  rename_i hc
  obtain⟨c1,c2,c3⟩:=hc
  have HH:=oidx hhi e2 (by omega)
  have HL:=oidx hlo e3 c1
  cases hx with
  |sl _ _ _ ccap _ _ p a hb ha hlc hcs hcap=>
  have fin:∀(mm:Nat) (cap':Option Nat),hh.toNat≤mm→mm≤ccap→(∀c,cap'=some c→mm-hl.toNat=c)→
    (Instr.sliceBounds true len ccap lov hiv mxv).run P w= .ok (hl.toNat,hh.toNat,mm) w→
    SOk P fl β m w (Instr.sliceAt t (.slice (some a) len ccap) lov hiv mxv) (.sl n (o+hl.toNat*es) (hh.toNat-hl.toNat) cap' es) m:=by
   intro mm cap' g1 g2 g3 g4
   refine .same hs (cv:= .slice (some (if mm=hl.toNat then a else a.add (hl.toNat*es))) (hh.toNat-hl.toNat) (mm-hl.toNat)) ?_ ?_
   ·rw[slice_plain hd rfl]
    unfold Instr.slice
    rw[Sem.run_bind,run_und hd]
    simp only[Result.andThen_ok,Sem.run_bind,g4,run_size hes,Sem.run_pure]
    congr 2
    split<;>rfl
   ·refine .sl n _ _ _ es cap' p _ hb (fun hne=> ?_) (by omega) ?_ g3
    ·have hml:¬(mm=hl.toNat):=by omega
     rw[if_neg hml,ha (by omega),addr_add _ _ rfl]
     simp[Nat.add_assoc]
    ·have h1:(hl.toNat+(mm-hl.toNat))*es≤ccap*es:=Nat.mul_le_mul_right _ (by omega)
     rw[Nat.add_mul]at h1
     omega
  split at h
  ·
   simp at h
   subst h
   obtain⟨_,rfl⟩:(none:Option AVal)=none∧mxv=none:=hmx.resolve_right (by rintro⟨a,u,h,_⟩;cases h)
   refine fin ccap _ (by omega) (Nat.le_refl _) (fun c hc=> ?_) ?_
   ·cases cap with
    |none=>cases hc
    |some c0=>simp at hc;rw[hcap c0 rfl];exact hc
   ·exact run_sliceBounds (.inl ⟨rfl,rfl⟩) (HH.imp (fun⟨a,b⟩=>⟨a,by omega⟩) id) (by omega) (HL.imp (fun⟨a,b⟩=>⟨a,by omega⟩) id) (by omega)
  ·rename_i qv
   split at h
   case h_2=>cases h
   rename_i q hiq eq1
   split at h
   case isFalse=>cases h
   rename_i hq
   obtain⟨hq1,hq2⟩:=hq
   simp at h
   subst h
   rcases hmx with⟨hm,_⟩|⟨qa,qu,hm,rfl,hqr⟩
   ·cases hm
   ·simp at hm
    subst hm
    obtain⟨k,hu⟩:=intVal_rel hqr eq1
    have hne:hiv≠none:=by
     rcases hhi with⟨hh0,_⟩|⟨a,u,_,hh0,_⟩
     ·cases hh0
     ·rw[hh0];simp
    refine fin q.toNat _ (by omega) (by omega) (fun c hc=>by simpa using hc) ?_
    exact run_sliceBounds (.inr ⟨k,by rw[hu,Int.toNat_of_nonneg (by omega)],by omega,hne⟩) (HH.imp (fun⟨a,b⟩=>⟨a,by omega⟩) id) (by omega) (HL.imp (fun⟨a,b⟩=>⟨a,by omega⟩) id) (by omega)
 ·
  rename_i hk
  obtain⟨e,hd⟩:=kd_slice hk
  cases hx
  split at h
  ·rename_i es hes e2 e3
   simp at h
   subst h
   obtain⟨_,rfl⟩:(none:Option AVal)=none∧mxv=none:=hmx.resolve_right (by rintro⟨a,u,h,_⟩;cases h)
   have hte:tElem P t=some e:=by unfold tElem;rw[hd]
   rw[hte]at hes
   simp only[Option.bind_some]at hes
   have HH:=oidx hhi e2 (by omega)
   have HL:=oidx hlo e3 (by omega)
   refine .same hs (cv:= .slice none 0 0) ?_ .nilSl
   rw[slice_plain hd rfl]
   have:=run_sliceBounds (P:=P) (w:=w) (isSlice:=true) (len:=0) (cap:=0) (l:=0) (h:=0) (mm:=0) (lov:=lov) (hiv:=hiv) (mxv:=none) (.inl ⟨rfl,rfl⟩)
    (HH.imp (fun⟨a,b⟩=>⟨a,rfl⟩) id) (by omega) (HL.imp (fun⟨a,b⟩=>⟨a,rfl⟩) id) (by omega)
   unfold Instr.slice
   rw[Sem.run_bind,run_und hd]
   simp[this,run_size hes]
  ·rename_i es q hes e2 e3
   split at h
   case isFalse=>cases h
   rename_i hq
   obtain⟨hq1,hq2⟩:=hq
   simp at h
   subst h
   have hte:tElem P t=some e:=by unfold tElem;rw[hd]
   rw[hte]at hes
   simp only[Option.bind_some]at hes
   have HH:=oidx hhi e2 (by omega)
   have HL:=oidx hlo e3 (by omega)
   rcases hmx with⟨hm,_⟩|⟨qa,qu,hm,rfl,hqr⟩
   ·cases hm
   simp at hm
   subst hm
   obtain⟨k,hu⟩:=intVal_rel hqr hq1
   have hne:hiv≠none:=by
    rcases hhi with⟨hh0,_⟩|⟨a,u,_,hh0,_⟩
    ·rw[hh0]at hq2;cases hq2
    ·rw[hh0];simp
   refine .same hs (cv:= .slice none 0 0) ?_ .nilSl
   rw[slice_plain hd rfl]
   have:=run_sliceBounds (P:=P) (w:=w) (isSlice:=true) (len:=0) (cap:=0) (l:=0) (h:=0) (mm:=0) (lov:=lov) (hiv:=hiv) (mxv:=some qu) (.inr ⟨k,by rw[hu];rfl,Nat.le_refl _,hne⟩)
    (HH.imp (fun⟨a,b⟩=>⟨a,rfl⟩) id) (by omega) (HL.imp (fun⟨a,b⟩=>⟨a,rfl⟩) id) (by omega)
   unfold Instr.slice
   rw[Sem.run_bind,run_und hd]
   simp[this,run_size hes]
  ·cases h
 ·
  rename_i hk
  obtain⟨e,hd⟩:=kd_slice hk
  cases hx with
  |emptySl a cc=>
  split at h
  ·rename_i es hes e2 e3
   simp at h
   subst h
   obtain⟨_,rfl⟩:(none:Option AVal)=none∧mxv=none:=hmx.resolve_right (by rintro⟨a,u,h,_⟩;cases h)
   have hte:tElem P t=some e:=by unfold tElem;rw[hd]
   rw[hte]at hes
   simp only[Option.bind_some]at hes
   have HH:=oidx hhi e2 (by omega)
   have HL:=oidx hlo e3 (by omega)
   refine .same hs (cv:= .slice (some (if cc=0 then a else a.add (0*es))) 0 cc) ?_ (.emptySl _ _)
   rw[slice_plain hd rfl]
   have:=run_sliceBounds (P:=P) (w:=w) (isSlice:=true) (len:=0) (cap:=cc) (l:=0) (h:=0) (mm:=cc) (lov:=lov) (hiv:=hiv) (mxv:=none) (.inl ⟨rfl,rfl⟩)
    (HH.imp (fun⟨a,b⟩=>⟨a,rfl⟩) id) (by omega) (HL.imp (fun⟨a,b⟩=>⟨a,rfl⟩) id) (by omega)
   unfold Instr.slice
   rw[Sem.run_bind,run_und hd]
   simp only[Result.andThen_ok,Sem.run_bind,this,run_size hes,Sem.run_pure]
   by_cases hcz:cc=0
   ·simp[hcz]
   ·simp[hcz]
  ·cases h
 ·cases h
theorem ints3 {β:Inj} {a1 a2 a3:Int} {v:Value} (h:VRel β (.agg [.int .i64 a1, .int .i64 a2, .int .i64 a3]) v):True∧v= .agg #[.int .i64 a1, .int .i64 a2, .int .i64 a3]:=by
 cases h with
 |agg _ us g1 g2=>
 obtain⟨us⟩:=us
 match us,g1 with
 |[u1,u2,u3],_=>
  have e1:=g2 0 _ u1 rfl rfl
  have e2:=g2 1 _ u2 rfl rfl
  have e3:=g2 2 _ u3 rfl rfl
  cases e1;cases e2;cases e3
  exact⟨trivial,rfl⟩
 |[],g1=>simp at g1
 |[_],g1=>simp at g1
 |[_,_],g1=>simp at g1
 |_::_::_::_::_,g1=>simp at g1
theorem run_fld {f:Field} {o:Nat} {xs:List Value} {a:Int} (h:intFld P f o=true) (hx:xs[o]? =some (.int .i64 a)):f.name≠ "_" ∧P.underlying f.type=some (.int .i64)∧(Go.part f.type xs.toArray f.offset).run P w= .ok (.int .i64 a) w:=by
 unfold intFld at h
 simp only[Bool.and_eq_true,bne_iff_ne,ne_eq,beq_iff_eq]at h
 obtain⟨⟨h1,h2⟩,h3⟩:=h
 have hu:P.underlying f.type=some (.int .i64):=by
  split at h3
  ·assumption
  ·cases h3
 refine⟨h1,hu, ?_⟩
 have hx':xs.toArray[o]? =some (.int .i64 a):=by simpa using hx
 subst h2
 simp[Go.part,isAgg,run_und hu,hx']
theorem run_eq3 {t:TypeId} (h:intF3 P t=true) (a1 a2 a3 b1 b2 b3:Int):(Op.equal t (.agg #[.int .i64 a1, .int .i64 a2, .int .i64 a3]) (.agg #[.int .i64 b1, .int .i64 b2, .int .i64 b3])).run P w= .ok (a1==b1&&(a2==b2&&a3==b3)) w∧
  ∀op,(op= .eql∨op= .neq)→∀xo yo,(eqGuard op t xo yo (.agg #[.int .i64 a1, .int .i64 a2, .int .i64 a3]) (.agg #[.int .i64 b1, .int .i64 b2, .int .i64 b3])).run P w= .ok () w:=by
 unfold intF3 at h
 split at h
 case h_2=>cases h
 rename_i f1 f2 f3 hu
 simp only[Bool.and_eq_true,Bool.not_eq_true']at h
 obtain⟨⟨⟨⟨h1,h2⟩,h3⟩,h4⟩,h5⟩:=h
 have x1:=run_fld (w:=w) (xs:=[.int .i64 a1, .int .i64 a2, .int .i64 a3]) h1 rfl
 have x2:=run_fld (w:=w) (xs:=[.int .i64 a1, .int .i64 a2, .int .i64 a3]) h2 rfl
 have x3:=run_fld (w:=w) (xs:=[.int .i64 a1, .int .i64 a2, .int .i64 a3]) h3 rfl
 have y1:=run_fld (w:=w) (xs:=[.int .i64 b1, .int .i64 b2, .int .i64 b3]) h1 rfl
 have y2:=run_fld (w:=w) (xs:=[.int .i64 b1, .int .i64 b2, .int .i64 b3]) h2 rfl
 have y3:=run_fld (w:=w) (xs:=[.int .i64 b1, .int .i64 b2, .int .i64 b3]) h3 rfl
 have eqi:∀(f:Field) (a b:Int),P.underlying f.type=some (.int .i64)→(Op.equalIn 9999 f.type (.int .i64 a) (.int .i64 b)).run P w= .ok (a==b) w:=by
  intro f a b hf
  show(Op.equalIn (9998+1) f.type (.int .i64 a) (.int .i64 b)).run P w=_
  unfold Op.equalIn
  rw[Sem.run_bind,run_und hf]
  simp
 refine⟨?_, ?_⟩
 ·show(Op.equalIn (9998+1+1) t _ _).run P w=_
  rw[Op.equalIn]
  rw[Sem.run_bind,run_und hu]
  simp only[Result.andThen_ok,Sem.run_bind,run_program,h4,Bool.false_eq_true,if_false]
  rw[←Array.forIn_toList]
  have E1:=eqi _ a1 b1 x1.2.1
  have E2:=eqi _ a2 b2 x2.2.1
  have E3:=eqi _ a3 b3 x3.2.1
  generalize (a1==b1)=c1 at E1⊢
  generalize (a2==b2)=c2 at E2⊢
  generalize (a3==b3)=c3 at E3⊢
  cases c1<;>cases c2<;>cases c3<;>simp[x1.1,x2.1,x3.1,x1.2.2,x2.2.2,x3.2.2,y1.2.2,y2.2.2,y3.2.2,E1,E2,E3]
 ·intro op ho xo yo
  rcases ho with rfl|rfl<;>simp[eqGuard,h5]
theorem sok_bin {op : BinOp} {t : TypeId} {x y v : AVal} {xv yv : Value} (xo yo : Operand) (hs : Sim β m w) (hx : VRel β x xv) (hy : VRel β y yv) (h : abin P op t x y = some v) :
    SOk P fl β m w (do eqGuard op t xo yo xv yv; binOp op t xv yv) v m := by
  have hg : ∀ (a b : Value), (∀ c, a ≠ .agg c) → a ≠ .nilIface → (eqGuard op t xo yo a b).run P w = .ok () w := by
    intro a b h1 h2
    unfold eqGuard
    cases a <;> first | (exact absurd rfl (h1 _)) | (exact absurd rfl h2) | (cases op <;> rfl) | (cases op <;> cases b <;> rfl)
  unfold abin at h
  split at h
  · rename_i k a k' b
    cases hx; cases hy
    split at h
    case isFalse => cases h
    rename_i hk
    subst hk
    have g := hg (.int k a) (.int k b) (by intro c h; cases h) (by intro h; cases h)
    cases op <;> simp only at h <;> first
      | (cases h; done)
      | (simp at h; subst h; refine .same hs ?_ (by constructor); rw [Sem.run_bind, g]; simp [binOp, Op.intArith, Op.intCmp, Op.intBits]; done)
      | (split at h
         case isTrue => cases h
         rename_i hb
         simp at h
         subst h
         refine .same hs ?_ (by constructor)
         rw [Sem.run_bind, g]
         first | (simp [binOp, Op.intDiv, hb]; done) | (simp [binOp, Op.shift, hb]; done))
  · rename_i a b
    cases hx; cases hy
    have g := hg (.string a) (.string b) (by intro c h; cases h) (by intro h; cases h)
    cases op <;> simp only at h <;> first
      | (cases h; done)
      | (simp at h; subst h; refine .same hs ?_ (by constructor); rw [Sem.run_bind, g]; simp [binOp, Op.stringOp]; done)
      | (split at h
         case isFalse => cases h
         rename_i hb
         simp at h
         subst h
         refine .same hs ?_ (by constructor)
         rw [Sem.run_bind, g]
         have hb' : ¬ (((a.size + b.size : Nat) : Int) > IntKind.i64.max) := by
           have : IntKind.i64.max = 9223372036854775807 := by decide
           rw [this]; omega
         simp only [binOp, Op.stringOp, Result.andThen_ok]
         rw [if_neg hb']
         rfl)
  · rename_i a b
    cases hx; cases hy
    split at h
    case isFalse => cases h
    rename_i hk
    have hd := kd_bool hk
    have g := hg (.bool a) (.bool b) (by intro c h; cases h) (by intro h; cases h)
    have he : (Op.equal t (.bool a) (.bool b)).run P w = .ok (a == b) w := by
      show (Op.equalIn (9999 + 1) t (.bool a) (.bool b)).run P w = _
      unfold Op.equalIn
      rw [Sem.run_bind, run_und hd]
      rfl
    cases op <;> simp only at h <;> first
      | (cases h; done)
      | (simp at h; subst h; refine .same hs ?_ (by constructor); rw [Sem.run_bind, g]; simp [binOp, he])
  · rename_i a1 a2 a3 b1 b2 b3
    split at h
    case isFalse => cases h
    rename_i hk
    obtain ⟨_, rfl⟩ := ints3 hx
    obtain ⟨_, rfl⟩ := ints3 hy
    obtain ⟨he, g⟩ := run_eq3 (w := w) hk a1 a2 a3 b1 b2 b3
    cases op <;> simp only at h <;> first
      | (cases h; done)
      | (simp only [Option.some.injEq] at h; subst h; refine .same hs ?_ (by constructor); rw [Sem.run_bind, g _ (by simp)]; simp only [Result.andThen_ok, binOp, Sem.run_bind, he, Sem.run_pure])
  · cases hx; cases hy
    split at h
    case isFalse => cases h
    rename_i hk
    obtain ⟨e, hd⟩ := kd_slice hk
    have g := hg (.slice none 0 0) (.slice none 0 0) (by intro c h; cases h) (by intro h; cases h)
    have he : (Op.equal t (.slice none 0 0) (.slice none 0 0)).run P w = .ok true w := by
      show (Op.equalIn (9999 + 1) t _ _).run P w = _
      unfold Op.equalIn
      rw [Sem.run_bind, run_und hd]
      rfl
    cases op <;> simp only at h <;> first
      | (cases h; done)
      | (simp at h; subst h; refine .same hs ?_ (by constructor); rw [Sem.run_bind, g]; simp [binOp, he])
  · cases hy
    split at h
    case isFalse => cases h
    rename_i hk
    obtain ⟨e, hd⟩ := kd_slice hk
    cases hx with
    | emptySl a ccap =>
    have g := fun len => hg (.slice (some a) len ccap) (.slice none 0 0) (by intro c h; cases h) (by intro h; cases h)
    have he : ∀ len, (Op.equal t (.slice (some a) len ccap) (.slice none 0 0)).run P w = .ok false w := by
      intro len
      show (Op.equalIn (9999 + 1) t _ _).run P w = _
      unfold Op.equalIn
      rw [Sem.run_bind, run_und hd]
      rfl
    cases op <;> simp only at h <;> first
      | (cases h; done)
      | (simp at h; subst h; refine .same hs ?_ (by constructor); rw [Sem.run_bind, g]; simp [binOp, he])
  · cases hy
    split at h
    case isFalse => cases h
    rename_i hk
    obtain ⟨e, hd⟩ := kd_slice hk
    cases hx with
    | sl _ _ _ ccap _ _ p a hb ha hlc hcs hcap =>
    have g := fun len => hg (.slice (some a) len ccap) (.slice none 0 0) (by intro c h; cases h) (by intro h; cases h)
    have he : ∀ len, (Op.equal t (.slice (some a) len ccap) (.slice none 0 0)).run P w = .ok false w := by
      intro len
      show (Op.equalIn (9999 + 1) t _ _).run P w = _
      unfold Op.equalIn
      rw [Sem.run_bind, run_und hd]
      rfl
    cases op <;> simp only at h <;> first
      | (cases h; done)
      | (simp at h; subst h; refine .same hs ?_ (by constructor); rw [Sem.run_bind, g]; simp [binOp, he])
  · cases h
theorem kd_iface {t:Nat} (h:tKd P t=some .iface):∃ms,P.underlying t=some (.interface ms):=by
 unfold tKd at h
 cases hd:P.underlying t with
 |none=>rw[hd]at h;cases h
 |some d=>rw[hd]at h;cases d<;>simp[kdOf]at h;exact⟨_,rfl⟩
theorem sok_binY {op:BinOp} {t:TypeId} {x y v:AVal} {xv yv:Value} (xo yo:Operand) (hs:Sim β m w) (hx:VRel β x xv) (hy:VRel β y yv) (h:abinY P op t x yo y=some v):
  SOk P fl β m w (do eqGuard op t xo yo xv yv;binOp op t xv yv) v m:=by
 unfold abinY at h
 cases hc:isNilC yo with
 |false=>rw[hc]at h;exact sok_bin xo yo hs hx hy h
 |true=>
 rw[hc]at h
 simp only at h
 obtain rfl:yo= .const .nilIface:=by
  unfold isNilC at hc
  split at hc
  ·rfl
  ·cases hc
 have g:∀(op:BinOp) (a:Value),(op= .eql∨op= .neq)→(a= .nilIface∨∃t v,a= .iface t v)→(eqGuard op t xo (.const .nilIface) a .nilIface).run P w= .ok () w:=by
  intro op a ho ha
  rcases ho with rfl|rfl<;>rcases ha with rfl|⟨_,_,rfl⟩<;>simp[eqGuard]
 have he:∀(ms:_) (a:Value),P.underlying t=some (.interface ms)→(a= .nilIface∨∃t v,a= .iface t v)→(Op.equal t a .nilIface).run P w= .ok (match a with| .nilIface=>true|_=>false) w:=by
  intro ms a hd ha
  rcases ha with rfl|⟨_,_,rfl⟩
  ·show(Op.equalIn (9999+1) t _ _).run P w=_
   unfold Op.equalIn
   rw[Sem.run_bind,run_und hd]
   rfl
  ·show(Op.equalIn (9999+1) t _ _).run P w=_
   unfold Op.equalIn
   rw[Sem.run_bind,run_und hd]
   rfl
 split at h
 case h_5=>cases h
 all_goals
  rename_i hk
  obtain⟨ms,hd⟩:=kd_iface hk
  simp only[Option.some.injEq]at h
  subst h
  cases hx
  cases hy
  refine .same hs ?_ (by constructor)
  rw[Sem.run_bind,g _ _ (by simp) (by simp)]
  simp[binOp,he _ _ hd]
theorem abytes_rel:∀{cs:List AVal} {us:Array Value} {l:List UInt8},LRel β cs us→abytes cs=some l→∃ns:List Int,us=(ns.map (Value.int .u8)).toArray∧l=ns.map fun n=>UInt8.ofNat n.toNat:=by
 intro cs
 induction cs with
 |nil=>
  intro us l hr h
  simp[abytes]at h
  subst h
  have:us= #[]:=Array.eq_empty_of_size_eq_zero (by have:=hr.1;simpa using this.symm)
  exact⟨[],by simp[this],rfl⟩
 |cons x cs ih=>
  intro us l hr h
  obtain⟨us⟩:=us
  cases us with
  |nil=>have:=hr.1;simp at this
  |cons u us=>
   have hx:VRel β x u:=hr.2 0 x u (by simp) (by simp)
   have hrest:LRel β cs us.toArray:=⟨by have:=hr.1;simpa using this,fun i a v h1 h2=>hr.2 (i+1) a v (by simpa using h1) (by simpa using h2)⟩
   unfold abytes at h
   split at h
   ·rename_i heq;cases heq
   ·rename_i n r heq
    simp at heq
    obtain⟨rfl,rfl⟩:=heq
    rw[Option.map_eq_some_iff]at h
    obtain⟨l',h1,rfl⟩:=h
    obtain⟨ns,h2,h3⟩:=ih hrest h1
    cases hx
    refine⟨n::ns, ?_,by simp[h3]⟩
    simp at h2
    simp[h2]
   ·cases h
theorem foldl_push (ns:List Int) (s:ByteArray):ns.foldl (fun r n=>r.push (UInt8.ofNat n.toNat)) s=⟨(s.data.toList++ns.map fun n=>UInt8.ofNat n.toNat).toArray⟩:=by
 induction ns generalizing s with
 |nil=>cases s;simp
 |cons n ns ih=>
  rw[List.foldl_cons,ih]
  simp[ByteArray.push]
theorem sok_convert {src dst:TypeId} {x v:AVal} {xv:Value} (hs:Sim β m w) (hx:VRel β x xv) (h:aconvert P m src dst x=some v):SOk P fl β m w (convert src dst xv) v m:=by
 unfold aconvert at h
 split at h
 ·rename_i k n k1 k2 h1 h2
  simp at h
  subst h
  cases hx
  have hd:=kd_int h2
  obtain⟨d1,hd1⟩:∃d,P.underlying src=some d:=by
   unfold tKd at h1
   cases hq:P.underlying src with
   |none=>rw[hq]at h1;cases h1
   |some d=>exact⟨d,rfl⟩
  refine .same hs ?_ (.int _ _)
  unfold convert
  simp only[Sem.run_bind,run_und hd1,run_und hd,Result.andThen_ok]
  cases d1<;>rfl
 ·rename_i s h1 h2
  simp at h
  subst h
  cases hx
  refine .same hs (cv:= .string s) ?_ (.str _)
  unfold convert
  simp only[Sem.run_bind,run_und (kd_string h1),run_und (kd_string h2),Result.andThen_ok]
  rfl
 ·rename_i n o len cap h1 h2
  split at h
  case isFalse=>cases h
  rename_i he
  obtain⟨e,hd⟩:=kd_slice h1
  have hte:tElem P src=some e:=by unfold tElem;rw[hd]
  rw[hte]at he
  simp only[Option.bind_some]at he
  rw[Option.map_eq_some_iff]at h
  obtain⟨l,hl,rfl⟩:=h
  rw[Option.bind_eq_some_iff]at hl
  obtain⟨cs,hcs,hb⟩:=hl
  cases hx with
  |sl _ _ _ ccap _ _ p a hpb ha hlc hcs' hcap=>
  obtain⟨us,hr,hlr⟩:=loads_cells (P:=P) hs hpb hcs
  obtain⟨ns,rfl,rfl⟩:=abytes_rel hlr hb
  have hload:(loadCells a len).run P w= .ok (ns.map (Value.int .u8)).toArray w:=by
   by_cases h0:ccap=0
   ·have h00:len=0:=by omega
    subst h00
    have:ns=[]:=by
     have:=hlr.1
     rw[(alds_len hcs).1]at this
     simp at this
     exact List.length_eq_zero_iff.1 this.symm
    subst this
    rfl
   ·rw[ha h0];exact hr
  refine .same hs ?_ (.str _)
  rw[run_convert_bytes_string w src dst e (some a) len ccap hd (kd_int he) (kd_string h2),run_bytesToString w a len ccap ns hload,foldl_push]
  rfl
 ·cases h
end ops
end Go.Ab
namespace Go.Ab
open Go.RowKit
section ops
variable {P:Program} {fl:Nat} {β:Inj} {m m':Mem} {w:World}
theorem addr_add' (b o n:Nat):(⟨b,o,none⟩:Addr).add n=⟨b,o+n,none⟩:=addr_add _ _ rfl
theorem sok_index {t:TypeId} {x i:AVal} {xv iv:Value} {n o len es:Nat} {cap:Option Nat} {j:Int} (hs:Sim β m w) (hx:VRel β x xv) (hi:VRel β i iv) (e1:x= .sl n o len cap es) (e2:intVal i=some j)
  (h0:0≤j) (h1:j<len) (he:(tElem P t).bind (tSize P)=some es):SOk P fl β m w (Instr.indexAt t xv iv) (.ptr (some (n,o+j.toNat*es))) m:=by
 subst e1
 obtain⟨k,rfl⟩:=intVal_rel hi e2
 cases hte:tElem P t with
 |none=>rw[hte]at he;cases he
 |some e=>
  rw[hte]at he
  simp only[Option.bind_some]at he
  have hd:=und_elem hte
  cases hx with
  |sl _ _ _ ccap _ _ p a hpb ha hlc hcs hcap=>
  have:=ha (by omega)
  subst this
  refine .same hs (cv:= .pointer (some ⟨p.cb,p.co+(o+j.toNat*es),none⟩)) ?_ (.ptr n _ p hpb)
  have hc:0≤j∧j<(len:Int):=⟨h0,h1⟩
  simp[Instr.indexAt,asIntOf,run_und hd,hc,run_size he,addr_add',Nat.add_assoc]
theorem und_arr {t:TypeId} {n:Nat} {e:TypeId} (h:tArr P t=some (n,e)):P.underlying t=some (.array n e):=by
 unfold tArr at h
 split at h
 ·rename_i hu;simp at h;obtain⟨rfl,rfl⟩:=h;exact hu
 ·cases h
theorem sok_indexA {t:TypeId} {x i:AVal} {xv iv:Value} {n o len sz:Nat} {e:TypeId} {j:Int} (hs:Sim β m w) (hx:VRel β x xv) (hi:VRel β i iv) (e1:x= .ptr (some (n,o))) (e2:intVal i=some j)
  (h0:0≤j) (h1:j<len) (ha:tArr P t=some (len,e)) (he:tSize P e=some sz):SOk P fl β m w (Instr.indexAt t xv iv) (.ptr (some (n,o+j.toNat*sz))) m:=by
 subst e1
 obtain⟨k,rfl⟩:=intVal_rel hi e2
 have hd:=und_arr ha
 cases hx with
 |ptr _ _ p hpb=>
 refine .same hs (cv:= .pointer (some ⟨p.cb,p.co+(o+j.toNat*sz),none⟩)) ?_ (.ptr n _ p hpb)
 have hc:0≤j∧j<(len:Int):=⟨h0,h1⟩
 simp[Instr.indexAt,Instr.sureAddr,asIntOf,run_und hd,hc,run_size he,addr_add',Nat.add_assoc]
theorem sok_make {t e by_ es:Nat} {z:List AVal} {kl kc:IntKind} {l c:Int} (hs:Sim β m w) (he:tElem P t=some e) (h1:tSize P e=some es) (h2:tBytes P e=some by_) (h3:tZero P e=some z)
  (hb:by_≤1024) (hes:0<es) (hzl:z.length=es) (h0:0≤l) (hlc:l≤c) (hc:c≤2^36) (hf:Free β m (m.push (List.replicate c.toNat z).flatten)):
  SOk P fl β m w (Instr.makeSlice t (.int kl l) (.int kc c)) (.sl m.size 0 l.toNat (some c.toNat) es) (m.push (List.replicate c.toNat z).flatten):=by
 obtain⟨i,zv,hi,hsz,rfl,hz,hzr⟩:=info_of h1 h2 h3
 have hbytes:(i.bytes:Int)*c≤281474976710656:=by
  have:(i.bytes:Int)*c≤1024*c:=Int.mul_le_mul_of_nonneg_right (by omega) (by omega)
  omega
 have hr:=run_make (P:=P) w t e i zv (und_elem he) hi hz kl kc l c h0 hlc hbytes (by omega)
 have hrow:LRel β (List.replicate c.toNat z).flatten (madeCells zv.cells (c.toNat*i.size)):=by
  have:=zero_row (β:=β) (hzr β) hzl hes c.toNat
  rw[hsz]
  exact this
 have hn:β m.size=none:=hf m.size (Nat.le_refl _) (by simp)
 refine⟨_,_,_,hr, .sl m.size 0 _ _ es _ _ _ (upd_same _ _ _) (fun _=>rfl) (by omega) ?_ (fun c' h=>by simpa using h),post_alloc hs hn e hrow.toC⟩
 simp[size_madeCells,hsz]
theorem run_append_zeros {t tx e ty:Nat} {i:TypeInfo} {z:Value} (ht:P.underlying t=some (.slice e)) (htx:P.underlying tx=some (.int .i64)) (hi:P.info? e=some i) (hz:i.zero=some z) (h1:i.size=1) (hby:i.bytes≤1024) {n:Int} (h0:0<n) (hn:n≤2^36):
  (Builtin.append_ #[t,tx] ty #[.slice none 0 0, .int .i64 n]).run P w=
   .ok (.slice (some ⟨w.heap.size,0,none⟩) n.toNat (grownCap w n.toNat 0 e))
    (w.drew.alloc (.cells (#[]++Builtin.zeroCells z.cells n.toNat++Builtin.zeroCells z.cells (grownCap w n.toNat 0 e-n.toNat)) e)):=by
 have hw:IntKind.i64.wrap n=n:=by
  unfold IntKind.wrap
  simp[IntKind.bits,IntKind.signed]
  omega
 have a1:¬(n<0):=by omega
 have hb:n*(i.bytes:Int)≤2^36*1024:=Int.mul_le_mul hn (by omega) (by omega) (by omega)
 have a2:¬(281474976710656<n*(i.bytes:Int)):=by omega
 have hn0:¬(n≤0):=by omega
 have hm:n.toNat*i.bytes≤2^36*1024:=Nat.mul_le_mul (by omega) hby
 have h48:=growslice_fits (show 0<n.toNat by omega) (bytes:=i.bytes) (by omega)
 have h48':¬(281474976710656<Builtin.nextslicecap n.toNat 0*i.bytes):=by omega
 have hne:n.toNat≠0:=by omega
 have h63'':¬(9223372036854775807<max n 0):=by omega
 simp[Builtin.append_,run_underlying ht,run_underlying htx,sizeOf,typeInfo,zeroValue,hi,hz,asInt,asIntOf,hw,a1,a2,hn0,h63'',h48',h1,hne,Question.forced,newRow,grownCap,Builtin.firstCells]
theorem sok_zap {t tx ty:Nat} {s x v:AVal} {sv xv:Value} (hs:Sim β m w) (hS:VRel β s sv) (hX:VRel β x xv) (h:azap P m t tx s x=some (v,m')) (hf:Free β m m'):
  SOk P fl β m w (Builtin.append_ #[t,tx] ty #[sv,xv]) v m':=by
 unfold azap at h
 split at h
 case h_2=>cases h
 rename_i e n he htx
 have hund:=und_elem he
 have hux:=kd_int htx
 split at h
 case h_2=>cases h
 rename_i by_ z h1 h2 h3
 split at h
 case isFalse=>cases h
 rename_i hc
 obtain⟨hby,h0,hn⟩:=hc
 simp at h
 obtain⟨rfl,rfl⟩:=h
 obtain⟨i,zv,hi,hsz,rfl,hz,hzr⟩:=info_of h1 h2 h3
 cases hS
 cases hX
 have hr:=run_append_zeros (P:=P) (w:=w) (ty:=ty) hund hux hi hz hsz hby h0 hn
 have hzs:zv.cells.size=1:=by rw[←(hzr β).1];rfl
 have hrow:LRel β (List.replicate n.toNat z) (Builtin.zeroCells zv.cells n.toNat):=by
  have:=zero_row (β:=β) (hzr β) (es:=1) (by simp) (by omega) n.toNat
  have hfl:(List.replicate n.toNat [z]).flatten=List.replicate n.toNat z:=by
   generalize n.toNat=n
   induction n with
   |zero=>rfl
   |succ n ih=>simp[List.replicate_succ,ih]
  rw[hfl]at this
  unfold Builtin.zeroCells
  rw[hzs]
  rw[hzs]at this
  exact this
 have hg:=grown_row (fl:=fl) (e:=e) (len:=0) (k:=n.toNat) (sCap:=0) (es:=1) (old:=[]) (new:=List.replicate n.toNat z) hs hf (LRel.nil β) hrow (by simp) (by simp) (hzr β) (by simp)
 simp only[List.nil_append,Nat.zero_add]at hg hr
 exact⟨_,_,_,hr,hg.1,hg.2⟩
theorem bytesA_length (q:ByteArray):(bytesA q).length=q.size:=by simp only[bytesA,List.length_map,Array.length_toList];rfl
theorem bytesA_one (q:ByteArray):(bytesA q).all (·.one)=true:=List.all_eq_true.2 fun x hx=>by obtain⟨b,_,rfl⟩:=List.mem_map.1 hx;rfl
theorem bytes_lrel (β:Inj) (q:ByteArray):LRel β (bytesA q) (q.data.map fun b=>Value.int .u8 b.toNat):=by
 refine⟨by simp[bytesA],fun i a v h1 h2=> ?_⟩
 unfold bytesA at h1
 rw[List.getElem?_map]at h1
 rw[Array.getElem?_map,←Array.getElem?_toList]at h2
 cases hb:q.data.toList[i]? with
 |none=>rw[hb]at h1;cases h1
 |some b=>
  rw[hb]at h1 h2
  simp at h1 h2
  subst h1;subst h2
  exact .int _ _
theorem first_str (q:ByteArray) (k:Nat):(Builtin.firstCells k q.size (.string q)).run P w= .ok (q.data.map fun b=>Value.int .u8 b.toNat) w:=by
 simp only[Builtin.firstCells,Sem.run_pure]
 rw[show q.extract 0 q.size=q from ByteArray.extract_zero_size]
theorem sok_sapp {t tx ty:Nat} {s x v:AVal} {sv xv:Value} (hs:Sim β m w) (hS:VRel β s sv) (hX:VRel β x xv) (h:asapp P fl m t tx s x=some (v,m')) (hf:Free β m m'):
  SOk P fl β m w (Builtin.append_ #[t,tx] ty #[sv,xv]) v m':=by
 unfold asapp at h
 split at h
 case h_2=>cases h
 rename_i q
 split at h
 case isFalse=>cases h
 rename_i hc
 obtain⟨he,hk,h1,h2,h3⟩:=hc
 obtain⟨z,hz0,hzl⟩:=Option.map_eq_some_iff.1 h3
 obtain⟨i,zv,hi,hsz,hby,hz,hzr⟩:=info_of h1 h2 hz0
 have hund:=und_elem he
 have hnx:NoInt P tx:=⟨_,kd_string hk,fun k e=>by cases e⟩
 cases hX
 have hzs:zv.cells.size=1:=by rw[←(hzr β).1,hzl]
 have hlr:=bytes_lrel β q
 have hus:(q.data.map fun b=>Value.int .u8 b.toNat).size=q.size:=by rw[Array.size_map];rfl
 split at h
 ·cases hS
  split at h
  ·rename_i h0
   simp at h
   obtain⟨rfl,rfl⟩:=h
   have:=run_append_fit (P:=P) (w:=w) (ty:=ty) (base:=none) (sLen:=0) (sCap:=0) hund hnx hi rfl (first_str q i.size) (by omega)
   exact .same hs this (by rw[h0];exact .nilSl)
  ·rename_i h0
   split at h
   case isFalse=>cases h
   rename_i hle
   simp at h
   obtain⟨rfl,rfl⟩:=h
   have hn:β m.size=none:=hf m.size (Nat.le_refl _) (by simp)
   have:=run_append_new (P:=P) (w:=w) (ty:=ty) (base:=none) (sLen:=0) (sCap:=0) (os:= #[]) hund hnx hi hz rfl (by simp[Builtin.firstCells]) (first_str q i.size) (by omega) (by omega) (by omega)
   have hge:=grownCap_ge w (0+q.size) 0 byT
   refine⟨_,_,_,this, ?_,Post.drew (post_alloc hs.drew hn byT ((show LRel β (bytesA q) (#[]++q.data.map fun b=>Value.int .u8 b.toNat) by simpa using hlr).toC_append _))⟩
   simp only[Nat.zero_add]at hge⊢
   refine .sb _ _ _ _ (upd_same _ _ _) rfl rfl (by omega) hge ?_
   simp only[Array.size_append,size_zeroCells,hus,hzs]
   simp;omega
 ·rename_i n len
  cases hS with
  |sb _ _ ccap p hb ht hco hp0 hl hcs=>
  split at h
  ·rename_i h0
   simp at h
   obtain⟨rfl,rfl⟩:=h
   have:=run_append_fit (P:=P) (w:=w) (ty:=ty) (base:=some ⟨p.cb,0,none⟩) (sLen:=len) (sCap:=ccap) hund hnx hi rfl (first_str q i.size) (by omega)
   have hemp:(q.data.map fun b=>Value.int .u8 b.toNat).toList=[]:=List.length_eq_zero_iff.1 (by simp[h0])
   exact .same hs (by rw[this,hemp,h0];rfl) (.sb n len ccap p hb ht hco hp0 hl hcs)
  ·rename_i h0
   split at h
   case isFalse=>cases h
   rename_i hcc
   obtain⟨hle,hfl,hn,hrw,hcl⟩:=hcc
   simp at h
   obtain⟨rfl,rfl⟩:=h
   have hfree:β m.size=none:=hf m.size (Nat.le_refl _) (by simp)
   by_cases hroom:len+q.size≤ccap
   ·obtain⟨w',hst,hpost⟩:=post_regrow (P:=P) (fl:=fl) hs hfl hn hb hrw hfree (o:=0) (old:=(m.blk n).cells) (new:=bytesA q) rfl (by omega) (us:=(q.data.map fun b=>Value.int .u8 b.toNat).toList) (by rw[Array.toArray_toList];exact hlr) (bytesA_one q) (by rw[bytesA_length,hcl,hco];omega)
    have:=run_append_fit (P:=P) (w:=w) (ty:=ty) (base:=some ⟨p.cb,0,none⟩) (sLen:=len) (sCap:=ccap) hund hnx hi rfl (first_str q i.size) hroom
    refine⟨_,w',_, ?_, .sb m.size (len+q.size) ccap ⟨p.cb,p.co+0,p.cs,p.ct⟩ (upd_same _ _ _) ht hco (by omega) hroom hcs,hpost⟩
    rw[this]
    have haa:(⟨p.cb,0,none⟩:Addr).add (len*i.size)=⟨p.cb,p.co+0+(m.blk n).cells.length,none⟩:=by rw[addr_add _ _ rfl,hsz,hcl,hco];simp
    simp only[haa]
    rw[hst]
    rfl
   ·obtain⟨us,hos,hor⟩:=loads_cells (P:=P) (w:=w.drew) hs.drew hb (show alds m n 0 len=some (m.blk n).cells by unfold alds;rw[if_pos ⟨hn,by rw[hrw];simp,by omega⟩];simp[←hcl])
    have:=run_append_new (P:=P) (w:=w) (ty:=ty) (base:=some ⟨p.cb,0,none⟩) (sLen:=len) (sCap:=ccap) (os:=us) hund hnx hi hz rfl (by simp only[Builtin.firstCells,hsz,Nat.mul_one];simpa[hco]using hos) (first_str q i.size) (by omega) hle (by omega)
    have hge:=grownCap_ge w (len+q.size) ccap byT
    refine⟨_,_,_,this, ?_,post_kill n (Post.drew (post_alloc hs.drew hfree byT ((hor.append hlr).toC_append _)))⟩
    refine .sb _ _ _ _ (upd_same _ _ _) rfl rfl (by omega) hge ?_
    have h5:=hor.1
    simp only[Array.size_append,size_zeroCells,hus,hzs]
    simp;omega
 ·cases h
def OOk (P:Program) (fl:Nat) (β:Inj) (m:Mem) (w:World) (s:Sem Next) (v:AVal) (m':Mem):Prop:=
 ∃n cv w' β',s.run P w= .ok n w'∧(n= .value cv∨(n= .skip∧cv=undef))∧VRel β' v cv∧Post fl β m w m' β' w'
theorem SOk.op {s:Sem Value} {v:AVal} (h:SOk P fl β m w s v m'):OOk P fl β m w (do pure (.value (←s))) v m':=by
 obtain⟨cv,w',β',h1,h2,h3⟩:=h
 exact⟨.value cv,cv,w',β',by rw[Sem.run_bind,h1];rfl, .inl rfl,h2,h3⟩
theorem sok_copy {P:Program} {fl:Nat} {β:Inj} {m m':Mem} {w:World} {t tx ty:Nat} {d s v:AVal} {dv sv:Value} (hs:Sim β m w) (hD:VRel β d dv) (hS:VRel β s sv) (h:acopy P fl m t d s=some (v,m')):
  SOk P fl β m w (Builtin.copy_ #[t,tx] ty #[dv,sv]) v m':=by
 unfold acopy at h
 split at h
 case h_2=>cases h
 rename_i n o len cap0 n' o' len' cap0' ht
 rw[Option.bind_eq_some_iff]at ht
 obtain⟨e,he,hsz⟩:=ht
 have hund:=und_elem he
 have hinfo:(P.info? e).map (·.size)=some 1:=hsz
 cases hD with
 |sl _ _ _ ccap _ _ p a hb ha hl hcc hce=>
 cases hS with
 |sl _ _ _ ccap' _ _ p' a' hb' ha' hl' hcc' hce'=>
 split at h
 ·rename_i hk
  simp at h
  obtain⟨rfl,rfl⟩:=h
  exact .same hs (run_copy_none w t tx ty e (some a) (some a') len ccap len' ccap' hund hinfo hk) (.int _ _)
 ·rename_i k hk
  split at h
  case h_2=>cases h
  rename_i cs hcs
  rw[Option.map_eq_some_iff]at h
  obtain⟨m1,h1,h2⟩:=h
  simp only[Prod.mk.injEq]at h2
  obtain⟨rfl,rfl⟩:=h2
  have hlen:=(alds_len hcs).1
  have hk':Nat.min len' len=min len' len:=rfl
  have hmin:k+1≤len'∧k+1≤len:=by rw[hk']at hk;omega
  rw[ha' (by omega)]
  rw[ha (by omega)]
  obtain⟨us,hr,hlr⟩:=loads_cells (P:=P) hs hb' hcs
  have hus:us.size=k+1:=by rw[←hlr.1,hlen]
  unfold asts at h1
  split at h1
  case isFalse=>cases h1
  rename_i hc
  obtain⟨c1,c2,c3,c4,c5⟩:=hc
  simp at h1
  subst h1
  have hlr':LRel β cs us.toList.toArray:=by simpa using hlr
  obtain⟨w',hrun,hpost⟩:=post_sts (P:=P) (fl:=fl) cs us.toList hs c1 c2 hb c3 (o:=o) c4 c5 hlr' ⟨p.cb,p.co+o,none⟩ 0 rfl rfl rfl
  refine⟨_,w',β, ?_, .int _ _,hpost⟩
  cases hq:P.info? e with
  |none=>simp[hq]at hinfo
  |some i=>
   have hi:i.size=1:=by simpa[hq]using hinfo
   simp[Builtin.copy_,run_underlying hund,Builtin.lenOf,Builtin.firstCells,sizeOf,typeInfo,hq,hi,hk,hr,hrun,goInt]
theorem aset_sound {t:TypeId} {x k y v:AVal} {cx ck cy:Value} (h:aset P m fl t x k y=some (v,m')) (hs:Sim β m w) (hx:VRel β x cx) (hk:VRel β k ck) (hy:VRel β y cy):
  v=aundef∧∃w',(Instr.mapUpdate t cx ck cy).run P w= .ok () w'∧Post fl β m w m' β w':=by
 unfold aset at h
 split at h
 case h_2=>cases h
 split at h
 case isFalse=>cases h
 rename_i hc
 split at h
 case h_2=>cases h
 rename_i hm
 simp at h
 rw[←h.1,←h.2]
 exact⟨rfl,sok_mapSet hs hc.1 hc.2.1 hc.2.2 hm hx hk hy⟩
theorem aop_sound {ρa:Operand→AVal} {ρ:Operand→Value} {o:Oper} {v:AVal} (h:aop P ρa m fl o.op=some (v,m')) (hs:Sim β m w) (hf:Free β m m')
  (hρ:∀x∈o.op.operands,VRel β (ρa x) (ρ x)):OOk P fl β m w (execOp ρ o) v m':=by
 obtain⟨dst,op,ty,pos,after,guard⟩:=o
 simp only at h hρ
 cases op<;>simp only[aop]at h<;>simp only[Op.operands]at hρ
 case makeMap t r=>
  cases r with
  |some r=>cases h
  |none=>
   simp at h
   obtain⟨rfl,rfl⟩:=h
   exact(sok_makeMap hs hf).op
 case insert t x k y=>
  obtain⟨rfl,w',h1,h2⟩:=aset_sound h hs (hρ x (by simp)) (hρ k (by simp)) (hρ y (by simp))
  exact⟨.skip,undef,w',β,by simp only[execOp,Sem.run_bind,h1,Result.andThen_ok];rfl, .inr ⟨rfl,rfl⟩, .tup [] #[] rfl (fun i a v h=>by simp at h),h2⟩
 case mapUpdate t x k y=>
  obtain⟨rfl,w',h1,h2⟩:=aset_sound h hs (hρ x (by simp)) (hρ k (by simp)) (hρ y (by simp))
  exact⟨.skip,undef,w',β,by simp only[execOp,Sem.run_bind,h1,Result.andThen_ok];rfl, .inr ⟨rfl,rfl⟩, .tup [] #[] rfl (fun i a v h=>by simp at h),h2⟩
 case lookup t x k ok=>
  cases ok with
  |true=>cases h
  |false=>
   simp only[Option.map_eq_some_iff,Prod.mk.injEq]at h
   obtain⟨u,h,rfl,rfl⟩:=h
   have hx:=hρ x (by simp)
   have hk:=hρ k (by simp)
   unfold aask at h
   split at h
   case h_2=>cases h
   rename_i ha hb
   split at h
   case isFalse=>cases h
   rename_i hc
   split at h
   case h_2=>cases h
   rename_i hm
   rw[Option.some.injEq]at h
   subst h
   rw[ha]at hx
   rw[hb]at hk
   exact(sok_lookup (fl:=fl) hs hc.1 hc.2 hm hx hk).op
 case move x=>
  simp at h
  obtain⟨rfl,rfl⟩:=h
  exact⟨_,_,w,β,rfl, .inl rfl,hρ x (by simp),Post.refl hs⟩
 case assign x=>
  simp at h
  obtain⟨rfl,rfl⟩:=h
  exact⟨_,_,w,β,rfl, .inl rfl,hρ x (by simp),Post.refl hs⟩
 case pick c a b=>
  split at h
  ·rename_i t ht
   simp at h
   obtain⟨rfl,rfl⟩:=h
   have hc:=hρ c (by simp)
   rw[ht]at hc
   have hcv:ρ c= .bool t:=by generalize ρ c=q at hc;cases hc;rfl
   refine⟨.value (if t then ρ a else ρ b),_,w,β, ?_, .inl rfl, ?_,Post.refl hs⟩
   ·simp only[execOp,hcv,asBool,Sem.run_bind,Sem.run_pure,Result.andThen_ok]
   ·cases t
    ·exact hρ b (by simp)
    ·exact hρ a (by simp)
  ·cases h
 case alloc t=>
  split at h
  ·rename_i z hz
   simp at h
   obtain⟨rfl,rfl⟩:=h
   exact(sok_alloc hs hz hf _ rfl).op
  ·cases h
 case box t x=>
  split at h
  ·rename_i hfit
   simp at h
   obtain⟨rfl,rfl⟩:=h
   exact(sok_box hs (hρ x (by simp)) hfit hf).op
  ·cases h
 case build t parts=>
  split at h
  ·rename_i fs z hfs hz
   rw[Option.map_eq_some_iff]at h
   obtain⟨cs,hcs,he⟩:=h
   simp at he
   obtain⟨rfl,rfl⟩:=he
   exact(sok_build parts hs (fun x hx=>hρ x (by simpa using hx)) hfs hz hcs).op
  ·cases h
 case buildSlice t len parts=>
  split at h
  ·rename_i e he
   split at h
   ·rename_i es z h1 h2
    split at h
    ·rename_i hc
     rw[Option.map_eq_some_iff]at h
     obtain⟨cs,hcs,he'⟩:=h
     simp at he'
     obtain⟨rfl,rfl⟩:=he'
     exact(sok_buildSlice parts hs (fun x hx=>hρ x (by simpa using hx)) he h1 h2 hc.1 hc.2 hcs hf).op
    ·cases h
   ·cases h
  ·cases h
 case load t a=>
  rw[Option.map_eq_some_iff]at h
  obtain⟨u,hu,he⟩:=h
  simp at he
  obtain⟨rfl,rfl⟩:=he
  unfold aload at hu
  split at hu
  ·rename_i n o ha
   have hp:=hρ a (by simp)
   rw[ha]at hp
   split at hu
   ·rename_i k h1 h2
    rw[Option.map_eq_some_iff]at hu
    obtain⟨cs,hcs,rfl⟩:=hu
    exact(sok_load hs hp (.inl ⟨k,cs,h1,h2,hcs,rfl⟩)).op
   ·rename_i h1
    exact(sok_load hs hp (.inr ⟨h1,hu⟩)).op
   ·cases hu
  ·cases hu
 case store t a x=>
  rw[Option.map_eq_some_iff]at h
  obtain⟨m1,hm1,he⟩:=h
  simp at he
  obtain⟨rfl,rfl⟩:=he
  unfold astore at hm1
  split at hm1
  ·rename_i n o ha
   have hp:=hρ a (by simp)
   rw[ha]at hp
   split at hm1
   ·rename_i k hk
    split at hm1
    ·rename_i hfit
     obtain⟨w',hr,hpost⟩:=sok_store (fl:=fl) hs hp (hρ x (by simp)) hk hfit hm1
     exact⟨.skip,undef,w',β,by simp only[execOp,Sem.run_bind,hr,Result.andThen_ok];rfl, .inr ⟨rfl,rfl⟩, .tup [] #[] rfl (fun i a v h=>by simp at h),hpost⟩
    ·cases hm1
   ·cases hm1
  ·cases hm1
 case nilCheck x=>
  have hx:=hρ x (by simp)
  split at h
  ·rename_i a ha
   simp at h
   obtain⟨rfl,rfl⟩:=h
   rw[ha]at hx
   refine⟨.value (ρ x),_,w,β, ?_, .inl rfl,hx,Post.refl hs⟩
   simp only[execOp]
   generalize ρ x=q at hx
   cases hx
   rfl
  ·rename_i f a b ha
   simp at h
   obtain⟨rfl,rfl⟩:=h
   rw[ha]at hx
   refine⟨.value (ρ x),_,w,β, ?_, .inl rfl,hx,Post.refl hs⟩
   simp only[execOp]
   generalize ρ x=q at hx
   cases hx
   rfl
  ·cases h
 case binOp op t x y yt=>
  rw[Option.map_eq_some_iff]at h
  obtain⟨u,hu,he⟩:=h
  simp at he
  obtain⟨rfl,rfl⟩:=he
  exact(sok_binY x y hs (hρ x (by simp)) (hρ y (by simp)) hu).op
 case unOp op t x=>
  have hx:=hρ x (by simp)
  cases op<;>simp only at h<;>first
   |(cases h;done)
   |skip
  all_goals
   split at h
   case h_2=>cases h
   rename_i ha
   simp at h
   obtain⟨rfl,rfl⟩:=h
   rw[ha]at hx
   generalize hq:ρ x=q at hx
   cases hx
   first
    |exact SOk.op (.same hs (by rw[hq];rfl) (.bool _))
    |exact SOk.op (.same hs (by rw[hq];simp[Op.unary,Op.intArith]) (.int _ _))
 case convert src dst x=>
  rw[Option.map_eq_some_iff]at h
  obtain⟨u,hu,he⟩:=h
  simp at he
  obtain⟨rfl,rfl⟩:=he
  exact(sok_convert hs (hρ x (by simp)) hu).op
 case makeFunc fn first captured=>
  cases fn<;>simp only at h<;>first
   |(cases h;done)
   |skip
  rename_i f
  simp at h
  obtain⟨rfl,rfl⟩:=h
  refine SOk.op (.same hs (cv:= .func (.func f) (first.map ρ) (captured.map ρ)) rfl ?_)
  refine .fn f _ _ _ _ (by simp) (by simp) (fun i a v h1 h2=> ?_) (fun i a v h1 h2=> ?_)
  ·rw[List.getElem?_map]at h1
   rw[Array.getElem?_map]at h2
   cases hq:first[i]? with
   |none=>rw[hq]at h2;simp at h2
   |some y=>
    rw[hq]at h2
    have:first.toList[i]? =some y:=by simpa using hq
    rw[this]at h1
    simp at h1 h2
    subst h1;subst h2
    exact hρ y (by simp;exact .inl (Array.mem_of_getElem? hq))
  ·rw[List.getElem?_map]at h1
   rw[Array.getElem?_map]at h2
   cases hq:captured[i]? with
   |none=>rw[hq]at h2;simp at h2
   |some y=>
    rw[hq]at h2
    have:captured.toList[i]? =some y:=by simpa using hq
    rw[this]at h1
    simp at h1 h2
    subst h1;subst h2
    exact hρ y (by simp;exact .inr (Array.mem_of_getElem? hq))
 case makeSlice t l c=>
  unfold amake at h
  split at h
  case h_2=>cases h
  rename_i e kl l' kc c' he hl hc
  split at h
  case h_2=>cases h
  rename_i es by_ z h1 h2 h3
  split at h
  case isFalse=>cases h
  rename_i hcond
  obtain⟨c1,cz,cl,c2,c3,c4⟩:=hcond
  simp at h
  obtain⟨rfl,rfl⟩:=h
  have hl':=hρ l (by simp)
  have hc':=hρ c (by simp)
  rw[hl]at hl'
  rw[hc]at hc'
  generalize hq:ρ l=ql at hl'
  generalize hq2:ρ c=qc at hc'
  cases hl';cases hc'
  have:=sok_make (fl:=fl) (kl:=kl) (kc:=kc) hs he h1 h2 h3 c1 cz cl c2 c3 c4 hf
  rw[←hq,←hq2]at this
  exact this.op
 case slice t x lo hi mx=>
  rw[Option.map_eq_some_iff]at h
  obtain⟨u,hu,he⟩:=h
  simp at he
  obtain⟨rfl,rfl⟩:=he
  have opt:∀(q:Option Operand),(∀y∈q.toArray,VRel β (ρa y) (ρ y))→ORel β (q.map ρa) (q.map ρ):=by
   intro q hq
   cases q with
   |none=>exact .inl ⟨rfl,rfl⟩
   |some y=>exact .inr ⟨_,_,rfl,rfl,hq y (by simp)⟩
  exact(sok_slice hs (hρ x (by simp)) (opt lo fun y hy=>hρ y (by simp at hy⊢;simp[hy])) (opt hi fun y hy=>hρ y (by simp at hy⊢;simp[hy])) (opt mx fun y hy=>hρ y (by simp at hy⊢;simp[hy])) hu).op
 case fieldAddr s x f=>
  rw[Option.map_eq_some_iff]at h
  obtain⟨u,h,he⟩:=h
  simp at he
  obtain⟨rfl,rfl⟩:=he
  unfold afieldAddr at h
  split at h
  case h_2=>cases h
  rename_i n o off ft hx htf
  split at h
  case h_2=>cases h
  rename_i k hsz
  simp at h
  subst h
  have hx':=hρ x (by simp)
  rw[hx]at hx'
  unfold tField at htf
  split at htf
  case h_2=>cases htf
  rename_i fs hd
  rw[Option.map_eq_some_iff]at htf
  obtain⟨fd,hfd,he⟩:=htf
  simp at he
  obtain⟨rfl,rfl⟩:=he
  generalize hq:ρ x=q at hx'
  cases hx' with
  |ptr _ _ p hp=>
  refine SOk.op (.same hs (cv:= .pointer (some ⟨p.cb,p.co+(o+fd.offset),none⟩)) ?_ (.ptr n _ p hp))
  rw[hq]
  simp[Instr.fieldAt,run_und hd,hfd,Instr.sureAddr,fieldPlace,run_size hsz,addr_add',Nat.add_assoc]
 case field s x f=>
  split at h
  case h_2=>cases h
  rename_i cs off ft hx htf
  have hx':=hρ x (by simp)
  rw[hx]at hx'
  unfold tField at htf
  split at htf
  case h_2=>cases htf
  rename_i fs hd
  rw[Option.map_eq_some_iff]at htf
  obtain⟨fd,hfd,he⟩:=htf
  simp at he
  obtain⟨rfl,rfl⟩:=he
  generalize hq:ρ x=q at hx'
  cases hx' with
  |agg _ us g1 g2=>
  split at h
  ·rename_i k ha hsz
   simp at h
   obtain⟨rfl,rfl⟩:=h
   refine SOk.op (.same hs (cv:= .agg (us.extract fd.offset (fd.offset+k))) ?_ ?_)
   ·rw[hq]
    simp[Instr.field,run_und hd,hfd,asAgg,part,run_agg ha,run_size hsz]
   ·refine .agg _ _ (by simp[g1];omega) (fun i a v q1 q2=> ?_)
    rw[List.getElem?_take]at q1
    split at q1
    ·rw[List.getElem?_drop]at q1
     rw[Array.getElem?_extract]at q2
     split at q2
     ·exact g2 _ _ _ q1 q2
     ·cases q2
    ·cases q1
  ·rename_i ha
   rw[Option.map_eq_some_iff]at h
   obtain⟨u,hu,he⟩:=h
   simp at he
   obtain⟨rfl,rfl⟩:=he
   obtain⟨cv,hcv,hr⟩:=(show LRel β cs us from⟨g1,g2⟩).get hu
   refine SOk.op (.same hs (cv:=cv) ?_ hr)
   rw[hq]
   simp[Instr.field,run_und hd,hfd,asAgg,part,run_agg ha,hcv]
  ·cases h
 case indexAddr t x i=>
  rw[Option.map_eq_some_iff]at h
  obtain⟨u,h,he⟩:=h
  simp at he
  obtain⟨rfl,rfl⟩:=he
  unfold aindexAddr at h
  split at h
  case h_3=>cases h
  ·rename_i n o len cap es j hx hi
   split at h
   case isFalse=>cases h
   rename_i hc
   simp at h
   subst h
   exact(sok_index hs (hρ x (by simp)) (hρ i (by simp)) hx hi hc.1 hc.2.1 hc.2.2).op
  ·rename_i n o j hx hi
   split at h
   case h_2=>cases h
   rename_i len e hta
   split at h
   case h_2=>cases h
   rename_i sz hsz
   split at h
   case isFalse=>cases h
   rename_i hc
   simp at h
   subst h
   exact(sok_indexA hs (hρ x (by simp)) (hρ i (by simp)) hx hi hc.1 hc.2 hta hsz).op
 case index t x i=>
  split at h
  case h_2=>cases h
  rename_i s j hx hi
  split at h
  case isFalse=>cases h
  rename_i hc
  split at h
  case h_2=>cases h
  rename_i b hb
  simp at h
  obtain⟨rfl,rfl⟩:=h
  have hx':=hρ x (by simp)
  rw[hx]at hx'
  obtain⟨k,hiv⟩:=intVal_rel (hρ i (by simp)) hi
  generalize hq:ρ x=q at hx'
  cases hx'
  refine SOk.op (.same hs (cv:= .int .u8 b.toNat) ?_ (.int _ _))
  rw[hq,hiv]
  simp only[Instr.index,asIntOf,Sem.run_bind,Sem.run_pure,Result.andThen_ok,run_und (kd_string hc.1)]
  rw[if_pos hc.2,hb]
  rfl
 case extract x i=>
  split at h
  case h_2=>cases h
  rename_i xs hx
  rw[Option.map_eq_some_iff]at h
  obtain⟨u,hu,he⟩:=h
  simp at he
  obtain⟨rfl,rfl⟩:=he
  have hx':=hρ x (by simp)
  rw[hx]at hx'
  generalize hq:ρ x=q at hx'
  cases hx' with
  |tup _ us g1 g2=>
  obtain⟨cv,hcv,hr⟩:=(show LRel β xs us from⟨g1,g2⟩).get hu
  refine SOk.op (.same hs (cv:=cv) ?_ hr)
  rw[hq]
  simp[Instr.extract,hcv]
 case call c=>
  obtain⟨callee,args,argTypes⟩:=c
  unfold abuiltin at h
  simp only at h
  split at h
  ·rename_i x t
   have hx:=hρ x (by simp[Call.operands])
   have hr:∀n:Int,(Builtin.len_ #[t] ty #[ρ x]).run P w= .ok (.int .i64 n) w→OOk P fl β m w (execOp ρ ⟨dst, .call ⟨.builtin .len,⟨[x]⟩,⟨[t]⟩⟩,ty,pos,after,guard⟩) (.int .i64 n) m:=by
    intro n hn
    refine⟨.value (.int .i64 n),_,w,β, ?_, .inl rfl, .int _ _,Post.refl hs⟩
    simp[execOp,resolve,invoke,builtin,hn]
   rw[Option.map_eq_some_iff]at h
   obtain⟨u,h,he⟩:=h
   simp at he
   obtain⟨rfl,rfl⟩:=he
   unfold alen at h
   generalize hq:ρ x=q at hx
   split at h
   ·rename_i hk hax
    simp at h
    subst h
    rw[hax]at hx
    obtain⟨e,hd⟩:=kd_slice hk
    cases hx
    exact hr _ (by rw[hq];simp[Builtin.len_,run_und hd,goInt])
   ·rename_i hk hax
    simp at h
    subst h
    rw[hax]at hx
    obtain⟨e,hd⟩:=kd_slice hk
    cases hx
    exact hr _ (by rw[hq];simp[Builtin.len_,run_und hd,goInt])
   ·rename_i hk hax
    simp at h
    subst h
    rw[hax]at hx
    obtain⟨e,hd⟩:=kd_slice hk
    cases hx
    exact hr _ (by rw[hq];simp[Builtin.len_,run_und hd,goInt])
   ·rename_i hk hax
    simp at h
    subst h
    rw[hax]at hx
    obtain⟨e,hd⟩:=kd_slice hk
    cases hx
    exact hr _ (by rw[hq];simp[Builtin.len_,run_und hd,goInt])
   ·rename_i hk hax
    simp at h
    subst h
    rw[hax]at hx
    have hd:=kd_string hk
    cases hx
    exact hr _ (by rw[hq];simp[Builtin.len_,run_und hd,goInt])
   ·cases h
  ·rename_i s x t tx
   have hS:=hρ s (by simp[Call.operands])
   have hX:=hρ x (by simp[Call.operands])
   have both:SOk P fl β m w (Builtin.append_ #[t,tx] ty #[ρ s,ρ x]) v m':=by
    split at h
    ·rename_i r hr
     simp only[Option.some.injEq]at h
     subst h
     exact sok_append (ty:=ty) hs hS hX hr hf
    ·split at h
     ·rename_i r hr
      simp only[Option.some.injEq]at h
      subst h
      exact sok_zap (ty:=ty) hs hS hX hr hf
     ·exact sok_sapp (ty:=ty) hs hS hX h hf
   obtain⟨cv,w',β',h1,h2,h3⟩:=both
   refine⟨.value cv,cv,w',β', ?_, .inl rfl,h2,h3⟩
   simp[execOp,resolve,invoke,builtin,h1]
  ·rename_i d s t tx
   have hD:=hρ d (by simp[Call.operands])
   have hS:=hρ s (by simp[Call.operands])
   obtain⟨cv,w',β',h1,h2,h3⟩:=sok_copy (ty:=ty) (tx:=tx) hs hD hS h
   refine⟨.value cv,cv,w',β', ?_, .inl rfl,h2,h3⟩
   simp[execOp,resolve,invoke,builtin,h1]
  ·rename_i x t
   have hx:=hρ x (by simp[Call.operands])
   split at h
   case h_2=>cases h
   rename_i hk hax
   simp at h
   obtain⟨rfl,rfl⟩:=h
   rw[hax]at hx
   obtain⟨e,hd⟩:=kd_slice hk
   generalize hq:ρ x=q at hx
   cases hx
   refine⟨.value (.int .i64 0),_,w,β, ?_, .inl rfl, .int _ _,Post.refl hs⟩
   simp[execOp,resolve,invoke,builtin,Builtin.cap_,run_und hd,goInt,hq]
  ·cases h
 all_goals first
  |(cases h;done)
  |skip
theorem astep_asts {n o:Nat} {vs:List AVal} (h:asts fl m n o vs=some m'):AStep fl m m':=by
 unfold asts at h
 split at h
 ·rename_i hc
  simp at h
  subst h
  exact astep_put hc.1 (fun _=> .inl hc.2.2.1.symm)
 ·cases h
theorem acopy_step {P:Program} {fl:Nat} {m m':Mem} {t:TypeId} {d s v:AVal} (h:acopy P fl m t d s=some (v,m')):AStep fl m m':=by
 unfold acopy at h
 split at h
 ·split at h
  ·simp at h;rw[←h.2];exact AStep.refl _ _
  ·split at h
   ·rw[Option.map_eq_some_iff]at h
    obtain⟨m1,h1,h2⟩:=h
    simp at h2
    rw[←h2.2]
    exact astep_asts h1
   ·cases h
 ·cases h
theorem aappend_step {P:Program} {fl:Nat} {m m':Mem} {t tx:TypeId} {s x v:AVal} (h:aappend P fl m t tx s x=some (v,m')):AStep fl m m':=by
 unfold aappend at h
 split at h
 case h_2=>cases h
 split at h
 case h_2=>cases h
 split at h
 case isFalse=>cases h
 split at h
 case h_2=>cases h
 split at h
 ·split at h<;>first
   |(simp at h;rw[←h.2];exact AStep.refl _ _)
   |(cases h;done)
 ·split at h
  ·split at h
   ·simp at h;rw[←h.2];exact astep_push _ _ _
   ·cases h
  ·split at h
   ·split at h
    ·split at h
     ·simp at h;rw[←h.2];exact astep_push _ _ _
     ·split at h
      ·rename_i hc
       simp at h
       rw[←h.2]
       refine(astep_push fl m _).trans (astep_put hc.1 (fun _=> .inr rfl))
      ·cases h
    ·cases h
   ·cases h
  ·cases h
theorem aset_step {t:TypeId} {x k y:AVal} {v:AVal} (h:aset P m fl t x k y=some (v,m')):AStep fl m m':=by
 unfold aset at h
 split at h
 case h_2=>cases h
 split at h
 case isFalse=>cases h
 rename_i hc
 split at h
 case h_2=>cases h
 rename_i hm
 simp at h
 rw[←h.2]
 exact astep_putB hc.2.1 (by rw[hm];rfl)
theorem aop_step {ρa:Operand→AVal} {op:Op} {v:AVal} (h:aop P ρa m fl op=some (v,m')):AStep fl m m':=by
 cases op<;>simp only[aop]at h
 all_goals try simp only[Option.map_eq_some_iff,Prod.mk.injEq]at h
 case insert t x k y=>exact aset_step h
 case mapUpdate t x k y=>exact aset_step h
 case makeMap t r=>
  cases r with
  |some r=>cases h
  |none=>simp at h;rw[←h.2];exact astep_pushB _ _ _
 case lookup t x k ok=>
  cases ok with
  |true=>cases h
  |false=>
   simp only[Option.map_eq_some_iff,Prod.mk.injEq]at h
   obtain⟨u,_,_,rfl⟩:=h
   exact AStep.refl _ _
 case store t a x=>
  obtain⟨m1,h,_,rfl⟩:=h
  unfold astore at h
  split at h
  ·split at h
   ·split at h
    ·exact astep_asts h
    ·cases h
   ·cases h
  ·cases h
 case call c=>
  unfold abuiltin at h
  split at h
  ·rw[Option.map_eq_some_iff]at h
   obtain⟨u,_,he⟩:=h
   simp at he
   rw[←he.2]
   exact AStep.refl _ _
  ·split at h
   ·rename_i r hr
    simp only[Option.some.injEq]at h
    subst h
    exact aappend_step hr
   ·rename_i hr
    split at h
    ·rename_i r hr
     simp only[Option.some.injEq]at h
     subst h
     unfold azap at hr
     split at hr
     case h_2=>cases hr
     split at hr
     case h_2=>cases hr
     split at hr
     ·simp at hr;rw[←hr.2];exact astep_push _ _ _
     ·cases hr
    ·unfold asapp at h
     split at h
     case h_2=>cases h
     split at h
     case isFalse=>cases h
     split at h
     ·split at h
      ·simp at h;rw[←h.2];exact AStep.refl _ _
      ·split at h
       ·simp at h;rw[←h.2];exact astep_push _ _ _
       ·cases h
     ·split at h
      ·simp at h;rw[←h.2];exact AStep.refl _ _
      ·split at h
       ·rename_i hc
        simp at h
        rw[←h.2]
        exact(astep_push fl m _).trans (astep_put hc.2.1 (fun _=> .inr rfl))
       ·cases h
     ·cases h
  ·exact acopy_step h
  ·split at h
   ·simp at h;rw[←h.2];exact AStep.refl _ _
   ·cases h
  ·cases h
 case unOp op t x=>
  cases op<;>simp only at h<;>first
   |(cases h;done)
   |(split at h<;>first
     |(simp at h;rw[←h.2];exact AStep.refl _ _)
     |(cases h;done))
 case makeFunc fn a b=>
  cases fn<;>simp only at h<;>first
   |(cases h;done)
   |(simp at h;rw[←h.2];exact AStep.refl _ _)
 case makeSlice t l c=>
  unfold amake at h
  repeat' split at h
  all_goals first
   |(cases h;done)
   |(simp at h;rw[←h.2];exact astep_push _ _ _)
 all_goals
  repeat' split at h
 all_goals first
  |(cases h;done)
  |(simp at h;rw[←h.2];exact AStep.refl _ _)
  |(simp at h;rw[←h.2];exact astep_push _ _ _)
  |(obtain⟨u,_,h2⟩:=h;rw[←h2.2];exact AStep.refl _ _)
  |(rw[Option.map_eq_some_iff]at h;obtain⟨u,_,h2⟩:=h;simp at h2;rw[←h2.2];exact AStep.refl _ _)
  |(rw[Option.map_eq_some_iff]at h;obtain⟨u,_,h2⟩:=h;simp at h2;rw[←h2.2];exact astep_push _ _ _)
end ops
end Go.Ab
