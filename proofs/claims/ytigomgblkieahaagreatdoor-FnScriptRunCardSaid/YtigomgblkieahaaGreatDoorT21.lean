/- What is proved here: package-level variables at the start of a call; a row's claim with the world's shape beside the laid facts; the contract of strings.Split. Conditions: those written in each statement. -/
import Derived.Test.YtigomgblkieahaaGreatDoorT20
import Derived.Test.YtigomgblkieahaaGreatDoorT15
import Derived.Handed
import Derived.Lib.Split
namespace Go.Ab
set_option linter.unusedVariables false
open Go.RowKit
def Mem.glob (f:Nat→List AVal):Mem:=⟨G0,fun n=>⟨f n, .ro⟩⟩
def gInj:Inj:=fun n=>if n<G0 then some ⟨n,0,0,0⟩else none
theorem op0_glob {W:World} {f:Nat→List AVal} (hW:∀g,g<G0→g<W.heap.size∧∀(i:Nat) a,(f g)[i]? =some a→∃v,W.cell? ⟨g,i,none⟩=some v∧VRel (fun _=>none) a v) (hg:GP (Mem.glob f).blk) (hz:GZ W):Op0 W (Mem.glob f) gInj:=by
 have hi:∀n p,gInj n=some p→n<G0∧p=⟨n,0,0,0⟩:=fun n p h=>by
  unfold gInj at h
  split at h
  ·simp at h;exact⟨by assumption,h.symm⟩
  ·cases h
 have hle:Inj.le (fun _=>none) gInj:=fun n p h=>by cases h
 refine⟨⟨fun n p h1 h2=> ?_,fun n p h1 h2 _ i a ha=> ?_,fun n p h1 h2 h3=>(by cases h3),fun n p n' p' h1 h2 h3 h4 h5 h6=>(by cases h6),fun n p ks h1 h2 h3=>(by cases h3),fun n hn=>⟨hn,0,by unfold gInj;rw[if_pos hn]⟩,fun n p h1 h2 h3=>(by cases h3),hz⟩,fun n hn=> ?_,fun n _=>rfl,hg⟩
 ·obtain⟨h3,rfl⟩:=hi n p h2
  exact(hW n h3).1
 ·obtain⟨h3,rfl⟩:=hi n p h2
  obtain⟨v,g1,g2⟩:=(hW n h3).2 i a ha
  exact⟨v,by rw[Nat.zero_add];exact g1,g2.mono hle⟩
 ·unfold gInj
  have:¬n<G0:=fun h=>by
   have hn:G0≤n:=hn
   omega
  rw[if_neg this]
theorem shaped_lt {P:Program} {w:World} {g:Nat} {t:TypeId} {zero:Array Value} (h:w.ShapedOpen P) (hg:g<P.globals.size)
  (h0:((begin P (fun _ _=>0) default).world.heap[g]?).bind Obj.row? =some (zero,t)):g<w.heap.size:=by
 obtain⟨cs,hh,_⟩:=h.1 g zero t hg h0
 rcases Nat.lt_or_ge g w.heap.size with h'|h'
 ·exact h'
 ·rw[Array.getElem?_eq_none h']at hh;cases hh
theorem shaped_lt2 {P:Program} {w:World} {g:Nat} (h:w.ShapedOpen P) (hg:g<P.globals.size) (h0:(((begin P (fun _ _=>0) default).world.heap[g]?).bind Obj.row?).isSome=true):g<w.heap.size:=by
 obtain⟨⟨zero,t⟩,e⟩:=Option.isSome_iff_exists.1 h0
 exact shaped_lt h hg e
theorem handed_and_shaped {H:Type} {enc:TypeId×Value→H} {a:Assume} {C:Checked} {os:Os} {f:FuncId} {fn:Func} {s:ChangeSpec} {conds:List PathCond} {apart fresh handsOn again:Bool} {X:World→Array Value→Prop}
  (hX:∀(w w':World) (args:Array Value),w.heap=w'.heap→X w args→X w' args)
  (own:ownKnob C.prog.godebug=none) (started:os.Started) (noInit:C.prog.inits.idxOf? f=none) (hfn:C.prog.funcs[f]? =some fn)
  (witness:∃(w:World) (tape:Tape) (i:Input),w.os=os∧(w.forCall tape i).Shaped C.prog∧i.vars=[]∧Input.okWide C.prog (w.forCall tape i) .any w.heap.size f i∧
   ((s.pre enc C.prog fn conds apart (w.forCall tape i).memory i.args∧X (w.forCall tape i).memory i.args)∧sizedMet enc C.prog fn (OpenSpec.ofChange s) apart (w.forCall tape i).memory i.args)∧a.holds C.prog (lone (Frame.enter C.prog f i.args .normal) [] (w.forCall tape i)))
  (contract:∀(W:World) (base:Nat) (args:Array Value) (ds gs:List (DataW H)) (before:List MemPlace),
   (∀(j:Nat) t v,fn.params[j]? =some t→args[j]? =some v→Value.okWide C.prog W .any base t v)→
   DataW.Whole enc C.prog fn.params.toList s.vars apart W args.toList ds gs before→
   conds.all (PathCond.test C.prog ⟨fn.params.toList,ds,s.plain.varTypes C.prog,gs⟩)=true→
   (DataW.weightsEach C.prog (fn.params.toList++s.plain.varTypes C.prog) (ds++gs)).all (·≤reachBytes)=true→X W args→W.ShapedOpen C.prog→
   a.holds C.prog (lone (Frame.enter C.prog f args .normal) [] W)→
   Calls C.prog f args W fun e W'=>∃v,e= .returned v∧s.post enc C.prog fn apart fresh handsOn again W args v W'):
  ReturnsInHanded a C os f .any (fun w args=>(s.pre enc C.prog fn conds apart w args∧X w args)∧sizedMet enc C.prog fn (OpenSpec.ofChange s) apart w args) (s.post enc C.prog fn apart fresh handsOn again):=by
 refine returnsInHanded_of_calls own started noInit witness ?_
 intro w tape i _ hsh _ hok hpre hholds
 obtain⟨_,_,_,fn',hfn',_,_,_,_,hval⟩:=hok
 have e:fn'=fn:=Option.some.inj (hfn'.symm.trans hfn)
 subst e
 obtain⟨⟨⟨ds,gs,before,hw,hc⟩,hx⟩,hz⟩:=hpre
 have hw':=DataW.Whole.of_heap (w':=w.forCall tape i) (by rfl) hw
 refine(contract (w.forCall tape i) w.heap.size i.args ds gs before hval hw' hc (hz.weights hw) (hX _ _ _ (by rfl) hx) hsh hholds).mono fun e W' ⟨v,he,hp⟩=> ?_
 subst he
 exact ChangeSpec.post_blind hp
def conSplit (M:List UInt8→List UInt8→(List (List UInt8)→Prop)→Prop):Con:=fun args tm K=>cS args fun a r=>cS r fun b r=>dNil r (dEnd tm (M a b fun q=>K (.sl 0) [⟨true, .list .str q⟩]))
theorem conSplit_ok {P:Program} {f:FuncId} {g:Nat} {pre:List UInt8→List UInt8→Prop} {F:ByteArray→ByteArray→List ByteArray} {t:TypeId} (hg:g∈gints) (hE:Enters P f)
  (h:∀(a b:ByteArray) (m:Int) (w:World),pre a.data.toList b.data.toList→w.cell? ⟨g,0,none⟩=some (.int .i64 m)→Calls P f #[.string a, .string b] w fun e w'=>
   e= .returned (.slice (some ⟨w.heap.size,0,none⟩) (F a b).length (F a b).length)∧w'=w.alloc (.cells ((F a b).map Value.string).toArray t)):
  CSound P f (conSplit fun a b K=>pre a b∧K ((F ⟨a.toArray⟩ ⟨b.toArray⟩).map fun s=>s.data.toList)):=by
 intro args K c hc fl A aargs hA hN R hl
 refine cS_in ?_ hc;rintro a r rfl hc
 refine cS_in ?_ hc;rintro b r rfl hc
 refine dN_in ?_ hc;rintro rfl hc
 refine dE_in ?_ hc;rintro htm ⟨hpre,hc⟩
 obtain⟨a1,l1,rfl,h1,hl⟩:=hl.cons_inv
 obtain⟨a2,l2,rfl,h2,hl⟩:=hl.cons_inv
 obtain rfl:=hl.nil_inv
 cases h1;cases h2
 generalize hF:F ⟨a.toArray⟩ ⟨b.toArray⟩=fs at hc
 have row:Row c .str (fs.map fun s=>s.data.toList) (fs.map fun s=>AVal.str s):=by
  refine⟨by simp[EK.es],fun i x j t k1 k2=> ?_⟩
  have hj:j=0:=by
   have:=getElem?_lt k2
   rw[enc_length]at this
   simp[EK.es]at this;exact this
  subst hj
  have ht:t= .str x:=by simp[enc]at k2;exact k2.symm
  subst ht
  rw[List.getElem?_map]at k1
  obtain⟨s,e1,e2⟩:=Option.map_eq_some_iff.1 k1
  refine⟨.str s,by simp[EK.es,e1], ?_⟩
  rw[←e2]
  have:(⟨s.data.toList.toArray⟩:ByteArray)=s:=by cases s;simp
  have hrv:=RV.str (c:=c) s.data.toList
  rwa [this]at hrv
 obtain⟨c',q1,q2,q3,q4,q5⟩:=new_row_ok R (hN _ (Nat.le_refl _)) row none
 have hgv:=R.gv
 obtain⟨hgl,k,hk⟩:=hgv.2.2.1 g hg
 have hfz:=R.fz g (hgv.1 g hgl)
 refine⟨_,c', .sl 0,by rw[q2,htm];exact hc,by rw[htm]at q4;exact q4,⟨hE,by rw[q1];exact astep_push _ _ _,fun β w cargs hr hs hf=> ?_⟩,q3,q5⟩
 obtain⟨us⟩:=cargs
 obtain⟨v1,us,rfl,g1,hr⟩:=hr.cons_inv
 obtain⟨v2,us,rfl,g2,hr⟩:=hr.cons_inv
 obtain rfl:=hr.nil_inv
 cases g1;cases g2
 obtain⟨_,cs,hβ⟩:=hs.gl g hgl
 obtain⟨v,e1,e2⟩:=hs.ro g _ hfz.1 hβ hfz.2 0 (.int .i64 k) (by rw[hk];rfl)
 cases e2
 refine(h ⟨a.toArray⟩ ⟨b.toArray⟩ k w hpre e1).mono fun e w' hh=> ?_
 obtain⟨rfl,rfl⟩:=hh
 rw[hF]
 have hfree:β c.m.size=none:=hf _ (Nat.le_refl _) (by rw[q1];simp)
 have hrel:CRel β (fs.map fun s=>AVal.str s) (fs.map Value.string).toArray:=by
  refine⟨by simp,fun i a ha=> ?_⟩
  rw[List.getElem?_map]at ha
  obtain⟨s,e1,e2⟩:=Option.map_eq_some_iff.1 ha
  exact⟨.string s,by simp[e1],by rw[←e2];exact .str s⟩
 have po:=post_alloc (fl:=fl) hs hfree t hrel
 refine⟨_,upd β c.m.size ⟨w.heap.size,0,(fs.map Value.string).toArray.size,t⟩,rfl, ?_,by rw[q1];exact po⟩
 simp only[List.length_map]
 exact .sl c.m.size 0 fs.length fs.length _ none ⟨w.heap.size,0,(fs.map Value.string).toArray.size,t⟩ _ (upd_same _ _ _) (fun _=>rfl) (Nat.le_refl _) (by simp[EK.es]) (fun c h=>by cases h)
end Go.Ab
