/- What is proved here: contracts of the shelf's form (a value, and below the heap's size nothing turned) are contracts of the abstract machine and of the typed layer. Conditions: those written in each statement. -/
import Derived.Test.YtigomgblkieahaaGreatDoorT16
import Derived.Lib.SlTrimSet
import Derived.Lib.ItoaNum
namespace Go.Ab
set_option linter.unusedVariables false
open Go.RowKit
theorem Sim.below {β:Inj} {m:Mem} {w w':World} (h:Sim β m w) (b:Below w.heap.size w w'):Sim β m w':=by
 have hb:∀n p,n<m.size→β n=some p→w'.heap[p.cb]? =w.heap[p.cb]? :=fun n p hn hp=>b.block _ (h.lt n p hn hp)
 refine⟨fun n p hn hp=>Nat.lt_of_lt_of_le (h.lt n p hn hp) b.size,fun n p hn hp hm i a ha=> ?_,fun n p hn hp hm=> ?_,h.ex,fun n p ks hn hp hm=> ?_,h.gl,fun n p hn hp hm=>by rw[hb n p hn hp];exact h.ct n p hn hp hm,h.gz.of fun n hn c e f hc=>⟨c,e,f,by rw[b.block n (h.glt hn)]at hc;exact hc,rfl⟩⟩
 ·obtain⟨v,h1,h2⟩:=h.ro n p hn hp hm i a ha
  refine⟨v, ?_,h2⟩
  rw[←h1]
  exact b.cell (h.lt n p hn hp)
 ·rw[hb n p hn hp];exact h.rw n p hn hp hm
 ·rw[hb n p hn hp];exact h.mp n p ks hn hp hm
theorem Post.of_below {fl:Nat} {β:Inj} {m:Mem} {w w':World} (h:Sim β m w) (b:Below w.heap.size w w'):Post fl β m w m β w':=
 ⟨h.below b,fun _ _=>rfl,fun n p h1 h2 _=>absurd h1 (by omega),fun k hk _=>b.block k hk,b.os,b.tape,b.output,b.size⟩
theorem LV.cons_inv {c:Cfg} {t:TV} {ts:List TV} {as:List AVal} (h:LV c (t::ts) as):∃a l,as=a::l∧RV c t a∧LV c ts l:=by
 cases as with
 |nil=>simp[LV]at h
 |cons a l=>exact⟨a,l,rfl,h.2 0 t a rfl rfl,by simpa using h.1,fun i t' a' h1 h2=>h.2 (i+1) t' a' (by simpa using h1) (by simpa using h2)⟩
theorem LV.nil_inv {c:Cfg} {as:List AVal} (h:LV c [] as):as=[]:=by
 cases as with
 |nil=>rfl
 |cons a l=>simp[LV]at h
theorem LRel.cons_inv {β:Inj} {a:AVal} {l:List AVal} {us:List Value} (h:LRel β (a::l) ⟨us⟩):∃v vs,us=v::vs∧VRel β a v∧LRel β l ⟨vs⟩:=by
 cases us with
 |nil=>simp[LRel]at h
 |cons v vs=>exact⟨v,vs,rfl,h.2 0 a v rfl rfl,by simpa using h.1,fun i a' v' h1 h2=>h.2 (i+1) a' v' (by simpa using h1) (by simpa using h2)⟩
theorem LRel.nil_inv {β:Inj} {us:List Value} (h:LRel β [] ⟨us⟩):us=[]:=by
 cases us with
 |nil=>rfl
 |cons a l=>simp[LRel]at h
def conSS (M:List UInt8→List UInt8→(List UInt8→Prop)→Prop):Con:=fun args tm K=>match args with
 |[.str a, .str b]=>M a b fun r=>K (.str r) tm
 |_=>False
theorem conSS_ok {P:Program} {f:FuncId} {pre:List UInt8→List UInt8→Prop} {F:List UInt8→List UInt8→List UInt8} (hE:Enters P f)
  (h:∀(a b:ByteArray) (w:World),pre a.data.toList b.data.toList→Calls P f #[.string a, .string b] w fun e w'=>e= .returned (.string ⟨(F a.data.toList b.data.toList).toArray⟩)∧Below w.heap.size w w'):
  CSound P f (conSS fun a b K=>pre a b∧K (F a b)):=by
 intro args K c hc fl A aargs hA hN R hl
 unfold conSS at hc
 split at hc
 ·rename_i a b
  obtain⟨a1,l1,rfl,h1,hl⟩:=hl.cons_inv
  obtain⟨a2,l2,rfl,h2,hl⟩:=hl.cons_inv
  obtain rfl:=hl.nil_inv
  cases h1;cases h2
  refine⟨.str ⟨(F a b).toArray⟩,c, .str (F a b),hc.2, .str _,⟨hE,AStep.refl _ _,fun β w cargs hr hs hf=> ?_⟩,R,Stp.refl c A⟩
  obtain⟨us⟩:=cargs
  obtain⟨v1,us,rfl,g1,hr⟩:=hr.cons_inv
  obtain⟨v2,us,rfl,g2,hr⟩:=hr.cons_inv
  obtain rfl:=hr.nil_inv
  cases g1;cases g2
  refine(h ⟨a.toArray⟩ ⟨b.toArray⟩ w hc.1).mono fun e w' hh=> ?_
  exact⟨_,β,hh.1, .str _,Post.of_below hs hh.2⟩
 ·exact hc.elim
def conIS (M:Int→(List UInt8→Prop)→Prop):Con:=fun args tm K=>match args with
 |[.int .i64 a]=>M a fun r=>K (.str r) tm
 |_=>False
theorem conIS_ok {P:Program} {f:FuncId} {pre:Int→Prop} {F:Int→List UInt8} (hE:Enters P f)
  (h:∀(a:Int) (w:World),pre a→Calls P f #[.int .i64 a] w fun e w'=>e= .returned (.string ⟨(F a).toArray⟩)∧Below w.heap.size w w'):
  CSound P f (conIS fun a K=>pre a∧K (F a)):=by
 intro args K c hc fl A aargs hA hN R hl
 unfold conIS at hc
 split at hc
 ·rename_i a
  obtain⟨a1,l1,rfl,h1,hl⟩:=hl.cons_inv
  obtain rfl:=hl.nil_inv
  cases h1
  refine⟨.str ⟨(F a).toArray⟩,c, .str (F a),hc.2, .str _,⟨hE,AStep.refl _ _,fun β w cargs hr hs hf=> ?_⟩,R,Stp.refl c A⟩
  obtain⟨us⟩:=cargs
  obtain⟨v1,us,rfl,g1,hr⟩:=hr.cons_inv
  obtain rfl:=hr.nil_inv
  cases g1
  refine(h a w hc.1).mono fun e w' hh=> ?_
  exact⟨_,β,hh.1, .str _,Post.of_below hs hh.2⟩
 ·exact hc.elim
theorem dCons_in {l:List TV} {k:TV→List TV→Prop} {G:Prop} (g:∀a r,l=a::r→k a r→G) (h:dCons l k):G:=by obtain⟨a,r,e,h⟩:=dCons_ok h;exact g a r e h
theorem dN_in {l:List TV} {p G:Prop} (g:l=[]→p→G) (h:dNil l p):G:=by obtain⟨e,h⟩:=dNil_ok h;exact g e h
theorem dE_in {l:TMem} {p G:Prop} (g:l=[]→p→G) (h:dEnd l p):G:=by obtain⟨e,h⟩:=dEnd_ok h;exact g e h
theorem dFn_in {f:FuncId} {t:TV} {k:List TV→List TV→Prop} {G:Prop} (g:∀xs ys,t= .fn f xs ys→k xs ys→G) (h:dFn f t k):G:=by obtain⟨x,y,e,h⟩:=dFn_ok h;exact g x y e h
def cP (e:EK) (l:List TV) (k:List e.T→List TV→Prop):Prop:=dCons l fun a r=>dPl e a fun p=>k p r
theorem cP_in {e:EK} {l:List TV} {k:List e.T→List TV→Prop} {G:Prop} (g:∀p r,l= .pl e p::r→k p r→G) (h:cP e l k):G:=by
 obtain⟨a,r,rfl,h1⟩:=dCons_ok h;obtain⟨p,rfl,h2⟩:=dPl_ok h1;exact g p r rfl h2
def cI (i:IntKind) (l:List TV) (k:Int→List TV→Prop):Prop:=dCons l fun a r=>dInt i a fun p=>k p r
theorem cI_in {i:IntKind} {l:List TV} {k:Int→List TV→Prop} {G:Prop} (g:∀p r,l= .int i p::r→k p r→G) (h:cI i l k):G:=by
 obtain⟨a,r,rfl,h1⟩:=dCons_ok h;obtain⟨p,rfl,h2⟩:=dInt_ok h1;exact g p r rfl h2
def cB (l:List TV) (k:Bool→List TV→Prop):Prop:=dCons l fun a r=>dBool a fun p=>k p r
theorem cB_in {l:List TV} {k:Bool→List TV→Prop} {G:Prop} (g:∀p r,l= .bool p::r→k p r→G) (h:cB l k):G:=by
 obtain⟨a,r,rfl,h1⟩:=dCons_ok h;obtain⟨p,rfl,h2⟩:=dBool_ok h1;exact g p r rfl h2
def cS (l:List TV) (k:List UInt8→List TV→Prop):Prop:=dCons l fun a r=>dStr a fun p=>k p r
theorem cS_in {l:List TV} {k:List UInt8→List TV→Prop} {G:Prop} (g:∀p r,l= .str p::r→k p r→G) (h:cS l k):G:=by
 obtain⟨a,r,rfl,h1⟩:=dCons_ok h;obtain⟨p,rfl,h2⟩:=dStr_ok h1;exact g p r rfl h2
def cL (n:Nat) (l:List TV) (k:List TV→Prop):Prop:=dCons l fun a r=>dSl n a (k r)
theorem cL_in {n:Nat} {l:List TV} {k:List TV→Prop} {G:Prop} (g:∀r,l= .sl n::r→k r→G) (h:cL n l k):G:=by
 obtain⟨a,r,rfl,h1⟩:=dCons_ok h;obtain⟨rfl,h2⟩:=dSl_ok h1;exact g r rfl h2
def cQ (n:Nat) (l:List TV) (k:List TV→Prop):Prop:=dCons l fun a r=>dPtr n a (k r)
theorem cQ_in {n:Nat} {l:List TV} {k:List TV→Prop} {G:Prop} (g:∀r,l= .ptr n 0::r→k r→G) (h:cQ n l k):G:=by
 obtain⟨a,r,rfl,h1⟩:=dCons_ok h;obtain⟨rfl,h2⟩:=dPtr_ok h1;exact g r rfl h2
def cT (t:AT) (l:List TV) (k:List TV→Prop):Prop:=dCons l fun a r=>dAt t a (k r)
theorem cT_in {t:AT} {l:List TV} {k:List TV→Prop} {G:Prop} (g:∀r,l=t.tv::r→k r→G) (h:cT t l k):G:=by
 obtain⟨a,r,rfl,h1⟩:=dCons_ok h;obtain⟨rfl,h2⟩:=dAt_ok h1;exact g r rfl h2
def cA (l:List TV) (k:List TV→List TV→Prop):Prop:=dCons l fun a r=>dAgg a fun p=>k p r
theorem cA_in {l:List TV} {k:List TV→List TV→Prop} {G:Prop} (g:∀p r,l= .agg p::r→k p r→G) (h:cA l k):G:=by
 obtain⟨a,r,rfl,h1⟩:=dCons_ok h;obtain⟨p,rfl,h2⟩:=dAgg_ok h1;exact g p r rfl h2
def cU (l:List TV) (k:List TV→List TV→Prop):Prop:=dCons l fun a r=>dTup a fun p=>k p r
theorem cU_in {l:List TV} {k:List TV→List TV→Prop} {G:Prop} (g:∀p r,l= .tup p::r→k p r→G) (h:cU l k):G:=by
 obtain⟨a,r,rfl,h1⟩:=dCons_ok h;obtain⟨p,rfl,h2⟩:=dTup_ok h1;exact g p r rfl h2
def bL (w:Bool) (e:EK) (m:TMem) (k:List e.T→TMem→Prop):Prop:=dBlk w m fun b r=>dList e b fun p=>k p r
theorem bL_in {w:Bool} {e:EK} {m:TMem} {k:List e.T→TMem→Prop} {G:Prop} (g:∀p r,m=⟨w, .list e p⟩::r→k p r→G) (h:bL w e m k):G:=by
 obtain⟨b,r,rfl,h1⟩:=dBlk_ok h;obtain⟨p,rfl,h2⟩:=dList_ok h1;exact g p r rfl h2
def bC (w:Bool) (m:TMem) (k:List TV→TMem→Prop):Prop:=dBlk w m fun b r=>dCells b fun p=>k p r
theorem bC_in {w:Bool} {m:TMem} {k:List TV→TMem→Prop} {G:Prop} (g:∀p r,m=⟨w, .cells p⟩::r→k p r→G) (h:bC w m k):G:=by
 obtain⟨b,r,rfl,h1⟩:=dBlk_ok h;obtain⟨p,rfl,h2⟩:=dCells_ok h1;exact g p r rfl h2
def bD (w:Bool) (m:TMem) (k:TMem→Prop):Prop:=dBlk w m fun b r=>dDead b (k r)
theorem bD_in {w:Bool} {m:TMem} {k:TMem→Prop} {G:Prop} (g:∀r,m=⟨w, .dead⟩::r→k r→G) (h:bD w m k):G:=by
 obtain⟨b,r,rfl,h1⟩:=dBlk_ok h;obtain⟨rfl,h2⟩:=dDead_ok h1;exact g r rfl h2
def bH (w:Bool) (m:TMem) (k:TMem→Prop):Prop:=dBlk w m fun b r=>dHid b (k r)
theorem bH_in {w:Bool} {m:TMem} {k:TMem→Prop} {G:Prop} (g:∀r,m=⟨w, .hid⟩::r→k r→G) (h:bH w m k):G:=by
 obtain⟨b,r,rfl,h1⟩:=dBlk_ok h;obtain⟨rfl,h2⟩:=dHid_ok h1;exact g r rfl h2
end Go.Ab
