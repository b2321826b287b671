/- What is proved here: the contract of strings.Join is one of the typed layer. Conditions: those written in each statement. -/
import Derived.Test.YtigomgblkieahaaGreatDoorT21
import Derived.Lib.Join
namespace Go.Ab
set_option linter.unusedVariables false
open Go.RowKit
def conJoin (M:List (List UInt8)→List UInt8→(List UInt8→Prop)→Prop):Con:=fun args tm K=>cP .str args fun l r=>cS r fun b r=>dNil r (M l b fun q=>K (.str q) tm)
theorem conJoin_ok {P:Program} {f:FuncId} {pre:List (List UInt8)→List UInt8→Prop} {F:List (List UInt8)→List UInt8→List UInt8} (hE:Enters P f) (hF:∀b,F [] b=[]) (hpre:∀l b,pre l b→l.length≤140737488355328)
  (h0:∀(a:Option Addr) (c:Nat) (sep:ByteArray) (w:World),Calls P f #[.slice a 0 c, .string sep] w fun e w'=>e= .returned (.string ⟨#[]⟩)∧w'=w)
  (h:∀(bk o c:Nat) (xs:List ByteArray) (sep:ByteArray) (w:World),(∀(j:Nat) x,xs[j]? =some x→w.cell? ⟨bk,o+j,none⟩=some (.string x))→bk<w.heap.size→xs.length≤c→pre (xs.map fun s=>s.data.toList) sep.data.toList→
   Calls P f #[.slice (some ⟨bk,o,none⟩) xs.length c, .string sep] w fun e w'=>e= .returned (.string ⟨(F (xs.map fun s=>s.data.toList) sep.data.toList).toArray⟩)∧Below w.heap.size w w'):
  CSound P f (conJoin fun l b K=>pre l b∧K (F l b)):=by
 intro args K c hc fl A aargs hA hN R hl
 refine cP_in ?_ hc;rintro l r rfl hc
 refine cS_in ?_ hc;rintro b r rfl hc
 refine dN_in ?_ hc;rintro rfl ⟨hp,hc⟩
 obtain⟨a1,l1,rfl,h1,hl⟩:=hl.cons_inv
 obtain⟨a2,l2,rfl,h2,hl⟩:=hl.cons_inv
 obtain rfl:=hl.nil_inv
 cases h2
 refine⟨.str ⟨(F l b).toArray⟩,c, .str (F l b),hc, .str _,⟨hE,AStep.refl _ _,fun β w cargs hr hs hf=> ?_⟩,R,Stp.refl c A⟩
 obtain⟨us⟩:=cargs
 obtain⟨v1,us,rfl,g1,hr⟩:=hr.cons_inv
 obtain⟨v2,us,rfl,g2,hr⟩:=hr.cons_inv
 obtain rfl:=hr.nil_inv
 cases g2
 have empty:l=[]→∀(pp:Option Addr) (cc:Nat),v1= .slice pp 0 cc→Calls P f #[v1, .string ⟨b.toArray⟩] w fun e w'=>∃cv β',e= .returned cv∧VRel β' (.str ⟨(F l b).toArray⟩) cv∧Post fl β c.m w c.m β' w':=fun e pp cc hv=>by
  subst e;subst hv
  refine(h0 pp cc ⟨b.toArray⟩ w).mono fun e w' hh=> ?_
  obtain⟨rfl,rfl⟩:=hh
  exact⟨_,β,rfl,by rw[hF];exact .str _,Post.refl hs⟩
 rcases rv_pl h1 with⟨e,hE0⟩|⟨n,p,cap,hFn,hcl,rfl,hrv⟩
 ·rcases hE0 with rfl|rfl|⟨n,o,cap,rfl⟩
  ·cases g1;exact empty e _ _ rfl
  ·cases g1;exact empty e _ _ rfl
  ·cases g1;exact empty e _ _ rfl
 ·cases g1 with
  |sl _ _ _ ccap es _ pl ad hβ had hle hcc he=>
   by_cases e:l=[]
   ·exact empty e _ _ (by rw[e];rfl)
   have hpos:=List.length_pos_iff.2 e
   rw[had (by omega)]
   have hfz:=R.fz n hFn
   have hcells:∀(j:Nat) x,(l.map fun s=>(⟨s.toArray⟩:ByteArray))[j]? =some x→w.cell? ⟨pl.cb,(pl.co+p)+j,none⟩=some (.string x):=fun j x hj=>by
    rw[List.getElem?_map]at hj
    obtain⟨s,e1,e2⟩:=Option.map_eq_some_iff.1 hj
    obtain⟨a,k1,k2⟩:=hrv j s 0 (.str s) e1 rfl
    cases k2
    obtain⟨v,q1,q2⟩:=hs.ro n pl hfz.1 hβ hfz.2 _ _ k1
    cases q2
    rw[←e2,←q1]
    congr 2
    simp[EK.es];omega
   have hback:(l.map fun s=>(⟨s.toArray⟩:ByteArray)).map (fun s=>s.data.toList)=l:=by simp[List.map_map,Function.comp_def]
   have hh:=h pl.cb (pl.co+p) ccap (l.map fun s=>(⟨s.toArray⟩:ByteArray)) ⟨b.toArray⟩ w hcells (hs.lt n pl hfz.1 hβ) (by simpa using hle) (by rw[hback];exact hp)
   rw[hback,List.length_map]at hh
   refine hh.mono fun e w' hq=> ?_
   exact⟨_,β,hq.1, .str _,Post.of_below hs hq.2⟩
end Go.Ab
