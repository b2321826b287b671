/- What is proved here: the row of the law FnScriptRun: whatever the input, it returns true and leaves its arguments as they were. No condition. -/
import Derived.Deep.DeepHandedRow
import Derived.OpenVars
import Derived.ChangeVars
import Derived.Carry
import Derived.Test.YtigomgblkieahaaGreatDoorT24
import Derived.Test.YtigomgblkieahaaGreatDoorCards
import Derived.Test.YtigomgblkieahaaGreatDoorTie
import Derived.LaidMore
import Derived.Lay
import Derived.SevenTiedAt
import Derived.Stop.Joined
import Derived.Test.YtigomgblkieahaaGreatDoorT21
import Derived.Shelf.Vars
import Derived.Test.YtigomgblkieahaaGreatDoorRows
import Derived.Test.YtigomgblkieahaaGreatDoorT15
import Derived.Test.YtigomgblkieahaaGreatDoorPAFnScriptRunP1
import Derived.Test.YtigomgblkieahaaGreatDoorGSFnScriptRun
import Derived.WalkKit
import Derived.ProofKit
import Derived.OpenShut
import Derived.ShutString
import Derived.ChangeOld
import Derived.Below
import Derived.SizedLaws
namespace Go.Proofs.YtigomgblkieahaaGreatDoor.fnScriptRun
open Go.ChangeShapes Go.WideShapes Go.ChangeAt Go.RowKit Go.Ab
set_option linter.unusedVariables false
theorem own:ownKnob Tryz.prog.godebug=none:=by kernel_rfl
theorem laidOut:laidOutB Tryz.prog=true:=by kernel_rfl
def wordL:List (List UInt8):=[[],[110,101,119],[99,111,112,121],[108,101,102,116],[114,105,103,104,116],[112,117,116,108,101,102,116],[112,117,116,114,105,103,104,116],[99,108,101,97,114]]
def powL:List Int:=[1,10,100,1000,10000,100000,1000000,10000000,100000000,1000000000,10000000000,100000000000,1000000000000,10000000000000,100000000000000,1000000000000000,10000000000000000,100000000000000000,1000000000000000000,10000000000000000000]
def gcs (k:Int) (t5 t6:TypeId):Nat→List AVal:=fun g=>if g=0 then(wordL.map fun s=>AVal.str ⟨s.toArray⟩)else if g=1 then[.int .i64 k]else if g=2 then powL.map (.int .u64)else if g=5 then[.ifc t5 .any]else if g=6 then[.ifc t6 .any]else[]
theorem gsome:∀g,g<9→g<Tryz.prog.globals.size∧(((begin Tryz.prog (fun _ _=>0) default).world.heap[g]?).bind Obj.row?).isSome=true:=by
 intro g hg
 rcases(show g=0∨g=1∨g=2∨g=3∨g=4∨g=5∨g=6∨g=7∨g=8 by omega)with rfl|rfl|rfl|rfl|rfl|rfl|rfl|rfl|rfl<;>exact⟨of_decide_eq_true (by kernel_rfl),by kernel_rfl⟩
theorem GPk (k:Int) (t5 t6:TypeId):GP (Mem.glob (gcs k t5 t6)).blk:=⟨fun p hp=>(by rw[List.mem_singleton.1 hp];exact⟨by decide,rfl⟩),fun g hg=>by rw[List.mem_singleton.1 hg];exact⟨by decide,k,rfl⟩,
 fun p hp=>(by rw[List.mem_singleton.1 hp];exact⟨by decide,rfl⟩),fun g hg=>by
  rcases List.mem_cons.1 hg with rfl|hg
  ·exact⟨by decide,_,rfl, .inr ⟨t5,rfl⟩⟩
  ·rw[List.mem_singleton.1 hg];exact⟨by decide,_,rfl, .inr ⟨t6,rfl⟩⟩⟩
theorem words {W:World} (h:laidMetH Tryz.prog Rows.fnScriptRunRow.laid W):∃c0 c2 c5 c6:Array Value,(W.var? Tryz.prog "loop.example/cellcollector/impl.opWords" =some c0∧∀(i:Nat) s,wordL[i]? =some s→c0.toList[i]? =some (.string ⟨s.toArray⟩))∧
  (W.var? Tryz.prog "internal/strconv.uint64pow10" =some c2∧c2.toList.length=20∧∀(i:Nat) x,powL[i]? =some x→c2.toList[i]? =some (.int .u64 x))∧
  (W.var? Tryz.prog "strconv.ErrSyntax" =some c5∧∃u v,c5.toList=[.iface u v])∧(W.var? Tryz.prog "strconv.ErrRange" =some c6∧∃u v,c6.toList=[.iface u v]):=by
 rw[MakeChecks.laidMetH_plain _ _ _ (by kernel_rfl)]at h
 obtain⟨ps,⟨_,_,_,_,_,_,_,_,_,_,⟨_,_,_,_,_,_,_,_,_,_,⟨g_2,t_2,c_2,f_2,_,_,hg_2,ht_2,hv_2,hd_2,⟨_,_,_,_,_,_,_,_,_,_,⟨g_6,t_6,c_6,f_6,_,_,hg_6,ht_6,hv_6,hd_6,⟨g_5,t_5,c_5,f_5,_,_,hg_5,ht_5,hv_5,hd_5,⟨g_0,t_0,c_0,f_0,_,_,hg_0,ht_0,hv_0,hd_0,_,_⟩,_⟩,_⟩,_⟩,_⟩,_⟩,_⟩,_⟩:=h
 obtain rfl:=Option.some.inj ((show Tryz.prog.globalNamed "loop.example/cellcollector/impl.opWords" =some 0 by kernel_rfl).symm.trans hg_0)
 obtain rfl:=Option.some.inj ((show(Tryz.prog.globals[0]?).map (·.type)=some 90 by kernel_rfl).symm.trans ht_0)
 obtain rfl:=Option.some.inj ((show Tryz.prog.globalNamed "internal/strconv.uint64pow10" =some 2 by kernel_rfl).symm.trans hg_2)
 obtain rfl:=Option.some.inj ((show(Tryz.prog.globals[2]?).map (·.type)=some 217 by kernel_rfl).symm.trans ht_2)
 obtain rfl:=Option.some.inj ((show Tryz.prog.globalNamed "strconv.ErrSyntax" =some 5 by kernel_rfl).symm.trans hg_5)
 obtain rfl:=Option.some.inj ((show(Tryz.prog.globals[5]?).map (·.type)=some 126 by kernel_rfl).symm.trans ht_5)
 obtain rfl:=Option.some.inj ((show Tryz.prog.globalNamed "strconv.ErrRange" =some 6 by kernel_rfl).symm.trans hg_6)
 obtain rfl:=Option.some.inj ((show(Tryz.prog.globals[6]?).map (·.type)=some 126 by kernel_rfl).symm.trans ht_6)
 exact⟨c_0,c_2,c_5,c_6,⟨hv_0,laid_strs Tryz.underlying90 Tryz.underlying9 (by kernel_rfl) (by kernel_rfl) hd_0⟩,⟨hv_2,laid_ints (l:=powL) Tryz.underlying217 Tryz.underlying190 (by kernel_rfl) (by kernel_rfl) hd_2⟩,⟨hv_5,laid_ifc Tryz.underlying126 hd_5⟩,⟨hv_6,laid_ifc Tryz.underlying126 hd_6⟩⟩
set_option maxRecDepth 100000 in
theorem lifted (os:Os) (started:os.Started) (H:Type) (enc:TypeId×Value→H):
  ReturnsInHanded {} Tryz.checked os 12 .any (fun w args=>(Rows.fnScriptRunSpec.pre enc Tryz.prog Tryz.f12 Rows.fnScriptRunRow.domain false w args∧laidMetH Tryz.prog Rows.fnScriptRunRow.laid w)∧sizedMet enc Tryz.prog Tryz.f12 (OpenSpec.ofChange Rows.fnScriptRunSpec) false w args) (Rows.fnScriptRunSpec.post enc Tryz.prog Tryz.f12 false true false false):=by
 refine handed_and_shaped (C:=Tryz.checked) (X:=fun w _=>laidMetH Tryz.prog Rows.fnScriptRunRow.laid w) (fun _ _ _ hh h=>h.of_heap hh) own started (by kernel_rfl) Tryz.func12
  (ChangeSpec.witness_shaped (enc:=enc) (C:=Tryz.checked) (os:=os) (X:=fun w _=>laidMetH Tryz.prog Rows.fnScriptRunRow.laid w) false (World.laidAll Tryz.prog os Rows.fnScriptRunRow.laid) #[.slice none 0 0, .slice none 0 0] 8 (World.laidAll_os _ _ _)
   (World.shaped_of_ZipB (by kernel_rfl) (by kernel_rfl)) (by kernel_rfl) (by kernel_rfl) (by kernel_rfl)
   (by rw[MakeChecks.laidMetH_plain _ _ _ (by kernel_rfl)];exact laidMet_laidAll _ (by kernel_rfl) (by kernel_rfl))) ?_
 intro W base args ds gs before hval0 hW hcnd hsz0 hX hsh _
 have hval:∀(j:Nat) t v,Tryz.f12.params[j]? =some t→args[j]? =some v→Value.okWide Tryz.prog W .any base t v:=hval0
 have hW':=hW
 obtain⟨p,q,hA0,hV,rfl,hfz,hnd⟩:=hW
 have hA:DataW.TrodAll enc Tryz.prog W 0 (fun _=>true) true Tryz.f12.params.toList args.toList ds p:=hA0
 rw[Tryz.params12]at hA hval
 obtain⟨v0,vs0,d0,ds0,p0,q0,hargs,rfl,rfl,h0,r0⟩:=trodAll_cons hA
 obtain⟨v1,vs1,d1,ds1,p1,q1,rfl,rfl,rfl,h1,r1⟩:=trodAll_cons r0
 obtain⟨rfl,rfl,rfl⟩:=trodAll_nil r1
 obtain rfl:args= #[v0,v1]:=by cases args;simp_all
 obtain⟨_,_,_,_,dv,_,hgs,_⟩:=trodVars_one hV
 subst hgs
 obtain⟨k1,hk1⟩:=cell_of_shapedOpen_int (P:=Tryz.prog) (g:=1) (t:=3) (zero:= #[.int .i64 0]) hsh (of_decide_eq_true (by kernel_rfl)) (by kernel_rfl) rfl (by kernel_rfl) (by kernel_rfl) Tryz.underlying3
 obtain⟨c0,c2,c5,c6,⟨hv0,hw0⟩,⟨hv2,hs2,hw2⟩,⟨hv5,t5,v5,he5⟩,hv6,t6,v6,he6⟩:=words hX
 have O0:=op0_glob (W:=W) (f:=gcs k1 t5 t6) (fun g hg=>⟨shaped_lt2 hsh (gsome g hg).1 (gsome g hg).2,fun i a ha=>by
  unfold gcs at ha
  split at ha
  ·rename_i e;subst e
   rw[List.getElem?_map]at ha
   obtain⟨s,hs,rfl⟩:=Option.map_eq_some_iff.1 ha
   exact⟨_,(World.var?_cell (show Tryz.prog.globalNamed "loop.example/cellcollector/impl.opWords" =some 0 by kernel_rfl) hv0 i).trans (by rw[←Array.getElem?_toList];exact hw0 i s hs), .str _⟩
  split at ha
  ·rename_i e;subst e
   obtain rfl:i=0:=by have:=getElem?_lt ha;simpa using this
   simp at ha;subst ha
   exact⟨_,hk1, .int _ _⟩
  split at ha
  ·rename_i e;subst e
   rw[List.getElem?_map]at ha
   obtain⟨s,hs,rfl⟩:=Option.map_eq_some_iff.1 ha
   exact⟨_,(World.var?_cell (show Tryz.prog.globalNamed "internal/strconv.uint64pow10" =some 2 by kernel_rfl) hv2 i).trans (by rw[←Array.getElem?_toList];exact hw2 i s hs), .int _ _⟩
  split at ha
  ·rename_i e;subst e
   obtain rfl:i=0:=by have:=getElem?_lt ha;simpa using this
   simp at ha;subst ha
   exact⟨_,(World.var?_cell (show Tryz.prog.globalNamed "strconv.ErrSyntax" =some 5 by kernel_rfl) hv5 0).trans (by rw[←Array.getElem?_toList,he5];rfl), .ifc _ _ _ (.any _)⟩
  split at ha
  ·rename_i e;subst e
   obtain rfl:i=0:=by have:=getElem?_lt ha;simpa using this
   simp at ha;subst ha
   exact⟨_,(World.var?_cell (show Tryz.prog.globalNamed "strconv.ErrRange" =some 6 by kernel_rfl) hv6 0).trans (by rw[←Array.getElem?_toList,he6];rfl), .ifc _ _ _ (.any _)⟩
  ·simp at ha⟩) (GPk k1 t5 t6) (fun n s hn hs=>by
  unfold gszL gszF at hs
  by_cases e:n=2
  ·subst e
   have:s=20:=by simpa[gszF]using hs.symm
   subst this
   exact gz_var (show Tryz.prog.globalNamed "internal/strconv.uint64pow10" =some 2 by kernel_rfl) hv2 (by simpa using hs2)
  ·exfalso
   simp[gszF,e]at hs)
 obtain⟨ad0,len0,cap0,rfl⟩:=okWide_slice Tryz.underlying22 (hval 0 22 v0 rfl rfl)
 have k0:=h0
 have lt0:∀x∈p0,x.block<W.heap.size:=by obtain⟨m,hm⟩:=k0;exact DataW.trod_lt m _ _ _ hm
 obtain⟨fu0,hf0⟩:=h0
 obtain⟨xx1,m1,b1,z0,O1,e1,l1,L0,V0,⟨hx2,wx3⟩⟩:=(opens_bytes Tryz.underlying22 Tryz.underlying5 (by kernel_rfl)) _ enc W (Mem.glob (gcs k1 t5 t6)) gInj fu0 _ _ O0 hf0
 obtain⟨c0,rfl,Q0⟩:=one_of L0
 obtain⟨ad1,len1,cap1,rfl⟩:=okWide_slice Tryz.underlying22 (hval 1 22 v1 rfl rfl)
 have k1:=h1
 have lt1:∀x∈p1,x.block<W.heap.size:=by obtain⟨m,hm⟩:=k1;exact DataW.trod_lt m _ _ _ hm
 obtain⟨fu1,hf1⟩:=h1
 obtain⟨xx4,m2,b2,z1,O2,e2,l2,L1,V1,⟨hx5,wx6⟩⟩:=(opens_bytes Tryz.underlying22 Tryz.underlying5 (by kernel_rfl)) _ enc W m1 b1 fu1 _ _ O1 hf1
 obtain⟨c1,rfl,Q1⟩:=one_of L1
 have V0:=V0.ext e2
 have Q0:=Q0.mono l2
 clear hA0 hval0 hsz0
 have hK:Ml_FnScriptRun xx1 xx4 (fun r1=>TV.bool r1=TV.bool true):=by apply law_FnScriptRun<;>first|assumption|rfl
 obtain⟨MM,hMM⟩:∃M,M= @Ml_FnScriptRun:=⟨_,rfl⟩
 rw[←hMM]at hK
 have hL:=(lv_cons (lv_get V0) (lv_cons (lv_get V1) (lv_nil _)))
 obtain⟨m',hd⟩:=law_true s12 O2 hL (show B12 (xx1,xx4,()) (fun r _=>r=TV.bool true)from(by unfold B12;rw[←hMM];exact hK))
 clear hMM hK hL
 refine(hd.2.2 b2 W _ (((LRel.nil b2).push (Q0)).push (Q1)) O2.sim (op0_free O2)).mono fun e W' ⟨cv,β',he,hr,hp⟩=> ?_
 subst he
 cases back_bool hr
 have bel:=hp.below
 exact⟨_,rfl,_,_,_,[],_,_,hW',trodAll_mk1 (shut_bool Tryz.underlying4 _),(trodAll_cons_mk (Below.trod laidOut (by kernel_rfl) (of_decide_eq_true (by kernel_rfl)) k0 bel lt0) (trodAll_cons_mk (Below.trod laidOut (by kernel_rfl) (of_decide_eq_true (by kernel_rfl)) k1 bel lt1) trodAll_mk0)),Below.trodVars laidOut bel (by kernel_rfl) hV,bel.frame _,fun h=>by cases h⟩
def cz (l:List Nat):List Char:=l.map Char.ofNat
def iw0:=cz [104,97,114,110,101,115,115]
def iw1:=cz [48,99,54,55,56,56,53,57,98,55,54,53,102,55,51,97,51,53,98,55,52,54,52,99,50,102,53,49,52,101,101,55,100,48,98,50,102,52,101,98,98,49,51,100,55,49,56,53,101,100,48,57,97,49,99,102,102,53,55,54,98,50,55,51]
def iw2:=cz [99,117,116]
def iw3:=cz [97,116]
def iw4:=cz [108,111,111,112,46,101,120,97,109,112,108,101,47,99,101,108,108,99,111,108,108,101,99,116,111,114,47,108,97,119,115,46,70,110,83,99,114,105,112,116,78,101,119]
def iw5:=cz [108,111,111,112,46,101,120,97,109,112,108,101,47,99,101,108,108,99,111,108,108,101,99,116,111,114,47,108,97,119,115,46,70,110,83,99,114,105,112,116,80,97,116,104]
def iw6:=cz [108,111,111,112,46,101,120,97,109,112,108,101,47,99,101,108,108,99,111,108,108,101,99,116,111,114,47,108,97,119,115,46,70,110,83,99,114,105,112,116,79,110,101]
def iw7:=cz [108,111,111,112,46,101,120,97,109,112,108,101,47,99,101,108,108,99,111,108,108,101,99,116,111,114,47,108,97,119,115,46,70,110,83,99,114,105,112,116,65,103,97,105,110]
def iw8:=cz [108,111,111,112,46,101,120,97,109,112,108,101,47,99,101,108,108,99,111,108,108,101,99,116,111,114,47,108,97,119,115,46,70,110,83,99,114,105,112,116,67,111,112,121]
def iw9:=cz [108,111,111,112,46,101,120,97,109,112,108,101,47,99,101,108,108,99,111,108,108,101,99,116,111,114,47,108,97,119,115,46,70,110,83,99,114,105,112,116,70,105,110,105,115,104]
def iw10:=cz [108,111,111,112,46,101,120,97,109,112,108,101,47,99,101,108,108,99,111,108,108,101,99,116,111,114,47,108,97,119,115,46,70,110,83,99,114,105,112,116,76,111,115,101]
def iw11:=cz [108,111,111,112,46,101,120,97,109,112,108,101,47,99,101,108,108,99,111,108,108,101,99,116,111,114,47,108,97,119,115,46,70,110,83,99,114,105,112,116,79,112,115]
def iw12:=cz [108,111,111,112,46,101,120,97,109,112,108,101,47,99,101,108,108,99,111,108,108,101,99,116,111,114,47,108,97,119,115,46,70,110,83,99,114,105,112,116,76,101,97,107,101,100]
def iw13:=cz [108,111,111,112,46,101,120,97,109,112,108,101,47,99,101,108,108,99,111,108,108,101,99,116,111,114,47,108,97,119,115,46,70,110,83,99,114,105,112,116,82,117,110]
theorem ws_app:∀(w r:List Char),(w.all fun c=>c !=Char.ofNat 32)=true→wordsSigns (w++Char.ofNat 32::r)=w::wordsSigns r
 |[],r,_=>rfl
 |c::w,r,h=>by
  simp only[List.all_cons,Bool.and_eq_true,bne_iff_ne]at h
  have ih:=ws_app w r h.2
  rw[List.cons_append,wordsSigns,ih]
  exact h.1
theorem ws_end:∀(w:List Char),(w.all fun c=>c !=Char.ofNat 32)=true→wordsSigns w=[w]
 |[],_=>rfl
 |c::w,h=>by
  simp only[List.all_cons,Bool.and_eq_true,bne_iff_ne]at h
  have ih:=ws_end w h.2
  rw[wordsSigns,ih]
  exact h.1
def initL:List Char:=(iw0++Char.ofNat 32::(iw1++Char.ofNat 32::(iw2++Char.ofNat 32::(iw3++Char.ofNat 32::(iw4++Char.ofNat 32::(iw5++Char.ofNat 32::(iw6++Char.ofNat 32::(iw7++Char.ofNat 32::(iw8++Char.ofNat 32::(iw9++Char.ofNat 32::(iw10++Char.ofNat 32::(iw11++Char.ofNat 32::(iw12++Char.ofNat 32::iw13)))))))))))))
theorem initE:Tryz.prog.initOrder=String.ofList initL:=by kernel_rfl
theorem initT:Tryz.prog.initOrder.toList=initL:=by rw[initE,String.toList_ofList]
theorem initW:wordsSigns initL=[iw0,iw1,iw2,iw3,iw4,iw5,iw6,iw7,iw8,iw9,iw10,iw11,iw12,iw13]:=((ws_app iw0 _ (by kernel_rfl)).trans (congrArg (iw0::·) ((ws_app iw1 _ (by kernel_rfl)).trans (congrArg (iw1::·) ((ws_app iw2 _ (by kernel_rfl)).trans (congrArg (iw2::·) ((ws_app iw3 _ (by kernel_rfl)).trans (congrArg (iw3::·) ((ws_app iw4 _ (by kernel_rfl)).trans (congrArg (iw4::·) ((ws_app iw5 _ (by kernel_rfl)).trans (congrArg (iw5::·) ((ws_app iw6 _ (by kernel_rfl)).trans (congrArg (iw6::·) ((ws_app iw7 _ (by kernel_rfl)).trans (congrArg (iw7::·) ((ws_app iw8 _ (by kernel_rfl)).trans (congrArg (iw8::·) ((ws_app iw9 _ (by kernel_rfl)).trans (congrArg (iw9::·) ((ws_app iw10 _ (by kernel_rfl)).trans (congrArg (iw10::·) ((ws_app iw11 _ (by kernel_rfl)).trans (congrArg (iw11::·) ((ws_app iw12 _ (by kernel_rfl)).trans (congrArg (iw12::·) (ws_end iw13 (by kernel_rfl))))))))))))))))))))))))))))
theorem initB:behindMainWord [iw0,iw1,iw2,iw3,iw4,iw5,iw6,iw7,iw8,iw9,iw10,iw11,iw12,iw13]=[iw2,iw3,iw4,iw5,iw6,iw7,iw8,iw9,iw10,iw11,iw12,iw13]:=by kernel_rfl
theorem initS:stripLifts liftWords [iw2,iw3,iw4,iw5,iw6,iw7,iw8,iw9,iw10,iw11,iw12,iw13]=([],[iw2,iw3,iw4,iw5,iw6,iw7,iw8,iw9,iw10,iw11,iw12,iw13]):=by kernel_rfl
theorem may_of (P:Program) (c:List Char) (rest:List (List Char)) (h:behindMainWord (wordsSigns P.initOrder.toList)=c::rest) (hs:stripLifts liftWords (c::rest)=([],c::rest)) (hc:c= "cut".toList) (hl:P.laysLater=false) (hr:P.bearsReflect=false) (hd:P.doorFits []=true):P.mayEnter=true:=by
 unfold Program.mayEnter
 rw[h]
 dsimp only
 rw[hs]
 dsimp only
 rw[hd,hl,hr,hc]
 simp
theorem lift_of (P:Program) (c:List Char) (rest:List (List Char)) (h:behindMainWord (wordsSigns P.initOrder.toList)=c::rest) (hs:stripLifts liftWords (c::rest)=([],c::rest)) (hn:(some c==some "carried".toList)=false):P.liftsFinal=false:=by
 have hh:P.headLifts=[]:=by
  unfold Program.headLifts
  rw[h,hs]
  show(if _ then([]:List String)else[])=[]
  split<;>rfl
 unfold Program.liftsFinal
 rw[h,hh]
 simp only[List.head?_cons,hn]
 simp
theorem make_of (P:Program) (c:List Char) (rest:List (List Char)) (h:behindMainWord (wordsSigns P.initOrder.toList)=c::rest) (h1:(c== "gc".toList||c== "spec".toList)=false) (h2:(c== "cut".toList)=true):P.make=some .cut:=by
 unfold Program.make
 rw[h]
 dsimp only
 rw[h1,h2]
 simp
theorem initH:behindMainWord (wordsSigns Tryz.prog.initOrder.toList)=[iw2,iw3,iw4,iw5,iw6,iw7,iw8,iw9,iw10,iw11,iw12,iw13]:=by rw[initT,initW,initB]
theorem may:Tryz.prog.mayEnter=true:=may_of _ iw2 _ initH initS (by kernel_rfl) (by kernel_rfl) (by kernel_rfl) (by kernel_rfl)
theorem lift:Tryz.prog.liftsFinal=false:=lift_of _ iw2 _ initH initS (by kernel_rfl)
theorem made:Tryz.prog.make=some .cut:=make_of _ iw2 _ initH (by kernel_rfl) (by kernel_rfl)
theorem closed:joinedFacts Tryz.prog 12 Tryz.f12 Rows.fnScriptRunSpec Rows.fnScriptRunRow=true:=by
 unfold joinedFacts
 rw[may,lift,made]
 kernel_rfl
theorem over:Rows.fnScriptRunRow.holds Tryz.pinned (OpenSpec.ofChange Rows.fnScriptRunSpec):=
 OpenClaim.holds_of_wide 12 Tryz.f12 rfl rfl rfl rfl rfl rfl rfl ⟨rfl,rfl,rfl,rfl,rfl⟩ rfl rfl rfl rfl rfl (by kernel_rfl) Tryz.func12 closed
  (of_decide_eq_true (by kernel_rfl)) (by unfold Func.isWrapper;first|(rw[if_pos (by decide+kernel)];kernel_rfl)|(rw[if_neg (by decide+kernel)];exact⟨rfl,rfl⟩))
  (fun os started H enc _=>lifted os started H enc)
theorem proved:Rows.FnScriptRunSaid:=over
end Go.Proofs.YtigomgblkieahaaGreatDoor.fnScriptRun
namespace Go.Proofs.YtigomgblkieahaaGreatDoor
theorem fnScriptRun_holds:Rows.FnScriptRunCardSaid:=
 Claim7.holds_tied_plain_at .later [] [.data, .data, .data, .data, .sentinel, .sentinel, .data, .pinned] true (true, "0c678859b765f73a35b7464c2f514ee7d0b2f4ebb13d7185ed09a1cff576b273") true fnScriptRun.proved (fun _ h=>by cases h) (by kernel_rfl) (fun _ h=>by cases h) fnScriptRun_row_tie rfl ⟨rfl,rfl⟩ (by kernel_rfl) rfl
  (fun f fn hf hfn=>by
   obtain rfl:f=12:=Option.some.inj ((show Tryz.prog.funcNamed "loop.example/cellcollector/laws.FnScriptRun" =some 12 by kernel_rfl).symm.trans hf)|>.symm
   obtain rfl:fn=Tryz.f12:=(Option.some.inj (Tryz.func12.symm.trans hfn)).symm
   exact⟨by kernel_rfl,fun j t ht=>by
    rw[Tryz.params12]at ht
    have hm:t∈[22,22]:=by simpa using Array.mem_of_getElem? ht
    have hall:([22,22].all fun u=> !Tryz.prog.wantsStandIn u)=true:=by kernel_rfl
    exact(show Tryz.prog.wantsStandIn t=false by simpa using List.all_eq_true.1 hall t hm)⟩)
  (by kernel_rfl)
#print axioms fnScriptRun_holds
end Go.Proofs.YtigomgblkieahaaGreatDoor
