/- What is proved here: nothing: the typed models of functions of the translated program. -/
import Derived.Test.YtgnlgdebcgffnaaGreatDoorT19
import Derived.Lib.AtoiAll
import Derived.Lib.AtoiTie
import Derived.Lib.IndexMore
import Derived.Lib.ItoaNum
import Derived.Lib.Split
import Derived.Lib.SplitLaws
namespace Go.Ab
set_option linter.unusedVariables false
def em (p1:Int) (K:(List Int)→Prop):Prop:=
 (ar (S:=Int×Int×List Int) (fun s1 Kb1 Kx1=>
 (((decide (s1.2.1<s1.1))=true→
 ((List.length s1.2.2+List.length ([(-1)]:List Int)≤2^36)∧
 (Kb1 (s1.1,(ah s1.2.1 1),(s1.2.2++[(-1)])))))∧
 ((decide (s1.2.1<s1.1))=false→
 (Kx1 (s1.1,s1.2.1,s1.2.2)))))
 (p1,0,[]) fun s1=>
 (K s1.2.2))
def oe (p1 p2:Int) (K:Bool→(List Int)→(List Int)→(List Int)→Prop):Prop:=
 (((decide (p1<1))=true→
 (K false [] [] []))∧
 ((decide (p1<1))=false→
 (((decide (p1>8))=true→
 (K false [] [] []))∧
 ((decide (p1>8))=false→
 (((decide (p2<1))=true→
 (K false [] [] []))∧
 ((decide (p2<1))=false→
 (((decide (p2>3))=true→
 (K false [] [] []))∧
 ((decide (p2>3))=false→
 (em p1 fun y1=>
 (em p1 fun y2=>
 (em p2 fun y3=>
 (K true y1 y2 y3))))))))))))
def jz (p1 p2:Int) (K:Bool→(List Int)→(List Int)→(List Int)→(List Int)→Prop):Prop:=
 (oe p1 p2 fun y1 y2 y3 y4=>
 (((!y1)=true→
 (K false [] [] [] []))∧
 ((!y1)=false→
 (ar (S:=Int×Int×List Int×List Int×List Int×List Int×List Int×List Int×List Int×List Int) (fun s5 Kb5 Kx5=>
 (((decide (s5.2.1<s5.1))=true→
 ((List.length s5.2.2.2.2.2.2.2.2.2+List.length ([s5.2.1]:List Int)≤2^36)∧
 (Kb5 (s5.1,(ah s5.2.1 1),s5.2.2.1,s5.2.2.2.1,s5.2.2.2.2.1,s5.2.2.2.2.2.1,s5.2.2.2.2.2.2.1,s5.2.2.2.2.2.2.2.1,s5.2.2.2.2.2.2.2.2.1,(s5.2.2.2.2.2.2.2.2.2++[s5.2.1])))))∧
 ((decide (s5.2.1<s5.1))=false→
 (Kx5 (s5.1,s5.2.1,s5.2.2.1,s5.2.2.2.1,s5.2.2.2.2.1,s5.2.2.2.2.2.1,s5.2.2.2.2.2.2.1,s5.2.2.2.2.2.2.2.1,s5.2.2.2.2.2.2.2.2.1,s5.2.2.2.2.2.2.2.2.2)))))
 (p1,0,[],[],[],[],y2,y3,y4,[]) fun s5=>
 (K true s5.2.2.2.2.2.2.1 s5.2.2.2.2.2.2.2.1 s5.2.2.2.2.2.2.2.2.1 s5.2.2.2.2.2.2.2.2.2)))))
def gu (p1 p2:Int) (K:Bool→Prop):Prop:=
 (((decide (p1≥(-1)))=true→
 (K (decide (p1<p2))))∧
 ((decide (p1≥(-1)))=false→
 (K false)))
def bO (p1 p2 p3:List Int) (K:Bool→Prop):Prop:=
 (((decide ((len p1)<1))=true→
 (K false))∧
 ((decide ((len p1)<1))=false→
 (((decide ((len p1)>8))=true→
 (K false))∧
 ((decide ((len p1)>8))=false→
 ((((len p2) !=(len p1))=true→
 (K false))∧
 (((len p2) !=(len p1))=false→
 (((decide ((len p3)<1))=true→
 (K false))∧
 ((decide ((len p3)<1))=false→
 (((decide ((len p3)>3))=true→
 (K false))∧
 ((decide ((len p3)>3))=false→
 (ar (S:=Int×Int×List Int×List Int×List Int) (fun s1 Kb1 Kx1=>
 (((decide (s1.2.1<s1.1))=true→
 ((aq s1.2.1 (List.length s1.2.2.1))∧
 (gu (gI s1.2.2.1 s1.2.1) s1.1 fun y2=>
 (((!y2)=true→
 (K false))∧
 ((!y2)=false→
 ((aq s1.2.1 (List.length s1.2.2.2.1))∧
 (gu (gI s1.2.2.2.1 s1.2.1) s1.1 fun y3=>
 (((!y3)=true→
 (K false))∧
 ((!y3)=false→
 (Kb1 (s1.1,(ah s1.2.1 1),s1.2.2.1,s1.2.2.2.1,s1.2.2.2.2)))))))))))∧
 ((decide (s1.2.1<s1.1))=false→
 (Kx1 (s1.1,s1.2.1,s1.2.2.1,s1.2.2.2.1,s1.2.2.2.2)))))
 ((len p1),0,p1,p2,p3) fun s1=>
 (ar (S:=Int×Int×List Int×List Int×List Int) (fun s4 Kb4 Kx4=>
 (((decide (s4.2.1<(len s4.2.2.2.2)))=true→
 ((aq s4.2.1 (List.length s4.2.2.2.2))∧
 (gu (gI s4.2.2.2.2 s4.2.1) s4.1 fun y5=>
 (((!y5)=true→
 (K false))∧
 ((!y5)=false→
 (Kb4 (s4.1,(ah s4.2.1 1),s4.2.2.1,s4.2.2.2.1,s4.2.2.2.2)))))))∧
 ((decide (s4.2.1<(len s4.2.2.2.2)))=false→
 (Kx4 (s4.1,s4.2.1,s4.2.2.1,s4.2.2.2.1,s4.2.2.2.2)))))
 (s1.1,0,s1.2.2.1,s1.2.2.2.1,s1.2.2.2.2) fun s4=>
 (K true)))))))))))))
def dL (p1:List Int) (p2:Int) (K:Int→Prop):Prop:=
 (ar (S:=List Int×Int×Int) (fun s1 Kb1 Kx1=>
 (((decide (s1.2.2<(len s1.1)))=true→
 ((aq s1.2.2 (List.length s1.1))∧
 ((((gI s1.1 s1.2.2)==s1.2.1)=true→
 (K s1.2.2))∧
 (((gI s1.1 s1.2.2)==s1.2.1)=false→
 (Kb1 (s1.1,s1.2.1,(ah s1.2.2 1)))))))∧
 ((decide (s1.2.2<(len s1.1)))=false→
 (Kx1 (s1.1,s1.2.1,s1.2.2)))))
 (p1,p2,0) fun s1=>
 (K (-1)))
def qF (p1 p2 p3:List Int) (p4:Int) (K:Bool→Prop):Prop:=
 (((decide (p4≥0))=true→
 (((decide (p4<(len p1)))=true→
 ((aq p4 (List.length p1))∧
 ((((gI p1 p4)==(-1))=true→
 ((aq p4 (List.length p2))∧
 ((((gI p2 p4)==(-1))=true→
 (dL p1 p4 fun y1=>
 (((decide (y1<0))=true→
 (dL p2 p4 fun y2=>
 (((decide (y2<0))=true→
 (dL p3 p4 fun y3=>
 (K (decide (y3<0)))))∧
 ((decide (y2<0))=false→
 (K false)))))∧
 ((decide (y1<0))=false→
 (K false)))))∧
 (((gI p2 p4)==(-1))=false→
 (K false)))))∧
 (((gI p1 p4)==(-1))=false→
 (K false)))))∧
 ((decide (p4<(len p1)))=false→
 (K false))))∧
 ((decide (p4≥0))=false→
 (K false)))
def bP (p1 p2 p3 p4:List Int) (K:Bool→Prop):Prop:=
 (bO p1 p2 p3 fun y1=>
 (((!y1)=true→
 (K false))∧
 ((!y1)=false→
 (((decide ((len p4)>(len p1)))=true→
 (K false))∧
 ((decide ((len p4)>(len p1)))=false→
 (ar (S:=Int×List Int×List Int×List Int×List Int) (fun s2 Kb2 Kx2=>
 (((decide (s2.1<(len s2.2.2.2.2)))=true→
 ((aq s2.1 (List.length s2.2.2.2.2))∧
 (qF s2.2.1 s2.2.2.1 s2.2.2.2.1 (gI s2.2.2.2.2 s2.1) fun y3=>
 (((!y3)=true→
 (K false))∧
 ((!y3)=false→
 (((0:Int)≤(0:Int)∧(0:Int)≤s2.1∧s2.1≤len s2.2.2.2.2)∧
 ((aq s2.1 (List.length s2.2.2.2.2))∧
 (dL (sub s2.2.2.2.2 (0:Int) s2.1) (gI s2.2.2.2.2 s2.1) fun y4=>
 (((decide (y4≥0))=true→
 (K false))∧
 ((decide (y4≥0))=false→
 (Kb2 ((ah s2.1 1),s2.2.1,s2.2.2.1,s2.2.2.2.1,s2.2.2.2.2))))))))))))∧
 ((decide (s2.1<(len s2.2.2.2.2)))=false→
 (Kx2 (s2.1,s2.2.1,s2.2.2.1,s2.2.2.2.1,s2.2.2.2.2)))))
 (0,p1,p2,p3,p4) fun s2=>
 (K true)))))))
def pd (p1 p2 p3 p4:List Int) (K:Int→Int→Bool→(List Int)→Prop):Prop:=
 (bP p1 p2 p3 p4 fun y1=>
 (((!y1)=true→
 (K 0 0 false []))∧
 ((!y1)=false→
 ((0≤(len p1)∧(len p1)=(len p1)∧(len p1)≤2^36)∧
 (K 0 0 true (List.replicate (Int.toNat (len p1)) (0:Int)))))))
def ny (p1:Int) (K:(List UInt8)→Prop):Prop:=
 (((decide (p1<1))=true→
 (K ([]:List UInt8)))∧
 ((decide (p1<1))=false→
 (((decide (p1>7))=true→
 (K ([]:List UInt8)))∧
 ((decide (p1>7))=false→
 ((aq p1 (List.length [([]:List UInt8),[110,101,119],[99,111,112,121],[108,101,102,116],[114,105,103,104,116],[112,117,116,108,101,102,116],[112,117,116,114,105,103,104,116],[99,108,101,97,114]]))∧
 (let v1:List UInt8:=(gS [([]:List UInt8),[110,101,119],[99,111,112,121],[108,101,102,116],[114,105,103,104,116],[112,117,116,108,101,102,116],[112,117,116,114,105,103,104,116],[99,108,101,97,114]] p1);
 (K v1)))))))
def lX (p1:Int) (K:Bool→Prop):Prop:=
 (((p1==1)=true→
 (K true))∧
 ((p1==1)=false→
 (K (p1==7))))
def eR (p1 p2 p3 p4:Int) (K:Bool→Prop):Prop:=
 (ny p1 fun y1=>
 (((y1==([]:List UInt8))=true→
 (K false))∧
 ((y1==([]:List UInt8))=false→
 (((decide (p2<0))=true→
 (K false))∧
 ((decide (p2<0))=false→
 (((decide (p2≥p4))=true→
 (K false))∧
 ((decide (p2≥p4))=false→
 (((decide (p2≥3))=true→
 (K false))∧
 ((decide (p2≥3))=false→
 (((decide (p3<0))=true→
 (K false))∧
 ((decide (p3<0))=false→
 (((decide (p3≥3))=true→
 (K false))∧
 ((decide (p3≥3))=false→
 (lX p1 fun y2=>
 ((y2=true→
 (K (p3==0)))∧
 (y2=false→
 (K (decide (p3<p4)))))))))))))))))))
def lT (p1:List aA) (p2:Int) (K:Bool→Prop):Prop:=
 (ar (S:=List aA×Int×Int) (fun s1 Kb1 Kx1=>
 (((decide (s1.2.2<(len s1.1)))=true→
 (((decide (s1.2.2≤12))=true→
 ((aq s1.2.2 (List.length s1.1))∧
 (eR ((gO s1.1 s1.2.2).kind) ((gO s1.1 s1.2.2).a) ((gO s1.1 s1.2.2).b) s1.2.1 fun y2=>
 (((!y2)=true→
 (K false))∧
 ((!y2)=false→
 (Kb1 (s1.1,s1.2.1,(ah s1.2.2 1))))))))∧
 ((decide (s1.2.2≤12))=false→
 (Kx1 (s1.1,s1.2.1,s1.2.2)))))∧
 ((decide (s1.2.2<(len s1.1)))=false→
 (Kx1 (s1.1,s1.2.1,s1.2.2)))))
 (p1,p2,0) fun s1=>
 (K (decide ((len s1.1)≤12))))
def pX (p1 p2 p3:List Int) (K:Prop):Prop:=
 (((List.length p1:Nat)≤2^36)∧
 (((List.length p2:Nat)≤2^36)∧
 (((List.length p3:Nat)≤2^36)∧
 K)))
def cF (p1 p2 p3 p4:List Int) (K:Prop):Prop:=
 (pX p1 p2 p3<|
 (((List.length p4:Nat)≤2^36)∧
 K))
def jd (p1 p2 p3 p4:List Int) (p5:List aA) (K:Int→Int→Int→Bool→Bool→(List Int)→(List Int)→(List Int)→(List Int)→(List Int)→(List aA)→Prop):Prop:=
 (pd p1 p2 p3 p4 fun y1 y2 y3 y4=>
 (((!y3)=true→
 (K 0 0 0 false false [] [] [] [] [] []))∧
 ((!y3)=false→
 (lT p5 (len p3) fun y5=>
 (((!y5)=true→
 (K 0 0 0 false false [] [] [] [] [] []))∧
 ((!y5)=false→
 (cF p1 p2 p3 p4<|
 (((List.length p5:Nat)≤2^36)∧
 (K y1 y2 0 false true p1 p2 p3 p4 y4 p5)))))))))
def ko (p1 p2:Int) (K:Int→Int→Int→Bool→Bool→Bool→(List Int)→(List Int)→(List Int)→(List Int)→(List Int)→(List aA)→Prop):Prop:=
 (jz p1 p2 fun y1 y2 y3 y4 y5=>
 (jd y2 y3 y4 y5 [] fun y6 y7 y8 y9 y10 y11 y12 y13 y14 y15 y16=>
 (K y6 y7 y8 y9 true y1 y11 y12 y13 y14 y15 y16)))
def jS (p1:List UInt8) (p2:Int) (K:(List (List UInt8))→Prop):Prop:=
 (ar (S:=List UInt8×Int×Int×Int×List (List UInt8)) (fun s1 Kb1 Kx1=>
 (((decide (s1.2.2.2.1≤(len s1.1)))=true→
 (((s1.2.2.2.1==(len s1.1))=true→
 (((0:Int)≤s1.2.2.1∧s1.2.2.1≤s1.2.2.2.1∧s1.2.2.2.1≤len s1.1)∧
 ((List.length s1.2.2.2.2+List.length ([(sub s1.1 s1.2.2.1 s1.2.2.2.1)]:List (List UInt8))≤2^36)∧
 (Kb1 (s1.1,s1.2.1,(ah s1.2.2.2.1 1),(ah s1.2.2.2.1 1),(s1.2.2.2.2++[(sub s1.1 s1.2.2.1 s1.2.2.2.1)]))))))∧
 ((s1.2.2.2.1==(len s1.1))=false→
 ((aq s1.2.2.2.1 (List.length s1.1))∧
 ((((gC s1.1 s1.2.2.2.1)==s1.2.1)=true→
 (((0:Int)≤s1.2.2.1∧s1.2.2.1≤s1.2.2.2.1∧s1.2.2.2.1≤len s1.1)∧
 ((List.length s1.2.2.2.2+List.length ([(sub s1.1 s1.2.2.1 s1.2.2.2.1)]:List (List UInt8))≤2^36)∧
 (Kb1 (s1.1,s1.2.1,(ah s1.2.2.2.1 1),(ah s1.2.2.2.1 1),(s1.2.2.2.2++[(sub s1.1 s1.2.2.1 s1.2.2.2.1)]))))))∧
 (((gC s1.1 s1.2.2.2.1)==s1.2.1)=false→
 (Kb1 (s1.1,s1.2.1,s1.2.2.1,(ah s1.2.2.2.1 1),s1.2.2.2.2))))))))∧
 ((decide (s1.2.2.2.1≤(len s1.1)))=false→
 (Kx1 (s1.1,s1.2.1,s1.2.2.1,s1.2.2.2.1,s1.2.2.2.2)))))
 (p1,p2,0,0,[]) fun s1=>
 (K s1.2.2.2.2))
def gW (p1 p2 p3 p4:List Int) (K:Bool→Prop):Prop:=
 (bO p1 p2 p3 fun y1=>
 (((!y1)=true→
 (K false))∧
 ((!y1)=false→
 ((((len p4) !=(len p1))=true→
 (K false))∧
 (((len p4) !=(len p1))=false→
 (ar (S:=Int×List Int×List Int×List Int×List Int) (fun s2 Kb2 Kx2=>
 (((decide (s2.1<(len s2.2.2.2.2)))=true→
 ((aq s2.1 (List.length s2.2.2.2.2))∧
 (((decide ((gI s2.2.2.2.2 s2.1)<0))=true→
 (K false))∧
 ((decide ((gI s2.2.2.2.2 s2.1)<0))=false→
 ((aq s2.1 (List.length s2.2.2.2.2))∧
 (((decide ((gI s2.2.2.2.2 s2.1)>2))=true→
 (K false))∧
 ((decide ((gI s2.2.2.2.2 s2.1)>2))=false→
 (Kb2 ((ah s2.1 1),s2.2.1,s2.2.2.1,s2.2.2.2.1,s2.2.2.2.2)))))))))∧
 ((decide (s2.1<(len s2.2.2.2.2)))=false→
 (Kx2 (s2.1,s2.2.1,s2.2.2.1,s2.2.2.2.1,s2.2.2.2.2)))))
 (0,p1,p2,p3,p4) fun s2=>
 (K true)))))))
def iZ (p1 p2 p3 p4:List Int) (p5:Int) (p6:List Int) (p7:Int) (K:Bool→Prop):Prop:=
 (bP p1 p2 p3 p4 fun y1=>
 (((!y1)=true→
 (K false))∧
 ((!y1)=false→
 (gW p1 p2 p3 p6 fun y2=>
 (((!y2)=true→
 (K false))∧
 ((!y2)=false→
 (((decide (p7<0))=true→
 (K false))∧
 ((decide (p7<0))=false→
 (((p5==0)=true→
 (K (p7==0)))∧
 ((p5==0)=false→
 (((p5==2)=true→
 (K (p7==0)))∧
 ((p5==2)=false→
 (((p5==1)=true→
 (K (decide (p7<(len p3)))))∧
 ((p5==1)=false→
 (((p5==3)=true→
 (K (decide (p7<(len p1)))))∧
 ((p5==3)=false→
 (K false)))))))))))))))))
def eb (p1 p2 p3 p4:List Int) (p5:Int) (p6:List Int) (p7:Int) (p8:List aA) (p9:Int) (p10:Bool) (K:Bool→Prop):Prop:=
 (iZ p1 p2 p3 p4 p5 p6 p7 fun y1=>
 ((y1=true→
 (lT p8 (len p3) fun y2=>
 ((y2=true→
 (((decide (p9≥0))=true→
 (K (decide (p9≤(len p8)))))∧
 ((decide (p9≥0))=false→
 (K false))))∧
 (y2=false→
 (K false)))))∧
 (y1=false→
 (K false))))
def dE (p1:Int) (K:(List UInt8)→Prop):Prop:=
 (((decide (p1<(-9223372036854775807)))=true→
 (K [45,57,50,50,51,51,55,50,48,51,54,56,53,52,55,55,53,56,48,56]))∧
 ((decide (p1<(-9223372036854775807)))=false→
 (((decide (p1<0))=true→
 False)∧
 ((decide (p1<0))=false→
 (ar (S:=Int×List UInt8) (fun s1 Kb1 Kx1=>
 (((decide (s1.1>9))=true→
 (((10:Int)≠0)∧
 ((0<List.length [(IntKind.wrap .u8 (ah 48 (Int.tmod s1.1 10)))])∧
 ((List.length (aI [(IntKind.wrap .u8 (ah 48 (Int.tmod s1.1 10)))])+List.length s1.2≤2^62)∧
 (let v2:List UInt8:=((aI [(IntKind.wrap .u8 (ah 48 (Int.tmod s1.1 10)))])++s1.2);
 (((10:Int)≠0)∧
 (Kb1 ((wT s1.1 10),v2))))))))∧
 ((decide (s1.1>9))=false→
 (Kx1 (s1.1,s1.2)))))
 (p1,([]:List UInt8)) fun s1=>
 ((0<List.length [(IntKind.wrap .u8 (ah 48 s1.1))])∧
 ((List.length (aI [(IntKind.wrap .u8 (ah 48 s1.1))])+List.length s1.2≤2^62)∧
 (K ((aI [(IntKind.wrap .u8 (ah 48 s1.1))])++s1.2)))))))))
def kz (p1:Int) (K:(List UInt8)→Prop):Prop:=
 (((p1==(-1))=true→
 (K [45]))∧
 ((p1==(-1))=false→
 (dE p1 fun y1=>
 (K y1))))
def gj (p1 p2 p3:List Int) (K:(List UInt8)→Prop):Prop:=
 (bO p1 p2 p3 fun y1=>
 (((!y1)=true→
 (K ([]:List UInt8)))∧
 ((!y1)=false→
 (ar (S:=List UInt8×Int×List Int×List Int×List Int) (fun s2 Kb2 Kx2=>
 (((decide (s2.2.1<(len s2.2.2.1)))=true→
 ((aq s2.2.1 (List.length s2.2.2.1))∧
 (kz (gI s2.2.2.1 s2.2.1) fun y3=>
 ((List.length s2.1+List.length y3≤2^62)∧
 ((aq s2.2.1 (List.length s2.2.2.2.1))∧
 (kz (gI s2.2.2.2.1 s2.2.1) fun y4=>
 ((List.length (s2.1++y3)+List.length y4≤2^62)∧
 ((List.length ((s2.1++y3)++y4)+List.length [32]≤2^62)∧
 (Kb2 ((((s2.1++y3)++y4)++[32]),(ah s2.2.1 1),s2.2.2.1,s2.2.2.2.1,s2.2.2.2.2))))))))))∧
 ((decide (s2.2.1<(len s2.2.2.1)))=false→
 (Kx2 (s2.1,s2.2.1,s2.2.2.1,s2.2.2.2.1,s2.2.2.2.2)))))
 (([]:List UInt8),0,p1,p2,p3) fun s2=>
 ((List.length s2.1+List.length [47]≤2^62)∧
 (ar (S:=List UInt8×Int×List Int×List Int×List Int) (fun s5 Kb5 Kx5=>
 (((decide (s5.2.1<(len s5.2.2.2.2)))=true→
 ((List.length s5.1+List.length [32]≤2^62)∧
 ((aq s5.2.1 (List.length s5.2.2.2.2))∧
 (kz (gI s5.2.2.2.2 s5.2.1) fun y6=>
 ((List.length (s5.1++[32])+List.length y6≤2^62)∧
 (Kb5 (((s5.1++[32])++y6),(ah s5.2.1 1),s5.2.2.1,s5.2.2.2.1,s5.2.2.2.2)))))))∧
 ((decide (s5.2.1<(len s5.2.2.2.2)))=false→
 (Kx5 (s5.1,s5.2.1,s5.2.2.1,s5.2.2.2.1,s5.2.2.2.2)))))
 ((s2.1++[47]),0,s2.2.2.1,s2.2.2.2.1,s2.2.2.2.2) fun s5=>
 (K s5.1)))))))
def fe (p1 p2 p3 p4:List Int) (K:(List UInt8)→Prop):Prop:=
 (bP p1 p2 p3 p4 fun y1=>
 (((!y1)=true→
 (K ([]:List UInt8)))∧
 ((!y1)=false→
 (gj p1 p2 p3 fun y2=>
 ((List.length y2+List.length [32,102,114,101,101]≤2^62)∧
 (ar (S:=List UInt8×Int×List Int×List Int×List Int×List Int) (fun s3 Kb3 Kx3=>
 (((decide (s3.2.1<(len s3.2.2.2.2.2)))=true→
 ((List.length s3.1+List.length [32]≤2^62)∧
 ((aq s3.2.1 (List.length s3.2.2.2.2.2))∧
 (dE (gI s3.2.2.2.2.2 s3.2.1) fun y4=>
 ((List.length (s3.1++[32])+List.length y4≤2^62)∧
 (Kb3 (((s3.1++[32])++y4),(ah s3.2.1 1),s3.2.2.1,s3.2.2.2.1,s3.2.2.2.2.1,s3.2.2.2.2.2)))))))∧
 ((decide (s3.2.1<(len s3.2.2.2.2.2)))=false→
 (Kx3 (s3.1,s3.2.1,s3.2.2.1,s3.2.2.2.1,s3.2.2.2.2.1,s3.2.2.2.2.2)))))
 ((y2++[32,102,114,101,101]),0,p1,p2,p3,p4) fun s3=>
 (K s3.1)))))))
def eE (p1 p2 p3 p4:List Int) (p5:Int) (p6:List Int) (p7:Int) (p8:List aA) (p9:Int) (p10:Bool) (K:(List UInt8)→Prop):Prop:=
 (eb p1 p2 p3 p4 p5 p6 p7 p8 p9 p10 fun y1=>
 (((!y1)=true→
 (K ([]:List UInt8)))∧
 ((!y1)=false→
 (fe p1 p2 p3 p4 fun y2=>
 ((List.length y2+List.length [32]≤2^62)∧
 ((aq p5 (List.length [[105,100,108,101],[114,111,111,116,115],[109,97,114,107],[115,119,101,101,112]]))∧
 (let v3:List UInt8:=(gS [[105,100,108,101],[114,111,111,116,115],[109,97,114,107],[115,119,101,101,112]] p5);
 ((List.length (y2++[32])+List.length v3≤2^62)∧
 ((List.length ((y2++[32])++v3)+List.length [32]≤2^62)∧
 (dE p7 fun y4=>
 ((List.length (((y2++[32])++v3)++[32])+List.length y4≤2^62)∧
 ((List.length ((((y2++[32])++v3)++[32])++y4)+List.length [32]≤2^62)∧
 (ar (S:=List UInt8×Int×List Int×List Int×List Int×List Int×Int×List Int×Int×List aA×Int×Bool×List (List UInt8)) (fun s5 Kb5 Kx5=>
 (((decide (s5.2.1<(len s5.2.2.2.2.2.2.2.1)))=true→
 ((aq s5.2.1 (List.length s5.2.2.2.2.2.2.2.1))∧
 ((aq (gI s5.2.2.2.2.2.2.2.1 s5.2.1) (List.length s5.2.2.2.2.2.2.2.2.2.2.2.2))∧
 (let v6:List UInt8:=(gS s5.2.2.2.2.2.2.2.2.2.2.2.2 (gI s5.2.2.2.2.2.2.2.1 s5.2.1));
 ((List.length s5.1+List.length v6≤2^62)∧
 (Kb5 ((s5.1++v6),(ah s5.2.1 1),s5.2.2.1,s5.2.2.2.1,s5.2.2.2.2.1,s5.2.2.2.2.2.1,s5.2.2.2.2.2.2.1,s5.2.2.2.2.2.2.2.1,s5.2.2.2.2.2.2.2.2.1,s5.2.2.2.2.2.2.2.2.2.1,s5.2.2.2.2.2.2.2.2.2.2.1,s5.2.2.2.2.2.2.2.2.2.2.2.1,s5.2.2.2.2.2.2.2.2.2.2.2.2)))))))∧
 ((decide (s5.2.1<(len s5.2.2.2.2.2.2.2.1)))=false→
 (Kx5 (s5.1,s5.2.1,s5.2.2.1,s5.2.2.2.1,s5.2.2.2.2.1,s5.2.2.2.2.2.1,s5.2.2.2.2.2.2.1,s5.2.2.2.2.2.2.2.1,s5.2.2.2.2.2.2.2.2.1,s5.2.2.2.2.2.2.2.2.2.1,s5.2.2.2.2.2.2.2.2.2.2.1,s5.2.2.2.2.2.2.2.2.2.2.2.1,s5.2.2.2.2.2.2.2.2.2.2.2.2)))))
 ((((((y2++[32])++v3)++[32])++y4)++[32]),0,p1,p2,p3,p4,p5,p6,p7,p8,p9,p10,[[119],[103],[98]]) fun s5=>
 ((List.length s5.1+List.length [32,97,116,32]≤2^62)∧
 (dE s5.2.2.2.2.2.2.2.2.2.2.1 fun y7=>
 ((List.length (s5.1++[32,97,116,32])+List.length y7≤2^62)∧
 ((s5.2.2.2.2.2.2.2.2.2.2.2.1=true→
 ((List.length ((s5.1++[32,97,116,32])++y7)+List.length [32,108,111,115,116]≤2^62)∧
 (let v8:List UInt8:=(((s5.1++[32,97,116,32])++y7)++[32,108,111,115,116]);
 (K v8))))∧
 (s5.2.2.2.2.2.2.2.2.2.2.2.1=false→
 (K ((s5.1++[32,97,116,32])++y7))))))))))))))))))))
def d5 (p1 p2 p3 p4:List Int) (K:(List Int)→Prop):Prop:=
 (em (len p1) fun y1=>
 (ar (S:=List Int×Int×List Int×List Int×List Int×List Int×List Int) (fun s2 Kb2 Kx2=>
 (((decide (s2.2.1<(len s2.1)))=true→
 ((aq s2.2.1 (List.length s2.1))∧
 ((((gI s2.1 s2.2.1) !=(-1))=true→
 ((aq s2.2.1 (List.length s2.1))∧
 ((aq (gI s2.1 s2.2.1) (List.length s2.2.2.2.2.2.1))∧
 (((decide ((gI s2.2.2.2.2.2.1 (gI s2.1 s2.2.1))<0))=true→
 ((aq s2.2.1 (List.length s2.1))∧
 ((aq (gI s2.1 s2.2.1) (List.length s2.2.2.2.2.2.1))∧
 ((aq s2.2.1 (List.length s2.1))∧
 ((List.length s2.2.2.2.2.2.2+List.length ([(gI s2.1 s2.2.1)]:List Int)≤2^36)∧
 (Kb2 (s2.1,(ah s2.2.1 1),s2.2.2.1,s2.2.2.2.1,s2.2.2.2.2.1,(uL s2.2.2.2.2.2.1 (gI s2.1 s2.2.1) 1),(s2.2.2.2.2.2.2++[(gI s2.1 s2.2.1)]))))))))∧
 ((decide ((gI s2.2.2.2.2.2.1 (gI s2.1 s2.2.1))<0))=false→
 (Kb2 (s2.1,(ah s2.2.1 1),s2.2.2.1,s2.2.2.2.1,s2.2.2.2.2.1,s2.2.2.2.2.2.1,s2.2.2.2.2.2.2)))))))∧
 (((gI s2.1 s2.2.1) !=(-1))=false→
 (Kb2 (s2.1,(ah s2.2.1 1),s2.2.2.1,s2.2.2.2.1,s2.2.2.2.2.1,s2.2.2.2.2.2.1,s2.2.2.2.2.2.2))))))∧
 ((decide (s2.2.1<(len s2.1)))=false→
 (Kx2 (s2.1,s2.2.1,s2.2.2.1,s2.2.2.2.1,s2.2.2.2.2.1,s2.2.2.2.2.2.1,s2.2.2.2.2.2.2)))))
 (p4,0,p1,p2,p3,y1,[]) fun s2=>
 (ar (S:=Int×List Int×List Int×List Int×List Int×List Int) (fun s3 Kb3 Kx3=>
 (((decide (s3.1<(len s3.2.2.2.2.2)))=true→
 ((aq s3.1 (List.length s3.2.2.2.2.2))∧
 ((aq (gI s3.2.2.2.2.2 s3.1) (List.length s3.2.1))∧
 ((aq (gI s3.2.2.2.2.2 s3.1) (List.length s3.2.2.1))∧
 (ar (S:=Int×Int×Int×List Int×List Int×List Int×List Int×List Int×List Int) (fun s4 Kb4 Kx4=>
 (((decide (s4.2.2.1<2))=true→
 (let j7:Prop:=
 (Kb4 (s4.1,s4.2.1,(ah s4.2.2.1 1),s4.2.2.2.1,s4.2.2.2.2.1,s4.2.2.2.2.2.1,s4.2.2.2.2.2.2.1,s4.2.2.2.2.2.2.2.1,s4.2.2.2.2.2.2.2.2));
 ((aq s4.2.2.1 (List.length s4.2.2.2.2.2.2.2.2))∧
 ((((gI s4.2.2.2.2.2.2.2.2 s4.2.2.1) !=(-1))=true→
 ((aq s4.2.2.1 (List.length s4.2.2.2.2.2.2.2.2))∧
 ((aq (gI s4.2.2.2.2.2.2.2.2 s4.2.2.1) (List.length s4.2.2.2.2.2.2.1))∧
 (let v5:Bool:=(decide ((gI s4.2.2.2.2.2.2.1 (gI s4.2.2.2.2.2.2.2.2 s4.2.2.1))<0));
 ((v5=true→
 ((aq s4.2.2.1 (List.length s4.2.2.2.2.2.2.2.2))∧
 ((aq s4.2.1 (List.length s4.2.2.2.2.2.2.1))∧
 ((aq (gI s4.2.2.2.2.2.2.2.2 s4.2.2.1) (List.length s4.2.2.2.2.2.2.1))∧
 (let v6:List Int:=(uL s4.2.2.2.2.2.2.1 (gI s4.2.2.2.2.2.2.2.2 s4.2.2.1) (ah (gI s4.2.2.2.2.2.2.1 s4.2.1) 1));
 ((aq s4.2.2.1 (List.length s4.2.2.2.2.2.2.2.2))∧
 ((List.length s4.2.2.2.2.2.2.2.1+List.length ([(gI s4.2.2.2.2.2.2.2.2 s4.2.2.1)]:List Int)≤2^36)∧
 (Kb4 (s4.1,s4.2.1,(ah s4.2.2.1 1),s4.2.2.2.1,s4.2.2.2.2.1,s4.2.2.2.2.2.1,v6,(s4.2.2.2.2.2.2.2.1++[(gI s4.2.2.2.2.2.2.2.2 s4.2.2.1)]),s4.2.2.2.2.2.2.2.2)))))))))∧
 (v5=false→
 j7))))))∧
 (((gI s4.2.2.2.2.2.2.2.2 s4.2.2.1) !=(-1))=false→
 j7)))))∧
 ((decide (s4.2.2.1<2))=false→
 (Kx4 (s4.1,s4.2.1,s4.2.2.1,s4.2.2.2.1,s4.2.2.2.2.1,s4.2.2.2.2.2.1,s4.2.2.2.2.2.2.1,s4.2.2.2.2.2.2.2.1,s4.2.2.2.2.2.2.2.2)))))
 (s3.1,(gI s3.2.2.2.2.2 s3.1),0,s3.2.1,s3.2.2.1,s3.2.2.2.1,s3.2.2.2.2.1,s3.2.2.2.2.2,[(gI s3.2.1 (gI s3.2.2.2.2.2 s3.1)),(gI s3.2.2.1 (gI s3.2.2.2.2.2 s3.1))]) fun s4=>
 (Kb3 ((ah s4.1 1),s4.2.2.2.1,s4.2.2.2.2.1,s4.2.2.2.2.2.1,s4.2.2.2.2.2.2.1,s4.2.2.2.2.2.2.2.1)))))))∧
 ((decide (s3.1<(len s3.2.2.2.2.2)))=false→
 (Kx3 (s3.1,s3.2.1,s3.2.2.1,s3.2.2.2.1,s3.2.2.2.2.1,s3.2.2.2.2.2)))))
 (0,s2.2.2.1,s2.2.2.2.1,s2.2.2.2.2.1,s2.2.2.2.2.2.1,s2.2.2.2.2.2.2) fun s3=>
 (K s3.2.2.2.2.1))))
def ir (p1 p2 p3:List Int) (K:(List Bool)→Prop):Prop:=
 (bO p1 p2 p3 fun y1=>
 (((!y1)=true→
 (K []))∧
 ((!y1)=false→
 (d5 p1 p2 p3 p3 fun y2=>
 (ar (S:=Int×List Bool×List Int) (fun s3 Kb3 Kx3=>
 (((decide (s3.1<(len s3.2.2)))=true→
 ((aq s3.1 (List.length s3.2.2))∧
 ((List.length s3.2.1+List.length ([(decide ((gI s3.2.2 s3.1)>0))]:List Bool)≤2^36)∧
 (Kb3 ((ah s3.1 1),(s3.2.1++[(decide ((gI s3.2.2 s3.1)>0))]),s3.2.2)))))∧
 ((decide (s3.1<(len s3.2.2)))=false→
 (Kx3 (s3.1,s3.2.1,s3.2.2)))))
 (0,[],y2) fun s3=>
 (K s3.2.1))))))
def im (p1 p2 p3:List Int) (K:(List Int)→Prop):Prop:=
 (ir p1 p2 p3 fun y1=>
 (ar (S:=Int×List Int×List Bool) (fun s2 Kb2 Kx2=>
 (((decide (s2.1<(len s2.2.2)))=true→
 ((aq s2.1 (List.length s2.2.2))∧
 (((!(gB s2.2.2 s2.1))=true→
 ((List.length s2.2.1+List.length ([s2.1]:List Int)≤2^36)∧
 (Kb2 ((ah s2.1 1),(s2.2.1++[s2.1]),s2.2.2))))∧
 ((!(gB s2.2.2 s2.1))=false→
 (Kb2 ((ah s2.1 1),s2.2.1,s2.2.2))))))∧
 ((decide (s2.1<(len s2.2.2)))=false→
 (Kx2 (s2.1,s2.2.1,s2.2.2)))))
 (0,[],y1) fun s2=>
 (K s2.2.1)))
def dZ (p1:List UInt8) (p2:List Int) (K:(List UInt8)→Prop):Prop:=
 (ar (S:=List Int×List UInt8×Int) (fun s1 Kb1 Kx1=>
 (((decide (s1.2.2<(len s1.1)))=true→
 ((List.length s1.2.1+List.length [32]≤2^62)∧
 ((aq s1.2.2 (List.length s1.1))∧
 (dE (gI s1.1 s1.2.2) fun y2=>
 ((List.length (s1.2.1++[32])+List.length y2≤2^62)∧
 (Kb1 (s1.1,((s1.2.1++[32])++y2),(ah s1.2.2 1))))))))∧
 ((decide (s1.2.2<(len s1.1)))=false→
 (Kx1 (s1.1,s1.2.1,s1.2.2)))))
 (p2,p1,0) fun s1=>
 ((List.length s1.2.1+List.length [10]≤2^62)∧
 (K (s1.2.1++[10]))))
def mt (p1 p2 p3 p4:List Int) (K:(List Int)→Prop):Prop:=
 (bP p1 p2 p3 p4 fun y1=>
 (((!y1)=true→
 (K []))∧
 ((!y1)=false→
 (im p1 p2 p3 fun y2=>
 (ar (S:=Int×List Int×List Int×List Int×List Int×List Int×List Int) (fun s3 Kb3 Kx3=>
 (((decide (s3.1<(len s3.2.2.2.2.2.2)))=true→
 ((aq s3.1 (List.length s3.2.2.2.2.2.2))∧
 (dL s3.2.2.2.2.1 (gI s3.2.2.2.2.2.2 s3.1) fun y4=>
 (((decide (y4<0))=true→
 ((aq s3.1 (List.length s3.2.2.2.2.2.2))∧
 ((List.length s3.2.2.2.2.2.1+List.length ([(gI s3.2.2.2.2.2.2 s3.1)]:List Int)≤2^36)∧
 (Kb3 ((ah s3.1 1),s3.2.1,s3.2.2.1,s3.2.2.2.1,s3.2.2.2.2.1,(s3.2.2.2.2.2.1++[(gI s3.2.2.2.2.2.2 s3.1)]),s3.2.2.2.2.2.2)))))∧
 ((decide (y4<0))=false→
 (Kb3 ((ah s3.1 1),s3.2.1,s3.2.2.1,s3.2.2.2.1,s3.2.2.2.2.1,s3.2.2.2.2.2.1,s3.2.2.2.2.2.2)))))))∧
 ((decide (s3.1<(len s3.2.2.2.2.2.2)))=false→
 (Kx3 (s3.1,s3.2.1,s3.2.2.1,s3.2.2.2.1,s3.2.2.2.2.1,s3.2.2.2.2.2.1,s3.2.2.2.2.2.2)))))
 (0,p1,p2,p3,p4,[],y2) fun s3=>
 (K s3.2.2.2.2.2.1))))))
def mI (p1 p2 p3:List Int) (K:(List Int)→Prop):Prop:=
 (bO p1 p2 p3 fun y1=>
 (((!y1)=true→
 (K []))∧
 ((!y1)=false→
 ((0≤(len p1)∧(len p1)=(len p1)∧(len p1)≤2^36)∧
 (((List.length p1:Nat)≤2^36)∧
 ((List.length p1+List.length p2≤2^36)∧
 ((List.length (p1++p2)+List.length p3≤2^36)∧
 (ar (S:=Int×List Int×List Int) (fun s2 Kb2 Kx2=>
 (((decide (s2.1<(len s2.2.2)))=true→
 ((aq s2.1 (List.length s2.2.2))∧
 ((((gI s2.2.2 s2.1) !=(-1))=true→
 ((aq s2.1 (List.length s2.2.2))∧
 ((aq s2.1 (List.length s2.2.2))∧
 ((aq (gI s2.2.2 s2.1) (List.length s2.2.1))∧
 ((aq (gI s2.2.2 s2.1) (List.length s2.2.1))∧
 (let v3:List Int:=(uL s2.2.1 (gI s2.2.2 s2.1) (ah (gI s2.2.1 (gI s2.2.2 s2.1)) 1));
 (Kb2 ((ah s2.1 1),v3,s2.2.2))))))))∧
 (((gI s2.2.2 s2.1) !=(-1))=false→
 (Kb2 ((ah s2.1 1),s2.2.1,s2.2.2))))))∧
 ((decide (s2.1<(len s2.2.2)))=false→
 (Kx2 (s2.1,s2.2.1,s2.2.2)))))
 (0,(List.replicate (Int.toNat (len p1)) (0:Int)),((p1++p2)++p3)) fun s2=>
 (K s2.2.1)))))))))
def py (p1:List Int) (p2:Int) (K:Int→Prop):Prop:=
 (ar (S:=List Int×Int×Int) (fun s1 Kb1 Kx1=>
 (((decide (s1.2.2<(len s1.1)))=true→
 ((aq s1.2.2 (List.length s1.1))∧
 ((((gI s1.1 s1.2.2)==s1.2.1)=true→
 (K s1.2.2))∧
 (((gI s1.1 s1.2.2)==s1.2.1)=false→
 (Kb1 (s1.1,s1.2.1,(ah s1.2.2 1)))))))∧
 ((decide (s1.2.2<(len s1.1)))=false→
 (Kx1 (s1.1,s1.2.1,s1.2.2)))))
 (p1,p2,0) fun s1=>
 (K (-1)))
def jl (p1:Int) (p2:List Int) (K:(List Int)→Prop):Prop:=
 (((p1 !=(-1))=true→
 (py p2 p1 fun y1=>
 (((decide (y1<0))=true→
 (((List.length p2:Nat)≤2^36)∧
 ((List.length p2+List.length ([p1]:List Int)≤2^36)∧
 (K (p2++[p1])))))∧
 ((decide (y1<0))=false→
 (K p2)))))∧
 ((p1 !=(-1))=false→
 (K p2)))
def jD (p1 p2 p3:List Int) (K:(List Int)→Prop):Prop:=
 (ar (S:=Int×List Int×List Int×List Int×List Int) (fun s1 Kb1 Kx1=>
 (((decide (s1.1<(len s1.2.2.2.1)))=true→
 ((aq s1.1 (List.length s1.2.2.2.1))∧
 (jl (gI s1.2.2.2.1 s1.1) s1.2.2.2.2 fun y2=>
 (Kb1 ((ah s1.1 1),s1.2.1,s1.2.2.1,s1.2.2.2.1,y2)))))∧
 ((decide (s1.1<(len s1.2.2.2.1)))=false→
 (Kx1 (s1.1,s1.2.1,s1.2.2.1,s1.2.2.2.1,s1.2.2.2.2)))))
 (0,p1,p2,p3,[]) fun s1=>
 (ar (S:=Int×List Int×List Int×List Int×List Int) (fun s3 Kb3 Kx3=>
 (((decide (s3.1<(len s3.2.2.2.2)))=true→
 ((aq s3.1 (List.length s3.2.2.2.2))∧
 ((aq (gI s3.2.2.2.2 s3.1) (List.length s3.2.1))∧
 (jl (gI s3.2.1 (gI s3.2.2.2.2 s3.1)) s3.2.2.2.2 fun y4=>
 ((aq s3.1 (List.length y4))∧
 ((aq (gI y4 s3.1) (List.length s3.2.2.1))∧
 (jl (gI s3.2.2.1 (gI y4 s3.1)) y4 fun y5=>
 (Kb3 ((ah s3.1 1),s3.2.1,s3.2.2.1,s3.2.2.2.1,y5)))))))))∧
 ((decide (s3.1<(len s3.2.2.2.2)))=false→
 (Kx3 (s3.1,s3.2.1,s3.2.2.1,s3.2.2.2.1,s3.2.2.2.2)))))
 (0,s1.2.1,s1.2.2.1,s1.2.2.2.1,s1.2.2.2.2) fun s3=>
 (K s3.2.2.2.2)))
def nY (p1 p2 p3:List Int) (K:(List Int)→Prop):Prop:=
 (bO p1 p2 p3 fun y1=>
 (((!y1)=true→
 (K []))∧
 ((!y1)=false→
 (jD p1 p2 p3 fun y2=>
 (K y2)))))
def mF (p1:List Int) (p2:Int) (K:Int→Prop):Prop:=
 (((p2==(-1))=true→
 (K (-1)))∧
 ((p2==(-1))=false→
 (py p1 p2 fun y1=>
 (K y1))))
def l9 (p1 p2 p3:List Int) (K:Bool→(List Int)→(List Int)→(List Int)→(List Int)→Prop):Prop:=
 (bO p1 p2 p3 fun y1=>
 (((!y1)=true→
 (K false [] [] [] []))∧
 ((!y1)=false→
 (jD p1 p2 p3 fun y2=>
 (em (len p1) fun y3=>
 (em (len p1) fun y4=>
 (em (len p1) fun y5=>
 (ar (S:=Int×List Int×List Int×List Int×List Int×List Int×List Int×List Int×List Int×List Int×List Int×List Int) (fun s6 Kb6 Kx6=>
 (((decide (s6.1<(len s6.2.2.2.2.1)))=true→
 ((aq s6.1 (List.length s6.2.2.2.2.1))∧
 ((aq (gI s6.2.2.2.2.1 s6.1) (List.length s6.2.1))∧
 (mF s6.2.2.2.2.1 (gI s6.2.1 (gI s6.2.2.2.2.1 s6.1)) fun y7=>
 ((aq s6.1 (List.length s6.2.2.2.2.2.2.2.2.2.1))∧
 ((aq s6.1 (List.length s6.2.2.2.2.1))∧
 ((aq (gI s6.2.2.2.2.1 s6.1) (List.length s6.2.2.1))∧
 (mF s6.2.2.2.2.1 (gI s6.2.2.1 (gI s6.2.2.2.2.1 s6.1)) fun y8=>
 ((aq s6.1 (List.length s6.2.2.2.2.2.2.2.2.2.2.1))∧
 ((aq s6.1 (List.length s6.2.2.2.2.1))∧
 ((aq (gI s6.2.2.2.2.1 s6.1) (List.length s6.2.2.2.2.2.1))∧
 (Kb6 ((ah s6.1 1),s6.2.1,s6.2.2.1,s6.2.2.2.1,s6.2.2.2.2.1,(uL s6.2.2.2.2.2.1 (gI s6.2.2.2.2.1 s6.1) s6.1),s6.2.2.2.2.2.2.1,s6.2.2.2.2.2.2.2.1,s6.2.2.2.2.2.2.2.2.1,(uL s6.2.2.2.2.2.2.2.2.2.1 s6.1 y7),(uL s6.2.2.2.2.2.2.2.2.2.2.1 s6.1 y8),s6.2.2.2.2.2.2.2.2.2.2.2)))))))))))))∧
 ((decide (s6.1<(len s6.2.2.2.2.1)))=false→
 (Kx6 (s6.1,s6.2.1,s6.2.2.1,s6.2.2.2.1,s6.2.2.2.2.1,s6.2.2.2.2.2.1,s6.2.2.2.2.2.2.1,s6.2.2.2.2.2.2.2.1,s6.2.2.2.2.2.2.2.2.1,s6.2.2.2.2.2.2.2.2.2.1,s6.2.2.2.2.2.2.2.2.2.2.1,s6.2.2.2.2.2.2.2.2.2.2.2)))))
 (0,p1,p2,p3,y2,y5,[],[],[],y3,y4,[]) fun s6=>
 (ar (S:=Int×List Int×List Int×List Int×List Int×List Int×List Int×List Int×List Int×List Int×List Int×List Int) (fun s9 Kb9 Kx9=>
 (((decide (s9.1<(len s9.2.2.2.1)))=true→
 ((aq s9.1 (List.length s9.2.2.2.1))∧
 (mF s9.2.2.2.2.1 (gI s9.2.2.2.1 s9.1) fun y10=>
 ((List.length s9.2.2.2.2.2.2.2.2.2.2.2+List.length ([y10]:List Int)≤2^36)∧
 (Kb9 ((ah s9.1 1),s9.2.1,s9.2.2.1,s9.2.2.2.1,s9.2.2.2.2.1,s9.2.2.2.2.2.1,s9.2.2.2.2.2.2.1,s9.2.2.2.2.2.2.2.1,s9.2.2.2.2.2.2.2.2.1,s9.2.2.2.2.2.2.2.2.2.1,s9.2.2.2.2.2.2.2.2.2.2.1,(s9.2.2.2.2.2.2.2.2.2.2.2++[y10])))))))∧
 ((decide (s9.1<(len s9.2.2.2.1)))=false→
 (Kx9 (s9.1,s9.2.1,s9.2.2.1,s9.2.2.2.1,s9.2.2.2.2.1,s9.2.2.2.2.2.1,s9.2.2.2.2.2.2.1,s9.2.2.2.2.2.2.2.1,s9.2.2.2.2.2.2.2.2.1,s9.2.2.2.2.2.2.2.2.2.1,s9.2.2.2.2.2.2.2.2.2.2.1,s9.2.2.2.2.2.2.2.2.2.2.2)))))
 (0,s6.2.1,s6.2.2.1,s6.2.2.2.1,s6.2.2.2.2.1,s6.2.2.2.2.2.1,s6.2.2.2.2.2.2.1,s6.2.2.2.2.2.2.2.1,s6.2.2.2.2.2.2.2.2.1,s6.2.2.2.2.2.2.2.2.2.1,s6.2.2.2.2.2.2.2.2.2.2.1,s6.2.2.2.2.2.2.2.2.2.2.2) fun s9=>
 (K true s9.2.2.2.2.2.2.2.2.2.1 s9.2.2.2.2.2.2.2.2.2.2.1 s9.2.2.2.2.2.2.2.2.2.2.2 s9.2.2.2.2.2.1))))))))))
def iA (p1:Int) (p2:List Int) (p3:Int) (K:Prop):Prop:=
 (((List.length p2:Nat)≤2^36)∧
 K)
def ee (p1 p2 p3 p4:List Int) (p5:Int) (p6:List Int) (p7:Int) (p8:List aA) (p9:Int) (p10:Bool) (K:Prop):Prop:=
 (cF p1 p2 p3 p4<|
 (iA p5 p6 p7<|
 (((List.length p8:Nat)≤2^36)∧
 K)))
def mf (p1 p2 p3 p4:List Int) (p5 p6 p7:Int) (K:Int→Prop):Prop:=
 (bP p1 p2 p3 p4 fun y1=>
 (((!y1)=true→
 (K (-1)))∧
 ((!y1)=false→
 (eR p5 p6 p7 (len p3) fun y2=>
 (((!y2)=true→
 (K (-1)))∧
 ((!y2)=false→
 (((p5 !=5)=true→
 (((p5 !=6)=true→
 (K (-1)))∧
 ((p5 !=6)=false→
 ((aq p6 (List.length p3))∧
 ((((gI p3 p6)==(-1))=true→
 (K (-1)))∧
 (((gI p3 p6)==(-1))=false→
 ((aq p7 (List.length p3))∧
 (K (gI p3 p7)))))))))∧
 ((p5 !=5)=false→
 ((aq p6 (List.length p3))∧
 ((((gI p3 p6)==(-1))=true→
 (K (-1)))∧
 (((gI p3 p6)==(-1))=false→
 ((aq p7 (List.length p3))∧
 (K (gI p3 p7))))))))))))))
def BZ (p1 p2 p3:Int) (p4 p5 p6 p7:List Int) (K:Int→(List Int)→(List Int)→(List Int)→Prop):Prop:=
 ((aq p2 (List.length p6))∧
 ((aq p3 (List.length p6))∧
 (((p1==2)=true→
 ((aq p2 (List.length p6))∧
 (K 0 p4 p5 (uL p6 p2 (gI p6 p3)))))∧
 ((p1==2)=false→
 (((p1==7)=true→
 ((aq p2 (List.length p6))∧
 (K 0 p4 p5 (uL p6 p2 (-1)))))∧
 ((p1==7)=false→
 (((p1==3)=true→
 ((((gI p6 p3)==(-1))=true→
 (K 2 p4 p5 p6))∧
 (((gI p6 p3)==(-1))=false→
 ((aq (gI p6 p3) (List.length p4))∧
 (((p1==4)=true→
 ((aq (gI p6 p3) (List.length p5))∧
 ((aq p2 (List.length p6))∧
 (K 0 p4 p5 (uL p6 p2 (gI p5 (gI p6 p3)))))))∧
 ((p1==4)=false→
 ((aq p2 (List.length p6))∧
 (K 0 p4 p5 (uL p6 p2 (gI p4 (gI p6 p3)))))))))))∧
 ((p1==3)=false→
 (((p1==4)=true→
 ((((gI p6 p3)==(-1))=true→
 (K 2 p4 p5 p6))∧
 (((gI p6 p3)==(-1))=false→
 ((aq (gI p6 p3) (List.length p4))∧
 (((p1==4)=true→
 ((aq (gI p6 p3) (List.length p5))∧
 ((aq p2 (List.length p6))∧
 (K 0 p4 p5 (uL p6 p2 (gI p5 (gI p6 p3)))))))∧
 ((p1==4)=false→
 ((aq p2 (List.length p6))∧
 (K 0 p4 p5 (uL p6 p2 (gI p4 (gI p6 p3)))))))))))∧
 ((p1==4)=false→
 ((((gI p6 p2)==(-1))=true→
 (K 2 p4 p5 p6))∧
 (((gI p6 p2)==(-1))=false→
 (((p1==5)=true→
 ((aq (gI p6 p2) (List.length p4))∧
 (K 0 (uL p4 (gI p6 p2) (gI p6 p3)) p5 p6)))∧
 ((p1==5)=false→
 ((aq (gI p6 p2) (List.length p5))∧
 (K 0 p4 (uL p5 (gI p6 p2) (gI p6 p3)) p6))))))))))))))))
def kK (p1 p2 p3 p4:List Int) (p5:Int) (K:Int→Bool→(List Int)→(List Int)→(List Int)→(List Int)→Prop):Prop:=
 (bP p1 p2 p3 p4 fun y1=>
 (((!y1)=true→
 (K 0 false [] [] [] []))∧
 ((!y1)=false→
 (((decide (p5<0))=true→
 (K 0 false [] [] [] []))∧
 ((decide (p5<0))=false→
 (((decide (p5≥(len p3)))=true→
 (K 0 false [] [] [] []))∧
 ((decide (p5≥(len p3)))=false→
 ((((len p4)==0)=true→
 (K 0 false [] [] [] []))∧
 (((len p4)==0)=false→
 (cF p1 p2 p3 p4<|
 ((aq 0 (List.length p4))∧
 (((0:Int)≤(1:Int)∧(1:Int)≤(len p4)∧(len p4)≤len p4)∧
 (((List.length (sub p4 (1:Int) (len p4)):Nat)≤2^36)∧
 ((aq p5 (List.length p3))∧
 (K (gI p4 0) true p1 p2 (uL p3 p5 (gI p4 0)) (sub p4 (1:Int) (len p4)))))))))))))))))
def pB (p1 p2 p3 p4:List Int) (p5 p6 p7:Int) (K:Int→Bool→(List Int)→(List Int)→(List Int)→(List Int)→Prop):Prop:=
 (bP p1 p2 p3 p4 fun y1=>
 (((!y1)=true→
 (K 0 false [] [] [] []))∧
 ((!y1)=false→
 (eR p5 p6 p7 (len p3) fun y2=>
 (((!y2)=true→
 (K 0 false [] [] [] []))∧
 ((!y2)=false→
 (((p5 !=1)=true→
 (cF p1 p2 p3 p4<|
 (BZ p5 p6 p7 p1 p2 p3 p4 fun y3 y4 y5 y6=>
 (K y3 true y4 y5 y6 p4))))∧
 ((p5 !=1)=false→
 (kK p1 p2 p3 p4 p6 fun y7 y8 y9 y10 y11 y12=>
 (((!y8)=true→
 (cF p1 p2 p3 p4<|
 (K 1 true p1 p2 p3 p4)))∧
 ((!y8)=false→
 (K 0 true y9 y10 y11 y12))))))))))))
def ix (p1 p2 p3:List Int) (p4:Int) (K:Bool→Prop):Prop:=
 (bO p1 p2 p3 fun y1=>
 ((y1=true→
 (((decide (p4≥0))=true→
 (K (decide (p4<(len p1)))))∧
 ((decide (p4≥0))=false→
 (K false))))∧
 (y1=false→
 (K false))))
def mj (p1 p2 p3 p4:List Int) (p5:Int) (p6:List Int) (p7 p8:Int) (K:Int→Int→Bool→(List Int)→Prop):Prop:=
 (iZ p1 p2 p3 p4 p5 p6 p7 fun y1=>
 (((!y1)=true→
 (K 0 0 false []))∧
 ((!y1)=false→
 (ix p1 p2 p3 p8 fun y2=>
 (((!y2)=true→
 (K 0 0 false []))∧
 ((!y2)=false→
 (iA p5 p6 p7<|
 ((aq p8 (List.length p6))∧
 (((p5==1)=true→
 ((aq p8 (List.length (uL p6 p8 0)))∧
 (K p5 p7 true (uL (uL p6 p8 0) p8 2))))∧
 ((p5==1)=false→
 (((p5==2)=true→
 ((aq p8 (List.length (uL p6 p8 0)))∧
 (K p5 p7 true (uL (uL p6 p8 0) p8 2))))∧
 ((p5==2)=false→
 (((p5==3)=true→
 (((decide (p8≥p7))=true→
 ((aq p8 (List.length (uL p6 p8 0)))∧
 (K p5 p7 true (uL (uL p6 p8 0) p8 2))))∧
 ((decide (p8≥p7))=false→
 (K p5 p7 true (uL p6 p8 0)))))∧
 ((p5==3)=false→
 (K p5 p7 true (uL p6 p8 0))))))))))))))))
def dY (p1:Int) (p2:List Int) (K:(List Int)→Prop):Prop:=
 (((p1 !=(-1))=true→
 ((aq p1 (List.length p2))∧
 ((((gI p2 p1)==0)=true→
 ((aq p1 (List.length p2))∧
 (K (uL p2 p1 1))))∧
 (((gI p2 p1)==0)=false→
 (K p2)))))∧
 ((p1 !=(-1))=false→
 (K p2)))
def la (p1 p2 p3 p4:List Int) (p5:Int) (p6:List Int) (p7 p8:Int) (K:Int→Int→Bool→(List Int)→Prop):Prop:=
 (iZ p1 p2 p3 p4 p5 p6 p7 fun y1=>
 (((!y1)=true→
 (K 0 0 false []))∧
 ((!y1)=false→
 (ix p1 p2 p3 p8 fun y2=>
 (((!y2)=true→
 (K 0 0 false []))∧
 ((!y2)=false→
 (iA p5 p6 p7<|
 (((p5==1)=true→
 (dY p8 p6 fun y3=>
 (K p5 p7 true y3)))∧
 ((p5==1)=false→
 (((p5==2)=true→
 (dY p8 p6 fun y4=>
 (K p5 p7 true y4)))∧
 ((p5==2)=false→
 (K p5 p7 true p6))))))))))))
def kJ (p1 p2 p3 p4:List Int) (p5:Int) (p6:List Int) (p7:Int) (p8:List aA) (p9:Int) (p10 p11:Bool) (K:Int→Int→Int→(List Int)→(List Int)→(List Int)→(List Int)→(List Int)→Prop):Prop:=
 (ee p1 p2 p3 p4 p5 p6 p7 p8 p9 p10<|
 ((aq p9 (List.length p8))∧
 (mf p1 p2 p3 p4 ((gO p8 p9).kind) ((gO p8 p9).a) ((gO p8 p9).b) fun y1=>
 (pB p1 p2 p3 p4 ((gO p8 p9).kind) ((gO p8 p9).a) ((gO p8 p9).b) fun y2 y3 y4 y5 y6 y7=>
 (((y2 !=0)=true→
 (K p5 p7 (ah p9 1) p1 p2 p3 p4 p6))∧
 ((y2 !=0)=false→
 (((((gO p8 p9).kind)==1)=true→
 ((aq ((gO p8 p9).a) (List.length y6))∧
 (mj y4 y5 y6 y7 p5 p6 p7 (gI y6 ((gO p8 p9).a)) fun y8 y9 y10 y11=>
 ((p11=true→
 (((y1 !=(-1))=true→
 (la y4 y5 y6 y7 y8 y11 y9 y1 fun y12 y13 y14 y15=>
 (K y12 y13 (ah p9 1) y4 y5 y6 y7 y15)))∧
 ((y1 !=(-1))=false→
 (K y8 y9 (ah p9 1) y4 y5 y6 y7 y11))))∧
 (p11=false→
 (K y8 y9 (ah p9 1) y4 y5 y6 y7 y11))))))∧
 ((((gO p8 p9).kind)==1)=false→
 ((p11=true→
 (((y1 !=(-1))=true→
 (la y4 y5 y6 y7 p5 p6 p7 y1 fun y16 y17 y18 y19=>
 (K y16 y17 (ah p9 1) y4 y5 y6 y7 y19)))∧
 ((y1 !=(-1))=false→
 (K p5 p7 (ah p9 1) y4 y5 y6 y7 p6))))∧
 (p11=false→
 (K p5 p7 (ah p9 1) y4 y5 y6 y7 p6)))))))))))
def kR (p1 p2 p3 p4:List Int) (p5:Int) (p6:List Int) (p7:Int) (K:Int→Prop):Prop:=
 (((p5==3)=true→
 ((aq p7 (List.length p6))∧
 ((((gI p6 p7)==0)=true→
 (dL p4 p7 fun y1=>
 (((decide (y1<0))=true→
 (K p7))∧
 ((decide (y1<0))=false→
 (K (-1))))))∧
 (((gI p6 p7)==0)=false→
 (K (-1))))))∧
 ((p5==3)=false→
 (K (-1))))
def vq (p1 p2 p3 p4:List Int) (p5:Int) (K:Bool→Prop):Prop:=
 (((p5==(-1))=true→
 (K false))∧
 ((p5==(-1))=false→
 (ir p1 p2 p3 fun y1=>
 ((aq p5 (List.length y1))∧
 (K (gB y1 p5))))))
def jU (p1 p2 p3 p4:Int) (p5:List Int) (K:Int→Int→Prop):Prop:=
 ((((ah p2 1)==p3)=true→
 (K p4 0))∧
 (((ah p2 1)==p3)=false→
 (K p1 (ah p2 1))))
def n4 (p1 p2 p3 p4:List Int) (p5:Int) (K:Int→Prop):Prop:=
 (ar (S:=Int×Int×List Int×List Int×List Int×List Int) (fun s1 Kb1 Kx1=>
 (((decide (s1.2.1<(len s1.2.2.2.2.2)))=true→
 ((aq s1.2.1 (List.length s1.2.2.2.2.2))∧
 ((((gI s1.2.2.2.2.2 s1.2.1)==s1.1)=true→
 (K s1.2.1))∧
 (((gI s1.2.2.2.2.2 s1.2.1)==s1.1)=false→
 (Kb1 (s1.1,(ah s1.2.1 1),s1.2.2.1,s1.2.2.2.1,s1.2.2.2.2.1,s1.2.2.2.2.2))))))∧
 ((decide (s1.2.1<(len s1.2.2.2.2.2)))=false→
 (Kx1 (s1.1,s1.2.1,s1.2.2.1,s1.2.2.2.1,s1.2.2.2.2.1,s1.2.2.2.2.2)))))
 (p5,0,p1,p2,p3,p4) fun s1=>
 (K (-1)))
def nW (p1 p2 p3:List Int) (p4:Int) (p5:List Int) (K:(List Int)→Prop):Prop:=
 ((aq p4 (List.length p1))∧
 (dY (gI p1 p4) p5 fun y1=>
 ((aq p4 (List.length p2))∧
 (dY (gI p2 p4) y1 fun y2=>
 ((aq p4 (List.length y2))∧
 (K (uL y2 p4 2)))))))
def pL (p1 p2 p3 p4:List Int) (p5:Int) (p6:List Int) (p7:Int) (K:Int→Prop):Prop:=
 (ar (S:=Int×List Int×List Int×List Int×List Int×Int×List Int×Int) (fun s1 Kb1 Kx1=>
 (((decide (s1.1<(len s1.2.2.2.1)))=true→
 ((aq s1.1 (List.length s1.2.2.2.1))∧
 ((((gI s1.2.2.2.1 s1.1) !=(-1))=true→
 ((aq (gI s1.2.2.2.1 s1.1) (List.length s1.2.2.2.2.2.2.1))∧
 ((((gI s1.2.2.2.2.2.2.1 (gI s1.2.2.2.1 s1.1))==0)=true→
 (K s1.1))∧
 (((gI s1.2.2.2.2.2.2.1 (gI s1.2.2.2.1 s1.1))==0)=false→
 (Kb1 ((ah s1.1 1),s1.2.1,s1.2.2.1,s1.2.2.2.1,s1.2.2.2.2.1,s1.2.2.2.2.2.1,s1.2.2.2.2.2.2.1,s1.2.2.2.2.2.2.2))))))∧
 (((gI s1.2.2.2.1 s1.1) !=(-1))=false→
 (Kb1 ((ah s1.1 1),s1.2.1,s1.2.2.1,s1.2.2.2.1,s1.2.2.2.2.1,s1.2.2.2.2.2.1,s1.2.2.2.2.2.2.1,s1.2.2.2.2.2.2.2))))))∧
 ((decide (s1.1<(len s1.2.2.2.1)))=false→
 (Kx1 (s1.1,s1.2.1,s1.2.2.1,s1.2.2.2.1,s1.2.2.2.2.1,s1.2.2.2.2.2.1,s1.2.2.2.2.2.2.1,s1.2.2.2.2.2.2.2)))))
 (0,p1,p2,p3,p4,p5,p6,p7) fun s1=>
 (K (-1)))
def qj (p1 p2 p3 p4:List Int) (p5 p6:Int) (p7:List Int) (K:Int→(List Int)→Prop):Prop:=
 (n4 p1 p2 p3 p7 1 fun y1=>
 (((decide (y1≥0))=true→
 (nW p1 p2 p3 y1 p7 fun y2=>
 (K p5 y2)))∧
 ((decide (y1≥0))=false→
 (pL p1 p2 p3 p4 p5 p7 p6 fun y3=>
 (((decide (y3≥0))=true→
 ((aq y3 (List.length p3))∧
 (dY (gI p3 y3) p7 fun y4=>
 (K p5 y4))))∧
 ((decide (y3≥0))=false→
 (K 3 p7)))))))
def nT (p1 p2 p3 p4 p5:List Int) (K:(List Int)→(List Int)→(List Int)→(List Int)→Prop):Prop:=
 (cF p1 p2 p3 p4<|
 (ar (S:=List Int×Int×List Int×List Int×List Int×List Int×List Int×List Int×List Int×List Int) (fun s1 Kb1 Kx1=>
 (((decide (s1.2.1<(len s1.2.2.2.2.2.2.1)))=true→
 (let j14:=fun z12 z13=>
 (Kb1 (s1.1,(ah s1.2.1 1),s1.2.2.1,s1.2.2.2.1,s1.2.2.2.2.1,s1.2.2.2.2.2.1,z12,z13,s1.2.2.2.2.2.2.2.2.1,s1.2.2.2.2.2.2.2.2.2));
 (let j8:=fun z5=>
 ((aq s1.2.1 (List.length s1.2.2.2.2.2.2.2.1))∧
 (dL s1.1 (gI s1.2.2.2.2.2.2.2.1 s1.2.1) fun y6=>
 (((decide (y6≥0))=true→
 ((aq s1.2.1 (List.length s1.2.2.2.2.2.2.2.1))∧
 (j14 z5 (uL s1.2.2.2.2.2.2.2.1 s1.2.1 (-1)))))∧
 ((decide (y6≥0))=false→
 (dL s1.1 s1.2.1 fun y7=>
 (((decide (y7≥0))=true→
 ((aq s1.2.1 (List.length s1.2.2.2.2.2.2.2.1))∧
 (j14 z5 (uL s1.2.2.2.2.2.2.2.1 s1.2.1 (-1)))))∧
 ((decide (y7≥0))=false→
 (j14 z5 s1.2.2.2.2.2.2.2.1))))))));
 ((aq s1.2.1 (List.length s1.2.2.2.2.2.2.1))∧
 (dL s1.1 (gI s1.2.2.2.2.2.2.1 s1.2.1) fun y2=>
 (((decide (y2≥0))=true→
 ((aq s1.2.1 (List.length s1.2.2.2.2.2.2.1))∧
 (j8 (uL s1.2.2.2.2.2.2.1 s1.2.1 (-1)))))∧
 ((decide (y2≥0))=false→
 (dL s1.1 s1.2.1 fun y3=>
 (((decide (y3≥0))=true→
 ((aq s1.2.1 (List.length s1.2.2.2.2.2.2.1))∧
 (j8 (uL s1.2.2.2.2.2.2.1 s1.2.1 (-1)))))∧
 ((decide (y3≥0))=false→
 (j8 s1.2.2.2.2.2.2.1)))))))))))∧
 ((decide (s1.2.1<(len s1.2.2.2.2.2.2.1)))=false→
 (Kx1 (s1.1,s1.2.1,s1.2.2.1,s1.2.2.2.1,s1.2.2.2.2.1,s1.2.2.2.2.2.1,s1.2.2.2.2.2.2.1,s1.2.2.2.2.2.2.2.1,s1.2.2.2.2.2.2.2.2.1,s1.2.2.2.2.2.2.2.2.2)))))
 (p5,0,[],[],[],[],p1,p2,p3,p4) fun s1=>
 ((List.length s1.2.2.2.2.2.2.2.2.2+List.length s1.1≤2^36)∧
 (K s1.2.2.2.2.2.2.1 s1.2.2.2.2.2.2.2.1 s1.2.2.2.2.2.2.2.2.1 (s1.2.2.2.2.2.2.2.2.2++s1.1)))))
def pS (p1 p2 p3 p4:List Int) (p5:Int) (p6:List Int) (p7:Int) (K:Int→Int→(List Int)→(List Int)→(List Int)→(List Int)→(List Int)→Prop):Prop:=
 (iA p5 p6 p7<|
 (((p5==0)=true→
 (cF p1 p2 p3 p4<|
 ((0≤(len p6)∧(len p6)=(len p6)∧(len p6)≤2^36)∧
 (K 1 0 p1 p2 p3 p4 (List.replicate (Int.toNat (len p6)) (0:Int))))))∧
 ((p5==0)=false→
 (((p5==1)=true→
 ((aq p7 (List.length p3))∧
 (dY (gI p3 p7) p6 fun y1=>
 (cF p1 p2 p3 p4<|
 (jU p5 p7 (len p3) 2 y1 fun y2 y3=>
 (K y2 y3 p1 p2 p3 p4 y1))))))∧
 ((p5==1)=false→
 (((p5==2)=true→
 (cF p1 p2 p3 p4<|
 (qj p1 p2 p3 p4 p5 p7 p6 fun y4 y5=>
 (K y4 p7 p1 p2 p3 p4 y5))))∧
 ((p5==2)=false→
 (kR p1 p2 p3 p4 p5 p6 p7 fun y6=>
 (cF p1 p2 p3 p4<|
 (((y6 !=(-1))=true→
 (nT p1 p2 p3 p4 [y6] fun y7 y8 y9 y10=>
 ((aq p7 (List.length p6))∧
 (jU p5 p7 (len p6) 0 (uL p6 p7 0) fun y11 y12=>
 (K y11 y12 y7 y8 y9 y10 (uL p6 p7 0))))))∧
 ((y6 !=(-1))=false→
 ((aq p7 (List.length p6))∧
 (jU p5 p7 (len p6) 0 (uL p6 p7 0) fun y13 y14=>
 (K y13 y14 p1 p2 p3 p4 (uL p6 p7 0)))))))))))))))
def kV (p1 p2 p3 p4:List Int) (p5:Int) (p6:List Int) (p7:Int) (p8:List aA) (p9:Int) (p10:Bool) (K:Int→Int→Bool→(List Int)→(List Int)→(List Int)→(List Int)→(List Int)→Prop):Prop:=
 (ee p1 p2 p3 p4 p5 p6 p7 p8 p9 p10<|
 (kR p1 p2 p3 p4 p5 p6 p7 fun y1=>
 (vq p1 p2 p3 p4 y1 fun y2=>
 ((y2=true→
 (K p5 p7 true p1 p2 p3 p4 p6))∧
 (y2=false→
 (pS p1 p2 p3 p4 p5 p6 p7 fun y3 y4 y5 y6 y7 y8 y9=>
 (K y3 y4 p10 y5 y6 y7 y8 y9)))))))
def jH (p1 p2 p3 p4:List Int) (p5:Int) (p6:List Int) (p7:Int) (p8:List aA) (p9:Int) (p10 p11:Bool) (K:Int→Int→Int→Bool→Bool→(List Int)→(List Int)→(List Int)→(List Int)→(List Int)→(List aA)→Prop):Prop:=
 (eb p1 p2 p3 p4 p5 p6 p7 p8 p9 p10 fun y1=>
 (((!y1)=true→
 (K 0 0 0 false false [] [] [] [] [] []))∧
 ((!y1)=false→
 (ee p1 p2 p3 p4 p5 p6 p7 p8 p9 p10<|
 (ar (S:=Bool×Int×Int×Int×Bool×Int×Int×Int×Bool×List Int×List Int×List Int×List Int×List Int×List aA×List Int×List Int×List Int×List Int×List Int×List aA) (fun s2 Kb2 Kx2=>
 (let v3:Bool:=(decide (s2.2.2.2.2.2.2.2.1<(len s2.2.2.2.2.2.2.2.2.2.2.2.2.2.2.2.2.2.2.2.2)));
 ((v3=true→
 (((!s2.2.2.2.2.2.2.2.2.1)=true→
 (kJ s2.2.2.2.2.2.2.2.2.2.2.2.2.2.2.2.1 s2.2.2.2.2.2.2.2.2.2.2.2.2.2.2.2.2.1 s2.2.2.2.2.2.2.2.2.2.2.2.2.2.2.2.2.2.1 s2.2.2.2.2.2.2.2.2.2.2.2.2.2.2.2.2.2.2.1 s2.2.2.2.2.2.1 s2.2.2.2.2.2.2.2.2.2.2.2.2.2.2.2.2.2.2.2.1 s2.2.2.2.2.2.2.1 s2.2.2.2.2.2.2.2.2.2.2.2.2.2.2.2.2.2.2.2.2 s2.2.2.2.2.2.2.2.1 s2.2.2.2.2.2.2.2.2.1 s2.1 fun y4 y5 y6 y7 y8 y9 y10 y11=>
 (Kb2 (s2.1,s2.2.1,s2.2.2.1,s2.2.2.2.1,s2.2.2.2.2.1,y4,y5,y6,s2.2.2.2.2.2.2.2.2.1,s2.2.2.2.2.2.2.2.2.2.1,s2.2.2.2.2.2.2.2.2.2.2.1,s2.2.2.2.2.2.2.2.2.2.2.2.1,s2.2.2.2.2.2.2.2.2.2.2.2.2.1,s2.2.2.2.2.2.2.2.2.2.2.2.2.2.1,s2.2.2.2.2.2.2.2.2.2.2.2.2.2.2.1,y7,y8,y9,y10,y11,s2.2.2.2.2.2.2.2.2.2.2.2.2.2.2.2.2.2.2.2.2))))∧
 ((!s2.2.2.2.2.2.2.2.2.1)=false→
 (Kx2 (s2.1,s2.2.1,s2.2.2.1,s2.2.2.2.1,s2.2.2.2.2.1,s2.2.2.2.2.2.1,s2.2.2.2.2.2.2.1,s2.2.2.2.2.2.2.2.1,s2.2.2.2.2.2.2.2.2.1,s2.2.2.2.2.2.2.2.2.2.1,s2.2.2.2.2.2.2.2.2.2.2.1,s2.2.2.2.2.2.2.2.2.2.2.2.1,s2.2.2.2.2.2.2.2.2.2.2.2.2.1,s2.2.2.2.2.2.2.2.2.2.2.2.2.2.1,s2.2.2.2.2.2.2.2.2.2.2.2.2.2.2.1,s2.2.2.2.2.2.2.2.2.2.2.2.2.2.2.2.1,s2.2.2.2.2.2.2.2.2.2.2.2.2.2.2.2.2.1,s2.2.2.2.2.2.2.2.2.2.2.2.2.2.2.2.2.2.1,s2.2.2.2.2.2.2.2.2.2.2.2.2.2.2.2.2.2.2.1,s2.2.2.2.2.2.2.2.2.2.2.2.2.2.2.2.2.2.2.2.1,s2.2.2.2.2.2.2.2.2.2.2.2.2.2.2.2.2.2.2.2.2)))))∧
 (v3=false→
 (Kx2 (s2.1,s2.2.1,s2.2.2.1,s2.2.2.2.1,s2.2.2.2.2.1,s2.2.2.2.2.2.1,s2.2.2.2.2.2.2.1,s2.2.2.2.2.2.2.2.1,s2.2.2.2.2.2.2.2.2.1,s2.2.2.2.2.2.2.2.2.2.1,s2.2.2.2.2.2.2.2.2.2.2.1,s2.2.2.2.2.2.2.2.2.2.2.2.1,s2.2.2.2.2.2.2.2.2.2.2.2.2.1,s2.2.2.2.2.2.2.2.2.2.2.2.2.2.1,s2.2.2.2.2.2.2.2.2.2.2.2.2.2.2.1,s2.2.2.2.2.2.2.2.2.2.2.2.2.2.2.2.1,s2.2.2.2.2.2.2.2.2.2.2.2.2.2.2.2.2.1,s2.2.2.2.2.2.2.2.2.2.2.2.2.2.2.2.2.2.1,s2.2.2.2.2.2.2.2.2.2.2.2.2.2.2.2.2.2.2.1,s2.2.2.2.2.2.2.2.2.2.2.2.2.2.2.2.2.2.2.2.1,s2.2.2.2.2.2.2.2.2.2.2.2.2.2.2.2.2.2.2.2.2))))))
 (p11,0,0,0,false,p5,p7,p9,p10,[],[],[],[],[],[],p1,p2,p3,p4,p6,p8) fun s2=>
 (ar (S:=Int×Int×Int×Int×Bool×Int×Int×Int×Bool×List Int×List Int×List Int×List Int×List Int×List aA×List Int×List Int×List Int×List Int×List Int×List aA) (fun s12 Kb12 Kx12=>
 (((decide (s12.1<2))=true→
 (((!s12.2.2.2.2.2.2.2.2.1)=true→
 (kV s12.2.2.2.2.2.2.2.2.2.2.2.2.2.2.2.1 s12.2.2.2.2.2.2.2.2.2.2.2.2.2.2.2.2.1 s12.2.2.2.2.2.2.2.2.2.2.2.2.2.2.2.2.2.1 s12.2.2.2.2.2.2.2.2.2.2.2.2.2.2.2.2.2.2.1 s12.2.2.2.2.2.1 s12.2.2.2.2.2.2.2.2.2.2.2.2.2.2.2.2.2.2.2.1 s12.2.2.2.2.2.2.1 s12.2.2.2.2.2.2.2.2.2.2.2.2.2.2.2.2.2.2.2.2 s12.2.2.2.2.2.2.2.1 s12.2.2.2.2.2.2.2.2.1 fun y13 y14 y15 y16 y17 y18 y19 y20=>
 (((y13==0)=true→
 (Kb12 ((ah s12.1 1),s12.2.1,s12.2.2.1,s12.2.2.2.1,s12.2.2.2.2.1,y13,y14,s12.2.2.2.2.2.2.2.1,y15,s12.2.2.2.2.2.2.2.2.2.1,s12.2.2.2.2.2.2.2.2.2.2.1,s12.2.2.2.2.2.2.2.2.2.2.2.1,s12.2.2.2.2.2.2.2.2.2.2.2.2.1,s12.2.2.2.2.2.2.2.2.2.2.2.2.2.1,s12.2.2.2.2.2.2.2.2.2.2.2.2.2.2.1,y16,y17,y18,y19,y20,s12.2.2.2.2.2.2.2.2.2.2.2.2.2.2.2.2.2.2.2.2)))∧
 ((y13==0)=false→
 (Kb12 (s12.1,s12.2.1,s12.2.2.1,s12.2.2.2.1,s12.2.2.2.2.1,y13,y14,s12.2.2.2.2.2.2.2.1,y15,s12.2.2.2.2.2.2.2.2.2.1,s12.2.2.2.2.2.2.2.2.2.2.1,s12.2.2.2.2.2.2.2.2.2.2.2.1,s12.2.2.2.2.2.2.2.2.2.2.2.2.1,s12.2.2.2.2.2.2.2.2.2.2.2.2.2.1,s12.2.2.2.2.2.2.2.2.2.2.2.2.2.2.1,y16,y17,y18,y19,y20,s12.2.2.2.2.2.2.2.2.2.2.2.2.2.2.2.2.2.2.2.2))))))∧
 ((!s12.2.2.2.2.2.2.2.2.1)=false→
 (Kx12 (s12.1,s12.2.1,s12.2.2.1,s12.2.2.2.1,s12.2.2.2.2.1,s12.2.2.2.2.2.1,s12.2.2.2.2.2.2.1,s12.2.2.2.2.2.2.2.1,s12.2.2.2.2.2.2.2.2.1,s12.2.2.2.2.2.2.2.2.2.1,s12.2.2.2.2.2.2.2.2.2.2.1,s12.2.2.2.2.2.2.2.2.2.2.2.1,s12.2.2.2.2.2.2.2.2.2.2.2.2.1,s12.2.2.2.2.2.2.2.2.2.2.2.2.2.1,s12.2.2.2.2.2.2.2.2.2.2.2.2.2.2.1,s12.2.2.2.2.2.2.2.2.2.2.2.2.2.2.2.1,s12.2.2.2.2.2.2.2.2.2.2.2.2.2.2.2.2.1,s12.2.2.2.2.2.2.2.2.2.2.2.2.2.2.2.2.2.1,s12.2.2.2.2.2.2.2.2.2.2.2.2.2.2.2.2.2.2.1,s12.2.2.2.2.2.2.2.2.2.2.2.2.2.2.2.2.2.2.2.1,s12.2.2.2.2.2.2.2.2.2.2.2.2.2.2.2.2.2.2.2.2)))))∧
 ((decide (s12.1<2))=false→
 (Kx12 (s12.1,s12.2.1,s12.2.2.1,s12.2.2.2.1,s12.2.2.2.2.1,s12.2.2.2.2.2.1,s12.2.2.2.2.2.2.1,s12.2.2.2.2.2.2.2.1,s12.2.2.2.2.2.2.2.2.1,s12.2.2.2.2.2.2.2.2.2.1,s12.2.2.2.2.2.2.2.2.2.2.1,s12.2.2.2.2.2.2.2.2.2.2.2.1,s12.2.2.2.2.2.2.2.2.2.2.2.2.1,s12.2.2.2.2.2.2.2.2.2.2.2.2.2.1,s12.2.2.2.2.2.2.2.2.2.2.2.2.2.2.1,s12.2.2.2.2.2.2.2.2.2.2.2.2.2.2.2.1,s12.2.2.2.2.2.2.2.2.2.2.2.2.2.2.2.2.1,s12.2.2.2.2.2.2.2.2.2.2.2.2.2.2.2.2.2.1,s12.2.2.2.2.2.2.2.2.2.2.2.2.2.2.2.2.2.2.1,s12.2.2.2.2.2.2.2.2.2.2.2.2.2.2.2.2.2.2.2.1,s12.2.2.2.2.2.2.2.2.2.2.2.2.2.2.2.2.2.2.2.2)))))
 (0,s2.2.1,s2.2.2.1,s2.2.2.2.1,s2.2.2.2.2.1,s2.2.2.2.2.2.1,s2.2.2.2.2.2.2.1,s2.2.2.2.2.2.2.2.1,s2.2.2.2.2.2.2.2.2.1,s2.2.2.2.2.2.2.2.2.2.1,s2.2.2.2.2.2.2.2.2.2.2.1,s2.2.2.2.2.2.2.2.2.2.2.2.1,s2.2.2.2.2.2.2.2.2.2.2.2.2.1,s2.2.2.2.2.2.2.2.2.2.2.2.2.2.1,s2.2.2.2.2.2.2.2.2.2.2.2.2.2.2.1,s2.2.2.2.2.2.2.2.2.2.2.2.2.2.2.2.1,s2.2.2.2.2.2.2.2.2.2.2.2.2.2.2.2.2.1,s2.2.2.2.2.2.2.2.2.2.2.2.2.2.2.2.2.2.1,s2.2.2.2.2.2.2.2.2.2.2.2.2.2.2.2.2.2.2.1,s2.2.2.2.2.2.2.2.2.2.2.2.2.2.2.2.2.2.2.2.1,s2.2.2.2.2.2.2.2.2.2.2.2.2.2.2.2.2.2.2.2.2) fun s12=>
 (K s12.2.2.2.2.2.1 s12.2.2.2.2.2.2.1 s12.2.2.2.2.2.2.2.1 s12.2.2.2.2.2.2.2.2.1 true s12.2.2.2.2.2.2.2.2.2.2.2.2.2.2.2.1 s12.2.2.2.2.2.2.2.2.2.2.2.2.2.2.2.2.1 s12.2.2.2.2.2.2.2.2.2.2.2.2.2.2.2.2.2.1 s12.2.2.2.2.2.2.2.2.2.2.2.2.2.2.2.2.2.2.1 s12.2.2.2.2.2.2.2.2.2.2.2.2.2.2.2.2.2.2.2.1 s12.2.2.2.2.2.2.2.2.2.2.2.2.2.2.2.2.2.2.2.2)))))))
def qB (p1 p2 p3 p4:List Int) (p5:Int) (p6:List Int) (p7:Int) (p8:List aA) (p9:Int) (p10:Bool) (p11:Int) (p12:Bool) (K:Int→Int→Int→Bool→Bool→(List Int)→(List Int)→(List Int)→(List Int)→(List Int)→(List aA)→Prop):Prop:=
 (let j17:Prop:=
 (((p11==111)=true→
 (kJ p1 p2 p3 p4 p5 p6 p7 p8 p9 p10 p12 fun y1 y2 y3 y4 y5 y6 y7 y8=>
 (K y1 y2 y3 p10 true y4 y5 y6 y7 y8 p8)))∧
 ((p11==111)=false→
 (kV p1 p2 p3 p4 p5 p6 p7 p8 p9 p10 fun y9 y10 y11 y12 y13 y14 y15 y16=>
 (K y9 y10 p9 y11 true y12 y13 y14 y15 y16 p8))));
 ((p10=true→
 (K 0 0 0 false false [] [] [] [] [] []))∧
 (p10=false→
 (((p11==111)=true→
 (((p9==(len p8))=true→
 (K 0 0 0 false false [] [] [] [] [] []))∧
 ((p9==(len p8))=false→
 j17)))∧
 ((p11==111)=false→
 j17)))))
def fS (p1 p2:List Int) (K:Bool→Prop):Prop:=
 ((((len p1) !=(len p2))=true→
 (K false))∧
 (((len p1) !=(len p2))=false→
 (ar (S:=List Int×List Int×Int) (fun s1 Kb1 Kx1=>
 (((decide (s1.2.2<(len s1.1)))=true→
 ((aq s1.2.2 (List.length s1.1))∧
 ((aq s1.2.2 (List.length s1.2.1))∧
 ((((gI s1.1 s1.2.2) !=(gI s1.2.1 s1.2.2))=true→
 (K false))∧
 (((gI s1.1 s1.2.2) !=(gI s1.2.1 s1.2.2))=false→
 (Kb1 (s1.1,s1.2.1,(ah s1.2.2 1))))))))∧
 ((decide (s1.2.2<(len s1.1)))=false→
 (Kx1 (s1.1,s1.2.1,s1.2.2)))))
 (p1,p2,0) fun s1=>
 (K true))))
def qe (p1:Int) (p2:List Int) (p3 p4:Int) (p5:List Int) (p6:Int) (K:Bool→Prop):Prop:=
 (((p1==p4)=true→
 (((p3==p6)=true→
 (fS p2 p5 fun y1=>
 (K y1)))∧
 ((p3==p6)=false→
 (K false))))∧
 ((p1==p4)=false→
 (K false)))
def l4 (p1 p2 p3 p4 p5 p6:List Int) (K:Bool→Prop):Prop:=
 (fS p1 p4 fun y1=>
 ((y1=true→
 (fS p2 p5 fun y2=>
 ((y2=true→
 (fS p3 p6 fun y3=>
 (K y3)))∧
 (y2=false→
 (K false)))))∧
 (y1=false→
 (K false))))
def lx (p1 p2 p3 p4 p5 p6 p7 p8:List Int) (K:Bool→Prop):Prop:=
 (l4 p1 p2 p3 p5 p6 p7 fun y1=>
 ((y1=true→
 (fS p4 p8 fun y2=>
 (K y2)))∧
 (y1=false→
 (K false))))
def pI (p1:List ax) (p2 p3 p4 p5:List Int) (p6:Int) (p7:List Int) (p8:Int) (p9:List aA) (p10:Int) (p11:Bool) (K:Int→Prop):Prop:=
 (ar (S:=List ax×Int×List Int×List Int×List Int×List Int×Int×List Int×Int×List aA×Int×Bool) (fun s1 Kb1 Kx1=>
 (((decide (s1.2.1<(len s1.1)))=true→
 (let j4:Prop:=
 (Kb1 (s1.1,(ah s1.2.1 1),s1.2.2.1,s1.2.2.2.1,s1.2.2.2.2.1,s1.2.2.2.2.2.1,s1.2.2.2.2.2.2.1,s1.2.2.2.2.2.2.2.1,s1.2.2.2.2.2.2.2.2.1,s1.2.2.2.2.2.2.2.2.2.1,s1.2.2.2.2.2.2.2.2.2.2.1,s1.2.2.2.2.2.2.2.2.2.2.2));
 ((aq s1.2.1 (List.length s1.1))∧
 (((((gN s1.1 s1.2.1).b.pos)==s1.2.2.2.2.2.2.2.2.2.2.1)=true→
 (((((gN s1.1 s1.2.1).b.lost)==s1.2.2.2.2.2.2.2.2.2.2.2)=true→
 (qe ((gN s1.1 s1.2.1).b.g.phase) ((gN s1.1 s1.2.1).b.g.color) ((gN s1.1 s1.2.1).b.g.pos) s1.2.2.2.2.2.2.1 s1.2.2.2.2.2.2.2.1 s1.2.2.2.2.2.2.2.2.1 fun y2=>
 ((y2=true→
 (lx ((gN s1.1 s1.2.1).b.s.h.l) ((gN s1.1 s1.2.1).b.s.h.r) ((gN s1.1 s1.2.1).b.s.h.ro) ((gN s1.1 s1.2.1).b.s.free) s1.2.2.1 s1.2.2.2.1 s1.2.2.2.2.1 s1.2.2.2.2.2.1 fun y3=>
 ((y3=true→
 (K s1.2.1))∧
 (y3=false→
 j4))))∧
 (y2=false→
 j4))))∧
 ((((gN s1.1 s1.2.1).b.lost)==s1.2.2.2.2.2.2.2.2.2.2.2)=false→
 j4)))∧
 ((((gN s1.1 s1.2.1).b.pos)==s1.2.2.2.2.2.2.2.2.2.2.1)=false→
 j4)))))∧
 ((decide (s1.2.1<(len s1.1)))=false→
 (Kx1 (s1.1,s1.2.1,s1.2.2.1,s1.2.2.2.1,s1.2.2.2.2.1,s1.2.2.2.2.2.1,s1.2.2.2.2.2.2.1,s1.2.2.2.2.2.2.2.1,s1.2.2.2.2.2.2.2.2.1,s1.2.2.2.2.2.2.2.2.2.1,s1.2.2.2.2.2.2.2.2.2.2.1,s1.2.2.2.2.2.2.2.2.2.2.2)))))
 (p1,0,p2,p3,p4,p5,p6,p7,p8,p9,p10,p11) fun s1=>
 (K (-1)))
def oM (p1 p2 p3 p4:List Int) (p5:Int) (p6:List Int) (p7:Int) (p8:List aA) (p9:Int) (p10 p11:Bool) (K:Bool→(List ax)→Prop):Prop:=
 (eb p1 p2 p3 p4 p5 p6 p7 p8 p9 p10 fun y1=>
 (((!y1)=true→
 (K false []))∧
 ((!y1)=false→
 (ee p1 p2 p3 p4 p5 p6 p7 p8 p9 p10<|
 (ar (S:=Bool×Int×List ax×List Int) (fun s2 Kb2 Kx2=>
 (((decide (s2.2.1<(len s2.2.2.1)))=true→
 (ar (S:=Bool×Int×Int×List ax×List Int) (fun s3 Kb3 Kx3=>
 (((decide (s3.2.2.1<2))=true→
 ((aq s3.2.1 (List.length s3.2.2.2.1))∧
 ((aq s3.2.2.1 (List.length s3.2.2.2.2))∧
 (qB ((gN s3.2.2.2.1 s3.2.1).b.s.h.l) ((gN s3.2.2.2.1 s3.2.1).b.s.h.r) ((gN s3.2.2.2.1 s3.2.1).b.s.h.ro) ((gN s3.2.2.2.1 s3.2.1).b.s.free) ((gN s3.2.2.2.1 s3.2.1).b.g.phase) ((gN s3.2.2.2.1 s3.2.1).b.g.color) ((gN s3.2.2.2.1 s3.2.1).b.g.pos) ((gN s3.2.2.2.1 s3.2.1).b.ops) ((gN s3.2.2.2.1 s3.2.1).b.pos) ((gN s3.2.2.2.1 s3.2.1).b.lost) (gY s3.2.2.2.2 s3.2.2.1) s3.1 fun y4 y5 y6 y7 y8 y9 y10 y11 y12 y13 y14=>
 (((!y8)=true→
 (Kb3 (s3.1,s3.2.1,(ah s3.2.2.1 1),s3.2.2.2.1,s3.2.2.2.2)))∧
 ((!y8)=false→
 (pI s3.2.2.2.1 y9 y10 y11 y12 y4 y13 y5 y14 y6 y7 fun y15=>
 (((decide (y15≥0))=true→
 (Kb3 (s3.1,s3.2.1,(ah s3.2.2.1 1),s3.2.2.2.1,s3.2.2.2.2)))∧
 ((decide (y15≥0))=false→
 ((((len s3.2.2.2.1)==400)=true→
 (K false []))∧
 (((len s3.2.2.2.1)==400)=false→
 ((aq s3.2.1 (List.length s3.2.2.2.1))∧
 ((aq s3.2.2.1 (List.length s3.2.2.2.2))∧
 ((0<List.length [(gY s3.2.2.2.2 s3.2.2.1)])∧
 ((List.length ((gN s3.2.2.2.1 s3.2.1).road)+List.length (aI [(gY s3.2.2.2.2 s3.2.2.1)])≤2^62)∧
 (let v16:List UInt8:=(((gN s3.2.2.2.1 s3.2.1).road)++(aI [(gY s3.2.2.2.2 s3.2.2.1)]));
 ((List.length s3.2.2.2.1+List.length ([(ax.mk (av.mk (aB.mk (rf.mk y9 y10 y11) y12) (lu.mk y4 y13 y5) y14 y6 y7) v16)]:List ax)≤2^36)∧
 (let v17:List ax:=(s3.2.2.2.1++[(ax.mk (av.mk (aB.mk (rf.mk y9 y10 y11) y12) (lu.mk y4 y13 y5) y14 y6 y7) v16)]);
 (Kb3 (s3.1,s3.2.1,(ah s3.2.2.1 1),v17,s3.2.2.2.2))))))))))))))))))))∧
 ((decide (s3.2.2.1<2))=false→
 (Kx3 (s3.1,s3.2.1,s3.2.2.1,s3.2.2.2.1,s3.2.2.2.2)))))
 (s2.1,s2.2.1,0,s2.2.2.1,s2.2.2.2) fun s3=>
 (Kb2 (s3.1,(ah s3.2.1 1),s3.2.2.2.1,s3.2.2.2.2))))∧
 ((decide (s2.2.1<(len s2.2.2.1)))=false→
 (Kx2 (s2.1,s2.2.1,s2.2.2.1,s2.2.2.2)))))
 (p11,0,[(ax.mk (av.mk (aB.mk (rf.mk p1 p2 p3) p4) (lu.mk p5 p6 p7) p8 p9 p10) ([]:List UInt8))],[103,111]) fun s2=>
 (K true s2.2.2.1))))))
def og (p1 p2 p3 p4:List Int) (p5:Int) (p6:List Int) (p7:Int) (p8:List aA) (p9:Int) (p10 p11:Bool) (K:Bool→Bool→Prop):Prop:=
 (oM p1 p2 p3 p4 p5 p6 p7 p8 p9 p10 p11 fun y1 y2=>
 (ar (S:=Bool×Int×List ax) (fun s3 Kb3 Kx3=>
 (((decide (s3.2.1<(len s3.2.2)))=true→
 ((aq s3.2.1 (List.length s3.2.2))∧
 (((gN s3.2.2 s3.2.1).b.lost=true→
 (K true true))∧
 ((gN s3.2.2 s3.2.1).b.lost=false→
 (Kb3 (s3.1,(ah s3.2.1 1),s3.2.2))))))∧
 ((decide (s3.2.1<(len s3.2.2)))=false→
 (Kx3 (s3.1,s3.2.1,s3.2.2)))))
 (y1,0,y2) fun s3=>
 (K false s3.1)))
def kU (p1 p2 p3 p4:List Int) (p5:Int) (p6:List Int) (p7:Int) (p8:List aA) (p9:Int) (p10 p11:Bool) (K:(List UInt8)→Bool→Prop):Prop:=
 (oM p1 p2 p3 p4 p5 p6 p7 p8 p9 p10 p11 fun y1 y2=>
 (ar (S:=Int×List ax) (fun s3 Kb3 Kx3=>
 (((decide (s3.1<(len s3.2)))=true→
 ((aq s3.1 (List.length s3.2))∧
 (((gN s3.2 s3.1).b.lost=true→
 ((aq s3.1 (List.length s3.2))∧
 (K ((gN s3.2 s3.1).road) true)))∧
 ((gN s3.2 s3.1).b.lost=false→
 (Kb3 ((ah s3.1 1),s3.2))))))∧
 ((decide (s3.1<(len s3.2)))=false→
 (Kx3 (s3.1,s3.2)))))
 (0,y2) fun s3=>
 (K ([]:List UInt8) false)))
def nB (p1 p2 p3:Int) (p4 p5:Bool) (p6:List UInt8) (p7 p8 p9 p10 p11:List Int) (p12:List aA) (K:Int→Int→Int→Bool→(List UInt8)→(List Int)→(List Int)→(List Int)→(List Int)→(List Int)→(List aA)→Prop):Prop:=
 (((p6==[115,104,111,119])=true→
 (eE p7 p8 p9 p10 p1 p11 p2 p12 p3 p4 fun y1=>
 ((List.length y1+List.length [10]≤2^62)∧
 (K p1 p2 p3 p4 (y1++[10]) p7 p8 p9 p10 p11 p12))))∧
 ((p6==[115,104,111,119])=false→
 (((p6==[115,116,111,114,101])=true→
 (fe p7 p8 p9 p10 fun y2=>
 ((List.length y2+List.length [10]≤2^62)∧
 (K p1 p2 p3 p4 (y2++[10]) p7 p8 p9 p10 p11 p12))))∧
 ((p6==[115,116,111,114,101])=false→
 (((p6==[103,97,114,98,97,103,101])=true→
 (im p7 p8 p9 fun y3=>
 (dZ [103,97,114,98,97,103,101] y3 fun y4=>
 (K p1 p2 p3 p4 y4 p7 p8 p9 p10 p11 p12))))∧
 ((p6==[103,97,114,98,97,103,101])=false→
 (((p6==[108,101,97,107,101,100])=true→
 (mt p7 p8 p9 p10 fun y5=>
 (dZ [108,101,97,107,101,100] y5 fun y6=>
 (K p1 p2 p3 p4 y6 p7 p8 p9 p10 p11 p12))))∧
 ((p6==[108,101,97,107,101,100])=false→
 (((p6==[99,111,117,110,116,115])=true→
 (mI p7 p8 p9 fun y7=>
 (dZ [99,111,117,110,116,115] y7 fun y8=>
 (K p1 p2 p3 p4 y8 p7 p8 p9 p10 p11 p12))))∧
 ((p6==[99,111,117,110,116,115])=false→
 (((p6==[111,114,100,101,114])=true→
 (nY p7 p8 p9 fun y9=>
 (dZ [111,114,100,101,114] y9 fun y10=>
 (K p1 p2 p3 p4 y10 p7 p8 p9 p10 p11 p12))))∧
 ((p6==[111,114,100,101,114])=false→
 (((p6==[99,111,112,121])=true→
 (l9 p7 p8 p9 fun y11 y12 y13 y14 y15=>
 (gj y12 y13 y14 fun y16=>
 ((List.length y16+List.length [10]≤2^62)∧
 (K p1 p2 p3 p4 (y16++[10]) p7 p8 p9 p10 p11 p12)))))∧
 ((p6==[99,111,112,121])=false→
 (((p6==[102,105,110,105,115,104])=true→
 (jH p7 p8 p9 p10 p1 p11 p2 p12 p3 p4 p5 fun y17 y18 y19 y20 y21 y22 y23 y24 y25 y26 y27=>
 (eE y22 y23 y24 y25 y17 y26 y18 y27 y19 y20 fun y28=>
 ((List.length y28+List.length [10]≤2^62)∧
 (K y17 y18 y19 y20 (y28++[10]) y22 y23 y24 y25 y26 y27)))))∧
 ((p6==[102,105,110,105,115,104])=false→
 (((p6==[108,111,115,101])=true→
 (og p7 p8 p9 p10 p1 p11 p2 p12 p3 p4 p5 fun y29 y30=>
 (kU p7 p8 p9 p10 p1 p11 p2 p12 p3 p4 p5 fun y31 y32=>
 (((!y30)=true→
 (K p1 p2 p3 p4 [117,110,107,110,111,119,110,10] p7 p8 p9 p10 p11 p12))∧
 ((!y30)=false→
 ((y29=true→
 ((List.length [108,111,115,101,32]+List.length y31≤2^62)∧
 ((List.length ([108,111,115,101,32]++y31)+List.length [10]≤2^62)∧
 (K p1 p2 p3 p4 (([108,111,115,101,32]++y31)++[10]) p7 p8 p9 p10 p11 p12))))∧
 (y29=false→
 (K p1 p2 p3 p4 [110,101,118,101,114,10] p7 p8 p9 p10 p11 p12))))))))∧
 ((p6==[108,111,115,101])=false→
 (K p1 p2 p3 p4 [119,104,97,116,10] p7 p8 p9 p10 p11 p12)))))))))))))))))))
def jw (p1 p2 p3:Int) (K:(List UInt8)→Prop):Prop:=
 (eR p1 p2 p3 3 fun y1=>
 (((!y1)=true→
 (K ([]:List UInt8)))∧
 ((!y1)=false→
 (ny p1 fun y2=>
 ((List.length y2+List.length [32]≤2^62)∧
 (dE p2 fun y3=>
 ((List.length (y2++[32])+List.length y3≤2^62)∧
 (lX p1 fun y4=>
 ((y4=true→
 (K ((y2++[32])++y3)))∧
 (y4=false→
 ((List.length ((y2++[32])++y3)+List.length [32]≤2^62)∧
 (dE p3 fun y5=>
 ((List.length (((y2++[32])++y3)++[32])+List.length y5≤2^62)∧
 (K ((((y2++[32])++y3)++[32])++y5)))))))))))))))
def i7 (p1:List UInt8) (K:Int→Int→Int→Bool→Prop):Prop:=
 (ar (S:=List UInt8×Int×Int×Int×Int) (fun s1 Kb1 Kx1=>
 (((decide (s1.2.1≤7))=true→
 (ar (S:=List UInt8×Int×Int×Int×Int×Int) (fun s2 Kb2 Kx2=>
 (((decide (s2.2.2.1<3))=true→
 (ar (S:=List UInt8×Int×Int×Int×Int×Int×Int) (fun s3 Kb3 Kx3=>
 (((decide (s3.2.2.2.1<3))=true→
 (((!(s3.1==([]:List UInt8)))=true→
 (jw s3.2.1 s3.2.2.1 s3.2.2.2.1 fun y4=>
 (((y4==s3.1)=true→
 (K s3.2.1 s3.2.2.1 s3.2.2.2.1 true))∧
 ((y4==s3.1)=false→
 (Kb3 (s3.1,s3.2.1,s3.2.2.1,(ah s3.2.2.2.1 1),s3.2.2.2.2.1,s3.2.2.2.2.2.1,s3.2.2.2.2.2.2))))))∧
 ((!(s3.1==([]:List UInt8)))=false→
 (Kb3 (s3.1,s3.2.1,s3.2.2.1,(ah s3.2.2.2.1 1),s3.2.2.2.2.1,s3.2.2.2.2.2.1,s3.2.2.2.2.2.2)))))∧
 ((decide (s3.2.2.2.1<3))=false→
 (Kx3 (s3.1,s3.2.1,s3.2.2.1,s3.2.2.2.1,s3.2.2.2.2.1,s3.2.2.2.2.2.1,s3.2.2.2.2.2.2)))))
 (s2.1,s2.2.1,s2.2.2.1,0,s2.2.2.2.1,s2.2.2.2.2.1,s2.2.2.2.2.2) fun s3=>
 (Kb2 (s3.1,s3.2.1,(ah s3.2.2.1 1),s3.2.2.2.2.1,s3.2.2.2.2.2.1,s3.2.2.2.2.2.2))))∧
 ((decide (s2.2.2.1<3))=false→
 (Kx2 (s2.1,s2.2.1,s2.2.2.1,s2.2.2.2.1,s2.2.2.2.2.1,s2.2.2.2.2.2)))))
 (s1.1,s1.2.1,0,s1.2.2.1,s1.2.2.2.1,s1.2.2.2.2) fun s2=>
 (Kb1 (s2.1,(ah s2.2.1 1),s2.2.2.2.1,s2.2.2.2.2.1,s2.2.2.2.2.2))))∧
 ((decide (s1.2.1≤7))=false→
 (Kx1 (s1.1,s1.2.1,s1.2.2.1,s1.2.2.2.1,s1.2.2.2.2)))))
 (p1,1,0,0,0) fun s1=>
 (K 0 0 0 false))
def yK (p1 p2 p3:Int) (p4 p5:Bool) (p6:List UInt8) (p7 p8 p9 p10 p11:List Int) (p12:List aA) (K:Int→Int→(List UInt8)→(List Int)→(List Int)→(List Int)→(List Int)→(List Int)→Prop):Prop:=
 (i7 p6 fun y1 y2 y3 y4=>
 (ee p7 p8 p9 p10 p1 p11 p2 p12 p3 p4<|
 (((!y4)=true→
 (K p1 p2 [119,104,97,116,10] p7 p8 p9 p10 p11))∧
 ((!y4)=false→
 (eR y1 y2 y3 (len p9) fun y5=>
 (((!y5)=true→
 (K p1 p2 [119,104,97,116,10] p7 p8 p9 p10 p11))∧
 ((!y5)=false→
 ((p4=true→
 (K p1 p2 [119,104,97,116,10] p7 p8 p9 p10 p11))∧
 (p4=false→
 (pB p7 p8 p9 p10 y1 y2 y3 fun y6 y7 y8 y9 y10 y11=>
 (kJ p7 p8 p9 p10 p1 p11 p2 [(aA.mk y1 y2 y3)] 0 p4 p5 fun y12 y13 y14 y15 y16 y17 y18 y19=>
 (((List.length p12:Nat)≤2^36)∧
 ((aq y6 (List.length [[111,107],[102,117,108,108],[110,111,110,101]]))∧
 (let v20:List UInt8:=(gS [[111,107],[102,117,108,108],[110,111,110,101]] y6);
 ((List.length v20+List.length [10]≤2^62)∧
 (K y12 y13 (v20++[10]) y15 y16 y17 y18 y19))))))))))))))))
def jv (p1:List UInt8) (K:Bool→(List aA)→Prop):Prop:=
 (((p1==([]:List UInt8))=true→
 (K true []))∧
 ((p1==([]:List UInt8))=false→
 (jS p1 44 fun y1=>
 (ar (S:=Int×List aA×List (List UInt8)) (fun s2 Kb2 Kx2=>
 (((decide (s2.1<(len s2.2.2)))=true→
 (((decide (s2.1≤12))=true→
 ((aq s2.1 (List.length s2.2.2))∧
 (let j10:Prop:=
 (let j9:=fun z4=>
 (i7 z4 fun y5 y6 y7 y8=>
 (((!y8)=true→
 (K false []))∧
 ((!y8)=false→
 ((List.length s2.2.1+List.length ([(aA.mk y5 y6 y7)]:List aA)≤2^36)∧
 (Kb2 ((ah s2.1 1),(s2.2.1++[(aA.mk y5 y6 y7)]),s2.2.2))))));
 (((decide (s2.1>0))=true→
 (((0:Int)≤(1:Int)∧(1:Int)≤(len (gS s2.2.2 s2.1))∧(len (gS s2.2.2 s2.1))≤len (gS s2.2.2 s2.1))∧
 (j9 (sub (gS s2.2.2 s2.1) (1:Int) (len (gS s2.2.2 s2.1))))))∧
 ((decide (s2.1>0))=false→
 (j9 (gS s2.2.2 s2.1)))));
 (((decide (s2.1>0))=true→
 ((((gS s2.2.2 s2.1)==([]:List UInt8))=true→
 (K false []))∧
 (((gS s2.2.2 s2.1)==([]:List UInt8))=false→
 ((aq 0 (List.length (gS s2.2.2 s2.1)))∧
 ((((gC (gS s2.2.2 s2.1) 0) !=32)=true→
 (K false []))∧
 (((gC (gS s2.2.2 s2.1) 0) !=32)=false→
 j10))))))∧
 ((decide (s2.1>0))=false→
 j10)))))∧
 ((decide (s2.1≤12))=false→
 (Kx2 (s2.1,s2.2.1,s2.2.2)))))∧
 ((decide (s2.1<(len s2.2.2)))=false→
 (Kx2 (s2.1,s2.2.1,s2.2.2)))))
 (0,[],y1) fun s2=>
 (((decide ((len s2.2.2)>12))=true→
 (K false []))∧
 ((decide ((len s2.2.2)>12))=false→
 (K true s2.2.1)))))))
def oA (p1 p2 p3 p4:List Int) (p5:Int) (p6:List Int) (p7:Int) (p8:List aA) (p9:Int) (p10:Bool) (p11:List UInt8) (p12:Bool) (K:Int→Int→Int→Bool→Bool→(List Int)→(List Int)→(List Int)→(List Int)→(List Int)→(List aA)→Prop):Prop:=
 (eb p1 p2 p3 p4 p5 p6 p7 p8 p9 p10 fun y1=>
 (((!y1)=true→
 (K 0 0 0 false false [] [] [] [] [] []))∧
 ((!y1)=false→
 (((decide ((len p11)>100))=true→
 (K 0 0 0 false false [] [] [] [] [] []))∧
 ((decide ((len p11)>100))=false→
 (ee p1 p2 p3 p4 p5 p6 p7 p8 p9 p10<|
 (ar (S:=List UInt8×Bool×Int×Int×Int×Int×Bool×Int×Int×Int×Bool×List Int×List Int×List Int×List Int×List Int×List aA×List Int×List Int×List Int×List Int×List Int×List aA) (fun s2 Kb2 Kx2=>
 (((decide (s2.2.2.1<(len s2.1)))=true→
 (let j30:Prop:=
 (Kb2 (s2.1,s2.2.1,(ah s2.2.2.1 1),s2.2.2.2.1,s2.2.2.2.2.1,s2.2.2.2.2.2.1,s2.2.2.2.2.2.2.1,s2.2.2.2.2.2.2.2.1,s2.2.2.2.2.2.2.2.2.1,s2.2.2.2.2.2.2.2.2.2.1,s2.2.2.2.2.2.2.2.2.2.2.1,s2.2.2.2.2.2.2.2.2.2.2.2.1,s2.2.2.2.2.2.2.2.2.2.2.2.2.1,s2.2.2.2.2.2.2.2.2.2.2.2.2.2.1,s2.2.2.2.2.2.2.2.2.2.2.2.2.2.2.1,s2.2.2.2.2.2.2.2.2.2.2.2.2.2.2.2.1,s2.2.2.2.2.2.2.2.2.2.2.2.2.2.2.2.2.1,s2.2.2.2.2.2.2.2.2.2.2.2.2.2.2.2.2.2.1,s2.2.2.2.2.2.2.2.2.2.2.2.2.2.2.2.2.2.2.1,s2.2.2.2.2.2.2.2.2.2.2.2.2.2.2.2.2.2.2.2.1,s2.2.2.2.2.2.2.2.2.2.2.2.2.2.2.2.2.2.2.2.2.1,s2.2.2.2.2.2.2.2.2.2.2.2.2.2.2.2.2.2.2.2.2.2.1,s2.2.2.2.2.2.2.2.2.2.2.2.2.2.2.2.2.2.2.2.2.2.2));
 (let j40:=fun z31 z32 z33 z34 z35 z36 z37 z38 z39=>
 (Kb2 (s2.1,s2.2.1,(ah s2.2.2.1 1),s2.2.2.2.1,s2.2.2.2.2.1,s2.2.2.2.2.2.1,s2.2.2.2.2.2.2.1,z31,z32,z33,z34,s2.2.2.2.2.2.2.2.2.2.2.2.1,s2.2.2.2.2.2.2.2.2.2.2.2.2.1,s2.2.2.2.2.2.2.2.2.2.2.2.2.2.1,s2.2.2.2.2.2.2.2.2.2.2.2.2.2.2.1,s2.2.2.2.2.2.2.2.2.2.2.2.2.2.2.2.1,s2.2.2.2.2.2.2.2.2.2.2.2.2.2.2.2.2.1,z35,z36,z37,z38,z39,s2.2.2.2.2.2.2.2.2.2.2.2.2.2.2.2.2.2.2.2.2.2.2));
 (let j20:Prop:=
 ((s2.2.2.2.2.2.2.2.2.2.2.1=true→
 j30)∧
 (s2.2.2.2.2.2.2.2.2.2.2.1=false→
 ((aq s2.2.2.1 (List.length s2.1))∧
 ((((gC s2.1 s2.2.2.1)==103)=true→
 (kV s2.2.2.2.2.2.2.2.2.2.2.2.2.2.2.2.2.2.1 s2.2.2.2.2.2.2.2.2.2.2.2.2.2.2.2.2.2.2.1 s2.2.2.2.2.2.2.2.2.2.2.2.2.2.2.2.2.2.2.2.1 s2.2.2.2.2.2.2.2.2.2.2.2.2.2.2.2.2.2.2.2.2.1 s2.2.2.2.2.2.2.2.1 s2.2.2.2.2.2.2.2.2.2.2.2.2.2.2.2.2.2.2.2.2.2.1 s2.2.2.2.2.2.2.2.2.1 s2.2.2.2.2.2.2.2.2.2.2.2.2.2.2.2.2.2.2.2.2.2.2 s2.2.2.2.2.2.2.2.2.2.1 s2.2.2.2.2.2.2.2.2.2.2.1 fun y3 y4 y5 y6 y7 y8 y9 y10=>
 (j40 y3 y4 s2.2.2.2.2.2.2.2.2.2.1 y5 y6 y7 y8 y9 y10)))∧
 (((gC s2.1 s2.2.2.1)==103)=false→
 (let v11:Bool:=(decide (s2.2.2.2.2.2.2.2.2.2.1<(len s2.2.2.2.2.2.2.2.2.2.2.2.2.2.2.2.2.2.2.2.2.2.2)));
 ((v11=true→
 (kJ s2.2.2.2.2.2.2.2.2.2.2.2.2.2.2.2.2.2.1 s2.2.2.2.2.2.2.2.2.2.2.2.2.2.2.2.2.2.2.1 s2.2.2.2.2.2.2.2.2.2.2.2.2.2.2.2.2.2.2.2.1 s2.2.2.2.2.2.2.2.2.2.2.2.2.2.2.2.2.2.2.2.2.1 s2.2.2.2.2.2.2.2.1 s2.2.2.2.2.2.2.2.2.2.2.2.2.2.2.2.2.2.2.2.2.2.1 s2.2.2.2.2.2.2.2.2.1 s2.2.2.2.2.2.2.2.2.2.2.2.2.2.2.2.2.2.2.2.2.2.2 s2.2.2.2.2.2.2.2.2.2.1 s2.2.2.2.2.2.2.2.2.2.2.1 s2.2.1 fun y12 y13 y14 y15 y16 y17 y18 y19=>
 (j40 y12 y13 y14 s2.2.2.2.2.2.2.2.2.2.2.1 y15 y16 y17 y18 y19)))∧
 (v11=false→
 j30))))))));
 ((aq s2.2.2.1 (List.length s2.1))∧
 ((((gC s2.1 s2.2.2.1) !=111)=true→
 ((aq s2.2.2.1 (List.length s2.1))∧
 ((((gC s2.1 s2.2.2.1) !=103)=true→
 (K 0 0 0 false false [] [] [] [] [] []))∧
 (((gC s2.1 s2.2.2.1) !=103)=false→
 j20))))∧
 (((gC s2.1 s2.2.2.1) !=111)=false→
 j20)))))))∧
 ((decide (s2.2.2.1<(len s2.1)))=false→
 (Kx2 (s2.1,s2.2.1,s2.2.2.1,s2.2.2.2.1,s2.2.2.2.2.1,s2.2.2.2.2.2.1,s2.2.2.2.2.2.2.1,s2.2.2.2.2.2.2.2.1,s2.2.2.2.2.2.2.2.2.1,s2.2.2.2.2.2.2.2.2.2.1,s2.2.2.2.2.2.2.2.2.2.2.1,s2.2.2.2.2.2.2.2.2.2.2.2.1,s2.2.2.2.2.2.2.2.2.2.2.2.2.1,s2.2.2.2.2.2.2.2.2.2.2.2.2.2.1,s2.2.2.2.2.2.2.2.2.2.2.2.2.2.2.1,s2.2.2.2.2.2.2.2.2.2.2.2.2.2.2.2.1,s2.2.2.2.2.2.2.2.2.2.2.2.2.2.2.2.2.1,s2.2.2.2.2.2.2.2.2.2.2.2.2.2.2.2.2.2.1,s2.2.2.2.2.2.2.2.2.2.2.2.2.2.2.2.2.2.2.1,s2.2.2.2.2.2.2.2.2.2.2.2.2.2.2.2.2.2.2.2.1,s2.2.2.2.2.2.2.2.2.2.2.2.2.2.2.2.2.2.2.2.2.1,s2.2.2.2.2.2.2.2.2.2.2.2.2.2.2.2.2.2.2.2.2.2.1,s2.2.2.2.2.2.2.2.2.2.2.2.2.2.2.2.2.2.2.2.2.2.2)))))
 (p11,p12,0,0,0,0,false,p5,p7,p9,p10,[],[],[],[],[],[],p1,p2,p3,p4,p6,p8) fun s2=>
 (K s2.2.2.2.2.2.2.2.1 s2.2.2.2.2.2.2.2.2.1 s2.2.2.2.2.2.2.2.2.2.1 s2.2.2.2.2.2.2.2.2.2.2.1 true s2.2.2.2.2.2.2.2.2.2.2.2.2.2.2.2.2.2.1 s2.2.2.2.2.2.2.2.2.2.2.2.2.2.2.2.2.2.2.1 s2.2.2.2.2.2.2.2.2.2.2.2.2.2.2.2.2.2.2.2.1 s2.2.2.2.2.2.2.2.2.2.2.2.2.2.2.2.2.2.2.2.2.1 s2.2.2.2.2.2.2.2.2.2.2.2.2.2.2.2.2.2.2.2.2.2.1 s2.2.2.2.2.2.2.2.2.2.2.2.2.2.2.2.2.2.2.2.2.2.2))))))))
def eW (p1:List UInt8) (K:Int→Bool→Prop):Prop:=
 (((decide ((len p1)>0))=true→
 ((aq 0 (List.length p1))∧
 (let j8:=fun z2=>
 (let j7:Prop:=
 (ar (S:=List UInt8×Bool×Int×Int) (fun s3 Kb3 Kx3=>
 (((decide (s3.2.2.2<(len s3.1)))=true→
 ((aq s3.2.2.2 (List.length s3.1))∧
 (((decide ((gC s3.1 s3.2.2.2)<48))=true→
 (K 0 false))∧
 ((decide ((gC s3.1 s3.2.2.2)<48))=false→
 ((aq s3.2.2.2 (List.length s3.1))∧
 (((decide ((gC s3.1 s3.2.2.2)>57))=true→
 (K 0 false))∧
 ((decide ((gC s3.1 s3.2.2.2)>57))=false→
 ((aq s3.2.2.2 (List.length s3.1))∧
 (let v4:Int:=(IntKind.wrap .i64 (IntKind.wrap .u8 ((gC s3.1 s3.2.2.2)-48)));
 (Kb3 (s3.1,s3.2.1,(ah (nE s3.2.2.1 10) v4),(ah s3.2.2.2 1))))))))))))∧
 ((decide (s3.2.2.2<(len s3.1)))=false→
 (Kx3 (s3.1,s3.2.1,s3.2.2.1,s3.2.2.2)))))
 (z2,((gC p1 0)==45),0,0) fun s3=>
 ((s3.2.1=true→
 (K (IntKind.wrap .i64 (0-s3.2.2.1)) true))∧
 (s3.2.1=false→
 (K s3.2.2.1 true))));
 ((((len z2)==0)=true→
 (K 0 false))∧
 (((len z2)==0)=false→
 (((decide ((len z2)>17))=true→
 (K 0 false))∧
 ((decide ((len z2)>17))=false→
 ((aq 0 (List.length z2))∧
 ((((gC z2 0)==48)=true→
 (((decide ((len z2)>1))=true→
 (K 0 false))∧
 ((decide ((len z2)>1))=false→
 ((((gC p1 0)==45)=true→
 (K 0 false))∧
 (((gC p1 0)==45)=false→
 j7)))))∧
 (((gC z2 0)==48)=false→
 j7))))))));
 ((((gC p1 0)==45)=true→
 (((0:Int)≤(1:Int)∧(1:Int)≤(len p1)∧(len p1)≤len p1)∧
 (j8 (sub p1 (1:Int) (len p1)))))∧
 (((gC p1 0)==45)=false→
 (j8 p1))))))∧
 ((decide ((len p1)>0))=false→
 (let j13:Prop:=
 (ar (S:=List UInt8×Bool×Int×Int) (fun s9 Kb9 Kx9=>
 (((decide (s9.2.2.2<(len s9.1)))=true→
 ((aq s9.2.2.2 (List.length s9.1))∧
 (((decide ((gC s9.1 s9.2.2.2)<48))=true→
 (K 0 false))∧
 ((decide ((gC s9.1 s9.2.2.2)<48))=false→
 ((aq s9.2.2.2 (List.length s9.1))∧
 (((decide ((gC s9.1 s9.2.2.2)>57))=true→
 (K 0 false))∧
 ((decide ((gC s9.1 s9.2.2.2)>57))=false→
 ((aq s9.2.2.2 (List.length s9.1))∧
 (let v10:Int:=(IntKind.wrap .i64 (IntKind.wrap .u8 ((gC s9.1 s9.2.2.2)-48)));
 (Kb9 (s9.1,s9.2.1,(ah (nE s9.2.2.1 10) v10),(ah s9.2.2.2 1))))))))))))∧
 ((decide (s9.2.2.2<(len s9.1)))=false→
 (Kx9 (s9.1,s9.2.1,s9.2.2.1,s9.2.2.2)))))
 (p1,false,0,0) fun s9=>
 ((s9.2.1=true→
 (K (IntKind.wrap .i64 (0-s9.2.2.1)) true))∧
 (s9.2.1=false→
 (K s9.2.2.1 true))));
 ((((len p1)==0)=true→
 (K 0 false))∧
 (((len p1)==0)=false→
 (((decide ((len p1)>17))=true→
 (K 0 false))∧
 ((decide ((len p1)>17))=false→
 ((aq 0 (List.length p1))∧
 ((((gC p1 0)==48)=true→
 (((decide ((len p1)>1))=true→
 (K 0 false))∧
 ((decide ((len p1)>1))=false→
 j13)))∧
 (((gC p1 0)==48)=false→
 j13))))))))))
def jO (p1 p2 p3:List Int) (p4:Int) (K:Int→Bool→Prop):Prop:=
 (ix p1 p2 p3 p4 fun y1=>
 (((!y1)=true→
 (K 0 false))∧
 ((!y1)=false→
 (d5 p1 p2 p3 p3 fun y2=>
 ((aq p4 (List.length y2))∧
 (((decide ((gI y2 p4)<0))=true→
 (K 0 false))∧
 ((decide ((gI y2 p4)<0))=false→
 ((aq p4 (List.length y2))∧
 (K (gI y2 p4) true)))))))))
def lW (p1 p2 p3:List Int) (p4 p5:Int) (K:Bool→Prop):Prop:=
 ((aq p4 (List.length p1))∧
 ((((gI p1 p4)==p5)=true→
 (K true))∧
 (((gI p1 p4)==p5)=false→
 ((aq p4 (List.length p2))∧
 (K ((gI p2 p4)==p5))))))
def m6 (p1 p2 p3:List Int) (p4:Int) (K:Bool→(List Int)→Prop):Prop:=
 (jO p1 p2 p3 p4 fun y1 y2=>
 (((!y2)=true→
 (K false []))∧
 ((!y2)=false→
 (d5 p1 p2 p3 p3 fun y3=>
 (ar (S:=Int×List Int×List Int×List Int×List Int×List Int) (fun s4 Kb4 Kx4=>
 (((decide (s4.1>1))=true→
 (ar (S:=Int×Int×List Int×List Int×List Int×List Int×List Int) (fun s5 Kb5 Kx5=>
 (((decide (s5.2.1<(len s5.2.2.2.2.2.1)))=true→
 ((aq s5.2.1 (List.length s5.2.2.2.2.2.1))∧
 ((((gI s5.2.2.2.2.2.1 s5.2.1)==(b6 s5.1 1))=true→
 ((aq 0 (List.length s5.2.2.2.2.2.2))∧
 (lW s5.2.2.1 s5.2.2.2.1 s5.2.2.2.2.1 s5.2.1 (gI s5.2.2.2.2.2.2 0) fun y6=>
 ((y6=true→
 ((List.length ([s5.2.1]:List Int)+List.length s5.2.2.2.2.2.2≤2^36)∧
 (Kx5 (s5.1,s5.2.1,s5.2.2.1,s5.2.2.2.1,s5.2.2.2.2.1,s5.2.2.2.2.2.1,([s5.2.1]++s5.2.2.2.2.2.2)))))∧
 (y6=false→
 (Kb5 (s5.1,(ah s5.2.1 1),s5.2.2.1,s5.2.2.2.1,s5.2.2.2.2.1,s5.2.2.2.2.2.1,s5.2.2.2.2.2.2)))))))∧
 (((gI s5.2.2.2.2.2.1 s5.2.1)==(b6 s5.1 1))=false→
 (Kb5 (s5.1,(ah s5.2.1 1),s5.2.2.1,s5.2.2.2.1,s5.2.2.2.2.1,s5.2.2.2.2.2.1,s5.2.2.2.2.2.2))))))∧
 ((decide (s5.2.1<(len s5.2.2.2.2.2.1)))=false→
 (Kx5 (s5.1,s5.2.1,s5.2.2.1,s5.2.2.2.1,s5.2.2.2.2.1,s5.2.2.2.2.2.1,s5.2.2.2.2.2.2)))))
 (s4.1,0,s4.2.1,s4.2.2.1,s4.2.2.2.1,s4.2.2.2.2.1,s4.2.2.2.2.2) fun s5=>
 (Kb4 ((b6 s5.1 1),s5.2.2.1,s5.2.2.2.1,s5.2.2.2.2.1,s5.2.2.2.2.2.1,s5.2.2.2.2.2.2))))∧
 ((decide (s4.1>1))=false→
 (Kx4 (s4.1,s4.2.1,s4.2.2.1,s4.2.2.2.1,s4.2.2.2.2.1,s4.2.2.2.2.2)))))
 (y1,p1,p2,p3,y3,[p4]) fun s4=>
 (K true s4.2.2.2.2.2))))))
def jE (p1 p2 p3:Int) (p4 p5:Bool) (p6 p7:List UInt8) (p8 p9 p10 p11 p12:List Int) (p13:List aA) (K:Int→Int→Int→Bool→Bool→(List UInt8)→(List Int)→(List Int)→(List Int)→(List Int)→(List Int)→(List aA)→Prop):Prop:=
 (((p6==[100,111])=true→
 (yK p1 p2 p3 p4 p5 p7 p8 p9 p10 p11 p12 p13 fun y1 y2 y3 y4 y5 y6 y7 y8=>
 (K y1 y2 p3 p4 p5 y3 y4 y5 y6 y7 y8 p13)))∧
 ((p6==[100,111])=false→
 (((p6==[112,114,111,103,114,97,109])=true→
 (jv p7 fun y9 y10=>
 (((!y9)=true→
 (K p1 p2 p3 p4 p5 [119,104,97,116,10] p8 p9 p10 p11 p12 p13))∧
 ((!y9)=false→
 (lT y10 (len p10) fun y11=>
 (((!y11)=true→
 (K p1 p2 p3 p4 p5 [119,104,97,116,10] p8 p9 p10 p11 p12 p13))∧
 ((!y11)=false→
 (ee p8 p9 p10 p11 p1 p12 p2 p13 p3 p4<|
 (K p1 p2 0 p4 p5 [111,107,10] p8 p9 p10 p11 p12 y10)))))))))∧
 ((p6==[112,114,111,103,114,97,109])=false→
 (((p6==[114,117,110])=true→
 (oA p8 p9 p10 p11 p1 p12 p2 p13 p3 p4 p7 p5 fun y12 y13 y14 y15 y16 y17 y18 y19 y20 y21 y22=>
 (((!y16)=true→
 (K p1 p2 p3 p4 p5 [119,104,97,116,10] p8 p9 p10 p11 p12 p13))∧
 ((!y16)=false→
 (eE y17 y18 y19 y20 y12 y21 y13 y22 y14 y15 fun y23=>
 ((List.length y23+List.length [10]≤2^62)∧
 (K y12 y13 y14 y15 p5 (y23++[10]) y17 y18 y19 y20 y21 y22)))))))∧
 ((p6==[114,117,110])=false→
 (((p6==[112,97,116,104])=true→
 (eW p7 fun y24 y25=>
 (m6 p8 p9 p10 y24 fun y26 y27=>
 (((!y25)=true→
 (K p1 p2 p3 p4 p5 [119,104,97,116,10] p8 p9 p10 p11 p12 p13))∧
 ((!y25)=false→
 (((!y26)=true→
 (K p1 p2 p3 p4 p5 [119,104,97,116,10] p8 p9 p10 p11 p12 p13))∧
 ((!y26)=false→
 (dZ [112,97,116,104] y27 fun y28=>
 (K p1 p2 p3 p4 p5 y28 p8 p9 p10 p11 p12 p13)))))))))∧
 ((p6==[112,97,116,104])=false→
 (((p6==[98,97,114,114,105,101,114])=true→
 (((!(p7==[111,110]))=true→
 (((!(p7==[111,102,102]))=true→
 (K p1 p2 p3 p4 p5 [119,104,97,116,10] p8 p9 p10 p11 p12 p13))∧
 ((!(p7==[111,102,102]))=false→
 (K p1 p2 p3 p4 (p7==[111,110]) [111,107,10] p8 p9 p10 p11 p12 p13))))∧
 ((!(p7==[111,110]))=false→
 (K p1 p2 p3 p4 (p7==[111,110]) [111,107,10] p8 p9 p10 p11 p12 p13))))∧
 ((p6==[98,97,114,114,105,101,114])=false→
 (((p6==[110,101,119])=true→
 (jS p7 32 fun y29=>
 ((aq 0 (List.length y29))∧
 (eW (gS y29 0) fun y30 y31=>
 ((aq (b6 (len y29) 1) (List.length y29))∧
 (eW (gS y29 (b6 (len y29) 1)) fun y32 y33=>
 (ko y30 y32 fun y34 y35 y36 y37 y38 y39 y40 y41 y42 y43 y44 y45=>
 ((((len y29) !=2)=true→
 (K p1 p2 p3 p4 p5 [119,104,97,116,10] p8 p9 p10 p11 p12 p13))∧
 (((len y29) !=2)=false→
 (((!y31)=true→
 (K p1 p2 p3 p4 p5 [119,104,97,116,10] p8 p9 p10 p11 p12 p13))∧
 ((!y31)=false→
 (((!y33)=true→
 (K p1 p2 p3 p4 p5 [119,104,97,116,10] p8 p9 p10 p11 p12 p13))∧
 ((!y33)=false→
 (((!y39)=true→
 (K p1 p2 p3 p4 p5 [119,104,97,116,10] p8 p9 p10 p11 p12 p13))∧
 ((!y39)=false→
 (K y34 y35 y36 y37 y38 [111,107,10] y40 y41 y42 y43 y44 y45))))))))))))))))∧
 ((p6==[110,101,119])=false→
 (K p1 p2 p3 p4 p5 [119,104,97,116,10] p8 p9 p10 p11 p12 p13)))))))))))))
def lv (p1:List UInt8) (K:(List UInt8)→Prop):Prop:=
 (((decide ((len p1)>20000))=true→
 (K [108,111,110,103,10]))∧
 ((decide ((len p1)>20000))=false→
 (ko 4 3 fun y1 y2 y3 y4 y5 y6 y7 y8 y9 y10 y11 y12=>
 (jS p1 10 fun y13=>
 (ar (S:=List UInt8×Int×Int×Int×Int×Bool×Bool×List (List UInt8)×List Int×List Int×List Int×List Int×List Int×List aA) (fun aD Kb14 Kx14=>
 (((decide (aD.2.1<(len aD.2.2.2.2.2.2.2.1)))=true→
 ((aq aD.2.1 (List.length aD.2.2.2.2.2.2.2.1))∧
 ((((gS aD.2.2.2.2.2.2.2.1 aD.2.1)==([]:List UInt8))=true→
 (Kb14 (aD.1,(ah aD.2.1 1),aD.2.2.1,aD.2.2.2.1,aD.2.2.2.2.1,aD.2.2.2.2.2.1,aD.2.2.2.2.2.2.1,aD.2.2.2.2.2.2.2.1,aD.2.2.2.2.2.2.2.2.1,aD.2.2.2.2.2.2.2.2.2.1,aD.2.2.2.2.2.2.2.2.2.2.1,aD.2.2.2.2.2.2.2.2.2.2.2.1,aD.2.2.2.2.2.2.2.2.2.2.2.2.1,aD.2.2.2.2.2.2.2.2.2.2.2.2.2)))∧
 (((gS aD.2.2.2.2.2.2.2.1 aD.2.1)==([]:List UInt8))=false→
 (((decide (aD.2.1≥200))=true→
 ((List.length aD.1+List.length [102,117,108,108,10]≤2^62)∧
 (K (aD.1++[102,117,108,108,10]))))∧
 ((decide (aD.2.1≥200))=false→
 (((decide ((len aD.1)>40000))=true→
 ((List.length aD.1+List.length [102,117,108,108,10]≤2^62)∧
 (K (aD.1++[102,117,108,108,10]))))∧
 ((decide ((len aD.1)>40000))=false→
 (ar (S:=List UInt8×Int×Int×Int×Int×Int×Bool×Bool×List (List UInt8)×List Int×List Int×List Int×List Int×List Int×List aA) (fun s15 Kb15 Kx15=>
 ((aq s15.2.1 (List.length s15.2.2.2.2.2.2.2.2.1))∧
 (let v16:Bool:=(decide (s15.2.2.1<(len (gS s15.2.2.2.2.2.2.2.2.1 s15.2.1))));
 ((v16=true→
 ((aq s15.2.1 (List.length s15.2.2.2.2.2.2.2.2.1))∧
 ((aq s15.2.2.1 (List.length (gS s15.2.2.2.2.2.2.2.2.1 s15.2.1)))∧
 ((((gC (gS s15.2.2.2.2.2.2.2.2.1 s15.2.1) s15.2.2.1) !=32)=true→
 (Kb15 (s15.1,s15.2.1,(ah s15.2.2.1 1),s15.2.2.2.1,s15.2.2.2.2.1,s15.2.2.2.2.2.1,s15.2.2.2.2.2.2.1,s15.2.2.2.2.2.2.2.1,s15.2.2.2.2.2.2.2.2.1,s15.2.2.2.2.2.2.2.2.2.1,s15.2.2.2.2.2.2.2.2.2.2.1,s15.2.2.2.2.2.2.2.2.2.2.2.1,s15.2.2.2.2.2.2.2.2.2.2.2.2.1,s15.2.2.2.2.2.2.2.2.2.2.2.2.2.1,s15.2.2.2.2.2.2.2.2.2.2.2.2.2.2)))∧
 (((gC (gS s15.2.2.2.2.2.2.2.2.1 s15.2.1) s15.2.2.1) !=32)=false→
 (Kx15 (s15.1,s15.2.1,s15.2.2.1,s15.2.2.2.1,s15.2.2.2.2.1,s15.2.2.2.2.2.1,s15.2.2.2.2.2.2.1,s15.2.2.2.2.2.2.2.1,s15.2.2.2.2.2.2.2.2.1,s15.2.2.2.2.2.2.2.2.2.1,s15.2.2.2.2.2.2.2.2.2.2.1,s15.2.2.2.2.2.2.2.2.2.2.2.1,s15.2.2.2.2.2.2.2.2.2.2.2.2.1,s15.2.2.2.2.2.2.2.2.2.2.2.2.2.1,s15.2.2.2.2.2.2.2.2.2.2.2.2.2.2)))))))∧
 (v16=false→
 (Kx15 (s15.1,s15.2.1,s15.2.2.1,s15.2.2.2.1,s15.2.2.2.2.1,s15.2.2.2.2.2.1,s15.2.2.2.2.2.2.1,s15.2.2.2.2.2.2.2.1,s15.2.2.2.2.2.2.2.2.1,s15.2.2.2.2.2.2.2.2.2.1,s15.2.2.2.2.2.2.2.2.2.2.1,s15.2.2.2.2.2.2.2.2.2.2.2.1,s15.2.2.2.2.2.2.2.2.2.2.2.2.1,s15.2.2.2.2.2.2.2.2.2.2.2.2.2.1,s15.2.2.2.2.2.2.2.2.2.2.2.2.2.2)))))))
 (aD.1,aD.2.1,0,aD.2.2.1,aD.2.2.2.1,aD.2.2.2.2.1,aD.2.2.2.2.2.1,aD.2.2.2.2.2.2.1,aD.2.2.2.2.2.2.2.1,aD.2.2.2.2.2.2.2.2.1,aD.2.2.2.2.2.2.2.2.2.1,aD.2.2.2.2.2.2.2.2.2.2.1,aD.2.2.2.2.2.2.2.2.2.2.2.1,aD.2.2.2.2.2.2.2.2.2.2.2.2.1,aD.2.2.2.2.2.2.2.2.2.2.2.2.2) fun s15=>
 ((aq s15.2.1 (List.length s15.2.2.2.2.2.2.2.2.1))∧
 (((s15.2.2.1==(len (gS s15.2.2.2.2.2.2.2.2.1 s15.2.1)))=true→
 ((aq s15.2.1 (List.length s15.2.2.2.2.2.2.2.2.1))∧
 (nB s15.2.2.2.1 s15.2.2.2.2.1 s15.2.2.2.2.2.1 s15.2.2.2.2.2.2.1 s15.2.2.2.2.2.2.2.1 (gS s15.2.2.2.2.2.2.2.2.1 s15.2.1) s15.2.2.2.2.2.2.2.2.2.1 s15.2.2.2.2.2.2.2.2.2.2.1 s15.2.2.2.2.2.2.2.2.2.2.2.1 s15.2.2.2.2.2.2.2.2.2.2.2.2.1 s15.2.2.2.2.2.2.2.2.2.2.2.2.2.1 s15.2.2.2.2.2.2.2.2.2.2.2.2.2.2 fun y17 y18 y19 y20 y21 y22 y23 y24 y25 y26 y27=>
 ((List.length s15.1+List.length y21≤2^62)∧
 (Kb14 ((s15.1++y21),(ah s15.2.1 1),y17,y18,y19,y20,s15.2.2.2.2.2.2.2.1,s15.2.2.2.2.2.2.2.2.1,y22,y23,y24,y25,y26,y27))))))∧
 ((s15.2.2.1==(len (gS s15.2.2.2.2.2.2.2.2.1 s15.2.1)))=false→
 ((aq s15.2.1 (List.length s15.2.2.2.2.2.2.2.2.1))∧
 (((0:Int)≤(0:Int)∧(0:Int)≤s15.2.2.1∧s15.2.2.1≤len (gS s15.2.2.2.2.2.2.2.2.1 s15.2.1))∧
 ((aq s15.2.1 (List.length s15.2.2.2.2.2.2.2.2.1))∧
 (((0:Int)≤(ah s15.2.2.1 1)∧(ah s15.2.2.1 1)≤(len (gS s15.2.2.2.2.2.2.2.2.1 s15.2.1))∧(len (gS s15.2.2.2.2.2.2.2.2.1 s15.2.1))≤len (gS s15.2.2.2.2.2.2.2.2.1 s15.2.1))∧
 (let v28:List UInt8:=(sub (gS s15.2.2.2.2.2.2.2.2.1 s15.2.1) (ah s15.2.2.1 1) (len (gS s15.2.2.2.2.2.2.2.2.1 s15.2.1)));
 (jE s15.2.2.2.1 s15.2.2.2.2.1 s15.2.2.2.2.2.1 s15.2.2.2.2.2.2.1 s15.2.2.2.2.2.2.2.1 (sub (gS s15.2.2.2.2.2.2.2.2.1 s15.2.1) (0:Int) s15.2.2.1) v28 s15.2.2.2.2.2.2.2.2.2.1 s15.2.2.2.2.2.2.2.2.2.2.1 s15.2.2.2.2.2.2.2.2.2.2.2.1 s15.2.2.2.2.2.2.2.2.2.2.2.2.1 s15.2.2.2.2.2.2.2.2.2.2.2.2.2.1 s15.2.2.2.2.2.2.2.2.2.2.2.2.2.2 fun y29 y30 y31 y32 y33 y34 y35 y36 y37 y38 y39 y40=>
 ((List.length s15.1+List.length y34≤2^62)∧
 (Kb14 ((s15.1++y34),(ah s15.2.1 1),y29,y30,y31,y32,y33,s15.2.2.2.2.2.2.2.2.1,y35,y36,y37,y38,y39,y40)))))))))))))))))))))∧
 ((decide (aD.2.1<(len aD.2.2.2.2.2.2.2.1)))=false→
 (Kx14 (aD.1,aD.2.1,aD.2.2.1,aD.2.2.2.1,aD.2.2.2.2.1,aD.2.2.2.2.2.1,aD.2.2.2.2.2.2.1,aD.2.2.2.2.2.2.2.1,aD.2.2.2.2.2.2.2.2.1,aD.2.2.2.2.2.2.2.2.2.1,aD.2.2.2.2.2.2.2.2.2.2.1,aD.2.2.2.2.2.2.2.2.2.2.2.1,aD.2.2.2.2.2.2.2.2.2.2.2.2.1,aD.2.2.2.2.2.2.2.2.2.2.2.2.2)))))
 (([]:List UInt8),0,y1,y2,y3,y4,y5,y13,y7,y8,y9,y10,y11,y12) fun aD=>
 (K aD.1))))))
def fB (p1 p2:Int) (K:Int→Int→Prop):Prop:=
 (let v1:Int:=(IntKind.wrap .u64 (((BitVec.ofInt (IntKind.bits .u64) p1&&&BitVec.ofInt (IntKind.bits .u64) 4294967295).toNat:Int)));
 (((0:Int)≤(32:Int))∧
 (let v2:Int:=(IntKind.wrap .u64 (((BitVec.ofInt (IntKind.bits .u64) p2&&&BitVec.ofInt (IntKind.bits .u64) 4294967295).toNat:Int)));
 (((0:Int)≤(32:Int))∧
 (let v3:Int:=(IntKind.wrap .u64 ((Int.fdiv p1 (2^min (Int.toNat 32) (IntKind.bits .u64)))*v2));
 (((0:Int)≤(32:Int))∧
 (let v4:Int:=(Int.fdiv (IntKind.wrap .u64 (v1*v2)) (2^min (Int.toNat 32) (IntKind.bits .u64)));
 (let v5:Int:=(IntKind.wrap .u64 (((BitVec.ofInt (IntKind.bits .u64) (IntKind.wrap .u64 (v3+v4))&&&BitVec.ofInt (IntKind.bits .u64) 4294967295).toNat:Int)));
 (((0:Int)≤(32:Int))∧
 (let v6:Int:=(Int.fdiv (IntKind.wrap .u64 (v3+v4)) (2^min (Int.toNat 32) (IntKind.bits .u64)));
 (let v7:Int:=(IntKind.wrap .u64 (v1*(Int.fdiv p2 (2^min (Int.toNat 32) (IntKind.bits .u64)))));
 (let v8:Int:=(IntKind.wrap .u64 ((Int.fdiv p1 (2^min (Int.toNat 32) (IntKind.bits .u64)))*(Int.fdiv p2 (2^min (Int.toNat 32) (IntKind.bits .u64)))));
 (((0:Int)≤(32:Int))∧
 (let v9:Int:=(Int.fdiv (IntKind.wrap .u64 (v5+v7)) (2^min (Int.toNat 32) (IntKind.bits .u64)));
 (K (IntKind.wrap .u64 ((IntKind.wrap .u64 (v8+v6))+v9)) (IntKind.wrap .u64 (p1*p2)))))))))))))))))
def eK (p1 p2:Int) (K:Int→Int→Prop):Prop:=
 (fB p1 p2 fun y1 y2=>
 (K y1 y2))
def fh (p1:List Int) (p2:Int) (K:(List Int)→Prop):Prop:=
 (((decide (p2<0))=true→
 False)∧
 ((decide (p2<0))=false→
 (eK (IntKind.wrap .u64 (len p1)) (IntKind.wrap .u64 p2) fun y1 y2=>
 (((decide (y1>0))=true→
 False)∧
 ((decide (y1>0))=false→
 (((decide (y2>9223372036854775807))=true→
 False)∧
 ((decide (y2>9223372036854775807))=false→
 ((0≤(IntKind.wrap .i64 y2)∧(IntKind.wrap .i64 y2)=(IntKind.wrap .i64 y2)∧(IntKind.wrap .i64 y2)≤2^36)∧
 (let v3:List Int:=(List.replicate (Int.toNat (IntKind.wrap .i64 y2)) (0:Int));
 (((0:Nat)<List.length p1∧(0:Int)<((List.length v3:Nat):Int))∧
 (let v4:Int:=((Nat.min (List.length p1) (Int.toNat (((List.length v3:Nat):Int)-(0:Int))):Nat):Int);
 (let v5:List Int:=(setC v3 (Int.toNat (0:Int)) (List.take (Int.toNat (((List.length v3:Nat):Int)-(0:Int))) p1));
 (ar (S:=Int×List Int) (fun s6 Kb6 Kx6=>
 (((decide (s6.1<(len s6.2)))=true→
 (((0:Int)≤s6.1∧s6.1≤((List.length s6.2:Nat):Int)∧((List.length s6.2:Nat):Int)≤((List.length s6.2:Nat):Int))∧
 (((0:Int)≤(0:Int)∧(0:Int)≤s6.1∧s6.1≤((List.length s6.2:Nat):Int))∧
 (((0:Nat)<List.length (sub s6.2 (0:Int) s6.1)∧s6.1<((List.length s6.2:Nat):Int))∧
 (let v7:Int:=((Nat.min (List.length (sub s6.2 (0:Int) s6.1)) (Int.toNat (((List.length s6.2:Nat):Int)-s6.1)):Nat):Int);
 (let v8:List Int:=(setC s6.2 (Int.toNat s6.1) (List.take (Int.toNat (((List.length s6.2:Nat):Int)-s6.1)) (sub s6.2 (0:Int) s6.1)));
 (Kb6 ((ah s6.1 v7),v8))))))))∧
 ((decide (s6.1<(len s6.2)))=false→
 (Kx6 (s6.1,s6.2)))))
 (v4,v5) fun s6=>
 (K s6.2))))))))))))))
def lj (p1 p2:Int) (K:Bool→(List Int)→(List Int)→(List Int)→Prop):Prop:=
 (((decide (p1<1))=true→
 (K false [] [] []))∧
 ((decide (p1<1))=false→
 (((decide (p1>8))=true→
 (K false [] [] []))∧
 ((decide (p1>8))=false→
 (((decide (p2<1))=true→
 (K false [] [] []))∧
 ((decide (p2<1))=false→
 (((decide (p2>3))=true→
 (K false [] [] []))∧
 ((decide (p2>3))=false→
 (fh [(-1)] p1 fun y1=>
 (fh [(-1)] p1 fun y2=>
 (fh [(-1)] p2 fun y3=>
 (K true y1 y2 y3))))))))))))
def ml (p1 p2:Int) (K:Bool→(List Int)→(List Int)→(List Int)→(List Int)→Prop):Prop:=
 (lj p1 p2 fun y1 y2 y3 y4=>
 (((!y1)=true→
 (K false [] [] [] []))∧
 ((!y1)=false→
 (ar (S:=Int×Int×List Int×List Int×List Int×List Int×List Int×List Int×List Int×List Int) (fun s5 Kb5 Kx5=>
 (((decide (s5.2.1<s5.1))=true→
 ((List.length s5.2.2.2.2.2.2.2.2.2+List.length ([s5.2.1]:List Int)≤2^36)∧
 (Kb5 (s5.1,(ah s5.2.1 1),s5.2.2.1,s5.2.2.2.1,s5.2.2.2.2.1,s5.2.2.2.2.2.1,s5.2.2.2.2.2.2.1,s5.2.2.2.2.2.2.2.1,s5.2.2.2.2.2.2.2.2.1,(s5.2.2.2.2.2.2.2.2.2++[s5.2.1])))))∧
 ((decide (s5.2.1<s5.1))=false→
 (Kx5 (s5.1,s5.2.1,s5.2.2.1,s5.2.2.2.1,s5.2.2.2.2.1,s5.2.2.2.2.2.1,s5.2.2.2.2.2.2.1,s5.2.2.2.2.2.2.2.1,s5.2.2.2.2.2.2.2.2.1,s5.2.2.2.2.2.2.2.2.2)))))
 (p1,0,[],[],[],[],y2,y3,y4,[]) fun s5=>
 (K true s5.2.2.2.2.2.2.1 s5.2.2.2.2.2.2.2.1 s5.2.2.2.2.2.2.2.2.1 s5.2.2.2.2.2.2.2.2.2)))))
def b8 (p1 p2 p3:List Int) (K:Bool→Prop):Prop:=
 ((((len p1) !=(len p2))=true→
 (K false))∧
 (((len p1) !=(len p2))=false→
 (((decide ((len p1)<1))=true→
 (K false))∧
 ((decide ((len p1)<1))=false→
 (((decide ((len p1)>8))=true→
 (K false))∧
 ((decide ((len p1)>8))=false→
 (((decide ((len p3)<1))=true→
 (K false))∧
 ((decide ((len p3)<1))=false→
 (((decide ((len p3)>3))=true→
 (K false))∧
 ((decide ((len p3)>3))=false→
 (ar (S:=Int×Int×List Int×List Int×List Int×List (List Int)) (fun s1 Kb1 Kx1=>
 (((decide (s1.2.1<s1.1))=true→
 ((aq s1.2.1 (List.length s1.2.2.2.2.2))∧
 (ar (S:=Int×Int×List Int×Int×Int×List Int×List Int×List Int×List (List Int)) (fun s2 Kb2 Kx2=>
 (((decide (s2.2.2.2.2.1<s2.2.2.2.1))=true→
 ((aq s2.2.2.2.2.1 (List.length s2.2.2.1))∧
 (((decide ((gI s2.2.2.1 s2.2.2.2.2.1)<(-1)))=true→
 (K false))∧
 ((decide ((gI s2.2.2.1 s2.2.2.2.2.1)<(-1)))=false→
 (((decide ((gI s2.2.2.1 s2.2.2.2.2.1)≥(len s2.2.2.2.2.2.1)))=true→
 (K false))∧
 ((decide ((gI s2.2.2.1 s2.2.2.2.2.1)≥(len s2.2.2.2.2.2.1)))=false→
 (Kb2 (s2.1,s2.2.1,s2.2.2.1,s2.2.2.2.1,(ah s2.2.2.2.2.1 1),s2.2.2.2.2.2.1,s2.2.2.2.2.2.2.1,s2.2.2.2.2.2.2.2.1,s2.2.2.2.2.2.2.2.2))))))))∧
 ((decide (s2.2.2.2.2.1<s2.2.2.2.1))=false→
 (Kx2 (s2.1,s2.2.1,s2.2.2.1,s2.2.2.2.1,s2.2.2.2.2.1,s2.2.2.2.2.2.1,s2.2.2.2.2.2.2.1,s2.2.2.2.2.2.2.2.1,s2.2.2.2.2.2.2.2.2)))))
 (s1.1,s1.2.1,(gL s1.2.2.2.2.2 s1.2.1),(len (gL s1.2.2.2.2.2 s1.2.1)),0,s1.2.2.1,s1.2.2.2.1,s1.2.2.2.2.1,s1.2.2.2.2.2) fun s2=>
 (Kb1 (s2.1,(ah s2.2.1 1),s2.2.2.2.2.2.1,s2.2.2.2.2.2.2.1,s2.2.2.2.2.2.2.2.1,s2.2.2.2.2.2.2.2.2)))))∧
 ((decide (s1.2.1<s1.1))=false→
 (Kx1 (s1.1,s1.2.1,s1.2.2.1,s1.2.2.2.1,s1.2.2.2.2.1,s1.2.2.2.2.2)))))
 ((len [p1,p2,p3]),0,p1,p2,p3,[p1,p2,p3]) fun s1=>
 (K true))))))))))))
def n9 (p1:Int) (K:(List Int)→Prop):Prop:=
 (((decide (p1<0))=true→
 False)∧
 ((decide (p1<0))=false→
 (((decide ((b6 p1 (b6 0 0))>0))=true→
 (((0:Int)=0∧(0:Int)=0)∧
 (((0:Int)<(b6 p1 (b6 0 0))∧(b6 p1 (b6 0 0))≤2^36)∧
 (((0:Int)≤(0:Int)∧(0:Int)≤(0:Int)∧(0:Int)≤len (List.replicate (Int.toNat (b6 p1 (b6 0 0))) (0:Int)))∧
 (let v1:List Int:=(sub (List.replicate (Int.toNat (b6 p1 (b6 0 0))) (0:Int)) (0:Int) (0:Int));
 (K v1))))))∧
 ((decide ((b6 p1 (b6 0 0))>0))=false→
 (K [])))))
def kO (p1:List (List Int)) (K:(List Int)→Prop):Prop:=
 (ar (S:=List (List Int)×Int×List (List Int)×Int×Int) (fun s1 Kb1 Kx1=>
 (((decide (s1.2.2.2.2<s1.2.2.2.1))=true→
 ((aq s1.2.2.2.2 (List.length s1.2.2.1))∧
 (((decide ((ah s1.2.1 (len (gL s1.2.2.1 s1.2.2.2.2)))<0))=true→
 False)∧
 ((decide ((ah s1.2.1 (len (gL s1.2.2.1 s1.2.2.2.2)))<0))=false→
 (Kb1 (s1.1,(ah s1.2.1 (len (gL s1.2.2.1 s1.2.2.2.2))),s1.2.2.1,s1.2.2.2.1,(ah s1.2.2.2.2 1)))))))∧
 ((decide (s1.2.2.2.2<s1.2.2.2.1))=false→
 (Kx1 (s1.1,s1.2.1,s1.2.2.1,s1.2.2.2.1,s1.2.2.2.2)))))
 (p1,0,p1,(len p1),0) fun s1=>
 (n9 s1.2.1 fun y2=>
 (ar (S:=List (List Int)×Int×Int×List Int) (fun s3 Kb3 Kx3=>
 (((decide (s3.2.2.1<s3.2.1))=true→
 ((aq s3.2.2.1 (List.length s3.1))∧
 ((List.length s3.2.2.2+List.length (gL s3.1 s3.2.2.1)≤2^36)∧
 (Kb3 (s3.1,s3.2.1,(ah s3.2.2.1 1),(s3.2.2.2++(gL s3.1 s3.2.2.1)))))))∧
 ((decide (s3.2.2.1<s3.2.1))=false→
 (Kx3 (s3.1,s3.2.1,s3.2.2.1,s3.2.2.2)))))
 (s1.1,(len s1.1),0,y2) fun s3=>
 (K s3.2.2.2))))
def ju (p1 p2 p3:List Int) (K:(List Int)→Prop):Prop:=
 (b8 p1 p2 p3 fun y1=>
 (((!y1)=true→
 (K []))∧
 ((!y1)=false→
 ((0≤(len p1)∧(len p1)=(len p1)∧(len p1)≤2^36)∧
 (kO [p1,p2,p3] fun y2=>
 (ar (S:=Int×Int×List Int×List Int) (fun s3 Kb3 Kx3=>
 (((decide (s3.2.1<s3.1))=true→
 ((aq s3.2.1 (List.length s3.2.2.2))∧
 ((((gI s3.2.2.2 s3.2.1) !=(-1))=true→
 ((aq (gI s3.2.2.2 s3.2.1) (List.length s3.2.2.1))∧
 ((aq (gI s3.2.2.2 s3.2.1) (List.length s3.2.2.1))∧
 (let v4:List Int:=(uL s3.2.2.1 (gI s3.2.2.2 s3.2.1) (ah (gI s3.2.2.1 (gI s3.2.2.2 s3.2.1)) 1));
 (Kb3 (s3.1,(ah s3.2.1 1),v4,s3.2.2.2))))))∧
 (((gI s3.2.2.2 s3.2.1) !=(-1))=false→
 (Kb3 (s3.1,(ah s3.2.1 1),s3.2.2.1,s3.2.2.2))))))∧
 ((decide (s3.2.1<s3.1))=false→
 (Kx3 (s3.1,s3.2.1,s3.2.2.1,s3.2.2.2)))))
 ((len y2),0,(List.replicate (Int.toNat (len p1)) (0:Int)),y2) fun s3=>
 (K s3.2.2.1)))))))
def gP (p1:List Int) (p2:Int) (K:Int→Prop):Prop:=
 (ar (S:=List Int×Int×Int×Int) (fun s1 Kb1 Kx1=>
 (((decide (s1.2.2.2<s1.2.2.1))=true→
 ((aq s1.2.2.2 (List.length s1.1))∧
 (((s1.2.1==(gI s1.1 s1.2.2.2))=true→
 (K s1.2.2.2))∧
 ((s1.2.1==(gI s1.1 s1.2.2.2))=false→
 (Kb1 (s1.1,s1.2.1,s1.2.2.1,(ah s1.2.2.2 1)))))))∧
 ((decide (s1.2.2.2<s1.2.2.1))=false→
 (Kx1 (s1.1,s1.2.1,s1.2.2.1,s1.2.2.2)))))
 (p1,p2,(len p1),0) fun s1=>
 (K (-1)))
def cm (p1:List Int) (p2:Int) (K:Bool→Prop):Prop:=
 (gP p1 p2 fun y1=>
 (K (decide (y1≥0))))
def bQ (p1 p2 p3 p4:List Int) (K:Bool→Prop):Prop:=
 (b8 p1 p2 p3 fun y1=>
 (((!y1)=true→
 (K false))∧
 ((!y1)=false→
 (ju p1 p2 p3 fun y2=>
 (ar (S:=List Int×Int×Int×List Int×List Int×List Int×List Int×List Int) (fun s3 Kb3 Kx3=>
 (((decide (s3.2.2.1<s3.2.1))=true→
 ((aq s3.2.2.1 (List.length s3.1))∧
 (((decide ((gI s3.1 s3.2.2.1)<0))=true→
 (K false))∧
 ((decide ((gI s3.1 s3.2.2.1)<0))=false→
 (((decide ((gI s3.1 s3.2.2.1)≥(len s3.2.2.2.2.2.2.2)))=true→
 (K false))∧
 ((decide ((gI s3.1 s3.2.2.1)≥(len s3.2.2.2.2.2.2.2)))=false→
 ((aq (gI s3.1 s3.2.2.1) (List.length s3.2.2.2.2.2.2.2))∧
 (((decide ((gI s3.2.2.2.2.2.2.2 (gI s3.1 s3.2.2.1))>0))=true→
 (K false))∧
 ((decide ((gI s3.2.2.2.2.2.2.2 (gI s3.1 s3.2.2.1))>0))=false→
 ((aq (gI s3.1 s3.2.2.1) (List.length s3.2.2.2.1))∧
 ((((gI s3.2.2.2.1 (gI s3.1 s3.2.2.1)) !=(-1))=true→
 (K false))∧
 (((gI s3.2.2.2.1 (gI s3.1 s3.2.2.1)) !=(-1))=false→
 ((aq (gI s3.1 s3.2.2.1) (List.length s3.2.2.2.2.1))∧
 ((((gI s3.2.2.2.2.1 (gI s3.1 s3.2.2.1)) !=(-1))=true→
 (K false))∧
 (((gI s3.2.2.2.2.1 (gI s3.1 s3.2.2.1)) !=(-1))=false→
 (((0:Int)≤(0:Int)∧(0:Int)≤s3.2.2.1∧s3.2.2.1≤len s3.2.2.2.2.2.2.1)∧
 (cm (sub s3.2.2.2.2.2.2.1 (0:Int) s3.2.2.1) (gI s3.1 s3.2.2.1) fun y4=>
 ((y4=true→
 (K false))∧
 (y4=false→
 (Kb3 (s3.1,s3.2.1,(ah s3.2.2.1 1),s3.2.2.2.1,s3.2.2.2.2.1,s3.2.2.2.2.2.1,s3.2.2.2.2.2.2.1,s3.2.2.2.2.2.2.2)))))))))))))))))))))∧
 ((decide (s3.2.2.1<s3.2.1))=false→
 (Kx3 (s3.1,s3.2.1,s3.2.2.1,s3.2.2.2.1,s3.2.2.2.2.1,s3.2.2.2.2.2.1,s3.2.2.2.2.2.2.1,s3.2.2.2.2.2.2.2)))))
 (p4,(len p4),0,p1,p2,p3,p4,y2) fun s3=>
 (K true))))))
def sC (p1 p2 p3 p4:List Int) (K:Int→Int→Bool→(List Int)→Prop):Prop:=
 (bQ p1 p2 p3 p4 fun y1=>
 (((!y1)=true→
 (K 0 0 false []))∧
 ((!y1)=false→
 ((0≤(len p1)∧(len p1)=(len p1)∧(len p1)≤2^36)∧
 (K 0 0 true (List.replicate (Int.toNat (len p1)) (0:Int)))))))
def fX (p1 p2 p3 p4:Int) (K:Bool→Prop):Prop:=
 (((decide (p1<1))=true→
 (K false))∧
 ((decide (p1<1))=false→
 (((decide (p1>7))=true→
 (K false))∧
 ((decide (p1>7))=false→
 (((decide (p2<0))=true→
 (K false))∧
 ((decide (p2<0))=false→
 (((decide (p2≥3))=true→
 (K false))∧
 ((decide (p2≥3))=false→
 (((decide (p2≥p4))=true→
 (K false))∧
 ((decide (p2≥p4))=false→
 (((decide (p3<0))=true→
 (K false))∧
 ((decide (p3<0))=false→
 (((decide (p3≥3))=true→
 (K false))∧
 ((decide (p3≥3))=false→
 (((p1==1)=true→
 (K (p3==0)))∧
 ((p1==1)=false→
 (((p1==7)=true→
 (K (p3==0)))∧
 ((p1==7)=false→
 (K (decide (p3<p4)))))))))))))))))))))
def mP (p1:List aA) (p2:Int) (K:Bool→Prop):Prop:=
 (ar (S:=List aA×Int×List aA×Int×Int) (fun s1 Kb1 Kx1=>
 (((decide (s1.2.2.2.2<s1.2.2.2.1))=true→
 ((aq s1.2.2.2.2 (List.length s1.2.2.1))∧
 (fX ((gO s1.2.2.1 s1.2.2.2.2).kind) ((gO s1.2.2.1 s1.2.2.2.2).a) ((gO s1.2.2.1 s1.2.2.2.2).b) s1.2.1 fun y2=>
 (((!y2)=true→
 (K false))∧
 ((!y2)=false→
 (Kb1 (s1.1,s1.2.1,s1.2.2.1,s1.2.2.2.1,(ah s1.2.2.2.2 1))))))))∧
 ((decide (s1.2.2.2.2<s1.2.2.2.1))=false→
 (Kx1 (s1.1,s1.2.1,s1.2.2.1,s1.2.2.2.1,s1.2.2.2.2)))))
 (p1,p2,p1,(len p1),0) fun s1=>
 (K (decide ((len s1.1)≤12))))
def b9 (p1:List Int) (K:(List Int)→Prop):Prop:=
 (∀b1:Bool,((List.length p1:Nat)≠0→b1=false)→
 ((b1=true→
 (K []))∧
 (b1=false→
 (((List.length p1:Nat)≤2^36)∧
 (K p1)))))
def qh (p1 p2 p3:List Int) (K:(List Int)→(List Int)→(List Int)→Prop):Prop:=
 (b9 p1 fun y1=>
 (b9 p2 fun y2=>
 (b9 p3 fun y3=>
 (K y1 y2 y3))))
def ja (p1 p2 p3 p4:List Int) (K:(List Int)→(List Int)→(List Int)→(List Int)→Prop):Prop:=
 (qh p1 p2 p3 fun y1 y2 y3=>
 (b9 p4 fun y4=>
 (K y1 y2 y3 y4)))
def kZ (p1:List aA) (K:(List aA)→Prop):Prop:=
 (∀b1:Bool,((List.length p1:Nat)≠0→b1=false)→
 ((b1=true→
 (K []))∧
 (b1=false→
 (((List.length p1:Nat)≤2^36)∧
 (K p1)))))
def oE (p1 p2 p3 p4:List Int) (p5:List aA) (K:Int→Int→Int→Bool→Bool→(List Int)→(List Int)→(List Int)→(List Int)→(List Int)→(List aA)→Prop):Prop:=
 (sC p1 p2 p3 p4 fun y1 y2 y3 y4=>
 (((!y3)=true→
 (K 0 0 0 false false [] [] [] [] [] []))∧
 ((!y3)=false→
 (mP p5 (len p3) fun y5=>
 (((!y5)=true→
 (K 0 0 0 false false [] [] [] [] [] []))∧
 ((!y5)=false→
 (ja p1 p2 p3 p4 fun y6 y7 y8 y9=>
 (kZ p5 fun y10=>
 (K y1 y2 0 false true y6 y7 y8 y9 y4 y10)))))))))
def gt (p1 p2 p3 p4 p5:Int) (p6 p7:Bool) (p8 p9 p10 p11 p12:List Int) (p13:List aA) (p14:List Int) (K:Bool→Int→Int→Int→Bool→Bool→(List Int)→(List Int)→(List Int)→(List Int)→(List Int)→(List aA)→Prop):Prop:=
 (ml p1 p2 fun y1 y2 y3 y4 y5=>
 ((y1=true→
 (oE y2 y3 y4 y5 [] fun y6 y7 y8 y9 y10 y11 y12 y13 y14 y15 y16=>
 (K y1 y6 y7 y8 y9 true y11 y12 y13 y14 y15 y16)))∧
 (y1=false→
 (K y1 p3 p4 p5 p6 p7 p8 p9 p10 p11 p12 p13))))
def eM (p1 p2:List UInt8) (K:List (List UInt8)→Prop):Prop:=
 (p1.length<4294967281∧1≤p2.length)∧K ((Lib.splitB ⟨p2.toArray⟩ 0 (Lib.countB ⟨p1.toArray⟩ ⟨p2.toArray⟩) ⟨p1.toArray⟩).map fun s=>s.data.toList)
def mA (p1 p2 p3:Int) (p4 p5:Bool) (p6 p7 p8 p9 p10:List Int) (p11:List aA) (p12:List Int) (K:Int→Prop):Prop:=
 (K (len p12))
def mN (p1:Int) (p2:Int) (p3:Int) (p4:Bool) (p5:Bool) (p6:List Int) (p7:List Int) (p8:List Int) (p9:List Int) (p10:List Int) (p11:List aA) (p12:List Int) (K:Prop):Prop:=K
def fq (p1:List UInt8) (p2 p3 p4:Int) (p5 p6:Bool) (p7 p8 p9 p10 p11:List Int) (p12:List aA) (p13:List Int) (K:Int→(List Int)→Prop):Prop:=
 (mN p2 p3 p4 p5 p6 p7 p8 p9 p10 p11 p12 p13<|
 ((List.length p13+List.length p1≤2^36)∧
 (K (len p1) (p13++aN p1))))
def ay (p1:List UInt8) (p2 p3 p4:Int) (p5 p6:Bool) (p7 p8 p9 p10 p11:List Int) (p12:List aA) (p13:List Int) (K:(List Int)→Prop):Prop:=
 ((List.length p1+List.length [10]≤2^62)∧
 (fq (p1++[10]) p2 p3 p4 p5 p6 p7 p8 p9 p10 p11 p12 p13 fun y1 y2=>
 (K y2)))
def gn (p1 p2:List UInt8) (K:List UInt8→List UInt8→Bool→Prop):Prop:=
 p1.length<4294967281∧K (Lib.cut p1 p2).1 (Lib.cut p1 p2).2.1 (Lib.cut p1 p2).2.2
def mO (l:List UInt8):Int×Bool:=
 match Lib.atoiAll l with
 | .ok v=>(v,true)
 | .range=>(Lib.atoiSat l,false)
 |_=>(0,false)
def mq (p1:List UInt8) (K:Int→Bool→Prop):Prop:=
 p1.length≤281474976710656∧K (mO p1).1 (mO p1).2
def bv (p1:Int) (K:List UInt8→Prop):Prop:=
 (-9223372036854775808≤p1∧p1≤9223372036854775807)∧K (Lib.itoa p1)
def iU (p1:List UInt8) (K:Int→Bool→Prop):Prop:=
 (mq p1 fun y1 y2=>
 ((y2=true→
 (((decide (y1≥0))=true→
 (((decide ((len p1)≤17))=true→
 (bv y1 fun y3=>
 (K y1 (y3==p1))))∧
 ((decide ((len p1)≤17))=false→
 (K y1 false))))∧
 ((decide (y1≥0))=false→
 (K y1 false))))∧
 (y2=false→
 (K y1 false))))
def lK (p1 p2 p3:Int) (K:(List UInt8)→Prop):Prop:=
 (fX p1 p2 p3 3 fun y1=>
 (((!y1)=true→
 (K ([]:List UInt8)))∧
 ((!y1)=false→
 ((aq p1 (List.length [([]:List UInt8),[110,101,119],[99,111,112,121],[108,101,102,116],[114,105,103,104,116],[112,117,116,108,101,102,116],[112,117,116,114,105,103,104,116],[99,108,101,97,114]]))∧
 (let v2:List UInt8:=(gS [([]:List UInt8),[110,101,119],[99,111,112,121],[108,101,102,116],[114,105,103,104,116],[112,117,116,108,101,102,116],[112,117,116,114,105,103,104,116],[99,108,101,97,114]] p1);
 ((List.length v2+List.length [32]≤2^62)∧
 (bv p2 fun y3=>
 ((List.length (v2++[32])+List.length y3≤2^62)∧
 (((p1 !=1)=true→
 (((p1 !=7)=true→
 (bv p3 fun y4=>
 ((List.length [32]+List.length y4≤2^62)∧
 ((List.length ((v2++[32])++y3)+List.length ([32]++y4)≤2^62)∧
 (K (((v2++[32])++y3)++([32]++y4)))))))∧
 ((p1 !=7)=false→
 (K ((v2++[32])++y3)))))∧
 ((p1 !=1)=false→
 (K ((v2++[32])++y3))))))))))))
def kX (p1:List UInt8) (K:Int→Int→Int→Bool→Prop):Prop:=
 (ar (S:=List UInt8×Int×Int×Int×Int) (fun s1 Kb1 Kx1=>
 (((decide (s1.2.1≤7))=true→
 (ar (S:=List UInt8×Int×Int×Int×Int×Int) (fun s2 Kb2 Kx2=>
 (((decide (s2.2.2.1<3))=true→
 (ar (S:=List UInt8×Int×Int×Int×Int×Int×Int×Int) (fun s3 Kb3 Kx3=>
 (((decide (s3.2.2.2.2.1<3))=true→
 (((!(s3.1==([]:List UInt8)))=true→
 (lK s3.2.1 s3.2.2.1 s3.2.2.2.2.1 fun y4=>
 (((y4==s3.1)=true→
 (K s3.2.1 s3.2.2.1 s3.2.2.2.2.1 true))∧
 ((y4==s3.1)=false→
 (Kb3 (s3.1,s3.2.1,s3.2.2.1,s3.2.2.2.1,(ah s3.2.2.2.2.1 1),s3.2.2.2.2.2.1,s3.2.2.2.2.2.2.1,s3.2.2.2.2.2.2.2))))))∧
 ((!(s3.1==([]:List UInt8)))=false→
 (Kb3 (s3.1,s3.2.1,s3.2.2.1,s3.2.2.2.1,(ah s3.2.2.2.2.1 1),s3.2.2.2.2.2.1,s3.2.2.2.2.2.2.1,s3.2.2.2.2.2.2.2)))))∧
 ((decide (s3.2.2.2.2.1<3))=false→
 (Kx3 (s3.1,s3.2.1,s3.2.2.1,s3.2.2.2.1,s3.2.2.2.2.1,s3.2.2.2.2.2.1,s3.2.2.2.2.2.2.1,s3.2.2.2.2.2.2.2)))))
 (s2.1,s2.2.1,s2.2.2.1,s2.2.2.1,0,s2.2.2.2.1,s2.2.2.2.2.1,s2.2.2.2.2.2) fun s3=>
 (Kb2 (s3.1,s3.2.1,(ah s3.2.2.2.1 1),s3.2.2.2.2.2.1,s3.2.2.2.2.2.2.1,s3.2.2.2.2.2.2.2))))∧
 ((decide (s2.2.2.1<3))=false→
 (Kx2 (s2.1,s2.2.1,s2.2.2.1,s2.2.2.2.1,s2.2.2.2.2.1,s2.2.2.2.2.2)))))
 (s1.1,s1.2.1,0,s1.2.2.1,s1.2.2.2.1,s1.2.2.2.2) fun s2=>
 (Kb1 (s2.1,(ah s2.2.1 1),s2.2.2.2.1,s2.2.2.2.2.1,s2.2.2.2.2.2))))∧
 ((decide (s1.2.1≤7))=false→
 (Kx1 (s1.1,s1.2.1,s1.2.2.1,s1.2.2.2.1,s1.2.2.2.2)))))
 (p1,1,0,0,0) fun s1=>
 (K 0 0 0 false))
def mo (p1:List Int) (p2:Int) (K:Bool→Prop):Prop:=
 (ar (S:=List Int×Int×List Int×Int×Int) (fun s1 Kb1 Kx1=>
 (((decide (s1.2.2.2.2<s1.2.2.2.1))=true→
 ((aq s1.2.2.2.2 (List.length s1.2.2.1))∧
 (((decide ((gI s1.2.2.1 s1.2.2.2.2)<0))=true→
 (K false))∧
 ((decide ((gI s1.2.2.1 s1.2.2.2.2)<0))=false→
 (((decide ((gI s1.2.2.1 s1.2.2.2.2)>2))=true→
 (K false))∧
 ((decide ((gI s1.2.2.1 s1.2.2.2.2)>2))=false→
 (Kb1 (s1.1,s1.2.1,s1.2.2.1,s1.2.2.2.1,(ah s1.2.2.2.2 1)))))))))∧
 ((decide (s1.2.2.2.2<s1.2.2.2.1))=false→
 (Kx1 (s1.1,s1.2.1,s1.2.2.1,s1.2.2.2.1,s1.2.2.2.2)))))
 (p1,p2,p1,(len p1),0) fun s1=>
 (K ((len s1.1)==s1.2.1)))
def eT (p1 p2 p3 p4:List Int) (p5:Int) (p6:List Int) (p7:Int) (K:Bool→Prop):Prop:=
 (bQ p1 p2 p3 p4 fun y1=>
 (((!y1)=true→
 (K false))∧
 ((!y1)=false→
 (mo p6 (len p1) fun y2=>
 (((!y2)=true→
 (K false))∧
 ((!y2)=false→
 (((decide (p7<0))=true→
 (K false))∧
 ((decide (p7<0))=false→
 (((p5==0)=true→
 (K (p7==0)))∧
 ((p5==0)=false→
 (((p5==2)=true→
 (K (p7==0)))∧
 ((p5==2)=false→
 (((p5==1)=true→
 (K (decide (p7<(len p3)))))∧
 ((p5==1)=false→
 (((p5==3)=true→
 (K (decide (p7<(len p1)))))∧
 ((p5==3)=false→
 (K false)))))))))))))))))
def cV (p1 p2 p3 p4:List Int) (p5:Int) (p6:List Int) (p7:Int) (p8:List aA) (p9:Int) (p10:Bool) (K:Bool→Prop):Prop:=
 (eT p1 p2 p3 p4 p5 p6 p7 fun y1=>
 ((y1=true→
 (mP p8 (len p3) fun y2=>
 ((y2=true→
 (((decide (p9≥0))=true→
 (K (decide (p9≤(len p8)))))∧
 ((decide (p9≥0))=false→
 (K false))))∧
 (y2=false→
 (K false)))))∧
 (y1=false→
 (K false))))
def lk (p1 p2 p3 p4:List Int) (p5:Int) (p6:List Int) (p7:Int) (p8:List aA) (p9:Int) (p10:Bool) (K:(List Int)→(List Int)→(List Int)→(List Int)→(List Int)→(List aA)→Prop):Prop:=
 (ja p1 p2 p3 p4 fun y1 y2 y3 y4=>
 (b9 p6 fun y5=>
 (kZ p8 fun y6=>
 (K y1 y2 y3 y4 y5 y6))))
def mn (p1 p2 p3 p4:List Int) (p5 p6 p7:Int) (K:Int→Prop):Prop:=
 (bQ p1 p2 p3 p4 fun y1=>
 (((!y1)=true→
 (K (-1)))∧
 ((!y1)=false→
 (fX p5 p6 p7 (len p3) fun y2=>
 (((!y2)=true→
 (K (-1)))∧
 ((!y2)=false→
 (((p5 !=5)=true→
 (((p5 !=6)=true→
 (K (-1)))∧
 ((p5 !=6)=false→
 ((aq p6 (List.length p3))∧
 ((((gI p3 p6)==(-1))=true→
 (K (-1)))∧
 (((gI p3 p6)==(-1))=false→
 ((aq p7 (List.length p3))∧
 (K (gI p3 p7)))))))))∧
 ((p5 !=5)=false→
 ((aq p6 (List.length p3))∧
 ((((gI p3 p6)==(-1))=true→
 (K (-1)))∧
 (((gI p3 p6)==(-1))=false→
 ((aq p7 (List.length p3))∧
 (K (gI p3 p7))))))))))))))
def kT (p1 p2 p3 p4:List Int) (p5:Int) (K:Int→Bool→(List Int)→(List Int)→(List Int)→(List Int)→Prop):Prop:=
 (bQ p1 p2 p3 p4 fun y1=>
 (((!y1)=true→
 (K 0 false [] [] [] []))∧
 ((!y1)=false→
 (((decide (p5<0))=true→
 (K 0 false [] [] [] []))∧
 ((decide (p5<0))=false→
 (((decide (p5≥(len p3)))=true→
 (K 0 false [] [] [] []))∧
 ((decide (p5≥(len p3)))=false→
 ((((len p4)==0)=true→
 (K 0 false [] [] [] []))∧
 (((len p4)==0)=false→
 (ja p1 p2 p3 p4 fun y2 y3 y4 y5=>
 ((aq 0 (List.length y5))∧
 (((0:Int)≤(1:Int)∧(1:Int)≤(len y5)∧(len y5)≤len y5)∧
 ((aq p5 (List.length y4))∧
 (K (gI y5 0) true y2 y3 (uL y4 p5 (gI y5 0)) (sub y5 (1:Int) (len y5))))))))))))))))
def tP (p1 p2 p3 p4:List Int) (p5 p6 p7:Int) (K:Int→Bool→(List Int)→(List Int)→(List Int)→(List Int)→Prop):Prop:=
 (bQ p1 p2 p3 p4 fun y1=>
 (((!y1)=true→
 (K 0 false [] [] [] []))∧
 ((!y1)=false→
 (fX p5 p6 p7 (len p3) fun y2=>
 (((!y2)=true→
 (K 0 false [] [] [] []))∧
 ((!y2)=false→
 (ja p1 p2 p3 p4 fun y3 y4 y5 y6=>
 (((p5==1)=true→
 (kT y3 y4 y5 y6 p6 fun y7 y8 y9 y10 y11 y12=>
 (((!y8)=true→
 (K 1 true y3 y4 y5 y6))∧
 ((!y8)=false→
 (K 0 true y9 y10 y11 y12)))))∧
 ((p5==1)=false→
 (((p5==2)=true→
 ((aq p7 (List.length y5))∧
 ((aq p6 (List.length y5))∧
 (K 0 true y3 y4 (uL y5 p6 (gI y5 p7)) y6))))∧
 ((p5==2)=false→
 (((p5==3)=true→
 ((aq p7 (List.length y5))∧
 ((((gI y5 p7)==(-1))=true→
 (K 2 true y3 y4 y5 y6))∧
 (((gI y5 p7)==(-1))=false→
 ((aq (gI y5 p7) (List.length y3))∧
 ((aq p6 (List.length y5))∧
 (((p5==4)=true→
 ((aq (gI y5 p7) (List.length y4))∧
 ((aq p6 (List.length (uL y5 p6 (gI y3 (gI y5 p7)))))∧
 (K 0 true y3 y4 (uL (uL y5 p6 (gI y3 (gI y5 p7))) p6 (gI y4 (gI y5 p7))) y6))))∧
 ((p5==4)=false→
 (K 0 true y3 y4 (uL y5 p6 (gI y3 (gI y5 p7))) y6)))))))))∧
 ((p5==3)=false→
 (((p5==4)=true→
 ((aq p7 (List.length y5))∧
 ((((gI y5 p7)==(-1))=true→
 (K 2 true y3 y4 y5 y6))∧
 (((gI y5 p7)==(-1))=false→
 ((aq (gI y5 p7) (List.length y3))∧
 ((aq p6 (List.length y5))∧
 (((p5==4)=true→
 ((aq (gI y5 p7) (List.length y4))∧
 ((aq p6 (List.length (uL y5 p6 (gI y3 (gI y5 p7)))))∧
 (K 0 true y3 y4 (uL (uL y5 p6 (gI y3 (gI y5 p7))) p6 (gI y4 (gI y5 p7))) y6))))∧
 ((p5==4)=false→
 (K 0 true y3 y4 (uL y5 p6 (gI y3 (gI y5 p7))) y6)))))))))∧
 ((p5==4)=false→
 (((p5==5)=true→
 ((aq p6 (List.length y5))∧
 ((((gI y5 p6)==(-1))=true→
 (K 2 true y3 y4 y5 y6))∧
 (((gI y5 p6)==(-1))=false→
 (((p5==5)=true→
 ((aq p7 (List.length y5))∧
 ((aq (gI y5 p6) (List.length y3))∧
 (K 0 true (uL y3 (gI y5 p6) (gI y5 p7)) y4 y5 y6))))∧
 ((p5==5)=false→
 ((aq p7 (List.length y5))∧
 ((aq (gI y5 p6) (List.length y4))∧
 (K 0 true y3 (uL y4 (gI y5 p6) (gI y5 p7)) y5 y6)))))))))∧
 ((p5==5)=false→
 (((p5==6)=true→
 ((aq p6 (List.length y5))∧
 ((((gI y5 p6)==(-1))=true→
 (K 2 true y3 y4 y5 y6))∧
 (((gI y5 p6)==(-1))=false→
 (((p5==5)=true→
 ((aq p7 (List.length y5))∧
 ((aq (gI y5 p6) (List.length y3))∧
 (K 0 true (uL y3 (gI y5 p6) (gI y5 p7)) y4 y5 y6))))∧
 ((p5==5)=false→
 ((aq p7 (List.length y5))∧
 ((aq (gI y5 p6) (List.length y4))∧
 (K 0 true y3 (uL y4 (gI y5 p6) (gI y5 p7)) y5 y6)))))))))∧
 ((p5==6)=false→
 (((p5==7)=true→
 ((aq p6 (List.length y5))∧
 (K 0 true y3 y4 (uL y5 p6 (-1)) y6)))∧
 ((p5==7)=false→
 (K 0 true y3 y4 y5 y6))))))))))))))))))))))
def qk (p1 p2 p3:List Int) (p4:Int) (K:Bool→Prop):Prop:=
 (b8 p1 p2 p3 fun y1=>
 ((y1=true→
 (((decide (p4≥0))=true→
 (K (decide (p4<(len p1)))))∧
 ((decide (p4≥0))=false→
 (K false))))∧
 (y1=false→
 (K false))))
def me (p1 p2 p3 p4:List Int) (p5:Int) (p6:List Int) (p7 p8:Int) (K:Int→Int→Bool→(List Int)→Prop):Prop:=
 (eT p1 p2 p3 p4 p5 p6 p7 fun y1=>
 (((!y1)=true→
 (K 0 0 false []))∧
 ((!y1)=false→
 (qk p1 p2 p3 p8 fun y2=>
 (((!y2)=true→
 (K 0 0 false []))∧
 ((!y2)=false→
 (b9 p6 fun y3=>
 ((aq p8 (List.length y3))∧
 (((p5==1)=true→
 ((aq p8 (List.length (uL y3 p8 0)))∧
 (K p5 p7 true (uL (uL y3 p8 0) p8 2))))∧
 ((p5==1)=false→
 (((p5==2)=true→
 ((aq p8 (List.length (uL y3 p8 0)))∧
 (K p5 p7 true (uL (uL y3 p8 0) p8 2))))∧
 ((p5==2)=false→
 (((p5==3)=true→
 (((decide (p8≥p7))=true→
 ((aq p8 (List.length (uL y3 p8 0)))∧
 (K p5 p7 true (uL (uL y3 p8 0) p8 2))))∧
 ((decide (p8≥p7))=false→
 (K p5 p7 true (uL y3 p8 0)))))∧
 ((p5==3)=false→
 (K p5 p7 true (uL y3 p8 0))))))))))))))))
def gJ (p1:Int) (p2:List Int) (K:(List Int)→Prop):Prop:=
 (((p1 !=(-1))=true→
 ((aq p1 (List.length p2))∧
 ((((gI p2 p1)==0)=true→
 ((aq p1 (List.length p2))∧
 (K (uL p2 p1 1))))∧
 (((gI p2 p1)==0)=false→
 (K p2)))))∧
 ((p1 !=(-1))=false→
 (K p2)))
def lm (p1 p2 p3 p4:List Int) (p5:Int) (p6:List Int) (p7 p8:Int) (K:Int→Int→Bool→(List Int)→Prop):Prop:=
 (eT p1 p2 p3 p4 p5 p6 p7 fun y1=>
 (((!y1)=true→
 (K 0 0 false []))∧
 ((!y1)=false→
 (qk p1 p2 p3 p8 fun y2=>
 (((!y2)=true→
 (K 0 0 false []))∧
 ((!y2)=false→
 (b9 p6 fun y3=>
 (((p5==1)=true→
 (gJ p8 y3 fun y4=>
 (K p5 p7 true y4)))∧
 ((p5==1)=false→
 (((p5==2)=true→
 (gJ p8 y3 fun y5=>
 (K p5 p7 true y5)))∧
 ((p5==2)=false→
 (K p5 p7 true y3))))))))))))
def gD (c15_0 c15_1 c15_2 c15_3:Int) (c15_4:Bool) (c15_5 c15_6 c15_7:Int) (c15_8:Bool) (c15_9 c15_10 c15_11 c15_12 c15_13:List Int) (c15_14:List aA) (c15_15 c15_16 c15_17 c15_18 c15_19:List Int) (c15_20:List aA) (K:Int→Int→Int→Bool→Int→Bool→(List Int)→(List Int)→(List Int)→(List Int)→(List Int)→(List aA)→Prop):Prop:=
 (K c15_1 c15_2 c15_3 c15_4 c15_0 true c15_9 c15_10 c15_11 c15_12 c15_13 c15_14)
def oC (c7_0:Bool) (c7_1 c7_2 c7_3 c7_4 c7_5:Int) (c7_6:Bool) (c7_7 c7_8 c7_9:Int) (c7_10:Bool) (c7_11 c7_12 c7_13:Int) (c7_14 c7_15 c7_16 c7_17 c7_18:List Int) (c7_19:List aA) (c7_20 c7_21 c7_22 c7_23 c7_24:List Int) (c7_25:List aA) (c7_26 c7_27 c7_28 c7_29:List Int) (K:Int→Int→Int→Bool→Int→Bool→(List Int)→(List Int)→(List Int)→(List Int)→(List Int)→(List aA)→Prop):Prop:=
 (((c7_2 !=0)=true→
 (K c7_3 c7_4 (ah c7_5 1) c7_6 c7_2 true c7_26 c7_27 c7_28 c7_29 c7_18 c7_19))∧
 ((c7_2 !=0)=false→
 (((c7_11==1)=true→
 ((aq c7_12 (List.length c7_28))∧
 (me c7_26 c7_27 c7_28 c7_29 c7_3 c7_18 c7_4 (gI c7_28 c7_12) fun y15 y16 y17 y18=>
 (let j23:Prop:=
 (gD c7_2 y15 y16 (ah c7_5 1) c7_6 c7_7 c7_8 c7_9 c7_10 c7_26 c7_27 c7_28 c7_29 y18 c7_19 c7_20 c7_21 c7_22 c7_23 c7_24 c7_25 K);
 ((c7_0=true→
 (((c7_1 !=(-1))=true→
 (lm c7_26 c7_27 c7_28 c7_29 y15 y18 y16 c7_1 fun y19 y20 y21 y22=>
 (gD c7_2 y19 y20 (ah c7_5 1) c7_6 c7_7 c7_8 c7_9 c7_10 c7_26 c7_27 c7_28 c7_29 y22 c7_19 c7_20 c7_21 c7_22 c7_23 c7_24 c7_25 K)))∧
 ((c7_1 !=(-1))=false→
 j23)))∧
 (c7_0=false→
 j23))))))∧
 ((c7_11==1)=false→
 (let j28:Prop:=
 (gD c7_2 c7_3 c7_4 (ah c7_5 1) c7_6 c7_7 c7_8 c7_9 c7_10 c7_26 c7_27 c7_28 c7_29 c7_18 c7_19 c7_20 c7_21 c7_22 c7_23 c7_24 c7_25 K);
 ((c7_0=true→
 (((c7_1 !=(-1))=true→
 (lm c7_26 c7_27 c7_28 c7_29 c7_3 c7_18 c7_4 c7_1 fun y24 y25 y26 y27=>
 (gD c7_2 y24 y25 (ah c7_5 1) c7_6 c7_7 c7_8 c7_9 c7_10 c7_26 c7_27 c7_28 c7_29 y27 c7_19 c7_20 c7_21 c7_22 c7_23 c7_24 c7_25 K)))∧
 ((c7_1 !=(-1))=false→
 j28)))∧
 (c7_0=false→
 j28)))))))
def tQ (c4_0:Bool) (c4_1 c4_2 c4_3:Int) (c4_4:Bool) (c4_5 c4_6 c4_7:Int) (c4_8:Bool) (c4_9 c4_10 c4_11 c4_12 c4_13:List Int) (c4_14:List aA) (c4_15 c4_16 c4_17 c4_18 c4_19:List Int) (c4_20:List aA) (K:Int→Int→Int→Bool→Int→Bool→(List Int)→(List Int)→(List Int)→(List Int)→(List Int)→(List aA)→Prop):Prop:=
 ((aq c4_3 (List.length c4_14))∧
 (mn c4_9 c4_10 c4_11 c4_12 ((gO c4_14 c4_3).kind) ((gO c4_14 c4_3).a) ((gO c4_14 c4_3).b) fun y8=>
 (tP c4_9 c4_10 c4_11 c4_12 ((gO c4_14 c4_3).kind) ((gO c4_14 c4_3).a) ((gO c4_14 c4_3).b) fun y9 y10 y11 y12 y13 y14=>
 (oC c4_0 y8 y9 c4_1 c4_2 c4_3 c4_4 c4_5 c4_6 c4_7 c4_8 ((gO c4_14 c4_3).kind) ((gO c4_14 c4_3).a) ((gO c4_14 c4_3).b) c4_9 c4_10 c4_11 c4_12 c4_13 c4_14 c4_15 c4_16 c4_17 c4_18 c4_19 c4_20 y11 y12 y13 y14 K))))
def oL (p1 p2 p3 p4:List Int) (p5:Int) (p6:List Int) (p7:Int) (p8:List aA) (p9:Int) (p10 p11:Bool) (K:Int→Int→Int→Bool→Int→Bool→(List Int)→(List Int)→(List Int)→(List Int)→(List Int)→(List aA)→Prop):Prop:=
 (cV p1 p2 p3 p4 p5 p6 p7 p8 p9 p10 fun y1=>
 (((!y1)=true→
 (K 0 0 0 false 0 false [] [] [] [] [] []))∧
 ((!y1)=false→
 ((p10=true→
 (K 0 0 0 false 0 false [] [] [] [] [] []))∧
 (p10=false→
 (((p9==(len p8))=true→
 (K 0 0 0 false 0 false [] [] [] [] [] []))∧
 ((p9==(len p8))=false→
 (lk p1 p2 p3 p4 p5 p6 p7 p8 p9 p10 fun y2 y3 y4 y5 y6 y7=>
 (tQ p11 p5 p7 p9 p10 0 0 0 false y2 y3 y4 y5 y6 y7 [] [] [] [] [] [] K)))))))))
def rm (p1:List UInt8) (p2 p3 p4:Int) (p5 p6:Bool) (p7 p8 p9 p10 p11:List Int) (p12:List aA) (p13:List Int) (K:Bool→Int→Int→Bool→(List Int)→(List Int)→(List Int)→(List Int)→(List Int)→(List Int)→Prop):Prop:=
 (kX p1 fun y1 y2 y3 y4=>
 (((!y4)=true→
 (K false p2 p3 p5 p7 p8 p9 p10 p11 p13))∧
 ((!y4)=false→
 (oL p7 p8 p9 p10 p2 p11 p3 [(aA.mk y1 y2 y3)] 0 p5 p6 fun y5 y6 y7 y8 y9 y10 y11 y12 y13 y14 y15 y16=>
 (((!y10)=true→
 (K false p2 p3 p5 p7 p8 p9 p10 p11 p13))∧
 ((!y10)=false→
 ((aq y9 (List.length [[111,107],[102,117,108,108],[110,111,110,101]]))∧
 (let v17:List UInt8:=(gS [[111,107],[102,117,108,108],[110,111,110,101]] y9);
 (ay v17 y5 y6 p4 y8 p6 y11 y12 y13 y14 y15 p12 p13 fun y18=>
 (K true y5 y6 y8 y11 y12 y13 y14 y15 y18))))))))))
def mL (p1:List UInt8) (K:Bool→(List aA)→Prop):Prop:=
 (((p1==([]:List UInt8))=true→
 (K true []))∧
 ((p1==([]:List UInt8))=false→
 (eM p1 [44,32] fun y1=>
 (ar (S:=Int×Int×List aA×List (List UInt8)) (fun s2 Kb2 Kx2=>
 (((decide (s2.2.1<s2.1))=true→
 ((aq s2.2.1 (List.length s2.2.2.2))∧
 (kX (gS s2.2.2.2 s2.2.1) fun y3 y4 y5 y6=>
 (((!y6)=true→
 (K false []))∧
 ((!y6)=false→
 ((((len s2.2.2.1)==12)=true→
 (K false []))∧
 (((len s2.2.2.1)==12)=false→
 ((List.length s2.2.2.1+List.length ([(aA.mk y3 y4 y5)]:List aA)≤2^36)∧
 (Kb2 (s2.1,(ah s2.2.1 1),(s2.2.2.1++[(aA.mk y3 y4 y5)]),s2.2.2.2))))))))))∧
 ((decide (s2.2.1<s2.1))=false→
 (Kx2 (s2.1,s2.2.1,s2.2.2.1,s2.2.2.2)))))
 ((len y1),0,[],y1) fun s2=>
 (K true s2.2.2.1)))))
def lO (p1 p2:List UInt8) (K:List UInt8→Prop):Prop:=
 (p1.length≤9223372036854775807∧p2.length<4294967281∧p2.all (fun b=>decide (b.toNat<128))=true)∧K (Lib.trimS p1 p2)
def iE (p1 p2 p3 p4:List Int) (p5:Int) (p6:List Int) (p7:Int) (p8:List aA) (p9:Int) (p10 p11:Bool) (K:Int→Int→Int→Bool→Bool→(List Int)→(List Int)→(List Int)→(List Int)→(List Int)→(List aA)→Prop):Prop:=
 (oL p1 p2 p3 p4 p5 p6 p7 p8 p9 p10 p11 fun y1 y2 y3 y4 y5 y6 y7 y8 y9 y10 y11 y12=>
 (K y1 y2 y3 y4 y6 y7 y8 y9 y10 y11 y12))
def it (p1 p2 p3 p4:List Int) (p5:Int) (p6:List Int) (p7:Int) (K:Int→Prop):Prop:=
 (eT p1 p2 p3 p4 p5 p6 p7 fun y1=>
 (((!y1)=true→
 (K (-1)))∧
 ((!y1)=false→
 (((p5 !=3)=true→
 (K (-1)))∧
 ((p5 !=3)=false→
 ((aq p7 (List.length p6))∧
 ((((gI p6 p7) !=0)=true→
 (K (-1)))∧
 (((gI p6 p7) !=0)=false→
 (cm p4 p7 fun y2=>
 ((y2=true→
 (K (-1)))∧
 (y2=false→
 (K p7))))))))))))
def dX (p1 p2:Int) (p3 p4:List Int) (K:(List Int)→(List Int)→Prop):Prop:=
 (((p1 !=(-1))=true→
 ((aq p1 (List.length p3))∧
 ((((gI p3 p1)==0)=true→
 ((aq p1 (List.length p3))∧
 ((List.length p4+List.length ([p1]:List Int)≤2^36)∧
 (K (uL p3 p1 p2) (p4++[p1])))))∧
 (((gI p3 p1)==0)=false→
 (K p3 p4)))))∧
 ((p1 !=(-1))=false→
 (K p3 p4)))
def il (p1 p2 p3:List Int) (K:(List Int)→Prop):Prop:=
 ((0≤(len p1)∧(len p1)=(len p1)∧(len p1)≤2^36)∧
 (ar (S:=List Int×Int×Int×List Int×List Int×List Int×List Int×List Int) (fun s1 Kb1 Kx1=>
 (((decide (s1.2.2.1<s1.2.1))=true→
 ((aq s1.2.2.1 (List.length s1.1))∧
 (dX (gI s1.1 s1.2.2.1) 1 s1.2.2.2.2.2.2.1 s1.2.2.2.2.2.2.2 fun y2 y3=>
 (Kb1 (s1.1,s1.2.1,(ah s1.2.2.1 1),s1.2.2.2.1,s1.2.2.2.2.1,s1.2.2.2.2.2.1,y2,y3)))))∧
 ((decide (s1.2.2.1<s1.2.1))=false→
 (Kx1 (s1.1,s1.2.1,s1.2.2.1,s1.2.2.2.1,s1.2.2.2.2.1,s1.2.2.2.2.2.1,s1.2.2.2.2.2.2.1,s1.2.2.2.2.2.2.2)))))
 (p3,(len p3),0,p1,p2,p3,(List.replicate (Int.toNat (len p1)) (0:Int)),[]) fun s1=>
 (ar (S:=Int×List Int×List Int×List Int×List Int×List Int) (fun s4 Kb4 Kx4=>
 (((decide (s4.1<(len s4.2.2.2.2.2)))=true→
 ((aq s4.1 (List.length s4.2.2.2.2.2))∧
 ((aq (gI s4.2.2.2.2.2 s4.1) (List.length s4.2.1))∧
 ((aq s4.1 (List.length s4.2.2.2.2.2))∧
 ((aq (gI s4.2.2.2.2.2 s4.1) (List.length s4.2.2.2.2.1))∧
 (dX (gI s4.2.1 (gI s4.2.2.2.2.2 s4.1)) (ah (gI s4.2.2.2.2.1 (gI s4.2.2.2.2.2 s4.1)) 1) s4.2.2.2.2.1 s4.2.2.2.2.2 fun y5 y6=>
 ((aq s4.1 (List.length y6))∧
 ((aq (gI y6 s4.1) (List.length s4.2.2.1))∧
 ((aq s4.1 (List.length y6))∧
 ((aq (gI y6 s4.1) (List.length y5))∧
 (dX (gI s4.2.2.1 (gI y6 s4.1)) (ah (gI y5 (gI y6 s4.1)) 1) y5 y6 fun y7 y8=>
 (Kb4 ((ah s4.1 1),s4.2.1,s4.2.2.1,s4.2.2.2.1,y7,y8)))))))))))))∧
 ((decide (s4.1<(len s4.2.2.2.2.2)))=false→
 (Kx4 (s4.1,s4.2.1,s4.2.2.1,s4.2.2.2.1,s4.2.2.2.2.1,s4.2.2.2.2.2)))))
 (0,s1.2.2.2.1,s1.2.2.2.2.1,s1.2.2.2.2.2.1,s1.2.2.2.2.2.2.1,s1.2.2.2.2.2.2.2) fun s4=>
 (K s4.2.2.2.2.1))))
def ic (p1 p2 p3:List Int) (K:(List Bool)→Prop):Prop:=
 (b8 p1 p2 p3 fun y1=>
 (((!y1)=true→
 (K []))∧
 ((!y1)=false→
 (il p1 p2 p3 fun y2=>
 (ar (S:=Int×Int×List Bool×List Int) (fun s3 Kb3 Kx3=>
 (((decide (s3.2.1<s3.1))=true→
 ((aq s3.2.1 (List.length s3.2.2.2))∧
 ((List.length s3.2.2.1+List.length ([(decide ((gI s3.2.2.2 s3.2.1)>0))]:List Bool)≤2^36)∧
 (Kb3 (s3.1,(ah s3.2.1 1),(s3.2.2.1++[(decide ((gI s3.2.2.2 s3.2.1)>0))]),s3.2.2.2)))))∧
 ((decide (s3.2.1<s3.1))=false→
 (Kx3 (s3.1,s3.2.1,s3.2.2.1,s3.2.2.2)))))
 ((len y2),0,[],y2) fun s3=>
 (K s3.2.2.1))))))
def vU (p1 p2 p3 p4:List Int) (K:Bool→(List Int)→Prop):Prop:=
 (gP p4 1 fun y1=>
 (((decide (y1<0))=true→
 (K false p4))∧
 ((decide (y1<0))=false→
 ((aq y1 (List.length p1))∧
 (gJ (gI p1 y1) p4 fun y2=>
 ((aq y1 (List.length p2))∧
 (gJ (gI p2 y1) y2 fun y3=>
 ((aq y1 (List.length y3))∧
 (K true (uL y3 y1 2))))))))))
def mH (p1 p2 p3:Int) (p4:List Int) (K:Bool→Prop):Prop:=
 (((p1 !=(-1))=true→
 ((aq p1 (List.length p4))∧
 (K ((gI p4 p1)==0))))∧
 ((p1 !=(-1))=false→
 (K false)))
def g9 (p1:List Int) (p2 p3:Int) (p4:List Int) (K:Int→Int→Int→(List Int)→Prop):Prop:=
 (ar (S:=List Int×Int×Int×Int×Int×List Int) (fun s1 Kb1 Kx1=>
 (((decide (s1.2.2.1<s1.2.1))=true→
 ((aq s1.2.2.1 (List.length s1.1))∧
 (mH (gI s1.1 s1.2.2.1) s1.2.2.2.1 s1.2.2.2.2.1 s1.2.2.2.2.2 fun y2=>
 ((y2=true→
 (K s1.2.2.1 s1.2.2.2.1 s1.2.2.2.2.1 s1.2.2.2.2.2))∧
 (y2=false→
 (Kb1 (s1.1,s1.2.1,(ah s1.2.2.1 1),s1.2.2.2.1,s1.2.2.2.2.1,s1.2.2.2.2.2)))))))∧
 ((decide (s1.2.2.1<s1.2.1))=false→
 (Kx1 (s1.1,s1.2.1,s1.2.2.1,s1.2.2.2.1,s1.2.2.2.2.1,s1.2.2.2.2.2)))))
 (p1,(len p1),0,p2,p3,p4) fun s1=>
 (K (-1) s1.2.2.2.1 s1.2.2.2.2.1 s1.2.2.2.2.2))
def je (p1 p2 p3 p4 p5:List Int) (K:(List Int)→(List Int)→(List Int)→(List Int)→Prop):Prop:=
 (ar (S:=List Int×Int×Int×List Int×List Int×List Int×List Int) (fun s1 Kb1 Kx1=>
 (((decide (s1.2.2.1<s1.2.1))=true→
 ((aq s1.2.2.1 (List.length s1.1))∧
 ((aq (gI s1.1 s1.2.2.1) (List.length s1.2.2.2.1))∧
 ((aq (gI s1.1 s1.2.2.1) (List.length s1.2.2.2.2.1))∧
 (ar (S:=Int×List Int×Int×Int×Int×Int×List Int×List Int×List Int×List Int) (fun s2 Kb2 Kx2=>
 (((decide (s2.2.2.2.2.2.1<s2.2.2.2.2.1))=true→
 (let j10:=fun z8 z9=>
 (Kb2 (s2.1,s2.2.1,s2.2.2.1,s2.2.2.2.1,s2.2.2.2.2.1,(ah s2.2.2.2.2.2.1 1),z8,z9,s2.2.2.2.2.2.2.2.2.1,s2.2.2.2.2.2.2.2.2.2));
 (let j5:=fun z4=>
 ((aq s2.2.2.2.2.2.1 (List.length s2.2.2.2.2.2.2.2.1))∧
 ((((gI s2.2.2.2.2.2.2.2.1 s2.2.2.2.2.2.1)==s2.1)=true→
 ((aq s2.2.2.2.2.2.1 (List.length s2.2.2.2.2.2.2.2.1))∧
 (j10 z4 (uL s2.2.2.2.2.2.2.2.1 s2.2.2.2.2.2.1 (-1)))))∧
 (((gI s2.2.2.2.2.2.2.2.1 s2.2.2.2.2.2.1)==s2.1)=false→
 (j10 z4 s2.2.2.2.2.2.2.2.1))));
 ((aq s2.2.2.2.2.2.1 (List.length s2.2.2.2.2.2.2.1))∧
 ((((gI s2.2.2.2.2.2.2.1 s2.2.2.2.2.2.1)==s2.1)=true→
 ((aq s2.2.2.2.2.2.1 (List.length s2.2.2.2.2.2.2.1))∧
 (j5 (uL s2.2.2.2.2.2.2.1 s2.2.2.2.2.2.1 (-1)))))∧
 (((gI s2.2.2.2.2.2.2.1 s2.2.2.2.2.2.1)==s2.1)=false→
 (j5 s2.2.2.2.2.2.2.1)))))))∧
 ((decide (s2.2.2.2.2.2.1<s2.2.2.2.2.1))=false→
 (Kx2 (s2.1,s2.2.1,s2.2.2.1,s2.2.2.2.1,s2.2.2.2.2.1,s2.2.2.2.2.2.1,s2.2.2.2.2.2.2.1,s2.2.2.2.2.2.2.2.1,s2.2.2.2.2.2.2.2.2.1,s2.2.2.2.2.2.2.2.2.2)))))
 ((gI s1.1 s1.2.2.1),s1.1,s1.2.1,s1.2.2.1,(len (uL s1.2.2.2.1 (gI s1.1 s1.2.2.1) (-1))),0,(uL s1.2.2.2.1 (gI s1.1 s1.2.2.1) (-1)),(uL s1.2.2.2.2.1 (gI s1.1 s1.2.2.1) (-1)),s1.2.2.2.2.2.1,s1.2.2.2.2.2.2) fun s2=>
 ((List.length s2.2.2.2.2.2.2.2.2.2+List.length ([s2.1]:List Int)≤2^36)∧
 (Kb1 (s2.2.1,s2.2.2.1,(ah s2.2.2.2.1 1),s2.2.2.2.2.2.2.1,s2.2.2.2.2.2.2.2.1,s2.2.2.2.2.2.2.2.2.1,(s2.2.2.2.2.2.2.2.2.2++[s2.1])))))))))∧
 ((decide (s1.2.2.1<s1.2.1))=false→
 (Kx1 (s1.1,s1.2.1,s1.2.2.1,s1.2.2.2.1,s1.2.2.2.2.1,s1.2.2.2.2.2.1,s1.2.2.2.2.2.2)))))
 (p1,(len p1),0,p2,p3,p4,p5) fun s1=>
 (K s1.2.2.2.1 s1.2.2.2.2.1 s1.2.2.2.2.2.1 s1.2.2.2.2.2.2))
def ba (c27_0 c27_1 c27_2 c27_3:Int) (c27_4 c27_5 c27_6 c27_7 c27_8 c27_9 c27_10 c27_11 c27_12 c27_13:List Int) (K:Int→Int→Bool→(List Int)→(List Int)→(List Int)→(List Int)→(List Int)→Prop):Prop:=
 (K c27_0 c27_1 true c27_4 c27_5 c27_6 c27_7 c27_8)
def hZ (c4_0:Int) (c4_1 c4_2 c4_3 c4_4:List Int) (c4_5:Int) (c4_6:List Int) (c4_7 c4_8 c4_9:Int) (c4_10 c4_11 c4_12 c4_13 c4_14:List Int) (K:Int→Int→Bool→(List Int)→(List Int)→(List Int)→(List Int)→(List Int)→Prop):Prop:=
 (ja c4_1 c4_2 c4_3 c4_4 fun y8 y9 y10 y11=>
 (b9 c4_6 fun y12=>
 (((c4_5==0)=true→
 ((0≤(len y12)∧(len y12)=(len y12)∧(len y12)≤2^36)∧
 (ba 1 0 c4_8 c4_9 y8 y9 y10 y11 (List.replicate (Int.toNat (len y12)) (0:Int)) c4_10 c4_11 c4_12 c4_13 c4_14 K)))∧
 ((c4_5==0)=false→
 (((c4_5==1)=true→
 ((aq c4_7 (List.length y10))∧
 (gJ (gI y10 c4_7) y12 fun y13=>
 ((((ah c4_7 1)==(len y10))=true→
 (ba 2 0 c4_8 c4_9 y8 y9 y10 y11 y13 c4_10 c4_11 c4_12 c4_13 c4_14 K))∧
 (((ah c4_7 1)==(len y10))=false→
 (ba c4_5 (ah c4_7 1) c4_8 c4_9 y8 y9 y10 y11 y13 c4_10 c4_11 c4_12 c4_13 c4_14 K))))))∧
 ((c4_5==1)=false→
 (((c4_5==2)=true→
 (vU y8 y9 y10 y12 fun y14 y15=>
 ((y14=true→
 (ba c4_5 c4_7 c4_8 c4_9 y8 y9 y10 y11 y15 c4_10 c4_11 c4_12 c4_13 c4_14 K))∧
 (y14=false→
 (g9 y10 c4_5 c4_7 y15 fun y16 y17 y18 y19=>
 (((decide (y16≥0))=true→
 ((aq y16 (List.length y10))∧
 (gJ (gI y10 y16) y15 fun y20=>
 (ba c4_5 c4_7 c4_8 c4_9 y8 y9 y10 y11 y20 c4_10 c4_11 c4_12 c4_13 c4_14 K))))∧
 ((decide (y16≥0))=false→
 (ba 3 c4_7 c4_8 c4_9 y8 y9 y10 y11 y15 c4_10 c4_11 c4_12 c4_13 c4_14 K))))))))∧
 ((c4_5==2)=false→
 (((c4_5==3)=true→
 (((c4_0 !=(-1))=true→
 (je [c4_0] y8 y9 y10 y11 fun y21 y22 y23 y24=>
 ((aq c4_7 (List.length y12))∧
 ((((ah c4_7 1)==(len (uL y12 c4_7 0)))=true→
 (ba 0 0 c4_8 c4_9 y21 y22 y23 y24 (uL y12 c4_7 0) c4_10 c4_11 c4_12 c4_13 c4_14 K))∧
 (((ah c4_7 1)==(len (uL y12 c4_7 0)))=false→
 (ba c4_5 (ah c4_7 1) c4_8 c4_9 y21 y22 y23 y24 (uL y12 c4_7 0) c4_10 c4_11 c4_12 c4_13 c4_14 K))))))∧
 ((c4_0 !=(-1))=false→
 ((aq c4_7 (List.length y12))∧
 ((((ah c4_7 1)==(len (uL y12 c4_7 0)))=true→
 (ba 0 0 c4_8 c4_9 y8 y9 y10 y11 (uL y12 c4_7 0) c4_10 c4_11 c4_12 c4_13 c4_14 K))∧
 (((ah c4_7 1)==(len (uL y12 c4_7 0)))=false→
 (ba c4_5 (ah c4_7 1) c4_8 c4_9 y8 y9 y10 y11 (uL y12 c4_7 0) c4_10 c4_11 c4_12 c4_13 c4_14 K)))))))∧
 ((c4_5==3)=false→
 (ba c4_5 c4_7 c4_8 c4_9 y8 y9 y10 y11 y12 c4_10 c4_11 c4_12 c4_13 c4_14 K)))))))))))
def mW (p1 p2 p3 p4:List Int) (p5:Int) (p6:List Int) (p7:Int) (K:Int→Int→Bool→(List Int)→(List Int)→(List Int)→(List Int)→(List Int)→Prop):Prop:=
 (it p1 p2 p3 p4 p5 p6 p7 fun y1=>
 (eT p1 p2 p3 p4 p5 p6 p7 fun y2=>
 (((!y2)=true→
 (K 0 0 false [] [] [] [] []))∧
 ((!y2)=false→
 (((y1 !=(-1))=true→
 (cm p3 y1 fun y3=>
 ((y3=true→
 (K 0 0 false [] [] [] [] []))∧
 (y3=false→
 (hZ y1 p1 p2 p3 p4 p5 p6 p7 0 0 [] [] [] [] [] K)))))∧
 ((y1 !=(-1))=false→
 (hZ y1 p1 p2 p3 p4 p5 p6 p7 0 0 [] [] [] [] [] K)))))))
def eV (p1 p2 p3 p4:List Int) (p5:Int) (p6:List Int) (p7:Int) (p8:List aA) (p9:Int) (p10:Bool) (K:Int→Int→Int→Bool→Bool→(List Int)→(List Int)→(List Int)→(List Int)→(List Int)→(List aA)→Prop):Prop:=
 (cV p1 p2 p3 p4 p5 p6 p7 p8 p9 p10 fun y1=>
 (((!y1)=true→
 (K 0 0 0 false false [] [] [] [] [] []))∧
 ((!y1)=false→
 ((p10=true→
 (K 0 0 0 false false [] [] [] [] [] []))∧
 (p10=false→
 (lk p1 p2 p3 p4 p5 p6 p7 p8 p9 p10 fun y2 y3 y4 y5 y6 y7=>
 (it y2 y3 y4 y5 p5 y6 p7 fun y8=>
 (((y8 !=(-1))=true→
 (ic y2 y3 y4 fun y9=>
 ((aq y8 (List.length y9))∧
 (((gB y9 y8)=true→
 (K p5 p7 p9 true true y2 y3 y4 y5 y6 y7))∧
 ((gB y9 y8)=false→
 (mW y2 y3 y4 y5 p5 y6 p7 fun y10 y11 y12 y13 y14 y15 y16 y17=>
 (K y10 y11 p9 p10 true y13 y14 y15 y16 y17 y7)))))))∧
 ((y8 !=(-1))=false→
 (mW y2 y3 y4 y5 p5 y6 p7 fun y18 y19 y20 y21 y22 y23 y24 y25=>
 (K y18 y19 p9 p10 true y21 y22 y23 y24 y25 y7)))))))))))
def oI (p1 p2 p3 p4:List Int) (p5:Int) (p6:List Int) (p7:Int) (p8:List aA) (p9:Int) (p10:Bool) (p11:List UInt8) (p12:Bool) (K:Int→Int→Int→Bool→Bool→(List Int)→(List Int)→(List Int)→(List Int)→(List Int)→(List aA)→Prop):Prop:=
 (cV p1 p2 p3 p4 p5 p6 p7 p8 p9 p10 fun y1=>
 (((!y1)=true→
 (K 0 0 0 false false [] [] [] [] [] []))∧
 ((!y1)=false→
 (((decide ((len p11)>100))=true→
 (K 0 0 0 false false [] [] [] [] [] []))∧
 ((decide ((len p11)>100))=false→
 (lO p11 [111,103] fun y2=>
 (((!(y2==([]:List UInt8)))=true→
 (K 0 0 0 false false [] [] [] [] [] []))∧
 ((!(y2==([]:List UInt8)))=false→
 (lk p1 p2 p3 p4 p5 p6 p7 p8 p9 p10 fun y3 y4 y5 y6 y7 y8=>
 (ar (S:=List UInt8×Bool×Int×Int×Int×Int×Int×Bool×Int×Int×Int×Bool×List Int×List Int×List Int×List Int×List Int×List aA×List Int×List Int×List Int×List Int×List Int×List aA) (fun s9 Kb9 Kx9=>
 (((decide (s9.2.2.2.1<s9.2.2.1))=true→
 (let j84:=fun z74 z75 z76 z77 z78 z79 z80 z81 z82 z83=>
 (Kb9 (s9.1,s9.2.1,s9.2.2.1,(ah s9.2.2.2.1 1),z74,z75,z76,z77,s9.2.2.2.2.2.2.2.2.1,s9.2.2.2.2.2.2.2.2.2.1,s9.2.2.2.2.2.2.2.2.2.2.1,s9.2.2.2.2.2.2.2.2.2.2.2.1,z78,z79,z80,z81,z82,z83,s9.2.2.2.2.2.2.2.2.2.2.2.2.2.2.2.2.2.2.1,s9.2.2.2.2.2.2.2.2.2.2.2.2.2.2.2.2.2.2.2.1,s9.2.2.2.2.2.2.2.2.2.2.2.2.2.2.2.2.2.2.2.2.1,s9.2.2.2.2.2.2.2.2.2.2.2.2.2.2.2.2.2.2.2.2.2.1,s9.2.2.2.2.2.2.2.2.2.2.2.2.2.2.2.2.2.2.2.2.2.2.1,s9.2.2.2.2.2.2.2.2.2.2.2.2.2.2.2.2.2.2.2.2.2.2.2));
 (let j95:Prop:=
 (Kb9 (s9.1,s9.2.1,s9.2.2.1,(ah s9.2.2.2.1 1),s9.2.2.2.2.1,s9.2.2.2.2.2.1,s9.2.2.2.2.2.2.1,s9.2.2.2.2.2.2.2.1,s9.2.2.2.2.2.2.2.2.1,s9.2.2.2.2.2.2.2.2.2.1,s9.2.2.2.2.2.2.2.2.2.2.1,s9.2.2.2.2.2.2.2.2.2.2.2.1,s9.2.2.2.2.2.2.2.2.2.2.2.2.1,s9.2.2.2.2.2.2.2.2.2.2.2.2.2.1,s9.2.2.2.2.2.2.2.2.2.2.2.2.2.2.1,s9.2.2.2.2.2.2.2.2.2.2.2.2.2.2.2.1,s9.2.2.2.2.2.2.2.2.2.2.2.2.2.2.2.2.1,s9.2.2.2.2.2.2.2.2.2.2.2.2.2.2.2.2.2.1,s9.2.2.2.2.2.2.2.2.2.2.2.2.2.2.2.2.2.2.1,s9.2.2.2.2.2.2.2.2.2.2.2.2.2.2.2.2.2.2.2.1,s9.2.2.2.2.2.2.2.2.2.2.2.2.2.2.2.2.2.2.2.2.1,s9.2.2.2.2.2.2.2.2.2.2.2.2.2.2.2.2.2.2.2.2.2.1,s9.2.2.2.2.2.2.2.2.2.2.2.2.2.2.2.2.2.2.2.2.2.2.1,s9.2.2.2.2.2.2.2.2.2.2.2.2.2.2.2.2.2.2.2.2.2.2.2));
 ((aq s9.2.2.2.1 (List.length s9.1))∧
 ((((gC s9.1 s9.2.2.2.1)==111)=true→
 (iE s9.2.2.2.2.2.2.2.2.2.2.2.2.1 s9.2.2.2.2.2.2.2.2.2.2.2.2.2.1 s9.2.2.2.2.2.2.2.2.2.2.2.2.2.2.1 s9.2.2.2.2.2.2.2.2.2.2.2.2.2.2.2.1 s9.2.2.2.2.1 s9.2.2.2.2.2.2.2.2.2.2.2.2.2.2.2.2.1 s9.2.2.2.2.2.1 s9.2.2.2.2.2.2.2.2.2.2.2.2.2.2.2.2.2.1 s9.2.2.2.2.2.2.1 s9.2.2.2.2.2.2.2.1 s9.2.1 fun y10 y11 y12 y13 y14 y15 y16 y17 y18 y19 y20=>
 ((y14=true→
 (j84 y10 y11 y12 y13 y15 y16 y17 y18 y19 y20))∧
 (y14=false→
 j95))))∧
 (((gC s9.1 s9.2.2.2.1)==111)=false→
 (eV s9.2.2.2.2.2.2.2.2.2.2.2.2.1 s9.2.2.2.2.2.2.2.2.2.2.2.2.2.1 s9.2.2.2.2.2.2.2.2.2.2.2.2.2.2.1 s9.2.2.2.2.2.2.2.2.2.2.2.2.2.2.2.1 s9.2.2.2.2.1 s9.2.2.2.2.2.2.2.2.2.2.2.2.2.2.2.2.1 s9.2.2.2.2.2.1 s9.2.2.2.2.2.2.2.2.2.2.2.2.2.2.2.2.2.1 s9.2.2.2.2.2.2.1 s9.2.2.2.2.2.2.2.1 fun y21 y22 y23 y24 y25 y26 y27 y28 y29 y30 y31=>
 ((y25=true→
 (j84 y21 y22 y23 y24 y26 y27 y28 y29 y30 y31))∧
 (y25=false→
 j95)))))))))∧
 ((decide (s9.2.2.2.1<s9.2.2.1))=false→
 (Kx9 (s9.1,s9.2.1,s9.2.2.1,s9.2.2.2.1,s9.2.2.2.2.1,s9.2.2.2.2.2.1,s9.2.2.2.2.2.2.1,s9.2.2.2.2.2.2.2.1,s9.2.2.2.2.2.2.2.2.1,s9.2.2.2.2.2.2.2.2.2.1,s9.2.2.2.2.2.2.2.2.2.2.1,s9.2.2.2.2.2.2.2.2.2.2.2.1,s9.2.2.2.2.2.2.2.2.2.2.2.2.1,s9.2.2.2.2.2.2.2.2.2.2.2.2.2.1,s9.2.2.2.2.2.2.2.2.2.2.2.2.2.2.1,s9.2.2.2.2.2.2.2.2.2.2.2.2.2.2.2.1,s9.2.2.2.2.2.2.2.2.2.2.2.2.2.2.2.2.1,s9.2.2.2.2.2.2.2.2.2.2.2.2.2.2.2.2.2.1,s9.2.2.2.2.2.2.2.2.2.2.2.2.2.2.2.2.2.2.1,s9.2.2.2.2.2.2.2.2.2.2.2.2.2.2.2.2.2.2.2.1,s9.2.2.2.2.2.2.2.2.2.2.2.2.2.2.2.2.2.2.2.2.1,s9.2.2.2.2.2.2.2.2.2.2.2.2.2.2.2.2.2.2.2.2.2.1,s9.2.2.2.2.2.2.2.2.2.2.2.2.2.2.2.2.2.2.2.2.2.2.1,s9.2.2.2.2.2.2.2.2.2.2.2.2.2.2.2.2.2.2.2.2.2.2.2)))))
 (p11,p12,(len p11),0,p5,p7,p9,p10,0,0,0,false,y3,y4,y5,y6,y7,y8,[],[],[],[],[],[]) fun s9=>
 (K s9.2.2.2.2.1 s9.2.2.2.2.2.1 s9.2.2.2.2.2.2.1 s9.2.2.2.2.2.2.2.1 true s9.2.2.2.2.2.2.2.2.2.2.2.2.1 s9.2.2.2.2.2.2.2.2.2.2.2.2.2.1 s9.2.2.2.2.2.2.2.2.2.2.2.2.2.2.1 s9.2.2.2.2.2.2.2.2.2.2.2.2.2.2.2.1 s9.2.2.2.2.2.2.2.2.2.2.2.2.2.2.2.2.1 s9.2.2.2.2.2.2.2.2.2.2.2.2.2.2.2.2.2.1)))))))))))
def my (p1:Int) (K:(List UInt8)→Prop):Prop:=
 (((p1==(-1))=true→
 (K [45]))∧
 ((p1==(-1))=false→
 (bv p1 fun y1=>
 (K y1))))
def gf (p1 p2 p3:List Int) (K:(List UInt8)→Prop):Prop:=
 (b8 p1 p2 p3 fun y1=>
 (((!y1)=true→
 (K ([]:List UInt8)))∧
 ((!y1)=false→
 (ar (S:=List UInt8×Int×Int×List Int×List Int×List Int) (fun s2 Kb2 Kx2=>
 (((decide (s2.2.2.1<s2.2.1))=true→
 ((aq s2.2.2.1 (List.length s2.2.2.2.1))∧
 (my (gI s2.2.2.2.1 s2.2.2.1) fun y3=>
 ((aq s2.2.2.1 (List.length s2.2.2.2.2.1))∧
 (my (gI s2.2.2.2.2.1 s2.2.2.1) fun y4=>
 ((List.length y3+List.length y4≤2^62)∧
 ((List.length (y3++y4)+List.length [32]≤2^62)∧
 ((List.length s2.1+List.length ((y3++y4)++[32])≤2^62)∧
 (Kb2 ((s2.1++((y3++y4)++[32])),s2.2.1,(ah s2.2.2.1 1),s2.2.2.2.1,s2.2.2.2.2.1,s2.2.2.2.2.2))))))))))∧
 ((decide (s2.2.2.1<s2.2.1))=false→
 (Kx2 (s2.1,s2.2.1,s2.2.2.1,s2.2.2.2.1,s2.2.2.2.2.1,s2.2.2.2.2.2)))))
 (([]:List UInt8),(len p1),0,p1,p2,p3) fun s2=>
 ((List.length s2.1+List.length [47]≤2^62)∧
 (ar (S:=List UInt8×List Int×Int×Int) (fun s5 Kb5 Kx5=>
 (((decide (s5.2.2.2<s5.2.2.1))=true→
 ((aq s5.2.2.2 (List.length s5.2.1))∧
 (my (gI s5.2.1 s5.2.2.2) fun y6=>
 ((List.length [32]+List.length y6≤2^62)∧
 ((List.length s5.1+List.length ([32]++y6)≤2^62)∧
 (Kb5 ((s5.1++([32]++y6)),s5.2.1,s5.2.2.1,(ah s5.2.2.2 1))))))))∧
 ((decide (s5.2.2.2<s5.2.2.1))=false→
 (Kx5 (s5.1,s5.2.1,s5.2.2.1,s5.2.2.2)))))
 ((s2.1++[47]),s2.2.2.2.2.2,(len s2.2.2.2.2.2),0) fun s5=>
 (K s5.1)))))))
def ef (p1:List Int) (K:(List UInt8)→Prop):Prop:=
 (ar (S:=List UInt8×List Int×Int×Int) (fun s1 Kb1 Kx1=>
 (((decide (s1.2.2.2<s1.2.2.1))=true→
 ((aq s1.2.2.2 (List.length s1.2.1))∧
 (bv (gI s1.2.1 s1.2.2.2) fun y2=>
 ((List.length [32]+List.length y2≤2^62)∧
 ((List.length s1.1+List.length ([32]++y2)≤2^62)∧
 (Kb1 ((s1.1++([32]++y2)),s1.2.1,s1.2.2.1,(ah s1.2.2.2 1))))))))∧
 ((decide (s1.2.2.2<s1.2.2.1))=false→
 (Kx1 (s1.1,s1.2.1,s1.2.2.1,s1.2.2.2)))))
 (([]:List UInt8),p1,(len p1),0) fun s1=>
 (K s1.1))
def fA (p1 p2 p3 p4:List Int) (K:(List UInt8)→Prop):Prop:=
 (bQ p1 p2 p3 p4 fun y1=>
 (((!y1)=true→
 (K ([]:List UInt8)))∧
 ((!y1)=false→
 (gf p1 p2 p3 fun y2=>
 ((List.length y2+List.length [32,102,114,101,101]≤2^62)∧
 (ef p4 fun y3=>
 ((List.length (y2++[32,102,114,101,101])+List.length y3≤2^62)∧
 (K ((y2++[32,102,114,101,101])++y3)))))))))
def ce (p1 p2 p3 p4:List Int) (p5:Int) (p6:List Int) (p7:Int) (p8:List aA) (p9:Int) (p10:Bool) (K:(List UInt8)→Prop):Prop:=
 (cV p1 p2 p3 p4 p5 p6 p7 p8 p9 p10 fun y1=>
 (((!y1)=true→
 (K ([]:List UInt8)))∧
 ((!y1)=false→
 (fA p1 p2 p3 p4 fun y2=>
 ((List.length y2+List.length [32]≤2^62)∧
 ((aq p5 (List.length [[105,100,108,101],[114,111,111,116,115],[109,97,114,107],[115,119,101,101,112]]))∧
 (let v3:List UInt8:=(gS [[105,100,108,101],[114,111,111,116,115],[109,97,114,107],[115,119,101,101,112]] p5);
 ((List.length (y2++[32])+List.length v3≤2^62)∧
 ((List.length ((y2++[32])++v3)+List.length [32]≤2^62)∧
 (bv p7 fun y4=>
 ((List.length (((y2++[32])++v3)++[32])+List.length y4≤2^62)∧
 ((List.length ((((y2++[32])++v3)++[32])++y4)+List.length [32]≤2^62)∧
 (ar (S:=List UInt8×List Int×Int×Int×List Int×List Int×List Int×List Int×Int×List Int×Int×List aA×Int×Bool) (fun s5 Kb5 Kx5=>
 (((decide (s5.2.2.2.1<s5.2.2.1))=true→
 ((aq s5.2.2.2.1 (List.length s5.2.1))∧
 (((0:Int)≤(gI s5.2.1 s5.2.2.2.1)∧(gI s5.2.1 s5.2.2.2.1)≤(ah (gI s5.2.1 s5.2.2.2.1) 1)∧(ah (gI s5.2.1 s5.2.2.2.1) 1)≤len [119,103,98])∧
 (let v6:List UInt8:=(sub [119,103,98] (gI s5.2.1 s5.2.2.2.1) (ah (gI s5.2.1 s5.2.2.2.1) 1));
 ((List.length s5.1+List.length v6≤2^62)∧
 (Kb5 ((s5.1++v6),s5.2.1,s5.2.2.1,(ah s5.2.2.2.1 1),s5.2.2.2.2.1,s5.2.2.2.2.2.1,s5.2.2.2.2.2.2.1,s5.2.2.2.2.2.2.2.1,s5.2.2.2.2.2.2.2.2.1,s5.2.2.2.2.2.2.2.2.2.1,s5.2.2.2.2.2.2.2.2.2.2.1,s5.2.2.2.2.2.2.2.2.2.2.2.1,s5.2.2.2.2.2.2.2.2.2.2.2.2.1,s5.2.2.2.2.2.2.2.2.2.2.2.2.2)))))))∧
 ((decide (s5.2.2.2.1<s5.2.2.1))=false→
 (Kx5 (s5.1,s5.2.1,s5.2.2.1,s5.2.2.2.1,s5.2.2.2.2.1,s5.2.2.2.2.2.1,s5.2.2.2.2.2.2.1,s5.2.2.2.2.2.2.2.1,s5.2.2.2.2.2.2.2.2.1,s5.2.2.2.2.2.2.2.2.2.1,s5.2.2.2.2.2.2.2.2.2.2.1,s5.2.2.2.2.2.2.2.2.2.2.2.1,s5.2.2.2.2.2.2.2.2.2.2.2.2.1,s5.2.2.2.2.2.2.2.2.2.2.2.2.2)))))
 ((((((y2++[32])++v3)++[32])++y4)++[32]),p6,(len p6),0,p1,p2,p3,p4,p5,p6,p7,p8,p9,p10) fun s5=>
 (bv s5.2.2.2.2.2.2.2.2.2.2.2.2.1 fun y7=>
 ((List.length [32,97,116,32]+List.length y7≤2^62)∧
 ((List.length s5.1+List.length ([32,97,116,32]++y7)≤2^62)∧
 ((s5.2.2.2.2.2.2.2.2.2.2.2.2.2=true→
 ((List.length (s5.1++([32,97,116,32]++y7))+List.length [32,108,111,115,116]≤2^62)∧
 (let v8:List UInt8:=((s5.1++([32,97,116,32]++y7))++[32,108,111,115,116]);
 (K v8))))∧
 (s5.2.2.2.2.2.2.2.2.2.2.2.2.2=false→
 (K (s5.1++([32,97,116,32]++y7)))))))))))))))))))))
def ln (p1 p2 p3:List Int) (p4:Int) (K:(List Int)→Prop):Prop:=
 (qk p1 p2 p3 p4 fun y1=>
 (((!y1)=true→
 (K []))∧
 ((!y1)=false→
 (ar (S:=Int×Int×Int×List Int×List Int×List Int×List Int) (fun s2 Kb2 Kx2=>
 (((decide (s2.2.2.1<s2.2.1))=true→
 ((aq s2.2.2.1 (List.length s2.2.2.2.1))∧
 ((((gI s2.2.2.2.1 s2.2.2.1)==s2.1)=true→
 ((List.length s2.2.2.2.2.2.2+List.length ([s2.2.2.1]:List Int)≤2^36)∧
 (Kb2 (s2.1,s2.2.1,(ah s2.2.2.1 1),s2.2.2.2.1,s2.2.2.2.2.1,s2.2.2.2.2.2.1,(s2.2.2.2.2.2.2++[s2.2.2.1])))))∧
 (((gI s2.2.2.2.1 s2.2.2.1)==s2.1)=false→
 ((aq s2.2.2.1 (List.length s2.2.2.2.2.1))∧
 ((((gI s2.2.2.2.2.1 s2.2.2.1)==s2.1)=true→
 ((List.length s2.2.2.2.2.2.2+List.length ([s2.2.2.1]:List Int)≤2^36)∧
 (Kb2 (s2.1,s2.2.1,(ah s2.2.2.1 1),s2.2.2.2.1,s2.2.2.2.2.1,s2.2.2.2.2.2.1,(s2.2.2.2.2.2.2++[s2.2.2.1])))))∧
 (((gI s2.2.2.2.2.1 s2.2.2.1)==s2.1)=false→
 (Kb2 (s2.1,s2.2.1,(ah s2.2.2.1 1),s2.2.2.2.1,s2.2.2.2.2.1,s2.2.2.2.2.2.1,s2.2.2.2.2.2.2)))))))))∧
 ((decide (s2.2.2.1<s2.2.1))=false→
 (Kx2 (s2.1,s2.2.1,s2.2.2.1,s2.2.2.2.1,s2.2.2.2.2.1,s2.2.2.2.2.2.1,s2.2.2.2.2.2.2)))))
 (p4,(len p1),0,p1,p2,p3,[]) fun s2=>
 (K s2.2.2.2.2.2.2)))))
def pQ (p1 p2 p3:List Int) (p4:Int) (K:Bool→(List Int)→Prop):Prop:=
 (qk p1 p2 p3 p4 fun y1=>
 (((!y1)=true→
 (K false []))∧
 ((!y1)=false→
 (il p1 p2 p3 fun y2=>
 ((aq p4 (List.length y2))∧
 ((((gI y2 p4)==0)=true→
 (K false []))∧
 (((gI y2 p4)==0)=false→
 (ar (S:=List Int×List Int×List Int×List Int×List Int) (fun s3 Kb3 Kx3=>
 ((aq 0 (List.length s3.2.2.2.2))∧
 ((aq (gI s3.2.2.2.2 0) (List.length s3.2.2.2.1))∧
 (((decide ((gI s3.2.2.2.1 (gI s3.2.2.2.2 0))>1))=true→
 ((aq 0 (List.length s3.2.2.2.2))∧
 (ln s3.1 s3.2.1 s3.2.2.1 (gI s3.2.2.2.2 0) fun y4=>
 (ar (S:=Int×Int×List Int×List Int×List Int×List Int×List Int×List Int) (fun s5 Kb5 Kx5=>
 (((decide (s5.2.1<s5.1))=true→
 ((aq s5.2.1 (List.length s5.2.2.2.2.2.2.2))∧
 ((aq (gI s5.2.2.2.2.2.2.2 s5.2.1) (List.length s5.2.2.2.2.2.1))∧
 ((aq 0 (List.length s5.2.2.2.2.2.2.1))∧
 ((aq (gI s5.2.2.2.2.2.2.1 0) (List.length s5.2.2.2.2.2.1))∧
 (let v6:Bool:=((gI s5.2.2.2.2.2.1 (gI s5.2.2.2.2.2.2.2 s5.2.1))==(b6 (gI s5.2.2.2.2.2.1 (gI s5.2.2.2.2.2.2.1 0)) 1));
 ((v6=true→
 ((List.length ([(gI s5.2.2.2.2.2.2.2 s5.2.1)]:List Int)+List.length s5.2.2.2.2.2.2.1≤2^36)∧
 (Kx5 (s5.1,s5.2.1,s5.2.2.1,s5.2.2.2.1,s5.2.2.2.2.1,s5.2.2.2.2.2.1,([(gI s5.2.2.2.2.2.2.2 s5.2.1)]++s5.2.2.2.2.2.2.1),s5.2.2.2.2.2.2.2))))∧
 (v6=false→
 (Kb5 (s5.1,(ah s5.2.1 1),s5.2.2.1,s5.2.2.2.1,s5.2.2.2.2.1,s5.2.2.2.2.2.1,s5.2.2.2.2.2.2.1,s5.2.2.2.2.2.2.2))))))))))∧
 ((decide (s5.2.1<s5.1))=false→
 (Kx5 (s5.1,s5.2.1,s5.2.2.1,s5.2.2.2.1,s5.2.2.2.2.1,s5.2.2.2.2.2.1,s5.2.2.2.2.2.2.1,s5.2.2.2.2.2.2.2)))))
 ((len y4),0,s3.1,s3.2.1,s3.2.2.1,s3.2.2.2.1,s3.2.2.2.2,y4) fun s5=>
 (Kb3 (s5.2.2.1,s5.2.2.2.1,s5.2.2.2.2.1,s5.2.2.2.2.2.1,s5.2.2.2.2.2.2.1))))))∧
 ((decide ((gI s3.2.2.2.1 (gI s3.2.2.2.2 0))>1))=false→
 (Kx3 (s3.1,s3.2.1,s3.2.2.1,s3.2.2.2.1,s3.2.2.2.2)))))))
 (p1,p2,p3,y2,[p4]) fun s3=>
 (K true s3.2.2.2.2)))))))))
def k6 (p1 p2:List UInt8) (p3 p4 p5:Int) (p6 p7:Bool) (p8 p9 p10 p11 p12:List Int) (p13:List aA) (p14:List Int) (K:Bool→Int→Int→Int→Bool→Bool→(List Int)→(List Int)→(List Int)→(List Int)→(List Int)→(List aA)→(List Int)→Prop):Prop:=
 (((p1==[110,101,119])=true→
 (gn p2 [32] fun y1 y2 y3=>
 (iU y1 fun y4 y5=>
 (iU y2 fun y6 y7=>
 (((!y5)=true→
 (K false p3 p4 p5 p6 p7 p8 p9 p10 p11 p12 p13 p14))∧
 ((!y5)=false→
 (((!y7)=true→
 (K false p3 p4 p5 p6 p7 p8 p9 p10 p11 p12 p13 p14))∧
 ((!y7)=false→
 (gt y4 y6 p3 p4 p5 p6 p7 p8 p9 p10 p11 p12 p13 p14 fun y8 y9 y10 y11 y12 y13 y14 y15 y16 y17 y18 y19=>
 (((!y8)=true→
 (K false y9 y10 y11 y12 y13 y14 y15 y16 y17 y18 y19 p14))∧
 ((!y8)=false→
 (ay [111,107] y9 y10 y11 y12 y13 y14 y15 y16 y17 y18 y19 p14 fun y20=>
 (K true y9 y10 y11 y12 y13 y14 y15 y16 y17 y18 y19 y20)))))))))))))∧
 ((p1==[110,101,119])=false→
 (((p1==[100,111])=true→
 (rm p2 p3 p4 p5 p6 p7 p8 p9 p10 p11 p12 p13 p14 fun y21 y22 y23 y24 y25 y26 y27 y28 y29 y30=>
 (K y21 y22 y23 p5 y24 p7 y25 y26 y27 y28 y29 p13 y30)))∧
 ((p1==[100,111])=false→
 (((p1==[112,114,111,103,114,97,109])=true→
 (mL p2 fun y31 y32=>
 (((!y31)=true→
 (K false p3 p4 p5 p6 p7 p8 p9 p10 p11 p12 p13 p14))∧
 ((!y31)=false→
 (mP y32 (len p10) fun y33=>
 (((!y33)=true→
 (K false p3 p4 p5 p6 p7 p8 p9 p10 p11 p12 p13 p14))∧
 ((!y33)=false→
 (ay [111,107] p3 p4 0 p6 p7 p8 p9 p10 p11 p12 y32 p14 fun y34=>
 (K true p3 p4 0 p6 p7 p8 p9 p10 p11 p12 y32 y34)))))))))∧
 ((p1==[112,114,111,103,114,97,109])=false→
 (((p1==[114,117,110])=true→
 (oI p8 p9 p10 p11 p3 p12 p4 p13 p5 p6 p2 p7 fun y35 y36 y37 y38 y39 y40 y41 y42 y43 y44 y45=>
 (((!y39)=true→
 (K false p3 p4 p5 p6 p7 p8 p9 p10 p11 p12 p13 p14))∧
 ((!y39)=false→
 (ce y40 y41 y42 y43 y35 y44 y36 y45 y37 y38 fun y46=>
 (ay y46 y35 y36 y37 y38 p7 y40 y41 y42 y43 y44 y45 p14 fun y47=>
 (K true y35 y36 y37 y38 p7 y40 y41 y42 y43 y44 y45 y47)))))))∧
 ((p1==[114,117,110])=false→
 (((p1==[98,97,114,114,105,101,114])=true→
 (((!(p2==[111,110]))=true→
 (((!(p2==[111,102,102]))=true→
 (K false p3 p4 p5 p6 p7 p8 p9 p10 p11 p12 p13 p14))∧
 ((!(p2==[111,102,102]))=false→
 (ay [111,107] p3 p4 p5 p6 (p2==[111,110]) p8 p9 p10 p11 p12 p13 p14 fun y49=>
 (K true p3 p4 p5 p6 (p2==[111,110]) p8 p9 p10 p11 p12 p13 y49)))))∧
 ((!(p2==[111,110]))=false→
 (ay [111,107] p3 p4 p5 p6 (p2==[111,110]) p8 p9 p10 p11 p12 p13 p14 fun y50=>
 (K true p3 p4 p5 p6 (p2==[111,110]) p8 p9 p10 p11 p12 p13 y50)))))∧
 ((p1==[98,97,114,114,105,101,114])=false→
 (((p1==[112,97,116,104])=true→
 (iU p2 fun y51 y52=>
 (pQ p8 p9 p10 y51 fun y53 y54=>
 (((!y52)=true→
 (K false p3 p4 p5 p6 p7 p8 p9 p10 p11 p12 p13 p14))∧
 ((!y52)=false→
 (((!y53)=true→
 (K false p3 p4 p5 p6 p7 p8 p9 p10 p11 p12 p13 p14))∧
 ((!y53)=false→
 (ef y54 fun y55=>
 ((List.length [112,97,116,104]+List.length y55≤2^62)∧
 (ay ([112,97,116,104]++y55) p3 p4 p5 p6 p7 p8 p9 p10 p11 p12 p13 p14 fun y56=>
 (K true p3 p4 p5 p6 p7 p8 p9 p10 p11 p12 p13 y56)))))))))))∧
 ((p1==[112,97,116,104])=false→
 (K false p3 p4 p5 p6 p7 p8 p9 p10 p11 p12 p13 p14)))))))))))))
def jG (p1 p2 p3 p4:List Int) (p5:Int) (p6:List Int) (p7:Int) (p8:List aA) (p9:Int) (p10 p11:Bool) (K:Int→Int→Int→Bool→Bool→(List Int)→(List Int)→(List Int)→(List Int)→(List Int)→(List aA)→Prop):Prop:=
 (cV p1 p2 p3 p4 p5 p6 p7 p8 p9 p10 fun y1=>
 (((!y1)=true→
 (K 0 0 0 false false [] [] [] [] [] []))∧
 ((!y1)=false→
 (lk p1 p2 p3 p4 p5 p6 p7 p8 p9 p10 fun y2 y3 y4 y5 y6 y7=>
 (ar (S:=Bool×Int×Int×Int×Bool×Int×Int×Int×Bool×List Int×List Int×List Int×List Int×List Int×List aA×List Int×List Int×List Int×List Int×List Int×List aA) (fun s8 Kb8 Kx8=>
 (iE s8.2.2.2.2.2.2.2.2.2.1 s8.2.2.2.2.2.2.2.2.2.2.1 s8.2.2.2.2.2.2.2.2.2.2.2.1 s8.2.2.2.2.2.2.2.2.2.2.2.2.1 s8.2.1 s8.2.2.2.2.2.2.2.2.2.2.2.2.2.1 s8.2.2.1 s8.2.2.2.2.2.2.2.2.2.2.2.2.2.2.1 s8.2.2.2.1 s8.2.2.2.2.1 s8.1 fun y9 y10 y11 y12 y13 y14 y15 y16 y17 y18 y19=>
 (((!y13)=true→
 (Kx8 (s8.1,s8.2.1,s8.2.2.1,s8.2.2.2.1,s8.2.2.2.2.1,s8.2.2.2.2.2.1,s8.2.2.2.2.2.2.1,s8.2.2.2.2.2.2.2.1,s8.2.2.2.2.2.2.2.2.1,s8.2.2.2.2.2.2.2.2.2.1,s8.2.2.2.2.2.2.2.2.2.2.1,s8.2.2.2.2.2.2.2.2.2.2.2.1,s8.2.2.2.2.2.2.2.2.2.2.2.2.1,s8.2.2.2.2.2.2.2.2.2.2.2.2.2.1,s8.2.2.2.2.2.2.2.2.2.2.2.2.2.2.1,s8.2.2.2.2.2.2.2.2.2.2.2.2.2.2.2.1,s8.2.2.2.2.2.2.2.2.2.2.2.2.2.2.2.2.1,s8.2.2.2.2.2.2.2.2.2.2.2.2.2.2.2.2.2.1,s8.2.2.2.2.2.2.2.2.2.2.2.2.2.2.2.2.2.2.1,s8.2.2.2.2.2.2.2.2.2.2.2.2.2.2.2.2.2.2.2.1,s8.2.2.2.2.2.2.2.2.2.2.2.2.2.2.2.2.2.2.2.2)))∧
 ((!y13)=false→
 (Kb8 (s8.1,y9,y10,y11,y12,s8.2.2.2.2.2.1,s8.2.2.2.2.2.2.1,s8.2.2.2.2.2.2.2.1,s8.2.2.2.2.2.2.2.2.1,y14,y15,y16,y17,y18,y19,s8.2.2.2.2.2.2.2.2.2.2.2.2.2.2.2.1,s8.2.2.2.2.2.2.2.2.2.2.2.2.2.2.2.2.1,s8.2.2.2.2.2.2.2.2.2.2.2.2.2.2.2.2.2.1,s8.2.2.2.2.2.2.2.2.2.2.2.2.2.2.2.2.2.2.1,s8.2.2.2.2.2.2.2.2.2.2.2.2.2.2.2.2.2.2.2.1,s8.2.2.2.2.2.2.2.2.2.2.2.2.2.2.2.2.2.2.2.2))))))
 (p11,p5,p7,p9,p10,0,0,0,false,y2,y3,y4,y5,y6,y7,[],[],[],[],[],[]) fun s8=>
 (ar (S:=Int×Int×Int×Int×Bool×Int×Int×Int×Bool×List Int×List Int×List Int×List Int×List Int×List aA×List Int×List Int×List Int×List Int×List Int×List aA) (fun aF Kb20 Kx20=>
 (((decide (aF.1<2))=true→
 (eV aF.2.2.2.2.2.2.2.2.2.1 aF.2.2.2.2.2.2.2.2.2.2.1 aF.2.2.2.2.2.2.2.2.2.2.2.1 aF.2.2.2.2.2.2.2.2.2.2.2.2.1 aF.2.1 aF.2.2.2.2.2.2.2.2.2.2.2.2.2.1 aF.2.2.1 aF.2.2.2.2.2.2.2.2.2.2.2.2.2.2.1 aF.2.2.2.1 aF.2.2.2.2.1 fun y21 y22 y23 y24 y25 y26 y27 y28 y29 y30 y31=>
 (((!y25)=true→
 (Kx20 (aF.1,aF.2.1,aF.2.2.1,aF.2.2.2.1,aF.2.2.2.2.1,aF.2.2.2.2.2.1,aF.2.2.2.2.2.2.1,aF.2.2.2.2.2.2.2.1,aF.2.2.2.2.2.2.2.2.1,aF.2.2.2.2.2.2.2.2.2.1,aF.2.2.2.2.2.2.2.2.2.2.1,aF.2.2.2.2.2.2.2.2.2.2.2.1,aF.2.2.2.2.2.2.2.2.2.2.2.2.1,aF.2.2.2.2.2.2.2.2.2.2.2.2.2.1,aF.2.2.2.2.2.2.2.2.2.2.2.2.2.2.1,aF.2.2.2.2.2.2.2.2.2.2.2.2.2.2.2.1,aF.2.2.2.2.2.2.2.2.2.2.2.2.2.2.2.2.1,aF.2.2.2.2.2.2.2.2.2.2.2.2.2.2.2.2.2.1,aF.2.2.2.2.2.2.2.2.2.2.2.2.2.2.2.2.2.2.1,aF.2.2.2.2.2.2.2.2.2.2.2.2.2.2.2.2.2.2.2.1,aF.2.2.2.2.2.2.2.2.2.2.2.2.2.2.2.2.2.2.2.2)))∧
 ((!y25)=false→
 (((!y24)=true→
 (((y21==0)=true→
 (Kb20 ((ah aF.1 1),y21,y22,y23,y24,aF.2.2.2.2.2.1,aF.2.2.2.2.2.2.1,aF.2.2.2.2.2.2.2.1,aF.2.2.2.2.2.2.2.2.1,y26,y27,y28,y29,y30,y31,aF.2.2.2.2.2.2.2.2.2.2.2.2.2.2.2.1,aF.2.2.2.2.2.2.2.2.2.2.2.2.2.2.2.2.1,aF.2.2.2.2.2.2.2.2.2.2.2.2.2.2.2.2.2.1,aF.2.2.2.2.2.2.2.2.2.2.2.2.2.2.2.2.2.2.1,aF.2.2.2.2.2.2.2.2.2.2.2.2.2.2.2.2.2.2.2.1,aF.2.2.2.2.2.2.2.2.2.2.2.2.2.2.2.2.2.2.2.2)))∧
 ((y21==0)=false→
 (Kb20 (aF.1,y21,y22,y23,y24,aF.2.2.2.2.2.1,aF.2.2.2.2.2.2.1,aF.2.2.2.2.2.2.2.1,aF.2.2.2.2.2.2.2.2.1,y26,y27,y28,y29,y30,y31,aF.2.2.2.2.2.2.2.2.2.2.2.2.2.2.2.1,aF.2.2.2.2.2.2.2.2.2.2.2.2.2.2.2.2.1,aF.2.2.2.2.2.2.2.2.2.2.2.2.2.2.2.2.2.1,aF.2.2.2.2.2.2.2.2.2.2.2.2.2.2.2.2.2.2.1,aF.2.2.2.2.2.2.2.2.2.2.2.2.2.2.2.2.2.2.2.1,aF.2.2.2.2.2.2.2.2.2.2.2.2.2.2.2.2.2.2.2.2)))))∧
 ((!y24)=false→
 (Kb20 (aF.1,y21,y22,y23,y24,aF.2.2.2.2.2.1,aF.2.2.2.2.2.2.1,aF.2.2.2.2.2.2.2.1,aF.2.2.2.2.2.2.2.2.1,y26,y27,y28,y29,y30,y31,aF.2.2.2.2.2.2.2.2.2.2.2.2.2.2.2.1,aF.2.2.2.2.2.2.2.2.2.2.2.2.2.2.2.2.1,aF.2.2.2.2.2.2.2.2.2.2.2.2.2.2.2.2.2.1,aF.2.2.2.2.2.2.2.2.2.2.2.2.2.2.2.2.2.2.1,aF.2.2.2.2.2.2.2.2.2.2.2.2.2.2.2.2.2.2.2.1,aF.2.2.2.2.2.2.2.2.2.2.2.2.2.2.2.2.2.2.2.2))))))))∧
 ((decide (aF.1<2))=false→
 (Kx20 (aF.1,aF.2.1,aF.2.2.1,aF.2.2.2.1,aF.2.2.2.2.1,aF.2.2.2.2.2.1,aF.2.2.2.2.2.2.1,aF.2.2.2.2.2.2.2.1,aF.2.2.2.2.2.2.2.2.1,aF.2.2.2.2.2.2.2.2.2.1,aF.2.2.2.2.2.2.2.2.2.2.1,aF.2.2.2.2.2.2.2.2.2.2.2.1,aF.2.2.2.2.2.2.2.2.2.2.2.2.1,aF.2.2.2.2.2.2.2.2.2.2.2.2.2.1,aF.2.2.2.2.2.2.2.2.2.2.2.2.2.2.1,aF.2.2.2.2.2.2.2.2.2.2.2.2.2.2.2.1,aF.2.2.2.2.2.2.2.2.2.2.2.2.2.2.2.2.1,aF.2.2.2.2.2.2.2.2.2.2.2.2.2.2.2.2.2.1,aF.2.2.2.2.2.2.2.2.2.2.2.2.2.2.2.2.2.2.1,aF.2.2.2.2.2.2.2.2.2.2.2.2.2.2.2.2.2.2.2.1,aF.2.2.2.2.2.2.2.2.2.2.2.2.2.2.2.2.2.2.2.2)))))
 (0,s8.2.1,s8.2.2.1,s8.2.2.2.1,s8.2.2.2.2.1,s8.2.2.2.2.2.1,s8.2.2.2.2.2.2.1,s8.2.2.2.2.2.2.2.1,s8.2.2.2.2.2.2.2.2.1,s8.2.2.2.2.2.2.2.2.2.1,s8.2.2.2.2.2.2.2.2.2.2.1,s8.2.2.2.2.2.2.2.2.2.2.2.1,s8.2.2.2.2.2.2.2.2.2.2.2.2.1,s8.2.2.2.2.2.2.2.2.2.2.2.2.2.1,s8.2.2.2.2.2.2.2.2.2.2.2.2.2.2.1,s8.2.2.2.2.2.2.2.2.2.2.2.2.2.2.2.1,s8.2.2.2.2.2.2.2.2.2.2.2.2.2.2.2.2.1,s8.2.2.2.2.2.2.2.2.2.2.2.2.2.2.2.2.2.1,s8.2.2.2.2.2.2.2.2.2.2.2.2.2.2.2.2.2.2.1,s8.2.2.2.2.2.2.2.2.2.2.2.2.2.2.2.2.2.2.2.1,s8.2.2.2.2.2.2.2.2.2.2.2.2.2.2.2.2.2.2.2.2) fun aF=>
 (K aF.2.1 aF.2.2.1 aF.2.2.2.1 aF.2.2.2.2.1 true aF.2.2.2.2.2.2.2.2.2.1 aF.2.2.2.2.2.2.2.2.2.2.1 aF.2.2.2.2.2.2.2.2.2.2.2.1 aF.2.2.2.2.2.2.2.2.2.2.2.2.1 aF.2.2.2.2.2.2.2.2.2.2.2.2.2.1 aF.2.2.2.2.2.2.2.2.2.2.2.2.2.2.1)))))))
def ij (p1 p2 p3:List Int) (K:(List Int)→Prop):Prop:=
 (ic p1 p2 p3 fun y1=>
 (ar (S:=Int×Int×List Int×List Bool) (fun s2 Kb2 Kx2=>
 (((decide (s2.2.1<s2.1))=true→
 ((aq s2.2.1 (List.length s2.2.2.2))∧
 (((!(gB s2.2.2.2 s2.2.1))=true→
 ((List.length s2.2.2.1+List.length ([s2.2.1]:List Int)≤2^36)∧
 (Kb2 (s2.1,(ah s2.2.1 1),(s2.2.2.1++[s2.2.1]),s2.2.2.2))))∧
 ((!(gB s2.2.2.2 s2.2.1))=false→
 (Kb2 (s2.1,(ah s2.2.1 1),s2.2.2.1,s2.2.2.2))))))∧
 ((decide (s2.2.1<s2.1))=false→
 (Kx2 (s2.1,s2.2.1,s2.2.2.1,s2.2.2.2)))))
 ((len y1),0,[],y1) fun s2=>
 (K s2.2.2.1)))
def lH (p1 p2 p3 p4:List Int) (K:(List Int)→Prop):Prop:=
 (bQ p1 p2 p3 p4 fun y1=>
 (((!y1)=true→
 (K []))∧
 ((!y1)=false→
 (ij p1 p2 p3 fun y2=>
 (ar (S:=Int×Int×List Int×List Int×List Int×List Int×List Int×List Int) (fun s3 Kb3 Kx3=>
 (((decide (s3.2.1<s3.1))=true→
 ((aq s3.2.1 (List.length s3.2.2.2.2.2.2.2))∧
 (cm s3.2.2.2.2.2.1 (gI s3.2.2.2.2.2.2.2 s3.2.1) fun y4=>
 (((!y4)=true→
 ((List.length s3.2.2.2.2.2.2.1+List.length ([(gI s3.2.2.2.2.2.2.2 s3.2.1)]:List Int)≤2^36)∧
 (Kb3 (s3.1,(ah s3.2.1 1),s3.2.2.1,s3.2.2.2.1,s3.2.2.2.2.1,s3.2.2.2.2.2.1,(s3.2.2.2.2.2.2.1++[(gI s3.2.2.2.2.2.2.2 s3.2.1)]),s3.2.2.2.2.2.2.2))))∧
 ((!y4)=false→
 (Kb3 (s3.1,(ah s3.2.1 1),s3.2.2.1,s3.2.2.2.1,s3.2.2.2.2.1,s3.2.2.2.2.2.1,s3.2.2.2.2.2.2.1,s3.2.2.2.2.2.2.2)))))))∧
 ((decide (s3.2.1<s3.1))=false→
 (Kx3 (s3.1,s3.2.1,s3.2.2.1,s3.2.2.2.1,s3.2.2.2.2.1,s3.2.2.2.2.2.1,s3.2.2.2.2.2.2.1,s3.2.2.2.2.2.2.2)))))
 ((len y2),0,p1,p2,p3,p4,[],y2) fun s3=>
 (K s3.2.2.2.2.2.2.1))))))
def wH (p1 p2:List Int) (K:(List Int)→Prop):Prop:=
 (ar (S:=List Int×Int×Int×List Int) (fun s1 Kb1 Kx1=>
 (((decide (s1.2.2.1<s1.2.1))=true→
 ((aq s1.2.2.1 (List.length s1.1))∧
 ((((gI s1.1 s1.2.2.1) !=(-1))=true→
 (cm s1.2.2.2 (gI s1.1 s1.2.2.1) fun y2=>
 (((!y2)=true→
 ((List.length s1.2.2.2+List.length ([(gI s1.1 s1.2.2.1)]:List Int)≤2^36)∧
 (Kb1 (s1.1,s1.2.1,(ah s1.2.2.1 1),(s1.2.2.2++[(gI s1.1 s1.2.2.1)])))))∧
 ((!y2)=false→
 (Kb1 (s1.1,s1.2.1,(ah s1.2.2.1 1),s1.2.2.2))))))∧
 (((gI s1.1 s1.2.2.1) !=(-1))=false→
 (Kb1 (s1.1,s1.2.1,(ah s1.2.2.1 1),s1.2.2.2))))))∧
 ((decide (s1.2.2.1<s1.2.1))=false→
 (Kx1 (s1.1,s1.2.1,s1.2.2.1,s1.2.2.2)))))
 (p1,(len p1),0,p2) fun s1=>
 (K s1.2.2.2))
def oz (p1:List Int) (K:(List Int)→Prop):Prop:=
 (((0:Int)≤(0:Int)∧(0:Int)≤(len p1)∧(len p1)≤(len p1)∧(len p1)≤len p1)∧
 (K (sub p1 (0:Int) (len p1))))
def kM (p1 p2 p3:List Int) (K:(List Int)→Prop):Prop:=
 (b8 p1 p2 p3 fun y1=>
 (((!y1)=true→
 (K []))∧
 ((!y1)=false→
 (wH p3 [] fun y2=>
 (ar (S:=Int×List Int×List Int×List Int×List Int) (fun s3 Kb3 Kx3=>
 (((decide (s3.1<(len s3.2.2.2.2)))=true→
 ((aq s3.1 (List.length s3.2.2.2.2))∧
 ((aq (gI s3.2.2.2.2 s3.1) (List.length s3.2.1))∧
 ((aq s3.1 (List.length s3.2.2.2.2))∧
 ((aq (gI s3.2.2.2.2 s3.1) (List.length s3.2.2.1))∧
 (wH [(gI s3.2.1 (gI s3.2.2.2.2 s3.1)),(gI s3.2.2.1 (gI s3.2.2.2.2 s3.1))] s3.2.2.2.2 fun y4=>
 (Kb3 ((ah s3.1 1),s3.2.1,s3.2.2.1,s3.2.2.2.1,y4))))))))∧
 ((decide (s3.1<(len s3.2.2.2.2)))=false→
 (Kx3 (s3.1,s3.2.1,s3.2.2.1,s3.2.2.2.1,s3.2.2.2.2)))))
 (0,p1,p2,p3,y2) fun s3=>
 (oz s3.2.2.2.2 fun y5=>
 (K y5)))))))
def dD (p1:Int) (p2:List Int) (K:Int→Prop):Prop:=
 (gP p2 p1 fun y1=>
 (K y1))
def lQ (p1 p2 p3:List Int) (K:Bool→(List Int)→(List Int)→(List Int)→(List Int)→Prop):Prop:=
 (b8 p1 p2 p3 fun y1=>
 (((!y1)=true→
 (K false [] [] [] []))∧
 ((!y1)=false→
 (lj (len p1) (len p3) fun y2 y3 y4 y5=>
 (kM p1 p2 p3 fun y6=>
 (ar (S:=Int×Int×List Int×List Int×List Int×List Int×List Int×List Int×List Int×List Int×List Int×List Int) (fun s7 Kb7 Kx7=>
 (((decide (s7.2.1<s7.1))=true→
 ((aq s7.2.1 (List.length s7.2.2.2.2.2.1))∧
 ((aq (gI s7.2.2.2.2.2.1 s7.2.1) (List.length s7.2.2.1))∧
 (dD (gI s7.2.2.1 (gI s7.2.2.2.2.2.1 s7.2.1)) s7.2.2.2.2.2.1 fun y8=>
 ((aq (gI s7.2.2.2.2.2.1 s7.2.1) (List.length s7.2.2.2.1))∧
 (dD (gI s7.2.2.2.1 (gI s7.2.2.2.2.2.1 s7.2.1)) s7.2.2.2.2.2.1 fun y9=>
 ((aq s7.2.1 (List.length s7.2.2.2.2.2.2.2.2.2.1))∧
 ((aq s7.2.1 (List.length s7.2.2.2.2.2.2.2.2.2.2.1))∧
 (Kb7 (s7.1,(ah s7.2.1 1),s7.2.2.1,s7.2.2.2.1,s7.2.2.2.2.1,s7.2.2.2.2.2.1,s7.2.2.2.2.2.2.1,s7.2.2.2.2.2.2.2.1,s7.2.2.2.2.2.2.2.2.1,(uL s7.2.2.2.2.2.2.2.2.2.1 s7.2.1 y8),(uL s7.2.2.2.2.2.2.2.2.2.2.1 s7.2.1 y9),s7.2.2.2.2.2.2.2.2.2.2.2))))))))))∧
 ((decide (s7.2.1<s7.1))=false→
 (Kx7 (s7.1,s7.2.1,s7.2.2.1,s7.2.2.2.1,s7.2.2.2.2.1,s7.2.2.2.2.2.1,s7.2.2.2.2.2.2.1,s7.2.2.2.2.2.2.2.1,s7.2.2.2.2.2.2.2.2.1,s7.2.2.2.2.2.2.2.2.2.1,s7.2.2.2.2.2.2.2.2.2.2.1,s7.2.2.2.2.2.2.2.2.2.2.2)))))
 ((len y6),0,p1,p2,p3,y6,[],[],[],y3,y4,y5) fun s7=>
 (ar (S:=List Int×Int×Int×List Int×List Int×List Int×List Int×List Int×List Int×List Int×List Int×List Int×List Int) (fun s10 Kb10 Kx10=>
 (((decide (s10.2.2.1<s10.2.1))=true→
 ((aq s10.2.2.1 (List.length s10.1))∧
 (dD (gI s10.1 s10.2.2.1) s10.2.2.2.2.2.2.2.2.2.2.2.2 fun y11=>
 ((aq s10.2.2.1 (List.length s10.2.2.2.2.2.2.2.2.2.2.2.1))∧
 (Kb10 (s10.1,s10.2.1,(ah s10.2.2.1 1),s10.2.2.2.1,s10.2.2.2.2.1,s10.2.2.2.2.2.1,s10.2.2.2.2.2.2.1,s10.2.2.2.2.2.2.2.1,s10.2.2.2.2.2.2.2.2.1,s10.2.2.2.2.2.2.2.2.2.1,s10.2.2.2.2.2.2.2.2.2.2.1,(uL s10.2.2.2.2.2.2.2.2.2.2.2.1 s10.2.2.1 y11),s10.2.2.2.2.2.2.2.2.2.2.2.2))))))∧
 ((decide (s10.2.2.1<s10.2.1))=false→
 (Kx10 (s10.1,s10.2.1,s10.2.2.1,s10.2.2.2.1,s10.2.2.2.2.1,s10.2.2.2.2.2.1,s10.2.2.2.2.2.2.1,s10.2.2.2.2.2.2.2.1,s10.2.2.2.2.2.2.2.2.1,s10.2.2.2.2.2.2.2.2.2.1,s10.2.2.2.2.2.2.2.2.2.2.1,s10.2.2.2.2.2.2.2.2.2.2.2.1,s10.2.2.2.2.2.2.2.2.2.2.2.2)))))
 (s7.2.2.2.2.1,(len s7.2.2.2.2.1),0,s7.2.2.1,s7.2.2.2.1,s7.2.2.2.2.1,s7.2.2.2.2.2.2.1,s7.2.2.2.2.2.2.2.1,s7.2.2.2.2.2.2.2.2.1,s7.2.2.2.2.2.2.2.2.2.1,s7.2.2.2.2.2.2.2.2.2.2.1,s7.2.2.2.2.2.2.2.2.2.2.2,s7.2.2.2.2.2.1) fun s10=>
 (ar (S:=Int×Int×List Int×List Int×List Int×List Int×List Int×List Int×List Int×List Int) (fun s12 Kb12 Kx12=>
 (((decide (s12.2.1<s12.1))=true→
 (dD s12.2.1 s12.2.2.2.2.2.2.2.2.2 fun y13=>
 ((List.length s12.2.2.1+List.length ([y13]:List Int)≤2^36)∧
 (Kb12 (s12.1,(ah s12.2.1 1),(s12.2.2.1++[y13]),s12.2.2.2.1,s12.2.2.2.2.1,s12.2.2.2.2.2.1,s12.2.2.2.2.2.2.1,s12.2.2.2.2.2.2.2.1,s12.2.2.2.2.2.2.2.2.1,s12.2.2.2.2.2.2.2.2.2)))))∧
 ((decide (s12.2.1<s12.1))=false→
 (Kx12 (s12.1,s12.2.1,s12.2.2.1,s12.2.2.2.1,s12.2.2.2.2.1,s12.2.2.2.2.2.1,s12.2.2.2.2.2.2.1,s12.2.2.2.2.2.2.2.1,s12.2.2.2.2.2.2.2.2.1,s12.2.2.2.2.2.2.2.2.2)))))
 ((len s10.2.2.2.1),0,[],s10.2.2.2.2.2.2.1,s10.2.2.2.2.2.2.2.1,s10.2.2.2.2.2.2.2.2.1,s10.2.2.2.2.2.2.2.2.2.1,s10.2.2.2.2.2.2.2.2.2.2.1,s10.2.2.2.2.2.2.2.2.2.2.2.1,s10.2.2.2.2.2.2.2.2.2.2.2.2) fun s12=>
 (K true s12.2.2.2.2.2.2.1 s12.2.2.2.2.2.2.2.1 s12.2.2.2.2.2.2.2.2.1 s12.2.2.1)))))))))
def fI (p1 p2 p3 p4:List Int) (p5:Int) (p6:List Int) (p7:Int) (p8:List aA) (p9:Int) (p10 p11:Bool) (p12:List UInt8) (p13 p14 p15 p16:List Int) (p17:Int) (p18:List Int) (p19:Int) (p20:List aA) (p21:Int) (p22:Bool) (p23:List UInt8) (p24:List (List UInt8)) (p25:List ax) (K:(List (List UInt8))→(List ax)→Prop):Prop:=
 (ce p1 p2 p3 p4 p5 p6 p7 p8 p9 p10 fun y1=>
 ((p11=true→
 (((!(List.contains p24 y1))=true→
 ((List.length p23+List.length p12≤2^62)∧
 ((List.length p25+List.length ([(ax.mk (av.mk (aB.mk (rf.mk p1 p2 p3) p4) (lu.mk p5 p6 p7) p8 p9 p10) (p23++p12))]:List ax)≤2^36)∧
 (let v2:List ax:=(p25++[(ax.mk (av.mk (aB.mk (rf.mk p1 p2 p3) p4) (lu.mk p5 p6 p7) p8 p9 p10) (p23++p12))]);
 (K (ga p24 y1) v2)))))∧
 ((!(List.contains p24 y1))=false→
 (K p24 p25))))∧
 (p11=false→
 (K p24 p25))))
def o6 (p1 p2 p3 p4:List Int) (p5:Int) (p6:List Int) (p7:Int) (p8:List aA) (p9:Int) (p10 p11:Bool) (K:Bool→(List ax)→Prop):Prop:=
 (cV p1 p2 p3 p4 p5 p6 p7 p8 p9 p10 fun y1=>
 (((!y1)=true→
 (K false []))∧
 ((!y1)=false→
 (lk p1 p2 p3 p4 p5 p6 p7 p8 p9 p10 fun y2 y3 y4 y5 y6 y7=>
 (ce p1 p2 p3 p4 p5 p6 p7 p8 p9 p10 fun y8=>
 (ar (S:=Bool×Int×List ax×List (List UInt8)) (fun s9 Kb9 Kx9=>
 (((decide (s9.2.1<(len s9.2.2.1)))=true→
 ((aq s9.2.1 (List.length s9.2.2.1))∧
 (eV ((gN s9.2.2.1 s9.2.1).b.s.h.l) ((gN s9.2.2.1 s9.2.1).b.s.h.r) ((gN s9.2.2.1 s9.2.1).b.s.h.ro) ((gN s9.2.2.1 s9.2.1).b.s.free) ((gN s9.2.2.1 s9.2.1).b.g.phase) ((gN s9.2.2.1 s9.2.1).b.g.color) ((gN s9.2.2.1 s9.2.1).b.g.pos) ((gN s9.2.2.1 s9.2.1).b.ops) ((gN s9.2.2.1 s9.2.1).b.pos) ((gN s9.2.2.1 s9.2.1).b.lost) fun y10 y11 y12 y13 y14 y15 y16 y17 y18 y19 y20=>
 (fI y15 y16 y17 y18 y10 y19 y11 y20 y12 y13 y14 [103] ((gN s9.2.2.1 s9.2.1).b.s.h.l) ((gN s9.2.2.1 s9.2.1).b.s.h.r) ((gN s9.2.2.1 s9.2.1).b.s.h.ro) ((gN s9.2.2.1 s9.2.1).b.s.free) ((gN s9.2.2.1 s9.2.1).b.g.phase) ((gN s9.2.2.1 s9.2.1).b.g.color) ((gN s9.2.2.1 s9.2.1).b.g.pos) ((gN s9.2.2.1 s9.2.1).b.ops) ((gN s9.2.2.1 s9.2.1).b.pos) ((gN s9.2.2.1 s9.2.1).b.lost) ((gN s9.2.2.1 s9.2.1).road) s9.2.2.2 s9.2.2.1 fun y21 y22=>
 (iE ((gN s9.2.2.1 s9.2.1).b.s.h.l) ((gN s9.2.2.1 s9.2.1).b.s.h.r) ((gN s9.2.2.1 s9.2.1).b.s.h.ro) ((gN s9.2.2.1 s9.2.1).b.s.free) ((gN s9.2.2.1 s9.2.1).b.g.phase) ((gN s9.2.2.1 s9.2.1).b.g.color) ((gN s9.2.2.1 s9.2.1).b.g.pos) ((gN s9.2.2.1 s9.2.1).b.ops) ((gN s9.2.2.1 s9.2.1).b.pos) ((gN s9.2.2.1 s9.2.1).b.lost) s9.1 fun y23 y24 y25 y26 y27 y28 y29 y30 y31 y32 y33=>
 (fI y28 y29 y30 y31 y23 y32 y24 y33 y25 y26 y27 [111] ((gN s9.2.2.1 s9.2.1).b.s.h.l) ((gN s9.2.2.1 s9.2.1).b.s.h.r) ((gN s9.2.2.1 s9.2.1).b.s.h.ro) ((gN s9.2.2.1 s9.2.1).b.s.free) ((gN s9.2.2.1 s9.2.1).b.g.phase) ((gN s9.2.2.1 s9.2.1).b.g.color) ((gN s9.2.2.1 s9.2.1).b.g.pos) ((gN s9.2.2.1 s9.2.1).b.ops) ((gN s9.2.2.1 s9.2.1).b.pos) ((gN s9.2.2.1 s9.2.1).b.lost) ((gN s9.2.2.1 s9.2.1).road) y21 y22 fun y34 y35=>
 (((decide ((len y35)>400))=true→
 (K false []))∧
 ((decide ((len y35)>400))=false→
 (Kb9 (s9.1,(ah s9.2.1 1),y35,y34))))))))))∧
 ((decide (s9.2.1<(len s9.2.2.1)))=false→
 (Kx9 (s9.1,s9.2.1,s9.2.2.1,s9.2.2.2)))))
 (p11,0,[(ax.mk (av.mk (aB.mk (rf.mk y2 y3 y4) y5) (lu.mk p5 y6 p7) y7 p9 p10) ([]:List UInt8))],(ga [] y8)) fun s9=>
 (K true s9.2.2.1)))))))
def pt (p1 p2 p3 p4:List Int) (p5:Int) (p6:List Int) (p7:Int) (p8:List aA) (p9:Int) (p10:Bool) (p11:List UInt8) (K:Prop):Prop:=
 K
def jW (p1:List ax) (K:Int→Prop):Prop:=
 (ar (S:=List ax×Int×Int) (fun s1 Kb1 Kx1=>
 (((decide (s1.2.2<s1.2.1))=true→
 ((aq s1.2.2 (List.length s1.1))∧
 (pt ((gN s1.1 s1.2.2).b.s.h.l) ((gN s1.1 s1.2.2).b.s.h.r) ((gN s1.1 s1.2.2).b.s.h.ro) ((gN s1.1 s1.2.2).b.s.free) ((gN s1.1 s1.2.2).b.g.phase) ((gN s1.1 s1.2.2).b.g.color) ((gN s1.1 s1.2.2).b.g.pos) ((gN s1.1 s1.2.2).b.ops) ((gN s1.1 s1.2.2).b.pos) ((gN s1.1 s1.2.2).b.lost) ((gN s1.1 s1.2.2).road)<|
 (((gN s1.1 s1.2.2).b.lost=true→
 (K s1.2.2))∧
 ((gN s1.1 s1.2.2).b.lost=false→
 (Kb1 (s1.1,s1.2.1,(ah s1.2.2 1))))))))∧
 ((decide (s1.2.2<s1.2.1))=false→
 (Kx1 (s1.1,s1.2.1,s1.2.2)))))
 (p1,(len p1),0) fun s1=>
 (K (-1)))
def eq (p1:List ax) (K:Bool→Prop):Prop:=
 (jW p1 fun y1=>
 (K (decide (y1≥0))))
def oG (p1 p2 p3 p4:List Int) (p5:Int) (p6:List Int) (p7:Int) (p8:List aA) (p9:Int) (p10 p11:Bool) (K:Bool→Bool→Prop):Prop:=
 (o6 p1 p2 p3 p4 p5 p6 p7 p8 p9 p10 p11 fun y1 y2=>
 (eq y2 fun y3=>
 (K y3 y1)))
def lf (p1 p2 p3 p4:List Int) (p5:Int) (p6:List Int) (p7:Int) (p8:List aA) (p9:Int) (p10 p11:Bool) (K:(List UInt8)→Bool→Prop):Prop:=
 (o6 p1 p2 p3 p4 p5 p6 p7 p8 p9 p10 p11 fun y1 y2=>
 (ar (S:=Int×Int×List ax) (fun s3 Kb3 Kx3=>
 (((decide (s3.2.1<s3.1))=true→
 ((aq s3.2.1 (List.length s3.2.2))∧
 (((gN s3.2.2 s3.2.1).b.lost=true→
 (K ((gN s3.2.2 s3.2.1).road) true))∧
 ((gN s3.2.2 s3.2.1).b.lost=false→
 (Kb3 (s3.1,(ah s3.2.1 1),s3.2.2))))))∧
 ((decide (s3.2.1<s3.1))=false→
 (Kx3 (s3.1,s3.2.1,s3.2.2)))))
 ((len y2),0,y2) fun s3=>
 (K ([]:List UInt8) false)))
def gg (p1:List UInt8) (p2 p3 p4:Int) (p5 p6:Bool) (p7 p8 p9 p10 p11:List Int) (p12:List aA) (p13:List Int) (K:Bool→Int→Int→Int→Bool→(List Int)→(List Int)→(List Int)→(List Int)→(List Int)→(List aA)→(List Int)→Prop):Prop:=
 (((p1==[102,105,110,105,115,104])=true→
 (jG p7 p8 p9 p10 p2 p11 p3 p12 p4 p5 p6 fun y1 y2 y3 y4 y5 y6 y7 y8 y9 y10 y11=>
 (ce y6 y7 y8 y9 y1 y10 y2 y11 y3 y4 fun y12=>
 (ay y12 y1 y2 y3 y4 p6 y6 y7 y8 y9 y10 y11 p13 fun y13=>
 (K true y1 y2 y3 y4 y6 y7 y8 y9 y10 y11 y13)))))∧
 ((p1==[102,105,110,105,115,104])=false→
 (((p1==[115,104,111,119])=true→
 (ce p7 p8 p9 p10 p2 p11 p3 p12 p4 p5 fun y14=>
 (ay y14 p2 p3 p4 p5 p6 p7 p8 p9 p10 p11 p12 p13 fun y15=>
 (K true p2 p3 p4 p5 p7 p8 p9 p10 p11 p12 y15))))∧
 ((p1==[115,104,111,119])=false→
 (((p1==[115,116,111,114,101])=true→
 (fA p7 p8 p9 p10 fun y16=>
 (ay y16 p2 p3 p4 p5 p6 p7 p8 p9 p10 p11 p12 p13 fun y17=>
 (K true p2 p3 p4 p5 p7 p8 p9 p10 p11 p12 y17))))∧
 ((p1==[115,116,111,114,101])=false→
 (((p1==[103,97,114,98,97,103,101])=true→
 (ij p7 p8 p9 fun y18=>
 (ef y18 fun y19=>
 ((List.length p1+List.length y19≤2^62)∧
 (ay (p1++y19) p2 p3 p4 p5 p6 p7 p8 p9 p10 p11 p12 p13 fun y20=>
 (K true p2 p3 p4 p5 p7 p8 p9 p10 p11 p12 y20))))))∧
 ((p1==[103,97,114,98,97,103,101])=false→
 (((p1==[108,101,97,107,101,100])=true→
 (lH p7 p8 p9 p10 fun y21=>
 (ef y21 fun y22=>
 ((List.length p1+List.length y22≤2^62)∧
 (ay (p1++y22) p2 p3 p4 p5 p6 p7 p8 p9 p10 p11 p12 p13 fun y23=>
 (K true p2 p3 p4 p5 p7 p8 p9 p10 p11 p12 y23))))))∧
 ((p1==[108,101,97,107,101,100])=false→
 (((p1==[99,111,117,110,116,115])=true→
 (ju p7 p8 p9 fun y24=>
 (ef y24 fun y25=>
 ((List.length p1+List.length y25≤2^62)∧
 (ay (p1++y25) p2 p3 p4 p5 p6 p7 p8 p9 p10 p11 p12 p13 fun y26=>
 (K true p2 p3 p4 p5 p7 p8 p9 p10 p11 p12 y26))))))∧
 ((p1==[99,111,117,110,116,115])=false→
 (((p1==[111,114,100,101,114])=true→
 (kM p7 p8 p9 fun y27=>
 (ef y27 fun y28=>
 ((List.length p1+List.length y28≤2^62)∧
 (ay (p1++y28) p2 p3 p4 p5 p6 p7 p8 p9 p10 p11 p12 p13 fun y29=>
 (K true p2 p3 p4 p5 p7 p8 p9 p10 p11 p12 y29))))))∧
 ((p1==[111,114,100,101,114])=false→
 (((p1==[99,111,112,121])=true→
 (lQ p7 p8 p9 fun y30 y31 y32 y33 y34=>
 (gf y31 y32 y33 fun y35=>
 (ay y35 p2 p3 p4 p5 p6 p7 p8 p9 p10 p11 p12 p13 fun y36=>
 (K true p2 p3 p4 p5 p7 p8 p9 p10 p11 p12 y36)))))∧
 ((p1==[99,111,112,121])=false→
 (((p1==[108,111,115,101])=true→
 (oG p7 p8 p9 p10 p2 p11 p3 p12 p4 p5 p6 fun y37 y38=>
 (lf p7 p8 p9 p10 p2 p11 p3 p12 p4 p5 p6 fun y39 y40=>
 (((!y38)=true→
 (ay [117,110,107,110,111,119,110] p2 p3 p4 p5 p6 p7 p8 p9 p10 p11 p12 p13 fun y41=>
 (K true p2 p3 p4 p5 p7 p8 p9 p10 p11 p12 y41)))∧
 ((!y38)=false→
 ((y40=true→
 ((List.length [108,111,115,101,32]+List.length y39≤2^62)∧
 (ay ([108,111,115,101,32]++y39) p2 p3 p4 p5 p6 p7 p8 p9 p10 p11 p12 p13 fun y42=>
 (K true p2 p3 p4 p5 p7 p8 p9 p10 p11 p12 y42))))∧
 (y40=false→
 (ay [110,101,118,101,114] p2 p3 p4 p5 p6 p7 p8 p9 p10 p11 p12 p13 fun y43=>
 (K true p2 p3 p4 p5 p7 p8 p9 p10 p11 p12 y43)))))))))∧
 ((p1==[108,111,115,101])=false→
 (K false p2 p3 p4 p5 p7 p8 p9 p10 p11 p12 p13)))))))))))))))))))
def oK (p1:Int) (p2:Int) (p3:Int) (p4:Bool) (p5:Bool) (p6:List Int) (p7:List Int) (p8:List Int) (p9:List Int) (p10:List Int) (p11:List aA) (p12:List Int) (K:List UInt8→Prop):Prop:=(aN (aI p12)=p12∧p12.length≤2^36)∧K (aI p12)
def ii (p1:List UInt8) (K:(List UInt8)→Prop):Prop:=
 (((decide ((len p1)>20000))=true→
 (K [108,111,110,103,10]))∧
 ((decide ((len p1)>20000))=false→
 (gt 4 3 0 0 0 false false [] [] [] [] [] [] [] fun y1 y2 y3 y4 y5 y6 y7 y8 y9 y10 y11 y12=>
 (eM p1 [10] fun y13=>
 (ar (S:=Int×Int×Int×Int×Int×Bool×Bool×List (List UInt8)×List Int×List Int×List Int×List Int×List Int×List aA×List Int) (fun aD Kb14 Kx14=>
 (((decide (aD.2.1<aD.1))=true→
 (let j85:Prop:=
 (Kb14 (aD.1,(ah aD.2.1 1),aD.2.2.1,aD.2.2.2.1,aD.2.2.2.2.1,aD.2.2.2.2.2.1,aD.2.2.2.2.2.2.1,aD.2.2.2.2.2.2.2.1,aD.2.2.2.2.2.2.2.2.1,aD.2.2.2.2.2.2.2.2.2.1,aD.2.2.2.2.2.2.2.2.2.2.1,aD.2.2.2.2.2.2.2.2.2.2.2.1,aD.2.2.2.2.2.2.2.2.2.2.2.2.1,aD.2.2.2.2.2.2.2.2.2.2.2.2.2.1,aD.2.2.2.2.2.2.2.2.2.2.2.2.2.2));
 (let j110:=fun z98 z99 z100 z101 z102 z103 z104 z105 z106 z107 z108 z109=>
 (Kb14 (aD.1,(ah aD.2.1 1),z98,z99,z100,z101,z102,aD.2.2.2.2.2.2.2.1,z103,z104,z105,z106,z107,z108,z109));
 ((aq aD.2.1 (List.length aD.2.2.2.2.2.2.2.1))∧
 ((((gS aD.2.2.2.2.2.2.2.1 aD.2.1)==([]:List UInt8))=true→
 j85)∧
 (((gS aD.2.2.2.2.2.2.2.1 aD.2.1)==([]:List UInt8))=false→
 (((decide (aD.2.1≥200))=true→
 (ay [102,117,108,108] aD.2.2.1 aD.2.2.2.1 aD.2.2.2.2.1 aD.2.2.2.2.2.1 aD.2.2.2.2.2.2.1 aD.2.2.2.2.2.2.2.2.1 aD.2.2.2.2.2.2.2.2.2.1 aD.2.2.2.2.2.2.2.2.2.2.1 aD.2.2.2.2.2.2.2.2.2.2.2.1 aD.2.2.2.2.2.2.2.2.2.2.2.2.1 aD.2.2.2.2.2.2.2.2.2.2.2.2.2.1 aD.2.2.2.2.2.2.2.2.2.2.2.2.2.2 fun y15=>
 (Kx14 (aD.1,aD.2.1,aD.2.2.1,aD.2.2.2.1,aD.2.2.2.2.1,aD.2.2.2.2.2.1,aD.2.2.2.2.2.2.1,aD.2.2.2.2.2.2.2.1,aD.2.2.2.2.2.2.2.2.1,aD.2.2.2.2.2.2.2.2.2.1,aD.2.2.2.2.2.2.2.2.2.2.1,aD.2.2.2.2.2.2.2.2.2.2.2.1,aD.2.2.2.2.2.2.2.2.2.2.2.2.1,aD.2.2.2.2.2.2.2.2.2.2.2.2.2.1,y15))))∧
 ((decide (aD.2.1≥200))=false→
 (mA aD.2.2.1 aD.2.2.2.1 aD.2.2.2.2.1 aD.2.2.2.2.2.1 aD.2.2.2.2.2.2.1 aD.2.2.2.2.2.2.2.2.1 aD.2.2.2.2.2.2.2.2.2.1 aD.2.2.2.2.2.2.2.2.2.2.1 aD.2.2.2.2.2.2.2.2.2.2.2.1 aD.2.2.2.2.2.2.2.2.2.2.2.2.1 aD.2.2.2.2.2.2.2.2.2.2.2.2.2.1 aD.2.2.2.2.2.2.2.2.2.2.2.2.2.2 fun y16=>
 (((decide (y16>40000))=true→
 (ay [102,117,108,108] aD.2.2.1 aD.2.2.2.1 aD.2.2.2.2.1 aD.2.2.2.2.2.1 aD.2.2.2.2.2.2.1 aD.2.2.2.2.2.2.2.2.1 aD.2.2.2.2.2.2.2.2.2.1 aD.2.2.2.2.2.2.2.2.2.2.1 aD.2.2.2.2.2.2.2.2.2.2.2.1 aD.2.2.2.2.2.2.2.2.2.2.2.2.1 aD.2.2.2.2.2.2.2.2.2.2.2.2.2.1 aD.2.2.2.2.2.2.2.2.2.2.2.2.2.2 fun y17=>
 (Kx14 (aD.1,aD.2.1,aD.2.2.1,aD.2.2.2.1,aD.2.2.2.2.1,aD.2.2.2.2.2.1,aD.2.2.2.2.2.2.1,aD.2.2.2.2.2.2.2.1,aD.2.2.2.2.2.2.2.2.1,aD.2.2.2.2.2.2.2.2.2.1,aD.2.2.2.2.2.2.2.2.2.2.1,aD.2.2.2.2.2.2.2.2.2.2.2.1,aD.2.2.2.2.2.2.2.2.2.2.2.2.1,aD.2.2.2.2.2.2.2.2.2.2.2.2.2.1,y17))))∧
 ((decide (y16>40000))=false→
 (gn (gS aD.2.2.2.2.2.2.2.1 aD.2.1) [32] fun y18 y19 y20=>
 ((y20=true→
 (k6 y18 y19 aD.2.2.1 aD.2.2.2.1 aD.2.2.2.2.1 aD.2.2.2.2.2.1 aD.2.2.2.2.2.2.1 aD.2.2.2.2.2.2.2.2.1 aD.2.2.2.2.2.2.2.2.2.1 aD.2.2.2.2.2.2.2.2.2.2.1 aD.2.2.2.2.2.2.2.2.2.2.2.1 aD.2.2.2.2.2.2.2.2.2.2.2.2.1 aD.2.2.2.2.2.2.2.2.2.2.2.2.2.1 aD.2.2.2.2.2.2.2.2.2.2.2.2.2.2 fun y21 y22 y23 y24 y25 y26 y27 y28 y29 y30 y31 y32 y33=>
 (((!y21)=true→
 (ay [119,104,97,116] y22 y23 y24 y25 y26 y27 y28 y29 y30 y31 y32 y33 fun y34=>
 (Kb14 (aD.1,(ah aD.2.1 1),y22,y23,y24,y25,y26,aD.2.2.2.2.2.2.2.1,y27,y28,y29,y30,y31,y32,y34))))∧
 ((!y21)=false→
 (((!y20)=true→
 (gg y18 y22 y23 y24 y25 y26 y27 y28 y29 y30 y31 y32 y33 fun y35 y36 y37 y38 y39 y40 y41 y42 y43 y44 y45 y46=>
 (((!y35)=true→
 (ay [119,104,97,116] y36 y37 y38 y39 y26 y40 y41 y42 y43 y44 y45 y46 fun y47=>
 (Kb14 (aD.1,(ah aD.2.1 1),y36,y37,y38,y39,y26,aD.2.2.2.2.2.2.2.1,y40,y41,y42,y43,y44,y45,y47))))∧
 ((!y35)=false→
 (Kb14 (aD.1,(ah aD.2.1 1),y36,y37,y38,y39,y26,aD.2.2.2.2.2.2.2.1,y40,y41,y42,y43,y44,y45,y46))))))∧
 ((!y20)=false→
 (j110 y22 y23 y24 y25 y26 y27 y28 y29 y30 y31 y32 y33)))))))∧
 (y20=false→
 (((!y20)=true→
 (gg y18 aD.2.2.1 aD.2.2.2.1 aD.2.2.2.2.1 aD.2.2.2.2.2.1 aD.2.2.2.2.2.2.1 aD.2.2.2.2.2.2.2.2.1 aD.2.2.2.2.2.2.2.2.2.1 aD.2.2.2.2.2.2.2.2.2.2.1 aD.2.2.2.2.2.2.2.2.2.2.2.1 aD.2.2.2.2.2.2.2.2.2.2.2.2.1 aD.2.2.2.2.2.2.2.2.2.2.2.2.2.1 aD.2.2.2.2.2.2.2.2.2.2.2.2.2.2 fun y48 y49 y50 y51 y52 y53 y54 y55 y56 y57 y58 y59=>
 (((!y48)=true→
 (ay [119,104,97,116] y49 y50 y51 y52 aD.2.2.2.2.2.2.1 y53 y54 y55 y56 y57 y58 y59 fun y60=>
 (Kb14 (aD.1,(ah aD.2.1 1),y49,y50,y51,y52,aD.2.2.2.2.2.2.1,aD.2.2.2.2.2.2.2.1,y53,y54,y55,y56,y57,y58,y60))))∧
 ((!y48)=false→
 (j110 y49 y50 y51 y52 aD.2.2.2.2.2.2.1 y53 y54 y55 y56 y57 y58 y59)))))∧
 ((!y20)=false→
 j85))))))))))))))))∧
 ((decide (aD.2.1<aD.1))=false→
 (Kx14 (aD.1,aD.2.1,aD.2.2.1,aD.2.2.2.1,aD.2.2.2.2.1,aD.2.2.2.2.2.1,aD.2.2.2.2.2.2.1,aD.2.2.2.2.2.2.2.1,aD.2.2.2.2.2.2.2.2.1,aD.2.2.2.2.2.2.2.2.2.1,aD.2.2.2.2.2.2.2.2.2.2.1,aD.2.2.2.2.2.2.2.2.2.2.2.1,aD.2.2.2.2.2.2.2.2.2.2.2.2.1,aD.2.2.2.2.2.2.2.2.2.2.2.2.2.1,aD.2.2.2.2.2.2.2.2.2.2.2.2.2.2)))))
 ((len y13),0,y2,y3,y4,y5,y6,y13,y7,y8,y9,y10,y11,y12,[]) fun aD=>
 (oK aD.2.2.1 aD.2.2.2.1 aD.2.2.2.2.1 aD.2.2.2.2.2.1 aD.2.2.2.2.2.2.1 aD.2.2.2.2.2.2.2.2.1 aD.2.2.2.2.2.2.2.2.2.1 aD.2.2.2.2.2.2.2.2.2.2.1 aD.2.2.2.2.2.2.2.2.2.2.2.1 aD.2.2.2.2.2.2.2.2.2.2.2.2.1 aD.2.2.2.2.2.2.2.2.2.2.2.2.2.1 aD.2.2.2.2.2.2.2.2.2.2.2.2.2.2 fun y111=>
 (K y111)))))))
def f9 (p1:List UInt8) (K:Bool→Prop):Prop:=
 (((decide ((len p1)>1048576))=true→
 (K true))∧
 ((decide ((len p1)>1048576))=false→
 (lv p1 fun y1=>
 (ii p1 fun y2=>
 (((!(y2==y1))=true→
 (K false))∧
 ((!(y2==y1))=false→
 (K true)))))))
end Go.Ab
