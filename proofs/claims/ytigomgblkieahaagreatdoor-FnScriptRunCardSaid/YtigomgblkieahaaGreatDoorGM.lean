/- What is proved here: nothing: the typed models of functions of the translated program. -/
import Derived.Test.YtigomgblkieahaaGreatDoorT19
import Derived.Lib.AtoiAll
import Derived.Lib.AtoiTie
import Derived.Lib.IndexMore
import Derived.Lib.ItoaNum
import Derived.Lib.Join
import Derived.Lib.Split
import Derived.Lib.SplitLaws
namespace Go.Ab
set_option linter.unusedVariables false
def Ms_l13Open (p1:List Int) (K:(List Int)→Int→Prop):Prop:=
 (((decide ((len p1)>2000))=true→
 (((0:Int)≤(0:Int)∧(0:Int)≤(2000:Int)∧(2000:Int)≤len p1)∧
 (K (sub p1 (0:Int) (2000:Int)) 0)))∧
 ((decide ((len p1)>2000))=false→
 (K p1 0)))
def Ms_l13Rd_pick (p1:Int) (p2:List Int) (p3:Int) (K:Int→Int→Prop):Prop:=
 (((decide (p1<1))=true→
 (K 0 (iadd p3 1)))∧
 ((decide (p1<1))=false→
 ((((len p2)==0)=true→
 (K 0 (iadd p3 1)))∧
 (((len p2)==0)=false→
 (((decide ((isub (iadd p3 1) 1)<(len p2)))=true→
 ((inB (isub (iadd p3 1) 1) (List.length p2))∧
 ((p1≠0)∧
 (let v1:Int:=(Int.tmod (IntKind.wrap .i64 (gY p2 (isub (iadd p3 1) 1))) p1);
 (K v1 (iadd p3 1))))))∧
 ((decide ((isub (iadd p3 1) 1)<(len p2)))=false→
 (((len p2)≠0)∧
 ((inB (Int.tmod (isub (iadd p3 1) 1) (len p2)) (List.length p2))∧
 (let v2:Int:=(IntKind.wrap .i64 (gY p2 (Int.tmod (isub (iadd p3 1) 1) (len p2))));
 (((len p2)≠0)∧
 ((inB (Int.tmod (iadd (imul (isub (iadd p3 1) 1) 7) 3) (len p2)) (List.length p2))∧
 (let v3:Int:=(gY p2 (Int.tmod (iadd (imul (isub (iadd p3 1) 1) 7) 3) (len p2)));
 (let v4:Int:=(iadd (iadd (imul v2 131) (imul (IntKind.wrap .i64 v3) 1117)) (imul (isub (iadd p3 1) 1) 29));
 (((len p2)≠0)∧
 (((64:Int)≠0)∧
 (let v5:Int:=(iquo (iadd v4 (imul (iquo (isub (iadd p3 1) 1) (len p2)) 53)) 64);
 (let v6:Int:=(IntKind.wrap .i64 (((BitVec.ofInt (IntKind.bits .i64) (iadd v4 (imul (iquo (isub (iadd p3 1) 1) (len p2)) 53))^^^BitVec.ofInt (IntKind.bits .i64) v5).toNat:Int)));
 ((p1≠0)∧
 (K (Int.tmod v6 p1) (iadd p3 1))))))))))))))))))))
def Ms_l13Rd_num (p1:List Int) (p2:List Int) (p3:Int) (K:Int→Int→Prop):Prop:=
 (Ms_l13Rd_pick (len p1) p2 p3 fun(y1:Int) (y2:Int)=>
 ((inB y1 (List.length p1))∧
 (K (gI p1 y1) y2)))
def M_math_bits_Mul64 (p1:Int) (p2:Int) (K:Int→Int→Prop):Prop:=
 (let v1:Int:=(IntKind.wrap .u64 (((BitVec.ofInt (IntKind.bits .u64) p1&&&BitVec.ofInt (IntKind.bits .u64) 4294967295).toNat:Int)));
 (((0:Int)≤(32:Int))∧
 (let v2:Int:=(IntKind.wrap .u64 (((BitVec.ofInt (IntKind.bits .u64) p2&&&BitVec.ofInt (IntKind.bits .u64) 4294967295).toNat:Int)));
 (((0:Int)≤(32:Int))∧
 (let v3:Int:=(IntKind.wrap .u64 ((Int.fdiv p1 (2^min (Int.toNat 32) (IntKind.bits .u64)))*v2));
 (((0:Int)≤(32:Int))∧
 (let v4:Int:=(Int.fdiv (IntKind.wrap .u64 (v1*v2)) (2^min (Int.toNat 32) (IntKind.bits .u64)));
 (let v5:Int:=(IntKind.wrap .u64 (((BitVec.ofInt (IntKind.bits .u64) (IntKind.wrap .u64 (v3+v4))&&&BitVec.ofInt (IntKind.bits .u64) 4294967295).toNat:Int)));
 (((0:Int)≤(32:Int))∧
 (let v6:Int:=(Int.fdiv (IntKind.wrap .u64 (v3+v4)) (2^min (Int.toNat 32) (IntKind.bits .u64)));
 (let v7:Int:=(IntKind.wrap .u64 (v1*(Int.fdiv p2 (2^min (Int.toNat 32) (IntKind.bits .u64)))));
 (let v8:Int:=(IntKind.wrap .u64 ((Int.fdiv p1 (2^min (Int.toNat 32) (IntKind.bits .u64)))*(Int.fdiv p2 (2^min (Int.toNat 32) (IntKind.bits .u64)))));
 (((0:Int)≤(32:Int))∧
 (let v9:Int:=(Int.fdiv (IntKind.wrap .u64 (v5+v7)) (2^min (Int.toNat 32) (IntKind.bits .u64)));
 (K (IntKind.wrap .u64 ((IntKind.wrap .u64 (v8+v6))+v9)) (IntKind.wrap .u64 (p1*p2)))))))))))))))))
def M_math_bits_Mul (p1:Int) (p2:Int) (K:Int→Int→Prop):Prop:=
 (M_math_bits_Mul64 p1 p2 fun(y1:Int) (y2:Int)=>
 (K y1 y2))
def M_Repeat_int (p1:List Int) (p2:Int) (K:(List Int)→Prop):Prop:=
 (((decide (p2<0))=true→
 False)∧
 ((decide (p2<0))=false→
 (M_math_bits_Mul (IntKind.wrap .u64 (len p1)) (IntKind.wrap .u64 p2) fun(y1:Int) (y2:Int)=>
 (((decide (y1>0))=true→
 False)∧
 ((decide (y1>0))=false→
 (((decide (y2>9223372036854775807))=true→
 False)∧
 ((decide (y2>9223372036854775807))=false→
 ((0≤(IntKind.wrap .i64 y2)∧(IntKind.wrap .i64 y2)=(IntKind.wrap .i64 y2)∧(IntKind.wrap .i64 y2)≤2^36)∧
 (let v3:List Int:=(List.replicate (Int.toNat (IntKind.wrap .i64 y2)) (0:Int));
 (((0:Nat)<List.length p1∧(0:Int)<((List.length v3:Nat):Int))∧
 (let v4:Int:=((Nat.min (List.length p1) (Int.toNat (((List.length v3:Nat):Int)-(0:Int))):Nat):Int);
 (let v5:List Int:=(setC v3 (Int.toNat (0:Int)) (List.take (Int.toNat (((List.length v3:Nat):Int)-(0:Int))) p1));
 (LoopP (S:=Int×List Int) (fun s6 Kb6 Kx6=>
 (((decide (s6.1<(len s6.2)))=true→
 (((0:Int)≤s6.1∧s6.1≤((List.length s6.2:Nat):Int)∧((List.length s6.2:Nat):Int)≤((List.length s6.2:Nat):Int))∧
 (((0:Int)≤(0:Int)∧(0:Int)≤s6.1∧s6.1≤((List.length s6.2:Nat):Int))∧
 (((0:Nat)<List.length (sub s6.2 (0:Int) s6.1)∧s6.1<((List.length s6.2:Nat):Int))∧
 (let v7:Int:=((Nat.min (List.length (sub s6.2 (0:Int) s6.1)) (Int.toNat (((List.length s6.2:Nat):Int)-s6.1)):Nat):Int);
 (let v8:List Int:=(setC s6.2 (Int.toNat s6.1) (List.take (Int.toNat (((List.length s6.2:Nat):Int)-s6.1)) (sub s6.2 (0:Int) s6.1)));
 (Kb6 ((iadd s6.1 v7),v8))))))))∧
 ((decide (s6.1<(len s6.2)))=false→
 (Kx6 (s6.1,s6.2)))))
 (v4,v5) fun s6=>
 (K s6.2))))))))))))))
def Mi_NewHeap (p1:Int) (p2:Int) (K:Bool→(List Int)→(List Int)→(List Int)→Prop):Prop:=
 (((decide (p1<1))=true→
 (K false [] [] []))∧
 ((decide (p1<1))=false→
 (((decide (p1>8))=true→
 (K false [] [] []))∧
 ((decide (p1>8))=false→
 (((decide (p2<1))=true→
 (K false [] [] []))∧
 ((decide (p2<1))=false→
 (((decide (p2>3))=true→
 (K false [] [] []))∧
 ((decide (p2>3))=false→
 (M_Repeat_int [(-1)] p1 fun(y1:List Int)=>
 (M_Repeat_int [(-1)] p1 fun(y2:List Int)=>
 (M_Repeat_int [(-1)] p2 fun(y3:List Int)=>
 (K true y1 y2 y3))))))))))))
def Mi_NewStore (p1:Int) (p2:Int) (K:Bool→(List Int)→(List Int)→(List Int)→(List Int)→Prop):Prop:=
 (Mi_NewHeap p1 p2 fun(y1:Bool) (y2:List Int) (y3:List Int) (y4:List Int)=>
 (((!y1)=true→
 (K false [] [] [] []))∧
 ((!y1)=false→
 (LoopP (S:=Int×Int×List Int×List Int×List Int×List Int×List Int×List Int×List Int×List Int) (fun s5 Kb5 Kx5=>
 (((decide (s5.2.1<s5.1))=true→
 ((List.length s5.2.2.2.2.2.2.2.2.2+List.length ([s5.2.1]:List Int)≤2^36)∧
 (Kb5 (s5.1,(iadd s5.2.1 1),s5.2.2.1,s5.2.2.2.1,s5.2.2.2.2.1,s5.2.2.2.2.2.1,s5.2.2.2.2.2.2.1,s5.2.2.2.2.2.2.2.1,s5.2.2.2.2.2.2.2.2.1,(s5.2.2.2.2.2.2.2.2.2++[s5.2.1])))))∧
 ((decide (s5.2.1<s5.1))=false→
 (Kx5 (s5.1,s5.2.1,s5.2.2.1,s5.2.2.2.1,s5.2.2.2.2.1,s5.2.2.2.2.2.1,s5.2.2.2.2.2.2.1,s5.2.2.2.2.2.2.2.1,s5.2.2.2.2.2.2.2.2.1,s5.2.2.2.2.2.2.2.2.2)))))
 (p1,0,[],[],[],[],y2,y3,y4,[]) fun s5=>
 (K true s5.2.2.2.2.2.2.1 s5.2.2.2.2.2.2.2.1 s5.2.2.2.2.2.2.2.2.1 s5.2.2.2.2.2.2.2.2.2)))))
def Ms_l1Many (p1:Int) (K:(List Int)→Prop):Prop:=
 (LoopP (S:=Int×Int×List Int) (fun s1 Kb1 Kx1=>
 (((decide (s1.2.1<s1.1))=true→
 ((List.length s1.2.2+List.length ([(-1)]:List Int)≤2^36)∧
 (Kb1 (s1.1,(iadd s1.2.1 1),(s1.2.2++[(-1)])))))∧
 ((decide (s1.2.1<s1.1))=false→
 (Kx1 (s1.1,s1.2.1,s1.2.2)))))
 (p1,0,[]) fun s1=>
 (K s1.2.2))
def Ms_NewHeap (p1:Int) (p2:Int) (K:Bool→(List Int)→(List Int)→(List Int)→Prop):Prop:=
 (((decide (p1<1))=true→
 (K false [] [] []))∧
 ((decide (p1<1))=false→
 (((decide (p1>8))=true→
 (K false [] [] []))∧
 ((decide (p1>8))=false→
 (((decide (p2<1))=true→
 (K false [] [] []))∧
 ((decide (p2<1))=false→
 (((decide (p2>3))=true→
 (K false [] [] []))∧
 ((decide (p2>3))=false→
 (Ms_l1Many p1 fun(y1:List Int)=>
 (Ms_l1Many p1 fun(y2:List Int)=>
 (Ms_l1Many p2 fun(y3:List Int)=>
 (K true y1 y2 y3))))))))))))
def Ms_NewStore (p1:Int) (p2:Int) (K:Bool→(List Int)→(List Int)→(List Int)→(List Int)→Prop):Prop:=
 (Ms_NewHeap p1 p2 fun(y1:Bool) (y2:List Int) (y3:List Int) (y4:List Int)=>
 (((!y1)=true→
 (K false [] [] [] []))∧
 ((!y1)=false→
 (LoopP (S:=Int×Int×List Int×List Int×List Int×List Int×List Int×List Int×List Int×List Int) (fun s5 Kb5 Kx5=>
 (((decide (s5.2.1<s5.1))=true→
 ((List.length s5.2.2.2.2.2.2.2.2.2+List.length ([s5.2.1]:List Int)≤2^36)∧
 (Kb5 (s5.1,(iadd s5.2.1 1),s5.2.2.1,s5.2.2.2.1,s5.2.2.2.2.1,s5.2.2.2.2.2.1,s5.2.2.2.2.2.2.1,s5.2.2.2.2.2.2.2.1,s5.2.2.2.2.2.2.2.2.1,(s5.2.2.2.2.2.2.2.2.2++[s5.2.1])))))∧
 ((decide (s5.2.1<s5.1))=false→
 (Kx5 (s5.1,s5.2.1,s5.2.2.1,s5.2.2.2.1,s5.2.2.2.2.1,s5.2.2.2.2.2.1,s5.2.2.2.2.2.2.1,s5.2.2.2.2.2.2.2.1,s5.2.2.2.2.2.2.2.2.1,s5.2.2.2.2.2.2.2.2.2)))))
 (p1,0,[],[],[],[],y2,y3,y4,[]) fun s5=>
 (K true s5.2.2.2.2.2.2.1 s5.2.2.2.2.2.2.2.1 s5.2.2.2.2.2.2.2.2.1 s5.2.2.2.2.2.2.2.2.2)))))
def Mi_HeapValid (p1:List Int) (p2:List Int) (p3:List Int) (K:Bool→Prop):Prop:=
 ((((len p1) !=(len p2))=true→
 (K false))∧
 (((len p1) !=(len p2))=false→
 (((decide ((len p1)<1))=true→
 (K false))∧
 ((decide ((len p1)<1))=false→
 (((decide ((len p1)>8))=true→
 (K false))∧
 ((decide ((len p1)>8))=false→
 (((decide ((len p3)<1))=true→
 (K false))∧
 ((decide ((len p3)<1))=false→
 (((decide ((len p3)>3))=true→
 (K false))∧
 ((decide ((len p3)>3))=false→
 (LoopP (S:=Int×Int×List Int×List Int×List Int×List (List Int)) (fun s1 Kb1 Kx1=>
 (((decide (s1.2.1<s1.1))=true→
 ((inB s1.2.1 (List.length s1.2.2.2.2.2))∧
 (LoopP (S:=Int×Int×List Int×Int×Int×List Int×List Int×List Int×List (List Int)) (fun s2 Kb2 Kx2=>
 (((decide (s2.2.2.2.2.1<s2.2.2.2.1))=true→
 ((inB s2.2.2.2.2.1 (List.length s2.2.2.1))∧
 (((decide ((gI s2.2.2.1 s2.2.2.2.2.1)<(-1)))=true→
 (K false))∧
 ((decide ((gI s2.2.2.1 s2.2.2.2.2.1)<(-1)))=false→
 (((decide ((gI s2.2.2.1 s2.2.2.2.2.1)≥(len s2.2.2.2.2.2.1)))=true→
 (K false))∧
 ((decide ((gI s2.2.2.1 s2.2.2.2.2.1)≥(len s2.2.2.2.2.2.1)))=false→
 (Kb2 (s2.1,s2.2.1,s2.2.2.1,s2.2.2.2.1,(iadd s2.2.2.2.2.1 1),s2.2.2.2.2.2.1,s2.2.2.2.2.2.2.1,s2.2.2.2.2.2.2.2.1,s2.2.2.2.2.2.2.2.2))))))))∧
 ((decide (s2.2.2.2.2.1<s2.2.2.2.1))=false→
 (Kx2 (s2.1,s2.2.1,s2.2.2.1,s2.2.2.2.1,s2.2.2.2.2.1,s2.2.2.2.2.2.1,s2.2.2.2.2.2.2.1,s2.2.2.2.2.2.2.2.1,s2.2.2.2.2.2.2.2.2)))))
 (s1.1,s1.2.1,(gL s1.2.2.2.2.2 s1.2.1),(len (gL s1.2.2.2.2.2 s1.2.1)),0,s1.2.2.1,s1.2.2.2.1,s1.2.2.2.2.1,s1.2.2.2.2.2) fun s2=>
 (Kb1 (s2.1,(iadd s2.2.1 1),s2.2.2.2.2.2.1,s2.2.2.2.2.2.2.1,s2.2.2.2.2.2.2.2.1,s2.2.2.2.2.2.2.2.2)))))∧
 ((decide (s1.2.1<s1.1))=false→
 (Kx1 (s1.1,s1.2.1,s1.2.2.1,s1.2.2.2.1,s1.2.2.2.2.1,s1.2.2.2.2.2)))))
 ((len [p1,p2,p3]),0,p1,p2,p3,[p1,p2,p3]) fun s1=>
 (K true))))))))))))
def M_Grow_int (p1:Int) (K:(List Int)→Prop):Prop:=
 (((decide (p1<0))=true→
 False)∧
 ((decide (p1<0))=false→
 (((decide ((isub p1 (isub 0 0))>0))=true→
 (((0:Int)=0∧(0:Int)=0)∧
 (((0:Int)<(isub p1 (isub 0 0))∧(isub p1 (isub 0 0))≤2^36)∧
 (((0:Int)≤(0:Int)∧(0:Int)≤(0:Int)∧(0:Int)≤len (List.replicate (Int.toNat (isub p1 (isub 0 0))) (0:Int)))∧
 (let v1:List Int:=(sub (List.replicate (Int.toNat (isub p1 (isub 0 0))) (0:Int)) (0:Int) (0:Int));
 (K v1))))))∧
 ((decide ((isub p1 (isub 0 0))>0))=false→
 (K [])))))
def M_Concat_int (p1:List (List Int)) (K:(List Int)→Prop):Prop:=
 (LoopP (S:=List (List Int)×Int×List (List Int)×Int×Int) (fun s1 Kb1 Kx1=>
 (((decide (s1.2.2.2.2<s1.2.2.2.1))=true→
 ((inB s1.2.2.2.2 (List.length s1.2.2.1))∧
 (((decide ((iadd s1.2.1 (len (gL s1.2.2.1 s1.2.2.2.2)))<0))=true→
 False)∧
 ((decide ((iadd s1.2.1 (len (gL s1.2.2.1 s1.2.2.2.2)))<0))=false→
 (Kb1 (s1.1,(iadd s1.2.1 (len (gL s1.2.2.1 s1.2.2.2.2))),s1.2.2.1,s1.2.2.2.1,(iadd s1.2.2.2.2 1)))))))∧
 ((decide (s1.2.2.2.2<s1.2.2.2.1))=false→
 (Kx1 (s1.1,s1.2.1,s1.2.2.1,s1.2.2.2.1,s1.2.2.2.2)))))
 (p1,0,p1,(len p1),0) fun s1=>
 (M_Grow_int s1.2.1 fun(y2:List Int)=>
 (LoopP (S:=List (List Int)×Int×Int×List Int) (fun s3 Kb3 Kx3=>
 (((decide (s3.2.2.1<s3.2.1))=true→
 ((inB s3.2.2.1 (List.length s3.1))∧
 ((List.length s3.2.2.2+List.length (gL s3.1 s3.2.2.1)≤2^36)∧
 (Kb3 (s3.1,s3.2.1,(iadd s3.2.2.1 1),(s3.2.2.2++(gL s3.1 s3.2.2.1)))))))∧
 ((decide (s3.2.2.1<s3.2.1))=false→
 (Kx3 (s3.1,s3.2.1,s3.2.2.1,s3.2.2.2)))))
 (s1.1,(len s1.1),0,y2) fun s3=>
 (K s3.2.2.2))))
def Mi_CountsOf (p1:List Int) (p2:List Int) (p3:List Int) (K:(List Int)→Prop):Prop:=
 (Mi_HeapValid p1 p2 p3 fun(y1:Bool)=>
 (((!y1)=true→
 (K []))∧
 ((!y1)=false→
 ((0≤(len p1)∧(len p1)=(len p1)∧(len p1)≤2^36)∧
 (M_Concat_int [p1,p2,p3] fun(y2:List Int)=>
 (LoopP (S:=Int×Int×List Int×List Int) (fun s3 Kb3 Kx3=>
 (((decide (s3.2.1<s3.1))=true→
 ((inB s3.2.1 (List.length s3.2.2.2))∧
 ((((gI s3.2.2.2 s3.2.1) !=(-1))=true→
 ((inB (gI s3.2.2.2 s3.2.1) (List.length s3.2.2.1))∧
 ((inB (gI s3.2.2.2 s3.2.1) (List.length s3.2.2.1))∧
 (let v4:List Int:=(uL s3.2.2.1 (gI s3.2.2.2 s3.2.1) (iadd (gI s3.2.2.1 (gI s3.2.2.2 s3.2.1)) 1));
 (Kb3 (s3.1,(iadd s3.2.1 1),v4,s3.2.2.2))))))∧
 (((gI s3.2.2.2 s3.2.1) !=(-1))=false→
 (Kb3 (s3.1,(iadd s3.2.1 1),s3.2.2.1,s3.2.2.2))))))∧
 ((decide (s3.2.1<s3.1))=false→
 (Kx3 (s3.1,s3.2.1,s3.2.2.1,s3.2.2.2)))))
 ((len y2),0,(List.replicate (Int.toNat (len p1)) (0:Int)),y2) fun s3=>
 (K s3.2.2.1)))))))
def M_Index_int (p1:List Int) (p2:Int) (K:Int→Prop):Prop:=
 (LoopP (S:=List Int×Int×Int×Int) (fun s1 Kb1 Kx1=>
 (((decide (s1.2.2.2<s1.2.2.1))=true→
 ((inB s1.2.2.2 (List.length s1.1))∧
 (((s1.2.1==(gI s1.1 s1.2.2.2))=true→
 (K s1.2.2.2))∧
 ((s1.2.1==(gI s1.1 s1.2.2.2))=false→
 (Kb1 (s1.1,s1.2.1,s1.2.2.1,(iadd s1.2.2.2 1)))))))∧
 ((decide (s1.2.2.2<s1.2.2.1))=false→
 (Kx1 (s1.1,s1.2.1,s1.2.2.1,s1.2.2.2)))))
 (p1,p2,(len p1),0) fun s1=>
 (K (-1)))
def M_Contains_int (p1:List Int) (p2:Int) (K:Bool→Prop):Prop:=
 (M_Index_int p1 p2 fun(y1:Int)=>
 (K (decide (y1≥0))))
def Mi_StoreValid (p1:List Int) (p2:List Int) (p3:List Int) (p4:List Int) (K:Bool→Prop):Prop:=
 (Mi_HeapValid p1 p2 p3 fun(y1:Bool)=>
 (((!y1)=true→
 (K false))∧
 ((!y1)=false→
 (Mi_CountsOf p1 p2 p3 fun(y2:List Int)=>
 (LoopP (S:=List Int×Int×Int×List Int×List Int×List Int×List Int×List Int) (fun s3 Kb3 Kx3=>
 (((decide (s3.2.2.1<s3.2.1))=true→
 ((inB s3.2.2.1 (List.length s3.1))∧
 (((decide ((gI s3.1 s3.2.2.1)<0))=true→
 (K false))∧
 ((decide ((gI s3.1 s3.2.2.1)<0))=false→
 (((decide ((gI s3.1 s3.2.2.1)≥(len s3.2.2.2.2.2.2.2)))=true→
 (K false))∧
 ((decide ((gI s3.1 s3.2.2.1)≥(len s3.2.2.2.2.2.2.2)))=false→
 ((inB (gI s3.1 s3.2.2.1) (List.length s3.2.2.2.2.2.2.2))∧
 (((decide ((gI s3.2.2.2.2.2.2.2 (gI s3.1 s3.2.2.1))>0))=true→
 (K false))∧
 ((decide ((gI s3.2.2.2.2.2.2.2 (gI s3.1 s3.2.2.1))>0))=false→
 ((inB (gI s3.1 s3.2.2.1) (List.length s3.2.2.2.1))∧
 ((((gI s3.2.2.2.1 (gI s3.1 s3.2.2.1)) !=(-1))=true→
 (K false))∧
 (((gI s3.2.2.2.1 (gI s3.1 s3.2.2.1)) !=(-1))=false→
 ((inB (gI s3.1 s3.2.2.1) (List.length s3.2.2.2.2.1))∧
 ((((gI s3.2.2.2.2.1 (gI s3.1 s3.2.2.1)) !=(-1))=true→
 (K false))∧
 (((gI s3.2.2.2.2.1 (gI s3.1 s3.2.2.1)) !=(-1))=false→
 (((0:Int)≤(0:Int)∧(0:Int)≤s3.2.2.1∧s3.2.2.1≤len s3.2.2.2.2.2.2.1)∧
 (M_Contains_int (sub s3.2.2.2.2.2.2.1 (0:Int) s3.2.2.1) (gI s3.1 s3.2.2.1) fun(y4:Bool)=>
 ((y4=true→
 (K false))∧
 (y4=false→
 (Kb3 (s3.1,s3.2.1,(iadd s3.2.2.1 1),s3.2.2.2.1,s3.2.2.2.2.1,s3.2.2.2.2.2.1,s3.2.2.2.2.2.2.1,s3.2.2.2.2.2.2.2)))))))))))))))))))))∧
 ((decide (s3.2.2.1<s3.2.1))=false→
 (Kx3 (s3.1,s3.2.1,s3.2.2.1,s3.2.2.2.1,s3.2.2.2.2.1,s3.2.2.2.2.2.1,s3.2.2.2.2.2.2.1,s3.2.2.2.2.2.2.2)))))
 (p4,(len p4),0,p1,p2,p3,p4,y2) fun s3=>
 (K true))))))
def Mi_NewGc (p1:List Int) (p2:List Int) (p3:List Int) (p4:List Int) (K:Int→Int→Bool→(List Int)→Prop):Prop:=
 (Mi_StoreValid p1 p2 p3 p4 fun(y1:Bool)=>
 (((!y1)=true→
 (K 0 0 false []))∧
 ((!y1)=false→
 ((0≤(len p1)∧(len p1)=(len p1)∧(len p1)≤2^36)∧
 (K 0 0 true (List.replicate (Int.toNat (len p1)) (0:Int)))))))
def Mi_OpValid (p1:Int) (p2:Int) (p3:Int) (p4:Int) (K:Bool→Prop):Prop:=
 (((decide (p1<1))=true→
 (K false))∧
 ((decide (p1<1))=false→
 (((decide (p1>7))=true→
 (K false))∧
 ((decide (p1>7))=false→
 (((decide (p2<0))=true→
 (K false))∧
 ((decide (p2<0))=false→
 (((decide (p2≥3))=true→
 (K false))∧
 ((decide (p2≥3))=false→
 (((decide (p2≥p4))=true→
 (K false))∧
 ((decide (p2≥p4))=false→
 (((decide (p3<0))=true→
 (K false))∧
 ((decide (p3<0))=false→
 (((decide (p3≥3))=true→
 (K false))∧
 ((decide (p3≥3))=false→
 (((p1==1)=true→
 (K (p3==0)))∧
 ((p1==1)=false→
 (((p1==7)=true→
 (K (p3==0)))∧
 ((p1==7)=false→
 (K (decide (p3<p4)))))))))))))))))))))
def Mi_opsOk (p1:List OpV) (p2:Int) (K:Bool→Prop):Prop:=
 (LoopP (S:=List OpV×Int×List OpV×Int×Int) (fun s1 Kb1 Kx1=>
 (((decide (s1.2.2.2.2<s1.2.2.2.1))=true→
 ((inB s1.2.2.2.2 (List.length s1.2.2.1))∧
 (Mi_OpValid ((gO s1.2.2.1 s1.2.2.2.2).kind) ((gO s1.2.2.1 s1.2.2.2.2).a) ((gO s1.2.2.1 s1.2.2.2.2).b) s1.2.1 fun(y2:Bool)=>
 (((!y2)=true→
 (K false))∧
 ((!y2)=false→
 (Kb1 (s1.1,s1.2.1,s1.2.2.1,s1.2.2.2.1,(iadd s1.2.2.2.2 1))))))))∧
 ((decide (s1.2.2.2.2<s1.2.2.2.1))=false→
 (Kx1 (s1.1,s1.2.1,s1.2.2.1,s1.2.2.2.1,s1.2.2.2.2)))))
 (p1,p2,p1,(len p1),0) fun s1=>
 (K (decide ((len s1.1)≤12))))
def M_Clone_int (p1:List Int) (K:(List Int)→Prop):Prop:=
 (∀b1:Bool,((List.length p1:Nat)≠0→b1=false)→
 ((b1=true→
 (K []))∧
 (b1=false→
 (((List.length p1:Nat)≤2^36)∧
 (K p1)))))
def Mi_copied (p1:List Int) (p2:List Int) (p3:List Int) (K:(List Int)→(List Int)→(List Int)→Prop):Prop:=
 (M_Clone_int p1 fun(y1:List Int)=>
 (M_Clone_int p2 fun(y2:List Int)=>
 (M_Clone_int p3 fun(y3:List Int)=>
 (K y1 y2 y3))))
def Mi_again (p1:List Int) (p2:List Int) (p3:List Int) (p4:List Int) (K:(List Int)→(List Int)→(List Int)→(List Int)→Prop):Prop:=
 (Mi_copied p1 p2 p3 fun(y1:List Int) (y2:List Int) (y3:List Int)=>
 (M_Clone_int p4 fun(y4:List Int)=>
 (K y1 y2 y3 y4)))
def M_Clone_Op (p1:List OpV) (K:(List OpV)→Prop):Prop:=
 (∀b1:Bool,((List.length p1:Nat)≠0→b1=false)→
 ((b1=true→
 (K []))∧
 (b1=false→
 (((List.length p1:Nat)≤2^36)∧
 (K p1)))))
def Mi_NewBoth (p1:List Int) (p2:List Int) (p3:List Int) (p4:List Int) (p5:List OpV) (K:Int→Int→Int→Bool→Bool→(List Int)→(List Int)→(List Int)→(List Int)→(List Int)→(List OpV)→Prop):Prop:=
 (Mi_NewGc p1 p2 p3 p4 fun(y1:Int) (y2:Int) (y3:Bool) (y4:List Int)=>
 (((!y3)=true→
 (K 0 0 0 false false [] [] [] [] [] []))∧
 ((!y3)=false→
 (Mi_opsOk p5 (len p3) fun(y5:Bool)=>
 (((!y5)=true→
 (K 0 0 0 false false [] [] [] [] [] []))∧
 ((!y5)=false→
 (Mi_again p1 p2 p3 p4 fun(y6:List Int) (y7:List Int) (y8:List Int) (y9:List Int)=>
 (M_Clone_Op p5 fun(y10:List OpV)=>
 (K y1 y2 0 false true y6 y7 y8 y9 y4 y10)))))))))
def Mi_desk_begin (p1:Int) (p2:Int) (p3:Int) (p4:Int) (p5:Int) (p6:Bool) (p7:Bool) (p8:List Int) (p9:List Int) (p10:List Int) (p11:List Int) (p12:List Int) (p13:List OpV) (p14:List Int) (K:Bool→Int→Int→Int→Bool→Bool→(List Int)→(List Int)→(List Int)→(List Int)→(List Int)→(List OpV)→Prop):Prop:=
 (Mi_NewStore p1 p2 fun(y1:Bool) (y2:List Int) (y3:List Int) (y4:List Int) (y5:List Int)=>
 ((y1=true→
 (Mi_NewBoth y2 y3 y4 y5 [] fun(y6:Int) (y7:Int) (y8:Int) (y9:Bool) (y10:Bool) (y11:List Int) (y12:List Int) (y13:List Int) (y14:List Int) (y15:List Int) (y16:List OpV)=>
 (K y1 y6 y7 y8 y9 true y11 y12 y13 y14 y15 y16)))∧
 (y1=false→
 (K y1 p3 p4 p5 p6 p7 p8 p9 p10 p11 p12 p13))))
def M_strings_Split (p1 p2:List UInt8) (K:List (List UInt8)→Prop):Prop:=
 (p1.length<4294967281∧1≤p2.length)∧K ((Lib.splitB ⟨p2.toArray⟩ 0 (Lib.countB ⟨p1.toArray⟩ ⟨p2.toArray⟩) ⟨p1.toArray⟩).map fun s=>s.data.toList)
def Ms_Builder_Len (p1:Int) (p2:Int) (p3:Int) (p4:Bool) (p5:Bool) (p6:List Int) (p7:List Int) (p8:List Int) (p9:List Int) (p10:List Int) (p11:List OpV) (p12:List Int) (K:Int→Prop):Prop:=
 (K (len p12))
def Ms_Builder_copyCheck (p1:Int) (p2:Int) (p3:Int) (p4:Bool) (p5:Bool) (p6:List Int) (p7:List Int) (p8:List Int) (p9:List Int) (p10:List Int) (p11:List OpV) (p12:List Int) (K:Prop):Prop:=K
def Ms_Builder_WriteString (p1:List UInt8) (p2:Int) (p3:Int) (p4:Int) (p5:Bool) (p6:Bool) (p7:List Int) (p8:List Int) (p9:List Int) (p10:List Int) (p11:List Int) (p12:List OpV) (p13:List Int) (K:Int→(List Int)→Prop):Prop:=
 (Ms_Builder_copyCheck p2 p3 p4 p5 p6 p7 p8 p9 p10 p11 p12 p13<|
 ((List.length p13+List.length p1≤2^36)∧
 (K (len p1) (p13++bytesI p1))))
def Mi_desk_tell (p1:List UInt8) (p2:Int) (p3:Int) (p4:Int) (p5:Bool) (p6:Bool) (p7:List Int) (p8:List Int) (p9:List Int) (p10:List Int) (p11:List Int) (p12:List OpV) (p13:List Int) (K:(List Int)→Prop):Prop:=
 ((List.length p1+List.length [10]≤2^62)∧
 (Ms_Builder_WriteString (p1++[10]) p2 p3 p4 p5 p6 p7 p8 p9 p10 p11 p12 p13 fun(y1:Int) (y2:List Int)=>
 (K y2)))
def M_strings_Cut (p1 p2:List UInt8) (K:List UInt8→List UInt8→Bool→Prop):Prop:=
 p1.length<4294967281∧K (Lib.cut p1 p2).1 (Lib.cut p1 p2).2.1 (Lib.cut p1 p2).2.2
def atoiF (l:List UInt8):Int×Bool:=
 match Lib.atoiAll l with
 | .ok v=>(v,true)
 | .range=>(Lib.atoiSat l,false)
 |_=>(0,false)
def M_strconv_Atoi (p1:List UInt8) (K:Int→Bool→Prop):Prop:=
 p1.length≤281474976710656∧K (atoiF p1).1 (atoiF p1).2
def M_strconv_Itoa (p1:Int) (K:List UInt8→Prop):Prop:=
 (-9223372036854775808≤p1∧p1≤9223372036854775807)∧K (Lib.itoa p1)
def Mi_decimal (p1:List UInt8) (K:Int→Bool→Prop):Prop:=
 (M_strconv_Atoi p1 fun(y1:Int) (y2:Bool)=>
 ((y2=true→
 (((decide (y1≥0))=true→
 (((decide ((len p1)≤17))=true→
 (M_strconv_Itoa y1 fun(y3:List UInt8)=>
 (K y1 (y3==p1))))∧
 ((decide ((len p1)≤17))=false→
 (K y1 false))))∧
 ((decide (y1≥0))=false→
 (K y1 false))))∧
 (y2=false→
 (K y1 false))))
def Mi_FormatOp (p1:Int) (p2:Int) (p3:Int) (K:(List UInt8)→Prop):Prop:=
 (Mi_OpValid p1 p2 p3 3 fun(y1:Bool)=>
 (((!y1)=true→
 (K ([]:List UInt8)))∧
 ((!y1)=false→
 ((inB p1 (List.length [([]:List UInt8),[110,101,119],[99,111,112,121],[108,101,102,116],[114,105,103,104,116],[112,117,116,108,101,102,116],[112,117,116,114,105,103,104,116],[99,108,101,97,114]]))∧
 (let v2:List UInt8:=(gS [([]:List UInt8),[110,101,119],[99,111,112,121],[108,101,102,116],[114,105,103,104,116],[112,117,116,108,101,102,116],[112,117,116,114,105,103,104,116],[99,108,101,97,114]] p1);
 ((List.length v2+List.length [32]≤2^62)∧
 (M_strconv_Itoa p2 fun(y3:List UInt8)=>
 ((List.length (v2++[32])+List.length y3≤2^62)∧
 (((p1 !=1)=true→
 (((p1 !=7)=true→
 (M_strconv_Itoa p3 fun(y4:List UInt8)=>
 ((List.length [32]+List.length y4≤2^62)∧
 ((List.length ((v2++[32])++y3)+List.length ([32]++y4)≤2^62)∧
 (K (((v2++[32])++y3)++([32]++y4)))))))∧
 ((p1 !=7)=false→
 (K ((v2++[32])++y3)))))∧
 ((p1 !=1)=false→
 (K ((v2++[32])++y3))))))))))))
def Mi_ParseOp (p1:List UInt8) (K:Int→Int→Int→Bool→Prop):Prop:=
 (LoopP (S:=List UInt8×Int×Int×Int×Int) (fun s1 Kb1 Kx1=>
 (((decide (s1.2.1≤7))=true→
 (LoopP (S:=List UInt8×Int×Int×Int×Int×Int) (fun s2 Kb2 Kx2=>
 (((decide (s2.2.2.1<3))=true→
 (LoopP (S:=List UInt8×Int×Int×Int×Int×Int×Int×Int) (fun s3 Kb3 Kx3=>
 (((decide (s3.2.2.2.2.1<3))=true→
 (((!(s3.1==([]:List UInt8)))=true→
 (Mi_FormatOp s3.2.1 s3.2.2.1 s3.2.2.2.2.1 fun(y4:List UInt8)=>
 (((y4==s3.1)=true→
 (K s3.2.1 s3.2.2.1 s3.2.2.2.2.1 true))∧
 ((y4==s3.1)=false→
 (Kb3 (s3.1,s3.2.1,s3.2.2.1,s3.2.2.2.1,(iadd s3.2.2.2.2.1 1),s3.2.2.2.2.2.1,s3.2.2.2.2.2.2.1,s3.2.2.2.2.2.2.2))))))∧
 ((!(s3.1==([]:List UInt8)))=false→
 (Kb3 (s3.1,s3.2.1,s3.2.2.1,s3.2.2.2.1,(iadd s3.2.2.2.2.1 1),s3.2.2.2.2.2.1,s3.2.2.2.2.2.2.1,s3.2.2.2.2.2.2.2)))))∧
 ((decide (s3.2.2.2.2.1<3))=false→
 (Kx3 (s3.1,s3.2.1,s3.2.2.1,s3.2.2.2.1,s3.2.2.2.2.1,s3.2.2.2.2.2.1,s3.2.2.2.2.2.2.1,s3.2.2.2.2.2.2.2)))))
 (s2.1,s2.2.1,s2.2.2.1,s2.2.2.1,0,s2.2.2.2.1,s2.2.2.2.2.1,s2.2.2.2.2.2) fun s3=>
 (Kb2 (s3.1,s3.2.1,(iadd s3.2.2.2.1 1),s3.2.2.2.2.2.1,s3.2.2.2.2.2.2.1,s3.2.2.2.2.2.2.2))))∧
 ((decide (s2.2.2.1<3))=false→
 (Kx2 (s2.1,s2.2.1,s2.2.2.1,s2.2.2.2.1,s2.2.2.2.2.1,s2.2.2.2.2.2)))))
 (s1.1,s1.2.1,0,s1.2.2.1,s1.2.2.2.1,s1.2.2.2.2) fun s2=>
 (Kb1 (s2.1,(iadd s2.2.1 1),s2.2.2.2.1,s2.2.2.2.2.1,s2.2.2.2.2.2))))∧
 ((decide (s1.2.1≤7))=false→
 (Kx1 (s1.1,s1.2.1,s1.2.2.1,s1.2.2.2.1,s1.2.2.2.2)))))
 (p1,1,0,0,0) fun s1=>
 (K 0 0 0 false))
def Mi_colorsOk (p1:List Int) (p2:Int) (K:Bool→Prop):Prop:=
 (LoopP (S:=List Int×Int×List Int×Int×Int) (fun s1 Kb1 Kx1=>
 (((decide (s1.2.2.2.2<s1.2.2.2.1))=true→
 ((inB s1.2.2.2.2 (List.length s1.2.2.1))∧
 (((decide ((gI s1.2.2.1 s1.2.2.2.2)<0))=true→
 (K false))∧
 ((decide ((gI s1.2.2.1 s1.2.2.2.2)<0))=false→
 (((decide ((gI s1.2.2.1 s1.2.2.2.2)>2))=true→
 (K false))∧
 ((decide ((gI s1.2.2.1 s1.2.2.2.2)>2))=false→
 (Kb1 (s1.1,s1.2.1,s1.2.2.1,s1.2.2.2.1,(iadd s1.2.2.2.2 1)))))))))∧
 ((decide (s1.2.2.2.2<s1.2.2.2.1))=false→
 (Kx1 (s1.1,s1.2.1,s1.2.2.1,s1.2.2.2.1,s1.2.2.2.2)))))
 (p1,p2,p1,(len p1),0) fun s1=>
 (K ((len s1.1)==s1.2.1)))
def Mi_GcValid (p1:List Int) (p2:List Int) (p3:List Int) (p4:List Int) (p5:Int) (p6:List Int) (p7:Int) (K:Bool→Prop):Prop:=
 (Mi_StoreValid p1 p2 p3 p4 fun(y1:Bool)=>
 (((!y1)=true→
 (K false))∧
 ((!y1)=false→
 (Mi_colorsOk p6 (len p1) fun(y2:Bool)=>
 (((!y2)=true→
 (K false))∧
 ((!y2)=false→
 (((decide (p7<0))=true→
 (K false))∧
 ((decide (p7<0))=false→
 (((p5==0)=true→
 (K (p7==0)))∧
 ((p5==0)=false→
 (((p5==2)=true→
 (K (p7==0)))∧
 ((p5==2)=false→
 (((p5==1)=true→
 (K (decide (p7<(len p3)))))∧
 ((p5==1)=false→
 (((p5==3)=true→
 (K (decide (p7<(len p1)))))∧
 ((p5==3)=false→
 (K false)))))))))))))))))
def Mi_BothValid (p1:List Int) (p2:List Int) (p3:List Int) (p4:List Int) (p5:Int) (p6:List Int) (p7:Int) (p8:List OpV) (p9:Int) (p10:Bool) (K:Bool→Prop):Prop:=
 (Mi_GcValid p1 p2 p3 p4 p5 p6 p7 fun(y1:Bool)=>
 ((y1=true→
 (Mi_opsOk p8 (len p3) fun(y2:Bool)=>
 ((y2=true→
 (((decide (p9≥0))=true→
 (K (decide (p9≤(len p8)))))∧
 ((decide (p9≥0))=false→
 (K false))))∧
 (y2=false→
 (K false)))))∧
 (y1=false→
 (K false))))
def Mi_anew (p1:List Int) (p2:List Int) (p3:List Int) (p4:List Int) (p5:Int) (p6:List Int) (p7:Int) (p8:List OpV) (p9:Int) (p10:Bool) (K:(List Int)→(List Int)→(List Int)→(List Int)→(List Int)→(List OpV)→Prop):Prop:=
 (Mi_again p1 p2 p3 p4 fun(y1:List Int) (y2:List Int) (y3:List Int) (y4:List Int)=>
 (M_Clone_int p6 fun(y5:List Int)=>
 (M_Clone_Op p8 fun(y6:List OpV)=>
 (K y1 y2 y3 y4 y5 y6))))
def Mi_TargetOf (p1:List Int) (p2:List Int) (p3:List Int) (p4:List Int) (p5:Int) (p6:Int) (p7:Int) (K:Int→Prop):Prop:=
 (Mi_StoreValid p1 p2 p3 p4 fun(y1:Bool)=>
 (((!y1)=true→
 (K (-1)))∧
 ((!y1)=false→
 (Mi_OpValid p5 p6 p7 (len p3) fun(y2:Bool)=>
 (((!y2)=true→
 (K (-1)))∧
 ((!y2)=false→
 (((p5 !=5)=true→
 (((p5 !=6)=true→
 (K (-1)))∧
 ((p5 !=6)=false→
 ((inB p6 (List.length p3))∧
 ((((gI p3 p6)==(-1))=true→
 (K (-1)))∧
 (((gI p3 p6)==(-1))=false→
 ((inB p7 (List.length p3))∧
 (K (gI p3 p7)))))))))∧
 ((p5 !=5)=false→
 ((inB p6 (List.length p3))∧
 ((((gI p3 p6)==(-1))=true→
 (K (-1)))∧
 (((gI p3 p6)==(-1))=false→
 ((inB p7 (List.length p3))∧
 (K (gI p3 p7))))))))))))))
def Mi_AllocCell (p1:List Int) (p2:List Int) (p3:List Int) (p4:List Int) (p5:Int) (K:Int→Bool→(List Int)→(List Int)→(List Int)→(List Int)→Prop):Prop:=
 (Mi_StoreValid p1 p2 p3 p4 fun(y1:Bool)=>
 (((!y1)=true→
 (K 0 false [] [] [] []))∧
 ((!y1)=false→
 (((decide (p5<0))=true→
 (K 0 false [] [] [] []))∧
 ((decide (p5<0))=false→
 (((decide (p5≥(len p3)))=true→
 (K 0 false [] [] [] []))∧
 ((decide (p5≥(len p3)))=false→
 ((((len p4)==0)=true→
 (K 0 false [] [] [] []))∧
 (((len p4)==0)=false→
 (Mi_again p1 p2 p3 p4 fun(y2:List Int) (y3:List Int) (y4:List Int) (y5:List Int)=>
 ((inB 0 (List.length y5))∧
 (((0:Int)≤(1:Int)∧(1:Int)≤(len y5)∧(len y5)≤len y5)∧
 ((inB p5 (List.length y4))∧
 (K (gI y5 0) true y2 y3 (uL y4 p5 (gI y5 0)) (sub y5 (1:Int) (len y5))))))))))))))))
def Mi_RunOp (p1:List Int) (p2:List Int) (p3:List Int) (p4:List Int) (p5:Int) (p6:Int) (p7:Int) (K:Int→Bool→(List Int)→(List Int)→(List Int)→(List Int)→Prop):Prop:=
 (Mi_StoreValid p1 p2 p3 p4 fun(y1:Bool)=>
 (((!y1)=true→
 (K 0 false [] [] [] []))∧
 ((!y1)=false→
 (Mi_OpValid p5 p6 p7 (len p3) fun(y2:Bool)=>
 (((!y2)=true→
 (K 0 false [] [] [] []))∧
 ((!y2)=false→
 (Mi_again p1 p2 p3 p4 fun(y3:List Int) (y4:List Int) (y5:List Int) (y6:List Int)=>
 (((p5==1)=true→
 (Mi_AllocCell y3 y4 y5 y6 p6 fun(y7:Int) (y8:Bool) (y9:List Int) (y10:List Int) (y11:List Int) (y12:List Int)=>
 (((!y8)=true→
 (K 1 true y3 y4 y5 y6))∧
 ((!y8)=false→
 (K 0 true y9 y10 y11 y12)))))∧
 ((p5==1)=false→
 (((p5==2)=true→
 ((inB p7 (List.length y5))∧
 ((inB p6 (List.length y5))∧
 (K 0 true y3 y4 (uL y5 p6 (gI y5 p7)) y6))))∧
 ((p5==2)=false→
 (((p5==3)=true→
 ((inB p7 (List.length y5))∧
 ((((gI y5 p7)==(-1))=true→
 (K 2 true y3 y4 y5 y6))∧
 (((gI y5 p7)==(-1))=false→
 ((inB (gI y5 p7) (List.length y3))∧
 ((inB p6 (List.length y5))∧
 (((p5==4)=true→
 ((inB (gI y5 p7) (List.length y4))∧
 ((inB p6 (List.length (uL y5 p6 (gI y3 (gI y5 p7)))))∧
 (K 0 true y3 y4 (uL (uL y5 p6 (gI y3 (gI y5 p7))) p6 (gI y4 (gI y5 p7))) y6))))∧
 ((p5==4)=false→
 (K 0 true y3 y4 (uL y5 p6 (gI y3 (gI y5 p7))) y6)))))))))∧
 ((p5==3)=false→
 (((p5==4)=true→
 ((inB p7 (List.length y5))∧
 ((((gI y5 p7)==(-1))=true→
 (K 2 true y3 y4 y5 y6))∧
 (((gI y5 p7)==(-1))=false→
 ((inB (gI y5 p7) (List.length y3))∧
 ((inB p6 (List.length y5))∧
 (((p5==4)=true→
 ((inB (gI y5 p7) (List.length y4))∧
 ((inB p6 (List.length (uL y5 p6 (gI y3 (gI y5 p7)))))∧
 (K 0 true y3 y4 (uL (uL y5 p6 (gI y3 (gI y5 p7))) p6 (gI y4 (gI y5 p7))) y6))))∧
 ((p5==4)=false→
 (K 0 true y3 y4 (uL y5 p6 (gI y3 (gI y5 p7))) y6)))))))))∧
 ((p5==4)=false→
 (((p5==5)=true→
 ((inB p6 (List.length y5))∧
 ((((gI y5 p6)==(-1))=true→
 (K 2 true y3 y4 y5 y6))∧
 (((gI y5 p6)==(-1))=false→
 (((p5==5)=true→
 ((inB p7 (List.length y5))∧
 ((inB (gI y5 p6) (List.length y3))∧
 (K 0 true (uL y3 (gI y5 p6) (gI y5 p7)) y4 y5 y6))))∧
 ((p5==5)=false→
 ((inB p7 (List.length y5))∧
 ((inB (gI y5 p6) (List.length y4))∧
 (K 0 true y3 (uL y4 (gI y5 p6) (gI y5 p7)) y5 y6)))))))))∧
 ((p5==5)=false→
 (((p5==6)=true→
 ((inB p6 (List.length y5))∧
 ((((gI y5 p6)==(-1))=true→
 (K 2 true y3 y4 y5 y6))∧
 (((gI y5 p6)==(-1))=false→
 (((p5==5)=true→
 ((inB p7 (List.length y5))∧
 ((inB (gI y5 p6) (List.length y3))∧
 (K 0 true (uL y3 (gI y5 p6) (gI y5 p7)) y4 y5 y6))))∧
 ((p5==5)=false→
 ((inB p7 (List.length y5))∧
 ((inB (gI y5 p6) (List.length y4))∧
 (K 0 true y3 (uL y4 (gI y5 p6) (gI y5 p7)) y5 y6)))))))))∧
 ((p5==6)=false→
 (((p5==7)=true→
 ((inB p6 (List.length y5))∧
 (K 0 true y3 y4 (uL y5 p6 (-1)) y6)))∧
 ((p5==7)=false→
 (K 0 true y3 y4 y5 y6))))))))))))))))))))))
def Mi_has (p1:List Int) (p2:List Int) (p3:List Int) (p4:Int) (K:Bool→Prop):Prop:=
 (Mi_HeapValid p1 p2 p3 fun(y1:Bool)=>
 ((y1=true→
 (((decide (p4≥0))=true→
 (K (decide (p4<(len p1)))))∧
 ((decide (p4≥0))=false→
 (K false))))∧
 (y1=false→
 (K false))))
def Mi_ColorNew (p1:List Int) (p2:List Int) (p3:List Int) (p4:List Int) (p5:Int) (p6:List Int) (p7:Int) (p8:Int) (K:Int→Int→Bool→(List Int)→Prop):Prop:=
 (Mi_GcValid p1 p2 p3 p4 p5 p6 p7 fun(y1:Bool)=>
 (((!y1)=true→
 (K 0 0 false []))∧
 ((!y1)=false→
 (Mi_has p1 p2 p3 p8 fun(y2:Bool)=>
 (((!y2)=true→
 (K 0 0 false []))∧
 ((!y2)=false→
 (M_Clone_int p6 fun(y3:List Int)=>
 ((inB p8 (List.length y3))∧
 (((p5==1)=true→
 ((inB p8 (List.length (uL y3 p8 0)))∧
 (K p5 p7 true (uL (uL y3 p8 0) p8 2))))∧
 ((p5==1)=false→
 (((p5==2)=true→
 ((inB p8 (List.length (uL y3 p8 0)))∧
 (K p5 p7 true (uL (uL y3 p8 0) p8 2))))∧
 ((p5==2)=false→
 (((p5==3)=true→
 (((decide (p8≥p7))=true→
 ((inB p8 (List.length (uL y3 p8 0)))∧
 (K p5 p7 true (uL (uL y3 p8 0) p8 2))))∧
 ((decide (p8≥p7))=false→
 (K p5 p7 true (uL y3 p8 0)))))∧
 ((p5==3)=false→
 (K p5 p7 true (uL y3 p8 0))))))))))))))))
def Mi_shade (p1:Int) (p2:List Int) (K:(List Int)→Prop):Prop:=
 (((p1 !=(-1))=true→
 ((inB p1 (List.length p2))∧
 ((((gI p2 p1)==0)=true→
 ((inB p1 (List.length p2))∧
 (K (uL p2 p1 1))))∧
 (((gI p2 p1)==0)=false→
 (K p2)))))∧
 ((p1 !=(-1))=false→
 (K p2)))
def Mi_ShadeGc (p1:List Int) (p2:List Int) (p3:List Int) (p4:List Int) (p5:Int) (p6:List Int) (p7:Int) (p8:Int) (K:Int→Int→Bool→(List Int)→Prop):Prop:=
 (Mi_GcValid p1 p2 p3 p4 p5 p6 p7 fun(y1:Bool)=>
 (((!y1)=true→
 (K 0 0 false []))∧
 ((!y1)=false→
 (Mi_has p1 p2 p3 p8 fun(y2:Bool)=>
 (((!y2)=true→
 (K 0 0 false []))∧
 ((!y2)=false→
 (M_Clone_int p6 fun(y3:List Int)=>
 (((p5==1)=true→
 (Mi_shade p8 y3 fun(y4:List Int)=>
 (K p5 p7 true y4)))∧
 ((p5==1)=false→
 (((p5==2)=true→
 (Mi_shade p8 y3 fun(y5:List Int)=>
 (K p5 p7 true y5)))∧
 ((p5==2)=false→
 (K p5 p7 true y3))))))))))))
def Mi_step_c15 (c15_0:Int) (c15_1:Int) (c15_2:Int) (c15_3:Int) (c15_4:Bool) (c15_5:Int) (c15_6:Int) (c15_7:Int) (c15_8:Bool) (c15_9:List Int) (c15_10:List Int) (c15_11:List Int) (c15_12:List Int) (c15_13:List Int) (c15_14:List OpV) (c15_15:List Int) (c15_16:List Int) (c15_17:List Int) (c15_18:List Int) (c15_19:List Int) (c15_20:List OpV) (K:Int→Int→Int→Bool→Int→Bool→(List Int)→(List Int)→(List Int)→(List Int)→(List Int)→(List OpV)→Prop):Prop:=
 (K c15_1 c15_2 c15_3 c15_4 c15_0 true c15_9 c15_10 c15_11 c15_12 c15_13 c15_14)
def Mi_step_c7 (c7_0:Bool) (c7_1:Int) (c7_2:Int) (c7_3:Int) (c7_4:Int) (c7_5:Int) (c7_6:Bool) (c7_7:Int) (c7_8:Int) (c7_9:Int) (c7_10:Bool) (c7_11:Int) (c7_12:Int) (c7_13:Int) (c7_14:List Int) (c7_15:List Int) (c7_16:List Int) (c7_17:List Int) (c7_18:List Int) (c7_19:List OpV) (c7_20:List Int) (c7_21:List Int) (c7_22:List Int) (c7_23:List Int) (c7_24:List Int) (c7_25:List OpV) (c7_26:List Int) (c7_27:List Int) (c7_28:List Int) (c7_29:List Int) (K:Int→Int→Int→Bool→Int→Bool→(List Int)→(List Int)→(List Int)→(List Int)→(List Int)→(List OpV)→Prop):Prop:=
 (((c7_2 !=0)=true→
 (K c7_3 c7_4 (iadd c7_5 1) c7_6 c7_2 true c7_26 c7_27 c7_28 c7_29 c7_18 c7_19))∧
 ((c7_2 !=0)=false→
 (((c7_11==1)=true→
 ((inB c7_12 (List.length c7_28))∧
 (Mi_ColorNew c7_26 c7_27 c7_28 c7_29 c7_3 c7_18 c7_4 (gI c7_28 c7_12) fun(y15:Int) (y16:Int) (y17:Bool) (y18:List Int)=>
 (let j23:Prop:=
 (Mi_step_c15 c7_2 y15 y16 (iadd c7_5 1) c7_6 c7_7 c7_8 c7_9 c7_10 c7_26 c7_27 c7_28 c7_29 y18 c7_19 c7_20 c7_21 c7_22 c7_23 c7_24 c7_25 K);
 ((c7_0=true→
 (((c7_1 !=(-1))=true→
 (Mi_ShadeGc c7_26 c7_27 c7_28 c7_29 y15 y18 y16 c7_1 fun(y19:Int) (y20:Int) (y21:Bool) (y22:List Int)=>
 (Mi_step_c15 c7_2 y19 y20 (iadd c7_5 1) c7_6 c7_7 c7_8 c7_9 c7_10 c7_26 c7_27 c7_28 c7_29 y22 c7_19 c7_20 c7_21 c7_22 c7_23 c7_24 c7_25 K)))∧
 ((c7_1 !=(-1))=false→
 j23)))∧
 (c7_0=false→
 j23))))))∧
 ((c7_11==1)=false→
 (let j28:Prop:=
 (Mi_step_c15 c7_2 c7_3 c7_4 (iadd c7_5 1) c7_6 c7_7 c7_8 c7_9 c7_10 c7_26 c7_27 c7_28 c7_29 c7_18 c7_19 c7_20 c7_21 c7_22 c7_23 c7_24 c7_25 K);
 ((c7_0=true→
 (((c7_1 !=(-1))=true→
 (Mi_ShadeGc c7_26 c7_27 c7_28 c7_29 c7_3 c7_18 c7_4 c7_1 fun(y24:Int) (y25:Int) (y26:Bool) (y27:List Int)=>
 (Mi_step_c15 c7_2 y24 y25 (iadd c7_5 1) c7_6 c7_7 c7_8 c7_9 c7_10 c7_26 c7_27 c7_28 c7_29 y27 c7_19 c7_20 c7_21 c7_22 c7_23 c7_24 c7_25 K)))∧
 ((c7_1 !=(-1))=false→
 j28)))∧
 (c7_0=false→
 j28)))))))
def Mi_step_c4 (c4_0:Bool) (c4_1:Int) (c4_2:Int) (c4_3:Int) (c4_4:Bool) (c4_5:Int) (c4_6:Int) (c4_7:Int) (c4_8:Bool) (c4_9:List Int) (c4_10:List Int) (c4_11:List Int) (c4_12:List Int) (c4_13:List Int) (c4_14:List OpV) (c4_15:List Int) (c4_16:List Int) (c4_17:List Int) (c4_18:List Int) (c4_19:List Int) (c4_20:List OpV) (K:Int→Int→Int→Bool→Int→Bool→(List Int)→(List Int)→(List Int)→(List Int)→(List Int)→(List OpV)→Prop):Prop:=
 ((inB c4_3 (List.length c4_14))∧
 (Mi_TargetOf c4_9 c4_10 c4_11 c4_12 ((gO c4_14 c4_3).kind) ((gO c4_14 c4_3).a) ((gO c4_14 c4_3).b) fun(y8:Int)=>
 (Mi_RunOp c4_9 c4_10 c4_11 c4_12 ((gO c4_14 c4_3).kind) ((gO c4_14 c4_3).a) ((gO c4_14 c4_3).b) fun(y9:Int) (y10:Bool) (y11:List Int) (y12:List Int) (y13:List Int) (y14:List Int)=>
 (Mi_step_c7 c4_0 y8 y9 c4_1 c4_2 c4_3 c4_4 c4_5 c4_6 c4_7 c4_8 ((gO c4_14 c4_3).kind) ((gO c4_14 c4_3).a) ((gO c4_14 c4_3).b) c4_9 c4_10 c4_11 c4_12 c4_13 c4_14 c4_15 c4_16 c4_17 c4_18 c4_19 c4_20 y11 y12 y13 y14 K))))
def Mi_step (p1:List Int) (p2:List Int) (p3:List Int) (p4:List Int) (p5:Int) (p6:List Int) (p7:Int) (p8:List OpV) (p9:Int) (p10:Bool) (p11:Bool) (K:Int→Int→Int→Bool→Int→Bool→(List Int)→(List Int)→(List Int)→(List Int)→(List Int)→(List OpV)→Prop):Prop:=
 (Mi_BothValid p1 p2 p3 p4 p5 p6 p7 p8 p9 p10 fun(y1:Bool)=>
 (((!y1)=true→
 (K 0 0 0 false 0 false [] [] [] [] [] []))∧
 ((!y1)=false→
 ((p10=true→
 (K 0 0 0 false 0 false [] [] [] [] [] []))∧
 (p10=false→
 (((p9==(len p8))=true→
 (K 0 0 0 false 0 false [] [] [] [] [] []))∧
 ((p9==(len p8))=false→
 (Mi_anew p1 p2 p3 p4 p5 p6 p7 p8 p9 p10 fun(y2:List Int) (y3:List Int) (y4:List Int) (y5:List Int) (y6:List Int) (y7:List OpV)=>
 (Mi_step_c4 p11 p5 p7 p9 p10 0 0 0 false y2 y3 y4 y5 y6 y7 [] [] [] [] [] [] K)))))))))
def Mi_desk_one (p1:List UInt8) (p2:Int) (p3:Int) (p4:Int) (p5:Bool) (p6:Bool) (p7:List Int) (p8:List Int) (p9:List Int) (p10:List Int) (p11:List Int) (p12:List OpV) (p13:List Int) (K:Bool→Int→Int→Bool→(List Int)→(List Int)→(List Int)→(List Int)→(List Int)→(List Int)→Prop):Prop:=
 (Mi_ParseOp p1 fun(y1:Int) (y2:Int) (y3:Int) (y4:Bool)=>
 (((!y4)=true→
 (K false p2 p3 p5 p7 p8 p9 p10 p11 p13))∧
 ((!y4)=false→
 (Mi_step p7 p8 p9 p10 p2 p11 p3 [(OpV.mk y1 y2 y3)] 0 p5 p6 fun(y5:Int) (y6:Int) (y7:Int) (y8:Bool) (y9:Int) (y10:Bool) (y11:List Int) (y12:List Int) (y13:List Int) (y14:List Int) (y15:List Int) (y16:List OpV)=>
 (((!y10)=true→
 (K false p2 p3 p5 p7 p8 p9 p10 p11 p13))∧
 ((!y10)=false→
 ((inB y9 (List.length [[111,107],[102,117,108,108],[110,111,110,101]]))∧
 (let v17:List UInt8:=(gS [[111,107],[102,117,108,108],[110,111,110,101]] y9);
 (Mi_desk_tell v17 y5 y6 p4 y8 p6 y11 y12 y13 y14 y15 p12 p13 fun(y18:List Int)=>
 (K true y5 y6 y8 y11 y12 y13 y14 y15 y18))))))))))
def Mi_ParseOps (p1:List UInt8) (K:Bool→(List OpV)→Prop):Prop:=
 (((p1==([]:List UInt8))=true→
 (K true []))∧
 ((p1==([]:List UInt8))=false→
 (M_strings_Split p1 [44,32] fun(y1:List (List UInt8))=>
 (LoopP (S:=Int×Int×List OpV×List (List UInt8)) (fun s2 Kb2 Kx2=>
 (((decide (s2.2.1<s2.1))=true→
 ((inB s2.2.1 (List.length s2.2.2.2))∧
 (Mi_ParseOp (gS s2.2.2.2 s2.2.1) fun(y3:Int) (y4:Int) (y5:Int) (y6:Bool)=>
 (((!y6)=true→
 (K false []))∧
 ((!y6)=false→
 ((((len s2.2.2.1)==12)=true→
 (K false []))∧
 (((len s2.2.2.1)==12)=false→
 ((List.length s2.2.2.1+List.length ([(OpV.mk y3 y4 y5)]:List OpV)≤2^36)∧
 (Kb2 (s2.1,(iadd s2.2.1 1),(s2.2.2.1++[(OpV.mk y3 y4 y5)]),s2.2.2.2))))))))))∧
 ((decide (s2.2.1<s2.1))=false→
 (Kx2 (s2.1,s2.2.1,s2.2.2.1,s2.2.2.2)))))
 ((len y1),0,[],y1) fun s2=>
 (K true s2.2.2.1)))))
def M_strings_Trim (p1 p2:List UInt8) (K:List UInt8→Prop):Prop:=
 (p1.length≤9223372036854775807∧p2.length<4294967281∧p2.all (fun b=>decide (b.toNat<128))=true)∧K (Lib.trimS p1 p2)
def Mi_StepOp (p1:List Int) (p2:List Int) (p3:List Int) (p4:List Int) (p5:Int) (p6:List Int) (p7:Int) (p8:List OpV) (p9:Int) (p10:Bool) (p11:Bool) (K:Int→Int→Int→Bool→Bool→(List Int)→(List Int)→(List Int)→(List Int)→(List Int)→(List OpV)→Prop):Prop:=
 (Mi_step p1 p2 p3 p4 p5 p6 p7 p8 p9 p10 p11 fun(y1:Int) (y2:Int) (y3:Int) (y4:Bool) (y5:Int) (y6:Bool) (y7:List Int) (y8:List Int) (y9:List Int) (y10:List Int) (y11:List Int) (y12:List OpV)=>
 (K y1 y2 y3 y4 y6 y7 y8 y9 y10 y11 y12))
def Mi_SweptCell (p1:List Int) (p2:List Int) (p3:List Int) (p4:List Int) (p5:Int) (p6:List Int) (p7:Int) (K:Int→Prop):Prop:=
 (Mi_GcValid p1 p2 p3 p4 p5 p6 p7 fun(y1:Bool)=>
 (((!y1)=true→
 (K (-1)))∧
 ((!y1)=false→
 (((p5 !=3)=true→
 (K (-1)))∧
 ((p5 !=3)=false→
 ((inB p7 (List.length p6))∧
 ((((gI p6 p7) !=0)=true→
 (K (-1)))∧
 (((gI p6 p7) !=0)=false→
 (M_Contains_int p4 p7 fun(y2:Bool)=>
 ((y2=true→
 (K (-1)))∧
 (y2=false→
 (K p7))))))))))))
def Mi_distances_1 (p1:Int) (p2:Int) (p3:List Int) (p4:List Int) (K:(List Int)→(List Int)→Prop):Prop:=
 (((p1 !=(-1))=true→
 ((inB p1 (List.length p3))∧
 ((((gI p3 p1)==0)=true→
 ((inB p1 (List.length p3))∧
 ((List.length p4+List.length ([p1]:List Int)≤2^36)∧
 (K (uL p3 p1 p2) (p4++[p1])))))∧
 (((gI p3 p1)==0)=false→
 (K p3 p4)))))∧
 ((p1 !=(-1))=false→
 (K p3 p4)))
def Mi_distances (p1:List Int) (p2:List Int) (p3:List Int) (K:(List Int)→Prop):Prop:=
 ((0≤(len p1)∧(len p1)=(len p1)∧(len p1)≤2^36)∧
 (LoopP (S:=List Int×Int×Int×List Int×List Int×List Int×List Int×List Int) (fun s1 Kb1 Kx1=>
 (((decide (s1.2.2.1<s1.2.1))=true→
 ((inB s1.2.2.1 (List.length s1.1))∧
 (Mi_distances_1 (gI s1.1 s1.2.2.1) 1 s1.2.2.2.2.2.2.1 s1.2.2.2.2.2.2.2 fun(y2:List Int) (y3:List Int)=>
 (Kb1 (s1.1,s1.2.1,(iadd s1.2.2.1 1),s1.2.2.2.1,s1.2.2.2.2.1,s1.2.2.2.2.2.1,y2,y3)))))∧
 ((decide (s1.2.2.1<s1.2.1))=false→
 (Kx1 (s1.1,s1.2.1,s1.2.2.1,s1.2.2.2.1,s1.2.2.2.2.1,s1.2.2.2.2.2.1,s1.2.2.2.2.2.2.1,s1.2.2.2.2.2.2.2)))))
 (p3,(len p3),0,p1,p2,p3,(List.replicate (Int.toNat (len p1)) (0:Int)),[]) fun s1=>
 (LoopP (S:=Int×List Int×List Int×List Int×List Int×List Int) (fun s4 Kb4 Kx4=>
 (((decide (s4.1<(len s4.2.2.2.2.2)))=true→
 ((inB s4.1 (List.length s4.2.2.2.2.2))∧
 ((inB (gI s4.2.2.2.2.2 s4.1) (List.length s4.2.1))∧
 ((inB s4.1 (List.length s4.2.2.2.2.2))∧
 ((inB (gI s4.2.2.2.2.2 s4.1) (List.length s4.2.2.2.2.1))∧
 (Mi_distances_1 (gI s4.2.1 (gI s4.2.2.2.2.2 s4.1)) (iadd (gI s4.2.2.2.2.1 (gI s4.2.2.2.2.2 s4.1)) 1) s4.2.2.2.2.1 s4.2.2.2.2.2 fun(y5:List Int) (y6:List Int)=>
 ((inB s4.1 (List.length y6))∧
 ((inB (gI y6 s4.1) (List.length s4.2.2.1))∧
 ((inB s4.1 (List.length y6))∧
 ((inB (gI y6 s4.1) (List.length y5))∧
 (Mi_distances_1 (gI s4.2.2.1 (gI y6 s4.1)) (iadd (gI y5 (gI y6 s4.1)) 1) y5 y6 fun(y7:List Int) (y8:List Int)=>
 (Kb4 ((iadd s4.1 1),s4.2.1,s4.2.2.1,s4.2.2.2.1,y7,y8)))))))))))))∧
 ((decide (s4.1<(len s4.2.2.2.2.2)))=false→
 (Kx4 (s4.1,s4.2.1,s4.2.2.1,s4.2.2.2.1,s4.2.2.2.2.1,s4.2.2.2.2.2)))))
 (0,s1.2.2.2.1,s1.2.2.2.2.1,s1.2.2.2.2.2.1,s1.2.2.2.2.2.2.1,s1.2.2.2.2.2.2.2) fun s4=>
 (K s4.2.2.2.2.1))))
def Mi_Reachable (p1:List Int) (p2:List Int) (p3:List Int) (K:(List Bool)→Prop):Prop:=
 (Mi_HeapValid p1 p2 p3 fun(y1:Bool)=>
 (((!y1)=true→
 (K []))∧
 ((!y1)=false→
 (Mi_distances p1 p2 p3 fun(y2:List Int)=>
 (LoopP (S:=Int×Int×List Bool×List Int) (fun s3 Kb3 Kx3=>
 (((decide (s3.2.1<s3.1))=true→
 ((inB s3.2.1 (List.length s3.2.2.2))∧
 ((List.length s3.2.2.1+List.length ([(decide ((gI s3.2.2.2 s3.2.1)>0))]:List Bool)≤2^36)∧
 (Kb3 (s3.1,(iadd s3.2.1 1),(s3.2.2.1++[(decide ((gI s3.2.2.2 s3.2.1)>0))]),s3.2.2.2)))))∧
 ((decide (s3.2.1<s3.1))=false→
 (Kx3 (s3.1,s3.2.1,s3.2.2.1,s3.2.2.2)))))
 ((len y2),0,[],y2) fun s3=>
 (K s3.2.2.1))))))
def Mi_look (p1:List Int) (p2:List Int) (p3:List Int) (p4:List Int) (K:Bool→(List Int)→Prop):Prop:=
 (M_Index_int p4 1 fun(y1:Int)=>
 (((decide (y1<0))=true→
 (K false p4))∧
 ((decide (y1<0))=false→
 ((inB y1 (List.length p1))∧
 (Mi_shade (gI p1 y1) p4 fun(y2:List Int)=>
 ((inB y1 (List.length p2))∧
 (Mi_shade (gI p2 y1) y2 fun(y3:List Int)=>
 ((inB y1 (List.length y3))∧
 (K true (uL y3 y1 2))))))))))
def Mi_StepGc_1 (p1:Int) (p2:Int) (p3:Int) (p4:List Int) (K:Bool→Prop):Prop:=
 (((p1 !=(-1))=true→
 ((inB p1 (List.length p4))∧
 (K ((gI p4 p1)==0))))∧
 ((p1 !=(-1))=false→
 (K false)))
def M_IndexFunc_int (p1:List Int) (p2:Int) (p3:Int) (p4:List Int) (K:Int→Int→Int→(List Int)→Prop):Prop:=
 (LoopP (S:=List Int×Int×Int×Int×Int×List Int) (fun s1 Kb1 Kx1=>
 (((decide (s1.2.2.1<s1.2.1))=true→
 ((inB s1.2.2.1 (List.length s1.1))∧
 (Mi_StepGc_1 (gI s1.1 s1.2.2.1) s1.2.2.2.1 s1.2.2.2.2.1 s1.2.2.2.2.2 fun(y2:Bool)=>
 ((y2=true→
 (K s1.2.2.1 s1.2.2.2.1 s1.2.2.2.2.1 s1.2.2.2.2.2))∧
 (y2=false→
 (Kb1 (s1.1,s1.2.1,(iadd s1.2.2.1 1),s1.2.2.2.1,s1.2.2.2.2.1,s1.2.2.2.2.2)))))))∧
 ((decide (s1.2.2.1<s1.2.1))=false→
 (Kx1 (s1.1,s1.2.1,s1.2.2.1,s1.2.2.2.1,s1.2.2.2.2.1,s1.2.2.2.2.2)))))
 (p1,(len p1),0,p2,p3,p4) fun s1=>
 (K (-1) s1.2.2.2.1 s1.2.2.2.2.1 s1.2.2.2.2.2))
def Mi_Store_clear (p1:List Int) (p2:List Int) (p3:List Int) (p4:List Int) (p5:List Int) (K:(List Int)→(List Int)→(List Int)→(List Int)→Prop):Prop:=
 (LoopP (S:=List Int×Int×Int×List Int×List Int×List Int×List Int) (fun s1 Kb1 Kx1=>
 (((decide (s1.2.2.1<s1.2.1))=true→
 ((inB s1.2.2.1 (List.length s1.1))∧
 ((inB (gI s1.1 s1.2.2.1) (List.length s1.2.2.2.1))∧
 ((inB (gI s1.1 s1.2.2.1) (List.length s1.2.2.2.2.1))∧
 (LoopP (S:=Int×List Int×Int×Int×Int×Int×List Int×List Int×List Int×List Int) (fun s2 Kb2 Kx2=>
 (((decide (s2.2.2.2.2.2.1<s2.2.2.2.2.1))=true→
 (let j10:=fun(z8:List Int) (z9:List Int)=>
 (Kb2 (s2.1,s2.2.1,s2.2.2.1,s2.2.2.2.1,s2.2.2.2.2.1,(iadd s2.2.2.2.2.2.1 1),z8,z9,s2.2.2.2.2.2.2.2.2.1,s2.2.2.2.2.2.2.2.2.2));
 (let j5:=fun(z4:List Int)=>
 ((inB s2.2.2.2.2.2.1 (List.length s2.2.2.2.2.2.2.2.1))∧
 ((((gI s2.2.2.2.2.2.2.2.1 s2.2.2.2.2.2.1)==s2.1)=true→
 ((inB s2.2.2.2.2.2.1 (List.length s2.2.2.2.2.2.2.2.1))∧
 (j10 z4 (uL s2.2.2.2.2.2.2.2.1 s2.2.2.2.2.2.1 (-1)))))∧
 (((gI s2.2.2.2.2.2.2.2.1 s2.2.2.2.2.2.1)==s2.1)=false→
 (j10 z4 s2.2.2.2.2.2.2.2.1))));
 ((inB s2.2.2.2.2.2.1 (List.length s2.2.2.2.2.2.2.1))∧
 ((((gI s2.2.2.2.2.2.2.1 s2.2.2.2.2.2.1)==s2.1)=true→
 ((inB s2.2.2.2.2.2.1 (List.length s2.2.2.2.2.2.2.1))∧
 (j5 (uL s2.2.2.2.2.2.2.1 s2.2.2.2.2.2.1 (-1)))))∧
 (((gI s2.2.2.2.2.2.2.1 s2.2.2.2.2.2.1)==s2.1)=false→
 (j5 s2.2.2.2.2.2.2.1)))))))∧
 ((decide (s2.2.2.2.2.2.1<s2.2.2.2.2.1))=false→
 (Kx2 (s2.1,s2.2.1,s2.2.2.1,s2.2.2.2.1,s2.2.2.2.2.1,s2.2.2.2.2.2.1,s2.2.2.2.2.2.2.1,s2.2.2.2.2.2.2.2.1,s2.2.2.2.2.2.2.2.2.1,s2.2.2.2.2.2.2.2.2.2)))))
 ((gI s1.1 s1.2.2.1),s1.1,s1.2.1,s1.2.2.1,(len (uL s1.2.2.2.1 (gI s1.1 s1.2.2.1) (-1))),0,(uL s1.2.2.2.1 (gI s1.1 s1.2.2.1) (-1)),(uL s1.2.2.2.2.1 (gI s1.1 s1.2.2.1) (-1)),s1.2.2.2.2.2.1,s1.2.2.2.2.2.2) fun s2=>
 ((List.length s2.2.2.2.2.2.2.2.2.2+List.length ([s2.1]:List Int)≤2^36)∧
 (Kb1 (s2.2.1,s2.2.2.1,(iadd s2.2.2.2.1 1),s2.2.2.2.2.2.2.1,s2.2.2.2.2.2.2.2.1,s2.2.2.2.2.2.2.2.2.1,(s2.2.2.2.2.2.2.2.2.2++[s2.1])))))))))∧
 ((decide (s1.2.2.1<s1.2.1))=false→
 (Kx1 (s1.1,s1.2.1,s1.2.2.1,s1.2.2.2.1,s1.2.2.2.2.1,s1.2.2.2.2.2.1,s1.2.2.2.2.2.2)))))
 (p1,(len p1),0,p2,p3,p4,p5) fun s1=>
 (K s1.2.2.2.1 s1.2.2.2.2.1 s1.2.2.2.2.2.1 s1.2.2.2.2.2.2))
def Mi_StepGc_c27 (c27_0:Int) (c27_1:Int) (c27_2:Int) (c27_3:Int) (c27_4:List Int) (c27_5:List Int) (c27_6:List Int) (c27_7:List Int) (c27_8:List Int) (c27_9:List Int) (c27_10:List Int) (c27_11:List Int) (c27_12:List Int) (c27_13:List Int) (K:Int→Int→Bool→(List Int)→(List Int)→(List Int)→(List Int)→(List Int)→Prop):Prop:=
 (K c27_0 c27_1 true c27_4 c27_5 c27_6 c27_7 c27_8)
def Mi_StepGc_c4 (c4_0:Int) (c4_1:List Int) (c4_2:List Int) (c4_3:List Int) (c4_4:List Int) (c4_5:Int) (c4_6:List Int) (c4_7:Int) (c4_8:Int) (c4_9:Int) (c4_10:List Int) (c4_11:List Int) (c4_12:List Int) (c4_13:List Int) (c4_14:List Int) (K:Int→Int→Bool→(List Int)→(List Int)→(List Int)→(List Int)→(List Int)→Prop):Prop:=
 (Mi_again c4_1 c4_2 c4_3 c4_4 fun(y8:List Int) (y9:List Int) (y10:List Int) (y11:List Int)=>
 (M_Clone_int c4_6 fun(y12:List Int)=>
 (((c4_5==0)=true→
 ((0≤(len y12)∧(len y12)=(len y12)∧(len y12)≤2^36)∧
 (Mi_StepGc_c27 1 0 c4_8 c4_9 y8 y9 y10 y11 (List.replicate (Int.toNat (len y12)) (0:Int)) c4_10 c4_11 c4_12 c4_13 c4_14 K)))∧
 ((c4_5==0)=false→
 (((c4_5==1)=true→
 ((inB c4_7 (List.length y10))∧
 (Mi_shade (gI y10 c4_7) y12 fun(y13:List Int)=>
 ((((iadd c4_7 1)==(len y10))=true→
 (Mi_StepGc_c27 2 0 c4_8 c4_9 y8 y9 y10 y11 y13 c4_10 c4_11 c4_12 c4_13 c4_14 K))∧
 (((iadd c4_7 1)==(len y10))=false→
 (Mi_StepGc_c27 c4_5 (iadd c4_7 1) c4_8 c4_9 y8 y9 y10 y11 y13 c4_10 c4_11 c4_12 c4_13 c4_14 K))))))∧
 ((c4_5==1)=false→
 (((c4_5==2)=true→
 (Mi_look y8 y9 y10 y12 fun(y14:Bool) (y15:List Int)=>
 ((y14=true→
 (Mi_StepGc_c27 c4_5 c4_7 c4_8 c4_9 y8 y9 y10 y11 y15 c4_10 c4_11 c4_12 c4_13 c4_14 K))∧
 (y14=false→
 (M_IndexFunc_int y10 c4_5 c4_7 y15 fun(y16:Int) (y17:Int) (y18:Int) (y19:List Int)=>
 (((decide (y16≥0))=true→
 ((inB y16 (List.length y10))∧
 (Mi_shade (gI y10 y16) y15 fun(y20:List Int)=>
 (Mi_StepGc_c27 c4_5 c4_7 c4_8 c4_9 y8 y9 y10 y11 y20 c4_10 c4_11 c4_12 c4_13 c4_14 K))))∧
 ((decide (y16≥0))=false→
 (Mi_StepGc_c27 3 c4_7 c4_8 c4_9 y8 y9 y10 y11 y15 c4_10 c4_11 c4_12 c4_13 c4_14 K))))))))∧
 ((c4_5==2)=false→
 (((c4_5==3)=true→
 (((c4_0 !=(-1))=true→
 (Mi_Store_clear [c4_0] y8 y9 y10 y11 fun(y21:List Int) (y22:List Int) (y23:List Int) (y24:List Int)=>
 ((inB c4_7 (List.length y12))∧
 ((((iadd c4_7 1)==(len (uL y12 c4_7 0)))=true→
 (Mi_StepGc_c27 0 0 c4_8 c4_9 y21 y22 y23 y24 (uL y12 c4_7 0) c4_10 c4_11 c4_12 c4_13 c4_14 K))∧
 (((iadd c4_7 1)==(len (uL y12 c4_7 0)))=false→
 (Mi_StepGc_c27 c4_5 (iadd c4_7 1) c4_8 c4_9 y21 y22 y23 y24 (uL y12 c4_7 0) c4_10 c4_11 c4_12 c4_13 c4_14 K))))))∧
 ((c4_0 !=(-1))=false→
 ((inB c4_7 (List.length y12))∧
 ((((iadd c4_7 1)==(len (uL y12 c4_7 0)))=true→
 (Mi_StepGc_c27 0 0 c4_8 c4_9 y8 y9 y10 y11 (uL y12 c4_7 0) c4_10 c4_11 c4_12 c4_13 c4_14 K))∧
 (((iadd c4_7 1)==(len (uL y12 c4_7 0)))=false→
 (Mi_StepGc_c27 c4_5 (iadd c4_7 1) c4_8 c4_9 y8 y9 y10 y11 (uL y12 c4_7 0) c4_10 c4_11 c4_12 c4_13 c4_14 K)))))))∧
 ((c4_5==3)=false→
 (Mi_StepGc_c27 c4_5 c4_7 c4_8 c4_9 y8 y9 y10 y11 y12 c4_10 c4_11 c4_12 c4_13 c4_14 K)))))))))))
def Mi_StepGc (p1:List Int) (p2:List Int) (p3:List Int) (p4:List Int) (p5:Int) (p6:List Int) (p7:Int) (K:Int→Int→Bool→(List Int)→(List Int)→(List Int)→(List Int)→(List Int)→Prop):Prop:=
 (Mi_SweptCell p1 p2 p3 p4 p5 p6 p7 fun(y1:Int)=>
 (Mi_GcValid p1 p2 p3 p4 p5 p6 p7 fun(y2:Bool)=>
 (((!y2)=true→
 (K 0 0 false [] [] [] [] []))∧
 ((!y2)=false→
 (((y1 !=(-1))=true→
 (M_Contains_int p3 y1 fun(y3:Bool)=>
 ((y3=true→
 (K 0 0 false [] [] [] [] []))∧
 (y3=false→
 (Mi_StepGc_c4 y1 p1 p2 p3 p4 p5 p6 p7 0 0 [] [] [] [] [] K)))))∧
 ((y1 !=(-1))=false→
 (Mi_StepGc_c4 y1 p1 p2 p3 p4 p5 p6 p7 0 0 [] [] [] [] [] K)))))))
def Mi_StepBoth (p1:List Int) (p2:List Int) (p3:List Int) (p4:List Int) (p5:Int) (p6:List Int) (p7:Int) (p8:List OpV) (p9:Int) (p10:Bool) (K:Int→Int→Int→Bool→Bool→(List Int)→(List Int)→(List Int)→(List Int)→(List Int)→(List OpV)→Prop):Prop:=
 (Mi_BothValid p1 p2 p3 p4 p5 p6 p7 p8 p9 p10 fun(y1:Bool)=>
 (((!y1)=true→
 (K 0 0 0 false false [] [] [] [] [] []))∧
 ((!y1)=false→
 ((p10=true→
 (K 0 0 0 false false [] [] [] [] [] []))∧
 (p10=false→
 (Mi_anew p1 p2 p3 p4 p5 p6 p7 p8 p9 p10 fun(y2:List Int) (y3:List Int) (y4:List Int) (y5:List Int) (y6:List Int) (y7:List OpV)=>
 (Mi_SweptCell y2 y3 y4 y5 p5 y6 p7 fun(y8:Int)=>
 (((y8 !=(-1))=true→
 (Mi_Reachable y2 y3 y4 fun(y9:List Bool)=>
 ((inB y8 (List.length y9))∧
 (((gB y9 y8)=true→
 (K p5 p7 p9 true true y2 y3 y4 y5 y6 y7))∧
 ((gB y9 y8)=false→
 (Mi_StepGc y2 y3 y4 y5 p5 y6 p7 fun(y10:Int) (y11:Int) (y12:Bool) (y13:List Int) (y14:List Int) (y15:List Int) (y16:List Int) (y17:List Int)=>
 (K y10 y11 p9 p10 true y13 y14 y15 y16 y17 y7)))))))∧
 ((y8 !=(-1))=false→
 (Mi_StepGc y2 y3 y4 y5 p5 y6 p7 fun(y18:Int) (y19:Int) (y20:Bool) (y21:List Int) (y22:List Int) (y23:List Int) (y24:List Int) (y25:List Int)=>
 (K y18 y19 p9 p10 true y21 y22 y23 y24 y25 y7)))))))))))
def Mi_RunBoth (p1:List Int) (p2:List Int) (p3:List Int) (p4:List Int) (p5:Int) (p6:List Int) (p7:Int) (p8:List OpV) (p9:Int) (p10:Bool) (p11:List UInt8) (p12:Bool) (K:Int→Int→Int→Bool→Bool→(List Int)→(List Int)→(List Int)→(List Int)→(List Int)→(List OpV)→Prop):Prop:=
 (Mi_BothValid p1 p2 p3 p4 p5 p6 p7 p8 p9 p10 fun(y1:Bool)=>
 (((!y1)=true→
 (K 0 0 0 false false [] [] [] [] [] []))∧
 ((!y1)=false→
 (((decide ((len p11)>100))=true→
 (K 0 0 0 false false [] [] [] [] [] []))∧
 ((decide ((len p11)>100))=false→
 (M_strings_Trim p11 [111,103] fun(y2:List UInt8)=>
 (((!(y2==([]:List UInt8)))=true→
 (K 0 0 0 false false [] [] [] [] [] []))∧
 ((!(y2==([]:List UInt8)))=false→
 (Mi_anew p1 p2 p3 p4 p5 p6 p7 p8 p9 p10 fun(y3:List Int) (y4:List Int) (y5:List Int) (y6:List Int) (y7:List Int) (y8:List OpV)=>
 (LoopP (S:=List UInt8×Bool×Int×Int×Int×Int×Int×Bool×Int×Int×Int×Bool×List Int×List Int×List Int×List Int×List Int×List OpV×List Int×List Int×List Int×List Int×List Int×List OpV) (fun s9 Kb9 Kx9=>
 (((decide (s9.2.2.2.1<s9.2.2.1))=true→
 (let j84:=fun(z74:Int) (z75:Int) (z76:Int) (z77:Bool) (z78:List Int) (z79:List Int) (z80:List Int) (z81:List Int) (z82:List Int) (z83:List OpV)=>
 (Kb9 (s9.1,s9.2.1,s9.2.2.1,(iadd s9.2.2.2.1 1),z74,z75,z76,z77,s9.2.2.2.2.2.2.2.2.1,s9.2.2.2.2.2.2.2.2.2.1,s9.2.2.2.2.2.2.2.2.2.2.1,s9.2.2.2.2.2.2.2.2.2.2.2.1,z78,z79,z80,z81,z82,z83,s9.2.2.2.2.2.2.2.2.2.2.2.2.2.2.2.2.2.2.1,s9.2.2.2.2.2.2.2.2.2.2.2.2.2.2.2.2.2.2.2.1,s9.2.2.2.2.2.2.2.2.2.2.2.2.2.2.2.2.2.2.2.2.1,s9.2.2.2.2.2.2.2.2.2.2.2.2.2.2.2.2.2.2.2.2.2.1,s9.2.2.2.2.2.2.2.2.2.2.2.2.2.2.2.2.2.2.2.2.2.2.1,s9.2.2.2.2.2.2.2.2.2.2.2.2.2.2.2.2.2.2.2.2.2.2.2));
 (let j95:Prop:=
 (Kb9 (s9.1,s9.2.1,s9.2.2.1,(iadd s9.2.2.2.1 1),s9.2.2.2.2.1,s9.2.2.2.2.2.1,s9.2.2.2.2.2.2.1,s9.2.2.2.2.2.2.2.1,s9.2.2.2.2.2.2.2.2.1,s9.2.2.2.2.2.2.2.2.2.1,s9.2.2.2.2.2.2.2.2.2.2.1,s9.2.2.2.2.2.2.2.2.2.2.2.1,s9.2.2.2.2.2.2.2.2.2.2.2.2.1,s9.2.2.2.2.2.2.2.2.2.2.2.2.2.1,s9.2.2.2.2.2.2.2.2.2.2.2.2.2.2.1,s9.2.2.2.2.2.2.2.2.2.2.2.2.2.2.2.1,s9.2.2.2.2.2.2.2.2.2.2.2.2.2.2.2.2.1,s9.2.2.2.2.2.2.2.2.2.2.2.2.2.2.2.2.2.1,s9.2.2.2.2.2.2.2.2.2.2.2.2.2.2.2.2.2.2.1,s9.2.2.2.2.2.2.2.2.2.2.2.2.2.2.2.2.2.2.2.1,s9.2.2.2.2.2.2.2.2.2.2.2.2.2.2.2.2.2.2.2.2.1,s9.2.2.2.2.2.2.2.2.2.2.2.2.2.2.2.2.2.2.2.2.2.1,s9.2.2.2.2.2.2.2.2.2.2.2.2.2.2.2.2.2.2.2.2.2.2.1,s9.2.2.2.2.2.2.2.2.2.2.2.2.2.2.2.2.2.2.2.2.2.2.2));
 ((inB s9.2.2.2.1 (List.length s9.1))∧
 ((((gC s9.1 s9.2.2.2.1)==111)=true→
 (Mi_StepOp s9.2.2.2.2.2.2.2.2.2.2.2.2.1 s9.2.2.2.2.2.2.2.2.2.2.2.2.2.1 s9.2.2.2.2.2.2.2.2.2.2.2.2.2.2.1 s9.2.2.2.2.2.2.2.2.2.2.2.2.2.2.2.1 s9.2.2.2.2.1 s9.2.2.2.2.2.2.2.2.2.2.2.2.2.2.2.2.1 s9.2.2.2.2.2.1 s9.2.2.2.2.2.2.2.2.2.2.2.2.2.2.2.2.2.1 s9.2.2.2.2.2.2.1 s9.2.2.2.2.2.2.2.1 s9.2.1 fun(y10:Int) (y11:Int) (y12:Int) (y13:Bool) (y14:Bool) (y15:List Int) (y16:List Int) (y17:List Int) (y18:List Int) (y19:List Int) (y20:List OpV)=>
 ((y14=true→
 (j84 y10 y11 y12 y13 y15 y16 y17 y18 y19 y20))∧
 (y14=false→
 j95))))∧
 (((gC s9.1 s9.2.2.2.1)==111)=false→
 (Mi_StepBoth s9.2.2.2.2.2.2.2.2.2.2.2.2.1 s9.2.2.2.2.2.2.2.2.2.2.2.2.2.1 s9.2.2.2.2.2.2.2.2.2.2.2.2.2.2.1 s9.2.2.2.2.2.2.2.2.2.2.2.2.2.2.2.1 s9.2.2.2.2.1 s9.2.2.2.2.2.2.2.2.2.2.2.2.2.2.2.2.1 s9.2.2.2.2.2.1 s9.2.2.2.2.2.2.2.2.2.2.2.2.2.2.2.2.2.1 s9.2.2.2.2.2.2.1 s9.2.2.2.2.2.2.2.1 fun(y21:Int) (y22:Int) (y23:Int) (y24:Bool) (y25:Bool) (y26:List Int) (y27:List Int) (y28:List Int) (y29:List Int) (y30:List Int) (y31:List OpV)=>
 ((y25=true→
 (j84 y21 y22 y23 y24 y26 y27 y28 y29 y30 y31))∧
 (y25=false→
 j95)))))))))∧
 ((decide (s9.2.2.2.1<s9.2.2.1))=false→
 (Kx9 (s9.1,s9.2.1,s9.2.2.1,s9.2.2.2.1,s9.2.2.2.2.1,s9.2.2.2.2.2.1,s9.2.2.2.2.2.2.1,s9.2.2.2.2.2.2.2.1,s9.2.2.2.2.2.2.2.2.1,s9.2.2.2.2.2.2.2.2.2.1,s9.2.2.2.2.2.2.2.2.2.2.1,s9.2.2.2.2.2.2.2.2.2.2.2.1,s9.2.2.2.2.2.2.2.2.2.2.2.2.1,s9.2.2.2.2.2.2.2.2.2.2.2.2.2.1,s9.2.2.2.2.2.2.2.2.2.2.2.2.2.2.1,s9.2.2.2.2.2.2.2.2.2.2.2.2.2.2.2.1,s9.2.2.2.2.2.2.2.2.2.2.2.2.2.2.2.2.1,s9.2.2.2.2.2.2.2.2.2.2.2.2.2.2.2.2.2.1,s9.2.2.2.2.2.2.2.2.2.2.2.2.2.2.2.2.2.2.1,s9.2.2.2.2.2.2.2.2.2.2.2.2.2.2.2.2.2.2.2.1,s9.2.2.2.2.2.2.2.2.2.2.2.2.2.2.2.2.2.2.2.2.1,s9.2.2.2.2.2.2.2.2.2.2.2.2.2.2.2.2.2.2.2.2.2.1,s9.2.2.2.2.2.2.2.2.2.2.2.2.2.2.2.2.2.2.2.2.2.2.1,s9.2.2.2.2.2.2.2.2.2.2.2.2.2.2.2.2.2.2.2.2.2.2.2)))))
 (p11,p12,(len p11),0,p5,p7,p9,p10,0,0,0,false,y3,y4,y5,y6,y7,y8,[],[],[],[],[],[]) fun s9=>
 (K s9.2.2.2.2.1 s9.2.2.2.2.2.1 s9.2.2.2.2.2.2.1 s9.2.2.2.2.2.2.2.1 true s9.2.2.2.2.2.2.2.2.2.2.2.2.1 s9.2.2.2.2.2.2.2.2.2.2.2.2.2.1 s9.2.2.2.2.2.2.2.2.2.2.2.2.2.2.1 s9.2.2.2.2.2.2.2.2.2.2.2.2.2.2.2.1 s9.2.2.2.2.2.2.2.2.2.2.2.2.2.2.2.2.1 s9.2.2.2.2.2.2.2.2.2.2.2.2.2.2.2.2.2.1)))))))))))
def Mi_digit (p1:Int) (K:(List UInt8)→Prop):Prop:=
 (((p1==(-1))=true→
 (K [45]))∧
 ((p1==(-1))=false→
 (M_strconv_Itoa p1 fun(y1:List UInt8)=>
 (K y1))))
def Mi_FormatHeap (p1:List Int) (p2:List Int) (p3:List Int) (K:(List UInt8)→Prop):Prop:=
 (Mi_HeapValid p1 p2 p3 fun(y1:Bool)=>
 (((!y1)=true→
 (K ([]:List UInt8)))∧
 ((!y1)=false→
 (LoopP (S:=List UInt8×Int×Int×List Int×List Int×List Int) (fun s2 Kb2 Kx2=>
 (((decide (s2.2.2.1<s2.2.1))=true→
 ((inB s2.2.2.1 (List.length s2.2.2.2.1))∧
 (Mi_digit (gI s2.2.2.2.1 s2.2.2.1) fun(y3:List UInt8)=>
 ((inB s2.2.2.1 (List.length s2.2.2.2.2.1))∧
 (Mi_digit (gI s2.2.2.2.2.1 s2.2.2.1) fun(y4:List UInt8)=>
 ((List.length y3+List.length y4≤2^62)∧
 ((List.length (y3++y4)+List.length [32]≤2^62)∧
 ((List.length s2.1+List.length ((y3++y4)++[32])≤2^62)∧
 (Kb2 ((s2.1++((y3++y4)++[32])),s2.2.1,(iadd s2.2.2.1 1),s2.2.2.2.1,s2.2.2.2.2.1,s2.2.2.2.2.2))))))))))∧
 ((decide (s2.2.2.1<s2.2.1))=false→
 (Kx2 (s2.1,s2.2.1,s2.2.2.1,s2.2.2.2.1,s2.2.2.2.2.1,s2.2.2.2.2.2)))))
 (([]:List UInt8),(len p1),0,p1,p2,p3) fun s2=>
 ((List.length s2.1+List.length [47]≤2^62)∧
 (LoopP (S:=List UInt8×List Int×Int×Int) (fun s5 Kb5 Kx5=>
 (((decide (s5.2.2.2<s5.2.2.1))=true→
 ((inB s5.2.2.2 (List.length s5.2.1))∧
 (Mi_digit (gI s5.2.1 s5.2.2.2) fun(y6:List UInt8)=>
 ((List.length [32]+List.length y6≤2^62)∧
 ((List.length s5.1+List.length ([32]++y6)≤2^62)∧
 (Kb5 ((s5.1++([32]++y6)),s5.2.1,s5.2.2.1,(iadd s5.2.2.2 1))))))))∧
 ((decide (s5.2.2.2<s5.2.2.1))=false→
 (Kx5 (s5.1,s5.2.1,s5.2.2.1,s5.2.2.2)))))
 ((s2.1++[47]),s2.2.2.2.2.2,(len s2.2.2.2.2.2),0) fun s5=>
 (K s5.1)))))))
def Mi_spaced (p1:List Int) (K:(List UInt8)→Prop):Prop:=
 (LoopP (S:=List UInt8×List Int×Int×Int) (fun s1 Kb1 Kx1=>
 (((decide (s1.2.2.2<s1.2.2.1))=true→
 ((inB s1.2.2.2 (List.length s1.2.1))∧
 (M_strconv_Itoa (gI s1.2.1 s1.2.2.2) fun(y2:List UInt8)=>
 ((List.length [32]+List.length y2≤2^62)∧
 ((List.length s1.1+List.length ([32]++y2)≤2^62)∧
 (Kb1 ((s1.1++([32]++y2)),s1.2.1,s1.2.2.1,(iadd s1.2.2.2 1))))))))∧
 ((decide (s1.2.2.2<s1.2.2.1))=false→
 (Kx1 (s1.1,s1.2.1,s1.2.2.1,s1.2.2.2)))))
 (([]:List UInt8),p1,(len p1),0) fun s1=>
 (K s1.1))
def Mi_FormatStore (p1:List Int) (p2:List Int) (p3:List Int) (p4:List Int) (K:(List UInt8)→Prop):Prop:=
 (Mi_StoreValid p1 p2 p3 p4 fun(y1:Bool)=>
 (((!y1)=true→
 (K ([]:List UInt8)))∧
 ((!y1)=false→
 (Mi_FormatHeap p1 p2 p3 fun(y2:List UInt8)=>
 ((List.length y2+List.length [32,102,114,101,101]≤2^62)∧
 (Mi_spaced p4 fun(y3:List UInt8)=>
 ((List.length (y2++[32,102,114,101,101])+List.length y3≤2^62)∧
 (K ((y2++[32,102,114,101,101])++y3)))))))))
def Mi_FormatBoth (p1:List Int) (p2:List Int) (p3:List Int) (p4:List Int) (p5:Int) (p6:List Int) (p7:Int) (p8:List OpV) (p9:Int) (p10:Bool) (K:(List UInt8)→Prop):Prop:=
 (Mi_BothValid p1 p2 p3 p4 p5 p6 p7 p8 p9 p10 fun(y1:Bool)=>
 (((!y1)=true→
 (K ([]:List UInt8)))∧
 ((!y1)=false→
 (Mi_FormatStore p1 p2 p3 p4 fun(y2:List UInt8)=>
 ((List.length y2+List.length [32]≤2^62)∧
 ((inB p5 (List.length [[105,100,108,101],[114,111,111,116,115],[109,97,114,107],[115,119,101,101,112]]))∧
 (let v3:List UInt8:=(gS [[105,100,108,101],[114,111,111,116,115],[109,97,114,107],[115,119,101,101,112]] p5);
 ((List.length (y2++[32])+List.length v3≤2^62)∧
 ((List.length ((y2++[32])++v3)+List.length [32]≤2^62)∧
 (M_strconv_Itoa p7 fun(y4:List UInt8)=>
 ((List.length (((y2++[32])++v3)++[32])+List.length y4≤2^62)∧
 ((List.length ((((y2++[32])++v3)++[32])++y4)+List.length [32]≤2^62)∧
 (LoopP (S:=List UInt8×List Int×Int×Int×List Int×List Int×List Int×List Int×Int×List Int×Int×List OpV×Int×Bool) (fun s5 Kb5 Kx5=>
 (((decide (s5.2.2.2.1<s5.2.2.1))=true→
 ((inB s5.2.2.2.1 (List.length s5.2.1))∧
 (((0:Int)≤(gI s5.2.1 s5.2.2.2.1)∧(gI s5.2.1 s5.2.2.2.1)≤(iadd (gI s5.2.1 s5.2.2.2.1) 1)∧(iadd (gI s5.2.1 s5.2.2.2.1) 1)≤len [119,103,98])∧
 (let v6:List UInt8:=(sub [119,103,98] (gI s5.2.1 s5.2.2.2.1) (iadd (gI s5.2.1 s5.2.2.2.1) 1));
 ((List.length s5.1+List.length v6≤2^62)∧
 (Kb5 ((s5.1++v6),s5.2.1,s5.2.2.1,(iadd s5.2.2.2.1 1),s5.2.2.2.2.1,s5.2.2.2.2.2.1,s5.2.2.2.2.2.2.1,s5.2.2.2.2.2.2.2.1,s5.2.2.2.2.2.2.2.2.1,s5.2.2.2.2.2.2.2.2.2.1,s5.2.2.2.2.2.2.2.2.2.2.1,s5.2.2.2.2.2.2.2.2.2.2.2.1,s5.2.2.2.2.2.2.2.2.2.2.2.2.1,s5.2.2.2.2.2.2.2.2.2.2.2.2.2)))))))∧
 ((decide (s5.2.2.2.1<s5.2.2.1))=false→
 (Kx5 (s5.1,s5.2.1,s5.2.2.1,s5.2.2.2.1,s5.2.2.2.2.1,s5.2.2.2.2.2.1,s5.2.2.2.2.2.2.1,s5.2.2.2.2.2.2.2.1,s5.2.2.2.2.2.2.2.2.1,s5.2.2.2.2.2.2.2.2.2.1,s5.2.2.2.2.2.2.2.2.2.2.1,s5.2.2.2.2.2.2.2.2.2.2.2.1,s5.2.2.2.2.2.2.2.2.2.2.2.2.1,s5.2.2.2.2.2.2.2.2.2.2.2.2.2)))))
 ((((((y2++[32])++v3)++[32])++y4)++[32]),p6,(len p6),0,p1,p2,p3,p4,p5,p6,p7,p8,p9,p10) fun s5=>
 (M_strconv_Itoa s5.2.2.2.2.2.2.2.2.2.2.2.2.1 fun(y7:List UInt8)=>
 ((List.length [32,97,116,32]+List.length y7≤2^62)∧
 ((List.length s5.1+List.length ([32,97,116,32]++y7)≤2^62)∧
 ((s5.2.2.2.2.2.2.2.2.2.2.2.2.2=true→
 ((List.length (s5.1++([32,97,116,32]++y7))+List.length [32,108,111,115,116]≤2^62)∧
 (let v8:List UInt8:=((s5.1++([32,97,116,32]++y7))++[32,108,111,115,116]);
 (K v8))))∧
 (s5.2.2.2.2.2.2.2.2.2.2.2.2.2=false→
 (K (s5.1++([32,97,116,32]++y7)))))))))))))))))))))
def Mi_SourcesOf (p1:List Int) (p2:List Int) (p3:List Int) (p4:Int) (K:(List Int)→Prop):Prop:=
 (Mi_has p1 p2 p3 p4 fun(y1:Bool)=>
 (((!y1)=true→
 (K []))∧
 ((!y1)=false→
 (LoopP (S:=Int×Int×Int×List Int×List Int×List Int×List Int) (fun s2 Kb2 Kx2=>
 (((decide (s2.2.2.1<s2.2.1))=true→
 ((inB s2.2.2.1 (List.length s2.2.2.2.1))∧
 ((((gI s2.2.2.2.1 s2.2.2.1)==s2.1)=true→
 ((List.length s2.2.2.2.2.2.2+List.length ([s2.2.2.1]:List Int)≤2^36)∧
 (Kb2 (s2.1,s2.2.1,(iadd s2.2.2.1 1),s2.2.2.2.1,s2.2.2.2.2.1,s2.2.2.2.2.2.1,(s2.2.2.2.2.2.2++[s2.2.2.1])))))∧
 (((gI s2.2.2.2.1 s2.2.2.1)==s2.1)=false→
 ((inB s2.2.2.1 (List.length s2.2.2.2.2.1))∧
 ((((gI s2.2.2.2.2.1 s2.2.2.1)==s2.1)=true→
 ((List.length s2.2.2.2.2.2.2+List.length ([s2.2.2.1]:List Int)≤2^36)∧
 (Kb2 (s2.1,s2.2.1,(iadd s2.2.2.1 1),s2.2.2.2.1,s2.2.2.2.2.1,s2.2.2.2.2.2.1,(s2.2.2.2.2.2.2++[s2.2.2.1])))))∧
 (((gI s2.2.2.2.2.1 s2.2.2.1)==s2.1)=false→
 (Kb2 (s2.1,s2.2.1,(iadd s2.2.2.1 1),s2.2.2.2.1,s2.2.2.2.2.1,s2.2.2.2.2.2.1,s2.2.2.2.2.2.2)))))))))∧
 ((decide (s2.2.2.1<s2.2.1))=false→
 (Kx2 (s2.1,s2.2.1,s2.2.2.1,s2.2.2.2.1,s2.2.2.2.2.1,s2.2.2.2.2.2.1,s2.2.2.2.2.2.2)))))
 (p4,(len p1),0,p1,p2,p3,[]) fun s2=>
 (K s2.2.2.2.2.2.2)))))
def Mi_PathTo (p1:List Int) (p2:List Int) (p3:List Int) (p4:Int) (K:Bool→(List Int)→Prop):Prop:=
 (Mi_has p1 p2 p3 p4 fun(y1:Bool)=>
 (((!y1)=true→
 (K false []))∧
 ((!y1)=false→
 (Mi_distances p1 p2 p3 fun(y2:List Int)=>
 ((inB p4 (List.length y2))∧
 ((((gI y2 p4)==0)=true→
 (K false []))∧
 (((gI y2 p4)==0)=false→
 (LoopP (S:=List Int×List Int×List Int×List Int×List Int) (fun s3 Kb3 Kx3=>
 ((inB 0 (List.length s3.2.2.2.2))∧
 ((inB (gI s3.2.2.2.2 0) (List.length s3.2.2.2.1))∧
 (((decide ((gI s3.2.2.2.1 (gI s3.2.2.2.2 0))>1))=true→
 ((inB 0 (List.length s3.2.2.2.2))∧
 (Mi_SourcesOf s3.1 s3.2.1 s3.2.2.1 (gI s3.2.2.2.2 0) fun(y4:List Int)=>
 (LoopP (S:=Int×Int×List Int×List Int×List Int×List Int×List Int×List Int) (fun s5 Kb5 Kx5=>
 (((decide (s5.2.1<s5.1))=true→
 ((inB s5.2.1 (List.length s5.2.2.2.2.2.2.2))∧
 ((inB (gI s5.2.2.2.2.2.2.2 s5.2.1) (List.length s5.2.2.2.2.2.1))∧
 ((inB 0 (List.length s5.2.2.2.2.2.2.1))∧
 ((inB (gI s5.2.2.2.2.2.2.1 0) (List.length s5.2.2.2.2.2.1))∧
 (let v6:Bool:=((gI s5.2.2.2.2.2.1 (gI s5.2.2.2.2.2.2.2 s5.2.1))==(isub (gI s5.2.2.2.2.2.1 (gI s5.2.2.2.2.2.2.1 0)) 1));
 ((v6=true→
 ((List.length ([(gI s5.2.2.2.2.2.2.2 s5.2.1)]:List Int)+List.length s5.2.2.2.2.2.2.1≤2^36)∧
 (Kx5 (s5.1,s5.2.1,s5.2.2.1,s5.2.2.2.1,s5.2.2.2.2.1,s5.2.2.2.2.2.1,([(gI s5.2.2.2.2.2.2.2 s5.2.1)]++s5.2.2.2.2.2.2.1),s5.2.2.2.2.2.2.2))))∧
 (v6=false→
 (Kb5 (s5.1,(iadd s5.2.1 1),s5.2.2.1,s5.2.2.2.1,s5.2.2.2.2.1,s5.2.2.2.2.2.1,s5.2.2.2.2.2.2.1,s5.2.2.2.2.2.2.2))))))))))∧
 ((decide (s5.2.1<s5.1))=false→
 (Kx5 (s5.1,s5.2.1,s5.2.2.1,s5.2.2.2.1,s5.2.2.2.2.1,s5.2.2.2.2.2.1,s5.2.2.2.2.2.2.1,s5.2.2.2.2.2.2.2)))))
 ((len y4),0,s3.1,s3.2.1,s3.2.2.1,s3.2.2.2.1,s3.2.2.2.2,y4) fun s5=>
 (Kb3 (s5.2.2.1,s5.2.2.2.1,s5.2.2.2.2.1,s5.2.2.2.2.2.1,s5.2.2.2.2.2.2.1))))))∧
 ((decide ((gI s3.2.2.2.1 (gI s3.2.2.2.2 0))>1))=false→
 (Kx3 (s3.1,s3.2.1,s3.2.2.1,s3.2.2.2.1,s3.2.2.2.2)))))))
 (p1,p2,p3,y2,[p4]) fun s3=>
 (K true s3.2.2.2.2)))))))))
def Mi_desk_rest (p1:List UInt8) (p2:List UInt8) (p3:Int) (p4:Int) (p5:Int) (p6:Bool) (p7:Bool) (p8:List Int) (p9:List Int) (p10:List Int) (p11:List Int) (p12:List Int) (p13:List OpV) (p14:List Int) (K:Bool→Int→Int→Int→Bool→Bool→(List Int)→(List Int)→(List Int)→(List Int)→(List Int)→(List OpV)→(List Int)→Prop):Prop:=
 (((p1==[110,101,119])=true→
 (M_strings_Cut p2 [32] fun(y1:List UInt8) (y2:List UInt8) (y3:Bool)=>
 (Mi_decimal y1 fun(y4:Int) (y5:Bool)=>
 (Mi_decimal y2 fun(y6:Int) (y7:Bool)=>
 (((!y5)=true→
 (K false p3 p4 p5 p6 p7 p8 p9 p10 p11 p12 p13 p14))∧
 ((!y5)=false→
 (((!y7)=true→
 (K false p3 p4 p5 p6 p7 p8 p9 p10 p11 p12 p13 p14))∧
 ((!y7)=false→
 (Mi_desk_begin y4 y6 p3 p4 p5 p6 p7 p8 p9 p10 p11 p12 p13 p14 fun(y8:Bool) (y9:Int) (y10:Int) (y11:Int) (y12:Bool) (y13:Bool) (y14:List Int) (y15:List Int) (y16:List Int) (y17:List Int) (y18:List Int) (y19:List OpV)=>
 (((!y8)=true→
 (K false y9 y10 y11 y12 y13 y14 y15 y16 y17 y18 y19 p14))∧
 ((!y8)=false→
 (Mi_desk_tell [111,107] y9 y10 y11 y12 y13 y14 y15 y16 y17 y18 y19 p14 fun(y20:List Int)=>
 (K true y9 y10 y11 y12 y13 y14 y15 y16 y17 y18 y19 y20)))))))))))))∧
 ((p1==[110,101,119])=false→
 (((p1==[100,111])=true→
 (Mi_desk_one p2 p3 p4 p5 p6 p7 p8 p9 p10 p11 p12 p13 p14 fun(y21:Bool) (y22:Int) (y23:Int) (y24:Bool) (y25:List Int) (y26:List Int) (y27:List Int) (y28:List Int) (y29:List Int) (y30:List Int)=>
 (K y21 y22 y23 p5 y24 p7 y25 y26 y27 y28 y29 p13 y30)))∧
 ((p1==[100,111])=false→
 (((p1==[112,114,111,103,114,97,109])=true→
 (Mi_ParseOps p2 fun(y31:Bool) (y32:List OpV)=>
 (((!y31)=true→
 (K false p3 p4 p5 p6 p7 p8 p9 p10 p11 p12 p13 p14))∧
 ((!y31)=false→
 (Mi_opsOk y32 (len p10) fun(y33:Bool)=>
 (((!y33)=true→
 (K false p3 p4 p5 p6 p7 p8 p9 p10 p11 p12 p13 p14))∧
 ((!y33)=false→
 (Mi_desk_tell [111,107] p3 p4 0 p6 p7 p8 p9 p10 p11 p12 y32 p14 fun(y34:List Int)=>
 (K true p3 p4 0 p6 p7 p8 p9 p10 p11 p12 y32 y34)))))))))∧
 ((p1==[112,114,111,103,114,97,109])=false→
 (((p1==[114,117,110])=true→
 (Mi_RunBoth p8 p9 p10 p11 p3 p12 p4 p13 p5 p6 p2 p7 fun(y35:Int) (y36:Int) (y37:Int) (y38:Bool) (y39:Bool) (y40:List Int) (y41:List Int) (y42:List Int) (y43:List Int) (y44:List Int) (y45:List OpV)=>
 (((!y39)=true→
 (K false p3 p4 p5 p6 p7 p8 p9 p10 p11 p12 p13 p14))∧
 ((!y39)=false→
 (Mi_FormatBoth y40 y41 y42 y43 y35 y44 y36 y45 y37 y38 fun(y46:List UInt8)=>
 (Mi_desk_tell y46 y35 y36 y37 y38 p7 y40 y41 y42 y43 y44 y45 p14 fun(y47:List Int)=>
 (K true y35 y36 y37 y38 p7 y40 y41 y42 y43 y44 y45 y47)))))))∧
 ((p1==[114,117,110])=false→
 (((p1==[98,97,114,114,105,101,114])=true→
 (((!(p2==[111,110]))=true→
 (((!(p2==[111,102,102]))=true→
 (K false p3 p4 p5 p6 p7 p8 p9 p10 p11 p12 p13 p14))∧
 ((!(p2==[111,102,102]))=false→
 (Mi_desk_tell [111,107] p3 p4 p5 p6 (p2==[111,110]) p8 p9 p10 p11 p12 p13 p14 fun(y49:List Int)=>
 (K true p3 p4 p5 p6 (p2==[111,110]) p8 p9 p10 p11 p12 p13 y49)))))∧
 ((!(p2==[111,110]))=false→
 (Mi_desk_tell [111,107] p3 p4 p5 p6 (p2==[111,110]) p8 p9 p10 p11 p12 p13 p14 fun(y50:List Int)=>
 (K true p3 p4 p5 p6 (p2==[111,110]) p8 p9 p10 p11 p12 p13 y50)))))∧
 ((p1==[98,97,114,114,105,101,114])=false→
 (((p1==[112,97,116,104])=true→
 (Mi_decimal p2 fun(y51:Int) (y52:Bool)=>
 (Mi_PathTo p8 p9 p10 y51 fun(y53:Bool) (y54:List Int)=>
 (((!y52)=true→
 (K false p3 p4 p5 p6 p7 p8 p9 p10 p11 p12 p13 p14))∧
 ((!y52)=false→
 (((!y53)=true→
 (K false p3 p4 p5 p6 p7 p8 p9 p10 p11 p12 p13 p14))∧
 ((!y53)=false→
 (Mi_spaced y54 fun(y55:List UInt8)=>
 ((List.length [112,97,116,104]+List.length y55≤2^62)∧
 (Mi_desk_tell ([112,97,116,104]++y55) p3 p4 p5 p6 p7 p8 p9 p10 p11 p12 p13 p14 fun(y56:List Int)=>
 (K true p3 p4 p5 p6 p7 p8 p9 p10 p11 p12 p13 y56)))))))))))∧
 ((p1==[112,97,116,104])=false→
 (K false p3 p4 p5 p6 p7 p8 p9 p10 p11 p12 p13 p14)))))))))))))
def Mi_FinishBoth (p1:List Int) (p2:List Int) (p3:List Int) (p4:List Int) (p5:Int) (p6:List Int) (p7:Int) (p8:List OpV) (p9:Int) (p10:Bool) (p11:Bool) (K:Int→Int→Int→Bool→Bool→(List Int)→(List Int)→(List Int)→(List Int)→(List Int)→(List OpV)→Prop):Prop:=
 (Mi_BothValid p1 p2 p3 p4 p5 p6 p7 p8 p9 p10 fun(y1:Bool)=>
 (((!y1)=true→
 (K 0 0 0 false false [] [] [] [] [] []))∧
 ((!y1)=false→
 (Mi_anew p1 p2 p3 p4 p5 p6 p7 p8 p9 p10 fun(y2:List Int) (y3:List Int) (y4:List Int) (y5:List Int) (y6:List Int) (y7:List OpV)=>
 (LoopP (S:=Bool×Int×Int×Int×Bool×Int×Int×Int×Bool×List Int×List Int×List Int×List Int×List Int×List OpV×List Int×List Int×List Int×List Int×List Int×List OpV) (fun s8 Kb8 Kx8=>
 (Mi_StepOp s8.2.2.2.2.2.2.2.2.2.1 s8.2.2.2.2.2.2.2.2.2.2.1 s8.2.2.2.2.2.2.2.2.2.2.2.1 s8.2.2.2.2.2.2.2.2.2.2.2.2.1 s8.2.1 s8.2.2.2.2.2.2.2.2.2.2.2.2.2.1 s8.2.2.1 s8.2.2.2.2.2.2.2.2.2.2.2.2.2.2.1 s8.2.2.2.1 s8.2.2.2.2.1 s8.1 fun(y9:Int) (y10:Int) (y11:Int) (y12:Bool) (y13:Bool) (y14:List Int) (y15:List Int) (y16:List Int) (y17:List Int) (y18:List Int) (y19:List OpV)=>
 (((!y13)=true→
 (Kx8 (s8.1,s8.2.1,s8.2.2.1,s8.2.2.2.1,s8.2.2.2.2.1,s8.2.2.2.2.2.1,s8.2.2.2.2.2.2.1,s8.2.2.2.2.2.2.2.1,s8.2.2.2.2.2.2.2.2.1,s8.2.2.2.2.2.2.2.2.2.1,s8.2.2.2.2.2.2.2.2.2.2.1,s8.2.2.2.2.2.2.2.2.2.2.2.1,s8.2.2.2.2.2.2.2.2.2.2.2.2.1,s8.2.2.2.2.2.2.2.2.2.2.2.2.2.1,s8.2.2.2.2.2.2.2.2.2.2.2.2.2.2.1,s8.2.2.2.2.2.2.2.2.2.2.2.2.2.2.2.1,s8.2.2.2.2.2.2.2.2.2.2.2.2.2.2.2.2.1,s8.2.2.2.2.2.2.2.2.2.2.2.2.2.2.2.2.2.1,s8.2.2.2.2.2.2.2.2.2.2.2.2.2.2.2.2.2.2.1,s8.2.2.2.2.2.2.2.2.2.2.2.2.2.2.2.2.2.2.2.1,s8.2.2.2.2.2.2.2.2.2.2.2.2.2.2.2.2.2.2.2.2)))∧
 ((!y13)=false→
 (Kb8 (s8.1,y9,y10,y11,y12,s8.2.2.2.2.2.1,s8.2.2.2.2.2.2.1,s8.2.2.2.2.2.2.2.1,s8.2.2.2.2.2.2.2.2.1,y14,y15,y16,y17,y18,y19,s8.2.2.2.2.2.2.2.2.2.2.2.2.2.2.2.1,s8.2.2.2.2.2.2.2.2.2.2.2.2.2.2.2.2.1,s8.2.2.2.2.2.2.2.2.2.2.2.2.2.2.2.2.2.1,s8.2.2.2.2.2.2.2.2.2.2.2.2.2.2.2.2.2.2.1,s8.2.2.2.2.2.2.2.2.2.2.2.2.2.2.2.2.2.2.2.1,s8.2.2.2.2.2.2.2.2.2.2.2.2.2.2.2.2.2.2.2.2))))))
 (p11,p5,p7,p9,p10,0,0,0,false,y2,y3,y4,y5,y6,y7,[],[],[],[],[],[]) fun s8=>
 (LoopP (S:=Int×Int×Int×Int×Bool×Int×Int×Int×Bool×List Int×List Int×List Int×List Int×List Int×List OpV×List Int×List Int×List Int×List Int×List Int×List OpV) (fun s20 Kb20 Kx20=>
 (((decide (s20.1<2))=true→
 (Mi_StepBoth s20.2.2.2.2.2.2.2.2.2.1 s20.2.2.2.2.2.2.2.2.2.2.1 s20.2.2.2.2.2.2.2.2.2.2.2.1 s20.2.2.2.2.2.2.2.2.2.2.2.2.1 s20.2.1 s20.2.2.2.2.2.2.2.2.2.2.2.2.2.1 s20.2.2.1 s20.2.2.2.2.2.2.2.2.2.2.2.2.2.2.1 s20.2.2.2.1 s20.2.2.2.2.1 fun(y21:Int) (y22:Int) (y23:Int) (y24:Bool) (y25:Bool) (y26:List Int) (y27:List Int) (y28:List Int) (y29:List Int) (y30:List Int) (y31:List OpV)=>
 (((!y25)=true→
 (Kx20 (s20.1,s20.2.1,s20.2.2.1,s20.2.2.2.1,s20.2.2.2.2.1,s20.2.2.2.2.2.1,s20.2.2.2.2.2.2.1,s20.2.2.2.2.2.2.2.1,s20.2.2.2.2.2.2.2.2.1,s20.2.2.2.2.2.2.2.2.2.1,s20.2.2.2.2.2.2.2.2.2.2.1,s20.2.2.2.2.2.2.2.2.2.2.2.1,s20.2.2.2.2.2.2.2.2.2.2.2.2.1,s20.2.2.2.2.2.2.2.2.2.2.2.2.2.1,s20.2.2.2.2.2.2.2.2.2.2.2.2.2.2.1,s20.2.2.2.2.2.2.2.2.2.2.2.2.2.2.2.1,s20.2.2.2.2.2.2.2.2.2.2.2.2.2.2.2.2.1,s20.2.2.2.2.2.2.2.2.2.2.2.2.2.2.2.2.2.1,s20.2.2.2.2.2.2.2.2.2.2.2.2.2.2.2.2.2.2.1,s20.2.2.2.2.2.2.2.2.2.2.2.2.2.2.2.2.2.2.2.1,s20.2.2.2.2.2.2.2.2.2.2.2.2.2.2.2.2.2.2.2.2)))∧
 ((!y25)=false→
 (((!y24)=true→
 (((y21==0)=true→
 (Kb20 ((iadd s20.1 1),y21,y22,y23,y24,s20.2.2.2.2.2.1,s20.2.2.2.2.2.2.1,s20.2.2.2.2.2.2.2.1,s20.2.2.2.2.2.2.2.2.1,y26,y27,y28,y29,y30,y31,s20.2.2.2.2.2.2.2.2.2.2.2.2.2.2.2.1,s20.2.2.2.2.2.2.2.2.2.2.2.2.2.2.2.2.1,s20.2.2.2.2.2.2.2.2.2.2.2.2.2.2.2.2.2.1,s20.2.2.2.2.2.2.2.2.2.2.2.2.2.2.2.2.2.2.1,s20.2.2.2.2.2.2.2.2.2.2.2.2.2.2.2.2.2.2.2.1,s20.2.2.2.2.2.2.2.2.2.2.2.2.2.2.2.2.2.2.2.2)))∧
 ((y21==0)=false→
 (Kb20 (s20.1,y21,y22,y23,y24,s20.2.2.2.2.2.1,s20.2.2.2.2.2.2.1,s20.2.2.2.2.2.2.2.1,s20.2.2.2.2.2.2.2.2.1,y26,y27,y28,y29,y30,y31,s20.2.2.2.2.2.2.2.2.2.2.2.2.2.2.2.1,s20.2.2.2.2.2.2.2.2.2.2.2.2.2.2.2.2.1,s20.2.2.2.2.2.2.2.2.2.2.2.2.2.2.2.2.2.1,s20.2.2.2.2.2.2.2.2.2.2.2.2.2.2.2.2.2.2.1,s20.2.2.2.2.2.2.2.2.2.2.2.2.2.2.2.2.2.2.2.1,s20.2.2.2.2.2.2.2.2.2.2.2.2.2.2.2.2.2.2.2.2)))))∧
 ((!y24)=false→
 (Kb20 (s20.1,y21,y22,y23,y24,s20.2.2.2.2.2.1,s20.2.2.2.2.2.2.1,s20.2.2.2.2.2.2.2.1,s20.2.2.2.2.2.2.2.2.1,y26,y27,y28,y29,y30,y31,s20.2.2.2.2.2.2.2.2.2.2.2.2.2.2.2.1,s20.2.2.2.2.2.2.2.2.2.2.2.2.2.2.2.2.1,s20.2.2.2.2.2.2.2.2.2.2.2.2.2.2.2.2.2.1,s20.2.2.2.2.2.2.2.2.2.2.2.2.2.2.2.2.2.2.1,s20.2.2.2.2.2.2.2.2.2.2.2.2.2.2.2.2.2.2.2.1,s20.2.2.2.2.2.2.2.2.2.2.2.2.2.2.2.2.2.2.2.2))))))))∧
 ((decide (s20.1<2))=false→
 (Kx20 (s20.1,s20.2.1,s20.2.2.1,s20.2.2.2.1,s20.2.2.2.2.1,s20.2.2.2.2.2.1,s20.2.2.2.2.2.2.1,s20.2.2.2.2.2.2.2.1,s20.2.2.2.2.2.2.2.2.1,s20.2.2.2.2.2.2.2.2.2.1,s20.2.2.2.2.2.2.2.2.2.2.1,s20.2.2.2.2.2.2.2.2.2.2.2.1,s20.2.2.2.2.2.2.2.2.2.2.2.2.1,s20.2.2.2.2.2.2.2.2.2.2.2.2.2.1,s20.2.2.2.2.2.2.2.2.2.2.2.2.2.2.1,s20.2.2.2.2.2.2.2.2.2.2.2.2.2.2.2.1,s20.2.2.2.2.2.2.2.2.2.2.2.2.2.2.2.2.1,s20.2.2.2.2.2.2.2.2.2.2.2.2.2.2.2.2.2.1,s20.2.2.2.2.2.2.2.2.2.2.2.2.2.2.2.2.2.2.1,s20.2.2.2.2.2.2.2.2.2.2.2.2.2.2.2.2.2.2.2.1,s20.2.2.2.2.2.2.2.2.2.2.2.2.2.2.2.2.2.2.2.2)))))
 (0,s8.2.1,s8.2.2.1,s8.2.2.2.1,s8.2.2.2.2.1,s8.2.2.2.2.2.1,s8.2.2.2.2.2.2.1,s8.2.2.2.2.2.2.2.1,s8.2.2.2.2.2.2.2.2.1,s8.2.2.2.2.2.2.2.2.2.1,s8.2.2.2.2.2.2.2.2.2.2.1,s8.2.2.2.2.2.2.2.2.2.2.2.1,s8.2.2.2.2.2.2.2.2.2.2.2.2.1,s8.2.2.2.2.2.2.2.2.2.2.2.2.2.1,s8.2.2.2.2.2.2.2.2.2.2.2.2.2.2.1,s8.2.2.2.2.2.2.2.2.2.2.2.2.2.2.2.1,s8.2.2.2.2.2.2.2.2.2.2.2.2.2.2.2.2.1,s8.2.2.2.2.2.2.2.2.2.2.2.2.2.2.2.2.2.1,s8.2.2.2.2.2.2.2.2.2.2.2.2.2.2.2.2.2.2.1,s8.2.2.2.2.2.2.2.2.2.2.2.2.2.2.2.2.2.2.2.1,s8.2.2.2.2.2.2.2.2.2.2.2.2.2.2.2.2.2.2.2.2) fun s20=>
 (K s20.2.1 s20.2.2.1 s20.2.2.2.1 s20.2.2.2.2.1 true s20.2.2.2.2.2.2.2.2.2.1 s20.2.2.2.2.2.2.2.2.2.2.1 s20.2.2.2.2.2.2.2.2.2.2.2.1 s20.2.2.2.2.2.2.2.2.2.2.2.2.1 s20.2.2.2.2.2.2.2.2.2.2.2.2.2.1 s20.2.2.2.2.2.2.2.2.2.2.2.2.2.2.1)))))))
def Mi_GarbageOf (p1:List Int) (p2:List Int) (p3:List Int) (K:(List Int)→Prop):Prop:=
 (Mi_Reachable p1 p2 p3 fun(y1:List Bool)=>
 (LoopP (S:=Int×Int×List Int×List Bool) (fun s2 Kb2 Kx2=>
 (((decide (s2.2.1<s2.1))=true→
 ((inB s2.2.1 (List.length s2.2.2.2))∧
 (((!(gB s2.2.2.2 s2.2.1))=true→
 ((List.length s2.2.2.1+List.length ([s2.2.1]:List Int)≤2^36)∧
 (Kb2 (s2.1,(iadd s2.2.1 1),(s2.2.2.1++[s2.2.1]),s2.2.2.2))))∧
 ((!(gB s2.2.2.2 s2.2.1))=false→
 (Kb2 (s2.1,(iadd s2.2.1 1),s2.2.2.1,s2.2.2.2))))))∧
 ((decide (s2.2.1<s2.1))=false→
 (Kx2 (s2.1,s2.2.1,s2.2.2.1,s2.2.2.2)))))
 ((len y1),0,[],y1) fun s2=>
 (K s2.2.2.1)))
def Mi_LeakedOf (p1:List Int) (p2:List Int) (p3:List Int) (p4:List Int) (K:(List Int)→Prop):Prop:=
 (Mi_StoreValid p1 p2 p3 p4 fun(y1:Bool)=>
 (((!y1)=true→
 (K []))∧
 ((!y1)=false→
 (Mi_GarbageOf p1 p2 p3 fun(y2:List Int)=>
 (LoopP (S:=Int×Int×List Int×List Int×List Int×List Int×List Int×List Int) (fun s3 Kb3 Kx3=>
 (((decide (s3.2.1<s3.1))=true→
 ((inB s3.2.1 (List.length s3.2.2.2.2.2.2.2))∧
 (M_Contains_int s3.2.2.2.2.2.1 (gI s3.2.2.2.2.2.2.2 s3.2.1) fun(y4:Bool)=>
 (((!y4)=true→
 ((List.length s3.2.2.2.2.2.2.1+List.length ([(gI s3.2.2.2.2.2.2.2 s3.2.1)]:List Int)≤2^36)∧
 (Kb3 (s3.1,(iadd s3.2.1 1),s3.2.2.1,s3.2.2.2.1,s3.2.2.2.2.1,s3.2.2.2.2.2.1,(s3.2.2.2.2.2.2.1++[(gI s3.2.2.2.2.2.2.2 s3.2.1)]),s3.2.2.2.2.2.2.2))))∧
 ((!y4)=false→
 (Kb3 (s3.1,(iadd s3.2.1 1),s3.2.2.1,s3.2.2.2.1,s3.2.2.2.2.1,s3.2.2.2.2.2.1,s3.2.2.2.2.2.2.1,s3.2.2.2.2.2.2.2)))))))∧
 ((decide (s3.2.1<s3.1))=false→
 (Kx3 (s3.1,s3.2.1,s3.2.2.1,s3.2.2.2.1,s3.2.2.2.2.1,s3.2.2.2.2.2.1,s3.2.2.2.2.2.2.1,s3.2.2.2.2.2.2.2)))))
 ((len y2),0,p1,p2,p3,p4,[],y2) fun s3=>
 (K s3.2.2.2.2.2.2.1))))))
def Mi_met (p1:List Int) (p2:List Int) (K:(List Int)→Prop):Prop:=
 (LoopP (S:=List Int×Int×Int×List Int) (fun s1 Kb1 Kx1=>
 (((decide (s1.2.2.1<s1.2.1))=true→
 ((inB s1.2.2.1 (List.length s1.1))∧
 ((((gI s1.1 s1.2.2.1) !=(-1))=true→
 (M_Contains_int s1.2.2.2 (gI s1.1 s1.2.2.1) fun(y2:Bool)=>
 (((!y2)=true→
 ((List.length s1.2.2.2+List.length ([(gI s1.1 s1.2.2.1)]:List Int)≤2^36)∧
 (Kb1 (s1.1,s1.2.1,(iadd s1.2.2.1 1),(s1.2.2.2++[(gI s1.1 s1.2.2.1)])))))∧
 ((!y2)=false→
 (Kb1 (s1.1,s1.2.1,(iadd s1.2.2.1 1),s1.2.2.2))))))∧
 (((gI s1.1 s1.2.2.1) !=(-1))=false→
 (Kb1 (s1.1,s1.2.1,(iadd s1.2.2.1 1),s1.2.2.2))))))∧
 ((decide (s1.2.2.1<s1.2.1))=false→
 (Kx1 (s1.1,s1.2.1,s1.2.2.1,s1.2.2.2)))))
 (p1,(len p1),0,p2) fun s1=>
 (K s1.2.2.2))
def M_Clip_int (p1:List Int) (K:(List Int)→Prop):Prop:=
 (((0:Int)≤(0:Int)∧(0:Int)≤(len p1)∧(len p1)≤(len p1)∧(len p1)≤len p1)∧
 (K (sub p1 (0:Int) (len p1))))
def Mi_OrderOf (p1:List Int) (p2:List Int) (p3:List Int) (K:(List Int)→Prop):Prop:=
 (Mi_HeapValid p1 p2 p3 fun(y1:Bool)=>
 (((!y1)=true→
 (K []))∧
 ((!y1)=false→
 (Mi_met p3 [] fun(y2:List Int)=>
 (LoopP (S:=Int×List Int×List Int×List Int×List Int) (fun s3 Kb3 Kx3=>
 (((decide (s3.1<(len s3.2.2.2.2)))=true→
 ((inB s3.1 (List.length s3.2.2.2.2))∧
 ((inB (gI s3.2.2.2.2 s3.1) (List.length s3.2.1))∧
 ((inB s3.1 (List.length s3.2.2.2.2))∧
 ((inB (gI s3.2.2.2.2 s3.1) (List.length s3.2.2.1))∧
 (Mi_met [(gI s3.2.1 (gI s3.2.2.2.2 s3.1)),(gI s3.2.2.1 (gI s3.2.2.2.2 s3.1))] s3.2.2.2.2 fun(y4:List Int)=>
 (Kb3 ((iadd s3.1 1),s3.2.1,s3.2.2.1,s3.2.2.2.1,y4))))))))∧
 ((decide (s3.1<(len s3.2.2.2.2)))=false→
 (Kx3 (s3.1,s3.2.1,s3.2.2.1,s3.2.2.2.1,s3.2.2.2.2)))))
 (0,p1,p2,p3,y2) fun s3=>
 (M_Clip_int s3.2.2.2.2 fun(y5:List Int)=>
 (K y5)))))))
def Mi_CopyHeap_1 (p1:Int) (p2:List Int) (K:Int→Prop):Prop:=
 (M_Index_int p2 p1 fun(y1:Int)=>
 (K y1))
def Mi_CopyHeap (p1:List Int) (p2:List Int) (p3:List Int) (K:Bool→(List Int)→(List Int)→(List Int)→(List Int)→Prop):Prop:=
 (Mi_HeapValid p1 p2 p3 fun(y1:Bool)=>
 (((!y1)=true→
 (K false [] [] [] []))∧
 ((!y1)=false→
 (Mi_NewHeap (len p1) (len p3) fun(y2:Bool) (y3:List Int) (y4:List Int) (y5:List Int)=>
 (Mi_OrderOf p1 p2 p3 fun(y6:List Int)=>
 (LoopP (S:=Int×Int×List Int×List Int×List Int×List Int×List Int×List Int×List Int×List Int×List Int×List Int) (fun s7 Kb7 Kx7=>
 (((decide (s7.2.1<s7.1))=true→
 ((inB s7.2.1 (List.length s7.2.2.2.2.2.1))∧
 ((inB (gI s7.2.2.2.2.2.1 s7.2.1) (List.length s7.2.2.1))∧
 (Mi_CopyHeap_1 (gI s7.2.2.1 (gI s7.2.2.2.2.2.1 s7.2.1)) s7.2.2.2.2.2.1 fun(y8:Int)=>
 ((inB (gI s7.2.2.2.2.2.1 s7.2.1) (List.length s7.2.2.2.1))∧
 (Mi_CopyHeap_1 (gI s7.2.2.2.1 (gI s7.2.2.2.2.2.1 s7.2.1)) s7.2.2.2.2.2.1 fun(y9:Int)=>
 ((inB s7.2.1 (List.length s7.2.2.2.2.2.2.2.2.2.1))∧
 ((inB s7.2.1 (List.length s7.2.2.2.2.2.2.2.2.2.2.1))∧
 (Kb7 (s7.1,(iadd s7.2.1 1),s7.2.2.1,s7.2.2.2.1,s7.2.2.2.2.1,s7.2.2.2.2.2.1,s7.2.2.2.2.2.2.1,s7.2.2.2.2.2.2.2.1,s7.2.2.2.2.2.2.2.2.1,(uL s7.2.2.2.2.2.2.2.2.2.1 s7.2.1 y8),(uL s7.2.2.2.2.2.2.2.2.2.2.1 s7.2.1 y9),s7.2.2.2.2.2.2.2.2.2.2.2))))))))))∧
 ((decide (s7.2.1<s7.1))=false→
 (Kx7 (s7.1,s7.2.1,s7.2.2.1,s7.2.2.2.1,s7.2.2.2.2.1,s7.2.2.2.2.2.1,s7.2.2.2.2.2.2.1,s7.2.2.2.2.2.2.2.1,s7.2.2.2.2.2.2.2.2.1,s7.2.2.2.2.2.2.2.2.2.1,s7.2.2.2.2.2.2.2.2.2.2.1,s7.2.2.2.2.2.2.2.2.2.2.2)))))
 ((len y6),0,p1,p2,p3,y6,[],[],[],y3,y4,y5) fun s7=>
 (LoopP (S:=List Int×Int×Int×List Int×List Int×List Int×List Int×List Int×List Int×List Int×List Int×List Int×List Int) (fun s10 Kb10 Kx10=>
 (((decide (s10.2.2.1<s10.2.1))=true→
 ((inB s10.2.2.1 (List.length s10.1))∧
 (Mi_CopyHeap_1 (gI s10.1 s10.2.2.1) s10.2.2.2.2.2.2.2.2.2.2.2.2 fun(y11:Int)=>
 ((inB s10.2.2.1 (List.length s10.2.2.2.2.2.2.2.2.2.2.2.1))∧
 (Kb10 (s10.1,s10.2.1,(iadd s10.2.2.1 1),s10.2.2.2.1,s10.2.2.2.2.1,s10.2.2.2.2.2.1,s10.2.2.2.2.2.2.1,s10.2.2.2.2.2.2.2.1,s10.2.2.2.2.2.2.2.2.1,s10.2.2.2.2.2.2.2.2.2.1,s10.2.2.2.2.2.2.2.2.2.2.1,(uL s10.2.2.2.2.2.2.2.2.2.2.2.1 s10.2.2.1 y11),s10.2.2.2.2.2.2.2.2.2.2.2.2))))))∧
 ((decide (s10.2.2.1<s10.2.1))=false→
 (Kx10 (s10.1,s10.2.1,s10.2.2.1,s10.2.2.2.1,s10.2.2.2.2.1,s10.2.2.2.2.2.1,s10.2.2.2.2.2.2.1,s10.2.2.2.2.2.2.2.1,s10.2.2.2.2.2.2.2.2.1,s10.2.2.2.2.2.2.2.2.2.1,s10.2.2.2.2.2.2.2.2.2.2.1,s10.2.2.2.2.2.2.2.2.2.2.2.1,s10.2.2.2.2.2.2.2.2.2.2.2.2)))))
 (s7.2.2.2.2.1,(len s7.2.2.2.2.1),0,s7.2.2.1,s7.2.2.2.1,s7.2.2.2.2.1,s7.2.2.2.2.2.2.1,s7.2.2.2.2.2.2.2.1,s7.2.2.2.2.2.2.2.2.1,s7.2.2.2.2.2.2.2.2.2.1,s7.2.2.2.2.2.2.2.2.2.2.1,s7.2.2.2.2.2.2.2.2.2.2.2,s7.2.2.2.2.2.1) fun s10=>
 (LoopP (S:=Int×Int×List Int×List Int×List Int×List Int×List Int×List Int×List Int×List Int) (fun s12 Kb12 Kx12=>
 (((decide (s12.2.1<s12.1))=true→
 (Mi_CopyHeap_1 s12.2.1 s12.2.2.2.2.2.2.2.2.2 fun(y13:Int)=>
 ((List.length s12.2.2.1+List.length ([y13]:List Int)≤2^36)∧
 (Kb12 (s12.1,(iadd s12.2.1 1),(s12.2.2.1++[y13]),s12.2.2.2.1,s12.2.2.2.2.1,s12.2.2.2.2.2.1,s12.2.2.2.2.2.2.1,s12.2.2.2.2.2.2.2.1,s12.2.2.2.2.2.2.2.2.1,s12.2.2.2.2.2.2.2.2.2)))))∧
 ((decide (s12.2.1<s12.1))=false→
 (Kx12 (s12.1,s12.2.1,s12.2.2.1,s12.2.2.2.1,s12.2.2.2.2.1,s12.2.2.2.2.2.1,s12.2.2.2.2.2.2.1,s12.2.2.2.2.2.2.2.1,s12.2.2.2.2.2.2.2.2.1,s12.2.2.2.2.2.2.2.2.2)))))
 ((len s10.2.2.2.1),0,[],s10.2.2.2.2.2.2.1,s10.2.2.2.2.2.2.2.1,s10.2.2.2.2.2.2.2.2.1,s10.2.2.2.2.2.2.2.2.2.1,s10.2.2.2.2.2.2.2.2.2.2.1,s10.2.2.2.2.2.2.2.2.2.2.2.1,s10.2.2.2.2.2.2.2.2.2.2.2.2) fun s12=>
 (K true s12.2.2.2.2.2.2.1 s12.2.2.2.2.2.2.2.1 s12.2.2.2.2.2.2.2.2.1 s12.2.2.1)))))))))
def Mi_comes_1 (p1:List Int) (p2:List Int) (p3:List Int) (p4:List Int) (p5:Int) (p6:List Int) (p7:Int) (p8:List OpV) (p9:Int) (p10:Bool) (p11:Bool) (p12:List UInt8) (p13:List Int) (p14:List Int) (p15:List Int) (p16:List Int) (p17:Int) (p18:List Int) (p19:Int) (p20:List OpV) (p21:Int) (p22:Bool) (p23:List UInt8) (p24:List (List UInt8)) (p25:List NodeV) (K:(List (List UInt8))→(List NodeV)→Prop):Prop:=
 (Mi_FormatBoth p1 p2 p3 p4 p5 p6 p7 p8 p9 p10 fun(y1:List UInt8)=>
 ((p11=true→
 (((!(List.contains p24 y1))=true→
 ((List.length p23+List.length p12≤2^62)∧
 ((List.length p25+List.length ([(NodeV.mk (BothV.mk (StoreV.mk (HeapV.mk p1 p2 p3) p4) (GcV.mk p5 p6 p7) p8 p9 p10) (p23++p12))]:List NodeV)≤2^36)∧
 (let v2:List NodeV:=(p25++[(NodeV.mk (BothV.mk (StoreV.mk (HeapV.mk p1 p2 p3) p4) (GcV.mk p5 p6 p7) p8 p9 p10) (p23++p12))]);
 (K (addKey p24 y1) v2)))))∧
 ((!(List.contains p24 y1))=false→
 (K p24 p25))))∧
 (p11=false→
 (K p24 p25))))
def Mi_comes (p1:List Int) (p2:List Int) (p3:List Int) (p4:List Int) (p5:Int) (p6:List Int) (p7:Int) (p8:List OpV) (p9:Int) (p10:Bool) (p11:Bool) (K:Bool→(List NodeV)→Prop):Prop:=
 (Mi_BothValid p1 p2 p3 p4 p5 p6 p7 p8 p9 p10 fun(y1:Bool)=>
 (((!y1)=true→
 (K false []))∧
 ((!y1)=false→
 (Mi_anew p1 p2 p3 p4 p5 p6 p7 p8 p9 p10 fun(y2:List Int) (y3:List Int) (y4:List Int) (y5:List Int) (y6:List Int) (y7:List OpV)=>
 (Mi_FormatBoth p1 p2 p3 p4 p5 p6 p7 p8 p9 p10 fun(y8:List UInt8)=>
 (LoopP (S:=Bool×Int×List NodeV×List (List UInt8)) (fun s9 Kb9 Kx9=>
 (((decide (s9.2.1<(len s9.2.2.1)))=true→
 ((inB s9.2.1 (List.length s9.2.2.1))∧
 (Mi_StepBoth ((gN s9.2.2.1 s9.2.1).b.s.h.l) ((gN s9.2.2.1 s9.2.1).b.s.h.r) ((gN s9.2.2.1 s9.2.1).b.s.h.ro) ((gN s9.2.2.1 s9.2.1).b.s.free) ((gN s9.2.2.1 s9.2.1).b.g.phase) ((gN s9.2.2.1 s9.2.1).b.g.color) ((gN s9.2.2.1 s9.2.1).b.g.pos) ((gN s9.2.2.1 s9.2.1).b.ops) ((gN s9.2.2.1 s9.2.1).b.pos) ((gN s9.2.2.1 s9.2.1).b.lost) fun(y10:Int) (y11:Int) (y12:Int) (y13:Bool) (y14:Bool) (y15:List Int) (y16:List Int) (y17:List Int) (y18:List Int) (y19:List Int) (y20:List OpV)=>
 (Mi_comes_1 y15 y16 y17 y18 y10 y19 y11 y20 y12 y13 y14 [103] ((gN s9.2.2.1 s9.2.1).b.s.h.l) ((gN s9.2.2.1 s9.2.1).b.s.h.r) ((gN s9.2.2.1 s9.2.1).b.s.h.ro) ((gN s9.2.2.1 s9.2.1).b.s.free) ((gN s9.2.2.1 s9.2.1).b.g.phase) ((gN s9.2.2.1 s9.2.1).b.g.color) ((gN s9.2.2.1 s9.2.1).b.g.pos) ((gN s9.2.2.1 s9.2.1).b.ops) ((gN s9.2.2.1 s9.2.1).b.pos) ((gN s9.2.2.1 s9.2.1).b.lost) ((gN s9.2.2.1 s9.2.1).road) s9.2.2.2 s9.2.2.1 fun(y21:List (List UInt8)) (y22:List NodeV)=>
 (Mi_StepOp ((gN s9.2.2.1 s9.2.1).b.s.h.l) ((gN s9.2.2.1 s9.2.1).b.s.h.r) ((gN s9.2.2.1 s9.2.1).b.s.h.ro) ((gN s9.2.2.1 s9.2.1).b.s.free) ((gN s9.2.2.1 s9.2.1).b.g.phase) ((gN s9.2.2.1 s9.2.1).b.g.color) ((gN s9.2.2.1 s9.2.1).b.g.pos) ((gN s9.2.2.1 s9.2.1).b.ops) ((gN s9.2.2.1 s9.2.1).b.pos) ((gN s9.2.2.1 s9.2.1).b.lost) s9.1 fun(y23:Int) (y24:Int) (y25:Int) (y26:Bool) (y27:Bool) (y28:List Int) (y29:List Int) (y30:List Int) (y31:List Int) (y32:List Int) (y33:List OpV)=>
 (Mi_comes_1 y28 y29 y30 y31 y23 y32 y24 y33 y25 y26 y27 [111] ((gN s9.2.2.1 s9.2.1).b.s.h.l) ((gN s9.2.2.1 s9.2.1).b.s.h.r) ((gN s9.2.2.1 s9.2.1).b.s.h.ro) ((gN s9.2.2.1 s9.2.1).b.s.free) ((gN s9.2.2.1 s9.2.1).b.g.phase) ((gN s9.2.2.1 s9.2.1).b.g.color) ((gN s9.2.2.1 s9.2.1).b.g.pos) ((gN s9.2.2.1 s9.2.1).b.ops) ((gN s9.2.2.1 s9.2.1).b.pos) ((gN s9.2.2.1 s9.2.1).b.lost) ((gN s9.2.2.1 s9.2.1).road) y21 y22 fun(y34:List (List UInt8)) (y35:List NodeV)=>
 (((decide ((len y35)>400))=true→
 (K false []))∧
 ((decide ((len y35)>400))=false→
 (Kb9 (s9.1,(iadd s9.2.1 1),y35,y34))))))))))∧
 ((decide (s9.2.1<(len s9.2.2.1)))=false→
 (Kx9 (s9.1,s9.2.1,s9.2.2.1,s9.2.2.2)))))
 (p11,0,[(NodeV.mk (BothV.mk (StoreV.mk (HeapV.mk y2 y3 y4) y5) (GcV.mk p5 y6 p7) y7 p9 p10) ([]:List UInt8))],(addKey [] y8)) fun s9=>
 (K true s9.2.2.1)))))))
def Mi_CanLose_1 (p1:List Int) (p2:List Int) (p3:List Int) (p4:List Int) (p5:Int) (p6:List Int) (p7:Int) (p8:List OpV) (p9:Int) (p10:Bool) (p11:List UInt8) (K:Prop):Prop:=
 K
def M_IndexFunc_came (p1:List NodeV) (K:Int→Prop):Prop:=
 (LoopP (S:=List NodeV×Int×Int) (fun s1 Kb1 Kx1=>
 (((decide (s1.2.2<s1.2.1))=true→
 ((inB s1.2.2 (List.length s1.1))∧
 (Mi_CanLose_1 ((gN s1.1 s1.2.2).b.s.h.l) ((gN s1.1 s1.2.2).b.s.h.r) ((gN s1.1 s1.2.2).b.s.h.ro) ((gN s1.1 s1.2.2).b.s.free) ((gN s1.1 s1.2.2).b.g.phase) ((gN s1.1 s1.2.2).b.g.color) ((gN s1.1 s1.2.2).b.g.pos) ((gN s1.1 s1.2.2).b.ops) ((gN s1.1 s1.2.2).b.pos) ((gN s1.1 s1.2.2).b.lost) ((gN s1.1 s1.2.2).road)<|
 (((gN s1.1 s1.2.2).b.lost=true→
 (K s1.2.2))∧
 ((gN s1.1 s1.2.2).b.lost=false→
 (Kb1 (s1.1,s1.2.1,(iadd s1.2.2 1))))))))∧
 ((decide (s1.2.2<s1.2.1))=false→
 (Kx1 (s1.1,s1.2.1,s1.2.2)))))
 (p1,(len p1),0) fun s1=>
 (K (-1)))
def M_ContainsFunc_came (p1:List NodeV) (K:Bool→Prop):Prop:=
 (M_IndexFunc_came p1 fun(y1:Int)=>
 (K (decide (y1≥0))))
def Mi_CanLose (p1:List Int) (p2:List Int) (p3:List Int) (p4:List Int) (p5:Int) (p6:List Int) (p7:Int) (p8:List OpV) (p9:Int) (p10:Bool) (p11:Bool) (K:Bool→Bool→Prop):Prop:=
 (Mi_comes p1 p2 p3 p4 p5 p6 p7 p8 p9 p10 p11 fun(y1:Bool) (y2:List NodeV)=>
 (M_ContainsFunc_came y2 fun(y3:Bool)=>
 (K y3 y1)))
def Mi_ShortLoss (p1:List Int) (p2:List Int) (p3:List Int) (p4:List Int) (p5:Int) (p6:List Int) (p7:Int) (p8:List OpV) (p9:Int) (p10:Bool) (p11:Bool) (K:(List UInt8)→Bool→Prop):Prop:=
 (Mi_comes p1 p2 p3 p4 p5 p6 p7 p8 p9 p10 p11 fun(y1:Bool) (y2:List NodeV)=>
 (LoopP (S:=Int×Int×List NodeV) (fun s3 Kb3 Kx3=>
 (((decide (s3.2.1<s3.1))=true→
 ((inB s3.2.1 (List.length s3.2.2))∧
 (((gN s3.2.2 s3.2.1).b.lost=true→
 (K ((gN s3.2.2 s3.2.1).road) true))∧
 ((gN s3.2.2 s3.2.1).b.lost=false→
 (Kb3 (s3.1,(iadd s3.2.1 1),s3.2.2))))))∧
 ((decide (s3.2.1<s3.1))=false→
 (Kx3 (s3.1,s3.2.1,s3.2.2)))))
 ((len y2),0,y2) fun s3=>
 (K ([]:List UInt8) false)))
def Mi_desk_plain (p1:List UInt8) (p2:Int) (p3:Int) (p4:Int) (p5:Bool) (p6:Bool) (p7:List Int) (p8:List Int) (p9:List Int) (p10:List Int) (p11:List Int) (p12:List OpV) (p13:List Int) (K:Bool→Int→Int→Int→Bool→(List Int)→(List Int)→(List Int)→(List Int)→(List Int)→(List OpV)→(List Int)→Prop):Prop:=
 (((p1==[102,105,110,105,115,104])=true→
 (Mi_FinishBoth p7 p8 p9 p10 p2 p11 p3 p12 p4 p5 p6 fun(y1:Int) (y2:Int) (y3:Int) (y4:Bool) (y5:Bool) (y6:List Int) (y7:List Int) (y8:List Int) (y9:List Int) (y10:List Int) (y11:List OpV)=>
 (Mi_FormatBoth y6 y7 y8 y9 y1 y10 y2 y11 y3 y4 fun(y12:List UInt8)=>
 (Mi_desk_tell y12 y1 y2 y3 y4 p6 y6 y7 y8 y9 y10 y11 p13 fun(y13:List Int)=>
 (K true y1 y2 y3 y4 y6 y7 y8 y9 y10 y11 y13)))))∧
 ((p1==[102,105,110,105,115,104])=false→
 (((p1==[115,104,111,119])=true→
 (Mi_FormatBoth p7 p8 p9 p10 p2 p11 p3 p12 p4 p5 fun(y14:List UInt8)=>
 (Mi_desk_tell y14 p2 p3 p4 p5 p6 p7 p8 p9 p10 p11 p12 p13 fun(y15:List Int)=>
 (K true p2 p3 p4 p5 p7 p8 p9 p10 p11 p12 y15))))∧
 ((p1==[115,104,111,119])=false→
 (((p1==[115,116,111,114,101])=true→
 (Mi_FormatStore p7 p8 p9 p10 fun(y16:List UInt8)=>
 (Mi_desk_tell y16 p2 p3 p4 p5 p6 p7 p8 p9 p10 p11 p12 p13 fun(y17:List Int)=>
 (K true p2 p3 p4 p5 p7 p8 p9 p10 p11 p12 y17))))∧
 ((p1==[115,116,111,114,101])=false→
 (((p1==[103,97,114,98,97,103,101])=true→
 (Mi_GarbageOf p7 p8 p9 fun(y18:List Int)=>
 (Mi_spaced y18 fun(y19:List UInt8)=>
 ((List.length p1+List.length y19≤2^62)∧
 (Mi_desk_tell (p1++y19) p2 p3 p4 p5 p6 p7 p8 p9 p10 p11 p12 p13 fun(y20:List Int)=>
 (K true p2 p3 p4 p5 p7 p8 p9 p10 p11 p12 y20))))))∧
 ((p1==[103,97,114,98,97,103,101])=false→
 (((p1==[108,101,97,107,101,100])=true→
 (Mi_LeakedOf p7 p8 p9 p10 fun(y21:List Int)=>
 (Mi_spaced y21 fun(y22:List UInt8)=>
 ((List.length p1+List.length y22≤2^62)∧
 (Mi_desk_tell (p1++y22) p2 p3 p4 p5 p6 p7 p8 p9 p10 p11 p12 p13 fun(y23:List Int)=>
 (K true p2 p3 p4 p5 p7 p8 p9 p10 p11 p12 y23))))))∧
 ((p1==[108,101,97,107,101,100])=false→
 (((p1==[99,111,117,110,116,115])=true→
 (Mi_CountsOf p7 p8 p9 fun(y24:List Int)=>
 (Mi_spaced y24 fun(y25:List UInt8)=>
 ((List.length p1+List.length y25≤2^62)∧
 (Mi_desk_tell (p1++y25) p2 p3 p4 p5 p6 p7 p8 p9 p10 p11 p12 p13 fun(y26:List Int)=>
 (K true p2 p3 p4 p5 p7 p8 p9 p10 p11 p12 y26))))))∧
 ((p1==[99,111,117,110,116,115])=false→
 (((p1==[111,114,100,101,114])=true→
 (Mi_OrderOf p7 p8 p9 fun(y27:List Int)=>
 (Mi_spaced y27 fun(y28:List UInt8)=>
 ((List.length p1+List.length y28≤2^62)∧
 (Mi_desk_tell (p1++y28) p2 p3 p4 p5 p6 p7 p8 p9 p10 p11 p12 p13 fun(y29:List Int)=>
 (K true p2 p3 p4 p5 p7 p8 p9 p10 p11 p12 y29))))))∧
 ((p1==[111,114,100,101,114])=false→
 (((p1==[99,111,112,121])=true→
 (Mi_CopyHeap p7 p8 p9 fun(y30:Bool) (y31:List Int) (y32:List Int) (y33:List Int) (y34:List Int)=>
 (Mi_FormatHeap y31 y32 y33 fun(y35:List UInt8)=>
 (Mi_desk_tell y35 p2 p3 p4 p5 p6 p7 p8 p9 p10 p11 p12 p13 fun(y36:List Int)=>
 (K true p2 p3 p4 p5 p7 p8 p9 p10 p11 p12 y36)))))∧
 ((p1==[99,111,112,121])=false→
 (((p1==[108,111,115,101])=true→
 (Mi_CanLose p7 p8 p9 p10 p2 p11 p3 p12 p4 p5 p6 fun(y37:Bool) (y38:Bool)=>
 (Mi_ShortLoss p7 p8 p9 p10 p2 p11 p3 p12 p4 p5 p6 fun(y39:List UInt8) (y40:Bool)=>
 (((!y38)=true→
 (Mi_desk_tell [117,110,107,110,111,119,110] p2 p3 p4 p5 p6 p7 p8 p9 p10 p11 p12 p13 fun(y41:List Int)=>
 (K true p2 p3 p4 p5 p7 p8 p9 p10 p11 p12 y41)))∧
 ((!y38)=false→
 ((y40=true→
 ((List.length [108,111,115,101,32]+List.length y39≤2^62)∧
 (Mi_desk_tell ([108,111,115,101,32]++y39) p2 p3 p4 p5 p6 p7 p8 p9 p10 p11 p12 p13 fun(y42:List Int)=>
 (K true p2 p3 p4 p5 p7 p8 p9 p10 p11 p12 y42))))∧
 (y40=false→
 (Mi_desk_tell [110,101,118,101,114] p2 p3 p4 p5 p6 p7 p8 p9 p10 p11 p12 p13 fun(y43:List Int)=>
 (K true p2 p3 p4 p5 p7 p8 p9 p10 p11 p12 y43)))))))))∧
 ((p1==[108,111,115,101])=false→
 (K false p2 p3 p4 p5 p7 p8 p9 p10 p11 p12 p13)))))))))))))))))))
def Ms_Builder_String (p1:Int) (p2:Int) (p3:Int) (p4:Bool) (p5:Bool) (p6:List Int) (p7:List Int) (p8:List Int) (p9:List Int) (p10:List Int) (p11:List OpV) (p12:List Int) (K:List UInt8→Prop):Prop:=(bytesI (bytesOf p12)=p12∧p12.length≤2^36)∧K (bytesOf p12)
def Mi_RunScript (p1:List UInt8) (K:(List UInt8)→Prop):Prop:=
 (((decide ((len p1)>20000))=true→
 (K [108,111,110,103,10]))∧
 ((decide ((len p1)>20000))=false→
 (Mi_desk_begin 4 3 0 0 0 false false [] [] [] [] [] [] [] fun(y1:Bool) (y2:Int) (y3:Int) (y4:Int) (y5:Bool) (y6:Bool) (y7:List Int) (y8:List Int) (y9:List Int) (y10:List Int) (y11:List Int) (y12:List OpV)=>
 (M_strings_Split p1 [10] fun(y13:List (List UInt8))=>
 (LoopP (S:=Int×Int×Int×Int×Int×Bool×Bool×List (List UInt8)×List Int×List Int×List Int×List Int×List Int×List OpV×List Int) (fun s14 Kb14 Kx14=>
 (((decide (s14.2.1<s14.1))=true→
 (let j85:Prop:=
 (Kb14 (s14.1,(iadd s14.2.1 1),s14.2.2.1,s14.2.2.2.1,s14.2.2.2.2.1,s14.2.2.2.2.2.1,s14.2.2.2.2.2.2.1,s14.2.2.2.2.2.2.2.1,s14.2.2.2.2.2.2.2.2.1,s14.2.2.2.2.2.2.2.2.2.1,s14.2.2.2.2.2.2.2.2.2.2.1,s14.2.2.2.2.2.2.2.2.2.2.2.1,s14.2.2.2.2.2.2.2.2.2.2.2.2.1,s14.2.2.2.2.2.2.2.2.2.2.2.2.2.1,s14.2.2.2.2.2.2.2.2.2.2.2.2.2.2));
 (let j110:=fun(z98:Int) (z99:Int) (z100:Int) (z101:Bool) (z102:Bool) (z103:List Int) (z104:List Int) (z105:List Int) (z106:List Int) (z107:List Int) (z108:List OpV) (z109:List Int)=>
 (Kb14 (s14.1,(iadd s14.2.1 1),z98,z99,z100,z101,z102,s14.2.2.2.2.2.2.2.1,z103,z104,z105,z106,z107,z108,z109));
 ((inB s14.2.1 (List.length s14.2.2.2.2.2.2.2.1))∧
 ((((gS s14.2.2.2.2.2.2.2.1 s14.2.1)==([]:List UInt8))=true→
 j85)∧
 (((gS s14.2.2.2.2.2.2.2.1 s14.2.1)==([]:List UInt8))=false→
 (((decide (s14.2.1≥200))=true→
 (Mi_desk_tell [102,117,108,108] s14.2.2.1 s14.2.2.2.1 s14.2.2.2.2.1 s14.2.2.2.2.2.1 s14.2.2.2.2.2.2.1 s14.2.2.2.2.2.2.2.2.1 s14.2.2.2.2.2.2.2.2.2.1 s14.2.2.2.2.2.2.2.2.2.2.1 s14.2.2.2.2.2.2.2.2.2.2.2.1 s14.2.2.2.2.2.2.2.2.2.2.2.2.1 s14.2.2.2.2.2.2.2.2.2.2.2.2.2.1 s14.2.2.2.2.2.2.2.2.2.2.2.2.2.2 fun(y15:List Int)=>
 (Kx14 (s14.1,s14.2.1,s14.2.2.1,s14.2.2.2.1,s14.2.2.2.2.1,s14.2.2.2.2.2.1,s14.2.2.2.2.2.2.1,s14.2.2.2.2.2.2.2.1,s14.2.2.2.2.2.2.2.2.1,s14.2.2.2.2.2.2.2.2.2.1,s14.2.2.2.2.2.2.2.2.2.2.1,s14.2.2.2.2.2.2.2.2.2.2.2.1,s14.2.2.2.2.2.2.2.2.2.2.2.2.1,s14.2.2.2.2.2.2.2.2.2.2.2.2.2.1,y15))))∧
 ((decide (s14.2.1≥200))=false→
 (Ms_Builder_Len s14.2.2.1 s14.2.2.2.1 s14.2.2.2.2.1 s14.2.2.2.2.2.1 s14.2.2.2.2.2.2.1 s14.2.2.2.2.2.2.2.2.1 s14.2.2.2.2.2.2.2.2.2.1 s14.2.2.2.2.2.2.2.2.2.2.1 s14.2.2.2.2.2.2.2.2.2.2.2.1 s14.2.2.2.2.2.2.2.2.2.2.2.2.1 s14.2.2.2.2.2.2.2.2.2.2.2.2.2.1 s14.2.2.2.2.2.2.2.2.2.2.2.2.2.2 fun(y16:Int)=>
 (((decide (y16>40000))=true→
 (Mi_desk_tell [102,117,108,108] s14.2.2.1 s14.2.2.2.1 s14.2.2.2.2.1 s14.2.2.2.2.2.1 s14.2.2.2.2.2.2.1 s14.2.2.2.2.2.2.2.2.1 s14.2.2.2.2.2.2.2.2.2.1 s14.2.2.2.2.2.2.2.2.2.2.1 s14.2.2.2.2.2.2.2.2.2.2.2.1 s14.2.2.2.2.2.2.2.2.2.2.2.2.1 s14.2.2.2.2.2.2.2.2.2.2.2.2.2.1 s14.2.2.2.2.2.2.2.2.2.2.2.2.2.2 fun(y17:List Int)=>
 (Kx14 (s14.1,s14.2.1,s14.2.2.1,s14.2.2.2.1,s14.2.2.2.2.1,s14.2.2.2.2.2.1,s14.2.2.2.2.2.2.1,s14.2.2.2.2.2.2.2.1,s14.2.2.2.2.2.2.2.2.1,s14.2.2.2.2.2.2.2.2.2.1,s14.2.2.2.2.2.2.2.2.2.2.1,s14.2.2.2.2.2.2.2.2.2.2.2.1,s14.2.2.2.2.2.2.2.2.2.2.2.2.1,s14.2.2.2.2.2.2.2.2.2.2.2.2.2.1,y17))))∧
 ((decide (y16>40000))=false→
 (M_strings_Cut (gS s14.2.2.2.2.2.2.2.1 s14.2.1) [32] fun(y18:List UInt8) (y19:List UInt8) (y20:Bool)=>
 ((y20=true→
 (Mi_desk_rest y18 y19 s14.2.2.1 s14.2.2.2.1 s14.2.2.2.2.1 s14.2.2.2.2.2.1 s14.2.2.2.2.2.2.1 s14.2.2.2.2.2.2.2.2.1 s14.2.2.2.2.2.2.2.2.2.1 s14.2.2.2.2.2.2.2.2.2.2.1 s14.2.2.2.2.2.2.2.2.2.2.2.1 s14.2.2.2.2.2.2.2.2.2.2.2.2.1 s14.2.2.2.2.2.2.2.2.2.2.2.2.2.1 s14.2.2.2.2.2.2.2.2.2.2.2.2.2.2 fun(y21:Bool) (y22:Int) (y23:Int) (y24:Int) (y25:Bool) (y26:Bool) (y27:List Int) (y28:List Int) (y29:List Int) (y30:List Int) (y31:List Int) (y32:List OpV) (y33:List Int)=>
 (((!y21)=true→
 (Mi_desk_tell [119,104,97,116] y22 y23 y24 y25 y26 y27 y28 y29 y30 y31 y32 y33 fun(y34:List Int)=>
 (Kb14 (s14.1,(iadd s14.2.1 1),y22,y23,y24,y25,y26,s14.2.2.2.2.2.2.2.1,y27,y28,y29,y30,y31,y32,y34))))∧
 ((!y21)=false→
 (((!y20)=true→
 (Mi_desk_plain y18 y22 y23 y24 y25 y26 y27 y28 y29 y30 y31 y32 y33 fun(y35:Bool) (y36:Int) (y37:Int) (y38:Int) (y39:Bool) (y40:List Int) (y41:List Int) (y42:List Int) (y43:List Int) (y44:List Int) (y45:List OpV) (y46:List Int)=>
 (((!y35)=true→
 (Mi_desk_tell [119,104,97,116] y36 y37 y38 y39 y26 y40 y41 y42 y43 y44 y45 y46 fun(y47:List Int)=>
 (Kb14 (s14.1,(iadd s14.2.1 1),y36,y37,y38,y39,y26,s14.2.2.2.2.2.2.2.1,y40,y41,y42,y43,y44,y45,y47))))∧
 ((!y35)=false→
 (Kb14 (s14.1,(iadd s14.2.1 1),y36,y37,y38,y39,y26,s14.2.2.2.2.2.2.2.1,y40,y41,y42,y43,y44,y45,y46))))))∧
 ((!y20)=false→
 (j110 y22 y23 y24 y25 y26 y27 y28 y29 y30 y31 y32 y33)))))))∧
 (y20=false→
 (((!y20)=true→
 (Mi_desk_plain y18 s14.2.2.1 s14.2.2.2.1 s14.2.2.2.2.1 s14.2.2.2.2.2.1 s14.2.2.2.2.2.2.1 s14.2.2.2.2.2.2.2.2.1 s14.2.2.2.2.2.2.2.2.2.1 s14.2.2.2.2.2.2.2.2.2.2.1 s14.2.2.2.2.2.2.2.2.2.2.2.1 s14.2.2.2.2.2.2.2.2.2.2.2.2.1 s14.2.2.2.2.2.2.2.2.2.2.2.2.2.1 s14.2.2.2.2.2.2.2.2.2.2.2.2.2.2 fun(y48:Bool) (y49:Int) (y50:Int) (y51:Int) (y52:Bool) (y53:List Int) (y54:List Int) (y55:List Int) (y56:List Int) (y57:List Int) (y58:List OpV) (y59:List Int)=>
 (((!y48)=true→
 (Mi_desk_tell [119,104,97,116] y49 y50 y51 y52 s14.2.2.2.2.2.2.1 y53 y54 y55 y56 y57 y58 y59 fun(y60:List Int)=>
 (Kb14 (s14.1,(iadd s14.2.1 1),y49,y50,y51,y52,s14.2.2.2.2.2.2.1,s14.2.2.2.2.2.2.2.1,y53,y54,y55,y56,y57,y58,y60))))∧
 ((!y48)=false→
 (j110 y49 y50 y51 y52 s14.2.2.2.2.2.2.1 y53 y54 y55 y56 y57 y58 y59)))))∧
 ((!y20)=false→
 j85))))))))))))))))∧
 ((decide (s14.2.1<s14.1))=false→
 (Kx14 (s14.1,s14.2.1,s14.2.2.1,s14.2.2.2.1,s14.2.2.2.2.1,s14.2.2.2.2.2.1,s14.2.2.2.2.2.2.1,s14.2.2.2.2.2.2.2.1,s14.2.2.2.2.2.2.2.2.1,s14.2.2.2.2.2.2.2.2.2.1,s14.2.2.2.2.2.2.2.2.2.2.1,s14.2.2.2.2.2.2.2.2.2.2.2.1,s14.2.2.2.2.2.2.2.2.2.2.2.2.1,s14.2.2.2.2.2.2.2.2.2.2.2.2.2.1,s14.2.2.2.2.2.2.2.2.2.2.2.2.2.2)))))
 ((len y13),0,y2,y3,y4,y5,y6,y13,y7,y8,y9,y10,y11,y12,[]) fun s14=>
 (Ms_Builder_String s14.2.2.1 s14.2.2.2.1 s14.2.2.2.2.1 s14.2.2.2.2.2.1 s14.2.2.2.2.2.2.1 s14.2.2.2.2.2.2.2.2.1 s14.2.2.2.2.2.2.2.2.2.1 s14.2.2.2.2.2.2.2.2.2.2.1 s14.2.2.2.2.2.2.2.2.2.2.2.1 s14.2.2.2.2.2.2.2.2.2.2.2.2.1 s14.2.2.2.2.2.2.2.2.2.2.2.2.2.1 s14.2.2.2.2.2.2.2.2.2.2.2.2.2.2 fun(y111:List UInt8)=>
 (K y111)))))))
def Ms_l5One (p1:Int) (K:Bool→Prop):Prop:=
 (((p1==1)=true→
 (K true))∧
 ((p1==1)=false→
 (K (p1==7))))
def Ms_l5Op (p1:List Int) (p2:Int) (K:Int→Int→Int→Int→Prop):Prop:=
 (Ms_l13Rd_num [1,5,2,3,4,6,7,1] p1 p2 fun(y1:Int) (y2:Int)=>
 (Ms_l13Rd_num [0,1,0,2] p1 y2 fun(y3:Int) (y4:Int)=>
 (Ms_l13Rd_num [0,1,1,2] p1 y4 fun(y5:Int) (y6:Int)=>
 (Ms_l5One y1 fun(y7:Bool)=>
 ((y7=true→
 (K y1 y3 0 y6))∧
 (y7=false→
 (K y1 y3 y5 y6)))))))
def Ms_l5Word (p1:Int) (K:(List UInt8)→Prop):Prop:=
 (((decide (p1<1))=true→
 (K ([]:List UInt8)))∧
 ((decide (p1<1))=false→
 (((decide (p1>7))=true→
 (K ([]:List UInt8)))∧
 ((decide (p1>7))=false→
 ((inB p1 (List.length [([]:List UInt8),[110,101,119],[99,111,112,121],[108,101,102,116],[114,105,103,104,116],[112,117,116,108,101,102,116],[112,117,116,114,105,103,104,116],[99,108,101,97,114]]))∧
 (let v1:List UInt8:=(gS [([]:List UInt8),[110,101,119],[99,111,112,121],[108,101,102,116],[114,105,103,104,116],[112,117,116,108,101,102,116],[112,117,116,114,105,103,104,116],[99,108,101,97,114]] p1);
 (K v1)))))))
def Ms_OpValid (p1:Int) (p2:Int) (p3:Int) (p4:Int) (K:Bool→Prop):Prop:=
 (Ms_l5Word p1 fun(y1:List UInt8)=>
 (((y1==([]:List UInt8))=true→
 (K false))∧
 ((y1==([]:List UInt8))=false→
 (((decide (p2<0))=true→
 (K false))∧
 ((decide (p2<0))=false→
 (((decide (p2≥p4))=true→
 (K false))∧
 ((decide (p2≥p4))=false→
 (((decide (p2≥3))=true→
 (K false))∧
 ((decide (p2≥3))=false→
 (((decide (p3<0))=true→
 (K false))∧
 ((decide (p3<0))=false→
 (((decide (p3≥3))=true→
 (K false))∧
 ((decide (p3≥3))=false→
 (Ms_l5One p1 fun(y2:Bool)=>
 ((y2=true→
 (K (p3==0)))∧
 (y2=false→
 (K (decide (p3<p4)))))))))))))))))))
def Ms_l13Dec (p1:Int) (K:(List UInt8)→Prop):Prop:=
 (((decide (p1<(-9223372036854775807)))=true→
 (K [45,57,50,50,51,51,55,50,48,51,54,56,53,52,55,55,53,56,48,56]))∧
 ((decide (p1<(-9223372036854775807)))=false→
 (((decide (p1<0))=true→
 False)∧
 ((decide (p1<0))=false→
 (LoopP (S:=Int×List UInt8) (fun s1 Kb1 Kx1=>
 (((decide (s1.1>9))=true→
 (((10:Int)≠0)∧
 ((0<List.length [(IntKind.wrap .u8 (iadd 48 (Int.tmod s1.1 10)))])∧
 ((List.length (bytesOf [(IntKind.wrap .u8 (iadd 48 (Int.tmod s1.1 10)))])+List.length s1.2≤2^62)∧
 (let v2:List UInt8:=((bytesOf [(IntKind.wrap .u8 (iadd 48 (Int.tmod s1.1 10)))])++s1.2);
 (((10:Int)≠0)∧
 (Kb1 ((iquo s1.1 10),v2))))))))∧
 ((decide (s1.1>9))=false→
 (Kx1 (s1.1,s1.2)))))
 (p1,([]:List UInt8)) fun s1=>
 ((0<List.length [(IntKind.wrap .u8 (iadd 48 s1.1))])∧
 ((List.length (bytesOf [(IntKind.wrap .u8 (iadd 48 s1.1))])+List.length s1.2≤2^62)∧
 (K ((bytesOf [(IntKind.wrap .u8 (iadd 48 s1.1))])++s1.2)))))))))
def Ms_FormatOp (p1:Int) (p2:Int) (p3:Int) (K:(List UInt8)→Prop):Prop:=
 (Ms_OpValid p1 p2 p3 3 fun(y1:Bool)=>
 (((!y1)=true→
 (K ([]:List UInt8)))∧
 ((!y1)=false→
 (Ms_l5Word p1 fun(y2:List UInt8)=>
 ((List.length y2+List.length [32]≤2^62)∧
 (Ms_l13Dec p2 fun(y3:List UInt8)=>
 ((List.length (y2++[32])+List.length y3≤2^62)∧
 (Ms_l5One p1 fun(y4:Bool)=>
 ((y4=true→
 (K ((y2++[32])++y3)))∧
 (y4=false→
 ((List.length ((y2++[32])++y3)+List.length [32]≤2^62)∧
 (Ms_l13Dec p3 fun(y5:List UInt8)=>
 ((List.length (((y2++[32])++y3)++[32])+List.length y5≤2^62)∧
 (K ((((y2++[32])++y3)++[32])++y5)))))))))))))))
def Ms_l5Ops (p1:List Int) (p2:Int) (K:(List Int)→Int→(List OpV)→Prop):Prop:=
 (Ms_l13Rd_num [4,3,6,2,1,0,9] p1 p2 fun(y1:Int) (y2:Int)=>
 (LoopP (S:=Int×List Int×Int×List OpV) (fun s3 Kb3 Kx3=>
 (((decide (s3.1>0))=true→
 (Ms_l5Op s3.2.1 s3.2.2.1 fun(y4:Int) (y5:Int) (y6:Int) (y7:Int)=>
 ((List.length s3.2.2.2+List.length ([(OpV.mk y4 y5 y6)]:List OpV)≤2^36)∧
 (Kb3 ((isub s3.1 1),s3.2.1,y7,(s3.2.2.2++[(OpV.mk y4 y5 y6)]))))))∧
 ((decide (s3.1>0))=false→
 (Kx3 (s3.1,s3.2.1,s3.2.2.1,s3.2.2.2)))))
 (y1,p1,y2,[]) fun s3=>
 (K s3.2.1 s3.2.2.1 s3.2.2.2)))
def Ms_DrawFormatOps (p1:List Int) (K:(List OpV)→Prop):Prop:=
 (Ms_l13Open p1 fun(y1:List Int) (y2:Int)=>
 (Ms_l5Ops y1 y2 fun(y3:List Int) (y4:Int) (y5:List OpV)=>
 (Ms_l13Rd_pick 12 y3 y4 fun(y6:Int) (y7:Int)=>
 (((y6==0)=true→
 (Ms_l13Rd_num [0,8,1] y3 y7 fun(y8:Int) (y9:Int)=>
 ((List.length y5+List.length ([(OpV.mk y8 3 0)]:List OpV)≤2^36)∧
 (K (y5++[(OpV.mk y8 3 0)])))))∧
 ((y6==0)=false→
 (K y5))))))
def M_strings_Join (p1:List (List UInt8)) (p2:List UInt8) (K:List UInt8→Prop):Prop:=
 (p1.length≤140737488355328∧(Lib.join p1 p2).length≤140737488355328)∧K (Lib.join p1 p2)
def Mi_FormatOps (p1:List OpV) (K:(List UInt8)→Prop):Prop:=
 (Mi_opsOk p1 3 fun(y1:Bool)=>
 (((!y1)=true→
 (K ([]:List UInt8)))∧
 ((!y1)=false→
 (LoopP (S:=List OpV×Int×Int×List (List UInt8)) (fun s2 Kb2 Kx2=>
 (((decide (s2.2.2.1<s2.2.1))=true→
 ((inB s2.2.2.1 (List.length s2.1))∧
 (Mi_FormatOp ((gO s2.1 s2.2.2.1).kind) ((gO s2.1 s2.2.2.1).a) ((gO s2.1 s2.2.2.1).b) fun(y3:List UInt8)=>
 ((List.length s2.2.2.2+List.length ([y3]:List (List UInt8))≤2^36)∧
 (Kb2 (s2.1,s2.2.1,(iadd s2.2.2.1 1),(s2.2.2.2++[y3])))))))∧
 ((decide (s2.2.2.1<s2.2.1))=false→
 (Kx2 (s2.1,s2.2.1,s2.2.2.1,s2.2.2.2)))))
 (p1,(len p1),0,[]) fun s2=>
 (M_strings_Join s2.2.2.2 [44,32] fun(y4:List UInt8)=>
 (K y4))))))
def Ms_FormatOps (p1:List OpV) (K:(List UInt8)→Prop):Prop:=
 (LoopP (S:=List OpV×List UInt8×Int) (fun s1 Kb1 Kx1=>
 (((decide (s1.2.2<(len s1.1)))=true→
 (((decide ((len s1.1)≤12))=true→
 ((inB s1.2.2 (List.length s1.1))∧
 (Ms_FormatOp ((gO s1.1 s1.2.2).kind) ((gO s1.1 s1.2.2).a) ((gO s1.1 s1.2.2).b) fun(y2:List UInt8)=>
 (((y2==([]:List UInt8))=true→
 (K ([]:List UInt8)))∧
 ((y2==([]:List UInt8))=false→
 (let j6:=fun(z4:List UInt8)=>
 ((inB s1.2.2 (List.length s1.1))∧
 (Ms_FormatOp ((gO s1.1 s1.2.2).kind) ((gO s1.1 s1.2.2).a) ((gO s1.1 s1.2.2).b) fun(y5:List UInt8)=>
 ((List.length z4+List.length y5≤2^62)∧
 (Kb1 (s1.1,(z4++y5),(iadd s1.2.2 1))))));
 (((decide (s1.2.2>0))=true→
 ((List.length s1.2.1+List.length [44,32]≤2^62)∧
 (j6 (s1.2.1++[44,32]))))∧
 ((decide (s1.2.2>0))=false→
 (j6 s1.2.1)))))))))∧
 ((decide ((len s1.1)≤12))=false→
 (Kx1 (s1.1,s1.2.1,s1.2.2)))))∧
 ((decide (s1.2.2<(len s1.1)))=false→
 (Kx1 (s1.1,s1.2.1,s1.2.2)))))
 (p1,([]:List UInt8),0) fun s1=>
 (K s1.2.1))
def Ms_l7Samples (K:(List (List UInt8))→Prop):Prop:=
 (K [[110,101,119,32,48,44,32,110,101,119,32,49,44,32,112,117,116,108,101,102,116,32,48,32,49,44,32,99,108,101,97,114,32,49,44,32,108,101,102,116,32,49,32,48,44,32,99,111,112,121,32,48,32,49],[110,101,119,32,48,44,32,110,101,119,32,49,44,32,110,101,119,32,50,44,32,112,117,116,108,101,102,116,32,49,32,50,44,32,99,108,101,97,114,32,50,44,32,108,101,102,116,32,50,32,49,44,32,112,117,116,108,101,102,116,32,48,32,50,44,32,99,108,101,97,114,32,50,44,32,112,117,116,108,101,102,116,32,49,32,50],[110,101,119,32,48,44,32,99,111,112,121,32,49,32,48,44,32,110,101,119,32,49,44,32,112,117,116,108,101,102,116,32,49,32,48,44,32,99,111,112,121,32,48,32,49,44,32,99,108,101,97,114,32,49],[110,101,119,32,48,44,32,110,101,119,32,49,44,32,112,117,116,108,101,102,116,32,48,32,49,44,32,108,101,102,116,32,49,32,48,44,32,112,117,116,108,101,102,116,32,48,32,48,44,32,112,117,116,114,105,103,104,116,32,48,32,49,44,32,99,108,101,97,114,32,49],[110,101,119,32,49,44,32,110,101,119,32,48,44,32,112,117,116,108,101,102,116,32,48,32,49,44,32,110,101,119,32,49,44,32,108,101,102,116,32,49,32,48,44,32,99,108,101,97,114,32,48]])
def Ms_l13Rd_of (p1:List (List UInt8)) (p2:List Int) (p3:Int) (K:(List UInt8)→Int→Prop):Prop:=
 (Ms_l13Rd_pick (len p1) p2 p3 fun(y1:Int) (y2:Int)=>
 ((inB y1 (List.length p1))∧
 (K (gS p1 y1) y2)))
def Ms_l13Cut (p1:List UInt8) (p2:Int) (K:(List (List UInt8))→Prop):Prop:=
 (LoopP (S:=List UInt8×Int×Int×Int×List (List UInt8)) (fun s1 Kb1 Kx1=>
 (((decide (s1.2.2.2.1≤(len s1.1)))=true→
 (((s1.2.2.2.1==(len s1.1))=true→
 (((0:Int)≤s1.2.2.1∧s1.2.2.1≤s1.2.2.2.1∧s1.2.2.2.1≤len s1.1)∧
 ((List.length s1.2.2.2.2+List.length ([(sub s1.1 s1.2.2.1 s1.2.2.2.1)]:List (List UInt8))≤2^36)∧
 (Kb1 (s1.1,s1.2.1,(iadd s1.2.2.2.1 1),(iadd s1.2.2.2.1 1),(s1.2.2.2.2++[(sub s1.1 s1.2.2.1 s1.2.2.2.1)]))))))∧
 ((s1.2.2.2.1==(len s1.1))=false→
 ((inB s1.2.2.2.1 (List.length s1.1))∧
 ((((gC s1.1 s1.2.2.2.1)==s1.2.1)=true→
 (((0:Int)≤s1.2.2.1∧s1.2.2.1≤s1.2.2.2.1∧s1.2.2.2.1≤len s1.1)∧
 ((List.length s1.2.2.2.2+List.length ([(sub s1.1 s1.2.2.1 s1.2.2.2.1)]:List (List UInt8))≤2^36)∧
 (Kb1 (s1.1,s1.2.1,(iadd s1.2.2.2.1 1),(iadd s1.2.2.2.1 1),(s1.2.2.2.2++[(sub s1.1 s1.2.2.1 s1.2.2.2.1)]))))))∧
 (((gC s1.1 s1.2.2.2.1)==s1.2.1)=false→
 (Kb1 (s1.1,s1.2.1,s1.2.2.1,(iadd s1.2.2.2.1 1),s1.2.2.2.2))))))))∧
 ((decide (s1.2.2.2.1≤(len s1.1)))=false→
 (Kx1 (s1.1,s1.2.1,s1.2.2.1,s1.2.2.2.1,s1.2.2.2.2)))))
 (p1,p2,0,0,[]) fun s1=>
 (K s1.2.2.2.2))
def Ms_ParseOp (p1:List UInt8) (K:Int→Int→Int→Bool→Prop):Prop:=
 (LoopP (S:=List UInt8×Int×Int×Int×Int) (fun s1 Kb1 Kx1=>
 (((decide (s1.2.1≤7))=true→
 (LoopP (S:=List UInt8×Int×Int×Int×Int×Int) (fun s2 Kb2 Kx2=>
 (((decide (s2.2.2.1<3))=true→
 (LoopP (S:=List UInt8×Int×Int×Int×Int×Int×Int) (fun s3 Kb3 Kx3=>
 (((decide (s3.2.2.2.1<3))=true→
 (((!(s3.1==([]:List UInt8)))=true→
 (Ms_FormatOp s3.2.1 s3.2.2.1 s3.2.2.2.1 fun(y4:List UInt8)=>
 (((y4==s3.1)=true→
 (K s3.2.1 s3.2.2.1 s3.2.2.2.1 true))∧
 ((y4==s3.1)=false→
 (Kb3 (s3.1,s3.2.1,s3.2.2.1,(iadd s3.2.2.2.1 1),s3.2.2.2.2.1,s3.2.2.2.2.2.1,s3.2.2.2.2.2.2))))))∧
 ((!(s3.1==([]:List UInt8)))=false→
 (Kb3 (s3.1,s3.2.1,s3.2.2.1,(iadd s3.2.2.2.1 1),s3.2.2.2.2.1,s3.2.2.2.2.2.1,s3.2.2.2.2.2.2)))))∧
 ((decide (s3.2.2.2.1<3))=false→
 (Kx3 (s3.1,s3.2.1,s3.2.2.1,s3.2.2.2.1,s3.2.2.2.2.1,s3.2.2.2.2.2.1,s3.2.2.2.2.2.2)))))
 (s2.1,s2.2.1,s2.2.2.1,0,s2.2.2.2.1,s2.2.2.2.2.1,s2.2.2.2.2.2) fun s3=>
 (Kb2 (s3.1,s3.2.1,(iadd s3.2.2.1 1),s3.2.2.2.2.1,s3.2.2.2.2.2.1,s3.2.2.2.2.2.2))))∧
 ((decide (s2.2.2.1<3))=false→
 (Kx2 (s2.1,s2.2.1,s2.2.2.1,s2.2.2.2.1,s2.2.2.2.2.1,s2.2.2.2.2.2)))))
 (s1.1,s1.2.1,0,s1.2.2.1,s1.2.2.2.1,s1.2.2.2.2) fun s2=>
 (Kb1 (s2.1,(iadd s2.2.1 1),s2.2.2.2.1,s2.2.2.2.2.1,s2.2.2.2.2.2))))∧
 ((decide (s1.2.1≤7))=false→
 (Kx1 (s1.1,s1.2.1,s1.2.2.1,s1.2.2.2.1,s1.2.2.2.2)))))
 (p1,1,0,0,0) fun s1=>
 (K 0 0 0 false))
def Ms_ParseOps (p1:List UInt8) (K:Bool→(List OpV)→Prop):Prop:=
 (((p1==([]:List UInt8))=true→
 (K true []))∧
 ((p1==([]:List UInt8))=false→
 (Ms_l13Cut p1 44 fun(y1:List (List UInt8))=>
 (LoopP (S:=Int×List OpV×List (List UInt8)) (fun s2 Kb2 Kx2=>
 (((decide (s2.1<(len s2.2.2)))=true→
 (((decide (s2.1≤12))=true→
 ((inB s2.1 (List.length s2.2.2))∧
 (let j10:Prop:=
 (let j9:=fun(z4:List UInt8)=>
 (Ms_ParseOp z4 fun(y5:Int) (y6:Int) (y7:Int) (y8:Bool)=>
 (((!y8)=true→
 (K false []))∧
 ((!y8)=false→
 ((List.length s2.2.1+List.length ([(OpV.mk y5 y6 y7)]:List OpV)≤2^36)∧
 (Kb2 ((iadd s2.1 1),(s2.2.1++[(OpV.mk y5 y6 y7)]),s2.2.2))))));
 (((decide (s2.1>0))=true→
 (((0:Int)≤(1:Int)∧(1:Int)≤(len (gS s2.2.2 s2.1))∧(len (gS s2.2.2 s2.1))≤len (gS s2.2.2 s2.1))∧
 (j9 (sub (gS s2.2.2 s2.1) (1:Int) (len (gS s2.2.2 s2.1))))))∧
 ((decide (s2.1>0))=false→
 (j9 (gS s2.2.2 s2.1)))));
 (((decide (s2.1>0))=true→
 ((((gS s2.2.2 s2.1)==([]:List UInt8))=true→
 (K false []))∧
 (((gS s2.2.2 s2.1)==([]:List UInt8))=false→
 ((inB 0 (List.length (gS s2.2.2 s2.1)))∧
 ((((gC (gS s2.2.2 s2.1) 0) !=32)=true→
 (K false []))∧
 (((gC (gS s2.2.2 s2.1) 0) !=32)=false→
 j10))))))∧
 ((decide (s2.1>0))=false→
 j10)))))∧
 ((decide (s2.1≤12))=false→
 (Kx2 (s2.1,s2.2.1,s2.2.2)))))∧
 ((decide (s2.1<(len s2.2.2)))=false→
 (Kx2 (s2.1,s2.2.1,s2.2.2)))))
 (0,[],y1) fun s2=>
 (((decide ((len s2.2.2)>12))=true→
 (K false []))∧
 ((decide ((len s2.2.2)>12))=false→
 (K true s2.2.1)))))))
def Ms_l1Points (p1:Int) (p2:Int) (K:Bool→Prop):Prop:=
 (((decide (p1≥(-1)))=true→
 (K (decide (p1<p2))))∧
 ((decide (p1≥(-1)))=false→
 (K false)))
def Ms_HeapValid (p1:List Int) (p2:List Int) (p3:List Int) (K:Bool→Prop):Prop:=
 (((decide ((len p1)<1))=true→
 (K false))∧
 ((decide ((len p1)<1))=false→
 (((decide ((len p1)>8))=true→
 (K false))∧
 ((decide ((len p1)>8))=false→
 ((((len p2) !=(len p1))=true→
 (K false))∧
 (((len p2) !=(len p1))=false→
 (((decide ((len p3)<1))=true→
 (K false))∧
 ((decide ((len p3)<1))=false→
 (((decide ((len p3)>3))=true→
 (K false))∧
 ((decide ((len p3)>3))=false→
 (LoopP (S:=Int×Int×List Int×List Int×List Int) (fun s1 Kb1 Kx1=>
 (((decide (s1.2.1<s1.1))=true→
 ((inB s1.2.1 (List.length s1.2.2.1))∧
 (Ms_l1Points (gI s1.2.2.1 s1.2.1) s1.1 fun(y2:Bool)=>
 (((!y2)=true→
 (K false))∧
 ((!y2)=false→
 ((inB s1.2.1 (List.length s1.2.2.2.1))∧
 (Ms_l1Points (gI s1.2.2.2.1 s1.2.1) s1.1 fun(y3:Bool)=>
 (((!y3)=true→
 (K false))∧
 ((!y3)=false→
 (Kb1 (s1.1,(iadd s1.2.1 1),s1.2.2.1,s1.2.2.2.1,s1.2.2.2.2)))))))))))∧
 ((decide (s1.2.1<s1.1))=false→
 (Kx1 (s1.1,s1.2.1,s1.2.2.1,s1.2.2.2.1,s1.2.2.2.2)))))
 ((len p1),0,p1,p2,p3) fun s1=>
 (LoopP (S:=Int×Int×List Int×List Int×List Int) (fun s4 Kb4 Kx4=>
 (((decide (s4.2.1<(len s4.2.2.2.2)))=true→
 ((inB s4.2.1 (List.length s4.2.2.2.2))∧
 (Ms_l1Points (gI s4.2.2.2.2 s4.2.1) s4.1 fun(y5:Bool)=>
 (((!y5)=true→
 (K false))∧
 ((!y5)=false→
 (Kb4 (s4.1,(iadd s4.2.1 1),s4.2.2.1,s4.2.2.2.1,s4.2.2.2.2)))))))∧
 ((decide (s4.2.1<(len s4.2.2.2.2)))=false→
 (Kx4 (s4.1,s4.2.1,s4.2.2.1,s4.2.2.2.1,s4.2.2.2.2)))))
 (s1.1,0,s1.2.2.1,s1.2.2.2.1,s1.2.2.2.2) fun s4=>
 (K true)))))))))))))
def Ms_l4At (p1:List Int) (p2:Int) (K:Int→Prop):Prop:=
 (LoopP (S:=List Int×Int×Int) (fun s1 Kb1 Kx1=>
 (((decide (s1.2.2<(len s1.1)))=true→
 ((inB s1.2.2 (List.length s1.1))∧
 ((((gI s1.1 s1.2.2)==s1.2.1)=true→
 (K s1.2.2))∧
 (((gI s1.1 s1.2.2)==s1.2.1)=false→
 (Kb1 (s1.1,s1.2.1,(iadd s1.2.2 1)))))))∧
 ((decide (s1.2.2<(len s1.1)))=false→
 (Kx1 (s1.1,s1.2.1,s1.2.2)))))
 (p1,p2,0) fun s1=>
 (K (-1)))
def Ms_l4Free (p1:List Int) (p2:List Int) (p3:List Int) (p4:Int) (K:Bool→Prop):Prop:=
 (((decide (p4≥0))=true→
 (((decide (p4<(len p1)))=true→
 ((inB p4 (List.length p1))∧
 ((((gI p1 p4)==(-1))=true→
 ((inB p4 (List.length p2))∧
 ((((gI p2 p4)==(-1))=true→
 (Ms_l4At p1 p4 fun(y1:Int)=>
 (((decide (y1<0))=true→
 (Ms_l4At p2 p4 fun(y2:Int)=>
 (((decide (y2<0))=true→
 (Ms_l4At p3 p4 fun(y3:Int)=>
 (K (decide (y3<0)))))∧
 ((decide (y2<0))=false→
 (K false)))))∧
 ((decide (y1<0))=false→
 (K false)))))∧
 (((gI p2 p4)==(-1))=false→
 (K false)))))∧
 (((gI p1 p4)==(-1))=false→
 (K false)))))∧
 ((decide (p4<(len p1)))=false→
 (K false))))∧
 ((decide (p4≥0))=false→
 (K false)))
def Ms_StoreValid (p1:List Int) (p2:List Int) (p3:List Int) (p4:List Int) (K:Bool→Prop):Prop:=
 (Ms_HeapValid p1 p2 p3 fun(y1:Bool)=>
 (((!y1)=true→
 (K false))∧
 ((!y1)=false→
 (((decide ((len p4)>(len p1)))=true→
 (K false))∧
 ((decide ((len p4)>(len p1)))=false→
 (LoopP (S:=Int×List Int×List Int×List Int×List Int) (fun s2 Kb2 Kx2=>
 (((decide (s2.1<(len s2.2.2.2.2)))=true→
 ((inB s2.1 (List.length s2.2.2.2.2))∧
 (Ms_l4Free s2.2.1 s2.2.2.1 s2.2.2.2.1 (gI s2.2.2.2.2 s2.1) fun(y3:Bool)=>
 (((!y3)=true→
 (K false))∧
 ((!y3)=false→
 (((0:Int)≤(0:Int)∧(0:Int)≤s2.1∧s2.1≤len s2.2.2.2.2)∧
 ((inB s2.1 (List.length s2.2.2.2.2))∧
 (Ms_l4At (sub s2.2.2.2.2 (0:Int) s2.1) (gI s2.2.2.2.2 s2.1) fun(y4:Int)=>
 (((decide (y4≥0))=true→
 (K false))∧
 ((decide (y4≥0))=false→
 (Kb2 ((iadd s2.1 1),s2.2.1,s2.2.2.1,s2.2.2.2.1,s2.2.2.2.2))))))))))))∧
 ((decide (s2.1<(len s2.2.2.2.2)))=false→
 (Kx2 (s2.1,s2.2.1,s2.2.2.1,s2.2.2.2.1,s2.2.2.2.2)))))
 (0,p1,p2,p3,p4) fun s2=>
 (K true)))))))
def Ms_l1Copy (p1:List Int) (p2:List Int) (p3:List Int) (K:Prop):Prop:=
 (((List.length p1:Nat)≤2^36)∧
 (((List.length p2:Nat)≤2^36)∧
 (((List.length p3:Nat)≤2^36)∧
 K)))
def Ms_l4Copy (p1:List Int) (p2:List Int) (p3:List Int) (p4:List Int) (K:Prop):Prop:=
 (Ms_l1Copy p1 p2 p3<|
 (((List.length p4:Nat)≤2^36)∧
 K))
def Ms_l5Do (p1:Int) (p2:Int) (p3:Int) (p4:List Int) (p5:List Int) (p6:List Int) (p7:List Int) (K:Int→(List Int)→(List Int)→(List Int)→Prop):Prop:=
 ((inB p2 (List.length p6))∧
 ((inB p3 (List.length p6))∧
 (((p1==2)=true→
 ((inB p2 (List.length p6))∧
 (K 0 p4 p5 (uL p6 p2 (gI p6 p3)))))∧
 ((p1==2)=false→
 (((p1==7)=true→
 ((inB p2 (List.length p6))∧
 (K 0 p4 p5 (uL p6 p2 (-1)))))∧
 ((p1==7)=false→
 (((p1==3)=true→
 ((((gI p6 p3)==(-1))=true→
 (K 2 p4 p5 p6))∧
 (((gI p6 p3)==(-1))=false→
 ((inB (gI p6 p3) (List.length p4))∧
 (((p1==4)=true→
 ((inB (gI p6 p3) (List.length p5))∧
 ((inB p2 (List.length p6))∧
 (K 0 p4 p5 (uL p6 p2 (gI p5 (gI p6 p3)))))))∧
 ((p1==4)=false→
 ((inB p2 (List.length p6))∧
 (K 0 p4 p5 (uL p6 p2 (gI p4 (gI p6 p3)))))))))))∧
 ((p1==3)=false→
 (((p1==4)=true→
 ((((gI p6 p3)==(-1))=true→
 (K 2 p4 p5 p6))∧
 (((gI p6 p3)==(-1))=false→
 ((inB (gI p6 p3) (List.length p4))∧
 (((p1==4)=true→
 ((inB (gI p6 p3) (List.length p5))∧
 ((inB p2 (List.length p6))∧
 (K 0 p4 p5 (uL p6 p2 (gI p5 (gI p6 p3)))))))∧
 ((p1==4)=false→
 ((inB p2 (List.length p6))∧
 (K 0 p4 p5 (uL p6 p2 (gI p4 (gI p6 p3)))))))))))∧
 ((p1==4)=false→
 ((((gI p6 p2)==(-1))=true→
 (K 2 p4 p5 p6))∧
 (((gI p6 p2)==(-1))=false→
 (((p1==5)=true→
 ((inB (gI p6 p2) (List.length p4))∧
 (K 0 (uL p4 (gI p6 p2) (gI p6 p3)) p5 p6)))∧
 ((p1==5)=false→
 ((inB (gI p6 p2) (List.length p5))∧
 (K 0 p4 (uL p5 (gI p6 p2) (gI p6 p3)) p6))))))))))))))))
def Ms_AllocCell (p1:List Int) (p2:List Int) (p3:List Int) (p4:List Int) (p5:Int) (K:Int→Bool→(List Int)→(List Int)→(List Int)→(List Int)→Prop):Prop:=
 (Ms_StoreValid p1 p2 p3 p4 fun(y1:Bool)=>
 (((!y1)=true→
 (K 0 false [] [] [] []))∧
 ((!y1)=false→
 (((decide (p5<0))=true→
 (K 0 false [] [] [] []))∧
 ((decide (p5<0))=false→
 (((decide (p5≥(len p3)))=true→
 (K 0 false [] [] [] []))∧
 ((decide (p5≥(len p3)))=false→
 ((((len p4)==0)=true→
 (K 0 false [] [] [] []))∧
 (((len p4)==0)=false→
 (Ms_l4Copy p1 p2 p3 p4<|
 ((inB 0 (List.length p4))∧
 (((0:Int)≤(1:Int)∧(1:Int)≤(len p4)∧(len p4)≤len p4)∧
 (((List.length (sub p4 (1:Int) (len p4)):Nat)≤2^36)∧
 ((inB p5 (List.length p3))∧
 (K (gI p4 0) true p1 p2 (uL p3 p5 (gI p4 0)) (sub p4 (1:Int) (len p4)))))))))))))))))
def Ms_RunOp (p1:List Int) (p2:List Int) (p3:List Int) (p4:List Int) (p5:Int) (p6:Int) (p7:Int) (K:Int→Bool→(List Int)→(List Int)→(List Int)→(List Int)→Prop):Prop:=
 (Ms_StoreValid p1 p2 p3 p4 fun(y1:Bool)=>
 (((!y1)=true→
 (K 0 false [] [] [] []))∧
 ((!y1)=false→
 (Ms_OpValid p5 p6 p7 (len p3) fun(y2:Bool)=>
 (((!y2)=true→
 (K 0 false [] [] [] []))∧
 ((!y2)=false→
 (((p5 !=1)=true→
 (Ms_l4Copy p1 p2 p3 p4<|
 (Ms_l5Do p5 p6 p7 p1 p2 p3 p4 fun(y3:Int) (y4:List Int) (y5:List Int) (y6:List Int)=>
 (K y3 true y4 y5 y6 p4))))∧
 ((p5 !=1)=false→
 (Ms_AllocCell p1 p2 p3 p4 p6 fun(y7:Int) (y8:Bool) (y9:List Int) (y10:List Int) (y11:List Int) (y12:List Int)=>
 (((!y8)=true→
 (Ms_l4Copy p1 p2 p3 p4<|
 (K 1 true p1 p2 p3 p4)))∧
 ((!y8)=false→
 (K 0 true y9 y10 y11 y12))))))))))))
def Ms_RunOps (p1:List Int) (p2:List Int) (p3:List Int) (p4:List Int) (p5:List OpV) (K:Int→Bool→(List Int)→(List Int)→(List Int)→(List Int)→Prop):Prop:=
 (Ms_StoreValid p1 p2 p3 p4 fun(y1:Bool)=>
 (((!y1)=true→
 (K 0 false [] [] [] []))∧
 ((!y1)=false→
 (((decide ((len p5)>12))=true→
 (K 0 false [] [] [] []))∧
 ((decide ((len p5)>12))=false→
 (Ms_l4Copy p1 p2 p3 p4<|
 (LoopP (S:=List OpV×Int×List Int×List Int×List Int×List Int×List Int×List Int×List Int×List Int×List Int×List Int×List Int×List Int) (fun s2 Kb2 Kx2=>
 (((decide (s2.2.1<(len s2.1)))=true→
 ((inB s2.2.1 (List.length s2.1))∧
 (Ms_OpValid ((gO s2.1 s2.2.1).kind) ((gO s2.1 s2.2.1).a) ((gO s2.1 s2.2.1).b) (len s2.2.2.2.2.1) fun(y3:Bool)=>
 (((!y3)=true→
 (K 0 false [] [] [] []))∧
 ((!y3)=false→
 (Kb2 (s2.1,(iadd s2.2.1 1),s2.2.2.1,s2.2.2.2.1,s2.2.2.2.2.1,s2.2.2.2.2.2.1,s2.2.2.2.2.2.2.1,s2.2.2.2.2.2.2.2.1,s2.2.2.2.2.2.2.2.2.1,s2.2.2.2.2.2.2.2.2.2.1,s2.2.2.2.2.2.2.2.2.2.2.1,s2.2.2.2.2.2.2.2.2.2.2.2.1,s2.2.2.2.2.2.2.2.2.2.2.2.2.1,s2.2.2.2.2.2.2.2.2.2.2.2.2.2)))))))∧
 ((decide (s2.2.1<(len s2.1)))=false→
 (Kx2 (s2.1,s2.2.1,s2.2.2.1,s2.2.2.2.1,s2.2.2.2.2.1,s2.2.2.2.2.2.1,s2.2.2.2.2.2.2.1,s2.2.2.2.2.2.2.2.1,s2.2.2.2.2.2.2.2.2.1,s2.2.2.2.2.2.2.2.2.2.1,s2.2.2.2.2.2.2.2.2.2.2.1,s2.2.2.2.2.2.2.2.2.2.2.2.1,s2.2.2.2.2.2.2.2.2.2.2.2.2.1,s2.2.2.2.2.2.2.2.2.2.2.2.2.2)))))
 (p5,0,p1,p2,p3,p4,[],[],[],[],p1,p2,p3,p4) fun s2=>
 (LoopP (S:=List OpV×Int×List Int×List Int×List Int×List Int×List Int×List Int×List Int×List Int) (fun s4 Kb4 Kx4=>
 (((decide (s4.2.1<(len s4.1)))=true→
 ((inB s4.2.1 (List.length s4.1))∧
 (Ms_RunOp s4.2.2.2.2.2.2.1 s4.2.2.2.2.2.2.2.1 s4.2.2.2.2.2.2.2.2.1 s4.2.2.2.2.2.2.2.2.2 ((gO s4.1 s4.2.1).kind) ((gO s4.1 s4.2.1).a) ((gO s4.1 s4.2.1).b) fun(y5:Int) (y6:Bool) (y7:List Int) (y8:List Int) (y9:List Int) (y10:List Int)=>
 (((y5 !=0)=true→
 (K s4.2.1 true s4.2.2.2.2.2.2.1 s4.2.2.2.2.2.2.2.1 s4.2.2.2.2.2.2.2.2.1 s4.2.2.2.2.2.2.2.2.2))∧
 ((y5 !=0)=false→
 (Kb4 (s4.1,(iadd s4.2.1 1),s4.2.2.1,s4.2.2.2.1,s4.2.2.2.2.1,s4.2.2.2.2.2.1,y7,y8,y9,y10)))))))∧
 ((decide (s4.2.1<(len s4.1)))=false→
 (Kx4 (s4.1,s4.2.1,s4.2.2.1,s4.2.2.2.1,s4.2.2.2.2.1,s4.2.2.2.2.2.1,s4.2.2.2.2.2.2.1,s4.2.2.2.2.2.2.2.1,s4.2.2.2.2.2.2.2.2.1,s4.2.2.2.2.2.2.2.2.2)))))
 (s2.1,0,s2.2.2.2.2.2.2.1,s2.2.2.2.2.2.2.2.1,s2.2.2.2.2.2.2.2.2.1,s2.2.2.2.2.2.2.2.2.2.1,s2.2.2.2.2.2.2.2.2.2.2.1,s2.2.2.2.2.2.2.2.2.2.2.2.1,s2.2.2.2.2.2.2.2.2.2.2.2.2.1,s2.2.2.2.2.2.2.2.2.2.2.2.2.2) fun s4=>
 (K (len s4.1) true s4.2.2.2.2.2.2.1 s4.2.2.2.2.2.2.2.1 s4.2.2.2.2.2.2.2.2.1 s4.2.2.2.2.2.2.2.2.2)))))))))
def Ms_NewGc (p1:List Int) (p2:List Int) (p3:List Int) (p4:List Int) (K:Int→Int→Bool→(List Int)→Prop):Prop:=
 (Ms_StoreValid p1 p2 p3 p4 fun(y1:Bool)=>
 (((!y1)=true→
 (K 0 0 false []))∧
 ((!y1)=false→
 ((0≤(len p1)∧(len p1)=(len p1)∧(len p1)≤2^36)∧
 (K 0 0 true (List.replicate (Int.toNat (len p1)) (0:Int)))))))
def Ms_l7Ops (p1:List OpV) (p2:Int) (K:Bool→Prop):Prop:=
 (LoopP (S:=List OpV×Int×Int) (fun s1 Kb1 Kx1=>
 (((decide (s1.2.2<(len s1.1)))=true→
 (((decide (s1.2.2≤12))=true→
 ((inB s1.2.2 (List.length s1.1))∧
 (Ms_OpValid ((gO s1.1 s1.2.2).kind) ((gO s1.1 s1.2.2).a) ((gO s1.1 s1.2.2).b) s1.2.1 fun(y2:Bool)=>
 (((!y2)=true→
 (K false))∧
 ((!y2)=false→
 (Kb1 (s1.1,s1.2.1,(iadd s1.2.2 1))))))))∧
 ((decide (s1.2.2≤12))=false→
 (Kx1 (s1.1,s1.2.1,s1.2.2)))))∧
 ((decide (s1.2.2<(len s1.1)))=false→
 (Kx1 (s1.1,s1.2.1,s1.2.2)))))
 (p1,p2,0) fun s1=>
 (K (decide ((len s1.1)≤12))))
def Ms_NewBoth (p1:List Int) (p2:List Int) (p3:List Int) (p4:List Int) (p5:List OpV) (K:Int→Int→Int→Bool→Bool→(List Int)→(List Int)→(List Int)→(List Int)→(List Int)→(List OpV)→Prop):Prop:=
 (Ms_NewGc p1 p2 p3 p4 fun(y1:Int) (y2:Int) (y3:Bool) (y4:List Int)=>
 (((!y3)=true→
 (K 0 0 0 false false [] [] [] [] [] []))∧
 ((!y3)=false→
 (Ms_l7Ops p5 (len p3) fun(y5:Bool)=>
 (((!y5)=true→
 (K 0 0 0 false false [] [] [] [] [] []))∧
 ((!y5)=false→
 (Ms_l4Copy p1 p2 p3 p4<|
 (((List.length p5:Nat)≤2^36)∧
 (K y1 y2 0 false true p1 p2 p3 p4 y4 p5)))))))))
def Ms_l7Draw_c8 (c8_0:List Int) (c8_1:Int) (c8_2:Int) (c8_3:Int) (c8_4:Int) (c8_5:Bool) (c8_6:List OpV) (c8_7:List Int) (c8_8:List Int) (c8_9:List Int) (c8_10:List Int) (c8_11:List Int) (c8_12:List OpV) (c8_13:List Int) (c8_14:List Int) (c8_15:List Int) (c8_16:List Int) (K:Int→Int→Int→Bool→(List Int)→Int→(List Int)→(List Int)→(List Int)→(List Int)→(List Int)→(List OpV)→Prop):Prop:=
 (Ms_NewBoth c8_13 c8_14 c8_15 c8_16 c8_6 fun(y32:Int) (y33:Int) (y34:Int) (y35:Bool) (y36:Bool) (y37:List Int) (y38:List Int) (y39:List Int) (y40:List Int) (y41:List Int) (y42:List OpV)=>
 (K y32 y33 y34 y35 c8_0 c8_1 y37 y38 y39 y40 y41 y42))
def Ms_l7Draw_c2 (c2_0:List Int) (c2_1:Int) (c2_2:Int) (c2_3:Int) (c2_4:Int) (c2_5:Bool) (c2_6:List Int) (c2_7:List Int) (c2_8:List Int) (c2_9:List Int) (c2_10:List Int) (c2_11:List OpV) (c2_12:List Int) (c2_13:List Int) (c2_14:List Int) (c2_15:List Int) (K:Int→Int→Int→Bool→(List Int)→Int→(List Int)→(List Int)→(List Int)→(List Int)→(List Int)→(List OpV)→Prop):Prop:=
 (let j43:=fun(z21:List Int) (z22:Int) (z23:List OpV)=>
 (Ms_l13Rd_pick 2 z21 z22 fun(y24:Int) (y25:Int)=>
 (((y24==0)=true→
 (Ms_RunOps c2_12 c2_13 c2_14 c2_15 z23 fun(y26:Int) (y27:Bool) (y28:List Int) (y29:List Int) (y30:List Int) (y31:List Int)=>
 (Ms_l7Draw_c8 z21 y25 c2_2 c2_3 c2_4 c2_5 z23 c2_6 c2_7 c2_8 c2_9 c2_10 c2_11 y28 y29 y30 y31 K)))∧
 ((y24==0)=false→
 (Ms_l7Draw_c8 z21 y25 c2_2 c2_3 c2_4 c2_5 z23 c2_6 c2_7 c2_8 c2_9 c2_10 c2_11 c2_12 c2_13 c2_14 c2_15 K))));
 (Ms_l13Rd_pick 2 c2_0 c2_1 fun(y8:Int) (y9:Int)=>
 (((y8==0)=true→
 (Ms_l7Samples fun(y10:List (List UInt8))=>
 (Ms_l13Rd_of y10 c2_0 y9 fun(y11:List UInt8) (y12:Int)=>
 (Ms_ParseOps y11 fun(y13:Bool) (y14:List OpV)=>
 (j43 c2_0 y12 y14)))))∧
 ((y8==0)=false→
 (Ms_l5Ops c2_0 y9 fun(y15:List Int) (y16:Int) (y17:List OpV)=>
 (j43 y15 y16 y17))))))
def Ms_l7Draw (p1:List Int) (p2:Int) (K:Int→Int→Int→Bool→(List Int)→Int→(List Int)→(List Int)→(List Int)→(List Int)→(List Int)→(List OpV)→Prop):Prop:=
 (Ms_l13Rd_num [3,4,2,5] p1 p2 fun(y1:Int) (y2:Int)=>
 (Ms_NewStore y1 3 fun(y3:Bool) (y4:List Int) (y5:List Int) (y6:List Int) (y7:List Int)=>
 (Ms_l7Draw_c2 p1 y2 0 0 0 false [] [] [] [] [] [] y4 y5 y6 y7 K)))
def Ms_l7Schedule (p1:List Int) (p2:Int) (K:(List UInt8)→(List Int)→Int→Prop):Prop:=
 (Ms_l13Rd_num [10,6,16,24,3,0] p1 p2 fun(y1:Int) (y2:Int)=>
 (LoopP (S:=List UInt8×Int×List Int×Int) (fun s3 Kb3 Kx3=>
 (((decide (s3.2.1>0))=true→
 (Ms_l13Rd_of [[111],[103],[103],[103]] s3.2.2.1 s3.2.2.2 fun(y4:List UInt8) (y5:Int)=>
 ((List.length s3.1+List.length y4≤2^62)∧
 (Kb3 ((s3.1++y4),(isub s3.2.1 1),s3.2.2.1,y5)))))∧
 ((decide (s3.2.1>0))=false→
 (Kx3 (s3.1,s3.2.1,s3.2.2.1,s3.2.2.2)))))
 (([]:List UInt8),y1,p1,y2) fun s3=>
 (K s3.1 s3.2.2.1 s3.2.2.2)))
def Ms_DrawRunBoth (p1:List Int) (K:Int→Int→Int→Bool→(List UInt8)→Bool→(List Int)→(List Int)→(List Int)→(List Int)→(List Int)→(List OpV)→Prop):Prop:=
 (Ms_l13Open p1 fun(y1:List Int) (y2:Int)=>
 (Ms_l7Draw y1 y2 fun(y3:Int) (y4:Int) (y5:Int) (y6:Bool) (y7:List Int) (y8:Int) (y9:List Int) (y10:List Int) (y11:List Int) (y12:List Int) (y13:List Int) (y14:List OpV)=>
 (Ms_l7Schedule y7 y8 fun(y15:List UInt8) (y16:List Int) (y17:Int)=>
 (Ms_l13Rd_pick 30 y16 y17 fun(y18:Int) (y19:Int)=>
 (((y18==0)=true→
 ((List.length y15+List.length [120]≤2^62)∧
 (Ms_l13Rd_pick 2 y16 y19 fun(y26:Int) (y27:Int)=>
 (K y3 y4 y5 y6 (y15++[120]) (y26==0) y9 y10 y11 y12 y13 y14))))∧
 ((y18==0)=false→
 (Ms_l13Rd_pick 2 y16 y19 fun(y28:Int) (y29:Int)=>
 (K y3 y4 y5 y6 y15 (y28==0) y9 y10 y11 y12 y13 y14))))))))
def Ml_FnScriptRun (p1:List Int) (p2:List Int) (K:Bool→Prop):Prop:=
 (((decide ((len p1)>1048576))=true→
 (K true))∧
 ((decide ((len p1)>1048576))=false→
 (((decide ((len p2)>1048576))=true→
 (K true))∧
 ((decide ((len p2)>1048576))=false→
 (Ms_DrawRunBoth p1 fun(y1:Int) (y2:Int) (y3:Int) (y4:Bool) (y5:List UInt8) (y6:Bool) (y7:List Int) (y8:List Int) (y9:List Int) (y10:List Int) (y11:List Int) (y12:List OpV)=>
 (Ms_DrawFormatOps p2 fun(y13:List OpV)=>
 (Mi_FormatOps y13 fun(y14:List UInt8)=>
 (Ms_FormatOps y13 fun(y15:List UInt8)=>
 (((!(y14==y15))=true→
 (Ms_FormatOps y13 fun(y16:List UInt8)=>
 (K (y14==y16))))∧
 ((!(y14==y15))=false→
 (((y14==([]:List UInt8))=true→
 (Ms_FormatOps y13 fun(y17:List UInt8)=>
 (K (y14==y17))))∧
 ((y14==([]:List UInt8))=false→
 (Mi_NewStore 4 3 fun(y18:Bool) (y19:List Int) (y20:List Int) (y21:List Int) (y22:List Int)=>
 (Mi_NewBoth y19 y20 y21 y22 y13 fun(y23:Int) (y24:Int) (y25:Int) (y26:Bool) (y27:Bool) (y28:List Int) (y29:List Int) (y30:List Int) (y31:List Int) (y32:List Int) (y33:List OpV)=>
 (Mi_RunBoth y28 y29 y30 y31 y23 y32 y24 y33 y25 y26 y5 true fun(y34:Int) (y35:Int) (y36:Int) (y37:Bool) (y38:Bool) (y39:List Int) (y40:List Int) (y41:List Int) (y42:List Int) (y43:List Int) (y44:List OpV)=>
 (((!y27)=true→
 (K false))∧
 ((!y27)=false→
 ((List.length [112,114,111,103,114,97,109,32]+List.length y14≤2^62)∧
 ((List.length ([112,114,111,103,114,97,109,32]++y14)+List.length [10,114,117,110,32]≤2^62)∧
 (let v45:List UInt8:=(([112,114,111,103,114,97,109,32]++y14)++[10,114,117,110,32]);
 ((List.length v45+List.length y5≤2^62)∧
 ((List.length (v45++y5)+List.length [10]≤2^62)∧
 (Mi_RunScript ((v45++y5)++[10]) fun(y46:List UInt8)=>
 (((!y38)=true→
 (K (y46==[111,107,10,119,104,97,116,10])))∧
 ((!y38)=false→
 (Mi_FormatBoth y39 y40 y41 y42 y34 y43 y35 y44 y36 y37 fun(y47:List UInt8)=>
 ((List.length [111,107,10]+List.length y47≤2^62)∧
 ((List.length ([111,107,10]++y47)+List.length [10]≤2^62)∧
 (K (y46==(([111,107,10]++y47)++[10])))))))))))))))))))))))))))))))
end Go.Ab
