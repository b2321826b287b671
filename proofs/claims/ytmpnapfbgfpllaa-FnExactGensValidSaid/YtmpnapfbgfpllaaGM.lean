/-
  What is proved here: nothing: the typed models of functions of the translated program.
-/
import Derived.Test.YtmpnapfbgfpllaaT14
namespace Go.Ab
set_option linter.unusedVariables false
/-! laws.szIntS -/
def Ml_szIntS (p1 : List Int) (p2 : Int) (K : Int → Prop) : Prop :=
 (((decide ((isub p2 (len p1)) < 0)) = true →
 (K (-1))) ∧
 ((decide ((isub p2 (len p1)) < 0)) = false →
 (K (isub p2 (len p1)))))
/-! laws.szHeap -/
def Ml_szHeap (p1 : List Int) (p2 : List Int) (p3 : List Int) (p4 : Int) (K : Int → Prop) : Prop :=
 (Ml_szIntS p1 p4 fun (y1 : Int) =>
 (((decide (y1 < 0)) = true →
 (K (-1))) ∧
 ((decide (y1 < 0)) = false →
 (Ml_szIntS p2 y1 fun (y2 : Int) =>
 (((decide (y2 < 0)) = true →
 (K (-1))) ∧
 ((decide (y2 < 0)) = false →
 (Ml_szIntS p3 y2 fun (y3 : Int) =>
 (((decide (y3 < 0)) = true →
 (K (-1))) ∧
 ((decide (y3 < 0)) = false →
 (K y3))))))))))
/-! laws.szBoolS -/
def Ml_szBoolS (p1 : List Bool) (p2 : Int) (K : Int → Prop) : Prop :=
 (((decide ((isub p2 (len p1)) < 0)) = true →
 (K (-1))) ∧
 ((decide ((isub p2 (len p1)) < 0)) = false →
 (K (isub p2 (len p1)))))
/-! laws.szGens -/
def Ml_szGens (p1 : List Int) (p2 : List Int) (p3 : List Int) (p4 : List Bool) (p5 : List Int) (p6 : Int) (K : Int → Prop) : Prop :=
 (Ml_szHeap p1 p2 p3 p6 fun (y1 : Int) =>
 (((decide (y1 < 0)) = true →
 (K (-1))) ∧
 ((decide (y1 < 0)) = false →
 (Ml_szBoolS p4 y1 fun (y2 : Int) =>
 (((decide (y2 < 0)) = true →
 (K (-1))) ∧
 ((decide (y2 < 0)) = false →
 (Ml_szIntS p5 y2 fun (y3 : Int) =>
 (((decide (y3 < 0)) = true →
 (K (-1))) ∧
 ((decide (y3 < 0)) = false →
 (K y3))))))))))
/-! laws.toIntS -/
def Ml_toIntS (p1 : List Int) (K : (List Int) → Prop) : Prop :=
 ((0 ≤ (len p1) ∧ (len p1) = (len p1) ∧ (len p1) ≤ 2 ^ 36) ∧
 (LoopP (S := List Int × Int × List Int) (fun s1 Kb1 Kx1 =>
 (((decide (s1.2.1 < (len s1.1))) = true →
 ((inB s1.2.1 (List.length s1.1)) ∧
 ((inB s1.2.1 (List.length s1.2.2)) ∧
 (Kb1 (s1.1, (iadd s1.2.1 1), (uL s1.2.2 s1.2.1 (gI s1.1 s1.2.1))))))) ∧
 ((decide (s1.2.1 < (len s1.1))) = false →
 (Kx1 (s1.1, s1.2.1, s1.2.2)))))
 (p1, 0, (List.replicate (Int.toNat (len p1)) (0 : Int))) fun s1 =>
 (K s1.2.2)))
/-! laws.toHeap -/
def Ml_toHeap (p1 : List Int) (p2 : List Int) (p3 : List Int) (K : (List Int) → (List Int) → (List Int) → Prop) : Prop :=
 (Ml_toIntS p1 fun (y1 : List Int) =>
 (Ml_toIntS p2 fun (y2 : List Int) =>
 (Ml_toIntS p3 fun (y3 : List Int) =>
 (K y1 y2 y3))))
/-! laws.toBoolS -/
def Ml_toBoolS (p1 : List Bool) (K : (List Bool) → Prop) : Prop :=
 ((0 ≤ (len p1) ∧ (len p1) = (len p1) ∧ (len p1) ≤ 2 ^ 36) ∧
 (LoopP (S := List Bool × Int × List Bool) (fun s1 Kb1 Kx1 =>
 (((decide (s1.2.1 < (len s1.1))) = true →
 ((inB s1.2.1 (List.length s1.1)) ∧
 ((inB s1.2.1 (List.length s1.2.2)) ∧
 (Kb1 (s1.1, (iadd s1.2.1 1), (uL s1.2.2 s1.2.1 (gB s1.1 s1.2.1))))))) ∧
 ((decide (s1.2.1 < (len s1.1))) = false →
 (Kx1 (s1.1, s1.2.1, s1.2.2)))))
 (p1, 0, (List.replicate (Int.toNat (len p1)) false)) fun s1 =>
 (K s1.2.2)))
/-! laws.toGens -/
def Ml_toGens (p1 : List Int) (p2 : List Int) (p3 : List Int) (p4 : List Bool) (p5 : List Int) (K : (List Int) → (List Int) → (List Int) → (List Bool) → (List Int) → Prop) : Prop :=
 (Ml_toHeap p1 p2 p3 fun (y1 : List Int) (y2 : List Int) (y3 : List Int) =>
 (Ml_toBoolS p4 fun (y4 : List Bool) =>
 (Ml_toIntS p5 fun (y5 : List Int) =>
 (K y1 y2 y3 y4 y5))))
/-! spec.l1Ints -/
def Ms_l1Ints (p1 : List Int) (p2 : List Int) (K : Bool → Prop) : Prop :=
 ((((len p1) != (len p2)) = true →
 (K false)) ∧
 (((len p1) != (len p2)) = false →
 (LoopP (S := List Int × List Int × Int) (fun s1 Kb1 Kx1 =>
 (((decide (s1.2.2 < (len s1.1))) = true →
 ((inB s1.2.2 (List.length s1.1)) ∧
 ((inB s1.2.2 (List.length s1.2.1)) ∧
 ((((gI s1.1 s1.2.2) != (gI s1.2.1 s1.2.2)) = true →
 (K false)) ∧
 (((gI s1.1 s1.2.2) != (gI s1.2.1 s1.2.2)) = false →
 (Kb1 (s1.1, s1.2.1, (iadd s1.2.2 1)))))))) ∧
 ((decide (s1.2.2 < (len s1.1))) = false →
 (Kx1 (s1.1, s1.2.1, s1.2.2)))))
 (p1, p2, 0) fun s1 =>
 (K true))))
/-! spec.HeapSame -/
def Ms_HeapSame (p1 : List Int) (p2 : List Int) (p3 : List Int) (p4 : List Int) (p5 : List Int) (p6 : List Int) (K : Bool → Prop) : Prop :=
 (Ms_l1Ints p1 p4 fun (y1 : Bool) =>
 ((y1 = true →
 (Ms_l1Ints p2 p5 fun (y2 : Bool) =>
 ((y2 = true →
 (Ms_l1Ints p3 p6 fun (y3 : Bool) =>
 (K y3))) ∧
 (y2 = false →
 (K false))))) ∧
 (y1 = false →
 (K false))))
/-! spec.GensSame -/
def Ms_GensSame (p1 : List Int) (p2 : List Int) (p3 : List Int) (p4 : List Bool) (p5 : List Int) (p6 : List Int) (p7 : List Int) (p8 : List Int) (p9 : List Bool) (p10 : List Int) (K : Bool → Prop) : Prop :=
 (Ms_HeapSame p1 p2 p3 p6 p7 p8 fun (y1 : Bool) =>
 (((!y1) = true →
 (K false)) ∧
 ((!y1) = false →
 (Ms_l1Ints p5 p10 fun (y2 : Bool) =>
 (((!y2) = true →
 (K false)) ∧
 ((!y2) = false →
 ((((len p4) != (len p9)) = true →
 (K false)) ∧
 (((len p4) != (len p9)) = false →
 (LoopP (S := Int × List Int × List Int × List Int × List Bool × List Int × List Int × List Int × List Int × List Bool × List Int) (fun s3 Kb3 Kx3 =>
 (((decide (s3.1 < (len s3.2.2.2.2.1))) = true →
 ((inB s3.1 (List.length s3.2.2.2.2.1)) ∧
 ((inB s3.1 (List.length s3.2.2.2.2.2.2.2.2.2.1)) ∧
 (let v4 : Bool := (!((gB s3.2.2.2.2.1 s3.1) == (gB s3.2.2.2.2.2.2.2.2.2.1 s3.1)));
 ((v4 = true →
 (K false)) ∧
 (v4 = false →
 (Kb3 ((iadd s3.1 1), s3.2.1, s3.2.2.1, s3.2.2.2.1, s3.2.2.2.2.1, s3.2.2.2.2.2.1, s3.2.2.2.2.2.2.1, s3.2.2.2.2.2.2.2.1, s3.2.2.2.2.2.2.2.2.1, s3.2.2.2.2.2.2.2.2.2.1, s3.2.2.2.2.2.2.2.2.2.2)))))))) ∧
 ((decide (s3.1 < (len s3.2.2.2.2.1))) = false →
 (Kx3 (s3.1, s3.2.1, s3.2.2.1, s3.2.2.2.1, s3.2.2.2.2.1, s3.2.2.2.2.2.1, s3.2.2.2.2.2.2.1, s3.2.2.2.2.2.2.2.1, s3.2.2.2.2.2.2.2.2.1, s3.2.2.2.2.2.2.2.2.2.1, s3.2.2.2.2.2.2.2.2.2.2)))))
 (0, p1, p2, p3, p4, p5, p6, p7, p8, p9, p10) fun s3 =>
 (K true))))))))))
/-! slices.Equal[[]int,int] -/
def M_Equal_int (p1 : List Int) (p2 : List Int) (K : Bool → Prop) : Prop :=
 ((((len p1) != (len p2)) = true →
 (K false)) ∧
 (((len p1) != (len p2)) = false →
 (LoopP (S := List Int × List Int × Int × Int) (fun s1 Kb1 Kx1 =>
 (((decide (s1.2.2.2 < s1.2.2.1)) = true →
 ((inB s1.2.2.2 (List.length s1.1)) ∧
 ((inB s1.2.2.2 (List.length s1.2.1)) ∧
 ((((gI s1.1 s1.2.2.2) != (gI s1.2.1 s1.2.2.2)) = true →
 (K false)) ∧
 (((gI s1.1 s1.2.2.2) != (gI s1.2.1 s1.2.2.2)) = false →
 (Kb1 (s1.1, s1.2.1, s1.2.2.1, (iadd s1.2.2.2 1)))))))) ∧
 ((decide (s1.2.2.2 < s1.2.2.1)) = false →
 (Kx1 (s1.1, s1.2.1, s1.2.2.1, s1.2.2.2)))))
 (p1, p2, (len p1), 0) fun s1 =>
 (K true))))
/-! impl.HeapSame -/
def Mi_HeapSame (p1 : List Int) (p2 : List Int) (p3 : List Int) (p4 : List Int) (p5 : List Int) (p6 : List Int) (K : Bool → Prop) : Prop :=
 (M_Equal_int p1 p4 fun (y1 : Bool) =>
 ((y1 = true →
 (M_Equal_int p2 p5 fun (y2 : Bool) =>
 ((y2 = true →
 (M_Equal_int p3 p6 fun (y3 : Bool) =>
 (K y3))) ∧
 (y2 = false →
 (K false))))) ∧
 (y1 = false →
 (K false))))
/-! slices.Equal[[]bool,bool] -/
def M_Equal_bool (p1 : List Bool) (p2 : List Bool) (K : Bool → Prop) : Prop :=
 ((((len p1) != (len p2)) = true →
 (K false)) ∧
 (((len p1) != (len p2)) = false →
 (LoopP (S := List Bool × List Bool × Int × Int) (fun s1 Kb1 Kx1 =>
 (((decide (s1.2.2.2 < s1.2.2.1)) = true →
 ((inB s1.2.2.2 (List.length s1.1)) ∧
 ((inB s1.2.2.2 (List.length s1.2.1)) ∧
 (((!((gB s1.1 s1.2.2.2) == (gB s1.2.1 s1.2.2.2))) = true →
 (K false)) ∧
 ((!((gB s1.1 s1.2.2.2) == (gB s1.2.1 s1.2.2.2))) = false →
 (Kb1 (s1.1, s1.2.1, s1.2.2.1, (iadd s1.2.2.2 1)))))))) ∧
 ((decide (s1.2.2.2 < s1.2.2.1)) = false →
 (Kx1 (s1.1, s1.2.1, s1.2.2.1, s1.2.2.2)))))
 (p1, p2, (len p1), 0) fun s1 =>
 (K true))))
/-! impl.GensSame -/
def Mi_GensSame (p1 : List Int) (p2 : List Int) (p3 : List Int) (p4 : List Bool) (p5 : List Int) (p6 : List Int) (p7 : List Int) (p8 : List Int) (p9 : List Bool) (p10 : List Int) (K : Bool → Prop) : Prop :=
 (Mi_HeapSame p1 p2 p3 p6 p7 p8 fun (y1 : Bool) =>
 ((y1 = true →
 (M_Equal_bool p4 p9 fun (y2 : Bool) =>
 ((y2 = true →
 (M_Equal_int p5 p10 fun (y3 : Bool) =>
 (K y3))) ∧
 (y2 = false →
 (K false))))) ∧
 (y1 = false →
 (K false))))
/-! laws.eqIntS -/
def Ml_eqIntS (p1 : List Int) (p2 : List Int) (K : Bool → Prop) : Prop :=
 ((((len p1) != (len p2)) = true →
 (K false)) ∧
 (((len p1) != (len p2)) = false →
 (LoopP (S := List Int × List Int × Int) (fun s1 Kb1 Kx1 =>
 (((decide (s1.2.2 < (len s1.1))) = true →
 ((inB s1.2.2 (List.length s1.1)) ∧
 ((inB s1.2.2 (List.length s1.2.1)) ∧
 ((((gI s1.1 s1.2.2) != (gI s1.2.1 s1.2.2)) = true →
 (K false)) ∧
 (((gI s1.1 s1.2.2) != (gI s1.2.1 s1.2.2)) = false →
 (Kb1 (s1.1, s1.2.1, (iadd s1.2.2 1)))))))) ∧
 ((decide (s1.2.2 < (len s1.1))) = false →
 (Kx1 (s1.1, s1.2.1, s1.2.2)))))
 (p1, p2, 0) fun s1 =>
 (K true))))
/-! laws.eqHeap -/
def Ml_eqHeap (p1 : List Int) (p2 : List Int) (p3 : List Int) (p4 : List Int) (p5 : List Int) (p6 : List Int) (K : Bool → Prop) : Prop :=
 (Ml_eqIntS p1 p4 fun (y1 : Bool) =>
 (((!y1) = true →
 (K false)) ∧
 ((!y1) = false →
 (Ml_eqIntS p2 p5 fun (y2 : Bool) =>
 (((!y2) = true →
 (K false)) ∧
 ((!y2) = false →
 (Ml_eqIntS p3 p6 fun (y3 : Bool) =>
 (((!y3) = true →
 (K false)) ∧
 ((!y3) = false →
 (K true))))))))))
/-! laws.eqBoolS -/
def Ml_eqBoolS (p1 : List Bool) (p2 : List Bool) (K : Bool → Prop) : Prop :=
 ((((len p1) != (len p2)) = true →
 (K false)) ∧
 (((len p1) != (len p2)) = false →
 (LoopP (S := List Bool × List Bool × Int) (fun s1 Kb1 Kx1 =>
 (((decide (s1.2.2 < (len s1.1))) = true →
 ((inB s1.2.2 (List.length s1.1)) ∧
 ((inB s1.2.2 (List.length s1.2.1)) ∧
 (((!((gB s1.1 s1.2.2) == (gB s1.2.1 s1.2.2))) = true →
 (K false)) ∧
 ((!((gB s1.1 s1.2.2) == (gB s1.2.1 s1.2.2))) = false →
 (Kb1 (s1.1, s1.2.1, (iadd s1.2.2 1)))))))) ∧
 ((decide (s1.2.2 < (len s1.1))) = false →
 (Kx1 (s1.1, s1.2.1, s1.2.2)))))
 (p1, p2, 0) fun s1 =>
 (K true))))
/-! laws.eqGens -/
def Ml_eqGens (p1 : List Int) (p2 : List Int) (p3 : List Int) (p4 : List Bool) (p5 : List Int) (p6 : List Int) (p7 : List Int) (p8 : List Int) (p9 : List Bool) (p10 : List Int) (K : Bool → Prop) : Prop :=
 (Ml_eqHeap p1 p2 p3 p6 p7 p8 fun (y1 : Bool) =>
 (((!y1) = true →
 (K false)) ∧
 ((!y1) = false →
 (Ml_eqBoolS p4 p9 fun (y2 : Bool) =>
 (((!y2) = true →
 (K false)) ∧
 ((!y2) = false →
 (Ml_eqIntS p5 p10 fun (y3 : Bool) =>
 (((!y3) = true →
 (K false)) ∧
 ((!y3) = false →
 (K true))))))))))
/-! laws.FnExactGensSame -/
def Ml_FnExactGensSame (p1 : List Int) (p2 : List Int) (p3 : List Int) (p4 : List Bool) (p5 : List Int) (p6 : List Int) (p7 : List Int) (p8 : List Int) (p9 : List Bool) (p10 : List Int) (K : Bool → Prop) : Prop :=
 (Ml_szGens p1 p2 p3 p4 p5 1048576 fun (y1 : Int) =>
 (((decide (y1 < 0)) = true →
 (K true)) ∧
 ((decide (y1 < 0)) = false →
 (Ml_szGens p6 p7 p8 p9 p10 y1 fun (y2 : Int) =>
 (((decide (y2 < 0)) = true →
 (K true)) ∧
 ((decide (y2 < 0)) = false →
 (Ml_toGens p1 p2 p3 p4 p5 fun (y3 : List Int) (y4 : List Int) (y5 : List Int) (y6 : List Bool) (y7 : List Int) =>
 (Ml_toGens p6 p7 p8 p9 p10 fun (y8 : List Int) (y9 : List Int) (y10 : List Int) (y11 : List Bool) (y12 : List Int) =>
 (Ms_GensSame y3 y4 y5 y6 y7 y8 y9 y10 y11 y12 fun (y13 : Bool) =>
 (Ml_toGens p1 p2 p3 p4 p5 fun (y14 : List Int) (y15 : List Int) (y16 : List Int) (y17 : List Bool) (y18 : List Int) =>
 (Ml_toGens p6 p7 p8 p9 p10 fun (y19 : List Int) (y20 : List Int) (y21 : List Int) (y22 : List Bool) (y23 : List Int) =>
 (Mi_GensSame y14 y15 y16 y17 y18 y19 y20 y21 y22 y23 fun (y24 : Bool) =>
 (((!(y24 == y13)) = true →
 (K false)) ∧
 ((!(y24 == y13)) = false →
 (Ml_toGens p1 p2 p3 p4 p5 fun (y25 : List Int) (y26 : List Int) (y27 : List Int) (y28 : List Bool) (y29 : List Int) =>
 (Ml_eqGens y14 y15 y16 y17 y18 y25 y26 y27 y28 y29 fun (y30 : Bool) =>
 (((!y30) = true →
 (K false)) ∧
 ((!y30) = false →
 (Ml_toGens p6 p7 p8 p9 p10 fun (y31 : List Int) (y32 : List Int) (y33 : List Int) (y34 : List Bool) (y35 : List Int) =>
 (Ml_eqGens y19 y20 y21 y22 y23 y31 y32 y33 y34 y35 fun (y36 : Bool) =>
 (((!y36) = true →
 (K false)) ∧
 ((!y36) = false →
 (K true)))))))))))))))))))))))
/-! spec.l13Open -/
def Ms_l13Open (p1 : List Int) (K : (List Int) → Int → Prop) : Prop :=
 (((decide ((len p1) > 2000)) = true →
 (((0 : Int) ≤ (0 : Int) ∧ (0 : Int) ≤ (2000 : Int) ∧ (2000 : Int) ≤ len p1) ∧
 (K (sub p1 (0 : Int) (2000 : Int)) 0))) ∧
 ((decide ((len p1) > 2000)) = false →
 (K p1 0)))
/-! (*spec.l13Rd).pick -/
def Ms_l13Rd_pick (p1 : Int) (p2 : List Int) (p3 : Int) (K : Int → Int → Prop) : Prop :=
 (((decide (p1 < 1)) = true →
 (K 0 (iadd p3 1))) ∧
 ((decide (p1 < 1)) = false →
 ((((len p2) == 0) = true →
 (K 0 (iadd p3 1))) ∧
 (((len p2) == 0) = false →
 (((decide ((isub (iadd p3 1) 1) < (len p2))) = true →
 ((inB (isub (iadd p3 1) 1) (List.length p2)) ∧
 ((p1 ≠ 0) ∧
 (let v1 : Int := (Int.tmod (IntKind.wrap .i64 (gY p2 (isub (iadd p3 1) 1))) p1);
 (K v1 (iadd p3 1)))))) ∧
 ((decide ((isub (iadd p3 1) 1) < (len p2))) = false →
 (((len p2) ≠ 0) ∧
 ((inB (Int.tmod (isub (iadd p3 1) 1) (len p2)) (List.length p2)) ∧
 (let v2 : Int := (IntKind.wrap .i64 (gY p2 (Int.tmod (isub (iadd p3 1) 1) (len p2))));
 (((len p2) ≠ 0) ∧
 ((inB (Int.tmod (iadd (imul (isub (iadd p3 1) 1) 7) 3) (len p2)) (List.length p2)) ∧
 (let v3 : Int := (gY p2 (Int.tmod (iadd (imul (isub (iadd p3 1) 1) 7) 3) (len p2)));
 (let v4 : Int := (iadd (iadd (imul v2 131) (imul (IntKind.wrap .i64 v3) 1117)) (imul (isub (iadd p3 1) 1) 29));
 (((len p2) ≠ 0) ∧
 (((64 : Int) ≠ 0) ∧
 (let v5 : Int := (iquo (iadd v4 (imul (iquo (isub (iadd p3 1) 1) (len p2)) 53)) 64);
 (let v6 : Int := (IntKind.wrap .i64 (((BitVec.ofInt (IntKind.bits .i64) (iadd v4 (imul (iquo (isub (iadd p3 1) 1) (len p2)) 53)) ^^^ BitVec.ofInt (IntKind.bits .i64) v5).toNat : Int)));
 ((p1 ≠ 0) ∧
 (K (Int.tmod v6 p1) (iadd p3 1))))))))))))))))))))
/-! (*spec.l13Rd).num -/
def Ms_l13Rd_num (p1 : List Int) (p2 : List Int) (p3 : Int) (K : Int → Int → Prop) : Prop :=
 (Ms_l13Rd_pick (len p1) p2 p3 fun (y1 : Int) (y2 : Int) =>
 ((inB y1 (List.length p1)) ∧
 (K (gI p1 y1) y2)))
/-! spec.l1Many -/
def Ms_l1Many (p1 : Int) (K : (List Int) → Prop) : Prop :=
 (LoopP (S := Int × Int × List Int) (fun s1 Kb1 Kx1 =>
 (((decide (s1.2.1 < s1.1)) = true →
 ((List.length s1.2.2 + List.length ([(-1)] : List Int) ≤ 2 ^ 36) ∧
 (Kb1 (s1.1, (iadd s1.2.1 1), (s1.2.2 ++ [(-1)]))))) ∧
 ((decide (s1.2.1 < s1.1)) = false →
 (Kx1 (s1.1, s1.2.1, s1.2.2)))))
 (p1, 0, []) fun s1 =>
 (K s1.2.2))
/-! spec.NewHeap -/
def Ms_NewHeap (p1 : Int) (p2 : Int) (K : Bool → (List Int) → (List Int) → (List Int) → Prop) : Prop :=
 (((decide (p1 < 1)) = true →
 (K false [] [] [])) ∧
 ((decide (p1 < 1)) = false →
 (((decide (p1 > 8)) = true →
 (K false [] [] [])) ∧
 ((decide (p1 > 8)) = false →
 (((decide (p2 < 1)) = true →
 (K false [] [] [])) ∧
 ((decide (p2 < 1)) = false →
 (((decide (p2 > 3)) = true →
 (K false [] [] [])) ∧
 ((decide (p2 > 3)) = false →
 (Ms_l1Many p1 fun (y1 : List Int) =>
 (Ms_l1Many p1 fun (y2 : List Int) =>
 (Ms_l1Many p2 fun (y3 : List Int) =>
 (K true y1 y2 y3))))))))))))
/-! spec.l1Draw -/
def Ms_l1Draw (p1 : List Int) (p2 : Int) (K : (List Int) → Int → (List Int) → (List Int) → (List Int) → Prop) : Prop :=
 (Ms_l13Rd_num [4, 3, 5, 6, 2, 8, 1] p1 p2 fun (y1 : Int) (y2 : Int) =>
 (Ms_l13Rd_num [2, 1, 3] p1 y2 fun (y3 : Int) (y4 : Int) =>
 (Ms_NewHeap y1 y3 fun (y5 : Bool) (y6 : List Int) (y7 : List Int) (y8 : List Int) =>
 (LoopP (S := Int × Int × List Int × Int × List Int × List Int × List Int × List Int × List Int × List Int) (fun s9 Kb9 Kx9 =>
 (((decide (s9.2.1 < s9.1)) = true →
 (let j26 := fun (z23 : Int) (z24 : List Int) (z25 : List Int) =>
 (Kb9 (s9.1, (iadd s9.2.1 1), s9.2.2.1, z23, s9.2.2.2.2.1, s9.2.2.2.2.2.1, s9.2.2.2.2.2.2.1, z24, z25, s9.2.2.2.2.2.2.2.2.2));
 (Ms_l13Rd_pick (iadd s9.1 2) s9.2.2.1 s9.2.2.2.1 fun (y10 : Int) (y11 : Int) =>
 ((inB s9.2.1 (List.length s9.2.2.2.2.2.2.2.1)) ∧
 (Ms_l13Rd_pick (iadd s9.1 2) s9.2.2.1 y11 fun (y12 : Int) (y13 : Int) =>
 ((inB s9.2.1 (List.length s9.2.2.2.2.2.2.2.2.1)) ∧
 (let j19 := fun (z16 : List Int) =>
 ((inB s9.2.1 (List.length (uL s9.2.2.2.2.2.2.2.2.1 s9.2.1 (isub y12 2)))) ∧
 (let v17 : Bool := (decide ((gI (uL s9.2.2.2.2.2.2.2.2.1 s9.2.1 (isub y12 2)) s9.2.1) < (-1)));
 ((v17 = true →
 ((inB s9.2.1 (List.length (uL s9.2.2.2.2.2.2.2.2.1 s9.2.1 (isub y12 2)))) ∧
 (let v18 : List Int := (uL (uL s9.2.2.2.2.2.2.2.2.1 s9.2.1 (isub y12 2)) s9.2.1 (-1));
 (j26 y13 z16 v18)))) ∧
 (v17 = false →
 (j26 y13 z16 (uL s9.2.2.2.2.2.2.2.2.1 s9.2.1 (isub y12 2)))))));
 ((inB s9.2.1 (List.length (uL s9.2.2.2.2.2.2.2.1 s9.2.1 (isub y10 1)))) ∧
 (let v14 : Bool := (decide ((gI (uL s9.2.2.2.2.2.2.2.1 s9.2.1 (isub y10 1)) s9.2.1) ≥ s9.1));
 ((v14 = true →
 ((inB s9.2.1 (List.length (uL s9.2.2.2.2.2.2.2.1 s9.2.1 (isub y10 1)))) ∧
 (j19 (uL (uL s9.2.2.2.2.2.2.2.1 s9.2.1 (isub y10 1)) s9.2.1 (-1))))) ∧
 (v14 = false →
 (j19 (uL s9.2.2.2.2.2.2.2.1 s9.2.1 (isub y10 1)))))))))))))) ∧
 ((decide (s9.2.1 < s9.1)) = false →
 (Kx9 (s9.1, s9.2.1, s9.2.2.1, s9.2.2.2.1, s9.2.2.2.2.1, s9.2.2.2.2.2.1, s9.2.2.2.2.2.2.1, s9.2.2.2.2.2.2.2.1, s9.2.2.2.2.2.2.2.2.1, s9.2.2.2.2.2.2.2.2.2)))))
 (y1, 0, p1, y4, [], [], [], y6, y7, y8) fun s9 =>
 (LoopP (S := Int × Int × List Int × Int × List Int × List Int × List Int × List Int × List Int × List Int) (fun s27 Kb27 Kx27 =>
 (((decide (s27.2.1 < (len s27.2.2.2.2.2.2.2.2.2))) = true →
 (Ms_l13Rd_pick (iadd s27.1 1) s27.2.2.1 s27.2.2.2.1 fun (y28 : Int) (y29 : Int) =>
 ((inB s27.2.1 (List.length s27.2.2.2.2.2.2.2.2.2)) ∧
 (Kb27 (s27.1, (iadd s27.2.1 1), s27.2.2.1, y29, s27.2.2.2.2.1, s27.2.2.2.2.2.1, s27.2.2.2.2.2.2.1, s27.2.2.2.2.2.2.2.1, s27.2.2.2.2.2.2.2.2.1, (uL s27.2.2.2.2.2.2.2.2.2 s27.2.1 (isub y28 1))))))) ∧
 ((decide (s27.2.1 < (len s27.2.2.2.2.2.2.2.2.2))) = false →
 (Kx27 (s27.1, s27.2.1, s27.2.2.1, s27.2.2.2.1, s27.2.2.2.2.1, s27.2.2.2.2.2.1, s27.2.2.2.2.2.2.1, s27.2.2.2.2.2.2.2.1, s27.2.2.2.2.2.2.2.2.1, s27.2.2.2.2.2.2.2.2.2)))))
 (s9.1, 0, s9.2.2.1, s9.2.2.2.1, s9.2.2.2.2.1, s9.2.2.2.2.2.1, s9.2.2.2.2.2.2.1, s9.2.2.2.2.2.2.2.1, s9.2.2.2.2.2.2.2.2.1, s9.2.2.2.2.2.2.2.2.2) fun s27 =>
 (K s27.2.2.1 s27.2.2.2.1 s27.2.2.2.2.2.2.2.1 s27.2.2.2.2.2.2.2.2.1 s27.2.2.2.2.2.2.2.2.2))))))
/-! spec.l1Points -/
def Ms_l1Points (p1 : Int) (p2 : Int) (K : Bool → Prop) : Prop :=
 (((decide (p1 ≥ (-1))) = true →
 (K (decide (p1 < p2)))) ∧
 ((decide (p1 ≥ (-1))) = false →
 (K false)))
/-! spec.HeapValid -/
def Ms_HeapValid (p1 : List Int) (p2 : List Int) (p3 : List Int) (K : Bool → Prop) : Prop :=
 (((decide ((len p1) < 1)) = true →
 (K false)) ∧
 ((decide ((len p1) < 1)) = false →
 (((decide ((len p1) > 8)) = true →
 (K false)) ∧
 ((decide ((len p1) > 8)) = false →
 ((((len p2) != (len p1)) = true →
 (K false)) ∧
 (((len p2) != (len p1)) = false →
 (((decide ((len p3) < 1)) = true →
 (K false)) ∧
 ((decide ((len p3) < 1)) = false →
 (((decide ((len p3) > 3)) = true →
 (K false)) ∧
 ((decide ((len p3) > 3)) = false →
 (LoopP (S := Int × Int × List Int × List Int × List Int) (fun s1 Kb1 Kx1 =>
 (((decide (s1.2.1 < s1.1)) = true →
 ((inB s1.2.1 (List.length s1.2.2.1)) ∧
 (Ms_l1Points (gI s1.2.2.1 s1.2.1) s1.1 fun (y2 : Bool) =>
 (((!y2) = true →
 (K false)) ∧
 ((!y2) = false →
 ((inB s1.2.1 (List.length s1.2.2.2.1)) ∧
 (Ms_l1Points (gI s1.2.2.2.1 s1.2.1) s1.1 fun (y3 : Bool) =>
 (((!y3) = true →
 (K false)) ∧
 ((!y3) = false →
 (Kb1 (s1.1, (iadd s1.2.1 1), s1.2.2.1, s1.2.2.2.1, s1.2.2.2.2))))))))))) ∧
 ((decide (s1.2.1 < s1.1)) = false →
 (Kx1 (s1.1, s1.2.1, s1.2.2.1, s1.2.2.2.1, s1.2.2.2.2)))))
 ((len p1), 0, p1, p2, p3) fun s1 =>
 (LoopP (S := Int × Int × List Int × List Int × List Int) (fun s4 Kb4 Kx4 =>
 (((decide (s4.2.1 < (len s4.2.2.2.2))) = true →
 ((inB s4.2.1 (List.length s4.2.2.2.2)) ∧
 (Ms_l1Points (gI s4.2.2.2.2 s4.2.1) s4.1 fun (y5 : Bool) =>
 (((!y5) = true →
 (K false)) ∧
 ((!y5) = false →
 (Kb4 (s4.1, (iadd s4.2.1 1), s4.2.2.1, s4.2.2.2.1, s4.2.2.2.2))))))) ∧
 ((decide (s4.2.1 < (len s4.2.2.2.2))) = false →
 (Kx4 (s4.1, s4.2.1, s4.2.2.1, s4.2.2.2.1, s4.2.2.2.2)))))
 (s1.1, 0, s1.2.2.1, s1.2.2.2.1, s1.2.2.2.2) fun s4 =>
 (K true)))))))))))))
/-! spec.l1Copy -/
def Ms_l1Copy (p1 : List Int) (p2 : List Int) (p3 : List Int) (K : Prop) : Prop :=
 (((List.length p1 : Nat) ≤ 2 ^ 36) ∧
 (((List.length p2 : Nat) ≤ 2 ^ 36) ∧
 (((List.length p3 : Nat) ≤ 2 ^ 36) ∧
 K)))
/-! spec.NewGens -/
def Ms_NewGens (p1 : List Int) (p2 : List Int) (p3 : List Int) (K : Bool → (List Int) → (List Int) → (List Int) → (List Bool) → (List Int) → Prop) : Prop :=
 (Ms_HeapValid p1 p2 p3 fun (y1 : Bool) =>
 (((!y1) = true →
 (K false [] [] [] [] [])) ∧
 ((!y1) = false →
 (Ms_l1Copy p1 p2 p3 <|
 ((0 ≤ (len p1) ∧ (len p1) = (len p1) ∧ (len p1) ≤ 2 ^ 36) ∧
 (K true p1 p2 p3 (List.replicate (Int.toNat (len p1)) false) []))))))
/-! spec.l11Young -/
def Ms_l11Young (p1 : List Bool) (p2 : Int) (K : Bool → Prop) : Prop :=
 (((p2 != (-1)) = true →
 ((inB p2 (List.length p1)) ∧
 (K (!(gB p1 p2))))) ∧
 ((p2 != (-1)) = false →
 (K false)))
/-! spec.l11Remember -/
def Ms_l11Remember (p1 : List Int) (p2 : List Int) (p3 : List Int) (p4 : List Bool) (K : (List Int) → Prop) : Prop :=
 (LoopP (S := List Bool × Int × List Int × List Int × List Int × List Int) (fun s1 Kb1 Kx1 =>
 (((decide (s1.2.1 < (len s1.1))) = true →
 ((inB s1.2.1 (List.length s1.1)) ∧
 (((gB s1.1 s1.2.1) = true →
 ((inB s1.2.1 (List.length s1.2.2.1)) ∧
 (Ms_l11Young s1.1 (gI s1.2.2.1 s1.2.1) fun (y2 : Bool) =>
 ((y2 = true →
 ((List.length s1.2.2.2.2.2 + List.length ([s1.2.1] : List Int) ≤ 2 ^ 36) ∧
 (Kb1 (s1.1, (iadd s1.2.1 1), s1.2.2.1, s1.2.2.2.1, s1.2.2.2.2.1, (s1.2.2.2.2.2 ++ [s1.2.1]))))) ∧
 (y2 = false →
 ((inB s1.2.1 (List.length s1.2.2.2.1)) ∧
 (Ms_l11Young s1.1 (gI s1.2.2.2.1 s1.2.1) fun (y3 : Bool) =>
 ((y3 = true →
 ((List.length s1.2.2.2.2.2 + List.length ([s1.2.1] : List Int) ≤ 2 ^ 36) ∧
 (Kb1 (s1.1, (iadd s1.2.1 1), s1.2.2.1, s1.2.2.2.1, s1.2.2.2.2.1, (s1.2.2.2.2.2 ++ [s1.2.1]))))) ∧
 (y3 = false →
 (Kb1 (s1.1, (iadd s1.2.1 1), s1.2.2.1, s1.2.2.2.1, s1.2.2.2.2.1, s1.2.2.2.2.2))))))))))) ∧
 ((gB s1.1 s1.2.1) = false →
 (Kb1 (s1.1, (iadd s1.2.1 1), s1.2.2.1, s1.2.2.2.1, s1.2.2.2.2.1, s1.2.2.2.2.2)))))) ∧
 ((decide (s1.2.1 < (len s1.1))) = false →
 (Kx1 (s1.1, s1.2.1, s1.2.2.1, s1.2.2.2.1, s1.2.2.2.2.1, s1.2.2.2.2.2)))))
 (p4, 0, p1, p2, p3, []) fun s1 =>
 (K s1.2.2.2.2.2))
/-! spec.l11Draw -/
def Ms_l11Draw (p1 : List Int) (p2 : Int) (K : (List Int) → Int → (List Int) → (List Int) → (List Int) → (List Bool) → (List Int) → Prop) : Prop :=
 (Ms_l1Draw p1 p2 fun (y1 : List Int) (y2 : Int) (y3 : List Int) (y4 : List Int) (y5 : List Int) =>
 (Ms_NewGens y3 y4 y5 fun (y6 : Bool) (y7 : List Int) (y8 : List Int) (y9 : List Int) (y10 : List Bool) (y11 : List Int) =>
 (LoopP (S := Int × List Int × Int × List Int × List Int × List Int × List Bool × List Int × List Int × List Int × List Int × List Int × List Int × List Int × List Bool × List Int) (fun s12 Kb12 Kx12 =>
 (((decide (s12.1 < (len s12.2.2.2.2.2.2.2.2.2.2.2.2.2.2.1))) = true →
 (Ms_l13Rd_pick 3 s12.2.1 s12.2.2.1 fun (y13 : Int) (y14 : Int) =>
 ((inB s12.1 (List.length s12.2.2.2.2.2.2.2.2.2.2.2.2.2.2.1)) ∧
 (Kb12 ((iadd s12.1 1), s12.2.1, y14, s12.2.2.2.1, s12.2.2.2.2.1, s12.2.2.2.2.2.1, s12.2.2.2.2.2.2.1, s12.2.2.2.2.2.2.2.1, s12.2.2.2.2.2.2.2.2.1, s12.2.2.2.2.2.2.2.2.2.1, s12.2.2.2.2.2.2.2.2.2.2.1, s12.2.2.2.2.2.2.2.2.2.2.2.1, s12.2.2.2.2.2.2.2.2.2.2.2.2.1, s12.2.2.2.2.2.2.2.2.2.2.2.2.2.1, (uL s12.2.2.2.2.2.2.2.2.2.2.2.2.2.2.1 s12.1 (y13 == 0)), s12.2.2.2.2.2.2.2.2.2.2.2.2.2.2.2))))) ∧
 ((decide (s12.1 < (len s12.2.2.2.2.2.2.2.2.2.2.2.2.2.2.1))) = false →
 (Kx12 (s12.1, s12.2.1, s12.2.2.1, s12.2.2.2.1, s12.2.2.2.2.1, s12.2.2.2.2.2.1, s12.2.2.2.2.2.2.1, s12.2.2.2.2.2.2.2.1, s12.2.2.2.2.2.2.2.2.1, s12.2.2.2.2.2.2.2.2.2.1, s12.2.2.2.2.2.2.2.2.2.2.1, s12.2.2.2.2.2.2.2.2.2.2.2.1, s12.2.2.2.2.2.2.2.2.2.2.2.2.1, s12.2.2.2.2.2.2.2.2.2.2.2.2.2.1, s12.2.2.2.2.2.2.2.2.2.2.2.2.2.2.1, s12.2.2.2.2.2.2.2.2.2.2.2.2.2.2.2)))))
 (0, y1, y2, [], [], [], [], [], y3, y4, y5, y7, y8, y9, y10, y11) fun s12 =>
 (Ms_l11Remember s12.2.2.2.2.2.2.2.2.1 s12.2.2.2.2.2.2.2.2.2.1 s12.2.2.2.2.2.2.2.2.2.2.1 s12.2.2.2.2.2.2.2.2.2.2.2.2.2.2.1 fun (y15 : List Int) =>
 (K s12.2.1 s12.2.2.1 s12.2.2.2.2.2.2.2.2.2.2.2.1 s12.2.2.2.2.2.2.2.2.2.2.2.2.1 s12.2.2.2.2.2.2.2.2.2.2.2.2.2.1 s12.2.2.2.2.2.2.2.2.2.2.2.2.2.2.1 y15)))))
/-! spec.l11Wrong -/
def Ms_l11Wrong (p1 : List Int) (p2 : Int) (p3 : List Int) (p4 : List Int) (p5 : List Int) (p6 : List Bool) (p7 : List Int) (K : Int → (List Bool) → (List Int) → Prop) : Prop :=
 (Ms_l1Copy p3 p4 p5 <|
 (((List.length p6 : Nat) ≤ 2 ^ 36) ∧
 (((List.length p7 : Nat) ≤ 2 ^ 36) ∧
 (Ms_l13Rd_pick 20 p1 p2 fun (y1 : Int) (y2 : Int) =>
 (((y1 == 0) = true →
 (Ms_l13Rd_pick (len p6) p1 y2 fun (y3 : Int) (y4 : Int) =>
 ((inB y3 (List.length p6)) ∧
 ((inB y3 (List.length p6)) ∧
 (K y4 (uL p6 y3 (!(gB p6 y3))) p7))))) ∧
 ((y1 == 0) = false →
 (((y1 == 1) = true →
 (Ms_l13Rd_num [0, 1, 8] p1 y2 fun (y5 : Int) (y6 : Int) =>
 ((List.length p7 + List.length ([y5] : List Int) ≤ 2 ^ 36) ∧
 (K y6 p6 (p7 ++ [y5]))))) ∧
 ((y1 == 1) = false →
 (((y1 == 2) = true →
 ((List.length p6 + List.length ([true] : List Bool) ≤ 2 ^ 36) ∧
 (K y2 (p6 ++ [true]) p7))) ∧
 ((y1 == 2) = false →
 (K y2 p6 p7)))))))))))
/-! spec.DrawGensValid -/
def Ms_DrawGensValid (p1 : List Int) (K : (List Int) → (List Int) → (List Int) → (List Bool) → (List Int) → Prop) : Prop :=
 (Ms_l13Open p1 fun (y1 : List Int) (y2 : Int) =>
 (Ms_l11Draw y1 y2 fun (y3 : List Int) (y4 : Int) (y5 : List Int) (y6 : List Int) (y7 : List Int) (y8 : List Bool) (y9 : List Int) =>
 (Ms_l11Wrong y3 y4 y5 y6 y7 y8 y9 fun (y10 : Int) (y11 : List Bool) (y12 : List Int) =>
 (Ms_l11Wrong y3 y10 y5 y6 y7 y11 y12 fun (y13 : Int) (y14 : List Bool) (y15 : List Int) =>
 (K y5 y6 y7 y14 y15)))))
/-! impl.HeapValid -/
def Mi_HeapValid (p1 : List Int) (p2 : List Int) (p3 : List Int) (K : Bool → Prop) : Prop :=
 ((((len p1) != (len p2)) = true →
 (K false)) ∧
 (((len p1) != (len p2)) = false →
 (((decide ((len p1) < 1)) = true →
 (K false)) ∧
 ((decide ((len p1) < 1)) = false →
 (((decide ((len p1) > 8)) = true →
 (K false)) ∧
 ((decide ((len p1) > 8)) = false →
 (((decide ((len p3) < 1)) = true →
 (K false)) ∧
 ((decide ((len p3) < 1)) = false →
 (((decide ((len p3) > 3)) = true →
 (K false)) ∧
 ((decide ((len p3) > 3)) = false →
 (LoopP (S := Int × Int × List Int × List Int × List Int × List (List Int)) (fun s1 Kb1 Kx1 =>
 (((decide (s1.2.1 < s1.1)) = true →
 ((inB s1.2.1 (List.length s1.2.2.2.2.2)) ∧
 (LoopP (S := Int × Int × List Int × Int × Int × List Int × List Int × List Int × List (List Int)) (fun s2 Kb2 Kx2 =>
 (((decide (s2.2.2.2.2.1 < s2.2.2.2.1)) = true →
 ((inB s2.2.2.2.2.1 (List.length s2.2.2.1)) ∧
 (((decide ((gI s2.2.2.1 s2.2.2.2.2.1) < (-1))) = true →
 (K false)) ∧
 ((decide ((gI s2.2.2.1 s2.2.2.2.2.1) < (-1))) = false →
 (((decide ((gI s2.2.2.1 s2.2.2.2.2.1) ≥ (len s2.2.2.2.2.2.1))) = true →
 (K false)) ∧
 ((decide ((gI s2.2.2.1 s2.2.2.2.2.1) ≥ (len s2.2.2.2.2.2.1))) = false →
 (Kb2 (s2.1, s2.2.1, s2.2.2.1, s2.2.2.2.1, (iadd s2.2.2.2.2.1 1), s2.2.2.2.2.2.1, s2.2.2.2.2.2.2.1, s2.2.2.2.2.2.2.2.1, s2.2.2.2.2.2.2.2.2)))))))) ∧
 ((decide (s2.2.2.2.2.1 < s2.2.2.2.1)) = false →
 (Kx2 (s2.1, s2.2.1, s2.2.2.1, s2.2.2.2.1, s2.2.2.2.2.1, s2.2.2.2.2.2.1, s2.2.2.2.2.2.2.1, s2.2.2.2.2.2.2.2.1, s2.2.2.2.2.2.2.2.2)))))
 (s1.1, s1.2.1, (gL s1.2.2.2.2.2 s1.2.1), (len (gL s1.2.2.2.2.2 s1.2.1)), 0, s1.2.2.1, s1.2.2.2.1, s1.2.2.2.2.1, s1.2.2.2.2.2) fun s2 =>
 (Kb1 (s2.1, (iadd s2.2.1 1), s2.2.2.2.2.2.1, s2.2.2.2.2.2.2.1, s2.2.2.2.2.2.2.2.1, s2.2.2.2.2.2.2.2.2))))) ∧
 ((decide (s1.2.1 < s1.1)) = false →
 (Kx1 (s1.1, s1.2.1, s1.2.2.1, s1.2.2.2.1, s1.2.2.2.2.1, s1.2.2.2.2.2)))))
 ((len [p1, p2, p3]), 0, p1, p2, p3, [p1, p2, p3]) fun s1 =>
 (K true))))))))))))
/-! impl.remembered$1 -/
def Mi_remembered_1 (p1 : Int) (p2 : List Bool) (K : Bool → Prop) : Prop :=
 (((p1 != (-1)) = true →
 ((inB p1 (List.length p2)) ∧
 (K (!(gB p2 p1))))) ∧
 ((p1 != (-1)) = false →
 (K false)))
/-! impl.remembered -/
def Mi_remembered (p1 : List Int) (p2 : List Int) (p3 : List Int) (p4 : List Bool) (K : (List Int) → Prop) : Prop :=
 (LoopP (S := List Bool × Int × Int × List Int × List Int × List Int × List Bool × List Int) (fun s1 Kb1 Kx1 =>
 (((decide (s1.2.2.1 < s1.2.1)) = true →
 (let j4 : Prop :=
 (Kb1 (s1.1, s1.2.1, (iadd s1.2.2.1 1), s1.2.2.2.1, s1.2.2.2.2.1, s1.2.2.2.2.2.1, s1.2.2.2.2.2.2.1, (s1.2.2.2.2.2.2.2 ++ [s1.2.2.1])));
 ((inB s1.2.2.1 (List.length s1.1)) ∧
 (((gB s1.1 s1.2.2.1) = true →
 ((inB s1.2.2.1 (List.length s1.2.2.2.1)) ∧
 (Mi_remembered_1 (gI s1.2.2.2.1 s1.2.2.1) s1.2.2.2.2.2.2.1 fun (y2 : Bool) =>
 ((y2 = true →
 ((List.length s1.2.2.2.2.2.2.2 + List.length ([s1.2.2.1] : List Int) ≤ 2 ^ 36) ∧
 j4)) ∧
 (y2 = false →
 ((inB s1.2.2.1 (List.length s1.2.2.2.2.1)) ∧
 (Mi_remembered_1 (gI s1.2.2.2.2.1 s1.2.2.1) s1.2.2.2.2.2.2.1 fun (y3 : Bool) =>
 ((y3 = true →
 ((List.length s1.2.2.2.2.2.2.2 + List.length ([s1.2.2.1] : List Int) ≤ 2 ^ 36) ∧
 j4)) ∧
 (y3 = false →
 (Kb1 (s1.1, s1.2.1, (iadd s1.2.2.1 1), s1.2.2.2.1, s1.2.2.2.2.1, s1.2.2.2.2.2.1, s1.2.2.2.2.2.2.1, s1.2.2.2.2.2.2.2))))))))))) ∧
 ((gB s1.1 s1.2.2.1) = false →
 (Kb1 (s1.1, s1.2.1, (iadd s1.2.2.1 1), s1.2.2.2.1, s1.2.2.2.2.1, s1.2.2.2.2.2.1, s1.2.2.2.2.2.2.1, s1.2.2.2.2.2.2.2))))))) ∧
 ((decide (s1.2.2.1 < s1.2.1)) = false →
 (Kx1 (s1.1, s1.2.1, s1.2.2.1, s1.2.2.2.1, s1.2.2.2.2.1, s1.2.2.2.2.2.1, s1.2.2.2.2.2.2.1, s1.2.2.2.2.2.2.2)))))
 (p4, (len p4), 0, p1, p2, p3, p4, []) fun s1 =>
 (K s1.2.2.2.2.2.2.2))
/-! impl.GensValid -/
def Mi_GensValid (p1 : List Int) (p2 : List Int) (p3 : List Int) (p4 : List Bool) (p5 : List Int) (K : Bool → Prop) : Prop :=
 (Mi_HeapValid p1 p2 p3 fun (y1 : Bool) =>
 ((y1 = true →
 ((((len p4) == (len p1)) = true →
 (Mi_remembered p1 p2 p3 p4 fun (y2 : List Int) =>
 (M_Equal_int p5 y2 fun (y3 : Bool) =>
 (K y3)))) ∧
 (((len p4) == (len p1)) = false →
 (K false)))) ∧
 (y1 = false →
 (K false))))
/-! spec.GensValid -/
def Ms_GensValid (p1 : List Int) (p2 : List Int) (p3 : List Int) (p4 : List Bool) (p5 : List Int) (K : Bool → Prop) : Prop :=
 (Ms_HeapValid p1 p2 p3 fun (y1 : Bool) =>
 ((y1 = true →
 ((((len p4) == (len p1)) = true →
 (Ms_l11Remember p1 p2 p3 p4 fun (y2 : List Int) =>
 (Ms_l1Ints p5 y2 fun (y3 : Bool) =>
 (K y3)))) ∧
 (((len p4) == (len p1)) = false →
 (K false)))) ∧
 (y1 = false →
 (K false))))
/-! laws.FnRememberOld -/
def Ml_FnRememberOld (p1 : List Int) (K : Bool → Prop) : Prop :=
 (((decide ((len p1) > 1048576)) = true →
 (K true)) ∧
 ((decide ((len p1) > 1048576)) = false →
 (Ms_DrawGensValid p1 fun (y1 : List Int) (y2 : List Int) (y3 : List Int) (y4 : List Bool) (y5 : List Int) =>
 (Mi_GensValid y1 y2 y3 y4 y5 fun (y6 : Bool) =>
 (Ms_GensValid y1 y2 y3 y4 y5 fun (y7 : Bool) =>
 (((!(y6 == y7)) = true →
 (Ms_GensValid y1 y2 y3 y4 y5 fun (y8 : Bool) =>
 (K (y6 == y8)))) ∧
 ((!(y6 == y7)) = false →
 (((!y6) = true →
 (Ms_GensValid y1 y2 y3 y4 y5 fun (y9 : Bool) =>
 (K (y6 == y9)))) ∧
 ((!y6) = false →
 (LoopP (S := Int × List Int × List Int × List Int × List Bool × List Int) (fun s10 Kb10 Kx10 =>
 (((decide (s10.1 < (len s10.2.2.2.2.2))) = true →
 ((inB s10.1 (List.length s10.2.2.2.2.2)) ∧
 (let j12 : Prop :=
 ((inB (gI s10.2.2.2.2.2 s10.1) (List.length s10.2.1)) ∧
 ((inB (gI s10.2.2.2.2.2 s10.1) (List.length s10.2.2.1)) ∧
 ((((gI s10.2.1 (gI s10.2.2.2.2.2 s10.1)) == (-1)) = true →
 ((((gI s10.2.2.1 (gI s10.2.2.2.2.2 s10.1)) == (-1)) = true →
 (K false)) ∧
 (((gI s10.2.2.1 (gI s10.2.2.2.2.2 s10.1)) == (-1)) = false →
 ((inB (gI s10.2.2.1 (gI s10.2.2.2.2.2 s10.1)) (List.length s10.2.2.2.2.1)) ∧
 (((gB s10.2.2.2.2.1 (gI s10.2.2.1 (gI s10.2.2.2.2.2 s10.1))) = true →
 (K false)) ∧
 ((gB s10.2.2.2.2.1 (gI s10.2.2.1 (gI s10.2.2.2.2.2 s10.1))) = false →
 (Kb10 ((iadd s10.1 1), s10.2.1, s10.2.2.1, s10.2.2.2.1, s10.2.2.2.2.1, s10.2.2.2.2.2)))))))) ∧
 (((gI s10.2.1 (gI s10.2.2.2.2.2 s10.1)) == (-1)) = false →
 ((inB (gI s10.2.1 (gI s10.2.2.2.2.2 s10.1)) (List.length s10.2.2.2.2.1)) ∧
 (((gB s10.2.2.2.2.1 (gI s10.2.1 (gI s10.2.2.2.2.2 s10.1))) = true →
 ((((gI s10.2.2.1 (gI s10.2.2.2.2.2 s10.1)) == (-1)) = true →
 (K false)) ∧
 (((gI s10.2.2.1 (gI s10.2.2.2.2.2 s10.1)) == (-1)) = false →
 ((inB (gI s10.2.2.1 (gI s10.2.2.2.2.2 s10.1)) (List.length s10.2.2.2.2.1)) ∧
 (((gB s10.2.2.2.2.1 (gI s10.2.2.1 (gI s10.2.2.2.2.2 s10.1))) = true →
 (K false)) ∧
 ((gB s10.2.2.2.2.1 (gI s10.2.2.1 (gI s10.2.2.2.2.2 s10.1))) = false →
 (Kb10 ((iadd s10.1 1), s10.2.1, s10.2.2.1, s10.2.2.2.1, s10.2.2.2.2.1, s10.2.2.2.2.2)))))))) ∧
 ((gB s10.2.2.2.2.1 (gI s10.2.1 (gI s10.2.2.2.2.2 s10.1))) = false →
 (Kb10 ((iadd s10.1 1), s10.2.1, s10.2.2.1, s10.2.2.2.1, s10.2.2.2.2.1, s10.2.2.2.2.2)))))))));
 ((inB (gI s10.2.2.2.2.2 s10.1) (List.length s10.2.2.2.2.1)) ∧
 (((!(gB s10.2.2.2.2.1 (gI s10.2.2.2.2.2 s10.1))) = true →
 (K false)) ∧
 ((!(gB s10.2.2.2.2.1 (gI s10.2.2.2.2.2 s10.1))) = false →
 (((decide (s10.1 > 0)) = true →
 ((inB (isub s10.1 1) (List.length s10.2.2.2.2.2)) ∧
 (let v11 : Bool := (decide ((gI s10.2.2.2.2.2 s10.1) ≤ (gI s10.2.2.2.2.2 (isub s10.1 1))));
 ((v11 = true →
 (K false)) ∧
 (v11 = false →
 j12))))) ∧
 ((decide (s10.1 > 0)) = false →
 j12)))))))) ∧
 ((decide (s10.1 < (len s10.2.2.2.2.2))) = false →
 (Kx10 (s10.1, s10.2.1, s10.2.2.1, s10.2.2.2.1, s10.2.2.2.2.1, s10.2.2.2.2.2)))))
 (0, y1, y2, y3, y4, y5) fun s10 =>
 (K true)))))))))))
/-! spec.l10At -/
def Ms_l10At (p1 : List Int) (p2 : Int) (K : Int → Prop) : Prop :=
 (LoopP (S := List Int × Int × Int) (fun s1 Kb1 Kx1 =>
 (((decide (s1.2.2 < (len s1.1))) = true →
 ((inB s1.2.2 (List.length s1.1)) ∧
 ((((gI s1.1 s1.2.2) == s1.2.1) = true →
 (K s1.2.2)) ∧
 (((gI s1.1 s1.2.2) == s1.2.1) = false →
 (Kb1 (s1.1, s1.2.1, (iadd s1.2.2 1))))))) ∧
 ((decide (s1.2.2 < (len s1.1))) = false →
 (Kx1 (s1.1, s1.2.1, s1.2.2)))))
 (p1, p2, 0) fun s1 =>
 (K (-1)))
/-! spec.l10Meet -/
def Ms_l10Meet (p1 : Int) (p2 : List Int) (K : (List Int) → Prop) : Prop :=
 (((p1 != (-1)) = true →
 (Ms_l10At p2 p1 fun (y1 : Int) =>
 (((decide (y1 < 0)) = true →
 (((List.length p2 : Nat) ≤ 2 ^ 36) ∧
 ((List.length p2 + List.length ([p1] : List Int) ≤ 2 ^ 36) ∧
 (K (p2 ++ [p1]))))) ∧
 ((decide (y1 < 0)) = false →
 (K p2))))) ∧
 ((p1 != (-1)) = false →
 (K p2)))
/-! spec.l10Order -/
def Ms_l10Order (p1 : List Int) (p2 : List Int) (p3 : List Int) (K : (List Int) → Prop) : Prop :=
 (LoopP (S := Int × List Int × List Int × List Int × List Int) (fun s1 Kb1 Kx1 =>
 (((decide (s1.1 < (len s1.2.2.2.1))) = true →
 ((inB s1.1 (List.length s1.2.2.2.1)) ∧
 (Ms_l10Meet (gI s1.2.2.2.1 s1.1) s1.2.2.2.2 fun (y2 : List Int) =>
 (Kb1 ((iadd s1.1 1), s1.2.1, s1.2.2.1, s1.2.2.2.1, y2))))) ∧
 ((decide (s1.1 < (len s1.2.2.2.1))) = false →
 (Kx1 (s1.1, s1.2.1, s1.2.2.1, s1.2.2.2.1, s1.2.2.2.2)))))
 (0, p1, p2, p3, []) fun s1 =>
 (LoopP (S := Int × List Int × List Int × List Int × List Int) (fun s3 Kb3 Kx3 =>
 (((decide (s3.1 < (len s3.2.2.2.2))) = true →
 ((inB s3.1 (List.length s3.2.2.2.2)) ∧
 ((inB (gI s3.2.2.2.2 s3.1) (List.length s3.2.1)) ∧
 (Ms_l10Meet (gI s3.2.1 (gI s3.2.2.2.2 s3.1)) s3.2.2.2.2 fun (y4 : List Int) =>
 ((inB s3.1 (List.length y4)) ∧
 ((inB (gI y4 s3.1) (List.length s3.2.2.1)) ∧
 (Ms_l10Meet (gI s3.2.2.1 (gI y4 s3.1)) y4 fun (y5 : List Int) =>
 (Kb3 ((iadd s3.1 1), s3.2.1, s3.2.2.1, s3.2.2.2.1, y5))))))))) ∧
 ((decide (s3.1 < (len s3.2.2.2.2))) = false →
 (Kx3 (s3.1, s3.2.1, s3.2.2.1, s3.2.2.2.1, s3.2.2.2.2)))))
 (0, s1.2.1, s1.2.2.1, s1.2.2.2.1, s1.2.2.2.2) fun s3 =>
 (K s3.2.2.2.2)))
/-! spec.OrderOf -/
def Ms_OrderOf (p1 : List Int) (p2 : List Int) (p3 : List Int) (K : (List Int) → Prop) : Prop :=
 (Ms_HeapValid p1 p2 p3 fun (y1 : Bool) =>
 (((!y1) = true →
 (K [])) ∧
 ((!y1) = false →
 (Ms_l10Order p1 p2 p3 fun (y2 : List Int) =>
 (K y2)))))
/-! slices.Index[[]int,int] -/
def M_Index_int (p1 : List Int) (p2 : Int) (K : Int → Prop) : Prop :=
 (LoopP (S := List Int × Int × Int × Int) (fun s1 Kb1 Kx1 =>
 (((decide (s1.2.2.2 < s1.2.2.1)) = true →
 ((inB s1.2.2.2 (List.length s1.1)) ∧
 (((s1.2.1 == (gI s1.1 s1.2.2.2)) = true →
 (K s1.2.2.2)) ∧
 ((s1.2.1 == (gI s1.1 s1.2.2.2)) = false →
 (Kb1 (s1.1, s1.2.1, s1.2.2.1, (iadd s1.2.2.2 1))))))) ∧
 ((decide (s1.2.2.2 < s1.2.2.1)) = false →
 (Kx1 (s1.1, s1.2.1, s1.2.2.1, s1.2.2.2)))))
 (p1, p2, (len p1), 0) fun s1 =>
 (K (-1)))
/-! slices.Contains[[]int,int] -/
def M_Contains_int (p1 : List Int) (p2 : Int) (K : Bool → Prop) : Prop :=
 (M_Index_int p1 p2 fun (y1 : Int) =>
 (K (decide (y1 ≥ 0))))
/-! impl.met -/
def Mi_met (p1 : List Int) (p2 : List Int) (K : (List Int) → Prop) : Prop :=
 (LoopP (S := List Int × Int × Int × List Int) (fun s1 Kb1 Kx1 =>
 (((decide (s1.2.2.1 < s1.2.1)) = true →
 ((inB s1.2.2.1 (List.length s1.1)) ∧
 ((((gI s1.1 s1.2.2.1) != (-1)) = true →
 (M_Contains_int s1.2.2.2 (gI s1.1 s1.2.2.1) fun (y2 : Bool) =>
 (((!y2) = true →
 ((List.length s1.2.2.2 + List.length ([(gI s1.1 s1.2.2.1)] : List Int) ≤ 2 ^ 36) ∧
 (Kb1 (s1.1, s1.2.1, (iadd s1.2.2.1 1), (s1.2.2.2 ++ [(gI s1.1 s1.2.2.1)]))))) ∧
 ((!y2) = false →
 (Kb1 (s1.1, s1.2.1, (iadd s1.2.2.1 1), s1.2.2.2)))))) ∧
 (((gI s1.1 s1.2.2.1) != (-1)) = false →
 (Kb1 (s1.1, s1.2.1, (iadd s1.2.2.1 1), s1.2.2.2)))))) ∧
 ((decide (s1.2.2.1 < s1.2.1)) = false →
 (Kx1 (s1.1, s1.2.1, s1.2.2.1, s1.2.2.2)))))
 (p1, (len p1), 0, p2) fun s1 =>
 (K s1.2.2.2))
/-! slices.Clip[[]int,int] -/
def M_Clip_int (p1 : List Int) (K : (List Int) → Prop) : Prop :=
 (((0 : Int) ≤ (0 : Int) ∧ (0 : Int) ≤ (len p1) ∧ (len p1) ≤ (len p1) ∧ (len p1) ≤ len p1) ∧
 (K (sub p1 (0 : Int) (len p1))))
/-! impl.OrderOf -/
def Mi_OrderOf (p1 : List Int) (p2 : List Int) (p3 : List Int) (K : (List Int) → Prop) : Prop :=
 (Mi_HeapValid p1 p2 p3 fun (y1 : Bool) =>
 (((!y1) = true →
 (K [])) ∧
 ((!y1) = false →
 (Mi_met p3 [] fun (y2 : List Int) =>
 (LoopP (S := Int × List Int × List Int × List Int × List Int) (fun s3 Kb3 Kx3 =>
 (((decide (s3.1 < (len s3.2.2.2.2))) = true →
 ((inB s3.1 (List.length s3.2.2.2.2)) ∧
 ((inB (gI s3.2.2.2.2 s3.1) (List.length s3.2.1)) ∧
 ((inB s3.1 (List.length s3.2.2.2.2)) ∧
 ((inB (gI s3.2.2.2.2 s3.1) (List.length s3.2.2.1)) ∧
 (Mi_met [(gI s3.2.1 (gI s3.2.2.2.2 s3.1)), (gI s3.2.2.1 (gI s3.2.2.2.2 s3.1))] s3.2.2.2.2 fun (y4 : List Int) =>
 (Kb3 ((iadd s3.1 1), s3.2.1, s3.2.2.1, s3.2.2.2.1, y4)))))))) ∧
 ((decide (s3.1 < (len s3.2.2.2.2))) = false →
 (Kx3 (s3.1, s3.2.1, s3.2.2.1, s3.2.2.2.1, s3.2.2.2.2)))))
 (0, p1, p2, p3, y2) fun s3 =>
 (M_Clip_int s3.2.2.2.2 fun (y5 : List Int) =>
 (K y5)))))))
/-! laws.markIntS -/
def Ml_markIntS (p1 : Int) (p2 : List Int) (K : Int → (List Int) → Prop) : Prop :=
 (LoopP (S := Int × Int × List Int) (fun s1 Kb1 Kx1 =>
 (((decide (s1.2.1 < (len s1.2.2))) = true →
 ((inB s1.2.1 (List.length s1.2.2)) ∧
 (Kb1 ((iadd s1.1 1), (iadd s1.2.1 1), (uL s1.2.2 s1.2.1 s1.1))))) ∧
 ((decide (s1.2.1 < (len s1.2.2))) = false →
 (Kx1 (s1.1, s1.2.1, s1.2.2)))))
 (p1, 0, p2) fun s1 =>
 (K s1.1 s1.2.2))
/-! laws.markHeap -/
def Ml_markHeap (p1 : Int) (p2 : List Int) (p3 : List Int) (p4 : List Int) (K : Int → (List Int) → (List Int) → (List Int) → Prop) : Prop :=
 (Ml_markIntS p1 p2 fun (y1 : Int) (y2 : List Int) =>
 (Ml_markIntS y1 p3 fun (y3 : Int) (y4 : List Int) =>
 (Ml_markIntS y3 p4 fun (y5 : Int) (y6 : List Int) =>
 (K y5 y2 y4 y6))))
/-! laws.heldIntS -/
def Ml_heldIntS (p1 : List Int) (p2 : Int) (K : Int → Prop) : Prop :=
 (LoopP (S := List Int × Int × Int) (fun s1 Kb1 Kx1 =>
 (((decide (s1.2.2 < (len s1.1))) = true →
 ((inB s1.2.2 (List.length s1.1)) ∧
 ((((gI s1.1 s1.2.2) != s1.2.1) = true →
 (K (-1))) ∧
 (((gI s1.1 s1.2.2) != s1.2.1) = false →
 (Kb1 (s1.1, (iadd s1.2.1 1), (iadd s1.2.2 1))))))) ∧
 ((decide (s1.2.2 < (len s1.1))) = false →
 (Kx1 (s1.1, s1.2.1, s1.2.2)))))
 (p1, p2, 0) fun s1 =>
 (K s1.2.1))
/-! laws.FnExactOrderOf -/
def Ml_FnExactOrderOf (p1 : List Int) (p2 : List Int) (p3 : List Int) (K : Bool → Prop) : Prop :=
 (Ml_szHeap p1 p2 p3 1048576 fun (y1 : Int) =>
 (((decide (y1 < 0)) = true →
 (K true)) ∧
 ((decide (y1 < 0)) = false →
 (Ml_toHeap p1 p2 p3 fun (y2 : List Int) (y3 : List Int) (y4 : List Int) =>
 (Ms_OrderOf y2 y3 y4 fun (y5 : List Int) =>
 (Ml_toHeap p1 p2 p3 fun (y6 : List Int) (y7 : List Int) (y8 : List Int) =>
 (Mi_OrderOf y6 y7 y8 fun (y9 : List Int) =>
 (Ml_eqIntS y9 y5 fun (y10 : Bool) =>
 (((!y10) = true →
 (K false)) ∧
 ((!y10) = false →
 (Ml_toHeap p1 p2 p3 fun (y11 : List Int) (y12 : List Int) (y13 : List Int) =>
 (Ml_eqHeap y6 y7 y8 y11 y12 y13 fun (y14 : Bool) =>
 (((!y14) = true →
 (K false)) ∧
 ((!y14) = false →
 (Ml_markHeap 1 y6 y7 y8 fun (y15 : Int) (y16 : List Int) (y17 : List Int) (y18 : List Int) =>
 (((decide (y15 < 0)) = true →
 (K false)) ∧
 ((decide (y15 < 0)) = false →
 (Ml_eqIntS y9 y5 fun (y19 : Bool) =>
 (((!y19) = true →
 (K false)) ∧
 ((!y19) = false →
 (Ml_markIntS 1 y9 fun (y20 : Int) (y21 : List Int) =>
 (Ml_heldIntS y21 1 fun (y22 : Int) =>
 (((decide (y22 < 0)) = true →
 (K false)) ∧
 ((decide (y22 < 0)) = false →
 (((y22 != y20) = true →
 (K false)) ∧
 ((y22 != y20) = false →
 (Ml_toHeap p1 p2 p3 fun (y23 : List Int) (y24 : List Int) (y25 : List Int) =>
 (Mi_OrderOf y23 y24 y25 fun (y26 : List Int) =>
 (Ml_eqIntS y26 y5 fun (y27 : Bool) =>
 (((!y27) = true →
 (K false)) ∧
 ((!y27) = false →
 (Ml_heldIntS y21 1 fun (y28 : Int) =>
 (((decide (y28 < 0)) = true →
 (K false)) ∧
 ((decide (y28 < 0)) = false →
 (((y28 != y20) = true →
 (K false)) ∧
 ((y28 != y20) = false →
 (K true)))))))))))))))))))))))))))))))))))))
/-! spec.l1Wrong -/
def Ms_l1Wrong (p1 : List Int) (p2 : Int) (p3 : List Int) (p4 : List Int) (p5 : List Int) (K : Int → (List Int) → (List Int) → (List Int) → Prop) : Prop :=
 (Ms_l1Copy p3 p4 p5 <|
 (Ms_l13Rd_pick 20 p1 p2 fun (y1 : Int) (y2 : Int) =>
 (((y1 == 0) = true →
 (Ms_l13Rd_pick (len p3) p1 y2 fun (y3 : Int) (y4 : Int) =>
 (Ms_l13Rd_num [(-2), 8, 0] p1 y4 fun (y5 : Int) (y6 : Int) =>
 ((inB y3 (List.length p3)) ∧
 (K y6 (uL p3 y3 y5) p4 p5))))) ∧
 ((y1 == 0) = false →
 (((y1 == 1) = true →
 ((List.length p4 + List.length ([(-1)] : List Int) ≤ 2 ^ 36) ∧
 (K y2 p3 (p4 ++ [(-1)]) p5))) ∧
 ((y1 == 1) = false →
 (((y1 == 2) = true →
 (Ms_l13Rd_num [0, (-1), 9] p1 y2 fun (y7 : Int) (y8 : Int) =>
 ((List.length p5 + List.length ([y7] : List Int) ≤ 2 ^ 36) ∧
 (K y8 p3 p4 (p5 ++ [y7]))))) ∧
 ((y1 == 2) = false →
 (((y1 == 3) = true →
 (K y2 p3 p4 [])) ∧
 ((y1 == 3) = false →
 (K y2 p3 p4 p5)))))))))))
/-! spec.DrawHeapValid -/
def Ms_DrawHeapValid (p1 : List Int) (K : (List Int) → (List Int) → (List Int) → Prop) : Prop :=
 (Ms_l13Open p1 fun (y1 : List Int) (y2 : Int) =>
 (Ms_l1Draw y1 y2 fun (y3 : List Int) (y4 : Int) (y5 : List Int) (y6 : List Int) (y7 : List Int) =>
 (Ms_l1Wrong y3 y4 y5 y6 y7 fun (y8 : Int) (y9 : List Int) (y10 : List Int) (y11 : List Int) =>
 (K y9 y10 y11))))
/-! spec.DrawOrderOf -/
def Ms_DrawOrderOf (p1 : List Int) (K : (List Int) → (List Int) → (List Int) → Prop) : Prop :=
 (Ms_DrawHeapValid p1 fun (y1 : List Int) (y2 : List Int) (y3 : List Int) =>
 (K y1 y2 y3))
/-! laws.ccInts -/
def Ml_ccInts (p1 : List Int) (p2 : List Int) (K : Bool → Prop) : Prop :=
 ((((len p1) != (len p2)) = true →
 (K false)) ∧
 (((len p1) != (len p2)) = false →
 (LoopP (S := List Int × List Int × Int) (fun s1 Kb1 Kx1 =>
 (((decide (s1.2.2 < (len s1.1))) = true →
 ((inB s1.2.2 (List.length s1.1)) ∧
 ((inB s1.2.2 (List.length s1.2.1)) ∧
 ((((gI s1.1 s1.2.2) != (gI s1.2.1 s1.2.2)) = true →
 (K false)) ∧
 (((gI s1.1 s1.2.2) != (gI s1.2.1 s1.2.2)) = false →
 (Kb1 (s1.1, s1.2.1, (iadd s1.2.2 1)))))))) ∧
 ((decide (s1.2.2 < (len s1.1))) = false →
 (Kx1 (s1.1, s1.2.1, s1.2.2)))))
 (p1, p2, 0) fun s1 =>
 (K true))))
/-! laws.FnOrderRoots -/
def Ml_FnOrderRoots (p1 : List Int) (K : Bool → Prop) : Prop :=
 (((decide ((len p1) > 1048576)) = true →
 (K true)) ∧
 ((decide ((len p1) > 1048576)) = false →
 (Ms_DrawOrderOf p1 fun (y1 : List Int) (y2 : List Int) (y3 : List Int) =>
 (Mi_OrderOf y1 y2 y3 fun (y4 : List Int) =>
 (Ms_OrderOf y1 y2 y3 fun (y5 : List Int) =>
 (Ml_ccInts y4 y5 fun (y6 : Bool) =>
 (((!y6) = true →
 (Ms_OrderOf y1 y2 y3 fun (y7 : List Int) =>
 (Ml_ccInts y4 y7 fun (y8 : Bool) =>
 (K y8)))) ∧
 ((!y6) = false →
 (Mi_HeapValid y1 y2 y3 fun (y9 : Bool) =>
 (((!y9) = true →
 (Ms_OrderOf y1 y2 y3 fun (y10 : List Int) =>
 (Ml_ccInts y4 y10 fun (y11 : Bool) =>
 (K y11)))) ∧
 ((!y9) = false →
 (LoopP (S := Int × List Int × List Int × List Int × List Int) (fun s12 Kb12 Kx12 =>
 (((decide (s12.1 < (len s12.2.2.2.2))) = true →
 ((inB s12.1 (List.length s12.2.2.2.2)) ∧
 ((((gI s12.2.2.2.2 s12.1) != (-1)) = true →
 (((decide ((len s12.2.1) > 0)) = true →
 ((inB 0 (List.length s12.2.1)) ∧
 ((inB s12.1 (List.length s12.2.2.2.2)) ∧
 (K ((gI s12.2.1 0) == (gI s12.2.2.2.2 s12.1)))))) ∧
 ((decide ((len s12.2.1) > 0)) = false →
 (K false)))) ∧
 (((gI s12.2.2.2.2 s12.1) != (-1)) = false →
 (Kb12 ((iadd s12.1 1), s12.2.1, s12.2.2.1, s12.2.2.2.1, s12.2.2.2.2)))))) ∧
 ((decide (s12.1 < (len s12.2.2.2.2))) = false →
 (Kx12 (s12.1, s12.2.1, s12.2.2.1, s12.2.2.2.1, s12.2.2.2.2)))))
 (0, y4, y1, y2, y3) fun s12 =>
 (K ((len s12.2.1) == 0))))))))))))))
/-! spec.l10Cells -/
def Ms_l10Cells (p1 : List Int) (p2 : List Int) (p3 : List Int) (p4 : List Int) (K : Bool → Prop) : Prop :=
 (Ms_HeapValid p1 p2 p3 fun (y1 : Bool) =>
 (((!y1) = true →
 (K false)) ∧
 ((!y1) = false →
 (((decide ((len p4) > (len p1))) = true →
 (K false)) ∧
 ((decide ((len p4) > (len p1))) = false →
 (LoopP (S := List Int × Int × List Int × List Int × List Int) (fun s2 Kb2 Kx2 =>
 (((decide (s2.2.1 < (len s2.1))) = true →
 ((inB s2.2.1 (List.length s2.1)) ∧
 (((decide ((gI s2.1 s2.2.1) < 0)) = true →
 (K false)) ∧
 ((decide ((gI s2.1 s2.2.1) < 0)) = false →
 ((inB s2.2.1 (List.length s2.1)) ∧
 (((decide ((gI s2.1 s2.2.1) ≥ (len s2.2.2.1))) = true →
 (K false)) ∧
 ((decide ((gI s2.1 s2.2.1) ≥ (len s2.2.2.1))) = false →
 (((0 : Int) ≤ (0 : Int) ∧ (0 : Int) ≤ s2.2.1 ∧ s2.2.1 ≤ len s2.1) ∧
 ((inB s2.2.1 (List.length s2.1)) ∧
 (Ms_l10At (sub s2.1 (0 : Int) s2.2.1) (gI s2.1 s2.2.1) fun (y3 : Int) =>
 (((decide (y3 ≥ 0)) = true →
 (K false)) ∧
 ((decide (y3 ≥ 0)) = false →
 (Kb2 (s2.1, (iadd s2.2.1 1), s2.2.2.1, s2.2.2.2.1, s2.2.2.2.2)))))))))))))) ∧
 ((decide (s2.2.1 < (len s2.1))) = false →
 (Kx2 (s2.1, s2.2.1, s2.2.2.1, s2.2.2.2.1, s2.2.2.2.2)))))
 (p4, 0, p1, p2, p3) fun s2 =>
 (K true)))))))
/-! spec.CopyStep -/
def Ms_CopyStep (p1 : List Int) (p2 : List Int) (p3 : List Int) (p4 : List Int) (p5 : Int) (K : Bool → (List Int) → Prop) : Prop :=
 (Ms_l10Cells p1 p2 p3 p4 fun (y1 : Bool) =>
 (((!y1) = true →
 (K false [])) ∧
 ((!y1) = false →
 (((decide (p5 < 0)) = true →
 (K false [])) ∧
 ((decide (p5 < 0)) = false →
 (((decide (p5 ≥ (len p4))) = true →
 (K false [])) ∧
 ((decide (p5 ≥ (len p4))) = false →
 (((List.length p4 : Nat) ≤ 2 ^ 36) ∧
 ((inB p5 (List.length p4)) ∧
 ((inB (gI p4 p5) (List.length p1)) ∧
 (Ms_l10Meet (gI p1 (gI p4 p5)) p4 fun (y2 : List Int) =>
 ((inB p5 (List.length p4)) ∧
 ((inB (gI p4 p5) (List.length p2)) ∧
 (Ms_l10Meet (gI p2 (gI p4 p5)) y2 fun (y3 : List Int) =>
 (K true y3)))))))))))))))
/-! impl.has -/
def Mi_has (p1 : List Int) (p2 : List Int) (p3 : List Int) (p4 : Int) (K : Bool → Prop) : Prop :=
 (Mi_HeapValid p1 p2 p3 fun (y1 : Bool) =>
 ((y1 = true →
 (((decide (p4 ≥ 0)) = true →
 (K (decide (p4 < (len p1))))) ∧
 ((decide (p4 ≥ 0)) = false →
 (K false)))) ∧
 (y1 = false →
 (K false))))
/-! slices.Clone[[]int,int] -/
def M_Clone_int (p1 : List Int) (K : (List Int) → Prop) : Prop :=
 (∀ b1 : Bool, ((List.length p1 : Nat) ≠ 0 → b1 = false) →
 ((b1 = true →
 (K [])) ∧
 (b1 = false →
 (((List.length p1 : Nat) ≤ 2 ^ 36) ∧
 (K p1)))))
/-! impl.CopyStep -/
def Mi_CopyStep (p1 : List Int) (p2 : List Int) (p3 : List Int) (p4 : List Int) (p5 : Int) (K : Bool → (List Int) → Prop) : Prop :=
 (Mi_HeapValid p1 p2 p3 fun (y1 : Bool) =>
 (((!y1) = true →
 (K false [])) ∧
 ((!y1) = false →
 (((decide (p5 < 0)) = true →
 (K false [])) ∧
 ((decide (p5 < 0)) = false →
 (((decide (p5 ≥ (len p4))) = true →
 (K false [])) ∧
 ((decide (p5 ≥ (len p4))) = false →
 (LoopP (S := List Int × Int × List Int × Int × Int × List Int × List Int × List Int) (fun s2 Kb2 Kx2 =>
 (((decide (s2.2.2.2.2.1 < s2.2.2.2.1)) = true →
 ((inB s2.2.2.2.2.1 (List.length s2.2.2.1)) ∧
 (Mi_has s2.2.2.2.2.2.1 s2.2.2.2.2.2.2.1 s2.2.2.2.2.2.2.2 (gI s2.2.2.1 s2.2.2.2.2.1) fun (y3 : Bool) =>
 (((!y3) = true →
 (K false [])) ∧
 ((!y3) = false →
 (((0 : Int) ≤ (0 : Int) ∧ (0 : Int) ≤ s2.2.2.2.2.1 ∧ s2.2.2.2.2.1 ≤ len s2.1) ∧
 (M_Contains_int (sub s2.1 (0 : Int) s2.2.2.2.2.1) (gI s2.2.2.1 s2.2.2.2.2.1) fun (y4 : Bool) =>
 ((y4 = true →
 (K false [])) ∧
 (y4 = false →
 (Kb2 (s2.1, s2.2.1, s2.2.2.1, s2.2.2.2.1, (iadd s2.2.2.2.2.1 1), s2.2.2.2.2.2.1, s2.2.2.2.2.2.2.1, s2.2.2.2.2.2.2.2))))))))))) ∧
 ((decide (s2.2.2.2.2.1 < s2.2.2.2.1)) = false →
 (Kx2 (s2.1, s2.2.1, s2.2.2.1, s2.2.2.2.1, s2.2.2.2.2.1, s2.2.2.2.2.2.1, s2.2.2.2.2.2.2.1, s2.2.2.2.2.2.2.2)))))
 (p4, p5, p4, (len p4), 0, p1, p2, p3) fun s2 =>
 (M_Clone_int s2.1 fun (y5 : List Int) =>
 ((inB s2.2.1 (List.length s2.1)) ∧
 ((inB (gI s2.1 s2.2.1) (List.length s2.2.2.2.2.2.1)) ∧
 ((inB s2.2.1 (List.length s2.1)) ∧
 ((inB (gI s2.1 s2.2.1) (List.length s2.2.2.2.2.2.2.1)) ∧
 (Mi_met [(gI s2.2.2.2.2.2.1 (gI s2.1 s2.2.1)), (gI s2.2.2.2.2.2.2.1 (gI s2.1 s2.2.1))] y5 fun (y6 : List Int) =>
 (K true y6)))))))))))))))
/-! laws.FnExactCopyStep -/
def Ml_FnExactCopyStep (p1 : List Int) (p2 : List Int) (p3 : List Int) (p4 : List Int) (p5 : Int) (K : Bool → Prop) : Prop :=
 (((decide ((len p4) > 1048576)) = true →
 (K true)) ∧
 ((decide ((len p4) > 1048576)) = false →
 (Ml_szHeap p1 p2 p3 1048576 fun (y1 : Int) =>
 (((decide (y1 < 0)) = true →
 (K true)) ∧
 ((decide (y1 < 0)) = false →
 (Ml_toHeap p1 p2 p3 fun (y2 : List Int) (y3 : List Int) (y4 : List Int) =>
 (Ml_toIntS p4 fun (y5 : List Int) =>
 (Ms_CopyStep y2 y3 y4 y5 p5 fun (y6 : Bool) (y7 : List Int) =>
 (Ml_toHeap p1 p2 p3 fun (y8 : List Int) (y9 : List Int) (y10 : List Int) =>
 (Ml_toIntS p4 fun (y11 : List Int) =>
 (Mi_CopyStep y8 y9 y10 y11 p5 fun (y12 : Bool) (y13 : List Int) =>
 (Ml_eqIntS y13 y7 fun (y14 : Bool) =>
 (((!y14) = true →
 (K false)) ∧
 ((!y14) = false →
 (((!(y12 == y6)) = true →
 (K false)) ∧
 ((!(y12 == y6)) = false →
 (Ml_toHeap p1 p2 p3 fun (y15 : List Int) (y16 : List Int) (y17 : List Int) =>
 (Ml_eqHeap y8 y9 y10 y15 y16 y17 fun (y18 : Bool) =>
 (((!y18) = true →
 (K false)) ∧
 ((!y18) = false →
 (Ml_toIntS p4 fun (y19 : List Int) =>
 (Ml_eqIntS y11 y19 fun (y20 : Bool) =>
 (((!y20) = true →
 (K false)) ∧
 ((!y20) = false →
 (Ml_markHeap 1 y8 y9 y10 fun (y21 : Int) (y22 : List Int) (y23 : List Int) (y24 : List Int) =>
 (Ml_markIntS y21 y11 fun (y25 : Int) (y26 : List Int) =>
 (((decide (y25 < 0)) = true →
 (K false)) ∧
 ((decide (y25 < 0)) = false →
 (Ml_eqIntS y13 y7 fun (y27 : Bool) =>
 (((!y27) = true →
 (K false)) ∧
 ((!y27) = false →
 (((!(y12 == y6)) = true →
 (K false)) ∧
 ((!(y12 == y6)) = false →
 (Ml_markIntS 1 y13 fun (y28 : Int) (y29 : List Int) =>
 (Ml_heldIntS y29 1 fun (y30 : Int) =>
 (((decide (y30 < 0)) = true →
 (K false)) ∧
 ((decide (y30 < 0)) = false →
 (((y30 != y28) = true →
 (K false)) ∧
 ((y30 != y28) = false →
 (Ml_toHeap p1 p2 p3 fun (y31 : List Int) (y32 : List Int) (y33 : List Int) =>
 (Ml_toIntS p4 fun (y34 : List Int) =>
 (Mi_CopyStep y31 y32 y33 y34 p5 fun (y35 : Bool) (y36 : List Int) =>
 (Ml_eqIntS y36 y7 fun (y37 : Bool) =>
 (((!y37) = true →
 (K false)) ∧
 ((!y37) = false →
 (((!(y35 == y6)) = true →
 (K false)) ∧
 ((!(y35 == y6)) = false →
 (Ml_heldIntS y29 1 fun (y38 : Int) =>
 (((decide (y38 < 0)) = true →
 (K false)) ∧
 ((decide (y38 < 0)) = false →
 (((y38 != y28) = true →
 (K false)) ∧
 ((y38 != y28) = false →
 (K true)))))))))))))))))))))))))))))))))))))))))))))))))))))
/-! spec.DrawGensSame -/
def Ms_DrawGensSame (p1 : List Int) (K : (List Int) → (List Int) → (List Int) → (List Bool) → (List Int) → (List Int) → (List Int) → (List Int) → (List Bool) → (List Int) → Prop) : Prop :=
 (Ms_l13Open p1 fun (y1 : List Int) (y2 : Int) =>
 (Ms_l11Draw y1 y2 fun (y3 : List Int) (y4 : Int) (y5 : List Int) (y6 : List Int) (y7 : List Int) (y8 : List Bool) (y9 : List Int) =>
 (Ms_l11Wrong y3 y4 y5 y6 y7 y8 y9 fun (y10 : Int) (y11 : List Bool) (y12 : List Int) =>
 (Ms_l11Wrong y3 y10 y5 y6 y7 y11 y12 fun (y13 : Int) (y14 : List Bool) (y15 : List Int) =>
 (Ms_l11Wrong y3 y13 y5 y6 y7 y14 y15 fun (y16 : Int) (y17 : List Bool) (y18 : List Int) =>
 (K y5 y6 y7 y8 y9 y5 y6 y7 y17 y18))))))
/-! laws.FnGensSame -/
def Ml_FnGensSame (p1 : List Int) (K : Bool → Prop) : Prop :=
 (((decide ((len p1) > 1048576)) = true →
 (K true)) ∧
 ((decide ((len p1) > 1048576)) = false →
 (Ms_DrawGensSame p1 fun (y1 : List Int) (y2 : List Int) (y3 : List Int) (y4 : List Bool) (y5 : List Int) (y6 : List Int) (y7 : List Int) (y8 : List Int) (y9 : List Bool) (y10 : List Int) =>
 (Mi_GensSame y1 y2 y3 y4 y5 y6 y7 y8 y9 y10 fun (y11 : Bool) =>
 (Ms_GensSame y1 y2 y3 y4 y5 y6 y7 y8 y9 y10 fun (y12 : Bool) =>
 (((y11 == y12) = true →
 (Mi_GensSame y6 y7 y8 y9 y10 y1 y2 y3 y4 y5 fun (y13 : Bool) =>
 (((y11 == y13) = true →
 (Mi_GensSame y1 y2 y3 y4 y5 y1 y2 y3 y4 y5 fun (y14 : Bool) =>
 ((y14 = true →
 (((!y11) = true →
 (K true)) ∧
 ((!y11) = false →
 (Mi_GensValid y1 y2 y3 y4 y5 fun (y15 : Bool) =>
 (Mi_GensValid y6 y7 y8 y9 y10 fun (y16 : Bool) =>
 (K (y15 == y16))))))) ∧
 (y14 = false →
 (K false))))) ∧
 ((y11 == y13) = false →
 (K false))))) ∧
 ((y11 == y12) = false →
 (K false))))))))
/-! spec.DrawCopyStep -/
def Ms_DrawCopyStep (p1 : List Int) (K : Int → (List Int) → (List Int) → (List Int) → (List Int) → Prop) : Prop :=
 (Ms_l13Open p1 fun (y1 : List Int) (y2 : Int) =>
 (Ms_l1Draw y1 y2 fun (y3 : List Int) (y4 : Int) (y5 : List Int) (y6 : List Int) (y7 : List Int) =>
 (Ms_l10Order y5 y6 y7 fun (y8 : List Int) =>
 (let j31 := fun (z22 : Int) =>
 (Ms_l13Rd_pick 16 y3 z22 fun (y23 : Int) (y24 : Int) =>
 (((y23 == 0) = true →
 (Ms_l13Rd_num [0, 8, (-1)] y3 y24 fun (y25 : Int) (y26 : Int) =>
 ((List.length y8 + List.length ([y25] : List Int) ≤ 2 ^ 36) ∧
 (Ms_l13Rd_num [0, 0, 1, 2, (-1)] y3 y26 fun (y27 : Int) (y28 : Int) =>
 (K y27 y5 y6 y7 (y8 ++ [y25])))))) ∧
 ((y23 == 0) = false →
 (Ms_l13Rd_num [0, 0, 1, 2, (-1)] y3 y24 fun (y29 : Int) (y30 : Int) =>
 (K y29 y5 y6 y7 y8)))));
 (((decide ((len y8) > 1)) = true →
 (Ms_l13Rd_pick 2 y3 y4 fun (y9 : Int) (y10 : Int) =>
 (((y9 == 0) = true →
 (Ms_l13Rd_pick (isub (len y8) 1) y3 y10 fun (y11 : Int) (y12 : Int) =>
 (((0 : Int) ≤ (0 : Int) ∧ (0 : Int) ≤ (iadd 1 y11) ∧ (iadd 1 y11) ≤ len y8) ∧
 (Ms_l13Rd_pick 16 y3 y12 fun (y14 : Int) (y15 : Int) =>
 (((y14 == 0) = true →
 (Ms_l13Rd_num [0, 8, (-1)] y3 y15 fun (y16 : Int) (y17 : Int) =>
 ((List.length (sub y8 (0 : Int) (iadd 1 y11)) + List.length ([y16] : List Int) ≤ 2 ^ 36) ∧
 (Ms_l13Rd_num [0, 0, 1, 2, (-1)] y3 y17 fun (y18 : Int) (y19 : Int) =>
 (K y18 y5 y6 y7 ((sub y8 (0 : Int) (iadd 1 y11)) ++ [y16])))))) ∧
 ((y14 == 0) = false →
 (Ms_l13Rd_num [0, 0, 1, 2, (-1)] y3 y15 fun (y20 : Int) (y21 : Int) =>
 (K y20 y5 y6 y7 (sub y8 (0 : Int) (iadd 1 y11)))))))))) ∧
 ((y9 == 0) = false →
 (j31 y10))))) ∧
 ((decide ((len y8) > 1)) = false →
 (j31 y4)))))))
/-! laws.FnCopyStep -/
def Ml_FnCopyStep (p1 : List Int) (K : Bool → Prop) : Prop :=
 (((decide ((len p1) > 1048576)) = true →
 (K true)) ∧
 ((decide ((len p1) > 1048576)) = false →
 (Ms_DrawCopyStep p1 fun (y1 : Int) (y2 : List Int) (y3 : List Int) (y4 : List Int) (y5 : List Int) =>
 (Mi_CopyStep y2 y3 y4 y5 y1 fun (y6 : Bool) (y7 : List Int) =>
 (Ms_CopyStep y2 y3 y4 y5 y1 fun (y8 : Bool) (y9 : List Int) =>
 (Ml_ccInts y7 y9 fun (y10 : Bool) =>
 (((!y10) = true →
 (Ml_ccInts y7 y9 fun (y11 : Bool) =>
 ((y11 = true →
 (K (y6 == y8))) ∧
 (y11 = false →
 (K false))))) ∧
 ((!y10) = false →
 (((!(y6 == y8)) = true →
 (Ml_ccInts y7 y9 fun (y12 : Bool) =>
 ((y12 = true →
 (K (y6 == y8))) ∧
 (y12 = false →
 (K false))))) ∧
 ((!(y6 == y8)) = false →
 (((!y6) = true →
 (Ml_ccInts y7 y9 fun (y13 : Bool) =>
 ((y13 = true →
 (K (y6 == y8))) ∧
 (y13 = false →
 (K false))))) ∧
 ((!y6) = false →
 (LoopP (S := List Int × Int × List Int × List Int × List Int × List Int) (fun s14 Kb14 Kx14 =>
 (((decide (s14.2.1 < (len s14.1))) = true →
 (Mi_CopyStep s14.2.2.2.1 s14.2.2.2.2.1 s14.2.2.2.2.2 s14.1 s14.2.1 fun (y15 : Bool) (y16 : List Int) =>
 (((!y15) = true →
 (K false)) ∧
 ((!y15) = false →
 (Kb14 (y16, (iadd s14.2.1 1), s14.2.2.1, s14.2.2.2.1, s14.2.2.2.2.1, s14.2.2.2.2.2)))))) ∧
 ((decide (s14.2.1 < (len s14.1))) = false →
 (Kx14 (s14.1, s14.2.1, s14.2.2.1, s14.2.2.2.1, s14.2.2.2.2.1, s14.2.2.2.2.2)))))
 (y7, y1, y5, y2, y3, y4) fun s14 =>
 (((decide ((len s14.1) ≥ (len s14.2.2.1))) = true →
 (((0 : Int) ≤ (0 : Int) ∧ (0 : Int) ≤ (len s14.2.2.1) ∧ (len s14.2.2.1) ≤ len s14.1) ∧
 (Ml_ccInts (sub s14.1 (0 : Int) (len s14.2.2.1)) s14.2.2.1 fun (y17 : Bool) =>
 ((y17 = true →
 (K (decide ((len s14.1) ≤ (len s14.2.2.2.1))))) ∧
 (y17 = false →
 (K false)))))) ∧
 ((decide ((len s14.1) ≥ (len s14.2.2.1))) = false →
 (K false))))))))))))))))
/-! laws.FnStepMeets -/
def Ml_FnStepMeets (p1 : List Int) (K : Bool → Prop) : Prop :=
 (((decide ((len p1) > 1048576)) = true →
 (K true)) ∧
 ((decide ((len p1) > 1048576)) = false →
 (Ms_DrawCopyStep p1 fun (y1 : Int) (y2 : List Int) (y3 : List Int) (y4 : List Int) (y5 : List Int) =>
 (Mi_CopyStep y2 y3 y4 y5 y1 fun (y6 : Bool) (y7 : List Int) =>
 (Ms_CopyStep y2 y3 y4 y5 y1 fun (y8 : Bool) (y9 : List Int) =>
 (Ml_ccInts y7 y9 fun (y10 : Bool) =>
 (((!y10) = true →
 (Ml_ccInts y7 y9 fun (y11 : Bool) =>
 ((y11 = true →
 (K (y6 == y8))) ∧
 (y11 = false →
 (K false))))) ∧
 ((!y10) = false →
 (((!(y6 == y8)) = true →
 (Ml_ccInts y7 y9 fun (y12 : Bool) =>
 ((y12 = true →
 (K (y6 == y8))) ∧
 (y12 = false →
 (K false))))) ∧
 ((!(y6 == y8)) = false →
 (((!y6) = true →
 (Ml_ccInts y7 y9 fun (y13 : Bool) =>
 ((y13 = true →
 (K (y6 == y8))) ∧
 (y13 = false →
 (K false))))) ∧
 ((!y6) = false →
 ((inB y1 (List.length y5)) ∧
 ((inB (gI y5 y1) (List.length y2)) ∧
 ((inB y1 (List.length y5)) ∧
 ((inB (gI y5 y1) (List.length y3)) ∧
 (LoopP (S := Int × Bool × Bool × Int × List Int × List Int × List Int × List Int × List Int) (fun s14 Kb14 Kx14 =>
 (((decide (s14.2.2.2.1 < (len s14.2.2.2.2.2.1))) = true →
 ((s14.2.1 = true →
 ((s14.2.2.1 = true →
 (Kb14 (s14.1, true, true, (iadd s14.2.2.2.1 1), s14.2.2.2.2.1, s14.2.2.2.2.2.1, s14.2.2.2.2.2.2.1, s14.2.2.2.2.2.2.2.1, s14.2.2.2.2.2.2.2.2))) ∧
 (s14.2.2.1 = false →
 ((inB s14.2.2.2.1 (List.length s14.2.2.2.2.2.1)) ∧
 ((inB s14.1 (List.length s14.2.2.2.2.1)) ∧
 ((inB (gI s14.2.2.2.2.1 s14.1) (List.length s14.2.2.2.2.2.2.2.1)) ∧
 (let v16 : Bool := ((gI s14.2.2.2.2.2.1 s14.2.2.2.1) == (gI s14.2.2.2.2.2.2.2.1 (gI s14.2.2.2.2.1 s14.1)));
 (Kb14 (s14.1, true, v16, (iadd s14.2.2.2.1 1), s14.2.2.2.2.1, s14.2.2.2.2.2.1, s14.2.2.2.2.2.2.1, s14.2.2.2.2.2.2.2.1, s14.2.2.2.2.2.2.2.2))))))))) ∧
 (s14.2.1 = false →
 ((inB s14.2.2.2.1 (List.length s14.2.2.2.2.2.1)) ∧
 ((inB s14.1 (List.length s14.2.2.2.2.1)) ∧
 ((inB (gI s14.2.2.2.2.1 s14.1) (List.length s14.2.2.2.2.2.2.1)) ∧
 (let v15 : Bool := ((gI s14.2.2.2.2.2.1 s14.2.2.2.1) == (gI s14.2.2.2.2.2.2.1 (gI s14.2.2.2.2.1 s14.1)));
 ((s14.2.2.1 = true →
 (Kb14 (s14.1, v15, true, (iadd s14.2.2.2.1 1), s14.2.2.2.2.1, s14.2.2.2.2.2.1, s14.2.2.2.2.2.2.1, s14.2.2.2.2.2.2.2.1, s14.2.2.2.2.2.2.2.2))) ∧
 (s14.2.2.1 = false →
 ((inB s14.2.2.2.1 (List.length s14.2.2.2.2.2.1)) ∧
 ((inB s14.1 (List.length s14.2.2.2.2.1)) ∧
 ((inB (gI s14.2.2.2.2.1 s14.1) (List.length s14.2.2.2.2.2.2.2.1)) ∧
 (let v17 : Bool := ((gI s14.2.2.2.2.2.1 s14.2.2.2.1) == (gI s14.2.2.2.2.2.2.2.1 (gI s14.2.2.2.2.1 s14.1)));
 (Kb14 (s14.1, v15, v17, (iadd s14.2.2.2.1 1), s14.2.2.2.2.1, s14.2.2.2.2.2.1, s14.2.2.2.2.2.2.1, s14.2.2.2.2.2.2.2.1, s14.2.2.2.2.2.2.2.2))))))))))))))) ∧
 ((decide (s14.2.2.2.1 < (len s14.2.2.2.2.2.1))) = false →
 (Kx14 (s14.1, s14.2.1, s14.2.2.1, s14.2.2.2.1, s14.2.2.2.2.1, s14.2.2.2.2.2.1, s14.2.2.2.2.2.2.1, s14.2.2.2.2.2.2.2.1, s14.2.2.2.2.2.2.2.2)))))
 (y1, ((gI y2 (gI y5 y1)) == (-1)), ((gI y3 (gI y5 y1)) == (-1)), 0, y5, y7, y2, y3, y4) fun s14 =>
 (Mi_CopyStep s14.2.2.2.2.2.2.1 s14.2.2.2.2.2.2.2.1 s14.2.2.2.2.2.2.2.2 s14.2.2.2.2.2.1 s14.1 fun (y19 : Bool) (y20 : List Int) =>
 ((s14.2.1 = true →
 ((s14.2.2.1 = true →
 (let v21 : Bool := (decide ((len s14.2.2.2.2.2.1) ≤ (iadd (len s14.2.2.2.2.1) 2)));
 ((v21 = true →
 ((y19 = true →
 (Ml_ccInts y20 s14.2.2.2.2.2.1 fun (y22 : Bool) =>
 (K y22))) ∧
 (y19 = false →
 (K false)))) ∧
 (v21 = false →
 (K false))))) ∧
 (s14.2.2.1 = false →
 (K false)))) ∧
 (s14.2.1 = false →
 (K false)))))))))))))))))))))
/-! laws.FnExactGensValid -/
def Ml_FnExactGensValid (p1 : List Int) (p2 : List Int) (p3 : List Int) (p4 : List Bool) (p5 : List Int) (K : Bool → Prop) : Prop :=
 (Ml_szGens p1 p2 p3 p4 p5 1048576 fun (y1 : Int) =>
 (((decide (y1 < 0)) = true →
 (K true)) ∧
 ((decide (y1 < 0)) = false →
 (Ml_toGens p1 p2 p3 p4 p5 fun (y2 : List Int) (y3 : List Int) (y4 : List Int) (y5 : List Bool) (y6 : List Int) =>
 (Ms_GensValid y2 y3 y4 y5 y6 fun (y7 : Bool) =>
 (Ml_toGens p1 p2 p3 p4 p5 fun (y8 : List Int) (y9 : List Int) (y10 : List Int) (y11 : List Bool) (y12 : List Int) =>
 (Mi_GensValid y8 y9 y10 y11 y12 fun (y13 : Bool) =>
 (((!(y13 == y7)) = true →
 (K false)) ∧
 ((!(y13 == y7)) = false →
 (Ml_toGens p1 p2 p3 p4 p5 fun (y14 : List Int) (y15 : List Int) (y16 : List Int) (y17 : List Bool) (y18 : List Int) =>
 (Ml_eqGens y8 y9 y10 y11 y12 y14 y15 y16 y17 y18 fun (y19 : Bool) =>
 (((!y19) = true →
 (K false)) ∧
 ((!y19) = false →
 (K true))))))))))))))
/-! impl.YoungKept -/
def Mi_YoungKept (p1 : List Int) (p2 : List Int) (p3 : List Int) (p4 : List Bool) (p5 : List Int) (K : (List Int) → Prop) : Prop :=
 (Mi_GensValid p1 p2 p3 p4 p5 fun (y1 : Bool) =>
 (((!y1) = true →
 (K [])) ∧
 ((!y1) = false →
 ((0 ≤ (len p4) ∧ (len p4) = (len p4) ∧ (len p4) ≤ 2 ^ 36) ∧
 (M_Clone_int p3 fun (y2 : List Int) =>
 (LoopP (S := List Int × Int × Int × List Int × List Int × List Int × List Bool × List Int × List Bool × List Int) (fun s3 Kb3 Kx3 =>
 (((decide (s3.2.2.1 < s3.2.1)) = true →
 ((inB s3.2.2.1 (List.length s3.1)) ∧
 ((inB (gI s3.1 s3.2.2.1) (List.length s3.2.2.2.1)) ∧
 ((inB (gI s3.1 s3.2.2.1) (List.length s3.2.2.2.2.1)) ∧
 ((List.length s3.2.2.2.2.2.2.2.2.2 + List.length ([(gI s3.2.2.2.1 (gI s3.1 s3.2.2.1)), (gI s3.2.2.2.2.1 (gI s3.1 s3.2.2.1))] : List Int) ≤ 2 ^ 36) ∧
 (let v4 : List Int := (s3.2.2.2.2.2.2.2.2.2 ++ [(gI s3.2.2.2.1 (gI s3.1 s3.2.2.1)), (gI s3.2.2.2.2.1 (gI s3.1 s3.2.2.1))]);
 (Kb3 (s3.1, s3.2.1, (iadd s3.2.2.1 1), s3.2.2.2.1, s3.2.2.2.2.1, s3.2.2.2.2.2.1, s3.2.2.2.2.2.2.1, s3.2.2.2.2.2.2.2.1, s3.2.2.2.2.2.2.2.2.1, v4)))))))) ∧
 ((decide (s3.2.2.1 < s3.2.1)) = false →
 (Kx3 (s3.1, s3.2.1, s3.2.2.1, s3.2.2.2.1, s3.2.2.2.2.1, s3.2.2.2.2.2.1, s3.2.2.2.2.2.2.1, s3.2.2.2.2.2.2.2.1, s3.2.2.2.2.2.2.2.2.1, s3.2.2.2.2.2.2.2.2.2)))))
 (p5, (len p5), 0, p1, p2, p3, p4, p5, (List.replicate (Int.toNat (len p4)) false), y2) fun s3 =>
 (LoopP (S := Int × List Int × List Int × List Int × List Bool × List Int × List Bool × List Int) (fun s5 Kb5 Kx5 =>
 (((decide (s5.1 < (len s5.2.2.2.2.2.2.2))) = true →
 ((inB s5.1 (List.length s5.2.2.2.2.2.2.2)) ∧
 ((((gI s5.2.2.2.2.2.2.2 s5.1) == (-1)) = true →
 (Kb5 ((iadd s5.1 1), s5.2.1, s5.2.2.1, s5.2.2.2.1, s5.2.2.2.2.1, s5.2.2.2.2.2.1, s5.2.2.2.2.2.2.1, s5.2.2.2.2.2.2.2))) ∧
 (((gI s5.2.2.2.2.2.2.2 s5.1) == (-1)) = false →
 ((inB (gI s5.2.2.2.2.2.2.2 s5.1) (List.length s5.2.2.2.2.1)) ∧
 (((gB s5.2.2.2.2.1 (gI s5.2.2.2.2.2.2.2 s5.1)) = true →
 (Kb5 ((iadd s5.1 1), s5.2.1, s5.2.2.1, s5.2.2.2.1, s5.2.2.2.2.1, s5.2.2.2.2.2.1, s5.2.2.2.2.2.2.1, s5.2.2.2.2.2.2.2))) ∧
 ((gB s5.2.2.2.2.1 (gI s5.2.2.2.2.2.2.2 s5.1)) = false →
 ((inB (gI s5.2.2.2.2.2.2.2 s5.1) (List.length s5.2.2.2.2.2.2.1)) ∧
 (((gB s5.2.2.2.2.2.2.1 (gI s5.2.2.2.2.2.2.2 s5.1)) = true →
 (Kb5 ((iadd s5.1 1), s5.2.1, s5.2.2.1, s5.2.2.2.1, s5.2.2.2.2.1, s5.2.2.2.2.2.1, s5.2.2.2.2.2.2.1, s5.2.2.2.2.2.2.2))) ∧
 ((gB s5.2.2.2.2.2.2.1 (gI s5.2.2.2.2.2.2.2 s5.1)) = false →
 ((inB (gI s5.2.2.2.2.2.2.2 s5.1) (List.length s5.2.2.2.2.2.2.1)) ∧
 ((inB (gI s5.2.2.2.2.2.2.2 s5.1) (List.length s5.2.1)) ∧
 ((inB (gI s5.2.2.2.2.2.2.2 s5.1) (List.length s5.2.2.1)) ∧
 ((List.length s5.2.2.2.2.2.2.2 + List.length ([(gI s5.2.1 (gI s5.2.2.2.2.2.2.2 s5.1)), (gI s5.2.2.1 (gI s5.2.2.2.2.2.2.2 s5.1))] : List Int) ≤ 2 ^ 36) ∧
 (let v6 : List Int := (s5.2.2.2.2.2.2.2 ++ [(gI s5.2.1 (gI s5.2.2.2.2.2.2.2 s5.1)), (gI s5.2.2.1 (gI s5.2.2.2.2.2.2.2 s5.1))]);
 (Kb5 ((iadd s5.1 1), s5.2.1, s5.2.2.1, s5.2.2.2.1, s5.2.2.2.2.1, s5.2.2.2.2.2.1, (uL s5.2.2.2.2.2.2.1 (gI s5.2.2.2.2.2.2.2 s5.1) true), v6))))))))))))))))) ∧
 ((decide (s5.1 < (len s5.2.2.2.2.2.2.2))) = false →
 (Kx5 (s5.1, s5.2.1, s5.2.2.1, s5.2.2.2.1, s5.2.2.2.2.1, s5.2.2.2.2.2.1, s5.2.2.2.2.2.2.1, s5.2.2.2.2.2.2.2)))))
 (0, s3.2.2.2.1, s3.2.2.2.2.1, s3.2.2.2.2.2.1, s3.2.2.2.2.2.2.1, s3.2.2.2.2.2.2.2.1, s3.2.2.2.2.2.2.2.2.1, s3.2.2.2.2.2.2.2.2.2) fun s5 =>
 (LoopP (S := Int × Int × List Int × List Bool) (fun s7 Kb7 Kx7 =>
 (((decide (s7.2.1 < s7.1)) = true →
 ((inB s7.2.1 (List.length s7.2.2.2)) ∧
 (((gB s7.2.2.2 s7.2.1) = true →
 ((List.length s7.2.2.1 + List.length ([s7.2.1] : List Int) ≤ 2 ^ 36) ∧
 (Kb7 (s7.1, (iadd s7.2.1 1), (s7.2.2.1 ++ [s7.2.1]), s7.2.2.2)))) ∧
 ((gB s7.2.2.2 s7.2.1) = false →
 (Kb7 (s7.1, (iadd s7.2.1 1), s7.2.2.1, s7.2.2.2)))))) ∧
 ((decide (s7.2.1 < s7.1)) = false →
 (Kx7 (s7.1, s7.2.1, s7.2.2.1, s7.2.2.2)))))
 ((len s5.2.2.2.2.2.2.1), 0, [], s5.2.2.2.2.2.2.1) fun s7 =>
 (K s7.2.2.1)))))))))
/-! laws.FnGensValid -/
def Ml_FnGensValid (p1 : List Int) (K : Bool → Prop) : Prop :=
 (((decide ((len p1) > 1048576)) = true →
 (K true)) ∧
 ((decide ((len p1) > 1048576)) = false →
 (Ms_DrawGensValid p1 fun (y1 : List Int) (y2 : List Int) (y3 : List Int) (y4 : List Bool) (y5 : List Int) =>
 (Mi_GensValid y1 y2 y3 y4 y5 fun (y6 : Bool) =>
 (Ms_GensValid y1 y2 y3 y4 y5 fun (y7 : Bool) =>
 (((!(y6 == y7)) = true →
 (Ms_GensValid y1 y2 y3 y4 y5 fun (y8 : Bool) =>
 (K (y6 == y8)))) ∧
 ((!(y6 == y7)) = false →
 (((!y6) = true →
 (Ms_GensValid y1 y2 y3 y4 y5 fun (y9 : Bool) =>
 (K (y6 == y9)))) ∧
 ((!y6) = false →
 ((0 ≤ (len y4) ∧ (len y4) = (len y4) ∧ (len y4) ≤ 2 ^ 36) ∧
 (LoopP (S := Int × List Int × List Int × List Int × List Bool × List Int) (fun s10 Kb10 Kx10 =>
 (((decide (s10.1 < (len s10.2.2.2.2.1))) = true →
 ((inB s10.1 (List.length s10.2.2.2.2.1)) ∧
 (Kb10 ((iadd s10.1 1), s10.2.1, s10.2.2.1, s10.2.2.2.1, (uL s10.2.2.2.2.1 s10.1 true), s10.2.2.2.2.2)))) ∧
 ((decide (s10.1 < (len s10.2.2.2.2.1))) = false →
 (Kx10 (s10.1, s10.2.1, s10.2.2.1, s10.2.2.2.1, s10.2.2.2.2.1, s10.2.2.2.2.2)))))
 (0, y1, y2, y3, (List.replicate (Int.toNat (len y4)) false), y5) fun s10 =>
 (Mi_GensValid s10.2.1 s10.2.2.1 s10.2.2.2.1 s10.2.2.2.2.1 [] fun (y11 : Bool) =>
 ((y11 = true →
 (Mi_GensValid s10.2.1 s10.2.2.1 s10.2.2.2.1 s10.2.2.2.2.1 [0] fun (y12 : Bool) =>
 (((!y12) = true →
 (Mi_YoungKept s10.2.1 s10.2.2.1 s10.2.2.2.1 s10.2.2.2.2.1 [] fun (y13 : List Int) =>
 (K ((len y13) == 0)))) ∧
 ((!y12) = false →
 (K false))))) ∧
 (y11 = false →
 (K false)))))))))))))))
/-! impl.copied -/
def Mi_copied (p1 : List Int) (p2 : List Int) (p3 : List Int) (K : (List Int) → (List Int) → (List Int) → Prop) : Prop :=
 (M_Clone_int p1 fun (y1 : List Int) =>
 (M_Clone_int p2 fun (y2 : List Int) =>
 (M_Clone_int p3 fun (y3 : List Int) =>
 (K y1 y2 y3))))
/-! impl.NewGens -/
def Mi_NewGens (p1 : List Int) (p2 : List Int) (p3 : List Int) (K : Bool → (List Int) → (List Int) → (List Int) → (List Bool) → (List Int) → Prop) : Prop :=
 (Mi_HeapValid p1 p2 p3 fun (y1 : Bool) =>
 (((!y1) = true →
 (K false [] [] [] [] [])) ∧
 ((!y1) = false →
 (Mi_copied p1 p2 p3 fun (y2 : List Int) (y3 : List Int) (y4 : List Int) =>
 ((0 ≤ (len p1) ∧ (len p1) = (len p1) ∧ (len p1) ≤ 2 ^ 36) ∧
 (K true y2 y3 y4 (List.replicate (Int.toNat (len p1)) false) []))))))
/-! laws.markBoolS -/
def Ml_markBoolS (p1 : Int) (p2 : List Bool) (K : Int → (List Bool) → Prop) : Prop :=
 (LoopP (S := Int × Int × List Bool) (fun s1 Kb1 Kx1 =>
 (((decide (s1.2.1 < (len s1.2.2))) = true →
 (((3 : Int) ≠ 0) ∧
 ((inB s1.2.1 (List.length s1.2.2)) ∧
 (Kb1 ((iadd s1.1 1), (iadd s1.2.1 1), (uL s1.2.2 s1.2.1 ((Int.tmod s1.1 3) == 0))))))) ∧
 ((decide (s1.2.1 < (len s1.2.2))) = false →
 (Kx1 (s1.1, s1.2.1, s1.2.2)))))
 (p1, 0, p2) fun s1 =>
 (K s1.1 s1.2.2))
/-! laws.markGens -/
def Ml_markGens (p1 : Int) (p2 : List Int) (p3 : List Int) (p4 : List Int) (p5 : List Bool) (p6 : List Int) (K : Int → (List Int) → (List Int) → (List Int) → (List Bool) → (List Int) → Prop) : Prop :=
 (Ml_markHeap p1 p2 p3 p4 fun (y1 : Int) (y2 : List Int) (y3 : List Int) (y4 : List Int) =>
 (Ml_markBoolS y1 p5 fun (y5 : Int) (y6 : List Bool) =>
 (Ml_markIntS y5 p6 fun (y7 : Int) (y8 : List Int) =>
 (K y7 y2 y3 y4 y6 y8))))
/-! laws.heldHeap -/
def Ml_heldHeap (p1 : List Int) (p2 : List Int) (p3 : List Int) (p4 : Int) (K : Int → Prop) : Prop :=
 (Ml_heldIntS p1 p4 fun (y1 : Int) =>
 (((decide (y1 < 0)) = true →
 (K (-1))) ∧
 ((decide (y1 < 0)) = false →
 (Ml_heldIntS p2 y1 fun (y2 : Int) =>
 (((decide (y2 < 0)) = true →
 (K (-1))) ∧
 ((decide (y2 < 0)) = false →
 (Ml_heldIntS p3 y2 fun (y3 : Int) =>
 (((decide (y3 < 0)) = true →
 (K (-1))) ∧
 ((decide (y3 < 0)) = false →
 (K y3))))))))))
/-! laws.heldBoolS -/
def Ml_heldBoolS (p1 : List Bool) (p2 : Int) (K : Int → Prop) : Prop :=
 (LoopP (S := List Bool × Int × Int) (fun s1 Kb1 Kx1 =>
 (((decide (s1.2.2 < (len s1.1))) = true →
 ((inB s1.2.2 (List.length s1.1)) ∧
 (((3 : Int) ≠ 0) ∧
 (((!((gB s1.1 s1.2.2) == ((Int.tmod s1.2.1 3) == 0))) = true →
 (K (-1))) ∧
 ((!((gB s1.1 s1.2.2) == ((Int.tmod s1.2.1 3) == 0))) = false →
 (Kb1 (s1.1, (iadd s1.2.1 1), (iadd s1.2.2 1)))))))) ∧
 ((decide (s1.2.2 < (len s1.1))) = false →
 (Kx1 (s1.1, s1.2.1, s1.2.2)))))
 (p1, p2, 0) fun s1 =>
 (K s1.2.1))
/-! laws.heldGens -/
def Ml_heldGens (p1 : List Int) (p2 : List Int) (p3 : List Int) (p4 : List Bool) (p5 : List Int) (p6 : Int) (K : Int → Prop) : Prop :=
 (Ml_heldHeap p1 p2 p3 p6 fun (y1 : Int) =>
 (((decide (y1 < 0)) = true →
 (K (-1))) ∧
 ((decide (y1 < 0)) = false →
 (Ml_heldBoolS p4 y1 fun (y2 : Int) =>
 (((decide (y2 < 0)) = true →
 (K (-1))) ∧
 ((decide (y2 < 0)) = false →
 (Ml_heldIntS p5 y2 fun (y3 : Int) =>
 (((decide (y3 < 0)) = true →
 (K (-1))) ∧
 ((decide (y3 < 0)) = false →
 (K y3))))))))))
/-! laws.FnExactNewGens -/
def Ml_FnExactNewGens (p1 : List Int) (p2 : List Int) (p3 : List Int) (K : Bool → Prop) : Prop :=
 (Ml_szHeap p1 p2 p3 1048576 fun (y1 : Int) =>
 (((decide (y1 < 0)) = true →
 (K true)) ∧
 ((decide (y1 < 0)) = false →
 (Ml_toHeap p1 p2 p3 fun (y2 : List Int) (y3 : List Int) (y4 : List Int) =>
 (Ms_NewGens y2 y3 y4 fun (y5 : Bool) (y6 : List Int) (y7 : List Int) (y8 : List Int) (y9 : List Bool) (y10 : List Int) =>
 (Ml_toHeap p1 p2 p3 fun (y11 : List Int) (y12 : List Int) (y13 : List Int) =>
 (Mi_NewGens y11 y12 y13 fun (y14 : Bool) (y15 : List Int) (y16 : List Int) (y17 : List Int) (y18 : List Bool) (y19 : List Int) =>
 (Ml_eqGens y15 y16 y17 y18 y19 y6 y7 y8 y9 y10 fun (y20 : Bool) =>
 (((!y20) = true →
 (K false)) ∧
 ((!y20) = false →
 (((!(y14 == y5)) = true →
 (K false)) ∧
 ((!(y14 == y5)) = false →
 (Ml_toHeap p1 p2 p3 fun (y21 : List Int) (y22 : List Int) (y23 : List Int) =>
 (Ml_eqHeap y11 y12 y13 y21 y22 y23 fun (y24 : Bool) =>
 (((!y24) = true →
 (K false)) ∧
 ((!y24) = false →
 (Ml_markHeap 1 y11 y12 y13 fun (y25 : Int) (y26 : List Int) (y27 : List Int) (y28 : List Int) =>
 (((decide (y25 < 0)) = true →
 (K false)) ∧
 ((decide (y25 < 0)) = false →
 (Ml_eqGens y15 y16 y17 y18 y19 y6 y7 y8 y9 y10 fun (y29 : Bool) =>
 (((!y29) = true →
 (K false)) ∧
 ((!y29) = false →
 (((!(y14 == y5)) = true →
 (K false)) ∧
 ((!(y14 == y5)) = false →
 (Ml_markGens 1 y15 y16 y17 y18 y19 fun (y30 : Int) (y31 : List Int) (y32 : List Int) (y33 : List Int) (y34 : List Bool) (y35 : List Int) =>
 (Ml_heldGens y31 y32 y33 y34 y35 1 fun (y36 : Int) =>
 (((decide (y36 < 0)) = true →
 (K false)) ∧
 ((decide (y36 < 0)) = false →
 (((y36 != y30) = true →
 (K false)) ∧
 ((y36 != y30) = false →
 (Ml_toHeap p1 p2 p3 fun (y37 : List Int) (y38 : List Int) (y39 : List Int) =>
 (Mi_NewGens y37 y38 y39 fun (y40 : Bool) (y41 : List Int) (y42 : List Int) (y43 : List Int) (y44 : List Bool) (y45 : List Int) =>
 (Ml_eqGens y41 y42 y43 y44 y45 y6 y7 y8 y9 y10 fun (y46 : Bool) =>
 (((!y46) = true →
 (K false)) ∧
 ((!y46) = false →
 (((!(y40 == y5)) = true →
 (K false)) ∧
 ((!(y40 == y5)) = false →
 (Ml_heldGens y31 y32 y33 y34 y35 1 fun (y47 : Int) =>
 (((decide (y47 < 0)) = true →
 (K false)) ∧
 ((decide (y47 < 0)) = false →
 (((y47 != y30) = true →
 (K false)) ∧
 ((y47 != y30) = false →
 (K true)))))))))))))))))))))))))))))))))))))))))))
/-! spec.l11Case -/
def Ms_l11Case (p1 : List Int) (K : (List Int) → (List Int) → (List Int) → (List Bool) → (List Int) → Prop) : Prop :=
 (Ms_l13Open p1 fun (y1 : List Int) (y2 : Int) =>
 (Ms_l11Draw y1 y2 fun (y3 : List Int) (y4 : Int) (y5 : List Int) (y6 : List Int) (y7 : List Int) (y8 : List Bool) (y9 : List Int) =>
 (Ms_l11Wrong y3 y4 y5 y6 y7 y8 y9 fun (y10 : Int) (y11 : List Bool) (y12 : List Int) =>
 (K y5 y6 y7 y11 y12))))
/-! spec.DrawPutGens -/
def Ms_DrawPutGens (p1 : List Int) (K : Int → Int → (List Int) → (List Int) → (List Int) → (List Bool) → (List Int) → Prop) : Prop :=
 (Ms_l11Case p1 fun (y1 : List Int) (y2 : List Int) (y3 : List Int) (y4 : List Bool) (y5 : List Int) =>
 (Ms_l13Open p1 fun (y6 : List Int) (y7 : Int) =>
 (Ms_l13Rd_num [0, 1, 2, 3, 8, (-1)] y6 y7 fun (y8 : Int) (y9 : Int) =>
 (Ms_l13Rd_num [0, 1, 2, (-1), 8] y6 y9 fun (y10 : Int) (y11 : Int) =>
 (K y8 y10 y1 y2 y3 y4 y5)))))
/-! impl.pointer -/
def Mi_pointer (p1 : List Int) (p2 : List Int) (p3 : List Int) (p4 : Int) (K : Bool → Prop) : Prop :=
 (((decide (p4 ≥ (-1))) = true →
 (K (decide (p4 < (len p1))))) ∧
 ((decide (p4 ≥ (-1))) = false →
 (K false)))
/-! impl.PutLeft -/
def Mi_PutLeft (p1 : List Int) (p2 : List Int) (p3 : List Int) (p4 : Int) (p5 : Int) (K : Bool → (List Int) → (List Int) → (List Int) → Prop) : Prop :=
 (Mi_has p1 p2 p3 p4 fun (y1 : Bool) =>
 (((!y1) = true →
 (K false [] [] [])) ∧
 ((!y1) = false →
 (Mi_pointer p1 p2 p3 p5 fun (y2 : Bool) =>
 (((!y2) = true →
 (K false [] [] [])) ∧
 ((!y2) = false →
 (Mi_copied p1 p2 p3 fun (y3 : List Int) (y4 : List Int) (y5 : List Int) =>
 ((inB p4 (List.length y3)) ∧
 (K true (uL y3 p4 p5) y4 y5)))))))))
/-! slices.Clone[[]bool,bool] -/
def M_Clone_bool (p1 : List Bool) (K : (List Bool) → Prop) : Prop :=
 (∀ b1 : Bool, ((List.length p1 : Nat) ≠ 0 → b1 = false) →
 ((b1 = true →
 (K [])) ∧
 (b1 = false →
 (((List.length p1 : Nat) ≤ 2 ^ 36) ∧
 (K p1)))))
/-! impl.PutGens -/
def Mi_PutGens (p1 : List Int) (p2 : List Int) (p3 : List Int) (p4 : List Bool) (p5 : List Int) (p6 : Int) (p7 : Int) (K : Bool → (List Int) → (List Int) → (List Int) → (List Bool) → (List Int) → Prop) : Prop :=
 (Mi_PutLeft p1 p2 p3 p6 p7 fun (y1 : Bool) (y2 : List Int) (y3 : List Int) (y4 : List Int) =>
 (Mi_GensValid p1 p2 p3 p4 p5 fun (y5 : Bool) =>
 (((!y5) = true →
 (K false [] [] [] [] [])) ∧
 ((!y5) = false →
 (((!y1) = true →
 (K false [] [] [] [] [])) ∧
 ((!y1) = false →
 (M_Clone_bool p4 fun (y6 : List Bool) =>
 (Mi_remembered y2 y3 y4 p4 fun (y7 : List Int) =>
 (K true y2 y3 y4 y6 y7)))))))))
/-! spec.l1Cell -/
def Ms_l1Cell (p1 : List Int) (p2 : List Int) (p3 : List Int) (p4 : Int) (K : Bool → Prop) : Prop :=
 (Ms_HeapValid p1 p2 p3 fun (y1 : Bool) =>
 ((y1 = true →
 (((decide (p4 ≥ 0)) = true →
 (K (decide (p4 < (len p1))))) ∧
 ((decide (p4 ≥ 0)) = false →
 (K false)))) ∧
 (y1 = false →
 (K false))))
/-! spec.PutLeft -/
def Ms_PutLeft (p1 : List Int) (p2 : List Int) (p3 : List Int) (p4 : Int) (p5 : Int) (K : Bool → (List Int) → (List Int) → (List Int) → Prop) : Prop :=
 (Ms_l1Cell p1 p2 p3 p4 fun (y1 : Bool) =>
 (((!y1) = true →
 (K false [] [] [])) ∧
 ((!y1) = false →
 (Ms_l1Points p5 (len p1) fun (y2 : Bool) =>
 (((!y2) = true →
 (K false [] [] [])) ∧
 ((!y2) = false →
 (Ms_l1Copy p1 p2 p3 <|
 ((inB p4 (List.length p1)) ∧
 (K true (uL p1 p4 p5) p2 p3)))))))))
/-! spec.PutGens -/
def Ms_PutGens (p1 : List Int) (p2 : List Int) (p3 : List Int) (p4 : List Bool) (p5 : List Int) (p6 : Int) (p7 : Int) (K : Bool → (List Int) → (List Int) → (List Int) → (List Bool) → (List Int) → Prop) : Prop :=
 (Ms_PutLeft p1 p2 p3 p6 p7 fun (y1 : Bool) (y2 : List Int) (y3 : List Int) (y4 : List Int) =>
 (Ms_GensValid p1 p2 p3 p4 p5 fun (y5 : Bool) =>
 (((!y5) = true →
 (K false [] [] [] [] [])) ∧
 ((!y5) = false →
 (((!y1) = true →
 (K false [] [] [] [] [])) ∧
 ((!y1) = false →
 (((List.length p4 : Nat) ≤ 2 ^ 36) ∧
 (Ms_l11Remember y2 y3 y4 p4 fun (y6 : List Int) =>
 (K true y2 y3 y4 p4 y6)))))))))
/-! laws.FnPutGens -/
def Ml_FnPutGens (p1 : List Int) (K : Bool → Prop) : Prop :=
 (((decide ((len p1) > 1048576)) = true →
 (K true)) ∧
 ((decide ((len p1) > 1048576)) = false →
 (Ms_DrawPutGens p1 fun (y1 : Int) (y2 : Int) (y3 : List Int) (y4 : List Int) (y5 : List Int) (y6 : List Bool) (y7 : List Int) =>
 (Mi_PutGens y3 y4 y5 y6 y7 y1 y2 fun (y8 : Bool) (y9 : List Int) (y10 : List Int) (y11 : List Int) (y12 : List Bool) (y13 : List Int) =>
 (Ms_PutGens y3 y4 y5 y6 y7 y1 y2 fun (y14 : Bool) (y15 : List Int) (y16 : List Int) (y17 : List Int) (y18 : List Bool) (y19 : List Int) =>
 (Mi_GensSame y9 y10 y11 y12 y13 y15 y16 y17 y18 y19 fun (y20 : Bool) =>
 (((!y20) = true →
 (Mi_GensSame y9 y10 y11 y12 y13 y15 y16 y17 y18 y19 fun (y21 : Bool) =>
 ((y21 = true →
 (K (y8 == y14))) ∧
 (y21 = false →
 (K false))))) ∧
 ((!y20) = false →
 (((!(y8 == y14)) = true →
 (Mi_GensSame y9 y10 y11 y12 y13 y15 y16 y17 y18 y19 fun (y22 : Bool) =>
 ((y22 = true →
 (K (y8 == y14))) ∧
 (y22 = false →
 (K false))))) ∧
 ((!(y8 == y14)) = false →
 (((!y8) = true →
 (Mi_GensSame y9 y10 y11 y12 y13 y15 y16 y17 y18 y19 fun (y23 : Bool) =>
 ((y23 = true →
 (K (y8 == y14))) ∧
 (y23 = false →
 (K false))))) ∧
 ((!y8) = false →
 (LoopP (S := Int × Int × Bool × Int × List Int × List Int × List Int × List Bool × List Int × List Int × List Int × List Int × List Bool × List Int) (fun s24 Kb24 Kx24 =>
 (((decide (s24.2.2.2.1 < (len s24.2.2.2.2.2.2.2.2.2.2.2.2.2))) = true →
 ((s24.2.2.1 = true →
 (Kb24 (s24.1, s24.2.1, true, (iadd s24.2.2.2.1 1), s24.2.2.2.2.1, s24.2.2.2.2.2.1, s24.2.2.2.2.2.2.1, s24.2.2.2.2.2.2.2.1, s24.2.2.2.2.2.2.2.2.1, s24.2.2.2.2.2.2.2.2.2.1, s24.2.2.2.2.2.2.2.2.2.2.1, s24.2.2.2.2.2.2.2.2.2.2.2.1, s24.2.2.2.2.2.2.2.2.2.2.2.2.1, s24.2.2.2.2.2.2.2.2.2.2.2.2.2))) ∧
 (s24.2.2.1 = false →
 ((inB s24.2.2.2.1 (List.length s24.2.2.2.2.2.2.2.2.2.2.2.2.2)) ∧
 (Kb24 (s24.1, s24.2.1, ((gI s24.2.2.2.2.2.2.2.2.2.2.2.2.2 s24.2.2.2.1) == s24.1), (iadd s24.2.2.2.1 1), s24.2.2.2.2.1, s24.2.2.2.2.2.1, s24.2.2.2.2.2.2.1, s24.2.2.2.2.2.2.2.1, s24.2.2.2.2.2.2.2.2.1, s24.2.2.2.2.2.2.2.2.2.1, s24.2.2.2.2.2.2.2.2.2.2.1, s24.2.2.2.2.2.2.2.2.2.2.2.1, s24.2.2.2.2.2.2.2.2.2.2.2.2.1, s24.2.2.2.2.2.2.2.2.2.2.2.2.2)))))) ∧
 ((decide (s24.2.2.2.1 < (len s24.2.2.2.2.2.2.2.2.2.2.2.2.2))) = false →
 (Kx24 (s24.1, s24.2.1, s24.2.2.1, s24.2.2.2.1, s24.2.2.2.2.1, s24.2.2.2.2.2.1, s24.2.2.2.2.2.2.1, s24.2.2.2.2.2.2.2.1, s24.2.2.2.2.2.2.2.2.1, s24.2.2.2.2.2.2.2.2.2.1, s24.2.2.2.2.2.2.2.2.2.2.1, s24.2.2.2.2.2.2.2.2.2.2.2.1, s24.2.2.2.2.2.2.2.2.2.2.2.2.1, s24.2.2.2.2.2.2.2.2.2.2.2.2.2)))))
 (y1, y2, false, 0, y3, y4, y5, y6, y7, y9, y10, y11, y12, y13) fun s24 =>
 ((inB s24.1 (List.length s24.2.2.2.2.1)) ∧
 (Mi_PutGens s24.2.2.2.2.2.2.2.2.2.1 s24.2.2.2.2.2.2.2.2.2.2.1 s24.2.2.2.2.2.2.2.2.2.2.2.1 s24.2.2.2.2.2.2.2.2.2.2.2.2.1 s24.2.2.2.2.2.2.2.2.2.2.2.2.2 s24.1 (gI s24.2.2.2.2.1 s24.1) fun (y25 : Bool) (y26 : List Int) (y27 : List Int) (y28 : List Int) (y29 : List Bool) (y30 : List Int) =>
 (Mi_GensValid s24.2.2.2.2.2.2.2.2.2.1 s24.2.2.2.2.2.2.2.2.2.2.1 s24.2.2.2.2.2.2.2.2.2.2.2.1 s24.2.2.2.2.2.2.2.2.2.2.2.2.1 s24.2.2.2.2.2.2.2.2.2.2.2.2.2 fun (y31 : Bool) =>
 ((y31 = true →
 ((inB s24.1 (List.length s24.2.2.2.2.2.2.2.2.2.1)) ∧
 ((((gI s24.2.2.2.2.2.2.2.2.2.1 s24.1) == s24.2.1) = true →
 (((s24.2.1 == (-1)) = true →
 ((y25 = true →
 (Mi_GensSame y26 y27 y28 y29 y30 s24.2.2.2.2.1 s24.2.2.2.2.2.1 s24.2.2.2.2.2.2.1 s24.2.2.2.2.2.2.2.1 s24.2.2.2.2.2.2.2.2.1 fun (y32 : Bool) =>
 (K y32))) ∧
 (y25 = false →
 (K false)))) ∧
 ((s24.2.1 == (-1)) = false →
 ((inB s24.1 (List.length s24.2.2.2.2.2.2.2.1)) ∧
 (((!(gB s24.2.2.2.2.2.2.2.1 s24.1)) = true →
 ((y25 = true →
 (Mi_GensSame y26 y27 y28 y29 y30 s24.2.2.2.2.1 s24.2.2.2.2.2.1 s24.2.2.2.2.2.2.1 s24.2.2.2.2.2.2.2.1 s24.2.2.2.2.2.2.2.2.1 fun (y33 : Bool) =>
 (K y33))) ∧
 (y25 = false →
 (K false)))) ∧
 ((!(gB s24.2.2.2.2.2.2.2.1 s24.1)) = false →
 ((inB s24.2.1 (List.length s24.2.2.2.2.2.2.2.1)) ∧
 (((gB s24.2.2.2.2.2.2.2.1 s24.2.1) = true →
 ((y25 = true →
 (Mi_GensSame y26 y27 y28 y29 y30 s24.2.2.2.2.1 s24.2.2.2.2.2.1 s24.2.2.2.2.2.2.1 s24.2.2.2.2.2.2.2.1 s24.2.2.2.2.2.2.2.2.1 fun (y34 : Bool) =>
 (K y34))) ∧
 (y25 = false →
 (K false)))) ∧
 ((gB s24.2.2.2.2.2.2.2.1 s24.2.1) = false →
 ((s24.2.2.1 = true →
 ((y25 = true →
 (Mi_GensSame y26 y27 y28 y29 y30 s24.2.2.2.2.1 s24.2.2.2.2.2.1 s24.2.2.2.2.2.2.1 s24.2.2.2.2.2.2.2.1 s24.2.2.2.2.2.2.2.2.1 fun (y35 : Bool) =>
 (K y35))) ∧
 (y25 = false →
 (K false)))) ∧
 (s24.2.2.1 = false →
 (K false)))))))))))) ∧
 (((gI s24.2.2.2.2.2.2.2.2.2.1 s24.1) == s24.2.1) = false →
 (K false))))) ∧
 (y31 = false →
 (K false)))))))))))))))))))
end Go.Ab
