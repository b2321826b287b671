/-
  What is proved here: nothing: the typed models of functions of the translated program.
-/
import Derived.Test.YtldakbacfokohaaT14
namespace Go.Ab
set_option linter.unusedVariables false
/-! laws.szIntS -/
def Ml_szIntS (p1 : List Int) (p2 : Int) (K : Int → Prop) : Prop :=
 (((decide ((isub p2 (len p1)) < 0)) = true →
 (K (-1))) ∧
 ((decide ((isub p2 (len p1)) < 0)) = false →
 (K (isub p2 (len p1)))))
/-! laws.szHeap -/
def Ml_szHeap (p1 : List Int) (p2 : List Int) (p3 : List Int) (p4 : Int) (K : Int → Prop) : Prop :=
 (Ml_szIntS p1 p4 fun (y1 : Int) =>
 (((decide (y1 < 0)) = true →
 (K (-1))) ∧
 ((decide (y1 < 0)) = false →
 (Ml_szIntS p2 y1 fun (y2 : Int) =>
 (((decide (y2 < 0)) = true →
 (K (-1))) ∧
 ((decide (y2 < 0)) = false →
 (Ml_szIntS p3 y2 fun (y3 : Int) =>
 (((decide (y3 < 0)) = true →
 (K (-1))) ∧
 ((decide (y3 < 0)) = false →
 (K y3))))))))))
/-! laws.toIntS -/
def Ml_toIntS (p1 : List Int) (K : (List Int) → Prop) : Prop :=
 ((0 ≤ (len p1) ∧ (len p1) = (len p1) ∧ (len p1) ≤ 2 ^ 36) ∧
 (LoopP (S := List Int × Int × List Int) (fun s1 Kb1 Kx1 =>
 (((decide (s1.2.1 < (len s1.1))) = true →
 ((inB s1.2.1 (List.length s1.1)) ∧
 ((inB s1.2.1 (List.length s1.2.2)) ∧
 (Kb1 (s1.1, (iadd s1.2.1 1), (uL s1.2.2 s1.2.1 (gI s1.1 s1.2.1))))))) ∧
 ((decide (s1.2.1 < (len s1.1))) = false →
 (Kx1 (s1.1, s1.2.1, s1.2.2)))))
 (p1, 0, (List.replicate (Int.toNat (len p1)) (0 : Int))) fun s1 =>
 (K s1.2.2)))
/-! laws.toHeap -/
def Ml_toHeap (p1 : List Int) (p2 : List Int) (p3 : List Int) (K : (List Int) → (List Int) → (List Int) → Prop) : Prop :=
 (Ml_toIntS p1 fun (y1 : List Int) =>
 (Ml_toIntS p2 fun (y2 : List Int) =>
 (Ml_toIntS p3 fun (y3 : List Int) =>
 (K y1 y2 y3))))
/-! spec.l1Points -/
def Ms_l1Points (p1 : Int) (p2 : Int) (K : Bool → Prop) : Prop :=
 (((decide (p1 ≥ (-1))) = true →
 (K (decide (p1 < p2)))) ∧
 ((decide (p1 ≥ (-1))) = false →
 (K false)))
/-! spec.HeapValid -/
def Ms_HeapValid (p1 : List Int) (p2 : List Int) (p3 : List Int) (K : Bool → Prop) : Prop :=
 (((decide ((len p1) < 1)) = true →
 (K false)) ∧
 ((decide ((len p1) < 1)) = false →
 (((decide ((len p1) > 8)) = true →
 (K false)) ∧
 ((decide ((len p1) > 8)) = false →
 ((((len p2) != (len p1)) = true →
 (K false)) ∧
 (((len p2) != (len p1)) = false →
 (((decide ((len p3) < 1)) = true →
 (K false)) ∧
 ((decide ((len p3) < 1)) = false →
 (((decide ((len p3) > 3)) = true →
 (K false)) ∧
 ((decide ((len p3) > 3)) = false →
 (LoopP (S := Int × Int × List Int × List Int × List Int) (fun s1 Kb1 Kx1 =>
 (((decide (s1.2.1 < s1.1)) = true →
 ((inB s1.2.1 (List.length s1.2.2.1)) ∧
 (Ms_l1Points (gI s1.2.2.1 s1.2.1) s1.1 fun (y2 : Bool) =>
 (((!y2) = true →
 (K false)) ∧
 ((!y2) = false →
 ((inB s1.2.1 (List.length s1.2.2.2.1)) ∧
 (Ms_l1Points (gI s1.2.2.2.1 s1.2.1) s1.1 fun (y3 : Bool) =>
 (((!y3) = true →
 (K false)) ∧
 ((!y3) = false →
 (Kb1 (s1.1, (iadd s1.2.1 1), s1.2.2.1, s1.2.2.2.1, s1.2.2.2.2))))))))))) ∧
 ((decide (s1.2.1 < s1.1)) = false →
 (Kx1 (s1.1, s1.2.1, s1.2.2.1, s1.2.2.2.1, s1.2.2.2.2)))))
 ((len p1), 0, p1, p2, p3) fun s1 =>
 (LoopP (S := Int × Int × List Int × List Int × List Int) (fun s4 Kb4 Kx4 =>
 (((decide (s4.2.1 < (len s4.2.2.2.2))) = true →
 ((inB s4.2.1 (List.length s4.2.2.2.2)) ∧
 (Ms_l1Points (gI s4.2.2.2.2 s4.2.1) s4.1 fun (y5 : Bool) =>
 (((!y5) = true →
 (K false)) ∧
 ((!y5) = false →
 (Kb4 (s4.1, (iadd s4.2.1 1), s4.2.2.1, s4.2.2.2.1, s4.2.2.2.2))))))) ∧
 ((decide (s4.2.1 < (len s4.2.2.2.2))) = false →
 (Kx4 (s4.1, s4.2.1, s4.2.2.1, s4.2.2.2.1, s4.2.2.2.2)))))
 (s1.1, 0, s1.2.2.1, s1.2.2.2.1, s1.2.2.2.2) fun s4 =>
 (K true)))))))))))))
/-! spec.l10At -/
def Ms_l10At (p1 : List Int) (p2 : Int) (K : Int → Prop) : Prop :=
 (LoopP (S := List Int × Int × Int) (fun s1 Kb1 Kx1 =>
 (((decide (s1.2.2 < (len s1.1))) = true →
 ((inB s1.2.2 (List.length s1.1)) ∧
 ((((gI s1.1 s1.2.2) == s1.2.1) = true →
 (K s1.2.2)) ∧
 (((gI s1.1 s1.2.2) == s1.2.1) = false →
 (Kb1 (s1.1, s1.2.1, (iadd s1.2.2 1))))))) ∧
 ((decide (s1.2.2 < (len s1.1))) = false →
 (Kx1 (s1.1, s1.2.1, s1.2.2)))))
 (p1, p2, 0) fun s1 =>
 (K (-1)))
/-! spec.l10Cells -/
def Ms_l10Cells (p1 : List Int) (p2 : List Int) (p3 : List Int) (p4 : List Int) (K : Bool → Prop) : Prop :=
 (Ms_HeapValid p1 p2 p3 fun (y1 : Bool) =>
 (((!y1) = true →
 (K false)) ∧
 ((!y1) = false →
 (((decide ((len p4) > (len p1))) = true →
 (K false)) ∧
 ((decide ((len p4) > (len p1))) = false →
 (LoopP (S := List Int × Int × List Int × List Int × List Int) (fun s2 Kb2 Kx2 =>
 (((decide (s2.2.1 < (len s2.1))) = true →
 ((inB s2.2.1 (List.length s2.1)) ∧
 (((decide ((gI s2.1 s2.2.1) < 0)) = true →
 (K false)) ∧
 ((decide ((gI s2.1 s2.2.1) < 0)) = false →
 ((inB s2.2.1 (List.length s2.1)) ∧
 (((decide ((gI s2.1 s2.2.1) ≥ (len s2.2.2.1))) = true →
 (K false)) ∧
 ((decide ((gI s2.1 s2.2.1) ≥ (len s2.2.2.1))) = false →
 (((0 : Int) ≤ (0 : Int) ∧ (0 : Int) ≤ s2.2.1 ∧ s2.2.1 ≤ len s2.1) ∧
 ((inB s2.2.1 (List.length s2.1)) ∧
 (Ms_l10At (sub s2.1 (0 : Int) s2.2.1) (gI s2.1 s2.2.1) fun (y3 : Int) =>
 (((decide (y3 ≥ 0)) = true →
 (K false)) ∧
 ((decide (y3 ≥ 0)) = false →
 (Kb2 (s2.1, (iadd s2.2.1 1), s2.2.2.1, s2.2.2.2.1, s2.2.2.2.2)))))))))))))) ∧
 ((decide (s2.2.1 < (len s2.1))) = false →
 (Kx2 (s2.1, s2.2.1, s2.2.2.1, s2.2.2.2.1, s2.2.2.2.2)))))
 (p4, 0, p1, p2, p3) fun s2 =>
 (K true)))))))
/-! spec.l1Copy -/
def Ms_l1Copy (p1 : List Int) (p2 : List Int) (p3 : List Int) (K : Prop) : Prop :=
 (((List.length p1 : Nat) ≤ 2 ^ 36) ∧
 (((List.length p2 : Nat) ≤ 2 ^ 36) ∧
 (((List.length p3 : Nat) ≤ 2 ^ 36) ∧
 K)))
/-! spec.MoveCells -/
def Ms_MoveCells (p1 : List Int) (p2 : List Int) (p3 : List Int) (p4 : List Int) (K : Bool → (List Int) → (List Int) → (List Int) → Prop) : Prop :=
 (Ms_l10Cells p1 p2 p3 p4 fun (y1 : Bool) =>
 (((!y1) = true →
 (K false [] [] [])) ∧
 ((!y1) = false →
 ((((len p4) != (len p1)) = true →
 (K false [] [] [])) ∧
 (((len p4) != (len p1)) = false →
 (Ms_l1Copy p1 p2 p3 <|
 (LoopP (S := List Int × Int × List Int × List Int × List Int × List Int × List Int × List Int × List Int × List Int × List Int) (fun s2 Kb2 Kx2 =>
 (((decide (s2.2.1 < (len s2.1))) = true →
 (let j12 := fun (z10 : List Int) (z11 : List Int) =>
 (Kb2 (s2.1, (iadd s2.2.1 1), s2.2.2.1, s2.2.2.2.1, s2.2.2.2.2.1, s2.2.2.2.2.2.1, s2.2.2.2.2.2.2.1, s2.2.2.2.2.2.2.2.1, z10, z11, s2.2.2.2.2.2.2.2.2.2.2));
 ((inB s2.2.1 (List.length s2.1)) ∧
 ((inB (gI s2.1 s2.2.1) (List.length s2.2.2.2.2.2.2.2.2.1)) ∧
 ((inB s2.2.1 (List.length s2.1)) ∧
 ((inB (gI s2.1 s2.2.1) (List.length s2.2.2.2.2.2.2.2.2.2.1)) ∧
 (let j7 := fun (z5 : List Int) =>
 ((inB s2.2.1 (List.length s2.2.2.2.1)) ∧
 ((((gI s2.2.2.2.1 s2.2.1) != (-1)) = true →
 ((inB s2.2.1 (List.length s2.1)) ∧
 ((inB s2.2.1 (List.length s2.2.2.2.1)) ∧
 ((inB (gI s2.2.2.2.1 s2.2.1) (List.length s2.1)) ∧
 ((inB (gI s2.1 s2.2.1) (List.length (uL s2.2.2.2.2.2.2.2.2.2.1 (gI s2.1 s2.2.1) (-1)))) ∧
 (let v6 : List Int := (uL (uL s2.2.2.2.2.2.2.2.2.2.1 (gI s2.1 s2.2.1) (-1)) (gI s2.1 s2.2.1) (gI s2.1 (gI s2.2.2.2.1 s2.2.1)));
 (j12 z5 v6))))))) ∧
 (((gI s2.2.2.2.1 s2.2.1) != (-1)) = false →
 (j12 z5 (uL s2.2.2.2.2.2.2.2.2.2.1 (gI s2.1 s2.2.1) (-1))))));
 ((inB s2.2.1 (List.length s2.2.2.1)) ∧
 ((((gI s2.2.2.1 s2.2.1) != (-1)) = true →
 ((inB s2.2.1 (List.length s2.1)) ∧
 ((inB s2.2.1 (List.length s2.2.2.1)) ∧
 ((inB (gI s2.2.2.1 s2.2.1) (List.length s2.1)) ∧
 ((inB (gI s2.1 s2.2.1) (List.length (uL s2.2.2.2.2.2.2.2.2.1 (gI s2.1 s2.2.1) (-1)))) ∧
 (let v3 : List Int := (uL (uL s2.2.2.2.2.2.2.2.2.1 (gI s2.1 s2.2.1) (-1)) (gI s2.1 s2.2.1) (gI s2.1 (gI s2.2.2.1 s2.2.1)));
 (j7 v3))))))) ∧
 (((gI s2.2.2.1 s2.2.1) != (-1)) = false →
 (j7 (uL s2.2.2.2.2.2.2.2.2.1 (gI s2.1 s2.2.1) (-1))))))))))))) ∧
 ((decide (s2.2.1 < (len s2.1))) = false →
 (Kx2 (s2.1, s2.2.1, s2.2.2.1, s2.2.2.2.1, s2.2.2.2.2.1, s2.2.2.2.2.2.1, s2.2.2.2.2.2.2.1, s2.2.2.2.2.2.2.2.1, s2.2.2.2.2.2.2.2.2.1, s2.2.2.2.2.2.2.2.2.2.1, s2.2.2.2.2.2.2.2.2.2.2)))))
 (p4, 0, p1, p2, p3, [], [], [], p1, p2, p3) fun s2 =>
 (LoopP (S := List Int × Int × List Int × List Int × List Int × List Int × List Int × List Int × List Int × List Int × List Int) (fun s13 Kb13 Kx13 =>
 (((decide (s13.2.1 < (len s13.2.2.2.2.1))) = true →
 (let j17 := fun (z16 : List Int) =>
 (Kb13 (s13.1, (iadd s13.2.1 1), s13.2.2.1, s13.2.2.2.1, s13.2.2.2.2.1, s13.2.2.2.2.2.1, s13.2.2.2.2.2.2.1, s13.2.2.2.2.2.2.2.1, s13.2.2.2.2.2.2.2.2.1, s13.2.2.2.2.2.2.2.2.2.1, z16));
 ((inB s13.2.1 (List.length s13.2.2.2.2.1)) ∧
 ((((gI s13.2.2.2.2.1 s13.2.1) != (-1)) = true →
 ((inB s13.2.1 (List.length s13.2.2.2.2.1)) ∧
 ((inB (gI s13.2.2.2.2.1 s13.2.1) (List.length s13.1)) ∧
 ((inB s13.2.1 (List.length s13.2.2.2.2.2.2.2.2.2.2)) ∧
 (let v14 : List Int := (uL s13.2.2.2.2.2.2.2.2.2.2 s13.2.1 (gI s13.1 (gI s13.2.2.2.2.1 s13.2.1)));
 (j17 v14)))))) ∧
 (((gI s13.2.2.2.2.1 s13.2.1) != (-1)) = false →
 (j17 s13.2.2.2.2.2.2.2.2.2.2)))))) ∧
 ((decide (s13.2.1 < (len s13.2.2.2.2.1))) = false →
 (Kx13 (s13.1, s13.2.1, s13.2.2.1, s13.2.2.2.1, s13.2.2.2.2.1, s13.2.2.2.2.2.1, s13.2.2.2.2.2.2.1, s13.2.2.2.2.2.2.2.1, s13.2.2.2.2.2.2.2.2.1, s13.2.2.2.2.2.2.2.2.2.1, s13.2.2.2.2.2.2.2.2.2.2)))))
 (s2.1, 0, s2.2.2.1, s2.2.2.2.1, s2.2.2.2.2.1, s2.2.2.2.2.2.1, s2.2.2.2.2.2.2.1, s2.2.2.2.2.2.2.2.1, s2.2.2.2.2.2.2.2.2.1, s2.2.2.2.2.2.2.2.2.2.1, s2.2.2.2.2.2.2.2.2.2.2) fun s13 =>
 (K true s13.2.2.2.2.2.2.2.2.1 s13.2.2.2.2.2.2.2.2.2.1 s13.2.2.2.2.2.2.2.2.2.2)))))))))
/-! impl.HeapValid -/
def Mi_HeapValid (p1 : List Int) (p2 : List Int) (p3 : List Int) (K : Bool → Prop) : Prop :=
 ((((len p1) != (len p2)) = true →
 (K false)) ∧
 (((len p1) != (len p2)) = false →
 (((decide ((len p1) < 1)) = true →
 (K false)) ∧
 ((decide ((len p1) < 1)) = false →
 (((decide ((len p1) > 8)) = true →
 (K false)) ∧
 ((decide ((len p1) > 8)) = false →
 (((decide ((len p3) < 1)) = true →
 (K false)) ∧
 ((decide ((len p3) < 1)) = false →
 (((decide ((len p3) > 3)) = true →
 (K false)) ∧
 ((decide ((len p3) > 3)) = false →
 (LoopP (S := Int × Int × List Int × List Int × List Int × List (List Int)) (fun s1 Kb1 Kx1 =>
 (((decide (s1.2.1 < s1.1)) = true →
 ((inB s1.2.1 (List.length s1.2.2.2.2.2)) ∧
 (LoopP (S := Int × Int × List Int × Int × Int × List Int × List Int × List Int × List (List Int)) (fun s2 Kb2 Kx2 =>
 (((decide (s2.2.2.2.2.1 < s2.2.2.2.1)) = true →
 ((inB s2.2.2.2.2.1 (List.length s2.2.2.1)) ∧
 (((decide ((gI s2.2.2.1 s2.2.2.2.2.1) < (-1))) = true →
 (K false)) ∧
 ((decide ((gI s2.2.2.1 s2.2.2.2.2.1) < (-1))) = false →
 (((decide ((gI s2.2.2.1 s2.2.2.2.2.1) ≥ (len s2.2.2.2.2.2.1))) = true →
 (K false)) ∧
 ((decide ((gI s2.2.2.1 s2.2.2.2.2.1) ≥ (len s2.2.2.2.2.2.1))) = false →
 (Kb2 (s2.1, s2.2.1, s2.2.2.1, s2.2.2.2.1, (iadd s2.2.2.2.2.1 1), s2.2.2.2.2.2.1, s2.2.2.2.2.2.2.1, s2.2.2.2.2.2.2.2.1, s2.2.2.2.2.2.2.2.2)))))))) ∧
 ((decide (s2.2.2.2.2.1 < s2.2.2.2.1)) = false →
 (Kx2 (s2.1, s2.2.1, s2.2.2.1, s2.2.2.2.1, s2.2.2.2.2.1, s2.2.2.2.2.2.1, s2.2.2.2.2.2.2.1, s2.2.2.2.2.2.2.2.1, s2.2.2.2.2.2.2.2.2)))))
 (s1.1, s1.2.1, (gL s1.2.2.2.2.2 s1.2.1), (len (gL s1.2.2.2.2.2 s1.2.1)), 0, s1.2.2.1, s1.2.2.2.1, s1.2.2.2.2.1, s1.2.2.2.2.2) fun s2 =>
 (Kb1 (s2.1, (iadd s2.2.1 1), s2.2.2.2.2.2.1, s2.2.2.2.2.2.2.1, s2.2.2.2.2.2.2.2.1, s2.2.2.2.2.2.2.2.2))))) ∧
 ((decide (s1.2.1 < s1.1)) = false →
 (Kx1 (s1.1, s1.2.1, s1.2.2.1, s1.2.2.2.1, s1.2.2.2.2.1, s1.2.2.2.2.2)))))
 ((len [p1, p2, p3]), 0, p1, p2, p3, [p1, p2, p3]) fun s1 =>
 (K true))))))))))))
/-! impl.has -/
def Mi_has (p1 : List Int) (p2 : List Int) (p3 : List Int) (p4 : Int) (K : Bool → Prop) : Prop :=
 (Mi_HeapValid p1 p2 p3 fun (y1 : Bool) =>
 ((y1 = true →
 (((decide (p4 ≥ 0)) = true →
 (K (decide (p4 < (len p1))))) ∧
 ((decide (p4 ≥ 0)) = false →
 (K false)))) ∧
 (y1 = false →
 (K false))))
/-! slices.Index[[]int,int] -/
def M_Index_int (p1 : List Int) (p2 : Int) (K : Int → Prop) : Prop :=
 (LoopP (S := List Int × Int × Int × Int) (fun s1 Kb1 Kx1 =>
 (((decide (s1.2.2.2 < s1.2.2.1)) = true →
 ((inB s1.2.2.2 (List.length s1.1)) ∧
 (((s1.2.1 == (gI s1.1 s1.2.2.2)) = true →
 (K s1.2.2.2)) ∧
 ((s1.2.1 == (gI s1.1 s1.2.2.2)) = false →
 (Kb1 (s1.1, s1.2.1, s1.2.2.1, (iadd s1.2.2.2 1))))))) ∧
 ((decide (s1.2.2.2 < s1.2.2.1)) = false →
 (Kx1 (s1.1, s1.2.1, s1.2.2.1, s1.2.2.2)))))
 (p1, p2, (len p1), 0) fun s1 =>
 (K (-1)))
/-! slices.Contains[[]int,int] -/
def M_Contains_int (p1 : List Int) (p2 : Int) (K : Bool → Prop) : Prop :=
 (M_Index_int p1 p2 fun (y1 : Int) =>
 (K (decide (y1 ≥ 0))))
/-! math/bits.Mul32 -/
def M_math_bits_Mul32 (p1 : Int) (p2 : Int) (K : Int → Int → Prop) : Prop :=
 (let v1 : Int := (IntKind.wrap .u64 ((IntKind.wrap .u64 p1) * (IntKind.wrap .u64 p2)));
 (((0 : Int) ≤ (32 : Int)) ∧
 (let v2 : Int := (IntKind.wrap .u32 (Int.fdiv v1 (2 ^ min (Int.toNat 32) (IntKind.bits .u64))));
 (K v2 (IntKind.wrap .u32 v1)))))
/-! math/bits.Mul64 -/
def M_math_bits_Mul64 (p1 : Int) (p2 : Int) (K : Int → Int → Prop) : Prop :=
 (let v1 : Int := (IntKind.wrap .u64 (((BitVec.ofInt (IntKind.bits .u64) p1 &&& BitVec.ofInt (IntKind.bits .u64) 4294967295).toNat : Int)));
 (((0 : Int) ≤ (32 : Int)) ∧
 (let v2 : Int := (IntKind.wrap .u64 (((BitVec.ofInt (IntKind.bits .u64) p2 &&& BitVec.ofInt (IntKind.bits .u64) 4294967295).toNat : Int)));
 (((0 : Int) ≤ (32 : Int)) ∧
 (let v3 : Int := (IntKind.wrap .u64 ((Int.fdiv p1 (2 ^ min (Int.toNat 32) (IntKind.bits .u64))) * v2));
 (((0 : Int) ≤ (32 : Int)) ∧
 (let v4 : Int := (Int.fdiv (IntKind.wrap .u64 (v1 * v2)) (2 ^ min (Int.toNat 32) (IntKind.bits .u64)));
 (let v5 : Int := (IntKind.wrap .u64 (((BitVec.ofInt (IntKind.bits .u64) (IntKind.wrap .u64 (v3 + v4)) &&& BitVec.ofInt (IntKind.bits .u64) 4294967295).toNat : Int)));
 (((0 : Int) ≤ (32 : Int)) ∧
 (let v6 : Int := (Int.fdiv (IntKind.wrap .u64 (v3 + v4)) (2 ^ min (Int.toNat 32) (IntKind.bits .u64)));
 (let v7 : Int := (IntKind.wrap .u64 (v1 * (Int.fdiv p2 (2 ^ min (Int.toNat 32) (IntKind.bits .u64)))));
 (let v8 : Int := (IntKind.wrap .u64 ((Int.fdiv p1 (2 ^ min (Int.toNat 32) (IntKind.bits .u64))) * (Int.fdiv p2 (2 ^ min (Int.toNat 32) (IntKind.bits .u64)))));
 (((0 : Int) ≤ (32 : Int)) ∧
 (let v9 : Int := (Int.fdiv (IntKind.wrap .u64 (v5 + v7)) (2 ^ min (Int.toNat 32) (IntKind.bits .u64)));
 (K (IntKind.wrap .u64 ((IntKind.wrap .u64 (v8 + v6)) + v9)) (IntKind.wrap .u64 (p1 * p2)))))))))))))))))
/-! math/bits.Mul -/
def M_math_bits_Mul (p1 : Int) (p2 : Int) (K : Int → Int → Prop) : Prop :=
 (M_math_bits_Mul64 p1 p2 fun (y1 : Int) (y2 : Int) =>
 (K y1 y2))
/-! slices.Repeat[[]int,int] -/
def M_Repeat_int (p1 : List Int) (p2 : Int) (K : (List Int) → Prop) : Prop :=
 (((decide (p2 < 0)) = true →
 False) ∧
 ((decide (p2 < 0)) = false →
 (M_math_bits_Mul (IntKind.wrap .u64 (len p1)) (IntKind.wrap .u64 p2) fun (y1 : Int) (y2 : Int) =>
 (((decide (y1 > 0)) = true →
 False) ∧
 ((decide (y1 > 0)) = false →
 (((decide (y2 > 9223372036854775807)) = true →
 False) ∧
 ((decide (y2 > 9223372036854775807)) = false →
 ((0 ≤ (IntKind.wrap .i64 y2) ∧ (IntKind.wrap .i64 y2) = (IntKind.wrap .i64 y2) ∧ (IntKind.wrap .i64 y2) ≤ 2 ^ 36) ∧
 (let v3 : List Int := (List.replicate (Int.toNat (IntKind.wrap .i64 y2)) (0 : Int));
 (((0 : Nat) < List.length p1 ∧ (0 : Int) < ((List.length v3 : Nat) : Int)) ∧
 (let v4 : Int := ((Nat.min (List.length p1) (Int.toNat (((List.length v3 : Nat) : Int) - (0 : Int))) : Nat) : Int);
 (let v5 : List Int := (setC v3 (Int.toNat (0 : Int)) (List.take (Int.toNat (((List.length v3 : Nat) : Int) - (0 : Int))) p1));
 (LoopP (S := Int × List Int) (fun s6 Kb6 Kx6 =>
 (((decide (s6.1 < (len s6.2))) = true →
 (((0 : Nat) < List.length s6.2 ∧ (0 : Int) ≤ s6.1 ∧ s6.1 ≤ ((List.length s6.2 : Nat) : Int) ∧ ((List.length s6.2 : Nat) : Int) ≤ ((List.length s6.2 : Nat) : Int)) ∧
 (((0 : Nat) < List.length s6.2 ∧ (0 : Int) ≤ (0 : Int) ∧ (0 : Int) ≤ s6.1 ∧ s6.1 ≤ ((List.length s6.2 : Nat) : Int)) ∧
 (((0 : Nat) < List.length (sub s6.2 (0 : Int) s6.1) ∧ s6.1 < ((List.length s6.2 : Nat) : Int)) ∧
 (let v7 : Int := ((Nat.min (List.length (sub s6.2 (0 : Int) s6.1)) (Int.toNat (((List.length s6.2 : Nat) : Int) - s6.1)) : Nat) : Int);
 (let v8 : List Int := (setC s6.2 (Int.toNat s6.1) (List.take (Int.toNat (((List.length s6.2 : Nat) : Int) - s6.1)) (sub s6.2 (0 : Int) s6.1)));
 (Kb6 ((iadd s6.1 v7), v8)))))))) ∧
 ((decide (s6.1 < (len s6.2))) = false →
 (Kx6 (s6.1, s6.2)))))
 (v4, v5) fun s6 =>
 (K s6.2))))))))))))))
/-! impl.NewHeap -/
def Mi_NewHeap (p1 : Int) (p2 : Int) (K : Bool → (List Int) → (List Int) → (List Int) → Prop) : Prop :=
 (((decide (p1 < 1)) = true →
 (K false [] [] [])) ∧
 ((decide (p1 < 1)) = false →
 (((decide (p1 > 8)) = true →
 (K false [] [] [])) ∧
 ((decide (p1 > 8)) = false →
 (((decide (p2 < 1)) = true →
 (K false [] [] [])) ∧
 ((decide (p2 < 1)) = false →
 (((decide (p2 > 3)) = true →
 (K false [] [] [])) ∧
 ((decide (p2 > 3)) = false →
 (M_Repeat_int [(-1)] p1 fun (y1 : List Int) =>
 (M_Repeat_int [(-1)] p1 fun (y2 : List Int) =>
 (M_Repeat_int [(-1)] p2 fun (y3 : List Int) =>
 (K true y1 y2 y3))))))))))))
/-! impl.MoveCells$1 -/
def Mi_MoveCells_1 (p1 : Int) (p2 : List Int) (K : Int → Prop) : Prop :=
 (((p1 == (-1)) = true →
 (K (-1))) ∧
 ((p1 == (-1)) = false →
 ((inB p1 (List.length p2)) ∧
 (K (gI p2 p1)))))
/-! impl.MoveCells -/
def Mi_MoveCells (p1 : List Int) (p2 : List Int) (p3 : List Int) (p4 : List Int) (K : Bool → (List Int) → (List Int) → (List Int) → Prop) : Prop :=
 (Mi_HeapValid p1 p2 p3 fun (y1 : Bool) =>
 (((!y1) = true →
 (K false [] [] [])) ∧
 ((!y1) = false →
 ((((len p4) != (len p1)) = true →
 (K false [] [] [])) ∧
 (((len p4) != (len p1)) = false →
 (LoopP (S := List Int × Int × Int × List Int × List Int × List Int × List Int × List Int × List Int × List Int) (fun s2 Kb2 Kx2 =>
 (((decide (s2.2.2.1 < s2.2.1)) = true →
 ((inB s2.2.2.1 (List.length s2.1)) ∧
 (Mi_has s2.2.2.2.1 s2.2.2.2.2.1 s2.2.2.2.2.2.1 (gI s2.1 s2.2.2.1) fun (y3 : Bool) =>
 (((!y3) = true →
 (K false [] [] [])) ∧
 ((!y3) = false →
 (((0 : Int) ≤ (0 : Int) ∧ (0 : Int) ≤ s2.2.2.1 ∧ s2.2.2.1 ≤ len s2.2.2.2.2.2.2.1) ∧
 (M_Contains_int (sub s2.2.2.2.2.2.2.1 (0 : Int) s2.2.2.1) (gI s2.1 s2.2.2.1) fun (y4 : Bool) =>
 ((y4 = true →
 (K false [] [] [])) ∧
 (y4 = false →
 (Kb2 (s2.1, s2.2.1, (iadd s2.2.2.1 1), s2.2.2.2.1, s2.2.2.2.2.1, s2.2.2.2.2.2.1, s2.2.2.2.2.2.2.1, s2.2.2.2.2.2.2.2.1, s2.2.2.2.2.2.2.2.2.1, s2.2.2.2.2.2.2.2.2.2))))))))))) ∧
 ((decide (s2.2.2.1 < s2.2.1)) = false →
 (Kx2 (s2.1, s2.2.1, s2.2.2.1, s2.2.2.2.1, s2.2.2.2.2.1, s2.2.2.2.2.2.1, s2.2.2.2.2.2.2.1, s2.2.2.2.2.2.2.2.1, s2.2.2.2.2.2.2.2.2.1, s2.2.2.2.2.2.2.2.2.2)))))
 (p4, (len p4), 0, p1, p2, p3, p4, [], [], []) fun s2 =>
 (Mi_NewHeap (len s2.2.2.2.1) (len s2.2.2.2.2.2.1) fun (y5 : Bool) (y6 : List Int) (y7 : List Int) (y8 : List Int) =>
 (LoopP (S := List Int × Int × Int × List Int × List Int × List Int × List Int × List Int × List Int × List Int × List Int × List Int × List Int) (fun s9 Kb9 Kx9 =>
 (((decide (s9.2.2.1 < s9.2.1)) = true →
 ((inB s9.2.2.1 (List.length s9.1)) ∧
 ((inB s9.2.2.1 (List.length s9.2.2.2.1)) ∧
 (Mi_MoveCells_1 (gI s9.2.2.2.1 s9.2.2.1) s9.2.2.2.2.2.2.1 fun (y10 : Int) =>
 ((inB s9.2.2.1 (List.length s9.2.2.2.2.1)) ∧
 (Mi_MoveCells_1 (gI s9.2.2.2.2.1 s9.2.2.1) s9.2.2.2.2.2.2.1 fun (y11 : Int) =>
 ((inB (gI s9.1 s9.2.2.1) (List.length s9.2.2.2.2.2.2.2.2.2.2.1)) ∧
 ((inB (gI s9.1 s9.2.2.1) (List.length s9.2.2.2.2.2.2.2.2.2.2.2.1)) ∧
 (Kb9 (s9.1, s9.2.1, (iadd s9.2.2.1 1), s9.2.2.2.1, s9.2.2.2.2.1, s9.2.2.2.2.2.1, s9.2.2.2.2.2.2.1, s9.2.2.2.2.2.2.2.1, s9.2.2.2.2.2.2.2.2.1, s9.2.2.2.2.2.2.2.2.2.1, (uL s9.2.2.2.2.2.2.2.2.2.2.1 (gI s9.1 s9.2.2.1) y10), (uL s9.2.2.2.2.2.2.2.2.2.2.2.1 (gI s9.1 s9.2.2.1) y11), s9.2.2.2.2.2.2.2.2.2.2.2.2)))))))))) ∧
 ((decide (s9.2.2.1 < s9.2.1)) = false →
 (Kx9 (s9.1, s9.2.1, s9.2.2.1, s9.2.2.2.1, s9.2.2.2.2.1, s9.2.2.2.2.2.1, s9.2.2.2.2.2.2.1, s9.2.2.2.2.2.2.2.1, s9.2.2.2.2.2.2.2.2.1, s9.2.2.2.2.2.2.2.2.2.1, s9.2.2.2.2.2.2.2.2.2.2.1, s9.2.2.2.2.2.2.2.2.2.2.2.1, s9.2.2.2.2.2.2.2.2.2.2.2.2)))))
 (s2.2.2.2.2.2.2.1, (len s2.2.2.2.2.2.2.1), 0, s2.2.2.2.1, s2.2.2.2.2.1, s2.2.2.2.2.2.1, s2.2.2.2.2.2.2.1, s2.2.2.2.2.2.2.2.1, s2.2.2.2.2.2.2.2.2.1, s2.2.2.2.2.2.2.2.2.2, y6, y7, y8) fun s9 =>
 (LoopP (S := List Int × Int × Int × List Int × List Int × List Int × List Int × List Int × List Int × List Int) (fun s12 Kb12 Kx12 =>
 (((decide (s12.2.2.1 < s12.2.1)) = true →
 ((inB s12.2.2.1 (List.length s12.1)) ∧
 (Mi_MoveCells_1 (gI s12.1 s12.2.2.1) s12.2.2.2.1 fun (y13 : Int) =>
 ((inB s12.2.2.1 (List.length s12.2.2.2.2.2.2.2.2.2)) ∧
 (Kb12 (s12.1, s12.2.1, (iadd s12.2.2.1 1), s12.2.2.2.1, s12.2.2.2.2.1, s12.2.2.2.2.2.1, s12.2.2.2.2.2.2.1, s12.2.2.2.2.2.2.2.1, s12.2.2.2.2.2.2.2.2.1, (uL s12.2.2.2.2.2.2.2.2.2 s12.2.2.1 y13))))))) ∧
 ((decide (s12.2.2.1 < s12.2.1)) = false →
 (Kx12 (s12.1, s12.2.1, s12.2.2.1, s12.2.2.2.1, s12.2.2.2.2.1, s12.2.2.2.2.2.1, s12.2.2.2.2.2.2.1, s12.2.2.2.2.2.2.2.1, s12.2.2.2.2.2.2.2.2.1, s12.2.2.2.2.2.2.2.2.2)))))
 (s9.2.2.2.2.2.1, (len s9.2.2.2.2.2.1), 0, s9.2.2.2.2.2.2.1, s9.2.2.2.2.2.2.2.1, s9.2.2.2.2.2.2.2.2.1, s9.2.2.2.2.2.2.2.2.2.1, s9.2.2.2.2.2.2.2.2.2.2.1, s9.2.2.2.2.2.2.2.2.2.2.2.1, s9.2.2.2.2.2.2.2.2.2.2.2.2) fun s12 =>
 (K true s12.2.2.2.2.2.2.2.1 s12.2.2.2.2.2.2.2.2.1 s12.2.2.2.2.2.2.2.2.2))))))))))
/-! laws.eqIntS -/
def Ml_eqIntS (p1 : List Int) (p2 : List Int) (K : Bool → Prop) : Prop :=
 ((((len p1) != (len p2)) = true →
 (K false)) ∧
 (((len p1) != (len p2)) = false →
 (LoopP (S := List Int × List Int × Int) (fun s1 Kb1 Kx1 =>
 (((decide (s1.2.2 < (len s1.1))) = true →
 ((inB s1.2.2 (List.length s1.1)) ∧
 ((inB s1.2.2 (List.length s1.2.1)) ∧
 ((((gI s1.1 s1.2.2) != (gI s1.2.1 s1.2.2)) = true →
 (K false)) ∧
 (((gI s1.1 s1.2.2) != (gI s1.2.1 s1.2.2)) = false →
 (Kb1 (s1.1, s1.2.1, (iadd s1.2.2 1)))))))) ∧
 ((decide (s1.2.2 < (len s1.1))) = false →
 (Kx1 (s1.1, s1.2.1, s1.2.2)))))
 (p1, p2, 0) fun s1 =>
 (K true))))
/-! laws.eqHeap -/
def Ml_eqHeap (p1 : List Int) (p2 : List Int) (p3 : List Int) (p4 : List Int) (p5 : List Int) (p6 : List Int) (K : Bool → Prop) : Prop :=
 (Ml_eqIntS p1 p4 fun (y1 : Bool) =>
 (((!y1) = true →
 (K false)) ∧
 ((!y1) = false →
 (Ml_eqIntS p2 p5 fun (y2 : Bool) =>
 (((!y2) = true →
 (K false)) ∧
 ((!y2) = false →
 (Ml_eqIntS p3 p6 fun (y3 : Bool) =>
 (((!y3) = true →
 (K false)) ∧
 ((!y3) = false →
 (K true))))))))))
/-! laws.markIntS -/
def Ml_markIntS (p1 : Int) (p2 : List Int) (K : Int → (List Int) → Prop) : Prop :=
 (LoopP (S := Int × Int × List Int) (fun s1 Kb1 Kx1 =>
 (((decide (s1.2.1 < (len s1.2.2))) = true →
 ((inB s1.2.1 (List.length s1.2.2)) ∧
 (Kb1 ((iadd s1.1 1), (iadd s1.2.1 1), (uL s1.2.2 s1.2.1 s1.1))))) ∧
 ((decide (s1.2.1 < (len s1.2.2))) = false →
 (Kx1 (s1.1, s1.2.1, s1.2.2)))))
 (p1, 0, p2) fun s1 =>
 (K s1.1 s1.2.2))
/-! laws.markHeap -/
def Ml_markHeap (p1 : Int) (p2 : List Int) (p3 : List Int) (p4 : List Int) (K : Int → (List Int) → (List Int) → (List Int) → Prop) : Prop :=
 (Ml_markIntS p1 p2 fun (y1 : Int) (y2 : List Int) =>
 (Ml_markIntS y1 p3 fun (y3 : Int) (y4 : List Int) =>
 (Ml_markIntS y3 p4 fun (y5 : Int) (y6 : List Int) =>
 (K y5 y2 y4 y6))))
/-! laws.heldIntS -/
def Ml_heldIntS (p1 : List Int) (p2 : Int) (K : Int → Prop) : Prop :=
 (LoopP (S := List Int × Int × Int) (fun s1 Kb1 Kx1 =>
 (((decide (s1.2.2 < (len s1.1))) = true →
 ((inB s1.2.2 (List.length s1.1)) ∧
 ((((gI s1.1 s1.2.2) != s1.2.1) = true →
 (K (-1))) ∧
 (((gI s1.1 s1.2.2) != s1.2.1) = false →
 (Kb1 (s1.1, (iadd s1.2.1 1), (iadd s1.2.2 1))))))) ∧
 ((decide (s1.2.2 < (len s1.1))) = false →
 (Kx1 (s1.1, s1.2.1, s1.2.2)))))
 (p1, p2, 0) fun s1 =>
 (K s1.2.1))
/-! laws.heldHeap -/
def Ml_heldHeap (p1 : List Int) (p2 : List Int) (p3 : List Int) (p4 : Int) (K : Int → Prop) : Prop :=
 (Ml_heldIntS p1 p4 fun (y1 : Int) =>
 (((decide (y1 < 0)) = true →
 (K (-1))) ∧
 ((decide (y1 < 0)) = false →
 (Ml_heldIntS p2 y1 fun (y2 : Int) =>
 (((decide (y2 < 0)) = true →
 (K (-1))) ∧
 ((decide (y2 < 0)) = false →
 (Ml_heldIntS p3 y2 fun (y3 : Int) =>
 (((decide (y3 < 0)) = true →
 (K (-1))) ∧
 ((decide (y3 < 0)) = false →
 (K y3))))))))))
/-! laws.FnExactMoveCells -/
def Ml_FnExactMoveCells (p1 : List Int) (p2 : List Int) (p3 : List Int) (p4 : List Int) (K : Bool → Prop) : Prop :=
 (((decide ((len p4) > 1048576)) = true →
 (K true)) ∧
 ((decide ((len p4) > 1048576)) = false →
 (Ml_szHeap p1 p2 p3 1048576 fun (y1 : Int) =>
 (((decide (y1 < 0)) = true →
 (K true)) ∧
 ((decide (y1 < 0)) = false →
 (Ml_toHeap p1 p2 p3 fun (y2 : List Int) (y3 : List Int) (y4 : List Int) =>
 (Ml_toIntS p4 fun (y5 : List Int) =>
 (Ms_MoveCells y2 y3 y4 y5 fun (y6 : Bool) (y7 : List Int) (y8 : List Int) (y9 : List Int) =>
 (Ml_toHeap p1 p2 p3 fun (y10 : List Int) (y11 : List Int) (y12 : List Int) =>
 (Ml_toIntS p4 fun (y13 : List Int) =>
 (Mi_MoveCells y10 y11 y12 y13 fun (y14 : Bool) (y15 : List Int) (y16 : List Int) (y17 : List Int) =>
 (Ml_eqHeap y15 y16 y17 y7 y8 y9 fun (y18 : Bool) =>
 (((!y18) = true →
 (K false)) ∧
 ((!y18) = false →
 (((!(y14 == y6)) = true →
 (K false)) ∧
 ((!(y14 == y6)) = false →
 (Ml_toHeap p1 p2 p3 fun (y19 : List Int) (y20 : List Int) (y21 : List Int) =>
 (Ml_eqHeap y10 y11 y12 y19 y20 y21 fun (y22 : Bool) =>
 (((!y22) = true →
 (K false)) ∧
 ((!y22) = false →
 (Ml_toIntS p4 fun (y23 : List Int) =>
 (Ml_eqIntS y13 y23 fun (y24 : Bool) =>
 (((!y24) = true →
 (K false)) ∧
 ((!y24) = false →
 (Ml_markHeap 1 y10 y11 y12 fun (y25 : Int) (y26 : List Int) (y27 : List Int) (y28 : List Int) =>
 (Ml_markIntS y25 y13 fun (y29 : Int) (y30 : List Int) =>
 (((decide (y29 < 0)) = true →
 (K false)) ∧
 ((decide (y29 < 0)) = false →
 (Ml_eqHeap y15 y16 y17 y7 y8 y9 fun (y31 : Bool) =>
 (((!y31) = true →
 (K false)) ∧
 ((!y31) = false →
 (((!(y14 == y6)) = true →
 (K false)) ∧
 ((!(y14 == y6)) = false →
 (Ml_markHeap 1 y15 y16 y17 fun (y32 : Int) (y33 : List Int) (y34 : List Int) (y35 : List Int) =>
 (Ml_heldHeap y33 y34 y35 1 fun (y36 : Int) =>
 (((decide (y36 < 0)) = true →
 (K false)) ∧
 ((decide (y36 < 0)) = false →
 (((y36 != y32) = true →
 (K false)) ∧
 ((y36 != y32) = false →
 (Ml_toHeap p1 p2 p3 fun (y37 : List Int) (y38 : List Int) (y39 : List Int) =>
 (Ml_toIntS p4 fun (y40 : List Int) =>
 (Mi_MoveCells y37 y38 y39 y40 fun (y41 : Bool) (y42 : List Int) (y43 : List Int) (y44 : List Int) =>
 (Ml_eqHeap y42 y43 y44 y7 y8 y9 fun (y45 : Bool) =>
 (((!y45) = true →
 (K false)) ∧
 ((!y45) = false →
 (((!(y41 == y6)) = true →
 (K false)) ∧
 ((!(y41 == y6)) = false →
 (Ml_heldHeap y33 y34 y35 1 fun (y46 : Int) =>
 (((decide (y46 < 0)) = true →
 (K false)) ∧
 ((decide (y46 < 0)) = false →
 (((y46 != y32) = true →
 (K false)) ∧
 ((y46 != y32) = false →
 (K true)))))))))))))))))))))))))))))))))))))))))))))))))))))
/-! spec.l13Open -/
def Ms_l13Open (p1 : List Int) (K : (List Int) → Int → Prop) : Prop :=
 (((decide ((len p1) > 2000)) = true →
 (((0 : Int) ≤ (0 : Int) ∧ (0 : Int) ≤ (2000 : Int) ∧ (2000 : Int) ≤ len p1) ∧
 (K (sub p1 (0 : Int) (2000 : Int)) 0))) ∧
 ((decide ((len p1) > 2000)) = false →
 (K p1 0)))
/-! (*spec.l13Rd).pick -/
def Ms_l13Rd_pick (p1 : Int) (p2 : List Int) (p3 : Int) (K : Int → Int → Prop) : Prop :=
 (((decide (p1 < 1)) = true →
 (K 0 (iadd p3 1))) ∧
 ((decide (p1 < 1)) = false →
 ((((len p2) == 0) = true →
 (K 0 (iadd p3 1))) ∧
 (((len p2) == 0) = false →
 (((decide ((isub (iadd p3 1) 1) < (len p2))) = true →
 ((inB (isub (iadd p3 1) 1) (List.length p2)) ∧
 ((p1 ≠ 0) ∧
 (let v1 : Int := (Int.tmod (IntKind.wrap .i64 (gY p2 (isub (iadd p3 1) 1))) p1);
 (K v1 (iadd p3 1)))))) ∧
 ((decide ((isub (iadd p3 1) 1) < (len p2))) = false →
 (((len p2) ≠ 0) ∧
 ((inB (Int.tmod (isub (iadd p3 1) 1) (len p2)) (List.length p2)) ∧
 (let v2 : Int := (IntKind.wrap .i64 (gY p2 (Int.tmod (isub (iadd p3 1) 1) (len p2))));
 (((len p2) ≠ 0) ∧
 ((inB (Int.tmod (iadd (imul (isub (iadd p3 1) 1) 7) 3) (len p2)) (List.length p2)) ∧
 (let v3 : Int := (gY p2 (Int.tmod (iadd (imul (isub (iadd p3 1) 1) 7) 3) (len p2)));
 (let v4 : Int := (iadd (iadd (imul v2 131) (imul (IntKind.wrap .i64 v3) 1117)) (imul (isub (iadd p3 1) 1) 29));
 (((len p2) ≠ 0) ∧
 (((64 : Int) ≠ 0) ∧
 (let v5 : Int := (iquo (iadd v4 (imul (iquo (isub (iadd p3 1) 1) (len p2)) 53)) 64);
 (let v6 : Int := (IntKind.wrap .i64 (((BitVec.ofInt (IntKind.bits .i64) (iadd v4 (imul (iquo (isub (iadd p3 1) 1) (len p2)) 53)) ^^^ BitVec.ofInt (IntKind.bits .i64) v5).toNat : Int)));
 ((p1 ≠ 0) ∧
 (K (Int.tmod v6 p1) (iadd p3 1))))))))))))))))))))
/-! (*spec.l13Rd).num -/
def Ms_l13Rd_num (p1 : List Int) (p2 : List Int) (p3 : Int) (K : Int → Int → Prop) : Prop :=
 (Ms_l13Rd_pick (len p1) p2 p3 fun (y1 : Int) (y2 : Int) =>
 ((inB y1 (List.length p1)) ∧
 (K (gI p1 y1) y2)))
/-! spec.l1Many -/
def Ms_l1Many (p1 : Int) (K : (List Int) → Prop) : Prop :=
 (LoopP (S := Int × Int × List Int) (fun s1 Kb1 Kx1 =>
 (((decide (s1.2.1 < s1.1)) = true →
 ((List.length s1.2.2 + List.length ([(-1)] : List Int) ≤ 2 ^ 36) ∧
 (Kb1 (s1.1, (iadd s1.2.1 1), (s1.2.2 ++ [(-1)]))))) ∧
 ((decide (s1.2.1 < s1.1)) = false →
 (Kx1 (s1.1, s1.2.1, s1.2.2)))))
 (p1, 0, []) fun s1 =>
 (K s1.2.2))
/-! spec.NewHeap -/
def Ms_NewHeap (p1 : Int) (p2 : Int) (K : Bool → (List Int) → (List Int) → (List Int) → Prop) : Prop :=
 (((decide (p1 < 1)) = true →
 (K false [] [] [])) ∧
 ((decide (p1 < 1)) = false →
 (((decide (p1 > 8)) = true →
 (K false [] [] [])) ∧
 ((decide (p1 > 8)) = false →
 (((decide (p2 < 1)) = true →
 (K false [] [] [])) ∧
 ((decide (p2 < 1)) = false →
 (((decide (p2 > 3)) = true →
 (K false [] [] [])) ∧
 ((decide (p2 > 3)) = false →
 (Ms_l1Many p1 fun (y1 : List Int) =>
 (Ms_l1Many p1 fun (y2 : List Int) =>
 (Ms_l1Many p2 fun (y3 : List Int) =>
 (K true y1 y2 y3))))))))))))
/-! spec.l1Draw -/
def Ms_l1Draw (p1 : List Int) (p2 : Int) (K : (List Int) → Int → (List Int) → (List Int) → (List Int) → Prop) : Prop :=
 (Ms_l13Rd_num [4, 3, 5, 6, 2, 8, 1] p1 p2 fun (y1 : Int) (y2 : Int) =>
 (Ms_l13Rd_num [2, 1, 3] p1 y2 fun (y3 : Int) (y4 : Int) =>
 (Ms_NewHeap y1 y3 fun (y5 : Bool) (y6 : List Int) (y7 : List Int) (y8 : List Int) =>
 (LoopP (S := Int × Int × List Int × Int × List Int × List Int × List Int × List Int × List Int × List Int) (fun s9 Kb9 Kx9 =>
 (((decide (s9.2.1 < s9.1)) = true →
 (let j26 := fun (z23 : Int) (z24 : List Int) (z25 : List Int) =>
 (Kb9 (s9.1, (iadd s9.2.1 1), s9.2.2.1, z23, s9.2.2.2.2.1, s9.2.2.2.2.2.1, s9.2.2.2.2.2.2.1, z24, z25, s9.2.2.2.2.2.2.2.2.2));
 (Ms_l13Rd_pick (iadd s9.1 2) s9.2.2.1 s9.2.2.2.1 fun (y10 : Int) (y11 : Int) =>
 ((inB s9.2.1 (List.length s9.2.2.2.2.2.2.2.1)) ∧
 (Ms_l13Rd_pick (iadd s9.1 2) s9.2.2.1 y11 fun (y12 : Int) (y13 : Int) =>
 ((inB s9.2.1 (List.length s9.2.2.2.2.2.2.2.2.1)) ∧
 (let j19 := fun (z16 : List Int) =>
 ((inB s9.2.1 (List.length (uL s9.2.2.2.2.2.2.2.2.1 s9.2.1 (isub y12 2)))) ∧
 (let v17 : Bool := (decide ((gI (uL s9.2.2.2.2.2.2.2.2.1 s9.2.1 (isub y12 2)) s9.2.1) < (-1)));
 ((v17 = true →
 ((inB s9.2.1 (List.length (uL s9.2.2.2.2.2.2.2.2.1 s9.2.1 (isub y12 2)))) ∧
 (let v18 : List Int := (uL (uL s9.2.2.2.2.2.2.2.2.1 s9.2.1 (isub y12 2)) s9.2.1 (-1));
 (j26 y13 z16 v18)))) ∧
 (v17 = false →
 (j26 y13 z16 (uL s9.2.2.2.2.2.2.2.2.1 s9.2.1 (isub y12 2)))))));
 ((inB s9.2.1 (List.length (uL s9.2.2.2.2.2.2.2.1 s9.2.1 (isub y10 1)))) ∧
 (let v14 : Bool := (decide ((gI (uL s9.2.2.2.2.2.2.2.1 s9.2.1 (isub y10 1)) s9.2.1) ≥ s9.1));
 ((v14 = true →
 ((inB s9.2.1 (List.length (uL s9.2.2.2.2.2.2.2.1 s9.2.1 (isub y10 1)))) ∧
 (j19 (uL (uL s9.2.2.2.2.2.2.2.1 s9.2.1 (isub y10 1)) s9.2.1 (-1))))) ∧
 (v14 = false →
 (j19 (uL s9.2.2.2.2.2.2.2.1 s9.2.1 (isub y10 1)))))))))))))) ∧
 ((decide (s9.2.1 < s9.1)) = false →
 (Kx9 (s9.1, s9.2.1, s9.2.2.1, s9.2.2.2.1, s9.2.2.2.2.1, s9.2.2.2.2.2.1, s9.2.2.2.2.2.2.1, s9.2.2.2.2.2.2.2.1, s9.2.2.2.2.2.2.2.2.1, s9.2.2.2.2.2.2.2.2.2)))))
 (y1, 0, p1, y4, [], [], [], y6, y7, y8) fun s9 =>
 (LoopP (S := Int × Int × List Int × Int × List Int × List Int × List Int × List Int × List Int × List Int) (fun s27 Kb27 Kx27 =>
 (((decide (s27.2.1 < (len s27.2.2.2.2.2.2.2.2.2))) = true →
 (Ms_l13Rd_pick (iadd s27.1 1) s27.2.2.1 s27.2.2.2.1 fun (y28 : Int) (y29 : Int) =>
 ((inB s27.2.1 (List.length s27.2.2.2.2.2.2.2.2.2)) ∧
 (Kb27 (s27.1, (iadd s27.2.1 1), s27.2.2.1, y29, s27.2.2.2.2.1, s27.2.2.2.2.2.1, s27.2.2.2.2.2.2.1, s27.2.2.2.2.2.2.2.1, s27.2.2.2.2.2.2.2.2.1, (uL s27.2.2.2.2.2.2.2.2.2 s27.2.1 (isub y28 1))))))) ∧
 ((decide (s27.2.1 < (len s27.2.2.2.2.2.2.2.2.2))) = false →
 (Kx27 (s27.1, s27.2.1, s27.2.2.1, s27.2.2.2.1, s27.2.2.2.2.1, s27.2.2.2.2.2.1, s27.2.2.2.2.2.2.1, s27.2.2.2.2.2.2.2.1, s27.2.2.2.2.2.2.2.2.1, s27.2.2.2.2.2.2.2.2.2)))))
 (s9.1, 0, s9.2.2.1, s9.2.2.2.1, s9.2.2.2.2.1, s9.2.2.2.2.2.1, s9.2.2.2.2.2.2.1, s9.2.2.2.2.2.2.2.1, s9.2.2.2.2.2.2.2.2.1, s9.2.2.2.2.2.2.2.2.2) fun s27 =>
 (K s27.2.2.1 s27.2.2.2.1 s27.2.2.2.2.2.2.2.1 s27.2.2.2.2.2.2.2.2.1 s27.2.2.2.2.2.2.2.2.2))))))
/-! spec.l10Mix -/
def Ms_l10Mix (p1 : Int) (p2 : List Int) (p3 : Int) (K : (List Int) → Int → (List Int) → Prop) : Prop :=
 (LoopP (S := Int × Int × List Int × Int × List Int) (fun s1 Kb1 Kx1 =>
 (((decide (s1.2.1 < s1.1)) = true →
 (Ms_l13Rd_pick (iadd s1.2.1 1) s1.2.2.1 s1.2.2.2.1 fun (y2 : Int) (y3 : Int) =>
 ((List.length s1.2.2.2.2 + List.length ([s1.2.1] : List Int) ≤ 2 ^ 36) ∧
 ((inB y2 (List.length (s1.2.2.2.2 ++ [s1.2.1]))) ∧
 ((inB s1.2.1 (List.length (s1.2.2.2.2 ++ [s1.2.1]))) ∧
 ((inB y2 (List.length (s1.2.2.2.2 ++ [s1.2.1]))) ∧
 (let v4 : List Int := (uL (s1.2.2.2.2 ++ [s1.2.1]) y2 (gI (s1.2.2.2.2 ++ [s1.2.1]) s1.2.1));
 ((inB s1.2.1 (List.length v4)) ∧
 (Kb1 (s1.1, (iadd s1.2.1 1), s1.2.2.1, y3, (uL v4 s1.2.1 (gI (s1.2.2.2.2 ++ [s1.2.1]) y2)))))))))))) ∧
 ((decide (s1.2.1 < s1.1)) = false →
 (Kx1 (s1.1, s1.2.1, s1.2.2.1, s1.2.2.2.1, s1.2.2.2.2)))))
 (p1, 0, p2, p3, []) fun s1 =>
 (K s1.2.2.1 s1.2.2.2.1 s1.2.2.2.2))
/-! spec.DrawMoveCells -/
def Ms_DrawMoveCells (p1 : List Int) (K : (List Int) → (List Int) → (List Int) → (List Int) → Prop) : Prop :=
 (Ms_l13Open p1 fun (y1 : List Int) (y2 : Int) =>
 (Ms_l1Draw y1 y2 fun (y3 : List Int) (y4 : Int) (y5 : List Int) (y6 : List Int) (y7 : List Int) =>
 (Ms_l10Mix (len y5) y3 y4 fun (y8 : List Int) (y9 : Int) (y10 : List Int) =>
 (Ms_l13Rd_pick 10 y8 y9 fun (y11 : Int) (y12 : Int) =>
 (((y11 == 0) = true →
 (Ms_l13Rd_pick (len y10) y8 y12 fun (y13 : Int) (y14 : Int) =>
 (Ms_l13Rd_num [0, 8, (-1)] y8 y14 fun (y15 : Int) (y16 : Int) =>
 ((inB y13 (List.length y10)) ∧
 (K y5 y6 y7 (uL y10 y13 y15)))))) ∧
 ((y11 == 0) = false →
 (K y5 y6 y7 y10)))))))
/-! slices.Equal[[]int,int] -/
def M_Equal_int (p1 : List Int) (p2 : List Int) (K : Bool → Prop) : Prop :=
 ((((len p1) != (len p2)) = true →
 (K false)) ∧
 (((len p1) != (len p2)) = false →
 (LoopP (S := List Int × List Int × Int × Int) (fun s1 Kb1 Kx1 =>
 (((decide (s1.2.2.2 < s1.2.2.1)) = true →
 ((inB s1.2.2.2 (List.length s1.1)) ∧
 ((inB s1.2.2.2 (List.length s1.2.1)) ∧
 ((((gI s1.1 s1.2.2.2) != (gI s1.2.1 s1.2.2.2)) = true →
 (K false)) ∧
 (((gI s1.1 s1.2.2.2) != (gI s1.2.1 s1.2.2.2)) = false →
 (Kb1 (s1.1, s1.2.1, s1.2.2.1, (iadd s1.2.2.2 1)))))))) ∧
 ((decide (s1.2.2.2 < s1.2.2.1)) = false →
 (Kx1 (s1.1, s1.2.1, s1.2.2.1, s1.2.2.2)))))
 (p1, p2, (len p1), 0) fun s1 =>
 (K true))))
/-! impl.HeapSame -/
def Mi_HeapSame (p1 : List Int) (p2 : List Int) (p3 : List Int) (p4 : List Int) (p5 : List Int) (p6 : List Int) (K : Bool → Prop) : Prop :=
 (M_Equal_int p1 p4 fun (y1 : Bool) =>
 ((y1 = true →
 (M_Equal_int p2 p5 fun (y2 : Bool) =>
 ((y2 = true →
 (M_Equal_int p3 p6 fun (y3 : Bool) =>
 (K y3))) ∧
 (y2 = false →
 (K false))))) ∧
 (y1 = false →
 (K false))))
/-! impl.met -/
def Mi_met (p1 : List Int) (p2 : List Int) (K : (List Int) → Prop) : Prop :=
 (LoopP (S := List Int × Int × Int × List Int) (fun s1 Kb1 Kx1 =>
 (((decide (s1.2.2.1 < s1.2.1)) = true →
 ((inB s1.2.2.1 (List.length s1.1)) ∧
 ((((gI s1.1 s1.2.2.1) != (-1)) = true →
 (M_Contains_int s1.2.2.2 (gI s1.1 s1.2.2.1) fun (y2 : Bool) =>
 (((!y2) = true →
 ((List.length s1.2.2.2 + List.length ([(gI s1.1 s1.2.2.1)] : List Int) ≤ 2 ^ 36) ∧
 (Kb1 (s1.1, s1.2.1, (iadd s1.2.2.1 1), (s1.2.2.2 ++ [(gI s1.1 s1.2.2.1)]))))) ∧
 ((!y2) = false →
 (Kb1 (s1.1, s1.2.1, (iadd s1.2.2.1 1), s1.2.2.2)))))) ∧
 (((gI s1.1 s1.2.2.1) != (-1)) = false →
 (Kb1 (s1.1, s1.2.1, (iadd s1.2.2.1 1), s1.2.2.2)))))) ∧
 ((decide (s1.2.2.1 < s1.2.1)) = false →
 (Kx1 (s1.1, s1.2.1, s1.2.2.1, s1.2.2.2)))))
 (p1, (len p1), 0, p2) fun s1 =>
 (K s1.2.2.2))
/-! slices.Clip[[]int,int] -/
def M_Clip_int (p1 : List Int) (K : (List Int) → Prop) : Prop :=
 (((0 : Int) ≤ (0 : Int) ∧ (0 : Int) ≤ (len p1) ∧ (len p1) ≤ (len p1) ∧ (len p1) ≤ len p1) ∧
 (K (sub p1 (0 : Int) (len p1))))
/-! impl.OrderOf -/
def Mi_OrderOf (p1 : List Int) (p2 : List Int) (p3 : List Int) (K : (List Int) → Prop) : Prop :=
 (Mi_HeapValid p1 p2 p3 fun (y1 : Bool) =>
 (((!y1) = true →
 (K [])) ∧
 ((!y1) = false →
 (Mi_met p3 [] fun (y2 : List Int) =>
 (LoopP (S := Int × List Int × List Int × List Int × List Int) (fun s3 Kb3 Kx3 =>
 (((decide (s3.1 < (len s3.2.2.2.2))) = true →
 ((inB s3.1 (List.length s3.2.2.2.2)) ∧
 ((inB (gI s3.2.2.2.2 s3.1) (List.length s3.2.1)) ∧
 ((inB s3.1 (List.length s3.2.2.2.2)) ∧
 ((inB (gI s3.2.2.2.2 s3.1) (List.length s3.2.2.1)) ∧
 (Mi_met [(gI s3.2.1 (gI s3.2.2.2.2 s3.1)), (gI s3.2.2.1 (gI s3.2.2.2.2 s3.1))] s3.2.2.2.2 fun (y4 : List Int) =>
 (Kb3 ((iadd s3.1 1), s3.2.1, s3.2.2.1, s3.2.2.2.1, y4)))))))) ∧
 ((decide (s3.1 < (len s3.2.2.2.2))) = false →
 (Kx3 (s3.1, s3.2.1, s3.2.2.1, s3.2.2.2.1, s3.2.2.2.2)))))
 (0, p1, p2, p3, y2) fun s3 =>
 (M_Clip_int s3.2.2.2.2 fun (y5 : List Int) =>
 (K y5)))))))
/-! laws.FnMoveOrder -/
def Ml_FnMoveOrder (p1 : List Int) (K : Bool → Prop) : Prop :=
 (((decide ((len p1) > 1048576)) = true →
 (K true)) ∧
 ((decide ((len p1) > 1048576)) = false →
 (Ms_DrawMoveCells p1 fun (y1 : List Int) (y2 : List Int) (y3 : List Int) (y4 : List Int) =>
 (Mi_MoveCells y1 y2 y3 y4 fun (y5 : Bool) (y6 : List Int) (y7 : List Int) (y8 : List Int) =>
 (Ms_MoveCells y1 y2 y3 y4 fun (y9 : Bool) (y10 : List Int) (y11 : List Int) (y12 : List Int) =>
 (Mi_HeapSame y6 y7 y8 y10 y11 y12 fun (y13 : Bool) =>
 (((!y13) = true →
 (Mi_HeapSame y6 y7 y8 y10 y11 y12 fun (y14 : Bool) =>
 ((y14 = true →
 (K (y5 == y9))) ∧
 (y14 = false →
 (K false))))) ∧
 ((!y13) = false →
 (((!(y5 == y9)) = true →
 (Mi_HeapSame y6 y7 y8 y10 y11 y12 fun (y15 : Bool) =>
 ((y15 = true →
 (K (y5 == y9))) ∧
 (y15 = false →
 (K false))))) ∧
 ((!(y5 == y9)) = false →
 (((!y5) = true →
 (Mi_HeapSame y6 y7 y8 y10 y11 y12 fun (y16 : Bool) =>
 ((y16 = true →
 (K (y5 == y9))) ∧
 (y16 = false →
 (K false))))) ∧
 ((!y5) = false →
 (Mi_OrderOf y1 y2 y3 fun (y17 : List Int) =>
 (Mi_OrderOf y6 y7 y8 fun (y18 : List Int) =>
 (LoopP (S := Int × List Int × List Int × List Int) (fun s19 Kb19 Kx19 =>
 (((decide (s19.1 < (len s19.2.2.1))) = true →
 ((inB s19.1 (List.length s19.2.2.2)) ∧
 ((inB s19.1 (List.length s19.2.2.1)) ∧
 ((inB (gI s19.2.2.1 s19.1) (List.length s19.2.1)) ∧
 ((((gI s19.2.2.2 s19.1) != (gI s19.2.1 (gI s19.2.2.1 s19.1))) = true →
 (K false)) ∧
 (((gI s19.2.2.2 s19.1) != (gI s19.2.1 (gI s19.2.2.1 s19.1))) = false →
 (Kb19 ((iadd s19.1 1), s19.2.1, s19.2.2.1, s19.2.2.2)))))))) ∧
 ((decide (s19.1 < (len s19.2.2.1))) = false →
 (Kx19 (s19.1, s19.2.1, s19.2.2.1, s19.2.2.2)))))
 (0, y4, y17, y18) fun s19 =>
 (K ((len s19.2.2.1) == (len s19.2.2.2))))))))))))))))))
/-! spec.l1Wrong -/
def Ms_l1Wrong (p1 : List Int) (p2 : Int) (p3 : List Int) (p4 : List Int) (p5 : List Int) (K : Int → (List Int) → (List Int) → (List Int) → Prop) : Prop :=
 (Ms_l1Copy p3 p4 p5 <|
 (Ms_l13Rd_pick 20 p1 p2 fun (y1 : Int) (y2 : Int) =>
 (((y1 == 0) = true →
 (Ms_l13Rd_pick (len p3) p1 y2 fun (y3 : Int) (y4 : Int) =>
 (Ms_l13Rd_num [(-2), 8, 0] p1 y4 fun (y5 : Int) (y6 : Int) =>
 ((inB y3 (List.length p3)) ∧
 (K y6 (uL p3 y3 y5) p4 p5))))) ∧
 ((y1 == 0) = false →
 (((y1 == 1) = true →
 ((List.length p4 + List.length ([(-1)] : List Int) ≤ 2 ^ 36) ∧
 (K y2 p3 (p4 ++ [(-1)]) p5))) ∧
 ((y1 == 1) = false →
 (((y1 == 2) = true →
 (Ms_l13Rd_num [0, (-1), 9] p1 y2 fun (y7 : Int) (y8 : Int) =>
 ((List.length p5 + List.length ([y7] : List Int) ≤ 2 ^ 36) ∧
 (K y8 p3 p4 (p5 ++ [y7]))))) ∧
 ((y1 == 2) = false →
 (((y1 == 3) = true →
 (K y2 p3 p4 [])) ∧
 ((y1 == 3) = false →
 (K y2 p3 p4 p5)))))))))))
/-! spec.DrawHeapValid -/
def Ms_DrawHeapValid (p1 : List Int) (K : (List Int) → (List Int) → (List Int) → Prop) : Prop :=
 (Ms_l13Open p1 fun (y1 : List Int) (y2 : Int) =>
 (Ms_l1Draw y1 y2 fun (y3 : List Int) (y4 : Int) (y5 : List Int) (y6 : List Int) (y7 : List Int) =>
 (Ms_l1Wrong y3 y4 y5 y6 y7 fun (y8 : Int) (y9 : List Int) (y10 : List Int) (y11 : List Int) =>
 (K y9 y10 y11))))
/-! spec.DrawCopyHeap -/
def Ms_DrawCopyHeap (p1 : List Int) (K : (List Int) → (List Int) → (List Int) → Prop) : Prop :=
 (Ms_DrawHeapValid p1 fun (y1 : List Int) (y2 : List Int) (y3 : List Int) =>
 (K y1 y2 y3))
/-! impl.CopyHeap$1 -/
def Mi_CopyHeap_1 (p1 : Int) (p2 : List Int) (K : Int → Prop) : Prop :=
 (M_Index_int p2 p1 fun (y1 : Int) =>
 (K y1))
/-! impl.CopyHeap -/
def Mi_CopyHeap (p1 : List Int) (p2 : List Int) (p3 : List Int) (K : Bool → (List Int) → (List Int) → (List Int) → (List Int) → Prop) : Prop :=
 (Mi_HeapValid p1 p2 p3 fun (y1 : Bool) =>
 (((!y1) = true →
 (K false [] [] [] [])) ∧
 ((!y1) = false →
 (Mi_NewHeap (len p1) (len p3) fun (y2 : Bool) (y3 : List Int) (y4 : List Int) (y5 : List Int) =>
 (Mi_OrderOf p1 p2 p3 fun (y6 : List Int) =>
 (LoopP (S := Int × Int × List Int × List Int × List Int × List Int × List Int × List Int × List Int × List Int × List Int × List Int) (fun s7 Kb7 Kx7 =>
 (((decide (s7.2.1 < s7.1)) = true →
 ((inB s7.2.1 (List.length s7.2.2.2.2.2.1)) ∧
 ((inB (gI s7.2.2.2.2.2.1 s7.2.1) (List.length s7.2.2.1)) ∧
 (Mi_CopyHeap_1 (gI s7.2.2.1 (gI s7.2.2.2.2.2.1 s7.2.1)) s7.2.2.2.2.2.1 fun (y8 : Int) =>
 ((inB (gI s7.2.2.2.2.2.1 s7.2.1) (List.length s7.2.2.2.1)) ∧
 (Mi_CopyHeap_1 (gI s7.2.2.2.1 (gI s7.2.2.2.2.2.1 s7.2.1)) s7.2.2.2.2.2.1 fun (y9 : Int) =>
 ((inB s7.2.1 (List.length s7.2.2.2.2.2.2.2.2.2.1)) ∧
 ((inB s7.2.1 (List.length s7.2.2.2.2.2.2.2.2.2.2.1)) ∧
 (Kb7 (s7.1, (iadd s7.2.1 1), s7.2.2.1, s7.2.2.2.1, s7.2.2.2.2.1, s7.2.2.2.2.2.1, s7.2.2.2.2.2.2.1, s7.2.2.2.2.2.2.2.1, s7.2.2.2.2.2.2.2.2.1, (uL s7.2.2.2.2.2.2.2.2.2.1 s7.2.1 y8), (uL s7.2.2.2.2.2.2.2.2.2.2.1 s7.2.1 y9), s7.2.2.2.2.2.2.2.2.2.2.2)))))))))) ∧
 ((decide (s7.2.1 < s7.1)) = false →
 (Kx7 (s7.1, s7.2.1, s7.2.2.1, s7.2.2.2.1, s7.2.2.2.2.1, s7.2.2.2.2.2.1, s7.2.2.2.2.2.2.1, s7.2.2.2.2.2.2.2.1, s7.2.2.2.2.2.2.2.2.1, s7.2.2.2.2.2.2.2.2.2.1, s7.2.2.2.2.2.2.2.2.2.2.1, s7.2.2.2.2.2.2.2.2.2.2.2)))))
 ((len y6), 0, p1, p2, p3, y6, [], [], [], y3, y4, y5) fun s7 =>
 (LoopP (S := List Int × Int × Int × List Int × List Int × List Int × List Int × List Int × List Int × List Int × List Int × List Int × List Int) (fun s10 Kb10 Kx10 =>
 (((decide (s10.2.2.1 < s10.2.1)) = true →
 ((inB s10.2.2.1 (List.length s10.1)) ∧
 (Mi_CopyHeap_1 (gI s10.1 s10.2.2.1) s10.2.2.2.2.2.2.2.2.2.2.2.2 fun (y11 : Int) =>
 ((inB s10.2.2.1 (List.length s10.2.2.2.2.2.2.2.2.2.2.2.1)) ∧
 (Kb10 (s10.1, s10.2.1, (iadd s10.2.2.1 1), s10.2.2.2.1, s10.2.2.2.2.1, s10.2.2.2.2.2.1, s10.2.2.2.2.2.2.1, s10.2.2.2.2.2.2.2.1, s10.2.2.2.2.2.2.2.2.1, s10.2.2.2.2.2.2.2.2.2.1, s10.2.2.2.2.2.2.2.2.2.2.1, (uL s10.2.2.2.2.2.2.2.2.2.2.2.1 s10.2.2.1 y11), s10.2.2.2.2.2.2.2.2.2.2.2.2)))))) ∧
 ((decide (s10.2.2.1 < s10.2.1)) = false →
 (Kx10 (s10.1, s10.2.1, s10.2.2.1, s10.2.2.2.1, s10.2.2.2.2.1, s10.2.2.2.2.2.1, s10.2.2.2.2.2.2.1, s10.2.2.2.2.2.2.2.1, s10.2.2.2.2.2.2.2.2.1, s10.2.2.2.2.2.2.2.2.2.1, s10.2.2.2.2.2.2.2.2.2.2.1, s10.2.2.2.2.2.2.2.2.2.2.2.1, s10.2.2.2.2.2.2.2.2.2.2.2.2)))))
 (s7.2.2.2.2.1, (len s7.2.2.2.2.1), 0, s7.2.2.1, s7.2.2.2.1, s7.2.2.2.2.1, s7.2.2.2.2.2.2.1, s7.2.2.2.2.2.2.2.1, s7.2.2.2.2.2.2.2.2.1, s7.2.2.2.2.2.2.2.2.2.1, s7.2.2.2.2.2.2.2.2.2.2.1, s7.2.2.2.2.2.2.2.2.2.2.2, s7.2.2.2.2.2.1) fun s10 =>
 (LoopP (S := Int × Int × List Int × List Int × List Int × List Int × List Int × List Int × List Int × List Int) (fun s12 Kb12 Kx12 =>
 (((decide (s12.2.1 < s12.1)) = true →
 (Mi_CopyHeap_1 s12.2.1 s12.2.2.2.2.2.2.2.2.2 fun (y13 : Int) =>
 ((List.length s12.2.2.1 + List.length ([y13] : List Int) ≤ 2 ^ 36) ∧
 (Kb12 (s12.1, (iadd s12.2.1 1), (s12.2.2.1 ++ [y13]), s12.2.2.2.1, s12.2.2.2.2.1, s12.2.2.2.2.2.1, s12.2.2.2.2.2.2.1, s12.2.2.2.2.2.2.2.1, s12.2.2.2.2.2.2.2.2.1, s12.2.2.2.2.2.2.2.2.2))))) ∧
 ((decide (s12.2.1 < s12.1)) = false →
 (Kx12 (s12.1, s12.2.1, s12.2.2.1, s12.2.2.2.1, s12.2.2.2.2.1, s12.2.2.2.2.2.1, s12.2.2.2.2.2.2.1, s12.2.2.2.2.2.2.2.1, s12.2.2.2.2.2.2.2.2.1, s12.2.2.2.2.2.2.2.2.2)))))
 ((len s10.2.2.2.1), 0, [], s10.2.2.2.2.2.2.1, s10.2.2.2.2.2.2.2.1, s10.2.2.2.2.2.2.2.2.1, s10.2.2.2.2.2.2.2.2.2.1, s10.2.2.2.2.2.2.2.2.2.2.1, s10.2.2.2.2.2.2.2.2.2.2.2.1, s10.2.2.2.2.2.2.2.2.2.2.2.2) fun s12 =>
 (K true s12.2.2.2.2.2.2.1 s12.2.2.2.2.2.2.2.1 s12.2.2.2.2.2.2.2.2.1 s12.2.2.1)))))))))
/-! spec.l10Meet -/
def Ms_l10Meet (p1 : Int) (p2 : List Int) (K : (List Int) → Prop) : Prop :=
 (((p1 != (-1)) = true →
 (Ms_l10At p2 p1 fun (y1 : Int) =>
 (((decide (y1 < 0)) = true →
 (((List.length p2 : Nat) ≤ 2 ^ 36) ∧
 ((List.length p2 + List.length ([p1] : List Int) ≤ 2 ^ 36) ∧
 (K (p2 ++ [p1]))))) ∧
 ((decide (y1 < 0)) = false →
 (K p2))))) ∧
 ((p1 != (-1)) = false →
 (K p2)))
/-! spec.l10Order -/
def Ms_l10Order (p1 : List Int) (p2 : List Int) (p3 : List Int) (K : (List Int) → Prop) : Prop :=
 (LoopP (S := Int × List Int × List Int × List Int × List Int) (fun s1 Kb1 Kx1 =>
 (((decide (s1.1 < (len s1.2.2.2.1))) = true →
 ((inB s1.1 (List.length s1.2.2.2.1)) ∧
 (Ms_l10Meet (gI s1.2.2.2.1 s1.1) s1.2.2.2.2 fun (y2 : List Int) =>
 (Kb1 ((iadd s1.1 1), s1.2.1, s1.2.2.1, s1.2.2.2.1, y2))))) ∧
 ((decide (s1.1 < (len s1.2.2.2.1))) = false →
 (Kx1 (s1.1, s1.2.1, s1.2.2.1, s1.2.2.2.1, s1.2.2.2.2)))))
 (0, p1, p2, p3, []) fun s1 =>
 (LoopP (S := Int × List Int × List Int × List Int × List Int) (fun s3 Kb3 Kx3 =>
 (((decide (s3.1 < (len s3.2.2.2.2))) = true →
 ((inB s3.1 (List.length s3.2.2.2.2)) ∧
 ((inB (gI s3.2.2.2.2 s3.1) (List.length s3.2.1)) ∧
 (Ms_l10Meet (gI s3.2.1 (gI s3.2.2.2.2 s3.1)) s3.2.2.2.2 fun (y4 : List Int) =>
 ((inB s3.1 (List.length y4)) ∧
 ((inB (gI y4 s3.1) (List.length s3.2.2.1)) ∧
 (Ms_l10Meet (gI s3.2.2.1 (gI y4 s3.1)) y4 fun (y5 : List Int) =>
 (Kb3 ((iadd s3.1 1), s3.2.1, s3.2.2.1, s3.2.2.2.1, y5))))))))) ∧
 ((decide (s3.1 < (len s3.2.2.2.2))) = false →
 (Kx3 (s3.1, s3.2.1, s3.2.2.1, s3.2.2.2.1, s3.2.2.2.2)))))
 (0, s1.2.1, s1.2.2.1, s1.2.2.2.1, s1.2.2.2.2) fun s3 =>
 (K s3.2.2.2.2)))
/-! spec.l10To -/
def Ms_l10To (p1 : List Int) (p2 : Int) (K : Int → Prop) : Prop :=
 (((p2 == (-1)) = true →
 (K (-1))) ∧
 ((p2 == (-1)) = false →
 (Ms_l10At p1 p2 fun (y1 : Int) =>
 (K y1))))
/-! spec.CopyHeap -/
def Ms_CopyHeap (p1 : List Int) (p2 : List Int) (p3 : List Int) (K : Bool → (List Int) → (List Int) → (List Int) → (List Int) → Prop) : Prop :=
 (Ms_HeapValid p1 p2 p3 fun (y1 : Bool) =>
 (((!y1) = true →
 (K false [] [] [] [])) ∧
 ((!y1) = false →
 (Ms_l10Order p1 p2 p3 fun (y2 : List Int) =>
 (Ms_l1Many (len p1) fun (y3 : List Int) =>
 (Ms_l1Many (len p1) fun (y4 : List Int) =>
 (Ms_l1Many (len p1) fun (y5 : List Int) =>
 (LoopP (S := Int × List Int × List Int × List Int × List Int × List Int × List Int × List Int × List Int × List Int × List Int × List Int) (fun s6 Kb6 Kx6 =>
 (((decide (s6.1 < (len s6.2.2.2.2.1))) = true →
 ((inB s6.1 (List.length s6.2.2.2.2.1)) ∧
 ((inB (gI s6.2.2.2.2.1 s6.1) (List.length s6.2.1)) ∧
 (Ms_l10To s6.2.2.2.2.1 (gI s6.2.1 (gI s6.2.2.2.2.1 s6.1)) fun (y7 : Int) =>
 ((inB s6.1 (List.length s6.2.2.2.2.2.2.2.2.2.1)) ∧
 ((inB s6.1 (List.length s6.2.2.2.2.1)) ∧
 ((inB (gI s6.2.2.2.2.1 s6.1) (List.length s6.2.2.1)) ∧
 (Ms_l10To s6.2.2.2.2.1 (gI s6.2.2.1 (gI s6.2.2.2.2.1 s6.1)) fun (y8 : Int) =>
 ((inB s6.1 (List.length s6.2.2.2.2.2.2.2.2.2.2.1)) ∧
 ((inB s6.1 (List.length s6.2.2.2.2.1)) ∧
 ((inB (gI s6.2.2.2.2.1 s6.1) (List.length s6.2.2.2.2.2.1)) ∧
 (Kb6 ((iadd s6.1 1), s6.2.1, s6.2.2.1, s6.2.2.2.1, s6.2.2.2.2.1, (uL s6.2.2.2.2.2.1 (gI s6.2.2.2.2.1 s6.1) s6.1), s6.2.2.2.2.2.2.1, s6.2.2.2.2.2.2.2.1, s6.2.2.2.2.2.2.2.2.1, (uL s6.2.2.2.2.2.2.2.2.2.1 s6.1 y7), (uL s6.2.2.2.2.2.2.2.2.2.2.1 s6.1 y8), s6.2.2.2.2.2.2.2.2.2.2.2))))))))))))) ∧
 ((decide (s6.1 < (len s6.2.2.2.2.1))) = false →
 (Kx6 (s6.1, s6.2.1, s6.2.2.1, s6.2.2.2.1, s6.2.2.2.2.1, s6.2.2.2.2.2.1, s6.2.2.2.2.2.2.1, s6.2.2.2.2.2.2.2.1, s6.2.2.2.2.2.2.2.2.1, s6.2.2.2.2.2.2.2.2.2.1, s6.2.2.2.2.2.2.2.2.2.2.1, s6.2.2.2.2.2.2.2.2.2.2.2)))))
 (0, p1, p2, p3, y2, y5, [], [], [], y3, y4, []) fun s6 =>
 (LoopP (S := Int × List Int × List Int × List Int × List Int × List Int × List Int × List Int × List Int × List Int × List Int × List Int) (fun s9 Kb9 Kx9 =>
 (((decide (s9.1 < (len s9.2.2.2.1))) = true →
 ((inB s9.1 (List.length s9.2.2.2.1)) ∧
 (Ms_l10To s9.2.2.2.2.1 (gI s9.2.2.2.1 s9.1) fun (y10 : Int) =>
 ((List.length s9.2.2.2.2.2.2.2.2.2.2.2 + List.length ([y10] : List Int) ≤ 2 ^ 36) ∧
 (Kb9 ((iadd s9.1 1), s9.2.1, s9.2.2.1, s9.2.2.2.1, s9.2.2.2.2.1, s9.2.2.2.2.2.1, s9.2.2.2.2.2.2.1, s9.2.2.2.2.2.2.2.1, s9.2.2.2.2.2.2.2.2.1, s9.2.2.2.2.2.2.2.2.2.1, s9.2.2.2.2.2.2.2.2.2.2.1, (s9.2.2.2.2.2.2.2.2.2.2.2 ++ [y10]))))))) ∧
 ((decide (s9.1 < (len s9.2.2.2.1))) = false →
 (Kx9 (s9.1, s9.2.1, s9.2.2.1, s9.2.2.2.1, s9.2.2.2.2.1, s9.2.2.2.2.2.1, s9.2.2.2.2.2.2.1, s9.2.2.2.2.2.2.2.1, s9.2.2.2.2.2.2.2.2.1, s9.2.2.2.2.2.2.2.2.2.1, s9.2.2.2.2.2.2.2.2.2.2.1, s9.2.2.2.2.2.2.2.2.2.2.2)))))
 (0, s6.2.1, s6.2.2.1, s6.2.2.2.1, s6.2.2.2.2.1, s6.2.2.2.2.2.1, s6.2.2.2.2.2.2.1, s6.2.2.2.2.2.2.2.1, s6.2.2.2.2.2.2.2.2.1, s6.2.2.2.2.2.2.2.2.2.1, s6.2.2.2.2.2.2.2.2.2.2.1, s6.2.2.2.2.2.2.2.2.2.2.2) fun s9 =>
 (K true s9.2.2.2.2.2.2.2.2.2.1 s9.2.2.2.2.2.2.2.2.2.2.1 s9.2.2.2.2.2.2.2.2.2.2.2 s9.2.2.2.2.2.1))))))))))
/-! laws.ccInts -/
def Ml_ccInts (p1 : List Int) (p2 : List Int) (K : Bool → Prop) : Prop :=
 ((((len p1) != (len p2)) = true →
 (K false)) ∧
 (((len p1) != (len p2)) = false →
 (LoopP (S := List Int × List Int × Int) (fun s1 Kb1 Kx1 =>
 (((decide (s1.2.2 < (len s1.1))) = true →
 ((inB s1.2.2 (List.length s1.1)) ∧
 ((inB s1.2.2 (List.length s1.2.1)) ∧
 ((((gI s1.1 s1.2.2) != (gI s1.2.1 s1.2.2)) = true →
 (K false)) ∧
 (((gI s1.1 s1.2.2) != (gI s1.2.1 s1.2.2)) = false →
 (Kb1 (s1.1, s1.2.1, (iadd s1.2.2 1)))))))) ∧
 ((decide (s1.2.2 < (len s1.1))) = false →
 (Kx1 (s1.1, s1.2.1, s1.2.2)))))
 (p1, p2, 0) fun s1 =>
 (K true))))
/-! laws.FnCopyOrder -/
def Ml_FnCopyOrder (p1 : List Int) (K : Bool → Prop) : Prop :=
 (((decide ((len p1) > 1048576)) = true →
 (K true)) ∧
 ((decide ((len p1) > 1048576)) = false →
 (Ms_DrawCopyHeap p1 fun (y1 : List Int) (y2 : List Int) (y3 : List Int) =>
 (Mi_CopyHeap y1 y2 y3 fun (y4 : Bool) (y5 : List Int) (y6 : List Int) (y7 : List Int) (y8 : List Int) =>
 (Ms_CopyHeap y1 y2 y3 fun (y9 : Bool) (y10 : List Int) (y11 : List Int) (y12 : List Int) (y13 : List Int) =>
 (Mi_HeapSame y5 y6 y7 y10 y11 y12 fun (y14 : Bool) =>
 (((!y14) = true →
 (Mi_HeapSame y5 y6 y7 y10 y11 y12 fun (y15 : Bool) =>
 ((y15 = true →
 (Ml_ccInts y8 y13 fun (y16 : Bool) =>
 ((y16 = true →
 (K (y4 == y9))) ∧
 (y16 = false →
 (K false))))) ∧
 (y15 = false →
 (K false))))) ∧
 ((!y14) = false →
 (Ml_ccInts y8 y13 fun (y17 : Bool) =>
 (((!y17) = true →
 (Mi_HeapSame y5 y6 y7 y10 y11 y12 fun (y18 : Bool) =>
 ((y18 = true →
 (Ml_ccInts y8 y13 fun (y19 : Bool) =>
 ((y19 = true →
 (K (y4 == y9))) ∧
 (y19 = false →
 (K false))))) ∧
 (y18 = false →
 (K false))))) ∧
 ((!y17) = false →
 (((!(y4 == y9)) = true →
 (Mi_HeapSame y5 y6 y7 y10 y11 y12 fun (y20 : Bool) =>
 ((y20 = true →
 (Ml_ccInts y8 y13 fun (y21 : Bool) =>
 ((y21 = true →
 (K (y4 == y9))) ∧
 (y21 = false →
 (K false))))) ∧
 (y20 = false →
 (K false))))) ∧
 ((!(y4 == y9)) = false →
 (((!y4) = true →
 (Mi_HeapSame y5 y6 y7 y10 y11 y12 fun (y22 : Bool) =>
 ((y22 = true →
 (Ml_ccInts y8 y13 fun (y23 : Bool) =>
 ((y23 = true →
 (K (y4 == y9))) ∧
 (y23 = false →
 (K false))))) ∧
 (y22 = false →
 (K false))))) ∧
 ((!y4) = false →
 (Mi_OrderOf y5 y6 y7 fun (y24 : List Int) =>
 (Mi_OrderOf y1 y2 y3 fun (y25 : List Int) =>
 (LoopP (S := Int × List Int × List Int × List Int) (fun s26 Kb26 Kx26 =>
 (((decide (s26.1 < (len s26.2.2.1))) = true →
 ((inB s26.1 (List.length s26.2.2.1)) ∧
 ((((gI s26.2.2.1 s26.1) != s26.1) = true →
 (K false)) ∧
 (((gI s26.2.2.1 s26.1) != s26.1) = false →
 ((inB s26.1 (List.length s26.2.2.2)) ∧
 ((inB (gI s26.2.2.2 s26.1) (List.length s26.2.1)) ∧
 ((((gI s26.2.1 (gI s26.2.2.2 s26.1)) != s26.1) = true →
 (K false)) ∧
 (((gI s26.2.1 (gI s26.2.2.2 s26.1)) != s26.1) = false →
 (Kb26 ((iadd s26.1 1), s26.2.1, s26.2.2.1, s26.2.2.2)))))))))) ∧
 ((decide (s26.1 < (len s26.2.2.1))) = false →
 (Kx26 (s26.1, s26.2.1, s26.2.2.1, s26.2.2.2)))))
 (0, y8, y24, y25) fun s26 =>
 (K ((len s26.2.2.1) == (len s26.2.2.2)))))))))))))))))))))
/-! impl.distances$1 -/
def Mi_distances_1 (p1 : Int) (p2 : Int) (p3 : List Int) (p4 : List Int) (K : (List Int) → (List Int) → Prop) : Prop :=
 (((p1 != (-1)) = true →
 ((inB p1 (List.length p3)) ∧
 ((((gI p3 p1) == 0) = true →
 ((inB p1 (List.length p3)) ∧
 ((List.length p4 + List.length ([p1] : List Int) ≤ 2 ^ 36) ∧
 (K (uL p3 p1 p2) (p4 ++ [p1]))))) ∧
 (((gI p3 p1) == 0) = false →
 (K p3 p4))))) ∧
 ((p1 != (-1)) = false →
 (K p3 p4)))
/-! impl.distances -/
def Mi_distances (p1 : List Int) (p2 : List Int) (p3 : List Int) (K : (List Int) → Prop) : Prop :=
 ((0 ≤ (len p1) ∧ (len p1) = (len p1) ∧ (len p1) ≤ 2 ^ 36) ∧
 (LoopP (S := List Int × Int × Int × List Int × List Int × List Int × List Int × List Int) (fun s1 Kb1 Kx1 =>
 (((decide (s1.2.2.1 < s1.2.1)) = true →
 ((inB s1.2.2.1 (List.length s1.1)) ∧
 (Mi_distances_1 (gI s1.1 s1.2.2.1) 1 s1.2.2.2.2.2.2.1 s1.2.2.2.2.2.2.2 fun (y2 : List Int) (y3 : List Int) =>
 (Kb1 (s1.1, s1.2.1, (iadd s1.2.2.1 1), s1.2.2.2.1, s1.2.2.2.2.1, s1.2.2.2.2.2.1, y2, y3))))) ∧
 ((decide (s1.2.2.1 < s1.2.1)) = false →
 (Kx1 (s1.1, s1.2.1, s1.2.2.1, s1.2.2.2.1, s1.2.2.2.2.1, s1.2.2.2.2.2.1, s1.2.2.2.2.2.2.1, s1.2.2.2.2.2.2.2)))))
 (p3, (len p3), 0, p1, p2, p3, (List.replicate (Int.toNat (len p1)) (0 : Int)), []) fun s1 =>
 (LoopP (S := Int × List Int × List Int × List Int × List Int × List Int) (fun s4 Kb4 Kx4 =>
 (((decide (s4.1 < (len s4.2.2.2.2.2))) = true →
 ((inB s4.1 (List.length s4.2.2.2.2.2)) ∧
 ((inB (gI s4.2.2.2.2.2 s4.1) (List.length s4.2.1)) ∧
 ((inB s4.1 (List.length s4.2.2.2.2.2)) ∧
 ((inB (gI s4.2.2.2.2.2 s4.1) (List.length s4.2.2.2.2.1)) ∧
 (Mi_distances_1 (gI s4.2.1 (gI s4.2.2.2.2.2 s4.1)) (iadd (gI s4.2.2.2.2.1 (gI s4.2.2.2.2.2 s4.1)) 1) s4.2.2.2.2.1 s4.2.2.2.2.2 fun (y5 : List Int) (y6 : List Int) =>
 ((inB s4.1 (List.length y6)) ∧
 ((inB (gI y6 s4.1) (List.length s4.2.2.1)) ∧
 ((inB s4.1 (List.length y6)) ∧
 ((inB (gI y6 s4.1) (List.length y5)) ∧
 (Mi_distances_1 (gI s4.2.2.1 (gI y6 s4.1)) (iadd (gI y5 (gI y6 s4.1)) 1) y5 y6 fun (y7 : List Int) (y8 : List Int) =>
 (Kb4 ((iadd s4.1 1), s4.2.1, s4.2.2.1, s4.2.2.2.1, y7, y8))))))))))))) ∧
 ((decide (s4.1 < (len s4.2.2.2.2.2))) = false →
 (Kx4 (s4.1, s4.2.1, s4.2.2.1, s4.2.2.2.1, s4.2.2.2.2.1, s4.2.2.2.2.2)))))
 (0, s1.2.2.2.1, s1.2.2.2.2.1, s1.2.2.2.2.2.1, s1.2.2.2.2.2.2.1, s1.2.2.2.2.2.2.2) fun s4 =>
 (K s4.2.2.2.2.1))))
/-! impl.Reachable -/
def Mi_Reachable (p1 : List Int) (p2 : List Int) (p3 : List Int) (K : (List Bool) → Prop) : Prop :=
 (Mi_HeapValid p1 p2 p3 fun (y1 : Bool) =>
 (((!y1) = true →
 (K [])) ∧
 ((!y1) = false →
 (Mi_distances p1 p2 p3 fun (y2 : List Int) =>
 (LoopP (S := Int × Int × List Bool × List Int) (fun s3 Kb3 Kx3 =>
 (((decide (s3.2.1 < s3.1)) = true →
 ((inB s3.2.1 (List.length s3.2.2.2)) ∧
 ((List.length s3.2.2.1 + List.length ([(decide ((gI s3.2.2.2 s3.2.1) > 0))] : List Bool) ≤ 2 ^ 36) ∧
 (Kb3 (s3.1, (iadd s3.2.1 1), (s3.2.2.1 ++ [(decide ((gI s3.2.2.2 s3.2.1) > 0))]), s3.2.2.2))))) ∧
 ((decide (s3.2.1 < s3.1)) = false →
 (Kx3 (s3.1, s3.2.1, s3.2.2.1, s3.2.2.2)))))
 ((len y2), 0, [], y2) fun s3 =>
 (K s3.2.2.1))))))
/-! impl.HasCycle -/
def Mi_HasCycle (p1 : List Int) (p2 : List Int) (p3 : List Int) (p4 : Int) (K : Bool → Prop) : Prop :=
 (Mi_has p1 p2 p3 p4 fun (y1 : Bool) =>
 (((!y1) = true →
 (K false)) ∧
 ((!y1) = false →
 ((inB p4 (List.length p1)) ∧
 ((inB p4 (List.length p2)) ∧
 (Mi_distances p1 p2 [(gI p1 p4), (gI p2 p4)] fun (y2 : List Int) =>
 ((inB p4 (List.length y2)) ∧
 (K (decide ((gI y2 p4) > 0))))))))))
/-! laws.FnMoveLive -/
def Ml_FnMoveLive (p1 : List Int) (K : Bool → Prop) : Prop :=
 (((decide ((len p1) > 1048576)) = true →
 (K true)) ∧
 ((decide ((len p1) > 1048576)) = false →
 (Ms_DrawMoveCells p1 fun (y1 : List Int) (y2 : List Int) (y3 : List Int) (y4 : List Int) =>
 (Mi_MoveCells y1 y2 y3 y4 fun (y5 : Bool) (y6 : List Int) (y7 : List Int) (y8 : List Int) =>
 (Ms_MoveCells y1 y2 y3 y4 fun (y9 : Bool) (y10 : List Int) (y11 : List Int) (y12 : List Int) =>
 (Mi_HeapSame y6 y7 y8 y10 y11 y12 fun (y13 : Bool) =>
 (((!y13) = true →
 (Mi_HeapSame y6 y7 y8 y10 y11 y12 fun (y14 : Bool) =>
 ((y14 = true →
 (K (y5 == y9))) ∧
 (y14 = false →
 (K false))))) ∧
 ((!y13) = false →
 (((!(y5 == y9)) = true →
 (Mi_HeapSame y6 y7 y8 y10 y11 y12 fun (y15 : Bool) =>
 ((y15 = true →
 (K (y5 == y9))) ∧
 (y15 = false →
 (K false))))) ∧
 ((!(y5 == y9)) = false →
 (((!y5) = true →
 (Mi_HeapSame y6 y7 y8 y10 y11 y12 fun (y16 : Bool) =>
 ((y16 = true →
 (K (y5 == y9))) ∧
 (y16 = false →
 (K false))))) ∧
 ((!y5) = false →
 (Mi_Reachable y1 y2 y3 fun (y17 : List Bool) =>
 (Mi_Reachable y6 y7 y8 fun (y18 : List Bool) =>
 (LoopP (S := Int × List Int × List Bool × List Bool × List Int × List Int × List Int × List Int × List Int × List Int) (fun s19 Kb19 Kx19 =>
 (((decide (s19.1 < (len s19.2.2.1))) = true →
 ((inB s19.1 (List.length s19.2.2.1)) ∧
 ((inB s19.1 (List.length s19.2.1)) ∧
 ((inB (gI s19.2.1 s19.1) (List.length s19.2.2.2.1)) ∧
 (let v20 : Bool := (!((gB s19.2.2.1 s19.1) == (gB s19.2.2.2.1 (gI s19.2.1 s19.1))));
 ((v20 = true →
 (K false)) ∧
 (v20 = false →
 (Mi_HasCycle s19.2.2.2.2.1 s19.2.2.2.2.2.1 s19.2.2.2.2.2.2.1 s19.1 fun (y21 : Bool) =>
 ((inB s19.1 (List.length s19.2.1)) ∧
 (Mi_HasCycle s19.2.2.2.2.2.2.2.1 s19.2.2.2.2.2.2.2.2.1 s19.2.2.2.2.2.2.2.2.2 (gI s19.2.1 s19.1) fun (y22 : Bool) =>
 (((!(y21 == y22)) = true →
 (K false)) ∧
 ((!(y21 == y22)) = false →
 (Kb19 ((iadd s19.1 1), s19.2.1, s19.2.2.1, s19.2.2.2.1, s19.2.2.2.2.1, s19.2.2.2.2.2.1, s19.2.2.2.2.2.2.1, s19.2.2.2.2.2.2.2.1, s19.2.2.2.2.2.2.2.2.1, s19.2.2.2.2.2.2.2.2.2)))))))))))))) ∧
 ((decide (s19.1 < (len s19.2.2.1))) = false →
 (Kx19 (s19.1, s19.2.1, s19.2.2.1, s19.2.2.2.1, s19.2.2.2.2.1, s19.2.2.2.2.2.1, s19.2.2.2.2.2.2.1, s19.2.2.2.2.2.2.2.1, s19.2.2.2.2.2.2.2.2.1, s19.2.2.2.2.2.2.2.2.2)))))
 (0, y4, y17, y18, y1, y2, y3, y6, y7, y8) fun s19 =>
 (K true))))))))))))))))
/-! laws.FnExactCopyHeap -/
def Ml_FnExactCopyHeap (p1 : List Int) (p2 : List Int) (p3 : List Int) (K : Bool → Prop) : Prop :=
 (Ml_szHeap p1 p2 p3 1048576 fun (y1 : Int) =>
 (((decide (y1 < 0)) = true →
 (K true)) ∧
 ((decide (y1 < 0)) = false →
 (Ml_toHeap p1 p2 p3 fun (y2 : List Int) (y3 : List Int) (y4 : List Int) =>
 (Ms_CopyHeap y2 y3 y4 fun (y5 : Bool) (y6 : List Int) (y7 : List Int) (y8 : List Int) (y9 : List Int) =>
 (Ml_toHeap p1 p2 p3 fun (y10 : List Int) (y11 : List Int) (y12 : List Int) =>
 (Mi_CopyHeap y10 y11 y12 fun (y13 : Bool) (y14 : List Int) (y15 : List Int) (y16 : List Int) (y17 : List Int) =>
 (Ml_eqHeap y14 y15 y16 y6 y7 y8 fun (y18 : Bool) =>
 (((!y18) = true →
 (K false)) ∧
 ((!y18) = false →
 (Ml_eqIntS y17 y9 fun (y19 : Bool) =>
 (((!y19) = true →
 (K false)) ∧
 ((!y19) = false →
 (((!(y13 == y5)) = true →
 (K false)) ∧
 ((!(y13 == y5)) = false →
 (Ml_toHeap p1 p2 p3 fun (y20 : List Int) (y21 : List Int) (y22 : List Int) =>
 (Ml_eqHeap y10 y11 y12 y20 y21 y22 fun (y23 : Bool) =>
 (((!y23) = true →
 (K false)) ∧
 ((!y23) = false →
 (Ml_markHeap 1 y10 y11 y12 fun (y24 : Int) (y25 : List Int) (y26 : List Int) (y27 : List Int) =>
 (((decide (y24 < 0)) = true →
 (K false)) ∧
 ((decide (y24 < 0)) = false →
 (Ml_eqHeap y14 y15 y16 y6 y7 y8 fun (y28 : Bool) =>
 (((!y28) = true →
 (K false)) ∧
 ((!y28) = false →
 (Ml_eqIntS y17 y9 fun (y29 : Bool) =>
 (((!y29) = true →
 (K false)) ∧
 ((!y29) = false →
 (((!(y13 == y5)) = true →
 (K false)) ∧
 ((!(y13 == y5)) = false →
 (Ml_markHeap 1 y14 y15 y16 fun (y30 : Int) (y31 : List Int) (y32 : List Int) (y33 : List Int) =>
 (Ml_markIntS y30 y17 fun (y34 : Int) (y35 : List Int) =>
 (Ml_heldHeap y31 y32 y33 1 fun (y36 : Int) =>
 (((decide (y36 < 0)) = true →
 (K false)) ∧
 ((decide (y36 < 0)) = false →
 (Ml_heldIntS y35 y36 fun (y37 : Int) =>
 (((decide (y37 < 0)) = true →
 (K false)) ∧
 ((decide (y37 < 0)) = false →
 (((y37 != y34) = true →
 (K false)) ∧
 ((y37 != y34) = false →
 (Ml_toHeap p1 p2 p3 fun (y38 : List Int) (y39 : List Int) (y40 : List Int) =>
 (Mi_CopyHeap y38 y39 y40 fun (y41 : Bool) (y42 : List Int) (y43 : List Int) (y44 : List Int) (y45 : List Int) =>
 (Ml_eqHeap y42 y43 y44 y6 y7 y8 fun (y46 : Bool) =>
 (((!y46) = true →
 (K false)) ∧
 ((!y46) = false →
 (Ml_eqIntS y45 y9 fun (y47 : Bool) =>
 (((!y47) = true →
 (K false)) ∧
 ((!y47) = false →
 (((!(y41 == y5)) = true →
 (K false)) ∧
 ((!(y41 == y5)) = false →
 (Ml_heldHeap y31 y32 y33 1 fun (y48 : Int) =>
 (((decide (y48 < 0)) = true →
 (K false)) ∧
 ((decide (y48 < 0)) = false →
 (Ml_heldIntS y35 y48 fun (y49 : Int) =>
 (((decide (y49 < 0)) = true →
 (K false)) ∧
 ((decide (y49 < 0)) = false →
 (((y49 != y34) = true →
 (K false)) ∧
 ((y49 != y34) = false →
 (K true)))))))))))))))))))))))))))))))))))))))))))))))))))))))))))
/-! spec.HeapsAlike -/
def Ms_HeapsAlike (p1 : List Int) (p2 : List Int) (p3 : List Int) (p4 : List Int) (p5 : List Int) (p6 : List Int) (K : Bool → Prop) : Prop :=
 (Ms_HeapValid p1 p2 p3 fun (y1 : Bool) =>
 (((!y1) = true →
 (K false)) ∧
 ((!y1) = false →
 (Ms_HeapValid p4 p5 p6 fun (y2 : Bool) =>
 (((!y2) = true →
 (K false)) ∧
 ((!y2) = false →
 (Ms_l10Order p1 p2 p3 fun (y3 : List Int) =>
 (Ms_l10Order p4 p5 p6 fun (y4 : List Int) =>
 ((((len y3) != (len y4)) = true →
 (K false)) ∧
 (((len y3) != (len y4)) = false →
 ((((len p3) != (len p6)) = true →
 (K false)) ∧
 (((len p3) != (len p6)) = false →
 (LoopP (S := Int × List Int × List Int × List Int × List Int × List Int × List Int × List Int × List Int) (fun s5 Kb5 Kx5 =>
 (((decide (s5.1 < (len s5.2.2.2.1))) = true →
 ((inB s5.1 (List.length s5.2.2.2.1)) ∧
 (Ms_l10To s5.2.2.2.2.2.2.2.1 (gI s5.2.2.2.1 s5.1) fun (y6 : Int) =>
 ((inB s5.1 (List.length s5.2.2.2.2.2.2.1)) ∧
 (Ms_l10To s5.2.2.2.2.2.2.2.2 (gI s5.2.2.2.2.2.2.1 s5.1) fun (y7 : Int) =>
 (((y6 != y7) = true →
 (K false)) ∧
 ((y6 != y7) = false →
 (Kb5 ((iadd s5.1 1), s5.2.1, s5.2.2.1, s5.2.2.2.1, s5.2.2.2.2.1, s5.2.2.2.2.2.1, s5.2.2.2.2.2.2.1, s5.2.2.2.2.2.2.2.1, s5.2.2.2.2.2.2.2.2))))))))) ∧
 ((decide (s5.1 < (len s5.2.2.2.1))) = false →
 (Kx5 (s5.1, s5.2.1, s5.2.2.1, s5.2.2.2.1, s5.2.2.2.2.1, s5.2.2.2.2.2.1, s5.2.2.2.2.2.2.1, s5.2.2.2.2.2.2.2.1, s5.2.2.2.2.2.2.2.2)))))
 (0, p1, p2, p3, p4, p5, p6, y3, y4) fun s5 =>
 (LoopP (S := Int × List Int × List Int × List Int × List Int × List Int × List Int × List Int × List Int) (fun s8 Kb8 Kx8 =>
 (((decide (s8.1 < (len s8.2.2.2.2.2.2.2.1))) = true →
 ((inB s8.1 (List.length s8.2.2.2.2.2.2.2.1)) ∧
 ((inB (gI s8.2.2.2.2.2.2.2.1 s8.1) (List.length s8.2.1)) ∧
 (Ms_l10To s8.2.2.2.2.2.2.2.1 (gI s8.2.1 (gI s8.2.2.2.2.2.2.2.1 s8.1)) fun (y9 : Int) =>
 ((inB s8.1 (List.length s8.2.2.2.2.2.2.2.2)) ∧
 ((inB (gI s8.2.2.2.2.2.2.2.2 s8.1) (List.length s8.2.2.2.2.1)) ∧
 (Ms_l10To s8.2.2.2.2.2.2.2.2 (gI s8.2.2.2.2.1 (gI s8.2.2.2.2.2.2.2.2 s8.1)) fun (y10 : Int) =>
 (((y9 != y10) = true →
 (K false)) ∧
 ((y9 != y10) = false →
 ((inB s8.1 (List.length s8.2.2.2.2.2.2.2.1)) ∧
 ((inB (gI s8.2.2.2.2.2.2.2.1 s8.1) (List.length s8.2.2.1)) ∧
 (Ms_l10To s8.2.2.2.2.2.2.2.1 (gI s8.2.2.1 (gI s8.2.2.2.2.2.2.2.1 s8.1)) fun (y11 : Int) =>
 ((inB s8.1 (List.length s8.2.2.2.2.2.2.2.2)) ∧
 ((inB (gI s8.2.2.2.2.2.2.2.2 s8.1) (List.length s8.2.2.2.2.2.1)) ∧
 (Ms_l10To s8.2.2.2.2.2.2.2.2 (gI s8.2.2.2.2.2.1 (gI s8.2.2.2.2.2.2.2.2 s8.1)) fun (y12 : Int) =>
 (((y11 != y12) = true →
 (K false)) ∧
 ((y11 != y12) = false →
 (Kb8 ((iadd s8.1 1), s8.2.1, s8.2.2.1, s8.2.2.2.1, s8.2.2.2.2.1, s8.2.2.2.2.2.1, s8.2.2.2.2.2.2.1, s8.2.2.2.2.2.2.2.1, s8.2.2.2.2.2.2.2.2))))))))))))))))))) ∧
 ((decide (s8.1 < (len s8.2.2.2.2.2.2.2.1))) = false →
 (Kx8 (s8.1, s8.2.1, s8.2.2.1, s8.2.2.2.1, s8.2.2.2.2.1, s8.2.2.2.2.2.1, s8.2.2.2.2.2.2.1, s8.2.2.2.2.2.2.2.1, s8.2.2.2.2.2.2.2.2)))))
 (0, s5.2.1, s5.2.2.1, s5.2.2.2.1, s5.2.2.2.2.1, s5.2.2.2.2.2.1, s5.2.2.2.2.2.2.1, s5.2.2.2.2.2.2.2.1, s5.2.2.2.2.2.2.2.2) fun s8 =>
 (K true)))))))))))))))
/-! impl.CountLive -/
def Mi_CountLive (p1 : List Int) (p2 : List Int) (p3 : List Int) (K : Int → Prop) : Prop :=
 (Mi_Reachable p1 p2 p3 fun (y1 : List Bool) =>
 (LoopP (S := Int × Int × Int × List Bool) (fun s2 Kb2 Kx2 =>
 (((decide (s2.2.2.1 < s2.2.1)) = true →
 ((inB s2.2.2.1 (List.length s2.2.2.2)) ∧
 (((gB s2.2.2.2 s2.2.2.1) = true →
 (Kb2 ((iadd s2.1 1), s2.2.1, (iadd s2.2.2.1 1), s2.2.2.2))) ∧
 ((gB s2.2.2.2 s2.2.2.1) = false →
 (Kb2 (s2.1, s2.2.1, (iadd s2.2.2.1 1), s2.2.2.2)))))) ∧
 ((decide (s2.2.2.1 < s2.2.1)) = false →
 (Kx2 (s2.1, s2.2.1, s2.2.2.1, s2.2.2.2)))))
 (0, (len y1), 0, y1) fun s2 =>
 (K s2.1)))
/-! impl.HeapsAlike -/
def Mi_HeapsAlike (p1 : List Int) (p2 : List Int) (p3 : List Int) (p4 : List Int) (p5 : List Int) (p6 : List Int) (K : Bool → Prop) : Prop :=
 (Mi_CopyHeap p1 p2 p3 fun (y1 : Bool) (y2 : List Int) (y3 : List Int) (y4 : List Int) (y5 : List Int) =>
 (Mi_CopyHeap p4 p5 p6 fun (y6 : Bool) (y7 : List Int) (y8 : List Int) (y9 : List Int) (y10 : List Int) =>
 (Mi_CountLive p1 p2 p3 fun (y11 : Int) =>
 ((y1 = true →
 ((y6 = true →
 (Mi_CountLive p4 p5 p6 fun (y12 : Int) =>
 (((y11 == y12) = true →
 (M_Equal_int y4 y9 fun (y13 : Bool) =>
 ((y13 = true →
 (((0 : Nat) < List.length y2 ∧ (0 : Int) ≤ (0 : Int) ∧ (0 : Int) ≤ y11 ∧ y11 ≤ ((List.length y2 : Nat) : Int)) ∧
 (((0 : Nat) < List.length y7 ∧ (0 : Int) ≤ (0 : Int) ∧ (0 : Int) ≤ y11 ∧ y11 ≤ ((List.length y7 : Nat) : Int)) ∧
 (M_Equal_int (sub y2 (0 : Int) y11) (sub y7 (0 : Int) y11) fun (y14 : Bool) =>
 ((y14 = true →
 (((0 : Nat) < List.length y3 ∧ (0 : Int) ≤ (0 : Int) ∧ (0 : Int) ≤ y11 ∧ y11 ≤ ((List.length y3 : Nat) : Int)) ∧
 (((0 : Nat) < List.length y8 ∧ (0 : Int) ≤ (0 : Int) ∧ (0 : Int) ≤ y11 ∧ y11 ≤ ((List.length y8 : Nat) : Int)) ∧
 (M_Equal_int (sub y3 (0 : Int) y11) (sub y8 (0 : Int) y11) fun (y15 : Bool) =>
 (K y15))))) ∧
 (y14 = false →
 (K false))))))) ∧
 (y13 = false →
 (K false))))) ∧
 ((y11 == y12) = false →
 (K false))))) ∧
 (y6 = false →
 (K false)))) ∧
 (y1 = false →
 (K false))))))
/-! laws.FnExactHeapsAlike -/
def Ml_FnExactHeapsAlike (p1 : List Int) (p2 : List Int) (p3 : List Int) (p4 : List Int) (p5 : List Int) (p6 : List Int) (K : Bool → Prop) : Prop :=
 (Ml_szHeap p1 p2 p3 1048576 fun (y1 : Int) =>
 (((decide (y1 < 0)) = true →
 (K true)) ∧
 ((decide (y1 < 0)) = false →
 (Ml_szHeap p4 p5 p6 y1 fun (y2 : Int) =>
 (((decide (y2 < 0)) = true →
 (K true)) ∧
 ((decide (y2 < 0)) = false →
 (Ml_toHeap p1 p2 p3 fun (y3 : List Int) (y4 : List Int) (y5 : List Int) =>
 (Ml_toHeap p4 p5 p6 fun (y6 : List Int) (y7 : List Int) (y8 : List Int) =>
 (Ms_HeapsAlike y3 y4 y5 y6 y7 y8 fun (y9 : Bool) =>
 (Ml_toHeap p1 p2 p3 fun (y10 : List Int) (y11 : List Int) (y12 : List Int) =>
 (Ml_toHeap p4 p5 p6 fun (y13 : List Int) (y14 : List Int) (y15 : List Int) =>
 (Mi_HeapsAlike y10 y11 y12 y13 y14 y15 fun (y16 : Bool) =>
 (((!(y16 == y9)) = true →
 (K false)) ∧
 ((!(y16 == y9)) = false →
 (Ml_toHeap p1 p2 p3 fun (y17 : List Int) (y18 : List Int) (y19 : List Int) =>
 (Ml_eqHeap y10 y11 y12 y17 y18 y19 fun (y20 : Bool) =>
 (((!y20) = true →
 (K false)) ∧
 ((!y20) = false →
 (Ml_toHeap p4 p5 p6 fun (y21 : List Int) (y22 : List Int) (y23 : List Int) =>
 (Ml_eqHeap y13 y14 y15 y21 y22 y23 fun (y24 : Bool) =>
 (((!y24) = true →
 (K false)) ∧
 ((!y24) = false →
 (K true)))))))))))))))))))))))
/-! laws.FnCopyWhere -/
def Ml_FnCopyWhere (p1 : List Int) (K : Bool → Prop) : Prop :=
 (((decide ((len p1) > 1048576)) = true →
 (K true)) ∧
 ((decide ((len p1) > 1048576)) = false →
 (Ms_DrawCopyHeap p1 fun (y1 : List Int) (y2 : List Int) (y3 : List Int) =>
 (Mi_CopyHeap y1 y2 y3 fun (y4 : Bool) (y5 : List Int) (y6 : List Int) (y7 : List Int) (y8 : List Int) =>
 (Ms_CopyHeap y1 y2 y3 fun (y9 : Bool) (y10 : List Int) (y11 : List Int) (y12 : List Int) (y13 : List Int) =>
 (Mi_HeapSame y5 y6 y7 y10 y11 y12 fun (y14 : Bool) =>
 (((!y14) = true →
 (Mi_HeapSame y5 y6 y7 y10 y11 y12 fun (y15 : Bool) =>
 ((y15 = true →
 (Ml_ccInts y8 y13 fun (y16 : Bool) =>
 ((y16 = true →
 (K (y4 == y9))) ∧
 (y16 = false →
 (K false))))) ∧
 (y15 = false →
 (K false))))) ∧
 ((!y14) = false →
 (Ml_ccInts y8 y13 fun (y17 : Bool) =>
 (((!y17) = true →
 (Mi_HeapSame y5 y6 y7 y10 y11 y12 fun (y18 : Bool) =>
 ((y18 = true →
 (Ml_ccInts y8 y13 fun (y19 : Bool) =>
 ((y19 = true →
 (K (y4 == y9))) ∧
 (y19 = false →
 (K false))))) ∧
 (y18 = false →
 (K false))))) ∧
 ((!y17) = false →
 (((!(y4 == y9)) = true →
 (Mi_HeapSame y5 y6 y7 y10 y11 y12 fun (y20 : Bool) =>
 ((y20 = true →
 (Ml_ccInts y8 y13 fun (y21 : Bool) =>
 ((y21 = true →
 (K (y4 == y9))) ∧
 (y21 = false →
 (K false))))) ∧
 (y20 = false →
 (K false))))) ∧
 ((!(y4 == y9)) = false →
 (((!y4) = true →
 (Mi_HeapSame y5 y6 y7 y10 y11 y12 fun (y22 : Bool) =>
 ((y22 = true →
 (Ml_ccInts y8 y13 fun (y23 : Bool) =>
 ((y23 = true →
 (K (y4 == y9))) ∧
 (y23 = false →
 (K false))))) ∧
 (y22 = false →
 (K false))))) ∧
 ((!y4) = false →
 (Mi_Reachable y1 y2 y3 fun (y24 : List Bool) =>
 (LoopP (S := Int × List Int × List Bool × List Int × List Int × List Int × List Int × List Int × List Int) (fun s25 Kb25 Kx25 =>
 (((decide (s25.1 < (len s25.2.1))) = true →
 (let j28 : Prop :=
 (Kb25 ((iadd s25.1 1), s25.2.1, s25.2.2.1, s25.2.2.2.1, s25.2.2.2.2.1, s25.2.2.2.2.2.1, s25.2.2.2.2.2.2.1, s25.2.2.2.2.2.2.2.1, s25.2.2.2.2.2.2.2.2));
 ((inB s25.1 (List.length s25.2.2.1)) ∧
 ((inB s25.1 (List.length s25.2.1)) ∧
 (((!((gB s25.2.2.1 s25.1) == ((gI s25.2.1 s25.1) != (-1)))) = true →
 (K false)) ∧
 ((!((gB s25.2.2.1 s25.1) == ((gI s25.2.1 s25.1) != (-1)))) = false →
 (let j27 : Prop :=
 ((inB s25.1 (List.length s25.2.2.1)) ∧
 (((gB s25.2.2.1 s25.1) = true →
 ((inB s25.1 (List.length s25.2.2.2.2.1)) ∧
 ((((gI s25.2.2.2.2.1 s25.1) == (-1)) = true →
 ((inB s25.1 (List.length s25.2.1)) ∧
 ((inB (gI s25.2.1 s25.1) (List.length s25.2.2.2.2.2.2.2.1)) ∧
 ((((gI s25.2.2.2.2.2.2.2.1 (gI s25.2.1 s25.1)) != (-1)) = true →
 (K false)) ∧
 (((gI s25.2.2.2.2.2.2.2.1 (gI s25.2.1 s25.1)) != (-1)) = false →
 j28))))) ∧
 (((gI s25.2.2.2.2.1 s25.1) == (-1)) = false →
 j28)))) ∧
 ((gB s25.2.2.1 s25.1) = false →
 j28)));
 ((inB s25.1 (List.length s25.2.2.1)) ∧
 (((gB s25.2.2.1 s25.1) = true →
 ((inB s25.1 (List.length s25.2.2.2.1)) ∧
 ((((gI s25.2.2.2.1 s25.1) != (-1)) = true →
 ((inB s25.1 (List.length s25.2.1)) ∧
 ((inB (gI s25.2.1 s25.1) (List.length s25.2.2.2.2.2.2.1)) ∧
 ((inB s25.1 (List.length s25.2.2.2.1)) ∧
 ((inB (gI s25.2.2.2.1 s25.1) (List.length s25.2.1)) ∧
 (let v26 : Bool := ((gI s25.2.2.2.2.2.2.1 (gI s25.2.1 s25.1)) != (gI s25.2.1 (gI s25.2.2.2.1 s25.1)));
 ((v26 = true →
 (K false)) ∧
 (v26 = false →
 j27)))))))) ∧
 (((gI s25.2.2.2.1 s25.1) != (-1)) = false →
 j27)))) ∧
 ((gB s25.2.2.1 s25.1) = false →
 j27)))))))))) ∧
 ((decide (s25.1 < (len s25.2.1))) = false →
 (Kx25 (s25.1, s25.2.1, s25.2.2.1, s25.2.2.2.1, s25.2.2.2.2.1, s25.2.2.2.2.2.1, s25.2.2.2.2.2.2.1, s25.2.2.2.2.2.2.2.1, s25.2.2.2.2.2.2.2.2)))))
 (0, y8, y24, y1, y2, y3, y5, y6, y7) fun s25 =>
 (K true))))))))))))))))))
/-! laws.FnCopyHeap -/
def Ml_FnCopyHeap (p1 : List Int) (K : Bool → Prop) : Prop :=
 (((decide ((len p1) > 1048576)) = true →
 (K true)) ∧
 ((decide ((len p1) > 1048576)) = false →
 (Ms_DrawCopyHeap p1 fun (y1 : List Int) (y2 : List Int) (y3 : List Int) =>
 (Mi_CopyHeap y1 y2 y3 fun (y4 : Bool) (y5 : List Int) (y6 : List Int) (y7 : List Int) (y8 : List Int) =>
 (Ms_CopyHeap y1 y2 y3 fun (y9 : Bool) (y10 : List Int) (y11 : List Int) (y12 : List Int) (y13 : List Int) =>
 (Mi_HeapSame y5 y6 y7 y10 y11 y12 fun (y14 : Bool) =>
 (((!y14) = true →
 (Mi_HeapSame y5 y6 y7 y10 y11 y12 fun (y15 : Bool) =>
 ((y15 = true →
 (Ml_ccInts y8 y13 fun (y16 : Bool) =>
 ((y16 = true →
 (K (y4 == y9))) ∧
 (y16 = false →
 (K false))))) ∧
 (y15 = false →
 (K false))))) ∧
 ((!y14) = false →
 (Ml_ccInts y8 y13 fun (y17 : Bool) =>
 (((!y17) = true →
 (Mi_HeapSame y5 y6 y7 y10 y11 y12 fun (y18 : Bool) =>
 ((y18 = true →
 (Ml_ccInts y8 y13 fun (y19 : Bool) =>
 ((y19 = true →
 (K (y4 == y9))) ∧
 (y19 = false →
 (K false))))) ∧
 (y18 = false →
 (K false))))) ∧
 ((!y17) = false →
 (((!(y4 == y9)) = true →
 (Mi_HeapSame y5 y6 y7 y10 y11 y12 fun (y20 : Bool) =>
 ((y20 = true →
 (Ml_ccInts y8 y13 fun (y21 : Bool) =>
 ((y21 = true →
 (K (y4 == y9))) ∧
 (y21 = false →
 (K false))))) ∧
 (y20 = false →
 (K false))))) ∧
 ((!(y4 == y9)) = false →
 (((!y4) = true →
 (Mi_HeapSame y5 y6 y7 y10 y11 y12 fun (y22 : Bool) =>
 ((y22 = true →
 (Ml_ccInts y8 y13 fun (y23 : Bool) =>
 ((y23 = true →
 (K (y4 == y9))) ∧
 (y23 = false →
 (K false))))) ∧
 (y22 = false →
 (K false))))) ∧
 ((!y4) = false →
 (Mi_Reachable y5 y6 y7 fun (y24 : List Bool) =>
 (Mi_CountLive y1 y2 y3 fun (y25 : Int) =>
 (LoopP (S := Int × Int × List Bool × List Int × List Int × List Int × List Int × List Int × List Int) (fun s26 Kb26 Kx26 =>
 (((decide (s26.2.1 < (len s26.2.2.1))) = true →
 ((inB s26.2.1 (List.length s26.2.2.1)) ∧
 (((!((gB s26.2.2.1 s26.2.1) == (decide (s26.2.1 < s26.1)))) = true →
 (K false)) ∧
 ((!((gB s26.2.2.1 s26.2.1) == (decide (s26.2.1 < s26.1)))) = false →
 (Kb26 (s26.1, (iadd s26.2.1 1), s26.2.2.1, s26.2.2.2.1, s26.2.2.2.2.1, s26.2.2.2.2.2.1, s26.2.2.2.2.2.2.1, s26.2.2.2.2.2.2.2.1, s26.2.2.2.2.2.2.2.2)))))) ∧
 ((decide (s26.2.1 < (len s26.2.2.1))) = false →
 (Kx26 (s26.1, s26.2.1, s26.2.2.1, s26.2.2.2.1, s26.2.2.2.2.1, s26.2.2.2.2.2.1, s26.2.2.2.2.2.2.1, s26.2.2.2.2.2.2.2.1, s26.2.2.2.2.2.2.2.2)))))
 (y25, 0, y24, y1, y2, y3, y5, y6, y7) fun s26 =>
 (Mi_CopyHeap s26.2.2.2.2.2.2.1 s26.2.2.2.2.2.2.2.1 s26.2.2.2.2.2.2.2.2 fun (y27 : Bool) (y28 : List Int) (y29 : List Int) (y30 : List Int) (y31 : List Int) =>
 (Mi_HeapValid s26.2.2.2.2.2.2.1 s26.2.2.2.2.2.2.2.1 s26.2.2.2.2.2.2.2.2 fun (y32 : Bool) =>
 ((y32 = true →
 (Mi_HeapsAlike s26.2.2.2.1 s26.2.2.2.2.1 s26.2.2.2.2.2.1 s26.2.2.2.2.2.2.1 s26.2.2.2.2.2.2.2.1 s26.2.2.2.2.2.2.2.2 fun (y33 : Bool) =>
 ((y33 = true →
 ((y27 = true →
 (Mi_HeapSame y28 y29 y30 s26.2.2.2.2.2.2.1 s26.2.2.2.2.2.2.2.1 s26.2.2.2.2.2.2.2.2 fun (y34 : Bool) =>
 (K y34))) ∧
 (y27 = false →
 (K false)))) ∧
 (y33 = false →
 (K false))))) ∧
 (y32 = false →
 (K false)))))))))))))))))))))))
/-! slices.Grow[[]int,int] -/
def M_Grow_int (p1 : Int) (K : (List Int) → Prop) : Prop :=
 (((decide (p1 < 0)) = true →
 False) ∧
 ((decide (p1 < 0)) = false →
 (((decide ((isub p1 (isub 0 0)) > 0)) = true →
 (((0 : Int) = 0 ∧ (0 : Int) = 0) ∧
 (((0 : Int) < (isub p1 (isub 0 0)) ∧ (isub p1 (isub 0 0)) ≤ 2 ^ 36) ∧
 (((0 : Int) ≤ (0 : Int) ∧ (0 : Int) ≤ (0 : Int) ∧ (0 : Int) ≤ len (List.replicate (Int.toNat (isub p1 (isub 0 0))) (0 : Int))) ∧
 (let v1 : List Int := (sub (List.replicate (Int.toNat (isub p1 (isub 0 0))) (0 : Int)) (0 : Int) (0 : Int));
 (K v1)))))) ∧
 ((decide ((isub p1 (isub 0 0)) > 0)) = false →
 (K [])))))
/-! slices.Concat[[]int,int] -/
def M_Concat_int (p1 : List (List Int)) (K : (List Int) → Prop) : Prop :=
 (LoopP (S := List (List Int) × Int × List (List Int) × Int × Int) (fun s1 Kb1 Kx1 =>
 (((decide (s1.2.2.2.2 < s1.2.2.2.1)) = true →
 ((inB s1.2.2.2.2 (List.length s1.2.2.1)) ∧
 (((decide ((iadd s1.2.1 (len (gL s1.2.2.1 s1.2.2.2.2))) < 0)) = true →
 False) ∧
 ((decide ((iadd s1.2.1 (len (gL s1.2.2.1 s1.2.2.2.2))) < 0)) = false →
 (Kb1 (s1.1, (iadd s1.2.1 (len (gL s1.2.2.1 s1.2.2.2.2))), s1.2.2.1, s1.2.2.2.1, (iadd s1.2.2.2.2 1))))))) ∧
 ((decide (s1.2.2.2.2 < s1.2.2.2.1)) = false →
 (Kx1 (s1.1, s1.2.1, s1.2.2.1, s1.2.2.2.1, s1.2.2.2.2)))))
 (p1, 0, p1, (len p1), 0) fun s1 =>
 (M_Grow_int s1.2.1 fun (y2 : List Int) =>
 (LoopP (S := List (List Int) × Int × Int × List Int) (fun s3 Kb3 Kx3 =>
 (((decide (s3.2.2.1 < s3.2.1)) = true →
 ((inB s3.2.2.1 (List.length s3.1)) ∧
 ((List.length s3.2.2.2 + List.length (gL s3.1 s3.2.2.1) ≤ 2 ^ 36) ∧
 (Kb3 (s3.1, s3.2.1, (iadd s3.2.2.1 1), (s3.2.2.2 ++ (gL s3.1 s3.2.2.1))))))) ∧
 ((decide (s3.2.2.1 < s3.2.1)) = false →
 (Kx3 (s3.1, s3.2.1, s3.2.2.1, s3.2.2.2)))))
 (s1.1, (len s1.1), 0, y2) fun s3 =>
 (K s3.2.2.2))))
/-! impl.CountPointers -/
def Mi_CountPointers (p1 : List Int) (p2 : List Int) (p3 : List Int) (K : Int → Prop) : Prop :=
 (Mi_HeapValid p1 p2 p3 fun (y1 : Bool) =>
 (((!y1) = true →
 (K 0)) ∧
 ((!y1) = false →
 (M_Concat_int [p1, p2, p3] fun (y2 : List Int) =>
 (LoopP (S := Int × Int × Int × List Int) (fun s3 Kb3 Kx3 =>
 (((decide (s3.2.2.1 < s3.2.1)) = true →
 ((inB s3.2.2.1 (List.length s3.2.2.2)) ∧
 ((((gI s3.2.2.2 s3.2.2.1) != (-1)) = true →
 (Kb3 ((iadd s3.1 1), s3.2.1, (iadd s3.2.2.1 1), s3.2.2.2))) ∧
 (((gI s3.2.2.2 s3.2.2.1) != (-1)) = false →
 (Kb3 (s3.1, s3.2.1, (iadd s3.2.2.1 1), s3.2.2.2)))))) ∧
 ((decide (s3.2.2.1 < s3.2.1)) = false →
 (Kx3 (s3.1, s3.2.1, s3.2.2.1, s3.2.2.2)))))
 (0, (len y2), 0, y2) fun s3 =>
 (K s3.1))))))
/-! laws.FnMoveCells -/
def Ml_FnMoveCells (p1 : List Int) (K : Bool → Prop) : Prop :=
 (((decide ((len p1) > 1048576)) = true →
 (K true)) ∧
 ((decide ((len p1) > 1048576)) = false →
 (Ms_DrawMoveCells p1 fun (y1 : List Int) (y2 : List Int) (y3 : List Int) (y4 : List Int) =>
 (Mi_MoveCells y1 y2 y3 y4 fun (y5 : Bool) (y6 : List Int) (y7 : List Int) (y8 : List Int) =>
 (Ms_MoveCells y1 y2 y3 y4 fun (y9 : Bool) (y10 : List Int) (y11 : List Int) (y12 : List Int) =>
 (Mi_HeapSame y6 y7 y8 y10 y11 y12 fun (y13 : Bool) =>
 (((!y13) = true →
 (Mi_HeapSame y6 y7 y8 y10 y11 y12 fun (y14 : Bool) =>
 ((y14 = true →
 (K (y5 == y9))) ∧
 (y14 = false →
 (K false))))) ∧
 ((!y13) = false →
 (((!(y5 == y9)) = true →
 (Mi_HeapSame y6 y7 y8 y10 y11 y12 fun (y15 : Bool) =>
 ((y15 = true →
 (K (y5 == y9))) ∧
 (y15 = false →
 (K false))))) ∧
 ((!(y5 == y9)) = false →
 (((!y5) = true →
 (Mi_HeapSame y6 y7 y8 y10 y11 y12 fun (y16 : Bool) =>
 ((y16 = true →
 (K (y5 == y9))) ∧
 (y16 = false →
 (K false))))) ∧
 ((!y5) = false →
 ((0 ≤ (len y4) ∧ (len y4) = (len y4) ∧ (len y4) ≤ 2 ^ 36) ∧
 (LoopP (S := Int × List Int × List Int × List Int × List Int × List Int × List Int × List Int × List Int) (fun s17 Kb17 Kx17 =>
 (((decide (s17.1 < (len s17.2.1))) = true →
 ((inB s17.1 (List.length s17.2.1)) ∧
 ((inB (gI s17.2.1 s17.1) (List.length s17.2.2.1)) ∧
 (Kb17 ((iadd s17.1 1), s17.2.1, (uL s17.2.2.1 (gI s17.2.1 s17.1) s17.1), s17.2.2.2.1, s17.2.2.2.2.1, s17.2.2.2.2.2.1, s17.2.2.2.2.2.2.1, s17.2.2.2.2.2.2.2.1, s17.2.2.2.2.2.2.2.2))))) ∧
 ((decide (s17.1 < (len s17.2.1))) = false →
 (Kx17 (s17.1, s17.2.1, s17.2.2.1, s17.2.2.2.1, s17.2.2.2.2.1, s17.2.2.2.2.2.1, s17.2.2.2.2.2.2.1, s17.2.2.2.2.2.2.2.1, s17.2.2.2.2.2.2.2.2)))))
 (0, y4, (List.replicate (Int.toNat (len y4)) (0 : Int)), y1, y2, y3, y6, y7, y8) fun s17 =>
 (Mi_MoveCells s17.2.2.2.2.2.2.1 s17.2.2.2.2.2.2.2.1 s17.2.2.2.2.2.2.2.2 s17.2.2.1 fun (y18 : Bool) (y19 : List Int) (y20 : List Int) (y21 : List Int) =>
 (Mi_HeapValid s17.2.2.2.2.2.2.1 s17.2.2.2.2.2.2.2.1 s17.2.2.2.2.2.2.2.2 fun (y22 : Bool) =>
 ((y22 = true →
 (Mi_HeapsAlike s17.2.2.2.1 s17.2.2.2.2.1 s17.2.2.2.2.2.1 s17.2.2.2.2.2.2.1 s17.2.2.2.2.2.2.2.1 s17.2.2.2.2.2.2.2.2 fun (y23 : Bool) =>
 ((y23 = true →
 (Mi_CountPointers s17.2.2.2.2.2.2.1 s17.2.2.2.2.2.2.2.1 s17.2.2.2.2.2.2.2.2 fun (y24 : Int) =>
 (Mi_CountPointers s17.2.2.2.1 s17.2.2.2.2.1 s17.2.2.2.2.2.1 fun (y25 : Int) =>
 (((y24 == y25) = true →
 ((y18 = true →
 (Mi_HeapSame y19 y20 y21 s17.2.2.2.1 s17.2.2.2.2.1 s17.2.2.2.2.2.1 fun (y26 : Bool) =>
 (K y26))) ∧
 (y18 = false →
 (K false)))) ∧
 ((y24 == y25) = false →
 (K false)))))) ∧
 (y23 = false →
 (K false))))) ∧
 (y22 = false →
 (K false)))))))))))))))))))
/-! spec.DrawHeapsAlike -/
def Ms_DrawHeapsAlike (p1 : List Int) (K : (List Int) → (List Int) → (List Int) → (List Int) → (List Int) → (List Int) → Prop) : Prop :=
 (Ms_l13Open p1 fun (y1 : List Int) (y2 : Int) =>
 (Ms_l1Draw y1 y2 fun (y3 : List Int) (y4 : Int) (y5 : List Int) (y6 : List Int) (y7 : List Int) =>
 (Ms_l13Rd_pick 4 y3 y4 fun (y8 : Int) (y9 : Int) =>
 (((y8 == 0) = true →
 (Ms_l1Draw y3 y9 fun (y10 : List Int) (y11 : Int) (y12 : List Int) (y13 : List Int) (y14 : List Int) =>
 (K y5 y6 y7 y12 y13 y14))) ∧
 ((y8 == 0) = false →
 (((y8 == 1) = true →
 (Ms_CopyHeap y5 y6 y7 fun (y15 : Bool) (y16 : List Int) (y17 : List Int) (y18 : List Int) (y19 : List Int) =>
 (K y5 y6 y7 y16 y17 y18))) ∧
 ((y8 == 1) = false →
 (((y8 == 2) = true →
 (Ms_l1Wrong y3 y9 y5 y6 y7 fun (y20 : Int) (y21 : List Int) (y22 : List Int) (y23 : List Int) =>
 (K y5 y6 y7 y21 y22 y23))) ∧
 ((y8 == 2) = false →
 (Ms_l10Mix (len y5) y3 y9 fun (y24 : List Int) (y25 : Int) (y26 : List Int) =>
 (Ms_MoveCells y5 y6 y7 y26 fun (y27 : Bool) (y28 : List Int) (y29 : List Int) (y30 : List Int) =>
 (K y5 y6 y7 y28 y29 y30))))))))))))
/-! laws.FnHeapsAlike -/
def Ml_FnHeapsAlike (p1 : List Int) (K : Bool → Prop) : Prop :=
 (((decide ((len p1) > 1048576)) = true →
 (K true)) ∧
 ((decide ((len p1) > 1048576)) = false →
 (Ms_DrawHeapsAlike p1 fun (y1 : List Int) (y2 : List Int) (y3 : List Int) (y4 : List Int) (y5 : List Int) (y6 : List Int) =>
 (Mi_HeapsAlike y1 y2 y3 y4 y5 y6 fun (y7 : Bool) =>
 (Ms_HeapsAlike y1 y2 y3 y4 y5 y6 fun (y8 : Bool) =>
 (((!(y7 == y8)) = true →
 (Ms_HeapsAlike y1 y2 y3 y4 y5 y6 fun (y9 : Bool) =>
 (((y7 == y9) = true →
 (Mi_HeapsAlike y4 y5 y6 y1 y2 y3 fun (y10 : Bool) =>
 (K (y7 == y10)))) ∧
 ((y7 == y9) = false →
 (K false))))) ∧
 ((!(y7 == y8)) = false →
 (Mi_HeapsAlike y4 y5 y6 y1 y2 y3 fun (y11 : Bool) =>
 (((!(y7 == y11)) = true →
 (Ms_HeapsAlike y1 y2 y3 y4 y5 y6 fun (y12 : Bool) =>
 (((y7 == y12) = true →
 (Mi_HeapsAlike y4 y5 y6 y1 y2 y3 fun (y13 : Bool) =>
 (K (y7 == y13)))) ∧
 ((y7 == y12) = false →
 (K false))))) ∧
 ((!(y7 == y11)) = false →
 (((!y7) = true →
 (Ms_HeapsAlike y1 y2 y3 y4 y5 y6 fun (y14 : Bool) =>
 (((y7 == y14) = true →
 (Mi_HeapsAlike y4 y5 y6 y1 y2 y3 fun (y15 : Bool) =>
 (K (y7 == y15)))) ∧
 ((y7 == y14) = false →
 (K false))))) ∧
 ((!y7) = false →
 (Mi_CountLive y1 y2 y3 fun (y16 : Int) =>
 (Mi_CountLive y4 y5 y6 fun (y17 : Int) =>
 (((y16 == y17) = true →
 (Mi_HeapsAlike y1 y2 y3 y1 y2 y3 fun (y18 : Bool) =>
 (K y18))) ∧
 ((y16 == y17) = false →
 (K false)))))))))))))))))
/-! impl.GarbageOf -/
def Mi_GarbageOf (p1 : List Int) (p2 : List Int) (p3 : List Int) (K : (List Int) → Prop) : Prop :=
 (Mi_Reachable p1 p2 p3 fun (y1 : List Bool) =>
 (LoopP (S := Int × Int × List Int × List Bool) (fun s2 Kb2 Kx2 =>
 (((decide (s2.2.1 < s2.1)) = true →
 ((inB s2.2.1 (List.length s2.2.2.2)) ∧
 (((!(gB s2.2.2.2 s2.2.1)) = true →
 ((List.length s2.2.2.1 + List.length ([s2.2.1] : List Int) ≤ 2 ^ 36) ∧
 (Kb2 (s2.1, (iadd s2.2.1 1), (s2.2.2.1 ++ [s2.2.1]), s2.2.2.2)))) ∧
 ((!(gB s2.2.2.2 s2.2.1)) = false →
 (Kb2 (s2.1, (iadd s2.2.1 1), s2.2.2.1, s2.2.2.2)))))) ∧
 ((decide (s2.2.1 < s2.1)) = false →
 (Kx2 (s2.1, s2.2.1, s2.2.2.1, s2.2.2.2)))))
 ((len y1), 0, [], y1) fun s2 =>
 (K s2.2.2.1)))
/-! impl.pointer -/
def Mi_pointer (p1 : List Int) (p2 : List Int) (p3 : List Int) (p4 : Int) (K : Bool → Prop) : Prop :=
 (((decide (p4 ≥ (-1))) = true →
 (K (decide (p4 < (len p1))))) ∧
 ((decide (p4 ≥ (-1))) = false →
 (K false)))
/-! slices.Clone[[]int,int] -/
def M_Clone_int (p1 : List Int) (K : (List Int) → Prop) : Prop :=
 (∀ b1 : Bool, ((List.length p1 : Nat) ≠ 0 → b1 = false) →
 ((b1 = true →
 (K [])) ∧
 (b1 = false →
 (((List.length p1 : Nat) ≤ 2 ^ 36) ∧
 (K p1)))))
/-! impl.copied -/
def Mi_copied (p1 : List Int) (p2 : List Int) (p3 : List Int) (K : (List Int) → (List Int) → (List Int) → Prop) : Prop :=
 (M_Clone_int p1 fun (y1 : List Int) =>
 (M_Clone_int p2 fun (y2 : List Int) =>
 (M_Clone_int p3 fun (y3 : List Int) =>
 (K y1 y2 y3))))
/-! impl.PutLeft -/
def Mi_PutLeft (p1 : List Int) (p2 : List Int) (p3 : List Int) (p4 : Int) (p5 : Int) (K : Bool → (List Int) → (List Int) → (List Int) → Prop) : Prop :=
 (Mi_has p1 p2 p3 p4 fun (y1 : Bool) =>
 (((!y1) = true →
 (K false [] [] [])) ∧
 ((!y1) = false →
 (Mi_pointer p1 p2 p3 p5 fun (y2 : Bool) =>
 (((!y2) = true →
 (K false [] [] [])) ∧
 ((!y2) = false →
 (Mi_copied p1 p2 p3 fun (y3 : List Int) (y4 : List Int) (y5 : List Int) =>
 ((inB p4 (List.length y3)) ∧
 (K true (uL y3 p4 p5) y4 y5)))))))))
/-! impl.PutRight -/
def Mi_PutRight (p1 : List Int) (p2 : List Int) (p3 : List Int) (p4 : Int) (p5 : Int) (K : Bool → (List Int) → (List Int) → (List Int) → Prop) : Prop :=
 (Mi_has p1 p2 p3 p4 fun (y1 : Bool) =>
 (((!y1) = true →
 (K false [] [] [])) ∧
 ((!y1) = false →
 (Mi_pointer p1 p2 p3 p5 fun (y2 : Bool) =>
 (((!y2) = true →
 (K false [] [] [])) ∧
 ((!y2) = false →
 (Mi_copied p1 p2 p3 fun (y3 : List Int) (y4 : List Int) (y5 : List Int) =>
 ((inB p4 (List.length y4)) ∧
 (K true y3 (uL y4 p4 p5) y5)))))))))
/-! laws.FnCopyCount -/
def Ml_FnCopyCount (p1 : List Int) (K : Bool → Prop) : Prop :=
 (((decide ((len p1) > 1048576)) = true →
 (K true)) ∧
 ((decide ((len p1) > 1048576)) = false →
 (Ms_DrawCopyHeap p1 fun (y1 : List Int) (y2 : List Int) (y3 : List Int) =>
 (Mi_CopyHeap y1 y2 y3 fun (y4 : Bool) (y5 : List Int) (y6 : List Int) (y7 : List Int) (y8 : List Int) =>
 (Ms_CopyHeap y1 y2 y3 fun (y9 : Bool) (y10 : List Int) (y11 : List Int) (y12 : List Int) (y13 : List Int) =>
 (Mi_HeapSame y5 y6 y7 y10 y11 y12 fun (y14 : Bool) =>
 (((!y14) = true →
 (Mi_HeapSame y5 y6 y7 y10 y11 y12 fun (y15 : Bool) =>
 ((y15 = true →
 (Ml_ccInts y8 y13 fun (y16 : Bool) =>
 ((y16 = true →
 (K (y4 == y9))) ∧
 (y16 = false →
 (K false))))) ∧
 (y15 = false →
 (K false))))) ∧
 ((!y14) = false →
 (Ml_ccInts y8 y13 fun (y17 : Bool) =>
 (((!y17) = true →
 (Mi_HeapSame y5 y6 y7 y10 y11 y12 fun (y18 : Bool) =>
 ((y18 = true →
 (Ml_ccInts y8 y13 fun (y19 : Bool) =>
 ((y19 = true →
 (K (y4 == y9))) ∧
 (y19 = false →
 (K false))))) ∧
 (y18 = false →
 (K false))))) ∧
 ((!y17) = false →
 (((!(y4 == y9)) = true →
 (Mi_HeapSame y5 y6 y7 y10 y11 y12 fun (y20 : Bool) =>
 ((y20 = true →
 (Ml_ccInts y8 y13 fun (y21 : Bool) =>
 ((y21 = true →
 (K (y4 == y9))) ∧
 (y21 = false →
 (K false))))) ∧
 (y20 = false →
 (K false))))) ∧
 ((!(y4 == y9)) = false →
 (((!y4) = true →
 (Mi_HeapSame y5 y6 y7 y10 y11 y12 fun (y22 : Bool) =>
 ((y22 = true →
 (Ml_ccInts y8 y13 fun (y23 : Bool) =>
 ((y23 = true →
 (K (y4 == y9))) ∧
 (y23 = false →
 (K false))))) ∧
 (y22 = false →
 (K false))))) ∧
 ((!y4) = false →
 (Mi_GarbageOf y1 y2 y3 fun (y24 : List Int) =>
 (LoopP (S := Int × List Int × List Int × List Int × List Int × List Int × List Int × List Int) (fun s25 Kb25 Kx25 =>
 (((decide (s25.1 < (len s25.2.1))) = true →
 ((inB s25.1 (List.length s25.2.1)) ∧
 (Mi_PutLeft s25.2.2.1 s25.2.2.2.1 s25.2.2.2.2.1 (gI s25.2.1 s25.1) (-1) fun (y26 : Bool) (y27 : List Int) (y28 : List Int) (y29 : List Int) =>
 ((inB s25.1 (List.length s25.2.1)) ∧
 (Mi_PutRight y27 y28 y29 (gI s25.2.1 s25.1) (-1) fun (y30 : Bool) (y31 : List Int) (y32 : List Int) (y33 : List Int) =>
 (Kb25 ((iadd s25.1 1), s25.2.1, y31, y32, y33, s25.2.2.2.2.2.1, s25.2.2.2.2.2.2.1, s25.2.2.2.2.2.2.2))))))) ∧
 ((decide (s25.1 < (len s25.2.1))) = false →
 (Kx25 (s25.1, s25.2.1, s25.2.2.1, s25.2.2.2.1, s25.2.2.2.2.1, s25.2.2.2.2.2.1, s25.2.2.2.2.2.2.1, s25.2.2.2.2.2.2.2)))))
 (0, y24, y1, y2, y3, y5, y6, y7) fun s25 =>
 (Mi_CountPointers s25.2.2.2.2.2.1 s25.2.2.2.2.2.2.1 s25.2.2.2.2.2.2.2 fun (y34 : Int) =>
 (Mi_CountPointers s25.2.2.1 s25.2.2.2.1 s25.2.2.2.2.1 fun (y35 : Int) =>
 (K (y34 == y35)))))))))))))))))))))
/-! laws.FnAlikeCopy -/
def Ml_FnAlikeCopy (p1 : List Int) (K : Bool → Prop) : Prop :=
 (((decide ((len p1) > 1048576)) = true →
 (K true)) ∧
 ((decide ((len p1) > 1048576)) = false →
 (Ms_DrawHeapsAlike p1 fun (y1 : List Int) (y2 : List Int) (y3 : List Int) (y4 : List Int) (y5 : List Int) (y6 : List Int) =>
 (Mi_HeapsAlike y1 y2 y3 y4 y5 y6 fun (y7 : Bool) =>
 (Ms_HeapsAlike y1 y2 y3 y4 y5 y6 fun (y8 : Bool) =>
 (((!(y7 == y8)) = true →
 (Ms_HeapsAlike y1 y2 y3 y4 y5 y6 fun (y9 : Bool) =>
 (((y7 == y9) = true →
 (K (!y7))) ∧
 ((y7 == y9) = false →
 (K false))))) ∧
 ((!(y7 == y8)) = false →
 (Mi_HeapValid y1 y2 y3 fun (y10 : Bool) =>
 (((!y10) = true →
 (Ms_HeapsAlike y1 y2 y3 y4 y5 y6 fun (y11 : Bool) =>
 (((y7 == y11) = true →
 (K (!y7))) ∧
 ((y7 == y11) = false →
 (K false))))) ∧
 ((!y10) = false →
 (Mi_HeapValid y4 y5 y6 fun (y12 : Bool) =>
 (((!y12) = true →
 (Ms_HeapsAlike y1 y2 y3 y4 y5 y6 fun (y13 : Bool) =>
 (((y7 == y13) = true →
 (K (!y7))) ∧
 ((y7 == y13) = false →
 (K false))))) ∧
 ((!y12) = false →
 (Mi_CopyHeap y1 y2 y3 fun (y14 : Bool) (y15 : List Int) (y16 : List Int) (y17 : List Int) (y18 : List Int) =>
 (Mi_CopyHeap y4 y5 y6 fun (y19 : Bool) (y20 : List Int) (y21 : List Int) (y22 : List Int) (y23 : List Int) =>
 (Mi_HeapSame y15 y16 y17 y20 y21 y22 fun (y24 : Bool) =>
 ((y14 = true →
 ((y19 = true →
 (Mi_HeapsAlike y15 y16 y17 y20 y21 y22 fun (y25 : Bool) =>
 (((y7 == y25) = true →
 (((!y24) = true →
 ((((len y1) != (len y4)) = true →
 (K true)) ∧
 (((len y1) != (len y4)) = false →
 (K (y24 == y7))))) ∧
 ((!y24) = false →
 ((y7 = true →
 ((((len y1) != (len y4)) = true →
 (K true)) ∧
 (((len y1) != (len y4)) = false →
 (K (y24 == y7))))) ∧
 (y7 = false →
 (K false)))))) ∧
 ((y7 == y25) = false →
 (K false))))) ∧
 (y19 = false →
 (K false)))) ∧
 (y14 = false →
 (K false)))))))))))))))))))
/-! spec.NewGens -/
def Ms_NewGens (p1 : List Int) (p2 : List Int) (p3 : List Int) (K : Bool → (List Int) → (List Int) → (List Int) → (List Bool) → (List Int) → Prop) : Prop :=
 (Ms_HeapValid p1 p2 p3 fun (y1 : Bool) =>
 (((!y1) = true →
 (K false [] [] [] [] [])) ∧
 ((!y1) = false →
 (Ms_l1Copy p1 p2 p3 <|
 ((0 ≤ (len p1) ∧ (len p1) = (len p1) ∧ (len p1) ≤ 2 ^ 36) ∧
 (K true p1 p2 p3 (List.replicate (Int.toNat (len p1)) false) []))))))
/-! spec.l11Young -/
def Ms_l11Young (p1 : List Bool) (p2 : Int) (K : Bool → Prop) : Prop :=
 (((p2 != (-1)) = true →
 ((inB p2 (List.length p1)) ∧
 (K (!(gB p1 p2))))) ∧
 ((p2 != (-1)) = false →
 (K false)))
/-! spec.l11Remember -/
def Ms_l11Remember (p1 : List Int) (p2 : List Int) (p3 : List Int) (p4 : List Bool) (K : (List Int) → Prop) : Prop :=
 (LoopP (S := List Bool × Int × List Int × List Int × List Int × List Int) (fun s1 Kb1 Kx1 =>
 (((decide (s1.2.1 < (len s1.1))) = true →
 ((inB s1.2.1 (List.length s1.1)) ∧
 (((gB s1.1 s1.2.1) = true →
 ((inB s1.2.1 (List.length s1.2.2.1)) ∧
 (Ms_l11Young s1.1 (gI s1.2.2.1 s1.2.1) fun (y2 : Bool) =>
 ((y2 = true →
 ((List.length s1.2.2.2.2.2 + List.length ([s1.2.1] : List Int) ≤ 2 ^ 36) ∧
 (Kb1 (s1.1, (iadd s1.2.1 1), s1.2.2.1, s1.2.2.2.1, s1.2.2.2.2.1, (s1.2.2.2.2.2 ++ [s1.2.1]))))) ∧
 (y2 = false →
 ((inB s1.2.1 (List.length s1.2.2.2.1)) ∧
 (Ms_l11Young s1.1 (gI s1.2.2.2.1 s1.2.1) fun (y3 : Bool) =>
 ((y3 = true →
 ((List.length s1.2.2.2.2.2 + List.length ([s1.2.1] : List Int) ≤ 2 ^ 36) ∧
 (Kb1 (s1.1, (iadd s1.2.1 1), s1.2.2.1, s1.2.2.2.1, s1.2.2.2.2.1, (s1.2.2.2.2.2 ++ [s1.2.1]))))) ∧
 (y3 = false →
 (Kb1 (s1.1, (iadd s1.2.1 1), s1.2.2.1, s1.2.2.2.1, s1.2.2.2.2.1, s1.2.2.2.2.2))))))))))) ∧
 ((gB s1.1 s1.2.1) = false →
 (Kb1 (s1.1, (iadd s1.2.1 1), s1.2.2.1, s1.2.2.2.1, s1.2.2.2.2.1, s1.2.2.2.2.2)))))) ∧
 ((decide (s1.2.1 < (len s1.1))) = false →
 (Kx1 (s1.1, s1.2.1, s1.2.2.1, s1.2.2.2.1, s1.2.2.2.2.1, s1.2.2.2.2.2)))))
 (p4, 0, p1, p2, p3, []) fun s1 =>
 (K s1.2.2.2.2.2))
/-! spec.l11Draw -/
def Ms_l11Draw (p1 : List Int) (p2 : Int) (K : (List Int) → Int → (List Int) → (List Int) → (List Int) → (List Bool) → (List Int) → Prop) : Prop :=
 (Ms_l1Draw p1 p2 fun (y1 : List Int) (y2 : Int) (y3 : List Int) (y4 : List Int) (y5 : List Int) =>
 (Ms_NewGens y3 y4 y5 fun (y6 : Bool) (y7 : List Int) (y8 : List Int) (y9 : List Int) (y10 : List Bool) (y11 : List Int) =>
 (LoopP (S := Int × List Int × Int × List Int × List Int × List Int × List Bool × List Int × List Int × List Int × List Int × List Int × List Int × List Int × List Bool × List Int) (fun s12 Kb12 Kx12 =>
 (((decide (s12.1 < (len s12.2.2.2.2.2.2.2.2.2.2.2.2.2.2.1))) = true →
 (Ms_l13Rd_pick 3 s12.2.1 s12.2.2.1 fun (y13 : Int) (y14 : Int) =>
 ((inB s12.1 (List.length s12.2.2.2.2.2.2.2.2.2.2.2.2.2.2.1)) ∧
 (Kb12 ((iadd s12.1 1), s12.2.1, y14, s12.2.2.2.1, s12.2.2.2.2.1, s12.2.2.2.2.2.1, s12.2.2.2.2.2.2.1, s12.2.2.2.2.2.2.2.1, s12.2.2.2.2.2.2.2.2.1, s12.2.2.2.2.2.2.2.2.2.1, s12.2.2.2.2.2.2.2.2.2.2.1, s12.2.2.2.2.2.2.2.2.2.2.2.1, s12.2.2.2.2.2.2.2.2.2.2.2.2.1, s12.2.2.2.2.2.2.2.2.2.2.2.2.2.1, (uL s12.2.2.2.2.2.2.2.2.2.2.2.2.2.2.1 s12.1 (y13 == 0)), s12.2.2.2.2.2.2.2.2.2.2.2.2.2.2.2))))) ∧
 ((decide (s12.1 < (len s12.2.2.2.2.2.2.2.2.2.2.2.2.2.2.1))) = false →
 (Kx12 (s12.1, s12.2.1, s12.2.2.1, s12.2.2.2.1, s12.2.2.2.2.1, s12.2.2.2.2.2.1, s12.2.2.2.2.2.2.1, s12.2.2.2.2.2.2.2.1, s12.2.2.2.2.2.2.2.2.1, s12.2.2.2.2.2.2.2.2.2.1, s12.2.2.2.2.2.2.2.2.2.2.1, s12.2.2.2.2.2.2.2.2.2.2.2.1, s12.2.2.2.2.2.2.2.2.2.2.2.2.1, s12.2.2.2.2.2.2.2.2.2.2.2.2.2.1, s12.2.2.2.2.2.2.2.2.2.2.2.2.2.2.1, s12.2.2.2.2.2.2.2.2.2.2.2.2.2.2.2)))))
 (0, y1, y2, [], [], [], [], [], y3, y4, y5, y7, y8, y9, y10, y11) fun s12 =>
 (Ms_l11Remember s12.2.2.2.2.2.2.2.2.1 s12.2.2.2.2.2.2.2.2.2.1 s12.2.2.2.2.2.2.2.2.2.2.1 s12.2.2.2.2.2.2.2.2.2.2.2.2.2.2.1 fun (y15 : List Int) =>
 (K s12.2.1 s12.2.2.1 s12.2.2.2.2.2.2.2.2.2.2.2.1 s12.2.2.2.2.2.2.2.2.2.2.2.2.1 s12.2.2.2.2.2.2.2.2.2.2.2.2.2.1 s12.2.2.2.2.2.2.2.2.2.2.2.2.2.2.1 y15)))))
/-! spec.l11Wrong -/
def Ms_l11Wrong (p1 : List Int) (p2 : Int) (p3 : List Int) (p4 : List Int) (p5 : List Int) (p6 : List Bool) (p7 : List Int) (K : Int → (List Bool) → (List Int) → Prop) : Prop :=
 (Ms_l1Copy p3 p4 p5 <|
 (((List.length p6 : Nat) ≤ 2 ^ 36) ∧
 (((List.length p7 : Nat) ≤ 2 ^ 36) ∧
 (Ms_l13Rd_pick 20 p1 p2 fun (y1 : Int) (y2 : Int) =>
 (((y1 == 0) = true →
 (Ms_l13Rd_pick (len p6) p1 y2 fun (y3 : Int) (y4 : Int) =>
 ((inB y3 (List.length p6)) ∧
 ((inB y3 (List.length p6)) ∧
 (K y4 (uL p6 y3 (!(gB p6 y3))) p7))))) ∧
 ((y1 == 0) = false →
 (((y1 == 1) = true →
 (Ms_l13Rd_num [0, 1, 8] p1 y2 fun (y5 : Int) (y6 : Int) =>
 ((List.length p7 + List.length ([y5] : List Int) ≤ 2 ^ 36) ∧
 (K y6 p6 (p7 ++ [y5]))))) ∧
 ((y1 == 1) = false →
 (((y1 == 2) = true →
 ((List.length p6 + List.length ([true] : List Bool) ≤ 2 ^ 36) ∧
 (K y2 (p6 ++ [true]) p7))) ∧
 ((y1 == 2) = false →
 (K y2 p6 p7)))))))))))
/-! spec.l11Case -/
def Ms_l11Case (p1 : List Int) (K : (List Int) → (List Int) → (List Int) → (List Bool) → (List Int) → Prop) : Prop :=
 (Ms_l13Open p1 fun (y1 : List Int) (y2 : Int) =>
 (Ms_l11Draw y1 y2 fun (y3 : List Int) (y4 : Int) (y5 : List Int) (y6 : List Int) (y7 : List Int) (y8 : List Bool) (y9 : List Int) =>
 (Ms_l11Wrong y3 y4 y5 y6 y7 y8 y9 fun (y10 : Int) (y11 : List Bool) (y12 : List Int) =>
 (K y5 y6 y7 y11 y12))))
/-! spec.DrawSmallCollect -/
def Ms_DrawSmallCollect (p1 : List Int) (K : (List Int) → (List Int) → (List Int) → (List Bool) → (List Int) → Prop) : Prop :=
 (Ms_l11Case p1 fun (y1 : List Int) (y2 : List Int) (y3 : List Int) (y4 : List Bool) (y5 : List Int) =>
 (K y1 y2 y3 y4 y5))
/-! impl.remembered$1 -/
def Mi_remembered_1 (p1 : Int) (p2 : List Bool) (K : Bool → Prop) : Prop :=
 (((p1 != (-1)) = true →
 ((inB p1 (List.length p2)) ∧
 (K (!(gB p2 p1))))) ∧
 ((p1 != (-1)) = false →
 (K false)))
/-! impl.remembered -/
def Mi_remembered (p1 : List Int) (p2 : List Int) (p3 : List Int) (p4 : List Bool) (K : (List Int) → Prop) : Prop :=
 (LoopP (S := List Bool × Int × Int × List Int × List Int × List Int × List Bool × List Int) (fun s1 Kb1 Kx1 =>
 (((decide (s1.2.2.1 < s1.2.1)) = true →
 (let j4 : Prop :=
 (Kb1 (s1.1, s1.2.1, (iadd s1.2.2.1 1), s1.2.2.2.1, s1.2.2.2.2.1, s1.2.2.2.2.2.1, s1.2.2.2.2.2.2.1, (s1.2.2.2.2.2.2.2 ++ [s1.2.2.1])));
 ((inB s1.2.2.1 (List.length s1.1)) ∧
 (((gB s1.1 s1.2.2.1) = true →
 ((inB s1.2.2.1 (List.length s1.2.2.2.1)) ∧
 (Mi_remembered_1 (gI s1.2.2.2.1 s1.2.2.1) s1.2.2.2.2.2.2.1 fun (y2 : Bool) =>
 ((y2 = true →
 ((List.length s1.2.2.2.2.2.2.2 + List.length ([s1.2.2.1] : List Int) ≤ 2 ^ 36) ∧
 j4)) ∧
 (y2 = false →
 ((inB s1.2.2.1 (List.length s1.2.2.2.2.1)) ∧
 (Mi_remembered_1 (gI s1.2.2.2.2.1 s1.2.2.1) s1.2.2.2.2.2.2.1 fun (y3 : Bool) =>
 ((y3 = true →
 ((List.length s1.2.2.2.2.2.2.2 + List.length ([s1.2.2.1] : List Int) ≤ 2 ^ 36) ∧
 j4)) ∧
 (y3 = false →
 (Kb1 (s1.1, s1.2.1, (iadd s1.2.2.1 1), s1.2.2.2.1, s1.2.2.2.2.1, s1.2.2.2.2.2.1, s1.2.2.2.2.2.2.1, s1.2.2.2.2.2.2.2))))))))))) ∧
 ((gB s1.1 s1.2.2.1) = false →
 (Kb1 (s1.1, s1.2.1, (iadd s1.2.2.1 1), s1.2.2.2.1, s1.2.2.2.2.1, s1.2.2.2.2.2.1, s1.2.2.2.2.2.2.1, s1.2.2.2.2.2.2.2))))))) ∧
 ((decide (s1.2.2.1 < s1.2.1)) = false →
 (Kx1 (s1.1, s1.2.1, s1.2.2.1, s1.2.2.2.1, s1.2.2.2.2.1, s1.2.2.2.2.2.1, s1.2.2.2.2.2.2.1, s1.2.2.2.2.2.2.2)))))
 (p4, (len p4), 0, p1, p2, p3, p4, []) fun s1 =>
 (K s1.2.2.2.2.2.2.2))
/-! impl.GensValid -/
def Mi_GensValid (p1 : List Int) (p2 : List Int) (p3 : List Int) (p4 : List Bool) (p5 : List Int) (K : Bool → Prop) : Prop :=
 (Mi_HeapValid p1 p2 p3 fun (y1 : Bool) =>
 ((y1 = true →
 ((((len p4) == (len p1)) = true →
 (Mi_remembered p1 p2 p3 p4 fun (y2 : List Int) =>
 (M_Equal_int p5 y2 fun (y3 : Bool) =>
 (K y3)))) ∧
 (((len p4) == (len p1)) = false →
 (K false)))) ∧
 (y1 = false →
 (K false))))
/-! impl.YoungKept -/
def Mi_YoungKept (p1 : List Int) (p2 : List Int) (p3 : List Int) (p4 : List Bool) (p5 : List Int) (K : (List Int) → Prop) : Prop :=
 (Mi_GensValid p1 p2 p3 p4 p5 fun (y1 : Bool) =>
 (((!y1) = true →
 (K [])) ∧
 ((!y1) = false →
 ((0 ≤ (len p4) ∧ (len p4) = (len p4) ∧ (len p4) ≤ 2 ^ 36) ∧
 (M_Clone_int p3 fun (y2 : List Int) =>
 (LoopP (S := List Int × Int × Int × List Int × List Int × List Int × List Bool × List Int × List Bool × List Int) (fun s3 Kb3 Kx3 =>
 (((decide (s3.2.2.1 < s3.2.1)) = true →
 ((inB s3.2.2.1 (List.length s3.1)) ∧
 ((inB (gI s3.1 s3.2.2.1) (List.length s3.2.2.2.1)) ∧
 ((inB (gI s3.1 s3.2.2.1) (List.length s3.2.2.2.2.1)) ∧
 ((List.length s3.2.2.2.2.2.2.2.2.2 + List.length ([(gI s3.2.2.2.1 (gI s3.1 s3.2.2.1)), (gI s3.2.2.2.2.1 (gI s3.1 s3.2.2.1))] : List Int) ≤ 2 ^ 36) ∧
 (let v4 : List Int := (s3.2.2.2.2.2.2.2.2.2 ++ [(gI s3.2.2.2.1 (gI s3.1 s3.2.2.1)), (gI s3.2.2.2.2.1 (gI s3.1 s3.2.2.1))]);
 (Kb3 (s3.1, s3.2.1, (iadd s3.2.2.1 1), s3.2.2.2.1, s3.2.2.2.2.1, s3.2.2.2.2.2.1, s3.2.2.2.2.2.2.1, s3.2.2.2.2.2.2.2.1, s3.2.2.2.2.2.2.2.2.1, v4)))))))) ∧
 ((decide (s3.2.2.1 < s3.2.1)) = false →
 (Kx3 (s3.1, s3.2.1, s3.2.2.1, s3.2.2.2.1, s3.2.2.2.2.1, s3.2.2.2.2.2.1, s3.2.2.2.2.2.2.1, s3.2.2.2.2.2.2.2.1, s3.2.2.2.2.2.2.2.2.1, s3.2.2.2.2.2.2.2.2.2)))))
 (p5, (len p5), 0, p1, p2, p3, p4, p5, (List.replicate (Int.toNat (len p4)) false), y2) fun s3 =>
 (LoopP (S := Int × List Int × List Int × List Int × List Bool × List Int × List Bool × List Int) (fun s5 Kb5 Kx5 =>
 (((decide (s5.1 < (len s5.2.2.2.2.2.2.2))) = true →
 ((inB s5.1 (List.length s5.2.2.2.2.2.2.2)) ∧
 ((((gI s5.2.2.2.2.2.2.2 s5.1) == (-1)) = true →
 (Kb5 ((iadd s5.1 1), s5.2.1, s5.2.2.1, s5.2.2.2.1, s5.2.2.2.2.1, s5.2.2.2.2.2.1, s5.2.2.2.2.2.2.1, s5.2.2.2.2.2.2.2))) ∧
 (((gI s5.2.2.2.2.2.2.2 s5.1) == (-1)) = false →
 ((inB (gI s5.2.2.2.2.2.2.2 s5.1) (List.length s5.2.2.2.2.1)) ∧
 (((gB s5.2.2.2.2.1 (gI s5.2.2.2.2.2.2.2 s5.1)) = true →
 (Kb5 ((iadd s5.1 1), s5.2.1, s5.2.2.1, s5.2.2.2.1, s5.2.2.2.2.1, s5.2.2.2.2.2.1, s5.2.2.2.2.2.2.1, s5.2.2.2.2.2.2.2))) ∧
 ((gB s5.2.2.2.2.1 (gI s5.2.2.2.2.2.2.2 s5.1)) = false →
 ((inB (gI s5.2.2.2.2.2.2.2 s5.1) (List.length s5.2.2.2.2.2.2.1)) ∧
 (((gB s5.2.2.2.2.2.2.1 (gI s5.2.2.2.2.2.2.2 s5.1)) = true →
 (Kb5 ((iadd s5.1 1), s5.2.1, s5.2.2.1, s5.2.2.2.1, s5.2.2.2.2.1, s5.2.2.2.2.2.1, s5.2.2.2.2.2.2.1, s5.2.2.2.2.2.2.2))) ∧
 ((gB s5.2.2.2.2.2.2.1 (gI s5.2.2.2.2.2.2.2 s5.1)) = false →
 ((inB (gI s5.2.2.2.2.2.2.2 s5.1) (List.length s5.2.2.2.2.2.2.1)) ∧
 ((inB (gI s5.2.2.2.2.2.2.2 s5.1) (List.length s5.2.1)) ∧
 ((inB (gI s5.2.2.2.2.2.2.2 s5.1) (List.length s5.2.2.1)) ∧
 ((List.length s5.2.2.2.2.2.2.2 + List.length ([(gI s5.2.1 (gI s5.2.2.2.2.2.2.2 s5.1)), (gI s5.2.2.1 (gI s5.2.2.2.2.2.2.2 s5.1))] : List Int) ≤ 2 ^ 36) ∧
 (let v6 : List Int := (s5.2.2.2.2.2.2.2 ++ [(gI s5.2.1 (gI s5.2.2.2.2.2.2.2 s5.1)), (gI s5.2.2.1 (gI s5.2.2.2.2.2.2.2 s5.1))]);
 (Kb5 ((iadd s5.1 1), s5.2.1, s5.2.2.1, s5.2.2.2.1, s5.2.2.2.2.1, s5.2.2.2.2.2.1, (uL s5.2.2.2.2.2.2.1 (gI s5.2.2.2.2.2.2.2 s5.1) true), v6))))))))))))))))) ∧
 ((decide (s5.1 < (len s5.2.2.2.2.2.2.2))) = false →
 (Kx5 (s5.1, s5.2.1, s5.2.2.1, s5.2.2.2.1, s5.2.2.2.2.1, s5.2.2.2.2.2.1, s5.2.2.2.2.2.2.1, s5.2.2.2.2.2.2.2)))))
 (0, s3.2.2.2.1, s3.2.2.2.2.1, s3.2.2.2.2.2.1, s3.2.2.2.2.2.2.1, s3.2.2.2.2.2.2.2.1, s3.2.2.2.2.2.2.2.2.1, s3.2.2.2.2.2.2.2.2.2) fun s5 =>
 (LoopP (S := Int × Int × List Int × List Bool) (fun s7 Kb7 Kx7 =>
 (((decide (s7.2.1 < s7.1)) = true →
 ((inB s7.2.1 (List.length s7.2.2.2)) ∧
 (((gB s7.2.2.2 s7.2.1) = true →
 ((List.length s7.2.2.1 + List.length ([s7.2.1] : List Int) ≤ 2 ^ 36) ∧
 (Kb7 (s7.1, (iadd s7.2.1 1), (s7.2.2.1 ++ [s7.2.1]), s7.2.2.2)))) ∧
 ((gB s7.2.2.2 s7.2.1) = false →
 (Kb7 (s7.1, (iadd s7.2.1 1), s7.2.2.1, s7.2.2.2)))))) ∧
 ((decide (s7.2.1 < s7.1)) = false →
 (Kx7 (s7.1, s7.2.1, s7.2.2.1, s7.2.2.2)))))
 ((len s5.2.2.2.2.2.2.1), 0, [], s5.2.2.2.2.2.2.1) fun s7 =>
 (K s7.2.2.1)))))))))
/-! slices.Clone[[]bool,bool] -/
def M_Clone_bool (p1 : List Bool) (K : (List Bool) → Prop) : Prop :=
 (∀ b1 : Bool, ((List.length p1 : Nat) ≠ 0 → b1 = false) →
 ((b1 = true →
 (K [])) ∧
 (b1 = false →
 (((List.length p1 : Nat) ≤ 2 ^ 36) ∧
 (K p1)))))
/-! impl.SmallCollect -/
def Mi_SmallCollect (p1 : List Int) (p2 : List Int) (p3 : List Int) (p4 : List Bool) (p5 : List Int) (K : Bool → (List Int) → (List Int) → (List Int) → (List Bool) → (List Int) → (List Int) → Prop) : Prop :=
 (Mi_GensValid p1 p2 p3 p4 p5 fun (y1 : Bool) =>
 (((!y1) = true →
 (K false [] [] [] [] [] [])) ∧
 ((!y1) = false →
 (Mi_YoungKept p1 p2 p3 p4 p5 fun (y2 : List Int) =>
 (Mi_copied p1 p2 p3 fun (y3 : List Int) (y4 : List Int) (y5 : List Int) =>
 (M_Clone_bool p4 fun (y6 : List Bool) =>
 (LoopP (S := List Bool × Int × Int × List Int × List Int × List Int × List Int × List Int × List Bool × List Int × List Int × List Int × List Int × List Bool × List Int) (fun s7 Kb7 Kx7 =>
 (((decide (s7.2.2.1 < s7.2.1)) = true →
 (let j11 := fun (z10 : List Bool) =>
 (Kb7 (s7.1, s7.2.1, (iadd s7.2.2.1 1), s7.2.2.2.1, s7.2.2.2.2.1, s7.2.2.2.2.2.1, s7.2.2.2.2.2.2.1, s7.2.2.2.2.2.2.2.1, s7.2.2.2.2.2.2.2.2.1, s7.2.2.2.2.2.2.2.2.2.1, s7.2.2.2.2.2.2.2.2.2.2.1, s7.2.2.2.2.2.2.2.2.2.2.2.1, s7.2.2.2.2.2.2.2.2.2.2.2.2.1, z10, s7.2.2.2.2.2.2.2.2.2.2.2.2.2.2));
 ((inB s7.2.2.1 (List.length s7.1)) ∧
 (((gB s7.1 s7.2.2.1) = true →
 (j11 s7.2.2.2.2.2.2.2.2.2.2.2.2.2.1)) ∧
 ((gB s7.1 s7.2.2.1) = false →
 (M_Contains_int s7.2.2.2.1 s7.2.2.1 fun (y8 : Bool) =>
 ((y8 = true →
 ((inB s7.2.2.1 (List.length s7.2.2.2.2.2.2.2.2.2.2.2.2.2.1)) ∧
 (j11 (uL s7.2.2.2.2.2.2.2.2.2.2.2.2.2.1 s7.2.2.1 true)))) ∧
 (y8 = false →
 ((inB s7.2.2.1 (List.length s7.2.2.2.2.2.2.2.2.2.2.1)) ∧
 ((inB s7.2.2.1 (List.length s7.2.2.2.2.2.2.2.2.2.2.2.1)) ∧
 ((List.length s7.2.2.2.2.1 + List.length ([s7.2.2.1] : List Int) ≤ 2 ^ 36) ∧
 (Kb7 (s7.1, s7.2.1, (iadd s7.2.2.1 1), s7.2.2.2.1, (s7.2.2.2.2.1 ++ [s7.2.2.1]), s7.2.2.2.2.2.1, s7.2.2.2.2.2.2.1, s7.2.2.2.2.2.2.2.1, s7.2.2.2.2.2.2.2.2.1, s7.2.2.2.2.2.2.2.2.2.1, (uL s7.2.2.2.2.2.2.2.2.2.2.1 s7.2.2.1 (-1)), (uL s7.2.2.2.2.2.2.2.2.2.2.2.1 s7.2.2.1 (-1)), s7.2.2.2.2.2.2.2.2.2.2.2.2.1, s7.2.2.2.2.2.2.2.2.2.2.2.2.2.1, s7.2.2.2.2.2.2.2.2.2.2.2.2.2.2))))))))))))) ∧
 ((decide (s7.2.2.1 < s7.2.1)) = false →
 (Kx7 (s7.1, s7.2.1, s7.2.2.1, s7.2.2.2.1, s7.2.2.2.2.1, s7.2.2.2.2.2.1, s7.2.2.2.2.2.2.1, s7.2.2.2.2.2.2.2.1, s7.2.2.2.2.2.2.2.2.1, s7.2.2.2.2.2.2.2.2.2.1, s7.2.2.2.2.2.2.2.2.2.2.1, s7.2.2.2.2.2.2.2.2.2.2.2.1, s7.2.2.2.2.2.2.2.2.2.2.2.2.1, s7.2.2.2.2.2.2.2.2.2.2.2.2.2.1, s7.2.2.2.2.2.2.2.2.2.2.2.2.2.2)))))
 (p4, (len p4), 0, y2, [], [], [], [], [], [], y3, y4, y5, y6, []) fun s7 =>
 (Mi_remembered s7.2.2.2.2.2.2.2.2.2.2.1 s7.2.2.2.2.2.2.2.2.2.2.2.1 s7.2.2.2.2.2.2.2.2.2.2.2.2.1 s7.2.2.2.2.2.2.2.2.2.2.2.2.2.1 fun (y12 : List Int) =>
 (K true s7.2.2.2.2.2.2.2.2.2.2.1 s7.2.2.2.2.2.2.2.2.2.2.2.1 s7.2.2.2.2.2.2.2.2.2.2.2.2.1 s7.2.2.2.2.2.2.2.2.2.2.2.2.2.1 y12 s7.2.2.2.2.1)))))))))
/-! spec.l1Ints -/
def Ms_l1Ints (p1 : List Int) (p2 : List Int) (K : Bool → Prop) : Prop :=
 ((((len p1) != (len p2)) = true →
 (K false)) ∧
 (((len p1) != (len p2)) = false →
 (LoopP (S := List Int × List Int × Int) (fun s1 Kb1 Kx1 =>
 (((decide (s1.2.2 < (len s1.1))) = true →
 ((inB s1.2.2 (List.length s1.1)) ∧
 ((inB s1.2.2 (List.length s1.2.1)) ∧
 ((((gI s1.1 s1.2.2) != (gI s1.2.1 s1.2.2)) = true →
 (K false)) ∧
 (((gI s1.1 s1.2.2) != (gI s1.2.1 s1.2.2)) = false →
 (Kb1 (s1.1, s1.2.1, (iadd s1.2.2 1)))))))) ∧
 ((decide (s1.2.2 < (len s1.1))) = false →
 (Kx1 (s1.1, s1.2.1, s1.2.2)))))
 (p1, p2, 0) fun s1 =>
 (K true))))
/-! spec.GensValid -/
def Ms_GensValid (p1 : List Int) (p2 : List Int) (p3 : List Int) (p4 : List Bool) (p5 : List Int) (K : Bool → Prop) : Prop :=
 (Ms_HeapValid p1 p2 p3 fun (y1 : Bool) =>
 ((y1 = true →
 ((((len p4) == (len p1)) = true →
 (Ms_l11Remember p1 p2 p3 p4 fun (y2 : List Int) =>
 (Ms_l1Ints p5 y2 fun (y3 : Bool) =>
 (K y3)))) ∧
 (((len p4) == (len p1)) = false →
 (K false)))) ∧
 (y1 = false →
 (K false))))
/-! spec.l11Kept -/
def Ms_l11Kept (p1 : List Int) (p2 : List Int) (p3 : List Int) (p4 : List Bool) (p5 : List Int) (K : (List Bool) → Prop) : Prop :=
 (((List.length p3 : Nat) ≤ 2 ^ 36) ∧
 (LoopP (S := Int × List Int × List Int × List Int × List Bool × List Int × List Int) (fun s1 Kb1 Kx1 =>
 (((decide (s1.1 < (len s1.2.2.2.2.2.1))) = true →
 ((inB s1.1 (List.length s1.2.2.2.2.2.1)) ∧
 ((inB (gI s1.2.2.2.2.2.1 s1.1) (List.length s1.2.1)) ∧
 ((inB s1.1 (List.length s1.2.2.2.2.2.1)) ∧
 ((inB (gI s1.2.2.2.2.2.1 s1.1) (List.length s1.2.2.1)) ∧
 ((List.length s1.2.2.2.2.2.2 + List.length ([(gI s1.2.1 (gI s1.2.2.2.2.2.1 s1.1)), (gI s1.2.2.1 (gI s1.2.2.2.2.2.1 s1.1))] : List Int) ≤ 2 ^ 36) ∧
 (let v2 : List Int := (s1.2.2.2.2.2.2 ++ [(gI s1.2.1 (gI s1.2.2.2.2.2.1 s1.1)), (gI s1.2.2.1 (gI s1.2.2.2.2.2.1 s1.1))]);
 (Kb1 ((iadd s1.1 1), s1.2.1, s1.2.2.1, s1.2.2.2.1, s1.2.2.2.2.1, s1.2.2.2.2.2.1, v2))))))))) ∧
 ((decide (s1.1 < (len s1.2.2.2.2.2.1))) = false →
 (Kx1 (s1.1, s1.2.1, s1.2.2.1, s1.2.2.2.1, s1.2.2.2.2.1, s1.2.2.2.2.2.1, s1.2.2.2.2.2.2)))))
 (0, p1, p2, p3, p4, p5, p3) fun s1 =>
 ((0 ≤ (len s1.2.2.2.2.1) ∧ (len s1.2.2.2.2.1) = (len s1.2.2.2.2.1) ∧ (len s1.2.2.2.2.1) ≤ 2 ^ 36) ∧
 (LoopP (S := Int × List Int × List Int × List Int × List Bool × List Int × List Int × List Bool) (fun s3 Kb3 Kx3 =>
 (((decide (s3.1 < (len s3.2.2.2.2.2.2.1))) = true →
 ((inB s3.1 (List.length s3.2.2.2.2.2.2.1)) ∧
 (Ms_l11Young s3.2.2.2.2.1 (gI s3.2.2.2.2.2.2.1 s3.1) fun (y4 : Bool) =>
 (((!y4) = true →
 (Kb3 ((iadd s3.1 1), s3.2.1, s3.2.2.1, s3.2.2.2.1, s3.2.2.2.2.1, s3.2.2.2.2.2.1, s3.2.2.2.2.2.2.1, s3.2.2.2.2.2.2.2))) ∧
 ((!y4) = false →
 ((inB (gI s3.2.2.2.2.2.2.1 s3.1) (List.length s3.2.2.2.2.2.2.2)) ∧
 (((gB s3.2.2.2.2.2.2.2 (gI s3.2.2.2.2.2.2.1 s3.1)) = true →
 (Kb3 ((iadd s3.1 1), s3.2.1, s3.2.2.1, s3.2.2.2.1, s3.2.2.2.2.1, s3.2.2.2.2.2.1, s3.2.2.2.2.2.2.1, s3.2.2.2.2.2.2.2))) ∧
 ((gB s3.2.2.2.2.2.2.2 (gI s3.2.2.2.2.2.2.1 s3.1)) = false →
 ((inB (gI s3.2.2.2.2.2.2.1 s3.1) (List.length s3.2.2.2.2.2.2.2)) ∧
 ((inB (gI s3.2.2.2.2.2.2.1 s3.1) (List.length s3.2.1)) ∧
 ((inB (gI s3.2.2.2.2.2.2.1 s3.1) (List.length s3.2.2.1)) ∧
 ((List.length s3.2.2.2.2.2.2.1 + List.length ([(gI s3.2.1 (gI s3.2.2.2.2.2.2.1 s3.1)), (gI s3.2.2.1 (gI s3.2.2.2.2.2.2.1 s3.1))] : List Int) ≤ 2 ^ 36) ∧
 (let v5 : List Int := (s3.2.2.2.2.2.2.1 ++ [(gI s3.2.1 (gI s3.2.2.2.2.2.2.1 s3.1)), (gI s3.2.2.1 (gI s3.2.2.2.2.2.2.1 s3.1))]);
 (Kb3 ((iadd s3.1 1), s3.2.1, s3.2.2.1, s3.2.2.2.1, s3.2.2.2.2.1, s3.2.2.2.2.2.1, v5, (uL s3.2.2.2.2.2.2.2 (gI s3.2.2.2.2.2.2.1 s3.1) true)))))))))))))))) ∧
 ((decide (s3.1 < (len s3.2.2.2.2.2.2.1))) = false →
 (Kx3 (s3.1, s3.2.1, s3.2.2.1, s3.2.2.2.1, s3.2.2.2.2.1, s3.2.2.2.2.2.1, s3.2.2.2.2.2.2.1, s3.2.2.2.2.2.2.2)))))
 (0, s1.2.1, s1.2.2.1, s1.2.2.2.1, s1.2.2.2.2.1, s1.2.2.2.2.2.1, s1.2.2.2.2.2.2, (List.replicate (Int.toNat (len s1.2.2.2.2.1)) false)) fun s3 =>
 (K s3.2.2.2.2.2.2.2)))))
/-! spec.SmallCollect -/
def Ms_SmallCollect (p1 : List Int) (p2 : List Int) (p3 : List Int) (p4 : List Bool) (p5 : List Int) (K : Bool → (List Int) → (List Int) → (List Int) → (List Bool) → (List Int) → (List Int) → Prop) : Prop :=
 (Ms_GensValid p1 p2 p3 p4 p5 fun (y1 : Bool) =>
 (((!y1) = true →
 (K false [] [] [] [] [] [])) ∧
 ((!y1) = false →
 (Ms_l11Kept p1 p2 p3 p4 p5 fun (y2 : List Bool) =>
 (Ms_l1Copy p1 p2 p3 <|
 (((List.length p4 : Nat) ≤ 2 ^ 36) ∧
 (LoopP (S := Int × List Int × List Int × List Int × List Bool × List Int × List Int × List Bool × List Int × List Int × List Int × List Bool × List Int × List Int × List Int × List Int × List Bool × List Int) (fun s3 Kb3 Kx3 =>
 (((decide (s3.1 < (len s3.2.2.2.2.2.2.2.1))) = true →
 (let j9 := fun (z8 : List Bool) =>
 (Kb3 ((iadd s3.1 1), s3.2.1, s3.2.2.1, s3.2.2.2.1, s3.2.2.2.2.1, s3.2.2.2.2.2.1, s3.2.2.2.2.2.2.1, s3.2.2.2.2.2.2.2.1, s3.2.2.2.2.2.2.2.2.1, s3.2.2.2.2.2.2.2.2.2.1, s3.2.2.2.2.2.2.2.2.2.2.1, s3.2.2.2.2.2.2.2.2.2.2.2.1, s3.2.2.2.2.2.2.2.2.2.2.2.2.1, s3.2.2.2.2.2.2.2.2.2.2.2.2.2.1, s3.2.2.2.2.2.2.2.2.2.2.2.2.2.2.1, s3.2.2.2.2.2.2.2.2.2.2.2.2.2.2.2.1, z8, s3.2.2.2.2.2.2.2.2.2.2.2.2.2.2.2.2.2));
 (let j6 := fun (z5 : List Bool) =>
 ((inB s3.1 (List.length s3.2.2.2.2.2.2.2.1)) ∧
 (((!(gB s3.2.2.2.2.2.2.2.1 s3.1)) = true →
 ((inB s3.1 (List.length s3.2.2.2.2.1)) ∧
 (((!(gB s3.2.2.2.2.1 s3.1)) = true →
 ((List.length s3.2.2.2.2.2.2.1 + List.length ([s3.1] : List Int) ≤ 2 ^ 36) ∧
 ((inB s3.1 (List.length s3.2.2.2.2.2.2.2.2.2.2.2.2.2.1)) ∧
 ((inB s3.1 (List.length s3.2.2.2.2.2.2.2.2.2.2.2.2.2.2.1)) ∧
 (Kb3 ((iadd s3.1 1), s3.2.1, s3.2.2.1, s3.2.2.2.1, s3.2.2.2.2.1, s3.2.2.2.2.2.1, (s3.2.2.2.2.2.2.1 ++ [s3.1]), s3.2.2.2.2.2.2.2.1, s3.2.2.2.2.2.2.2.2.1, s3.2.2.2.2.2.2.2.2.2.1, s3.2.2.2.2.2.2.2.2.2.2.1, s3.2.2.2.2.2.2.2.2.2.2.2.1, s3.2.2.2.2.2.2.2.2.2.2.2.2.1, (uL s3.2.2.2.2.2.2.2.2.2.2.2.2.2.1 s3.1 (-1)), (uL s3.2.2.2.2.2.2.2.2.2.2.2.2.2.2.1 s3.1 (-1)), s3.2.2.2.2.2.2.2.2.2.2.2.2.2.2.2.1, z5, s3.2.2.2.2.2.2.2.2.2.2.2.2.2.2.2.2.2)))))) ∧
 ((!(gB s3.2.2.2.2.1 s3.1)) = false →
 (j9 z5))))) ∧
 ((!(gB s3.2.2.2.2.2.2.2.1 s3.1)) = false →
 (j9 z5))));
 ((inB s3.1 (List.length s3.2.2.2.2.2.2.2.1)) ∧
 (((gB s3.2.2.2.2.2.2.2.1 s3.1) = true →
 ((inB s3.1 (List.length s3.2.2.2.2.2.2.2.2.2.2.2.2.2.2.2.2.1)) ∧
 (j6 (uL s3.2.2.2.2.2.2.2.2.2.2.2.2.2.2.2.2.1 s3.1 true)))) ∧
 ((gB s3.2.2.2.2.2.2.2.1 s3.1) = false →
 (j6 s3.2.2.2.2.2.2.2.2.2.2.2.2.2.2.2.2.1))))))) ∧
 ((decide (s3.1 < (len s3.2.2.2.2.2.2.2.1))) = false →
 (Kx3 (s3.1, s3.2.1, s3.2.2.1, s3.2.2.2.1, s3.2.2.2.2.1, s3.2.2.2.2.2.1, s3.2.2.2.2.2.2.1, s3.2.2.2.2.2.2.2.1, s3.2.2.2.2.2.2.2.2.1, s3.2.2.2.2.2.2.2.2.2.1, s3.2.2.2.2.2.2.2.2.2.2.1, s3.2.2.2.2.2.2.2.2.2.2.2.1, s3.2.2.2.2.2.2.2.2.2.2.2.2.1, s3.2.2.2.2.2.2.2.2.2.2.2.2.2.1, s3.2.2.2.2.2.2.2.2.2.2.2.2.2.2.1, s3.2.2.2.2.2.2.2.2.2.2.2.2.2.2.2.1, s3.2.2.2.2.2.2.2.2.2.2.2.2.2.2.2.2.1, s3.2.2.2.2.2.2.2.2.2.2.2.2.2.2.2.2.2)))))
 (0, p1, p2, p3, p4, p5, [], y2, [], [], [], [], [], p1, p2, p3, p4, []) fun s3 =>
 (Ms_l11Remember s3.2.2.2.2.2.2.2.2.2.2.2.2.2.1 s3.2.2.2.2.2.2.2.2.2.2.2.2.2.2.1 s3.2.2.2.2.2.2.2.2.2.2.2.2.2.2.2.1 s3.2.2.2.2.2.2.2.2.2.2.2.2.2.2.2.2.1 fun (y10 : List Int) =>
 (K true s3.2.2.2.2.2.2.2.2.2.2.2.2.2.1 s3.2.2.2.2.2.2.2.2.2.2.2.2.2.2.1 s3.2.2.2.2.2.2.2.2.2.2.2.2.2.2.2.1 s3.2.2.2.2.2.2.2.2.2.2.2.2.2.2.2.2.1 y10 s3.2.2.2.2.2.2.1)))))))))
/-! slices.Equal[[]bool,bool] -/
def M_Equal_bool (p1 : List Bool) (p2 : List Bool) (K : Bool → Prop) : Prop :=
 ((((len p1) != (len p2)) = true →
 (K false)) ∧
 (((len p1) != (len p2)) = false →
 (LoopP (S := List Bool × List Bool × Int × Int) (fun s1 Kb1 Kx1 =>
 (((decide (s1.2.2.2 < s1.2.2.1)) = true →
 ((inB s1.2.2.2 (List.length s1.1)) ∧
 ((inB s1.2.2.2 (List.length s1.2.1)) ∧
 (((!((gB s1.1 s1.2.2.2) == (gB s1.2.1 s1.2.2.2))) = true →
 (K false)) ∧
 ((!((gB s1.1 s1.2.2.2) == (gB s1.2.1 s1.2.2.2))) = false →
 (Kb1 (s1.1, s1.2.1, s1.2.2.1, (iadd s1.2.2.2 1)))))))) ∧
 ((decide (s1.2.2.2 < s1.2.2.1)) = false →
 (Kx1 (s1.1, s1.2.1, s1.2.2.1, s1.2.2.2)))))
 (p1, p2, (len p1), 0) fun s1 =>
 (K true))))
/-! impl.GensSame -/
def Mi_GensSame (p1 : List Int) (p2 : List Int) (p3 : List Int) (p4 : List Bool) (p5 : List Int) (p6 : List Int) (p7 : List Int) (p8 : List Int) (p9 : List Bool) (p10 : List Int) (K : Bool → Prop) : Prop :=
 (Mi_HeapSame p1 p2 p3 p6 p7 p8 fun (y1 : Bool) =>
 ((y1 = true →
 (M_Equal_bool p4 p9 fun (y2 : Bool) =>
 ((y2 = true →
 (M_Equal_int p5 p10 fun (y3 : Bool) =>
 (K y3))) ∧
 (y2 = false →
 (K false))))) ∧
 (y1 = false →
 (K false))))
/-! laws.ccBools -/
def Ml_ccBools (p1 : List Bool) (p2 : List Bool) (K : Bool → Prop) : Prop :=
 ((((len p1) != (len p2)) = true →
 (K false)) ∧
 (((len p1) != (len p2)) = false →
 (LoopP (S := List Bool × List Bool × Int) (fun s1 Kb1 Kx1 =>
 (((decide (s1.2.2 < (len s1.1))) = true →
 ((inB s1.2.2 (List.length s1.1)) ∧
 ((inB s1.2.2 (List.length s1.2.1)) ∧
 (((!((gB s1.1 s1.2.2) == (gB s1.2.1 s1.2.2))) = true →
 (K false)) ∧
 ((!((gB s1.1 s1.2.2) == (gB s1.2.1 s1.2.2))) = false →
 (Kb1 (s1.1, s1.2.1, (iadd s1.2.2 1)))))))) ∧
 ((decide (s1.2.2 < (len s1.1))) = false →
 (Kx1 (s1.1, s1.2.1, s1.2.2)))))
 (p1, p2, 0) fun s1 =>
 (K true))))
/-! laws.FnSmallCollect -/
def Ml_FnSmallCollect (p1 : List Int) (K : Bool → Prop) : Prop :=
 (((decide ((len p1) > 1048576)) = true →
 (K true)) ∧
 ((decide ((len p1) > 1048576)) = false →
 (Ms_DrawSmallCollect p1 fun (y1 : List Int) (y2 : List Int) (y3 : List Int) (y4 : List Bool) (y5 : List Int) =>
 (Mi_SmallCollect y1 y2 y3 y4 y5 fun (y6 : Bool) (y7 : List Int) (y8 : List Int) (y9 : List Int) (y10 : List Bool) (y11 : List Int) (y12 : List Int) =>
 (Ms_SmallCollect y1 y2 y3 y4 y5 fun (y13 : Bool) (y14 : List Int) (y15 : List Int) (y16 : List Int) (y17 : List Bool) (y18 : List Int) (y19 : List Int) =>
 (Mi_GensSame y7 y8 y9 y10 y11 y14 y15 y16 y17 y18 fun (y20 : Bool) =>
 (((!y20) = true →
 (Mi_GensSame y7 y8 y9 y10 y11 y14 y15 y16 y17 y18 fun (y21 : Bool) =>
 ((y21 = true →
 (Ml_ccInts y12 y19 fun (y22 : Bool) =>
 ((y22 = true →
 (K (y6 == y13))) ∧
 (y22 = false →
 (K false))))) ∧
 (y21 = false →
 (K false))))) ∧
 ((!y20) = false →
 (Ml_ccInts y12 y19 fun (y23 : Bool) =>
 (((!y23) = true →
 (Mi_GensSame y7 y8 y9 y10 y11 y14 y15 y16 y17 y18 fun (y24 : Bool) =>
 ((y24 = true →
 (Ml_ccInts y12 y19 fun (y25 : Bool) =>
 ((y25 = true →
 (K (y6 == y13))) ∧
 (y25 = false →
 (K false))))) ∧
 (y24 = false →
 (K false))))) ∧
 ((!y23) = false →
 (((!(y6 == y13)) = true →
 (Mi_GensSame y7 y8 y9 y10 y11 y14 y15 y16 y17 y18 fun (y26 : Bool) =>
 ((y26 = true →
 (Ml_ccInts y12 y19 fun (y27 : Bool) =>
 ((y27 = true →
 (K (y6 == y13))) ∧
 (y27 = false →
 (K false))))) ∧
 (y26 = false →
 (K false))))) ∧
 ((!(y6 == y13)) = false →
 (((!y6) = true →
 (Mi_GensSame y7 y8 y9 y10 y11 y14 y15 y16 y17 y18 fun (y28 : Bool) =>
 ((y28 = true →
 (Ml_ccInts y12 y19 fun (y29 : Bool) =>
 ((y29 = true →
 (K (y6 == y13))) ∧
 (y29 = false →
 (K false))))) ∧
 (y28 = false →
 (K false))))) ∧
 ((!y6) = false →
 (Mi_Reachable y1 y2 y3 fun (y30 : List Bool) =>
 (Mi_Reachable y7 y8 y9 fun (y31 : List Bool) =>
 (LoopP (S := Int × List Int × List Bool × List Bool × List Int × List Int × List Int × List Bool × List Int × List Int × List Int × List Int × List Bool × List Int) (fun s32 Kb32 Kx32 =>
 (((decide (s32.1 < (len s32.2.1))) = true →
 ((inB s32.1 (List.length s32.2.1)) ∧
 ((inB (gI s32.2.1 s32.1) (List.length s32.2.2.1)) ∧
 (((gB s32.2.2.1 (gI s32.2.1 s32.1)) = true →
 (K false)) ∧
 ((gB s32.2.2.1 (gI s32.2.1 s32.1)) = false →
 ((inB s32.1 (List.length s32.2.1)) ∧
 ((inB (gI s32.2.1 s32.1) (List.length s32.2.2.2.2.2.2.2.1)) ∧
 (((gB s32.2.2.2.2.2.2.2.1 (gI s32.2.1 s32.1)) = true →
 (K false)) ∧
 ((gB s32.2.2.2.2.2.2.2.1 (gI s32.2.1 s32.1)) = false →
 ((inB s32.1 (List.length s32.2.1)) ∧
 ((inB (gI s32.2.1 s32.1) (List.length s32.2.2.2.2.2.2.2.2.2.2.2.2.1)) ∧
 (((gB s32.2.2.2.2.2.2.2.2.2.2.2.2.1 (gI s32.2.1 s32.1)) = true →
 (K false)) ∧
 ((gB s32.2.2.2.2.2.2.2.2.2.2.2.2.1 (gI s32.2.1 s32.1)) = false →
 (Kb32 ((iadd s32.1 1), s32.2.1, s32.2.2.1, s32.2.2.2.1, s32.2.2.2.2.1, s32.2.2.2.2.2.1, s32.2.2.2.2.2.2.1, s32.2.2.2.2.2.2.2.1, s32.2.2.2.2.2.2.2.2.1, s32.2.2.2.2.2.2.2.2.2.1, s32.2.2.2.2.2.2.2.2.2.2.1, s32.2.2.2.2.2.2.2.2.2.2.2.1, s32.2.2.2.2.2.2.2.2.2.2.2.2.1, s32.2.2.2.2.2.2.2.2.2.2.2.2.2))))))))))))))) ∧
 ((decide (s32.1 < (len s32.2.1))) = false →
 (Kx32 (s32.1, s32.2.1, s32.2.2.1, s32.2.2.2.1, s32.2.2.2.2.1, s32.2.2.2.2.2.1, s32.2.2.2.2.2.2.1, s32.2.2.2.2.2.2.2.1, s32.2.2.2.2.2.2.2.2.1, s32.2.2.2.2.2.2.2.2.2.1, s32.2.2.2.2.2.2.2.2.2.2.1, s32.2.2.2.2.2.2.2.2.2.2.2.1, s32.2.2.2.2.2.2.2.2.2.2.2.2.1, s32.2.2.2.2.2.2.2.2.2.2.2.2.2)))))
 (0, y12, y30, y31, y1, y2, y3, y4, y5, y7, y8, y9, y10, y11) fun s32 =>
 (Mi_GensValid s32.2.2.2.2.2.2.2.2.2.1 s32.2.2.2.2.2.2.2.2.2.2.1 s32.2.2.2.2.2.2.2.2.2.2.2.1 s32.2.2.2.2.2.2.2.2.2.2.2.2.1 s32.2.2.2.2.2.2.2.2.2.2.2.2.2 fun (y33 : Bool) =>
 ((y33 = true →
 (Ml_ccBools s32.2.2.1 s32.2.2.2.1 fun (y34 : Bool) =>
 ((y34 = true →
 (Mi_HeapsAlike s32.2.2.2.2.1 s32.2.2.2.2.2.1 s32.2.2.2.2.2.2.1 s32.2.2.2.2.2.2.2.2.2.1 s32.2.2.2.2.2.2.2.2.2.2.1 s32.2.2.2.2.2.2.2.2.2.2.2.1 fun (y35 : Bool) =>
 (K y35))) ∧
 (y34 = false →
 (K false))))) ∧
 (y33 = false →
 (K false))))))))))))))))))))))
/-! spec.NewStore -/
def Ms_NewStore (p1 : Int) (p2 : Int) (K : Bool → (List Int) → (List Int) → (List Int) → (List Int) → Prop) : Prop :=
 (Ms_NewHeap p1 p2 fun (y1 : Bool) (y2 : List Int) (y3 : List Int) (y4 : List Int) =>
 (((!y1) = true →
 (K false [] [] [] [])) ∧
 ((!y1) = false →
 (LoopP (S := Int × Int × List Int × List Int × List Int × List Int × List Int × List Int × List Int × List Int) (fun s5 Kb5 Kx5 =>
 (((decide (s5.2.1 < s5.1)) = true →
 ((List.length s5.2.2.2.2.2.2.2.2.2 + List.length ([s5.2.1] : List Int) ≤ 2 ^ 36) ∧
 (Kb5 (s5.1, (iadd s5.2.1 1), s5.2.2.1, s5.2.2.2.1, s5.2.2.2.2.1, s5.2.2.2.2.2.1, s5.2.2.2.2.2.2.1, s5.2.2.2.2.2.2.2.1, s5.2.2.2.2.2.2.2.2.1, (s5.2.2.2.2.2.2.2.2.2 ++ [s5.2.1]))))) ∧
 ((decide (s5.2.1 < s5.1)) = false →
 (Kx5 (s5.1, s5.2.1, s5.2.2.1, s5.2.2.2.1, s5.2.2.2.2.1, s5.2.2.2.2.2.1, s5.2.2.2.2.2.2.1, s5.2.2.2.2.2.2.2.1, s5.2.2.2.2.2.2.2.2.1, s5.2.2.2.2.2.2.2.2.2)))))
 (p1, 0, [], [], [], [], y2, y3, y4, []) fun s5 =>
 (K true s5.2.2.2.2.2.2.1 s5.2.2.2.2.2.2.2.1 s5.2.2.2.2.2.2.2.2.1 s5.2.2.2.2.2.2.2.2.2)))))
/-! spec.l4At -/
def Ms_l4At (p1 : List Int) (p2 : Int) (K : Int → Prop) : Prop :=
 (LoopP (S := List Int × Int × Int) (fun s1 Kb1 Kx1 =>
 (((decide (s1.2.2 < (len s1.1))) = true →
 ((inB s1.2.2 (List.length s1.1)) ∧
 ((((gI s1.1 s1.2.2) == s1.2.1) = true →
 (K s1.2.2)) ∧
 (((gI s1.1 s1.2.2) == s1.2.1) = false →
 (Kb1 (s1.1, s1.2.1, (iadd s1.2.2 1))))))) ∧
 ((decide (s1.2.2 < (len s1.1))) = false →
 (Kx1 (s1.1, s1.2.1, s1.2.2)))))
 (p1, p2, 0) fun s1 =>
 (K (-1)))
/-! spec.l4Free -/
def Ms_l4Free (p1 : List Int) (p2 : List Int) (p3 : List Int) (p4 : Int) (K : Bool → Prop) : Prop :=
 (((decide (p4 ≥ 0)) = true →
 (((decide (p4 < (len p1))) = true →
 ((inB p4 (List.length p1)) ∧
 ((((gI p1 p4) == (-1)) = true →
 ((inB p4 (List.length p2)) ∧
 ((((gI p2 p4) == (-1)) = true →
 (Ms_l4At p1 p4 fun (y1 : Int) =>
 (((decide (y1 < 0)) = true →
 (Ms_l4At p2 p4 fun (y2 : Int) =>
 (((decide (y2 < 0)) = true →
 (Ms_l4At p3 p4 fun (y3 : Int) =>
 (K (decide (y3 < 0))))) ∧
 ((decide (y2 < 0)) = false →
 (K false))))) ∧
 ((decide (y1 < 0)) = false →
 (K false))))) ∧
 (((gI p2 p4) == (-1)) = false →
 (K false))))) ∧
 (((gI p1 p4) == (-1)) = false →
 (K false))))) ∧
 ((decide (p4 < (len p1))) = false →
 (K false)))) ∧
 ((decide (p4 ≥ 0)) = false →
 (K false)))
/-! spec.StoreValid -/
def Ms_StoreValid (p1 : List Int) (p2 : List Int) (p3 : List Int) (p4 : List Int) (K : Bool → Prop) : Prop :=
 (Ms_HeapValid p1 p2 p3 fun (y1 : Bool) =>
 (((!y1) = true →
 (K false)) ∧
 ((!y1) = false →
 (((decide ((len p4) > (len p1))) = true →
 (K false)) ∧
 ((decide ((len p4) > (len p1))) = false →
 (LoopP (S := Int × List Int × List Int × List Int × List Int) (fun s2 Kb2 Kx2 =>
 (((decide (s2.1 < (len s2.2.2.2.2))) = true →
 ((inB s2.1 (List.length s2.2.2.2.2)) ∧
 (Ms_l4Free s2.2.1 s2.2.2.1 s2.2.2.2.1 (gI s2.2.2.2.2 s2.1) fun (y3 : Bool) =>
 (((!y3) = true →
 (K false)) ∧
 ((!y3) = false →
 (((0 : Int) ≤ (0 : Int) ∧ (0 : Int) ≤ s2.1 ∧ s2.1 ≤ len s2.2.2.2.2) ∧
 ((inB s2.1 (List.length s2.2.2.2.2)) ∧
 (Ms_l4At (sub s2.2.2.2.2 (0 : Int) s2.1) (gI s2.2.2.2.2 s2.1) fun (y4 : Int) =>
 (((decide (y4 ≥ 0)) = true →
 (K false)) ∧
 ((decide (y4 ≥ 0)) = false →
 (Kb2 ((iadd s2.1 1), s2.2.1, s2.2.2.1, s2.2.2.2.1, s2.2.2.2.2)))))))))))) ∧
 ((decide (s2.1 < (len s2.2.2.2.2))) = false →
 (Kx2 (s2.1, s2.2.1, s2.2.2.1, s2.2.2.2.1, s2.2.2.2.2)))))
 (0, p1, p2, p3, p4) fun s2 =>
 (K true)))))))
/-! spec.l4Copy -/
def Ms_l4Copy (p1 : List Int) (p2 : List Int) (p3 : List Int) (p4 : List Int) (K : Prop) : Prop :=
 (Ms_l1Copy p1 p2 p3 <|
 (((List.length p4 : Nat) ≤ 2 ^ 36) ∧
 K))
/-! spec.l9Copy -/
def Ms_l9Copy (p1 : List Int) (p2 : List Int) (p3 : List Int) (p4 : List Int) (p5 : List Int) (K : Prop) : Prop :=
 (Ms_l4Copy p1 p2 p3 p4 <|
 (((List.length p5 : Nat) ≤ 2 ^ 36) ∧
 K))
/-! spec.l4Wrong -/
def Ms_l4Wrong (p1 : List Int) (p2 : List Int) (p3 : List Int) (p4 : List Int) (p5 : List Int) (p6 : Int) (K : Int → (List Int) → (List Int) → (List Int) → (List Int) → Prop) : Prop :=
 (Ms_l4Copy p1 p2 p3 p4 <|
 (Ms_l13Rd_pick 20 p5 p6 fun (y1 : Int) (y2 : Int) =>
 (((y1 == 0) = true →
 (Ms_l13Rd_num [0, 1, 8, (-1)] p5 y2 fun (y3 : Int) (y4 : Int) =>
 ((List.length p4 + List.length ([y3] : List Int) ≤ 2 ^ 36) ∧
 (K y4 p1 p2 p3 (p4 ++ [y3]))))) ∧
 ((y1 == 0) = false →
 (((y1 == 1) = true →
 (Ms_l1Wrong p5 y2 p1 p2 p3 fun (y5 : Int) (y6 : List Int) (y7 : List Int) (y8 : List Int) =>
 (Ms_l1Wrong p5 y5 y6 y7 y8 fun (y9 : Int) (y10 : List Int) (y11 : List Int) (y12 : List Int) =>
 (K y9 y10 y11 y12 p4)))) ∧
 ((y1 == 1) = false →
 (K y2 p1 p2 p3 p4)))))))
/-! impl.CountsOf -/
def Mi_CountsOf (p1 : List Int) (p2 : List Int) (p3 : List Int) (K : (List Int) → Prop) : Prop :=
 (Mi_HeapValid p1 p2 p3 fun (y1 : Bool) =>
 (((!y1) = true →
 (K [])) ∧
 ((!y1) = false →
 ((0 ≤ (len p1) ∧ (len p1) = (len p1) ∧ (len p1) ≤ 2 ^ 36) ∧
 (M_Concat_int [p1, p2, p3] fun (y2 : List Int) =>
 (LoopP (S := Int × Int × List Int × List Int) (fun s3 Kb3 Kx3 =>
 (((decide (s3.2.1 < s3.1)) = true →
 ((inB s3.2.1 (List.length s3.2.2.2)) ∧
 ((((gI s3.2.2.2 s3.2.1) != (-1)) = true →
 ((inB (gI s3.2.2.2 s3.2.1) (List.length s3.2.2.1)) ∧
 ((inB (gI s3.2.2.2 s3.2.1) (List.length s3.2.2.1)) ∧
 (let v4 : List Int := (uL s3.2.2.1 (gI s3.2.2.2 s3.2.1) (iadd (gI s3.2.2.1 (gI s3.2.2.2 s3.2.1)) 1));
 (Kb3 (s3.1, (iadd s3.2.1 1), v4, s3.2.2.2)))))) ∧
 (((gI s3.2.2.2 s3.2.1) != (-1)) = false →
 (Kb3 (s3.1, (iadd s3.2.1 1), s3.2.2.1, s3.2.2.2)))))) ∧
 ((decide (s3.2.1 < s3.1)) = false →
 (Kx3 (s3.1, s3.2.1, s3.2.2.1, s3.2.2.2)))))
 ((len y2), 0, (List.replicate (Int.toNat (len p1)) (0 : Int)), y2) fun s3 =>
 (K s3.2.2.1)))))))
/-! impl.StoreValid -/
def Mi_StoreValid (p1 : List Int) (p2 : List Int) (p3 : List Int) (p4 : List Int) (K : Bool → Prop) : Prop :=
 (Mi_HeapValid p1 p2 p3 fun (y1 : Bool) =>
 (((!y1) = true →
 (K false)) ∧
 ((!y1) = false →
 (Mi_CountsOf p1 p2 p3 fun (y2 : List Int) =>
 (LoopP (S := List Int × Int × Int × List Int × List Int × List Int × List Int × List Int) (fun s3 Kb3 Kx3 =>
 (((decide (s3.2.2.1 < s3.2.1)) = true →
 ((inB s3.2.2.1 (List.length s3.1)) ∧
 (((decide ((gI s3.1 s3.2.2.1) < 0)) = true →
 (K false)) ∧
 ((decide ((gI s3.1 s3.2.2.1) < 0)) = false →
 (((decide ((gI s3.1 s3.2.2.1) ≥ (len s3.2.2.2.2.2.2.2))) = true →
 (K false)) ∧
 ((decide ((gI s3.1 s3.2.2.1) ≥ (len s3.2.2.2.2.2.2.2))) = false →
 ((inB (gI s3.1 s3.2.2.1) (List.length s3.2.2.2.2.2.2.2)) ∧
 (((decide ((gI s3.2.2.2.2.2.2.2 (gI s3.1 s3.2.2.1)) > 0)) = true →
 (K false)) ∧
 ((decide ((gI s3.2.2.2.2.2.2.2 (gI s3.1 s3.2.2.1)) > 0)) = false →
 ((inB (gI s3.1 s3.2.2.1) (List.length s3.2.2.2.1)) ∧
 ((((gI s3.2.2.2.1 (gI s3.1 s3.2.2.1)) != (-1)) = true →
 (K false)) ∧
 (((gI s3.2.2.2.1 (gI s3.1 s3.2.2.1)) != (-1)) = false →
 ((inB (gI s3.1 s3.2.2.1) (List.length s3.2.2.2.2.1)) ∧
 ((((gI s3.2.2.2.2.1 (gI s3.1 s3.2.2.1)) != (-1)) = true →
 (K false)) ∧
 (((gI s3.2.2.2.2.1 (gI s3.1 s3.2.2.1)) != (-1)) = false →
 (((0 : Int) ≤ (0 : Int) ∧ (0 : Int) ≤ s3.2.2.1 ∧ s3.2.2.1 ≤ len s3.2.2.2.2.2.2.1) ∧
 (M_Contains_int (sub s3.2.2.2.2.2.2.1 (0 : Int) s3.2.2.1) (gI s3.1 s3.2.2.1) fun (y4 : Bool) =>
 ((y4 = true →
 (K false)) ∧
 (y4 = false →
 (Kb3 (s3.1, s3.2.1, (iadd s3.2.2.1 1), s3.2.2.2.1, s3.2.2.2.2.1, s3.2.2.2.2.2.1, s3.2.2.2.2.2.2.1, s3.2.2.2.2.2.2.2))))))))))))))))))))) ∧
 ((decide (s3.2.2.1 < s3.2.1)) = false →
 (Kx3 (s3.1, s3.2.1, s3.2.2.1, s3.2.2.2.1, s3.2.2.2.2.1, s3.2.2.2.2.2.1, s3.2.2.2.2.2.2.1, s3.2.2.2.2.2.2.2)))))
 (p4, (len p4), 0, p1, p2, p3, p4, y2) fun s3 =>
 (K true))))))
/-! impl.CountedValid -/
def Mi_CountedValid (p1 : List Int) (p2 : List Int) (p3 : List Int) (p4 : List Int) (p5 : List Int) (K : Bool → Prop) : Prop :=
 (Mi_StoreValid p1 p2 p3 p4 fun (y1 : Bool) =>
 ((y1 = true →
 (Mi_CountsOf p1 p2 p3 fun (y2 : List Int) =>
 (M_Equal_int p5 y2 fun (y3 : Bool) =>
 (K y3)))) ∧
 (y1 = false →
 (K false))))
/-! impl.rooted -/
def Mi_rooted (p1 : List Int) (p2 : List Int) (p3 : List Int) (p4 : List Int) (p5 : List Int) (p6 : Int) (K : Bool → Prop) : Prop :=
 (Mi_CountedValid p1 p2 p3 p4 p5 fun (y1 : Bool) =>
 ((y1 = true →
 (((decide (p6 ≥ 0)) = true →
 (K (decide (p6 < (len p3))))) ∧
 ((decide (p6 ≥ 0)) = false →
 (K false)))) ∧
 (y1 = false →
 (K false))))
/-! impl.again -/
def Mi_again (p1 : List Int) (p2 : List Int) (p3 : List Int) (p4 : List Int) (K : (List Int) → (List Int) → (List Int) → (List Int) → Prop) : Prop :=
 (Mi_copied p1 p2 p3 fun (y1 : List Int) (y2 : List Int) (y3 : List Int) =>
 (M_Clone_int p4 fun (y4 : List Int) =>
 (K y1 y2 y3 y4)))
/-! impl.counted -/
def Mi_counted (p1 : List Int) (p2 : List Int) (p3 : List Int) (p4 : List Int) (p5 : List Int) (K : (List Int) → (List Int) → (List Int) → (List Int) → (List Int) → Prop) : Prop :=
 (Mi_again p1 p2 p3 p4 fun (y1 : List Int) (y2 : List Int) (y3 : List Int) (y4 : List Int) =>
 (M_Clone_int p5 fun (y5 : List Int) =>
 (K y1 y2 y3 y4 y5)))
/-! impl.StoreSame -/
def Mi_StoreSame (p1 : List Int) (p2 : List Int) (p3 : List Int) (p4 : List Int) (p5 : List Int) (p6 : List Int) (p7 : List Int) (p8 : List Int) (K : Bool → Prop) : Prop :=
 (Mi_HeapSame p1 p2 p3 p5 p6 p7 fun (y1 : Bool) =>
 ((y1 = true →
 (M_Equal_int p4 p8 fun (y2 : Bool) =>
 (K y2))) ∧
 (y1 = false →
 (K false))))
/-! impl.CountedSame -/
def Mi_CountedSame (p1 : List Int) (p2 : List Int) (p3 : List Int) (p4 : List Int) (p5 : List Int) (p6 : List Int) (p7 : List Int) (p8 : List Int) (p9 : List Int) (p10 : List Int) (K : Bool → Prop) : Prop :=
 (Mi_StoreSame p1 p2 p3 p4 p6 p7 p8 p9 fun (y1 : Bool) =>
 ((y1 = true →
 (M_Equal_int p5 p10 fun (y2 : Bool) =>
 (K y2))) ∧
 (y1 = false →
 (K false))))
/-! impl.PutRoot -/
def Mi_PutRoot (p1 : List Int) (p2 : List Int) (p3 : List Int) (p4 : Int) (p5 : Int) (K : Bool → (List Int) → (List Int) → (List Int) → Prop) : Prop :=
 (Mi_HeapValid p1 p2 p3 fun (y1 : Bool) =>
 (((!y1) = true →
 (K false [] [] [])) ∧
 ((!y1) = false →
 (((decide (p4 < 0)) = true →
 (K false [] [] [])) ∧
 ((decide (p4 < 0)) = false →
 (((decide (p4 ≥ (len p3))) = true →
 (K false [] [] [])) ∧
 ((decide (p4 ≥ (len p3))) = false →
 (Mi_pointer p1 p2 p3 p5 fun (y2 : Bool) =>
 (((!y2) = true →
 (K false [] [] [])) ∧
 ((!y2) = false →
 (Mi_copied p1 p2 p3 fun (y3 : List Int) (y4 : List Int) (y5 : List Int) =>
 ((inB p4 (List.length y5)) ∧
 (K true y3 y4 (uL y5 p4 p5))))))))))))))
/-! impl.IsFree -/
def Mi_IsFree (p1 : List Int) (p2 : List Int) (p3 : List Int) (p4 : List Int) (p5 : Int) (K : Bool → Prop) : Prop :=
 (Mi_StoreValid p1 p2 p3 p4 fun (y1 : Bool) =>
 ((y1 = true →
 (M_Contains_int p4 p5 fun (y2 : Bool) =>
 (K y2))) ∧
 (y1 = false →
 (K false))))
end Go.Ab
