/-
  What is proved here: nothing: the typed models of functions of the translated program.
-/
import Derived.Test.YthkneknigkbgpaaT14
namespace Go.Ab
set_option linter.unusedVariables false
/-! laws.szIntS -/
def Ml_szIntS (p1 : List Int) (p2 : Int) (K : Int → Prop) : Prop :=
 (((decide ((isub p2 (len p1)) < 0)) = true →
 (K (-1))) ∧
 ((decide ((isub p2 (len p1)) < 0)) = false →
 (K (isub p2 (len p1)))))
/-! laws.szHeap -/
def Ml_szHeap (p1 : List Int) (p2 : List Int) (p3 : List Int) (p4 : Int) (K : Int → Prop) : Prop :=
 (Ml_szIntS p1 p4 fun (y1 : Int) =>
 (((decide (y1 < 0)) = true →
 (K (-1))) ∧
 ((decide (y1 < 0)) = false →
 (Ml_szIntS p2 y1 fun (y2 : Int) =>
 (((decide (y2 < 0)) = true →
 (K (-1))) ∧
 ((decide (y2 < 0)) = false →
 (Ml_szIntS p3 y2 fun (y3 : Int) =>
 (((decide (y3 < 0)) = true →
 (K (-1))) ∧
 ((decide (y3 < 0)) = false →
 (K y3))))))))))
/-! laws.szBoolS -/
def Ml_szBoolS (p1 : List Bool) (p2 : Int) (K : Int → Prop) : Prop :=
 (((decide ((isub p2 (len p1)) < 0)) = true →
 (K (-1))) ∧
 ((decide ((isub p2 (len p1)) < 0)) = false →
 (K (isub p2 (len p1)))))
/-! laws.szGens -/
def Ml_szGens (p1 : List Int) (p2 : List Int) (p3 : List Int) (p4 : List Bool) (p5 : List Int) (p6 : Int) (K : Int → Prop) : Prop :=
 (Ml_szHeap p1 p2 p3 p6 fun (y1 : Int) =>
 (((decide (y1 < 0)) = true →
 (K (-1))) ∧
 ((decide (y1 < 0)) = false →
 (Ml_szBoolS p4 y1 fun (y2 : Int) =>
 (((decide (y2 < 0)) = true →
 (K (-1))) ∧
 ((decide (y2 < 0)) = false →
 (Ml_szIntS p5 y2 fun (y3 : Int) =>
 (((decide (y3 < 0)) = true →
 (K (-1))) ∧
 ((decide (y3 < 0)) = false →
 (K y3))))))))))
/-! laws.toIntS -/
def Ml_toIntS (p1 : List Int) (K : (List Int) → Prop) : Prop :=
 ((0 ≤ (len p1) ∧ (len p1) = (len p1) ∧ (len p1) ≤ 2 ^ 36) ∧
 (LoopP (S := List Int × Int × List Int) (fun s1 Kb1 Kx1 =>
 (((decide (s1.2.1 < (len s1.1))) = true →
 ((inB s1.2.1 (List.length s1.1)) ∧
 ((inB s1.2.1 (List.length s1.2.2)) ∧
 (Kb1 (s1.1, (iadd s1.2.1 1), (uL s1.2.2 s1.2.1 (gI s1.1 s1.2.1))))))) ∧
 ((decide (s1.2.1 < (len s1.1))) = false →
 (Kx1 (s1.1, s1.2.1, s1.2.2)))))
 (p1, 0, (List.replicate (Int.toNat (len p1)) (0 : Int))) fun s1 =>
 (K s1.2.2)))
/-! laws.toHeap -/
def Ml_toHeap (p1 : List Int) (p2 : List Int) (p3 : List Int) (K : (List Int) → (List Int) → (List Int) → Prop) : Prop :=
 (Ml_toIntS p1 fun (y1 : List Int) =>
 (Ml_toIntS p2 fun (y2 : List Int) =>
 (Ml_toIntS p3 fun (y3 : List Int) =>
 (K y1 y2 y3))))
/-! laws.toBoolS -/
def Ml_toBoolS (p1 : List Bool) (K : (List Bool) → Prop) : Prop :=
 ((0 ≤ (len p1) ∧ (len p1) = (len p1) ∧ (len p1) ≤ 2 ^ 36) ∧
 (LoopP (S := List Bool × Int × List Bool) (fun s1 Kb1 Kx1 =>
 (((decide (s1.2.1 < (len s1.1))) = true →
 ((inB s1.2.1 (List.length s1.1)) ∧
 ((inB s1.2.1 (List.length s1.2.2)) ∧
 (Kb1 (s1.1, (iadd s1.2.1 1), (uL s1.2.2 s1.2.1 (gB s1.1 s1.2.1))))))) ∧
 ((decide (s1.2.1 < (len s1.1))) = false →
 (Kx1 (s1.1, s1.2.1, s1.2.2)))))
 (p1, 0, (List.replicate (Int.toNat (len p1)) false)) fun s1 =>
 (K s1.2.2)))
/-! laws.toGens -/
def Ml_toGens (p1 : List Int) (p2 : List Int) (p3 : List Int) (p4 : List Bool) (p5 : List Int) (K : (List Int) → (List Int) → (List Int) → (List Bool) → (List Int) → Prop) : Prop :=
 (Ml_toHeap p1 p2 p3 fun (y1 : List Int) (y2 : List Int) (y3 : List Int) =>
 (Ml_toBoolS p4 fun (y4 : List Bool) =>
 (Ml_toIntS p5 fun (y5 : List Int) =>
 (K y1 y2 y3 y4 y5))))
/-! spec.l1Points -/
def Ms_l1Points (p1 : Int) (p2 : Int) (K : Bool → Prop) : Prop :=
 (((decide (p1 ≥ (-1))) = true →
 (K (decide (p1 < p2)))) ∧
 ((decide (p1 ≥ (-1))) = false →
 (K false)))
/-! spec.HeapValid -/
def Ms_HeapValid (p1 : List Int) (p2 : List Int) (p3 : List Int) (K : Bool → Prop) : Prop :=
 (((decide ((len p1) < 1)) = true →
 (K false)) ∧
 ((decide ((len p1) < 1)) = false →
 (((decide ((len p1) > 8)) = true →
 (K false)) ∧
 ((decide ((len p1) > 8)) = false →
 ((((len p2) != (len p1)) = true →
 (K false)) ∧
 (((len p2) != (len p1)) = false →
 (((decide ((len p3) < 1)) = true →
 (K false)) ∧
 ((decide ((len p3) < 1)) = false →
 (((decide ((len p3) > 3)) = true →
 (K false)) ∧
 ((decide ((len p3) > 3)) = false →
 (LoopP (S := Int × Int × List Int × List Int × List Int) (fun s1 Kb1 Kx1 =>
 (((decide (s1.2.1 < s1.1)) = true →
 ((inB s1.2.1 (List.length s1.2.2.1)) ∧
 (Ms_l1Points (gI s1.2.2.1 s1.2.1) s1.1 fun (y2 : Bool) =>
 (((!y2) = true →
 (K false)) ∧
 ((!y2) = false →
 ((inB s1.2.1 (List.length s1.2.2.2.1)) ∧
 (Ms_l1Points (gI s1.2.2.2.1 s1.2.1) s1.1 fun (y3 : Bool) =>
 (((!y3) = true →
 (K false)) ∧
 ((!y3) = false →
 (Kb1 (s1.1, (iadd s1.2.1 1), s1.2.2.1, s1.2.2.2.1, s1.2.2.2.2))))))))))) ∧
 ((decide (s1.2.1 < s1.1)) = false →
 (Kx1 (s1.1, s1.2.1, s1.2.2.1, s1.2.2.2.1, s1.2.2.2.2)))))
 ((len p1), 0, p1, p2, p3) fun s1 =>
 (LoopP (S := Int × Int × List Int × List Int × List Int) (fun s4 Kb4 Kx4 =>
 (((decide (s4.2.1 < (len s4.2.2.2.2))) = true →
 ((inB s4.2.1 (List.length s4.2.2.2.2)) ∧
 (Ms_l1Points (gI s4.2.2.2.2 s4.2.1) s4.1 fun (y5 : Bool) =>
 (((!y5) = true →
 (K false)) ∧
 ((!y5) = false →
 (Kb4 (s4.1, (iadd s4.2.1 1), s4.2.2.1, s4.2.2.2.1, s4.2.2.2.2))))))) ∧
 ((decide (s4.2.1 < (len s4.2.2.2.2))) = false →
 (Kx4 (s4.1, s4.2.1, s4.2.2.1, s4.2.2.2.1, s4.2.2.2.2)))))
 (s1.1, 0, s1.2.2.1, s1.2.2.2.1, s1.2.2.2.2) fun s4 =>
 (K true)))))))))))))
/-! spec.l1Cell -/
def Ms_l1Cell (p1 : List Int) (p2 : List Int) (p3 : List Int) (p4 : Int) (K : Bool → Prop) : Prop :=
 (Ms_HeapValid p1 p2 p3 fun (y1 : Bool) =>
 ((y1 = true →
 (((decide (p4 ≥ 0)) = true →
 (K (decide (p4 < (len p1))))) ∧
 ((decide (p4 ≥ 0)) = false →
 (K false)))) ∧
 (y1 = false →
 (K false))))
/-! spec.l1Copy -/
def Ms_l1Copy (p1 : List Int) (p2 : List Int) (p3 : List Int) (K : Prop) : Prop :=
 (((List.length p1 : Nat) ≤ 2 ^ 36) ∧
 (((List.length p2 : Nat) ≤ 2 ^ 36) ∧
 (((List.length p3 : Nat) ≤ 2 ^ 36) ∧
 K)))
/-! spec.PutLeft -/
def Ms_PutLeft (p1 : List Int) (p2 : List Int) (p3 : List Int) (p4 : Int) (p5 : Int) (K : Bool → (List Int) → (List Int) → (List Int) → Prop) : Prop :=
 (Ms_l1Cell p1 p2 p3 p4 fun (y1 : Bool) =>
 (((!y1) = true →
 (K false [] [] [])) ∧
 ((!y1) = false →
 (Ms_l1Points p5 (len p1) fun (y2 : Bool) =>
 (((!y2) = true →
 (K false [] [] [])) ∧
 ((!y2) = false →
 (Ms_l1Copy p1 p2 p3 <|
 ((inB p4 (List.length p1)) ∧
 (K true (uL p1 p4 p5) p2 p3)))))))))
/-! spec.l11Young -/
def Ms_l11Young (p1 : List Bool) (p2 : Int) (K : Bool → Prop) : Prop :=
 (((p2 != (-1)) = true →
 ((inB p2 (List.length p1)) ∧
 (K (!(gB p1 p2))))) ∧
 ((p2 != (-1)) = false →
 (K false)))
/-! spec.l11Remember -/
def Ms_l11Remember (p1 : List Int) (p2 : List Int) (p3 : List Int) (p4 : List Bool) (K : (List Int) → Prop) : Prop :=
 (LoopP (S := List Bool × Int × List Int × List Int × List Int × List Int) (fun s1 Kb1 Kx1 =>
 (((decide (s1.2.1 < (len s1.1))) = true →
 ((inB s1.2.1 (List.length s1.1)) ∧
 (((gB s1.1 s1.2.1) = true →
 ((inB s1.2.1 (List.length s1.2.2.1)) ∧
 (Ms_l11Young s1.1 (gI s1.2.2.1 s1.2.1) fun (y2 : Bool) =>
 ((y2 = true →
 ((List.length s1.2.2.2.2.2 + List.length ([s1.2.1] : List Int) ≤ 2 ^ 36) ∧
 (Kb1 (s1.1, (iadd s1.2.1 1), s1.2.2.1, s1.2.2.2.1, s1.2.2.2.2.1, (s1.2.2.2.2.2 ++ [s1.2.1]))))) ∧
 (y2 = false →
 ((inB s1.2.1 (List.length s1.2.2.2.1)) ∧
 (Ms_l11Young s1.1 (gI s1.2.2.2.1 s1.2.1) fun (y3 : Bool) =>
 ((y3 = true →
 ((List.length s1.2.2.2.2.2 + List.length ([s1.2.1] : List Int) ≤ 2 ^ 36) ∧
 (Kb1 (s1.1, (iadd s1.2.1 1), s1.2.2.1, s1.2.2.2.1, s1.2.2.2.2.1, (s1.2.2.2.2.2 ++ [s1.2.1]))))) ∧
 (y3 = false →
 (Kb1 (s1.1, (iadd s1.2.1 1), s1.2.2.1, s1.2.2.2.1, s1.2.2.2.2.1, s1.2.2.2.2.2))))))))))) ∧
 ((gB s1.1 s1.2.1) = false →
 (Kb1 (s1.1, (iadd s1.2.1 1), s1.2.2.1, s1.2.2.2.1, s1.2.2.2.2.1, s1.2.2.2.2.2)))))) ∧
 ((decide (s1.2.1 < (len s1.1))) = false →
 (Kx1 (s1.1, s1.2.1, s1.2.2.1, s1.2.2.2.1, s1.2.2.2.2.1, s1.2.2.2.2.2)))))
 (p4, 0, p1, p2, p3, []) fun s1 =>
 (K s1.2.2.2.2.2))
/-! spec.l1Ints -/
def Ms_l1Ints (p1 : List Int) (p2 : List Int) (K : Bool → Prop) : Prop :=
 ((((len p1) != (len p2)) = true →
 (K false)) ∧
 (((len p1) != (len p2)) = false →
 (LoopP (S := List Int × List Int × Int) (fun s1 Kb1 Kx1 =>
 (((decide (s1.2.2 < (len s1.1))) = true →
 ((inB s1.2.2 (List.length s1.1)) ∧
 ((inB s1.2.2 (List.length s1.2.1)) ∧
 ((((gI s1.1 s1.2.2) != (gI s1.2.1 s1.2.2)) = true →
 (K false)) ∧
 (((gI s1.1 s1.2.2) != (gI s1.2.1 s1.2.2)) = false →
 (Kb1 (s1.1, s1.2.1, (iadd s1.2.2 1)))))))) ∧
 ((decide (s1.2.2 < (len s1.1))) = false →
 (Kx1 (s1.1, s1.2.1, s1.2.2)))))
 (p1, p2, 0) fun s1 =>
 (K true))))
/-! spec.GensValid -/
def Ms_GensValid (p1 : List Int) (p2 : List Int) (p3 : List Int) (p4 : List Bool) (p5 : List Int) (K : Bool → Prop) : Prop :=
 (Ms_HeapValid p1 p2 p3 fun (y1 : Bool) =>
 ((y1 = true →
 ((((len p4) == (len p1)) = true →
 (Ms_l11Remember p1 p2 p3 p4 fun (y2 : List Int) =>
 (Ms_l1Ints p5 y2 fun (y3 : Bool) =>
 (K y3)))) ∧
 (((len p4) == (len p1)) = false →
 (K false)))) ∧
 (y1 = false →
 (K false))))
/-! spec.PutGens -/
def Ms_PutGens (p1 : List Int) (p2 : List Int) (p3 : List Int) (p4 : List Bool) (p5 : List Int) (p6 : Int) (p7 : Int) (K : Bool → (List Int) → (List Int) → (List Int) → (List Bool) → (List Int) → Prop) : Prop :=
 (Ms_PutLeft p1 p2 p3 p6 p7 fun (y1 : Bool) (y2 : List Int) (y3 : List Int) (y4 : List Int) =>
 (Ms_GensValid p1 p2 p3 p4 p5 fun (y5 : Bool) =>
 (((!y5) = true →
 (K false [] [] [] [] [])) ∧
 ((!y5) = false →
 (((!y1) = true →
 (K false [] [] [] [] [])) ∧
 ((!y1) = false →
 (((List.length p4 : Nat) ≤ 2 ^ 36) ∧
 (Ms_l11Remember y2 y3 y4 p4 fun (y6 : List Int) =>
 (K true y2 y3 y4 p4 y6)))))))))
/-! impl.HeapValid -/
def Mi_HeapValid (p1 : List Int) (p2 : List Int) (p3 : List Int) (K : Bool → Prop) : Prop :=
 ((((len p1) != (len p2)) = true →
 (K false)) ∧
 (((len p1) != (len p2)) = false →
 (((decide ((len p1) < 1)) = true →
 (K false)) ∧
 ((decide ((len p1) < 1)) = false →
 (((decide ((len p1) > 8)) = true →
 (K false)) ∧
 ((decide ((len p1) > 8)) = false →
 (((decide ((len p3) < 1)) = true →
 (K false)) ∧
 ((decide ((len p3) < 1)) = false →
 (((decide ((len p3) > 3)) = true →
 (K false)) ∧
 ((decide ((len p3) > 3)) = false →
 (LoopP (S := Int × Int × List Int × List Int × List Int × List (List Int)) (fun s1 Kb1 Kx1 =>
 (((decide (s1.2.1 < s1.1)) = true →
 ((inB s1.2.1 (List.length s1.2.2.2.2.2)) ∧
 (LoopP (S := Int × Int × List Int × Int × Int × List Int × List Int × List Int × List (List Int)) (fun s2 Kb2 Kx2 =>
 (((decide (s2.2.2.2.2.1 < s2.2.2.2.1)) = true →
 ((inB s2.2.2.2.2.1 (List.length s2.2.2.1)) ∧
 (((decide ((gI s2.2.2.1 s2.2.2.2.2.1) < (-1))) = true →
 (K false)) ∧
 ((decide ((gI s2.2.2.1 s2.2.2.2.2.1) < (-1))) = false →
 (((decide ((gI s2.2.2.1 s2.2.2.2.2.1) ≥ (len s2.2.2.2.2.2.1))) = true →
 (K false)) ∧
 ((decide ((gI s2.2.2.1 s2.2.2.2.2.1) ≥ (len s2.2.2.2.2.2.1))) = false →
 (Kb2 (s2.1, s2.2.1, s2.2.2.1, s2.2.2.2.1, (iadd s2.2.2.2.2.1 1), s2.2.2.2.2.2.1, s2.2.2.2.2.2.2.1, s2.2.2.2.2.2.2.2.1, s2.2.2.2.2.2.2.2.2)))))))) ∧
 ((decide (s2.2.2.2.2.1 < s2.2.2.2.1)) = false →
 (Kx2 (s2.1, s2.2.1, s2.2.2.1, s2.2.2.2.1, s2.2.2.2.2.1, s2.2.2.2.2.2.1, s2.2.2.2.2.2.2.1, s2.2.2.2.2.2.2.2.1, s2.2.2.2.2.2.2.2.2)))))
 (s1.1, s1.2.1, (gL s1.2.2.2.2.2 s1.2.1), (len (gL s1.2.2.2.2.2 s1.2.1)), 0, s1.2.2.1, s1.2.2.2.1, s1.2.2.2.2.1, s1.2.2.2.2.2) fun s2 =>
 (Kb1 (s2.1, (iadd s2.2.1 1), s2.2.2.2.2.2.1, s2.2.2.2.2.2.2.1, s2.2.2.2.2.2.2.2.1, s2.2.2.2.2.2.2.2.2))))) ∧
 ((decide (s1.2.1 < s1.1)) = false →
 (Kx1 (s1.1, s1.2.1, s1.2.2.1, s1.2.2.2.1, s1.2.2.2.2.1, s1.2.2.2.2.2)))))
 ((len [p1, p2, p3]), 0, p1, p2, p3, [p1, p2, p3]) fun s1 =>
 (K true))))))))))))
/-! impl.has -/
def Mi_has (p1 : List Int) (p2 : List Int) (p3 : List Int) (p4 : Int) (K : Bool → Prop) : Prop :=
 (Mi_HeapValid p1 p2 p3 fun (y1 : Bool) =>
 ((y1 = true →
 (((decide (p4 ≥ 0)) = true →
 (K (decide (p4 < (len p1))))) ∧
 ((decide (p4 ≥ 0)) = false →
 (K false)))) ∧
 (y1 = false →
 (K false))))
/-! impl.pointer -/
def Mi_pointer (p1 : List Int) (p2 : List Int) (p3 : List Int) (p4 : Int) (K : Bool → Prop) : Prop :=
 (((decide (p4 ≥ (-1))) = true →
 (K (decide (p4 < (len p1))))) ∧
 ((decide (p4 ≥ (-1))) = false →
 (K false)))
/-! slices.Clone[[]int,int] -/
def M_Clone_int (p1 : List Int) (K : (List Int) → Prop) : Prop :=
 (∀ b1 : Bool, ((List.length p1 : Nat) ≠ 0 → b1 = false) →
 ((b1 = true →
 (K [])) ∧
 (b1 = false →
 (((List.length p1 : Nat) ≤ 2 ^ 36) ∧
 (K p1)))))
/-! impl.copied -/
def Mi_copied (p1 : List Int) (p2 : List Int) (p3 : List Int) (K : (List Int) → (List Int) → (List Int) → Prop) : Prop :=
 (M_Clone_int p1 fun (y1 : List Int) =>
 (M_Clone_int p2 fun (y2 : List Int) =>
 (M_Clone_int p3 fun (y3 : List Int) =>
 (K y1 y2 y3))))
/-! impl.PutLeft -/
def Mi_PutLeft (p1 : List Int) (p2 : List Int) (p3 : List Int) (p4 : Int) (p5 : Int) (K : Bool → (List Int) → (List Int) → (List Int) → Prop) : Prop :=
 (Mi_has p1 p2 p3 p4 fun (y1 : Bool) =>
 (((!y1) = true →
 (K false [] [] [])) ∧
 ((!y1) = false →
 (Mi_pointer p1 p2 p3 p5 fun (y2 : Bool) =>
 (((!y2) = true →
 (K false [] [] [])) ∧
 ((!y2) = false →
 (Mi_copied p1 p2 p3 fun (y3 : List Int) (y4 : List Int) (y5 : List Int) =>
 ((inB p4 (List.length y3)) ∧
 (K true (uL y3 p4 p5) y4 y5)))))))))
/-! impl.remembered$1 -/
def Mi_remembered_1 (p1 : Int) (p2 : List Bool) (K : Bool → Prop) : Prop :=
 (((p1 != (-1)) = true →
 ((inB p1 (List.length p2)) ∧
 (K (!(gB p2 p1))))) ∧
 ((p1 != (-1)) = false →
 (K false)))
/-! impl.remembered -/
def Mi_remembered (p1 : List Int) (p2 : List Int) (p3 : List Int) (p4 : List Bool) (K : (List Int) → Prop) : Prop :=
 (LoopP (S := List Bool × Int × Int × List Int × List Int × List Int × List Bool × List Int) (fun s1 Kb1 Kx1 =>
 (((decide (s1.2.2.1 < s1.2.1)) = true →
 (let j4 : Prop :=
 (Kb1 (s1.1, s1.2.1, (iadd s1.2.2.1 1), s1.2.2.2.1, s1.2.2.2.2.1, s1.2.2.2.2.2.1, s1.2.2.2.2.2.2.1, (s1.2.2.2.2.2.2.2 ++ [s1.2.2.1])));
 ((inB s1.2.2.1 (List.length s1.1)) ∧
 (((gB s1.1 s1.2.2.1) = true →
 ((inB s1.2.2.1 (List.length s1.2.2.2.1)) ∧
 (Mi_remembered_1 (gI s1.2.2.2.1 s1.2.2.1) s1.2.2.2.2.2.2.1 fun (y2 : Bool) =>
 ((y2 = true →
 ((List.length s1.2.2.2.2.2.2.2 + List.length ([s1.2.2.1] : List Int) ≤ 2 ^ 36) ∧
 j4)) ∧
 (y2 = false →
 ((inB s1.2.2.1 (List.length s1.2.2.2.2.1)) ∧
 (Mi_remembered_1 (gI s1.2.2.2.2.1 s1.2.2.1) s1.2.2.2.2.2.2.1 fun (y3 : Bool) =>
 ((y3 = true →
 ((List.length s1.2.2.2.2.2.2.2 + List.length ([s1.2.2.1] : List Int) ≤ 2 ^ 36) ∧
 j4)) ∧
 (y3 = false →
 (Kb1 (s1.1, s1.2.1, (iadd s1.2.2.1 1), s1.2.2.2.1, s1.2.2.2.2.1, s1.2.2.2.2.2.1, s1.2.2.2.2.2.2.1, s1.2.2.2.2.2.2.2))))))))))) ∧
 ((gB s1.1 s1.2.2.1) = false →
 (Kb1 (s1.1, s1.2.1, (iadd s1.2.2.1 1), s1.2.2.2.1, s1.2.2.2.2.1, s1.2.2.2.2.2.1, s1.2.2.2.2.2.2.1, s1.2.2.2.2.2.2.2))))))) ∧
 ((decide (s1.2.2.1 < s1.2.1)) = false →
 (Kx1 (s1.1, s1.2.1, s1.2.2.1, s1.2.2.2.1, s1.2.2.2.2.1, s1.2.2.2.2.2.1, s1.2.2.2.2.2.2.1, s1.2.2.2.2.2.2.2)))))
 (p4, (len p4), 0, p1, p2, p3, p4, []) fun s1 =>
 (K s1.2.2.2.2.2.2.2))
/-! slices.Equal[[]int,int] -/
def M_Equal_int (p1 : List Int) (p2 : List Int) (K : Bool → Prop) : Prop :=
 ((((len p1) != (len p2)) = true →
 (K false)) ∧
 (((len p1) != (len p2)) = false →
 (LoopP (S := List Int × List Int × Int × Int) (fun s1 Kb1 Kx1 =>
 (((decide (s1.2.2.2 < s1.2.2.1)) = true →
 ((inB s1.2.2.2 (List.length s1.1)) ∧
 ((inB s1.2.2.2 (List.length s1.2.1)) ∧
 ((((gI s1.1 s1.2.2.2) != (gI s1.2.1 s1.2.2.2)) = true →
 (K false)) ∧
 (((gI s1.1 s1.2.2.2) != (gI s1.2.1 s1.2.2.2)) = false →
 (Kb1 (s1.1, s1.2.1, s1.2.2.1, (iadd s1.2.2.2 1)))))))) ∧
 ((decide (s1.2.2.2 < s1.2.2.1)) = false →
 (Kx1 (s1.1, s1.2.1, s1.2.2.1, s1.2.2.2)))))
 (p1, p2, (len p1), 0) fun s1 =>
 (K true))))
/-! impl.GensValid -/
def Mi_GensValid (p1 : List Int) (p2 : List Int) (p3 : List Int) (p4 : List Bool) (p5 : List Int) (K : Bool → Prop) : Prop :=
 (Mi_HeapValid p1 p2 p3 fun (y1 : Bool) =>
 ((y1 = true →
 ((((len p4) == (len p1)) = true →
 (Mi_remembered p1 p2 p3 p4 fun (y2 : List Int) =>
 (M_Equal_int p5 y2 fun (y3 : Bool) =>
 (K y3)))) ∧
 (((len p4) == (len p1)) = false →
 (K false)))) ∧
 (y1 = false →
 (K false))))
/-! slices.Clone[[]bool,bool] -/
def M_Clone_bool (p1 : List Bool) (K : (List Bool) → Prop) : Prop :=
 (∀ b1 : Bool, ((List.length p1 : Nat) ≠ 0 → b1 = false) →
 ((b1 = true →
 (K [])) ∧
 (b1 = false →
 (((List.length p1 : Nat) ≤ 2 ^ 36) ∧
 (K p1)))))
/-! impl.PutGens -/
def Mi_PutGens (p1 : List Int) (p2 : List Int) (p3 : List Int) (p4 : List Bool) (p5 : List Int) (p6 : Int) (p7 : Int) (K : Bool → (List Int) → (List Int) → (List Int) → (List Bool) → (List Int) → Prop) : Prop :=
 (Mi_PutLeft p1 p2 p3 p6 p7 fun (y1 : Bool) (y2 : List Int) (y3 : List Int) (y4 : List Int) =>
 (Mi_GensValid p1 p2 p3 p4 p5 fun (y5 : Bool) =>
 (((!y5) = true →
 (K false [] [] [] [] [])) ∧
 ((!y5) = false →
 (((!y1) = true →
 (K false [] [] [] [] [])) ∧
 ((!y1) = false →
 (M_Clone_bool p4 fun (y6 : List Bool) =>
 (Mi_remembered y2 y3 y4 p4 fun (y7 : List Int) =>
 (K true y2 y3 y4 y6 y7)))))))))
/-! laws.eqIntS -/
def Ml_eqIntS (p1 : List Int) (p2 : List Int) (K : Bool → Prop) : Prop :=
 ((((len p1) != (len p2)) = true →
 (K false)) ∧
 (((len p1) != (len p2)) = false →
 (LoopP (S := List Int × List Int × Int) (fun s1 Kb1 Kx1 =>
 (((decide (s1.2.2 < (len s1.1))) = true →
 ((inB s1.2.2 (List.length s1.1)) ∧
 ((inB s1.2.2 (List.length s1.2.1)) ∧
 ((((gI s1.1 s1.2.2) != (gI s1.2.1 s1.2.2)) = true →
 (K false)) ∧
 (((gI s1.1 s1.2.2) != (gI s1.2.1 s1.2.2)) = false →
 (Kb1 (s1.1, s1.2.1, (iadd s1.2.2 1)))))))) ∧
 ((decide (s1.2.2 < (len s1.1))) = false →
 (Kx1 (s1.1, s1.2.1, s1.2.2)))))
 (p1, p2, 0) fun s1 =>
 (K true))))
/-! laws.eqHeap -/
def Ml_eqHeap (p1 : List Int) (p2 : List Int) (p3 : List Int) (p4 : List Int) (p5 : List Int) (p6 : List Int) (K : Bool → Prop) : Prop :=
 (Ml_eqIntS p1 p4 fun (y1 : Bool) =>
 (((!y1) = true →
 (K false)) ∧
 ((!y1) = false →
 (Ml_eqIntS p2 p5 fun (y2 : Bool) =>
 (((!y2) = true →
 (K false)) ∧
 ((!y2) = false →
 (Ml_eqIntS p3 p6 fun (y3 : Bool) =>
 (((!y3) = true →
 (K false)) ∧
 ((!y3) = false →
 (K true))))))))))
/-! laws.eqBoolS -/
def Ml_eqBoolS (p1 : List Bool) (p2 : List Bool) (K : Bool → Prop) : Prop :=
 ((((len p1) != (len p2)) = true →
 (K false)) ∧
 (((len p1) != (len p2)) = false →
 (LoopP (S := List Bool × List Bool × Int) (fun s1 Kb1 Kx1 =>
 (((decide (s1.2.2 < (len s1.1))) = true →
 ((inB s1.2.2 (List.length s1.1)) ∧
 ((inB s1.2.2 (List.length s1.2.1)) ∧
 (((!((gB s1.1 s1.2.2) == (gB s1.2.1 s1.2.2))) = true →
 (K false)) ∧
 ((!((gB s1.1 s1.2.2) == (gB s1.2.1 s1.2.2))) = false →
 (Kb1 (s1.1, s1.2.1, (iadd s1.2.2 1)))))))) ∧
 ((decide (s1.2.2 < (len s1.1))) = false →
 (Kx1 (s1.1, s1.2.1, s1.2.2)))))
 (p1, p2, 0) fun s1 =>
 (K true))))
/-! laws.eqGens -/
def Ml_eqGens (p1 : List Int) (p2 : List Int) (p3 : List Int) (p4 : List Bool) (p5 : List Int) (p6 : List Int) (p7 : List Int) (p8 : List Int) (p9 : List Bool) (p10 : List Int) (K : Bool → Prop) : Prop :=
 (Ml_eqHeap p1 p2 p3 p6 p7 p8 fun (y1 : Bool) =>
 (((!y1) = true →
 (K false)) ∧
 ((!y1) = false →
 (Ml_eqBoolS p4 p9 fun (y2 : Bool) =>
 (((!y2) = true →
 (K false)) ∧
 ((!y2) = false →
 (Ml_eqIntS p5 p10 fun (y3 : Bool) =>
 (((!y3) = true →
 (K false)) ∧
 ((!y3) = false →
 (K true))))))))))
/-! laws.markIntS -/
def Ml_markIntS (p1 : Int) (p2 : List Int) (K : Int → (List Int) → Prop) : Prop :=
 (LoopP (S := Int × Int × List Int) (fun s1 Kb1 Kx1 =>
 (((decide (s1.2.1 < (len s1.2.2))) = true →
 ((inB s1.2.1 (List.length s1.2.2)) ∧
 (Kb1 ((iadd s1.1 1), (iadd s1.2.1 1), (uL s1.2.2 s1.2.1 s1.1))))) ∧
 ((decide (s1.2.1 < (len s1.2.2))) = false →
 (Kx1 (s1.1, s1.2.1, s1.2.2)))))
 (p1, 0, p2) fun s1 =>
 (K s1.1 s1.2.2))
/-! laws.markHeap -/
def Ml_markHeap (p1 : Int) (p2 : List Int) (p3 : List Int) (p4 : List Int) (K : Int → (List Int) → (List Int) → (List Int) → Prop) : Prop :=
 (Ml_markIntS p1 p2 fun (y1 : Int) (y2 : List Int) =>
 (Ml_markIntS y1 p3 fun (y3 : Int) (y4 : List Int) =>
 (Ml_markIntS y3 p4 fun (y5 : Int) (y6 : List Int) =>
 (K y5 y2 y4 y6))))
/-! laws.markBoolS -/
def Ml_markBoolS (p1 : Int) (p2 : List Bool) (K : Int → (List Bool) → Prop) : Prop :=
 (LoopP (S := Int × Int × List Bool) (fun s1 Kb1 Kx1 =>
 (((decide (s1.2.1 < (len s1.2.2))) = true →
 (((3 : Int) ≠ 0) ∧
 ((inB s1.2.1 (List.length s1.2.2)) ∧
 (Kb1 ((iadd s1.1 1), (iadd s1.2.1 1), (uL s1.2.2 s1.2.1 ((Int.tmod s1.1 3) == 0))))))) ∧
 ((decide (s1.2.1 < (len s1.2.2))) = false →
 (Kx1 (s1.1, s1.2.1, s1.2.2)))))
 (p1, 0, p2) fun s1 =>
 (K s1.1 s1.2.2))
/-! laws.markGens -/
def Ml_markGens (p1 : Int) (p2 : List Int) (p3 : List Int) (p4 : List Int) (p5 : List Bool) (p6 : List Int) (K : Int → (List Int) → (List Int) → (List Int) → (List Bool) → (List Int) → Prop) : Prop :=
 (Ml_markHeap p1 p2 p3 p4 fun (y1 : Int) (y2 : List Int) (y3 : List Int) (y4 : List Int) =>
 (Ml_markBoolS y1 p5 fun (y5 : Int) (y6 : List Bool) =>
 (Ml_markIntS y5 p6 fun (y7 : Int) (y8 : List Int) =>
 (K y7 y2 y3 y4 y6 y8))))
/-! laws.heldIntS -/
def Ml_heldIntS (p1 : List Int) (p2 : Int) (K : Int → Prop) : Prop :=
 (LoopP (S := List Int × Int × Int) (fun s1 Kb1 Kx1 =>
 (((decide (s1.2.2 < (len s1.1))) = true →
 ((inB s1.2.2 (List.length s1.1)) ∧
 ((((gI s1.1 s1.2.2) != s1.2.1) = true →
 (K (-1))) ∧
 (((gI s1.1 s1.2.2) != s1.2.1) = false →
 (Kb1 (s1.1, (iadd s1.2.1 1), (iadd s1.2.2 1))))))) ∧
 ((decide (s1.2.2 < (len s1.1))) = false →
 (Kx1 (s1.1, s1.2.1, s1.2.2)))))
 (p1, p2, 0) fun s1 =>
 (K s1.2.1))
/-! laws.heldHeap -/
def Ml_heldHeap (p1 : List Int) (p2 : List Int) (p3 : List Int) (p4 : Int) (K : Int → Prop) : Prop :=
 (Ml_heldIntS p1 p4 fun (y1 : Int) =>
 (((decide (y1 < 0)) = true →
 (K (-1))) ∧
 ((decide (y1 < 0)) = false →
 (Ml_heldIntS p2 y1 fun (y2 : Int) =>
 (((decide (y2 < 0)) = true →
 (K (-1))) ∧
 ((decide (y2 < 0)) = false →
 (Ml_heldIntS p3 y2 fun (y3 : Int) =>
 (((decide (y3 < 0)) = true →
 (K (-1))) ∧
 ((decide (y3 < 0)) = false →
 (K y3))))))))))
/-! laws.heldBoolS -/
def Ml_heldBoolS (p1 : List Bool) (p2 : Int) (K : Int → Prop) : Prop :=
 (LoopP (S := List Bool × Int × Int) (fun s1 Kb1 Kx1 =>
 (((decide (s1.2.2 < (len s1.1))) = true →
 ((inB s1.2.2 (List.length s1.1)) ∧
 (((3 : Int) ≠ 0) ∧
 (((!((gB s1.1 s1.2.2) == ((Int.tmod s1.2.1 3) == 0))) = true →
 (K (-1))) ∧
 ((!((gB s1.1 s1.2.2) == ((Int.tmod s1.2.1 3) == 0))) = false →
 (Kb1 (s1.1, (iadd s1.2.1 1), (iadd s1.2.2 1)))))))) ∧
 ((decide (s1.2.2 < (len s1.1))) = false →
 (Kx1 (s1.1, s1.2.1, s1.2.2)))))
 (p1, p2, 0) fun s1 =>
 (K s1.2.1))
/-! laws.heldGens -/
def Ml_heldGens (p1 : List Int) (p2 : List Int) (p3 : List Int) (p4 : List Bool) (p5 : List Int) (p6 : Int) (K : Int → Prop) : Prop :=
 (Ml_heldHeap p1 p2 p3 p6 fun (y1 : Int) =>
 (((decide (y1 < 0)) = true →
 (K (-1))) ∧
 ((decide (y1 < 0)) = false →
 (Ml_heldBoolS p4 y1 fun (y2 : Int) =>
 (((decide (y2 < 0)) = true →
 (K (-1))) ∧
 ((decide (y2 < 0)) = false →
 (Ml_heldIntS p5 y2 fun (y3 : Int) =>
 (((decide (y3 < 0)) = true →
 (K (-1))) ∧
 ((decide (y3 < 0)) = false →
 (K y3))))))))))
/-! laws.FnExactPutGens -/
def Ml_FnExactPutGens (p1 : List Int) (p2 : List Int) (p3 : List Int) (p4 : List Bool) (p5 : List Int) (p6 : Int) (p7 : Int) (K : Bool → Prop) : Prop :=
 (Ml_szGens p1 p2 p3 p4 p5 1048576 fun (y1 : Int) =>
 (((decide (y1 < 0)) = true →
 (K true)) ∧
 ((decide (y1 < 0)) = false →
 (Ml_toGens p1 p2 p3 p4 p5 fun (y2 : List Int) (y3 : List Int) (y4 : List Int) (y5 : List Bool) (y6 : List Int) =>
 (Ms_PutGens y2 y3 y4 y5 y6 p6 p7 fun (y7 : Bool) (y8 : List Int) (y9 : List Int) (y10 : List Int) (y11 : List Bool) (y12 : List Int) =>
 (Ml_toGens p1 p2 p3 p4 p5 fun (y13 : List Int) (y14 : List Int) (y15 : List Int) (y16 : List Bool) (y17 : List Int) =>
 (Mi_PutGens y13 y14 y15 y16 y17 p6 p7 fun (y18 : Bool) (y19 : List Int) (y20 : List Int) (y21 : List Int) (y22 : List Bool) (y23 : List Int) =>
 (Ml_eqGens y19 y20 y21 y22 y23 y8 y9 y10 y11 y12 fun (y24 : Bool) =>
 (((!y24) = true →
 (K false)) ∧
 ((!y24) = false →
 (((!(y18 == y7)) = true →
 (K false)) ∧
 ((!(y18 == y7)) = false →
 (Ml_toGens p1 p2 p3 p4 p5 fun (y25 : List Int) (y26 : List Int) (y27 : List Int) (y28 : List Bool) (y29 : List Int) =>
 (Ml_eqGens y13 y14 y15 y16 y17 y25 y26 y27 y28 y29 fun (y30 : Bool) =>
 (((!y30) = true →
 (K false)) ∧
 ((!y30) = false →
 (Ml_markGens 1 y13 y14 y15 y16 y17 fun (y31 : Int) (y32 : List Int) (y33 : List Int) (y34 : List Int) (y35 : List Bool) (y36 : List Int) =>
 (((decide (y31 < 0)) = true →
 (K false)) ∧
 ((decide (y31 < 0)) = false →
 (Ml_eqGens y19 y20 y21 y22 y23 y8 y9 y10 y11 y12 fun (y37 : Bool) =>
 (((!y37) = true →
 (K false)) ∧
 ((!y37) = false →
 (((!(y18 == y7)) = true →
 (K false)) ∧
 ((!(y18 == y7)) = false →
 (Ml_markGens 1 y19 y20 y21 y22 y23 fun (y38 : Int) (y39 : List Int) (y40 : List Int) (y41 : List Int) (y42 : List Bool) (y43 : List Int) =>
 (Ml_heldGens y39 y40 y41 y42 y43 1 fun (y44 : Int) =>
 (((decide (y44 < 0)) = true →
 (K false)) ∧
 ((decide (y44 < 0)) = false →
 (((y44 != y38) = true →
 (K false)) ∧
 ((y44 != y38) = false →
 (Ml_toGens p1 p2 p3 p4 p5 fun (y45 : List Int) (y46 : List Int) (y47 : List Int) (y48 : List Bool) (y49 : List Int) =>
 (Mi_PutGens y45 y46 y47 y48 y49 p6 p7 fun (y50 : Bool) (y51 : List Int) (y52 : List Int) (y53 : List Int) (y54 : List Bool) (y55 : List Int) =>
 (Ml_eqGens y51 y52 y53 y54 y55 y8 y9 y10 y11 y12 fun (y56 : Bool) =>
 (((!y56) = true →
 (K false)) ∧
 ((!y56) = false →
 (((!(y50 == y7)) = true →
 (K false)) ∧
 ((!(y50 == y7)) = false →
 (Ml_heldGens y39 y40 y41 y42 y43 1 fun (y57 : Int) =>
 (((decide (y57 < 0)) = true →
 (K false)) ∧
 ((decide (y57 < 0)) = false →
 (((y57 != y38) = true →
 (K false)) ∧
 ((y57 != y38) = false →
 (K true)))))))))))))))))))))))))))))))))))))))))))
/-! spec.l11Kept -/
def Ms_l11Kept (p1 : List Int) (p2 : List Int) (p3 : List Int) (p4 : List Bool) (p5 : List Int) (K : (List Bool) → Prop) : Prop :=
 (((List.length p3 : Nat) ≤ 2 ^ 36) ∧
 (LoopP (S := Int × List Int × List Int × List Int × List Bool × List Int × List Int) (fun s1 Kb1 Kx1 =>
 (((decide (s1.1 < (len s1.2.2.2.2.2.1))) = true →
 ((inB s1.1 (List.length s1.2.2.2.2.2.1)) ∧
 ((inB (gI s1.2.2.2.2.2.1 s1.1) (List.length s1.2.1)) ∧
 ((inB s1.1 (List.length s1.2.2.2.2.2.1)) ∧
 ((inB (gI s1.2.2.2.2.2.1 s1.1) (List.length s1.2.2.1)) ∧
 ((List.length s1.2.2.2.2.2.2 + List.length ([(gI s1.2.1 (gI s1.2.2.2.2.2.1 s1.1)), (gI s1.2.2.1 (gI s1.2.2.2.2.2.1 s1.1))] : List Int) ≤ 2 ^ 36) ∧
 (let v2 : List Int := (s1.2.2.2.2.2.2 ++ [(gI s1.2.1 (gI s1.2.2.2.2.2.1 s1.1)), (gI s1.2.2.1 (gI s1.2.2.2.2.2.1 s1.1))]);
 (Kb1 ((iadd s1.1 1), s1.2.1, s1.2.2.1, s1.2.2.2.1, s1.2.2.2.2.1, s1.2.2.2.2.2.1, v2))))))))) ∧
 ((decide (s1.1 < (len s1.2.2.2.2.2.1))) = false →
 (Kx1 (s1.1, s1.2.1, s1.2.2.1, s1.2.2.2.1, s1.2.2.2.2.1, s1.2.2.2.2.2.1, s1.2.2.2.2.2.2)))))
 (0, p1, p2, p3, p4, p5, p3) fun s1 =>
 ((0 ≤ (len s1.2.2.2.2.1) ∧ (len s1.2.2.2.2.1) = (len s1.2.2.2.2.1) ∧ (len s1.2.2.2.2.1) ≤ 2 ^ 36) ∧
 (LoopP (S := Int × List Int × List Int × List Int × List Bool × List Int × List Int × List Bool) (fun s3 Kb3 Kx3 =>
 (((decide (s3.1 < (len s3.2.2.2.2.2.2.1))) = true →
 ((inB s3.1 (List.length s3.2.2.2.2.2.2.1)) ∧
 (Ms_l11Young s3.2.2.2.2.1 (gI s3.2.2.2.2.2.2.1 s3.1) fun (y4 : Bool) =>
 (((!y4) = true →
 (Kb3 ((iadd s3.1 1), s3.2.1, s3.2.2.1, s3.2.2.2.1, s3.2.2.2.2.1, s3.2.2.2.2.2.1, s3.2.2.2.2.2.2.1, s3.2.2.2.2.2.2.2))) ∧
 ((!y4) = false →
 ((inB (gI s3.2.2.2.2.2.2.1 s3.1) (List.length s3.2.2.2.2.2.2.2)) ∧
 (((gB s3.2.2.2.2.2.2.2 (gI s3.2.2.2.2.2.2.1 s3.1)) = true →
 (Kb3 ((iadd s3.1 1), s3.2.1, s3.2.2.1, s3.2.2.2.1, s3.2.2.2.2.1, s3.2.2.2.2.2.1, s3.2.2.2.2.2.2.1, s3.2.2.2.2.2.2.2))) ∧
 ((gB s3.2.2.2.2.2.2.2 (gI s3.2.2.2.2.2.2.1 s3.1)) = false →
 ((inB (gI s3.2.2.2.2.2.2.1 s3.1) (List.length s3.2.2.2.2.2.2.2)) ∧
 ((inB (gI s3.2.2.2.2.2.2.1 s3.1) (List.length s3.2.1)) ∧
 ((inB (gI s3.2.2.2.2.2.2.1 s3.1) (List.length s3.2.2.1)) ∧
 ((List.length s3.2.2.2.2.2.2.1 + List.length ([(gI s3.2.1 (gI s3.2.2.2.2.2.2.1 s3.1)), (gI s3.2.2.1 (gI s3.2.2.2.2.2.2.1 s3.1))] : List Int) ≤ 2 ^ 36) ∧
 (let v5 : List Int := (s3.2.2.2.2.2.2.1 ++ [(gI s3.2.1 (gI s3.2.2.2.2.2.2.1 s3.1)), (gI s3.2.2.1 (gI s3.2.2.2.2.2.2.1 s3.1))]);
 (Kb3 ((iadd s3.1 1), s3.2.1, s3.2.2.1, s3.2.2.2.1, s3.2.2.2.2.1, s3.2.2.2.2.2.1, v5, (uL s3.2.2.2.2.2.2.2 (gI s3.2.2.2.2.2.2.1 s3.1) true)))))))))))))))) ∧
 ((decide (s3.1 < (len s3.2.2.2.2.2.2.1))) = false →
 (Kx3 (s3.1, s3.2.1, s3.2.2.1, s3.2.2.2.1, s3.2.2.2.2.1, s3.2.2.2.2.2.1, s3.2.2.2.2.2.2.1, s3.2.2.2.2.2.2.2)))))
 (0, s1.2.1, s1.2.2.1, s1.2.2.2.1, s1.2.2.2.2.1, s1.2.2.2.2.2.1, s1.2.2.2.2.2.2, (List.replicate (Int.toNat (len s1.2.2.2.2.1)) false)) fun s3 =>
 (K s3.2.2.2.2.2.2.2)))))
/-! spec.SmallCollect -/
def Ms_SmallCollect (p1 : List Int) (p2 : List Int) (p3 : List Int) (p4 : List Bool) (p5 : List Int) (K : Bool → (List Int) → (List Int) → (List Int) → (List Bool) → (List Int) → (List Int) → Prop) : Prop :=
 (Ms_GensValid p1 p2 p3 p4 p5 fun (y1 : Bool) =>
 (((!y1) = true →
 (K false [] [] [] [] [] [])) ∧
 ((!y1) = false →
 (Ms_l11Kept p1 p2 p3 p4 p5 fun (y2 : List Bool) =>
 (Ms_l1Copy p1 p2 p3 <|
 (((List.length p4 : Nat) ≤ 2 ^ 36) ∧
 (LoopP (S := Int × List Int × List Int × List Int × List Bool × List Int × List Int × List Bool × List Int × List Int × List Int × List Bool × List Int × List Int × List Int × List Int × List Bool × List Int) (fun s3 Kb3 Kx3 =>
 (((decide (s3.1 < (len s3.2.2.2.2.2.2.2.1))) = true →
 (let j9 := fun (z8 : List Bool) =>
 (Kb3 ((iadd s3.1 1), s3.2.1, s3.2.2.1, s3.2.2.2.1, s3.2.2.2.2.1, s3.2.2.2.2.2.1, s3.2.2.2.2.2.2.1, s3.2.2.2.2.2.2.2.1, s3.2.2.2.2.2.2.2.2.1, s3.2.2.2.2.2.2.2.2.2.1, s3.2.2.2.2.2.2.2.2.2.2.1, s3.2.2.2.2.2.2.2.2.2.2.2.1, s3.2.2.2.2.2.2.2.2.2.2.2.2.1, s3.2.2.2.2.2.2.2.2.2.2.2.2.2.1, s3.2.2.2.2.2.2.2.2.2.2.2.2.2.2.1, s3.2.2.2.2.2.2.2.2.2.2.2.2.2.2.2.1, z8, s3.2.2.2.2.2.2.2.2.2.2.2.2.2.2.2.2.2));
 (let j6 := fun (z5 : List Bool) =>
 ((inB s3.1 (List.length s3.2.2.2.2.2.2.2.1)) ∧
 (((!(gB s3.2.2.2.2.2.2.2.1 s3.1)) = true →
 ((inB s3.1 (List.length s3.2.2.2.2.1)) ∧
 (((!(gB s3.2.2.2.2.1 s3.1)) = true →
 ((List.length s3.2.2.2.2.2.2.1 + List.length ([s3.1] : List Int) ≤ 2 ^ 36) ∧
 ((inB s3.1 (List.length s3.2.2.2.2.2.2.2.2.2.2.2.2.2.1)) ∧
 ((inB s3.1 (List.length s3.2.2.2.2.2.2.2.2.2.2.2.2.2.2.1)) ∧
 (Kb3 ((iadd s3.1 1), s3.2.1, s3.2.2.1, s3.2.2.2.1, s3.2.2.2.2.1, s3.2.2.2.2.2.1, (s3.2.2.2.2.2.2.1 ++ [s3.1]), s3.2.2.2.2.2.2.2.1, s3.2.2.2.2.2.2.2.2.1, s3.2.2.2.2.2.2.2.2.2.1, s3.2.2.2.2.2.2.2.2.2.2.1, s3.2.2.2.2.2.2.2.2.2.2.2.1, s3.2.2.2.2.2.2.2.2.2.2.2.2.1, (uL s3.2.2.2.2.2.2.2.2.2.2.2.2.2.1 s3.1 (-1)), (uL s3.2.2.2.2.2.2.2.2.2.2.2.2.2.2.1 s3.1 (-1)), s3.2.2.2.2.2.2.2.2.2.2.2.2.2.2.2.1, z5, s3.2.2.2.2.2.2.2.2.2.2.2.2.2.2.2.2.2)))))) ∧
 ((!(gB s3.2.2.2.2.1 s3.1)) = false →
 (j9 z5))))) ∧
 ((!(gB s3.2.2.2.2.2.2.2.1 s3.1)) = false →
 (j9 z5))));
 ((inB s3.1 (List.length s3.2.2.2.2.2.2.2.1)) ∧
 (((gB s3.2.2.2.2.2.2.2.1 s3.1) = true →
 ((inB s3.1 (List.length s3.2.2.2.2.2.2.2.2.2.2.2.2.2.2.2.2.1)) ∧
 (j6 (uL s3.2.2.2.2.2.2.2.2.2.2.2.2.2.2.2.2.1 s3.1 true)))) ∧
 ((gB s3.2.2.2.2.2.2.2.1 s3.1) = false →
 (j6 s3.2.2.2.2.2.2.2.2.2.2.2.2.2.2.2.2.1))))))) ∧
 ((decide (s3.1 < (len s3.2.2.2.2.2.2.2.1))) = false →
 (Kx3 (s3.1, s3.2.1, s3.2.2.1, s3.2.2.2.1, s3.2.2.2.2.1, s3.2.2.2.2.2.1, s3.2.2.2.2.2.2.1, s3.2.2.2.2.2.2.2.1, s3.2.2.2.2.2.2.2.2.1, s3.2.2.2.2.2.2.2.2.2.1, s3.2.2.2.2.2.2.2.2.2.2.1, s3.2.2.2.2.2.2.2.2.2.2.2.1, s3.2.2.2.2.2.2.2.2.2.2.2.2.1, s3.2.2.2.2.2.2.2.2.2.2.2.2.2.1, s3.2.2.2.2.2.2.2.2.2.2.2.2.2.2.1, s3.2.2.2.2.2.2.2.2.2.2.2.2.2.2.2.1, s3.2.2.2.2.2.2.2.2.2.2.2.2.2.2.2.2.1, s3.2.2.2.2.2.2.2.2.2.2.2.2.2.2.2.2.2)))))
 (0, p1, p2, p3, p4, p5, [], y2, [], [], [], [], [], p1, p2, p3, p4, []) fun s3 =>
 (Ms_l11Remember s3.2.2.2.2.2.2.2.2.2.2.2.2.2.1 s3.2.2.2.2.2.2.2.2.2.2.2.2.2.2.1 s3.2.2.2.2.2.2.2.2.2.2.2.2.2.2.2.1 s3.2.2.2.2.2.2.2.2.2.2.2.2.2.2.2.2.1 fun (y10 : List Int) =>
 (K true s3.2.2.2.2.2.2.2.2.2.2.2.2.2.1 s3.2.2.2.2.2.2.2.2.2.2.2.2.2.2.1 s3.2.2.2.2.2.2.2.2.2.2.2.2.2.2.2.1 s3.2.2.2.2.2.2.2.2.2.2.2.2.2.2.2.2.1 y10 s3.2.2.2.2.2.2.1)))))))))
/-! impl.YoungKept -/
def Mi_YoungKept (p1 : List Int) (p2 : List Int) (p3 : List Int) (p4 : List Bool) (p5 : List Int) (K : (List Int) → Prop) : Prop :=
 (Mi_GensValid p1 p2 p3 p4 p5 fun (y1 : Bool) =>
 (((!y1) = true →
 (K [])) ∧
 ((!y1) = false →
 ((0 ≤ (len p4) ∧ (len p4) = (len p4) ∧ (len p4) ≤ 2 ^ 36) ∧
 (M_Clone_int p3 fun (y2 : List Int) =>
 (LoopP (S := List Int × Int × Int × List Int × List Int × List Int × List Bool × List Int × List Bool × List Int) (fun s3 Kb3 Kx3 =>
 (((decide (s3.2.2.1 < s3.2.1)) = true →
 ((inB s3.2.2.1 (List.length s3.1)) ∧
 ((inB (gI s3.1 s3.2.2.1) (List.length s3.2.2.2.1)) ∧
 ((inB (gI s3.1 s3.2.2.1) (List.length s3.2.2.2.2.1)) ∧
 ((List.length s3.2.2.2.2.2.2.2.2.2 + List.length ([(gI s3.2.2.2.1 (gI s3.1 s3.2.2.1)), (gI s3.2.2.2.2.1 (gI s3.1 s3.2.2.1))] : List Int) ≤ 2 ^ 36) ∧
 (let v4 : List Int := (s3.2.2.2.2.2.2.2.2.2 ++ [(gI s3.2.2.2.1 (gI s3.1 s3.2.2.1)), (gI s3.2.2.2.2.1 (gI s3.1 s3.2.2.1))]);
 (Kb3 (s3.1, s3.2.1, (iadd s3.2.2.1 1), s3.2.2.2.1, s3.2.2.2.2.1, s3.2.2.2.2.2.1, s3.2.2.2.2.2.2.1, s3.2.2.2.2.2.2.2.1, s3.2.2.2.2.2.2.2.2.1, v4)))))))) ∧
 ((decide (s3.2.2.1 < s3.2.1)) = false →
 (Kx3 (s3.1, s3.2.1, s3.2.2.1, s3.2.2.2.1, s3.2.2.2.2.1, s3.2.2.2.2.2.1, s3.2.2.2.2.2.2.1, s3.2.2.2.2.2.2.2.1, s3.2.2.2.2.2.2.2.2.1, s3.2.2.2.2.2.2.2.2.2)))))
 (p5, (len p5), 0, p1, p2, p3, p4, p5, (List.replicate (Int.toNat (len p4)) false), y2) fun s3 =>
 (LoopP (S := Int × List Int × List Int × List Int × List Bool × List Int × List Bool × List Int) (fun s5 Kb5 Kx5 =>
 (((decide (s5.1 < (len s5.2.2.2.2.2.2.2))) = true →
 ((inB s5.1 (List.length s5.2.2.2.2.2.2.2)) ∧
 ((((gI s5.2.2.2.2.2.2.2 s5.1) == (-1)) = true →
 (Kb5 ((iadd s5.1 1), s5.2.1, s5.2.2.1, s5.2.2.2.1, s5.2.2.2.2.1, s5.2.2.2.2.2.1, s5.2.2.2.2.2.2.1, s5.2.2.2.2.2.2.2))) ∧
 (((gI s5.2.2.2.2.2.2.2 s5.1) == (-1)) = false →
 ((inB (gI s5.2.2.2.2.2.2.2 s5.1) (List.length s5.2.2.2.2.1)) ∧
 (((gB s5.2.2.2.2.1 (gI s5.2.2.2.2.2.2.2 s5.1)) = true →
 (Kb5 ((iadd s5.1 1), s5.2.1, s5.2.2.1, s5.2.2.2.1, s5.2.2.2.2.1, s5.2.2.2.2.2.1, s5.2.2.2.2.2.2.1, s5.2.2.2.2.2.2.2))) ∧
 ((gB s5.2.2.2.2.1 (gI s5.2.2.2.2.2.2.2 s5.1)) = false →
 ((inB (gI s5.2.2.2.2.2.2.2 s5.1) (List.length s5.2.2.2.2.2.2.1)) ∧
 (((gB s5.2.2.2.2.2.2.1 (gI s5.2.2.2.2.2.2.2 s5.1)) = true →
 (Kb5 ((iadd s5.1 1), s5.2.1, s5.2.2.1, s5.2.2.2.1, s5.2.2.2.2.1, s5.2.2.2.2.2.1, s5.2.2.2.2.2.2.1, s5.2.2.2.2.2.2.2))) ∧
 ((gB s5.2.2.2.2.2.2.1 (gI s5.2.2.2.2.2.2.2 s5.1)) = false →
 ((inB (gI s5.2.2.2.2.2.2.2 s5.1) (List.length s5.2.2.2.2.2.2.1)) ∧
 ((inB (gI s5.2.2.2.2.2.2.2 s5.1) (List.length s5.2.1)) ∧
 ((inB (gI s5.2.2.2.2.2.2.2 s5.1) (List.length s5.2.2.1)) ∧
 ((List.length s5.2.2.2.2.2.2.2 + List.length ([(gI s5.2.1 (gI s5.2.2.2.2.2.2.2 s5.1)), (gI s5.2.2.1 (gI s5.2.2.2.2.2.2.2 s5.1))] : List Int) ≤ 2 ^ 36) ∧
 (let v6 : List Int := (s5.2.2.2.2.2.2.2 ++ [(gI s5.2.1 (gI s5.2.2.2.2.2.2.2 s5.1)), (gI s5.2.2.1 (gI s5.2.2.2.2.2.2.2 s5.1))]);
 (Kb5 ((iadd s5.1 1), s5.2.1, s5.2.2.1, s5.2.2.2.1, s5.2.2.2.2.1, s5.2.2.2.2.2.1, (uL s5.2.2.2.2.2.2.1 (gI s5.2.2.2.2.2.2.2 s5.1) true), v6))))))))))))))))) ∧
 ((decide (s5.1 < (len s5.2.2.2.2.2.2.2))) = false →
 (Kx5 (s5.1, s5.2.1, s5.2.2.1, s5.2.2.2.1, s5.2.2.2.2.1, s5.2.2.2.2.2.1, s5.2.2.2.2.2.2.1, s5.2.2.2.2.2.2.2)))))
 (0, s3.2.2.2.1, s3.2.2.2.2.1, s3.2.2.2.2.2.1, s3.2.2.2.2.2.2.1, s3.2.2.2.2.2.2.2.1, s3.2.2.2.2.2.2.2.2.1, s3.2.2.2.2.2.2.2.2.2) fun s5 =>
 (LoopP (S := Int × Int × List Int × List Bool) (fun s7 Kb7 Kx7 =>
 (((decide (s7.2.1 < s7.1)) = true →
 ((inB s7.2.1 (List.length s7.2.2.2)) ∧
 (((gB s7.2.2.2 s7.2.1) = true →
 ((List.length s7.2.2.1 + List.length ([s7.2.1] : List Int) ≤ 2 ^ 36) ∧
 (Kb7 (s7.1, (iadd s7.2.1 1), (s7.2.2.1 ++ [s7.2.1]), s7.2.2.2)))) ∧
 ((gB s7.2.2.2 s7.2.1) = false →
 (Kb7 (s7.1, (iadd s7.2.1 1), s7.2.2.1, s7.2.2.2)))))) ∧
 ((decide (s7.2.1 < s7.1)) = false →
 (Kx7 (s7.1, s7.2.1, s7.2.2.1, s7.2.2.2)))))
 ((len s5.2.2.2.2.2.2.1), 0, [], s5.2.2.2.2.2.2.1) fun s7 =>
 (K s7.2.2.1)))))))))
/-! slices.Index[[]int,int] -/
def M_Index_int (p1 : List Int) (p2 : Int) (K : Int → Prop) : Prop :=
 (LoopP (S := List Int × Int × Int × Int) (fun s1 Kb1 Kx1 =>
 (((decide (s1.2.2.2 < s1.2.2.1)) = true →
 ((inB s1.2.2.2 (List.length s1.1)) ∧
 (((s1.2.1 == (gI s1.1 s1.2.2.2)) = true →
 (K s1.2.2.2)) ∧
 ((s1.2.1 == (gI s1.1 s1.2.2.2)) = false →
 (Kb1 (s1.1, s1.2.1, s1.2.2.1, (iadd s1.2.2.2 1))))))) ∧
 ((decide (s1.2.2.2 < s1.2.2.1)) = false →
 (Kx1 (s1.1, s1.2.1, s1.2.2.1, s1.2.2.2)))))
 (p1, p2, (len p1), 0) fun s1 =>
 (K (-1)))
/-! slices.Contains[[]int,int] -/
def M_Contains_int (p1 : List Int) (p2 : Int) (K : Bool → Prop) : Prop :=
 (M_Index_int p1 p2 fun (y1 : Int) =>
 (K (decide (y1 ≥ 0))))
/-! impl.SmallCollect -/
def Mi_SmallCollect (p1 : List Int) (p2 : List Int) (p3 : List Int) (p4 : List Bool) (p5 : List Int) (K : Bool → (List Int) → (List Int) → (List Int) → (List Bool) → (List Int) → (List Int) → Prop) : Prop :=
 (Mi_GensValid p1 p2 p3 p4 p5 fun (y1 : Bool) =>
 (((!y1) = true →
 (K false [] [] [] [] [] [])) ∧
 ((!y1) = false →
 (Mi_YoungKept p1 p2 p3 p4 p5 fun (y2 : List Int) =>
 (Mi_copied p1 p2 p3 fun (y3 : List Int) (y4 : List Int) (y5 : List Int) =>
 (M_Clone_bool p4 fun (y6 : List Bool) =>
 (LoopP (S := List Bool × Int × Int × List Int × List Int × List Int × List Int × List Int × List Bool × List Int × List Int × List Int × List Int × List Bool × List Int) (fun s7 Kb7 Kx7 =>
 (((decide (s7.2.2.1 < s7.2.1)) = true →
 (let j11 := fun (z10 : List Bool) =>
 (Kb7 (s7.1, s7.2.1, (iadd s7.2.2.1 1), s7.2.2.2.1, s7.2.2.2.2.1, s7.2.2.2.2.2.1, s7.2.2.2.2.2.2.1, s7.2.2.2.2.2.2.2.1, s7.2.2.2.2.2.2.2.2.1, s7.2.2.2.2.2.2.2.2.2.1, s7.2.2.2.2.2.2.2.2.2.2.1, s7.2.2.2.2.2.2.2.2.2.2.2.1, s7.2.2.2.2.2.2.2.2.2.2.2.2.1, z10, s7.2.2.2.2.2.2.2.2.2.2.2.2.2.2));
 ((inB s7.2.2.1 (List.length s7.1)) ∧
 (((gB s7.1 s7.2.2.1) = true →
 (j11 s7.2.2.2.2.2.2.2.2.2.2.2.2.2.1)) ∧
 ((gB s7.1 s7.2.2.1) = false →
 (M_Contains_int s7.2.2.2.1 s7.2.2.1 fun (y8 : Bool) =>
 ((y8 = true →
 ((inB s7.2.2.1 (List.length s7.2.2.2.2.2.2.2.2.2.2.2.2.2.1)) ∧
 (j11 (uL s7.2.2.2.2.2.2.2.2.2.2.2.2.2.1 s7.2.2.1 true)))) ∧
 (y8 = false →
 ((inB s7.2.2.1 (List.length s7.2.2.2.2.2.2.2.2.2.2.1)) ∧
 ((inB s7.2.2.1 (List.length s7.2.2.2.2.2.2.2.2.2.2.2.1)) ∧
 ((List.length s7.2.2.2.2.1 + List.length ([s7.2.2.1] : List Int) ≤ 2 ^ 36) ∧
 (Kb7 (s7.1, s7.2.1, (iadd s7.2.2.1 1), s7.2.2.2.1, (s7.2.2.2.2.1 ++ [s7.2.2.1]), s7.2.2.2.2.2.1, s7.2.2.2.2.2.2.1, s7.2.2.2.2.2.2.2.1, s7.2.2.2.2.2.2.2.2.1, s7.2.2.2.2.2.2.2.2.2.1, (uL s7.2.2.2.2.2.2.2.2.2.2.1 s7.2.2.1 (-1)), (uL s7.2.2.2.2.2.2.2.2.2.2.2.1 s7.2.2.1 (-1)), s7.2.2.2.2.2.2.2.2.2.2.2.2.1, s7.2.2.2.2.2.2.2.2.2.2.2.2.2.1, s7.2.2.2.2.2.2.2.2.2.2.2.2.2.2))))))))))))) ∧
 ((decide (s7.2.2.1 < s7.2.1)) = false →
 (Kx7 (s7.1, s7.2.1, s7.2.2.1, s7.2.2.2.1, s7.2.2.2.2.1, s7.2.2.2.2.2.1, s7.2.2.2.2.2.2.1, s7.2.2.2.2.2.2.2.1, s7.2.2.2.2.2.2.2.2.1, s7.2.2.2.2.2.2.2.2.2.1, s7.2.2.2.2.2.2.2.2.2.2.1, s7.2.2.2.2.2.2.2.2.2.2.2.1, s7.2.2.2.2.2.2.2.2.2.2.2.2.1, s7.2.2.2.2.2.2.2.2.2.2.2.2.2.1, s7.2.2.2.2.2.2.2.2.2.2.2.2.2.2)))))
 (p4, (len p4), 0, y2, [], [], [], [], [], [], y3, y4, y5, y6, []) fun s7 =>
 (Mi_remembered s7.2.2.2.2.2.2.2.2.2.2.1 s7.2.2.2.2.2.2.2.2.2.2.2.1 s7.2.2.2.2.2.2.2.2.2.2.2.2.1 s7.2.2.2.2.2.2.2.2.2.2.2.2.2.1 fun (y12 : List Int) =>
 (K true s7.2.2.2.2.2.2.2.2.2.2.1 s7.2.2.2.2.2.2.2.2.2.2.2.1 s7.2.2.2.2.2.2.2.2.2.2.2.2.1 s7.2.2.2.2.2.2.2.2.2.2.2.2.2.1 y12 s7.2.2.2.2.1)))))))))
/-! laws.FnExactSmallCollect -/
def Ml_FnExactSmallCollect (p1 : List Int) (p2 : List Int) (p3 : List Int) (p4 : List Bool) (p5 : List Int) (K : Bool → Prop) : Prop :=
 (Ml_szGens p1 p2 p3 p4 p5 1048576 fun (y1 : Int) =>
 (((decide (y1 < 0)) = true →
 (K true)) ∧
 ((decide (y1 < 0)) = false →
 (Ml_toGens p1 p2 p3 p4 p5 fun (y2 : List Int) (y3 : List Int) (y4 : List Int) (y5 : List Bool) (y6 : List Int) =>
 (Ms_SmallCollect y2 y3 y4 y5 y6 fun (y7 : Bool) (y8 : List Int) (y9 : List Int) (y10 : List Int) (y11 : List Bool) (y12 : List Int) (y13 : List Int) =>
 (Ml_toGens p1 p2 p3 p4 p5 fun (y14 : List Int) (y15 : List Int) (y16 : List Int) (y17 : List Bool) (y18 : List Int) =>
 (Mi_SmallCollect y14 y15 y16 y17 y18 fun (y19 : Bool) (y20 : List Int) (y21 : List Int) (y22 : List Int) (y23 : List Bool) (y24 : List Int) (y25 : List Int) =>
 (Ml_eqGens y20 y21 y22 y23 y24 y8 y9 y10 y11 y12 fun (y26 : Bool) =>
 (((!y26) = true →
 (K false)) ∧
 ((!y26) = false →
 (Ml_eqIntS y25 y13 fun (y27 : Bool) =>
 (((!y27) = true →
 (K false)) ∧
 ((!y27) = false →
 (((!(y19 == y7)) = true →
 (K false)) ∧
 ((!(y19 == y7)) = false →
 (Ml_toGens p1 p2 p3 p4 p5 fun (y28 : List Int) (y29 : List Int) (y30 : List Int) (y31 : List Bool) (y32 : List Int) =>
 (Ml_eqGens y14 y15 y16 y17 y18 y28 y29 y30 y31 y32 fun (y33 : Bool) =>
 (((!y33) = true →
 (K false)) ∧
 ((!y33) = false →
 (Ml_markGens 1 y14 y15 y16 y17 y18 fun (y34 : Int) (y35 : List Int) (y36 : List Int) (y37 : List Int) (y38 : List Bool) (y39 : List Int) =>
 (((decide (y34 < 0)) = true →
 (K false)) ∧
 ((decide (y34 < 0)) = false →
 (Ml_eqGens y20 y21 y22 y23 y24 y8 y9 y10 y11 y12 fun (y40 : Bool) =>
 (((!y40) = true →
 (K false)) ∧
 ((!y40) = false →
 (Ml_eqIntS y25 y13 fun (y41 : Bool) =>
 (((!y41) = true →
 (K false)) ∧
 ((!y41) = false →
 (((!(y19 == y7)) = true →
 (K false)) ∧
 ((!(y19 == y7)) = false →
 (Ml_markGens 1 y20 y21 y22 y23 y24 fun (y42 : Int) (y43 : List Int) (y44 : List Int) (y45 : List Int) (y46 : List Bool) (y47 : List Int) =>
 (Ml_markIntS y42 y25 fun (y48 : Int) (y49 : List Int) =>
 (Ml_heldGens y43 y44 y45 y46 y47 1 fun (y50 : Int) =>
 (((decide (y50 < 0)) = true →
 (K false)) ∧
 ((decide (y50 < 0)) = false →
 (Ml_heldIntS y49 y50 fun (y51 : Int) =>
 (((decide (y51 < 0)) = true →
 (K false)) ∧
 ((decide (y51 < 0)) = false →
 (((y51 != y48) = true →
 (K false)) ∧
 ((y51 != y48) = false →
 (Ml_toGens p1 p2 p3 p4 p5 fun (y52 : List Int) (y53 : List Int) (y54 : List Int) (y55 : List Bool) (y56 : List Int) =>
 (Mi_SmallCollect y52 y53 y54 y55 y56 fun (y57 : Bool) (y58 : List Int) (y59 : List Int) (y60 : List Int) (y61 : List Bool) (y62 : List Int) (y63 : List Int) =>
 (Ml_eqGens y58 y59 y60 y61 y62 y8 y9 y10 y11 y12 fun (y64 : Bool) =>
 (((!y64) = true →
 (K false)) ∧
 ((!y64) = false →
 (Ml_eqIntS y63 y13 fun (y65 : Bool) =>
 (((!y65) = true →
 (K false)) ∧
 ((!y65) = false →
 (((!(y57 == y7)) = true →
 (K false)) ∧
 ((!(y57 == y7)) = false →
 (Ml_heldGens y43 y44 y45 y46 y47 1 fun (y66 : Int) =>
 (((decide (y66 < 0)) = true →
 (K false)) ∧
 ((decide (y66 < 0)) = false →
 (Ml_heldIntS y49 y66 fun (y67 : Int) =>
 (((decide (y67 < 0)) = true →
 (K false)) ∧
 ((decide (y67 < 0)) = false →
 (((y67 != y48) = true →
 (K false)) ∧
 ((y67 != y48) = false →
 (K true)))))))))))))))))))))))))))))))))))))))))))))))))))))))))))
end Go.Ab
