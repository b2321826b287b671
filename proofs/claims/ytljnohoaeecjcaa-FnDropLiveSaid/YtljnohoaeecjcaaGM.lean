/-
  What is proved here: nothing: the typed models of functions of the translated program.
-/
import Derived.Test.YtljnohoaeecjcaaT19
namespace Go.Ab
set_option linter.unusedVariables false
/-! spec.l13Open -/
def Ms_l13Open (p1 : List Int) (K : (List Int) → Int → Prop) : Prop :=
 (((decide ((len p1) > 2000)) = true →
 (((0 : Int) ≤ (0 : Int) ∧ (0 : Int) ≤ (2000 : Int) ∧ (2000 : Int) ≤ len p1) ∧
 (K (sub p1 (0 : Int) (2000 : Int)) 0))) ∧
 ((decide ((len p1) > 2000)) = false →
 (K p1 0)))
/-! (*spec.l13Rd).pick -/
def Ms_l13Rd_pick (p1 : Int) (p2 : List Int) (p3 : Int) (K : Int → Int → Prop) : Prop :=
 (((decide (p1 < 1)) = true →
 (K 0 (iadd p3 1))) ∧
 ((decide (p1 < 1)) = false →
 ((((len p2) == 0) = true →
 (K 0 (iadd p3 1))) ∧
 (((len p2) == 0) = false →
 (((decide ((isub (iadd p3 1) 1) < (len p2))) = true →
 ((inB (isub (iadd p3 1) 1) (List.length p2)) ∧
 ((p1 ≠ 0) ∧
 (let v1 : Int := (Int.tmod (IntKind.wrap .i64 (gY p2 (isub (iadd p3 1) 1))) p1);
 (K v1 (iadd p3 1)))))) ∧
 ((decide ((isub (iadd p3 1) 1) < (len p2))) = false →
 (((len p2) ≠ 0) ∧
 ((inB (Int.tmod (isub (iadd p3 1) 1) (len p2)) (List.length p2)) ∧
 (let v2 : Int := (IntKind.wrap .i64 (gY p2 (Int.tmod (isub (iadd p3 1) 1) (len p2))));
 (((len p2) ≠ 0) ∧
 ((inB (Int.tmod (iadd (imul (isub (iadd p3 1) 1) 7) 3) (len p2)) (List.length p2)) ∧
 (let v3 : Int := (gY p2 (Int.tmod (iadd (imul (isub (iadd p3 1) 1) 7) 3) (len p2)));
 (let v4 : Int := (iadd (iadd (imul v2 131) (imul (IntKind.wrap .i64 v3) 1117)) (imul (isub (iadd p3 1) 1) 29));
 (((len p2) ≠ 0) ∧
 (((64 : Int) ≠ 0) ∧
 (let v5 : Int := (iquo (iadd v4 (imul (iquo (isub (iadd p3 1) 1) (len p2)) 53)) 64);
 (let v6 : Int := (IntKind.wrap .i64 (((BitVec.ofInt (IntKind.bits .i64) (iadd v4 (imul (iquo (isub (iadd p3 1) 1) (len p2)) 53)) ^^^ BitVec.ofInt (IntKind.bits .i64) v5).toNat : Int)));
 ((p1 ≠ 0) ∧
 (K (Int.tmod v6 p1) (iadd p3 1))))))))))))))))))))
/-! (*spec.l13Rd).num -/
def Ms_l13Rd_num (p1 : List Int) (p2 : List Int) (p3 : Int) (K : Int → Int → Prop) : Prop :=
 (Ms_l13Rd_pick (len p1) p2 p3 fun (y1 : Int) (y2 : Int) =>
 ((inB y1 (List.length p1)) ∧
 (K (gI p1 y1) y2)))
/-! spec.l1Many -/
def Ms_l1Many (p1 : Int) (K : (List Int) → Prop) : Prop :=
 (LoopP (S := Int × Int × List Int) (fun s1 Kb1 Kx1 =>
 (((decide (s1.2.1 < s1.1)) = true →
 ((List.length s1.2.2 + List.length ([(-1)] : List Int) ≤ 2 ^ 36) ∧
 (Kb1 (s1.1, (iadd s1.2.1 1), (s1.2.2 ++ [(-1)]))))) ∧
 ((decide (s1.2.1 < s1.1)) = false →
 (Kx1 (s1.1, s1.2.1, s1.2.2)))))
 (p1, 0, []) fun s1 =>
 (K s1.2.2))
/-! spec.NewHeap -/
def Ms_NewHeap (p1 : Int) (p2 : Int) (K : Bool → (List Int) → (List Int) → (List Int) → Prop) : Prop :=
 (((decide (p1 < 1)) = true →
 (K false [] [] [])) ∧
 ((decide (p1 < 1)) = false →
 (((decide (p1 > 8)) = true →
 (K false [] [] [])) ∧
 ((decide (p1 > 8)) = false →
 (((decide (p2 < 1)) = true →
 (K false [] [] [])) ∧
 ((decide (p2 < 1)) = false →
 (((decide (p2 > 3)) = true →
 (K false [] [] [])) ∧
 ((decide (p2 > 3)) = false →
 (Ms_l1Many p1 fun (y1 : List Int) =>
 (Ms_l1Many p1 fun (y2 : List Int) =>
 (Ms_l1Many p2 fun (y3 : List Int) =>
 (K true y1 y2 y3))))))))))))
/-! spec.NewStore -/
def Ms_NewStore (p1 : Int) (p2 : Int) (K : Bool → (List Int) → (List Int) → (List Int) → (List Int) → Prop) : Prop :=
 (Ms_NewHeap p1 p2 fun (y1 : Bool) (y2 : List Int) (y3 : List Int) (y4 : List Int) =>
 (((!y1) = true →
 (K false [] [] [] [])) ∧
 ((!y1) = false →
 (LoopP (S := Int × Int × List Int × List Int × List Int × List Int × List Int × List Int × List Int × List Int) (fun s5 Kb5 Kx5 =>
 (((decide (s5.2.1 < s5.1)) = true →
 ((List.length s5.2.2.2.2.2.2.2.2.2 + List.length ([s5.2.1] : List Int) ≤ 2 ^ 36) ∧
 (Kb5 (s5.1, (iadd s5.2.1 1), s5.2.2.1, s5.2.2.2.1, s5.2.2.2.2.1, s5.2.2.2.2.2.1, s5.2.2.2.2.2.2.1, s5.2.2.2.2.2.2.2.1, s5.2.2.2.2.2.2.2.2.1, (s5.2.2.2.2.2.2.2.2.2 ++ [s5.2.1]))))) ∧
 ((decide (s5.2.1 < s5.1)) = false →
 (Kx5 (s5.1, s5.2.1, s5.2.2.1, s5.2.2.2.1, s5.2.2.2.2.1, s5.2.2.2.2.2.1, s5.2.2.2.2.2.2.1, s5.2.2.2.2.2.2.2.1, s5.2.2.2.2.2.2.2.2.1, s5.2.2.2.2.2.2.2.2.2)))))
 (p1, 0, [], [], [], [], y2, y3, y4, []) fun s5 =>
 (K true s5.2.2.2.2.2.2.1 s5.2.2.2.2.2.2.2.1 s5.2.2.2.2.2.2.2.2.1 s5.2.2.2.2.2.2.2.2.2)))))
/-! spec.l1Points -/
def Ms_l1Points (p1 : Int) (p2 : Int) (K : Bool → Prop) : Prop :=
 (((decide (p1 ≥ (-1))) = true →
 (K (decide (p1 < p2)))) ∧
 ((decide (p1 ≥ (-1))) = false →
 (K false)))
/-! spec.HeapValid -/
def Ms_HeapValid (p1 : List Int) (p2 : List Int) (p3 : List Int) (K : Bool → Prop) : Prop :=
 (((decide ((len p1) < 1)) = true →
 (K false)) ∧
 ((decide ((len p1) < 1)) = false →
 (((decide ((len p1) > 8)) = true →
 (K false)) ∧
 ((decide ((len p1) > 8)) = false →
 ((((len p2) != (len p1)) = true →
 (K false)) ∧
 (((len p2) != (len p1)) = false →
 (((decide ((len p3) < 1)) = true →
 (K false)) ∧
 ((decide ((len p3) < 1)) = false →
 (((decide ((len p3) > 3)) = true →
 (K false)) ∧
 ((decide ((len p3) > 3)) = false →
 (LoopP (S := Int × Int × List Int × List Int × List Int) (fun s1 Kb1 Kx1 =>
 (((decide (s1.2.1 < s1.1)) = true →
 ((inB s1.2.1 (List.length s1.2.2.1)) ∧
 (Ms_l1Points (gI s1.2.2.1 s1.2.1) s1.1 fun (y2 : Bool) =>
 (((!y2) = true →
 (K false)) ∧
 ((!y2) = false →
 ((inB s1.2.1 (List.length s1.2.2.2.1)) ∧
 (Ms_l1Points (gI s1.2.2.2.1 s1.2.1) s1.1 fun (y3 : Bool) =>
 (((!y3) = true →
 (K false)) ∧
 ((!y3) = false →
 (Kb1 (s1.1, (iadd s1.2.1 1), s1.2.2.1, s1.2.2.2.1, s1.2.2.2.2))))))))))) ∧
 ((decide (s1.2.1 < s1.1)) = false →
 (Kx1 (s1.1, s1.2.1, s1.2.2.1, s1.2.2.2.1, s1.2.2.2.2)))))
 ((len p1), 0, p1, p2, p3) fun s1 =>
 (LoopP (S := Int × Int × List Int × List Int × List Int) (fun s4 Kb4 Kx4 =>
 (((decide (s4.2.1 < (len s4.2.2.2.2))) = true →
 ((inB s4.2.1 (List.length s4.2.2.2.2)) ∧
 (Ms_l1Points (gI s4.2.2.2.2 s4.2.1) s4.1 fun (y5 : Bool) =>
 (((!y5) = true →
 (K false)) ∧
 ((!y5) = false →
 (Kb4 (s4.1, (iadd s4.2.1 1), s4.2.2.1, s4.2.2.2.1, s4.2.2.2.2))))))) ∧
 ((decide (s4.2.1 < (len s4.2.2.2.2))) = false →
 (Kx4 (s4.1, s4.2.1, s4.2.2.1, s4.2.2.2.1, s4.2.2.2.2)))))
 (s1.1, 0, s1.2.2.1, s1.2.2.2.1, s1.2.2.2.2) fun s4 =>
 (K true)))))))))))))
/-! spec.l4At -/
def Ms_l4At (p1 : List Int) (p2 : Int) (K : Int → Prop) : Prop :=
 (LoopP (S := List Int × Int × Int) (fun s1 Kb1 Kx1 =>
 (((decide (s1.2.2 < (len s1.1))) = true →
 ((inB s1.2.2 (List.length s1.1)) ∧
 ((((gI s1.1 s1.2.2) == s1.2.1) = true →
 (K s1.2.2)) ∧
 (((gI s1.1 s1.2.2) == s1.2.1) = false →
 (Kb1 (s1.1, s1.2.1, (iadd s1.2.2 1))))))) ∧
 ((decide (s1.2.2 < (len s1.1))) = false →
 (Kx1 (s1.1, s1.2.1, s1.2.2)))))
 (p1, p2, 0) fun s1 =>
 (K (-1)))
/-! spec.l4Free -/
def Ms_l4Free (p1 : List Int) (p2 : List Int) (p3 : List Int) (p4 : Int) (K : Bool → Prop) : Prop :=
 (((decide (p4 ≥ 0)) = true →
 (((decide (p4 < (len p1))) = true →
 ((inB p4 (List.length p1)) ∧
 ((((gI p1 p4) == (-1)) = true →
 ((inB p4 (List.length p2)) ∧
 ((((gI p2 p4) == (-1)) = true →
 (Ms_l4At p1 p4 fun (y1 : Int) =>
 (((decide (y1 < 0)) = true →
 (Ms_l4At p2 p4 fun (y2 : Int) =>
 (((decide (y2 < 0)) = true →
 (Ms_l4At p3 p4 fun (y3 : Int) =>
 (K (decide (y3 < 0))))) ∧
 ((decide (y2 < 0)) = false →
 (K false))))) ∧
 ((decide (y1 < 0)) = false →
 (K false))))) ∧
 (((gI p2 p4) == (-1)) = false →
 (K false))))) ∧
 (((gI p1 p4) == (-1)) = false →
 (K false))))) ∧
 ((decide (p4 < (len p1))) = false →
 (K false)))) ∧
 ((decide (p4 ≥ 0)) = false →
 (K false)))
/-! spec.StoreValid -/
def Ms_StoreValid (p1 : List Int) (p2 : List Int) (p3 : List Int) (p4 : List Int) (K : Bool → Prop) : Prop :=
 (Ms_HeapValid p1 p2 p3 fun (y1 : Bool) =>
 (((!y1) = true →
 (K false)) ∧
 ((!y1) = false →
 (((decide ((len p4) > (len p1))) = true →
 (K false)) ∧
 ((decide ((len p4) > (len p1))) = false →
 (LoopP (S := Int × List Int × List Int × List Int × List Int) (fun s2 Kb2 Kx2 =>
 (((decide (s2.1 < (len s2.2.2.2.2))) = true →
 ((inB s2.1 (List.length s2.2.2.2.2)) ∧
 (Ms_l4Free s2.2.1 s2.2.2.1 s2.2.2.2.1 (gI s2.2.2.2.2 s2.1) fun (y3 : Bool) =>
 (((!y3) = true →
 (K false)) ∧
 ((!y3) = false →
 (((0 : Int) ≤ (0 : Int) ∧ (0 : Int) ≤ s2.1 ∧ s2.1 ≤ len s2.2.2.2.2) ∧
 ((inB s2.1 (List.length s2.2.2.2.2)) ∧
 (Ms_l4At (sub s2.2.2.2.2 (0 : Int) s2.1) (gI s2.2.2.2.2 s2.1) fun (y4 : Int) =>
 (((decide (y4 ≥ 0)) = true →
 (K false)) ∧
 ((decide (y4 ≥ 0)) = false →
 (Kb2 ((iadd s2.1 1), s2.2.1, s2.2.2.1, s2.2.2.2.1, s2.2.2.2.2)))))))))))) ∧
 ((decide (s2.1 < (len s2.2.2.2.2))) = false →
 (Kx2 (s2.1, s2.2.1, s2.2.2.1, s2.2.2.2.1, s2.2.2.2.2)))))
 (0, p1, p2, p3, p4) fun s2 =>
 (K true)))))))
/-! spec.l1Copy -/
def Ms_l1Copy (p1 : List Int) (p2 : List Int) (p3 : List Int) (K : Prop) : Prop :=
 (((List.length p1 : Nat) ≤ 2 ^ 36) ∧
 (((List.length p2 : Nat) ≤ 2 ^ 36) ∧
 (((List.length p3 : Nat) ≤ 2 ^ 36) ∧
 K)))
/-! spec.l4Copy -/
def Ms_l4Copy (p1 : List Int) (p2 : List Int) (p3 : List Int) (p4 : List Int) (K : Prop) : Prop :=
 (Ms_l1Copy p1 p2 p3 <|
 (((List.length p4 : Nat) ≤ 2 ^ 36) ∧
 K))
/-! spec.CountsOf -/
def Ms_CountsOf (p1 : List Int) (p2 : List Int) (p3 : List Int) (K : (List Int) → Prop) : Prop :=
 (Ms_HeapValid p1 p2 p3 fun (y1 : Bool) =>
 (((!y1) = true →
 (K [])) ∧
 ((!y1) = false →
 ((0 ≤ (len p1) ∧ (len p1) = (len p1) ∧ (len p1) ≤ 2 ^ 36) ∧
 (((List.length p1 : Nat) ≤ 2 ^ 36) ∧
 ((List.length p1 + List.length p2 ≤ 2 ^ 36) ∧
 ((List.length (p1 ++ p2) + List.length p3 ≤ 2 ^ 36) ∧
 (LoopP (S := Int × List Int × List Int) (fun s2 Kb2 Kx2 =>
 (((decide (s2.1 < (len s2.2.2))) = true →
 ((inB s2.1 (List.length s2.2.2)) ∧
 ((((gI s2.2.2 s2.1) != (-1)) = true →
 ((inB s2.1 (List.length s2.2.2)) ∧
 ((inB s2.1 (List.length s2.2.2)) ∧
 ((inB (gI s2.2.2 s2.1) (List.length s2.2.1)) ∧
 ((inB (gI s2.2.2 s2.1) (List.length s2.2.1)) ∧
 (let v3 : List Int := (uL s2.2.1 (gI s2.2.2 s2.1) (iadd (gI s2.2.1 (gI s2.2.2 s2.1)) 1));
 (Kb2 ((iadd s2.1 1), v3, s2.2.2)))))))) ∧
 (((gI s2.2.2 s2.1) != (-1)) = false →
 (Kb2 ((iadd s2.1 1), s2.2.1, s2.2.2)))))) ∧
 ((decide (s2.1 < (len s2.2.2))) = false →
 (Kx2 (s2.1, s2.2.1, s2.2.2)))))
 (0, (List.replicate (Int.toNat (len p1)) (0 : Int)), ((p1 ++ p2) ++ p3)) fun s2 =>
 (K s2.2.1)))))))))
/-! spec.NewCounted -/
def Ms_NewCounted (p1 : List Int) (p2 : List Int) (p3 : List Int) (p4 : List Int) (K : Bool → (List Int) → (List Int) → (List Int) → (List Int) → (List Int) → Prop) : Prop :=
 (Ms_StoreValid p1 p2 p3 p4 fun (y1 : Bool) =>
 (((!y1) = true →
 (K false [] [] [] [] [])) ∧
 ((!y1) = false →
 (Ms_l4Copy p1 p2 p3 p4 <|
 (Ms_CountsOf p1 p2 p3 fun (y2 : List Int) =>
 (K true p1 p2 p3 p4 y2))))))
/-! spec.l1Ints -/
def Ms_l1Ints (p1 : List Int) (p2 : List Int) (K : Bool → Prop) : Prop :=
 ((((len p1) != (len p2)) = true →
 (K false)) ∧
 (((len p1) != (len p2)) = false →
 (LoopP (S := List Int × List Int × Int) (fun s1 Kb1 Kx1 =>
 (((decide (s1.2.2 < (len s1.1))) = true →
 ((inB s1.2.2 (List.length s1.1)) ∧
 ((inB s1.2.2 (List.length s1.2.1)) ∧
 ((((gI s1.1 s1.2.2) != (gI s1.2.1 s1.2.2)) = true →
 (K false)) ∧
 (((gI s1.1 s1.2.2) != (gI s1.2.1 s1.2.2)) = false →
 (Kb1 (s1.1, s1.2.1, (iadd s1.2.2 1)))))))) ∧
 ((decide (s1.2.2 < (len s1.1))) = false →
 (Kx1 (s1.1, s1.2.1, s1.2.2)))))
 (p1, p2, 0) fun s1 =>
 (K true))))
/-! spec.CountedValid -/
def Ms_CountedValid (p1 : List Int) (p2 : List Int) (p3 : List Int) (p4 : List Int) (p5 : List Int) (K : Bool → Prop) : Prop :=
 (Ms_StoreValid p1 p2 p3 p4 fun (y1 : Bool) =>
 ((y1 = true →
 (Ms_CountsOf p1 p2 p3 fun (y2 : List Int) =>
 (Ms_l1Ints p5 y2 fun (y3 : Bool) =>
 (K y3)))) ∧
 (y1 = false →
 (K false))))
/-! spec.l9Root -/
def Ms_l9Root (p1 : List Int) (p2 : List Int) (p3 : List Int) (p4 : List Int) (p5 : List Int) (p6 : Int) (K : Bool → Prop) : Prop :=
 (Ms_CountedValid p1 p2 p3 p4 p5 fun (y1 : Bool) =>
 ((y1 = true →
 (((decide (p6 ≥ 0)) = true →
 (K (decide (p6 < (len p3))))) ∧
 ((decide (p6 ≥ 0)) = false →
 (K false)))) ∧
 (y1 = false →
 (K false))))
/-! spec.l9Copy -/
def Ms_l9Copy (p1 : List Int) (p2 : List Int) (p3 : List Int) (p4 : List Int) (p5 : List Int) (K : Prop) : Prop :=
 (Ms_l4Copy p1 p2 p3 p4 <|
 (((List.length p5 : Nat) ≤ 2 ^ 36) ∧
 K))
/-! spec.l9Down -/
def Ms_l9Down (p1 : List Int) (p2 : List Int) (p3 : List Int) (p4 : List Int) (p5 : List Int) (p6 : List Int) (K : (List Int) → (List Int) → (List Int) → (List Int) → (List Int) → Prop) : Prop :=
 (LoopP (S := Int × List Int × List Int × List Int × List Int × List Int × List Int × List Int × List Int × List Int × List Int × List Int) (fun s1 Kb1 Kx1 =>
 (((decide (s1.1 < (len s1.2.2.2.2.2.1))) = true →
 (let j6 := fun (z5 : List Int) =>
 (Kb1 ((iadd s1.1 1), s1.2.1, s1.2.2.1, s1.2.2.2.1, z5, s1.2.2.2.2.2.1, s1.2.2.2.2.2.2.1, s1.2.2.2.2.2.2.2.1, s1.2.2.2.2.2.2.2.2.1, s1.2.2.2.2.2.2.2.2.2.1, s1.2.2.2.2.2.2.2.2.2.2.1, s1.2.2.2.2.2.2.2.2.2.2.2));
 ((inB s1.1 (List.length s1.2.2.2.2.2.1)) ∧
 ((((gI s1.2.2.2.2.2.1 s1.1) == (-1)) = true →
 (j6 s1.2.2.2.2.1)) ∧
 (((gI s1.2.2.2.2.2.1 s1.1) == (-1)) = false →
 ((inB (gI s1.2.2.2.2.2.1 s1.1) (List.length s1.2.2.2.2.1)) ∧
 ((inB (gI s1.2.2.2.2.2.1 s1.1) (List.length s1.2.2.2.2.1)) ∧
 (let v2 : List Int := (uL s1.2.2.2.2.1 (gI s1.2.2.2.2.2.1 s1.1) (isub (gI s1.2.2.2.2.1 (gI s1.2.2.2.2.2.1 s1.1)) 1));
 ((inB (gI s1.2.2.2.2.2.1 s1.1) (List.length v2)) ∧
 (((decide ((gI v2 (gI s1.2.2.2.2.2.1 s1.1)) > 0)) = true →
 (j6 v2)) ∧
 ((decide ((gI v2 (gI s1.2.2.2.2.2.1 s1.1)) > 0)) = false →
 ((inB (gI s1.2.2.2.2.2.1 s1.1) (List.length s1.2.1)) ∧
 ((inB (gI s1.2.2.2.2.2.1 s1.1) (List.length s1.2.2.1)) ∧
 ((List.length s1.2.2.2.2.2.1 + List.length ([(gI s1.2.1 (gI s1.2.2.2.2.2.1 s1.1)), (gI s1.2.2.1 (gI s1.2.2.2.2.2.1 s1.1))] : List Int) ≤ 2 ^ 36) ∧
 (let v3 : List Int := (s1.2.2.2.2.2.1 ++ [(gI s1.2.1 (gI s1.2.2.2.2.2.1 s1.1)), (gI s1.2.2.1 (gI s1.2.2.2.2.2.1 s1.1))]);
 ((inB (gI s1.2.2.2.2.2.1 s1.1) (List.length s1.2.1)) ∧
 ((inB (gI s1.2.2.2.2.2.1 s1.1) (List.length s1.2.2.1)) ∧
 ((List.length s1.2.2.2.2.2.2.1 + List.length ([(gI s1.2.2.2.2.2.1 s1.1)] : List Int) ≤ 2 ^ 36) ∧
 (Kb1 ((iadd s1.1 1), (uL s1.2.1 (gI s1.2.2.2.2.2.1 s1.1) (-1)), (uL s1.2.2.1 (gI s1.2.2.2.2.2.1 s1.1) (-1)), s1.2.2.2.1, v2, v3, (s1.2.2.2.2.2.2.1 ++ [(gI s1.2.2.2.2.2.1 s1.1)]), s1.2.2.2.2.2.2.2.1, s1.2.2.2.2.2.2.2.2.1, s1.2.2.2.2.2.2.2.2.2.1, s1.2.2.2.2.2.2.2.2.2.2.1, s1.2.2.2.2.2.2.2.2.2.2.2)))))))))))))))))))) ∧
 ((decide (s1.1 < (len s1.2.2.2.2.2.1))) = false →
 (Kx1 (s1.1, s1.2.1, s1.2.2.1, s1.2.2.2.1, s1.2.2.2.2.1, s1.2.2.2.2.2.1, s1.2.2.2.2.2.2.1, s1.2.2.2.2.2.2.2.1, s1.2.2.2.2.2.2.2.2.1, s1.2.2.2.2.2.2.2.2.2.1, s1.2.2.2.2.2.2.2.2.2.2.1, s1.2.2.2.2.2.2.2.2.2.2.2)))))
 (0, p1, p2, p3, p5, p6, p4, [], [], [], [], []) fun s1 =>
 (K s1.2.1 s1.2.2.1 s1.2.2.2.1 s1.2.2.2.2.1 s1.2.2.2.2.2.2.1))
/-! spec.TakeCounted -/
def Ms_TakeCounted (p1 : List Int) (p2 : List Int) (p3 : List Int) (p4 : List Int) (p5 : List Int) (p6 : Int) (K : Bool → (List Int) → (List Int) → (List Int) → (List Int) → (List Int) → Prop) : Prop :=
 (Ms_l9Root p1 p2 p3 p4 p5 p6 fun (y1 : Bool) =>
 (((!y1) = true →
 (K false [] [] [] [] [])) ∧
 ((!y1) = false →
 ((((len p4) == 0) = true →
 (K false [] [] [] [] [])) ∧
 (((len p4) == 0) = false →
 (Ms_l9Copy p1 p2 p3 p4 p5 <|
 ((inB 0 (List.length p4)) ∧
 ((inB p6 (List.length p3)) ∧
 (((0 : Int) ≤ (1 : Int) ∧ (1 : Int) ≤ (len p4) ∧ (len p4) ≤ len p4) ∧
 (((List.length (sub p4 (1 : Int) (len p4)) : Nat) ≤ 2 ^ 36) ∧
 ((inB p6 (List.length p3)) ∧
 ((inB (gI p4 0) (List.length p5)) ∧
 (Ms_l9Down p1 p2 (uL p3 p6 (gI p4 0)) (sub p4 (1 : Int) (len p4)) (uL p5 (gI p4 0) 1) [(gI p3 p6)] fun (y2 : List Int) (y3 : List Int) (y4 : List Int) (y5 : List Int) (y6 : List Int) =>
 (K true y2 y3 y4 y6 y5))))))))))))))
/-! spec.DropRoot -/
def Ms_DropRoot (p1 : List Int) (p2 : List Int) (p3 : List Int) (p4 : List Int) (p5 : List Int) (p6 : Int) (K : Bool → (List Int) → (List Int) → (List Int) → (List Int) → (List Int) → Prop) : Prop :=
 (Ms_l9Root p1 p2 p3 p4 p5 p6 fun (y1 : Bool) =>
 (((!y1) = true →
 (K false [] [] [] [] [])) ∧
 ((!y1) = false →
 (Ms_l9Copy p1 p2 p3 p4 p5 <|
 ((inB p6 (List.length p3)) ∧
 ((inB p6 (List.length p3)) ∧
 (Ms_l9Down p1 p2 (uL p3 p6 (-1)) p4 p5 [(gI p3 p6)] fun (y2 : List Int) (y3 : List Int) (y4 : List Int) (y5 : List Int) (y6 : List Int) =>
 (K true y2 y3 y4 y6 y5))))))))
/-! spec.LinkCounted -/
def Ms_LinkCounted (p1 : List Int) (p2 : List Int) (p3 : List Int) (p4 : List Int) (p5 : List Int) (p6 : Int) (p7 : Int) (K : Bool → (List Int) → (List Int) → (List Int) → (List Int) → (List Int) → Prop) : Prop :=
 (Ms_l9Root p1 p2 p3 p4 p5 p6 fun (y1 : Bool) =>
 (((!y1) = true →
 (K false [] [] [] [] [])) ∧
 ((!y1) = false →
 (Ms_l9Root p1 p2 p3 p4 p5 p7 fun (y2 : Bool) =>
 (((!y2) = true →
 (K false [] [] [] [] [])) ∧
 ((!y2) = false →
 ((inB p6 (List.length p3)) ∧
 ((((gI p3 p6) == (-1)) = true →
 (K false [] [] [] [] [])) ∧
 (((gI p3 p6) == (-1)) = false →
 (Ms_l9Copy p1 p2 p3 p4 p5 <|
 ((inB p6 (List.length p3)) ∧
 ((inB p7 (List.length p3)) ∧
 ((inB (gI p3 p6) (List.length p1)) ∧
 (let j10 := fun (z4 : List Int) =>
 ((inB (gI p3 p6) (List.length p1)) ∧
 (Ms_l9Down (uL p1 (gI p3 p6) (gI p3 p7)) p2 p3 p4 z4 [(gI p1 (gI p3 p6))] fun (y5 : List Int) (y6 : List Int) (y7 : List Int) (y8 : List Int) (y9 : List Int) =>
 (K true y5 y6 y7 y9 y8)));
 ((((gI p3 p7) != (-1)) = true →
 ((inB (gI p3 p7) (List.length p5)) ∧
 ((inB (gI p3 p7) (List.length p5)) ∧
 (j10 (uL p5 (gI p3 p7) (iadd (gI p5 (gI p3 p7)) 1)))))) ∧
 (((gI p3 p7) != (-1)) = false →
 (j10 p5)))))))))))))))))
/-! spec.l9Draw -/
def Ms_l9Draw (p1 : List Int) (p2 : Int) (K : (List Int) → Int → (List Int) → (List Int) → (List Int) → (List Int) → (List Int) → Prop) : Prop :=
 (Ms_l13Rd_num [4, 3, 5, 2, 6] p1 p2 fun (y1 : Int) (y2 : Int) =>
 (Ms_l13Rd_num [2, 3, 1] p1 y2 fun (y3 : Int) (y4 : Int) =>
 (Ms_NewStore y1 y3 fun (y5 : Bool) (y6 : List Int) (y7 : List Int) (y8 : List Int) (y9 : List Int) =>
 (Ms_NewCounted y6 y7 y8 y9 fun (y10 : Bool) (y11 : List Int) (y12 : List Int) (y13 : List Int) (y14 : List Int) (y15 : List Int) =>
 (Ms_l13Rd_num [5, 3, 8, 2, 0, 12] p1 y4 fun (y16 : Int) (y17 : Int) =>
 (LoopP (S := Int × List Int × Int × List Int × List Int × List Int × List Int × List Int × List Int × List Int × List Int × List Int × List Int × List Int × List Int × List Int × List Int) (fun s18 Kb18 Kx18 =>
 (((decide (s18.1 > 0)) = true →
 (let j91 := fun (z80 : Int) (z86 : List Int) (z87 : List Int) (z88 : List Int) (z89 : List Int) (z90 : List Int) =>
 (Kb18 ((isub s18.1 1), s18.2.1, z80, s18.2.2.2.1, s18.2.2.2.2.1, s18.2.2.2.2.2.1, s18.2.2.2.2.2.2.1, s18.2.2.2.2.2.2.2.1, s18.2.2.2.2.2.2.2.2.1, s18.2.2.2.2.2.2.2.2.2.1, s18.2.2.2.2.2.2.2.2.2.2.1, s18.2.2.2.2.2.2.2.2.2.2.2.1, z86, z87, z88, z89, z90));
 (let j103 := fun (z92 : Int) =>
 (Kb18 ((isub s18.1 1), s18.2.1, z92, s18.2.2.2.1, s18.2.2.2.2.1, s18.2.2.2.2.2.1, s18.2.2.2.2.2.2.1, s18.2.2.2.2.2.2.2.1, s18.2.2.2.2.2.2.2.2.1, s18.2.2.2.2.2.2.2.2.2.1, s18.2.2.2.2.2.2.2.2.2.2.1, s18.2.2.2.2.2.2.2.2.2.2.2.1, s18.2.2.2.2.2.2.2.2.2.2.2.2.1, s18.2.2.2.2.2.2.2.2.2.2.2.2.2.1, s18.2.2.2.2.2.2.2.2.2.2.2.2.2.2.1, s18.2.2.2.2.2.2.2.2.2.2.2.2.2.2.2.1, s18.2.2.2.2.2.2.2.2.2.2.2.2.2.2.2.2));
 (Ms_l13Rd_pick (len s18.2.2.2.2.2.2.2.2.2.2.1) s18.2.1 s18.2.2.1 fun (y19 : Int) (y20 : Int) =>
 (Ms_l13Rd_pick (len s18.2.2.2.2.2.2.2.2.2.2.1) s18.2.1 y20 fun (y21 : Int) (y22 : Int) =>
 (Ms_TakeCounted s18.2.2.2.2.2.2.2.2.2.2.2.2.1 s18.2.2.2.2.2.2.2.2.2.2.2.2.2.1 s18.2.2.2.2.2.2.2.2.2.2.2.2.2.2.1 s18.2.2.2.2.2.2.2.2.2.2.2.2.2.2.2.1 s18.2.2.2.2.2.2.2.2.2.2.2.2.2.2.2.2 y19 fun (y23 : Bool) (y24 : List Int) (y25 : List Int) (y26 : List Int) (y27 : List Int) (y28 : List Int) =>
 (Ms_l13Rd_pick 4 s18.2.1 y22 fun (y29 : Int) (y30 : Int) =>
 (((y29 == 0) = true →
 (Ms_DropRoot s18.2.2.2.2.2.2.2.2.2.2.2.2.1 s18.2.2.2.2.2.2.2.2.2.2.2.2.2.1 s18.2.2.2.2.2.2.2.2.2.2.2.2.2.2.1 s18.2.2.2.2.2.2.2.2.2.2.2.2.2.2.2.1 s18.2.2.2.2.2.2.2.2.2.2.2.2.2.2.2.2 y19 fun (y31 : Bool) (y32 : List Int) (y33 : List Int) (y34 : List Int) (y35 : List Int) (y36 : List Int) =>
 ((y31 = true →
 (j91 y30 y32 y33 y34 y35 y36)) ∧
 (y31 = false →
 (j103 y30))))) ∧
 ((y29 == 0) = false →
 (((y29 == 1) = true →
 (Ms_LinkCounted s18.2.2.2.2.2.2.2.2.2.2.2.2.1 s18.2.2.2.2.2.2.2.2.2.2.2.2.2.1 s18.2.2.2.2.2.2.2.2.2.2.2.2.2.2.1 s18.2.2.2.2.2.2.2.2.2.2.2.2.2.2.2.1 s18.2.2.2.2.2.2.2.2.2.2.2.2.2.2.2.2 y19 y21 fun (y37 : Bool) (y38 : List Int) (y39 : List Int) (y40 : List Int) (y41 : List Int) (y42 : List Int) =>
 ((y37 = true →
 (j91 y30 y38 y39 y40 y41 y42)) ∧
 (y37 = false →
 (j103 y30))))) ∧
 ((y29 == 1) = false →
 ((y23 = true →
 (Kb18 ((isub s18.1 1), s18.2.1, y30, s18.2.2.2.1, s18.2.2.2.2.1, s18.2.2.2.2.2.1, s18.2.2.2.2.2.2.1, s18.2.2.2.2.2.2.2.1, s18.2.2.2.2.2.2.2.2.1, s18.2.2.2.2.2.2.2.2.2.1, s18.2.2.2.2.2.2.2.2.2.2.1, s18.2.2.2.2.2.2.2.2.2.2.2.1, y24, y25, y26, y27, y28))) ∧
 (y23 = false →
 (Kb18 ((isub s18.1 1), s18.2.1, y30, s18.2.2.2.1, s18.2.2.2.2.1, s18.2.2.2.2.2.1, s18.2.2.2.2.2.2.1, s18.2.2.2.2.2.2.2.1, s18.2.2.2.2.2.2.2.2.1, s18.2.2.2.2.2.2.2.2.2.1, s18.2.2.2.2.2.2.2.2.2.2.1, s18.2.2.2.2.2.2.2.2.2.2.2.1, s18.2.2.2.2.2.2.2.2.2.2.2.2.1, s18.2.2.2.2.2.2.2.2.2.2.2.2.2.1, s18.2.2.2.2.2.2.2.2.2.2.2.2.2.2.1, s18.2.2.2.2.2.2.2.2.2.2.2.2.2.2.2.1, s18.2.2.2.2.2.2.2.2.2.2.2.2.2.2.2.2))))))))))))))) ∧
 ((decide (s18.1 > 0)) = false →
 (Kx18 (s18.1, s18.2.1, s18.2.2.1, s18.2.2.2.1, s18.2.2.2.2.1, s18.2.2.2.2.2.1, s18.2.2.2.2.2.2.1, s18.2.2.2.2.2.2.2.1, s18.2.2.2.2.2.2.2.2.1, s18.2.2.2.2.2.2.2.2.2.1, s18.2.2.2.2.2.2.2.2.2.2.1, s18.2.2.2.2.2.2.2.2.2.2.2.1, s18.2.2.2.2.2.2.2.2.2.2.2.2.1, s18.2.2.2.2.2.2.2.2.2.2.2.2.2.1, s18.2.2.2.2.2.2.2.2.2.2.2.2.2.2.1, s18.2.2.2.2.2.2.2.2.2.2.2.2.2.2.2.1, s18.2.2.2.2.2.2.2.2.2.2.2.2.2.2.2.2)))))
 (y16, p1, y17, [], [], [], [], [], y6, y7, y8, y9, y11, y12, y13, y14, y15) fun s18 =>
 (K s18.2.1 s18.2.2.1 s18.2.2.2.2.2.2.2.2.2.2.2.2.1 s18.2.2.2.2.2.2.2.2.2.2.2.2.2.1 s18.2.2.2.2.2.2.2.2.2.2.2.2.2.2.1 s18.2.2.2.2.2.2.2.2.2.2.2.2.2.2.2.1 s18.2.2.2.2.2.2.2.2.2.2.2.2.2.2.2.2)))))))
/-! spec.l1Wrong -/
def Ms_l1Wrong (p1 : List Int) (p2 : Int) (p3 : List Int) (p4 : List Int) (p5 : List Int) (K : Int → (List Int) → (List Int) → (List Int) → Prop) : Prop :=
 (Ms_l1Copy p3 p4 p5 <|
 (Ms_l13Rd_pick 20 p1 p2 fun (y1 : Int) (y2 : Int) =>
 (((y1 == 0) = true →
 (Ms_l13Rd_pick (len p3) p1 y2 fun (y3 : Int) (y4 : Int) =>
 (Ms_l13Rd_num [(-2), 8, 0] p1 y4 fun (y5 : Int) (y6 : Int) =>
 ((inB y3 (List.length p3)) ∧
 (K y6 (uL p3 y3 y5) p4 p5))))) ∧
 ((y1 == 0) = false →
 (((y1 == 1) = true →
 ((List.length p4 + List.length ([(-1)] : List Int) ≤ 2 ^ 36) ∧
 (K y2 p3 (p4 ++ [(-1)]) p5))) ∧
 ((y1 == 1) = false →
 (((y1 == 2) = true →
 (Ms_l13Rd_num [0, (-1), 9] p1 y2 fun (y7 : Int) (y8 : Int) =>
 ((List.length p5 + List.length ([y7] : List Int) ≤ 2 ^ 36) ∧
 (K y8 p3 p4 (p5 ++ [y7]))))) ∧
 ((y1 == 2) = false →
 (((y1 == 3) = true →
 (K y2 p3 p4 [])) ∧
 ((y1 == 3) = false →
 (K y2 p3 p4 p5)))))))))))
/-! spec.l4Wrong -/
def Ms_l4Wrong (p1 : List Int) (p2 : Int) (p3 : List Int) (p4 : List Int) (p5 : List Int) (p6 : List Int) (K : Int → (List Int) → (List Int) → (List Int) → (List Int) → Prop) : Prop :=
 (Ms_l4Copy p3 p4 p5 p6 <|
 (Ms_l13Rd_pick 20 p1 p2 fun (y1 : Int) (y2 : Int) =>
 (((y1 == 0) = true →
 (Ms_l13Rd_num [0, 1, 8, (-1)] p1 y2 fun (y3 : Int) (y4 : Int) =>
 ((List.length p6 + List.length ([y3] : List Int) ≤ 2 ^ 36) ∧
 (K y4 p3 p4 p5 (p6 ++ [y3]))))) ∧
 ((y1 == 0) = false →
 (((y1 == 1) = true →
 (Ms_l1Wrong p1 y2 p3 p4 p5 fun (y5 : Int) (y6 : List Int) (y7 : List Int) (y8 : List Int) =>
 (Ms_l1Wrong p1 y5 y6 y7 y8 fun (y9 : Int) (y10 : List Int) (y11 : List Int) (y12 : List Int) =>
 (K y9 y10 y11 y12 p6)))) ∧
 ((y1 == 1) = false →
 (K y2 p3 p4 p5 p6)))))))
/-! spec.l9Wrong -/
def Ms_l9Wrong (p1 : List Int) (p2 : Int) (p3 : List Int) (p4 : List Int) (p5 : List Int) (p6 : List Int) (p7 : List Int) (K : Int → (List Int) → (List Int) → (List Int) → (List Int) → (List Int) → Prop) : Prop :=
 (Ms_l9Copy p3 p4 p5 p6 p7 <|
 (Ms_l13Rd_pick 20 p1 p2 fun (y1 : Int) (y2 : Int) =>
 (((y1 == 0) = true →
 (Ms_l13Rd_pick (len p7) p1 y2 fun (y3 : Int) (y4 : Int) =>
 (Ms_l13Rd_num [(-1), 0, 1, 2] p1 y4 fun (y5 : Int) (y6 : Int) =>
 ((inB y3 (List.length p7)) ∧
 (K y6 p3 p4 p5 p6 (uL p7 y3 y5)))))) ∧
 ((y1 == 0) = false →
 (((y1 == 1) = true →
 (Ms_l4Wrong p1 y2 p3 p4 p5 p6 fun (y7 : Int) (y8 : List Int) (y9 : List Int) (y10 : List Int) (y11 : List Int) =>
 (Ms_l4Wrong p1 y7 y8 y9 y10 y11 fun (y12 : Int) (y13 : List Int) (y14 : List Int) (y15 : List Int) (y16 : List Int) =>
 (K y12 y13 y14 y15 y16 p7)))) ∧
 ((y1 == 1) = false →
 (K y2 p3 p4 p5 p6 p7)))))))
/-! spec.l9Case -/
def Ms_l9Case (p1 : List Int) (K : Int → Int → (List Int) → (List Int) → (List Int) → (List Int) → (List Int) → Prop) : Prop :=
 (Ms_l13Open p1 fun (y1 : List Int) (y2 : Int) =>
 (Ms_l9Draw y1 y2 fun (y3 : List Int) (y4 : Int) (y5 : List Int) (y6 : List Int) (y7 : List Int) (y8 : List Int) (y9 : List Int) =>
 (Ms_l9Wrong y3 y4 y5 y6 y7 y8 y9 fun (y10 : Int) (y11 : List Int) (y12 : List Int) (y13 : List Int) (y14 : List Int) (y15 : List Int) =>
 (Ms_l13Rd_num [0, 1, 0, 2, 3, (-1)] y3 y10 fun (y16 : Int) (y17 : Int) =>
 (Ms_l13Rd_num [1, 0, 2, 3] y3 y17 fun (y18 : Int) (y19 : Int) =>
 (K y16 y18 y11 y12 y13 y14 y15))))))
/-! spec.DrawTakeCounted -/
def Ms_DrawTakeCounted (p1 : List Int) (K : Int → (List Int) → (List Int) → (List Int) → (List Int) → (List Int) → Prop) : Prop :=
 (Ms_l9Case p1 fun (y1 : Int) (y2 : Int) (y3 : List Int) (y4 : List Int) (y5 : List Int) (y6 : List Int) (y7 : List Int) =>
 (K y1 y3 y4 y5 y6 y7))
/-! spec.DrawDropRoot -/
def Ms_DrawDropRoot (p1 : List Int) (K : Int → (List Int) → (List Int) → (List Int) → (List Int) → (List Int) → Prop) : Prop :=
 (Ms_DrawTakeCounted p1 fun (y1 : Int) (y2 : List Int) (y3 : List Int) (y4 : List Int) (y5 : List Int) (y6 : List Int) =>
 (K y1 y2 y3 y4 y5 y6))
/-! impl.HeapValid -/
def Mi_HeapValid (p1 : List Int) (p2 : List Int) (p3 : List Int) (K : Bool → Prop) : Prop :=
 ((((len p1) != (len p2)) = true →
 (K false)) ∧
 (((len p1) != (len p2)) = false →
 (((decide ((len p1) < 1)) = true →
 (K false)) ∧
 ((decide ((len p1) < 1)) = false →
 (((decide ((len p1) > 8)) = true →
 (K false)) ∧
 ((decide ((len p1) > 8)) = false →
 (((decide ((len p3) < 1)) = true →
 (K false)) ∧
 ((decide ((len p3) < 1)) = false →
 (((decide ((len p3) > 3)) = true →
 (K false)) ∧
 ((decide ((len p3) > 3)) = false →
 (LoopP (S := Int × Int × List Int × List Int × List Int × List (List Int)) (fun s1 Kb1 Kx1 =>
 (((decide (s1.2.1 < s1.1)) = true →
 ((inB s1.2.1 (List.length s1.2.2.2.2.2)) ∧
 (LoopP (S := Int × Int × List Int × Int × Int × List Int × List Int × List Int × List (List Int)) (fun s2 Kb2 Kx2 =>
 (((decide (s2.2.2.2.2.1 < s2.2.2.2.1)) = true →
 ((inB s2.2.2.2.2.1 (List.length s2.2.2.1)) ∧
 (((decide ((gI s2.2.2.1 s2.2.2.2.2.1) < (-1))) = true →
 (K false)) ∧
 ((decide ((gI s2.2.2.1 s2.2.2.2.2.1) < (-1))) = false →
 (((decide ((gI s2.2.2.1 s2.2.2.2.2.1) ≥ (len s2.2.2.2.2.2.1))) = true →
 (K false)) ∧
 ((decide ((gI s2.2.2.1 s2.2.2.2.2.1) ≥ (len s2.2.2.2.2.2.1))) = false →
 (Kb2 (s2.1, s2.2.1, s2.2.2.1, s2.2.2.2.1, (iadd s2.2.2.2.2.1 1), s2.2.2.2.2.2.1, s2.2.2.2.2.2.2.1, s2.2.2.2.2.2.2.2.1, s2.2.2.2.2.2.2.2.2)))))))) ∧
 ((decide (s2.2.2.2.2.1 < s2.2.2.2.1)) = false →
 (Kx2 (s2.1, s2.2.1, s2.2.2.1, s2.2.2.2.1, s2.2.2.2.2.1, s2.2.2.2.2.2.1, s2.2.2.2.2.2.2.1, s2.2.2.2.2.2.2.2.1, s2.2.2.2.2.2.2.2.2)))))
 (s1.1, s1.2.1, (gL s1.2.2.2.2.2 s1.2.1), (len (gL s1.2.2.2.2.2 s1.2.1)), 0, s1.2.2.1, s1.2.2.2.1, s1.2.2.2.2.1, s1.2.2.2.2.2) fun s2 =>
 (Kb1 (s2.1, (iadd s2.2.1 1), s2.2.2.2.2.2.1, s2.2.2.2.2.2.2.1, s2.2.2.2.2.2.2.2.1, s2.2.2.2.2.2.2.2.2))))) ∧
 ((decide (s1.2.1 < s1.1)) = false →
 (Kx1 (s1.1, s1.2.1, s1.2.2.1, s1.2.2.2.1, s1.2.2.2.2.1, s1.2.2.2.2.2)))))
 ((len [p1, p2, p3]), 0, p1, p2, p3, [p1, p2, p3]) fun s1 =>
 (K true))))))))))))
/-! slices.Grow[[]int,int] -/
def M_Grow_int (p1 : Int) (K : (List Int) → Prop) : Prop :=
 (((decide (p1 < 0)) = true →
 False) ∧
 ((decide (p1 < 0)) = false →
 (((decide ((isub p1 (isub 0 0)) > 0)) = true →
 (((0 : Int) = 0 ∧ (0 : Int) = 0) ∧
 (((0 : Int) < (isub p1 (isub 0 0)) ∧ (isub p1 (isub 0 0)) ≤ 2 ^ 36) ∧
 (((0 : Int) ≤ (0 : Int) ∧ (0 : Int) ≤ (0 : Int) ∧ (0 : Int) ≤ len (List.replicate (Int.toNat (isub p1 (isub 0 0))) (0 : Int))) ∧
 (let v1 : List Int := (sub (List.replicate (Int.toNat (isub p1 (isub 0 0))) (0 : Int)) (0 : Int) (0 : Int));
 (K v1)))))) ∧
 ((decide ((isub p1 (isub 0 0)) > 0)) = false →
 (K [])))))
/-! slices.Concat[[]int,int] -/
def M_Concat_int (p1 : List (List Int)) (K : (List Int) → Prop) : Prop :=
 (LoopP (S := List (List Int) × Int × List (List Int) × Int × Int) (fun s1 Kb1 Kx1 =>
 (((decide (s1.2.2.2.2 < s1.2.2.2.1)) = true →
 ((inB s1.2.2.2.2 (List.length s1.2.2.1)) ∧
 (((decide ((iadd s1.2.1 (len (gL s1.2.2.1 s1.2.2.2.2))) < 0)) = true →
 False) ∧
 ((decide ((iadd s1.2.1 (len (gL s1.2.2.1 s1.2.2.2.2))) < 0)) = false →
 (Kb1 (s1.1, (iadd s1.2.1 (len (gL s1.2.2.1 s1.2.2.2.2))), s1.2.2.1, s1.2.2.2.1, (iadd s1.2.2.2.2 1))))))) ∧
 ((decide (s1.2.2.2.2 < s1.2.2.2.1)) = false →
 (Kx1 (s1.1, s1.2.1, s1.2.2.1, s1.2.2.2.1, s1.2.2.2.2)))))
 (p1, 0, p1, (len p1), 0) fun s1 =>
 (M_Grow_int s1.2.1 fun (y2 : List Int) =>
 (LoopP (S := List (List Int) × Int × Int × List Int) (fun s3 Kb3 Kx3 =>
 (((decide (s3.2.2.1 < s3.2.1)) = true →
 ((inB s3.2.2.1 (List.length s3.1)) ∧
 ((List.length s3.2.2.2 + List.length (gL s3.1 s3.2.2.1) ≤ 2 ^ 36) ∧
 (Kb3 (s3.1, s3.2.1, (iadd s3.2.2.1 1), (s3.2.2.2 ++ (gL s3.1 s3.2.2.1))))))) ∧
 ((decide (s3.2.2.1 < s3.2.1)) = false →
 (Kx3 (s3.1, s3.2.1, s3.2.2.1, s3.2.2.2)))))
 (s1.1, (len s1.1), 0, y2) fun s3 =>
 (K s3.2.2.2))))
/-! impl.CountsOf -/
def Mi_CountsOf (p1 : List Int) (p2 : List Int) (p3 : List Int) (K : (List Int) → Prop) : Prop :=
 (Mi_HeapValid p1 p2 p3 fun (y1 : Bool) =>
 (((!y1) = true →
 (K [])) ∧
 ((!y1) = false →
 ((0 ≤ (len p1) ∧ (len p1) = (len p1) ∧ (len p1) ≤ 2 ^ 36) ∧
 (M_Concat_int [p1, p2, p3] fun (y2 : List Int) =>
 (LoopP (S := Int × Int × List Int × List Int) (fun s3 Kb3 Kx3 =>
 (((decide (s3.2.1 < s3.1)) = true →
 ((inB s3.2.1 (List.length s3.2.2.2)) ∧
 ((((gI s3.2.2.2 s3.2.1) != (-1)) = true →
 ((inB (gI s3.2.2.2 s3.2.1) (List.length s3.2.2.1)) ∧
 ((inB (gI s3.2.2.2 s3.2.1) (List.length s3.2.2.1)) ∧
 (let v4 : List Int := (uL s3.2.2.1 (gI s3.2.2.2 s3.2.1) (iadd (gI s3.2.2.1 (gI s3.2.2.2 s3.2.1)) 1));
 (Kb3 (s3.1, (iadd s3.2.1 1), v4, s3.2.2.2)))))) ∧
 (((gI s3.2.2.2 s3.2.1) != (-1)) = false →
 (Kb3 (s3.1, (iadd s3.2.1 1), s3.2.2.1, s3.2.2.2)))))) ∧
 ((decide (s3.2.1 < s3.1)) = false →
 (Kx3 (s3.1, s3.2.1, s3.2.2.1, s3.2.2.2)))))
 ((len y2), 0, (List.replicate (Int.toNat (len p1)) (0 : Int)), y2) fun s3 =>
 (K s3.2.2.1)))))))
/-! slices.Index[[]int,int] -/
def M_Index_int (p1 : List Int) (p2 : Int) (K : Int → Prop) : Prop :=
 (LoopP (S := List Int × Int × Int × Int) (fun s1 Kb1 Kx1 =>
 (((decide (s1.2.2.2 < s1.2.2.1)) = true →
 ((inB s1.2.2.2 (List.length s1.1)) ∧
 (((s1.2.1 == (gI s1.1 s1.2.2.2)) = true →
 (K s1.2.2.2)) ∧
 ((s1.2.1 == (gI s1.1 s1.2.2.2)) = false →
 (Kb1 (s1.1, s1.2.1, s1.2.2.1, (iadd s1.2.2.2 1))))))) ∧
 ((decide (s1.2.2.2 < s1.2.2.1)) = false →
 (Kx1 (s1.1, s1.2.1, s1.2.2.1, s1.2.2.2)))))
 (p1, p2, (len p1), 0) fun s1 =>
 (K (-1)))
/-! slices.Contains[[]int,int] -/
def M_Contains_int (p1 : List Int) (p2 : Int) (K : Bool → Prop) : Prop :=
 (M_Index_int p1 p2 fun (y1 : Int) =>
 (K (decide (y1 ≥ 0))))
/-! impl.StoreValid -/
def Mi_StoreValid (p1 : List Int) (p2 : List Int) (p3 : List Int) (p4 : List Int) (K : Bool → Prop) : Prop :=
 (Mi_HeapValid p1 p2 p3 fun (y1 : Bool) =>
 (((!y1) = true →
 (K false)) ∧
 ((!y1) = false →
 (Mi_CountsOf p1 p2 p3 fun (y2 : List Int) =>
 (LoopP (S := List Int × Int × Int × List Int × List Int × List Int × List Int × List Int) (fun s3 Kb3 Kx3 =>
 (((decide (s3.2.2.1 < s3.2.1)) = true →
 ((inB s3.2.2.1 (List.length s3.1)) ∧
 (((decide ((gI s3.1 s3.2.2.1) < 0)) = true →
 (K false)) ∧
 ((decide ((gI s3.1 s3.2.2.1) < 0)) = false →
 (((decide ((gI s3.1 s3.2.2.1) ≥ (len s3.2.2.2.2.2.2.2))) = true →
 (K false)) ∧
 ((decide ((gI s3.1 s3.2.2.1) ≥ (len s3.2.2.2.2.2.2.2))) = false →
 ((inB (gI s3.1 s3.2.2.1) (List.length s3.2.2.2.2.2.2.2)) ∧
 (((decide ((gI s3.2.2.2.2.2.2.2 (gI s3.1 s3.2.2.1)) > 0)) = true →
 (K false)) ∧
 ((decide ((gI s3.2.2.2.2.2.2.2 (gI s3.1 s3.2.2.1)) > 0)) = false →
 ((inB (gI s3.1 s3.2.2.1) (List.length s3.2.2.2.1)) ∧
 ((((gI s3.2.2.2.1 (gI s3.1 s3.2.2.1)) != (-1)) = true →
 (K false)) ∧
 (((gI s3.2.2.2.1 (gI s3.1 s3.2.2.1)) != (-1)) = false →
 ((inB (gI s3.1 s3.2.2.1) (List.length s3.2.2.2.2.1)) ∧
 ((((gI s3.2.2.2.2.1 (gI s3.1 s3.2.2.1)) != (-1)) = true →
 (K false)) ∧
 (((gI s3.2.2.2.2.1 (gI s3.1 s3.2.2.1)) != (-1)) = false →
 (((0 : Int) ≤ (0 : Int) ∧ (0 : Int) ≤ s3.2.2.1 ∧ s3.2.2.1 ≤ len s3.2.2.2.2.2.2.1) ∧
 (M_Contains_int (sub s3.2.2.2.2.2.2.1 (0 : Int) s3.2.2.1) (gI s3.1 s3.2.2.1) fun (y4 : Bool) =>
 ((y4 = true →
 (K false)) ∧
 (y4 = false →
 (Kb3 (s3.1, s3.2.1, (iadd s3.2.2.1 1), s3.2.2.2.1, s3.2.2.2.2.1, s3.2.2.2.2.2.1, s3.2.2.2.2.2.2.1, s3.2.2.2.2.2.2.2))))))))))))))))))))) ∧
 ((decide (s3.2.2.1 < s3.2.1)) = false →
 (Kx3 (s3.1, s3.2.1, s3.2.2.1, s3.2.2.2.1, s3.2.2.2.2.1, s3.2.2.2.2.2.1, s3.2.2.2.2.2.2.1, s3.2.2.2.2.2.2.2)))))
 (p4, (len p4), 0, p1, p2, p3, p4, y2) fun s3 =>
 (K true))))))
/-! slices.Equal[[]int,int] -/
def M_Equal_int (p1 : List Int) (p2 : List Int) (K : Bool → Prop) : Prop :=
 ((((len p1) != (len p2)) = true →
 (K false)) ∧
 (((len p1) != (len p2)) = false →
 (LoopP (S := List Int × List Int × Int × Int) (fun s1 Kb1 Kx1 =>
 (((decide (s1.2.2.2 < s1.2.2.1)) = true →
 ((inB s1.2.2.2 (List.length s1.1)) ∧
 ((inB s1.2.2.2 (List.length s1.2.1)) ∧
 ((((gI s1.1 s1.2.2.2) != (gI s1.2.1 s1.2.2.2)) = true →
 (K false)) ∧
 (((gI s1.1 s1.2.2.2) != (gI s1.2.1 s1.2.2.2)) = false →
 (Kb1 (s1.1, s1.2.1, s1.2.2.1, (iadd s1.2.2.2 1)))))))) ∧
 ((decide (s1.2.2.2 < s1.2.2.1)) = false →
 (Kx1 (s1.1, s1.2.1, s1.2.2.1, s1.2.2.2)))))
 (p1, p2, (len p1), 0) fun s1 =>
 (K true))))
/-! impl.CountedValid -/
def Mi_CountedValid (p1 : List Int) (p2 : List Int) (p3 : List Int) (p4 : List Int) (p5 : List Int) (K : Bool → Prop) : Prop :=
 (Mi_StoreValid p1 p2 p3 p4 fun (y1 : Bool) =>
 ((y1 = true →
 (Mi_CountsOf p1 p2 p3 fun (y2 : List Int) =>
 (M_Equal_int p5 y2 fun (y3 : Bool) =>
 (K y3)))) ∧
 (y1 = false →
 (K false))))
/-! impl.rooted -/
def Mi_rooted (p1 : List Int) (p2 : List Int) (p3 : List Int) (p4 : List Int) (p5 : List Int) (p6 : Int) (K : Bool → Prop) : Prop :=
 (Mi_CountedValid p1 p2 p3 p4 p5 fun (y1 : Bool) =>
 ((y1 = true →
 (((decide (p6 ≥ 0)) = true →
 (K (decide (p6 < (len p3))))) ∧
 ((decide (p6 ≥ 0)) = false →
 (K false)))) ∧
 (y1 = false →
 (K false))))
/-! slices.Clone[[]int,int] -/
def M_Clone_int (p1 : List Int) (K : (List Int) → Prop) : Prop :=
 (∀ b1 : Bool, ((List.length p1 : Nat) ≠ 0 → b1 = false) →
 ((b1 = true →
 (K [])) ∧
 (b1 = false →
 (((List.length p1 : Nat) ≤ 2 ^ 36) ∧
 (K p1)))))
/-! impl.copied -/
def Mi_copied (p1 : List Int) (p2 : List Int) (p3 : List Int) (K : (List Int) → (List Int) → (List Int) → Prop) : Prop :=
 (M_Clone_int p1 fun (y1 : List Int) =>
 (M_Clone_int p2 fun (y2 : List Int) =>
 (M_Clone_int p3 fun (y3 : List Int) =>
 (K y1 y2 y3))))
/-! impl.again -/
def Mi_again (p1 : List Int) (p2 : List Int) (p3 : List Int) (p4 : List Int) (K : (List Int) → (List Int) → (List Int) → (List Int) → Prop) : Prop :=
 (Mi_copied p1 p2 p3 fun (y1 : List Int) (y2 : List Int) (y3 : List Int) =>
 (M_Clone_int p4 fun (y4 : List Int) =>
 (K y1 y2 y3 y4)))
/-! impl.counted -/
def Mi_counted (p1 : List Int) (p2 : List Int) (p3 : List Int) (p4 : List Int) (p5 : List Int) (K : (List Int) → (List Int) → (List Int) → (List Int) → (List Int) → Prop) : Prop :=
 (Mi_again p1 p2 p3 p4 fun (y1 : List Int) (y2 : List Int) (y3 : List Int) (y4 : List Int) =>
 (M_Clone_int p5 fun (y5 : List Int) =>
 (K y1 y2 y3 y4 y5)))
/-! (*impl.Counted).giveUp -/
def Mi_Counted_giveUp (p1 : Int) (p2 : List Int) (p3 : List Int) (p4 : List Int) (p5 : List Int) (p6 : List Int) (K : (List Int) → (List Int) → (List Int) → (List Int) → (List Int) → Prop) : Prop :=
 (LoopP (S := Int × List Int × List Int × List Int × List Int × List Int × List Int) (fun s1 Kb1 Kx1 =>
 (((decide (s1.1 < (len s1.2.2.2.2.2.1))) = true →
 ((inB s1.1 (List.length s1.2.2.2.2.2.1)) ∧
 ((((gI s1.2.2.2.2.2.1 s1.1) == (-1)) = true →
 (Kb1 ((iadd s1.1 1), s1.2.1, s1.2.2.1, s1.2.2.2.1, s1.2.2.2.2.1, s1.2.2.2.2.2.1, s1.2.2.2.2.2.2))) ∧
 (((gI s1.2.2.2.2.2.1 s1.1) == (-1)) = false →
 ((inB (gI s1.2.2.2.2.2.1 s1.1) (List.length s1.2.2.2.2.1)) ∧
 ((inB (gI s1.2.2.2.2.2.1 s1.1) (List.length s1.2.2.2.2.1)) ∧
 (let v2 : List Int := (uL s1.2.2.2.2.1 (gI s1.2.2.2.2.2.1 s1.1) (isub (gI s1.2.2.2.2.1 (gI s1.2.2.2.2.2.1 s1.1)) 1));
 ((inB (gI s1.2.2.2.2.2.1 s1.1) (List.length v2)) ∧
 (((decide ((gI v2 (gI s1.2.2.2.2.2.1 s1.1)) > 0)) = true →
 (Kb1 ((iadd s1.1 1), s1.2.1, s1.2.2.1, s1.2.2.2.1, v2, s1.2.2.2.2.2.1, s1.2.2.2.2.2.2))) ∧
 ((decide ((gI v2 (gI s1.2.2.2.2.2.1 s1.1)) > 0)) = false →
 ((inB (gI s1.2.2.2.2.2.1 s1.1) (List.length s1.2.1)) ∧
 ((inB (gI s1.2.2.2.2.2.1 s1.1) (List.length s1.2.2.1)) ∧
 ((List.length s1.2.2.2.2.2.1 + List.length ([(gI s1.2.1 (gI s1.2.2.2.2.2.1 s1.1)), (gI s1.2.2.1 (gI s1.2.2.2.2.2.1 s1.1))] : List Int) ≤ 2 ^ 36) ∧
 (let v3 : List Int := (s1.2.2.2.2.2.1 ++ [(gI s1.2.1 (gI s1.2.2.2.2.2.1 s1.1)), (gI s1.2.2.1 (gI s1.2.2.2.2.2.1 s1.1))]);
 ((inB (gI s1.2.2.2.2.2.1 s1.1) (List.length s1.2.1)) ∧
 ((inB (gI s1.2.2.2.2.2.1 s1.1) (List.length s1.2.2.1)) ∧
 ((List.length s1.2.2.2.2.2.2 + List.length ([(gI s1.2.2.2.2.2.1 s1.1)] : List Int) ≤ 2 ^ 36) ∧
 (Kb1 ((iadd s1.1 1), (uL s1.2.1 (gI s1.2.2.2.2.2.1 s1.1) (-1)), (uL s1.2.2.1 (gI s1.2.2.2.2.2.1 s1.1) (-1)), s1.2.2.2.1, v2, v3, (s1.2.2.2.2.2.2 ++ [(gI s1.2.2.2.2.2.1 s1.1)])))))))))))))))))))) ∧
 ((decide (s1.1 < (len s1.2.2.2.2.2.1))) = false →
 (Kx1 (s1.1, s1.2.1, s1.2.2.1, s1.2.2.2.1, s1.2.2.2.2.1, s1.2.2.2.2.2.1, s1.2.2.2.2.2.2)))))
 (0, p2, p3, p4, p6, [p1], p5) fun s1 =>
 (K s1.2.1 s1.2.2.1 s1.2.2.2.1 s1.2.2.2.2.1 s1.2.2.2.2.2.2))
/-! impl.DropRoot -/
def Mi_DropRoot (p1 : List Int) (p2 : List Int) (p3 : List Int) (p4 : List Int) (p5 : List Int) (p6 : Int) (K : Bool → (List Int) → (List Int) → (List Int) → (List Int) → (List Int) → Prop) : Prop :=
 (Mi_rooted p1 p2 p3 p4 p5 p6 fun (y1 : Bool) =>
 (((!y1) = true →
 (K false [] [] [] [] [])) ∧
 ((!y1) = false →
 (Mi_counted p1 p2 p3 p4 p5 fun (y2 : List Int) (y3 : List Int) (y4 : List Int) (y5 : List Int) (y6 : List Int) =>
 ((inB p6 (List.length y4)) ∧
 ((inB p6 (List.length y4)) ∧
 (Mi_Counted_giveUp (gI y4 p6) y2 y3 (uL y4 p6 (-1)) y5 y6 fun (y7 : List Int) (y8 : List Int) (y9 : List Int) (y10 : List Int) (y11 : List Int) =>
 (K true y7 y8 y9 y11 y10))))))))
/-! impl.HeapSame -/
def Mi_HeapSame (p1 : List Int) (p2 : List Int) (p3 : List Int) (p4 : List Int) (p5 : List Int) (p6 : List Int) (K : Bool → Prop) : Prop :=
 (M_Equal_int p1 p4 fun (y1 : Bool) =>
 ((y1 = true →
 (M_Equal_int p2 p5 fun (y2 : Bool) =>
 ((y2 = true →
 (M_Equal_int p3 p6 fun (y3 : Bool) =>
 (K y3))) ∧
 (y2 = false →
 (K false))))) ∧
 (y1 = false →
 (K false))))
/-! impl.StoreSame -/
def Mi_StoreSame (p1 : List Int) (p2 : List Int) (p3 : List Int) (p4 : List Int) (p5 : List Int) (p6 : List Int) (p7 : List Int) (p8 : List Int) (K : Bool → Prop) : Prop :=
 (Mi_HeapSame p1 p2 p3 p5 p6 p7 fun (y1 : Bool) =>
 ((y1 = true →
 (M_Equal_int p4 p8 fun (y2 : Bool) =>
 (K y2))) ∧
 (y1 = false →
 (K false))))
/-! impl.CountedSame -/
def Mi_CountedSame (p1 : List Int) (p2 : List Int) (p3 : List Int) (p4 : List Int) (p5 : List Int) (p6 : List Int) (p7 : List Int) (p8 : List Int) (p9 : List Int) (p10 : List Int) (K : Bool → Prop) : Prop :=
 (Mi_StoreSame p1 p2 p3 p4 p6 p7 p8 p9 fun (y1 : Bool) =>
 ((y1 = true →
 (M_Equal_int p5 p10 fun (y2 : Bool) =>
 (K y2))) ∧
 (y1 = false →
 (K false))))
/-! impl.pointer -/
def Mi_pointer (p1 : List Int) (p2 : List Int) (p3 : List Int) (p4 : Int) (K : Bool → Prop) : Prop :=
 (((decide (p4 ≥ (-1))) = true →
 (K (decide (p4 < (len p1))))) ∧
 ((decide (p4 ≥ (-1))) = false →
 (K false)))
/-! impl.PutRoot -/
def Mi_PutRoot (p1 : List Int) (p2 : List Int) (p3 : List Int) (p4 : Int) (p5 : Int) (K : Bool → (List Int) → (List Int) → (List Int) → Prop) : Prop :=
 (Mi_HeapValid p1 p2 p3 fun (y1 : Bool) =>
 (((!y1) = true →
 (K false [] [] [])) ∧
 ((!y1) = false →
 (((decide (p4 < 0)) = true →
 (K false [] [] [])) ∧
 ((decide (p4 < 0)) = false →
 (((decide (p4 ≥ (len p3))) = true →
 (K false [] [] [])) ∧
 ((decide (p4 ≥ (len p3))) = false →
 (Mi_pointer p1 p2 p3 p5 fun (y2 : Bool) =>
 (((!y2) = true →
 (K false [] [] [])) ∧
 ((!y2) = false →
 (Mi_copied p1 p2 p3 fun (y3 : List Int) (y4 : List Int) (y5 : List Int) =>
 ((inB p4 (List.length y5)) ∧
 (K true y3 y4 (uL y5 p4 p5))))))))))))))
/-! impl.distances$1 -/
def Mi_distances_1 (p1 : Int) (p2 : Int) (p3 : List Int) (p4 : List Int) (K : (List Int) → (List Int) → Prop) : Prop :=
 (((p1 != (-1)) = true →
 ((inB p1 (List.length p3)) ∧
 ((((gI p3 p1) == 0) = true →
 ((inB p1 (List.length p3)) ∧
 ((List.length p4 + List.length ([p1] : List Int) ≤ 2 ^ 36) ∧
 (K (uL p3 p1 p2) (p4 ++ [p1]))))) ∧
 (((gI p3 p1) == 0) = false →
 (K p3 p4))))) ∧
 ((p1 != (-1)) = false →
 (K p3 p4)))
/-! impl.distances -/
def Mi_distances (p1 : List Int) (p2 : List Int) (p3 : List Int) (K : (List Int) → Prop) : Prop :=
 ((0 ≤ (len p1) ∧ (len p1) = (len p1) ∧ (len p1) ≤ 2 ^ 36) ∧
 (LoopP (S := List Int × Int × Int × List Int × List Int × List Int × List Int × List Int) (fun s1 Kb1 Kx1 =>
 (((decide (s1.2.2.1 < s1.2.1)) = true →
 ((inB s1.2.2.1 (List.length s1.1)) ∧
 (Mi_distances_1 (gI s1.1 s1.2.2.1) 1 s1.2.2.2.2.2.2.1 s1.2.2.2.2.2.2.2 fun (y2 : List Int) (y3 : List Int) =>
 (Kb1 (s1.1, s1.2.1, (iadd s1.2.2.1 1), s1.2.2.2.1, s1.2.2.2.2.1, s1.2.2.2.2.2.1, y2, y3))))) ∧
 ((decide (s1.2.2.1 < s1.2.1)) = false →
 (Kx1 (s1.1, s1.2.1, s1.2.2.1, s1.2.2.2.1, s1.2.2.2.2.1, s1.2.2.2.2.2.1, s1.2.2.2.2.2.2.1, s1.2.2.2.2.2.2.2)))))
 (p3, (len p3), 0, p1, p2, p3, (List.replicate (Int.toNat (len p1)) (0 : Int)), []) fun s1 =>
 (LoopP (S := Int × List Int × List Int × List Int × List Int × List Int) (fun s4 Kb4 Kx4 =>
 (((decide (s4.1 < (len s4.2.2.2.2.2))) = true →
 ((inB s4.1 (List.length s4.2.2.2.2.2)) ∧
 ((inB (gI s4.2.2.2.2.2 s4.1) (List.length s4.2.1)) ∧
 ((inB s4.1 (List.length s4.2.2.2.2.2)) ∧
 ((inB (gI s4.2.2.2.2.2 s4.1) (List.length s4.2.2.2.2.1)) ∧
 (Mi_distances_1 (gI s4.2.1 (gI s4.2.2.2.2.2 s4.1)) (iadd (gI s4.2.2.2.2.1 (gI s4.2.2.2.2.2 s4.1)) 1) s4.2.2.2.2.1 s4.2.2.2.2.2 fun (y5 : List Int) (y6 : List Int) =>
 ((inB s4.1 (List.length y6)) ∧
 ((inB (gI y6 s4.1) (List.length s4.2.2.1)) ∧
 ((inB s4.1 (List.length y6)) ∧
 ((inB (gI y6 s4.1) (List.length y5)) ∧
 (Mi_distances_1 (gI s4.2.2.1 (gI y6 s4.1)) (iadd (gI y5 (gI y6 s4.1)) 1) y5 y6 fun (y7 : List Int) (y8 : List Int) =>
 (Kb4 ((iadd s4.1 1), s4.2.1, s4.2.2.1, s4.2.2.2.1, y7, y8))))))))))))) ∧
 ((decide (s4.1 < (len s4.2.2.2.2.2))) = false →
 (Kx4 (s4.1, s4.2.1, s4.2.2.1, s4.2.2.2.1, s4.2.2.2.2.1, s4.2.2.2.2.2)))))
 (0, s1.2.2.2.1, s1.2.2.2.2.1, s1.2.2.2.2.2.1, s1.2.2.2.2.2.2.1, s1.2.2.2.2.2.2.2) fun s4 =>
 (K s4.2.2.2.2.1))))
/-! impl.Reachable -/
def Mi_Reachable (p1 : List Int) (p2 : List Int) (p3 : List Int) (K : (List Bool) → Prop) : Prop :=
 (Mi_HeapValid p1 p2 p3 fun (y1 : Bool) =>
 (((!y1) = true →
 (K [])) ∧
 ((!y1) = false →
 (Mi_distances p1 p2 p3 fun (y2 : List Int) =>
 (LoopP (S := Int × Int × List Bool × List Int) (fun s3 Kb3 Kx3 =>
 (((decide (s3.2.1 < s3.1)) = true →
 ((inB s3.2.1 (List.length s3.2.2.2)) ∧
 ((List.length s3.2.2.1 + List.length ([(decide ((gI s3.2.2.2 s3.2.1) > 0))] : List Bool) ≤ 2 ^ 36) ∧
 (Kb3 (s3.1, (iadd s3.2.1 1), (s3.2.2.1 ++ [(decide ((gI s3.2.2.2 s3.2.1) > 0))]), s3.2.2.2))))) ∧
 ((decide (s3.2.1 < s3.1)) = false →
 (Kx3 (s3.1, s3.2.1, s3.2.2.1, s3.2.2.2)))))
 ((len y2), 0, [], y2) fun s3 =>
 (K s3.2.2.1))))))
/-! impl.IsFree -/
def Mi_IsFree (p1 : List Int) (p2 : List Int) (p3 : List Int) (p4 : List Int) (p5 : Int) (K : Bool → Prop) : Prop :=
 (Mi_StoreValid p1 p2 p3 p4 fun (y1 : Bool) =>
 ((y1 = true →
 (M_Contains_int p4 p5 fun (y2 : Bool) =>
 (K y2))) ∧
 (y1 = false →
 (K false))))
/-! math/bits.Mul64 -/
def M_math_bits_Mul64 (p1 : Int) (p2 : Int) (K : Int → Int → Prop) : Prop :=
 (let v1 : Int := (IntKind.wrap .u64 (((BitVec.ofInt (IntKind.bits .u64) p1 &&& BitVec.ofInt (IntKind.bits .u64) 4294967295).toNat : Int)));
 (((0 : Int) ≤ (32 : Int)) ∧
 (let v2 : Int := (IntKind.wrap .u64 (((BitVec.ofInt (IntKind.bits .u64) p2 &&& BitVec.ofInt (IntKind.bits .u64) 4294967295).toNat : Int)));
 (((0 : Int) ≤ (32 : Int)) ∧
 (let v3 : Int := (IntKind.wrap .u64 ((Int.fdiv p1 (2 ^ min (Int.toNat 32) (IntKind.bits .u64))) * v2));
 (((0 : Int) ≤ (32 : Int)) ∧
 (let v4 : Int := (Int.fdiv (IntKind.wrap .u64 (v1 * v2)) (2 ^ min (Int.toNat 32) (IntKind.bits .u64)));
 (let v5 : Int := (IntKind.wrap .u64 (((BitVec.ofInt (IntKind.bits .u64) (IntKind.wrap .u64 (v3 + v4)) &&& BitVec.ofInt (IntKind.bits .u64) 4294967295).toNat : Int)));
 (((0 : Int) ≤ (32 : Int)) ∧
 (let v6 : Int := (Int.fdiv (IntKind.wrap .u64 (v3 + v4)) (2 ^ min (Int.toNat 32) (IntKind.bits .u64)));
 (let v7 : Int := (IntKind.wrap .u64 (v1 * (Int.fdiv p2 (2 ^ min (Int.toNat 32) (IntKind.bits .u64)))));
 (let v8 : Int := (IntKind.wrap .u64 ((Int.fdiv p1 (2 ^ min (Int.toNat 32) (IntKind.bits .u64))) * (Int.fdiv p2 (2 ^ min (Int.toNat 32) (IntKind.bits .u64)))));
 (((0 : Int) ≤ (32 : Int)) ∧
 (let v9 : Int := (Int.fdiv (IntKind.wrap .u64 (v5 + v7)) (2 ^ min (Int.toNat 32) (IntKind.bits .u64)));
 (K (IntKind.wrap .u64 ((IntKind.wrap .u64 (v8 + v6)) + v9)) (IntKind.wrap .u64 (p1 * p2)))))))))))))))))
/-! math/bits.Mul -/
def M_math_bits_Mul (p1 : Int) (p2 : Int) (K : Int → Int → Prop) : Prop :=
 (M_math_bits_Mul64 p1 p2 fun (y1 : Int) (y2 : Int) =>
 (K y1 y2))
/-! slices.Repeat[[]int,int] -/
def M_Repeat_int (p1 : List Int) (p2 : Int) (K : (List Int) → Prop) : Prop :=
 (((decide (p2 < 0)) = true →
 False) ∧
 ((decide (p2 < 0)) = false →
 (M_math_bits_Mul (IntKind.wrap .u64 (len p1)) (IntKind.wrap .u64 p2) fun (y1 : Int) (y2 : Int) =>
 (((decide (y1 > 0)) = true →
 False) ∧
 ((decide (y1 > 0)) = false →
 (((decide (y2 > 9223372036854775807)) = true →
 False) ∧
 ((decide (y2 > 9223372036854775807)) = false →
 ((0 ≤ (IntKind.wrap .i64 y2) ∧ (IntKind.wrap .i64 y2) = (IntKind.wrap .i64 y2) ∧ (IntKind.wrap .i64 y2) ≤ 2 ^ 36) ∧
 (let v3 : List Int := (List.replicate (Int.toNat (IntKind.wrap .i64 y2)) (0 : Int));
 (((0 : Nat) < List.length p1 ∧ (0 : Int) < ((List.length v3 : Nat) : Int)) ∧
 (let v4 : Int := ((Nat.min (List.length p1) (Int.toNat (((List.length v3 : Nat) : Int) - (0 : Int))) : Nat) : Int);
 (let v5 : List Int := (setC v3 (Int.toNat (0 : Int)) (List.take (Int.toNat (((List.length v3 : Nat) : Int) - (0 : Int))) p1));
 (LoopP (S := Int × List Int) (fun s6 Kb6 Kx6 =>
 (((decide (s6.1 < (len s6.2))) = true →
 (((0 : Int) ≤ s6.1 ∧ s6.1 ≤ ((List.length s6.2 : Nat) : Int) ∧ ((List.length s6.2 : Nat) : Int) ≤ ((List.length s6.2 : Nat) : Int)) ∧
 (((0 : Int) ≤ (0 : Int) ∧ (0 : Int) ≤ s6.1 ∧ s6.1 ≤ ((List.length s6.2 : Nat) : Int)) ∧
 (((0 : Nat) < List.length (sub s6.2 (0 : Int) s6.1) ∧ s6.1 < ((List.length s6.2 : Nat) : Int)) ∧
 (let v7 : Int := ((Nat.min (List.length (sub s6.2 (0 : Int) s6.1)) (Int.toNat (((List.length s6.2 : Nat) : Int) - s6.1)) : Nat) : Int);
 (let v8 : List Int := (setC s6.2 (Int.toNat s6.1) (List.take (Int.toNat (((List.length s6.2 : Nat) : Int) - s6.1)) (sub s6.2 (0 : Int) s6.1)));
 (Kb6 ((iadd s6.1 v7), v8)))))))) ∧
 ((decide (s6.1 < (len s6.2))) = false →
 (Kx6 (s6.1, s6.2)))))
 (v4, v5) fun s6 =>
 (K s6.2))))))))))))))
/-! impl.NewHeap -/
def Mi_NewHeap (p1 : Int) (p2 : Int) (K : Bool → (List Int) → (List Int) → (List Int) → Prop) : Prop :=
 (((decide (p1 < 1)) = true →
 (K false [] [] [])) ∧
 ((decide (p1 < 1)) = false →
 (((decide (p1 > 8)) = true →
 (K false [] [] [])) ∧
 ((decide (p1 > 8)) = false →
 (((decide (p2 < 1)) = true →
 (K false [] [] [])) ∧
 ((decide (p2 < 1)) = false →
 (((decide (p2 > 3)) = true →
 (K false [] [] [])) ∧
 ((decide (p2 > 3)) = false →
 (M_Repeat_int [(-1)] p1 fun (y1 : List Int) =>
 (M_Repeat_int [(-1)] p1 fun (y2 : List Int) =>
 (M_Repeat_int [(-1)] p2 fun (y3 : List Int) =>
 (K true y1 y2 y3))))))))))))
/-! impl.met -/
def Mi_met (p1 : List Int) (p2 : List Int) (K : (List Int) → Prop) : Prop :=
 (LoopP (S := List Int × Int × Int × List Int) (fun s1 Kb1 Kx1 =>
 (((decide (s1.2.2.1 < s1.2.1)) = true →
 ((inB s1.2.2.1 (List.length s1.1)) ∧
 ((((gI s1.1 s1.2.2.1) != (-1)) = true →
 (M_Contains_int s1.2.2.2 (gI s1.1 s1.2.2.1) fun (y2 : Bool) =>
 (((!y2) = true →
 ((List.length s1.2.2.2 + List.length ([(gI s1.1 s1.2.2.1)] : List Int) ≤ 2 ^ 36) ∧
 (Kb1 (s1.1, s1.2.1, (iadd s1.2.2.1 1), (s1.2.2.2 ++ [(gI s1.1 s1.2.2.1)]))))) ∧
 ((!y2) = false →
 (Kb1 (s1.1, s1.2.1, (iadd s1.2.2.1 1), s1.2.2.2)))))) ∧
 (((gI s1.1 s1.2.2.1) != (-1)) = false →
 (Kb1 (s1.1, s1.2.1, (iadd s1.2.2.1 1), s1.2.2.2)))))) ∧
 ((decide (s1.2.2.1 < s1.2.1)) = false →
 (Kx1 (s1.1, s1.2.1, s1.2.2.1, s1.2.2.2)))))
 (p1, (len p1), 0, p2) fun s1 =>
 (K s1.2.2.2))
/-! slices.Clip[[]int,int] -/
def M_Clip_int (p1 : List Int) (K : (List Int) → Prop) : Prop :=
 (((0 : Int) ≤ (0 : Int) ∧ (0 : Int) ≤ (len p1) ∧ (len p1) ≤ (len p1) ∧ (len p1) ≤ len p1) ∧
 (K (sub p1 (0 : Int) (len p1))))
/-! impl.OrderOf -/
def Mi_OrderOf (p1 : List Int) (p2 : List Int) (p3 : List Int) (K : (List Int) → Prop) : Prop :=
 (Mi_HeapValid p1 p2 p3 fun (y1 : Bool) =>
 (((!y1) = true →
 (K [])) ∧
 ((!y1) = false →
 (Mi_met p3 [] fun (y2 : List Int) =>
 (LoopP (S := Int × List Int × List Int × List Int × List Int) (fun s3 Kb3 Kx3 =>
 (((decide (s3.1 < (len s3.2.2.2.2))) = true →
 ((inB s3.1 (List.length s3.2.2.2.2)) ∧
 ((inB (gI s3.2.2.2.2 s3.1) (List.length s3.2.1)) ∧
 ((inB s3.1 (List.length s3.2.2.2.2)) ∧
 ((inB (gI s3.2.2.2.2 s3.1) (List.length s3.2.2.1)) ∧
 (Mi_met [(gI s3.2.1 (gI s3.2.2.2.2 s3.1)), (gI s3.2.2.1 (gI s3.2.2.2.2 s3.1))] s3.2.2.2.2 fun (y4 : List Int) =>
 (Kb3 ((iadd s3.1 1), s3.2.1, s3.2.2.1, s3.2.2.2.1, y4)))))))) ∧
 ((decide (s3.1 < (len s3.2.2.2.2))) = false →
 (Kx3 (s3.1, s3.2.1, s3.2.2.1, s3.2.2.2.1, s3.2.2.2.2)))))
 (0, p1, p2, p3, y2) fun s3 =>
 (M_Clip_int s3.2.2.2.2 fun (y5 : List Int) =>
 (K y5)))))))
/-! impl.CopyHeap$1 -/
def Mi_CopyHeap_1 (p1 : Int) (p2 : List Int) (K : Int → Prop) : Prop :=
 (M_Index_int p2 p1 fun (y1 : Int) =>
 (K y1))
/-! impl.CopyHeap -/
def Mi_CopyHeap (p1 : List Int) (p2 : List Int) (p3 : List Int) (K : Bool → (List Int) → (List Int) → (List Int) → (List Int) → Prop) : Prop :=
 (Mi_HeapValid p1 p2 p3 fun (y1 : Bool) =>
 (((!y1) = true →
 (K false [] [] [] [])) ∧
 ((!y1) = false →
 (Mi_NewHeap (len p1) (len p3) fun (y2 : Bool) (y3 : List Int) (y4 : List Int) (y5 : List Int) =>
 (Mi_OrderOf p1 p2 p3 fun (y6 : List Int) =>
 (LoopP (S := Int × Int × List Int × List Int × List Int × List Int × List Int × List Int × List Int × List Int × List Int × List Int) (fun s7 Kb7 Kx7 =>
 (((decide (s7.2.1 < s7.1)) = true →
 ((inB s7.2.1 (List.length s7.2.2.2.2.2.1)) ∧
 ((inB (gI s7.2.2.2.2.2.1 s7.2.1) (List.length s7.2.2.1)) ∧
 (Mi_CopyHeap_1 (gI s7.2.2.1 (gI s7.2.2.2.2.2.1 s7.2.1)) s7.2.2.2.2.2.1 fun (y8 : Int) =>
 ((inB (gI s7.2.2.2.2.2.1 s7.2.1) (List.length s7.2.2.2.1)) ∧
 (Mi_CopyHeap_1 (gI s7.2.2.2.1 (gI s7.2.2.2.2.2.1 s7.2.1)) s7.2.2.2.2.2.1 fun (y9 : Int) =>
 ((inB s7.2.1 (List.length s7.2.2.2.2.2.2.2.2.2.1)) ∧
 ((inB s7.2.1 (List.length s7.2.2.2.2.2.2.2.2.2.2.1)) ∧
 (Kb7 (s7.1, (iadd s7.2.1 1), s7.2.2.1, s7.2.2.2.1, s7.2.2.2.2.1, s7.2.2.2.2.2.1, s7.2.2.2.2.2.2.1, s7.2.2.2.2.2.2.2.1, s7.2.2.2.2.2.2.2.2.1, (uL s7.2.2.2.2.2.2.2.2.2.1 s7.2.1 y8), (uL s7.2.2.2.2.2.2.2.2.2.2.1 s7.2.1 y9), s7.2.2.2.2.2.2.2.2.2.2.2)))))))))) ∧
 ((decide (s7.2.1 < s7.1)) = false →
 (Kx7 (s7.1, s7.2.1, s7.2.2.1, s7.2.2.2.1, s7.2.2.2.2.1, s7.2.2.2.2.2.1, s7.2.2.2.2.2.2.1, s7.2.2.2.2.2.2.2.1, s7.2.2.2.2.2.2.2.2.1, s7.2.2.2.2.2.2.2.2.2.1, s7.2.2.2.2.2.2.2.2.2.2.1, s7.2.2.2.2.2.2.2.2.2.2.2)))))
 ((len y6), 0, p1, p2, p3, y6, [], [], [], y3, y4, y5) fun s7 =>
 (LoopP (S := List Int × Int × Int × List Int × List Int × List Int × List Int × List Int × List Int × List Int × List Int × List Int × List Int) (fun s10 Kb10 Kx10 =>
 (((decide (s10.2.2.1 < s10.2.1)) = true →
 ((inB s10.2.2.1 (List.length s10.1)) ∧
 (Mi_CopyHeap_1 (gI s10.1 s10.2.2.1) s10.2.2.2.2.2.2.2.2.2.2.2.2 fun (y11 : Int) =>
 ((inB s10.2.2.1 (List.length s10.2.2.2.2.2.2.2.2.2.2.2.1)) ∧
 (Kb10 (s10.1, s10.2.1, (iadd s10.2.2.1 1), s10.2.2.2.1, s10.2.2.2.2.1, s10.2.2.2.2.2.1, s10.2.2.2.2.2.2.1, s10.2.2.2.2.2.2.2.1, s10.2.2.2.2.2.2.2.2.1, s10.2.2.2.2.2.2.2.2.2.1, s10.2.2.2.2.2.2.2.2.2.2.1, (uL s10.2.2.2.2.2.2.2.2.2.2.2.1 s10.2.2.1 y11), s10.2.2.2.2.2.2.2.2.2.2.2.2)))))) ∧
 ((decide (s10.2.2.1 < s10.2.1)) = false →
 (Kx10 (s10.1, s10.2.1, s10.2.2.1, s10.2.2.2.1, s10.2.2.2.2.1, s10.2.2.2.2.2.1, s10.2.2.2.2.2.2.1, s10.2.2.2.2.2.2.2.1, s10.2.2.2.2.2.2.2.2.1, s10.2.2.2.2.2.2.2.2.2.1, s10.2.2.2.2.2.2.2.2.2.2.1, s10.2.2.2.2.2.2.2.2.2.2.2.1, s10.2.2.2.2.2.2.2.2.2.2.2.2)))))
 (s7.2.2.2.2.1, (len s7.2.2.2.2.1), 0, s7.2.2.1, s7.2.2.2.1, s7.2.2.2.2.1, s7.2.2.2.2.2.2.1, s7.2.2.2.2.2.2.2.1, s7.2.2.2.2.2.2.2.2.1, s7.2.2.2.2.2.2.2.2.2.1, s7.2.2.2.2.2.2.2.2.2.2.1, s7.2.2.2.2.2.2.2.2.2.2.2, s7.2.2.2.2.2.1) fun s10 =>
 (LoopP (S := Int × Int × List Int × List Int × List Int × List Int × List Int × List Int × List Int × List Int) (fun s12 Kb12 Kx12 =>
 (((decide (s12.2.1 < s12.1)) = true →
 (Mi_CopyHeap_1 s12.2.1 s12.2.2.2.2.2.2.2.2.2 fun (y13 : Int) =>
 ((List.length s12.2.2.1 + List.length ([y13] : List Int) ≤ 2 ^ 36) ∧
 (Kb12 (s12.1, (iadd s12.2.1 1), (s12.2.2.1 ++ [y13]), s12.2.2.2.1, s12.2.2.2.2.1, s12.2.2.2.2.2.1, s12.2.2.2.2.2.2.1, s12.2.2.2.2.2.2.2.1, s12.2.2.2.2.2.2.2.2.1, s12.2.2.2.2.2.2.2.2.2))))) ∧
 ((decide (s12.2.1 < s12.1)) = false →
 (Kx12 (s12.1, s12.2.1, s12.2.2.1, s12.2.2.2.1, s12.2.2.2.2.1, s12.2.2.2.2.2.1, s12.2.2.2.2.2.2.1, s12.2.2.2.2.2.2.2.1, s12.2.2.2.2.2.2.2.2.1, s12.2.2.2.2.2.2.2.2.2)))))
 ((len s10.2.2.2.1), 0, [], s10.2.2.2.2.2.2.1, s10.2.2.2.2.2.2.2.1, s10.2.2.2.2.2.2.2.2.1, s10.2.2.2.2.2.2.2.2.2.1, s10.2.2.2.2.2.2.2.2.2.2.1, s10.2.2.2.2.2.2.2.2.2.2.2.1, s10.2.2.2.2.2.2.2.2.2.2.2.2) fun s12 =>
 (K true s12.2.2.2.2.2.2.1 s12.2.2.2.2.2.2.2.1 s12.2.2.2.2.2.2.2.2.1 s12.2.2.1)))))))))
/-! impl.CountLive -/
def Mi_CountLive (p1 : List Int) (p2 : List Int) (p3 : List Int) (K : Int → Prop) : Prop :=
 (Mi_Reachable p1 p2 p3 fun (y1 : List Bool) =>
 (LoopP (S := Int × Int × Int × List Bool) (fun s2 Kb2 Kx2 =>
 (((decide (s2.2.2.1 < s2.2.1)) = true →
 ((inB s2.2.2.1 (List.length s2.2.2.2)) ∧
 (((gB s2.2.2.2 s2.2.2.1) = true →
 (Kb2 ((iadd s2.1 1), s2.2.1, (iadd s2.2.2.1 1), s2.2.2.2))) ∧
 ((gB s2.2.2.2 s2.2.2.1) = false →
 (Kb2 (s2.1, s2.2.1, (iadd s2.2.2.1 1), s2.2.2.2)))))) ∧
 ((decide (s2.2.2.1 < s2.2.1)) = false →
 (Kx2 (s2.1, s2.2.1, s2.2.2.1, s2.2.2.2)))))
 (0, (len y1), 0, y1) fun s2 =>
 (K s2.1)))
/-! impl.HeapsAlike -/
def Mi_HeapsAlike (p1 : List Int) (p2 : List Int) (p3 : List Int) (p4 : List Int) (p5 : List Int) (p6 : List Int) (K : Bool → Prop) : Prop :=
 (Mi_CopyHeap p1 p2 p3 fun (y1 : Bool) (y2 : List Int) (y3 : List Int) (y4 : List Int) (y5 : List Int) =>
 (Mi_CopyHeap p4 p5 p6 fun (y6 : Bool) (y7 : List Int) (y8 : List Int) (y9 : List Int) (y10 : List Int) =>
 (Mi_CountLive p1 p2 p3 fun (y11 : Int) =>
 ((y1 = true →
 ((y6 = true →
 (Mi_CountLive p4 p5 p6 fun (y12 : Int) =>
 (((y11 == y12) = true →
 (M_Equal_int y4 y9 fun (y13 : Bool) =>
 ((y13 = true →
 (((0 : Int) ≤ (0 : Int) ∧ (0 : Int) ≤ y11 ∧ y11 ≤ ((List.length y2 : Nat) : Int)) ∧
 (((0 : Int) ≤ (0 : Int) ∧ (0 : Int) ≤ y11 ∧ y11 ≤ ((List.length y7 : Nat) : Int)) ∧
 (M_Equal_int (sub y2 (0 : Int) y11) (sub y7 (0 : Int) y11) fun (y14 : Bool) =>
 ((y14 = true →
 (((0 : Int) ≤ (0 : Int) ∧ (0 : Int) ≤ y11 ∧ y11 ≤ ((List.length y3 : Nat) : Int)) ∧
 (((0 : Int) ≤ (0 : Int) ∧ (0 : Int) ≤ y11 ∧ y11 ≤ ((List.length y8 : Nat) : Int)) ∧
 (M_Equal_int (sub y3 (0 : Int) y11) (sub y8 (0 : Int) y11) fun (y15 : Bool) =>
 (K y15))))) ∧
 (y14 = false →
 (K false))))))) ∧
 (y13 = false →
 (K false))))) ∧
 ((y11 == y12) = false →
 (K false))))) ∧
 (y6 = false →
 (K false)))) ∧
 (y1 = false →
 (K false))))))
/-! laws.FnDropLive -/
def Ml_FnDropLive (p1 : List Int) (K : Bool → Prop) : Prop :=
 (((decide ((len p1) > 1048576)) = true →
 (K true)) ∧
 ((decide ((len p1) > 1048576)) = false →
 (Ms_DrawDropRoot p1 fun (y1 : Int) (y2 : List Int) (y3 : List Int) (y4 : List Int) (y5 : List Int) (y6 : List Int) =>
 (Mi_DropRoot y2 y3 y4 y5 y6 y1 fun (y7 : Bool) (y8 : List Int) (y9 : List Int) (y10 : List Int) (y11 : List Int) (y12 : List Int) =>
 (Ms_DropRoot y2 y3 y4 y5 y6 y1 fun (y13 : Bool) (y14 : List Int) (y15 : List Int) (y16 : List Int) (y17 : List Int) (y18 : List Int) =>
 (Mi_CountedSame y8 y9 y10 y11 y12 y14 y15 y16 y17 y18 fun (y19 : Bool) =>
 (((!y19) = true →
 (Mi_CountedSame y8 y9 y10 y11 y12 y14 y15 y16 y17 y18 fun (y20 : Bool) =>
 ((y20 = true →
 (K (y7 == y13))) ∧
 (y20 = false →
 (K false))))) ∧
 ((!y19) = false →
 (((!(y7 == y13)) = true →
 (Mi_CountedSame y8 y9 y10 y11 y12 y14 y15 y16 y17 y18 fun (y21 : Bool) =>
 ((y21 = true →
 (K (y7 == y13))) ∧
 (y21 = false →
 (K false))))) ∧
 ((!(y7 == y13)) = false →
 (((!y7) = true →
 (Mi_CountedSame y8 y9 y10 y11 y12 y14 y15 y16 y17 y18 fun (y22 : Bool) =>
 ((y22 = true →
 (K (y7 == y13))) ∧
 (y22 = false →
 (K false))))) ∧
 ((!y7) = false →
 (Mi_PutRoot y2 y3 y4 y1 (-1) fun (y23 : Bool) (y24 : List Int) (y25 : List Int) (y26 : List Int) =>
 (Mi_Reachable y24 y25 y26 fun (y27 : List Bool) =>
 (LoopP (S := Bool × Int × List Bool × List Int × List Int × List Int × List Int × List Int × List Int × List Int × List Int) (fun s28 Kb28 Kx28 =>
 (((decide (s28.2.1 < (len s28.2.2.1))) = true →
 (let j30 : Prop :=
 (Kb28 (s28.1, (iadd s28.2.1 1), s28.2.2.1, s28.2.2.2.1, s28.2.2.2.2.1, s28.2.2.2.2.2.1, s28.2.2.2.2.2.2.1, s28.2.2.2.2.2.2.2.1, s28.2.2.2.2.2.2.2.2.1, s28.2.2.2.2.2.2.2.2.2.1, s28.2.2.2.2.2.2.2.2.2.2));
 ((inB s28.2.1 (List.length s28.2.2.1)) ∧
 (((gB s28.2.2.1 s28.2.1) = true →
 (Mi_IsFree s28.2.2.2.1 s28.2.2.2.2.1 s28.2.2.2.2.2.1 s28.2.2.2.2.2.2.1 s28.2.1 fun (y29 : Bool) =>
 ((y29 = true →
 (K false)) ∧
 (y29 = false →
 j30)))) ∧
 ((gB s28.2.2.1 s28.2.1) = false →
 j30))))) ∧
 ((decide (s28.2.1 < (len s28.2.2.1))) = false →
 (Kx28 (s28.1, s28.2.1, s28.2.2.1, s28.2.2.2.1, s28.2.2.2.2.1, s28.2.2.2.2.2.1, s28.2.2.2.2.2.2.1, s28.2.2.2.2.2.2.2.1, s28.2.2.2.2.2.2.2.2.1, s28.2.2.2.2.2.2.2.2.2.1, s28.2.2.2.2.2.2.2.2.2.2)))))
 (y23, 0, y27, y8, y9, y10, y11, y12, y24, y25, y26) fun s28 =>
 ((s28.1 = true →
 (Mi_HeapsAlike s28.2.2.2.2.2.2.2.2.1 s28.2.2.2.2.2.2.2.2.2.1 s28.2.2.2.2.2.2.2.2.2.2 s28.2.2.2.1 s28.2.2.2.2.1 s28.2.2.2.2.2.1 fun (y31 : Bool) =>
 (K y31))) ∧
 (s28.1 = false →
 (K false))))))))))))))))))
end Go.Ab
