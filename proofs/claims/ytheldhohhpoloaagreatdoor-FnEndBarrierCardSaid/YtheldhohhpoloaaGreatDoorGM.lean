/-
  What is proved here: nothing: the typed models of functions of the translated program.
-/
import Derived.Test.YtheldhohhpoloaaGreatDoorT19
import Derived.Lib.SlicesCompact
import Derived.Lib.Split
import Derived.Lib.SplitLaws
import Derived.Sort.Walk0
namespace Go.Ab
set_option linter.unusedVariables false
/-! spec.l13Open -/
def Ms_l13Open (p1 : List Int) (K : (List Int) → Int → Prop) : Prop :=
 (((decide ((len p1) > 2000)) = true →
 (((0 : Int) ≤ (0 : Int) ∧ (0 : Int) ≤ (2000 : Int) ∧ (2000 : Int) ≤ len p1) ∧
 (K (sub p1 (0 : Int) (2000 : Int)) 0))) ∧
 ((decide ((len p1) > 2000)) = false →
 (K p1 0)))
/-! (*spec.l13Rd).pick -/
def Ms_l13Rd_pick (p1 : Int) (p2 : List Int) (p3 : Int) (K : Int → Int → Prop) : Prop :=
 (((decide (p1 < 1)) = true →
 (K 0 (iadd p3 1))) ∧
 ((decide (p1 < 1)) = false →
 ((((len p2) == 0) = true →
 (K 0 (iadd p3 1))) ∧
 (((len p2) == 0) = false →
 (((decide ((isub (iadd p3 1) 1) < (len p2))) = true →
 ((inB (isub (iadd p3 1) 1) (List.length p2)) ∧
 ((p1 ≠ 0) ∧
 (let v1 : Int := (Int.tmod (IntKind.wrap .i64 (gY p2 (isub (iadd p3 1) 1))) p1);
 (K v1 (iadd p3 1)))))) ∧
 ((decide ((isub (iadd p3 1) 1) < (len p2))) = false →
 (((len p2) ≠ 0) ∧
 ((inB (Int.tmod (isub (iadd p3 1) 1) (len p2)) (List.length p2)) ∧
 (let v2 : Int := (IntKind.wrap .i64 (gY p2 (Int.tmod (isub (iadd p3 1) 1) (len p2))));
 (((len p2) ≠ 0) ∧
 ((inB (Int.tmod (iadd (imul (isub (iadd p3 1) 1) 7) 3) (len p2)) (List.length p2)) ∧
 (let v3 : Int := (gY p2 (Int.tmod (iadd (imul (isub (iadd p3 1) 1) 7) 3) (len p2)));
 (let v4 : Int := (iadd (iadd (imul v2 131) (imul (IntKind.wrap .i64 v3) 1117)) (imul (isub (iadd p3 1) 1) 29));
 (((len p2) ≠ 0) ∧
 (((64 : Int) ≠ 0) ∧
 (let v5 : Int := (iquo (iadd v4 (imul (iquo (isub (iadd p3 1) 1) (len p2)) 53)) 64);
 (let v6 : Int := (IntKind.wrap .i64 (((BitVec.ofInt (IntKind.bits .i64) (iadd v4 (imul (iquo (isub (iadd p3 1) 1) (len p2)) 53)) ^^^ BitVec.ofInt (IntKind.bits .i64) v5).toNat : Int)));
 ((p1 ≠ 0) ∧
 (K (Int.tmod v6 p1) (iadd p3 1))))))))))))))))))))
/-! (*spec.l13Rd).num -/
def Ms_l13Rd_num (p1 : List Int) (p2 : List Int) (p3 : Int) (K : Int → Int → Prop) : Prop :=
 (Ms_l13Rd_pick (len p1) p2 p3 fun (y1 : Int) (y2 : Int) =>
 ((inB y1 (List.length p1)) ∧
 (K (gI p1 y1) y2)))
/-! spec.l1Many -/
def Ms_l1Many (p1 : Int) (K : (List Int) → Prop) : Prop :=
 (LoopP (S := Int × Int × List Int) (fun s1 Kb1 Kx1 =>
 (((decide (s1.2.1 < s1.1)) = true →
 ((List.length s1.2.2 + List.length ([(-1)] : List Int) ≤ 2 ^ 36) ∧
 (Kb1 (s1.1, (iadd s1.2.1 1), (s1.2.2 ++ [(-1)]))))) ∧
 ((decide (s1.2.1 < s1.1)) = false →
 (Kx1 (s1.1, s1.2.1, s1.2.2)))))
 (p1, 0, []) fun s1 =>
 (K s1.2.2))
/-! spec.NewHeap -/
def Ms_NewHeap (p1 : Int) (p2 : Int) (K : Bool → (List Int) → (List Int) → (List Int) → Prop) : Prop :=
 (((decide (p1 < 1)) = true →
 (K false [] [] [])) ∧
 ((decide (p1 < 1)) = false →
 (((decide (p1 > 8)) = true →
 (K false [] [] [])) ∧
 ((decide (p1 > 8)) = false →
 (((decide (p2 < 1)) = true →
 (K false [] [] [])) ∧
 ((decide (p2 < 1)) = false →
 (((decide (p2 > 3)) = true →
 (K false [] [] [])) ∧
 ((decide (p2 > 3)) = false →
 (Ms_l1Many p1 fun (y1 : List Int) =>
 (Ms_l1Many p1 fun (y2 : List Int) =>
 (Ms_l1Many p2 fun (y3 : List Int) =>
 (K true y1 y2 y3))))))))))))
/-! spec.NewStore -/
def Ms_NewStore (p1 : Int) (p2 : Int) (K : Bool → (List Int) → (List Int) → (List Int) → (List Int) → Prop) : Prop :=
 (Ms_NewHeap p1 p2 fun (y1 : Bool) (y2 : List Int) (y3 : List Int) (y4 : List Int) =>
 (((!y1) = true →
 (K false [] [] [] [])) ∧
 ((!y1) = false →
 (LoopP (S := Int × Int × List Int × List Int × List Int × List Int × List Int × List Int × List Int × List Int) (fun s5 Kb5 Kx5 =>
 (((decide (s5.2.1 < s5.1)) = true →
 ((List.length s5.2.2.2.2.2.2.2.2.2 + List.length ([s5.2.1] : List Int) ≤ 2 ^ 36) ∧
 (Kb5 (s5.1, (iadd s5.2.1 1), s5.2.2.1, s5.2.2.2.1, s5.2.2.2.2.1, s5.2.2.2.2.2.1, s5.2.2.2.2.2.2.1, s5.2.2.2.2.2.2.2.1, s5.2.2.2.2.2.2.2.2.1, (s5.2.2.2.2.2.2.2.2.2 ++ [s5.2.1]))))) ∧
 ((decide (s5.2.1 < s5.1)) = false →
 (Kx5 (s5.1, s5.2.1, s5.2.2.1, s5.2.2.2.1, s5.2.2.2.2.1, s5.2.2.2.2.2.1, s5.2.2.2.2.2.2.1, s5.2.2.2.2.2.2.2.1, s5.2.2.2.2.2.2.2.2.1, s5.2.2.2.2.2.2.2.2.2)))))
 (p1, 0, [], [], [], [], y2, y3, y4, []) fun s5 =>
 (K true s5.2.2.2.2.2.2.1 s5.2.2.2.2.2.2.2.1 s5.2.2.2.2.2.2.2.2.1 s5.2.2.2.2.2.2.2.2.2)))))
/-! spec.l5One -/
def Ms_l5One (p1 : Int) (K : Bool → Prop) : Prop :=
 (((p1 == 1) = true →
 (K true)) ∧
 ((p1 == 1) = false →
 (K (p1 == 7))))
/-! spec.l5Op -/
def Ms_l5Op (p1 : List Int) (p2 : Int) (K : Int → Int → Int → Int → Prop) : Prop :=
 (Ms_l13Rd_num [1, 5, 2, 3, 4, 6, 7, 1] p1 p2 fun (y1 : Int) (y2 : Int) =>
 (Ms_l13Rd_num [0, 1, 0, 2] p1 y2 fun (y3 : Int) (y4 : Int) =>
 (Ms_l13Rd_num [0, 1, 1, 2] p1 y4 fun (y5 : Int) (y6 : Int) =>
 (Ms_l5One y1 fun (y7 : Bool) =>
 ((y7 = true →
 (K y1 y3 0 y6)) ∧
 (y7 = false →
 (K y1 y3 y5 y6)))))))
/-! spec.l5Ops -/
def Ms_l5Ops (p1 : List Int) (p2 : Int) (K : (List Int) → Int → (List OpV) → Prop) : Prop :=
 (Ms_l13Rd_num [4, 3, 6, 2, 1, 0, 9] p1 p2 fun (y1 : Int) (y2 : Int) =>
 (LoopP (S := Int × List Int × Int × List OpV) (fun s3 Kb3 Kx3 =>
 (((decide (s3.1 > 0)) = true →
 (Ms_l5Op s3.2.1 s3.2.2.1 fun (y4 : Int) (y5 : Int) (y6 : Int) (y7 : Int) =>
 ((List.length s3.2.2.2 + List.length ([(OpV.mk y4 y5 y6)] : List OpV) ≤ 2 ^ 36) ∧
 (Kb3 ((isub s3.1 1), s3.2.1, y7, (s3.2.2.2 ++ [(OpV.mk y4 y5 y6)])))))) ∧
 ((decide (s3.1 > 0)) = false →
 (Kx3 (s3.1, s3.2.1, s3.2.2.1, s3.2.2.2)))))
 (y1, p1, y2, []) fun s3 =>
 (K s3.2.1 s3.2.2.1 s3.2.2.2)))
/-! spec.l13Cut -/
def Ms_l13Cut (p1 : List UInt8) (p2 : Int) (K : (List (List UInt8)) → Prop) : Prop :=
 (LoopP (S := List UInt8 × Int × Int × Int × List (List UInt8)) (fun s1 Kb1 Kx1 =>
 (((decide (s1.2.2.2.1 ≤ (len s1.1))) = true →
 (((s1.2.2.2.1 == (len s1.1)) = true →
 (((0 : Int) ≤ s1.2.2.1 ∧ s1.2.2.1 ≤ s1.2.2.2.1 ∧ s1.2.2.2.1 ≤ len s1.1) ∧
 ((List.length s1.2.2.2.2 + List.length ([(sub s1.1 s1.2.2.1 s1.2.2.2.1)] : List (List UInt8)) ≤ 2 ^ 36) ∧
 (Kb1 (s1.1, s1.2.1, (iadd s1.2.2.2.1 1), (iadd s1.2.2.2.1 1), (s1.2.2.2.2 ++ [(sub s1.1 s1.2.2.1 s1.2.2.2.1)])))))) ∧
 ((s1.2.2.2.1 == (len s1.1)) = false →
 ((inB s1.2.2.2.1 (List.length s1.1)) ∧
 ((((gC s1.1 s1.2.2.2.1) == s1.2.1) = true →
 (((0 : Int) ≤ s1.2.2.1 ∧ s1.2.2.1 ≤ s1.2.2.2.1 ∧ s1.2.2.2.1 ≤ len s1.1) ∧
 ((List.length s1.2.2.2.2 + List.length ([(sub s1.1 s1.2.2.1 s1.2.2.2.1)] : List (List UInt8)) ≤ 2 ^ 36) ∧
 (Kb1 (s1.1, s1.2.1, (iadd s1.2.2.2.1 1), (iadd s1.2.2.2.1 1), (s1.2.2.2.2 ++ [(sub s1.1 s1.2.2.1 s1.2.2.2.1)])))))) ∧
 (((gC s1.1 s1.2.2.2.1) == s1.2.1) = false →
 (Kb1 (s1.1, s1.2.1, s1.2.2.1, (iadd s1.2.2.2.1 1), s1.2.2.2.2)))))))) ∧
 ((decide (s1.2.2.2.1 ≤ (len s1.1))) = false →
 (Kx1 (s1.1, s1.2.1, s1.2.2.1, s1.2.2.2.1, s1.2.2.2.2)))))
 (p1, p2, 0, 0, []) fun s1 =>
 (K s1.2.2.2.2))
/-! spec.l5Word -/
def Ms_l5Word (p1 : Int) (K : (List UInt8) → Prop) : Prop :=
 (((decide (p1 < 1)) = true →
 (K ([] : List UInt8))) ∧
 ((decide (p1 < 1)) = false →
 (((decide (p1 > 7)) = true →
 (K ([] : List UInt8))) ∧
 ((decide (p1 > 7)) = false →
 ((inB p1 (List.length [([] : List UInt8), [110, 101, 119], [99, 111, 112, 121], [108, 101, 102, 116], [114, 105, 103, 104, 116], [112, 117, 116, 108, 101, 102, 116], [112, 117, 116, 114, 105, 103, 104, 116], [99, 108, 101, 97, 114]])) ∧
 (let v1 : List UInt8 := (gS [([] : List UInt8), [110, 101, 119], [99, 111, 112, 121], [108, 101, 102, 116], [114, 105, 103, 104, 116], [112, 117, 116, 108, 101, 102, 116], [112, 117, 116, 114, 105, 103, 104, 116], [99, 108, 101, 97, 114]] p1);
 (K v1)))))))
/-! spec.OpValid -/
def Ms_OpValid (p1 : Int) (p2 : Int) (p3 : Int) (p4 : Int) (K : Bool → Prop) : Prop :=
 (Ms_l5Word p1 fun (y1 : List UInt8) =>
 (((y1 == ([] : List UInt8)) = true →
 (K false)) ∧
 ((y1 == ([] : List UInt8)) = false →
 (((decide (p2 < 0)) = true →
 (K false)) ∧
 ((decide (p2 < 0)) = false →
 (((decide (p2 ≥ p4)) = true →
 (K false)) ∧
 ((decide (p2 ≥ p4)) = false →
 (((decide (p2 ≥ 3)) = true →
 (K false)) ∧
 ((decide (p2 ≥ 3)) = false →
 (((decide (p3 < 0)) = true →
 (K false)) ∧
 ((decide (p3 < 0)) = false →
 (((decide (p3 ≥ 3)) = true →
 (K false)) ∧
 ((decide (p3 ≥ 3)) = false →
 (Ms_l5One p1 fun (y2 : Bool) =>
 ((y2 = true →
 (K (p3 == 0))) ∧
 (y2 = false →
 (K (decide (p3 < p4)))))))))))))))))))
/-! spec.l13Dec -/
def Ms_l13Dec (p1 : Int) (K : (List UInt8) → Prop) : Prop :=
 (((decide (p1 < (-9223372036854775807))) = true →
 (K [45, 57, 50, 50, 51, 51, 55, 50, 48, 51, 54, 56, 53, 52, 55, 55, 53, 56, 48, 56])) ∧
 ((decide (p1 < (-9223372036854775807))) = false →
 (((decide (p1 < 0)) = true →
 False) ∧
 ((decide (p1 < 0)) = false →
 (LoopP (S := Int × List UInt8) (fun s1 Kb1 Kx1 =>
 (((decide (s1.1 > 9)) = true →
 (((10 : Int) ≠ 0) ∧
 ((0 < List.length [(IntKind.wrap .u8 (iadd 48 (Int.tmod s1.1 10)))]) ∧
 ((List.length (bytesOf [(IntKind.wrap .u8 (iadd 48 (Int.tmod s1.1 10)))]) + List.length s1.2 ≤ 2 ^ 62) ∧
 (let v2 : List UInt8 := ((bytesOf [(IntKind.wrap .u8 (iadd 48 (Int.tmod s1.1 10)))]) ++ s1.2);
 (((10 : Int) ≠ 0) ∧
 (Kb1 ((iquo s1.1 10), v2)))))))) ∧
 ((decide (s1.1 > 9)) = false →
 (Kx1 (s1.1, s1.2)))))
 (p1, ([] : List UInt8)) fun s1 =>
 ((0 < List.length [(IntKind.wrap .u8 (iadd 48 s1.1))]) ∧
 ((List.length (bytesOf [(IntKind.wrap .u8 (iadd 48 s1.1))]) + List.length s1.2 ≤ 2 ^ 62) ∧
 (K ((bytesOf [(IntKind.wrap .u8 (iadd 48 s1.1))]) ++ s1.2)))))))))
/-! spec.FormatOp -/
def Ms_FormatOp (p1 : Int) (p2 : Int) (p3 : Int) (K : (List UInt8) → Prop) : Prop :=
 (Ms_OpValid p1 p2 p3 3 fun (y1 : Bool) =>
 (((!y1) = true →
 (K ([] : List UInt8))) ∧
 ((!y1) = false →
 (Ms_l5Word p1 fun (y2 : List UInt8) =>
 ((List.length y2 + List.length [32] ≤ 2 ^ 62) ∧
 (Ms_l13Dec p2 fun (y3 : List UInt8) =>
 ((List.length (y2 ++ [32]) + List.length y3 ≤ 2 ^ 62) ∧
 (Ms_l5One p1 fun (y4 : Bool) =>
 ((y4 = true →
 (K ((y2 ++ [32]) ++ y3))) ∧
 (y4 = false →
 ((List.length ((y2 ++ [32]) ++ y3) + List.length [32] ≤ 2 ^ 62) ∧
 (Ms_l13Dec p3 fun (y5 : List UInt8) =>
 ((List.length (((y2 ++ [32]) ++ y3) ++ [32]) + List.length y5 ≤ 2 ^ 62) ∧
 (K ((((y2 ++ [32]) ++ y3) ++ [32]) ++ y5)))))))))))))))
/-! spec.ParseOp -/
def Ms_ParseOp (p1 : List UInt8) (K : Int → Int → Int → Bool → Prop) : Prop :=
 (LoopP (S := List UInt8 × Int × Int × Int × Int) (fun s1 Kb1 Kx1 =>
 (((decide (s1.2.1 ≤ 7)) = true →
 (LoopP (S := List UInt8 × Int × Int × Int × Int × Int) (fun s2 Kb2 Kx2 =>
 (((decide (s2.2.2.1 < 3)) = true →
 (LoopP (S := List UInt8 × Int × Int × Int × Int × Int × Int) (fun s3 Kb3 Kx3 =>
 (((decide (s3.2.2.2.1 < 3)) = true →
 (((!(s3.1 == ([] : List UInt8))) = true →
 (Ms_FormatOp s3.2.1 s3.2.2.1 s3.2.2.2.1 fun (y4 : List UInt8) =>
 (((y4 == s3.1) = true →
 (K s3.2.1 s3.2.2.1 s3.2.2.2.1 true)) ∧
 ((y4 == s3.1) = false →
 (Kb3 (s3.1, s3.2.1, s3.2.2.1, (iadd s3.2.2.2.1 1), s3.2.2.2.2.1, s3.2.2.2.2.2.1, s3.2.2.2.2.2.2)))))) ∧
 ((!(s3.1 == ([] : List UInt8))) = false →
 (Kb3 (s3.1, s3.2.1, s3.2.2.1, (iadd s3.2.2.2.1 1), s3.2.2.2.2.1, s3.2.2.2.2.2.1, s3.2.2.2.2.2.2))))) ∧
 ((decide (s3.2.2.2.1 < 3)) = false →
 (Kx3 (s3.1, s3.2.1, s3.2.2.1, s3.2.2.2.1, s3.2.2.2.2.1, s3.2.2.2.2.2.1, s3.2.2.2.2.2.2)))))
 (s2.1, s2.2.1, s2.2.2.1, 0, s2.2.2.2.1, s2.2.2.2.2.1, s2.2.2.2.2.2) fun s3 =>
 (Kb2 (s3.1, s3.2.1, (iadd s3.2.2.1 1), s3.2.2.2.2.1, s3.2.2.2.2.2.1, s3.2.2.2.2.2.2)))) ∧
 ((decide (s2.2.2.1 < 3)) = false →
 (Kx2 (s2.1, s2.2.1, s2.2.2.1, s2.2.2.2.1, s2.2.2.2.2.1, s2.2.2.2.2.2)))))
 (s1.1, s1.2.1, 0, s1.2.2.1, s1.2.2.2.1, s1.2.2.2.2) fun s2 =>
 (Kb1 (s2.1, (iadd s2.2.1 1), s2.2.2.2.1, s2.2.2.2.2.1, s2.2.2.2.2.2)))) ∧
 ((decide (s1.2.1 ≤ 7)) = false →
 (Kx1 (s1.1, s1.2.1, s1.2.2.1, s1.2.2.2.1, s1.2.2.2.2)))))
 (p1, 1, 0, 0, 0) fun s1 =>
 (K 0 0 0 false))
/-! spec.ParseOps -/
def Ms_ParseOps (p1 : List UInt8) (K : Bool → (List OpV) → Prop) : Prop :=
 (((p1 == ([] : List UInt8)) = true →
 (K true [])) ∧
 ((p1 == ([] : List UInt8)) = false →
 (Ms_l13Cut p1 44 fun (y1 : List (List UInt8)) =>
 (LoopP (S := Int × List OpV × List (List UInt8)) (fun s2 Kb2 Kx2 =>
 (((decide (s2.1 < (len s2.2.2))) = true →
 (((decide (s2.1 ≤ 12)) = true →
 ((inB s2.1 (List.length s2.2.2)) ∧
 (let j10 : Prop :=
 (let j9 := fun (z4 : List UInt8) =>
 (Ms_ParseOp z4 fun (y5 : Int) (y6 : Int) (y7 : Int) (y8 : Bool) =>
 (((!y8) = true →
 (K false [])) ∧
 ((!y8) = false →
 ((List.length s2.2.1 + List.length ([(OpV.mk y5 y6 y7)] : List OpV) ≤ 2 ^ 36) ∧
 (Kb2 ((iadd s2.1 1), (s2.2.1 ++ [(OpV.mk y5 y6 y7)]), s2.2.2))))));
 (((decide (s2.1 > 0)) = true →
 (((0 : Int) ≤ (1 : Int) ∧ (1 : Int) ≤ (len (gS s2.2.2 s2.1)) ∧ (len (gS s2.2.2 s2.1)) ≤ len (gS s2.2.2 s2.1)) ∧
 (j9 (sub (gS s2.2.2 s2.1) (1 : Int) (len (gS s2.2.2 s2.1)))))) ∧
 ((decide (s2.1 > 0)) = false →
 (j9 (gS s2.2.2 s2.1)))));
 (((decide (s2.1 > 0)) = true →
 ((((gS s2.2.2 s2.1) == ([] : List UInt8)) = true →
 (K false [])) ∧
 (((gS s2.2.2 s2.1) == ([] : List UInt8)) = false →
 ((inB 0 (List.length (gS s2.2.2 s2.1))) ∧
 ((((gC (gS s2.2.2 s2.1) 0) != 32) = true →
 (K false [])) ∧
 (((gC (gS s2.2.2 s2.1) 0) != 32) = false →
 j10)))))) ∧
 ((decide (s2.1 > 0)) = false →
 j10))))) ∧
 ((decide (s2.1 ≤ 12)) = false →
 (Kx2 (s2.1, s2.2.1, s2.2.2))))) ∧
 ((decide (s2.1 < (len s2.2.2))) = false →
 (Kx2 (s2.1, s2.2.1, s2.2.2)))))
 (0, [], y1) fun s2 =>
 (((decide ((len s2.2.2) > 12)) = true →
 (K false [])) ∧
 ((decide ((len s2.2.2) > 12)) = false →
 (K true s2.2.1)))))))
/-! spec.l1Points -/
def Ms_l1Points (p1 : Int) (p2 : Int) (K : Bool → Prop) : Prop :=
 (((decide (p1 ≥ (-1))) = true →
 (K (decide (p1 < p2)))) ∧
 ((decide (p1 ≥ (-1))) = false →
 (K false)))
/-! spec.HeapValid -/
def Ms_HeapValid (p1 : List Int) (p2 : List Int) (p3 : List Int) (K : Bool → Prop) : Prop :=
 (((decide ((len p1) < 1)) = true →
 (K false)) ∧
 ((decide ((len p1) < 1)) = false →
 (((decide ((len p1) > 8)) = true →
 (K false)) ∧
 ((decide ((len p1) > 8)) = false →
 ((((len p2) != (len p1)) = true →
 (K false)) ∧
 (((len p2) != (len p1)) = false →
 (((decide ((len p3) < 1)) = true →
 (K false)) ∧
 ((decide ((len p3) < 1)) = false →
 (((decide ((len p3) > 3)) = true →
 (K false)) ∧
 ((decide ((len p3) > 3)) = false →
 (LoopP (S := Int × Int × List Int × List Int × List Int) (fun s1 Kb1 Kx1 =>
 (((decide (s1.2.1 < s1.1)) = true →
 ((inB s1.2.1 (List.length s1.2.2.1)) ∧
 (Ms_l1Points (gI s1.2.2.1 s1.2.1) s1.1 fun (y2 : Bool) =>
 (((!y2) = true →
 (K false)) ∧
 ((!y2) = false →
 ((inB s1.2.1 (List.length s1.2.2.2.1)) ∧
 (Ms_l1Points (gI s1.2.2.2.1 s1.2.1) s1.1 fun (y3 : Bool) =>
 (((!y3) = true →
 (K false)) ∧
 ((!y3) = false →
 (Kb1 (s1.1, (iadd s1.2.1 1), s1.2.2.1, s1.2.2.2.1, s1.2.2.2.2))))))))))) ∧
 ((decide (s1.2.1 < s1.1)) = false →
 (Kx1 (s1.1, s1.2.1, s1.2.2.1, s1.2.2.2.1, s1.2.2.2.2)))))
 ((len p1), 0, p1, p2, p3) fun s1 =>
 (LoopP (S := Int × Int × List Int × List Int × List Int) (fun s4 Kb4 Kx4 =>
 (((decide (s4.2.1 < (len s4.2.2.2.2))) = true →
 ((inB s4.2.1 (List.length s4.2.2.2.2)) ∧
 (Ms_l1Points (gI s4.2.2.2.2 s4.2.1) s4.1 fun (y5 : Bool) =>
 (((!y5) = true →
 (K false)) ∧
 ((!y5) = false →
 (Kb4 (s4.1, (iadd s4.2.1 1), s4.2.2.1, s4.2.2.2.1, s4.2.2.2.2))))))) ∧
 ((decide (s4.2.1 < (len s4.2.2.2.2))) = false →
 (Kx4 (s4.1, s4.2.1, s4.2.2.1, s4.2.2.2.1, s4.2.2.2.2)))))
 (s1.1, 0, s1.2.2.1, s1.2.2.2.1, s1.2.2.2.2) fun s4 =>
 (K true)))))))))))))
/-! spec.l4At -/
def Ms_l4At (p1 : List Int) (p2 : Int) (K : Int → Prop) : Prop :=
 (LoopP (S := List Int × Int × Int) (fun s1 Kb1 Kx1 =>
 (((decide (s1.2.2 < (len s1.1))) = true →
 ((inB s1.2.2 (List.length s1.1)) ∧
 ((((gI s1.1 s1.2.2) == s1.2.1) = true →
 (K s1.2.2)) ∧
 (((gI s1.1 s1.2.2) == s1.2.1) = false →
 (Kb1 (s1.1, s1.2.1, (iadd s1.2.2 1))))))) ∧
 ((decide (s1.2.2 < (len s1.1))) = false →
 (Kx1 (s1.1, s1.2.1, s1.2.2)))))
 (p1, p2, 0) fun s1 =>
 (K (-1)))
/-! spec.l4Free -/
def Ms_l4Free (p1 : List Int) (p2 : List Int) (p3 : List Int) (p4 : Int) (K : Bool → Prop) : Prop :=
 (((decide (p4 ≥ 0)) = true →
 (((decide (p4 < (len p1))) = true →
 ((inB p4 (List.length p1)) ∧
 ((((gI p1 p4) == (-1)) = true →
 ((inB p4 (List.length p2)) ∧
 ((((gI p2 p4) == (-1)) = true →
 (Ms_l4At p1 p4 fun (y1 : Int) =>
 (((decide (y1 < 0)) = true →
 (Ms_l4At p2 p4 fun (y2 : Int) =>
 (((decide (y2 < 0)) = true →
 (Ms_l4At p3 p4 fun (y3 : Int) =>
 (K (decide (y3 < 0))))) ∧
 ((decide (y2 < 0)) = false →
 (K false))))) ∧
 ((decide (y1 < 0)) = false →
 (K false))))) ∧
 (((gI p2 p4) == (-1)) = false →
 (K false))))) ∧
 (((gI p1 p4) == (-1)) = false →
 (K false))))) ∧
 ((decide (p4 < (len p1))) = false →
 (K false)))) ∧
 ((decide (p4 ≥ 0)) = false →
 (K false)))
/-! spec.StoreValid -/
def Ms_StoreValid (p1 : List Int) (p2 : List Int) (p3 : List Int) (p4 : List Int) (K : Bool → Prop) : Prop :=
 (Ms_HeapValid p1 p2 p3 fun (y1 : Bool) =>
 (((!y1) = true →
 (K false)) ∧
 ((!y1) = false →
 (((decide ((len p4) > (len p1))) = true →
 (K false)) ∧
 ((decide ((len p4) > (len p1))) = false →
 (LoopP (S := Int × List Int × List Int × List Int × List Int) (fun s2 Kb2 Kx2 =>
 (((decide (s2.1 < (len s2.2.2.2.2))) = true →
 ((inB s2.1 (List.length s2.2.2.2.2)) ∧
 (Ms_l4Free s2.2.1 s2.2.2.1 s2.2.2.2.1 (gI s2.2.2.2.2 s2.1) fun (y3 : Bool) =>
 (((!y3) = true →
 (K false)) ∧
 ((!y3) = false →
 (((0 : Int) ≤ (0 : Int) ∧ (0 : Int) ≤ s2.1 ∧ s2.1 ≤ len s2.2.2.2.2) ∧
 ((inB s2.1 (List.length s2.2.2.2.2)) ∧
 (Ms_l4At (sub s2.2.2.2.2 (0 : Int) s2.1) (gI s2.2.2.2.2 s2.1) fun (y4 : Int) =>
 (((decide (y4 ≥ 0)) = true →
 (K false)) ∧
 ((decide (y4 ≥ 0)) = false →
 (Kb2 ((iadd s2.1 1), s2.2.1, s2.2.2.1, s2.2.2.2.1, s2.2.2.2.2)))))))))))) ∧
 ((decide (s2.1 < (len s2.2.2.2.2))) = false →
 (Kx2 (s2.1, s2.2.1, s2.2.2.1, s2.2.2.2.1, s2.2.2.2.2)))))
 (0, p1, p2, p3, p4) fun s2 =>
 (K true)))))))
/-! spec.l1Copy -/
def Ms_l1Copy (p1 : List Int) (p2 : List Int) (p3 : List Int) (K : Prop) : Prop :=
 (((List.length p1 : Nat) ≤ 2 ^ 36) ∧
 (((List.length p2 : Nat) ≤ 2 ^ 36) ∧
 (((List.length p3 : Nat) ≤ 2 ^ 36) ∧
 K)))
/-! spec.l4Copy -/
def Ms_l4Copy (p1 : List Int) (p2 : List Int) (p3 : List Int) (p4 : List Int) (K : Prop) : Prop :=
 (Ms_l1Copy p1 p2 p3 <|
 (((List.length p4 : Nat) ≤ 2 ^ 36) ∧
 K))
/-! spec.l5Do -/
def Ms_l5Do (p1 : Int) (p2 : Int) (p3 : Int) (p4 : List Int) (p5 : List Int) (p6 : List Int) (p7 : List Int) (K : Int → (List Int) → (List Int) → (List Int) → Prop) : Prop :=
 ((inB p2 (List.length p6)) ∧
 ((inB p3 (List.length p6)) ∧
 (((p1 == 2) = true →
 ((inB p2 (List.length p6)) ∧
 (K 0 p4 p5 (uL p6 p2 (gI p6 p3))))) ∧
 ((p1 == 2) = false →
 (((p1 == 7) = true →
 ((inB p2 (List.length p6)) ∧
 (K 0 p4 p5 (uL p6 p2 (-1))))) ∧
 ((p1 == 7) = false →
 (((p1 == 3) = true →
 ((((gI p6 p3) == (-1)) = true →
 (K 2 p4 p5 p6)) ∧
 (((gI p6 p3) == (-1)) = false →
 ((inB (gI p6 p3) (List.length p4)) ∧
 (((p1 == 4) = true →
 ((inB (gI p6 p3) (List.length p5)) ∧
 ((inB p2 (List.length p6)) ∧
 (K 0 p4 p5 (uL p6 p2 (gI p5 (gI p6 p3))))))) ∧
 ((p1 == 4) = false →
 ((inB p2 (List.length p6)) ∧
 (K 0 p4 p5 (uL p6 p2 (gI p4 (gI p6 p3))))))))))) ∧
 ((p1 == 3) = false →
 (((p1 == 4) = true →
 ((((gI p6 p3) == (-1)) = true →
 (K 2 p4 p5 p6)) ∧
 (((gI p6 p3) == (-1)) = false →
 ((inB (gI p6 p3) (List.length p4)) ∧
 (((p1 == 4) = true →
 ((inB (gI p6 p3) (List.length p5)) ∧
 ((inB p2 (List.length p6)) ∧
 (K 0 p4 p5 (uL p6 p2 (gI p5 (gI p6 p3))))))) ∧
 ((p1 == 4) = false →
 ((inB p2 (List.length p6)) ∧
 (K 0 p4 p5 (uL p6 p2 (gI p4 (gI p6 p3))))))))))) ∧
 ((p1 == 4) = false →
 ((((gI p6 p2) == (-1)) = true →
 (K 2 p4 p5 p6)) ∧
 (((gI p6 p2) == (-1)) = false →
 (((p1 == 5) = true →
 ((inB (gI p6 p2) (List.length p4)) ∧
 (K 0 (uL p4 (gI p6 p2) (gI p6 p3)) p5 p6))) ∧
 ((p1 == 5) = false →
 ((inB (gI p6 p2) (List.length p5)) ∧
 (K 0 p4 (uL p5 (gI p6 p2) (gI p6 p3)) p6))))))))))))))))
/-! spec.AllocCell -/
def Ms_AllocCell (p1 : List Int) (p2 : List Int) (p3 : List Int) (p4 : List Int) (p5 : Int) (K : Int → Bool → (List Int) → (List Int) → (List Int) → (List Int) → Prop) : Prop :=
 (Ms_StoreValid p1 p2 p3 p4 fun (y1 : Bool) =>
 (((!y1) = true →
 (K 0 false [] [] [] [])) ∧
 ((!y1) = false →
 (((decide (p5 < 0)) = true →
 (K 0 false [] [] [] [])) ∧
 ((decide (p5 < 0)) = false →
 (((decide (p5 ≥ (len p3))) = true →
 (K 0 false [] [] [] [])) ∧
 ((decide (p5 ≥ (len p3))) = false →
 ((((len p4) == 0) = true →
 (K 0 false [] [] [] [])) ∧
 (((len p4) == 0) = false →
 (Ms_l4Copy p1 p2 p3 p4 <|
 ((inB 0 (List.length p4)) ∧
 (((0 : Int) ≤ (1 : Int) ∧ (1 : Int) ≤ (len p4) ∧ (len p4) ≤ len p4) ∧
 (((List.length (sub p4 (1 : Int) (len p4)) : Nat) ≤ 2 ^ 36) ∧
 ((inB p5 (List.length p3)) ∧
 (K (gI p4 0) true p1 p2 (uL p3 p5 (gI p4 0)) (sub p4 (1 : Int) (len p4)))))))))))))))))
/-! spec.RunOp -/
def Ms_RunOp (p1 : List Int) (p2 : List Int) (p3 : List Int) (p4 : List Int) (p5 : Int) (p6 : Int) (p7 : Int) (K : Int → Bool → (List Int) → (List Int) → (List Int) → (List Int) → Prop) : Prop :=
 (Ms_StoreValid p1 p2 p3 p4 fun (y1 : Bool) =>
 (((!y1) = true →
 (K 0 false [] [] [] [])) ∧
 ((!y1) = false →
 (Ms_OpValid p5 p6 p7 (len p3) fun (y2 : Bool) =>
 (((!y2) = true →
 (K 0 false [] [] [] [])) ∧
 ((!y2) = false →
 (((p5 != 1) = true →
 (Ms_l4Copy p1 p2 p3 p4 <|
 (Ms_l5Do p5 p6 p7 p1 p2 p3 p4 fun (y3 : Int) (y4 : List Int) (y5 : List Int) (y6 : List Int) =>
 (K y3 true y4 y5 y6 p4)))) ∧
 ((p5 != 1) = false →
 (Ms_AllocCell p1 p2 p3 p4 p6 fun (y7 : Int) (y8 : Bool) (y9 : List Int) (y10 : List Int) (y11 : List Int) (y12 : List Int) =>
 (((!y8) = true →
 (Ms_l4Copy p1 p2 p3 p4 <|
 (K 1 true p1 p2 p3 p4))) ∧
 ((!y8) = false →
 (K 0 true y9 y10 y11 y12))))))))))))
/-! spec.RunOps -/
def Ms_RunOps (p1 : List Int) (p2 : List Int) (p3 : List Int) (p4 : List Int) (p5 : List OpV) (K : Int → Bool → (List Int) → (List Int) → (List Int) → (List Int) → Prop) : Prop :=
 (Ms_StoreValid p1 p2 p3 p4 fun (y1 : Bool) =>
 (((!y1) = true →
 (K 0 false [] [] [] [])) ∧
 ((!y1) = false →
 (((decide ((len p5) > 12)) = true →
 (K 0 false [] [] [] [])) ∧
 ((decide ((len p5) > 12)) = false →
 (Ms_l4Copy p1 p2 p3 p4 <|
 (LoopP (S := List OpV × Int × List Int × List Int × List Int × List Int × List Int × List Int × List Int × List Int × List Int × List Int × List Int × List Int) (fun s2 Kb2 Kx2 =>
 (((decide (s2.2.1 < (len s2.1))) = true →
 ((inB s2.2.1 (List.length s2.1)) ∧
 (Ms_OpValid ((gO s2.1 s2.2.1).kind) ((gO s2.1 s2.2.1).a) ((gO s2.1 s2.2.1).b) (len s2.2.2.2.2.1) fun (y3 : Bool) =>
 (((!y3) = true →
 (K 0 false [] [] [] [])) ∧
 ((!y3) = false →
 (Kb2 (s2.1, (iadd s2.2.1 1), s2.2.2.1, s2.2.2.2.1, s2.2.2.2.2.1, s2.2.2.2.2.2.1, s2.2.2.2.2.2.2.1, s2.2.2.2.2.2.2.2.1, s2.2.2.2.2.2.2.2.2.1, s2.2.2.2.2.2.2.2.2.2.1, s2.2.2.2.2.2.2.2.2.2.2.1, s2.2.2.2.2.2.2.2.2.2.2.2.1, s2.2.2.2.2.2.2.2.2.2.2.2.2.1, s2.2.2.2.2.2.2.2.2.2.2.2.2.2))))))) ∧
 ((decide (s2.2.1 < (len s2.1))) = false →
 (Kx2 (s2.1, s2.2.1, s2.2.2.1, s2.2.2.2.1, s2.2.2.2.2.1, s2.2.2.2.2.2.1, s2.2.2.2.2.2.2.1, s2.2.2.2.2.2.2.2.1, s2.2.2.2.2.2.2.2.2.1, s2.2.2.2.2.2.2.2.2.2.1, s2.2.2.2.2.2.2.2.2.2.2.1, s2.2.2.2.2.2.2.2.2.2.2.2.1, s2.2.2.2.2.2.2.2.2.2.2.2.2.1, s2.2.2.2.2.2.2.2.2.2.2.2.2.2)))))
 (p5, 0, p1, p2, p3, p4, [], [], [], [], p1, p2, p3, p4) fun s2 =>
 (LoopP (S := List OpV × Int × List Int × List Int × List Int × List Int × List Int × List Int × List Int × List Int) (fun s4 Kb4 Kx4 =>
 (((decide (s4.2.1 < (len s4.1))) = true →
 ((inB s4.2.1 (List.length s4.1)) ∧
 (Ms_RunOp s4.2.2.2.2.2.2.1 s4.2.2.2.2.2.2.2.1 s4.2.2.2.2.2.2.2.2.1 s4.2.2.2.2.2.2.2.2.2 ((gO s4.1 s4.2.1).kind) ((gO s4.1 s4.2.1).a) ((gO s4.1 s4.2.1).b) fun (y5 : Int) (y6 : Bool) (y7 : List Int) (y8 : List Int) (y9 : List Int) (y10 : List Int) =>
 (((y5 != 0) = true →
 (K s4.2.1 true s4.2.2.2.2.2.2.1 s4.2.2.2.2.2.2.2.1 s4.2.2.2.2.2.2.2.2.1 s4.2.2.2.2.2.2.2.2.2)) ∧
 ((y5 != 0) = false →
 (Kb4 (s4.1, (iadd s4.2.1 1), s4.2.2.1, s4.2.2.2.1, s4.2.2.2.2.1, s4.2.2.2.2.2.1, y7, y8, y9, y10))))))) ∧
 ((decide (s4.2.1 < (len s4.1))) = false →
 (Kx4 (s4.1, s4.2.1, s4.2.2.1, s4.2.2.2.1, s4.2.2.2.2.1, s4.2.2.2.2.2.1, s4.2.2.2.2.2.2.1, s4.2.2.2.2.2.2.2.1, s4.2.2.2.2.2.2.2.2.1, s4.2.2.2.2.2.2.2.2.2)))))
 (s2.1, 0, s2.2.2.2.2.2.2.1, s2.2.2.2.2.2.2.2.1, s2.2.2.2.2.2.2.2.2.1, s2.2.2.2.2.2.2.2.2.2.1, s2.2.2.2.2.2.2.2.2.2.2.1, s2.2.2.2.2.2.2.2.2.2.2.2.1, s2.2.2.2.2.2.2.2.2.2.2.2.2.1, s2.2.2.2.2.2.2.2.2.2.2.2.2.2) fun s4 =>
 (K (len s4.1) true s4.2.2.2.2.2.2.1 s4.2.2.2.2.2.2.2.1 s4.2.2.2.2.2.2.2.2.1 s4.2.2.2.2.2.2.2.2.2)))))))))
/-! spec.NewGc -/
def Ms_NewGc (p1 : List Int) (p2 : List Int) (p3 : List Int) (p4 : List Int) (K : Int → Int → Bool → (List Int) → Prop) : Prop :=
 (Ms_StoreValid p1 p2 p3 p4 fun (y1 : Bool) =>
 (((!y1) = true →
 (K 0 0 false [])) ∧
 ((!y1) = false →
 ((0 ≤ (len p1) ∧ (len p1) = (len p1) ∧ (len p1) ≤ 2 ^ 36) ∧
 (K 0 0 true (List.replicate (Int.toNat (len p1)) (0 : Int)))))))
/-! spec.l7Ops -/
def Ms_l7Ops (p1 : List OpV) (p2 : Int) (K : Bool → Prop) : Prop :=
 (LoopP (S := List OpV × Int × Int) (fun s1 Kb1 Kx1 =>
 (((decide (s1.2.2 < (len s1.1))) = true →
 (((decide (s1.2.2 ≤ 12)) = true →
 ((inB s1.2.2 (List.length s1.1)) ∧
 (Ms_OpValid ((gO s1.1 s1.2.2).kind) ((gO s1.1 s1.2.2).a) ((gO s1.1 s1.2.2).b) s1.2.1 fun (y2 : Bool) =>
 (((!y2) = true →
 (K false)) ∧
 ((!y2) = false →
 (Kb1 (s1.1, s1.2.1, (iadd s1.2.2 1)))))))) ∧
 ((decide (s1.2.2 ≤ 12)) = false →
 (Kx1 (s1.1, s1.2.1, s1.2.2))))) ∧
 ((decide (s1.2.2 < (len s1.1))) = false →
 (Kx1 (s1.1, s1.2.1, s1.2.2)))))
 (p1, p2, 0) fun s1 =>
 (K (decide ((len s1.1) ≤ 12))))
/-! spec.NewBoth -/
def Ms_NewBoth (p1 : List Int) (p2 : List Int) (p3 : List Int) (p4 : List Int) (p5 : List OpV) (K : Int → Int → Int → Bool → Bool → (List Int) → (List Int) → (List Int) → (List Int) → (List Int) → (List OpV) → Prop) : Prop :=
 (Ms_NewGc p1 p2 p3 p4 fun (y1 : Int) (y2 : Int) (y3 : Bool) (y4 : List Int) =>
 (((!y3) = true →
 (K 0 0 0 false false [] [] [] [] [] [])) ∧
 ((!y3) = false →
 (Ms_l7Ops p5 (len p3) fun (y5 : Bool) =>
 (((!y5) = true →
 (K 0 0 0 false false [] [] [] [] [] [])) ∧
 ((!y5) = false →
 (Ms_l4Copy p1 p2 p3 p4 <|
 (((List.length p5 : Nat) ≤ 2 ^ 36) ∧
 (K y1 y2 0 false true p1 p2 p3 p4 y4 p5)))))))))
/-! spec.l8Draw, from region 13 on -/
def Ms_l8Draw_c13 (c13_0 : List Int) (c13_1 : Int) (c13_2 : Int) (c13_3 : Int) (c13_4 : Int) (c13_5 : Bool) (c13_6 : Int) (c13_7 : Int) (c13_8 : Int) (c13_9 : Bool) (c13_10 : List Int) (c13_11 : List Int) (c13_12 : List Int) (c13_13 : List Int) (c13_14 : List Int) (c13_15 : List OpV) (c13_16 : List Int) (c13_17 : List Int) (c13_18 : List Int) (c13_19 : List Int) (c13_20 : List Int) (c13_21 : List OpV) (K : Int → Int → Int → Bool → (List Int) → Int → (List Int) → (List Int) → (List Int) → (List Int) → (List Int) → (List OpV) → Prop) : Prop :=
 (K c13_6 c13_7 c13_8 c13_9 c13_0 c13_1 c13_16 c13_17 c13_18 c13_19 c13_20 c13_21)
/-! spec.l8Draw, from region 10 on -/
def Ms_l8Draw_c10 (c10_0 : List Int) (c10_1 : Int) (c10_2 : Int) (c10_3 : Int) (c10_4 : Int) (c10_5 : Bool) (c10_6 : List OpV) (c10_7 : List Int) (c10_8 : List Int) (c10_9 : List Int) (c10_10 : List Int) (c10_11 : List Int) (c10_12 : List OpV) (c10_13 : List Int) (c10_14 : List Int) (c10_15 : List Int) (c10_16 : List Int) (K : Int → Int → Int → Bool → (List Int) → Int → (List Int) → (List Int) → (List Int) → (List Int) → (List Int) → (List OpV) → Prop) : Prop :=
 (Ms_NewBoth c10_13 c10_14 c10_15 c10_16 c10_6 fun (y30 : Int) (y31 : Int) (y32 : Int) (y33 : Bool) (y34 : Bool) (y35 : List Int) (y36 : List Int) (y37 : List Int) (y38 : List Int) (y39 : List Int) (y40 : List OpV) =>
 (let j47 := fun (z45 : Int) (z46 : Int) =>
 (Ms_l8Draw_c13 c10_0 z45 c10_2 c10_3 c10_4 c10_5 y30 y31 z46 y33 c10_7 c10_8 c10_9 c10_10 c10_11 c10_12 y35 y36 y37 y38 y39 y40 K);
 (Ms_l13Rd_pick 20 c10_0 c10_1 fun (y41 : Int) (y42 : Int) =>
 (((y41 == 0) = true →
 (j47 y42 13)) ∧
 ((y41 == 0) = false →
 (j47 y42 y32))))))
/-! spec.l8Draw, from region 2 on -/
def Ms_l8Draw_c2 (c2_0 : List Int) (c2_1 : Int) (c2_2 : Int) (c2_3 : Int) (c2_4 : Int) (c2_5 : Bool) (c2_6 : List Int) (c2_7 : List Int) (c2_8 : List Int) (c2_9 : List Int) (c2_10 : List Int) (c2_11 : List OpV) (c2_12 : List Int) (c2_13 : List Int) (c2_14 : List Int) (c2_15 : List Int) (K : Int → Int → Int → Bool → (List Int) → Int → (List Int) → (List Int) → (List Int) → (List Int) → (List Int) → (List OpV) → Prop) : Prop :=
 (Ms_l5Ops c2_0 c2_1 fun (y10 : List Int) (y11 : Int) (y12 : List OpV) =>
 (((decide ((len y12) > 3)) = true →
 (((0 : Int) ≤ (0 : Int) ∧ (0 : Int) ≤ (3 : Int) ∧ (3 : Int) ≤ len y12) ∧
 (Ms_l13Rd_pick 6 y10 y11 fun (y13 : Int) (y14 : Int) =>
 (((y13 == 0) = true →
 (Ms_NewStore 3 3 fun (y15 : Bool) (y16 : List Int) (y17 : List Int) (y18 : List Int) (y19 : List Int) =>
 (Ms_ParseOps [110, 101, 119, 32, 48, 44, 32, 110, 101, 119, 32, 49, 44, 32, 110, 101, 119, 32, 50, 44, 32, 112, 117, 116, 108, 101, 102, 116, 32, 49, 32, 50, 44, 32, 99, 108, 101, 97, 114, 32, 50] fun (y20 : Bool) (y21 : List OpV) =>
 (Ms_RunOps y16 y17 y18 y19 y21 fun (y22 : Int) (y23 : Bool) (y24 : List Int) (y25 : List Int) (y26 : List Int) (y27 : List Int) =>
 (Ms_ParseOps [108, 101, 102, 116, 32, 50, 32, 49, 44, 32, 112, 117, 116, 108, 101, 102, 116, 32, 48, 32, 50, 44, 32, 99, 108, 101, 97, 114, 32, 50, 44, 32, 112, 117, 116, 108, 101, 102, 116, 32, 49, 32, 50] fun (y28 : Bool) (y29 : List OpV) =>
 (Ms_l8Draw_c10 y10 y14 c2_2 c2_3 c2_4 c2_5 y29 c2_6 c2_7 c2_8 c2_9 c2_10 c2_11 y24 y25 y26 y27 K)))))) ∧
 ((y13 == 0) = false →
 (Ms_l8Draw_c10 y10 y14 c2_2 c2_3 c2_4 c2_5 (sub y12 (0 : Int) (3 : Int)) c2_6 c2_7 c2_8 c2_9 c2_10 c2_11 c2_12 c2_13 c2_14 c2_15 K)))))) ∧
 ((decide ((len y12) > 3)) = false →
 (Ms_l13Rd_pick 6 y10 y11 fun (y48 : Int) (y49 : Int) =>
 (((y48 == 0) = true →
 (Ms_NewStore 3 3 fun (y50 : Bool) (y51 : List Int) (y52 : List Int) (y53 : List Int) (y54 : List Int) =>
 (Ms_ParseOps [110, 101, 119, 32, 48, 44, 32, 110, 101, 119, 32, 49, 44, 32, 110, 101, 119, 32, 50, 44, 32, 112, 117, 116, 108, 101, 102, 116, 32, 49, 32, 50, 44, 32, 99, 108, 101, 97, 114, 32, 50] fun (y55 : Bool) (y56 : List OpV) =>
 (Ms_RunOps y51 y52 y53 y54 y56 fun (y57 : Int) (y58 : Bool) (y59 : List Int) (y60 : List Int) (y61 : List Int) (y62 : List Int) =>
 (Ms_ParseOps [108, 101, 102, 116, 32, 50, 32, 49, 44, 32, 112, 117, 116, 108, 101, 102, 116, 32, 48, 32, 50, 44, 32, 99, 108, 101, 97, 114, 32, 50, 44, 32, 112, 117, 116, 108, 101, 102, 116, 32, 49, 32, 50] fun (y63 : Bool) (y64 : List OpV) =>
 (Ms_l8Draw_c10 y10 y49 c2_2 c2_3 c2_4 c2_5 y64 c2_6 c2_7 c2_8 c2_9 c2_10 c2_11 y59 y60 y61 y62 K)))))) ∧
 ((y48 == 0) = false →
 (Ms_l8Draw_c10 y10 y49 c2_2 c2_3 c2_4 c2_5 y12 c2_6 c2_7 c2_8 c2_9 c2_10 c2_11 c2_12 c2_13 c2_14 c2_15 K)))))))
/-! spec.l8Draw -/
def Ms_l8Draw (p1 : List Int) (p2 : Int) (K : Int → Int → Int → Bool → (List Int) → Int → (List Int) → (List Int) → (List Int) → (List Int) → (List Int) → (List OpV) → Prop) : Prop :=
 (Ms_l13Rd_num [2, 1, 3] p1 p2 fun (y1 : Int) (y2 : Int) =>
 (Ms_l13Rd_num [2, 1, 3] p1 y2 fun (y3 : Int) (y4 : Int) =>
 (Ms_NewStore y1 y3 fun (y5 : Bool) (y6 : List Int) (y7 : List Int) (y8 : List Int) (y9 : List Int) =>
 (Ms_l8Draw_c2 p1 y4 0 0 0 false [] [] [] [] [] [] y6 y7 y8 y9 K))))
/-! spec.l8Case -/
def Ms_l8Case (p1 : List Int) (K : Int → Int → Int → Bool → Bool → (List Int) → (List Int) → (List Int) → (List Int) → (List Int) → (List OpV) → Prop) : Prop :=
 (Ms_l13Open p1 fun (y1 : List Int) (y2 : Int) =>
 (Ms_l8Draw y1 y2 fun (y3 : Int) (y4 : Int) (y5 : Int) (y6 : Bool) (y7 : List Int) (y8 : Int) (y9 : List Int) (y10 : List Int) (y11 : List Int) (y12 : List Int) (y13 : List Int) (y14 : List OpV) =>
 (Ms_l13Rd_pick 2 y7 y8 fun (y15 : Int) (y16 : Int) =>
 (K y3 y4 y5 y6 (y15 == 0) y9 y10 y11 y12 y13 y14))))
/-! impl.HeapValid -/
def Mi_HeapValid (p1 : List Int) (p2 : List Int) (p3 : List Int) (K : Bool → Prop) : Prop :=
 ((((len p1) != (len p2)) = true →
 (K false)) ∧
 (((len p1) != (len p2)) = false →
 (((decide ((len p1) < 1)) = true →
 (K false)) ∧
 ((decide ((len p1) < 1)) = false →
 (((decide ((len p1) > 8)) = true →
 (K false)) ∧
 ((decide ((len p1) > 8)) = false →
 (((decide ((len p3) < 1)) = true →
 (K false)) ∧
 ((decide ((len p3) < 1)) = false →
 (((decide ((len p3) > 3)) = true →
 (K false)) ∧
 ((decide ((len p3) > 3)) = false →
 (LoopP (S := Int × Int × List Int × List Int × List Int × List (List Int)) (fun s1 Kb1 Kx1 =>
 (((decide (s1.2.1 < s1.1)) = true →
 ((inB s1.2.1 (List.length s1.2.2.2.2.2)) ∧
 (LoopP (S := Int × Int × List Int × Int × Int × List Int × List Int × List Int × List (List Int)) (fun s2 Kb2 Kx2 =>
 (((decide (s2.2.2.2.2.1 < s2.2.2.2.1)) = true →
 ((inB s2.2.2.2.2.1 (List.length s2.2.2.1)) ∧
 (((decide ((gI s2.2.2.1 s2.2.2.2.2.1) < (-1))) = true →
 (K false)) ∧
 ((decide ((gI s2.2.2.1 s2.2.2.2.2.1) < (-1))) = false →
 (((decide ((gI s2.2.2.1 s2.2.2.2.2.1) ≥ (len s2.2.2.2.2.2.1))) = true →
 (K false)) ∧
 ((decide ((gI s2.2.2.1 s2.2.2.2.2.1) ≥ (len s2.2.2.2.2.2.1))) = false →
 (Kb2 (s2.1, s2.2.1, s2.2.2.1, s2.2.2.2.1, (iadd s2.2.2.2.2.1 1), s2.2.2.2.2.2.1, s2.2.2.2.2.2.2.1, s2.2.2.2.2.2.2.2.1, s2.2.2.2.2.2.2.2.2)))))))) ∧
 ((decide (s2.2.2.2.2.1 < s2.2.2.2.1)) = false →
 (Kx2 (s2.1, s2.2.1, s2.2.2.1, s2.2.2.2.1, s2.2.2.2.2.1, s2.2.2.2.2.2.1, s2.2.2.2.2.2.2.1, s2.2.2.2.2.2.2.2.1, s2.2.2.2.2.2.2.2.2)))))
 (s1.1, s1.2.1, (gL s1.2.2.2.2.2 s1.2.1), (len (gL s1.2.2.2.2.2 s1.2.1)), 0, s1.2.2.1, s1.2.2.2.1, s1.2.2.2.2.1, s1.2.2.2.2.2) fun s2 =>
 (Kb1 (s2.1, (iadd s2.2.1 1), s2.2.2.2.2.2.1, s2.2.2.2.2.2.2.1, s2.2.2.2.2.2.2.2.1, s2.2.2.2.2.2.2.2.2))))) ∧
 ((decide (s1.2.1 < s1.1)) = false →
 (Kx1 (s1.1, s1.2.1, s1.2.2.1, s1.2.2.2.1, s1.2.2.2.2.1, s1.2.2.2.2.2)))))
 ((len [p1, p2, p3]), 0, p1, p2, p3, [p1, p2, p3]) fun s1 =>
 (K true))))))))))))
/-! slices.Grow[[]int,int] -/
def M_Grow_int (p1 : Int) (K : (List Int) → Prop) : Prop :=
 (((decide (p1 < 0)) = true →
 False) ∧
 ((decide (p1 < 0)) = false →
 (((decide ((isub p1 (isub 0 0)) > 0)) = true →
 (((0 : Int) = 0 ∧ (0 : Int) = 0) ∧
 (((0 : Int) < (isub p1 (isub 0 0)) ∧ (isub p1 (isub 0 0)) ≤ 2 ^ 36) ∧
 (((0 : Int) ≤ (0 : Int) ∧ (0 : Int) ≤ (0 : Int) ∧ (0 : Int) ≤ len (List.replicate (Int.toNat (isub p1 (isub 0 0))) (0 : Int))) ∧
 (let v1 : List Int := (sub (List.replicate (Int.toNat (isub p1 (isub 0 0))) (0 : Int)) (0 : Int) (0 : Int));
 (K v1)))))) ∧
 ((decide ((isub p1 (isub 0 0)) > 0)) = false →
 (K [])))))
/-! slices.Concat[[]int,int] -/
def M_Concat_int (p1 : List (List Int)) (K : (List Int) → Prop) : Prop :=
 (LoopP (S := List (List Int) × Int × List (List Int) × Int × Int) (fun s1 Kb1 Kx1 =>
 (((decide (s1.2.2.2.2 < s1.2.2.2.1)) = true →
 ((inB s1.2.2.2.2 (List.length s1.2.2.1)) ∧
 (((decide ((iadd s1.2.1 (len (gL s1.2.2.1 s1.2.2.2.2))) < 0)) = true →
 False) ∧
 ((decide ((iadd s1.2.1 (len (gL s1.2.2.1 s1.2.2.2.2))) < 0)) = false →
 (Kb1 (s1.1, (iadd s1.2.1 (len (gL s1.2.2.1 s1.2.2.2.2))), s1.2.2.1, s1.2.2.2.1, (iadd s1.2.2.2.2 1))))))) ∧
 ((decide (s1.2.2.2.2 < s1.2.2.2.1)) = false →
 (Kx1 (s1.1, s1.2.1, s1.2.2.1, s1.2.2.2.1, s1.2.2.2.2)))))
 (p1, 0, p1, (len p1), 0) fun s1 =>
 (M_Grow_int s1.2.1 fun (y2 : List Int) =>
 (LoopP (S := List (List Int) × Int × Int × List Int) (fun s3 Kb3 Kx3 =>
 (((decide (s3.2.2.1 < s3.2.1)) = true →
 ((inB s3.2.2.1 (List.length s3.1)) ∧
 ((List.length s3.2.2.2 + List.length (gL s3.1 s3.2.2.1) ≤ 2 ^ 36) ∧
 (Kb3 (s3.1, s3.2.1, (iadd s3.2.2.1 1), (s3.2.2.2 ++ (gL s3.1 s3.2.2.1))))))) ∧
 ((decide (s3.2.2.1 < s3.2.1)) = false →
 (Kx3 (s3.1, s3.2.1, s3.2.2.1, s3.2.2.2)))))
 (s1.1, (len s1.1), 0, y2) fun s3 =>
 (K s3.2.2.2))))
/-! impl.CountsOf -/
def Mi_CountsOf (p1 : List Int) (p2 : List Int) (p3 : List Int) (K : (List Int) → Prop) : Prop :=
 (Mi_HeapValid p1 p2 p3 fun (y1 : Bool) =>
 (((!y1) = true →
 (K [])) ∧
 ((!y1) = false →
 ((0 ≤ (len p1) ∧ (len p1) = (len p1) ∧ (len p1) ≤ 2 ^ 36) ∧
 (M_Concat_int [p1, p2, p3] fun (y2 : List Int) =>
 (LoopP (S := Int × Int × List Int × List Int) (fun s3 Kb3 Kx3 =>
 (((decide (s3.2.1 < s3.1)) = true →
 ((inB s3.2.1 (List.length s3.2.2.2)) ∧
 ((((gI s3.2.2.2 s3.2.1) != (-1)) = true →
 ((inB (gI s3.2.2.2 s3.2.1) (List.length s3.2.2.1)) ∧
 ((inB (gI s3.2.2.2 s3.2.1) (List.length s3.2.2.1)) ∧
 (let v4 : List Int := (uL s3.2.2.1 (gI s3.2.2.2 s3.2.1) (iadd (gI s3.2.2.1 (gI s3.2.2.2 s3.2.1)) 1));
 (Kb3 (s3.1, (iadd s3.2.1 1), v4, s3.2.2.2)))))) ∧
 (((gI s3.2.2.2 s3.2.1) != (-1)) = false →
 (Kb3 (s3.1, (iadd s3.2.1 1), s3.2.2.1, s3.2.2.2)))))) ∧
 ((decide (s3.2.1 < s3.1)) = false →
 (Kx3 (s3.1, s3.2.1, s3.2.2.1, s3.2.2.2)))))
 ((len y2), 0, (List.replicate (Int.toNat (len p1)) (0 : Int)), y2) fun s3 =>
 (K s3.2.2.1)))))))
/-! slices.Index[[]int,int] -/
def M_Index_int (p1 : List Int) (p2 : Int) (K : Int → Prop) : Prop :=
 (LoopP (S := List Int × Int × Int × Int) (fun s1 Kb1 Kx1 =>
 (((decide (s1.2.2.2 < s1.2.2.1)) = true →
 ((inB s1.2.2.2 (List.length s1.1)) ∧
 (((s1.2.1 == (gI s1.1 s1.2.2.2)) = true →
 (K s1.2.2.2)) ∧
 ((s1.2.1 == (gI s1.1 s1.2.2.2)) = false →
 (Kb1 (s1.1, s1.2.1, s1.2.2.1, (iadd s1.2.2.2 1))))))) ∧
 ((decide (s1.2.2.2 < s1.2.2.1)) = false →
 (Kx1 (s1.1, s1.2.1, s1.2.2.1, s1.2.2.2)))))
 (p1, p2, (len p1), 0) fun s1 =>
 (K (-1)))
/-! slices.Contains[[]int,int] -/
def M_Contains_int (p1 : List Int) (p2 : Int) (K : Bool → Prop) : Prop :=
 (M_Index_int p1 p2 fun (y1 : Int) =>
 (K (decide (y1 ≥ 0))))
/-! impl.StoreValid -/
def Mi_StoreValid (p1 : List Int) (p2 : List Int) (p3 : List Int) (p4 : List Int) (K : Bool → Prop) : Prop :=
 (Mi_HeapValid p1 p2 p3 fun (y1 : Bool) =>
 (((!y1) = true →
 (K false)) ∧
 ((!y1) = false →
 (Mi_CountsOf p1 p2 p3 fun (y2 : List Int) =>
 (LoopP (S := List Int × Int × Int × List Int × List Int × List Int × List Int × List Int) (fun s3 Kb3 Kx3 =>
 (((decide (s3.2.2.1 < s3.2.1)) = true →
 ((inB s3.2.2.1 (List.length s3.1)) ∧
 (((decide ((gI s3.1 s3.2.2.1) < 0)) = true →
 (K false)) ∧
 ((decide ((gI s3.1 s3.2.2.1) < 0)) = false →
 (((decide ((gI s3.1 s3.2.2.1) ≥ (len s3.2.2.2.2.2.2.2))) = true →
 (K false)) ∧
 ((decide ((gI s3.1 s3.2.2.1) ≥ (len s3.2.2.2.2.2.2.2))) = false →
 ((inB (gI s3.1 s3.2.2.1) (List.length s3.2.2.2.2.2.2.2)) ∧
 (((decide ((gI s3.2.2.2.2.2.2.2 (gI s3.1 s3.2.2.1)) > 0)) = true →
 (K false)) ∧
 ((decide ((gI s3.2.2.2.2.2.2.2 (gI s3.1 s3.2.2.1)) > 0)) = false →
 ((inB (gI s3.1 s3.2.2.1) (List.length s3.2.2.2.1)) ∧
 ((((gI s3.2.2.2.1 (gI s3.1 s3.2.2.1)) != (-1)) = true →
 (K false)) ∧
 (((gI s3.2.2.2.1 (gI s3.1 s3.2.2.1)) != (-1)) = false →
 ((inB (gI s3.1 s3.2.2.1) (List.length s3.2.2.2.2.1)) ∧
 ((((gI s3.2.2.2.2.1 (gI s3.1 s3.2.2.1)) != (-1)) = true →
 (K false)) ∧
 (((gI s3.2.2.2.2.1 (gI s3.1 s3.2.2.1)) != (-1)) = false →
 (((0 : Int) ≤ (0 : Int) ∧ (0 : Int) ≤ s3.2.2.1 ∧ s3.2.2.1 ≤ len s3.2.2.2.2.2.2.1) ∧
 (M_Contains_int (sub s3.2.2.2.2.2.2.1 (0 : Int) s3.2.2.1) (gI s3.1 s3.2.2.1) fun (y4 : Bool) =>
 ((y4 = true →
 (K false)) ∧
 (y4 = false →
 (Kb3 (s3.1, s3.2.1, (iadd s3.2.2.1 1), s3.2.2.2.1, s3.2.2.2.2.1, s3.2.2.2.2.2.1, s3.2.2.2.2.2.2.1, s3.2.2.2.2.2.2.2))))))))))))))))))))) ∧
 ((decide (s3.2.2.1 < s3.2.1)) = false →
 (Kx3 (s3.1, s3.2.1, s3.2.2.1, s3.2.2.2.1, s3.2.2.2.2.1, s3.2.2.2.2.2.1, s3.2.2.2.2.2.2.1, s3.2.2.2.2.2.2.2)))))
 (p4, (len p4), 0, p1, p2, p3, p4, y2) fun s3 =>
 (K true))))))
/-! impl.colorsOk -/
def Mi_colorsOk (p1 : List Int) (p2 : Int) (K : Bool → Prop) : Prop :=
 (LoopP (S := List Int × Int × List Int × Int × Int) (fun s1 Kb1 Kx1 =>
 (((decide (s1.2.2.2.2 < s1.2.2.2.1)) = true →
 ((inB s1.2.2.2.2 (List.length s1.2.2.1)) ∧
 (((decide ((gI s1.2.2.1 s1.2.2.2.2) < 0)) = true →
 (K false)) ∧
 ((decide ((gI s1.2.2.1 s1.2.2.2.2) < 0)) = false →
 (((decide ((gI s1.2.2.1 s1.2.2.2.2) > 2)) = true →
 (K false)) ∧
 ((decide ((gI s1.2.2.1 s1.2.2.2.2) > 2)) = false →
 (Kb1 (s1.1, s1.2.1, s1.2.2.1, s1.2.2.2.1, (iadd s1.2.2.2.2 1))))))))) ∧
 ((decide (s1.2.2.2.2 < s1.2.2.2.1)) = false →
 (Kx1 (s1.1, s1.2.1, s1.2.2.1, s1.2.2.2.1, s1.2.2.2.2)))))
 (p1, p2, p1, (len p1), 0) fun s1 =>
 (K ((len s1.1) == s1.2.1)))
/-! impl.GcValid -/
def Mi_GcValid (p1 : List Int) (p2 : List Int) (p3 : List Int) (p4 : List Int) (p5 : Int) (p6 : List Int) (p7 : Int) (K : Bool → Prop) : Prop :=
 (Mi_StoreValid p1 p2 p3 p4 fun (y1 : Bool) =>
 (((!y1) = true →
 (K false)) ∧
 ((!y1) = false →
 (Mi_colorsOk p6 (len p1) fun (y2 : Bool) =>
 (((!y2) = true →
 (K false)) ∧
 ((!y2) = false →
 (((decide (p7 < 0)) = true →
 (K false)) ∧
 ((decide (p7 < 0)) = false →
 (((p5 == 0) = true →
 (K (p7 == 0))) ∧
 ((p5 == 0) = false →
 (((p5 == 2) = true →
 (K (p7 == 0))) ∧
 ((p5 == 2) = false →
 (((p5 == 1) = true →
 (K (decide (p7 < (len p3))))) ∧
 ((p5 == 1) = false →
 (((p5 == 3) = true →
 (K (decide (p7 < (len p1))))) ∧
 ((p5 == 3) = false →
 (K false)))))))))))))))))
/-! impl.OpValid -/
def Mi_OpValid (p1 : Int) (p2 : Int) (p3 : Int) (p4 : Int) (K : Bool → Prop) : Prop :=
 (((decide (p1 < 1)) = true →
 (K false)) ∧
 ((decide (p1 < 1)) = false →
 (((decide (p1 > 7)) = true →
 (K false)) ∧
 ((decide (p1 > 7)) = false →
 (((decide (p2 < 0)) = true →
 (K false)) ∧
 ((decide (p2 < 0)) = false →
 (((decide (p2 ≥ 3)) = true →
 (K false)) ∧
 ((decide (p2 ≥ 3)) = false →
 (((decide (p2 ≥ p4)) = true →
 (K false)) ∧
 ((decide (p2 ≥ p4)) = false →
 (((decide (p3 < 0)) = true →
 (K false)) ∧
 ((decide (p3 < 0)) = false →
 (((decide (p3 ≥ 3)) = true →
 (K false)) ∧
 ((decide (p3 ≥ 3)) = false →
 (((p1 == 1) = true →
 (K (p3 == 0))) ∧
 ((p1 == 1) = false →
 (((p1 == 7) = true →
 (K (p3 == 0))) ∧
 ((p1 == 7) = false →
 (K (decide (p3 < p4)))))))))))))))))))))
/-! impl.opsOk -/
def Mi_opsOk (p1 : List OpV) (p2 : Int) (K : Bool → Prop) : Prop :=
 (LoopP (S := List OpV × Int × List OpV × Int × Int) (fun s1 Kb1 Kx1 =>
 (((decide (s1.2.2.2.2 < s1.2.2.2.1)) = true →
 ((inB s1.2.2.2.2 (List.length s1.2.2.1)) ∧
 (Mi_OpValid ((gO s1.2.2.1 s1.2.2.2.2).kind) ((gO s1.2.2.1 s1.2.2.2.2).a) ((gO s1.2.2.1 s1.2.2.2.2).b) s1.2.1 fun (y2 : Bool) =>
 (((!y2) = true →
 (K false)) ∧
 ((!y2) = false →
 (Kb1 (s1.1, s1.2.1, s1.2.2.1, s1.2.2.2.1, (iadd s1.2.2.2.2 1)))))))) ∧
 ((decide (s1.2.2.2.2 < s1.2.2.2.1)) = false →
 (Kx1 (s1.1, s1.2.1, s1.2.2.1, s1.2.2.2.1, s1.2.2.2.2)))))
 (p1, p2, p1, (len p1), 0) fun s1 =>
 (K (decide ((len s1.1) ≤ 12))))
/-! impl.BothValid -/
def Mi_BothValid (p1 : List Int) (p2 : List Int) (p3 : List Int) (p4 : List Int) (p5 : Int) (p6 : List Int) (p7 : Int) (p8 : List OpV) (p9 : Int) (p10 : Bool) (K : Bool → Prop) : Prop :=
 (Mi_GcValid p1 p2 p3 p4 p5 p6 p7 fun (y1 : Bool) =>
 ((y1 = true →
 (Mi_opsOk p8 (len p3) fun (y2 : Bool) =>
 ((y2 = true →
 (((decide (p9 ≥ 0)) = true →
 (K (decide (p9 ≤ (len p8))))) ∧
 ((decide (p9 ≥ 0)) = false →
 (K false)))) ∧
 (y2 = false →
 (K false))))) ∧
 (y1 = false →
 (K false))))
/-! slices.Clone[[]int,int] -/
def M_Clone_int (p1 : List Int) (K : (List Int) → Prop) : Prop :=
 (∀ b1 : Bool, ((List.length p1 : Nat) ≠ 0 → b1 = false) →
 ((b1 = true →
 (K [])) ∧
 (b1 = false →
 (((List.length p1 : Nat) ≤ 2 ^ 36) ∧
 (K p1)))))
/-! impl.copied -/
def Mi_copied (p1 : List Int) (p2 : List Int) (p3 : List Int) (K : (List Int) → (List Int) → (List Int) → Prop) : Prop :=
 (M_Clone_int p1 fun (y1 : List Int) =>
 (M_Clone_int p2 fun (y2 : List Int) =>
 (M_Clone_int p3 fun (y3 : List Int) =>
 (K y1 y2 y3))))
/-! impl.again -/
def Mi_again (p1 : List Int) (p2 : List Int) (p3 : List Int) (p4 : List Int) (K : (List Int) → (List Int) → (List Int) → (List Int) → Prop) : Prop :=
 (Mi_copied p1 p2 p3 fun (y1 : List Int) (y2 : List Int) (y3 : List Int) =>
 (M_Clone_int p4 fun (y4 : List Int) =>
 (K y1 y2 y3 y4)))
/-! slices.Clone[[]impl.Op,impl.Op] -/
def M_Clone_Op (p1 : List OpV) (K : (List OpV) → Prop) : Prop :=
 (∀ b1 : Bool, ((List.length p1 : Nat) ≠ 0 → b1 = false) →
 ((b1 = true →
 (K [])) ∧
 (b1 = false →
 (((List.length p1 : Nat) ≤ 2 ^ 36) ∧
 (K p1)))))
/-! impl.anew -/
def Mi_anew (p1 : List Int) (p2 : List Int) (p3 : List Int) (p4 : List Int) (p5 : Int) (p6 : List Int) (p7 : Int) (p8 : List OpV) (p9 : Int) (p10 : Bool) (K : (List Int) → (List Int) → (List Int) → (List Int) → (List Int) → (List OpV) → Prop) : Prop :=
 (Mi_again p1 p2 p3 p4 fun (y1 : List Int) (y2 : List Int) (y3 : List Int) (y4 : List Int) =>
 (M_Clone_int p6 fun (y5 : List Int) =>
 (M_Clone_Op p8 fun (y6 : List OpV) =>
 (K y1 y2 y3 y4 y5 y6))))
def M_strconv_Itoa (p1 : Int) (K : List UInt8 → Prop) : Prop :=
 (0 ≤ p1 ∧ p1 < 100) ∧ K (Lib.decDigits p1.toNat)
/-! impl.digit -/
def Mi_digit (p1 : Int) (K : (List UInt8) → Prop) : Prop :=
 (((p1 == (-1)) = true →
 (K [45])) ∧
 ((p1 == (-1)) = false →
 (M_strconv_Itoa p1 fun (y1 : List UInt8) =>
 (K y1))))
/-! impl.FormatHeap -/
def Mi_FormatHeap (p1 : List Int) (p2 : List Int) (p3 : List Int) (K : (List UInt8) → Prop) : Prop :=
 (Mi_HeapValid p1 p2 p3 fun (y1 : Bool) =>
 (((!y1) = true →
 (K ([] : List UInt8))) ∧
 ((!y1) = false →
 (LoopP (S := List UInt8 × Int × Int × List Int × List Int × List Int) (fun s2 Kb2 Kx2 =>
 (((decide (s2.2.2.1 < s2.2.1)) = true →
 ((inB s2.2.2.1 (List.length s2.2.2.2.1)) ∧
 (Mi_digit (gI s2.2.2.2.1 s2.2.2.1) fun (y3 : List UInt8) =>
 ((inB s2.2.2.1 (List.length s2.2.2.2.2.1)) ∧
 (Mi_digit (gI s2.2.2.2.2.1 s2.2.2.1) fun (y4 : List UInt8) =>
 ((List.length y3 + List.length y4 ≤ 2 ^ 62) ∧
 ((List.length (y3 ++ y4) + List.length [32] ≤ 2 ^ 62) ∧
 ((List.length s2.1 + List.length ((y3 ++ y4) ++ [32]) ≤ 2 ^ 62) ∧
 (Kb2 ((s2.1 ++ ((y3 ++ y4) ++ [32])), s2.2.1, (iadd s2.2.2.1 1), s2.2.2.2.1, s2.2.2.2.2.1, s2.2.2.2.2.2)))))))))) ∧
 ((decide (s2.2.2.1 < s2.2.1)) = false →
 (Kx2 (s2.1, s2.2.1, s2.2.2.1, s2.2.2.2.1, s2.2.2.2.2.1, s2.2.2.2.2.2)))))
 (([] : List UInt8), (len p1), 0, p1, p2, p3) fun s2 =>
 ((List.length s2.1 + List.length [47] ≤ 2 ^ 62) ∧
 (LoopP (S := List UInt8 × List Int × Int × Int) (fun s5 Kb5 Kx5 =>
 (((decide (s5.2.2.2 < s5.2.2.1)) = true →
 ((inB s5.2.2.2 (List.length s5.2.1)) ∧
 (Mi_digit (gI s5.2.1 s5.2.2.2) fun (y6 : List UInt8) =>
 ((List.length [32] + List.length y6 ≤ 2 ^ 62) ∧
 ((List.length s5.1 + List.length ([32] ++ y6) ≤ 2 ^ 62) ∧
 (Kb5 ((s5.1 ++ ([32] ++ y6)), s5.2.1, s5.2.2.1, (iadd s5.2.2.2 1)))))))) ∧
 ((decide (s5.2.2.2 < s5.2.2.1)) = false →
 (Kx5 (s5.1, s5.2.1, s5.2.2.1, s5.2.2.2)))))
 ((s2.1 ++ [47]), s2.2.2.2.2.2, (len s2.2.2.2.2.2), 0) fun s5 =>
 (K s5.1)))))))
/-! impl.spaced -/
def Mi_spaced (p1 : List Int) (K : (List UInt8) → Prop) : Prop :=
 (LoopP (S := List UInt8 × List Int × Int × Int) (fun s1 Kb1 Kx1 =>
 (((decide (s1.2.2.2 < s1.2.2.1)) = true →
 ((inB s1.2.2.2 (List.length s1.2.1)) ∧
 (M_strconv_Itoa (gI s1.2.1 s1.2.2.2) fun (y2 : List UInt8) =>
 ((List.length [32] + List.length y2 ≤ 2 ^ 62) ∧
 ((List.length s1.1 + List.length ([32] ++ y2) ≤ 2 ^ 62) ∧
 (Kb1 ((s1.1 ++ ([32] ++ y2)), s1.2.1, s1.2.2.1, (iadd s1.2.2.2 1)))))))) ∧
 ((decide (s1.2.2.2 < s1.2.2.1)) = false →
 (Kx1 (s1.1, s1.2.1, s1.2.2.1, s1.2.2.2)))))
 (([] : List UInt8), p1, (len p1), 0) fun s1 =>
 (K s1.1))
/-! impl.FormatStore -/
def Mi_FormatStore (p1 : List Int) (p2 : List Int) (p3 : List Int) (p4 : List Int) (K : (List UInt8) → Prop) : Prop :=
 (Mi_StoreValid p1 p2 p3 p4 fun (y1 : Bool) =>
 (((!y1) = true →
 (K ([] : List UInt8))) ∧
 ((!y1) = false →
 (Mi_FormatHeap p1 p2 p3 fun (y2 : List UInt8) =>
 ((List.length y2 + List.length [32, 102, 114, 101, 101] ≤ 2 ^ 62) ∧
 (Mi_spaced p4 fun (y3 : List UInt8) =>
 ((List.length (y2 ++ [32, 102, 114, 101, 101]) + List.length y3 ≤ 2 ^ 62) ∧
 (K ((y2 ++ [32, 102, 114, 101, 101]) ++ y3)))))))))
/-! impl.FormatBoth -/
def Mi_FormatBoth (p1 : List Int) (p2 : List Int) (p3 : List Int) (p4 : List Int) (p5 : Int) (p6 : List Int) (p7 : Int) (p8 : List OpV) (p9 : Int) (p10 : Bool) (K : (List UInt8) → Prop) : Prop :=
 (Mi_BothValid p1 p2 p3 p4 p5 p6 p7 p8 p9 p10 fun (y1 : Bool) =>
 (((!y1) = true →
 (K ([] : List UInt8))) ∧
 ((!y1) = false →
 (Mi_FormatStore p1 p2 p3 p4 fun (y2 : List UInt8) =>
 ((List.length y2 + List.length [32] ≤ 2 ^ 62) ∧
 ((inB p5 (List.length [[105, 100, 108, 101], [114, 111, 111, 116, 115], [109, 97, 114, 107], [115, 119, 101, 101, 112]])) ∧
 (let v3 : List UInt8 := (gS [[105, 100, 108, 101], [114, 111, 111, 116, 115], [109, 97, 114, 107], [115, 119, 101, 101, 112]] p5);
 ((List.length (y2 ++ [32]) + List.length v3 ≤ 2 ^ 62) ∧
 ((List.length ((y2 ++ [32]) ++ v3) + List.length [32] ≤ 2 ^ 62) ∧
 (M_strconv_Itoa p7 fun (y4 : List UInt8) =>
 ((List.length (((y2 ++ [32]) ++ v3) ++ [32]) + List.length y4 ≤ 2 ^ 62) ∧
 ((List.length ((((y2 ++ [32]) ++ v3) ++ [32]) ++ y4) + List.length [32] ≤ 2 ^ 62) ∧
 (LoopP (S := List UInt8 × List Int × Int × Int × List Int × List Int × List Int × List Int × Int × List Int × Int × List OpV × Int × Bool) (fun s5 Kb5 Kx5 =>
 (((decide (s5.2.2.2.1 < s5.2.2.1)) = true →
 ((inB s5.2.2.2.1 (List.length s5.2.1)) ∧
 (((0 : Int) ≤ (gI s5.2.1 s5.2.2.2.1) ∧ (gI s5.2.1 s5.2.2.2.1) ≤ (iadd (gI s5.2.1 s5.2.2.2.1) 1) ∧ (iadd (gI s5.2.1 s5.2.2.2.1) 1) ≤ len [119, 103, 98]) ∧
 (let v6 : List UInt8 := (sub [119, 103, 98] (gI s5.2.1 s5.2.2.2.1) (iadd (gI s5.2.1 s5.2.2.2.1) 1));
 ((List.length s5.1 + List.length v6 ≤ 2 ^ 62) ∧
 (Kb5 ((s5.1 ++ v6), s5.2.1, s5.2.2.1, (iadd s5.2.2.2.1 1), s5.2.2.2.2.1, s5.2.2.2.2.2.1, s5.2.2.2.2.2.2.1, s5.2.2.2.2.2.2.2.1, s5.2.2.2.2.2.2.2.2.1, s5.2.2.2.2.2.2.2.2.2.1, s5.2.2.2.2.2.2.2.2.2.2.1, s5.2.2.2.2.2.2.2.2.2.2.2.1, s5.2.2.2.2.2.2.2.2.2.2.2.2.1, s5.2.2.2.2.2.2.2.2.2.2.2.2.2))))))) ∧
 ((decide (s5.2.2.2.1 < s5.2.2.1)) = false →
 (Kx5 (s5.1, s5.2.1, s5.2.2.1, s5.2.2.2.1, s5.2.2.2.2.1, s5.2.2.2.2.2.1, s5.2.2.2.2.2.2.1, s5.2.2.2.2.2.2.2.1, s5.2.2.2.2.2.2.2.2.1, s5.2.2.2.2.2.2.2.2.2.1, s5.2.2.2.2.2.2.2.2.2.2.1, s5.2.2.2.2.2.2.2.2.2.2.2.1, s5.2.2.2.2.2.2.2.2.2.2.2.2.1, s5.2.2.2.2.2.2.2.2.2.2.2.2.2)))))
 ((((((y2 ++ [32]) ++ v3) ++ [32]) ++ y4) ++ [32]), p6, (len p6), 0, p1, p2, p3, p4, p5, p6, p7, p8, p9, p10) fun s5 =>
 (M_strconv_Itoa s5.2.2.2.2.2.2.2.2.2.2.2.2.1 fun (y7 : List UInt8) =>
 ((List.length [32, 97, 116, 32] + List.length y7 ≤ 2 ^ 62) ∧
 ((List.length s5.1 + List.length ([32, 97, 116, 32] ++ y7) ≤ 2 ^ 62) ∧
 ((s5.2.2.2.2.2.2.2.2.2.2.2.2.2 = true →
 ((List.length (s5.1 ++ ([32, 97, 116, 32] ++ y7)) + List.length [32, 108, 111, 115, 116] ≤ 2 ^ 62) ∧
 (let v8 : List UInt8 := ((s5.1 ++ ([32, 97, 116, 32] ++ y7)) ++ [32, 108, 111, 115, 116]);
 (K v8)))) ∧
 (s5.2.2.2.2.2.2.2.2.2.2.2.2.2 = false →
 (K (s5.1 ++ ([32, 97, 116, 32] ++ y7)))))))))))))))))))))
/-! impl.comes$1 -/
def Mi_comes_1 (p1 : List Int) (p2 : List Int) (p3 : List Int) (p4 : List Int) (p5 : Int) (p6 : List Int) (p7 : Int) (p8 : List OpV) (p9 : Int) (p10 : Bool) (p11 : Bool) (p12 : List UInt8) (p13 : List Int) (p14 : List Int) (p15 : List Int) (p16 : List Int) (p17 : Int) (p18 : List Int) (p19 : Int) (p20 : List OpV) (p21 : Int) (p22 : Bool) (p23 : List UInt8) (p24 : List (List UInt8)) (p25 : List NodeV) (K : (List (List UInt8)) → (List NodeV) → Prop) : Prop :=
 (Mi_FormatBoth p1 p2 p3 p4 p5 p6 p7 p8 p9 p10 fun (y1 : List UInt8) =>
 ((p11 = true →
 (((!(List.contains p24 y1)) = true →
 ((List.length p23 + List.length p12 ≤ 2 ^ 62) ∧
 ((List.length p25 + List.length ([(NodeV.mk (BothV.mk (StoreV.mk (HeapV.mk p1 p2 p3) p4) (GcV.mk p5 p6 p7) p8 p9 p10) (p23 ++ p12))] : List NodeV) ≤ 2 ^ 36) ∧
 (let v2 : List NodeV := (p25 ++ [(NodeV.mk (BothV.mk (StoreV.mk (HeapV.mk p1 p2 p3) p4) (GcV.mk p5 p6 p7) p8 p9 p10) (p23 ++ p12))]);
 (K (addKey p24 y1) v2))))) ∧
 ((!(List.contains p24 y1)) = false →
 (K p24 p25)))) ∧
 (p11 = false →
 (K p24 p25))))
/-! impl.SweptCell -/
def Mi_SweptCell (p1 : List Int) (p2 : List Int) (p3 : List Int) (p4 : List Int) (p5 : Int) (p6 : List Int) (p7 : Int) (K : Int → Prop) : Prop :=
 (Mi_GcValid p1 p2 p3 p4 p5 p6 p7 fun (y1 : Bool) =>
 (((!y1) = true →
 (K (-1))) ∧
 ((!y1) = false →
 (((p5 != 3) = true →
 (K (-1))) ∧
 ((p5 != 3) = false →
 ((inB p7 (List.length p6)) ∧
 ((((gI p6 p7) != 0) = true →
 (K (-1))) ∧
 (((gI p6 p7) != 0) = false →
 (M_Contains_int p4 p7 fun (y2 : Bool) =>
 ((y2 = true →
 (K (-1))) ∧
 (y2 = false →
 (K p7))))))))))))
/-! impl.distances$1 -/
def Mi_distances_1 (p1 : Int) (p2 : Int) (p3 : List Int) (p4 : List Int) (K : (List Int) → (List Int) → Prop) : Prop :=
 (((p1 != (-1)) = true →
 ((inB p1 (List.length p3)) ∧
 ((((gI p3 p1) == 0) = true →
 ((inB p1 (List.length p3)) ∧
 ((List.length p4 + List.length ([p1] : List Int) ≤ 2 ^ 36) ∧
 (K (uL p3 p1 p2) (p4 ++ [p1]))))) ∧
 (((gI p3 p1) == 0) = false →
 (K p3 p4))))) ∧
 ((p1 != (-1)) = false →
 (K p3 p4)))
/-! impl.distances -/
def Mi_distances (p1 : List Int) (p2 : List Int) (p3 : List Int) (K : (List Int) → Prop) : Prop :=
 ((0 ≤ (len p1) ∧ (len p1) = (len p1) ∧ (len p1) ≤ 2 ^ 36) ∧
 (LoopP (S := List Int × Int × Int × List Int × List Int × List Int × List Int × List Int) (fun s1 Kb1 Kx1 =>
 (((decide (s1.2.2.1 < s1.2.1)) = true →
 ((inB s1.2.2.1 (List.length s1.1)) ∧
 (Mi_distances_1 (gI s1.1 s1.2.2.1) 1 s1.2.2.2.2.2.2.1 s1.2.2.2.2.2.2.2 fun (y2 : List Int) (y3 : List Int) =>
 (Kb1 (s1.1, s1.2.1, (iadd s1.2.2.1 1), s1.2.2.2.1, s1.2.2.2.2.1, s1.2.2.2.2.2.1, y2, y3))))) ∧
 ((decide (s1.2.2.1 < s1.2.1)) = false →
 (Kx1 (s1.1, s1.2.1, s1.2.2.1, s1.2.2.2.1, s1.2.2.2.2.1, s1.2.2.2.2.2.1, s1.2.2.2.2.2.2.1, s1.2.2.2.2.2.2.2)))))
 (p3, (len p3), 0, p1, p2, p3, (List.replicate (Int.toNat (len p1)) (0 : Int)), []) fun s1 =>
 (LoopP (S := Int × List Int × List Int × List Int × List Int × List Int) (fun s4 Kb4 Kx4 =>
 (((decide (s4.1 < (len s4.2.2.2.2.2))) = true →
 ((inB s4.1 (List.length s4.2.2.2.2.2)) ∧
 ((inB (gI s4.2.2.2.2.2 s4.1) (List.length s4.2.1)) ∧
 ((inB s4.1 (List.length s4.2.2.2.2.2)) ∧
 ((inB (gI s4.2.2.2.2.2 s4.1) (List.length s4.2.2.2.2.1)) ∧
 (Mi_distances_1 (gI s4.2.1 (gI s4.2.2.2.2.2 s4.1)) (iadd (gI s4.2.2.2.2.1 (gI s4.2.2.2.2.2 s4.1)) 1) s4.2.2.2.2.1 s4.2.2.2.2.2 fun (y5 : List Int) (y6 : List Int) =>
 ((inB s4.1 (List.length y6)) ∧
 ((inB (gI y6 s4.1) (List.length s4.2.2.1)) ∧
 ((inB s4.1 (List.length y6)) ∧
 ((inB (gI y6 s4.1) (List.length y5)) ∧
 (Mi_distances_1 (gI s4.2.2.1 (gI y6 s4.1)) (iadd (gI y5 (gI y6 s4.1)) 1) y5 y6 fun (y7 : List Int) (y8 : List Int) =>
 (Kb4 ((iadd s4.1 1), s4.2.1, s4.2.2.1, s4.2.2.2.1, y7, y8))))))))))))) ∧
 ((decide (s4.1 < (len s4.2.2.2.2.2))) = false →
 (Kx4 (s4.1, s4.2.1, s4.2.2.1, s4.2.2.2.1, s4.2.2.2.2.1, s4.2.2.2.2.2)))))
 (0, s1.2.2.2.1, s1.2.2.2.2.1, s1.2.2.2.2.2.1, s1.2.2.2.2.2.2.1, s1.2.2.2.2.2.2.2) fun s4 =>
 (K s4.2.2.2.2.1))))
/-! impl.Reachable -/
def Mi_Reachable (p1 : List Int) (p2 : List Int) (p3 : List Int) (K : (List Bool) → Prop) : Prop :=
 (Mi_HeapValid p1 p2 p3 fun (y1 : Bool) =>
 (((!y1) = true →
 (K [])) ∧
 ((!y1) = false →
 (Mi_distances p1 p2 p3 fun (y2 : List Int) =>
 (LoopP (S := Int × Int × List Bool × List Int) (fun s3 Kb3 Kx3 =>
 (((decide (s3.2.1 < s3.1)) = true →
 ((inB s3.2.1 (List.length s3.2.2.2)) ∧
 ((List.length s3.2.2.1 + List.length ([(decide ((gI s3.2.2.2 s3.2.1) > 0))] : List Bool) ≤ 2 ^ 36) ∧
 (Kb3 (s3.1, (iadd s3.2.1 1), (s3.2.2.1 ++ [(decide ((gI s3.2.2.2 s3.2.1) > 0))]), s3.2.2.2))))) ∧
 ((decide (s3.2.1 < s3.1)) = false →
 (Kx3 (s3.1, s3.2.1, s3.2.2.1, s3.2.2.2)))))
 ((len y2), 0, [], y2) fun s3 =>
 (K s3.2.2.1))))))
/-! impl.shade -/
def Mi_shade (p1 : Int) (p2 : List Int) (K : (List Int) → Prop) : Prop :=
 (((p1 != (-1)) = true →
 ((inB p1 (List.length p2)) ∧
 ((((gI p2 p1) == 0) = true →
 ((inB p1 (List.length p2)) ∧
 (K (uL p2 p1 1)))) ∧
 (((gI p2 p1) == 0) = false →
 (K p2))))) ∧
 ((p1 != (-1)) = false →
 (K p2)))
/-! impl.look -/
def Mi_look (p1 : List Int) (p2 : List Int) (p3 : List Int) (p4 : List Int) (K : Bool → (List Int) → Prop) : Prop :=
 (M_Index_int p4 1 fun (y1 : Int) =>
 (((decide (y1 < 0)) = true →
 (K false p4)) ∧
 ((decide (y1 < 0)) = false →
 ((inB y1 (List.length p1)) ∧
 (Mi_shade (gI p1 y1) p4 fun (y2 : List Int) =>
 ((inB y1 (List.length p2)) ∧
 (Mi_shade (gI p2 y1) y2 fun (y3 : List Int) =>
 ((inB y1 (List.length y3)) ∧
 (K true (uL y3 y1 2))))))))))
/-! impl.StepGc$1 -/
def Mi_StepGc_1 (p1 : Int) (p2 : Int) (p3 : Int) (p4 : List Int) (K : Bool → Prop) : Prop :=
 (((p1 != (-1)) = true →
 ((inB p1 (List.length p4)) ∧
 (K ((gI p4 p1) == 0)))) ∧
 ((p1 != (-1)) = false →
 (K false)))
/-! slices.IndexFunc[[]int,int] -/
def M_IndexFunc_int (p1 : List Int) (p2 : Int) (p3 : Int) (p4 : List Int) (K : Int → Int → Int → (List Int) → Prop) : Prop :=
 (LoopP (S := List Int × Int × Int × Int × Int × List Int) (fun s1 Kb1 Kx1 =>
 (((decide (s1.2.2.1 < s1.2.1)) = true →
 ((inB s1.2.2.1 (List.length s1.1)) ∧
 (Mi_StepGc_1 (gI s1.1 s1.2.2.1) s1.2.2.2.1 s1.2.2.2.2.1 s1.2.2.2.2.2 fun (y2 : Bool) =>
 ((y2 = true →
 (K s1.2.2.1 s1.2.2.2.1 s1.2.2.2.2.1 s1.2.2.2.2.2)) ∧
 (y2 = false →
 (Kb1 (s1.1, s1.2.1, (iadd s1.2.2.1 1), s1.2.2.2.1, s1.2.2.2.2.1, s1.2.2.2.2.2))))))) ∧
 ((decide (s1.2.2.1 < s1.2.1)) = false →
 (Kx1 (s1.1, s1.2.1, s1.2.2.1, s1.2.2.2.1, s1.2.2.2.2.1, s1.2.2.2.2.2)))))
 (p1, (len p1), 0, p2, p3, p4) fun s1 =>
 (K (-1) s1.2.2.2.1 s1.2.2.2.2.1 s1.2.2.2.2.2))
/-! (*impl.Store).clear -/
def Mi_Store_clear (p1 : List Int) (p2 : List Int) (p3 : List Int) (p4 : List Int) (p5 : List Int) (K : (List Int) → (List Int) → (List Int) → (List Int) → Prop) : Prop :=
 (LoopP (S := List Int × Int × Int × List Int × List Int × List Int × List Int) (fun s1 Kb1 Kx1 =>
 (((decide (s1.2.2.1 < s1.2.1)) = true →
 ((inB s1.2.2.1 (List.length s1.1)) ∧
 ((inB (gI s1.1 s1.2.2.1) (List.length s1.2.2.2.1)) ∧
 ((inB (gI s1.1 s1.2.2.1) (List.length s1.2.2.2.2.1)) ∧
 (LoopP (S := Int × List Int × Int × Int × Int × Int × List Int × List Int × List Int × List Int) (fun s2 Kb2 Kx2 =>
 (((decide (s2.2.2.2.2.2.1 < s2.2.2.2.2.1)) = true →
 (let j10 := fun (z8 : List Int) (z9 : List Int) =>
 (Kb2 (s2.1, s2.2.1, s2.2.2.1, s2.2.2.2.1, s2.2.2.2.2.1, (iadd s2.2.2.2.2.2.1 1), z8, z9, s2.2.2.2.2.2.2.2.2.1, s2.2.2.2.2.2.2.2.2.2));
 (let j5 := fun (z4 : List Int) =>
 ((inB s2.2.2.2.2.2.1 (List.length s2.2.2.2.2.2.2.2.1)) ∧
 ((((gI s2.2.2.2.2.2.2.2.1 s2.2.2.2.2.2.1) == s2.1) = true →
 ((inB s2.2.2.2.2.2.1 (List.length s2.2.2.2.2.2.2.2.1)) ∧
 (j10 z4 (uL s2.2.2.2.2.2.2.2.1 s2.2.2.2.2.2.1 (-1))))) ∧
 (((gI s2.2.2.2.2.2.2.2.1 s2.2.2.2.2.2.1) == s2.1) = false →
 (j10 z4 s2.2.2.2.2.2.2.2.1))));
 ((inB s2.2.2.2.2.2.1 (List.length s2.2.2.2.2.2.2.1)) ∧
 ((((gI s2.2.2.2.2.2.2.1 s2.2.2.2.2.2.1) == s2.1) = true →
 ((inB s2.2.2.2.2.2.1 (List.length s2.2.2.2.2.2.2.1)) ∧
 (j5 (uL s2.2.2.2.2.2.2.1 s2.2.2.2.2.2.1 (-1))))) ∧
 (((gI s2.2.2.2.2.2.2.1 s2.2.2.2.2.2.1) == s2.1) = false →
 (j5 s2.2.2.2.2.2.2.1))))))) ∧
 ((decide (s2.2.2.2.2.2.1 < s2.2.2.2.2.1)) = false →
 (Kx2 (s2.1, s2.2.1, s2.2.2.1, s2.2.2.2.1, s2.2.2.2.2.1, s2.2.2.2.2.2.1, s2.2.2.2.2.2.2.1, s2.2.2.2.2.2.2.2.1, s2.2.2.2.2.2.2.2.2.1, s2.2.2.2.2.2.2.2.2.2)))))
 ((gI s1.1 s1.2.2.1), s1.1, s1.2.1, s1.2.2.1, (len (uL s1.2.2.2.1 (gI s1.1 s1.2.2.1) (-1))), 0, (uL s1.2.2.2.1 (gI s1.1 s1.2.2.1) (-1)), (uL s1.2.2.2.2.1 (gI s1.1 s1.2.2.1) (-1)), s1.2.2.2.2.2.1, s1.2.2.2.2.2.2) fun s2 =>
 ((List.length s2.2.2.2.2.2.2.2.2.2 + List.length ([s2.1] : List Int) ≤ 2 ^ 36) ∧
 (Kb1 (s2.2.1, s2.2.2.1, (iadd s2.2.2.2.1 1), s2.2.2.2.2.2.2.1, s2.2.2.2.2.2.2.2.1, s2.2.2.2.2.2.2.2.2.1, (s2.2.2.2.2.2.2.2.2.2 ++ [s2.1]))))))))) ∧
 ((decide (s1.2.2.1 < s1.2.1)) = false →
 (Kx1 (s1.1, s1.2.1, s1.2.2.1, s1.2.2.2.1, s1.2.2.2.2.1, s1.2.2.2.2.2.1, s1.2.2.2.2.2.2)))))
 (p1, (len p1), 0, p2, p3, p4, p5) fun s1 =>
 (K s1.2.2.2.1 s1.2.2.2.2.1 s1.2.2.2.2.2.1 s1.2.2.2.2.2.2))
/-! impl.StepGc, from region 27 on -/
def Mi_StepGc_c27 (c27_0 : Int) (c27_1 : Int) (c27_2 : Int) (c27_3 : Int) (c27_4 : List Int) (c27_5 : List Int) (c27_6 : List Int) (c27_7 : List Int) (c27_8 : List Int) (c27_9 : List Int) (c27_10 : List Int) (c27_11 : List Int) (c27_12 : List Int) (c27_13 : List Int) (K : Int → Int → Bool → (List Int) → (List Int) → (List Int) → (List Int) → (List Int) → Prop) : Prop :=
 (K c27_0 c27_1 true c27_4 c27_5 c27_6 c27_7 c27_8)
/-! impl.StepGc, from region 4 on -/
def Mi_StepGc_c4 (c4_0 : Int) (c4_1 : List Int) (c4_2 : List Int) (c4_3 : List Int) (c4_4 : List Int) (c4_5 : Int) (c4_6 : List Int) (c4_7 : Int) (c4_8 : Int) (c4_9 : Int) (c4_10 : List Int) (c4_11 : List Int) (c4_12 : List Int) (c4_13 : List Int) (c4_14 : List Int) (K : Int → Int → Bool → (List Int) → (List Int) → (List Int) → (List Int) → (List Int) → Prop) : Prop :=
 (Mi_again c4_1 c4_2 c4_3 c4_4 fun (y8 : List Int) (y9 : List Int) (y10 : List Int) (y11 : List Int) =>
 (M_Clone_int c4_6 fun (y12 : List Int) =>
 (((c4_5 == 0) = true →
 ((0 ≤ (len y12) ∧ (len y12) = (len y12) ∧ (len y12) ≤ 2 ^ 36) ∧
 (Mi_StepGc_c27 1 0 c4_8 c4_9 y8 y9 y10 y11 (List.replicate (Int.toNat (len y12)) (0 : Int)) c4_10 c4_11 c4_12 c4_13 c4_14 K))) ∧
 ((c4_5 == 0) = false →
 (((c4_5 == 1) = true →
 ((inB c4_7 (List.length y10)) ∧
 (Mi_shade (gI y10 c4_7) y12 fun (y13 : List Int) =>
 ((((iadd c4_7 1) == (len y10)) = true →
 (Mi_StepGc_c27 2 0 c4_8 c4_9 y8 y9 y10 y11 y13 c4_10 c4_11 c4_12 c4_13 c4_14 K)) ∧
 (((iadd c4_7 1) == (len y10)) = false →
 (Mi_StepGc_c27 c4_5 (iadd c4_7 1) c4_8 c4_9 y8 y9 y10 y11 y13 c4_10 c4_11 c4_12 c4_13 c4_14 K)))))) ∧
 ((c4_5 == 1) = false →
 (((c4_5 == 2) = true →
 (Mi_look y8 y9 y10 y12 fun (y14 : Bool) (y15 : List Int) =>
 ((y14 = true →
 (Mi_StepGc_c27 c4_5 c4_7 c4_8 c4_9 y8 y9 y10 y11 y15 c4_10 c4_11 c4_12 c4_13 c4_14 K)) ∧
 (y14 = false →
 (M_IndexFunc_int y10 c4_5 c4_7 y15 fun (y16 : Int) (y17 : Int) (y18 : Int) (y19 : List Int) =>
 (((decide (y16 ≥ 0)) = true →
 ((inB y16 (List.length y10)) ∧
 (Mi_shade (gI y10 y16) y15 fun (y20 : List Int) =>
 (Mi_StepGc_c27 c4_5 c4_7 c4_8 c4_9 y8 y9 y10 y11 y20 c4_10 c4_11 c4_12 c4_13 c4_14 K)))) ∧
 ((decide (y16 ≥ 0)) = false →
 (Mi_StepGc_c27 3 c4_7 c4_8 c4_9 y8 y9 y10 y11 y15 c4_10 c4_11 c4_12 c4_13 c4_14 K)))))))) ∧
 ((c4_5 == 2) = false →
 (((c4_5 == 3) = true →
 (((c4_0 != (-1)) = true →
 (Mi_Store_clear [c4_0] y8 y9 y10 y11 fun (y21 : List Int) (y22 : List Int) (y23 : List Int) (y24 : List Int) =>
 ((inB c4_7 (List.length y12)) ∧
 ((((iadd c4_7 1) == (len (uL y12 c4_7 0))) = true →
 (Mi_StepGc_c27 0 0 c4_8 c4_9 y21 y22 y23 y24 (uL y12 c4_7 0) c4_10 c4_11 c4_12 c4_13 c4_14 K)) ∧
 (((iadd c4_7 1) == (len (uL y12 c4_7 0))) = false →
 (Mi_StepGc_c27 c4_5 (iadd c4_7 1) c4_8 c4_9 y21 y22 y23 y24 (uL y12 c4_7 0) c4_10 c4_11 c4_12 c4_13 c4_14 K)))))) ∧
 ((c4_0 != (-1)) = false →
 ((inB c4_7 (List.length y12)) ∧
 ((((iadd c4_7 1) == (len (uL y12 c4_7 0))) = true →
 (Mi_StepGc_c27 0 0 c4_8 c4_9 y8 y9 y10 y11 (uL y12 c4_7 0) c4_10 c4_11 c4_12 c4_13 c4_14 K)) ∧
 (((iadd c4_7 1) == (len (uL y12 c4_7 0))) = false →
 (Mi_StepGc_c27 c4_5 (iadd c4_7 1) c4_8 c4_9 y8 y9 y10 y11 (uL y12 c4_7 0) c4_10 c4_11 c4_12 c4_13 c4_14 K))))))) ∧
 ((c4_5 == 3) = false →
 (Mi_StepGc_c27 c4_5 c4_7 c4_8 c4_9 y8 y9 y10 y11 y12 c4_10 c4_11 c4_12 c4_13 c4_14 K)))))))))))
/-! impl.StepGc -/
def Mi_StepGc (p1 : List Int) (p2 : List Int) (p3 : List Int) (p4 : List Int) (p5 : Int) (p6 : List Int) (p7 : Int) (K : Int → Int → Bool → (List Int) → (List Int) → (List Int) → (List Int) → (List Int) → Prop) : Prop :=
 (Mi_SweptCell p1 p2 p3 p4 p5 p6 p7 fun (y1 : Int) =>
 (Mi_GcValid p1 p2 p3 p4 p5 p6 p7 fun (y2 : Bool) =>
 (((!y2) = true →
 (K 0 0 false [] [] [] [] [])) ∧
 ((!y2) = false →
 (((y1 != (-1)) = true →
 (M_Contains_int p3 y1 fun (y3 : Bool) =>
 ((y3 = true →
 (K 0 0 false [] [] [] [] [])) ∧
 (y3 = false →
 (Mi_StepGc_c4 y1 p1 p2 p3 p4 p5 p6 p7 0 0 [] [] [] [] [] K))))) ∧
 ((y1 != (-1)) = false →
 (Mi_StepGc_c4 y1 p1 p2 p3 p4 p5 p6 p7 0 0 [] [] [] [] [] K)))))))
/-! impl.StepBoth -/
def Mi_StepBoth (p1 : List Int) (p2 : List Int) (p3 : List Int) (p4 : List Int) (p5 : Int) (p6 : List Int) (p7 : Int) (p8 : List OpV) (p9 : Int) (p10 : Bool) (K : Int → Int → Int → Bool → Bool → (List Int) → (List Int) → (List Int) → (List Int) → (List Int) → (List OpV) → Prop) : Prop :=
 (Mi_BothValid p1 p2 p3 p4 p5 p6 p7 p8 p9 p10 fun (y1 : Bool) =>
 (((!y1) = true →
 (K 0 0 0 false false [] [] [] [] [] [])) ∧
 ((!y1) = false →
 ((p10 = true →
 (K 0 0 0 false false [] [] [] [] [] [])) ∧
 (p10 = false →
 (Mi_anew p1 p2 p3 p4 p5 p6 p7 p8 p9 p10 fun (y2 : List Int) (y3 : List Int) (y4 : List Int) (y5 : List Int) (y6 : List Int) (y7 : List OpV) =>
 (Mi_SweptCell y2 y3 y4 y5 p5 y6 p7 fun (y8 : Int) =>
 (((y8 != (-1)) = true →
 (Mi_Reachable y2 y3 y4 fun (y9 : List Bool) =>
 ((inB y8 (List.length y9)) ∧
 (((gB y9 y8) = true →
 (K p5 p7 p9 true true y2 y3 y4 y5 y6 y7)) ∧
 ((gB y9 y8) = false →
 (Mi_StepGc y2 y3 y4 y5 p5 y6 p7 fun (y10 : Int) (y11 : Int) (y12 : Bool) (y13 : List Int) (y14 : List Int) (y15 : List Int) (y16 : List Int) (y17 : List Int) =>
 (K y10 y11 p9 p10 true y13 y14 y15 y16 y17 y7))))))) ∧
 ((y8 != (-1)) = false →
 (Mi_StepGc y2 y3 y4 y5 p5 y6 p7 fun (y18 : Int) (y19 : Int) (y20 : Bool) (y21 : List Int) (y22 : List Int) (y23 : List Int) (y24 : List Int) (y25 : List Int) =>
 (K y18 y19 p9 p10 true y21 y22 y23 y24 y25 y7)))))))))))
/-! impl.TargetOf -/
def Mi_TargetOf (p1 : List Int) (p2 : List Int) (p3 : List Int) (p4 : List Int) (p5 : Int) (p6 : Int) (p7 : Int) (K : Int → Prop) : Prop :=
 (Mi_StoreValid p1 p2 p3 p4 fun (y1 : Bool) =>
 (((!y1) = true →
 (K (-1))) ∧
 ((!y1) = false →
 (Mi_OpValid p5 p6 p7 (len p3) fun (y2 : Bool) =>
 (((!y2) = true →
 (K (-1))) ∧
 ((!y2) = false →
 (((p5 != 5) = true →
 (((p5 != 6) = true →
 (K (-1))) ∧
 ((p5 != 6) = false →
 ((inB p6 (List.length p3)) ∧
 ((((gI p3 p6) == (-1)) = true →
 (K (-1))) ∧
 (((gI p3 p6) == (-1)) = false →
 ((inB p7 (List.length p3)) ∧
 (K (gI p3 p7))))))))) ∧
 ((p5 != 5) = false →
 ((inB p6 (List.length p3)) ∧
 ((((gI p3 p6) == (-1)) = true →
 (K (-1))) ∧
 (((gI p3 p6) == (-1)) = false →
 ((inB p7 (List.length p3)) ∧
 (K (gI p3 p7))))))))))))))
/-! impl.AllocCell -/
def Mi_AllocCell (p1 : List Int) (p2 : List Int) (p3 : List Int) (p4 : List Int) (p5 : Int) (K : Int → Bool → (List Int) → (List Int) → (List Int) → (List Int) → Prop) : Prop :=
 (Mi_StoreValid p1 p2 p3 p4 fun (y1 : Bool) =>
 (((!y1) = true →
 (K 0 false [] [] [] [])) ∧
 ((!y1) = false →
 (((decide (p5 < 0)) = true →
 (K 0 false [] [] [] [])) ∧
 ((decide (p5 < 0)) = false →
 (((decide (p5 ≥ (len p3))) = true →
 (K 0 false [] [] [] [])) ∧
 ((decide (p5 ≥ (len p3))) = false →
 ((((len p4) == 0) = true →
 (K 0 false [] [] [] [])) ∧
 (((len p4) == 0) = false →
 (Mi_again p1 p2 p3 p4 fun (y2 : List Int) (y3 : List Int) (y4 : List Int) (y5 : List Int) =>
 ((inB 0 (List.length y5)) ∧
 (((0 : Int) ≤ (1 : Int) ∧ (1 : Int) ≤ (len y5) ∧ (len y5) ≤ len y5) ∧
 ((inB p5 (List.length y4)) ∧
 (K (gI y5 0) true y2 y3 (uL y4 p5 (gI y5 0)) (sub y5 (1 : Int) (len y5))))))))))))))))
/-! impl.RunOp -/
def Mi_RunOp (p1 : List Int) (p2 : List Int) (p3 : List Int) (p4 : List Int) (p5 : Int) (p6 : Int) (p7 : Int) (K : Int → Bool → (List Int) → (List Int) → (List Int) → (List Int) → Prop) : Prop :=
 (Mi_StoreValid p1 p2 p3 p4 fun (y1 : Bool) =>
 (((!y1) = true →
 (K 0 false [] [] [] [])) ∧
 ((!y1) = false →
 (Mi_OpValid p5 p6 p7 (len p3) fun (y2 : Bool) =>
 (((!y2) = true →
 (K 0 false [] [] [] [])) ∧
 ((!y2) = false →
 (Mi_again p1 p2 p3 p4 fun (y3 : List Int) (y4 : List Int) (y5 : List Int) (y6 : List Int) =>
 (((p5 == 1) = true →
 (Mi_AllocCell y3 y4 y5 y6 p6 fun (y7 : Int) (y8 : Bool) (y9 : List Int) (y10 : List Int) (y11 : List Int) (y12 : List Int) =>
 (((!y8) = true →
 (K 1 true y3 y4 y5 y6)) ∧
 ((!y8) = false →
 (K 0 true y9 y10 y11 y12))))) ∧
 ((p5 == 1) = false →
 (((p5 == 2) = true →
 ((inB p7 (List.length y5)) ∧
 ((inB p6 (List.length y5)) ∧
 (K 0 true y3 y4 (uL y5 p6 (gI y5 p7)) y6)))) ∧
 ((p5 == 2) = false →
 (((p5 == 3) = true →
 ((inB p7 (List.length y5)) ∧
 ((((gI y5 p7) == (-1)) = true →
 (K 2 true y3 y4 y5 y6)) ∧
 (((gI y5 p7) == (-1)) = false →
 ((inB (gI y5 p7) (List.length y3)) ∧
 ((inB p6 (List.length y5)) ∧
 (((p5 == 4) = true →
 ((inB (gI y5 p7) (List.length y4)) ∧
 ((inB p6 (List.length (uL y5 p6 (gI y3 (gI y5 p7))))) ∧
 (K 0 true y3 y4 (uL (uL y5 p6 (gI y3 (gI y5 p7))) p6 (gI y4 (gI y5 p7))) y6)))) ∧
 ((p5 == 4) = false →
 (K 0 true y3 y4 (uL y5 p6 (gI y3 (gI y5 p7))) y6))))))))) ∧
 ((p5 == 3) = false →
 (((p5 == 4) = true →
 ((inB p7 (List.length y5)) ∧
 ((((gI y5 p7) == (-1)) = true →
 (K 2 true y3 y4 y5 y6)) ∧
 (((gI y5 p7) == (-1)) = false →
 ((inB (gI y5 p7) (List.length y3)) ∧
 ((inB p6 (List.length y5)) ∧
 (((p5 == 4) = true →
 ((inB (gI y5 p7) (List.length y4)) ∧
 ((inB p6 (List.length (uL y5 p6 (gI y3 (gI y5 p7))))) ∧
 (K 0 true y3 y4 (uL (uL y5 p6 (gI y3 (gI y5 p7))) p6 (gI y4 (gI y5 p7))) y6)))) ∧
 ((p5 == 4) = false →
 (K 0 true y3 y4 (uL y5 p6 (gI y3 (gI y5 p7))) y6))))))))) ∧
 ((p5 == 4) = false →
 (((p5 == 5) = true →
 ((inB p6 (List.length y5)) ∧
 ((((gI y5 p6) == (-1)) = true →
 (K 2 true y3 y4 y5 y6)) ∧
 (((gI y5 p6) == (-1)) = false →
 (((p5 == 5) = true →
 ((inB p7 (List.length y5)) ∧
 ((inB (gI y5 p6) (List.length y3)) ∧
 (K 0 true (uL y3 (gI y5 p6) (gI y5 p7)) y4 y5 y6)))) ∧
 ((p5 == 5) = false →
 ((inB p7 (List.length y5)) ∧
 ((inB (gI y5 p6) (List.length y4)) ∧
 (K 0 true y3 (uL y4 (gI y5 p6) (gI y5 p7)) y5 y6))))))))) ∧
 ((p5 == 5) = false →
 (((p5 == 6) = true →
 ((inB p6 (List.length y5)) ∧
 ((((gI y5 p6) == (-1)) = true →
 (K 2 true y3 y4 y5 y6)) ∧
 (((gI y5 p6) == (-1)) = false →
 (((p5 == 5) = true →
 ((inB p7 (List.length y5)) ∧
 ((inB (gI y5 p6) (List.length y3)) ∧
 (K 0 true (uL y3 (gI y5 p6) (gI y5 p7)) y4 y5 y6)))) ∧
 ((p5 == 5) = false →
 ((inB p7 (List.length y5)) ∧
 ((inB (gI y5 p6) (List.length y4)) ∧
 (K 0 true y3 (uL y4 (gI y5 p6) (gI y5 p7)) y5 y6))))))))) ∧
 ((p5 == 6) = false →
 (((p5 == 7) = true →
 ((inB p6 (List.length y5)) ∧
 (K 0 true y3 y4 (uL y5 p6 (-1)) y6))) ∧
 ((p5 == 7) = false →
 (K 0 true y3 y4 y5 y6))))))))))))))))))))))
/-! impl.has -/
def Mi_has (p1 : List Int) (p2 : List Int) (p3 : List Int) (p4 : Int) (K : Bool → Prop) : Prop :=
 (Mi_HeapValid p1 p2 p3 fun (y1 : Bool) =>
 ((y1 = true →
 (((decide (p4 ≥ 0)) = true →
 (K (decide (p4 < (len p1))))) ∧
 ((decide (p4 ≥ 0)) = false →
 (K false)))) ∧
 (y1 = false →
 (K false))))
/-! impl.ColorNew -/
def Mi_ColorNew (p1 : List Int) (p2 : List Int) (p3 : List Int) (p4 : List Int) (p5 : Int) (p6 : List Int) (p7 : Int) (p8 : Int) (K : Int → Int → Bool → (List Int) → Prop) : Prop :=
 (Mi_GcValid p1 p2 p3 p4 p5 p6 p7 fun (y1 : Bool) =>
 (((!y1) = true →
 (K 0 0 false [])) ∧
 ((!y1) = false →
 (Mi_has p1 p2 p3 p8 fun (y2 : Bool) =>
 (((!y2) = true →
 (K 0 0 false [])) ∧
 ((!y2) = false →
 (M_Clone_int p6 fun (y3 : List Int) =>
 ((inB p8 (List.length y3)) ∧
 (((p5 == 1) = true →
 ((inB p8 (List.length (uL y3 p8 0))) ∧
 (K p5 p7 true (uL (uL y3 p8 0) p8 2)))) ∧
 ((p5 == 1) = false →
 (((p5 == 2) = true →
 ((inB p8 (List.length (uL y3 p8 0))) ∧
 (K p5 p7 true (uL (uL y3 p8 0) p8 2)))) ∧
 ((p5 == 2) = false →
 (((p5 == 3) = true →
 (((decide (p8 ≥ p7)) = true →
 ((inB p8 (List.length (uL y3 p8 0))) ∧
 (K p5 p7 true (uL (uL y3 p8 0) p8 2)))) ∧
 ((decide (p8 ≥ p7)) = false →
 (K p5 p7 true (uL y3 p8 0))))) ∧
 ((p5 == 3) = false →
 (K p5 p7 true (uL y3 p8 0))))))))))))))))
/-! impl.ShadeGc -/
def Mi_ShadeGc (p1 : List Int) (p2 : List Int) (p3 : List Int) (p4 : List Int) (p5 : Int) (p6 : List Int) (p7 : Int) (p8 : Int) (K : Int → Int → Bool → (List Int) → Prop) : Prop :=
 (Mi_GcValid p1 p2 p3 p4 p5 p6 p7 fun (y1 : Bool) =>
 (((!y1) = true →
 (K 0 0 false [])) ∧
 ((!y1) = false →
 (Mi_has p1 p2 p3 p8 fun (y2 : Bool) =>
 (((!y2) = true →
 (K 0 0 false [])) ∧
 ((!y2) = false →
 (M_Clone_int p6 fun (y3 : List Int) =>
 (((p5 == 1) = true →
 (Mi_shade p8 y3 fun (y4 : List Int) =>
 (K p5 p7 true y4))) ∧
 ((p5 == 1) = false →
 (((p5 == 2) = true →
 (Mi_shade p8 y3 fun (y5 : List Int) =>
 (K p5 p7 true y5))) ∧
 ((p5 == 2) = false →
 (K p5 p7 true y3))))))))))))
/-! impl.step, from region 15 on -/
def Mi_step_c15 (c15_0 : Int) (c15_1 : Int) (c15_2 : Int) (c15_3 : Int) (c15_4 : Bool) (c15_5 : Int) (c15_6 : Int) (c15_7 : Int) (c15_8 : Bool) (c15_9 : List Int) (c15_10 : List Int) (c15_11 : List Int) (c15_12 : List Int) (c15_13 : List Int) (c15_14 : List OpV) (c15_15 : List Int) (c15_16 : List Int) (c15_17 : List Int) (c15_18 : List Int) (c15_19 : List Int) (c15_20 : List OpV) (K : Int → Int → Int → Bool → Int → Bool → (List Int) → (List Int) → (List Int) → (List Int) → (List Int) → (List OpV) → Prop) : Prop :=
 (K c15_1 c15_2 c15_3 c15_4 c15_0 true c15_9 c15_10 c15_11 c15_12 c15_13 c15_14)
/-! impl.step, from region 7 on -/
def Mi_step_c7 (c7_0 : Bool) (c7_1 : Int) (c7_2 : Int) (c7_3 : Int) (c7_4 : Int) (c7_5 : Int) (c7_6 : Bool) (c7_7 : Int) (c7_8 : Int) (c7_9 : Int) (c7_10 : Bool) (c7_11 : Int) (c7_12 : Int) (c7_13 : Int) (c7_14 : List Int) (c7_15 : List Int) (c7_16 : List Int) (c7_17 : List Int) (c7_18 : List Int) (c7_19 : List OpV) (c7_20 : List Int) (c7_21 : List Int) (c7_22 : List Int) (c7_23 : List Int) (c7_24 : List Int) (c7_25 : List OpV) (c7_26 : List Int) (c7_27 : List Int) (c7_28 : List Int) (c7_29 : List Int) (K : Int → Int → Int → Bool → Int → Bool → (List Int) → (List Int) → (List Int) → (List Int) → (List Int) → (List OpV) → Prop) : Prop :=
 (((c7_2 != 0) = true →
 (K c7_3 c7_4 (iadd c7_5 1) c7_6 c7_2 true c7_26 c7_27 c7_28 c7_29 c7_18 c7_19)) ∧
 ((c7_2 != 0) = false →
 (((c7_11 == 1) = true →
 ((inB c7_12 (List.length c7_28)) ∧
 (Mi_ColorNew c7_26 c7_27 c7_28 c7_29 c7_3 c7_18 c7_4 (gI c7_28 c7_12) fun (y15 : Int) (y16 : Int) (y17 : Bool) (y18 : List Int) =>
 (let j23 : Prop :=
 (Mi_step_c15 c7_2 y15 y16 (iadd c7_5 1) c7_6 c7_7 c7_8 c7_9 c7_10 c7_26 c7_27 c7_28 c7_29 y18 c7_19 c7_20 c7_21 c7_22 c7_23 c7_24 c7_25 K);
 ((c7_0 = true →
 (((c7_1 != (-1)) = true →
 (Mi_ShadeGc c7_26 c7_27 c7_28 c7_29 y15 y18 y16 c7_1 fun (y19 : Int) (y20 : Int) (y21 : Bool) (y22 : List Int) =>
 (Mi_step_c15 c7_2 y19 y20 (iadd c7_5 1) c7_6 c7_7 c7_8 c7_9 c7_10 c7_26 c7_27 c7_28 c7_29 y22 c7_19 c7_20 c7_21 c7_22 c7_23 c7_24 c7_25 K))) ∧
 ((c7_1 != (-1)) = false →
 j23))) ∧
 (c7_0 = false →
 j23)))))) ∧
 ((c7_11 == 1) = false →
 (let j28 : Prop :=
 (Mi_step_c15 c7_2 c7_3 c7_4 (iadd c7_5 1) c7_6 c7_7 c7_8 c7_9 c7_10 c7_26 c7_27 c7_28 c7_29 c7_18 c7_19 c7_20 c7_21 c7_22 c7_23 c7_24 c7_25 K);
 ((c7_0 = true →
 (((c7_1 != (-1)) = true →
 (Mi_ShadeGc c7_26 c7_27 c7_28 c7_29 c7_3 c7_18 c7_4 c7_1 fun (y24 : Int) (y25 : Int) (y26 : Bool) (y27 : List Int) =>
 (Mi_step_c15 c7_2 y24 y25 (iadd c7_5 1) c7_6 c7_7 c7_8 c7_9 c7_10 c7_26 c7_27 c7_28 c7_29 y27 c7_19 c7_20 c7_21 c7_22 c7_23 c7_24 c7_25 K))) ∧
 ((c7_1 != (-1)) = false →
 j28))) ∧
 (c7_0 = false →
 j28)))))))
/-! impl.step, from region 4 on -/
def Mi_step_c4 (c4_0 : Bool) (c4_1 : Int) (c4_2 : Int) (c4_3 : Int) (c4_4 : Bool) (c4_5 : Int) (c4_6 : Int) (c4_7 : Int) (c4_8 : Bool) (c4_9 : List Int) (c4_10 : List Int) (c4_11 : List Int) (c4_12 : List Int) (c4_13 : List Int) (c4_14 : List OpV) (c4_15 : List Int) (c4_16 : List Int) (c4_17 : List Int) (c4_18 : List Int) (c4_19 : List Int) (c4_20 : List OpV) (K : Int → Int → Int → Bool → Int → Bool → (List Int) → (List Int) → (List Int) → (List Int) → (List Int) → (List OpV) → Prop) : Prop :=
 ((inB c4_3 (List.length c4_14)) ∧
 (Mi_TargetOf c4_9 c4_10 c4_11 c4_12 ((gO c4_14 c4_3).kind) ((gO c4_14 c4_3).a) ((gO c4_14 c4_3).b) fun (y8 : Int) =>
 (Mi_RunOp c4_9 c4_10 c4_11 c4_12 ((gO c4_14 c4_3).kind) ((gO c4_14 c4_3).a) ((gO c4_14 c4_3).b) fun (y9 : Int) (y10 : Bool) (y11 : List Int) (y12 : List Int) (y13 : List Int) (y14 : List Int) =>
 (Mi_step_c7 c4_0 y8 y9 c4_1 c4_2 c4_3 c4_4 c4_5 c4_6 c4_7 c4_8 ((gO c4_14 c4_3).kind) ((gO c4_14 c4_3).a) ((gO c4_14 c4_3).b) c4_9 c4_10 c4_11 c4_12 c4_13 c4_14 c4_15 c4_16 c4_17 c4_18 c4_19 c4_20 y11 y12 y13 y14 K))))
/-! impl.step -/
def Mi_step (p1 : List Int) (p2 : List Int) (p3 : List Int) (p4 : List Int) (p5 : Int) (p6 : List Int) (p7 : Int) (p8 : List OpV) (p9 : Int) (p10 : Bool) (p11 : Bool) (K : Int → Int → Int → Bool → Int → Bool → (List Int) → (List Int) → (List Int) → (List Int) → (List Int) → (List OpV) → Prop) : Prop :=
 (Mi_BothValid p1 p2 p3 p4 p5 p6 p7 p8 p9 p10 fun (y1 : Bool) =>
 (((!y1) = true →
 (K 0 0 0 false 0 false [] [] [] [] [] [])) ∧
 ((!y1) = false →
 ((p10 = true →
 (K 0 0 0 false 0 false [] [] [] [] [] [])) ∧
 (p10 = false →
 (((p9 == (len p8)) = true →
 (K 0 0 0 false 0 false [] [] [] [] [] [])) ∧
 ((p9 == (len p8)) = false →
 (Mi_anew p1 p2 p3 p4 p5 p6 p7 p8 p9 p10 fun (y2 : List Int) (y3 : List Int) (y4 : List Int) (y5 : List Int) (y6 : List Int) (y7 : List OpV) =>
 (Mi_step_c4 p11 p5 p7 p9 p10 0 0 0 false y2 y3 y4 y5 y6 y7 [] [] [] [] [] [] K)))))))))
/-! impl.StepOp -/
def Mi_StepOp (p1 : List Int) (p2 : List Int) (p3 : List Int) (p4 : List Int) (p5 : Int) (p6 : List Int) (p7 : Int) (p8 : List OpV) (p9 : Int) (p10 : Bool) (p11 : Bool) (K : Int → Int → Int → Bool → Bool → (List Int) → (List Int) → (List Int) → (List Int) → (List Int) → (List OpV) → Prop) : Prop :=
 (Mi_step p1 p2 p3 p4 p5 p6 p7 p8 p9 p10 p11 fun (y1 : Int) (y2 : Int) (y3 : Int) (y4 : Bool) (y5 : Int) (y6 : Bool) (y7 : List Int) (y8 : List Int) (y9 : List Int) (y10 : List Int) (y11 : List Int) (y12 : List OpV) =>
 (K y1 y2 y3 y4 y6 y7 y8 y9 y10 y11 y12))
/-! impl.comes -/
def Mi_comes (p1 : List Int) (p2 : List Int) (p3 : List Int) (p4 : List Int) (p5 : Int) (p6 : List Int) (p7 : Int) (p8 : List OpV) (p9 : Int) (p10 : Bool) (p11 : Bool) (K : Bool → (List NodeV) → Prop) : Prop :=
 (Mi_BothValid p1 p2 p3 p4 p5 p6 p7 p8 p9 p10 fun (y1 : Bool) =>
 (((!y1) = true →
 (K false [])) ∧
 ((!y1) = false →
 (Mi_anew p1 p2 p3 p4 p5 p6 p7 p8 p9 p10 fun (y2 : List Int) (y3 : List Int) (y4 : List Int) (y5 : List Int) (y6 : List Int) (y7 : List OpV) =>
 (Mi_FormatBoth p1 p2 p3 p4 p5 p6 p7 p8 p9 p10 fun (y8 : List UInt8) =>
 (LoopP (S := Bool × Int × List NodeV × List (List UInt8)) (fun s9 Kb9 Kx9 =>
 (((decide (s9.2.1 < (len s9.2.2.1))) = true →
 ((inB s9.2.1 (List.length s9.2.2.1)) ∧
 (Mi_StepBoth ((gN s9.2.2.1 s9.2.1).b.s.h.l) ((gN s9.2.2.1 s9.2.1).b.s.h.r) ((gN s9.2.2.1 s9.2.1).b.s.h.ro) ((gN s9.2.2.1 s9.2.1).b.s.free) ((gN s9.2.2.1 s9.2.1).b.g.phase) ((gN s9.2.2.1 s9.2.1).b.g.color) ((gN s9.2.2.1 s9.2.1).b.g.pos) ((gN s9.2.2.1 s9.2.1).b.ops) ((gN s9.2.2.1 s9.2.1).b.pos) ((gN s9.2.2.1 s9.2.1).b.lost) fun (y10 : Int) (y11 : Int) (y12 : Int) (y13 : Bool) (y14 : Bool) (y15 : List Int) (y16 : List Int) (y17 : List Int) (y18 : List Int) (y19 : List Int) (y20 : List OpV) =>
 (Mi_comes_1 y15 y16 y17 y18 y10 y19 y11 y20 y12 y13 y14 [103] ((gN s9.2.2.1 s9.2.1).b.s.h.l) ((gN s9.2.2.1 s9.2.1).b.s.h.r) ((gN s9.2.2.1 s9.2.1).b.s.h.ro) ((gN s9.2.2.1 s9.2.1).b.s.free) ((gN s9.2.2.1 s9.2.1).b.g.phase) ((gN s9.2.2.1 s9.2.1).b.g.color) ((gN s9.2.2.1 s9.2.1).b.g.pos) ((gN s9.2.2.1 s9.2.1).b.ops) ((gN s9.2.2.1 s9.2.1).b.pos) ((gN s9.2.2.1 s9.2.1).b.lost) ((gN s9.2.2.1 s9.2.1).road) s9.2.2.2 s9.2.2.1 fun (y21 : List (List UInt8)) (y22 : List NodeV) =>
 (Mi_StepOp ((gN s9.2.2.1 s9.2.1).b.s.h.l) ((gN s9.2.2.1 s9.2.1).b.s.h.r) ((gN s9.2.2.1 s9.2.1).b.s.h.ro) ((gN s9.2.2.1 s9.2.1).b.s.free) ((gN s9.2.2.1 s9.2.1).b.g.phase) ((gN s9.2.2.1 s9.2.1).b.g.color) ((gN s9.2.2.1 s9.2.1).b.g.pos) ((gN s9.2.2.1 s9.2.1).b.ops) ((gN s9.2.2.1 s9.2.1).b.pos) ((gN s9.2.2.1 s9.2.1).b.lost) s9.1 fun (y23 : Int) (y24 : Int) (y25 : Int) (y26 : Bool) (y27 : Bool) (y28 : List Int) (y29 : List Int) (y30 : List Int) (y31 : List Int) (y32 : List Int) (y33 : List OpV) =>
 (Mi_comes_1 y28 y29 y30 y31 y23 y32 y24 y33 y25 y26 y27 [111] ((gN s9.2.2.1 s9.2.1).b.s.h.l) ((gN s9.2.2.1 s9.2.1).b.s.h.r) ((gN s9.2.2.1 s9.2.1).b.s.h.ro) ((gN s9.2.2.1 s9.2.1).b.s.free) ((gN s9.2.2.1 s9.2.1).b.g.phase) ((gN s9.2.2.1 s9.2.1).b.g.color) ((gN s9.2.2.1 s9.2.1).b.g.pos) ((gN s9.2.2.1 s9.2.1).b.ops) ((gN s9.2.2.1 s9.2.1).b.pos) ((gN s9.2.2.1 s9.2.1).b.lost) ((gN s9.2.2.1 s9.2.1).road) y21 y22 fun (y34 : List (List UInt8)) (y35 : List NodeV) =>
 (((decide ((len y35) > 400)) = true →
 (K false [])) ∧
 ((decide ((len y35) > 400)) = false →
 (Kb9 (s9.1, (iadd s9.2.1 1), y35, y34)))))))))) ∧
 ((decide (s9.2.1 < (len s9.2.2.1))) = false →
 (Kx9 (s9.1, s9.2.1, s9.2.2.1, s9.2.2.2)))))
 (p11, 0, [(NodeV.mk (BothV.mk (StoreV.mk (HeapV.mk y2 y3 y4) y5) (GcV.mk p5 y6 p7) y7 p9 p10) ([] : List UInt8))], (addKey [] y8)) fun s9 =>
 (K true s9.2.2.1)))))))
/-! spec.ColoredValid -/
def Ms_ColoredValid (p1 : List Int) (p2 : List Int) (p3 : List Int) (p4 : List Int) (K : Bool → Prop) : Prop :=
 (Ms_HeapValid p1 p2 p3 fun (y1 : Bool) =>
 (((!y1) = true →
 (K false)) ∧
 ((!y1) = false →
 ((((len p4) != (len p1)) = true →
 (K false)) ∧
 (((len p4) != (len p1)) = false →
 (LoopP (S := Int × List Int × List Int × List Int × List Int) (fun s2 Kb2 Kx2 =>
 (((decide (s2.1 < (len s2.2.2.2.2))) = true →
 ((inB s2.1 (List.length s2.2.2.2.2)) ∧
 (((decide ((gI s2.2.2.2.2 s2.1) < 0)) = true →
 (K false)) ∧
 ((decide ((gI s2.2.2.2.2 s2.1) < 0)) = false →
 ((inB s2.1 (List.length s2.2.2.2.2)) ∧
 (((decide ((gI s2.2.2.2.2 s2.1) > 2)) = true →
 (K false)) ∧
 ((decide ((gI s2.2.2.2.2 s2.1) > 2)) = false →
 (Kb2 ((iadd s2.1 1), s2.2.1, s2.2.2.1, s2.2.2.2.1, s2.2.2.2.2))))))))) ∧
 ((decide (s2.1 < (len s2.2.2.2.2))) = false →
 (Kx2 (s2.1, s2.2.1, s2.2.2.1, s2.2.2.2.1, s2.2.2.2.2)))))
 (0, p1, p2, p3, p4) fun s2 =>
 (K true)))))))
/-! spec.GcValid -/
def Ms_GcValid (p1 : List Int) (p2 : List Int) (p3 : List Int) (p4 : List Int) (p5 : Int) (p6 : List Int) (p7 : Int) (K : Bool → Prop) : Prop :=
 (Ms_StoreValid p1 p2 p3 p4 fun (y1 : Bool) =>
 (((!y1) = true →
 (K false)) ∧
 ((!y1) = false →
 (Ms_ColoredValid p1 p2 p3 p6 fun (y2 : Bool) =>
 (((!y2) = true →
 (K false)) ∧
 ((!y2) = false →
 (((decide (p7 < 0)) = true →
 (K false)) ∧
 ((decide (p7 < 0)) = false →
 (((p5 == 0) = true →
 (K (p7 == 0))) ∧
 ((p5 == 0) = false →
 (((p5 == 2) = true →
 (K (p7 == 0))) ∧
 ((p5 == 2) = false →
 (((p5 == 1) = true →
 (K (decide (p7 < (len p3))))) ∧
 ((p5 == 1) = false →
 (((p5 == 3) = true →
 (K (decide (p7 < (len p1))))) ∧
 ((p5 == 3) = false →
 (K false)))))))))))))))))
/-! spec.BothValid -/
def Ms_BothValid (p1 : List Int) (p2 : List Int) (p3 : List Int) (p4 : List Int) (p5 : Int) (p6 : List Int) (p7 : Int) (p8 : List OpV) (p9 : Int) (p10 : Bool) (K : Bool → Prop) : Prop :=
 (Ms_GcValid p1 p2 p3 p4 p5 p6 p7 fun (y1 : Bool) =>
 ((y1 = true →
 (Ms_l7Ops p8 (len p3) fun (y2 : Bool) =>
 ((y2 = true →
 (((decide (p9 ≥ 0)) = true →
 (K (decide (p9 ≤ (len p8))))) ∧
 ((decide (p9 ≥ 0)) = false →
 (K false)))) ∧
 (y2 = false →
 (K false))))) ∧
 (y1 = false →
 (K false))))
/-! spec.l6Copy -/
def Ms_l6Copy (p1 : Int) (p2 : List Int) (p3 : Int) (K : Prop) : Prop :=
 (((List.length p2 : Nat) ≤ 2 ^ 36) ∧
 K)
/-! spec.l7Copy -/
def Ms_l7Copy (p1 : List Int) (p2 : List Int) (p3 : List Int) (p4 : List Int) (p5 : Int) (p6 : List Int) (p7 : Int) (p8 : List OpV) (p9 : Int) (p10 : Bool) (K : Prop) : Prop :=
 (Ms_l4Copy p1 p2 p3 p4 <|
 (Ms_l6Copy p5 p6 p7 <|
 (((List.length p8 : Nat) ≤ 2 ^ 36) ∧
 K)))
/-! spec.TargetOf -/
def Ms_TargetOf (p1 : List Int) (p2 : List Int) (p3 : List Int) (p4 : List Int) (p5 : Int) (p6 : Int) (p7 : Int) (K : Int → Prop) : Prop :=
 (Ms_StoreValid p1 p2 p3 p4 fun (y1 : Bool) =>
 (((!y1) = true →
 (K (-1))) ∧
 ((!y1) = false →
 (Ms_OpValid p5 p6 p7 (len p3) fun (y2 : Bool) =>
 (((!y2) = true →
 (K (-1))) ∧
 ((!y2) = false →
 (((p5 != 5) = true →
 (((p5 != 6) = true →
 (K (-1))) ∧
 ((p5 != 6) = false →
 ((inB p6 (List.length p3)) ∧
 ((((gI p3 p6) == (-1)) = true →
 (K (-1))) ∧
 (((gI p3 p6) == (-1)) = false →
 ((inB p7 (List.length p3)) ∧
 (K (gI p3 p7))))))))) ∧
 ((p5 != 5) = false →
 ((inB p6 (List.length p3)) ∧
 ((((gI p3 p6) == (-1)) = true →
 (K (-1))) ∧
 (((gI p3 p6) == (-1)) = false →
 ((inB p7 (List.length p3)) ∧
 (K (gI p3 p7))))))))))))))
/-! spec.l1Cell -/
def Ms_l1Cell (p1 : List Int) (p2 : List Int) (p3 : List Int) (p4 : Int) (K : Bool → Prop) : Prop :=
 (Ms_HeapValid p1 p2 p3 fun (y1 : Bool) =>
 ((y1 = true →
 (((decide (p4 ≥ 0)) = true →
 (K (decide (p4 < (len p1))))) ∧
 ((decide (p4 ≥ 0)) = false →
 (K false)))) ∧
 (y1 = false →
 (K false))))
/-! spec.ColorNew -/
def Ms_ColorNew (p1 : List Int) (p2 : List Int) (p3 : List Int) (p4 : List Int) (p5 : Int) (p6 : List Int) (p7 : Int) (p8 : Int) (K : Int → Int → Bool → (List Int) → Prop) : Prop :=
 (Ms_GcValid p1 p2 p3 p4 p5 p6 p7 fun (y1 : Bool) =>
 (((!y1) = true →
 (K 0 0 false [])) ∧
 ((!y1) = false →
 (Ms_l1Cell p1 p2 p3 p8 fun (y2 : Bool) =>
 (((!y2) = true →
 (K 0 0 false [])) ∧
 ((!y2) = false →
 (Ms_l6Copy p5 p6 p7 <|
 ((inB p8 (List.length p6)) ∧
 (((p5 == 1) = true →
 ((inB p8 (List.length (uL p6 p8 0))) ∧
 (K p5 p7 true (uL (uL p6 p8 0) p8 2)))) ∧
 ((p5 == 1) = false →
 (((p5 == 2) = true →
 ((inB p8 (List.length (uL p6 p8 0))) ∧
 (K p5 p7 true (uL (uL p6 p8 0) p8 2)))) ∧
 ((p5 == 2) = false →
 (((p5 == 3) = true →
 (((decide (p8 ≥ p7)) = true →
 ((inB p8 (List.length (uL p6 p8 0))) ∧
 (K p5 p7 true (uL (uL p6 p8 0) p8 2)))) ∧
 ((decide (p8 ≥ p7)) = false →
 (K p5 p7 true (uL p6 p8 0))))) ∧
 ((p5 == 3) = false →
 (K p5 p7 true (uL p6 p8 0))))))))))))))))
/-! spec.l3Shade -/
def Ms_l3Shade (p1 : Int) (p2 : List Int) (K : (List Int) → Prop) : Prop :=
 (((p1 != (-1)) = true →
 ((inB p1 (List.length p2)) ∧
 ((((gI p2 p1) == 0) = true →
 ((inB p1 (List.length p2)) ∧
 (K (uL p2 p1 1)))) ∧
 (((gI p2 p1) == 0) = false →
 (K p2))))) ∧
 ((p1 != (-1)) = false →
 (K p2)))
/-! spec.ShadeGc -/
def Ms_ShadeGc (p1 : List Int) (p2 : List Int) (p3 : List Int) (p4 : List Int) (p5 : Int) (p6 : List Int) (p7 : Int) (p8 : Int) (K : Int → Int → Bool → (List Int) → Prop) : Prop :=
 (Ms_GcValid p1 p2 p3 p4 p5 p6 p7 fun (y1 : Bool) =>
 (((!y1) = true →
 (K 0 0 false [])) ∧
 ((!y1) = false →
 (Ms_l1Cell p1 p2 p3 p8 fun (y2 : Bool) =>
 (((!y2) = true →
 (K 0 0 false [])) ∧
 ((!y2) = false →
 (Ms_l6Copy p5 p6 p7 <|
 (((p5 == 1) = true →
 (Ms_l3Shade p8 p6 fun (y3 : List Int) =>
 (K p5 p7 true y3))) ∧
 ((p5 == 1) = false →
 (((p5 == 2) = true →
 (Ms_l3Shade p8 p6 fun (y4 : List Int) =>
 (K p5 p7 true y4))) ∧
 ((p5 == 2) = false →
 (K p5 p7 true p6))))))))))))
/-! spec.l7Op -/
def Ms_l7Op (p1 : List Int) (p2 : List Int) (p3 : List Int) (p4 : List Int) (p5 : Int) (p6 : List Int) (p7 : Int) (p8 : List OpV) (p9 : Int) (p10 : Bool) (p11 : Bool) (K : Int → Int → Int → (List Int) → (List Int) → (List Int) → (List Int) → (List Int) → Prop) : Prop :=
 (Ms_l7Copy p1 p2 p3 p4 p5 p6 p7 p8 p9 p10 <|
 ((inB p9 (List.length p8)) ∧
 (Ms_TargetOf p1 p2 p3 p4 ((gO p8 p9).kind) ((gO p8 p9).a) ((gO p8 p9).b) fun (y1 : Int) =>
 (Ms_RunOp p1 p2 p3 p4 ((gO p8 p9).kind) ((gO p8 p9).a) ((gO p8 p9).b) fun (y2 : Int) (y3 : Bool) (y4 : List Int) (y5 : List Int) (y6 : List Int) (y7 : List Int) =>
 (((y2 != 0) = true →
 (K p5 p7 (iadd p9 1) p1 p2 p3 p4 p6)) ∧
 ((y2 != 0) = false →
 (((((gO p8 p9).kind) == 1) = true →
 ((inB ((gO p8 p9).a) (List.length y6)) ∧
 (Ms_ColorNew y4 y5 y6 y7 p5 p6 p7 (gI y6 ((gO p8 p9).a)) fun (y8 : Int) (y9 : Int) (y10 : Bool) (y11 : List Int) =>
 ((p11 = true →
 (((y1 != (-1)) = true →
 (Ms_ShadeGc y4 y5 y6 y7 y8 y11 y9 y1 fun (y12 : Int) (y13 : Int) (y14 : Bool) (y15 : List Int) =>
 (K y12 y13 (iadd p9 1) y4 y5 y6 y7 y15))) ∧
 ((y1 != (-1)) = false →
 (K y8 y9 (iadd p9 1) y4 y5 y6 y7 y11)))) ∧
 (p11 = false →
 (K y8 y9 (iadd p9 1) y4 y5 y6 y7 y11)))))) ∧
 ((((gO p8 p9).kind) == 1) = false →
 ((p11 = true →
 (((y1 != (-1)) = true →
 (Ms_ShadeGc y4 y5 y6 y7 p5 p6 p7 y1 fun (y16 : Int) (y17 : Int) (y18 : Bool) (y19 : List Int) =>
 (K y16 y17 (iadd p9 1) y4 y5 y6 y7 y19))) ∧
 ((y1 != (-1)) = false →
 (K p5 p7 (iadd p9 1) y4 y5 y6 y7 p6)))) ∧
 (p11 = false →
 (K p5 p7 (iadd p9 1) y4 y5 y6 y7 p6)))))))))))
/-! spec.l6Swept -/
def Ms_l6Swept (p1 : List Int) (p2 : List Int) (p3 : List Int) (p4 : List Int) (p5 : Int) (p6 : List Int) (p7 : Int) (K : Int → Prop) : Prop :=
 (((p5 == 3) = true →
 ((inB p7 (List.length p6)) ∧
 ((((gI p6 p7) == 0) = true →
 (Ms_l4At p4 p7 fun (y1 : Int) =>
 (((decide (y1 < 0)) = true →
 (K p7)) ∧
 ((decide (y1 < 0)) = false →
 (K (-1)))))) ∧
 (((gI p6 p7) == 0) = false →
 (K (-1)))))) ∧
 ((p5 == 3) = false →
 (K (-1))))
/-! spec.l2Distances -/
def Ms_l2Distances (p1 : List Int) (p2 : List Int) (p3 : List Int) (p4 : List Int) (K : (List Int) → Prop) : Prop :=
 (Ms_l1Many (len p1) fun (y1 : List Int) =>
 (LoopP (S := List Int × Int × List Int × List Int × List Int × List Int × List Int) (fun s2 Kb2 Kx2 =>
 (((decide (s2.2.1 < (len s2.1))) = true →
 ((inB s2.2.1 (List.length s2.1)) ∧
 ((((gI s2.1 s2.2.1) != (-1)) = true →
 ((inB s2.2.1 (List.length s2.1)) ∧
 ((inB (gI s2.1 s2.2.1) (List.length s2.2.2.2.2.2.1)) ∧
 (((decide ((gI s2.2.2.2.2.2.1 (gI s2.1 s2.2.1)) < 0)) = true →
 ((inB s2.2.1 (List.length s2.1)) ∧
 ((inB (gI s2.1 s2.2.1) (List.length s2.2.2.2.2.2.1)) ∧
 ((inB s2.2.1 (List.length s2.1)) ∧
 ((List.length s2.2.2.2.2.2.2 + List.length ([(gI s2.1 s2.2.1)] : List Int) ≤ 2 ^ 36) ∧
 (Kb2 (s2.1, (iadd s2.2.1 1), s2.2.2.1, s2.2.2.2.1, s2.2.2.2.2.1, (uL s2.2.2.2.2.2.1 (gI s2.1 s2.2.1) 1), (s2.2.2.2.2.2.2 ++ [(gI s2.1 s2.2.1)])))))))) ∧
 ((decide ((gI s2.2.2.2.2.2.1 (gI s2.1 s2.2.1)) < 0)) = false →
 (Kb2 (s2.1, (iadd s2.2.1 1), s2.2.2.1, s2.2.2.2.1, s2.2.2.2.2.1, s2.2.2.2.2.2.1, s2.2.2.2.2.2.2))))))) ∧
 (((gI s2.1 s2.2.1) != (-1)) = false →
 (Kb2 (s2.1, (iadd s2.2.1 1), s2.2.2.1, s2.2.2.2.1, s2.2.2.2.2.1, s2.2.2.2.2.2.1, s2.2.2.2.2.2.2)))))) ∧
 ((decide (s2.2.1 < (len s2.1))) = false →
 (Kx2 (s2.1, s2.2.1, s2.2.2.1, s2.2.2.2.1, s2.2.2.2.2.1, s2.2.2.2.2.2.1, s2.2.2.2.2.2.2)))))
 (p4, 0, p1, p2, p3, y1, []) fun s2 =>
 (LoopP (S := Int × List Int × List Int × List Int × List Int × List Int) (fun s3 Kb3 Kx3 =>
 (((decide (s3.1 < (len s3.2.2.2.2.2))) = true →
 ((inB s3.1 (List.length s3.2.2.2.2.2)) ∧
 ((inB (gI s3.2.2.2.2.2 s3.1) (List.length s3.2.1)) ∧
 ((inB (gI s3.2.2.2.2.2 s3.1) (List.length s3.2.2.1)) ∧
 (LoopP (S := Int × Int × Int × List Int × List Int × List Int × List Int × List Int × List Int) (fun s4 Kb4 Kx4 =>
 (((decide (s4.2.2.1 < 2)) = true →
 (let j7 : Prop :=
 (Kb4 (s4.1, s4.2.1, (iadd s4.2.2.1 1), s4.2.2.2.1, s4.2.2.2.2.1, s4.2.2.2.2.2.1, s4.2.2.2.2.2.2.1, s4.2.2.2.2.2.2.2.1, s4.2.2.2.2.2.2.2.2));
 ((inB s4.2.2.1 (List.length s4.2.2.2.2.2.2.2.2)) ∧
 ((((gI s4.2.2.2.2.2.2.2.2 s4.2.2.1) != (-1)) = true →
 ((inB s4.2.2.1 (List.length s4.2.2.2.2.2.2.2.2)) ∧
 ((inB (gI s4.2.2.2.2.2.2.2.2 s4.2.2.1) (List.length s4.2.2.2.2.2.2.1)) ∧
 (let v5 : Bool := (decide ((gI s4.2.2.2.2.2.2.1 (gI s4.2.2.2.2.2.2.2.2 s4.2.2.1)) < 0));
 ((v5 = true →
 ((inB s4.2.2.1 (List.length s4.2.2.2.2.2.2.2.2)) ∧
 ((inB s4.2.1 (List.length s4.2.2.2.2.2.2.1)) ∧
 ((inB (gI s4.2.2.2.2.2.2.2.2 s4.2.2.1) (List.length s4.2.2.2.2.2.2.1)) ∧
 (let v6 : List Int := (uL s4.2.2.2.2.2.2.1 (gI s4.2.2.2.2.2.2.2.2 s4.2.2.1) (iadd (gI s4.2.2.2.2.2.2.1 s4.2.1) 1));
 ((inB s4.2.2.1 (List.length s4.2.2.2.2.2.2.2.2)) ∧
 ((List.length s4.2.2.2.2.2.2.2.1 + List.length ([(gI s4.2.2.2.2.2.2.2.2 s4.2.2.1)] : List Int) ≤ 2 ^ 36) ∧
 (Kb4 (s4.1, s4.2.1, (iadd s4.2.2.1 1), s4.2.2.2.1, s4.2.2.2.2.1, s4.2.2.2.2.2.1, v6, (s4.2.2.2.2.2.2.2.1 ++ [(gI s4.2.2.2.2.2.2.2.2 s4.2.2.1)]), s4.2.2.2.2.2.2.2.2))))))))) ∧
 (v5 = false →
 j7)))))) ∧
 (((gI s4.2.2.2.2.2.2.2.2 s4.2.2.1) != (-1)) = false →
 j7))))) ∧
 ((decide (s4.2.2.1 < 2)) = false →
 (Kx4 (s4.1, s4.2.1, s4.2.2.1, s4.2.2.2.1, s4.2.2.2.2.1, s4.2.2.2.2.2.1, s4.2.2.2.2.2.2.1, s4.2.2.2.2.2.2.2.1, s4.2.2.2.2.2.2.2.2)))))
 (s3.1, (gI s3.2.2.2.2.2 s3.1), 0, s3.2.1, s3.2.2.1, s3.2.2.2.1, s3.2.2.2.2.1, s3.2.2.2.2.2, [(gI s3.2.1 (gI s3.2.2.2.2.2 s3.1)), (gI s3.2.2.1 (gI s3.2.2.2.2.2 s3.1))]) fun s4 =>
 (Kb3 ((iadd s4.1 1), s4.2.2.2.1, s4.2.2.2.2.1, s4.2.2.2.2.2.1, s4.2.2.2.2.2.2.1, s4.2.2.2.2.2.2.2.1))))))) ∧
 ((decide (s3.1 < (len s3.2.2.2.2.2))) = false →
 (Kx3 (s3.1, s3.2.1, s3.2.2.1, s3.2.2.2.1, s3.2.2.2.2.1, s3.2.2.2.2.2)))))
 (0, s2.2.2.1, s2.2.2.2.1, s2.2.2.2.2.1, s2.2.2.2.2.2.1, s2.2.2.2.2.2.2) fun s3 =>
 (K s3.2.2.2.2.1))))
/-! spec.Reachable -/
def Ms_Reachable (p1 : List Int) (p2 : List Int) (p3 : List Int) (K : (List Bool) → Prop) : Prop :=
 (Ms_HeapValid p1 p2 p3 fun (y1 : Bool) =>
 (((!y1) = true →
 (K [])) ∧
 ((!y1) = false →
 (Ms_l2Distances p1 p2 p3 p3 fun (y2 : List Int) =>
 (LoopP (S := Int × List Bool × List Int) (fun s3 Kb3 Kx3 =>
 (((decide (s3.1 < (len s3.2.2))) = true →
 ((inB s3.1 (List.length s3.2.2)) ∧
 ((List.length s3.2.1 + List.length ([(decide ((gI s3.2.2 s3.1) > 0))] : List Bool) ≤ 2 ^ 36) ∧
 (Kb3 ((iadd s3.1 1), (s3.2.1 ++ [(decide ((gI s3.2.2 s3.1) > 0))]), s3.2.2))))) ∧
 ((decide (s3.1 < (len s3.2.2))) = false →
 (Kx3 (s3.1, s3.2.1, s3.2.2)))))
 (0, [], y2) fun s3 =>
 (K s3.2.1))))))
/-! spec.l7Live -/
def Ms_l7Live (p1 : List Int) (p2 : List Int) (p3 : List Int) (p4 : List Int) (p5 : Int) (K : Bool → Prop) : Prop :=
 (((p5 == (-1)) = true →
 (K false)) ∧
 ((p5 == (-1)) = false →
 (Ms_Reachable p1 p2 p3 fun (y1 : List Bool) =>
 ((inB p5 (List.length y1)) ∧
 (K (gB y1 p5))))))
/-! spec.l6Next -/
def Ms_l6Next (p1 : Int) (p2 : Int) (p3 : Int) (p4 : Int) (p5 : List Int) (K : Int → Int → Prop) : Prop :=
 ((((iadd p2 1) == p3) = true →
 (K p4 0)) ∧
 (((iadd p2 1) == p3) = false →
 (K p1 (iadd p2 1))))
/-! spec.l3First -/
def Ms_l3First (p1 : List Int) (p2 : List Int) (p3 : List Int) (p4 : List Int) (p5 : Int) (K : Int → Prop) : Prop :=
 (LoopP (S := Int × Int × List Int × List Int × List Int × List Int) (fun s1 Kb1 Kx1 =>
 (((decide (s1.2.1 < (len s1.2.2.2.2.2))) = true →
 ((inB s1.2.1 (List.length s1.2.2.2.2.2)) ∧
 ((((gI s1.2.2.2.2.2 s1.2.1) == s1.1) = true →
 (K s1.2.1)) ∧
 (((gI s1.2.2.2.2.2 s1.2.1) == s1.1) = false →
 (Kb1 (s1.1, (iadd s1.2.1 1), s1.2.2.1, s1.2.2.2.1, s1.2.2.2.2.1, s1.2.2.2.2.2)))))) ∧
 ((decide (s1.2.1 < (len s1.2.2.2.2.2))) = false →
 (Kx1 (s1.1, s1.2.1, s1.2.2.1, s1.2.2.2.1, s1.2.2.2.2.1, s1.2.2.2.2.2)))))
 (p5, 0, p1, p2, p3, p4) fun s1 =>
 (K (-1)))
/-! spec.l3Black -/
def Ms_l3Black (p1 : List Int) (p2 : List Int) (p3 : List Int) (p4 : Int) (p5 : List Int) (K : (List Int) → Prop) : Prop :=
 ((inB p4 (List.length p1)) ∧
 (Ms_l3Shade (gI p1 p4) p5 fun (y1 : List Int) =>
 ((inB p4 (List.length p2)) ∧
 (Ms_l3Shade (gI p2 p4) y1 fun (y2 : List Int) =>
 ((inB p4 (List.length y2)) ∧
 (K (uL y2 p4 2)))))))
/-! spec.l6Root -/
def Ms_l6Root (p1 : List Int) (p2 : List Int) (p3 : List Int) (p4 : List Int) (p5 : Int) (p6 : List Int) (p7 : Int) (K : Int → Prop) : Prop :=
 (LoopP (S := Int × List Int × List Int × List Int × List Int × Int × List Int × Int) (fun s1 Kb1 Kx1 =>
 (((decide (s1.1 < (len s1.2.2.2.1))) = true →
 ((inB s1.1 (List.length s1.2.2.2.1)) ∧
 ((((gI s1.2.2.2.1 s1.1) != (-1)) = true →
 ((inB (gI s1.2.2.2.1 s1.1) (List.length s1.2.2.2.2.2.2.1)) ∧
 ((((gI s1.2.2.2.2.2.2.1 (gI s1.2.2.2.1 s1.1)) == 0) = true →
 (K s1.1)) ∧
 (((gI s1.2.2.2.2.2.2.1 (gI s1.2.2.2.1 s1.1)) == 0) = false →
 (Kb1 ((iadd s1.1 1), s1.2.1, s1.2.2.1, s1.2.2.2.1, s1.2.2.2.2.1, s1.2.2.2.2.2.1, s1.2.2.2.2.2.2.1, s1.2.2.2.2.2.2.2)))))) ∧
 (((gI s1.2.2.2.1 s1.1) != (-1)) = false →
 (Kb1 ((iadd s1.1 1), s1.2.1, s1.2.2.1, s1.2.2.2.1, s1.2.2.2.2.1, s1.2.2.2.2.2.1, s1.2.2.2.2.2.2.1, s1.2.2.2.2.2.2.2)))))) ∧
 ((decide (s1.1 < (len s1.2.2.2.1))) = false →
 (Kx1 (s1.1, s1.2.1, s1.2.2.1, s1.2.2.2.1, s1.2.2.2.2.1, s1.2.2.2.2.2.1, s1.2.2.2.2.2.2.1, s1.2.2.2.2.2.2.2)))))
 (0, p1, p2, p3, p4, p5, p6, p7) fun s1 =>
 (K (-1)))
/-! spec.l6Mark -/
def Ms_l6Mark (p1 : List Int) (p2 : List Int) (p3 : List Int) (p4 : List Int) (p5 : Int) (p6 : Int) (p7 : List Int) (K : Int → (List Int) → Prop) : Prop :=
 (Ms_l3First p1 p2 p3 p7 1 fun (y1 : Int) =>
 (((decide (y1 ≥ 0)) = true →
 (Ms_l3Black p1 p2 p3 y1 p7 fun (y2 : List Int) =>
 (K p5 y2))) ∧
 ((decide (y1 ≥ 0)) = false →
 (Ms_l6Root p1 p2 p3 p4 p5 p7 p6 fun (y3 : Int) =>
 (((decide (y3 ≥ 0)) = true →
 ((inB y3 (List.length p3)) ∧
 (Ms_l3Shade (gI p3 y3) p7 fun (y4 : List Int) =>
 (K p5 y4)))) ∧
 ((decide (y3 ≥ 0)) = false →
 (K 3 p7)))))))
/-! spec.l4Clear -/
def Ms_l4Clear (p1 : List Int) (p2 : List Int) (p3 : List Int) (p4 : List Int) (p5 : List Int) (K : (List Int) → (List Int) → (List Int) → (List Int) → Prop) : Prop :=
 (Ms_l4Copy p1 p2 p3 p4 <|
 (LoopP (S := List Int × Int × List Int × List Int × List Int × List Int × List Int × List Int × List Int × List Int) (fun s1 Kb1 Kx1 =>
 (((decide (s1.2.1 < (len s1.2.2.2.2.2.2.1))) = true →
 (let j14 := fun (z12 : List Int) (z13 : List Int) =>
 (Kb1 (s1.1, (iadd s1.2.1 1), s1.2.2.1, s1.2.2.2.1, s1.2.2.2.2.1, s1.2.2.2.2.2.1, z12, z13, s1.2.2.2.2.2.2.2.2.1, s1.2.2.2.2.2.2.2.2.2));
 (let j8 := fun (z5 : List Int) =>
 ((inB s1.2.1 (List.length s1.2.2.2.2.2.2.2.1)) ∧
 (Ms_l4At s1.1 (gI s1.2.2.2.2.2.2.2.1 s1.2.1) fun (y6 : Int) =>
 (((decide (y6 ≥ 0)) = true →
 ((inB s1.2.1 (List.length s1.2.2.2.2.2.2.2.1)) ∧
 (j14 z5 (uL s1.2.2.2.2.2.2.2.1 s1.2.1 (-1))))) ∧
 ((decide (y6 ≥ 0)) = false →
 (Ms_l4At s1.1 s1.2.1 fun (y7 : Int) =>
 (((decide (y7 ≥ 0)) = true →
 ((inB s1.2.1 (List.length s1.2.2.2.2.2.2.2.1)) ∧
 (j14 z5 (uL s1.2.2.2.2.2.2.2.1 s1.2.1 (-1))))) ∧
 ((decide (y7 ≥ 0)) = false →
 (j14 z5 s1.2.2.2.2.2.2.2.1))))))));
 ((inB s1.2.1 (List.length s1.2.2.2.2.2.2.1)) ∧
 (Ms_l4At s1.1 (gI s1.2.2.2.2.2.2.1 s1.2.1) fun (y2 : Int) =>
 (((decide (y2 ≥ 0)) = true →
 ((inB s1.2.1 (List.length s1.2.2.2.2.2.2.1)) ∧
 (j8 (uL s1.2.2.2.2.2.2.1 s1.2.1 (-1))))) ∧
 ((decide (y2 ≥ 0)) = false →
 (Ms_l4At s1.1 s1.2.1 fun (y3 : Int) =>
 (((decide (y3 ≥ 0)) = true →
 ((inB s1.2.1 (List.length s1.2.2.2.2.2.2.1)) ∧
 (j8 (uL s1.2.2.2.2.2.2.1 s1.2.1 (-1))))) ∧
 ((decide (y3 ≥ 0)) = false →
 (j8 s1.2.2.2.2.2.2.1))))))))))) ∧
 ((decide (s1.2.1 < (len s1.2.2.2.2.2.2.1))) = false →
 (Kx1 (s1.1, s1.2.1, s1.2.2.1, s1.2.2.2.1, s1.2.2.2.2.1, s1.2.2.2.2.2.1, s1.2.2.2.2.2.2.1, s1.2.2.2.2.2.2.2.1, s1.2.2.2.2.2.2.2.2.1, s1.2.2.2.2.2.2.2.2.2)))))
 (p5, 0, [], [], [], [], p1, p2, p3, p4) fun s1 =>
 ((List.length s1.2.2.2.2.2.2.2.2.2 + List.length s1.1 ≤ 2 ^ 36) ∧
 (K s1.2.2.2.2.2.2.1 s1.2.2.2.2.2.2.2.1 s1.2.2.2.2.2.2.2.2.1 (s1.2.2.2.2.2.2.2.2.2 ++ s1.1)))))
/-! spec.l6Step -/
def Ms_l6Step (p1 : List Int) (p2 : List Int) (p3 : List Int) (p4 : List Int) (p5 : Int) (p6 : List Int) (p7 : Int) (K : Int → Int → (List Int) → (List Int) → (List Int) → (List Int) → (List Int) → Prop) : Prop :=
 (Ms_l6Copy p5 p6 p7 <|
 (((p5 == 0) = true →
 (Ms_l4Copy p1 p2 p3 p4 <|
 ((0 ≤ (len p6) ∧ (len p6) = (len p6) ∧ (len p6) ≤ 2 ^ 36) ∧
 (K 1 0 p1 p2 p3 p4 (List.replicate (Int.toNat (len p6)) (0 : Int)))))) ∧
 ((p5 == 0) = false →
 (((p5 == 1) = true →
 ((inB p7 (List.length p3)) ∧
 (Ms_l3Shade (gI p3 p7) p6 fun (y1 : List Int) =>
 (Ms_l4Copy p1 p2 p3 p4 <|
 (Ms_l6Next p5 p7 (len p3) 2 y1 fun (y2 : Int) (y3 : Int) =>
 (K y2 y3 p1 p2 p3 p4 y1)))))) ∧
 ((p5 == 1) = false →
 (((p5 == 2) = true →
 (Ms_l4Copy p1 p2 p3 p4 <|
 (Ms_l6Mark p1 p2 p3 p4 p5 p7 p6 fun (y4 : Int) (y5 : List Int) =>
 (K y4 p7 p1 p2 p3 p4 y5)))) ∧
 ((p5 == 2) = false →
 (Ms_l6Swept p1 p2 p3 p4 p5 p6 p7 fun (y6 : Int) =>
 (Ms_l4Copy p1 p2 p3 p4 <|
 (((y6 != (-1)) = true →
 (Ms_l4Clear p1 p2 p3 p4 [y6] fun (y7 : List Int) (y8 : List Int) (y9 : List Int) (y10 : List Int) =>
 ((inB p7 (List.length p6)) ∧
 (Ms_l6Next p5 p7 (len p6) 0 (uL p6 p7 0) fun (y11 : Int) (y12 : Int) =>
 (K y11 y12 y7 y8 y9 y10 (uL p6 p7 0)))))) ∧
 ((y6 != (-1)) = false →
 ((inB p7 (List.length p6)) ∧
 (Ms_l6Next p5 p7 (len p6) 0 (uL p6 p7 0) fun (y13 : Int) (y14 : Int) =>
 (K y13 y14 p1 p2 p3 p4 (uL p6 p7 0)))))))))))))))
/-! spec.l7Gc -/
def Ms_l7Gc (p1 : List Int) (p2 : List Int) (p3 : List Int) (p4 : List Int) (p5 : Int) (p6 : List Int) (p7 : Int) (p8 : List OpV) (p9 : Int) (p10 : Bool) (K : Int → Int → Bool → (List Int) → (List Int) → (List Int) → (List Int) → (List Int) → Prop) : Prop :=
 (Ms_l7Copy p1 p2 p3 p4 p5 p6 p7 p8 p9 p10 <|
 (Ms_l6Swept p1 p2 p3 p4 p5 p6 p7 fun (y1 : Int) =>
 (Ms_l7Live p1 p2 p3 p4 y1 fun (y2 : Bool) =>
 ((y2 = true →
 (K p5 p7 true p1 p2 p3 p4 p6)) ∧
 (y2 = false →
 (Ms_l6Step p1 p2 p3 p4 p5 p6 p7 fun (y3 : Int) (y4 : Int) (y5 : List Int) (y6 : List Int) (y7 : List Int) (y8 : List Int) (y9 : List Int) =>
 (K y3 y4 p10 y5 y6 y7 y8 y9)))))))
/-! spec.l8Next -/
def Ms_l8Next (p1 : List Int) (p2 : List Int) (p3 : List Int) (p4 : List Int) (p5 : Int) (p6 : List Int) (p7 : Int) (p8 : List OpV) (p9 : Int) (p10 : Bool) (p11 : Int) (p12 : Bool) (K : Int → Int → Int → Bool → Bool → (List Int) → (List Int) → (List Int) → (List Int) → (List Int) → (List OpV) → Prop) : Prop :=
 (let j17 : Prop :=
 (((p11 == 111) = true →
 (Ms_l7Op p1 p2 p3 p4 p5 p6 p7 p8 p9 p10 p12 fun (y1 : Int) (y2 : Int) (y3 : Int) (y4 : List Int) (y5 : List Int) (y6 : List Int) (y7 : List Int) (y8 : List Int) =>
 (K y1 y2 y3 p10 true y4 y5 y6 y7 y8 p8))) ∧
 ((p11 == 111) = false →
 (Ms_l7Gc p1 p2 p3 p4 p5 p6 p7 p8 p9 p10 fun (y9 : Int) (y10 : Int) (y11 : Bool) (y12 : List Int) (y13 : List Int) (y14 : List Int) (y15 : List Int) (y16 : List Int) =>
 (K y9 y10 p9 y11 true y12 y13 y14 y15 y16 p8))));
 ((p10 = true →
 (K 0 0 0 false false [] [] [] [] [] [])) ∧
 (p10 = false →
 (((p11 == 111) = true →
 (((p9 == (len p8)) = true →
 (K 0 0 0 false false [] [] [] [] [] [])) ∧
 ((p9 == (len p8)) = false →
 j17))) ∧
 ((p11 == 111) = false →
 j17)))))
/-! spec.l1Ints -/
def Ms_l1Ints (p1 : List Int) (p2 : List Int) (K : Bool → Prop) : Prop :=
 ((((len p1) != (len p2)) = true →
 (K false)) ∧
 (((len p1) != (len p2)) = false →
 (LoopP (S := List Int × List Int × Int) (fun s1 Kb1 Kx1 =>
 (((decide (s1.2.2 < (len s1.1))) = true →
 ((inB s1.2.2 (List.length s1.1)) ∧
 ((inB s1.2.2 (List.length s1.2.1)) ∧
 ((((gI s1.1 s1.2.2) != (gI s1.2.1 s1.2.2)) = true →
 (K false)) ∧
 (((gI s1.1 s1.2.2) != (gI s1.2.1 s1.2.2)) = false →
 (Kb1 (s1.1, s1.2.1, (iadd s1.2.2 1)))))))) ∧
 ((decide (s1.2.2 < (len s1.1))) = false →
 (Kx1 (s1.1, s1.2.1, s1.2.2)))))
 (p1, p2, 0) fun s1 =>
 (K true))))
/-! spec.GcSame -/
def Ms_GcSame (p1 : Int) (p2 : List Int) (p3 : Int) (p4 : Int) (p5 : List Int) (p6 : Int) (K : Bool → Prop) : Prop :=
 (((p1 == p4) = true →
 (((p3 == p6) = true →
 (Ms_l1Ints p2 p5 fun (y1 : Bool) =>
 (K y1))) ∧
 ((p3 == p6) = false →
 (K false)))) ∧
 ((p1 == p4) = false →
 (K false)))
/-! spec.HeapSame -/
def Ms_HeapSame (p1 : List Int) (p2 : List Int) (p3 : List Int) (p4 : List Int) (p5 : List Int) (p6 : List Int) (K : Bool → Prop) : Prop :=
 (Ms_l1Ints p1 p4 fun (y1 : Bool) =>
 ((y1 = true →
 (Ms_l1Ints p2 p5 fun (y2 : Bool) =>
 ((y2 = true →
 (Ms_l1Ints p3 p6 fun (y3 : Bool) =>
 (K y3))) ∧
 (y2 = false →
 (K false))))) ∧
 (y1 = false →
 (K false))))
/-! spec.StoreSame -/
def Ms_StoreSame (p1 : List Int) (p2 : List Int) (p3 : List Int) (p4 : List Int) (p5 : List Int) (p6 : List Int) (p7 : List Int) (p8 : List Int) (K : Bool → Prop) : Prop :=
 (Ms_HeapSame p1 p2 p3 p5 p6 p7 fun (y1 : Bool) =>
 ((y1 = true →
 (Ms_l1Ints p4 p8 fun (y2 : Bool) =>
 (K y2))) ∧
 (y1 = false →
 (K false))))
/-! spec.l8Find -/
def Ms_l8Find (p1 : List NodeV) (p2 : List Int) (p3 : List Int) (p4 : List Int) (p5 : List Int) (p6 : Int) (p7 : List Int) (p8 : Int) (p9 : List OpV) (p10 : Int) (p11 : Bool) (K : Int → Prop) : Prop :=
 (LoopP (S := List NodeV × Int × List Int × List Int × List Int × List Int × Int × List Int × Int × List OpV × Int × Bool) (fun s1 Kb1 Kx1 =>
 (((decide (s1.2.1 < (len s1.1))) = true →
 (let j4 : Prop :=
 (Kb1 (s1.1, (iadd s1.2.1 1), s1.2.2.1, s1.2.2.2.1, s1.2.2.2.2.1, s1.2.2.2.2.2.1, s1.2.2.2.2.2.2.1, s1.2.2.2.2.2.2.2.1, s1.2.2.2.2.2.2.2.2.1, s1.2.2.2.2.2.2.2.2.2.1, s1.2.2.2.2.2.2.2.2.2.2.1, s1.2.2.2.2.2.2.2.2.2.2.2));
 ((inB s1.2.1 (List.length s1.1)) ∧
 (((((gN s1.1 s1.2.1).b.pos) == s1.2.2.2.2.2.2.2.2.2.2.1) = true →
 (((((gN s1.1 s1.2.1).b.lost) == s1.2.2.2.2.2.2.2.2.2.2.2) = true →
 (Ms_GcSame ((gN s1.1 s1.2.1).b.g.phase) ((gN s1.1 s1.2.1).b.g.color) ((gN s1.1 s1.2.1).b.g.pos) s1.2.2.2.2.2.2.1 s1.2.2.2.2.2.2.2.1 s1.2.2.2.2.2.2.2.2.1 fun (y2 : Bool) =>
 ((y2 = true →
 (Ms_StoreSame ((gN s1.1 s1.2.1).b.s.h.l) ((gN s1.1 s1.2.1).b.s.h.r) ((gN s1.1 s1.2.1).b.s.h.ro) ((gN s1.1 s1.2.1).b.s.free) s1.2.2.1 s1.2.2.2.1 s1.2.2.2.2.1 s1.2.2.2.2.2.1 fun (y3 : Bool) =>
 ((y3 = true →
 (K s1.2.1)) ∧
 (y3 = false →
 j4)))) ∧
 (y2 = false →
 j4)))) ∧
 ((((gN s1.1 s1.2.1).b.lost) == s1.2.2.2.2.2.2.2.2.2.2.2) = false →
 j4))) ∧
 ((((gN s1.1 s1.2.1).b.pos) == s1.2.2.2.2.2.2.2.2.2.2.1) = false →
 j4))))) ∧
 ((decide (s1.2.1 < (len s1.1))) = false →
 (Kx1 (s1.1, s1.2.1, s1.2.2.1, s1.2.2.2.1, s1.2.2.2.2.1, s1.2.2.2.2.2.1, s1.2.2.2.2.2.2.1, s1.2.2.2.2.2.2.2.1, s1.2.2.2.2.2.2.2.2.1, s1.2.2.2.2.2.2.2.2.2.1, s1.2.2.2.2.2.2.2.2.2.2.1, s1.2.2.2.2.2.2.2.2.2.2.2)))))
 (p1, 0, p2, p3, p4, p5, p6, p7, p8, p9, p10, p11) fun s1 =>
 (K (-1)))
/-! spec.l8All -/
def Ms_l8All (p1 : List Int) (p2 : List Int) (p3 : List Int) (p4 : List Int) (p5 : Int) (p6 : List Int) (p7 : Int) (p8 : List OpV) (p9 : Int) (p10 : Bool) (p11 : Bool) (K : Bool → (List NodeV) → Prop) : Prop :=
 (Ms_BothValid p1 p2 p3 p4 p5 p6 p7 p8 p9 p10 fun (y1 : Bool) =>
 (((!y1) = true →
 (K false [])) ∧
 ((!y1) = false →
 (Ms_l7Copy p1 p2 p3 p4 p5 p6 p7 p8 p9 p10 <|
 (LoopP (S := Bool × Int × List NodeV × List Int) (fun s2 Kb2 Kx2 =>
 (((decide (s2.2.1 < (len s2.2.2.1))) = true →
 (LoopP (S := Bool × Int × Int × List NodeV × List Int) (fun s3 Kb3 Kx3 =>
 (((decide (s3.2.2.1 < 2)) = true →
 ((inB s3.2.1 (List.length s3.2.2.2.1)) ∧
 ((inB s3.2.2.1 (List.length s3.2.2.2.2)) ∧
 (Ms_l8Next ((gN s3.2.2.2.1 s3.2.1).b.s.h.l) ((gN s3.2.2.2.1 s3.2.1).b.s.h.r) ((gN s3.2.2.2.1 s3.2.1).b.s.h.ro) ((gN s3.2.2.2.1 s3.2.1).b.s.free) ((gN s3.2.2.2.1 s3.2.1).b.g.phase) ((gN s3.2.2.2.1 s3.2.1).b.g.color) ((gN s3.2.2.2.1 s3.2.1).b.g.pos) ((gN s3.2.2.2.1 s3.2.1).b.ops) ((gN s3.2.2.2.1 s3.2.1).b.pos) ((gN s3.2.2.2.1 s3.2.1).b.lost) (gY s3.2.2.2.2 s3.2.2.1) s3.1 fun (y4 : Int) (y5 : Int) (y6 : Int) (y7 : Bool) (y8 : Bool) (y9 : List Int) (y10 : List Int) (y11 : List Int) (y12 : List Int) (y13 : List Int) (y14 : List OpV) =>
 (((!y8) = true →
 (Kb3 (s3.1, s3.2.1, (iadd s3.2.2.1 1), s3.2.2.2.1, s3.2.2.2.2))) ∧
 ((!y8) = false →
 (Ms_l8Find s3.2.2.2.1 y9 y10 y11 y12 y4 y13 y5 y14 y6 y7 fun (y15 : Int) =>
 (((decide (y15 ≥ 0)) = true →
 (Kb3 (s3.1, s3.2.1, (iadd s3.2.2.1 1), s3.2.2.2.1, s3.2.2.2.2))) ∧
 ((decide (y15 ≥ 0)) = false →
 ((((len s3.2.2.2.1) == 400) = true →
 (K false [])) ∧
 (((len s3.2.2.2.1) == 400) = false →
 ((inB s3.2.1 (List.length s3.2.2.2.1)) ∧
 ((inB s3.2.2.1 (List.length s3.2.2.2.2)) ∧
 ((0 < List.length [(gY s3.2.2.2.2 s3.2.2.1)]) ∧
 ((List.length ((gN s3.2.2.2.1 s3.2.1).road) + List.length (bytesOf [(gY s3.2.2.2.2 s3.2.2.1)]) ≤ 2 ^ 62) ∧
 (let v16 : List UInt8 := (((gN s3.2.2.2.1 s3.2.1).road) ++ (bytesOf [(gY s3.2.2.2.2 s3.2.2.1)]));
 ((List.length s3.2.2.2.1 + List.length ([(NodeV.mk (BothV.mk (StoreV.mk (HeapV.mk y9 y10 y11) y12) (GcV.mk y4 y13 y5) y14 y6 y7) v16)] : List NodeV) ≤ 2 ^ 36) ∧
 (let v17 : List NodeV := (s3.2.2.2.1 ++ [(NodeV.mk (BothV.mk (StoreV.mk (HeapV.mk y9 y10 y11) y12) (GcV.mk y4 y13 y5) y14 y6 y7) v16)]);
 (Kb3 (s3.1, s3.2.1, (iadd s3.2.2.1 1), v17, s3.2.2.2.2)))))))))))))))))))) ∧
 ((decide (s3.2.2.1 < 2)) = false →
 (Kx3 (s3.1, s3.2.1, s3.2.2.1, s3.2.2.2.1, s3.2.2.2.2)))))
 (s2.1, s2.2.1, 0, s2.2.2.1, s2.2.2.2) fun s3 =>
 (Kb2 (s3.1, (iadd s3.2.1 1), s3.2.2.2.1, s3.2.2.2.2)))) ∧
 ((decide (s2.2.1 < (len s2.2.2.1))) = false →
 (Kx2 (s2.1, s2.2.1, s2.2.2.1, s2.2.2.2)))))
 (p11, 0, [(NodeV.mk (BothV.mk (StoreV.mk (HeapV.mk p1 p2 p3) p4) (GcV.mk p5 p6 p7) p8 p9 p10) ([] : List UInt8))], [103, 111]) fun s2 =>
 (K true s2.2.2.1))))))
/-! spec.DrawEndStores -/
def Ms_DrawEndStores (p1 : List Int) (K : Int → Int → Int → Bool → Bool → (List Int) → (List Int) → (List Int) → (List Int) → (List Int) → (List OpV) → Prop) : Prop :=
 (Ms_l8Case p1 fun (y1 : Int) (y2 : Int) (y3 : Int) (y4 : Bool) (y5 : Bool) (y6 : List Int) (y7 : List Int) (y8 : List Int) (y9 : List Int) (y10 : List Int) (y11 : List OpV) =>
 (K y1 y2 y3 y4 y5 y6 y7 y8 y9 y10 y11))
def M_Sort_string (p1 : List (List UInt8)) (K : List (List UInt8) → Prop) : Prop :=
 p1.length < 4611686018427387904 ∧ K (p1.mergeSort fun x y => decide (x ≤ y))
def M_Compact_string (p1 : List (List UInt8)) (K : List (List UInt8) → Prop) : Prop :=
 p1.length < 4611686018427387904 ∧ K (Lib.compact p1)
/-! slices.Clip[[]string,string] -/
def M_Clip_string (p1 : List (List UInt8)) (K : (List (List UInt8)) → Prop) : Prop :=
 (((0 : Int) ≤ (0 : Int) ∧ (0 : Int) ≤ (len p1) ∧ (len p1) ≤ (len p1) ∧ (len p1) ≤ len p1) ∧
 (K (sub p1 (0 : Int) (len p1))))
/-! impl.EndStores -/
def Mi_EndStores (p1 : List Int) (p2 : List Int) (p3 : List Int) (p4 : List Int) (p5 : Int) (p6 : List Int) (p7 : Int) (p8 : List OpV) (p9 : Int) (p10 : Bool) (p11 : Bool) (K : Bool → (List (List UInt8)) → Prop) : Prop :=
 (Mi_comes p1 p2 p3 p4 p5 p6 p7 p8 p9 p10 p11 fun (y1 : Bool) (y2 : List NodeV) =>
 (((!y1) = true →
 (K false [])) ∧
 ((!y1) = false →
 (LoopP (S := Int × Int × List (List UInt8) × List NodeV) (fun s3 Kb3 Kx3 =>
 (((decide (s3.2.1 < s3.1)) = true →
 ((inB s3.2.1 (List.length s3.2.2.2)) ∧
 (let v4 : Bool := (((gN s3.2.2.2 s3.2.1).b.pos) == (len ((gN s3.2.2.2 s3.2.1).b.ops)));
 ((v4 = true →
 (((!((gN s3.2.2.2 s3.2.1).b.lost)) = true →
 (Mi_FormatHeap ((gN s3.2.2.2 s3.2.1).b.s.h.l) ((gN s3.2.2.2 s3.2.1).b.s.h.r) ((gN s3.2.2.2 s3.2.1).b.s.h.ro) fun (y5 : List UInt8) =>
 ((List.length s3.2.2.1 + List.length ([y5] : List (List UInt8)) ≤ 2 ^ 36) ∧
 (Kb3 (s3.1, (iadd s3.2.1 1), (s3.2.2.1 ++ [y5]), s3.2.2.2))))) ∧
 ((!((gN s3.2.2.2 s3.2.1).b.lost)) = false →
 (Kb3 (s3.1, (iadd s3.2.1 1), s3.2.2.1, s3.2.2.2))))) ∧
 (v4 = false →
 (Kb3 (s3.1, (iadd s3.2.1 1), s3.2.2.1, s3.2.2.2))))))) ∧
 ((decide (s3.2.1 < s3.1)) = false →
 (Kx3 (s3.1, s3.2.1, s3.2.2.1, s3.2.2.2)))))
 ((len y2), 0, [], y2) fun s3 =>
 (M_Sort_string s3.2.2.1 fun (y6 : List (List UInt8)) =>
 (M_Compact_string y6 fun (y7 : List (List UInt8)) =>
 (M_Clip_string y7 fun (y8 : List (List UInt8)) =>
 (K true y8))))))))
/-! spec.l1Sign -/
def Ms_l1Sign (p1 : Int) (K : (List UInt8) → Prop) : Prop :=
 (((p1 == (-1)) = true →
 (K [45])) ∧
 ((p1 == (-1)) = false →
 (Ms_l13Dec p1 fun (y1 : List UInt8) =>
 (K y1))))
/-! spec.FormatHeap -/
def Ms_FormatHeap (p1 : List Int) (p2 : List Int) (p3 : List Int) (K : (List UInt8) → Prop) : Prop :=
 (Ms_HeapValid p1 p2 p3 fun (y1 : Bool) =>
 (((!y1) = true →
 (K ([] : List UInt8))) ∧
 ((!y1) = false →
 (LoopP (S := List UInt8 × Int × List Int × List Int × List Int) (fun s2 Kb2 Kx2 =>
 (((decide (s2.2.1 < (len s2.2.2.1))) = true →
 ((inB s2.2.1 (List.length s2.2.2.1)) ∧
 (Ms_l1Sign (gI s2.2.2.1 s2.2.1) fun (y3 : List UInt8) =>
 ((List.length s2.1 + List.length y3 ≤ 2 ^ 62) ∧
 ((inB s2.2.1 (List.length s2.2.2.2.1)) ∧
 (Ms_l1Sign (gI s2.2.2.2.1 s2.2.1) fun (y4 : List UInt8) =>
 ((List.length (s2.1 ++ y3) + List.length y4 ≤ 2 ^ 62) ∧
 ((List.length ((s2.1 ++ y3) ++ y4) + List.length [32] ≤ 2 ^ 62) ∧
 (Kb2 ((((s2.1 ++ y3) ++ y4) ++ [32]), (iadd s2.2.1 1), s2.2.2.1, s2.2.2.2.1, s2.2.2.2.2)))))))))) ∧
 ((decide (s2.2.1 < (len s2.2.2.1))) = false →
 (Kx2 (s2.1, s2.2.1, s2.2.2.1, s2.2.2.2.1, s2.2.2.2.2)))))
 (([] : List UInt8), 0, p1, p2, p3) fun s2 =>
 ((List.length s2.1 + List.length [47] ≤ 2 ^ 62) ∧
 (LoopP (S := List UInt8 × Int × List Int × List Int × List Int) (fun s5 Kb5 Kx5 =>
 (((decide (s5.2.1 < (len s5.2.2.2.2))) = true →
 ((List.length s5.1 + List.length [32] ≤ 2 ^ 62) ∧
 ((inB s5.2.1 (List.length s5.2.2.2.2)) ∧
 (Ms_l1Sign (gI s5.2.2.2.2 s5.2.1) fun (y6 : List UInt8) =>
 ((List.length (s5.1 ++ [32]) + List.length y6 ≤ 2 ^ 62) ∧
 (Kb5 (((s5.1 ++ [32]) ++ y6), (iadd s5.2.1 1), s5.2.2.1, s5.2.2.2.1, s5.2.2.2.2))))))) ∧
 ((decide (s5.2.1 < (len s5.2.2.2.2))) = false →
 (Kx5 (s5.1, s5.2.1, s5.2.2.1, s5.2.2.2.1, s5.2.2.2.2)))))
 ((s2.1 ++ [47]), 0, s2.2.2.1, s2.2.2.2.1, s2.2.2.2.2) fun s5 =>
 (K s5.1)))))))
/-! spec.EndStores -/
def Ms_EndStores (p1 : List Int) (p2 : List Int) (p3 : List Int) (p4 : List Int) (p5 : Int) (p6 : List Int) (p7 : Int) (p8 : List OpV) (p9 : Int) (p10 : Bool) (p11 : Bool) (K : Bool → (List (List UInt8)) → Prop) : Prop :=
 (Ms_l8All p1 p2 p3 p4 p5 p6 p7 p8 p9 p10 p11 fun (y1 : Bool) (y2 : List NodeV) =>
 (LoopP (S := Bool × Int × List NodeV × List (List UInt8)) (fun s3 Kb3 Kx3 =>
 (((decide (s3.2.1 < (len s3.2.2.1))) = true →
 ((inB s3.2.1 (List.length s3.2.2.1)) ∧
 (let v4 : Bool := (decide (((gN s3.2.2.1 s3.2.1).b.pos) < (len ((gN s3.2.2.1 s3.2.1).b.ops))));
 ((v4 = true →
 (Kb3 (s3.1, (iadd s3.2.1 1), s3.2.2.1, s3.2.2.2))) ∧
 (v4 = false →
 (((gN s3.2.2.1 s3.2.1).b.lost = true →
 (Kb3 (s3.1, (iadd s3.2.1 1), s3.2.2.1, s3.2.2.2))) ∧
 ((gN s3.2.2.1 s3.2.1).b.lost = false →
 (Ms_FormatHeap ((gN s3.2.2.1 s3.2.1).b.s.h.l) ((gN s3.2.2.1 s3.2.1).b.s.h.r) ((gN s3.2.2.1 s3.2.1).b.s.h.ro) fun (y5 : List UInt8) =>
 (LoopP (S := Bool × Int × List UInt8 × Int × List NodeV × List (List UInt8)) (fun s6 Kb6 Kx6 =>
 (((decide (s6.2.2.2.1 < (len s6.2.2.2.2.2))) = true →
 ((inB s6.2.2.2.1 (List.length s6.2.2.2.2.2)) ∧
 (((Op.bytesLess (gS s6.2.2.2.2.2 s6.2.2.2.1) s6.2.2.1) = true →
 (Kb6 (s6.1, s6.2.1, s6.2.2.1, (iadd s6.2.2.2.1 1), s6.2.2.2.2.1, s6.2.2.2.2.2))) ∧
 ((Op.bytesLess (gS s6.2.2.2.2.2 s6.2.2.2.1) s6.2.2.1) = false →
 (Kx6 (s6.1, s6.2.1, s6.2.2.1, s6.2.2.2.1, s6.2.2.2.2.1, s6.2.2.2.2.2)))))) ∧
 ((decide (s6.2.2.2.1 < (len s6.2.2.2.2.2))) = false →
 (Kx6 (s6.1, s6.2.1, s6.2.2.1, s6.2.2.2.1, s6.2.2.2.2.1, s6.2.2.2.2.2)))))
 (s3.1, s3.2.1, y5, 0, s3.2.2.1, s3.2.2.2) fun s6 =>
 (let j8 : Prop :=
 (((0 : Int) ≤ (0 : Int) ∧ (0 : Int) ≤ s6.2.2.2.1 ∧ s6.2.2.2.1 ≤ ((List.length s6.2.2.2.2.2 : Nat) : Int)) ∧
 (((List.length (sub s6.2.2.2.2.2 (0 : Int) s6.2.2.2.1) : Nat) ≤ 2 ^ 36) ∧
 ((List.length (sub s6.2.2.2.2.2 (0 : Int) s6.2.2.2.1) + List.length ([s6.2.2.1] : List (List UInt8)) ≤ 2 ^ 36) ∧
 (((0 : Int) ≤ s6.2.2.2.1 ∧ s6.2.2.2.1 ≤ ((List.length s6.2.2.2.2.2 : Nat) : Int) ∧ ((List.length s6.2.2.2.2.2 : Nat) : Int) ≤ ((List.length s6.2.2.2.2.2 : Nat) : Int)) ∧
 ((List.length ((sub s6.2.2.2.2.2 (0 : Int) s6.2.2.2.1) ++ [s6.2.2.1]) + List.length (sub s6.2.2.2.2.2 s6.2.2.2.1 ((List.length s6.2.2.2.2.2 : Nat) : Int)) ≤ 2 ^ 36) ∧
 (let v7 : List (List UInt8) := (((sub s6.2.2.2.2.2 (0 : Int) s6.2.2.2.1) ++ [s6.2.2.1]) ++ (sub s6.2.2.2.2.2 s6.2.2.2.1 ((List.length s6.2.2.2.2.2 : Nat) : Int)));
 (Kb3 (s6.1, (iadd s6.2.1 1), s6.2.2.2.2.1, v7))))))));
 (((decide (s6.2.2.2.1 < (len s6.2.2.2.2.2))) = true →
 ((inB s6.2.2.2.1 (List.length s6.2.2.2.2.2)) ∧
 ((((gS s6.2.2.2.2.2 s6.2.2.2.1) == s6.2.2.1) = true →
 (Kb3 (s6.1, (iadd s6.2.1 1), s6.2.2.2.2.1, s6.2.2.2.2.2))) ∧
 (((gS s6.2.2.2.2.2 s6.2.2.2.1) == s6.2.2.1) = false →
 j8)))) ∧
 ((decide (s6.2.2.2.1 < (len s6.2.2.2.2.2))) = false →
 j8)))))))))))) ∧
 ((decide (s3.2.1 < (len s3.2.2.1))) = false →
 (Kx3 (s3.1, s3.2.1, s3.2.2.1, s3.2.2.2)))))
 (y1, 0, y2, []) fun s3 =>
 (K s3.1 s3.2.2.2)))
/-! laws.ccTexts -/
def Ml_ccTexts (p1 : List (List UInt8)) (p2 : List (List UInt8)) (K : Bool → Prop) : Prop :=
 ((((len p1) != (len p2)) = true →
 (K false)) ∧
 (((len p1) != (len p2)) = false →
 (LoopP (S := List (List UInt8) × List (List UInt8) × Int) (fun s1 Kb1 Kx1 =>
 (((decide (s1.2.2 < (len s1.1))) = true →
 ((inB s1.2.2 (List.length s1.1)) ∧
 ((inB s1.2.2 (List.length s1.2.1)) ∧
 (((!((gS s1.1 s1.2.2) == (gS s1.2.1 s1.2.2))) = true →
 (K false)) ∧
 ((!((gS s1.1 s1.2.2) == (gS s1.2.1 s1.2.2))) = false →
 (Kb1 (s1.1, s1.2.1, (iadd s1.2.2 1)))))))) ∧
 ((decide (s1.2.2 < (len s1.1))) = false →
 (Kx1 (s1.1, s1.2.1, s1.2.2)))))
 (p1, p2, 0) fun s1 =>
 (K true))))
/-! impl.ParseHeap$1 -/
def Mi_ParseHeap_1 (p1 : Int) (K : Int → Prop) : Prop :=
 (((p1 == 45) = true →
 (K (-1))) ∧
 ((p1 == 45) = false →
 (K (isub (IntKind.wrap .i64 p1) 48))))
def M_strings_Split (p1 p2 : List UInt8) (K : List (List UInt8) → Prop) : Prop :=
 (p1.length < 4294967281 ∧ 1 ≤ p2.length) ∧ K ((Lib.splitB ⟨p2.toArray⟩ 0 (Lib.countB ⟨p1.toArray⟩ ⟨p2.toArray⟩) ⟨p1.toArray⟩).map fun s => s.data.toList)
/-! impl.ParseHeap -/
def Mi_ParseHeap (p1 : List UInt8) (K : Bool → (List Int) → (List Int) → (List Int) → Prop) : Prop :=
 (M_strings_Split p1 [32] fun (y1 : List (List UInt8)) =>
 (LoopP (S := List UInt8 × Bool × Int × Int × List (List UInt8) × List Int × List Int × List Int × List Int × List Int × List Int) (fun s2 Kb2 Kx2 =>
 (((decide (s2.2.2.2.1 < s2.2.2.1)) = true →
 (let j16 := fun (z13 : List Int) (z15 : List Int) =>
 (Kb2 (s2.1, s2.2.1, s2.2.2.1, (iadd s2.2.2.2.1 1), s2.2.2.2.2.1, s2.2.2.2.2.2.1, s2.2.2.2.2.2.2.1, s2.2.2.2.2.2.2.2.1, z13, z15, s2.2.2.2.2.2.2.2.2.2.2));
 ((inB s2.2.2.2.1 (List.length s2.2.2.2.2.1)) ∧
 ((((gS s2.2.2.2.2.1 s2.2.2.2.1) == [47]) = true →
 (Kb2 (s2.1, true, s2.2.2.1, (iadd s2.2.2.2.1 1), s2.2.2.2.2.1, s2.2.2.2.2.2.1, s2.2.2.2.2.2.2.1, s2.2.2.2.2.2.2.2.1, s2.2.2.2.2.2.2.2.2.1, s2.2.2.2.2.2.2.2.2.2.1, s2.2.2.2.2.2.2.2.2.2.2))) ∧
 (((gS s2.2.2.2.2.1 s2.2.2.2.1) == [47]) = false →
 ((s2.2.1 = true →
 ((((len (gS s2.2.2.2.2.1 s2.2.2.2.1)) == 1) = true →
 ((inB 0 (List.length (gS s2.2.2.2.2.1 s2.2.2.2.1))) ∧
 (Mi_ParseHeap_1 (gC (gS s2.2.2.2.2.1 s2.2.2.2.1) 0) fun (y3 : Int) =>
 ((List.length s2.2.2.2.2.2.2.2.2.2.2 + List.length ([y3] : List Int) ≤ 2 ^ 36) ∧
 (Kb2 (s2.1, s2.2.1, s2.2.2.1, (iadd s2.2.2.2.1 1), s2.2.2.2.2.1, s2.2.2.2.2.2.1, s2.2.2.2.2.2.2.1, s2.2.2.2.2.2.2.2.1, s2.2.2.2.2.2.2.2.2.1, s2.2.2.2.2.2.2.2.2.2.1, (s2.2.2.2.2.2.2.2.2.2.2 ++ [y3]))))))) ∧
 (((len (gS s2.2.2.2.2.1 s2.2.2.2.1)) == 1) = false →
 (((!s2.2.1) = true →
 ((((len (gS s2.2.2.2.2.1 s2.2.2.2.1)) == 2) = true →
 ((inB 0 (List.length (gS s2.2.2.2.2.1 s2.2.2.2.1))) ∧
 (Mi_ParseHeap_1 (gC (gS s2.2.2.2.2.1 s2.2.2.2.1) 0) fun (y4 : Int) =>
 ((List.length s2.2.2.2.2.2.2.2.2.1 + List.length ([y4] : List Int) ≤ 2 ^ 36) ∧
 ((inB 1 (List.length (gS s2.2.2.2.2.1 s2.2.2.2.1))) ∧
 (Mi_ParseHeap_1 (gC (gS s2.2.2.2.2.1 s2.2.2.2.1) 1) fun (y5 : Int) =>
 ((List.length s2.2.2.2.2.2.2.2.2.2.1 + List.length ([y5] : List Int) ≤ 2 ^ 36) ∧
 (j16 (s2.2.2.2.2.2.2.2.2.1 ++ [y4]) (s2.2.2.2.2.2.2.2.2.2.1 ++ [y5]))))))))) ∧
 (((len (gS s2.2.2.2.2.1 s2.2.2.2.1)) == 2) = false →
 (K false [] [] [])))) ∧
 ((!s2.2.1) = false →
 (K false [] [] [])))))) ∧
 (s2.2.1 = false →
 (((!s2.2.1) = true →
 ((((len (gS s2.2.2.2.2.1 s2.2.2.2.1)) == 2) = true →
 ((inB 0 (List.length (gS s2.2.2.2.2.1 s2.2.2.2.1))) ∧
 (Mi_ParseHeap_1 (gC (gS s2.2.2.2.2.1 s2.2.2.2.1) 0) fun (y6 : Int) =>
 ((List.length s2.2.2.2.2.2.2.2.2.1 + List.length ([y6] : List Int) ≤ 2 ^ 36) ∧
 ((inB 1 (List.length (gS s2.2.2.2.2.1 s2.2.2.2.1))) ∧
 (Mi_ParseHeap_1 (gC (gS s2.2.2.2.2.1 s2.2.2.2.1) 1) fun (y7 : Int) =>
 ((List.length s2.2.2.2.2.2.2.2.2.2.1 + List.length ([y7] : List Int) ≤ 2 ^ 36) ∧
 (j16 (s2.2.2.2.2.2.2.2.2.1 ++ [y6]) (s2.2.2.2.2.2.2.2.2.2.1 ++ [y7]))))))))) ∧
 (((len (gS s2.2.2.2.2.1 s2.2.2.2.1)) == 2) = false →
 (K false [] [] [])))) ∧
 ((!s2.2.1) = false →
 (K false [] [] [])))))))))) ∧
 ((decide (s2.2.2.2.1 < s2.2.2.1)) = false →
 (Kx2 (s2.1, s2.2.1, s2.2.2.1, s2.2.2.2.1, s2.2.2.2.2.1, s2.2.2.2.2.2.1, s2.2.2.2.2.2.2.1, s2.2.2.2.2.2.2.2.1, s2.2.2.2.2.2.2.2.2.1, s2.2.2.2.2.2.2.2.2.2.1, s2.2.2.2.2.2.2.2.2.2.2)))))
 (p1, false, (len y1), 0, y1, [], [], [], [], [], []) fun s2 =>
 (Mi_HeapValid s2.2.2.2.2.2.2.2.2.1 s2.2.2.2.2.2.2.2.2.2.1 s2.2.2.2.2.2.2.2.2.2.2 fun (y17 : Bool) =>
 (((!y17) = true →
 (K false [] [] [])) ∧
 ((!y17) = false →
 (Mi_FormatHeap s2.2.2.2.2.2.2.2.2.1 s2.2.2.2.2.2.2.2.2.2.1 s2.2.2.2.2.2.2.2.2.2.2 fun (y18 : List UInt8) =>
 (((!(y18 == s2.1)) = true →
 (K false [] [] [])) ∧
 ((!(y18 == s2.1)) = false →
 (K true s2.2.2.2.2.2.2.2.2.1 s2.2.2.2.2.2.2.2.2.2.1 s2.2.2.2.2.2.2.2.2.2.2)))))))))
/-! laws.FnEndBarrier -/
def Ml_FnEndBarrier (p1 : List Int) (K : Bool → Prop) : Prop :=
 (((decide ((len p1) > 1048576)) = true →
 (K true)) ∧
 ((decide ((len p1) > 1048576)) = false →
 (Ms_DrawEndStores p1 fun (y1 : Int) (y2 : Int) (y3 : Int) (y4 : Bool) (y5 : Bool) (y6 : List Int) (y7 : List Int) (y8 : List Int) (y9 : List Int) (y10 : List Int) (y11 : List OpV) =>
 (Mi_EndStores y6 y7 y8 y9 y1 y10 y2 y11 y3 y4 y5 fun (y12 : Bool) (y13 : List (List UInt8)) =>
 (Ms_EndStores y6 y7 y8 y9 y1 y10 y2 y11 y3 y4 y5 fun (y14 : Bool) (y15 : List (List UInt8)) =>
 (Ml_ccTexts y13 y15 fun (y16 : Bool) =>
 (((!y16) = true →
 (Ml_ccTexts y13 y15 fun (y17 : Bool) =>
 ((y17 = true →
 (((y12 == y14) = true →
 (K ((len y13) == 0))) ∧
 ((y12 == y14) = false →
 (K false)))) ∧
 (y17 = false →
 (K false))))) ∧
 ((!y16) = false →
 (((!(y12 == y14)) = true →
 (Ml_ccTexts y13 y15 fun (y18 : Bool) =>
 ((y18 = true →
 (((y12 == y14) = true →
 (K ((len y13) == 0))) ∧
 ((y12 == y14) = false →
 (K false)))) ∧
 (y18 = false →
 (K false))))) ∧
 ((!(y12 == y14)) = false →
 (((!y12) = true →
 (Ml_ccTexts y13 y15 fun (y19 : Bool) =>
 ((y19 = true →
 (((y12 == y14) = true →
 (K ((len y13) == 0))) ∧
 ((y12 == y14) = false →
 (K false)))) ∧
 (y19 = false →
 (K false))))) ∧
 ((!y12) = false →
 (LoopP (S := Int × Int × Int × Int × Bool × List (List UInt8) × List Int × List Int × List Int × List Int × List Int × List OpV) (fun s20 Kb20 Kx20 =>
 (((decide (s20.1 < (len s20.2.2.2.2.2.1))) = true →
 ((inB s20.1 (List.length s20.2.2.2.2.2.1)) ∧
 (Mi_ParseHeap (gS s20.2.2.2.2.2.1 s20.1) fun (y21 : Bool) (y22 : List Int) (y23 : List Int) (y24 : List Int) =>
 (((!y21) = true →
 (K false)) ∧
 ((!y21) = false →
 ((((len y22) != (len s20.2.2.2.2.2.2.1)) = true →
 (K false)) ∧
 (((len y22) != (len s20.2.2.2.2.2.2.1)) = false →
 ((((len y24) != (len s20.2.2.2.2.2.2.2.2.1)) = true →
 (K false)) ∧
 (((len y24) != (len s20.2.2.2.2.2.2.2.2.1)) = false →
 (Kb20 ((iadd s20.1 1), s20.2.1, s20.2.2.1, s20.2.2.2.1, s20.2.2.2.2.1, s20.2.2.2.2.2.1, s20.2.2.2.2.2.2.1, s20.2.2.2.2.2.2.2.1, s20.2.2.2.2.2.2.2.2.1, s20.2.2.2.2.2.2.2.2.2.1, s20.2.2.2.2.2.2.2.2.2.2.1, s20.2.2.2.2.2.2.2.2.2.2.2))))))))))) ∧
 ((decide (s20.1 < (len s20.2.2.2.2.2.1))) = false →
 (Kx20 (s20.1, s20.2.1, s20.2.2.1, s20.2.2.2.1, s20.2.2.2.2.1, s20.2.2.2.2.2.1, s20.2.2.2.2.2.2.1, s20.2.2.2.2.2.2.2.1, s20.2.2.2.2.2.2.2.2.1, s20.2.2.2.2.2.2.2.2.2.1, s20.2.2.2.2.2.2.2.2.2.2.1, s20.2.2.2.2.2.2.2.2.2.2.2)))))
 (0, y1, y2, y3, y4, y13, y6, y7, y8, y9, y10, y11) fun s20 =>
 (K true))))))))))))))
end Go.Ab
