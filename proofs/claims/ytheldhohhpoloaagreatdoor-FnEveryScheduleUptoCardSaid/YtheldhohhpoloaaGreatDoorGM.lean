/-
  What is proved here: nothing: the typed models of functions of the translated program.
-/
import Derived.Test.YtheldhohhpoloaaGreatDoorT19
import Derived.Lib.Join
import Derived.Lib.Split
import Derived.Lib.SplitLaws
namespace Go.Ab
set_option linter.unusedVariables false
/-! impl.ParseHeap$1 -/
def Mi_ParseHeap_1 (p1 : Int) (K : Int → Prop) : Prop :=
 (((p1 == 45) = true →
 (K (-1))) ∧
 ((p1 == 45) = false →
 (K (isub (IntKind.wrap .i64 p1) 48))))
def M_strings_Split (p1 p2 : List UInt8) (K : List (List UInt8) → Prop) : Prop :=
 (p1.length < 4294967281 ∧ 1 ≤ p2.length) ∧ K ((Lib.splitB ⟨p2.toArray⟩ 0 (Lib.countB ⟨p1.toArray⟩ ⟨p2.toArray⟩) ⟨p1.toArray⟩).map fun s => s.data.toList)
/-! impl.HeapValid -/
def Mi_HeapValid (p1 : List Int) (p2 : List Int) (p3 : List Int) (K : Bool → Prop) : Prop :=
 ((((len p1) != (len p2)) = true →
 (K false)) ∧
 (((len p1) != (len p2)) = false →
 (((decide ((len p1) < 1)) = true →
 (K false)) ∧
 ((decide ((len p1) < 1)) = false →
 (((decide ((len p1) > 8)) = true →
 (K false)) ∧
 ((decide ((len p1) > 8)) = false →
 (((decide ((len p3) < 1)) = true →
 (K false)) ∧
 ((decide ((len p3) < 1)) = false →
 (((decide ((len p3) > 3)) = true →
 (K false)) ∧
 ((decide ((len p3) > 3)) = false →
 (LoopP (S := Int × Int × List Int × List Int × List Int × List (List Int)) (fun s1 Kb1 Kx1 =>
 (((decide (s1.2.1 < s1.1)) = true →
 ((inB s1.2.1 (List.length s1.2.2.2.2.2)) ∧
 (LoopP (S := Int × Int × List Int × Int × Int × List Int × List Int × List Int × List (List Int)) (fun s2 Kb2 Kx2 =>
 (((decide (s2.2.2.2.2.1 < s2.2.2.2.1)) = true →
 ((inB s2.2.2.2.2.1 (List.length s2.2.2.1)) ∧
 (((decide ((gI s2.2.2.1 s2.2.2.2.2.1) < (-1))) = true →
 (K false)) ∧
 ((decide ((gI s2.2.2.1 s2.2.2.2.2.1) < (-1))) = false →
 (((decide ((gI s2.2.2.1 s2.2.2.2.2.1) ≥ (len s2.2.2.2.2.2.1))) = true →
 (K false)) ∧
 ((decide ((gI s2.2.2.1 s2.2.2.2.2.1) ≥ (len s2.2.2.2.2.2.1))) = false →
 (Kb2 (s2.1, s2.2.1, s2.2.2.1, s2.2.2.2.1, (iadd s2.2.2.2.2.1 1), s2.2.2.2.2.2.1, s2.2.2.2.2.2.2.1, s2.2.2.2.2.2.2.2.1, s2.2.2.2.2.2.2.2.2)))))))) ∧
 ((decide (s2.2.2.2.2.1 < s2.2.2.2.1)) = false →
 (Kx2 (s2.1, s2.2.1, s2.2.2.1, s2.2.2.2.1, s2.2.2.2.2.1, s2.2.2.2.2.2.1, s2.2.2.2.2.2.2.1, s2.2.2.2.2.2.2.2.1, s2.2.2.2.2.2.2.2.2)))))
 (s1.1, s1.2.1, (gL s1.2.2.2.2.2 s1.2.1), (len (gL s1.2.2.2.2.2 s1.2.1)), 0, s1.2.2.1, s1.2.2.2.1, s1.2.2.2.2.1, s1.2.2.2.2.2) fun s2 =>
 (Kb1 (s2.1, (iadd s2.2.1 1), s2.2.2.2.2.2.1, s2.2.2.2.2.2.2.1, s2.2.2.2.2.2.2.2.1, s2.2.2.2.2.2.2.2.2))))) ∧
 ((decide (s1.2.1 < s1.1)) = false →
 (Kx1 (s1.1, s1.2.1, s1.2.2.1, s1.2.2.2.1, s1.2.2.2.2.1, s1.2.2.2.2.2)))))
 ((len [p1, p2, p3]), 0, p1, p2, p3, [p1, p2, p3]) fun s1 =>
 (K true))))))))))))
def M_strconv_Itoa (p1 : Int) (K : List UInt8 → Prop) : Prop :=
 (0 ≤ p1 ∧ p1 < 100) ∧ K (Lib.decDigits p1.toNat)
/-! impl.digit -/
def Mi_digit (p1 : Int) (K : (List UInt8) → Prop) : Prop :=
 (((p1 == (-1)) = true →
 (K [45])) ∧
 ((p1 == (-1)) = false →
 (M_strconv_Itoa p1 fun (y1 : List UInt8) =>
 (K y1))))
/-! impl.FormatHeap -/
def Mi_FormatHeap (p1 : List Int) (p2 : List Int) (p3 : List Int) (K : (List UInt8) → Prop) : Prop :=
 (Mi_HeapValid p1 p2 p3 fun (y1 : Bool) =>
 (((!y1) = true →
 (K ([] : List UInt8))) ∧
 ((!y1) = false →
 (LoopP (S := List UInt8 × Int × Int × List Int × List Int × List Int) (fun s2 Kb2 Kx2 =>
 (((decide (s2.2.2.1 < s2.2.1)) = true →
 ((inB s2.2.2.1 (List.length s2.2.2.2.1)) ∧
 (Mi_digit (gI s2.2.2.2.1 s2.2.2.1) fun (y3 : List UInt8) =>
 ((inB s2.2.2.1 (List.length s2.2.2.2.2.1)) ∧
 (Mi_digit (gI s2.2.2.2.2.1 s2.2.2.1) fun (y4 : List UInt8) =>
 ((List.length y3 + List.length y4 ≤ 2 ^ 62) ∧
 ((List.length (y3 ++ y4) + List.length [32] ≤ 2 ^ 62) ∧
 ((List.length s2.1 + List.length ((y3 ++ y4) ++ [32]) ≤ 2 ^ 62) ∧
 (Kb2 ((s2.1 ++ ((y3 ++ y4) ++ [32])), s2.2.1, (iadd s2.2.2.1 1), s2.2.2.2.1, s2.2.2.2.2.1, s2.2.2.2.2.2)))))))))) ∧
 ((decide (s2.2.2.1 < s2.2.1)) = false →
 (Kx2 (s2.1, s2.2.1, s2.2.2.1, s2.2.2.2.1, s2.2.2.2.2.1, s2.2.2.2.2.2)))))
 (([] : List UInt8), (len p1), 0, p1, p2, p3) fun s2 =>
 ((List.length s2.1 + List.length [47] ≤ 2 ^ 62) ∧
 (LoopP (S := List UInt8 × List Int × Int × Int) (fun s5 Kb5 Kx5 =>
 (((decide (s5.2.2.2 < s5.2.2.1)) = true →
 ((inB s5.2.2.2 (List.length s5.2.1)) ∧
 (Mi_digit (gI s5.2.1 s5.2.2.2) fun (y6 : List UInt8) =>
 ((List.length [32] + List.length y6 ≤ 2 ^ 62) ∧
 ((List.length s5.1 + List.length ([32] ++ y6) ≤ 2 ^ 62) ∧
 (Kb5 ((s5.1 ++ ([32] ++ y6)), s5.2.1, s5.2.2.1, (iadd s5.2.2.2 1)))))))) ∧
 ((decide (s5.2.2.2 < s5.2.2.1)) = false →
 (Kx5 (s5.1, s5.2.1, s5.2.2.1, s5.2.2.2)))))
 ((s2.1 ++ [47]), s2.2.2.2.2.2, (len s2.2.2.2.2.2), 0) fun s5 =>
 (K s5.1)))))))
/-! impl.ParseHeap -/
def Mi_ParseHeap (p1 : List UInt8) (K : Bool → (List Int) → (List Int) → (List Int) → Prop) : Prop :=
 (M_strings_Split p1 [32] fun (y1 : List (List UInt8)) =>
 (LoopP (S := List UInt8 × Bool × Int × Int × List (List UInt8) × List Int × List Int × List Int × List Int × List Int × List Int) (fun s2 Kb2 Kx2 =>
 (((decide (s2.2.2.2.1 < s2.2.2.1)) = true →
 (let j16 := fun (z13 : List Int) (z15 : List Int) =>
 (Kb2 (s2.1, s2.2.1, s2.2.2.1, (iadd s2.2.2.2.1 1), s2.2.2.2.2.1, s2.2.2.2.2.2.1, s2.2.2.2.2.2.2.1, s2.2.2.2.2.2.2.2.1, z13, z15, s2.2.2.2.2.2.2.2.2.2.2));
 ((inB s2.2.2.2.1 (List.length s2.2.2.2.2.1)) ∧
 ((((gS s2.2.2.2.2.1 s2.2.2.2.1) == [47]) = true →
 (Kb2 (s2.1, true, s2.2.2.1, (iadd s2.2.2.2.1 1), s2.2.2.2.2.1, s2.2.2.2.2.2.1, s2.2.2.2.2.2.2.1, s2.2.2.2.2.2.2.2.1, s2.2.2.2.2.2.2.2.2.1, s2.2.2.2.2.2.2.2.2.2.1, s2.2.2.2.2.2.2.2.2.2.2))) ∧
 (((gS s2.2.2.2.2.1 s2.2.2.2.1) == [47]) = false →
 ((s2.2.1 = true →
 ((((len (gS s2.2.2.2.2.1 s2.2.2.2.1)) == 1) = true →
 ((inB 0 (List.length (gS s2.2.2.2.2.1 s2.2.2.2.1))) ∧
 (Mi_ParseHeap_1 (gC (gS s2.2.2.2.2.1 s2.2.2.2.1) 0) fun (y3 : Int) =>
 ((List.length s2.2.2.2.2.2.2.2.2.2.2 + List.length ([y3] : List Int) ≤ 2 ^ 36) ∧
 (Kb2 (s2.1, s2.2.1, s2.2.2.1, (iadd s2.2.2.2.1 1), s2.2.2.2.2.1, s2.2.2.2.2.2.1, s2.2.2.2.2.2.2.1, s2.2.2.2.2.2.2.2.1, s2.2.2.2.2.2.2.2.2.1, s2.2.2.2.2.2.2.2.2.2.1, (s2.2.2.2.2.2.2.2.2.2.2 ++ [y3]))))))) ∧
 (((len (gS s2.2.2.2.2.1 s2.2.2.2.1)) == 1) = false →
 (((!s2.2.1) = true →
 ((((len (gS s2.2.2.2.2.1 s2.2.2.2.1)) == 2) = true →
 ((inB 0 (List.length (gS s2.2.2.2.2.1 s2.2.2.2.1))) ∧
 (Mi_ParseHeap_1 (gC (gS s2.2.2.2.2.1 s2.2.2.2.1) 0) fun (y4 : Int) =>
 ((List.length s2.2.2.2.2.2.2.2.2.1 + List.length ([y4] : List Int) ≤ 2 ^ 36) ∧
 ((inB 1 (List.length (gS s2.2.2.2.2.1 s2.2.2.2.1))) ∧
 (Mi_ParseHeap_1 (gC (gS s2.2.2.2.2.1 s2.2.2.2.1) 1) fun (y5 : Int) =>
 ((List.length s2.2.2.2.2.2.2.2.2.2.1 + List.length ([y5] : List Int) ≤ 2 ^ 36) ∧
 (j16 (s2.2.2.2.2.2.2.2.2.1 ++ [y4]) (s2.2.2.2.2.2.2.2.2.2.1 ++ [y5]))))))))) ∧
 (((len (gS s2.2.2.2.2.1 s2.2.2.2.1)) == 2) = false →
 (K false [] [] [])))) ∧
 ((!s2.2.1) = false →
 (K false [] [] [])))))) ∧
 (s2.2.1 = false →
 (((!s2.2.1) = true →
 ((((len (gS s2.2.2.2.2.1 s2.2.2.2.1)) == 2) = true →
 ((inB 0 (List.length (gS s2.2.2.2.2.1 s2.2.2.2.1))) ∧
 (Mi_ParseHeap_1 (gC (gS s2.2.2.2.2.1 s2.2.2.2.1) 0) fun (y6 : Int) =>
 ((List.length s2.2.2.2.2.2.2.2.2.1 + List.length ([y6] : List Int) ≤ 2 ^ 36) ∧
 ((inB 1 (List.length (gS s2.2.2.2.2.1 s2.2.2.2.1))) ∧
 (Mi_ParseHeap_1 (gC (gS s2.2.2.2.2.1 s2.2.2.2.1) 1) fun (y7 : Int) =>
 ((List.length s2.2.2.2.2.2.2.2.2.2.1 + List.length ([y7] : List Int) ≤ 2 ^ 36) ∧
 (j16 (s2.2.2.2.2.2.2.2.2.1 ++ [y6]) (s2.2.2.2.2.2.2.2.2.2.1 ++ [y7]))))))))) ∧
 (((len (gS s2.2.2.2.2.1 s2.2.2.2.1)) == 2) = false →
 (K false [] [] [])))) ∧
 ((!s2.2.1) = false →
 (K false [] [] [])))))))))) ∧
 ((decide (s2.2.2.2.1 < s2.2.2.1)) = false →
 (Kx2 (s2.1, s2.2.1, s2.2.2.1, s2.2.2.2.1, s2.2.2.2.2.1, s2.2.2.2.2.2.1, s2.2.2.2.2.2.2.1, s2.2.2.2.2.2.2.2.1, s2.2.2.2.2.2.2.2.2.1, s2.2.2.2.2.2.2.2.2.2.1, s2.2.2.2.2.2.2.2.2.2.2)))))
 (p1, false, (len y1), 0, y1, [], [], [], [], [], []) fun s2 =>
 (Mi_HeapValid s2.2.2.2.2.2.2.2.2.1 s2.2.2.2.2.2.2.2.2.2.1 s2.2.2.2.2.2.2.2.2.2.2 fun (y17 : Bool) =>
 (((!y17) = true →
 (K false [] [] [])) ∧
 ((!y17) = false →
 (Mi_FormatHeap s2.2.2.2.2.2.2.2.2.1 s2.2.2.2.2.2.2.2.2.2.1 s2.2.2.2.2.2.2.2.2.2.2 fun (y18 : List UInt8) =>
 (((!(y18 == s2.1)) = true →
 (K false [] [] [])) ∧
 ((!(y18 == s2.1)) = false →
 (K true s2.2.2.2.2.2.2.2.2.1 s2.2.2.2.2.2.2.2.2.2.1 s2.2.2.2.2.2.2.2.2.2.2)))))))))
/-! impl.OpValid -/
def Mi_OpValid (p1 : Int) (p2 : Int) (p3 : Int) (p4 : Int) (K : Bool → Prop) : Prop :=
 (((decide (p1 < 1)) = true →
 (K false)) ∧
 ((decide (p1 < 1)) = false →
 (((decide (p1 > 7)) = true →
 (K false)) ∧
 ((decide (p1 > 7)) = false →
 (((decide (p2 < 0)) = true →
 (K false)) ∧
 ((decide (p2 < 0)) = false →
 (((decide (p2 ≥ 3)) = true →
 (K false)) ∧
 ((decide (p2 ≥ 3)) = false →
 (((decide (p2 ≥ p4)) = true →
 (K false)) ∧
 ((decide (p2 ≥ p4)) = false →
 (((decide (p3 < 0)) = true →
 (K false)) ∧
 ((decide (p3 < 0)) = false →
 (((decide (p3 ≥ 3)) = true →
 (K false)) ∧
 ((decide (p3 ≥ 3)) = false →
 (((p1 == 1) = true →
 (K (p3 == 0))) ∧
 ((p1 == 1) = false →
 (((p1 == 7) = true →
 (K (p3 == 0))) ∧
 ((p1 == 7) = false →
 (K (decide (p3 < p4)))))))))))))))))))))
/-! impl.FormatOp -/
def Mi_FormatOp (p1 : Int) (p2 : Int) (p3 : Int) (K : (List UInt8) → Prop) : Prop :=
 (Mi_OpValid p1 p2 p3 3 fun (y1 : Bool) =>
 (((!y1) = true →
 (K ([] : List UInt8))) ∧
 ((!y1) = false →
 ((inB p1 (List.length [([] : List UInt8), [110, 101, 119], [99, 111, 112, 121], [108, 101, 102, 116], [114, 105, 103, 104, 116], [112, 117, 116, 108, 101, 102, 116], [112, 117, 116, 114, 105, 103, 104, 116], [99, 108, 101, 97, 114]])) ∧
 (let v2 : List UInt8 := (gS [([] : List UInt8), [110, 101, 119], [99, 111, 112, 121], [108, 101, 102, 116], [114, 105, 103, 104, 116], [112, 117, 116, 108, 101, 102, 116], [112, 117, 116, 114, 105, 103, 104, 116], [99, 108, 101, 97, 114]] p1);
 ((List.length v2 + List.length [32] ≤ 2 ^ 62) ∧
 (M_strconv_Itoa p2 fun (y3 : List UInt8) =>
 ((List.length (v2 ++ [32]) + List.length y3 ≤ 2 ^ 62) ∧
 (((p1 != 1) = true →
 (((p1 != 7) = true →
 (M_strconv_Itoa p3 fun (y4 : List UInt8) =>
 ((List.length [32] + List.length y4 ≤ 2 ^ 62) ∧
 ((List.length ((v2 ++ [32]) ++ y3) + List.length ([32] ++ y4) ≤ 2 ^ 62) ∧
 (K (((v2 ++ [32]) ++ y3) ++ ([32] ++ y4))))))) ∧
 ((p1 != 7) = false →
 (K ((v2 ++ [32]) ++ y3))))) ∧
 ((p1 != 1) = false →
 (K ((v2 ++ [32]) ++ y3))))))))))))
/-! impl.ParseOp -/
def Mi_ParseOp (p1 : List UInt8) (K : Int → Int → Int → Bool → Prop) : Prop :=
 (LoopP (S := List UInt8 × Int × Int × Int × Int) (fun s1 Kb1 Kx1 =>
 (((decide (s1.2.1 ≤ 7)) = true →
 (LoopP (S := List UInt8 × Int × Int × Int × Int × Int) (fun s2 Kb2 Kx2 =>
 (((decide (s2.2.2.1 < 3)) = true →
 (LoopP (S := List UInt8 × Int × Int × Int × Int × Int × Int × Int) (fun s3 Kb3 Kx3 =>
 (((decide (s3.2.2.2.2.1 < 3)) = true →
 (((!(s3.1 == ([] : List UInt8))) = true →
 (Mi_FormatOp s3.2.1 s3.2.2.1 s3.2.2.2.2.1 fun (y4 : List UInt8) =>
 (((y4 == s3.1) = true →
 (K s3.2.1 s3.2.2.1 s3.2.2.2.2.1 true)) ∧
 ((y4 == s3.1) = false →
 (Kb3 (s3.1, s3.2.1, s3.2.2.1, s3.2.2.2.1, (iadd s3.2.2.2.2.1 1), s3.2.2.2.2.2.1, s3.2.2.2.2.2.2.1, s3.2.2.2.2.2.2.2)))))) ∧
 ((!(s3.1 == ([] : List UInt8))) = false →
 (Kb3 (s3.1, s3.2.1, s3.2.2.1, s3.2.2.2.1, (iadd s3.2.2.2.2.1 1), s3.2.2.2.2.2.1, s3.2.2.2.2.2.2.1, s3.2.2.2.2.2.2.2))))) ∧
 ((decide (s3.2.2.2.2.1 < 3)) = false →
 (Kx3 (s3.1, s3.2.1, s3.2.2.1, s3.2.2.2.1, s3.2.2.2.2.1, s3.2.2.2.2.2.1, s3.2.2.2.2.2.2.1, s3.2.2.2.2.2.2.2)))))
 (s2.1, s2.2.1, s2.2.2.1, s2.2.2.1, 0, s2.2.2.2.1, s2.2.2.2.2.1, s2.2.2.2.2.2) fun s3 =>
 (Kb2 (s3.1, s3.2.1, (iadd s3.2.2.2.1 1), s3.2.2.2.2.2.1, s3.2.2.2.2.2.2.1, s3.2.2.2.2.2.2.2)))) ∧
 ((decide (s2.2.2.1 < 3)) = false →
 (Kx2 (s2.1, s2.2.1, s2.2.2.1, s2.2.2.2.1, s2.2.2.2.2.1, s2.2.2.2.2.2)))))
 (s1.1, s1.2.1, 0, s1.2.2.1, s1.2.2.2.1, s1.2.2.2.2) fun s2 =>
 (Kb1 (s2.1, (iadd s2.2.1 1), s2.2.2.2.1, s2.2.2.2.2.1, s2.2.2.2.2.2)))) ∧
 ((decide (s1.2.1 ≤ 7)) = false →
 (Kx1 (s1.1, s1.2.1, s1.2.2.1, s1.2.2.2.1, s1.2.2.2.2)))))
 (p1, 1, 0, 0, 0) fun s1 =>
 (K 0 0 0 false))
/-! impl.ParseOps -/
def Mi_ParseOps (p1 : List UInt8) (K : Bool → (List OpV) → Prop) : Prop :=
 (((p1 == ([] : List UInt8)) = true →
 (K true [])) ∧
 ((p1 == ([] : List UInt8)) = false →
 (M_strings_Split p1 [44, 32] fun (y1 : List (List UInt8)) =>
 (LoopP (S := Int × Int × List OpV × List (List UInt8)) (fun s2 Kb2 Kx2 =>
 (((decide (s2.2.1 < s2.1)) = true →
 ((inB s2.2.1 (List.length s2.2.2.2)) ∧
 (Mi_ParseOp (gS s2.2.2.2 s2.2.1) fun (y3 : Int) (y4 : Int) (y5 : Int) (y6 : Bool) =>
 (((!y6) = true →
 (K false [])) ∧
 ((!y6) = false →
 ((((len s2.2.2.1) == 12) = true →
 (K false [])) ∧
 (((len s2.2.2.1) == 12) = false →
 ((List.length s2.2.2.1 + List.length ([(OpV.mk y3 y4 y5)] : List OpV) ≤ 2 ^ 36) ∧
 (Kb2 (s2.1, (iadd s2.2.1 1), (s2.2.2.1 ++ [(OpV.mk y3 y4 y5)]), s2.2.2.2)))))))))) ∧
 ((decide (s2.2.1 < s2.1)) = false →
 (Kx2 (s2.1, s2.2.1, s2.2.2.1, s2.2.2.2)))))
 ((len y1), 0, [], y1) fun s2 =>
 (K true s2.2.2.1)))))
/-! spec.l13Cut -/
def Ms_l13Cut (p1 : List UInt8) (p2 : Int) (K : (List (List UInt8)) → Prop) : Prop :=
 (LoopP (S := List UInt8 × Int × Int × Int × List (List UInt8)) (fun s1 Kb1 Kx1 =>
 (((decide (s1.2.2.2.1 ≤ (len s1.1))) = true →
 (((s1.2.2.2.1 == (len s1.1)) = true →
 (((0 : Int) ≤ s1.2.2.1 ∧ s1.2.2.1 ≤ s1.2.2.2.1 ∧ s1.2.2.2.1 ≤ len s1.1) ∧
 ((List.length s1.2.2.2.2 + List.length ([(sub s1.1 s1.2.2.1 s1.2.2.2.1)] : List (List UInt8)) ≤ 2 ^ 36) ∧
 (Kb1 (s1.1, s1.2.1, (iadd s1.2.2.2.1 1), (iadd s1.2.2.2.1 1), (s1.2.2.2.2 ++ [(sub s1.1 s1.2.2.1 s1.2.2.2.1)])))))) ∧
 ((s1.2.2.2.1 == (len s1.1)) = false →
 ((inB s1.2.2.2.1 (List.length s1.1)) ∧
 ((((gC s1.1 s1.2.2.2.1) == s1.2.1) = true →
 (((0 : Int) ≤ s1.2.2.1 ∧ s1.2.2.1 ≤ s1.2.2.2.1 ∧ s1.2.2.2.1 ≤ len s1.1) ∧
 ((List.length s1.2.2.2.2 + List.length ([(sub s1.1 s1.2.2.1 s1.2.2.2.1)] : List (List UInt8)) ≤ 2 ^ 36) ∧
 (Kb1 (s1.1, s1.2.1, (iadd s1.2.2.2.1 1), (iadd s1.2.2.2.1 1), (s1.2.2.2.2 ++ [(sub s1.1 s1.2.2.1 s1.2.2.2.1)])))))) ∧
 (((gC s1.1 s1.2.2.2.1) == s1.2.1) = false →
 (Kb1 (s1.1, s1.2.1, s1.2.2.1, (iadd s1.2.2.2.1 1), s1.2.2.2.2)))))))) ∧
 ((decide (s1.2.2.2.1 ≤ (len s1.1))) = false →
 (Kx1 (s1.1, s1.2.1, s1.2.2.1, s1.2.2.2.1, s1.2.2.2.2)))))
 (p1, p2, 0, 0, []) fun s1 =>
 (K s1.2.2.2.2))
/-! spec.l1Read -/
def Ms_l1Read (p1 : Int) (K : Int → Bool → Prop) : Prop :=
 (((p1 == 45) = true →
 (K (-1) true)) ∧
 ((p1 == 45) = false →
 (((decide (p1 ≥ 48)) = true →
 (K (isub (IntKind.wrap .i64 p1) 48) (decide (p1 ≤ 55)))) ∧
 ((decide (p1 ≥ 48)) = false →
 (K (isub (IntKind.wrap .i64 p1) 48) false)))))
/-! spec.l1Points -/
def Ms_l1Points (p1 : Int) (p2 : Int) (K : Bool → Prop) : Prop :=
 (((decide (p1 ≥ (-1))) = true →
 (K (decide (p1 < p2)))) ∧
 ((decide (p1 ≥ (-1))) = false →
 (K false)))
/-! spec.HeapValid -/
def Ms_HeapValid (p1 : List Int) (p2 : List Int) (p3 : List Int) (K : Bool → Prop) : Prop :=
 (((decide ((len p1) < 1)) = true →
 (K false)) ∧
 ((decide ((len p1) < 1)) = false →
 (((decide ((len p1) > 8)) = true →
 (K false)) ∧
 ((decide ((len p1) > 8)) = false →
 ((((len p2) != (len p1)) = true →
 (K false)) ∧
 (((len p2) != (len p1)) = false →
 (((decide ((len p3) < 1)) = true →
 (K false)) ∧
 ((decide ((len p3) < 1)) = false →
 (((decide ((len p3) > 3)) = true →
 (K false)) ∧
 ((decide ((len p3) > 3)) = false →
 (LoopP (S := Int × Int × List Int × List Int × List Int) (fun s1 Kb1 Kx1 =>
 (((decide (s1.2.1 < s1.1)) = true →
 ((inB s1.2.1 (List.length s1.2.2.1)) ∧
 (Ms_l1Points (gI s1.2.2.1 s1.2.1) s1.1 fun (y2 : Bool) =>
 (((!y2) = true →
 (K false)) ∧
 ((!y2) = false →
 ((inB s1.2.1 (List.length s1.2.2.2.1)) ∧
 (Ms_l1Points (gI s1.2.2.2.1 s1.2.1) s1.1 fun (y3 : Bool) =>
 (((!y3) = true →
 (K false)) ∧
 ((!y3) = false →
 (Kb1 (s1.1, (iadd s1.2.1 1), s1.2.2.1, s1.2.2.2.1, s1.2.2.2.2))))))))))) ∧
 ((decide (s1.2.1 < s1.1)) = false →
 (Kx1 (s1.1, s1.2.1, s1.2.2.1, s1.2.2.2.1, s1.2.2.2.2)))))
 ((len p1), 0, p1, p2, p3) fun s1 =>
 (LoopP (S := Int × Int × List Int × List Int × List Int) (fun s4 Kb4 Kx4 =>
 (((decide (s4.2.1 < (len s4.2.2.2.2))) = true →
 ((inB s4.2.1 (List.length s4.2.2.2.2)) ∧
 (Ms_l1Points (gI s4.2.2.2.2 s4.2.1) s4.1 fun (y5 : Bool) =>
 (((!y5) = true →
 (K false)) ∧
 ((!y5) = false →
 (Kb4 (s4.1, (iadd s4.2.1 1), s4.2.2.1, s4.2.2.2.1, s4.2.2.2.2))))))) ∧
 ((decide (s4.2.1 < (len s4.2.2.2.2))) = false →
 (Kx4 (s4.1, s4.2.1, s4.2.2.1, s4.2.2.2.1, s4.2.2.2.2)))))
 (s1.1, 0, s1.2.2.1, s1.2.2.2.1, s1.2.2.2.2) fun s4 =>
 (K true)))))))))))))
/-! spec.l13Dec -/
def Ms_l13Dec (p1 : Int) (K : (List UInt8) → Prop) : Prop :=
 (((decide (p1 < (-9223372036854775807))) = true →
 (K [45, 57, 50, 50, 51, 51, 55, 50, 48, 51, 54, 56, 53, 52, 55, 55, 53, 56, 48, 56])) ∧
 ((decide (p1 < (-9223372036854775807))) = false →
 (((decide (p1 < 0)) = true →
 False) ∧
 ((decide (p1 < 0)) = false →
 (LoopP (S := Int × List UInt8) (fun s1 Kb1 Kx1 =>
 (((decide (s1.1 > 9)) = true →
 (((10 : Int) ≠ 0) ∧
 ((0 < List.length [(IntKind.wrap .u8 (iadd 48 (Int.tmod s1.1 10)))]) ∧
 ((List.length (bytesOf [(IntKind.wrap .u8 (iadd 48 (Int.tmod s1.1 10)))]) + List.length s1.2 ≤ 2 ^ 62) ∧
 (let v2 : List UInt8 := ((bytesOf [(IntKind.wrap .u8 (iadd 48 (Int.tmod s1.1 10)))]) ++ s1.2);
 (((10 : Int) ≠ 0) ∧
 (Kb1 ((iquo s1.1 10), v2)))))))) ∧
 ((decide (s1.1 > 9)) = false →
 (Kx1 (s1.1, s1.2)))))
 (p1, ([] : List UInt8)) fun s1 =>
 ((0 < List.length [(IntKind.wrap .u8 (iadd 48 s1.1))]) ∧
 ((List.length (bytesOf [(IntKind.wrap .u8 (iadd 48 s1.1))]) + List.length s1.2 ≤ 2 ^ 62) ∧
 (K ((bytesOf [(IntKind.wrap .u8 (iadd 48 s1.1))]) ++ s1.2)))))))))
/-! spec.l1Sign -/
def Ms_l1Sign (p1 : Int) (K : (List UInt8) → Prop) : Prop :=
 (((p1 == (-1)) = true →
 (K [45])) ∧
 ((p1 == (-1)) = false →
 (Ms_l13Dec p1 fun (y1 : List UInt8) =>
 (K y1))))
/-! spec.FormatHeap -/
def Ms_FormatHeap (p1 : List Int) (p2 : List Int) (p3 : List Int) (K : (List UInt8) → Prop) : Prop :=
 (Ms_HeapValid p1 p2 p3 fun (y1 : Bool) =>
 (((!y1) = true →
 (K ([] : List UInt8))) ∧
 ((!y1) = false →
 (LoopP (S := List UInt8 × Int × List Int × List Int × List Int) (fun s2 Kb2 Kx2 =>
 (((decide (s2.2.1 < (len s2.2.2.1))) = true →
 ((inB s2.2.1 (List.length s2.2.2.1)) ∧
 (Ms_l1Sign (gI s2.2.2.1 s2.2.1) fun (y3 : List UInt8) =>
 ((List.length s2.1 + List.length y3 ≤ 2 ^ 62) ∧
 ((inB s2.2.1 (List.length s2.2.2.2.1)) ∧
 (Ms_l1Sign (gI s2.2.2.2.1 s2.2.1) fun (y4 : List UInt8) =>
 ((List.length (s2.1 ++ y3) + List.length y4 ≤ 2 ^ 62) ∧
 ((List.length ((s2.1 ++ y3) ++ y4) + List.length [32] ≤ 2 ^ 62) ∧
 (Kb2 ((((s2.1 ++ y3) ++ y4) ++ [32]), (iadd s2.2.1 1), s2.2.2.1, s2.2.2.2.1, s2.2.2.2.2)))))))))) ∧
 ((decide (s2.2.1 < (len s2.2.2.1))) = false →
 (Kx2 (s2.1, s2.2.1, s2.2.2.1, s2.2.2.2.1, s2.2.2.2.2)))))
 (([] : List UInt8), 0, p1, p2, p3) fun s2 =>
 ((List.length s2.1 + List.length [47] ≤ 2 ^ 62) ∧
 (LoopP (S := List UInt8 × Int × List Int × List Int × List Int) (fun s5 Kb5 Kx5 =>
 (((decide (s5.2.1 < (len s5.2.2.2.2))) = true →
 ((List.length s5.1 + List.length [32] ≤ 2 ^ 62) ∧
 ((inB s5.2.1 (List.length s5.2.2.2.2)) ∧
 (Ms_l1Sign (gI s5.2.2.2.2 s5.2.1) fun (y6 : List UInt8) =>
 ((List.length (s5.1 ++ [32]) + List.length y6 ≤ 2 ^ 62) ∧
 (Kb5 (((s5.1 ++ [32]) ++ y6), (iadd s5.2.1 1), s5.2.2.1, s5.2.2.2.1, s5.2.2.2.2))))))) ∧
 ((decide (s5.2.1 < (len s5.2.2.2.2))) = false →
 (Kx5 (s5.1, s5.2.1, s5.2.2.1, s5.2.2.2.1, s5.2.2.2.2)))))
 ((s2.1 ++ [47]), 0, s2.2.2.1, s2.2.2.2.1, s2.2.2.2.2) fun s5 =>
 (K s5.1)))))))
/-! spec.ParseHeap -/
def Ms_ParseHeap (p1 : List UInt8) (K : Bool → (List Int) → (List Int) → (List Int) → Prop) : Prop :=
 (Ms_l13Cut p1 32 fun (y1 : List (List UInt8)) =>
 (LoopP (S := List UInt8 × Bool × Int × List (List UInt8) × List Int × List Int × List Int × List Int × List Int × List Int) (fun s2 Kb2 Kx2 =>
 (((decide (s2.2.2.1 < (len s2.2.2.2.1))) = true →
 (((decide (s2.2.2.1 < 16)) = true →
 (let j39 := fun (z38 : List Int) =>
 (Kb2 (s2.1, s2.2.1, (iadd s2.2.2.1 1), s2.2.2.2.1, s2.2.2.2.2.1, s2.2.2.2.2.2.1, s2.2.2.2.2.2.2.1, s2.2.2.2.2.2.2.2.1, s2.2.2.2.2.2.2.2.2.1, z38));
 (let j44 := fun (z41 : List Int) (z43 : List Int) =>
 (Kb2 (s2.1, s2.2.1, (iadd s2.2.2.1 1), s2.2.2.2.1, s2.2.2.2.2.1, s2.2.2.2.2.2.1, s2.2.2.2.2.2.2.1, z41, z43, s2.2.2.2.2.2.2.2.2.2));
 ((inB s2.2.2.1 (List.length s2.2.2.2.1)) ∧
 ((((gS s2.2.2.2.1 s2.2.2.1) == [47]) = true →
 (((!s2.2.1) = true →
 (Kb2 (s2.1, true, (iadd s2.2.2.1 1), s2.2.2.2.1, s2.2.2.2.2.1, s2.2.2.2.2.2.1, s2.2.2.2.2.2.2.1, s2.2.2.2.2.2.2.2.1, s2.2.2.2.2.2.2.2.2.1, s2.2.2.2.2.2.2.2.2.2))) ∧
 ((!s2.2.1) = false →
 ((s2.2.1 = true →
 ((((len (gS s2.2.2.2.1 s2.2.2.1)) == 1) = true →
 ((inB 0 (List.length (gS s2.2.2.2.1 s2.2.2.1))) ∧
 (Ms_l1Read (gC (gS s2.2.2.2.1 s2.2.2.1) 0) fun (y3 : Int) (y4 : Bool) =>
 (((!y4) = true →
 (K false [] [] [])) ∧
 ((!y4) = false →
 ((List.length s2.2.2.2.2.2.2.2.2.2 + List.length ([y3] : List Int) ≤ 2 ^ 36) ∧
 (j39 (s2.2.2.2.2.2.2.2.2.2 ++ [y3])))))))) ∧
 (((len (gS s2.2.2.2.1 s2.2.2.1)) == 1) = false →
 (((!s2.2.1) = true →
 ((((len (gS s2.2.2.2.1 s2.2.2.1)) == 2) = true →
 ((inB 0 (List.length (gS s2.2.2.2.1 s2.2.2.1))) ∧
 (Ms_l1Read (gC (gS s2.2.2.2.1 s2.2.2.1) 0) fun (y5 : Int) (y6 : Bool) =>
 ((inB 1 (List.length (gS s2.2.2.2.1 s2.2.2.1))) ∧
 (Ms_l1Read (gC (gS s2.2.2.2.1 s2.2.2.1) 1) fun (y7 : Int) (y8 : Bool) =>
 (((!y6) = true →
 (K false [] [] [])) ∧
 ((!y6) = false →
 (((!y8) = true →
 (K false [] [] [])) ∧
 ((!y8) = false →
 ((List.length s2.2.2.2.2.2.2.2.1 + List.length ([y5] : List Int) ≤ 2 ^ 36) ∧
 ((List.length s2.2.2.2.2.2.2.2.2.1 + List.length ([y7] : List Int) ≤ 2 ^ 36) ∧
 (j44 (s2.2.2.2.2.2.2.2.1 ++ [y5]) (s2.2.2.2.2.2.2.2.2.1 ++ [y7]))))))))))))) ∧
 (((len (gS s2.2.2.2.1 s2.2.2.1)) == 2) = false →
 (K false [] [] [])))) ∧
 ((!s2.2.1) = false →
 (K false [] [] [])))))) ∧
 (s2.2.1 = false →
 (((!s2.2.1) = true →
 ((((len (gS s2.2.2.2.1 s2.2.2.1)) == 2) = true →
 ((inB 0 (List.length (gS s2.2.2.2.1 s2.2.2.1))) ∧
 (Ms_l1Read (gC (gS s2.2.2.2.1 s2.2.2.1) 0) fun (y9 : Int) (y10 : Bool) =>
 ((inB 1 (List.length (gS s2.2.2.2.1 s2.2.2.1))) ∧
 (Ms_l1Read (gC (gS s2.2.2.2.1 s2.2.2.1) 1) fun (y11 : Int) (y12 : Bool) =>
 (((!y10) = true →
 (K false [] [] [])) ∧
 ((!y10) = false →
 (((!y12) = true →
 (K false [] [] [])) ∧
 ((!y12) = false →
 ((List.length s2.2.2.2.2.2.2.2.1 + List.length ([y9] : List Int) ≤ 2 ^ 36) ∧
 ((List.length s2.2.2.2.2.2.2.2.2.1 + List.length ([y11] : List Int) ≤ 2 ^ 36) ∧
 (j44 (s2.2.2.2.2.2.2.2.1 ++ [y9]) (s2.2.2.2.2.2.2.2.2.1 ++ [y11]))))))))))))) ∧
 (((len (gS s2.2.2.2.1 s2.2.2.1)) == 2) = false →
 (K false [] [] [])))) ∧
 ((!s2.2.1) = false →
 (K false [] [] [])))))))) ∧
 (((gS s2.2.2.2.1 s2.2.2.1) == [47]) = false →
 ((s2.2.1 = true →
 ((((len (gS s2.2.2.2.1 s2.2.2.1)) == 1) = true →
 ((inB 0 (List.length (gS s2.2.2.2.1 s2.2.2.1))) ∧
 (Ms_l1Read (gC (gS s2.2.2.2.1 s2.2.2.1) 0) fun (y13 : Int) (y14 : Bool) =>
 (((!y14) = true →
 (K false [] [] [])) ∧
 ((!y14) = false →
 ((List.length s2.2.2.2.2.2.2.2.2.2 + List.length ([y13] : List Int) ≤ 2 ^ 36) ∧
 (j39 (s2.2.2.2.2.2.2.2.2.2 ++ [y13])))))))) ∧
 (((len (gS s2.2.2.2.1 s2.2.2.1)) == 1) = false →
 (((!s2.2.1) = true →
 ((((len (gS s2.2.2.2.1 s2.2.2.1)) == 2) = true →
 ((inB 0 (List.length (gS s2.2.2.2.1 s2.2.2.1))) ∧
 (Ms_l1Read (gC (gS s2.2.2.2.1 s2.2.2.1) 0) fun (y15 : Int) (y16 : Bool) =>
 ((inB 1 (List.length (gS s2.2.2.2.1 s2.2.2.1))) ∧
 (Ms_l1Read (gC (gS s2.2.2.2.1 s2.2.2.1) 1) fun (y17 : Int) (y18 : Bool) =>
 (((!y16) = true →
 (K false [] [] [])) ∧
 ((!y16) = false →
 (((!y18) = true →
 (K false [] [] [])) ∧
 ((!y18) = false →
 ((List.length s2.2.2.2.2.2.2.2.1 + List.length ([y15] : List Int) ≤ 2 ^ 36) ∧
 ((List.length s2.2.2.2.2.2.2.2.2.1 + List.length ([y17] : List Int) ≤ 2 ^ 36) ∧
 (j44 (s2.2.2.2.2.2.2.2.1 ++ [y15]) (s2.2.2.2.2.2.2.2.2.1 ++ [y17]))))))))))))) ∧
 (((len (gS s2.2.2.2.1 s2.2.2.1)) == 2) = false →
 (K false [] [] [])))) ∧
 ((!s2.2.1) = false →
 (K false [] [] [])))))) ∧
 (s2.2.1 = false →
 (((!s2.2.1) = true →
 ((((len (gS s2.2.2.2.1 s2.2.2.1)) == 2) = true →
 ((inB 0 (List.length (gS s2.2.2.2.1 s2.2.2.1))) ∧
 (Ms_l1Read (gC (gS s2.2.2.2.1 s2.2.2.1) 0) fun (y19 : Int) (y20 : Bool) =>
 ((inB 1 (List.length (gS s2.2.2.2.1 s2.2.2.1))) ∧
 (Ms_l1Read (gC (gS s2.2.2.2.1 s2.2.2.1) 1) fun (y21 : Int) (y22 : Bool) =>
 (((!y20) = true →
 (K false [] [] [])) ∧
 ((!y20) = false →
 (((!y22) = true →
 (K false [] [] [])) ∧
 ((!y22) = false →
 ((List.length s2.2.2.2.2.2.2.2.1 + List.length ([y19] : List Int) ≤ 2 ^ 36) ∧
 ((List.length s2.2.2.2.2.2.2.2.2.1 + List.length ([y21] : List Int) ≤ 2 ^ 36) ∧
 (j44 (s2.2.2.2.2.2.2.2.1 ++ [y19]) (s2.2.2.2.2.2.2.2.2.1 ++ [y21]))))))))))))) ∧
 (((len (gS s2.2.2.2.1 s2.2.2.1)) == 2) = false →
 (K false [] [] [])))) ∧
 ((!s2.2.1) = false →
 (K false [] [] []))))))))))) ∧
 ((decide (s2.2.2.1 < 16)) = false →
 (Kx2 (s2.1, s2.2.1, s2.2.2.1, s2.2.2.2.1, s2.2.2.2.2.1, s2.2.2.2.2.2.1, s2.2.2.2.2.2.2.1, s2.2.2.2.2.2.2.2.1, s2.2.2.2.2.2.2.2.2.1, s2.2.2.2.2.2.2.2.2.2))))) ∧
 ((decide (s2.2.2.1 < (len s2.2.2.2.1))) = false →
 (Kx2 (s2.1, s2.2.1, s2.2.2.1, s2.2.2.2.1, s2.2.2.2.2.1, s2.2.2.2.2.2.1, s2.2.2.2.2.2.2.1, s2.2.2.2.2.2.2.2.1, s2.2.2.2.2.2.2.2.2.1, s2.2.2.2.2.2.2.2.2.2)))))
 (p1, false, 0, y1, [], [], [], [], [], []) fun s2 =>
 (Ms_HeapValid s2.2.2.2.2.2.2.2.1 s2.2.2.2.2.2.2.2.2.1 s2.2.2.2.2.2.2.2.2.2 fun (y45 : Bool) =>
 (((!y45) = true →
 (K false [] [] [])) ∧
 ((!y45) = false →
 (Ms_FormatHeap s2.2.2.2.2.2.2.2.1 s2.2.2.2.2.2.2.2.2.1 s2.2.2.2.2.2.2.2.2.2 fun (y46 : List UInt8) =>
 (((!(y46 == s2.1)) = true →
 (K false [] [] [])) ∧
 ((!(y46 == s2.1)) = false →
 (K true s2.2.2.2.2.2.2.2.1 s2.2.2.2.2.2.2.2.2.1 s2.2.2.2.2.2.2.2.2.2)))))))))
/-! spec.l5Word -/
def Ms_l5Word (p1 : Int) (K : (List UInt8) → Prop) : Prop :=
 (((decide (p1 < 1)) = true →
 (K ([] : List UInt8))) ∧
 ((decide (p1 < 1)) = false →
 (((decide (p1 > 7)) = true →
 (K ([] : List UInt8))) ∧
 ((decide (p1 > 7)) = false →
 ((inB p1 (List.length [([] : List UInt8), [110, 101, 119], [99, 111, 112, 121], [108, 101, 102, 116], [114, 105, 103, 104, 116], [112, 117, 116, 108, 101, 102, 116], [112, 117, 116, 114, 105, 103, 104, 116], [99, 108, 101, 97, 114]])) ∧
 (let v1 : List UInt8 := (gS [([] : List UInt8), [110, 101, 119], [99, 111, 112, 121], [108, 101, 102, 116], [114, 105, 103, 104, 116], [112, 117, 116, 108, 101, 102, 116], [112, 117, 116, 114, 105, 103, 104, 116], [99, 108, 101, 97, 114]] p1);
 (K v1)))))))
/-! spec.l5One -/
def Ms_l5One (p1 : Int) (K : Bool → Prop) : Prop :=
 (((p1 == 1) = true →
 (K true)) ∧
 ((p1 == 1) = false →
 (K (p1 == 7))))
/-! spec.OpValid -/
def Ms_OpValid (p1 : Int) (p2 : Int) (p3 : Int) (p4 : Int) (K : Bool → Prop) : Prop :=
 (Ms_l5Word p1 fun (y1 : List UInt8) =>
 (((y1 == ([] : List UInt8)) = true →
 (K false)) ∧
 ((y1 == ([] : List UInt8)) = false →
 (((decide (p2 < 0)) = true →
 (K false)) ∧
 ((decide (p2 < 0)) = false →
 (((decide (p2 ≥ p4)) = true →
 (K false)) ∧
 ((decide (p2 ≥ p4)) = false →
 (((decide (p2 ≥ 3)) = true →
 (K false)) ∧
 ((decide (p2 ≥ 3)) = false →
 (((decide (p3 < 0)) = true →
 (K false)) ∧
 ((decide (p3 < 0)) = false →
 (((decide (p3 ≥ 3)) = true →
 (K false)) ∧
 ((decide (p3 ≥ 3)) = false →
 (Ms_l5One p1 fun (y2 : Bool) =>
 ((y2 = true →
 (K (p3 == 0))) ∧
 (y2 = false →
 (K (decide (p3 < p4)))))))))))))))))))
/-! spec.FormatOp -/
def Ms_FormatOp (p1 : Int) (p2 : Int) (p3 : Int) (K : (List UInt8) → Prop) : Prop :=
 (Ms_OpValid p1 p2 p3 3 fun (y1 : Bool) =>
 (((!y1) = true →
 (K ([] : List UInt8))) ∧
 ((!y1) = false →
 (Ms_l5Word p1 fun (y2 : List UInt8) =>
 ((List.length y2 + List.length [32] ≤ 2 ^ 62) ∧
 (Ms_l13Dec p2 fun (y3 : List UInt8) =>
 ((List.length (y2 ++ [32]) + List.length y3 ≤ 2 ^ 62) ∧
 (Ms_l5One p1 fun (y4 : Bool) =>
 ((y4 = true →
 (K ((y2 ++ [32]) ++ y3))) ∧
 (y4 = false →
 ((List.length ((y2 ++ [32]) ++ y3) + List.length [32] ≤ 2 ^ 62) ∧
 (Ms_l13Dec p3 fun (y5 : List UInt8) =>
 ((List.length (((y2 ++ [32]) ++ y3) ++ [32]) + List.length y5 ≤ 2 ^ 62) ∧
 (K ((((y2 ++ [32]) ++ y3) ++ [32]) ++ y5)))))))))))))))
/-! spec.ParseOp -/
def Ms_ParseOp (p1 : List UInt8) (K : Int → Int → Int → Bool → Prop) : Prop :=
 (LoopP (S := List UInt8 × Int × Int × Int × Int) (fun s1 Kb1 Kx1 =>
 (((decide (s1.2.1 ≤ 7)) = true →
 (LoopP (S := List UInt8 × Int × Int × Int × Int × Int) (fun s2 Kb2 Kx2 =>
 (((decide (s2.2.2.1 < 3)) = true →
 (LoopP (S := List UInt8 × Int × Int × Int × Int × Int × Int) (fun s3 Kb3 Kx3 =>
 (((decide (s3.2.2.2.1 < 3)) = true →
 (((!(s3.1 == ([] : List UInt8))) = true →
 (Ms_FormatOp s3.2.1 s3.2.2.1 s3.2.2.2.1 fun (y4 : List UInt8) =>
 (((y4 == s3.1) = true →
 (K s3.2.1 s3.2.2.1 s3.2.2.2.1 true)) ∧
 ((y4 == s3.1) = false →
 (Kb3 (s3.1, s3.2.1, s3.2.2.1, (iadd s3.2.2.2.1 1), s3.2.2.2.2.1, s3.2.2.2.2.2.1, s3.2.2.2.2.2.2)))))) ∧
 ((!(s3.1 == ([] : List UInt8))) = false →
 (Kb3 (s3.1, s3.2.1, s3.2.2.1, (iadd s3.2.2.2.1 1), s3.2.2.2.2.1, s3.2.2.2.2.2.1, s3.2.2.2.2.2.2))))) ∧
 ((decide (s3.2.2.2.1 < 3)) = false →
 (Kx3 (s3.1, s3.2.1, s3.2.2.1, s3.2.2.2.1, s3.2.2.2.2.1, s3.2.2.2.2.2.1, s3.2.2.2.2.2.2)))))
 (s2.1, s2.2.1, s2.2.2.1, 0, s2.2.2.2.1, s2.2.2.2.2.1, s2.2.2.2.2.2) fun s3 =>
 (Kb2 (s3.1, s3.2.1, (iadd s3.2.2.1 1), s3.2.2.2.2.1, s3.2.2.2.2.2.1, s3.2.2.2.2.2.2)))) ∧
 ((decide (s2.2.2.1 < 3)) = false →
 (Kx2 (s2.1, s2.2.1, s2.2.2.1, s2.2.2.2.1, s2.2.2.2.2.1, s2.2.2.2.2.2)))))
 (s1.1, s1.2.1, 0, s1.2.2.1, s1.2.2.2.1, s1.2.2.2.2) fun s2 =>
 (Kb1 (s2.1, (iadd s2.2.1 1), s2.2.2.2.1, s2.2.2.2.2.1, s2.2.2.2.2.2)))) ∧
 ((decide (s1.2.1 ≤ 7)) = false →
 (Kx1 (s1.1, s1.2.1, s1.2.2.1, s1.2.2.2.1, s1.2.2.2.2)))))
 (p1, 1, 0, 0, 0) fun s1 =>
 (K 0 0 0 false))
/-! spec.ParseOps -/
def Ms_ParseOps (p1 : List UInt8) (K : Bool → (List OpV) → Prop) : Prop :=
 (((p1 == ([] : List UInt8)) = true →
 (K true [])) ∧
 ((p1 == ([] : List UInt8)) = false →
 (Ms_l13Cut p1 44 fun (y1 : List (List UInt8)) =>
 (LoopP (S := Int × List OpV × List (List UInt8)) (fun s2 Kb2 Kx2 =>
 (((decide (s2.1 < (len s2.2.2))) = true →
 (((decide (s2.1 ≤ 12)) = true →
 ((inB s2.1 (List.length s2.2.2)) ∧
 (let j10 : Prop :=
 (let j9 := fun (z4 : List UInt8) =>
 (Ms_ParseOp z4 fun (y5 : Int) (y6 : Int) (y7 : Int) (y8 : Bool) =>
 (((!y8) = true →
 (K false [])) ∧
 ((!y8) = false →
 ((List.length s2.2.1 + List.length ([(OpV.mk y5 y6 y7)] : List OpV) ≤ 2 ^ 36) ∧
 (Kb2 ((iadd s2.1 1), (s2.2.1 ++ [(OpV.mk y5 y6 y7)]), s2.2.2))))));
 (((decide (s2.1 > 0)) = true →
 (((0 : Int) ≤ (1 : Int) ∧ (1 : Int) ≤ (len (gS s2.2.2 s2.1)) ∧ (len (gS s2.2.2 s2.1)) ≤ len (gS s2.2.2 s2.1)) ∧
 (j9 (sub (gS s2.2.2 s2.1) (1 : Int) (len (gS s2.2.2 s2.1)))))) ∧
 ((decide (s2.1 > 0)) = false →
 (j9 (gS s2.2.2 s2.1)))));
 (((decide (s2.1 > 0)) = true →
 ((((gS s2.2.2 s2.1) == ([] : List UInt8)) = true →
 (K false [])) ∧
 (((gS s2.2.2 s2.1) == ([] : List UInt8)) = false →
 ((inB 0 (List.length (gS s2.2.2 s2.1))) ∧
 ((((gC (gS s2.2.2 s2.1) 0) != 32) = true →
 (K false [])) ∧
 (((gC (gS s2.2.2 s2.1) 0) != 32) = false →
 j10)))))) ∧
 ((decide (s2.1 > 0)) = false →
 j10))))) ∧
 ((decide (s2.1 ≤ 12)) = false →
 (Kx2 (s2.1, s2.2.1, s2.2.2))))) ∧
 ((decide (s2.1 < (len s2.2.2))) = false →
 (Kx2 (s2.1, s2.2.1, s2.2.2)))))
 (0, [], y1) fun s2 =>
 (((decide ((len s2.2.2) > 12)) = true →
 (K false [])) ∧
 ((decide ((len s2.2.2) > 12)) = false →
 (K true s2.2.1)))))))
/-! impl.opsOk -/
def Mi_opsOk (p1 : List OpV) (p2 : Int) (K : Bool → Prop) : Prop :=
 (LoopP (S := List OpV × Int × List OpV × Int × Int) (fun s1 Kb1 Kx1 =>
 (((decide (s1.2.2.2.2 < s1.2.2.2.1)) = true →
 ((inB s1.2.2.2.2 (List.length s1.2.2.1)) ∧
 (Mi_OpValid ((gO s1.2.2.1 s1.2.2.2.2).kind) ((gO s1.2.2.1 s1.2.2.2.2).a) ((gO s1.2.2.1 s1.2.2.2.2).b) s1.2.1 fun (y2 : Bool) =>
 (((!y2) = true →
 (K false)) ∧
 ((!y2) = false →
 (Kb1 (s1.1, s1.2.1, s1.2.2.1, s1.2.2.2.1, (iadd s1.2.2.2.2 1)))))))) ∧
 ((decide (s1.2.2.2.2 < s1.2.2.2.1)) = false →
 (Kx1 (s1.1, s1.2.1, s1.2.2.1, s1.2.2.2.1, s1.2.2.2.2)))))
 (p1, p2, p1, (len p1), 0) fun s1 =>
 (K (decide ((len s1.1) ≤ 12))))
def M_strings_Join (p1 : List (List UInt8)) (p2 : List UInt8) (K : List UInt8 → Prop) : Prop :=
 (p1.length ≤ 140737488355328 ∧ (Lib.join p1 p2).length ≤ 140737488355328) ∧ K (Lib.join p1 p2)
/-! impl.FormatOps -/
def Mi_FormatOps (p1 : List OpV) (K : (List UInt8) → Prop) : Prop :=
 (Mi_opsOk p1 3 fun (y1 : Bool) =>
 (((!y1) = true →
 (K ([] : List UInt8))) ∧
 ((!y1) = false →
 (LoopP (S := List OpV × Int × Int × List (List UInt8)) (fun s2 Kb2 Kx2 =>
 (((decide (s2.2.2.1 < s2.2.1)) = true →
 ((inB s2.2.2.1 (List.length s2.1)) ∧
 (Mi_FormatOp ((gO s2.1 s2.2.2.1).kind) ((gO s2.1 s2.2.2.1).a) ((gO s2.1 s2.2.2.1).b) fun (y3 : List UInt8) =>
 ((List.length s2.2.2.2 + List.length ([y3] : List (List UInt8)) ≤ 2 ^ 36) ∧
 (Kb2 (s2.1, s2.2.1, (iadd s2.2.2.1 1), (s2.2.2.2 ++ [y3]))))))) ∧
 ((decide (s2.2.2.1 < s2.2.1)) = false →
 (Kx2 (s2.1, s2.2.1, s2.2.2.1, s2.2.2.2)))))
 (p1, (len p1), 0, []) fun s2 =>
 (M_strings_Join s2.2.2.2 [44, 32] fun (y4 : List UInt8) =>
 (K y4))))))
/-! slices.Grow[[]int,int] -/
def M_Grow_int (p1 : Int) (K : (List Int) → Prop) : Prop :=
 (((decide (p1 < 0)) = true →
 False) ∧
 ((decide (p1 < 0)) = false →
 (((decide ((isub p1 (isub 0 0)) > 0)) = true →
 (((0 : Int) = 0 ∧ (0 : Int) = 0) ∧
 (((0 : Int) < (isub p1 (isub 0 0)) ∧ (isub p1 (isub 0 0)) ≤ 2 ^ 36) ∧
 (((0 : Int) ≤ (0 : Int) ∧ (0 : Int) ≤ (0 : Int) ∧ (0 : Int) ≤ len (List.replicate (Int.toNat (isub p1 (isub 0 0))) (0 : Int))) ∧
 (let v1 : List Int := (sub (List.replicate (Int.toNat (isub p1 (isub 0 0))) (0 : Int)) (0 : Int) (0 : Int));
 (K v1)))))) ∧
 ((decide ((isub p1 (isub 0 0)) > 0)) = false →
 (K [])))))
/-! slices.Concat[[]int,int] -/
def M_Concat_int (p1 : List (List Int)) (K : (List Int) → Prop) : Prop :=
 (LoopP (S := List (List Int) × Int × List (List Int) × Int × Int) (fun s1 Kb1 Kx1 =>
 (((decide (s1.2.2.2.2 < s1.2.2.2.1)) = true →
 ((inB s1.2.2.2.2 (List.length s1.2.2.1)) ∧
 (((decide ((iadd s1.2.1 (len (gL s1.2.2.1 s1.2.2.2.2))) < 0)) = true →
 False) ∧
 ((decide ((iadd s1.2.1 (len (gL s1.2.2.1 s1.2.2.2.2))) < 0)) = false →
 (Kb1 (s1.1, (iadd s1.2.1 (len (gL s1.2.2.1 s1.2.2.2.2))), s1.2.2.1, s1.2.2.2.1, (iadd s1.2.2.2.2 1))))))) ∧
 ((decide (s1.2.2.2.2 < s1.2.2.2.1)) = false →
 (Kx1 (s1.1, s1.2.1, s1.2.2.1, s1.2.2.2.1, s1.2.2.2.2)))))
 (p1, 0, p1, (len p1), 0) fun s1 =>
 (M_Grow_int s1.2.1 fun (y2 : List Int) =>
 (LoopP (S := List (List Int) × Int × Int × List Int) (fun s3 Kb3 Kx3 =>
 (((decide (s3.2.2.1 < s3.2.1)) = true →
 ((inB s3.2.2.1 (List.length s3.1)) ∧
 ((List.length s3.2.2.2 + List.length (gL s3.1 s3.2.2.1) ≤ 2 ^ 36) ∧
 (Kb3 (s3.1, s3.2.1, (iadd s3.2.2.1 1), (s3.2.2.2 ++ (gL s3.1 s3.2.2.1))))))) ∧
 ((decide (s3.2.2.1 < s3.2.1)) = false →
 (Kx3 (s3.1, s3.2.1, s3.2.2.1, s3.2.2.2)))))
 (s1.1, (len s1.1), 0, y2) fun s3 =>
 (K s3.2.2.2))))
/-! impl.CountsOf -/
def Mi_CountsOf (p1 : List Int) (p2 : List Int) (p3 : List Int) (K : (List Int) → Prop) : Prop :=
 (Mi_HeapValid p1 p2 p3 fun (y1 : Bool) =>
 (((!y1) = true →
 (K [])) ∧
 ((!y1) = false →
 ((0 ≤ (len p1) ∧ (len p1) = (len p1) ∧ (len p1) ≤ 2 ^ 36) ∧
 (M_Concat_int [p1, p2, p3] fun (y2 : List Int) =>
 (LoopP (S := Int × Int × List Int × List Int) (fun s3 Kb3 Kx3 =>
 (((decide (s3.2.1 < s3.1)) = true →
 ((inB s3.2.1 (List.length s3.2.2.2)) ∧
 ((((gI s3.2.2.2 s3.2.1) != (-1)) = true →
 ((inB (gI s3.2.2.2 s3.2.1) (List.length s3.2.2.1)) ∧
 ((inB (gI s3.2.2.2 s3.2.1) (List.length s3.2.2.1)) ∧
 (let v4 : List Int := (uL s3.2.2.1 (gI s3.2.2.2 s3.2.1) (iadd (gI s3.2.2.1 (gI s3.2.2.2 s3.2.1)) 1));
 (Kb3 (s3.1, (iadd s3.2.1 1), v4, s3.2.2.2)))))) ∧
 (((gI s3.2.2.2 s3.2.1) != (-1)) = false →
 (Kb3 (s3.1, (iadd s3.2.1 1), s3.2.2.1, s3.2.2.2)))))) ∧
 ((decide (s3.2.1 < s3.1)) = false →
 (Kx3 (s3.1, s3.2.1, s3.2.2.1, s3.2.2.2)))))
 ((len y2), 0, (List.replicate (Int.toNat (len p1)) (0 : Int)), y2) fun s3 =>
 (K s3.2.2.1)))))))
/-! slices.Index[[]int,int] -/
def M_Index_int (p1 : List Int) (p2 : Int) (K : Int → Prop) : Prop :=
 (LoopP (S := List Int × Int × Int × Int) (fun s1 Kb1 Kx1 =>
 (((decide (s1.2.2.2 < s1.2.2.1)) = true →
 ((inB s1.2.2.2 (List.length s1.1)) ∧
 (((s1.2.1 == (gI s1.1 s1.2.2.2)) = true →
 (K s1.2.2.2)) ∧
 ((s1.2.1 == (gI s1.1 s1.2.2.2)) = false →
 (Kb1 (s1.1, s1.2.1, s1.2.2.1, (iadd s1.2.2.2 1))))))) ∧
 ((decide (s1.2.2.2 < s1.2.2.1)) = false →
 (Kx1 (s1.1, s1.2.1, s1.2.2.1, s1.2.2.2)))))
 (p1, p2, (len p1), 0) fun s1 =>
 (K (-1)))
/-! slices.Contains[[]int,int] -/
def M_Contains_int (p1 : List Int) (p2 : Int) (K : Bool → Prop) : Prop :=
 (M_Index_int p1 p2 fun (y1 : Int) =>
 (K (decide (y1 ≥ 0))))
/-! impl.StoreValid -/
def Mi_StoreValid (p1 : List Int) (p2 : List Int) (p3 : List Int) (p4 : List Int) (K : Bool → Prop) : Prop :=
 (Mi_HeapValid p1 p2 p3 fun (y1 : Bool) =>
 (((!y1) = true →
 (K false)) ∧
 ((!y1) = false →
 (Mi_CountsOf p1 p2 p3 fun (y2 : List Int) =>
 (LoopP (S := List Int × Int × Int × List Int × List Int × List Int × List Int × List Int) (fun s3 Kb3 Kx3 =>
 (((decide (s3.2.2.1 < s3.2.1)) = true →
 ((inB s3.2.2.1 (List.length s3.1)) ∧
 (((decide ((gI s3.1 s3.2.2.1) < 0)) = true →
 (K false)) ∧
 ((decide ((gI s3.1 s3.2.2.1) < 0)) = false →
 (((decide ((gI s3.1 s3.2.2.1) ≥ (len s3.2.2.2.2.2.2.2))) = true →
 (K false)) ∧
 ((decide ((gI s3.1 s3.2.2.1) ≥ (len s3.2.2.2.2.2.2.2))) = false →
 ((inB (gI s3.1 s3.2.2.1) (List.length s3.2.2.2.2.2.2.2)) ∧
 (((decide ((gI s3.2.2.2.2.2.2.2 (gI s3.1 s3.2.2.1)) > 0)) = true →
 (K false)) ∧
 ((decide ((gI s3.2.2.2.2.2.2.2 (gI s3.1 s3.2.2.1)) > 0)) = false →
 ((inB (gI s3.1 s3.2.2.1) (List.length s3.2.2.2.1)) ∧
 ((((gI s3.2.2.2.1 (gI s3.1 s3.2.2.1)) != (-1)) = true →
 (K false)) ∧
 (((gI s3.2.2.2.1 (gI s3.1 s3.2.2.1)) != (-1)) = false →
 ((inB (gI s3.1 s3.2.2.1) (List.length s3.2.2.2.2.1)) ∧
 ((((gI s3.2.2.2.2.1 (gI s3.1 s3.2.2.1)) != (-1)) = true →
 (K false)) ∧
 (((gI s3.2.2.2.2.1 (gI s3.1 s3.2.2.1)) != (-1)) = false →
 (((0 : Int) ≤ (0 : Int) ∧ (0 : Int) ≤ s3.2.2.1 ∧ s3.2.2.1 ≤ len s3.2.2.2.2.2.2.1) ∧
 (M_Contains_int (sub s3.2.2.2.2.2.2.1 (0 : Int) s3.2.2.1) (gI s3.1 s3.2.2.1) fun (y4 : Bool) =>
 ((y4 = true →
 (K false)) ∧
 (y4 = false →
 (Kb3 (s3.1, s3.2.1, (iadd s3.2.2.1 1), s3.2.2.2.1, s3.2.2.2.2.1, s3.2.2.2.2.2.1, s3.2.2.2.2.2.2.1, s3.2.2.2.2.2.2.2))))))))))))))))))))) ∧
 ((decide (s3.2.2.1 < s3.2.1)) = false →
 (Kx3 (s3.1, s3.2.1, s3.2.2.1, s3.2.2.2.1, s3.2.2.2.2.1, s3.2.2.2.2.2.1, s3.2.2.2.2.2.2.1, s3.2.2.2.2.2.2.2)))))
 (p4, (len p4), 0, p1, p2, p3, p4, y2) fun s3 =>
 (K true))))))
/-! impl.distances$1 -/
def Mi_distances_1 (p1 : Int) (p2 : Int) (p3 : List Int) (p4 : List Int) (K : (List Int) → (List Int) → Prop) : Prop :=
 (((p1 != (-1)) = true →
 ((inB p1 (List.length p3)) ∧
 ((((gI p3 p1) == 0) = true →
 ((inB p1 (List.length p3)) ∧
 ((List.length p4 + List.length ([p1] : List Int) ≤ 2 ^ 36) ∧
 (K (uL p3 p1 p2) (p4 ++ [p1]))))) ∧
 (((gI p3 p1) == 0) = false →
 (K p3 p4))))) ∧
 ((p1 != (-1)) = false →
 (K p3 p4)))
/-! impl.distances -/
def Mi_distances (p1 : List Int) (p2 : List Int) (p3 : List Int) (K : (List Int) → Prop) : Prop :=
 ((0 ≤ (len p1) ∧ (len p1) = (len p1) ∧ (len p1) ≤ 2 ^ 36) ∧
 (LoopP (S := List Int × Int × Int × List Int × List Int × List Int × List Int × List Int) (fun s1 Kb1 Kx1 =>
 (((decide (s1.2.2.1 < s1.2.1)) = true →
 ((inB s1.2.2.1 (List.length s1.1)) ∧
 (Mi_distances_1 (gI s1.1 s1.2.2.1) 1 s1.2.2.2.2.2.2.1 s1.2.2.2.2.2.2.2 fun (y2 : List Int) (y3 : List Int) =>
 (Kb1 (s1.1, s1.2.1, (iadd s1.2.2.1 1), s1.2.2.2.1, s1.2.2.2.2.1, s1.2.2.2.2.2.1, y2, y3))))) ∧
 ((decide (s1.2.2.1 < s1.2.1)) = false →
 (Kx1 (s1.1, s1.2.1, s1.2.2.1, s1.2.2.2.1, s1.2.2.2.2.1, s1.2.2.2.2.2.1, s1.2.2.2.2.2.2.1, s1.2.2.2.2.2.2.2)))))
 (p3, (len p3), 0, p1, p2, p3, (List.replicate (Int.toNat (len p1)) (0 : Int)), []) fun s1 =>
 (LoopP (S := Int × List Int × List Int × List Int × List Int × List Int) (fun s4 Kb4 Kx4 =>
 (((decide (s4.1 < (len s4.2.2.2.2.2))) = true →
 ((inB s4.1 (List.length s4.2.2.2.2.2)) ∧
 ((inB (gI s4.2.2.2.2.2 s4.1) (List.length s4.2.1)) ∧
 ((inB s4.1 (List.length s4.2.2.2.2.2)) ∧
 ((inB (gI s4.2.2.2.2.2 s4.1) (List.length s4.2.2.2.2.1)) ∧
 (Mi_distances_1 (gI s4.2.1 (gI s4.2.2.2.2.2 s4.1)) (iadd (gI s4.2.2.2.2.1 (gI s4.2.2.2.2.2 s4.1)) 1) s4.2.2.2.2.1 s4.2.2.2.2.2 fun (y5 : List Int) (y6 : List Int) =>
 ((inB s4.1 (List.length y6)) ∧
 ((inB (gI y6 s4.1) (List.length s4.2.2.1)) ∧
 ((inB s4.1 (List.length y6)) ∧
 ((inB (gI y6 s4.1) (List.length y5)) ∧
 (Mi_distances_1 (gI s4.2.2.1 (gI y6 s4.1)) (iadd (gI y5 (gI y6 s4.1)) 1) y5 y6 fun (y7 : List Int) (y8 : List Int) =>
 (Kb4 ((iadd s4.1 1), s4.2.1, s4.2.2.1, s4.2.2.2.1, y7, y8))))))))))))) ∧
 ((decide (s4.1 < (len s4.2.2.2.2.2))) = false →
 (Kx4 (s4.1, s4.2.1, s4.2.2.1, s4.2.2.2.1, s4.2.2.2.2.1, s4.2.2.2.2.2)))))
 (0, s1.2.2.2.1, s1.2.2.2.2.1, s1.2.2.2.2.2.1, s1.2.2.2.2.2.2.1, s1.2.2.2.2.2.2.2) fun s4 =>
 (K s4.2.2.2.2.1))))
/-! impl.Reachable -/
def Mi_Reachable (p1 : List Int) (p2 : List Int) (p3 : List Int) (K : (List Bool) → Prop) : Prop :=
 (Mi_HeapValid p1 p2 p3 fun (y1 : Bool) =>
 (((!y1) = true →
 (K [])) ∧
 ((!y1) = false →
 (Mi_distances p1 p2 p3 fun (y2 : List Int) =>
 (LoopP (S := Int × Int × List Bool × List Int) (fun s3 Kb3 Kx3 =>
 (((decide (s3.2.1 < s3.1)) = true →
 ((inB s3.2.1 (List.length s3.2.2.2)) ∧
 ((List.length s3.2.2.1 + List.length ([(decide ((gI s3.2.2.2 s3.2.1) > 0))] : List Bool) ≤ 2 ^ 36) ∧
 (Kb3 (s3.1, (iadd s3.2.1 1), (s3.2.2.1 ++ [(decide ((gI s3.2.2.2 s3.2.1) > 0))]), s3.2.2.2))))) ∧
 ((decide (s3.2.1 < s3.1)) = false →
 (Kx3 (s3.1, s3.2.1, s3.2.2.1, s3.2.2.2)))))
 ((len y2), 0, [], y2) fun s3 =>
 (K s3.2.2.1))))))
/-! impl.GarbageOf -/
def Mi_GarbageOf (p1 : List Int) (p2 : List Int) (p3 : List Int) (K : (List Int) → Prop) : Prop :=
 (Mi_Reachable p1 p2 p3 fun (y1 : List Bool) =>
 (LoopP (S := Int × Int × List Int × List Bool) (fun s2 Kb2 Kx2 =>
 (((decide (s2.2.1 < s2.1)) = true →
 ((inB s2.2.1 (List.length s2.2.2.2)) ∧
 (((!(gB s2.2.2.2 s2.2.1)) = true →
 ((List.length s2.2.2.1 + List.length ([s2.2.1] : List Int) ≤ 2 ^ 36) ∧
 (Kb2 (s2.1, (iadd s2.2.1 1), (s2.2.2.1 ++ [s2.2.1]), s2.2.2.2)))) ∧
 ((!(gB s2.2.2.2 s2.2.1)) = false →
 (Kb2 (s2.1, (iadd s2.2.1 1), s2.2.2.1, s2.2.2.2)))))) ∧
 ((decide (s2.2.1 < s2.1)) = false →
 (Kx2 (s2.1, s2.2.1, s2.2.2.1, s2.2.2.2)))))
 ((len y1), 0, [], y1) fun s2 =>
 (K s2.2.2.1)))
/-! impl.LeakedOf -/
def Mi_LeakedOf (p1 : List Int) (p2 : List Int) (p3 : List Int) (p4 : List Int) (K : (List Int) → Prop) : Prop :=
 (Mi_StoreValid p1 p2 p3 p4 fun (y1 : Bool) =>
 (((!y1) = true →
 (K [])) ∧
 ((!y1) = false →
 (Mi_GarbageOf p1 p2 p3 fun (y2 : List Int) =>
 (LoopP (S := Int × Int × List Int × List Int × List Int × List Int × List Int × List Int) (fun s3 Kb3 Kx3 =>
 (((decide (s3.2.1 < s3.1)) = true →
 ((inB s3.2.1 (List.length s3.2.2.2.2.2.2.2)) ∧
 (M_Contains_int s3.2.2.2.2.2.1 (gI s3.2.2.2.2.2.2.2 s3.2.1) fun (y4 : Bool) =>
 (((!y4) = true →
 ((List.length s3.2.2.2.2.2.2.1 + List.length ([(gI s3.2.2.2.2.2.2.2 s3.2.1)] : List Int) ≤ 2 ^ 36) ∧
 (Kb3 (s3.1, (iadd s3.2.1 1), s3.2.2.1, s3.2.2.2.1, s3.2.2.2.2.1, s3.2.2.2.2.2.1, (s3.2.2.2.2.2.2.1 ++ [(gI s3.2.2.2.2.2.2.2 s3.2.1)]), s3.2.2.2.2.2.2.2)))) ∧
 ((!y4) = false →
 (Kb3 (s3.1, (iadd s3.2.1 1), s3.2.2.1, s3.2.2.2.1, s3.2.2.2.2.1, s3.2.2.2.2.2.1, s3.2.2.2.2.2.2.1, s3.2.2.2.2.2.2.2))))))) ∧
 ((decide (s3.2.1 < s3.1)) = false →
 (Kx3 (s3.1, s3.2.1, s3.2.2.1, s3.2.2.2.1, s3.2.2.2.2.1, s3.2.2.2.2.2.1, s3.2.2.2.2.2.2.1, s3.2.2.2.2.2.2.2)))))
 ((len y2), 0, p1, p2, p3, p4, [], y2) fun s3 =>
 (K s3.2.2.2.2.2.2.1))))))
/-! slices.Clone[[]int,int] -/
def M_Clone_int (p1 : List Int) (K : (List Int) → Prop) : Prop :=
 (∀ b1 : Bool, ((List.length p1 : Nat) ≠ 0 → b1 = false) →
 ((b1 = true →
 (K [])) ∧
 (b1 = false →
 (((List.length p1 : Nat) ≤ 2 ^ 36) ∧
 (K p1)))))
/-! impl.copied -/
def Mi_copied (p1 : List Int) (p2 : List Int) (p3 : List Int) (K : (List Int) → (List Int) → (List Int) → Prop) : Prop :=
 (M_Clone_int p1 fun (y1 : List Int) =>
 (M_Clone_int p2 fun (y2 : List Int) =>
 (M_Clone_int p3 fun (y3 : List Int) =>
 (K y1 y2 y3))))
/-! impl.again -/
def Mi_again (p1 : List Int) (p2 : List Int) (p3 : List Int) (p4 : List Int) (K : (List Int) → (List Int) → (List Int) → (List Int) → Prop) : Prop :=
 (Mi_copied p1 p2 p3 fun (y1 : List Int) (y2 : List Int) (y3 : List Int) =>
 (M_Clone_int p4 fun (y4 : List Int) =>
 (K y1 y2 y3 y4)))
/-! (*impl.Store).clear -/
def Mi_Store_clear (p1 : List Int) (p2 : List Int) (p3 : List Int) (p4 : List Int) (p5 : List Int) (K : (List Int) → (List Int) → (List Int) → (List Int) → Prop) : Prop :=
 (LoopP (S := List Int × Int × Int × List Int × List Int × List Int × List Int) (fun s1 Kb1 Kx1 =>
 (((decide (s1.2.2.1 < s1.2.1)) = true →
 ((inB s1.2.2.1 (List.length s1.1)) ∧
 ((inB (gI s1.1 s1.2.2.1) (List.length s1.2.2.2.1)) ∧
 ((inB (gI s1.1 s1.2.2.1) (List.length s1.2.2.2.2.1)) ∧
 (LoopP (S := Int × List Int × Int × Int × Int × Int × List Int × List Int × List Int × List Int) (fun s2 Kb2 Kx2 =>
 (((decide (s2.2.2.2.2.2.1 < s2.2.2.2.2.1)) = true →
 (let j10 := fun (z8 : List Int) (z9 : List Int) =>
 (Kb2 (s2.1, s2.2.1, s2.2.2.1, s2.2.2.2.1, s2.2.2.2.2.1, (iadd s2.2.2.2.2.2.1 1), z8, z9, s2.2.2.2.2.2.2.2.2.1, s2.2.2.2.2.2.2.2.2.2));
 (let j5 := fun (z4 : List Int) =>
 ((inB s2.2.2.2.2.2.1 (List.length s2.2.2.2.2.2.2.2.1)) ∧
 ((((gI s2.2.2.2.2.2.2.2.1 s2.2.2.2.2.2.1) == s2.1) = true →
 ((inB s2.2.2.2.2.2.1 (List.length s2.2.2.2.2.2.2.2.1)) ∧
 (j10 z4 (uL s2.2.2.2.2.2.2.2.1 s2.2.2.2.2.2.1 (-1))))) ∧
 (((gI s2.2.2.2.2.2.2.2.1 s2.2.2.2.2.2.1) == s2.1) = false →
 (j10 z4 s2.2.2.2.2.2.2.2.1))));
 ((inB s2.2.2.2.2.2.1 (List.length s2.2.2.2.2.2.2.1)) ∧
 ((((gI s2.2.2.2.2.2.2.1 s2.2.2.2.2.2.1) == s2.1) = true →
 ((inB s2.2.2.2.2.2.1 (List.length s2.2.2.2.2.2.2.1)) ∧
 (j5 (uL s2.2.2.2.2.2.2.1 s2.2.2.2.2.2.1 (-1))))) ∧
 (((gI s2.2.2.2.2.2.2.1 s2.2.2.2.2.2.1) == s2.1) = false →
 (j5 s2.2.2.2.2.2.2.1))))))) ∧
 ((decide (s2.2.2.2.2.2.1 < s2.2.2.2.2.1)) = false →
 (Kx2 (s2.1, s2.2.1, s2.2.2.1, s2.2.2.2.1, s2.2.2.2.2.1, s2.2.2.2.2.2.1, s2.2.2.2.2.2.2.1, s2.2.2.2.2.2.2.2.1, s2.2.2.2.2.2.2.2.2.1, s2.2.2.2.2.2.2.2.2.2)))))
 ((gI s1.1 s1.2.2.1), s1.1, s1.2.1, s1.2.2.1, (len (uL s1.2.2.2.1 (gI s1.1 s1.2.2.1) (-1))), 0, (uL s1.2.2.2.1 (gI s1.1 s1.2.2.1) (-1)), (uL s1.2.2.2.2.1 (gI s1.1 s1.2.2.1) (-1)), s1.2.2.2.2.2.1, s1.2.2.2.2.2.2) fun s2 =>
 ((List.length s2.2.2.2.2.2.2.2.2.2 + List.length ([s2.1] : List Int) ≤ 2 ^ 36) ∧
 (Kb1 (s2.2.1, s2.2.2.1, (iadd s2.2.2.2.1 1), s2.2.2.2.2.2.2.1, s2.2.2.2.2.2.2.2.1, s2.2.2.2.2.2.2.2.2.1, (s2.2.2.2.2.2.2.2.2.2 ++ [s2.1]))))))))) ∧
 ((decide (s1.2.2.1 < s1.2.1)) = false →
 (Kx1 (s1.1, s1.2.1, s1.2.2.1, s1.2.2.2.1, s1.2.2.2.2.1, s1.2.2.2.2.2.1, s1.2.2.2.2.2.2)))))
 (p1, (len p1), 0, p2, p3, p4, p5) fun s1 =>
 (K s1.2.2.2.1 s1.2.2.2.2.1 s1.2.2.2.2.2.1 s1.2.2.2.2.2.2))
/-! impl.CollectStore -/
def Mi_CollectStore (p1 : List Int) (p2 : List Int) (p3 : List Int) (p4 : List Int) (K : Bool → (List Int) → (List Int) → (List Int) → (List Int) → Prop) : Prop :=
 (Mi_StoreValid p1 p2 p3 p4 fun (y1 : Bool) =>
 (((!y1) = true →
 (K false [] [] [] [])) ∧
 ((!y1) = false →
 (Mi_LeakedOf p1 p2 p3 p4 fun (y2 : List Int) =>
 (Mi_again p1 p2 p3 p4 fun (y3 : List Int) (y4 : List Int) (y5 : List Int) (y6 : List Int) =>
 (Mi_Store_clear y2 y3 y4 y5 y6 fun (y7 : List Int) (y8 : List Int) (y9 : List Int) (y10 : List Int) =>
 (K true y7 y8 y9 y10)))))))
/-! impl.NewGc -/
def Mi_NewGc (p1 : List Int) (p2 : List Int) (p3 : List Int) (p4 : List Int) (K : Int → Int → Bool → (List Int) → Prop) : Prop :=
 (Mi_StoreValid p1 p2 p3 p4 fun (y1 : Bool) =>
 (((!y1) = true →
 (K 0 0 false [])) ∧
 ((!y1) = false →
 ((0 ≤ (len p1) ∧ (len p1) = (len p1) ∧ (len p1) ≤ 2 ^ 36) ∧
 (K 0 0 true (List.replicate (Int.toNat (len p1)) (0 : Int)))))))
/-! slices.Clone[[]impl.Op,impl.Op] -/
def M_Clone_Op (p1 : List OpV) (K : (List OpV) → Prop) : Prop :=
 (∀ b1 : Bool, ((List.length p1 : Nat) ≠ 0 → b1 = false) →
 ((b1 = true →
 (K [])) ∧
 (b1 = false →
 (((List.length p1 : Nat) ≤ 2 ^ 36) ∧
 (K p1)))))
/-! impl.NewBoth -/
def Mi_NewBoth (p1 : List Int) (p2 : List Int) (p3 : List Int) (p4 : List Int) (p5 : List OpV) (K : Int → Int → Int → Bool → Bool → (List Int) → (List Int) → (List Int) → (List Int) → (List Int) → (List OpV) → Prop) : Prop :=
 (Mi_NewGc p1 p2 p3 p4 fun (y1 : Int) (y2 : Int) (y3 : Bool) (y4 : List Int) =>
 (((!y3) = true →
 (K 0 0 0 false false [] [] [] [] [] [])) ∧
 ((!y3) = false →
 (Mi_opsOk p5 (len p3) fun (y5 : Bool) =>
 (((!y5) = true →
 (K 0 0 0 false false [] [] [] [] [] [])) ∧
 ((!y5) = false →
 (Mi_again p1 p2 p3 p4 fun (y6 : List Int) (y7 : List Int) (y8 : List Int) (y9 : List Int) =>
 (M_Clone_Op p5 fun (y10 : List OpV) =>
 (K y1 y2 0 false true y6 y7 y8 y9 y4 y10)))))))))
/-! impl.colorsOk -/
def Mi_colorsOk (p1 : List Int) (p2 : Int) (K : Bool → Prop) : Prop :=
 (LoopP (S := List Int × Int × List Int × Int × Int) (fun s1 Kb1 Kx1 =>
 (((decide (s1.2.2.2.2 < s1.2.2.2.1)) = true →
 ((inB s1.2.2.2.2 (List.length s1.2.2.1)) ∧
 (((decide ((gI s1.2.2.1 s1.2.2.2.2) < 0)) = true →
 (K false)) ∧
 ((decide ((gI s1.2.2.1 s1.2.2.2.2) < 0)) = false →
 (((decide ((gI s1.2.2.1 s1.2.2.2.2) > 2)) = true →
 (K false)) ∧
 ((decide ((gI s1.2.2.1 s1.2.2.2.2) > 2)) = false →
 (Kb1 (s1.1, s1.2.1, s1.2.2.1, s1.2.2.2.1, (iadd s1.2.2.2.2 1))))))))) ∧
 ((decide (s1.2.2.2.2 < s1.2.2.2.1)) = false →
 (Kx1 (s1.1, s1.2.1, s1.2.2.1, s1.2.2.2.1, s1.2.2.2.2)))))
 (p1, p2, p1, (len p1), 0) fun s1 =>
 (K ((len s1.1) == s1.2.1)))
/-! impl.GcValid -/
def Mi_GcValid (p1 : List Int) (p2 : List Int) (p3 : List Int) (p4 : List Int) (p5 : Int) (p6 : List Int) (p7 : Int) (K : Bool → Prop) : Prop :=
 (Mi_StoreValid p1 p2 p3 p4 fun (y1 : Bool) =>
 (((!y1) = true →
 (K false)) ∧
 ((!y1) = false →
 (Mi_colorsOk p6 (len p1) fun (y2 : Bool) =>
 (((!y2) = true →
 (K false)) ∧
 ((!y2) = false →
 (((decide (p7 < 0)) = true →
 (K false)) ∧
 ((decide (p7 < 0)) = false →
 (((p5 == 0) = true →
 (K (p7 == 0))) ∧
 ((p5 == 0) = false →
 (((p5 == 2) = true →
 (K (p7 == 0))) ∧
 ((p5 == 2) = false →
 (((p5 == 1) = true →
 (K (decide (p7 < (len p3))))) ∧
 ((p5 == 1) = false →
 (((p5 == 3) = true →
 (K (decide (p7 < (len p1))))) ∧
 ((p5 == 3) = false →
 (K false)))))))))))))))))
/-! impl.BothValid -/
def Mi_BothValid (p1 : List Int) (p2 : List Int) (p3 : List Int) (p4 : List Int) (p5 : Int) (p6 : List Int) (p7 : Int) (p8 : List OpV) (p9 : Int) (p10 : Bool) (K : Bool → Prop) : Prop :=
 (Mi_GcValid p1 p2 p3 p4 p5 p6 p7 fun (y1 : Bool) =>
 ((y1 = true →
 (Mi_opsOk p8 (len p3) fun (y2 : Bool) =>
 ((y2 = true →
 (((decide (p9 ≥ 0)) = true →
 (K (decide (p9 ≤ (len p8))))) ∧
 ((decide (p9 ≥ 0)) = false →
 (K false)))) ∧
 (y2 = false →
 (K false))))) ∧
 (y1 = false →
 (K false))))
def M_strings_Trim (p1 p2 : List UInt8) (K : List UInt8 → Prop) : Prop :=
 (p1.length ≤ 9223372036854775807 ∧ p2.length < 4294967281 ∧ p2.all (fun b => decide (b.toNat < 128)) = true) ∧ K (Lib.trimS p1 p2)
/-! impl.anew -/
def Mi_anew (p1 : List Int) (p2 : List Int) (p3 : List Int) (p4 : List Int) (p5 : Int) (p6 : List Int) (p7 : Int) (p8 : List OpV) (p9 : Int) (p10 : Bool) (K : (List Int) → (List Int) → (List Int) → (List Int) → (List Int) → (List OpV) → Prop) : Prop :=
 (Mi_again p1 p2 p3 p4 fun (y1 : List Int) (y2 : List Int) (y3 : List Int) (y4 : List Int) =>
 (M_Clone_int p6 fun (y5 : List Int) =>
 (M_Clone_Op p8 fun (y6 : List OpV) =>
 (K y1 y2 y3 y4 y5 y6))))
/-! impl.TargetOf -/
def Mi_TargetOf (p1 : List Int) (p2 : List Int) (p3 : List Int) (p4 : List Int) (p5 : Int) (p6 : Int) (p7 : Int) (K : Int → Prop) : Prop :=
 (Mi_StoreValid p1 p2 p3 p4 fun (y1 : Bool) =>
 (((!y1) = true →
 (K (-1))) ∧
 ((!y1) = false →
 (Mi_OpValid p5 p6 p7 (len p3) fun (y2 : Bool) =>
 (((!y2) = true →
 (K (-1))) ∧
 ((!y2) = false →
 (((p5 != 5) = true →
 (((p5 != 6) = true →
 (K (-1))) ∧
 ((p5 != 6) = false →
 ((inB p6 (List.length p3)) ∧
 ((((gI p3 p6) == (-1)) = true →
 (K (-1))) ∧
 (((gI p3 p6) == (-1)) = false →
 ((inB p7 (List.length p3)) ∧
 (K (gI p3 p7))))))))) ∧
 ((p5 != 5) = false →
 ((inB p6 (List.length p3)) ∧
 ((((gI p3 p6) == (-1)) = true →
 (K (-1))) ∧
 (((gI p3 p6) == (-1)) = false →
 ((inB p7 (List.length p3)) ∧
 (K (gI p3 p7))))))))))))))
/-! impl.AllocCell -/
def Mi_AllocCell (p1 : List Int) (p2 : List Int) (p3 : List Int) (p4 : List Int) (p5 : Int) (K : Int → Bool → (List Int) → (List Int) → (List Int) → (List Int) → Prop) : Prop :=
 (Mi_StoreValid p1 p2 p3 p4 fun (y1 : Bool) =>
 (((!y1) = true →
 (K 0 false [] [] [] [])) ∧
 ((!y1) = false →
 (((decide (p5 < 0)) = true →
 (K 0 false [] [] [] [])) ∧
 ((decide (p5 < 0)) = false →
 (((decide (p5 ≥ (len p3))) = true →
 (K 0 false [] [] [] [])) ∧
 ((decide (p5 ≥ (len p3))) = false →
 ((((len p4) == 0) = true →
 (K 0 false [] [] [] [])) ∧
 (((len p4) == 0) = false →
 (Mi_again p1 p2 p3 p4 fun (y2 : List Int) (y3 : List Int) (y4 : List Int) (y5 : List Int) =>
 ((inB 0 (List.length y5)) ∧
 (((0 : Int) ≤ (1 : Int) ∧ (1 : Int) ≤ (len y5) ∧ (len y5) ≤ len y5) ∧
 ((inB p5 (List.length y4)) ∧
 (K (gI y5 0) true y2 y3 (uL y4 p5 (gI y5 0)) (sub y5 (1 : Int) (len y5))))))))))))))))
/-! impl.RunOp -/
def Mi_RunOp (p1 : List Int) (p2 : List Int) (p3 : List Int) (p4 : List Int) (p5 : Int) (p6 : Int) (p7 : Int) (K : Int → Bool → (List Int) → (List Int) → (List Int) → (List Int) → Prop) : Prop :=
 (Mi_StoreValid p1 p2 p3 p4 fun (y1 : Bool) =>
 (((!y1) = true →
 (K 0 false [] [] [] [])) ∧
 ((!y1) = false →
 (Mi_OpValid p5 p6 p7 (len p3) fun (y2 : Bool) =>
 (((!y2) = true →
 (K 0 false [] [] [] [])) ∧
 ((!y2) = false →
 (Mi_again p1 p2 p3 p4 fun (y3 : List Int) (y4 : List Int) (y5 : List Int) (y6 : List Int) =>
 (((p5 == 1) = true →
 (Mi_AllocCell y3 y4 y5 y6 p6 fun (y7 : Int) (y8 : Bool) (y9 : List Int) (y10 : List Int) (y11 : List Int) (y12 : List Int) =>
 (((!y8) = true →
 (K 1 true y3 y4 y5 y6)) ∧
 ((!y8) = false →
 (K 0 true y9 y10 y11 y12))))) ∧
 ((p5 == 1) = false →
 (((p5 == 2) = true →
 ((inB p7 (List.length y5)) ∧
 ((inB p6 (List.length y5)) ∧
 (K 0 true y3 y4 (uL y5 p6 (gI y5 p7)) y6)))) ∧
 ((p5 == 2) = false →
 (((p5 == 3) = true →
 ((inB p7 (List.length y5)) ∧
 ((((gI y5 p7) == (-1)) = true →
 (K 2 true y3 y4 y5 y6)) ∧
 (((gI y5 p7) == (-1)) = false →
 ((inB (gI y5 p7) (List.length y3)) ∧
 ((inB p6 (List.length y5)) ∧
 (((p5 == 4) = true →
 ((inB (gI y5 p7) (List.length y4)) ∧
 ((inB p6 (List.length (uL y5 p6 (gI y3 (gI y5 p7))))) ∧
 (K 0 true y3 y4 (uL (uL y5 p6 (gI y3 (gI y5 p7))) p6 (gI y4 (gI y5 p7))) y6)))) ∧
 ((p5 == 4) = false →
 (K 0 true y3 y4 (uL y5 p6 (gI y3 (gI y5 p7))) y6))))))))) ∧
 ((p5 == 3) = false →
 (((p5 == 4) = true →
 ((inB p7 (List.length y5)) ∧
 ((((gI y5 p7) == (-1)) = true →
 (K 2 true y3 y4 y5 y6)) ∧
 (((gI y5 p7) == (-1)) = false →
 ((inB (gI y5 p7) (List.length y3)) ∧
 ((inB p6 (List.length y5)) ∧
 (((p5 == 4) = true →
 ((inB (gI y5 p7) (List.length y4)) ∧
 ((inB p6 (List.length (uL y5 p6 (gI y3 (gI y5 p7))))) ∧
 (K 0 true y3 y4 (uL (uL y5 p6 (gI y3 (gI y5 p7))) p6 (gI y4 (gI y5 p7))) y6)))) ∧
 ((p5 == 4) = false →
 (K 0 true y3 y4 (uL y5 p6 (gI y3 (gI y5 p7))) y6))))))))) ∧
 ((p5 == 4) = false →
 (((p5 == 5) = true →
 ((inB p6 (List.length y5)) ∧
 ((((gI y5 p6) == (-1)) = true →
 (K 2 true y3 y4 y5 y6)) ∧
 (((gI y5 p6) == (-1)) = false →
 (((p5 == 5) = true →
 ((inB p7 (List.length y5)) ∧
 ((inB (gI y5 p6) (List.length y3)) ∧
 (K 0 true (uL y3 (gI y5 p6) (gI y5 p7)) y4 y5 y6)))) ∧
 ((p5 == 5) = false →
 ((inB p7 (List.length y5)) ∧
 ((inB (gI y5 p6) (List.length y4)) ∧
 (K 0 true y3 (uL y4 (gI y5 p6) (gI y5 p7)) y5 y6))))))))) ∧
 ((p5 == 5) = false →
 (((p5 == 6) = true →
 ((inB p6 (List.length y5)) ∧
 ((((gI y5 p6) == (-1)) = true →
 (K 2 true y3 y4 y5 y6)) ∧
 (((gI y5 p6) == (-1)) = false →
 (((p5 == 5) = true →
 ((inB p7 (List.length y5)) ∧
 ((inB (gI y5 p6) (List.length y3)) ∧
 (K 0 true (uL y3 (gI y5 p6) (gI y5 p7)) y4 y5 y6)))) ∧
 ((p5 == 5) = false →
 ((inB p7 (List.length y5)) ∧
 ((inB (gI y5 p6) (List.length y4)) ∧
 (K 0 true y3 (uL y4 (gI y5 p6) (gI y5 p7)) y5 y6))))))))) ∧
 ((p5 == 6) = false →
 (((p5 == 7) = true →
 ((inB p6 (List.length y5)) ∧
 (K 0 true y3 y4 (uL y5 p6 (-1)) y6))) ∧
 ((p5 == 7) = false →
 (K 0 true y3 y4 y5 y6))))))))))))))))))))))
/-! impl.has -/
def Mi_has (p1 : List Int) (p2 : List Int) (p3 : List Int) (p4 : Int) (K : Bool → Prop) : Prop :=
 (Mi_HeapValid p1 p2 p3 fun (y1 : Bool) =>
 ((y1 = true →
 (((decide (p4 ≥ 0)) = true →
 (K (decide (p4 < (len p1))))) ∧
 ((decide (p4 ≥ 0)) = false →
 (K false)))) ∧
 (y1 = false →
 (K false))))
/-! impl.ColorNew -/
def Mi_ColorNew (p1 : List Int) (p2 : List Int) (p3 : List Int) (p4 : List Int) (p5 : Int) (p6 : List Int) (p7 : Int) (p8 : Int) (K : Int → Int → Bool → (List Int) → Prop) : Prop :=
 (Mi_GcValid p1 p2 p3 p4 p5 p6 p7 fun (y1 : Bool) =>
 (((!y1) = true →
 (K 0 0 false [])) ∧
 ((!y1) = false →
 (Mi_has p1 p2 p3 p8 fun (y2 : Bool) =>
 (((!y2) = true →
 (K 0 0 false [])) ∧
 ((!y2) = false →
 (M_Clone_int p6 fun (y3 : List Int) =>
 ((inB p8 (List.length y3)) ∧
 (((p5 == 1) = true →
 ((inB p8 (List.length (uL y3 p8 0))) ∧
 (K p5 p7 true (uL (uL y3 p8 0) p8 2)))) ∧
 ((p5 == 1) = false →
 (((p5 == 2) = true →
 ((inB p8 (List.length (uL y3 p8 0))) ∧
 (K p5 p7 true (uL (uL y3 p8 0) p8 2)))) ∧
 ((p5 == 2) = false →
 (((p5 == 3) = true →
 (((decide (p8 ≥ p7)) = true →
 ((inB p8 (List.length (uL y3 p8 0))) ∧
 (K p5 p7 true (uL (uL y3 p8 0) p8 2)))) ∧
 ((decide (p8 ≥ p7)) = false →
 (K p5 p7 true (uL y3 p8 0))))) ∧
 ((p5 == 3) = false →
 (K p5 p7 true (uL y3 p8 0))))))))))))))))
/-! impl.shade -/
def Mi_shade (p1 : Int) (p2 : List Int) (K : (List Int) → Prop) : Prop :=
 (((p1 != (-1)) = true →
 ((inB p1 (List.length p2)) ∧
 ((((gI p2 p1) == 0) = true →
 ((inB p1 (List.length p2)) ∧
 (K (uL p2 p1 1)))) ∧
 (((gI p2 p1) == 0) = false →
 (K p2))))) ∧
 ((p1 != (-1)) = false →
 (K p2)))
/-! impl.ShadeGc -/
def Mi_ShadeGc (p1 : List Int) (p2 : List Int) (p3 : List Int) (p4 : List Int) (p5 : Int) (p6 : List Int) (p7 : Int) (p8 : Int) (K : Int → Int → Bool → (List Int) → Prop) : Prop :=
 (Mi_GcValid p1 p2 p3 p4 p5 p6 p7 fun (y1 : Bool) =>
 (((!y1) = true →
 (K 0 0 false [])) ∧
 ((!y1) = false →
 (Mi_has p1 p2 p3 p8 fun (y2 : Bool) =>
 (((!y2) = true →
 (K 0 0 false [])) ∧
 ((!y2) = false →
 (M_Clone_int p6 fun (y3 : List Int) =>
 (((p5 == 1) = true →
 (Mi_shade p8 y3 fun (y4 : List Int) =>
 (K p5 p7 true y4))) ∧
 ((p5 == 1) = false →
 (((p5 == 2) = true →
 (Mi_shade p8 y3 fun (y5 : List Int) =>
 (K p5 p7 true y5))) ∧
 ((p5 == 2) = false →
 (K p5 p7 true y3))))))))))))
/-! impl.step, from region 15 on -/
def Mi_step_c15 (c15_0 : Int) (c15_1 : Int) (c15_2 : Int) (c15_3 : Int) (c15_4 : Bool) (c15_5 : Int) (c15_6 : Int) (c15_7 : Int) (c15_8 : Bool) (c15_9 : List Int) (c15_10 : List Int) (c15_11 : List Int) (c15_12 : List Int) (c15_13 : List Int) (c15_14 : List OpV) (c15_15 : List Int) (c15_16 : List Int) (c15_17 : List Int) (c15_18 : List Int) (c15_19 : List Int) (c15_20 : List OpV) (K : Int → Int → Int → Bool → Int → Bool → (List Int) → (List Int) → (List Int) → (List Int) → (List Int) → (List OpV) → Prop) : Prop :=
 (K c15_1 c15_2 c15_3 c15_4 c15_0 true c15_9 c15_10 c15_11 c15_12 c15_13 c15_14)
/-! impl.step, from region 7 on -/
def Mi_step_c7 (c7_0 : Bool) (c7_1 : Int) (c7_2 : Int) (c7_3 : Int) (c7_4 : Int) (c7_5 : Int) (c7_6 : Bool) (c7_7 : Int) (c7_8 : Int) (c7_9 : Int) (c7_10 : Bool) (c7_11 : Int) (c7_12 : Int) (c7_13 : Int) (c7_14 : List Int) (c7_15 : List Int) (c7_16 : List Int) (c7_17 : List Int) (c7_18 : List Int) (c7_19 : List OpV) (c7_20 : List Int) (c7_21 : List Int) (c7_22 : List Int) (c7_23 : List Int) (c7_24 : List Int) (c7_25 : List OpV) (c7_26 : List Int) (c7_27 : List Int) (c7_28 : List Int) (c7_29 : List Int) (K : Int → Int → Int → Bool → Int → Bool → (List Int) → (List Int) → (List Int) → (List Int) → (List Int) → (List OpV) → Prop) : Prop :=
 (((c7_2 != 0) = true →
 (K c7_3 c7_4 (iadd c7_5 1) c7_6 c7_2 true c7_26 c7_27 c7_28 c7_29 c7_18 c7_19)) ∧
 ((c7_2 != 0) = false →
 (((c7_11 == 1) = true →
 ((inB c7_12 (List.length c7_28)) ∧
 (Mi_ColorNew c7_26 c7_27 c7_28 c7_29 c7_3 c7_18 c7_4 (gI c7_28 c7_12) fun (y15 : Int) (y16 : Int) (y17 : Bool) (y18 : List Int) =>
 (let j23 : Prop :=
 (Mi_step_c15 c7_2 y15 y16 (iadd c7_5 1) c7_6 c7_7 c7_8 c7_9 c7_10 c7_26 c7_27 c7_28 c7_29 y18 c7_19 c7_20 c7_21 c7_22 c7_23 c7_24 c7_25 K);
 ((c7_0 = true →
 (((c7_1 != (-1)) = true →
 (Mi_ShadeGc c7_26 c7_27 c7_28 c7_29 y15 y18 y16 c7_1 fun (y19 : Int) (y20 : Int) (y21 : Bool) (y22 : List Int) =>
 (Mi_step_c15 c7_2 y19 y20 (iadd c7_5 1) c7_6 c7_7 c7_8 c7_9 c7_10 c7_26 c7_27 c7_28 c7_29 y22 c7_19 c7_20 c7_21 c7_22 c7_23 c7_24 c7_25 K))) ∧
 ((c7_1 != (-1)) = false →
 j23))) ∧
 (c7_0 = false →
 j23)))))) ∧
 ((c7_11 == 1) = false →
 (let j28 : Prop :=
 (Mi_step_c15 c7_2 c7_3 c7_4 (iadd c7_5 1) c7_6 c7_7 c7_8 c7_9 c7_10 c7_26 c7_27 c7_28 c7_29 c7_18 c7_19 c7_20 c7_21 c7_22 c7_23 c7_24 c7_25 K);
 ((c7_0 = true →
 (((c7_1 != (-1)) = true →
 (Mi_ShadeGc c7_26 c7_27 c7_28 c7_29 c7_3 c7_18 c7_4 c7_1 fun (y24 : Int) (y25 : Int) (y26 : Bool) (y27 : List Int) =>
 (Mi_step_c15 c7_2 y24 y25 (iadd c7_5 1) c7_6 c7_7 c7_8 c7_9 c7_10 c7_26 c7_27 c7_28 c7_29 y27 c7_19 c7_20 c7_21 c7_22 c7_23 c7_24 c7_25 K))) ∧
 ((c7_1 != (-1)) = false →
 j28))) ∧
 (c7_0 = false →
 j28)))))))
/-! impl.step, from region 4 on -/
def Mi_step_c4 (c4_0 : Bool) (c4_1 : Int) (c4_2 : Int) (c4_3 : Int) (c4_4 : Bool) (c4_5 : Int) (c4_6 : Int) (c4_7 : Int) (c4_8 : Bool) (c4_9 : List Int) (c4_10 : List Int) (c4_11 : List Int) (c4_12 : List Int) (c4_13 : List Int) (c4_14 : List OpV) (c4_15 : List Int) (c4_16 : List Int) (c4_17 : List Int) (c4_18 : List Int) (c4_19 : List Int) (c4_20 : List OpV) (K : Int → Int → Int → Bool → Int → Bool → (List Int) → (List Int) → (List Int) → (List Int) → (List Int) → (List OpV) → Prop) : Prop :=
 ((inB c4_3 (List.length c4_14)) ∧
 (Mi_TargetOf c4_9 c4_10 c4_11 c4_12 ((gO c4_14 c4_3).kind) ((gO c4_14 c4_3).a) ((gO c4_14 c4_3).b) fun (y8 : Int) =>
 (Mi_RunOp c4_9 c4_10 c4_11 c4_12 ((gO c4_14 c4_3).kind) ((gO c4_14 c4_3).a) ((gO c4_14 c4_3).b) fun (y9 : Int) (y10 : Bool) (y11 : List Int) (y12 : List Int) (y13 : List Int) (y14 : List Int) =>
 (Mi_step_c7 c4_0 y8 y9 c4_1 c4_2 c4_3 c4_4 c4_5 c4_6 c4_7 c4_8 ((gO c4_14 c4_3).kind) ((gO c4_14 c4_3).a) ((gO c4_14 c4_3).b) c4_9 c4_10 c4_11 c4_12 c4_13 c4_14 c4_15 c4_16 c4_17 c4_18 c4_19 c4_20 y11 y12 y13 y14 K))))
/-! impl.step -/
def Mi_step (p1 : List Int) (p2 : List Int) (p3 : List Int) (p4 : List Int) (p5 : Int) (p6 : List Int) (p7 : Int) (p8 : List OpV) (p9 : Int) (p10 : Bool) (p11 : Bool) (K : Int → Int → Int → Bool → Int → Bool → (List Int) → (List Int) → (List Int) → (List Int) → (List Int) → (List OpV) → Prop) : Prop :=
 (Mi_BothValid p1 p2 p3 p4 p5 p6 p7 p8 p9 p10 fun (y1 : Bool) =>
 (((!y1) = true →
 (K 0 0 0 false 0 false [] [] [] [] [] [])) ∧
 ((!y1) = false →
 ((p10 = true →
 (K 0 0 0 false 0 false [] [] [] [] [] [])) ∧
 (p10 = false →
 (((p9 == (len p8)) = true →
 (K 0 0 0 false 0 false [] [] [] [] [] [])) ∧
 ((p9 == (len p8)) = false →
 (Mi_anew p1 p2 p3 p4 p5 p6 p7 p8 p9 p10 fun (y2 : List Int) (y3 : List Int) (y4 : List Int) (y5 : List Int) (y6 : List Int) (y7 : List OpV) =>
 (Mi_step_c4 p11 p5 p7 p9 p10 0 0 0 false y2 y3 y4 y5 y6 y7 [] [] [] [] [] [] K)))))))))
/-! impl.StepOp -/
def Mi_StepOp (p1 : List Int) (p2 : List Int) (p3 : List Int) (p4 : List Int) (p5 : Int) (p6 : List Int) (p7 : Int) (p8 : List OpV) (p9 : Int) (p10 : Bool) (p11 : Bool) (K : Int → Int → Int → Bool → Bool → (List Int) → (List Int) → (List Int) → (List Int) → (List Int) → (List OpV) → Prop) : Prop :=
 (Mi_step p1 p2 p3 p4 p5 p6 p7 p8 p9 p10 p11 fun (y1 : Int) (y2 : Int) (y3 : Int) (y4 : Bool) (y5 : Int) (y6 : Bool) (y7 : List Int) (y8 : List Int) (y9 : List Int) (y10 : List Int) (y11 : List Int) (y12 : List OpV) =>
 (K y1 y2 y3 y4 y6 y7 y8 y9 y10 y11 y12))
/-! impl.SweptCell -/
def Mi_SweptCell (p1 : List Int) (p2 : List Int) (p3 : List Int) (p4 : List Int) (p5 : Int) (p6 : List Int) (p7 : Int) (K : Int → Prop) : Prop :=
 (Mi_GcValid p1 p2 p3 p4 p5 p6 p7 fun (y1 : Bool) =>
 (((!y1) = true →
 (K (-1))) ∧
 ((!y1) = false →
 (((p5 != 3) = true →
 (K (-1))) ∧
 ((p5 != 3) = false →
 ((inB p7 (List.length p6)) ∧
 ((((gI p6 p7) != 0) = true →
 (K (-1))) ∧
 (((gI p6 p7) != 0) = false →
 (M_Contains_int p4 p7 fun (y2 : Bool) =>
 ((y2 = true →
 (K (-1))) ∧
 (y2 = false →
 (K p7))))))))))))
/-! impl.look -/
def Mi_look (p1 : List Int) (p2 : List Int) (p3 : List Int) (p4 : List Int) (K : Bool → (List Int) → Prop) : Prop :=
 (M_Index_int p4 1 fun (y1 : Int) =>
 (((decide (y1 < 0)) = true →
 (K false p4)) ∧
 ((decide (y1 < 0)) = false →
 ((inB y1 (List.length p1)) ∧
 (Mi_shade (gI p1 y1) p4 fun (y2 : List Int) =>
 ((inB y1 (List.length p2)) ∧
 (Mi_shade (gI p2 y1) y2 fun (y3 : List Int) =>
 ((inB y1 (List.length y3)) ∧
 (K true (uL y3 y1 2))))))))))
/-! impl.StepGc$1 -/
def Mi_StepGc_1 (p1 : Int) (p2 : Int) (p3 : Int) (p4 : List Int) (K : Bool → Prop) : Prop :=
 (((p1 != (-1)) = true →
 ((inB p1 (List.length p4)) ∧
 (K ((gI p4 p1) == 0)))) ∧
 ((p1 != (-1)) = false →
 (K false)))
/-! slices.IndexFunc[[]int,int] -/
def M_IndexFunc_int (p1 : List Int) (p2 : Int) (p3 : Int) (p4 : List Int) (K : Int → Int → Int → (List Int) → Prop) : Prop :=
 (LoopP (S := List Int × Int × Int × Int × Int × List Int) (fun s1 Kb1 Kx1 =>
 (((decide (s1.2.2.1 < s1.2.1)) = true →
 ((inB s1.2.2.1 (List.length s1.1)) ∧
 (Mi_StepGc_1 (gI s1.1 s1.2.2.1) s1.2.2.2.1 s1.2.2.2.2.1 s1.2.2.2.2.2 fun (y2 : Bool) =>
 ((y2 = true →
 (K s1.2.2.1 s1.2.2.2.1 s1.2.2.2.2.1 s1.2.2.2.2.2)) ∧
 (y2 = false →
 (Kb1 (s1.1, s1.2.1, (iadd s1.2.2.1 1), s1.2.2.2.1, s1.2.2.2.2.1, s1.2.2.2.2.2))))))) ∧
 ((decide (s1.2.2.1 < s1.2.1)) = false →
 (Kx1 (s1.1, s1.2.1, s1.2.2.1, s1.2.2.2.1, s1.2.2.2.2.1, s1.2.2.2.2.2)))))
 (p1, (len p1), 0, p2, p3, p4) fun s1 =>
 (K (-1) s1.2.2.2.1 s1.2.2.2.2.1 s1.2.2.2.2.2))
/-! impl.StepGc, from region 27 on -/
def Mi_StepGc_c27 (c27_0 : Int) (c27_1 : Int) (c27_2 : Int) (c27_3 : Int) (c27_4 : List Int) (c27_5 : List Int) (c27_6 : List Int) (c27_7 : List Int) (c27_8 : List Int) (c27_9 : List Int) (c27_10 : List Int) (c27_11 : List Int) (c27_12 : List Int) (c27_13 : List Int) (K : Int → Int → Bool → (List Int) → (List Int) → (List Int) → (List Int) → (List Int) → Prop) : Prop :=
 (K c27_0 c27_1 true c27_4 c27_5 c27_6 c27_7 c27_8)
/-! impl.StepGc, from region 4 on -/
def Mi_StepGc_c4 (c4_0 : Int) (c4_1 : List Int) (c4_2 : List Int) (c4_3 : List Int) (c4_4 : List Int) (c4_5 : Int) (c4_6 : List Int) (c4_7 : Int) (c4_8 : Int) (c4_9 : Int) (c4_10 : List Int) (c4_11 : List Int) (c4_12 : List Int) (c4_13 : List Int) (c4_14 : List Int) (K : Int → Int → Bool → (List Int) → (List Int) → (List Int) → (List Int) → (List Int) → Prop) : Prop :=
 (Mi_again c4_1 c4_2 c4_3 c4_4 fun (y8 : List Int) (y9 : List Int) (y10 : List Int) (y11 : List Int) =>
 (M_Clone_int c4_6 fun (y12 : List Int) =>
 (((c4_5 == 0) = true →
 ((0 ≤ (len y12) ∧ (len y12) = (len y12) ∧ (len y12) ≤ 2 ^ 36) ∧
 (Mi_StepGc_c27 1 0 c4_8 c4_9 y8 y9 y10 y11 (List.replicate (Int.toNat (len y12)) (0 : Int)) c4_10 c4_11 c4_12 c4_13 c4_14 K))) ∧
 ((c4_5 == 0) = false →
 (((c4_5 == 1) = true →
 ((inB c4_7 (List.length y10)) ∧
 (Mi_shade (gI y10 c4_7) y12 fun (y13 : List Int) =>
 ((((iadd c4_7 1) == (len y10)) = true →
 (Mi_StepGc_c27 2 0 c4_8 c4_9 y8 y9 y10 y11 y13 c4_10 c4_11 c4_12 c4_13 c4_14 K)) ∧
 (((iadd c4_7 1) == (len y10)) = false →
 (Mi_StepGc_c27 c4_5 (iadd c4_7 1) c4_8 c4_9 y8 y9 y10 y11 y13 c4_10 c4_11 c4_12 c4_13 c4_14 K)))))) ∧
 ((c4_5 == 1) = false →
 (((c4_5 == 2) = true →
 (Mi_look y8 y9 y10 y12 fun (y14 : Bool) (y15 : List Int) =>
 ((y14 = true →
 (Mi_StepGc_c27 c4_5 c4_7 c4_8 c4_9 y8 y9 y10 y11 y15 c4_10 c4_11 c4_12 c4_13 c4_14 K)) ∧
 (y14 = false →
 (M_IndexFunc_int y10 c4_5 c4_7 y15 fun (y16 : Int) (y17 : Int) (y18 : Int) (y19 : List Int) =>
 (((decide (y16 ≥ 0)) = true →
 ((inB y16 (List.length y10)) ∧
 (Mi_shade (gI y10 y16) y15 fun (y20 : List Int) =>
 (Mi_StepGc_c27 c4_5 c4_7 c4_8 c4_9 y8 y9 y10 y11 y20 c4_10 c4_11 c4_12 c4_13 c4_14 K)))) ∧
 ((decide (y16 ≥ 0)) = false →
 (Mi_StepGc_c27 3 c4_7 c4_8 c4_9 y8 y9 y10 y11 y15 c4_10 c4_11 c4_12 c4_13 c4_14 K)))))))) ∧
 ((c4_5 == 2) = false →
 (((c4_5 == 3) = true →
 (((c4_0 != (-1)) = true →
 (Mi_Store_clear [c4_0] y8 y9 y10 y11 fun (y21 : List Int) (y22 : List Int) (y23 : List Int) (y24 : List Int) =>
 ((inB c4_7 (List.length y12)) ∧
 ((((iadd c4_7 1) == (len (uL y12 c4_7 0))) = true →
 (Mi_StepGc_c27 0 0 c4_8 c4_9 y21 y22 y23 y24 (uL y12 c4_7 0) c4_10 c4_11 c4_12 c4_13 c4_14 K)) ∧
 (((iadd c4_7 1) == (len (uL y12 c4_7 0))) = false →
 (Mi_StepGc_c27 c4_5 (iadd c4_7 1) c4_8 c4_9 y21 y22 y23 y24 (uL y12 c4_7 0) c4_10 c4_11 c4_12 c4_13 c4_14 K)))))) ∧
 ((c4_0 != (-1)) = false →
 ((inB c4_7 (List.length y12)) ∧
 ((((iadd c4_7 1) == (len (uL y12 c4_7 0))) = true →
 (Mi_StepGc_c27 0 0 c4_8 c4_9 y8 y9 y10 y11 (uL y12 c4_7 0) c4_10 c4_11 c4_12 c4_13 c4_14 K)) ∧
 (((iadd c4_7 1) == (len (uL y12 c4_7 0))) = false →
 (Mi_StepGc_c27 c4_5 (iadd c4_7 1) c4_8 c4_9 y8 y9 y10 y11 (uL y12 c4_7 0) c4_10 c4_11 c4_12 c4_13 c4_14 K))))))) ∧
 ((c4_5 == 3) = false →
 (Mi_StepGc_c27 c4_5 c4_7 c4_8 c4_9 y8 y9 y10 y11 y12 c4_10 c4_11 c4_12 c4_13 c4_14 K)))))))))))
/-! impl.StepGc -/
def Mi_StepGc (p1 : List Int) (p2 : List Int) (p3 : List Int) (p4 : List Int) (p5 : Int) (p6 : List Int) (p7 : Int) (K : Int → Int → Bool → (List Int) → (List Int) → (List Int) → (List Int) → (List Int) → Prop) : Prop :=
 (Mi_SweptCell p1 p2 p3 p4 p5 p6 p7 fun (y1 : Int) =>
 (Mi_GcValid p1 p2 p3 p4 p5 p6 p7 fun (y2 : Bool) =>
 (((!y2) = true →
 (K 0 0 false [] [] [] [] [])) ∧
 ((!y2) = false →
 (((y1 != (-1)) = true →
 (M_Contains_int p3 y1 fun (y3 : Bool) =>
 ((y3 = true →
 (K 0 0 false [] [] [] [] [])) ∧
 (y3 = false →
 (Mi_StepGc_c4 y1 p1 p2 p3 p4 p5 p6 p7 0 0 [] [] [] [] [] K))))) ∧
 ((y1 != (-1)) = false →
 (Mi_StepGc_c4 y1 p1 p2 p3 p4 p5 p6 p7 0 0 [] [] [] [] [] K)))))))
/-! impl.StepBoth -/
def Mi_StepBoth (p1 : List Int) (p2 : List Int) (p3 : List Int) (p4 : List Int) (p5 : Int) (p6 : List Int) (p7 : Int) (p8 : List OpV) (p9 : Int) (p10 : Bool) (K : Int → Int → Int → Bool → Bool → (List Int) → (List Int) → (List Int) → (List Int) → (List Int) → (List OpV) → Prop) : Prop :=
 (Mi_BothValid p1 p2 p3 p4 p5 p6 p7 p8 p9 p10 fun (y1 : Bool) =>
 (((!y1) = true →
 (K 0 0 0 false false [] [] [] [] [] [])) ∧
 ((!y1) = false →
 ((p10 = true →
 (K 0 0 0 false false [] [] [] [] [] [])) ∧
 (p10 = false →
 (Mi_anew p1 p2 p3 p4 p5 p6 p7 p8 p9 p10 fun (y2 : List Int) (y3 : List Int) (y4 : List Int) (y5 : List Int) (y6 : List Int) (y7 : List OpV) =>
 (Mi_SweptCell y2 y3 y4 y5 p5 y6 p7 fun (y8 : Int) =>
 (((y8 != (-1)) = true →
 (Mi_Reachable y2 y3 y4 fun (y9 : List Bool) =>
 ((inB y8 (List.length y9)) ∧
 (((gB y9 y8) = true →
 (K p5 p7 p9 true true y2 y3 y4 y5 y6 y7)) ∧
 ((gB y9 y8) = false →
 (Mi_StepGc y2 y3 y4 y5 p5 y6 p7 fun (y10 : Int) (y11 : Int) (y12 : Bool) (y13 : List Int) (y14 : List Int) (y15 : List Int) (y16 : List Int) (y17 : List Int) =>
 (K y10 y11 p9 p10 true y13 y14 y15 y16 y17 y7))))))) ∧
 ((y8 != (-1)) = false →
 (Mi_StepGc y2 y3 y4 y5 p5 y6 p7 fun (y18 : Int) (y19 : Int) (y20 : Bool) (y21 : List Int) (y22 : List Int) (y23 : List Int) (y24 : List Int) (y25 : List Int) =>
 (K y18 y19 p9 p10 true y21 y22 y23 y24 y25 y7)))))))))))
/-! impl.RunBoth -/
def Mi_RunBoth (p1 : List Int) (p2 : List Int) (p3 : List Int) (p4 : List Int) (p5 : Int) (p6 : List Int) (p7 : Int) (p8 : List OpV) (p9 : Int) (p10 : Bool) (p11 : List UInt8) (p12 : Bool) (K : Int → Int → Int → Bool → Bool → (List Int) → (List Int) → (List Int) → (List Int) → (List Int) → (List OpV) → Prop) : Prop :=
 (Mi_BothValid p1 p2 p3 p4 p5 p6 p7 p8 p9 p10 fun (y1 : Bool) =>
 (((!y1) = true →
 (K 0 0 0 false false [] [] [] [] [] [])) ∧
 ((!y1) = false →
 (((decide ((len p11) > 100)) = true →
 (K 0 0 0 false false [] [] [] [] [] [])) ∧
 ((decide ((len p11) > 100)) = false →
 (M_strings_Trim p11 [111, 103] fun (y2 : List UInt8) =>
 (((!(y2 == ([] : List UInt8))) = true →
 (K 0 0 0 false false [] [] [] [] [] [])) ∧
 ((!(y2 == ([] : List UInt8))) = false →
 (Mi_anew p1 p2 p3 p4 p5 p6 p7 p8 p9 p10 fun (y3 : List Int) (y4 : List Int) (y5 : List Int) (y6 : List Int) (y7 : List Int) (y8 : List OpV) =>
 (LoopP (S := List UInt8 × Bool × Int × Int × Int × Int × Int × Bool × Int × Int × Int × Bool × List Int × List Int × List Int × List Int × List Int × List OpV × List Int × List Int × List Int × List Int × List Int × List OpV) (fun s9 Kb9 Kx9 =>
 (((decide (s9.2.2.2.1 < s9.2.2.1)) = true →
 (let j84 := fun (z74 : Int) (z75 : Int) (z76 : Int) (z77 : Bool) (z78 : List Int) (z79 : List Int) (z80 : List Int) (z81 : List Int) (z82 : List Int) (z83 : List OpV) =>
 (Kb9 (s9.1, s9.2.1, s9.2.2.1, (iadd s9.2.2.2.1 1), z74, z75, z76, z77, s9.2.2.2.2.2.2.2.2.1, s9.2.2.2.2.2.2.2.2.2.1, s9.2.2.2.2.2.2.2.2.2.2.1, s9.2.2.2.2.2.2.2.2.2.2.2.1, z78, z79, z80, z81, z82, z83, s9.2.2.2.2.2.2.2.2.2.2.2.2.2.2.2.2.2.2.1, s9.2.2.2.2.2.2.2.2.2.2.2.2.2.2.2.2.2.2.2.1, s9.2.2.2.2.2.2.2.2.2.2.2.2.2.2.2.2.2.2.2.2.1, s9.2.2.2.2.2.2.2.2.2.2.2.2.2.2.2.2.2.2.2.2.2.1, s9.2.2.2.2.2.2.2.2.2.2.2.2.2.2.2.2.2.2.2.2.2.2.1, s9.2.2.2.2.2.2.2.2.2.2.2.2.2.2.2.2.2.2.2.2.2.2.2));
 (let j95 : Prop :=
 (Kb9 (s9.1, s9.2.1, s9.2.2.1, (iadd s9.2.2.2.1 1), s9.2.2.2.2.1, s9.2.2.2.2.2.1, s9.2.2.2.2.2.2.1, s9.2.2.2.2.2.2.2.1, s9.2.2.2.2.2.2.2.2.1, s9.2.2.2.2.2.2.2.2.2.1, s9.2.2.2.2.2.2.2.2.2.2.1, s9.2.2.2.2.2.2.2.2.2.2.2.1, s9.2.2.2.2.2.2.2.2.2.2.2.2.1, s9.2.2.2.2.2.2.2.2.2.2.2.2.2.1, s9.2.2.2.2.2.2.2.2.2.2.2.2.2.2.1, s9.2.2.2.2.2.2.2.2.2.2.2.2.2.2.2.1, s9.2.2.2.2.2.2.2.2.2.2.2.2.2.2.2.2.1, s9.2.2.2.2.2.2.2.2.2.2.2.2.2.2.2.2.2.1, s9.2.2.2.2.2.2.2.2.2.2.2.2.2.2.2.2.2.2.1, s9.2.2.2.2.2.2.2.2.2.2.2.2.2.2.2.2.2.2.2.1, s9.2.2.2.2.2.2.2.2.2.2.2.2.2.2.2.2.2.2.2.2.1, s9.2.2.2.2.2.2.2.2.2.2.2.2.2.2.2.2.2.2.2.2.2.1, s9.2.2.2.2.2.2.2.2.2.2.2.2.2.2.2.2.2.2.2.2.2.2.1, s9.2.2.2.2.2.2.2.2.2.2.2.2.2.2.2.2.2.2.2.2.2.2.2));
 ((inB s9.2.2.2.1 (List.length s9.1)) ∧
 ((((gC s9.1 s9.2.2.2.1) == 111) = true →
 (Mi_StepOp s9.2.2.2.2.2.2.2.2.2.2.2.2.1 s9.2.2.2.2.2.2.2.2.2.2.2.2.2.1 s9.2.2.2.2.2.2.2.2.2.2.2.2.2.2.1 s9.2.2.2.2.2.2.2.2.2.2.2.2.2.2.2.1 s9.2.2.2.2.1 s9.2.2.2.2.2.2.2.2.2.2.2.2.2.2.2.2.1 s9.2.2.2.2.2.1 s9.2.2.2.2.2.2.2.2.2.2.2.2.2.2.2.2.2.1 s9.2.2.2.2.2.2.1 s9.2.2.2.2.2.2.2.1 s9.2.1 fun (y10 : Int) (y11 : Int) (y12 : Int) (y13 : Bool) (y14 : Bool) (y15 : List Int) (y16 : List Int) (y17 : List Int) (y18 : List Int) (y19 : List Int) (y20 : List OpV) =>
 ((y14 = true →
 (j84 y10 y11 y12 y13 y15 y16 y17 y18 y19 y20)) ∧
 (y14 = false →
 j95)))) ∧
 (((gC s9.1 s9.2.2.2.1) == 111) = false →
 (Mi_StepBoth s9.2.2.2.2.2.2.2.2.2.2.2.2.1 s9.2.2.2.2.2.2.2.2.2.2.2.2.2.1 s9.2.2.2.2.2.2.2.2.2.2.2.2.2.2.1 s9.2.2.2.2.2.2.2.2.2.2.2.2.2.2.2.1 s9.2.2.2.2.1 s9.2.2.2.2.2.2.2.2.2.2.2.2.2.2.2.2.1 s9.2.2.2.2.2.1 s9.2.2.2.2.2.2.2.2.2.2.2.2.2.2.2.2.2.1 s9.2.2.2.2.2.2.1 s9.2.2.2.2.2.2.2.1 fun (y21 : Int) (y22 : Int) (y23 : Int) (y24 : Bool) (y25 : Bool) (y26 : List Int) (y27 : List Int) (y28 : List Int) (y29 : List Int) (y30 : List Int) (y31 : List OpV) =>
 ((y25 = true →
 (j84 y21 y22 y23 y24 y26 y27 y28 y29 y30 y31)) ∧
 (y25 = false →
 j95))))))))) ∧
 ((decide (s9.2.2.2.1 < s9.2.2.1)) = false →
 (Kx9 (s9.1, s9.2.1, s9.2.2.1, s9.2.2.2.1, s9.2.2.2.2.1, s9.2.2.2.2.2.1, s9.2.2.2.2.2.2.1, s9.2.2.2.2.2.2.2.1, s9.2.2.2.2.2.2.2.2.1, s9.2.2.2.2.2.2.2.2.2.1, s9.2.2.2.2.2.2.2.2.2.2.1, s9.2.2.2.2.2.2.2.2.2.2.2.1, s9.2.2.2.2.2.2.2.2.2.2.2.2.1, s9.2.2.2.2.2.2.2.2.2.2.2.2.2.1, s9.2.2.2.2.2.2.2.2.2.2.2.2.2.2.1, s9.2.2.2.2.2.2.2.2.2.2.2.2.2.2.2.1, s9.2.2.2.2.2.2.2.2.2.2.2.2.2.2.2.2.1, s9.2.2.2.2.2.2.2.2.2.2.2.2.2.2.2.2.2.1, s9.2.2.2.2.2.2.2.2.2.2.2.2.2.2.2.2.2.2.1, s9.2.2.2.2.2.2.2.2.2.2.2.2.2.2.2.2.2.2.2.1, s9.2.2.2.2.2.2.2.2.2.2.2.2.2.2.2.2.2.2.2.2.1, s9.2.2.2.2.2.2.2.2.2.2.2.2.2.2.2.2.2.2.2.2.2.1, s9.2.2.2.2.2.2.2.2.2.2.2.2.2.2.2.2.2.2.2.2.2.2.1, s9.2.2.2.2.2.2.2.2.2.2.2.2.2.2.2.2.2.2.2.2.2.2.2)))))
 (p11, p12, (len p11), 0, p5, p7, p9, p10, 0, 0, 0, false, y3, y4, y5, y6, y7, y8, [], [], [], [], [], []) fun s9 =>
 (K s9.2.2.2.2.1 s9.2.2.2.2.2.1 s9.2.2.2.2.2.2.1 s9.2.2.2.2.2.2.2.1 true s9.2.2.2.2.2.2.2.2.2.2.2.2.1 s9.2.2.2.2.2.2.2.2.2.2.2.2.2.1 s9.2.2.2.2.2.2.2.2.2.2.2.2.2.2.1 s9.2.2.2.2.2.2.2.2.2.2.2.2.2.2.2.1 s9.2.2.2.2.2.2.2.2.2.2.2.2.2.2.2.2.1 s9.2.2.2.2.2.2.2.2.2.2.2.2.2.2.2.2.2.1)))))))))))
/-! spec.l4At -/
def Ms_l4At (p1 : List Int) (p2 : Int) (K : Int → Prop) : Prop :=
 (LoopP (S := List Int × Int × Int) (fun s1 Kb1 Kx1 =>
 (((decide (s1.2.2 < (len s1.1))) = true →
 ((inB s1.2.2 (List.length s1.1)) ∧
 ((((gI s1.1 s1.2.2) == s1.2.1) = true →
 (K s1.2.2)) ∧
 (((gI s1.1 s1.2.2) == s1.2.1) = false →
 (Kb1 (s1.1, s1.2.1, (iadd s1.2.2 1))))))) ∧
 ((decide (s1.2.2 < (len s1.1))) = false →
 (Kx1 (s1.1, s1.2.1, s1.2.2)))))
 (p1, p2, 0) fun s1 =>
 (K (-1)))
/-! spec.l4Free -/
def Ms_l4Free (p1 : List Int) (p2 : List Int) (p3 : List Int) (p4 : Int) (K : Bool → Prop) : Prop :=
 (((decide (p4 ≥ 0)) = true →
 (((decide (p4 < (len p1))) = true →
 ((inB p4 (List.length p1)) ∧
 ((((gI p1 p4) == (-1)) = true →
 ((inB p4 (List.length p2)) ∧
 ((((gI p2 p4) == (-1)) = true →
 (Ms_l4At p1 p4 fun (y1 : Int) =>
 (((decide (y1 < 0)) = true →
 (Ms_l4At p2 p4 fun (y2 : Int) =>
 (((decide (y2 < 0)) = true →
 (Ms_l4At p3 p4 fun (y3 : Int) =>
 (K (decide (y3 < 0))))) ∧
 ((decide (y2 < 0)) = false →
 (K false))))) ∧
 ((decide (y1 < 0)) = false →
 (K false))))) ∧
 (((gI p2 p4) == (-1)) = false →
 (K false))))) ∧
 (((gI p1 p4) == (-1)) = false →
 (K false))))) ∧
 ((decide (p4 < (len p1))) = false →
 (K false)))) ∧
 ((decide (p4 ≥ 0)) = false →
 (K false)))
/-! spec.StoreValid -/
def Ms_StoreValid (p1 : List Int) (p2 : List Int) (p3 : List Int) (p4 : List Int) (K : Bool → Prop) : Prop :=
 (Ms_HeapValid p1 p2 p3 fun (y1 : Bool) =>
 (((!y1) = true →
 (K false)) ∧
 ((!y1) = false →
 (((decide ((len p4) > (len p1))) = true →
 (K false)) ∧
 ((decide ((len p4) > (len p1))) = false →
 (LoopP (S := Int × List Int × List Int × List Int × List Int) (fun s2 Kb2 Kx2 =>
 (((decide (s2.1 < (len s2.2.2.2.2))) = true →
 ((inB s2.1 (List.length s2.2.2.2.2)) ∧
 (Ms_l4Free s2.2.1 s2.2.2.1 s2.2.2.2.1 (gI s2.2.2.2.2 s2.1) fun (y3 : Bool) =>
 (((!y3) = true →
 (K false)) ∧
 ((!y3) = false →
 (((0 : Int) ≤ (0 : Int) ∧ (0 : Int) ≤ s2.1 ∧ s2.1 ≤ len s2.2.2.2.2) ∧
 ((inB s2.1 (List.length s2.2.2.2.2)) ∧
 (Ms_l4At (sub s2.2.2.2.2 (0 : Int) s2.1) (gI s2.2.2.2.2 s2.1) fun (y4 : Int) =>
 (((decide (y4 ≥ 0)) = true →
 (K false)) ∧
 ((decide (y4 ≥ 0)) = false →
 (Kb2 ((iadd s2.1 1), s2.2.1, s2.2.2.1, s2.2.2.2.1, s2.2.2.2.2)))))))))))) ∧
 ((decide (s2.1 < (len s2.2.2.2.2))) = false →
 (Kx2 (s2.1, s2.2.1, s2.2.2.1, s2.2.2.2.1, s2.2.2.2.2)))))
 (0, p1, p2, p3, p4) fun s2 =>
 (K true)))))))
/-! spec.ColoredValid -/
def Ms_ColoredValid (p1 : List Int) (p2 : List Int) (p3 : List Int) (p4 : List Int) (K : Bool → Prop) : Prop :=
 (Ms_HeapValid p1 p2 p3 fun (y1 : Bool) =>
 (((!y1) = true →
 (K false)) ∧
 ((!y1) = false →
 ((((len p4) != (len p1)) = true →
 (K false)) ∧
 (((len p4) != (len p1)) = false →
 (LoopP (S := Int × List Int × List Int × List Int × List Int) (fun s2 Kb2 Kx2 =>
 (((decide (s2.1 < (len s2.2.2.2.2))) = true →
 ((inB s2.1 (List.length s2.2.2.2.2)) ∧
 (((decide ((gI s2.2.2.2.2 s2.1) < 0)) = true →
 (K false)) ∧
 ((decide ((gI s2.2.2.2.2 s2.1) < 0)) = false →
 ((inB s2.1 (List.length s2.2.2.2.2)) ∧
 (((decide ((gI s2.2.2.2.2 s2.1) > 2)) = true →
 (K false)) ∧
 ((decide ((gI s2.2.2.2.2 s2.1) > 2)) = false →
 (Kb2 ((iadd s2.1 1), s2.2.1, s2.2.2.1, s2.2.2.2.1, s2.2.2.2.2))))))))) ∧
 ((decide (s2.1 < (len s2.2.2.2.2))) = false →
 (Kx2 (s2.1, s2.2.1, s2.2.2.1, s2.2.2.2.1, s2.2.2.2.2)))))
 (0, p1, p2, p3, p4) fun s2 =>
 (K true)))))))
/-! spec.GcValid -/
def Ms_GcValid (p1 : List Int) (p2 : List Int) (p3 : List Int) (p4 : List Int) (p5 : Int) (p6 : List Int) (p7 : Int) (K : Bool → Prop) : Prop :=
 (Ms_StoreValid p1 p2 p3 p4 fun (y1 : Bool) =>
 (((!y1) = true →
 (K false)) ∧
 ((!y1) = false →
 (Ms_ColoredValid p1 p2 p3 p6 fun (y2 : Bool) =>
 (((!y2) = true →
 (K false)) ∧
 ((!y2) = false →
 (((decide (p7 < 0)) = true →
 (K false)) ∧
 ((decide (p7 < 0)) = false →
 (((p5 == 0) = true →
 (K (p7 == 0))) ∧
 ((p5 == 0) = false →
 (((p5 == 2) = true →
 (K (p7 == 0))) ∧
 ((p5 == 2) = false →
 (((p5 == 1) = true →
 (K (decide (p7 < (len p3))))) ∧
 ((p5 == 1) = false →
 (((p5 == 3) = true →
 (K (decide (p7 < (len p1))))) ∧
 ((p5 == 3) = false →
 (K false)))))))))))))))))
/-! spec.l7Ops -/
def Ms_l7Ops (p1 : List OpV) (p2 : Int) (K : Bool → Prop) : Prop :=
 (LoopP (S := List OpV × Int × Int) (fun s1 Kb1 Kx1 =>
 (((decide (s1.2.2 < (len s1.1))) = true →
 (((decide (s1.2.2 ≤ 12)) = true →
 ((inB s1.2.2 (List.length s1.1)) ∧
 (Ms_OpValid ((gO s1.1 s1.2.2).kind) ((gO s1.1 s1.2.2).a) ((gO s1.1 s1.2.2).b) s1.2.1 fun (y2 : Bool) =>
 (((!y2) = true →
 (K false)) ∧
 ((!y2) = false →
 (Kb1 (s1.1, s1.2.1, (iadd s1.2.2 1)))))))) ∧
 ((decide (s1.2.2 ≤ 12)) = false →
 (Kx1 (s1.1, s1.2.1, s1.2.2))))) ∧
 ((decide (s1.2.2 < (len s1.1))) = false →
 (Kx1 (s1.1, s1.2.1, s1.2.2)))))
 (p1, p2, 0) fun s1 =>
 (K (decide ((len s1.1) ≤ 12))))
/-! spec.BothValid -/
def Ms_BothValid (p1 : List Int) (p2 : List Int) (p3 : List Int) (p4 : List Int) (p5 : Int) (p6 : List Int) (p7 : Int) (p8 : List OpV) (p9 : Int) (p10 : Bool) (K : Bool → Prop) : Prop :=
 (Ms_GcValid p1 p2 p3 p4 p5 p6 p7 fun (y1 : Bool) =>
 ((y1 = true →
 (Ms_l7Ops p8 (len p3) fun (y2 : Bool) =>
 ((y2 = true →
 (((decide (p9 ≥ 0)) = true →
 (K (decide (p9 ≤ (len p8))))) ∧
 ((decide (p9 ≥ 0)) = false →
 (K false)))) ∧
 (y2 = false →
 (K false))))) ∧
 (y1 = false →
 (K false))))
/-! spec.l1Copy -/
def Ms_l1Copy (p1 : List Int) (p2 : List Int) (p3 : List Int) (K : Prop) : Prop :=
 (((List.length p1 : Nat) ≤ 2 ^ 36) ∧
 (((List.length p2 : Nat) ≤ 2 ^ 36) ∧
 (((List.length p3 : Nat) ≤ 2 ^ 36) ∧
 K)))
/-! spec.l4Copy -/
def Ms_l4Copy (p1 : List Int) (p2 : List Int) (p3 : List Int) (p4 : List Int) (K : Prop) : Prop :=
 (Ms_l1Copy p1 p2 p3 <|
 (((List.length p4 : Nat) ≤ 2 ^ 36) ∧
 K))
/-! spec.l6Copy -/
def Ms_l6Copy (p1 : Int) (p2 : List Int) (p3 : Int) (K : Prop) : Prop :=
 (((List.length p2 : Nat) ≤ 2 ^ 36) ∧
 K)
/-! spec.l7Copy -/
def Ms_l7Copy (p1 : List Int) (p2 : List Int) (p3 : List Int) (p4 : List Int) (p5 : Int) (p6 : List Int) (p7 : Int) (p8 : List OpV) (p9 : Int) (p10 : Bool) (K : Prop) : Prop :=
 (Ms_l4Copy p1 p2 p3 p4 <|
 (Ms_l6Copy p5 p6 p7 <|
 (((List.length p8 : Nat) ≤ 2 ^ 36) ∧
 K)))
/-! spec.l6Swept -/
def Ms_l6Swept (p1 : List Int) (p2 : List Int) (p3 : List Int) (p4 : List Int) (p5 : Int) (p6 : List Int) (p7 : Int) (K : Int → Prop) : Prop :=
 (((p5 == 3) = true →
 ((inB p7 (List.length p6)) ∧
 ((((gI p6 p7) == 0) = true →
 (Ms_l4At p4 p7 fun (y1 : Int) =>
 (((decide (y1 < 0)) = true →
 (K p7)) ∧
 ((decide (y1 < 0)) = false →
 (K (-1)))))) ∧
 (((gI p6 p7) == 0) = false →
 (K (-1)))))) ∧
 ((p5 == 3) = false →
 (K (-1))))
/-! spec.l1Many -/
def Ms_l1Many (p1 : Int) (K : (List Int) → Prop) : Prop :=
 (LoopP (S := Int × Int × List Int) (fun s1 Kb1 Kx1 =>
 (((decide (s1.2.1 < s1.1)) = true →
 ((List.length s1.2.2 + List.length ([(-1)] : List Int) ≤ 2 ^ 36) ∧
 (Kb1 (s1.1, (iadd s1.2.1 1), (s1.2.2 ++ [(-1)]))))) ∧
 ((decide (s1.2.1 < s1.1)) = false →
 (Kx1 (s1.1, s1.2.1, s1.2.2)))))
 (p1, 0, []) fun s1 =>
 (K s1.2.2))
/-! spec.l2Distances -/
def Ms_l2Distances (p1 : List Int) (p2 : List Int) (p3 : List Int) (p4 : List Int) (K : (List Int) → Prop) : Prop :=
 (Ms_l1Many (len p1) fun (y1 : List Int) =>
 (LoopP (S := List Int × Int × List Int × List Int × List Int × List Int × List Int) (fun s2 Kb2 Kx2 =>
 (((decide (s2.2.1 < (len s2.1))) = true →
 ((inB s2.2.1 (List.length s2.1)) ∧
 ((((gI s2.1 s2.2.1) != (-1)) = true →
 ((inB s2.2.1 (List.length s2.1)) ∧
 ((inB (gI s2.1 s2.2.1) (List.length s2.2.2.2.2.2.1)) ∧
 (((decide ((gI s2.2.2.2.2.2.1 (gI s2.1 s2.2.1)) < 0)) = true →
 ((inB s2.2.1 (List.length s2.1)) ∧
 ((inB (gI s2.1 s2.2.1) (List.length s2.2.2.2.2.2.1)) ∧
 ((inB s2.2.1 (List.length s2.1)) ∧
 ((List.length s2.2.2.2.2.2.2 + List.length ([(gI s2.1 s2.2.1)] : List Int) ≤ 2 ^ 36) ∧
 (Kb2 (s2.1, (iadd s2.2.1 1), s2.2.2.1, s2.2.2.2.1, s2.2.2.2.2.1, (uL s2.2.2.2.2.2.1 (gI s2.1 s2.2.1) 1), (s2.2.2.2.2.2.2 ++ [(gI s2.1 s2.2.1)])))))))) ∧
 ((decide ((gI s2.2.2.2.2.2.1 (gI s2.1 s2.2.1)) < 0)) = false →
 (Kb2 (s2.1, (iadd s2.2.1 1), s2.2.2.1, s2.2.2.2.1, s2.2.2.2.2.1, s2.2.2.2.2.2.1, s2.2.2.2.2.2.2))))))) ∧
 (((gI s2.1 s2.2.1) != (-1)) = false →
 (Kb2 (s2.1, (iadd s2.2.1 1), s2.2.2.1, s2.2.2.2.1, s2.2.2.2.2.1, s2.2.2.2.2.2.1, s2.2.2.2.2.2.2)))))) ∧
 ((decide (s2.2.1 < (len s2.1))) = false →
 (Kx2 (s2.1, s2.2.1, s2.2.2.1, s2.2.2.2.1, s2.2.2.2.2.1, s2.2.2.2.2.2.1, s2.2.2.2.2.2.2)))))
 (p4, 0, p1, p2, p3, y1, []) fun s2 =>
 (LoopP (S := Int × List Int × List Int × List Int × List Int × List Int) (fun s3 Kb3 Kx3 =>
 (((decide (s3.1 < (len s3.2.2.2.2.2))) = true →
 ((inB s3.1 (List.length s3.2.2.2.2.2)) ∧
 ((inB (gI s3.2.2.2.2.2 s3.1) (List.length s3.2.1)) ∧
 ((inB (gI s3.2.2.2.2.2 s3.1) (List.length s3.2.2.1)) ∧
 (LoopP (S := Int × Int × Int × List Int × List Int × List Int × List Int × List Int × List Int) (fun s4 Kb4 Kx4 =>
 (((decide (s4.2.2.1 < 2)) = true →
 (let j7 : Prop :=
 (Kb4 (s4.1, s4.2.1, (iadd s4.2.2.1 1), s4.2.2.2.1, s4.2.2.2.2.1, s4.2.2.2.2.2.1, s4.2.2.2.2.2.2.1, s4.2.2.2.2.2.2.2.1, s4.2.2.2.2.2.2.2.2));
 ((inB s4.2.2.1 (List.length s4.2.2.2.2.2.2.2.2)) ∧
 ((((gI s4.2.2.2.2.2.2.2.2 s4.2.2.1) != (-1)) = true →
 ((inB s4.2.2.1 (List.length s4.2.2.2.2.2.2.2.2)) ∧
 ((inB (gI s4.2.2.2.2.2.2.2.2 s4.2.2.1) (List.length s4.2.2.2.2.2.2.1)) ∧
 (let v5 : Bool := (decide ((gI s4.2.2.2.2.2.2.1 (gI s4.2.2.2.2.2.2.2.2 s4.2.2.1)) < 0));
 ((v5 = true →
 ((inB s4.2.2.1 (List.length s4.2.2.2.2.2.2.2.2)) ∧
 ((inB s4.2.1 (List.length s4.2.2.2.2.2.2.1)) ∧
 ((inB (gI s4.2.2.2.2.2.2.2.2 s4.2.2.1) (List.length s4.2.2.2.2.2.2.1)) ∧
 (let v6 : List Int := (uL s4.2.2.2.2.2.2.1 (gI s4.2.2.2.2.2.2.2.2 s4.2.2.1) (iadd (gI s4.2.2.2.2.2.2.1 s4.2.1) 1));
 ((inB s4.2.2.1 (List.length s4.2.2.2.2.2.2.2.2)) ∧
 ((List.length s4.2.2.2.2.2.2.2.1 + List.length ([(gI s4.2.2.2.2.2.2.2.2 s4.2.2.1)] : List Int) ≤ 2 ^ 36) ∧
 (Kb4 (s4.1, s4.2.1, (iadd s4.2.2.1 1), s4.2.2.2.1, s4.2.2.2.2.1, s4.2.2.2.2.2.1, v6, (s4.2.2.2.2.2.2.2.1 ++ [(gI s4.2.2.2.2.2.2.2.2 s4.2.2.1)]), s4.2.2.2.2.2.2.2.2))))))))) ∧
 (v5 = false →
 j7)))))) ∧
 (((gI s4.2.2.2.2.2.2.2.2 s4.2.2.1) != (-1)) = false →
 j7))))) ∧
 ((decide (s4.2.2.1 < 2)) = false →
 (Kx4 (s4.1, s4.2.1, s4.2.2.1, s4.2.2.2.1, s4.2.2.2.2.1, s4.2.2.2.2.2.1, s4.2.2.2.2.2.2.1, s4.2.2.2.2.2.2.2.1, s4.2.2.2.2.2.2.2.2)))))
 (s3.1, (gI s3.2.2.2.2.2 s3.1), 0, s3.2.1, s3.2.2.1, s3.2.2.2.1, s3.2.2.2.2.1, s3.2.2.2.2.2, [(gI s3.2.1 (gI s3.2.2.2.2.2 s3.1)), (gI s3.2.2.1 (gI s3.2.2.2.2.2 s3.1))]) fun s4 =>
 (Kb3 ((iadd s4.1 1), s4.2.2.2.1, s4.2.2.2.2.1, s4.2.2.2.2.2.1, s4.2.2.2.2.2.2.1, s4.2.2.2.2.2.2.2.1))))))) ∧
 ((decide (s3.1 < (len s3.2.2.2.2.2))) = false →
 (Kx3 (s3.1, s3.2.1, s3.2.2.1, s3.2.2.2.1, s3.2.2.2.2.1, s3.2.2.2.2.2)))))
 (0, s2.2.2.1, s2.2.2.2.1, s2.2.2.2.2.1, s2.2.2.2.2.2.1, s2.2.2.2.2.2.2) fun s3 =>
 (K s3.2.2.2.2.1))))
/-! spec.Reachable -/
def Ms_Reachable (p1 : List Int) (p2 : List Int) (p3 : List Int) (K : (List Bool) → Prop) : Prop :=
 (Ms_HeapValid p1 p2 p3 fun (y1 : Bool) =>
 (((!y1) = true →
 (K [])) ∧
 ((!y1) = false →
 (Ms_l2Distances p1 p2 p3 p3 fun (y2 : List Int) =>
 (LoopP (S := Int × List Bool × List Int) (fun s3 Kb3 Kx3 =>
 (((decide (s3.1 < (len s3.2.2))) = true →
 ((inB s3.1 (List.length s3.2.2)) ∧
 ((List.length s3.2.1 + List.length ([(decide ((gI s3.2.2 s3.1) > 0))] : List Bool) ≤ 2 ^ 36) ∧
 (Kb3 ((iadd s3.1 1), (s3.2.1 ++ [(decide ((gI s3.2.2 s3.1) > 0))]), s3.2.2))))) ∧
 ((decide (s3.1 < (len s3.2.2))) = false →
 (Kx3 (s3.1, s3.2.1, s3.2.2)))))
 (0, [], y2) fun s3 =>
 (K s3.2.1))))))
/-! spec.l7Live -/
def Ms_l7Live (p1 : List Int) (p2 : List Int) (p3 : List Int) (p4 : List Int) (p5 : Int) (K : Bool → Prop) : Prop :=
 (((p5 == (-1)) = true →
 (K false)) ∧
 ((p5 == (-1)) = false →
 (Ms_Reachable p1 p2 p3 fun (y1 : List Bool) =>
 ((inB p5 (List.length y1)) ∧
 (K (gB y1 p5))))))
/-! spec.l3Shade -/
def Ms_l3Shade (p1 : Int) (p2 : List Int) (K : (List Int) → Prop) : Prop :=
 (((p1 != (-1)) = true →
 ((inB p1 (List.length p2)) ∧
 ((((gI p2 p1) == 0) = true →
 ((inB p1 (List.length p2)) ∧
 (K (uL p2 p1 1)))) ∧
 (((gI p2 p1) == 0) = false →
 (K p2))))) ∧
 ((p1 != (-1)) = false →
 (K p2)))
/-! spec.l6Next -/
def Ms_l6Next (p1 : Int) (p2 : Int) (p3 : Int) (p4 : Int) (p5 : List Int) (K : Int → Int → Prop) : Prop :=
 ((((iadd p2 1) == p3) = true →
 (K p4 0)) ∧
 (((iadd p2 1) == p3) = false →
 (K p1 (iadd p2 1))))
/-! spec.l3First -/
def Ms_l3First (p1 : List Int) (p2 : List Int) (p3 : List Int) (p4 : List Int) (p5 : Int) (K : Int → Prop) : Prop :=
 (LoopP (S := Int × Int × List Int × List Int × List Int × List Int) (fun s1 Kb1 Kx1 =>
 (((decide (s1.2.1 < (len s1.2.2.2.2.2))) = true →
 ((inB s1.2.1 (List.length s1.2.2.2.2.2)) ∧
 ((((gI s1.2.2.2.2.2 s1.2.1) == s1.1) = true →
 (K s1.2.1)) ∧
 (((gI s1.2.2.2.2.2 s1.2.1) == s1.1) = false →
 (Kb1 (s1.1, (iadd s1.2.1 1), s1.2.2.1, s1.2.2.2.1, s1.2.2.2.2.1, s1.2.2.2.2.2)))))) ∧
 ((decide (s1.2.1 < (len s1.2.2.2.2.2))) = false →
 (Kx1 (s1.1, s1.2.1, s1.2.2.1, s1.2.2.2.1, s1.2.2.2.2.1, s1.2.2.2.2.2)))))
 (p5, 0, p1, p2, p3, p4) fun s1 =>
 (K (-1)))
/-! spec.l3Black -/
def Ms_l3Black (p1 : List Int) (p2 : List Int) (p3 : List Int) (p4 : Int) (p5 : List Int) (K : (List Int) → Prop) : Prop :=
 ((inB p4 (List.length p1)) ∧
 (Ms_l3Shade (gI p1 p4) p5 fun (y1 : List Int) =>
 ((inB p4 (List.length p2)) ∧
 (Ms_l3Shade (gI p2 p4) y1 fun (y2 : List Int) =>
 ((inB p4 (List.length y2)) ∧
 (K (uL y2 p4 2)))))))
/-! spec.l6Root -/
def Ms_l6Root (p1 : List Int) (p2 : List Int) (p3 : List Int) (p4 : List Int) (p5 : Int) (p6 : List Int) (p7 : Int) (K : Int → Prop) : Prop :=
 (LoopP (S := Int × List Int × List Int × List Int × List Int × Int × List Int × Int) (fun s1 Kb1 Kx1 =>
 (((decide (s1.1 < (len s1.2.2.2.1))) = true →
 ((inB s1.1 (List.length s1.2.2.2.1)) ∧
 ((((gI s1.2.2.2.1 s1.1) != (-1)) = true →
 ((inB (gI s1.2.2.2.1 s1.1) (List.length s1.2.2.2.2.2.2.1)) ∧
 ((((gI s1.2.2.2.2.2.2.1 (gI s1.2.2.2.1 s1.1)) == 0) = true →
 (K s1.1)) ∧
 (((gI s1.2.2.2.2.2.2.1 (gI s1.2.2.2.1 s1.1)) == 0) = false →
 (Kb1 ((iadd s1.1 1), s1.2.1, s1.2.2.1, s1.2.2.2.1, s1.2.2.2.2.1, s1.2.2.2.2.2.1, s1.2.2.2.2.2.2.1, s1.2.2.2.2.2.2.2)))))) ∧
 (((gI s1.2.2.2.1 s1.1) != (-1)) = false →
 (Kb1 ((iadd s1.1 1), s1.2.1, s1.2.2.1, s1.2.2.2.1, s1.2.2.2.2.1, s1.2.2.2.2.2.1, s1.2.2.2.2.2.2.1, s1.2.2.2.2.2.2.2)))))) ∧
 ((decide (s1.1 < (len s1.2.2.2.1))) = false →
 (Kx1 (s1.1, s1.2.1, s1.2.2.1, s1.2.2.2.1, s1.2.2.2.2.1, s1.2.2.2.2.2.1, s1.2.2.2.2.2.2.1, s1.2.2.2.2.2.2.2)))))
 (0, p1, p2, p3, p4, p5, p6, p7) fun s1 =>
 (K (-1)))
/-! spec.l6Mark -/
def Ms_l6Mark (p1 : List Int) (p2 : List Int) (p3 : List Int) (p4 : List Int) (p5 : Int) (p6 : Int) (p7 : List Int) (K : Int → (List Int) → Prop) : Prop :=
 (Ms_l3First p1 p2 p3 p7 1 fun (y1 : Int) =>
 (((decide (y1 ≥ 0)) = true →
 (Ms_l3Black p1 p2 p3 y1 p7 fun (y2 : List Int) =>
 (K p5 y2))) ∧
 ((decide (y1 ≥ 0)) = false →
 (Ms_l6Root p1 p2 p3 p4 p5 p7 p6 fun (y3 : Int) =>
 (((decide (y3 ≥ 0)) = true →
 ((inB y3 (List.length p3)) ∧
 (Ms_l3Shade (gI p3 y3) p7 fun (y4 : List Int) =>
 (K p5 y4)))) ∧
 ((decide (y3 ≥ 0)) = false →
 (K 3 p7)))))))
/-! spec.l4Clear -/
def Ms_l4Clear (p1 : List Int) (p2 : List Int) (p3 : List Int) (p4 : List Int) (p5 : List Int) (K : (List Int) → (List Int) → (List Int) → (List Int) → Prop) : Prop :=
 (Ms_l4Copy p1 p2 p3 p4 <|
 (LoopP (S := List Int × Int × List Int × List Int × List Int × List Int × List Int × List Int × List Int × List Int) (fun s1 Kb1 Kx1 =>
 (((decide (s1.2.1 < (len s1.2.2.2.2.2.2.1))) = true →
 (let j14 := fun (z12 : List Int) (z13 : List Int) =>
 (Kb1 (s1.1, (iadd s1.2.1 1), s1.2.2.1, s1.2.2.2.1, s1.2.2.2.2.1, s1.2.2.2.2.2.1, z12, z13, s1.2.2.2.2.2.2.2.2.1, s1.2.2.2.2.2.2.2.2.2));
 (let j8 := fun (z5 : List Int) =>
 ((inB s1.2.1 (List.length s1.2.2.2.2.2.2.2.1)) ∧
 (Ms_l4At s1.1 (gI s1.2.2.2.2.2.2.2.1 s1.2.1) fun (y6 : Int) =>
 (((decide (y6 ≥ 0)) = true →
 ((inB s1.2.1 (List.length s1.2.2.2.2.2.2.2.1)) ∧
 (j14 z5 (uL s1.2.2.2.2.2.2.2.1 s1.2.1 (-1))))) ∧
 ((decide (y6 ≥ 0)) = false →
 (Ms_l4At s1.1 s1.2.1 fun (y7 : Int) =>
 (((decide (y7 ≥ 0)) = true →
 ((inB s1.2.1 (List.length s1.2.2.2.2.2.2.2.1)) ∧
 (j14 z5 (uL s1.2.2.2.2.2.2.2.1 s1.2.1 (-1))))) ∧
 ((decide (y7 ≥ 0)) = false →
 (j14 z5 s1.2.2.2.2.2.2.2.1))))))));
 ((inB s1.2.1 (List.length s1.2.2.2.2.2.2.1)) ∧
 (Ms_l4At s1.1 (gI s1.2.2.2.2.2.2.1 s1.2.1) fun (y2 : Int) =>
 (((decide (y2 ≥ 0)) = true →
 ((inB s1.2.1 (List.length s1.2.2.2.2.2.2.1)) ∧
 (j8 (uL s1.2.2.2.2.2.2.1 s1.2.1 (-1))))) ∧
 ((decide (y2 ≥ 0)) = false →
 (Ms_l4At s1.1 s1.2.1 fun (y3 : Int) =>
 (((decide (y3 ≥ 0)) = true →
 ((inB s1.2.1 (List.length s1.2.2.2.2.2.2.1)) ∧
 (j8 (uL s1.2.2.2.2.2.2.1 s1.2.1 (-1))))) ∧
 ((decide (y3 ≥ 0)) = false →
 (j8 s1.2.2.2.2.2.2.1))))))))))) ∧
 ((decide (s1.2.1 < (len s1.2.2.2.2.2.2.1))) = false →
 (Kx1 (s1.1, s1.2.1, s1.2.2.1, s1.2.2.2.1, s1.2.2.2.2.1, s1.2.2.2.2.2.1, s1.2.2.2.2.2.2.1, s1.2.2.2.2.2.2.2.1, s1.2.2.2.2.2.2.2.2.1, s1.2.2.2.2.2.2.2.2.2)))))
 (p5, 0, [], [], [], [], p1, p2, p3, p4) fun s1 =>
 ((List.length s1.2.2.2.2.2.2.2.2.2 + List.length s1.1 ≤ 2 ^ 36) ∧
 (K s1.2.2.2.2.2.2.1 s1.2.2.2.2.2.2.2.1 s1.2.2.2.2.2.2.2.2.1 (s1.2.2.2.2.2.2.2.2.2 ++ s1.1)))))
/-! spec.l6Step -/
def Ms_l6Step (p1 : List Int) (p2 : List Int) (p3 : List Int) (p4 : List Int) (p5 : Int) (p6 : List Int) (p7 : Int) (K : Int → Int → (List Int) → (List Int) → (List Int) → (List Int) → (List Int) → Prop) : Prop :=
 (Ms_l6Copy p5 p6 p7 <|
 (((p5 == 0) = true →
 (Ms_l4Copy p1 p2 p3 p4 <|
 ((0 ≤ (len p6) ∧ (len p6) = (len p6) ∧ (len p6) ≤ 2 ^ 36) ∧
 (K 1 0 p1 p2 p3 p4 (List.replicate (Int.toNat (len p6)) (0 : Int)))))) ∧
 ((p5 == 0) = false →
 (((p5 == 1) = true →
 ((inB p7 (List.length p3)) ∧
 (Ms_l3Shade (gI p3 p7) p6 fun (y1 : List Int) =>
 (Ms_l4Copy p1 p2 p3 p4 <|
 (Ms_l6Next p5 p7 (len p3) 2 y1 fun (y2 : Int) (y3 : Int) =>
 (K y2 y3 p1 p2 p3 p4 y1)))))) ∧
 ((p5 == 1) = false →
 (((p5 == 2) = true →
 (Ms_l4Copy p1 p2 p3 p4 <|
 (Ms_l6Mark p1 p2 p3 p4 p5 p7 p6 fun (y4 : Int) (y5 : List Int) =>
 (K y4 p7 p1 p2 p3 p4 y5)))) ∧
 ((p5 == 2) = false →
 (Ms_l6Swept p1 p2 p3 p4 p5 p6 p7 fun (y6 : Int) =>
 (Ms_l4Copy p1 p2 p3 p4 <|
 (((y6 != (-1)) = true →
 (Ms_l4Clear p1 p2 p3 p4 [y6] fun (y7 : List Int) (y8 : List Int) (y9 : List Int) (y10 : List Int) =>
 ((inB p7 (List.length p6)) ∧
 (Ms_l6Next p5 p7 (len p6) 0 (uL p6 p7 0) fun (y11 : Int) (y12 : Int) =>
 (K y11 y12 y7 y8 y9 y10 (uL p6 p7 0)))))) ∧
 ((y6 != (-1)) = false →
 ((inB p7 (List.length p6)) ∧
 (Ms_l6Next p5 p7 (len p6) 0 (uL p6 p7 0) fun (y13 : Int) (y14 : Int) =>
 (K y13 y14 p1 p2 p3 p4 (uL p6 p7 0)))))))))))))))
/-! spec.l7Gc -/
def Ms_l7Gc (p1 : List Int) (p2 : List Int) (p3 : List Int) (p4 : List Int) (p5 : Int) (p6 : List Int) (p7 : Int) (p8 : List OpV) (p9 : Int) (p10 : Bool) (K : Int → Int → Bool → (List Int) → (List Int) → (List Int) → (List Int) → (List Int) → Prop) : Prop :=
 (Ms_l7Copy p1 p2 p3 p4 p5 p6 p7 p8 p9 p10 <|
 (Ms_l6Swept p1 p2 p3 p4 p5 p6 p7 fun (y1 : Int) =>
 (Ms_l7Live p1 p2 p3 p4 y1 fun (y2 : Bool) =>
 ((y2 = true →
 (K p5 p7 true p1 p2 p3 p4 p6)) ∧
 (y2 = false →
 (Ms_l6Step p1 p2 p3 p4 p5 p6 p7 fun (y3 : Int) (y4 : Int) (y5 : List Int) (y6 : List Int) (y7 : List Int) (y8 : List Int) (y9 : List Int) =>
 (K y3 y4 p10 y5 y6 y7 y8 y9)))))))
/-! spec.TargetOf -/
def Ms_TargetOf (p1 : List Int) (p2 : List Int) (p3 : List Int) (p4 : List Int) (p5 : Int) (p6 : Int) (p7 : Int) (K : Int → Prop) : Prop :=
 (Ms_StoreValid p1 p2 p3 p4 fun (y1 : Bool) =>
 (((!y1) = true →
 (K (-1))) ∧
 ((!y1) = false →
 (Ms_OpValid p5 p6 p7 (len p3) fun (y2 : Bool) =>
 (((!y2) = true →
 (K (-1))) ∧
 ((!y2) = false →
 (((p5 != 5) = true →
 (((p5 != 6) = true →
 (K (-1))) ∧
 ((p5 != 6) = false →
 ((inB p6 (List.length p3)) ∧
 ((((gI p3 p6) == (-1)) = true →
 (K (-1))) ∧
 (((gI p3 p6) == (-1)) = false →
 ((inB p7 (List.length p3)) ∧
 (K (gI p3 p7))))))))) ∧
 ((p5 != 5) = false →
 ((inB p6 (List.length p3)) ∧
 ((((gI p3 p6) == (-1)) = true →
 (K (-1))) ∧
 (((gI p3 p6) == (-1)) = false →
 ((inB p7 (List.length p3)) ∧
 (K (gI p3 p7))))))))))))))
/-! spec.l5Do -/
def Ms_l5Do (p1 : Int) (p2 : Int) (p3 : Int) (p4 : List Int) (p5 : List Int) (p6 : List Int) (p7 : List Int) (K : Int → (List Int) → (List Int) → (List Int) → Prop) : Prop :=
 ((inB p2 (List.length p6)) ∧
 ((inB p3 (List.length p6)) ∧
 (((p1 == 2) = true →
 ((inB p2 (List.length p6)) ∧
 (K 0 p4 p5 (uL p6 p2 (gI p6 p3))))) ∧
 ((p1 == 2) = false →
 (((p1 == 7) = true →
 ((inB p2 (List.length p6)) ∧
 (K 0 p4 p5 (uL p6 p2 (-1))))) ∧
 ((p1 == 7) = false →
 (((p1 == 3) = true →
 ((((gI p6 p3) == (-1)) = true →
 (K 2 p4 p5 p6)) ∧
 (((gI p6 p3) == (-1)) = false →
 ((inB (gI p6 p3) (List.length p4)) ∧
 (((p1 == 4) = true →
 ((inB (gI p6 p3) (List.length p5)) ∧
 ((inB p2 (List.length p6)) ∧
 (K 0 p4 p5 (uL p6 p2 (gI p5 (gI p6 p3))))))) ∧
 ((p1 == 4) = false →
 ((inB p2 (List.length p6)) ∧
 (K 0 p4 p5 (uL p6 p2 (gI p4 (gI p6 p3))))))))))) ∧
 ((p1 == 3) = false →
 (((p1 == 4) = true →
 ((((gI p6 p3) == (-1)) = true →
 (K 2 p4 p5 p6)) ∧
 (((gI p6 p3) == (-1)) = false →
 ((inB (gI p6 p3) (List.length p4)) ∧
 (((p1 == 4) = true →
 ((inB (gI p6 p3) (List.length p5)) ∧
 ((inB p2 (List.length p6)) ∧
 (K 0 p4 p5 (uL p6 p2 (gI p5 (gI p6 p3))))))) ∧
 ((p1 == 4) = false →
 ((inB p2 (List.length p6)) ∧
 (K 0 p4 p5 (uL p6 p2 (gI p4 (gI p6 p3))))))))))) ∧
 ((p1 == 4) = false →
 ((((gI p6 p2) == (-1)) = true →
 (K 2 p4 p5 p6)) ∧
 (((gI p6 p2) == (-1)) = false →
 (((p1 == 5) = true →
 ((inB (gI p6 p2) (List.length p4)) ∧
 (K 0 (uL p4 (gI p6 p2) (gI p6 p3)) p5 p6))) ∧
 ((p1 == 5) = false →
 ((inB (gI p6 p2) (List.length p5)) ∧
 (K 0 p4 (uL p5 (gI p6 p2) (gI p6 p3)) p6))))))))))))))))
/-! spec.AllocCell -/
def Ms_AllocCell (p1 : List Int) (p2 : List Int) (p3 : List Int) (p4 : List Int) (p5 : Int) (K : Int → Bool → (List Int) → (List Int) → (List Int) → (List Int) → Prop) : Prop :=
 (Ms_StoreValid p1 p2 p3 p4 fun (y1 : Bool) =>
 (((!y1) = true →
 (K 0 false [] [] [] [])) ∧
 ((!y1) = false →
 (((decide (p5 < 0)) = true →
 (K 0 false [] [] [] [])) ∧
 ((decide (p5 < 0)) = false →
 (((decide (p5 ≥ (len p3))) = true →
 (K 0 false [] [] [] [])) ∧
 ((decide (p5 ≥ (len p3))) = false →
 ((((len p4) == 0) = true →
 (K 0 false [] [] [] [])) ∧
 (((len p4) == 0) = false →
 (Ms_l4Copy p1 p2 p3 p4 <|
 ((inB 0 (List.length p4)) ∧
 (((0 : Int) ≤ (1 : Int) ∧ (1 : Int) ≤ (len p4) ∧ (len p4) ≤ len p4) ∧
 (((List.length (sub p4 (1 : Int) (len p4)) : Nat) ≤ 2 ^ 36) ∧
 ((inB p5 (List.length p3)) ∧
 (K (gI p4 0) true p1 p2 (uL p3 p5 (gI p4 0)) (sub p4 (1 : Int) (len p4)))))))))))))))))
/-! spec.RunOp -/
def Ms_RunOp (p1 : List Int) (p2 : List Int) (p3 : List Int) (p4 : List Int) (p5 : Int) (p6 : Int) (p7 : Int) (K : Int → Bool → (List Int) → (List Int) → (List Int) → (List Int) → Prop) : Prop :=
 (Ms_StoreValid p1 p2 p3 p4 fun (y1 : Bool) =>
 (((!y1) = true →
 (K 0 false [] [] [] [])) ∧
 ((!y1) = false →
 (Ms_OpValid p5 p6 p7 (len p3) fun (y2 : Bool) =>
 (((!y2) = true →
 (K 0 false [] [] [] [])) ∧
 ((!y2) = false →
 (((p5 != 1) = true →
 (Ms_l4Copy p1 p2 p3 p4 <|
 (Ms_l5Do p5 p6 p7 p1 p2 p3 p4 fun (y3 : Int) (y4 : List Int) (y5 : List Int) (y6 : List Int) =>
 (K y3 true y4 y5 y6 p4)))) ∧
 ((p5 != 1) = false →
 (Ms_AllocCell p1 p2 p3 p4 p6 fun (y7 : Int) (y8 : Bool) (y9 : List Int) (y10 : List Int) (y11 : List Int) (y12 : List Int) =>
 (((!y8) = true →
 (Ms_l4Copy p1 p2 p3 p4 <|
 (K 1 true p1 p2 p3 p4))) ∧
 ((!y8) = false →
 (K 0 true y9 y10 y11 y12))))))))))))
/-! spec.l1Cell -/
def Ms_l1Cell (p1 : List Int) (p2 : List Int) (p3 : List Int) (p4 : Int) (K : Bool → Prop) : Prop :=
 (Ms_HeapValid p1 p2 p3 fun (y1 : Bool) =>
 ((y1 = true →
 (((decide (p4 ≥ 0)) = true →
 (K (decide (p4 < (len p1))))) ∧
 ((decide (p4 ≥ 0)) = false →
 (K false)))) ∧
 (y1 = false →
 (K false))))
/-! spec.ColorNew -/
def Ms_ColorNew (p1 : List Int) (p2 : List Int) (p3 : List Int) (p4 : List Int) (p5 : Int) (p6 : List Int) (p7 : Int) (p8 : Int) (K : Int → Int → Bool → (List Int) → Prop) : Prop :=
 (Ms_GcValid p1 p2 p3 p4 p5 p6 p7 fun (y1 : Bool) =>
 (((!y1) = true →
 (K 0 0 false [])) ∧
 ((!y1) = false →
 (Ms_l1Cell p1 p2 p3 p8 fun (y2 : Bool) =>
 (((!y2) = true →
 (K 0 0 false [])) ∧
 ((!y2) = false →
 (Ms_l6Copy p5 p6 p7 <|
 ((inB p8 (List.length p6)) ∧
 (((p5 == 1) = true →
 ((inB p8 (List.length (uL p6 p8 0))) ∧
 (K p5 p7 true (uL (uL p6 p8 0) p8 2)))) ∧
 ((p5 == 1) = false →
 (((p5 == 2) = true →
 ((inB p8 (List.length (uL p6 p8 0))) ∧
 (K p5 p7 true (uL (uL p6 p8 0) p8 2)))) ∧
 ((p5 == 2) = false →
 (((p5 == 3) = true →
 (((decide (p8 ≥ p7)) = true →
 ((inB p8 (List.length (uL p6 p8 0))) ∧
 (K p5 p7 true (uL (uL p6 p8 0) p8 2)))) ∧
 ((decide (p8 ≥ p7)) = false →
 (K p5 p7 true (uL p6 p8 0))))) ∧
 ((p5 == 3) = false →
 (K p5 p7 true (uL p6 p8 0))))))))))))))))
/-! spec.ShadeGc -/
def Ms_ShadeGc (p1 : List Int) (p2 : List Int) (p3 : List Int) (p4 : List Int) (p5 : Int) (p6 : List Int) (p7 : Int) (p8 : Int) (K : Int → Int → Bool → (List Int) → Prop) : Prop :=
 (Ms_GcValid p1 p2 p3 p4 p5 p6 p7 fun (y1 : Bool) =>
 (((!y1) = true →
 (K 0 0 false [])) ∧
 ((!y1) = false →
 (Ms_l1Cell p1 p2 p3 p8 fun (y2 : Bool) =>
 (((!y2) = true →
 (K 0 0 false [])) ∧
 ((!y2) = false →
 (Ms_l6Copy p5 p6 p7 <|
 (((p5 == 1) = true →
 (Ms_l3Shade p8 p6 fun (y3 : List Int) =>
 (K p5 p7 true y3))) ∧
 ((p5 == 1) = false →
 (((p5 == 2) = true →
 (Ms_l3Shade p8 p6 fun (y4 : List Int) =>
 (K p5 p7 true y4))) ∧
 ((p5 == 2) = false →
 (K p5 p7 true p6))))))))))))
/-! spec.l7Op -/
def Ms_l7Op (p1 : List Int) (p2 : List Int) (p3 : List Int) (p4 : List Int) (p5 : Int) (p6 : List Int) (p7 : Int) (p8 : List OpV) (p9 : Int) (p10 : Bool) (p11 : Bool) (K : Int → Int → Int → (List Int) → (List Int) → (List Int) → (List Int) → (List Int) → Prop) : Prop :=
 (Ms_l7Copy p1 p2 p3 p4 p5 p6 p7 p8 p9 p10 <|
 ((inB p9 (List.length p8)) ∧
 (Ms_TargetOf p1 p2 p3 p4 ((gO p8 p9).kind) ((gO p8 p9).a) ((gO p8 p9).b) fun (y1 : Int) =>
 (Ms_RunOp p1 p2 p3 p4 ((gO p8 p9).kind) ((gO p8 p9).a) ((gO p8 p9).b) fun (y2 : Int) (y3 : Bool) (y4 : List Int) (y5 : List Int) (y6 : List Int) (y7 : List Int) =>
 (((y2 != 0) = true →
 (K p5 p7 (iadd p9 1) p1 p2 p3 p4 p6)) ∧
 ((y2 != 0) = false →
 (((((gO p8 p9).kind) == 1) = true →
 ((inB ((gO p8 p9).a) (List.length y6)) ∧
 (Ms_ColorNew y4 y5 y6 y7 p5 p6 p7 (gI y6 ((gO p8 p9).a)) fun (y8 : Int) (y9 : Int) (y10 : Bool) (y11 : List Int) =>
 ((p11 = true →
 (((y1 != (-1)) = true →
 (Ms_ShadeGc y4 y5 y6 y7 y8 y11 y9 y1 fun (y12 : Int) (y13 : Int) (y14 : Bool) (y15 : List Int) =>
 (K y12 y13 (iadd p9 1) y4 y5 y6 y7 y15))) ∧
 ((y1 != (-1)) = false →
 (K y8 y9 (iadd p9 1) y4 y5 y6 y7 y11)))) ∧
 (p11 = false →
 (K y8 y9 (iadd p9 1) y4 y5 y6 y7 y11)))))) ∧
 ((((gO p8 p9).kind) == 1) = false →
 ((p11 = true →
 (((y1 != (-1)) = true →
 (Ms_ShadeGc y4 y5 y6 y7 p5 p6 p7 y1 fun (y16 : Int) (y17 : Int) (y18 : Bool) (y19 : List Int) =>
 (K y16 y17 (iadd p9 1) y4 y5 y6 y7 y19))) ∧
 ((y1 != (-1)) = false →
 (K p5 p7 (iadd p9 1) y4 y5 y6 y7 p6)))) ∧
 (p11 = false →
 (K p5 p7 (iadd p9 1) y4 y5 y6 y7 p6)))))))))))
/-! spec.RunBoth -/
def Ms_RunBoth (p1 : List Int) (p2 : List Int) (p3 : List Int) (p4 : List Int) (p5 : Int) (p6 : List Int) (p7 : Int) (p8 : List OpV) (p9 : Int) (p10 : Bool) (p11 : List UInt8) (p12 : Bool) (K : Int → Int → Int → Bool → Bool → (List Int) → (List Int) → (List Int) → (List Int) → (List Int) → (List OpV) → Prop) : Prop :=
 (Ms_BothValid p1 p2 p3 p4 p5 p6 p7 p8 p9 p10 fun (y1 : Bool) =>
 (((!y1) = true →
 (K 0 0 0 false false [] [] [] [] [] [])) ∧
 ((!y1) = false →
 (((decide ((len p11) > 100)) = true →
 (K 0 0 0 false false [] [] [] [] [] [])) ∧
 ((decide ((len p11) > 100)) = false →
 (Ms_l7Copy p1 p2 p3 p4 p5 p6 p7 p8 p9 p10 <|
 (LoopP (S := List UInt8 × Bool × Int × Int × Int × Int × Bool × Int × Int × Int × Bool × List Int × List Int × List Int × List Int × List Int × List OpV × List Int × List Int × List Int × List Int × List Int × List OpV) (fun s2 Kb2 Kx2 =>
 (((decide (s2.2.2.1 < (len s2.1))) = true →
 (let j30 : Prop :=
 (Kb2 (s2.1, s2.2.1, (iadd s2.2.2.1 1), s2.2.2.2.1, s2.2.2.2.2.1, s2.2.2.2.2.2.1, s2.2.2.2.2.2.2.1, s2.2.2.2.2.2.2.2.1, s2.2.2.2.2.2.2.2.2.1, s2.2.2.2.2.2.2.2.2.2.1, s2.2.2.2.2.2.2.2.2.2.2.1, s2.2.2.2.2.2.2.2.2.2.2.2.1, s2.2.2.2.2.2.2.2.2.2.2.2.2.1, s2.2.2.2.2.2.2.2.2.2.2.2.2.2.1, s2.2.2.2.2.2.2.2.2.2.2.2.2.2.2.1, s2.2.2.2.2.2.2.2.2.2.2.2.2.2.2.2.1, s2.2.2.2.2.2.2.2.2.2.2.2.2.2.2.2.2.1, s2.2.2.2.2.2.2.2.2.2.2.2.2.2.2.2.2.2.1, s2.2.2.2.2.2.2.2.2.2.2.2.2.2.2.2.2.2.2.1, s2.2.2.2.2.2.2.2.2.2.2.2.2.2.2.2.2.2.2.2.1, s2.2.2.2.2.2.2.2.2.2.2.2.2.2.2.2.2.2.2.2.2.1, s2.2.2.2.2.2.2.2.2.2.2.2.2.2.2.2.2.2.2.2.2.2.1, s2.2.2.2.2.2.2.2.2.2.2.2.2.2.2.2.2.2.2.2.2.2.2));
 (let j40 := fun (z31 : Int) (z32 : Int) (z33 : Int) (z34 : Bool) (z35 : List Int) (z36 : List Int) (z37 : List Int) (z38 : List Int) (z39 : List Int) =>
 (Kb2 (s2.1, s2.2.1, (iadd s2.2.2.1 1), s2.2.2.2.1, s2.2.2.2.2.1, s2.2.2.2.2.2.1, s2.2.2.2.2.2.2.1, z31, z32, z33, z34, s2.2.2.2.2.2.2.2.2.2.2.2.1, s2.2.2.2.2.2.2.2.2.2.2.2.2.1, s2.2.2.2.2.2.2.2.2.2.2.2.2.2.1, s2.2.2.2.2.2.2.2.2.2.2.2.2.2.2.1, s2.2.2.2.2.2.2.2.2.2.2.2.2.2.2.2.1, s2.2.2.2.2.2.2.2.2.2.2.2.2.2.2.2.2.1, z35, z36, z37, z38, z39, s2.2.2.2.2.2.2.2.2.2.2.2.2.2.2.2.2.2.2.2.2.2.2));
 (let j20 : Prop :=
 ((s2.2.2.2.2.2.2.2.2.2.2.1 = true →
 j30) ∧
 (s2.2.2.2.2.2.2.2.2.2.2.1 = false →
 ((inB s2.2.2.1 (List.length s2.1)) ∧
 ((((gC s2.1 s2.2.2.1) == 103) = true →
 (Ms_l7Gc s2.2.2.2.2.2.2.2.2.2.2.2.2.2.2.2.2.2.1 s2.2.2.2.2.2.2.2.2.2.2.2.2.2.2.2.2.2.2.1 s2.2.2.2.2.2.2.2.2.2.2.2.2.2.2.2.2.2.2.2.1 s2.2.2.2.2.2.2.2.2.2.2.2.2.2.2.2.2.2.2.2.2.1 s2.2.2.2.2.2.2.2.1 s2.2.2.2.2.2.2.2.2.2.2.2.2.2.2.2.2.2.2.2.2.2.1 s2.2.2.2.2.2.2.2.2.1 s2.2.2.2.2.2.2.2.2.2.2.2.2.2.2.2.2.2.2.2.2.2.2 s2.2.2.2.2.2.2.2.2.2.1 s2.2.2.2.2.2.2.2.2.2.2.1 fun (y3 : Int) (y4 : Int) (y5 : Bool) (y6 : List Int) (y7 : List Int) (y8 : List Int) (y9 : List Int) (y10 : List Int) =>
 (j40 y3 y4 s2.2.2.2.2.2.2.2.2.2.1 y5 y6 y7 y8 y9 y10))) ∧
 (((gC s2.1 s2.2.2.1) == 103) = false →
 (let v11 : Bool := (decide (s2.2.2.2.2.2.2.2.2.2.1 < (len s2.2.2.2.2.2.2.2.2.2.2.2.2.2.2.2.2.2.2.2.2.2.2)));
 ((v11 = true →
 (Ms_l7Op s2.2.2.2.2.2.2.2.2.2.2.2.2.2.2.2.2.2.1 s2.2.2.2.2.2.2.2.2.2.2.2.2.2.2.2.2.2.2.1 s2.2.2.2.2.2.2.2.2.2.2.2.2.2.2.2.2.2.2.2.1 s2.2.2.2.2.2.2.2.2.2.2.2.2.2.2.2.2.2.2.2.2.1 s2.2.2.2.2.2.2.2.1 s2.2.2.2.2.2.2.2.2.2.2.2.2.2.2.2.2.2.2.2.2.2.1 s2.2.2.2.2.2.2.2.2.1 s2.2.2.2.2.2.2.2.2.2.2.2.2.2.2.2.2.2.2.2.2.2.2 s2.2.2.2.2.2.2.2.2.2.1 s2.2.2.2.2.2.2.2.2.2.2.1 s2.2.1 fun (y12 : Int) (y13 : Int) (y14 : Int) (y15 : List Int) (y16 : List Int) (y17 : List Int) (y18 : List Int) (y19 : List Int) =>
 (j40 y12 y13 y14 s2.2.2.2.2.2.2.2.2.2.2.1 y15 y16 y17 y18 y19))) ∧
 (v11 = false →
 j30))))))));
 ((inB s2.2.2.1 (List.length s2.1)) ∧
 ((((gC s2.1 s2.2.2.1) != 111) = true →
 ((inB s2.2.2.1 (List.length s2.1)) ∧
 ((((gC s2.1 s2.2.2.1) != 103) = true →
 (K 0 0 0 false false [] [] [] [] [] [])) ∧
 (((gC s2.1 s2.2.2.1) != 103) = false →
 j20)))) ∧
 (((gC s2.1 s2.2.2.1) != 111) = false →
 j20))))))) ∧
 ((decide (s2.2.2.1 < (len s2.1))) = false →
 (Kx2 (s2.1, s2.2.1, s2.2.2.1, s2.2.2.2.1, s2.2.2.2.2.1, s2.2.2.2.2.2.1, s2.2.2.2.2.2.2.1, s2.2.2.2.2.2.2.2.1, s2.2.2.2.2.2.2.2.2.1, s2.2.2.2.2.2.2.2.2.2.1, s2.2.2.2.2.2.2.2.2.2.2.1, s2.2.2.2.2.2.2.2.2.2.2.2.1, s2.2.2.2.2.2.2.2.2.2.2.2.2.1, s2.2.2.2.2.2.2.2.2.2.2.2.2.2.1, s2.2.2.2.2.2.2.2.2.2.2.2.2.2.2.1, s2.2.2.2.2.2.2.2.2.2.2.2.2.2.2.2.1, s2.2.2.2.2.2.2.2.2.2.2.2.2.2.2.2.2.1, s2.2.2.2.2.2.2.2.2.2.2.2.2.2.2.2.2.2.1, s2.2.2.2.2.2.2.2.2.2.2.2.2.2.2.2.2.2.2.1, s2.2.2.2.2.2.2.2.2.2.2.2.2.2.2.2.2.2.2.2.1, s2.2.2.2.2.2.2.2.2.2.2.2.2.2.2.2.2.2.2.2.2.1, s2.2.2.2.2.2.2.2.2.2.2.2.2.2.2.2.2.2.2.2.2.2.1, s2.2.2.2.2.2.2.2.2.2.2.2.2.2.2.2.2.2.2.2.2.2.2)))))
 (p11, p12, 0, 0, 0, 0, false, p5, p7, p9, p10, [], [], [], [], [], [], p1, p2, p3, p4, p6, p8) fun s2 =>
 (K s2.2.2.2.2.2.2.2.1 s2.2.2.2.2.2.2.2.2.1 s2.2.2.2.2.2.2.2.2.2.1 s2.2.2.2.2.2.2.2.2.2.2.1 true s2.2.2.2.2.2.2.2.2.2.2.2.2.2.2.2.2.2.1 s2.2.2.2.2.2.2.2.2.2.2.2.2.2.2.2.2.2.2.1 s2.2.2.2.2.2.2.2.2.2.2.2.2.2.2.2.2.2.2.2.1 s2.2.2.2.2.2.2.2.2.2.2.2.2.2.2.2.2.2.2.2.2.1 s2.2.2.2.2.2.2.2.2.2.2.2.2.2.2.2.2.2.2.2.2.2.1 s2.2.2.2.2.2.2.2.2.2.2.2.2.2.2.2.2.2.2.2.2.2.2))))))))
/-! slices.Equal[[]int,int] -/
def M_Equal_int (p1 : List Int) (p2 : List Int) (K : Bool → Prop) : Prop :=
 ((((len p1) != (len p2)) = true →
 (K false)) ∧
 (((len p1) != (len p2)) = false →
 (LoopP (S := List Int × List Int × Int × Int) (fun s1 Kb1 Kx1 =>
 (((decide (s1.2.2.2 < s1.2.2.1)) = true →
 ((inB s1.2.2.2 (List.length s1.1)) ∧
 ((inB s1.2.2.2 (List.length s1.2.1)) ∧
 ((((gI s1.1 s1.2.2.2) != (gI s1.2.1 s1.2.2.2)) = true →
 (K false)) ∧
 (((gI s1.1 s1.2.2.2) != (gI s1.2.1 s1.2.2.2)) = false →
 (Kb1 (s1.1, s1.2.1, s1.2.2.1, (iadd s1.2.2.2 1)))))))) ∧
 ((decide (s1.2.2.2 < s1.2.2.1)) = false →
 (Kx1 (s1.1, s1.2.1, s1.2.2.1, s1.2.2.2)))))
 (p1, p2, (len p1), 0) fun s1 =>
 (K true))))
/-! impl.HeapSame -/
def Mi_HeapSame (p1 : List Int) (p2 : List Int) (p3 : List Int) (p4 : List Int) (p5 : List Int) (p6 : List Int) (K : Bool → Prop) : Prop :=
 (M_Equal_int p1 p4 fun (y1 : Bool) =>
 ((y1 = true →
 (M_Equal_int p2 p5 fun (y2 : Bool) =>
 ((y2 = true →
 (M_Equal_int p3 p6 fun (y3 : Bool) =>
 (K y3))) ∧
 (y2 = false →
 (K false))))) ∧
 (y1 = false →
 (K false))))
/-! impl.StoreSame -/
def Mi_StoreSame (p1 : List Int) (p2 : List Int) (p3 : List Int) (p4 : List Int) (p5 : List Int) (p6 : List Int) (p7 : List Int) (p8 : List Int) (K : Bool → Prop) : Prop :=
 (Mi_HeapSame p1 p2 p3 p5 p6 p7 fun (y1 : Bool) =>
 ((y1 = true →
 (M_Equal_int p4 p8 fun (y2 : Bool) =>
 (K y2))) ∧
 (y1 = false →
 (K false))))
/-! impl.GcSame -/
def Mi_GcSame (p1 : Int) (p2 : List Int) (p3 : Int) (p4 : Int) (p5 : List Int) (p6 : Int) (K : Bool → Prop) : Prop :=
 (((p1 == p4) = true →
 (((p3 == p6) = true →
 (M_Equal_int p2 p5 fun (y1 : Bool) =>
 (K y1))) ∧
 ((p3 == p6) = false →
 (K false)))) ∧
 ((p1 == p4) = false →
 (K false)))
/-! slices.Equal[[]impl.Op,impl.Op] -/
def M_Equal_Op (p1 : List OpV) (p2 : List OpV) (K : Bool → Prop) : Prop :=
 ((((len p1) != (len p2)) = true →
 (K false)) ∧
 (((len p1) != (len p2)) = false →
 (LoopP (S := List OpV × List OpV × Int × Int) (fun s1 Kb1 Kx1 =>
 (((decide (s1.2.2.2 < s1.2.2.1)) = true →
 ((inB s1.2.2.2 (List.length s1.1)) ∧
 ((inB s1.2.2.2 (List.length s1.2.1)) ∧
 (let v2 : Bool := (!(((gO s1.1 s1.2.2.2).kind) == ((gO s1.2.1 s1.2.2.2).kind) && (((gO s1.1 s1.2.2.2).a) == ((gO s1.2.1 s1.2.2.2).a) && ((gO s1.1 s1.2.2.2).b) == ((gO s1.2.1 s1.2.2.2).b))));
 ((v2 = true →
 (K false)) ∧
 (v2 = false →
 (Kb1 (s1.1, s1.2.1, s1.2.2.1, (iadd s1.2.2.2 1))))))))) ∧
 ((decide (s1.2.2.2 < s1.2.2.1)) = false →
 (Kx1 (s1.1, s1.2.1, s1.2.2.1, s1.2.2.2)))))
 (p1, p2, (len p1), 0) fun s1 =>
 (K true))))
/-! impl.BothSame -/
def Mi_BothSame (p1 : List Int) (p2 : List Int) (p3 : List Int) (p4 : List Int) (p5 : Int) (p6 : List Int) (p7 : Int) (p8 : List OpV) (p9 : Int) (p10 : Bool) (p11 : List Int) (p12 : List Int) (p13 : List Int) (p14 : List Int) (p15 : Int) (p16 : List Int) (p17 : Int) (p18 : List OpV) (p19 : Int) (p20 : Bool) (K : Bool → Prop) : Prop :=
 (Mi_StoreSame p1 p2 p3 p4 p11 p12 p13 p14 fun (y1 : Bool) =>
 ((y1 = true →
 (Mi_GcSame p5 p6 p7 p15 p16 p17 fun (y2 : Bool) =>
 ((y2 = true →
 (M_Equal_Op p8 p18 fun (y3 : Bool) =>
 ((y3 = true →
 (((p9 == p19) = true →
 (K (p10 == p20))) ∧
 ((p9 == p19) = false →
 (K false)))) ∧
 (y3 = false →
 (K false))))) ∧
 (y2 = false →
 (K false))))) ∧
 (y1 = false →
 (K false))))
/-! impl.spaced -/
def Mi_spaced (p1 : List Int) (K : (List UInt8) → Prop) : Prop :=
 (LoopP (S := List UInt8 × List Int × Int × Int) (fun s1 Kb1 Kx1 =>
 (((decide (s1.2.2.2 < s1.2.2.1)) = true →
 ((inB s1.2.2.2 (List.length s1.2.1)) ∧
 (M_strconv_Itoa (gI s1.2.1 s1.2.2.2) fun (y2 : List UInt8) =>
 ((List.length [32] + List.length y2 ≤ 2 ^ 62) ∧
 ((List.length s1.1 + List.length ([32] ++ y2) ≤ 2 ^ 62) ∧
 (Kb1 ((s1.1 ++ ([32] ++ y2)), s1.2.1, s1.2.2.1, (iadd s1.2.2.2 1)))))))) ∧
 ((decide (s1.2.2.2 < s1.2.2.1)) = false →
 (Kx1 (s1.1, s1.2.1, s1.2.2.1, s1.2.2.2)))))
 (([] : List UInt8), p1, (len p1), 0) fun s1 =>
 (K s1.1))
/-! impl.FormatStore -/
def Mi_FormatStore (p1 : List Int) (p2 : List Int) (p3 : List Int) (p4 : List Int) (K : (List UInt8) → Prop) : Prop :=
 (Mi_StoreValid p1 p2 p3 p4 fun (y1 : Bool) =>
 (((!y1) = true →
 (K ([] : List UInt8))) ∧
 ((!y1) = false →
 (Mi_FormatHeap p1 p2 p3 fun (y2 : List UInt8) =>
 ((List.length y2 + List.length [32, 102, 114, 101, 101] ≤ 2 ^ 62) ∧
 (Mi_spaced p4 fun (y3 : List UInt8) =>
 ((List.length (y2 ++ [32, 102, 114, 101, 101]) + List.length y3 ≤ 2 ^ 62) ∧
 (K ((y2 ++ [32, 102, 114, 101, 101]) ++ y3)))))))))
/-! impl.FormatBoth -/
def Mi_FormatBoth (p1 : List Int) (p2 : List Int) (p3 : List Int) (p4 : List Int) (p5 : Int) (p6 : List Int) (p7 : Int) (p8 : List OpV) (p9 : Int) (p10 : Bool) (K : (List UInt8) → Prop) : Prop :=
 (Mi_BothValid p1 p2 p3 p4 p5 p6 p7 p8 p9 p10 fun (y1 : Bool) =>
 (((!y1) = true →
 (K ([] : List UInt8))) ∧
 ((!y1) = false →
 (Mi_FormatStore p1 p2 p3 p4 fun (y2 : List UInt8) =>
 ((List.length y2 + List.length [32] ≤ 2 ^ 62) ∧
 ((inB p5 (List.length [[105, 100, 108, 101], [114, 111, 111, 116, 115], [109, 97, 114, 107], [115, 119, 101, 101, 112]])) ∧
 (let v3 : List UInt8 := (gS [[105, 100, 108, 101], [114, 111, 111, 116, 115], [109, 97, 114, 107], [115, 119, 101, 101, 112]] p5);
 ((List.length (y2 ++ [32]) + List.length v3 ≤ 2 ^ 62) ∧
 ((List.length ((y2 ++ [32]) ++ v3) + List.length [32] ≤ 2 ^ 62) ∧
 (M_strconv_Itoa p7 fun (y4 : List UInt8) =>
 ((List.length (((y2 ++ [32]) ++ v3) ++ [32]) + List.length y4 ≤ 2 ^ 62) ∧
 ((List.length ((((y2 ++ [32]) ++ v3) ++ [32]) ++ y4) + List.length [32] ≤ 2 ^ 62) ∧
 (LoopP (S := List UInt8 × List Int × Int × Int × List Int × List Int × List Int × List Int × Int × List Int × Int × List OpV × Int × Bool) (fun s5 Kb5 Kx5 =>
 (((decide (s5.2.2.2.1 < s5.2.2.1)) = true →
 ((inB s5.2.2.2.1 (List.length s5.2.1)) ∧
 (((0 : Int) ≤ (gI s5.2.1 s5.2.2.2.1) ∧ (gI s5.2.1 s5.2.2.2.1) ≤ (iadd (gI s5.2.1 s5.2.2.2.1) 1) ∧ (iadd (gI s5.2.1 s5.2.2.2.1) 1) ≤ len [119, 103, 98]) ∧
 (let v6 : List UInt8 := (sub [119, 103, 98] (gI s5.2.1 s5.2.2.2.1) (iadd (gI s5.2.1 s5.2.2.2.1) 1));
 ((List.length s5.1 + List.length v6 ≤ 2 ^ 62) ∧
 (Kb5 ((s5.1 ++ v6), s5.2.1, s5.2.2.1, (iadd s5.2.2.2.1 1), s5.2.2.2.2.1, s5.2.2.2.2.2.1, s5.2.2.2.2.2.2.1, s5.2.2.2.2.2.2.2.1, s5.2.2.2.2.2.2.2.2.1, s5.2.2.2.2.2.2.2.2.2.1, s5.2.2.2.2.2.2.2.2.2.2.1, s5.2.2.2.2.2.2.2.2.2.2.2.1, s5.2.2.2.2.2.2.2.2.2.2.2.2.1, s5.2.2.2.2.2.2.2.2.2.2.2.2.2))))))) ∧
 ((decide (s5.2.2.2.1 < s5.2.2.1)) = false →
 (Kx5 (s5.1, s5.2.1, s5.2.2.1, s5.2.2.2.1, s5.2.2.2.2.1, s5.2.2.2.2.2.1, s5.2.2.2.2.2.2.1, s5.2.2.2.2.2.2.2.1, s5.2.2.2.2.2.2.2.2.1, s5.2.2.2.2.2.2.2.2.2.1, s5.2.2.2.2.2.2.2.2.2.2.1, s5.2.2.2.2.2.2.2.2.2.2.2.1, s5.2.2.2.2.2.2.2.2.2.2.2.2.1, s5.2.2.2.2.2.2.2.2.2.2.2.2.2)))))
 ((((((y2 ++ [32]) ++ v3) ++ [32]) ++ y4) ++ [32]), p6, (len p6), 0, p1, p2, p3, p4, p5, p6, p7, p8, p9, p10) fun s5 =>
 (M_strconv_Itoa s5.2.2.2.2.2.2.2.2.2.2.2.2.1 fun (y7 : List UInt8) =>
 ((List.length [32, 97, 116, 32] + List.length y7 ≤ 2 ^ 62) ∧
 ((List.length s5.1 + List.length ([32, 97, 116, 32] ++ y7) ≤ 2 ^ 62) ∧
 ((s5.2.2.2.2.2.2.2.2.2.2.2.2.2 = true →
 ((List.length (s5.1 ++ ([32, 97, 116, 32] ++ y7)) + List.length [32, 108, 111, 115, 116] ≤ 2 ^ 62) ∧
 (let v8 : List UInt8 := ((s5.1 ++ ([32, 97, 116, 32] ++ y7)) ++ [32, 108, 111, 115, 116]);
 (K v8)))) ∧
 (s5.2.2.2.2.2.2.2.2.2.2.2.2.2 = false →
 (K (s5.1 ++ ([32, 97, 116, 32] ++ y7)))))))))))))))))))))
/-! impl.FinishBoth -/
def Mi_FinishBoth (p1 : List Int) (p2 : List Int) (p3 : List Int) (p4 : List Int) (p5 : Int) (p6 : List Int) (p7 : Int) (p8 : List OpV) (p9 : Int) (p10 : Bool) (p11 : Bool) (K : Int → Int → Int → Bool → Bool → (List Int) → (List Int) → (List Int) → (List Int) → (List Int) → (List OpV) → Prop) : Prop :=
 (Mi_BothValid p1 p2 p3 p4 p5 p6 p7 p8 p9 p10 fun (y1 : Bool) =>
 (((!y1) = true →
 (K 0 0 0 false false [] [] [] [] [] [])) ∧
 ((!y1) = false →
 (Mi_anew p1 p2 p3 p4 p5 p6 p7 p8 p9 p10 fun (y2 : List Int) (y3 : List Int) (y4 : List Int) (y5 : List Int) (y6 : List Int) (y7 : List OpV) =>
 (LoopP (S := Bool × Int × Int × Int × Bool × Int × Int × Int × Bool × List Int × List Int × List Int × List Int × List Int × List OpV × List Int × List Int × List Int × List Int × List Int × List OpV) (fun s8 Kb8 Kx8 =>
 (Mi_StepOp s8.2.2.2.2.2.2.2.2.2.1 s8.2.2.2.2.2.2.2.2.2.2.1 s8.2.2.2.2.2.2.2.2.2.2.2.1 s8.2.2.2.2.2.2.2.2.2.2.2.2.1 s8.2.1 s8.2.2.2.2.2.2.2.2.2.2.2.2.2.1 s8.2.2.1 s8.2.2.2.2.2.2.2.2.2.2.2.2.2.2.1 s8.2.2.2.1 s8.2.2.2.2.1 s8.1 fun (y9 : Int) (y10 : Int) (y11 : Int) (y12 : Bool) (y13 : Bool) (y14 : List Int) (y15 : List Int) (y16 : List Int) (y17 : List Int) (y18 : List Int) (y19 : List OpV) =>
 (((!y13) = true →
 (Kx8 (s8.1, s8.2.1, s8.2.2.1, s8.2.2.2.1, s8.2.2.2.2.1, s8.2.2.2.2.2.1, s8.2.2.2.2.2.2.1, s8.2.2.2.2.2.2.2.1, s8.2.2.2.2.2.2.2.2.1, s8.2.2.2.2.2.2.2.2.2.1, s8.2.2.2.2.2.2.2.2.2.2.1, s8.2.2.2.2.2.2.2.2.2.2.2.1, s8.2.2.2.2.2.2.2.2.2.2.2.2.1, s8.2.2.2.2.2.2.2.2.2.2.2.2.2.1, s8.2.2.2.2.2.2.2.2.2.2.2.2.2.2.1, s8.2.2.2.2.2.2.2.2.2.2.2.2.2.2.2.1, s8.2.2.2.2.2.2.2.2.2.2.2.2.2.2.2.2.1, s8.2.2.2.2.2.2.2.2.2.2.2.2.2.2.2.2.2.1, s8.2.2.2.2.2.2.2.2.2.2.2.2.2.2.2.2.2.2.1, s8.2.2.2.2.2.2.2.2.2.2.2.2.2.2.2.2.2.2.2.1, s8.2.2.2.2.2.2.2.2.2.2.2.2.2.2.2.2.2.2.2.2))) ∧
 ((!y13) = false →
 (Kb8 (s8.1, y9, y10, y11, y12, s8.2.2.2.2.2.1, s8.2.2.2.2.2.2.1, s8.2.2.2.2.2.2.2.1, s8.2.2.2.2.2.2.2.2.1, y14, y15, y16, y17, y18, y19, s8.2.2.2.2.2.2.2.2.2.2.2.2.2.2.2.1, s8.2.2.2.2.2.2.2.2.2.2.2.2.2.2.2.2.1, s8.2.2.2.2.2.2.2.2.2.2.2.2.2.2.2.2.2.1, s8.2.2.2.2.2.2.2.2.2.2.2.2.2.2.2.2.2.2.1, s8.2.2.2.2.2.2.2.2.2.2.2.2.2.2.2.2.2.2.2.1, s8.2.2.2.2.2.2.2.2.2.2.2.2.2.2.2.2.2.2.2.2))))))
 (p11, p5, p7, p9, p10, 0, 0, 0, false, y2, y3, y4, y5, y6, y7, [], [], [], [], [], []) fun s8 =>
 (LoopP (S := Int × Int × Int × Int × Bool × Int × Int × Int × Bool × List Int × List Int × List Int × List Int × List Int × List OpV × List Int × List Int × List Int × List Int × List Int × List OpV) (fun s20 Kb20 Kx20 =>
 (((decide (s20.1 < 2)) = true →
 (Mi_StepBoth s20.2.2.2.2.2.2.2.2.2.1 s20.2.2.2.2.2.2.2.2.2.2.1 s20.2.2.2.2.2.2.2.2.2.2.2.1 s20.2.2.2.2.2.2.2.2.2.2.2.2.1 s20.2.1 s20.2.2.2.2.2.2.2.2.2.2.2.2.2.1 s20.2.2.1 s20.2.2.2.2.2.2.2.2.2.2.2.2.2.2.1 s20.2.2.2.1 s20.2.2.2.2.1 fun (y21 : Int) (y22 : Int) (y23 : Int) (y24 : Bool) (y25 : Bool) (y26 : List Int) (y27 : List Int) (y28 : List Int) (y29 : List Int) (y30 : List Int) (y31 : List OpV) =>
 (((!y25) = true →
 (Kx20 (s20.1, s20.2.1, s20.2.2.1, s20.2.2.2.1, s20.2.2.2.2.1, s20.2.2.2.2.2.1, s20.2.2.2.2.2.2.1, s20.2.2.2.2.2.2.2.1, s20.2.2.2.2.2.2.2.2.1, s20.2.2.2.2.2.2.2.2.2.1, s20.2.2.2.2.2.2.2.2.2.2.1, s20.2.2.2.2.2.2.2.2.2.2.2.1, s20.2.2.2.2.2.2.2.2.2.2.2.2.1, s20.2.2.2.2.2.2.2.2.2.2.2.2.2.1, s20.2.2.2.2.2.2.2.2.2.2.2.2.2.2.1, s20.2.2.2.2.2.2.2.2.2.2.2.2.2.2.2.1, s20.2.2.2.2.2.2.2.2.2.2.2.2.2.2.2.2.1, s20.2.2.2.2.2.2.2.2.2.2.2.2.2.2.2.2.2.1, s20.2.2.2.2.2.2.2.2.2.2.2.2.2.2.2.2.2.2.1, s20.2.2.2.2.2.2.2.2.2.2.2.2.2.2.2.2.2.2.2.1, s20.2.2.2.2.2.2.2.2.2.2.2.2.2.2.2.2.2.2.2.2))) ∧
 ((!y25) = false →
 (((!y24) = true →
 (((y21 == 0) = true →
 (Kb20 ((iadd s20.1 1), y21, y22, y23, y24, s20.2.2.2.2.2.1, s20.2.2.2.2.2.2.1, s20.2.2.2.2.2.2.2.1, s20.2.2.2.2.2.2.2.2.1, y26, y27, y28, y29, y30, y31, s20.2.2.2.2.2.2.2.2.2.2.2.2.2.2.2.1, s20.2.2.2.2.2.2.2.2.2.2.2.2.2.2.2.2.1, s20.2.2.2.2.2.2.2.2.2.2.2.2.2.2.2.2.2.1, s20.2.2.2.2.2.2.2.2.2.2.2.2.2.2.2.2.2.2.1, s20.2.2.2.2.2.2.2.2.2.2.2.2.2.2.2.2.2.2.2.1, s20.2.2.2.2.2.2.2.2.2.2.2.2.2.2.2.2.2.2.2.2))) ∧
 ((y21 == 0) = false →
 (Kb20 (s20.1, y21, y22, y23, y24, s20.2.2.2.2.2.1, s20.2.2.2.2.2.2.1, s20.2.2.2.2.2.2.2.1, s20.2.2.2.2.2.2.2.2.1, y26, y27, y28, y29, y30, y31, s20.2.2.2.2.2.2.2.2.2.2.2.2.2.2.2.1, s20.2.2.2.2.2.2.2.2.2.2.2.2.2.2.2.2.1, s20.2.2.2.2.2.2.2.2.2.2.2.2.2.2.2.2.2.1, s20.2.2.2.2.2.2.2.2.2.2.2.2.2.2.2.2.2.2.1, s20.2.2.2.2.2.2.2.2.2.2.2.2.2.2.2.2.2.2.2.1, s20.2.2.2.2.2.2.2.2.2.2.2.2.2.2.2.2.2.2.2.2))))) ∧
 ((!y24) = false →
 (Kb20 (s20.1, y21, y22, y23, y24, s20.2.2.2.2.2.1, s20.2.2.2.2.2.2.1, s20.2.2.2.2.2.2.2.1, s20.2.2.2.2.2.2.2.2.1, y26, y27, y28, y29, y30, y31, s20.2.2.2.2.2.2.2.2.2.2.2.2.2.2.2.1, s20.2.2.2.2.2.2.2.2.2.2.2.2.2.2.2.2.1, s20.2.2.2.2.2.2.2.2.2.2.2.2.2.2.2.2.2.1, s20.2.2.2.2.2.2.2.2.2.2.2.2.2.2.2.2.2.2.1, s20.2.2.2.2.2.2.2.2.2.2.2.2.2.2.2.2.2.2.2.1, s20.2.2.2.2.2.2.2.2.2.2.2.2.2.2.2.2.2.2.2.2)))))))) ∧
 ((decide (s20.1 < 2)) = false →
 (Kx20 (s20.1, s20.2.1, s20.2.2.1, s20.2.2.2.1, s20.2.2.2.2.1, s20.2.2.2.2.2.1, s20.2.2.2.2.2.2.1, s20.2.2.2.2.2.2.2.1, s20.2.2.2.2.2.2.2.2.1, s20.2.2.2.2.2.2.2.2.2.1, s20.2.2.2.2.2.2.2.2.2.2.1, s20.2.2.2.2.2.2.2.2.2.2.2.1, s20.2.2.2.2.2.2.2.2.2.2.2.2.1, s20.2.2.2.2.2.2.2.2.2.2.2.2.2.1, s20.2.2.2.2.2.2.2.2.2.2.2.2.2.2.1, s20.2.2.2.2.2.2.2.2.2.2.2.2.2.2.2.1, s20.2.2.2.2.2.2.2.2.2.2.2.2.2.2.2.2.1, s20.2.2.2.2.2.2.2.2.2.2.2.2.2.2.2.2.2.1, s20.2.2.2.2.2.2.2.2.2.2.2.2.2.2.2.2.2.2.1, s20.2.2.2.2.2.2.2.2.2.2.2.2.2.2.2.2.2.2.2.1, s20.2.2.2.2.2.2.2.2.2.2.2.2.2.2.2.2.2.2.2.2)))))
 (0, s8.2.1, s8.2.2.1, s8.2.2.2.1, s8.2.2.2.2.1, s8.2.2.2.2.2.1, s8.2.2.2.2.2.2.1, s8.2.2.2.2.2.2.2.1, s8.2.2.2.2.2.2.2.2.1, s8.2.2.2.2.2.2.2.2.2.1, s8.2.2.2.2.2.2.2.2.2.2.1, s8.2.2.2.2.2.2.2.2.2.2.2.1, s8.2.2.2.2.2.2.2.2.2.2.2.2.1, s8.2.2.2.2.2.2.2.2.2.2.2.2.2.1, s8.2.2.2.2.2.2.2.2.2.2.2.2.2.2.1, s8.2.2.2.2.2.2.2.2.2.2.2.2.2.2.2.1, s8.2.2.2.2.2.2.2.2.2.2.2.2.2.2.2.2.1, s8.2.2.2.2.2.2.2.2.2.2.2.2.2.2.2.2.2.1, s8.2.2.2.2.2.2.2.2.2.2.2.2.2.2.2.2.2.2.1, s8.2.2.2.2.2.2.2.2.2.2.2.2.2.2.2.2.2.2.2.1, s8.2.2.2.2.2.2.2.2.2.2.2.2.2.2.2.2.2.2.2.2) fun s20 =>
 (K s20.2.1 s20.2.2.1 s20.2.2.2.1 s20.2.2.2.2.1 true s20.2.2.2.2.2.2.2.2.2.1 s20.2.2.2.2.2.2.2.2.2.2.1 s20.2.2.2.2.2.2.2.2.2.2.2.1 s20.2.2.2.2.2.2.2.2.2.2.2.2.1 s20.2.2.2.2.2.2.2.2.2.2.2.2.2.1 s20.2.2.2.2.2.2.2.2.2.2.2.2.2.2.1)))))))
/-! laws.FnEverySchedule, from region 15 on -/
def Ml_FnEverySchedule_c15 (c15_0 : List OpV) (c15_1 : Int) (c15_2 : Int) (c15_3 : Int) (c15_4 : Bool) (c15_5 : List Int) (c15_6 : List Int) (c15_7 : List Int) (c15_8 : List Int) (c15_9 : List Int) (c15_10 : List OpV) (K : Bool → Prop) : Prop :=
 (Mi_FinishBoth c15_5 c15_6 c15_7 c15_8 c15_1 c15_9 c15_2 c15_10 c15_3 c15_4 true fun (y56 : Int) (y57 : Int) (y58 : Int) (y59 : Bool) (y60 : Bool) (y61 : List Int) (y62 : List Int) (y63 : List Int) (y64 : List Int) (y65 : List Int) (y66 : List OpV) =>
 (((!c15_4) = true →
 ((y60 = true →
 (((!y59) = true →
 (((y58 == (len c15_0)) = true →
 (((y56 == 0) = true →
 (Mi_LeakedOf y61 y62 y63 y64 fun (y67 : List Int) =>
 (K ((len y67) == 0)))) ∧
 ((y56 == 0) = false →
 (K false)))) ∧
 ((y58 == (len c15_0)) = false →
 (K false)))) ∧
 ((!y59) = false →
 (K false)))) ∧
 (y60 = false →
 (K false)))) ∧
 ((!c15_4) = false →
 (K false))))
/-! laws.FnEverySchedule, from region 10 on -/
def Ml_FnEverySchedule_c10 (c10_0 : List UInt8) (c10_1 : Bool) (c10_2 : Bool) (c10_3 : Bool) (c10_4 : Bool) (c10_5 : List OpV) (c10_6 : Int) (c10_7 : Int) (c10_8 : Int) (c10_9 : Bool) (c10_10 : Int) (c10_11 : Int) (c10_12 : Int) (c10_13 : Bool) (c10_14 : List Int) (c10_15 : List Int) (c10_16 : List Int) (c10_17 : List Int) (c10_18 : List Int) (c10_19 : List OpV) (c10_20 : List Int) (c10_21 : List Int) (c10_22 : List Int) (c10_23 : List Int) (c10_24 : List Int) (c10_25 : List OpV) (K : Bool → Prop) : Prop :=
 (Ms_RunBoth c10_14 c10_15 c10_16 c10_17 c10_6 c10_18 c10_7 c10_19 c10_8 c10_9 c10_0 true fun (y43 : Int) (y44 : Int) (y45 : Int) (y46 : Bool) (y47 : Bool) (y48 : List Int) (y49 : List Int) (y50 : List Int) (y51 : List Int) (y52 : List Int) (y53 : List OpV) =>
 (let j68 : Prop :=
 (((!c10_4) = true →
 (Mi_FormatBoth c10_20 c10_21 c10_22 c10_23 c10_10 c10_24 c10_11 c10_25 c10_12 c10_13 fun (y55 : List UInt8) =>
 (K (y55 == ([] : List UInt8))))) ∧
 ((!c10_4) = false →
 (Ml_FnEverySchedule_c15 c10_5 c10_10 c10_11 c10_12 c10_13 c10_20 c10_21 c10_22 c10_23 c10_24 c10_25 K)));
 (((!(c10_2 == c10_1)) = true →
 (K false)) ∧
 ((!(c10_2 == c10_1)) = false →
 (Mi_BothSame c10_20 c10_21 c10_22 c10_23 c10_10 c10_24 c10_11 c10_25 c10_12 c10_13 y48 y49 y50 y51 y43 y52 y44 y53 y45 y46 fun (y54 : Bool) =>
 (((!y54) = true →
 (K false)) ∧
 ((!y54) = false →
 (((!(c10_4 == y47)) = true →
 (K false)) ∧
 ((!(c10_4 == y47)) = false →
 ((c10_4 = true →
 (((!c10_3) = true →
 (K false)) ∧
 ((!c10_3) = false →
 j68))) ∧
 (c10_4 = false →
 j68)))))))))))
/-! laws.FnEverySchedule, from region 7 on -/
def Ml_FnEverySchedule_c7 (c7_0 : List UInt8) (c7_1 : Bool) (c7_2 : List OpV) (c7_3 : List Int) (c7_4 : List Int) (c7_5 : List Int) (K : Bool → Prop) : Prop :=
 (Mi_CollectStore c7_3 c7_4 c7_5 [] fun (y16 : Bool) (y17 : List Int) (y18 : List Int) (y19 : List Int) (y20 : List Int) =>
 (Mi_NewBoth y17 y18 y19 y20 c7_2 fun (y21 : Int) (y22 : Int) (y23 : Int) (y24 : Bool) (y25 : Bool) (y26 : List Int) (y27 : List Int) (y28 : List Int) (y29 : List Int) (y30 : List Int) (y31 : List OpV) =>
 (Mi_RunBoth y26 y27 y28 y29 y21 y30 y22 y31 y23 y24 c7_0 true fun (y32 : Int) (y33 : Int) (y34 : Int) (y35 : Bool) (y36 : Bool) (y37 : List Int) (y38 : List Int) (y39 : List Int) (y40 : List Int) (y41 : List Int) (y42 : List OpV) =>
 (Ml_FnEverySchedule_c10 c7_0 c7_1 y16 y25 y36 c7_2 y21 y22 y23 y24 y32 y33 y34 y35 y26 y27 y28 y29 y30 y31 y37 y38 y39 y40 y41 y42 K))))
/-! laws.FnEverySchedule, from region 4 on -/
def Ml_FnEverySchedule_c4 (c4_0 : List UInt8) (c4_1 : List UInt8) (c4_2 : List UInt8) (c4_3 : Bool) (c4_4 : Bool) (c4_5 : Bool) (c4_6 : List OpV) (c4_7 : List Int) (c4_8 : List Int) (c4_9 : List Int) (K : Bool → Prop) : Prop :=
 (Ms_ParseOps c4_1 fun (y11 : Bool) (y12 : List OpV) =>
 (((!(c4_3 == c4_5)) = true →
 (K false)) ∧
 ((!(c4_3 == c4_5)) = false →
 (((!(c4_4 == y11)) = true →
 (K false)) ∧
 ((!(c4_4 == y11)) = false →
 ((c4_3 = true →
 (Mi_FormatHeap c4_7 c4_8 c4_9 fun (y13 : List UInt8) =>
 (((!(y13 == c4_0)) = true →
 (K false)) ∧
 ((!(y13 == c4_0)) = false →
 ((c4_4 = true →
 (Mi_FormatOps c4_6 fun (y14 : List UInt8) =>
 (((!(y14 == c4_1)) = true →
 (K false)) ∧
 ((!(y14 == c4_1)) = false →
 (Ml_FnEverySchedule_c7 c4_2 c4_3 c4_6 c4_7 c4_8 c4_9 K))))) ∧
 (c4_4 = false →
 (Ml_FnEverySchedule_c7 c4_2 c4_3 c4_6 c4_7 c4_8 c4_9 K))))))) ∧
 (c4_3 = false →
 ((c4_4 = true →
 (Mi_FormatOps c4_6 fun (y15 : List UInt8) =>
 (((!(y15 == c4_1)) = true →
 (K false)) ∧
 ((!(y15 == c4_1)) = false →
 (Ml_FnEverySchedule_c7 c4_2 c4_3 c4_6 c4_7 c4_8 c4_9 K))))) ∧
 (c4_4 = false →
 (Ml_FnEverySchedule_c7 c4_2 c4_3 c4_6 c4_7 c4_8 c4_9 K))))))))))
/-! laws.FnEverySchedule -/
def Ml_FnEverySchedule (p1 : List UInt8) (p2 : List UInt8) (p3 : List UInt8) (K : Bool → Prop) : Prop :=
 (Mi_ParseHeap p1 fun (y1 : Bool) (y2 : List Int) (y3 : List Int) (y4 : List Int) =>
 (Mi_ParseOps p2 fun (y5 : Bool) (y6 : List OpV) =>
 (Ms_ParseHeap p1 fun (y7 : Bool) (y8 : List Int) (y9 : List Int) (y10 : List Int) =>
 (Ml_FnEverySchedule_c4 p1 p2 p3 y1 y5 y7 y6 y2 y3 y4 K))))
end Go.Ab
