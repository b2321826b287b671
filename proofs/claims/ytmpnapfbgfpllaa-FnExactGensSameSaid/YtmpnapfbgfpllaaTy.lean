/-
  What is proved here: facts on the types of the translated program, each computed from its table of types.
-/
import Derived.Test.YtmpnapfbgfpllaaAb15
import Derived.Test.YtmpnapfbgfpllaaProg
import Derived.KernelRfl
namespace Go.Ab
open Go.Proofs
noncomputable abbrev PP : Program := Try.prog
theorem mixed : PP.follows .mixedOrders = true := by kernel_rfl
theorem kd_2 : tKd PP 2 = some (.int .i64) := by kernel_rfl
theorem sz_2 : tSize PP 2 = some 1 := by kernel_rfl
theorem ag_2 : tAgg PP 2 = some false := by kernel_rfl
theorem by_2 : tBytes PP 2 = some 8 := by kernel_rfl
theorem ze_2 : tZero PP 2 = some [.int .i64 0] := by kernel_rfl
theorem ld_2 (m : Mem) (n o : Nat) : aload PP m 2 (.ptr (some (n, o))) = ald m n o := by simp only [aload, ag_2, sz_2]
theorem st_2 (fl : Nat) (m : Mem) (n o : Nat) (x : AVal) : astore PP fl m 2 (.ptr (some (n, o))) x = if x.fits 1 = true then asts fl m n o x.cells else none := by simp only [astore, sz_2]
theorem kd_3 : tKd PP 3 = some (.int .i64) := by kernel_rfl
theorem sz_3 : tSize PP 3 = some 1 := by kernel_rfl
theorem ag_3 : tAgg PP 3 = some false := by kernel_rfl
theorem by_3 : tBytes PP 3 = some 8 := by kernel_rfl
theorem ze_3 : tZero PP 3 = some [.int .i64 0] := by kernel_rfl
theorem ld_3 (m : Mem) (n o : Nat) : aload PP m 3 (.ptr (some (n, o))) = ald m n o := by simp only [aload, ag_3, sz_3]
theorem st_3 (fl : Nat) (m : Mem) (n o : Nat) (x : AVal) : astore PP fl m 3 (.ptr (some (n, o))) x = if x.fits 1 = true then asts fl m n o x.cells else none := by simp only [astore, sz_3]
theorem kd_4 : tKd PP 4 = some .bool := by kernel_rfl
theorem sz_4 : tSize PP 4 = some 1 := by kernel_rfl
theorem ag_4 : tAgg PP 4 = some false := by kernel_rfl
theorem by_4 : tBytes PP 4 = some 1 := by kernel_rfl
theorem ze_4 : tZero PP 4 = some [.bool false] := by kernel_rfl
theorem ld_4 (m : Mem) (n o : Nat) : aload PP m 4 (.ptr (some (n, o))) = ald m n o := by simp only [aload, ag_4, sz_4]
theorem st_4 (fl : Nat) (m : Mem) (n o : Nat) (x : AVal) : astore PP fl m 4 (.ptr (some (n, o))) x = if x.fits 1 = true then asts fl m n o x.cells else none := by simp only [astore, sz_4]
theorem kd_5 : tKd PP 5 = some (.int .u8) := by kernel_rfl
theorem sz_5 : tSize PP 5 = some 1 := by kernel_rfl
theorem ag_5 : tAgg PP 5 = some false := by kernel_rfl
theorem by_5 : tBytes PP 5 = some 1 := by kernel_rfl
theorem ze_5 : tZero PP 5 = some [.int .u8 0] := by kernel_rfl
theorem ld_5 (m : Mem) (n o : Nat) : aload PP m 5 (.ptr (some (n, o))) = ald m n o := by simp only [aload, ag_5, sz_5]
theorem st_5 (fl : Nat) (m : Mem) (n o : Nat) (x : AVal) : astore PP fl m 5 (.ptr (some (n, o))) x = if x.fits 1 = true then asts fl m n o x.cells else none := by simp only [astore, sz_5]
theorem kd_6 : tKd PP 6 = some (.int .u8) := by kernel_rfl
theorem sz_6 : tSize PP 6 = some 1 := by kernel_rfl
theorem ag_6 : tAgg PP 6 = some false := by kernel_rfl
theorem by_6 : tBytes PP 6 = some 1 := by kernel_rfl
theorem ze_6 : tZero PP 6 = some [.int .u8 0] := by kernel_rfl
theorem ld_6 (m : Mem) (n o : Nat) : aload PP m 6 (.ptr (some (n, o))) = ald m n o := by simp only [aload, ag_6, sz_6]
theorem st_6 (fl : Nat) (m : Mem) (n o : Nat) (x : AVal) : astore PP fl m 6 (.ptr (some (n, o))) x = if x.fits 1 = true then asts fl m n o x.cells else none := by simp only [astore, sz_6]
theorem kd_7 : tKd PP 7 = some .other := by kernel_rfl
theorem sz_7 : tSize PP 7 = some 4 := by kernel_rfl
theorem ag_7 : tAgg PP 7 = some true := by kernel_rfl
theorem by_7 : tBytes PP 7 = some 24 := by kernel_rfl
theorem ze_7 : tZero PP 7 = some [.int .i64 0, .int .i64 0, .bool false, .int .u8 0] := by kernel_rfl
theorem ld_7 (m : Mem) (n o : Nat) : aload PP m 7 (.ptr (some (n, o))) = (alds m n o 4).map .agg := by simp only [aload, ag_7, sz_7]
theorem st_7 (fl : Nat) (m : Mem) (n o : Nat) (x : AVal) : astore PP fl m 7 (.ptr (some (n, o))) x = if x.fits 4 = true then asts fl m n o x.cells else none := by simp only [astore, sz_7]
theorem kd_8 : tKd PP 8 = some .other := by kernel_rfl
theorem sz_8 : tSize PP 8 = some 4 := by kernel_rfl
theorem ag_8 : tAgg PP 8 = some true := by kernel_rfl
theorem by_8 : tBytes PP 8 = some 24 := by kernel_rfl
theorem ze_8 : tZero PP 8 = some [.int .i64 0, .int .i64 0, .bool false, .int .u8 0] := by kernel_rfl
theorem ld_8 (m : Mem) (n o : Nat) : aload PP m 8 (.ptr (some (n, o))) = (alds m n o 4).map .agg := by simp only [aload, ag_8, sz_8]
theorem st_8 (fl : Nat) (m : Mem) (n o : Nat) (x : AVal) : astore PP fl m 8 (.ptr (some (n, o))) x = if x.fits 4 = true then asts fl m n o x.cells else none := by simp only [astore, sz_8]
theorem fa_8_0 (n o : Nat) : afieldAddr PP 8 (.ptr (some (n, o))) 0 = some (.ptr (some (n, o + 0))) := by rfl
theorem tf_8_0 : tField PP 8 0 = some (0, 2) := by kernel_rfl
theorem fa_8_1 (n o : Nat) : afieldAddr PP 8 (.ptr (some (n, o))) 1 = some (.ptr (some (n, o + 1))) := by rfl
theorem tf_8_1 : tField PP 8 1 = some (1, 3) := by kernel_rfl
theorem fa_8_2 (n o : Nat) : afieldAddr PP 8 (.ptr (some (n, o))) 2 = some (.ptr (some (n, o + 2))) := by rfl
theorem tf_8_2 : tField PP 8 2 = some (2, 4) := by kernel_rfl
theorem fa_8_3 (n o : Nat) : afieldAddr PP 8 (.ptr (some (n, o))) 3 = some (.ptr (some (n, o + 3))) := by rfl
theorem tf_8_3 : tField PP 8 3 = some (3, 6) := by kernel_rfl
theorem fs_8 : tFields PP 8 = some [(0, 1), (1, 1), (2, 1), (3, 1)] := by kernel_rfl
theorem kd_9 : tKd PP 9 = some .string := by kernel_rfl
theorem sz_9 : tSize PP 9 = some 1 := by kernel_rfl
theorem ag_9 : tAgg PP 9 = some false := by kernel_rfl
theorem by_9 : tBytes PP 9 = some 16 := by kernel_rfl
theorem ze_9 : tZero PP 9 = some [.str ByteArray.empty] := by rfl
theorem ld_9 (m : Mem) (n o : Nat) : aload PP m 9 (.ptr (some (n, o))) = ald m n o := by simp only [aload, ag_9, sz_9]
theorem st_9 (fl : Nat) (m : Mem) (n o : Nat) (x : AVal) : astore PP fl m 9 (.ptr (some (n, o))) x = if x.fits 1 = true then asts fl m n o x.cells else none := by simp only [astore, sz_9]
theorem kd_10 : tKd PP 10 = some .string := by kernel_rfl
theorem sz_10 : tSize PP 10 = some 1 := by kernel_rfl
theorem ag_10 : tAgg PP 10 = some false := by kernel_rfl
theorem by_10 : tBytes PP 10 = some 16 := by kernel_rfl
theorem ze_10 : tZero PP 10 = some [.str ByteArray.empty] := by rfl
theorem ld_10 (m : Mem) (n o : Nat) : aload PP m 10 (.ptr (some (n, o))) = ald m n o := by simp only [aload, ag_10, sz_10]
theorem st_10 (fl : Nat) (m : Mem) (n o : Nat) (x : AVal) : astore PP fl m 10 (.ptr (some (n, o))) x = if x.fits 1 = true then asts fl m n o x.cells else none := by simp only [astore, sz_10]
theorem kd_11 : tKd PP 11 = some .string := by kernel_rfl
theorem sz_11 : tSize PP 11 = some 1 := by kernel_rfl
theorem ag_11 : tAgg PP 11 = some false := by kernel_rfl
theorem by_11 : tBytes PP 11 = some 16 := by kernel_rfl
theorem ze_11 : tZero PP 11 = some [.str ByteArray.empty] := by rfl
theorem ld_11 (m : Mem) (n o : Nat) : aload PP m 11 (.ptr (some (n, o))) = ald m n o := by simp only [aload, ag_11, sz_11]
theorem st_11 (fl : Nat) (m : Mem) (n o : Nat) (x : AVal) : astore PP fl m 11 (.ptr (some (n, o))) x = if x.fits 1 = true then asts fl m n o x.cells else none := by simp only [astore, sz_11]
theorem kd_12 : tKd PP 12 = some (.int .u64) := by kernel_rfl
theorem sz_12 : tSize PP 12 = some 1 := by kernel_rfl
theorem ag_12 : tAgg PP 12 = some false := by kernel_rfl
theorem by_12 : tBytes PP 12 = some 8 := by kernel_rfl
theorem ze_12 : tZero PP 12 = some [.int .u64 0] := by kernel_rfl
theorem ld_12 (m : Mem) (n o : Nat) : aload PP m 12 (.ptr (some (n, o))) = ald m n o := by simp only [aload, ag_12, sz_12]
theorem st_12 (fl : Nat) (m : Mem) (n o : Nat) (x : AVal) : astore PP fl m 12 (.ptr (some (n, o))) x = if x.fits 1 = true then asts fl m n o x.cells else none := by simp only [astore, sz_12]
theorem kd_13 : tKd PP 13 = some .other := by kernel_rfl
theorem sz_13 : tSize PP 13 = some 2 := by kernel_rfl
theorem ag_13 : tAgg PP 13 = some true := by kernel_rfl
theorem by_13 : tBytes PP 13 = some 24 := by kernel_rfl
theorem ze_13 : tZero PP 13 = some [.str ByteArray.empty, .int .u64 0] := by rfl
theorem ld_13 (m : Mem) (n o : Nat) : aload PP m 13 (.ptr (some (n, o))) = (alds m n o 2).map .agg := by simp only [aload, ag_13, sz_13]
theorem st_13 (fl : Nat) (m : Mem) (n o : Nat) (x : AVal) : astore PP fl m 13 (.ptr (some (n, o))) x = if x.fits 2 = true then asts fl m n o x.cells else none := by simp only [astore, sz_13]
theorem kd_14 : tKd PP 14 = some .other := by kernel_rfl
theorem sz_14 : tSize PP 14 = some 2 := by kernel_rfl
theorem ag_14 : tAgg PP 14 = some true := by kernel_rfl
theorem by_14 : tBytes PP 14 = some 24 := by kernel_rfl
theorem ze_14 : tZero PP 14 = some [.str ByteArray.empty, .int .u64 0] := by rfl
theorem ld_14 (m : Mem) (n o : Nat) : aload PP m 14 (.ptr (some (n, o))) = (alds m n o 2).map .agg := by simp only [aload, ag_14, sz_14]
theorem st_14 (fl : Nat) (m : Mem) (n o : Nat) (x : AVal) : astore PP fl m 14 (.ptr (some (n, o))) x = if x.fits 2 = true then asts fl m n o x.cells else none := by simp only [astore, sz_14]
theorem fa_14_0 (n o : Nat) : afieldAddr PP 14 (.ptr (some (n, o))) 0 = some (.ptr (some (n, o + 0))) := by rfl
theorem tf_14_0 : tField PP 14 0 = some (0, 9) := by kernel_rfl
theorem fa_14_1 (n o : Nat) : afieldAddr PP 14 (.ptr (some (n, o))) 1 = some (.ptr (some (n, o + 1))) := by rfl
theorem tf_14_1 : tField PP 14 1 = some (1, 12) := by kernel_rfl
theorem fs_14 : tFields PP 14 = some [(0, 1), (1, 1)] := by kernel_rfl
theorem kd_15 : tKd PP 15 = some .other := by kernel_rfl
theorem sz_15 : tSize PP 15 = some 1 := by kernel_rfl
theorem ag_15 : tAgg PP 15 = some false := by kernel_rfl
theorem by_15 : tBytes PP 15 = some 8 := by kernel_rfl
theorem ze_15 : tZero PP 15 = some [.ptr none] := by kernel_rfl
theorem ld_15 (m : Mem) (n o : Nat) : aload PP m 15 (.ptr (some (n, o))) = ald m n o := by simp only [aload, ag_15, sz_15]
theorem st_15 (fl : Nat) (m : Mem) (n o : Nat) (x : AVal) : astore PP fl m 15 (.ptr (some (n, o))) x = if x.fits 1 = true then asts fl m n o x.cells else none := by simp only [astore, sz_15]
theorem kd_16 : tKd PP 16 = some .other := by kernel_rfl
theorem sz_16 : tSize PP 16 = some 1 := by kernel_rfl
theorem ag_16 : tAgg PP 16 = some false := by kernel_rfl
theorem by_16 : tBytes PP 16 = some 8 := by kernel_rfl
theorem ze_16 : tZero PP 16 = some [.ptr none] := by kernel_rfl
theorem ld_16 (m : Mem) (n o : Nat) : aload PP m 16 (.ptr (some (n, o))) = ald m n o := by simp only [aload, ag_16, sz_16]
theorem st_16 (fl : Nat) (m : Mem) (n o : Nat) (x : AVal) : astore PP fl m 16 (.ptr (some (n, o))) x = if x.fits 1 = true then asts fl m n o x.cells else none := by simp only [astore, sz_16]
theorem kd_17 : tKd PP 17 = some .other := by kernel_rfl
theorem sz_17 : tSize PP 17 = some 1 := by kernel_rfl
theorem ag_17 : tAgg PP 17 = some false := by kernel_rfl
theorem by_17 : tBytes PP 17 = some 8 := by kernel_rfl
theorem ze_17 : tZero PP 17 = some [.ptr none] := by kernel_rfl
theorem ld_17 (m : Mem) (n o : Nat) : aload PP m 17 (.ptr (some (n, o))) = ald m n o := by simp only [aload, ag_17, sz_17]
theorem st_17 (fl : Nat) (m : Mem) (n o : Nat) (x : AVal) : astore PP fl m 17 (.ptr (some (n, o))) x = if x.fits 1 = true then asts fl m n o x.cells else none := by simp only [astore, sz_17]
theorem kd_18 : tKd PP 18 = some .other := by kernel_rfl
theorem sz_18 : tSize PP 18 = some 1 := by kernel_rfl
theorem ag_18 : tAgg PP 18 = some true := by kernel_rfl
theorem by_18 : tBytes PP 18 = some 8 := by kernel_rfl
theorem ze_18 : tZero PP 18 = some [.ptr none] := by kernel_rfl
theorem ld_18 (m : Mem) (n o : Nat) : aload PP m 18 (.ptr (some (n, o))) = (alds m n o 1).map .agg := by simp only [aload, ag_18, sz_18]
theorem st_18 (fl : Nat) (m : Mem) (n o : Nat) (x : AVal) : astore PP fl m 18 (.ptr (some (n, o))) x = if x.fits 1 = true then asts fl m n o x.cells else none := by simp only [astore, sz_18]
theorem kd_19 : tKd PP 19 = some .other := by kernel_rfl
theorem sz_19 : tSize PP 19 = some 1 := by kernel_rfl
theorem ag_19 : tAgg PP 19 = some true := by kernel_rfl
theorem by_19 : tBytes PP 19 = some 8 := by kernel_rfl
theorem ze_19 : tZero PP 19 = some [.ptr none] := by kernel_rfl
theorem ld_19 (m : Mem) (n o : Nat) : aload PP m 19 (.ptr (some (n, o))) = (alds m n o 1).map .agg := by simp only [aload, ag_19, sz_19]
theorem st_19 (fl : Nat) (m : Mem) (n o : Nat) (x : AVal) : astore PP fl m 19 (.ptr (some (n, o))) x = if x.fits 1 = true then asts fl m n o x.cells else none := by simp only [astore, sz_19]
theorem fa_19_0 (n o : Nat) : afieldAddr PP 19 (.ptr (some (n, o))) 0 = some (.ptr (some (n, o + 0))) := by rfl
theorem tf_19_0 : tField PP 19 0 = some (0, 17) := by kernel_rfl
theorem fs_19 : tFields PP 19 = some [(0, 1)] := by kernel_rfl
theorem kd_20 : tKd PP 20 = some .iface := by kernel_rfl
theorem sz_20 : tSize PP 20 = some 1 := by kernel_rfl
theorem ag_20 : tAgg PP 20 = some false := by kernel_rfl
theorem by_20 : tBytes PP 20 = some 16 := by kernel_rfl
theorem ze_20 : tZero PP 20 = some [.nilIfc] := by kernel_rfl
theorem ld_20 (m : Mem) (n o : Nat) : aload PP m 20 (.ptr (some (n, o))) = ald m n o := by simp only [aload, ag_20, sz_20]
theorem st_20 (fl : Nat) (m : Mem) (n o : Nat) (x : AVal) : astore PP fl m 20 (.ptr (some (n, o))) x = if x.fits 1 = true then asts fl m n o x.cells else none := by simp only [astore, sz_20]
theorem kd_21 : tKd PP 21 = some (.int .i32) := by kernel_rfl
theorem sz_21 : tSize PP 21 = some 1 := by kernel_rfl
theorem ag_21 : tAgg PP 21 = some false := by kernel_rfl
theorem by_21 : tBytes PP 21 = some 4 := by kernel_rfl
theorem ze_21 : tZero PP 21 = some [.int .i32 0] := by kernel_rfl
theorem ld_21 (m : Mem) (n o : Nat) : aload PP m 21 (.ptr (some (n, o))) = ald m n o := by simp only [aload, ag_21, sz_21]
theorem st_21 (fl : Nat) (m : Mem) (n o : Nat) (x : AVal) : astore PP fl m 21 (.ptr (some (n, o))) x = if x.fits 1 = true then asts fl m n o x.cells else none := by simp only [astore, sz_21]
theorem kd_22 : tKd PP 22 = some .slice := by kernel_rfl
theorem sz_22 : tSize PP 22 = some 1 := by kernel_rfl
theorem ag_22 : tAgg PP 22 = some false := by kernel_rfl
theorem by_22 : tBytes PP 22 = some 24 := by kernel_rfl
theorem ze_22 : tZero PP 22 = some [.nilSl] := by kernel_rfl
theorem el_22 : tElem PP 22 = some 3 := by kernel_rfl
theorem le_22 (n o len : Nat) (cap : Option Nat) (es : Nat) : alen PP 22 (.sl n o len cap es) = some (.int .i64 len) := by simp only [alen, kd_22]
theorem ln_22 : alen PP 22 .nilSl = some (.int .i64 0) := by simp only [alen, kd_22]
theorem es_22 : (tElem PP 22).bind (tSize PP) = some 1 := by kernel_rfl
theorem ld_22 (m : Mem) (n o : Nat) : aload PP m 22 (.ptr (some (n, o))) = ald m n o := by simp only [aload, ag_22, sz_22]
theorem st_22 (fl : Nat) (m : Mem) (n o : Nat) (x : AVal) : astore PP fl m 22 (.ptr (some (n, o))) x = if x.fits 1 = true then asts fl m n o x.cells else none := by simp only [astore, sz_22]
theorem kd_23 : tKd PP 23 = some .other := by kernel_rfl
theorem sz_23 : tSize PP 23 = some 3 := by kernel_rfl
theorem ag_23 : tAgg PP 23 = some true := by kernel_rfl
theorem by_23 : tBytes PP 23 = some 72 := by kernel_rfl
theorem ze_23 : tZero PP 23 = some [.nilSl, .nilSl, .nilSl] := by kernel_rfl
theorem ld_23 (m : Mem) (n o : Nat) : aload PP m 23 (.ptr (some (n, o))) = (alds m n o 3).map .agg := by simp only [aload, ag_23, sz_23]
theorem st_23 (fl : Nat) (m : Mem) (n o : Nat) (x : AVal) : astore PP fl m 23 (.ptr (some (n, o))) x = if x.fits 3 = true then asts fl m n o x.cells else none := by simp only [astore, sz_23]
theorem kd_24 : tKd PP 24 = some .other := by kernel_rfl
theorem sz_24 : tSize PP 24 = some 3 := by kernel_rfl
theorem ag_24 : tAgg PP 24 = some true := by kernel_rfl
theorem by_24 : tBytes PP 24 = some 72 := by kernel_rfl
theorem ze_24 : tZero PP 24 = some [.nilSl, .nilSl, .nilSl] := by kernel_rfl
theorem ld_24 (m : Mem) (n o : Nat) : aload PP m 24 (.ptr (some (n, o))) = (alds m n o 3).map .agg := by simp only [aload, ag_24, sz_24]
theorem st_24 (fl : Nat) (m : Mem) (n o : Nat) (x : AVal) : astore PP fl m 24 (.ptr (some (n, o))) x = if x.fits 3 = true then asts fl m n o x.cells else none := by simp only [astore, sz_24]
theorem fa_24_0 (n o : Nat) : afieldAddr PP 24 (.ptr (some (n, o))) 0 = some (.ptr (some (n, o + 0))) := by rfl
theorem tf_24_0 : tField PP 24 0 = some (0, 22) := by kernel_rfl
theorem fa_24_1 (n o : Nat) : afieldAddr PP 24 (.ptr (some (n, o))) 1 = some (.ptr (some (n, o + 1))) := by rfl
theorem tf_24_1 : tField PP 24 1 = some (1, 22) := by kernel_rfl
theorem fa_24_2 (n o : Nat) : afieldAddr PP 24 (.ptr (some (n, o))) 2 = some (.ptr (some (n, o + 2))) := by rfl
theorem tf_24_2 : tField PP 24 2 = some (2, 22) := by kernel_rfl
theorem fs_24 : tFields PP 24 = some [(0, 1), (1, 1), (2, 1)] := by kernel_rfl
theorem kd_25 : tKd PP 25 = some .slice := by kernel_rfl
theorem sz_25 : tSize PP 25 = some 1 := by kernel_rfl
theorem ag_25 : tAgg PP 25 = some false := by kernel_rfl
theorem by_25 : tBytes PP 25 = some 24 := by kernel_rfl
theorem ze_25 : tZero PP 25 = some [.nilSl] := by kernel_rfl
theorem el_25 : tElem PP 25 = some 4 := by kernel_rfl
theorem le_25 (n o len : Nat) (cap : Option Nat) (es : Nat) : alen PP 25 (.sl n o len cap es) = some (.int .i64 len) := by simp only [alen, kd_25]
theorem ln_25 : alen PP 25 .nilSl = some (.int .i64 0) := by simp only [alen, kd_25]
theorem es_25 : (tElem PP 25).bind (tSize PP) = some 1 := by kernel_rfl
theorem ld_25 (m : Mem) (n o : Nat) : aload PP m 25 (.ptr (some (n, o))) = ald m n o := by simp only [aload, ag_25, sz_25]
theorem st_25 (fl : Nat) (m : Mem) (n o : Nat) (x : AVal) : astore PP fl m 25 (.ptr (some (n, o))) x = if x.fits 1 = true then asts fl m n o x.cells else none := by simp only [astore, sz_25]
theorem kd_26 : tKd PP 26 = some .other := by kernel_rfl
theorem sz_26 : tSize PP 26 = some 5 := by kernel_rfl
theorem ag_26 : tAgg PP 26 = some true := by kernel_rfl
theorem by_26 : tBytes PP 26 = some 120 := by kernel_rfl
theorem ze_26 : tZero PP 26 = some [.nilSl, .nilSl, .nilSl, .nilSl, .nilSl] := by kernel_rfl
theorem ld_26 (m : Mem) (n o : Nat) : aload PP m 26 (.ptr (some (n, o))) = (alds m n o 5).map .agg := by simp only [aload, ag_26, sz_26]
theorem st_26 (fl : Nat) (m : Mem) (n o : Nat) (x : AVal) : astore PP fl m 26 (.ptr (some (n, o))) x = if x.fits 5 = true then asts fl m n o x.cells else none := by simp only [astore, sz_26]
theorem kd_27 : tKd PP 27 = some .other := by kernel_rfl
theorem sz_27 : tSize PP 27 = some 5 := by kernel_rfl
theorem ag_27 : tAgg PP 27 = some true := by kernel_rfl
theorem by_27 : tBytes PP 27 = some 120 := by kernel_rfl
theorem ze_27 : tZero PP 27 = some [.nilSl, .nilSl, .nilSl, .nilSl, .nilSl] := by kernel_rfl
theorem ld_27 (m : Mem) (n o : Nat) : aload PP m 27 (.ptr (some (n, o))) = (alds m n o 5).map .agg := by simp only [aload, ag_27, sz_27]
theorem st_27 (fl : Nat) (m : Mem) (n o : Nat) (x : AVal) : astore PP fl m 27 (.ptr (some (n, o))) x = if x.fits 5 = true then asts fl m n o x.cells else none := by simp only [astore, sz_27]
theorem fa_27_0 (n o : Nat) : afieldAddr PP 27 (.ptr (some (n, o))) 0 = some (.ptr (some (n, o + 0))) := by rfl
theorem tf_27_0 : tField PP 27 0 = some (0, 24) := by kernel_rfl
theorem fa_27_1 (n o : Nat) : afieldAddr PP 27 (.ptr (some (n, o))) 1 = some (.ptr (some (n, o + 3))) := by rfl
theorem tf_27_1 : tField PP 27 1 = some (3, 25) := by kernel_rfl
theorem fa_27_2 (n o : Nat) : afieldAddr PP 27 (.ptr (some (n, o))) 2 = some (.ptr (some (n, o + 4))) := by rfl
theorem tf_27_2 : tField PP 27 2 = some (4, 22) := by kernel_rfl
theorem fs_27 : tFields PP 27 = some [(0, 3), (3, 1), (4, 1)] := by kernel_rfl
theorem kd_30 : tKd PP 30 = some .other := by kernel_rfl
theorem sz_30 : tSize PP 30 = some 3 := by kernel_rfl
theorem ag_30 : tAgg PP 30 = some true := by kernel_rfl
theorem by_30 : tBytes PP 30 = some 72 := by kernel_rfl
theorem ze_30 : tZero PP 30 = some [.nilSl, .nilSl, .nilSl] := by kernel_rfl
theorem ld_30 (m : Mem) (n o : Nat) : aload PP m 30 (.ptr (some (n, o))) = (alds m n o 3).map .agg := by simp only [aload, ag_30, sz_30]
theorem st_30 (fl : Nat) (m : Mem) (n o : Nat) (x : AVal) : astore PP fl m 30 (.ptr (some (n, o))) x = if x.fits 3 = true then asts fl m n o x.cells else none := by simp only [astore, sz_30]
theorem fa_30_0 (n o : Nat) : afieldAddr PP 30 (.ptr (some (n, o))) 0 = some (.ptr (some (n, o + 0))) := by rfl
theorem tf_30_0 : tField PP 30 0 = some (0, 22) := by kernel_rfl
theorem fa_30_1 (n o : Nat) : afieldAddr PP 30 (.ptr (some (n, o))) 1 = some (.ptr (some (n, o + 1))) := by rfl
theorem tf_30_1 : tField PP 30 1 = some (1, 22) := by kernel_rfl
theorem fa_30_2 (n o : Nat) : afieldAddr PP 30 (.ptr (some (n, o))) 2 = some (.ptr (some (n, o + 2))) := by rfl
theorem tf_30_2 : tField PP 30 2 = some (2, 22) := by kernel_rfl
theorem fs_30 : tFields PP 30 = some [(0, 1), (1, 1), (2, 1)] := by kernel_rfl
theorem kd_31 : tKd PP 31 = some .other := by kernel_rfl
theorem sz_31 : tSize PP 31 = some 5 := by kernel_rfl
theorem ag_31 : tAgg PP 31 = some true := by kernel_rfl
theorem by_31 : tBytes PP 31 = some 120 := by kernel_rfl
theorem ze_31 : tZero PP 31 = some [.nilSl, .nilSl, .nilSl, .nilSl, .nilSl] := by kernel_rfl
theorem ld_31 (m : Mem) (n o : Nat) : aload PP m 31 (.ptr (some (n, o))) = (alds m n o 5).map .agg := by simp only [aload, ag_31, sz_31]
theorem st_31 (fl : Nat) (m : Mem) (n o : Nat) (x : AVal) : astore PP fl m 31 (.ptr (some (n, o))) x = if x.fits 5 = true then asts fl m n o x.cells else none := by simp only [astore, sz_31]
theorem kd_32 : tKd PP 32 = some .other := by kernel_rfl
theorem sz_32 : tSize PP 32 = some 5 := by kernel_rfl
theorem ag_32 : tAgg PP 32 = some true := by kernel_rfl
theorem by_32 : tBytes PP 32 = some 120 := by kernel_rfl
theorem ze_32 : tZero PP 32 = some [.nilSl, .nilSl, .nilSl, .nilSl, .nilSl] := by kernel_rfl
theorem ld_32 (m : Mem) (n o : Nat) : aload PP m 32 (.ptr (some (n, o))) = (alds m n o 5).map .agg := by simp only [aload, ag_32, sz_32]
theorem st_32 (fl : Nat) (m : Mem) (n o : Nat) (x : AVal) : astore PP fl m 32 (.ptr (some (n, o))) x = if x.fits 5 = true then asts fl m n o x.cells else none := by simp only [astore, sz_32]
theorem fa_32_0 (n o : Nat) : afieldAddr PP 32 (.ptr (some (n, o))) 0 = some (.ptr (some (n, o + 0))) := by rfl
theorem tf_32_0 : tField PP 32 0 = some (0, 30) := by kernel_rfl
theorem fa_32_1 (n o : Nat) : afieldAddr PP 32 (.ptr (some (n, o))) 1 = some (.ptr (some (n, o + 3))) := by rfl
theorem tf_32_1 : tField PP 32 1 = some (3, 25) := by kernel_rfl
theorem fa_32_2 (n o : Nat) : afieldAddr PP 32 (.ptr (some (n, o))) 2 = some (.ptr (some (n, o + 4))) := by rfl
theorem tf_32_2 : tField PP 32 2 = some (4, 22) := by kernel_rfl
theorem fs_32 : tFields PP 32 = some [(0, 3), (3, 1), (4, 1)] := by kernel_rfl
theorem kd_35 : tKd PP 35 = some .slice := by kernel_rfl
theorem sz_35 : tSize PP 35 = some 1 := by kernel_rfl
theorem ag_35 : tAgg PP 35 = some false := by kernel_rfl
theorem by_35 : tBytes PP 35 = some 24 := by kernel_rfl
theorem ze_35 : tZero PP 35 = some [.nilSl] := by kernel_rfl
theorem el_35 : tElem PP 35 = some 5 := by kernel_rfl
theorem le_35 (n o len : Nat) (cap : Option Nat) (es : Nat) : alen PP 35 (.sl n o len cap es) = some (.int .i64 len) := by simp only [alen, kd_35]
theorem ln_35 : alen PP 35 .nilSl = some (.int .i64 0) := by simp only [alen, kd_35]
theorem es_35 : (tElem PP 35).bind (tSize PP) = some 1 := by kernel_rfl
theorem ld_35 (m : Mem) (n o : Nat) : aload PP m 35 (.ptr (some (n, o))) = ald m n o := by simp only [aload, ag_35, sz_35]
theorem st_35 (fl : Nat) (m : Mem) (n o : Nat) (x : AVal) : astore PP fl m 35 (.ptr (some (n, o))) x = if x.fits 1 = true then asts fl m n o x.cells else none := by simp only [astore, sz_35]
theorem kd_68 : tKd PP 68 = some .other := by kernel_rfl
theorem sz_68 : tSize PP 68 = some 1 := by kernel_rfl
theorem ag_68 : tAgg PP 68 = some false := by kernel_rfl
theorem by_68 : tBytes PP 68 = some 8 := by kernel_rfl
theorem ze_68 : tZero PP 68 = some [.ptr none] := by kernel_rfl
theorem ld_68 (m : Mem) (n o : Nat) : aload PP m 68 (.ptr (some (n, o))) = ald m n o := by simp only [aload, ag_68, sz_68]
theorem st_68 (fl : Nat) (m : Mem) (n o : Nat) (x : AVal) : astore PP fl m 68 (.ptr (some (n, o))) x = if x.fits 1 = true then asts fl m n o x.cells else none := by simp only [astore, sz_68]
theorem kd_74 : tKd PP 74 = some .slice := by kernel_rfl
theorem sz_74 : tSize PP 74 = some 1 := by kernel_rfl
theorem ag_74 : tAgg PP 74 = some false := by kernel_rfl
theorem by_74 : tBytes PP 74 = some 24 := by kernel_rfl
theorem ze_74 : tZero PP 74 = some [.nilSl] := by kernel_rfl
theorem el_74 : tElem PP 74 = some 22 := by kernel_rfl
theorem le_74 (n o len : Nat) (cap : Option Nat) (es : Nat) : alen PP 74 (.sl n o len cap es) = some (.int .i64 len) := by simp only [alen, kd_74]
theorem ln_74 : alen PP 74 .nilSl = some (.int .i64 0) := by simp only [alen, kd_74]
theorem es_74 : (tElem PP 74).bind (tSize PP) = some 1 := by kernel_rfl
theorem ld_74 (m : Mem) (n o : Nat) : aload PP m 74 (.ptr (some (n, o))) = ald m n o := by simp only [aload, ag_74, sz_74]
theorem st_74 (fl : Nat) (m : Mem) (n o : Nat) (x : AVal) : astore PP fl m 74 (.ptr (some (n, o))) x = if x.fits 1 = true then asts fl m n o x.cells else none := by simp only [astore, sz_74]
theorem kd_85 : tKd PP 85 = some .other := by kernel_rfl
theorem sz_85 : tSize PP 85 = some 2 := by kernel_rfl
theorem ag_85 : tAgg PP 85 = some true := by kernel_rfl
theorem by_85 : tBytes PP 85 = some 32 := by kernel_rfl
theorem ze_85 : tZero PP 85 = some [.nilSl, .int .i64 0] := by kernel_rfl
theorem ld_85 (m : Mem) (n o : Nat) : aload PP m 85 (.ptr (some (n, o))) = (alds m n o 2).map .agg := by simp only [aload, ag_85, sz_85]
theorem st_85 (fl : Nat) (m : Mem) (n o : Nat) (x : AVal) : astore PP fl m 85 (.ptr (some (n, o))) x = if x.fits 2 = true then asts fl m n o x.cells else none := by simp only [astore, sz_85]
theorem kd_86 : tKd PP 86 = some .other := by kernel_rfl
theorem sz_86 : tSize PP 86 = some 2 := by kernel_rfl
theorem ag_86 : tAgg PP 86 = some true := by kernel_rfl
theorem by_86 : tBytes PP 86 = some 32 := by kernel_rfl
theorem ze_86 : tZero PP 86 = some [.nilSl, .int .i64 0] := by kernel_rfl
theorem ld_86 (m : Mem) (n o : Nat) : aload PP m 86 (.ptr (some (n, o))) = (alds m n o 2).map .agg := by simp only [aload, ag_86, sz_86]
theorem st_86 (fl : Nat) (m : Mem) (n o : Nat) (x : AVal) : astore PP fl m 86 (.ptr (some (n, o))) x = if x.fits 2 = true then asts fl m n o x.cells else none := by simp only [astore, sz_86]
theorem fa_86_0 (n o : Nat) : afieldAddr PP 86 (.ptr (some (n, o))) 0 = some (.ptr (some (n, o + 0))) := by rfl
theorem tf_86_0 : tField PP 86 0 = some (0, 35) := by kernel_rfl
theorem fa_86_1 (n o : Nat) : afieldAddr PP 86 (.ptr (some (n, o))) 1 = some (.ptr (some (n, o + 1))) := by rfl
theorem tf_86_1 : tField PP 86 1 = some (1, 3) := by kernel_rfl
theorem fs_86 : tFields PP 86 = some [(0, 1), (1, 1)] := by kernel_rfl
theorem kd_94 : tKd PP 94 = some .other := by kernel_rfl
theorem sz_94 : tSize PP 94 = some 4 := by kernel_rfl
theorem ag_94 : tAgg PP 94 = some true := by kernel_rfl
theorem by_94 : tBytes PP 94 = some 40 := by kernel_rfl
theorem ze_94 : tZero PP 94 = some [.ptr none, .ptr none, .ptr none, .str ByteArray.empty] := by rfl
theorem ld_94 (m : Mem) (n o : Nat) : aload PP m 94 (.ptr (some (n, o))) = (alds m n o 4).map .agg := by simp only [aload, ag_94, sz_94]
theorem st_94 (fl : Nat) (m : Mem) (n o : Nat) (x : AVal) : astore PP fl m 94 (.ptr (some (n, o))) x = if x.fits 4 = true then asts fl m n o x.cells else none := by simp only [astore, sz_94]
theorem kd_95 : tKd PP 95 = some .other := by kernel_rfl
theorem sz_95 : tSize PP 95 = some 4 := by kernel_rfl
theorem ag_95 : tAgg PP 95 = some true := by kernel_rfl
theorem by_95 : tBytes PP 95 = some 40 := by kernel_rfl
theorem ze_95 : tZero PP 95 = some [.ptr none, .ptr none, .ptr none, .str ByteArray.empty] := by rfl
theorem ld_95 (m : Mem) (n o : Nat) : aload PP m 95 (.ptr (some (n, o))) = (alds m n o 4).map .agg := by simp only [aload, ag_95, sz_95]
theorem st_95 (fl : Nat) (m : Mem) (n o : Nat) (x : AVal) : astore PP fl m 95 (.ptr (some (n, o))) x = if x.fits 4 = true then asts fl m n o x.cells else none := by simp only [astore, sz_95]
theorem fa_95_0 (n o : Nat) : afieldAddr PP 95 (.ptr (some (n, o))) 0 = some (.ptr (some (n, o + 0))) := by rfl
theorem tf_95_0 : tField PP 95 0 = some (0, 17) := by kernel_rfl
theorem fa_95_1 (n o : Nat) : afieldAddr PP 95 (.ptr (some (n, o))) 1 = some (.ptr (some (n, o + 1))) := by rfl
theorem tf_95_1 : tField PP 95 1 = some (1, 17) := by kernel_rfl
theorem fa_95_2 (n o : Nat) : afieldAddr PP 95 (.ptr (some (n, o))) 2 = some (.ptr (some (n, o + 2))) := by rfl
theorem tf_95_2 : tField PP 95 2 = some (2, 17) := by kernel_rfl
theorem fa_95_3 (n o : Nat) : afieldAddr PP 95 (.ptr (some (n, o))) 3 = some (.ptr (some (n, o + 3))) := by rfl
theorem tf_95_3 : tField PP 95 3 = some (3, 9) := by kernel_rfl
theorem fs_95 : tFields PP 95 = some [(0, 1), (1, 1), (2, 1), (3, 1)] := by kernel_rfl
theorem kd_100 : tKd PP 100 = some (.int .u32) := by kernel_rfl
theorem sz_100 : tSize PP 100 = some 1 := by kernel_rfl
theorem ag_100 : tAgg PP 100 = some false := by kernel_rfl
theorem by_100 : tBytes PP 100 = some 4 := by kernel_rfl
theorem ze_100 : tZero PP 100 = some [.int .u32 0] := by kernel_rfl
theorem ld_100 (m : Mem) (n o : Nat) : aload PP m 100 (.ptr (some (n, o))) = ald m n o := by simp only [aload, ag_100, sz_100]
theorem st_100 (fl : Nat) (m : Mem) (n o : Nat) (x : AVal) : astore PP fl m 100 (.ptr (some (n, o))) x = if x.fits 1 = true then asts fl m n o x.cells else none := by simp only [astore, sz_100]
theorem kd_101 : tKd PP 101 = some (.int .u8) := by kernel_rfl
theorem sz_101 : tSize PP 101 = some 1 := by kernel_rfl
theorem ag_101 : tAgg PP 101 = some false := by kernel_rfl
theorem by_101 : tBytes PP 101 = some 1 := by kernel_rfl
theorem ze_101 : tZero PP 101 = some [.int .u8 0] := by kernel_rfl
theorem ld_101 (m : Mem) (n o : Nat) : aload PP m 101 (.ptr (some (n, o))) = ald m n o := by simp only [aload, ag_101, sz_101]
theorem st_101 (fl : Nat) (m : Mem) (n o : Nat) (x : AVal) : astore PP fl m 101 (.ptr (some (n, o))) x = if x.fits 1 = true then asts fl m n o x.cells else none := by simp only [astore, sz_101]
theorem kd_102 : tKd PP 102 = some (.int .u8) := by kernel_rfl
theorem sz_102 : tSize PP 102 = some 1 := by kernel_rfl
theorem ag_102 : tAgg PP 102 = some false := by kernel_rfl
theorem by_102 : tBytes PP 102 = some 1 := by kernel_rfl
theorem ze_102 : tZero PP 102 = some [.int .u8 0] := by kernel_rfl
theorem ld_102 (m : Mem) (n o : Nat) : aload PP m 102 (.ptr (some (n, o))) = ald m n o := by simp only [aload, ag_102, sz_102]
theorem st_102 (fl : Nat) (m : Mem) (n o : Nat) (x : AVal) : astore PP fl m 102 (.ptr (some (n, o))) x = if x.fits 1 = true then asts fl m n o x.cells else none := by simp only [astore, sz_102]
theorem kd_104 : tKd PP 104 = some .other := by kernel_rfl
theorem sz_104 : tSize PP 104 = some 1 := by kernel_rfl
theorem ag_104 : tAgg PP 104 = some false := by kernel_rfl
theorem by_104 : tBytes PP 104 = some 8 := by kernel_rfl
theorem ze_104 : tZero PP 104 = some [.ptr none] := by kernel_rfl
theorem ld_104 (m : Mem) (n o : Nat) : aload PP m 104 (.ptr (some (n, o))) = ald m n o := by simp only [aload, ag_104, sz_104]
theorem st_104 (fl : Nat) (m : Mem) (n o : Nat) (x : AVal) : astore PP fl m 104 (.ptr (some (n, o))) x = if x.fits 1 = true then asts fl m n o x.cells else none := by simp only [astore, sz_104]
theorem kd_105 : tKd PP 105 = some (.int .i32) := by kernel_rfl
theorem sz_105 : tSize PP 105 = some 1 := by kernel_rfl
theorem ag_105 : tAgg PP 105 = some false := by kernel_rfl
theorem by_105 : tBytes PP 105 = some 4 := by kernel_rfl
theorem ze_105 : tZero PP 105 = some [.int .i32 0] := by kernel_rfl
theorem ld_105 (m : Mem) (n o : Nat) : aload PP m 105 (.ptr (some (n, o))) = ald m n o := by simp only [aload, ag_105, sz_105]
theorem st_105 (fl : Nat) (m : Mem) (n o : Nat) (x : AVal) : astore PP fl m 105 (.ptr (some (n, o))) x = if x.fits 1 = true then asts fl m n o x.cells else none := by simp only [astore, sz_105]
theorem kd_106 : tKd PP 106 = some (.int .i32) := by kernel_rfl
theorem sz_106 : tSize PP 106 = some 1 := by kernel_rfl
theorem ag_106 : tAgg PP 106 = some false := by kernel_rfl
theorem by_106 : tBytes PP 106 = some 4 := by kernel_rfl
theorem ze_106 : tZero PP 106 = some [.int .i32 0] := by kernel_rfl
theorem ld_106 (m : Mem) (n o : Nat) : aload PP m 106 (.ptr (some (n, o))) = ald m n o := by simp only [aload, ag_106, sz_106]
theorem st_106 (fl : Nat) (m : Mem) (n o : Nat) (x : AVal) : astore PP fl m 106 (.ptr (some (n, o))) x = if x.fits 1 = true then asts fl m n o x.cells else none := by simp only [astore, sz_106]
theorem kd_107 : tKd PP 107 = some .other := by kernel_rfl
theorem sz_107 : tSize PP 107 = some 11 := by kernel_rfl
theorem ag_107 : tAgg PP 107 = some true := by kernel_rfl
theorem by_107 : tBytes PP 107 = some 48 := by kernel_rfl
theorem ze_107 : tZero PP 107 = some [.int .u64 0, .int .u64 0, .int .u32 0, .int .u8 0, .int .u8 0, .int .u8 0, .int .u8 0, .nilFn, .ptr none, .int .i32 0, .int .i32 0] := by kernel_rfl
theorem ld_107 (m : Mem) (n o : Nat) : aload PP m 107 (.ptr (some (n, o))) = (alds m n o 11).map .agg := by simp only [aload, ag_107, sz_107]
theorem st_107 (fl : Nat) (m : Mem) (n o : Nat) (x : AVal) : astore PP fl m 107 (.ptr (some (n, o))) x = if x.fits 11 = true then asts fl m n o x.cells else none := by simp only [astore, sz_107]
theorem kd_108 : tKd PP 108 = some .other := by kernel_rfl
theorem sz_108 : tSize PP 108 = some 11 := by kernel_rfl
theorem ag_108 : tAgg PP 108 = some true := by kernel_rfl
theorem by_108 : tBytes PP 108 = some 48 := by kernel_rfl
theorem ze_108 : tZero PP 108 = some [.int .u64 0, .int .u64 0, .int .u32 0, .int .u8 0, .int .u8 0, .int .u8 0, .int .u8 0, .nilFn, .ptr none, .int .i32 0, .int .i32 0] := by kernel_rfl
theorem ld_108 (m : Mem) (n o : Nat) : aload PP m 108 (.ptr (some (n, o))) = (alds m n o 11).map .agg := by simp only [aload, ag_108, sz_108]
theorem st_108 (fl : Nat) (m : Mem) (n o : Nat) (x : AVal) : astore PP fl m 108 (.ptr (some (n, o))) x = if x.fits 11 = true then asts fl m n o x.cells else none := by simp only [astore, sz_108]
theorem fa_108_0 (n o : Nat) : afieldAddr PP 108 (.ptr (some (n, o))) 0 = some (.ptr (some (n, o + 0))) := by rfl
theorem tf_108_0 : tField PP 108 0 = some (0, 12) := by kernel_rfl
theorem fa_108_1 (n o : Nat) : afieldAddr PP 108 (.ptr (some (n, o))) 1 = some (.ptr (some (n, o + 1))) := by rfl
theorem tf_108_1 : tField PP 108 1 = some (1, 12) := by kernel_rfl
theorem fa_108_2 (n o : Nat) : afieldAddr PP 108 (.ptr (some (n, o))) 2 = some (.ptr (some (n, o + 2))) := by rfl
theorem tf_108_2 : tField PP 108 2 = some (2, 100) := by kernel_rfl
theorem fa_108_3 (n o : Nat) : afieldAddr PP 108 (.ptr (some (n, o))) 3 = some (.ptr (some (n, o + 3))) := by rfl
theorem tf_108_3 : tField PP 108 3 = some (3, 101) := by kernel_rfl
theorem fa_108_4 (n o : Nat) : afieldAddr PP 108 (.ptr (some (n, o))) 4 = some (.ptr (some (n, o + 4))) := by rfl
theorem tf_108_4 : tField PP 108 4 = some (4, 5) := by kernel_rfl
theorem fa_108_5 (n o : Nat) : afieldAddr PP 108 (.ptr (some (n, o))) 5 = some (.ptr (some (n, o + 5))) := by rfl
theorem tf_108_5 : tField PP 108 5 = some (5, 5) := by kernel_rfl
theorem fa_108_6 (n o : Nat) : afieldAddr PP 108 (.ptr (some (n, o))) 6 = some (.ptr (some (n, o + 6))) := by rfl
theorem tf_108_6 : tField PP 108 6 = some (6, 102) := by kernel_rfl
theorem fa_108_7 (n o : Nat) : afieldAddr PP 108 (.ptr (some (n, o))) 7 = some (.ptr (some (n, o + 7))) := by rfl
theorem tf_108_7 : tField PP 108 7 = some (7, 103) := by kernel_rfl
theorem fa_108_8 (n o : Nat) : afieldAddr PP 108 (.ptr (some (n, o))) 8 = some (.ptr (some (n, o + 8))) := by rfl
theorem tf_108_8 : tField PP 108 8 = some (8, 104) := by kernel_rfl
theorem fa_108_9 (n o : Nat) : afieldAddr PP 108 (.ptr (some (n, o))) 9 = some (.ptr (some (n, o + 9))) := by rfl
theorem tf_108_9 : tField PP 108 9 = some (9, 105) := by kernel_rfl
theorem fa_108_10 (n o : Nat) : afieldAddr PP 108 (.ptr (some (n, o))) 10 = some (.ptr (some (n, o + 10))) := by rfl
theorem tf_108_10 : tField PP 108 10 = some (10, 106) := by kernel_rfl
theorem fs_108 : tFields PP 108 = some [(0, 1), (1, 1), (2, 1), (3, 1), (4, 1), (5, 1), (6, 1), (7, 1), (8, 1), (9, 1), (10, 1)] := by kernel_rfl
theorem kd_110 : tKd PP 110 = some .other := by kernel_rfl
theorem sz_110 : tSize PP 110 = some 1 := by kernel_rfl
theorem ag_110 : tAgg PP 110 = some false := by kernel_rfl
theorem by_110 : tBytes PP 110 = some 8 := by kernel_rfl
theorem ze_110 : tZero PP 110 = some [.ptr none] := by kernel_rfl
theorem ld_110 (m : Mem) (n o : Nat) : aload PP m 110 (.ptr (some (n, o))) = ald m n o := by simp only [aload, ag_110, sz_110]
theorem st_110 (fl : Nat) (m : Mem) (n o : Nat) (x : AVal) : astore PP fl m 110 (.ptr (some (n, o))) x = if x.fits 1 = true then asts fl m n o x.cells else none := by simp only [astore, sz_110]
theorem kd_111 : tKd PP 111 = some (.int .u64) := by kernel_rfl
theorem sz_111 : tSize PP 111 = some 1 := by kernel_rfl
theorem ag_111 : tAgg PP 111 = some false := by kernel_rfl
theorem by_111 : tBytes PP 111 = some 8 := by kernel_rfl
theorem ze_111 : tZero PP 111 = some [.int .u64 0] := by kernel_rfl
theorem ld_111 (m : Mem) (n o : Nat) : aload PP m 111 (.ptr (some (n, o))) = ald m n o := by simp only [aload, ag_111, sz_111]
theorem st_111 (fl : Nat) (m : Mem) (n o : Nat) (x : AVal) : astore PP fl m 111 (.ptr (some (n, o))) x = if x.fits 1 = true then asts fl m n o x.cells else none := by simp only [astore, sz_111]
theorem ix_22 (n o len : Nat) (cap : Option Nat) (k : IntKind) (i : Int) (h0 : 0 ≤ i) (h1 : i < len) : aindexAddr PP 22 (.sl n o len cap 1) (.int k i) = some (.ptr (some (n, o + i.toNat * 1))) := by simp only [aindexAddr, intVal, el_22, sz_3, Option.bind_some, h0, h1, and_self, if_true]
theorem ix_25 (n o len : Nat) (cap : Option Nat) (k : IntKind) (i : Int) (h0 : 0 ≤ i) (h1 : i < len) : aindexAddr PP 25 (.sl n o len cap 1) (.int k i) = some (.ptr (some (n, o + i.toNat * 1))) := by simp only [aindexAddr, intVal, el_25, sz_4, Option.bind_some, h0, h1, and_self, if_true]
theorem ix_35 (n o len : Nat) (cap : Option Nat) (k : IntKind) (i : Int) (h0 : 0 ≤ i) (h1 : i < len) : aindexAddr PP 35 (.sl n o len cap 1) (.int k i) = some (.ptr (some (n, o + i.toNat * 1))) := by simp only [aindexAddr, intVal, el_35, sz_5, Option.bind_some, h0, h1, and_self, if_true]
theorem ix_74 (n o len : Nat) (cap : Option Nat) (k : IntKind) (i : Int) (h0 : 0 ≤ i) (h1 : i < len) : aindexAddr PP 74 (.sl n o len cap 1) (.int k i) = some (.ptr (some (n, o + i.toNat * 1))) := by simp only [aindexAddr, intVal, el_74, sz_22, Option.bind_some, h0, h1, and_self, if_true]
attribute [go_sem] kd_2 sz_2 ag_2 by_2 ze_2 ld_2 st_2 kd_3 sz_3 ag_3 by_3 ze_3 ld_3 st_3 kd_4 sz_4 ag_4 by_4 ze_4 ld_4 st_4 kd_5 sz_5 ag_5 by_5 ze_5 ld_5 st_5 kd_6 sz_6 ag_6 by_6 ze_6 ld_6 st_6 kd_7 sz_7 ag_7 by_7 ze_7 ld_7 st_7 kd_8 sz_8 ag_8 by_8 ze_8 ld_8 st_8 fa_8_0 tf_8_0 fa_8_1 tf_8_1 fa_8_2 tf_8_2 fa_8_3 tf_8_3 fs_8 kd_9 sz_9 ag_9 by_9 ze_9 ld_9 st_9 kd_10 sz_10 ag_10 by_10 ze_10 ld_10 st_10 kd_11 sz_11 ag_11 by_11 ze_11 ld_11 st_11 kd_12 sz_12 ag_12 by_12 ze_12 ld_12 st_12 kd_13 sz_13 ag_13 by_13 ze_13 ld_13 st_13 kd_14 sz_14 ag_14 by_14 ze_14 ld_14 st_14 fa_14_0 tf_14_0 fa_14_1 tf_14_1 fs_14 kd_15 sz_15 ag_15 by_15 ze_15 ld_15 st_15 kd_16 sz_16 ag_16 by_16 ze_16 ld_16 st_16 kd_17 sz_17 ag_17 by_17 ze_17 ld_17 st_17 kd_18 sz_18 ag_18 by_18 ze_18 ld_18 st_18 kd_19 sz_19 ag_19 by_19 ze_19 ld_19 st_19 fa_19_0 tf_19_0 fs_19 kd_20 sz_20 ag_20 by_20 ze_20 ld_20 st_20 kd_21 sz_21 ag_21 by_21 ze_21 ld_21 st_21 kd_22 sz_22 ag_22 by_22 ze_22 el_22 ix_22 le_22 ln_22 ld_22 st_22 kd_23 sz_23 ag_23 by_23 ze_23 ld_23 st_23 kd_24 sz_24 ag_24 by_24 ze_24 ld_24 st_24 fa_24_0 tf_24_0 fa_24_1 tf_24_1 fa_24_2 tf_24_2 fs_24 kd_25 sz_25 ag_25 by_25 ze_25 el_25 ix_25 le_25 ln_25 ld_25 st_25 kd_26 sz_26 ag_26 by_26 ze_26 ld_26 st_26 kd_27 sz_27 ag_27 by_27 ze_27 ld_27 st_27 fa_27_0 tf_27_0 fa_27_1 tf_27_1 fa_27_2 tf_27_2 fs_27 kd_30 sz_30 ag_30 by_30 ze_30 ld_30 st_30 fa_30_0 tf_30_0 fa_30_1 tf_30_1 fa_30_2 tf_30_2 fs_30 kd_31 sz_31 ag_31 by_31 ze_31 ld_31 st_31 kd_32 sz_32 ag_32 by_32 ze_32 ld_32 st_32 fa_32_0 tf_32_0 fa_32_1 tf_32_1 fa_32_2 tf_32_2 fs_32 kd_35 sz_35 ag_35 by_35 ze_35 el_35 ix_35 le_35 ln_35 ld_35 st_35 kd_68 sz_68 ag_68 by_68 ze_68 ld_68 st_68 kd_74 sz_74 ag_74 by_74 ze_74 el_74 ix_74 le_74 ln_74 ld_74 st_74 kd_85 sz_85 ag_85 by_85 ze_85 ld_85 st_85 kd_86 sz_86 ag_86 by_86 ze_86 ld_86 st_86 fa_86_0 tf_86_0 fa_86_1 tf_86_1 fs_86 kd_94 sz_94 ag_94 by_94 ze_94 ld_94 st_94 kd_95 sz_95 ag_95 by_95 ze_95 ld_95 st_95 fa_95_0 tf_95_0 fa_95_1 tf_95_1 fa_95_2 tf_95_2 fa_95_3 tf_95_3 fs_95 kd_100 sz_100 ag_100 by_100 ze_100 ld_100 st_100 kd_101 sz_101 ag_101 by_101 ze_101 ld_101 st_101 kd_102 sz_102 ag_102 by_102 ze_102 ld_102 st_102 kd_104 sz_104 ag_104 by_104 ze_104 ld_104 st_104 kd_105 sz_105 ag_105 by_105 ze_105 ld_105 st_105 kd_106 sz_106 ag_106 by_106 ze_106 ld_106 st_106 kd_107 sz_107 ag_107 by_107 ze_107 ld_107 st_107 kd_108 sz_108 ag_108 by_108 ze_108 ld_108 st_108 fa_108_0 tf_108_0 fa_108_1 tf_108_1 fa_108_2 tf_108_2 fa_108_3 tf_108_3 fa_108_4 tf_108_4 fa_108_5 tf_108_5 fa_108_6 tf_108_6 fa_108_7 tf_108_7 fa_108_8 tf_108_8 fa_108_9 tf_108_9 fa_108_10 tf_108_10 fs_108 kd_110 sz_110 ag_110 by_110 ze_110 ld_110 st_110 kd_111 sz_111 ag_111 by_111 ze_111 ld_111 st_111
end Go.Ab
