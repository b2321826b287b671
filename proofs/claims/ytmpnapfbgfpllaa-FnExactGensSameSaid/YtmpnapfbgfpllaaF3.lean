/-
  What is proved here: the contracts of the functions that copy lists, write marks into them and look for the marks. Condition: the lists' lengths and the marks are bounded as each statement says.
-/
import Derived.Test.YtmpnapfbgfpllaaF1
namespace Go.Ab
open Go.Proofs
set_option linter.unusedSimpArgs false
set_option linter.unusedVariables false
set_option maxRecDepth 10000

theorem set_copy {α : Type} {f : α → AVal} {xs : List α} {z : AVal} {k : Nat} {x : α} (hk : k < xs.length) (hx : xs[k]? = some x) :
    ((xs.take k).map f ++ List.replicate (xs.length - k) z).set k (f x) = (xs.take (k + 1)).map f ++ List.replicate (xs.length - (k + 1)) z := by
  refine List.ext_getElem? fun i => ?_
  rw [List.getElem?_set]
  by_cases e : k = i
  · subst e
    rw [if_pos rfl, if_pos (by simp; omega), List.getElem?_append_left (by simp; omega)]
    simp [hx, List.getElem?_take]
  · rw [if_neg e]
    by_cases h1 : i < k
    · rw [List.getElem?_append_left (by simp; omega), List.getElem?_append_left (by simp; omega)]
      simp [List.getElem?_take, h1, show i < k + 1 by omega]
    · rw [List.getElem?_append_right (by simp; omega), List.getElem?_append_right (by simp; omega)]
      simp [List.getElem?_replicate]
      rw [show min k xs.length = k by omega, show min (k + 1) xs.length = k + 1 by omega]
      by_cases h2 : i < xs.length
      · rw [if_pos (by omega), if_pos (by omega)]
      · rw [if_neg (by omega), if_neg (by omega)]

theorem toIntS_c {m : Mem} {a : AVal} {xs : List Int} (ha : RdI m a xs) (hx : xs.length ≤ 68719476736) :
    ∃ v m', (v = .sl m.size 0 xs.length (some xs.length) 1 ∧ m' = m.push (xs.map (AVal.int .i64))) ∧ DCalls PP m.size 36 [a] m v m' := by
  refine enter Try.func36 (by decide) rfl Try.ntmps36 Try.results36 ?_
  refine awp_seq fun K hK => ?_
  refine region_seq fun gd sep hgd => ?_
  clear hgd
  (repeat (refine aops_cons fun K1 hK1 => ?_; simp (disch := first | with_reducible assumption | (simp -failIfUnchanged only [Mem.size_push, Mem.size_put, Mem.size_kill, List.length_cons, List.length_nil, List.length_append, List.length_map, List.length_take, List.length_replicate] <;> omega) | (refine (id ?_ : (_ : Bool) = true); simp only [go_sem, if_true, if_false, reduceIte, reduceCtorEq, Nat.reduceAdd, Nat.reduceSub, Nat.reduceBEq, Nat.reduceLT, Nat.reduceMul, Nat.reducePow, Nat.reduceLeDiff]; done) | fail "no") only [go_sem, if_true, if_false, reduceIte, reduceCtorEq, Nat.reduceAdd, Nat.reduceSub, Nat.reduceBEq, Nat.reduceLT, Nat.reduceMul, Nat.reducePow, Nat.reduceLeDiff]; refine hK1 _ _ ?_; clear hK1 K1))
  refine aops_nil ?_; simp only [Nx, Caught, if_true, if_false, reduceIte, Nat.reduceEqDiff]
  clear gd sep
  refine hK _ _ ?_; clear hK K
  refine awp_seq fun K hK => ?_
  refine region_seq fun gd sep hgd => ?_
  clear hgd
  (repeat (refine aops_cons fun K1 hK1 => ?_; simp (disch := first | with_reducible assumption | (simp -failIfUnchanged only [Mem.size_push, Mem.size_put, Mem.size_kill, List.length_cons, List.length_nil, List.length_append, List.length_map, List.length_take, List.length_replicate, ha.lenI] <;> omega) | (refine (id ?_ : (_ : Bool) = true); simp only [go_sem, if_true, if_false, reduceIte, reduceCtorEq, Nat.reduceAdd, Nat.reduceSub, Nat.reduceBEq, Nat.reduceLT, Nat.reduceMul, Nat.reducePow, Nat.reduceLeDiff, ha.lenI]; done) | fail "no") only [go_sem, if_true, if_false, reduceIte, reduceCtorEq, Nat.reduceAdd, Nat.reduceSub, Nat.reduceBEq, Nat.reduceLT, Nat.reduceMul, Nat.reducePow, Nat.reduceLeDiff, ha.lenI]; refine hK1 _ _ ?_; clear hK1 K1))
  refine aops_cons fun K1 hK1 => ?_
  simp (disch := first | with_reducible assumption | (simp -failIfUnchanged only [Mem.size_push, Mem.size_put, Mem.size_kill, List.length_cons, List.length_nil, List.length_append, List.length_map, List.length_take, List.length_replicate, ha.lenI, amake, Int.toNat_natCast, (show (0 : Int) ≤ xs.length ∧ (xs.length : Int) ≤ xs.length ∧ (xs.length : Int) ≤ 2 ^ 36 from ⟨by omega, by omega, by omega⟩)] <;> omega) | (refine (id ?_ : (_ : Bool) = true); simp only [go_sem, if_true, if_false, reduceIte, reduceCtorEq, Nat.reduceAdd, Nat.reduceSub, Nat.reduceBEq, Nat.reduceLT, Nat.reduceMul, Nat.reducePow, Nat.reduceLeDiff, ha.lenI, amake, Int.toNat_natCast, (show (0 : Int) ≤ xs.length ∧ (xs.length : Int) ≤ xs.length ∧ (xs.length : Int) ≤ 2 ^ 36 from ⟨by omega, by omega, by omega⟩)]; done) | fail "no") only [go_sem, if_true, if_false, reduceIte, reduceCtorEq, Nat.reduceAdd, Nat.reduceSub, Nat.reduceBEq, Nat.reduceLT, Nat.reduceMul, Nat.reducePow, Nat.reduceLeDiff, ha.lenI, amake, Int.toNat_natCast, (show (0 : Int) ≤ xs.length ∧ (xs.length : Int) ≤ xs.length ∧ (xs.length : Int) ≤ 2 ^ 36 from ⟨by omega, by omega, by omega⟩)]
  refine hK1 _ _ ?_; clear hK1 K1
  (repeat (refine aops_cons fun K1 hK1 => ?_; simp (disch := first | with_reducible assumption | (simp -failIfUnchanged only [Mem.size_push, Mem.size_put, Mem.size_kill, List.length_cons, List.length_nil, List.length_append, List.length_map, List.length_take, List.length_replicate] <;> omega) | (refine (id ?_ : (_ : Bool) = true); simp only [go_sem, if_true, if_false, reduceIte, reduceCtorEq, Nat.reduceAdd, Nat.reduceSub, Nat.reduceBEq, Nat.reduceLT, Nat.reduceMul, Nat.reducePow, Nat.reduceLeDiff]; done) | fail "no") only [go_sem, if_true, if_false, reduceIte, reduceCtorEq, Nat.reduceAdd, Nat.reduceSub, Nat.reduceBEq, Nat.reduceLT, Nat.reduceMul, Nat.reducePow, Nat.reduceLeDiff]; refine hK1 _ _ ?_; clear hK1 K1))
  refine aops_nil ?_; simp only [Nx, Caught, if_true, if_false, reduceIte, Nat.reduceEqDiff]
  clear gd sep
  refine hK _ _ ?_; clear hK K
  have ha1 := ha.ext (Ext.push m (List.replicate xs.length (AVal.int .i64 0)))
  repeat (first
    | (refine awp_seq fun K hK => ?_)
    | (refine awp_block ?_)
    | (refine awp_skip ?_; simp only [Nx, Caught, if_true, if_false, reduceIte, Nat.reduceEqDiff])
    | (refine awp_exit ?_; simp only [Nx, Caught, if_true, if_false, reduceIte, Nat.reduceEqDiff])
    | (refine region_seq fun gd sep hgd => ?_; clear hgd; (repeat (refine aops_cons fun K1 hK1 => ?_; simp (disch := first | with_reducible assumption | (simp -failIfUnchanged only [Mem.size_push, Mem.size_put, Mem.size_kill, List.length_cons, List.length_nil, List.length_append, List.length_map, List.length_take, List.length_replicate] <;> omega) | (refine (id ?_ : (_ : Bool) = true); simp only [go_sem, if_true, if_false, reduceIte, reduceCtorEq, Nat.reduceAdd, Nat.reduceSub, Nat.reduceBEq, Nat.reduceLT, Nat.reduceMul, Nat.reducePow, Nat.reduceLeDiff]; done) | fail "no") only [go_sem, if_true, if_false, reduceIte, reduceCtorEq, Nat.reduceAdd, Nat.reduceSub, Nat.reduceBEq, Nat.reduceLT, Nat.reduceMul, Nat.reducePow, Nat.reduceLeDiff]; refine hK1 _ _ ?_; clear hK1 K1)); refine aops_nil ?_; simp only [Nx, Caught, if_true, if_false, reduceIte, Nat.reduceEqDiff]; clear gd sep)
    | (refine region_draw' mixed (by decide +kernel) fun gd sep hgd hsep => ?_; clear hgd hsep; (repeat (refine aops_cons fun K1 hK1 => ?_; simp (disch := first | with_reducible assumption | (simp -failIfUnchanged only [Mem.size_push, Mem.size_put, Mem.size_kill, List.length_cons, List.length_nil, List.length_append, List.length_map, List.length_take, List.length_replicate] <;> omega) | (refine (id ?_ : (_ : Bool) = true); simp only [go_sem, if_true, if_false, reduceIte, reduceCtorEq, Nat.reduceAdd, Nat.reduceSub, Nat.reduceBEq, Nat.reduceLT, Nat.reduceMul, Nat.reducePow, Nat.reduceLeDiff]; done) | fail "no") only [go_sem, if_true, if_false, reduceIte, reduceCtorEq, Nat.reduceAdd, Nat.reduceSub, Nat.reduceBEq, Nat.reduceLT, Nat.reduceMul, Nat.reducePow, Nat.reduceLeDiff]; refine hK1 _ _ ?_; clear hK1 K1)); refine aops_nil ?_; simp only [Nx, Caught, if_true, if_false, reduceIte, Nat.reduceEqDiff]; clear gd sep)
    | (refine hK _ _ ?_; clear hK K)
    | (clear hK K)
    )
  refine awp_loop (fun n ts m' => ∃ k : Nat, n = xs.length - k ∧ k ≤ xs.length ∧ ts 0 = a ∧ ts 3 = .sl m.size 0 xs.length (some xs.length) 1 ∧ ts 4 = .int .i64 k ∧ m' = m.push ((xs.take k).map (AVal.int .i64) ++ List.replicate (xs.length - k) (AVal.int .i64 0))) xs.length ⟨0, rfl, by omega, rfl, rfl, rfl, by simp⟩ ?_
  rintro n ts _ ⟨k, rfl, hk, h0, h3, h4, rfl⟩ J hJ
  have ha2 := ha.ext (Ext.push m ((xs.take k).map (AVal.int .i64) ++ List.replicate (xs.length - k) (AVal.int .i64 0)))
  repeat (first
    | (refine awp_seq fun K hK => ?_)
    | (refine awp_block ?_)
    | (refine awp_skip ?_; simp only [Nx, Caught, if_true, if_false, reduceIte, Nat.reduceEqDiff])
    | (refine awp_exit ?_; simp only [Nx, Caught, if_true, if_false, reduceIte, Nat.reduceEqDiff])
    | (refine region_seq fun gd sep hgd => ?_; clear hgd; (repeat (refine aops_cons fun K1 hK1 => ?_; simp (disch := first | with_reducible assumption | (simp -failIfUnchanged only [Mem.size_push, Mem.size_put, Mem.size_kill, List.length_cons, List.length_nil, List.length_append, List.length_map, List.length_take, List.length_replicate, ha2.lenI, h0, h3, h4] <;> omega) | (refine (id ?_ : (_ : Bool) = true); simp only [go_sem, if_true, if_false, reduceIte, reduceCtorEq, Nat.reduceAdd, Nat.reduceSub, Nat.reduceBEq, Nat.reduceLT, Nat.reduceMul, Nat.reducePow, Nat.reduceLeDiff, ha2.lenI, h0, h3, h4]; done) | fail "no") only [go_sem, if_true, if_false, reduceIte, reduceCtorEq, Nat.reduceAdd, Nat.reduceSub, Nat.reduceBEq, Nat.reduceLT, Nat.reduceMul, Nat.reducePow, Nat.reduceLeDiff, ha2.lenI, h0, h3, h4]; refine hK1 _ _ ?_; clear hK1 K1)); refine aops_nil ?_; simp only [Nx, Caught, if_true, if_false, reduceIte, Nat.reduceEqDiff]; clear gd sep)
    | (refine region_draw' mixed (by decide +kernel) fun gd sep hgd hsep => ?_; clear hgd hsep; (repeat (refine aops_cons fun K1 hK1 => ?_; simp (disch := first | with_reducible assumption | (simp -failIfUnchanged only [Mem.size_push, Mem.size_put, Mem.size_kill, List.length_cons, List.length_nil, List.length_append, List.length_map, List.length_take, List.length_replicate, ha2.lenI, h0, h3, h4] <;> omega) | (refine (id ?_ : (_ : Bool) = true); simp only [go_sem, if_true, if_false, reduceIte, reduceCtorEq, Nat.reduceAdd, Nat.reduceSub, Nat.reduceBEq, Nat.reduceLT, Nat.reduceMul, Nat.reducePow, Nat.reduceLeDiff, ha2.lenI, h0, h3, h4]; done) | fail "no") only [go_sem, if_true, if_false, reduceIte, reduceCtorEq, Nat.reduceAdd, Nat.reduceSub, Nat.reduceBEq, Nat.reduceLT, Nat.reduceMul, Nat.reducePow, Nat.reduceLeDiff, ha2.lenI, h0, h3, h4]; refine hK1 _ _ ?_; clear hK1 K1)); refine aops_nil ?_; simp only [Nx, Caught, if_true, if_false, reduceIte, Nat.reduceEqDiff]; clear gd sep)
    | (refine hK _ _ ?_; clear hK K)
    | (clear hK K)
    )
  refine awp_if rfl (fun h => ?_) (fun h => ?_)
  · have hlt : k < xs.length := by simp at h; omega
    have hl2 : ((xs.take k).map (AVal.int .i64) ++ List.replicate (xs.length - k) (AVal.int .i64 0)).length = xs.length := by simp; omega
    repeat (first
      | (refine awp_seq fun K hK => ?_)
      | (refine awp_block ?_)
      | (refine awp_skip ?_; simp only [Nx, Caught, if_true, if_false, reduceIte, Nat.reduceEqDiff])
      | (refine awp_exit ?_; simp only [Nx, Caught, if_true, if_false, reduceIte, Nat.reduceEqDiff])
      | (refine region_seq fun gd sep hgd => ?_; clear hgd; (repeat (refine aops_cons fun K1 hK1 => ?_; simp (disch := first | with_reducible assumption | (simp -failIfUnchanged only [Mem.size_push, Mem.size_put, Mem.size_kill, List.length_cons, List.length_nil, List.length_append, List.length_map, List.length_take, List.length_replicate, ha2.idxI, ha2.loadI, Int.toNat_natCast, h0, h3, h4, hl2] <;> omega) | (refine (id ?_ : (_ : Bool) = true); simp only [go_sem, if_true, if_false, reduceIte, reduceCtorEq, Nat.reduceAdd, Nat.reduceSub, Nat.reduceBEq, Nat.reduceLT, Nat.reduceMul, Nat.reducePow, Nat.reduceLeDiff, ha2.idxI, ha2.loadI, Int.toNat_natCast, h0, h3, h4, hl2]; done) | fail "no") only [go_sem, if_true, if_false, reduceIte, reduceCtorEq, Nat.reduceAdd, Nat.reduceSub, Nat.reduceBEq, Nat.reduceLT, Nat.reduceMul, Nat.reducePow, Nat.reduceLeDiff, ha2.idxI, ha2.loadI, Int.toNat_natCast, h0, h3, h4, hl2]; refine hK1 _ _ ?_; clear hK1 K1)); refine aops_nil ?_; simp only [Nx, Caught, if_true, if_false, reduceIte, Nat.reduceEqDiff]; clear gd sep)
      | (refine region_draw' mixed (by decide +kernel) fun gd sep hgd hsep => ?_; clear hgd hsep; (repeat (refine aops_cons fun K1 hK1 => ?_; simp (disch := first | with_reducible assumption | (simp -failIfUnchanged only [Mem.size_push, Mem.size_put, Mem.size_kill, List.length_cons, List.length_nil, List.length_append, List.length_map, List.length_take, List.length_replicate, ha2.idxI, ha2.loadI, Int.toNat_natCast, h0, h3, h4, hl2] <;> omega) | (refine (id ?_ : (_ : Bool) = true); simp only [go_sem, if_true, if_false, reduceIte, reduceCtorEq, Nat.reduceAdd, Nat.reduceSub, Nat.reduceBEq, Nat.reduceLT, Nat.reduceMul, Nat.reducePow, Nat.reduceLeDiff, ha2.idxI, ha2.loadI, Int.toNat_natCast, h0, h3, h4, hl2]; done) | fail "no") only [go_sem, if_true, if_false, reduceIte, reduceCtorEq, Nat.reduceAdd, Nat.reduceSub, Nat.reduceBEq, Nat.reduceLT, Nat.reduceMul, Nat.reducePow, Nat.reduceLeDiff, ha2.idxI, ha2.loadI, Int.toNat_natCast, h0, h3, h4, hl2]; refine hK1 _ _ ?_; clear hK1 K1)); refine aops_nil ?_; simp only [Nx, Caught, if_true, if_false, reduceIte, Nat.reduceEqDiff]; clear gd sep)
      | (refine hK _ _ ?_; clear hK K)
      | (clear hK K)
      )
    refine hJ _ _ _ ?_ ⟨k + 1, rfl, by omega, h0, h3, rfl, ?_⟩
    · omega
    · rw [set_copy hlt (getElem?_getD' (d := 0) hlt)]
  · have he : k = xs.length := by simp at h; omega
    subst he
    repeat (first
      | (refine awp_seq fun K hK => ?_)
      | (refine awp_block ?_)
      | (refine awp_skip ?_; simp only [Nx, Caught, if_true, if_false, reduceIte, Nat.reduceEqDiff])
      | (refine awp_exit ?_; simp only [Nx, Caught, if_true, if_false, reduceIte, Nat.reduceEqDiff])
      | (refine region_seq fun gd sep hgd => ?_; clear hgd; (repeat (refine aops_cons fun K1 hK1 => ?_; simp (disch := first | with_reducible assumption | (simp -failIfUnchanged only [Mem.size_push, Mem.size_put, Mem.size_kill, List.length_cons, List.length_nil, List.length_append, List.length_map, List.length_take, List.length_replicate, h3] <;> omega) | (refine (id ?_ : (_ : Bool) = true); simp only [go_sem, if_true, if_false, reduceIte, reduceCtorEq, Nat.reduceAdd, Nat.reduceSub, Nat.reduceBEq, Nat.reduceLT, Nat.reduceMul, Nat.reducePow, Nat.reduceLeDiff, h3]; done) | fail "no") only [go_sem, if_true, if_false, reduceIte, reduceCtorEq, Nat.reduceAdd, Nat.reduceSub, Nat.reduceBEq, Nat.reduceLT, Nat.reduceMul, Nat.reducePow, Nat.reduceLeDiff, h3]; refine hK1 _ _ ?_; clear hK1 K1)); refine aops_nil ?_; simp only [Nx, Caught, if_true, if_false, reduceIte, Nat.reduceEqDiff]; clear gd sep)
      | (refine region_draw' mixed (by decide +kernel) fun gd sep hgd hsep => ?_; clear hgd hsep; (repeat (refine aops_cons fun K1 hK1 => ?_; simp (disch := first | with_reducible assumption | (simp -failIfUnchanged only [Mem.size_push, Mem.size_put, Mem.size_kill, List.length_cons, List.length_nil, List.length_append, List.length_map, List.length_take, List.length_replicate, h3] <;> omega) | (refine (id ?_ : (_ : Bool) = true); simp only [go_sem, if_true, if_false, reduceIte, reduceCtorEq, Nat.reduceAdd, Nat.reduceSub, Nat.reduceBEq, Nat.reduceLT, Nat.reduceMul, Nat.reducePow, Nat.reduceLeDiff, h3]; done) | fail "no") only [go_sem, if_true, if_false, reduceIte, reduceCtorEq, Nat.reduceAdd, Nat.reduceSub, Nat.reduceBEq, Nat.reduceLT, Nat.reduceMul, Nat.reducePow, Nat.reduceLeDiff, h3]; refine hK1 _ _ ?_; clear hK1 K1)); refine aops_nil ?_; simp only [Nx, Caught, if_true, if_false, reduceIte, Nat.reduceEqDiff]; clear gd sep)
      | (refine hK _ _ ?_; clear hK K)
      | (clear hK K)
      )
    refine awp_ret ?_; try simp only [Nx, Caught]
    apply ends_ret
    · simp (disch := first | with_reducible assumption | (simp -failIfUnchanged only [Mem.size_push, Mem.size_put, Mem.size_kill, List.length_cons, List.length_nil, List.length_append, List.length_map, List.length_take, List.length_replicate] <;> omega) | (refine (id ?_ : (_ : Bool) = true); simp only [go_sem, if_true, if_false, reduceIte, reduceCtorEq, Nat.reduceAdd, Nat.reduceSub, Nat.reduceBEq, Nat.reduceLT, Nat.reduceMul, Nat.reducePow, Nat.reduceLeDiff]; done) | fail "no") only [go_sem, if_true, if_false, reduceIte, reduceCtorEq, Nat.reduceAdd, Nat.reduceSub, Nat.reduceBEq, Nat.reduceLT, Nat.reduceMul, Nat.reducePow, Nat.reduceLeDiff, aress, ares1]; exact rfl
    simp only [tupled]
    simp
theorem toBoolS_c {m : Mem} {a : AVal} {xs : List Bool} (ha : RdB m a xs) (hx : xs.length ≤ 68719476736) :
    ∃ v m', (v = .sl m.size 0 xs.length (some xs.length) 1 ∧ m' = m.push (xs.map (AVal.bool))) ∧ DCalls PP m.size 52 [a] m v m' := by
  refine enter Try.func52 (by decide) rfl Try.ntmps52 Try.results52 ?_
  refine awp_seq fun K hK => ?_
  refine region_seq fun gd sep hgd => ?_
  clear hgd
  (repeat (refine aops_cons fun K1 hK1 => ?_; simp (disch := first | with_reducible assumption | (simp -failIfUnchanged only [Mem.size_push, Mem.size_put, Mem.size_kill, List.length_cons, List.length_nil, List.length_append, List.length_map, List.length_take, List.length_replicate] <;> omega) | (refine (id ?_ : (_ : Bool) = true); simp only [go_sem, if_true, if_false, reduceIte, reduceCtorEq, Nat.reduceAdd, Nat.reduceSub, Nat.reduceBEq, Nat.reduceLT, Nat.reduceMul, Nat.reducePow, Nat.reduceLeDiff]; done) | fail "no") only [go_sem, if_true, if_false, reduceIte, reduceCtorEq, Nat.reduceAdd, Nat.reduceSub, Nat.reduceBEq, Nat.reduceLT, Nat.reduceMul, Nat.reducePow, Nat.reduceLeDiff]; refine hK1 _ _ ?_; clear hK1 K1))
  refine aops_nil ?_; simp only [Nx, Caught, if_true, if_false, reduceIte, Nat.reduceEqDiff]
  clear gd sep
  refine hK _ _ ?_; clear hK K
  refine awp_seq fun K hK => ?_
  refine region_seq fun gd sep hgd => ?_
  clear hgd
  (repeat (refine aops_cons fun K1 hK1 => ?_; simp (disch := first | with_reducible assumption | (simp -failIfUnchanged only [Mem.size_push, Mem.size_put, Mem.size_kill, List.length_cons, List.length_nil, List.length_append, List.length_map, List.length_take, List.length_replicate, ha.lenB] <;> omega) | (refine (id ?_ : (_ : Bool) = true); simp only [go_sem, if_true, if_false, reduceIte, reduceCtorEq, Nat.reduceAdd, Nat.reduceSub, Nat.reduceBEq, Nat.reduceLT, Nat.reduceMul, Nat.reducePow, Nat.reduceLeDiff, ha.lenB]; done) | fail "no") only [go_sem, if_true, if_false, reduceIte, reduceCtorEq, Nat.reduceAdd, Nat.reduceSub, Nat.reduceBEq, Nat.reduceLT, Nat.reduceMul, Nat.reducePow, Nat.reduceLeDiff, ha.lenB]; refine hK1 _ _ ?_; clear hK1 K1))
  refine aops_cons fun K1 hK1 => ?_
  simp (disch := first | with_reducible assumption | (simp -failIfUnchanged only [Mem.size_push, Mem.size_put, Mem.size_kill, List.length_cons, List.length_nil, List.length_append, List.length_map, List.length_take, List.length_replicate, ha.lenB, amake, Int.toNat_natCast, (show (0 : Int) ≤ xs.length ∧ (xs.length : Int) ≤ xs.length ∧ (xs.length : Int) ≤ 2 ^ 36 from ⟨by omega, by omega, by omega⟩)] <;> omega) | (refine (id ?_ : (_ : Bool) = true); simp only [go_sem, if_true, if_false, reduceIte, reduceCtorEq, Nat.reduceAdd, Nat.reduceSub, Nat.reduceBEq, Nat.reduceLT, Nat.reduceMul, Nat.reducePow, Nat.reduceLeDiff, ha.lenB, amake, Int.toNat_natCast, (show (0 : Int) ≤ xs.length ∧ (xs.length : Int) ≤ xs.length ∧ (xs.length : Int) ≤ 2 ^ 36 from ⟨by omega, by omega, by omega⟩)]; done) | fail "no") only [go_sem, if_true, if_false, reduceIte, reduceCtorEq, Nat.reduceAdd, Nat.reduceSub, Nat.reduceBEq, Nat.reduceLT, Nat.reduceMul, Nat.reducePow, Nat.reduceLeDiff, ha.lenB, amake, Int.toNat_natCast, (show (0 : Int) ≤ xs.length ∧ (xs.length : Int) ≤ xs.length ∧ (xs.length : Int) ≤ 2 ^ 36 from ⟨by omega, by omega, by omega⟩)]
  refine hK1 _ _ ?_; clear hK1 K1
  (repeat (refine aops_cons fun K1 hK1 => ?_; simp (disch := first | with_reducible assumption | (simp -failIfUnchanged only [Mem.size_push, Mem.size_put, Mem.size_kill, List.length_cons, List.length_nil, List.length_append, List.length_map, List.length_take, List.length_replicate] <;> omega) | (refine (id ?_ : (_ : Bool) = true); simp only [go_sem, if_true, if_false, reduceIte, reduceCtorEq, Nat.reduceAdd, Nat.reduceSub, Nat.reduceBEq, Nat.reduceLT, Nat.reduceMul, Nat.reducePow, Nat.reduceLeDiff]; done) | fail "no") only [go_sem, if_true, if_false, reduceIte, reduceCtorEq, Nat.reduceAdd, Nat.reduceSub, Nat.reduceBEq, Nat.reduceLT, Nat.reduceMul, Nat.reducePow, Nat.reduceLeDiff]; refine hK1 _ _ ?_; clear hK1 K1))
  refine aops_nil ?_; simp only [Nx, Caught, if_true, if_false, reduceIte, Nat.reduceEqDiff]
  clear gd sep
  refine hK _ _ ?_; clear hK K
  have ha1 := ha.ext (Ext.push m (List.replicate xs.length (AVal.bool false)))
  repeat (first
    | (refine awp_seq fun K hK => ?_)
    | (refine awp_block ?_)
    | (refine awp_skip ?_; simp only [Nx, Caught, if_true, if_false, reduceIte, Nat.reduceEqDiff])
    | (refine awp_exit ?_; simp only [Nx, Caught, if_true, if_false, reduceIte, Nat.reduceEqDiff])
    | (refine region_seq fun gd sep hgd => ?_; clear hgd; (repeat (refine aops_cons fun K1 hK1 => ?_; simp (disch := first | with_reducible assumption | (simp -failIfUnchanged only [Mem.size_push, Mem.size_put, Mem.size_kill, List.length_cons, List.length_nil, List.length_append, List.length_map, List.length_take, List.length_replicate] <;> omega) | (refine (id ?_ : (_ : Bool) = true); simp only [go_sem, if_true, if_false, reduceIte, reduceCtorEq, Nat.reduceAdd, Nat.reduceSub, Nat.reduceBEq, Nat.reduceLT, Nat.reduceMul, Nat.reducePow, Nat.reduceLeDiff]; done) | fail "no") only [go_sem, if_true, if_false, reduceIte, reduceCtorEq, Nat.reduceAdd, Nat.reduceSub, Nat.reduceBEq, Nat.reduceLT, Nat.reduceMul, Nat.reducePow, Nat.reduceLeDiff]; refine hK1 _ _ ?_; clear hK1 K1)); refine aops_nil ?_; simp only [Nx, Caught, if_true, if_false, reduceIte, Nat.reduceEqDiff]; clear gd sep)
    | (refine region_draw' mixed (by decide +kernel) fun gd sep hgd hsep => ?_; clear hgd hsep; (repeat (refine aops_cons fun K1 hK1 => ?_; simp (disch := first | with_reducible assumption | (simp -failIfUnchanged only [Mem.size_push, Mem.size_put, Mem.size_kill, List.length_cons, List.length_nil, List.length_append, List.length_map, List.length_take, List.length_replicate] <;> omega) | (refine (id ?_ : (_ : Bool) = true); simp only [go_sem, if_true, if_false, reduceIte, reduceCtorEq, Nat.reduceAdd, Nat.reduceSub, Nat.reduceBEq, Nat.reduceLT, Nat.reduceMul, Nat.reducePow, Nat.reduceLeDiff]; done) | fail "no") only [go_sem, if_true, if_false, reduceIte, reduceCtorEq, Nat.reduceAdd, Nat.reduceSub, Nat.reduceBEq, Nat.reduceLT, Nat.reduceMul, Nat.reducePow, Nat.reduceLeDiff]; refine hK1 _ _ ?_; clear hK1 K1)); refine aops_nil ?_; simp only [Nx, Caught, if_true, if_false, reduceIte, Nat.reduceEqDiff]; clear gd sep)
    | (refine hK _ _ ?_; clear hK K)
    | (clear hK K)
    )
  refine awp_loop (fun n ts m' => ∃ k : Nat, n = xs.length - k ∧ k ≤ xs.length ∧ ts 0 = a ∧ ts 3 = .sl m.size 0 xs.length (some xs.length) 1 ∧ ts 4 = .int .i64 k ∧ m' = m.push ((xs.take k).map (AVal.bool) ++ List.replicate (xs.length - k) (AVal.bool false))) xs.length ⟨0, rfl, by omega, rfl, rfl, rfl, by simp⟩ ?_
  rintro n ts _ ⟨k, rfl, hk, h0, h3, h4, rfl⟩ J hJ
  have ha2 := ha.ext (Ext.push m ((xs.take k).map (AVal.bool) ++ List.replicate (xs.length - k) (AVal.bool false)))
  repeat (first
    | (refine awp_seq fun K hK => ?_)
    | (refine awp_block ?_)
    | (refine awp_skip ?_; simp only [Nx, Caught, if_true, if_false, reduceIte, Nat.reduceEqDiff])
    | (refine awp_exit ?_; simp only [Nx, Caught, if_true, if_false, reduceIte, Nat.reduceEqDiff])
    | (refine region_seq fun gd sep hgd => ?_; clear hgd; (repeat (refine aops_cons fun K1 hK1 => ?_; simp (disch := first | with_reducible assumption | (simp -failIfUnchanged only [Mem.size_push, Mem.size_put, Mem.size_kill, List.length_cons, List.length_nil, List.length_append, List.length_map, List.length_take, List.length_replicate, ha2.lenB, h0, h3, h4] <;> omega) | (refine (id ?_ : (_ : Bool) = true); simp only [go_sem, if_true, if_false, reduceIte, reduceCtorEq, Nat.reduceAdd, Nat.reduceSub, Nat.reduceBEq, Nat.reduceLT, Nat.reduceMul, Nat.reducePow, Nat.reduceLeDiff, ha2.lenB, h0, h3, h4]; done) | fail "no") only [go_sem, if_true, if_false, reduceIte, reduceCtorEq, Nat.reduceAdd, Nat.reduceSub, Nat.reduceBEq, Nat.reduceLT, Nat.reduceMul, Nat.reducePow, Nat.reduceLeDiff, ha2.lenB, h0, h3, h4]; refine hK1 _ _ ?_; clear hK1 K1)); refine aops_nil ?_; simp only [Nx, Caught, if_true, if_false, reduceIte, Nat.reduceEqDiff]; clear gd sep)
    | (refine region_draw' mixed (by decide +kernel) fun gd sep hgd hsep => ?_; clear hgd hsep; (repeat (refine aops_cons fun K1 hK1 => ?_; simp (disch := first | with_reducible assumption | (simp -failIfUnchanged only [Mem.size_push, Mem.size_put, Mem.size_kill, List.length_cons, List.length_nil, List.length_append, List.length_map, List.length_take, List.length_replicate, ha2.lenB, h0, h3, h4] <;> omega) | (refine (id ?_ : (_ : Bool) = true); simp only [go_sem, if_true, if_false, reduceIte, reduceCtorEq, Nat.reduceAdd, Nat.reduceSub, Nat.reduceBEq, Nat.reduceLT, Nat.reduceMul, Nat.reducePow, Nat.reduceLeDiff, ha2.lenB, h0, h3, h4]; done) | fail "no") only [go_sem, if_true, if_false, reduceIte, reduceCtorEq, Nat.reduceAdd, Nat.reduceSub, Nat.reduceBEq, Nat.reduceLT, Nat.reduceMul, Nat.reducePow, Nat.reduceLeDiff, ha2.lenB, h0, h3, h4]; refine hK1 _ _ ?_; clear hK1 K1)); refine aops_nil ?_; simp only [Nx, Caught, if_true, if_false, reduceIte, Nat.reduceEqDiff]; clear gd sep)
    | (refine hK _ _ ?_; clear hK K)
    | (clear hK K)
    )
  refine awp_if rfl (fun h => ?_) (fun h => ?_)
  · have hlt : k < xs.length := by simp at h; omega
    have hl2 : ((xs.take k).map (AVal.bool) ++ List.replicate (xs.length - k) (AVal.bool false)).length = xs.length := by simp; omega
    repeat (first
      | (refine awp_seq fun K hK => ?_)
      | (refine awp_block ?_)
      | (refine awp_skip ?_; simp only [Nx, Caught, if_true, if_false, reduceIte, Nat.reduceEqDiff])
      | (refine awp_exit ?_; simp only [Nx, Caught, if_true, if_false, reduceIte, Nat.reduceEqDiff])
      | (refine region_seq fun gd sep hgd => ?_; clear hgd; (repeat (refine aops_cons fun K1 hK1 => ?_; simp (disch := first | with_reducible assumption | (simp -failIfUnchanged only [Mem.size_push, Mem.size_put, Mem.size_kill, List.length_cons, List.length_nil, List.length_append, List.length_map, List.length_take, List.length_replicate, ha2.idxB, ha2.loadB, Int.toNat_natCast, h0, h3, h4, hl2] <;> omega) | (refine (id ?_ : (_ : Bool) = true); simp only [go_sem, if_true, if_false, reduceIte, reduceCtorEq, Nat.reduceAdd, Nat.reduceSub, Nat.reduceBEq, Nat.reduceLT, Nat.reduceMul, Nat.reducePow, Nat.reduceLeDiff, ha2.idxB, ha2.loadB, Int.toNat_natCast, h0, h3, h4, hl2]; done) | fail "no") only [go_sem, if_true, if_false, reduceIte, reduceCtorEq, Nat.reduceAdd, Nat.reduceSub, Nat.reduceBEq, Nat.reduceLT, Nat.reduceMul, Nat.reducePow, Nat.reduceLeDiff, ha2.idxB, ha2.loadB, Int.toNat_natCast, h0, h3, h4, hl2]; refine hK1 _ _ ?_; clear hK1 K1)); refine aops_nil ?_; simp only [Nx, Caught, if_true, if_false, reduceIte, Nat.reduceEqDiff]; clear gd sep)
      | (refine region_draw' mixed (by decide +kernel) fun gd sep hgd hsep => ?_; clear hgd hsep; (repeat (refine aops_cons fun K1 hK1 => ?_; simp (disch := first | with_reducible assumption | (simp -failIfUnchanged only [Mem.size_push, Mem.size_put, Mem.size_kill, List.length_cons, List.length_nil, List.length_append, List.length_map, List.length_take, List.length_replicate, ha2.idxB, ha2.loadB, Int.toNat_natCast, h0, h3, h4, hl2] <;> omega) | (refine (id ?_ : (_ : Bool) = true); simp only [go_sem, if_true, if_false, reduceIte, reduceCtorEq, Nat.reduceAdd, Nat.reduceSub, Nat.reduceBEq, Nat.reduceLT, Nat.reduceMul, Nat.reducePow, Nat.reduceLeDiff, ha2.idxB, ha2.loadB, Int.toNat_natCast, h0, h3, h4, hl2]; done) | fail "no") only [go_sem, if_true, if_false, reduceIte, reduceCtorEq, Nat.reduceAdd, Nat.reduceSub, Nat.reduceBEq, Nat.reduceLT, Nat.reduceMul, Nat.reducePow, Nat.reduceLeDiff, ha2.idxB, ha2.loadB, Int.toNat_natCast, h0, h3, h4, hl2]; refine hK1 _ _ ?_; clear hK1 K1)); refine aops_nil ?_; simp only [Nx, Caught, if_true, if_false, reduceIte, Nat.reduceEqDiff]; clear gd sep)
      | (refine hK _ _ ?_; clear hK K)
      | (clear hK K)
      )
    refine hJ _ _ _ ?_ ⟨k + 1, rfl, by omega, h0, h3, rfl, ?_⟩
    · omega
    · rw [set_copy hlt (getElem?_getD' (d := false) hlt)]
  · have he : k = xs.length := by simp at h; omega
    subst he
    repeat (first
      | (refine awp_seq fun K hK => ?_)
      | (refine awp_block ?_)
      | (refine awp_skip ?_; simp only [Nx, Caught, if_true, if_false, reduceIte, Nat.reduceEqDiff])
      | (refine awp_exit ?_; simp only [Nx, Caught, if_true, if_false, reduceIte, Nat.reduceEqDiff])
      | (refine region_seq fun gd sep hgd => ?_; clear hgd; (repeat (refine aops_cons fun K1 hK1 => ?_; simp (disch := first | with_reducible assumption | (simp -failIfUnchanged only [Mem.size_push, Mem.size_put, Mem.size_kill, List.length_cons, List.length_nil, List.length_append, List.length_map, List.length_take, List.length_replicate, h3] <;> omega) | (refine (id ?_ : (_ : Bool) = true); simp only [go_sem, if_true, if_false, reduceIte, reduceCtorEq, Nat.reduceAdd, Nat.reduceSub, Nat.reduceBEq, Nat.reduceLT, Nat.reduceMul, Nat.reducePow, Nat.reduceLeDiff, h3]; done) | fail "no") only [go_sem, if_true, if_false, reduceIte, reduceCtorEq, Nat.reduceAdd, Nat.reduceSub, Nat.reduceBEq, Nat.reduceLT, Nat.reduceMul, Nat.reducePow, Nat.reduceLeDiff, h3]; refine hK1 _ _ ?_; clear hK1 K1)); refine aops_nil ?_; simp only [Nx, Caught, if_true, if_false, reduceIte, Nat.reduceEqDiff]; clear gd sep)
      | (refine region_draw' mixed (by decide +kernel) fun gd sep hgd hsep => ?_; clear hgd hsep; (repeat (refine aops_cons fun K1 hK1 => ?_; simp (disch := first | with_reducible assumption | (simp -failIfUnchanged only [Mem.size_push, Mem.size_put, Mem.size_kill, List.length_cons, List.length_nil, List.length_append, List.length_map, List.length_take, List.length_replicate, h3] <;> omega) | (refine (id ?_ : (_ : Bool) = true); simp only [go_sem, if_true, if_false, reduceIte, reduceCtorEq, Nat.reduceAdd, Nat.reduceSub, Nat.reduceBEq, Nat.reduceLT, Nat.reduceMul, Nat.reducePow, Nat.reduceLeDiff, h3]; done) | fail "no") only [go_sem, if_true, if_false, reduceIte, reduceCtorEq, Nat.reduceAdd, Nat.reduceSub, Nat.reduceBEq, Nat.reduceLT, Nat.reduceMul, Nat.reducePow, Nat.reduceLeDiff, h3]; refine hK1 _ _ ?_; clear hK1 K1)); refine aops_nil ?_; simp only [Nx, Caught, if_true, if_false, reduceIte, Nat.reduceEqDiff]; clear gd sep)
      | (refine hK _ _ ?_; clear hK K)
      | (clear hK K)
      )
    refine awp_ret ?_; try simp only [Nx, Caught]
    apply ends_ret
    · simp (disch := first | with_reducible assumption | (simp -failIfUnchanged only [Mem.size_push, Mem.size_put, Mem.size_kill, List.length_cons, List.length_nil, List.length_append, List.length_map, List.length_take, List.length_replicate] <;> omega) | (refine (id ?_ : (_ : Bool) = true); simp only [go_sem, if_true, if_false, reduceIte, reduceCtorEq, Nat.reduceAdd, Nat.reduceSub, Nat.reduceBEq, Nat.reduceLT, Nat.reduceMul, Nat.reducePow, Nat.reduceLeDiff]; done) | fail "no") only [go_sem, if_true, if_false, reduceIte, reduceCtorEq, Nat.reduceAdd, Nat.reduceSub, Nat.reduceBEq, Nat.reduceLT, Nat.reduceMul, Nat.reducePow, Nat.reduceLeDiff, aress, ares1]; exact rfl
    simp only [tupled]
    simp

theorem heldIntS_c {m : Mem} {a : AVal} {xs : List Int} {k : Int} (ha : RdI m a xs) (hx : xs = iota k xs.length) (h0 : 0 ≤ k) (h1 : k + xs.length ≤ 4611686018427387904) :
    ∃ v m', (v = .int .i64 (k + xs.length) ∧ m' = m) ∧ DCalls PP m.size 31 [a, .int .i64 k] m v m' := by
  refine enter Try.func31 (by decide) rfl Try.ntmps31 Try.results31 ?_
  repeat (first
    | (refine awp_seq fun K hK => ?_)
    | (refine awp_block ?_)
    | (refine awp_skip ?_; simp only [Nx, Caught, if_true, if_false, reduceIte, Nat.reduceEqDiff])
    | (refine awp_exit ?_; simp only [Nx, Caught, if_true, if_false, reduceIte, Nat.reduceEqDiff])
    | (refine region_seq fun gd sep hgd => ?_; clear hgd; (repeat (refine aops_cons fun K1 hK1 => ?_; simp (disch := first | with_reducible assumption | (simp -failIfUnchanged only [Mem.size_push, Mem.size_put, Mem.size_kill, List.length_cons, List.length_nil, List.length_append, List.length_map, List.length_take, List.length_replicate] <;> omega) | (refine (id ?_ : (_ : Bool) = true); simp only [go_sem, if_true, if_false, reduceIte, reduceCtorEq, Nat.reduceAdd, Nat.reduceSub, Nat.reduceBEq, Nat.reduceLT, Nat.reduceMul, Nat.reducePow, Nat.reduceLeDiff]; done) | fail "no") only [go_sem, if_true, if_false, reduceIte, reduceCtorEq, Nat.reduceAdd, Nat.reduceSub, Nat.reduceBEq, Nat.reduceLT, Nat.reduceMul, Nat.reducePow, Nat.reduceLeDiff]; refine hK1 _ _ ?_; clear hK1 K1)); refine aops_nil ?_; simp only [Nx, Caught, if_true, if_false, reduceIte, Nat.reduceEqDiff]; clear gd sep)
    | (refine region_draw' mixed (by decide +kernel) fun gd sep hgd hsep => ?_; clear hgd hsep; (repeat (refine aops_cons fun K1 hK1 => ?_; simp (disch := first | with_reducible assumption | (simp -failIfUnchanged only [Mem.size_push, Mem.size_put, Mem.size_kill, List.length_cons, List.length_nil, List.length_append, List.length_map, List.length_take, List.length_replicate] <;> omega) | (refine (id ?_ : (_ : Bool) = true); simp only [go_sem, if_true, if_false, reduceIte, reduceCtorEq, Nat.reduceAdd, Nat.reduceSub, Nat.reduceBEq, Nat.reduceLT, Nat.reduceMul, Nat.reducePow, Nat.reduceLeDiff]; done) | fail "no") only [go_sem, if_true, if_false, reduceIte, reduceCtorEq, Nat.reduceAdd, Nat.reduceSub, Nat.reduceBEq, Nat.reduceLT, Nat.reduceMul, Nat.reducePow, Nat.reduceLeDiff]; refine hK1 _ _ ?_; clear hK1 K1)); refine aops_nil ?_; simp only [Nx, Caught, if_true, if_false, reduceIte, Nat.reduceEqDiff]; clear gd sep)
    | (refine hK _ _ ?_; clear hK K)
    | (clear hK K)
    )
  refine awp_loop (fun n ts m' => ∃ j : Nat, n = xs.length - j ∧ j ≤ xs.length ∧ ts 0 = a ∧ ts 1 = .int .i64 (k + j) ∧ ts 5 = .int .i64 j ∧ m' = m) xs.length ⟨0, rfl, by omega, rfl, by simp [fset_b, fargs], rfl, rfl⟩ ?_
  rintro n ts _ ⟨j, rfl, hj, t0, t1, t5, rfl⟩ J hJ
  repeat (first
    | (refine awp_seq fun K hK => ?_)
    | (refine awp_block ?_)
    | (refine awp_skip ?_; simp only [Nx, Caught, if_true, if_false, reduceIte, Nat.reduceEqDiff])
    | (refine awp_exit ?_; simp only [Nx, Caught, if_true, if_false, reduceIte, Nat.reduceEqDiff])
    | (refine region_seq fun gd sep hgd => ?_; clear hgd; (repeat (refine aops_cons fun K1 hK1 => ?_; simp (disch := first | with_reducible assumption | (simp -failIfUnchanged only [Mem.size_push, Mem.size_put, Mem.size_kill, List.length_cons, List.length_nil, List.length_append, List.length_map, List.length_take, List.length_replicate, ha.lenI, t0, t1, t5] <;> omega) | (refine (id ?_ : (_ : Bool) = true); simp only [go_sem, if_true, if_false, reduceIte, reduceCtorEq, Nat.reduceAdd, Nat.reduceSub, Nat.reduceBEq, Nat.reduceLT, Nat.reduceMul, Nat.reducePow, Nat.reduceLeDiff, ha.lenI, t0, t1, t5]; done) | fail "no") only [go_sem, if_true, if_false, reduceIte, reduceCtorEq, Nat.reduceAdd, Nat.reduceSub, Nat.reduceBEq, Nat.reduceLT, Nat.reduceMul, Nat.reducePow, Nat.reduceLeDiff, ha.lenI, t0, t1, t5]; refine hK1 _ _ ?_; clear hK1 K1)); refine aops_nil ?_; simp only [Nx, Caught, if_true, if_false, reduceIte, Nat.reduceEqDiff]; clear gd sep)
    | (refine region_draw' mixed (by decide +kernel) fun gd sep hgd hsep => ?_; clear hgd hsep; (repeat (refine aops_cons fun K1 hK1 => ?_; simp (disch := first | with_reducible assumption | (simp -failIfUnchanged only [Mem.size_push, Mem.size_put, Mem.size_kill, List.length_cons, List.length_nil, List.length_append, List.length_map, List.length_take, List.length_replicate, ha.lenI, t0, t1, t5] <;> omega) | (refine (id ?_ : (_ : Bool) = true); simp only [go_sem, if_true, if_false, reduceIte, reduceCtorEq, Nat.reduceAdd, Nat.reduceSub, Nat.reduceBEq, Nat.reduceLT, Nat.reduceMul, Nat.reducePow, Nat.reduceLeDiff, ha.lenI, t0, t1, t5]; done) | fail "no") only [go_sem, if_true, if_false, reduceIte, reduceCtorEq, Nat.reduceAdd, Nat.reduceSub, Nat.reduceBEq, Nat.reduceLT, Nat.reduceMul, Nat.reducePow, Nat.reduceLeDiff, ha.lenI, t0, t1, t5]; refine hK1 _ _ ?_; clear hK1 K1)); refine aops_nil ?_; simp only [Nx, Caught, if_true, if_false, reduceIte, Nat.reduceEqDiff]; clear gd sep)
    | (refine hK _ _ ?_; clear hK K)
    | (clear hK K)
    )
  refine awp_if rfl (fun h => ?_) (fun h => ?_)
  · have hlt : j < xs.length := by simp at h; omega
    have hd : xs.getD j 0 = k + j := by rw [hx]; exact iota_getD hlt
    repeat (first
      | (refine awp_seq fun K hK => ?_)
      | (refine awp_block ?_)
      | (refine awp_skip ?_; simp only [Nx, Caught, if_true, if_false, reduceIte, Nat.reduceEqDiff])
      | (refine awp_exit ?_; simp only [Nx, Caught, if_true, if_false, reduceIte, Nat.reduceEqDiff])
      | (refine region_seq fun gd sep hgd => ?_; clear hgd; (repeat (refine aops_cons fun K1 hK1 => ?_; simp (disch := first | with_reducible assumption | (simp -failIfUnchanged only [Mem.size_push, Mem.size_put, Mem.size_kill, List.length_cons, List.length_nil, List.length_append, List.length_map, List.length_take, List.length_replicate, ha.idxI, ha.loadI, Int.toNat_natCast, t0, t1, t5, hd, bne_self_eq_false] <;> omega) | (refine (id ?_ : (_ : Bool) = true); simp only [go_sem, if_true, if_false, reduceIte, reduceCtorEq, Nat.reduceAdd, Nat.reduceSub, Nat.reduceBEq, Nat.reduceLT, Nat.reduceMul, Nat.reducePow, Nat.reduceLeDiff, ha.idxI, ha.loadI, Int.toNat_natCast, t0, t1, t5, hd, bne_self_eq_false]; done) | fail "no") only [go_sem, if_true, if_false, reduceIte, reduceCtorEq, Nat.reduceAdd, Nat.reduceSub, Nat.reduceBEq, Nat.reduceLT, Nat.reduceMul, Nat.reducePow, Nat.reduceLeDiff, ha.idxI, ha.loadI, Int.toNat_natCast, t0, t1, t5, hd, bne_self_eq_false]; refine hK1 _ _ ?_; clear hK1 K1)); refine aops_nil ?_; simp only [Nx, Caught, if_true, if_false, reduceIte, Nat.reduceEqDiff]; clear gd sep)
      | (refine region_draw' mixed (by decide +kernel) fun gd sep hgd hsep => ?_; clear hgd hsep; (repeat (refine aops_cons fun K1 hK1 => ?_; simp (disch := first | with_reducible assumption | (simp -failIfUnchanged only [Mem.size_push, Mem.size_put, Mem.size_kill, List.length_cons, List.length_nil, List.length_append, List.length_map, List.length_take, List.length_replicate, ha.idxI, ha.loadI, Int.toNat_natCast, t0, t1, t5, hd, bne_self_eq_false] <;> omega) | (refine (id ?_ : (_ : Bool) = true); simp only [go_sem, if_true, if_false, reduceIte, reduceCtorEq, Nat.reduceAdd, Nat.reduceSub, Nat.reduceBEq, Nat.reduceLT, Nat.reduceMul, Nat.reducePow, Nat.reduceLeDiff, ha.idxI, ha.loadI, Int.toNat_natCast, t0, t1, t5, hd, bne_self_eq_false]; done) | fail "no") only [go_sem, if_true, if_false, reduceIte, reduceCtorEq, Nat.reduceAdd, Nat.reduceSub, Nat.reduceBEq, Nat.reduceLT, Nat.reduceMul, Nat.reducePow, Nat.reduceLeDiff, ha.idxI, ha.loadI, Int.toNat_natCast, t0, t1, t5, hd, bne_self_eq_false]; refine hK1 _ _ ?_; clear hK1 K1)); refine aops_nil ?_; simp only [Nx, Caught, if_true, if_false, reduceIte, Nat.reduceEqDiff]; clear gd sep)
      | (refine hK _ _ ?_; clear hK K)
      | (clear hK K)
      )
    refine awp_cond (t := false) rfl ?_
    repeat (first
      | (refine awp_seq fun K hK => ?_)
      | (refine awp_block ?_)
      | (refine awp_skip ?_; simp only [Nx, Caught, if_true, if_false, reduceIte, Nat.reduceEqDiff])
      | (refine awp_exit ?_; simp only [Nx, Caught, if_true, if_false, reduceIte, Nat.reduceEqDiff])
      | (refine region_seq fun gd sep hgd => ?_; clear hgd; (repeat (refine aops_cons fun K1 hK1 => ?_; simp (disch := first | with_reducible assumption | (simp -failIfUnchanged only [Mem.size_push, Mem.size_put, Mem.size_kill, List.length_cons, List.length_nil, List.length_append, List.length_map, List.length_take, List.length_replicate, t0, t1, t5] <;> omega) | (refine (id ?_ : (_ : Bool) = true); simp only [go_sem, if_true, if_false, reduceIte, reduceCtorEq, Nat.reduceAdd, Nat.reduceSub, Nat.reduceBEq, Nat.reduceLT, Nat.reduceMul, Nat.reducePow, Nat.reduceLeDiff, t0, t1, t5]; done) | fail "no") only [go_sem, if_true, if_false, reduceIte, reduceCtorEq, Nat.reduceAdd, Nat.reduceSub, Nat.reduceBEq, Nat.reduceLT, Nat.reduceMul, Nat.reducePow, Nat.reduceLeDiff, t0, t1, t5]; refine hK1 _ _ ?_; clear hK1 K1)); refine aops_nil ?_; simp only [Nx, Caught, if_true, if_false, reduceIte, Nat.reduceEqDiff]; clear gd sep)
      | (refine region_draw' mixed (by decide +kernel) fun gd sep hgd hsep => ?_; clear hgd hsep; (repeat (refine aops_cons fun K1 hK1 => ?_; simp (disch := first | with_reducible assumption | (simp -failIfUnchanged only [Mem.size_push, Mem.size_put, Mem.size_kill, List.length_cons, List.length_nil, List.length_append, List.length_map, List.length_take, List.length_replicate, t0, t1, t5] <;> omega) | (refine (id ?_ : (_ : Bool) = true); simp only [go_sem, if_true, if_false, reduceIte, reduceCtorEq, Nat.reduceAdd, Nat.reduceSub, Nat.reduceBEq, Nat.reduceLT, Nat.reduceMul, Nat.reducePow, Nat.reduceLeDiff, t0, t1, t5]; done) | fail "no") only [go_sem, if_true, if_false, reduceIte, reduceCtorEq, Nat.reduceAdd, Nat.reduceSub, Nat.reduceBEq, Nat.reduceLT, Nat.reduceMul, Nat.reducePow, Nat.reduceLeDiff, t0, t1, t5]; refine hK1 _ _ ?_; clear hK1 K1)); refine aops_nil ?_; simp only [Nx, Caught, if_true, if_false, reduceIte, Nat.reduceEqDiff]; clear gd sep)
      | (refine hK _ _ ?_; clear hK K)
      | (clear hK K)
      )
    refine hJ _ _ _ ?_ ⟨j + 1, rfl, by omega, t0, ?_, rfl, rfl⟩
    · omega
    · simp only [fset_b]; simp; omega
  · have he : j = xs.length := by simp at h; omega
    subst he
    repeat (first
      | (refine awp_seq fun K hK => ?_)
      | (refine awp_block ?_)
      | (refine awp_skip ?_; simp only [Nx, Caught, if_true, if_false, reduceIte, Nat.reduceEqDiff])
      | (refine awp_exit ?_; simp only [Nx, Caught, if_true, if_false, reduceIte, Nat.reduceEqDiff])
      | (refine region_seq fun gd sep hgd => ?_; clear hgd; (repeat (refine aops_cons fun K1 hK1 => ?_; simp (disch := first | with_reducible assumption | (simp -failIfUnchanged only [Mem.size_push, Mem.size_put, Mem.size_kill, List.length_cons, List.length_nil, List.length_append, List.length_map, List.length_take, List.length_replicate, t1] <;> omega) | (refine (id ?_ : (_ : Bool) = true); simp only [go_sem, if_true, if_false, reduceIte, reduceCtorEq, Nat.reduceAdd, Nat.reduceSub, Nat.reduceBEq, Nat.reduceLT, Nat.reduceMul, Nat.reducePow, Nat.reduceLeDiff, t1]; done) | fail "no") only [go_sem, if_true, if_false, reduceIte, reduceCtorEq, Nat.reduceAdd, Nat.reduceSub, Nat.reduceBEq, Nat.reduceLT, Nat.reduceMul, Nat.reducePow, Nat.reduceLeDiff, t1]; refine hK1 _ _ ?_; clear hK1 K1)); refine aops_nil ?_; simp only [Nx, Caught, if_true, if_false, reduceIte, Nat.reduceEqDiff]; clear gd sep)
      | (refine region_draw' mixed (by decide +kernel) fun gd sep hgd hsep => ?_; clear hgd hsep; (repeat (refine aops_cons fun K1 hK1 => ?_; simp (disch := first | with_reducible assumption | (simp -failIfUnchanged only [Mem.size_push, Mem.size_put, Mem.size_kill, List.length_cons, List.length_nil, List.length_append, List.length_map, List.length_take, List.length_replicate, t1] <;> omega) | (refine (id ?_ : (_ : Bool) = true); simp only [go_sem, if_true, if_false, reduceIte, reduceCtorEq, Nat.reduceAdd, Nat.reduceSub, Nat.reduceBEq, Nat.reduceLT, Nat.reduceMul, Nat.reducePow, Nat.reduceLeDiff, t1]; done) | fail "no") only [go_sem, if_true, if_false, reduceIte, reduceCtorEq, Nat.reduceAdd, Nat.reduceSub, Nat.reduceBEq, Nat.reduceLT, Nat.reduceMul, Nat.reducePow, Nat.reduceLeDiff, t1]; refine hK1 _ _ ?_; clear hK1 K1)); refine aops_nil ?_; simp only [Nx, Caught, if_true, if_false, reduceIte, Nat.reduceEqDiff]; clear gd sep)
      | (refine hK _ _ ?_; clear hK K)
      | (clear hK K)
      )
    refine awp_ret ?_; try simp only [Nx, Caught]
    apply ends_ret
    · simp (disch := first | with_reducible assumption | (simp -failIfUnchanged only [Mem.size_push, Mem.size_put, Mem.size_kill, List.length_cons, List.length_nil, List.length_append, List.length_map, List.length_take, List.length_replicate] <;> omega) | (refine (id ?_ : (_ : Bool) = true); simp only [go_sem, if_true, if_false, reduceIte, reduceCtorEq, Nat.reduceAdd, Nat.reduceSub, Nat.reduceBEq, Nat.reduceLT, Nat.reduceMul, Nat.reducePow, Nat.reduceLeDiff]; done) | fail "no") only [go_sem, if_true, if_false, reduceIte, reduceCtorEq, Nat.reduceAdd, Nat.reduceSub, Nat.reduceBEq, Nat.reduceLT, Nat.reduceMul, Nat.reducePow, Nat.reduceLeDiff, aress, ares1]; exact rfl
    simp only [tupled]
    simp

theorem markIntS_c {m : Mem} {v : AVal} {xs : List Int} {k : Int} {fl : Nat} (ha : RdI m v xs) (ho : ∀ n, blkOf v = some n → fl ≤ n ∧ n < m.size ∧ (m.blk n).mode = .rw) (h0 : 0 ≤ k) (h1 : k + xs.length ≤ 4611686018427387904) :
    ∃ r m', (r = .int .i64 (k + xs.length) ∧ Chg m m' ([v].filterMap blkOf) ∧ m'.size = m.size ∧ RdI m' v (iota k xs.length)) ∧ DCalls PP fl 30 [v, .int .i64 k] m r m' := by
  rcases ha with ⟨rfl, rfl⟩ | ⟨rfl, rfl⟩ | ⟨n, o, cap, rfl, hn, hm, hc⟩
  · refine enter Try.func30 (by decide) rfl Try.ntmps30 Try.results30 ?_
    repeat (first
      | (refine awp_seq fun K hK => ?_)
      | (refine awp_block ?_)
      | (refine awp_skip ?_; simp only [Nx, Caught, if_true, if_false, reduceIte, Nat.reduceEqDiff])
      | (refine awp_exit ?_; simp only [Nx, Caught, if_true, if_false, reduceIte, Nat.reduceEqDiff])
      | (refine region_seq fun gd sep hgd => ?_; clear hgd; (repeat (refine aops_cons fun K1 hK1 => ?_; simp (disch := first | with_reducible assumption | (simp -failIfUnchanged only [Mem.size_push, Mem.size_put, Mem.size_kill, List.length_cons, List.length_nil, List.length_append, List.length_map, List.length_take, List.length_replicate] <;> omega) | (refine (id ?_ : (_ : Bool) = true); simp only [go_sem, if_true, if_false, reduceIte, reduceCtorEq, Nat.reduceAdd, Nat.reduceSub, Nat.reduceBEq, Nat.reduceLT, Nat.reduceMul, Nat.reducePow, Nat.reduceLeDiff]; done) | fail "no") only [go_sem, if_true, if_false, reduceIte, reduceCtorEq, Nat.reduceAdd, Nat.reduceSub, Nat.reduceBEq, Nat.reduceLT, Nat.reduceMul, Nat.reducePow, Nat.reduceLeDiff]; refine hK1 _ _ ?_; clear hK1 K1)); refine aops_nil ?_; simp only [Nx, Caught, if_true, if_false, reduceIte, Nat.reduceEqDiff]; clear gd sep)
      | (refine region_draw' mixed (by decide +kernel) fun gd sep hgd hsep => ?_; clear hgd hsep; (repeat (refine aops_cons fun K1 hK1 => ?_; simp (disch := first | with_reducible assumption | (simp -failIfUnchanged only [Mem.size_push, Mem.size_put, Mem.size_kill, List.length_cons, List.length_nil, List.length_append, List.length_map, List.length_take, List.length_replicate] <;> omega) | (refine (id ?_ : (_ : Bool) = true); simp only [go_sem, if_true, if_false, reduceIte, reduceCtorEq, Nat.reduceAdd, Nat.reduceSub, Nat.reduceBEq, Nat.reduceLT, Nat.reduceMul, Nat.reducePow, Nat.reduceLeDiff]; done) | fail "no") only [go_sem, if_true, if_false, reduceIte, reduceCtorEq, Nat.reduceAdd, Nat.reduceSub, Nat.reduceBEq, Nat.reduceLT, Nat.reduceMul, Nat.reducePow, Nat.reduceLeDiff]; refine hK1 _ _ ?_; clear hK1 K1)); refine aops_nil ?_; simp only [Nx, Caught, if_true, if_false, reduceIte, Nat.reduceEqDiff]; clear gd sep)
      | (refine hK _ _ ?_; clear hK K)
      | (clear hK K)
      )
    refine awp_loop (fun n ts m' => ts 0 = .nilSl ∧ ts 1 = .int .i64 k ∧ ts 5 = .int .i64 0 ∧ m' = m) 0 ⟨rfl, rfl, rfl, rfl⟩ ?_
    rintro n ts _ ⟨t0, t1, t5, rfl⟩ J hJ
    repeat (first
      | (refine awp_seq fun K hK => ?_)
      | (refine awp_block ?_)
      | (refine awp_skip ?_; simp only [Nx, Caught, if_true, if_false, reduceIte, Nat.reduceEqDiff])
      | (refine awp_exit ?_; simp only [Nx, Caught, if_true, if_false, reduceIte, Nat.reduceEqDiff])
      | (refine region_seq fun gd sep hgd => ?_; clear hgd; (repeat (refine aops_cons fun K1 hK1 => ?_; simp (disch := first | with_reducible assumption | (simp -failIfUnchanged only [Mem.size_push, Mem.size_put, Mem.size_kill, List.length_cons, List.length_nil, List.length_append, List.length_map, List.length_take, List.length_replicate, t0, t1, t5] <;> omega) | (refine (id ?_ : (_ : Bool) = true); simp only [go_sem, if_true, if_false, reduceIte, reduceCtorEq, Nat.reduceAdd, Nat.reduceSub, Nat.reduceBEq, Nat.reduceLT, Nat.reduceMul, Nat.reducePow, Nat.reduceLeDiff, t0, t1, t5]; done) | fail "no") only [go_sem, if_true, if_false, reduceIte, reduceCtorEq, Nat.reduceAdd, Nat.reduceSub, Nat.reduceBEq, Nat.reduceLT, Nat.reduceMul, Nat.reducePow, Nat.reduceLeDiff, t0, t1, t5]; refine hK1 _ _ ?_; clear hK1 K1)); refine aops_nil ?_; simp only [Nx, Caught, if_true, if_false, reduceIte, Nat.reduceEqDiff]; clear gd sep)
      | (refine region_draw' mixed (by decide +kernel) fun gd sep hgd hsep => ?_; clear hgd hsep; (repeat (refine aops_cons fun K1 hK1 => ?_; simp (disch := first | with_reducible assumption | (simp -failIfUnchanged only [Mem.size_push, Mem.size_put, Mem.size_kill, List.length_cons, List.length_nil, List.length_append, List.length_map, List.length_take, List.length_replicate, t0, t1, t5] <;> omega) | (refine (id ?_ : (_ : Bool) = true); simp only [go_sem, if_true, if_false, reduceIte, reduceCtorEq, Nat.reduceAdd, Nat.reduceSub, Nat.reduceBEq, Nat.reduceLT, Nat.reduceMul, Nat.reducePow, Nat.reduceLeDiff, t0, t1, t5]; done) | fail "no") only [go_sem, if_true, if_false, reduceIte, reduceCtorEq, Nat.reduceAdd, Nat.reduceSub, Nat.reduceBEq, Nat.reduceLT, Nat.reduceMul, Nat.reducePow, Nat.reduceLeDiff, t0, t1, t5]; refine hK1 _ _ ?_; clear hK1 K1)); refine aops_nil ?_; simp only [Nx, Caught, if_true, if_false, reduceIte, Nat.reduceEqDiff]; clear gd sep)
      | (refine hK _ _ ?_; clear hK K)
      | (clear hK K)
      )
    refine awp_cond (t := false) rfl ?_
    repeat (first
      | (refine awp_seq fun K hK => ?_)
      | (refine awp_block ?_)
      | (refine awp_skip ?_; simp only [Nx, Caught, if_true, if_false, reduceIte, Nat.reduceEqDiff])
      | (refine awp_exit ?_; simp only [Nx, Caught, if_true, if_false, reduceIte, Nat.reduceEqDiff])
      | (refine region_seq fun gd sep hgd => ?_; clear hgd; (repeat (refine aops_cons fun K1 hK1 => ?_; simp (disch := first | with_reducible assumption | (simp -failIfUnchanged only [Mem.size_push, Mem.size_put, Mem.size_kill, List.length_cons, List.length_nil, List.length_append, List.length_map, List.length_take, List.length_replicate, t1] <;> omega) | (refine (id ?_ : (_ : Bool) = true); simp only [go_sem, if_true, if_false, reduceIte, reduceCtorEq, Nat.reduceAdd, Nat.reduceSub, Nat.reduceBEq, Nat.reduceLT, Nat.reduceMul, Nat.reducePow, Nat.reduceLeDiff, t1]; done) | fail "no") only [go_sem, if_true, if_false, reduceIte, reduceCtorEq, Nat.reduceAdd, Nat.reduceSub, Nat.reduceBEq, Nat.reduceLT, Nat.reduceMul, Nat.reducePow, Nat.reduceLeDiff, t1]; refine hK1 _ _ ?_; clear hK1 K1)); refine aops_nil ?_; simp only [Nx, Caught, if_true, if_false, reduceIte, Nat.reduceEqDiff]; clear gd sep)
      | (refine region_draw' mixed (by decide +kernel) fun gd sep hgd hsep => ?_; clear hgd hsep; (repeat (refine aops_cons fun K1 hK1 => ?_; simp (disch := first | with_reducible assumption | (simp -failIfUnchanged only [Mem.size_push, Mem.size_put, Mem.size_kill, List.length_cons, List.length_nil, List.length_append, List.length_map, List.length_take, List.length_replicate, t1] <;> omega) | (refine (id ?_ : (_ : Bool) = true); simp only [go_sem, if_true, if_false, reduceIte, reduceCtorEq, Nat.reduceAdd, Nat.reduceSub, Nat.reduceBEq, Nat.reduceLT, Nat.reduceMul, Nat.reducePow, Nat.reduceLeDiff, t1]; done) | fail "no") only [go_sem, if_true, if_false, reduceIte, reduceCtorEq, Nat.reduceAdd, Nat.reduceSub, Nat.reduceBEq, Nat.reduceLT, Nat.reduceMul, Nat.reducePow, Nat.reduceLeDiff, t1]; refine hK1 _ _ ?_; clear hK1 K1)); refine aops_nil ?_; simp only [Nx, Caught, if_true, if_false, reduceIte, Nat.reduceEqDiff]; clear gd sep)
      | (refine hK _ _ ?_; clear hK K)
      | (clear hK K)
      )
    refine awp_ret ?_; try simp only [Nx, Caught]
    apply ends_ret
    · simp (disch := first | with_reducible assumption | (simp -failIfUnchanged only [Mem.size_push, Mem.size_put, Mem.size_kill, List.length_cons, List.length_nil, List.length_append, List.length_map, List.length_take, List.length_replicate] <;> omega) | (refine (id ?_ : (_ : Bool) = true); simp only [go_sem, if_true, if_false, reduceIte, reduceCtorEq, Nat.reduceAdd, Nat.reduceSub, Nat.reduceBEq, Nat.reduceLT, Nat.reduceMul, Nat.reducePow, Nat.reduceLeDiff]; done) | fail "no") only [go_sem, if_true, if_false, reduceIte, reduceCtorEq, Nat.reduceAdd, Nat.reduceSub, Nat.reduceBEq, Nat.reduceLT, Nat.reduceMul, Nat.reducePow, Nat.reduceLeDiff, aress, ares1]; exact rfl
    simp only [tupled]
    exact ⟨by simp, (Chg.of_ext (Ext.refl _)).mono (by simp), by first | rfl | trivial, .inl ⟨rfl, rfl⟩⟩
  · refine enter Try.func30 (by decide) rfl Try.ntmps30 Try.results30 ?_
    repeat (first
      | (refine awp_seq fun K hK => ?_)
      | (refine awp_block ?_)
      | (refine awp_skip ?_; simp only [Nx, Caught, if_true, if_false, reduceIte, Nat.reduceEqDiff])
      | (refine awp_exit ?_; simp only [Nx, Caught, if_true, if_false, reduceIte, Nat.reduceEqDiff])
      | (refine region_seq fun gd sep hgd => ?_; clear hgd; (repeat (refine aops_cons fun K1 hK1 => ?_; simp (disch := first | with_reducible assumption | (simp -failIfUnchanged only [Mem.size_push, Mem.size_put, Mem.size_kill, List.length_cons, List.length_nil, List.length_append, List.length_map, List.length_take, List.length_replicate] <;> omega) | (refine (id ?_ : (_ : Bool) = true); simp only [go_sem, if_true, if_false, reduceIte, reduceCtorEq, Nat.reduceAdd, Nat.reduceSub, Nat.reduceBEq, Nat.reduceLT, Nat.reduceMul, Nat.reducePow, Nat.reduceLeDiff]; done) | fail "no") only [go_sem, if_true, if_false, reduceIte, reduceCtorEq, Nat.reduceAdd, Nat.reduceSub, Nat.reduceBEq, Nat.reduceLT, Nat.reduceMul, Nat.reducePow, Nat.reduceLeDiff]; refine hK1 _ _ ?_; clear hK1 K1)); refine aops_nil ?_; simp only [Nx, Caught, if_true, if_false, reduceIte, Nat.reduceEqDiff]; clear gd sep)
      | (refine region_draw' mixed (by decide +kernel) fun gd sep hgd hsep => ?_; clear hgd hsep; (repeat (refine aops_cons fun K1 hK1 => ?_; simp (disch := first | with_reducible assumption | (simp -failIfUnchanged only [Mem.size_push, Mem.size_put, Mem.size_kill, List.length_cons, List.length_nil, List.length_append, List.length_map, List.length_take, List.length_replicate] <;> omega) | (refine (id ?_ : (_ : Bool) = true); simp only [go_sem, if_true, if_false, reduceIte, reduceCtorEq, Nat.reduceAdd, Nat.reduceSub, Nat.reduceBEq, Nat.reduceLT, Nat.reduceMul, Nat.reducePow, Nat.reduceLeDiff]; done) | fail "no") only [go_sem, if_true, if_false, reduceIte, reduceCtorEq, Nat.reduceAdd, Nat.reduceSub, Nat.reduceBEq, Nat.reduceLT, Nat.reduceMul, Nat.reducePow, Nat.reduceLeDiff]; refine hK1 _ _ ?_; clear hK1 K1)); refine aops_nil ?_; simp only [Nx, Caught, if_true, if_false, reduceIte, Nat.reduceEqDiff]; clear gd sep)
      | (refine hK _ _ ?_; clear hK K)
      | (clear hK K)
      )
    refine awp_loop (fun n ts m' => ts 0 = .emptySl ∧ ts 1 = .int .i64 k ∧ ts 5 = .int .i64 0 ∧ m' = m) 0 ⟨rfl, rfl, rfl, rfl⟩ ?_
    rintro n ts _ ⟨t0, t1, t5, rfl⟩ J hJ
    repeat (first
      | (refine awp_seq fun K hK => ?_)
      | (refine awp_block ?_)
      | (refine awp_skip ?_; simp only [Nx, Caught, if_true, if_false, reduceIte, Nat.reduceEqDiff])
      | (refine awp_exit ?_; simp only [Nx, Caught, if_true, if_false, reduceIte, Nat.reduceEqDiff])
      | (refine region_seq fun gd sep hgd => ?_; clear hgd; (repeat (refine aops_cons fun K1 hK1 => ?_; simp (disch := first | with_reducible assumption | (simp -failIfUnchanged only [Mem.size_push, Mem.size_put, Mem.size_kill, List.length_cons, List.length_nil, List.length_append, List.length_map, List.length_take, List.length_replicate, t0, t1, t5] <;> omega) | (refine (id ?_ : (_ : Bool) = true); simp only [go_sem, if_true, if_false, reduceIte, reduceCtorEq, Nat.reduceAdd, Nat.reduceSub, Nat.reduceBEq, Nat.reduceLT, Nat.reduceMul, Nat.reducePow, Nat.reduceLeDiff, t0, t1, t5]; done) | fail "no") only [go_sem, if_true, if_false, reduceIte, reduceCtorEq, Nat.reduceAdd, Nat.reduceSub, Nat.reduceBEq, Nat.reduceLT, Nat.reduceMul, Nat.reducePow, Nat.reduceLeDiff, t0, t1, t5]; refine hK1 _ _ ?_; clear hK1 K1)); refine aops_nil ?_; simp only [Nx, Caught, if_true, if_false, reduceIte, Nat.reduceEqDiff]; clear gd sep)
      | (refine region_draw' mixed (by decide +kernel) fun gd sep hgd hsep => ?_; clear hgd hsep; (repeat (refine aops_cons fun K1 hK1 => ?_; simp (disch := first | with_reducible assumption | (simp -failIfUnchanged only [Mem.size_push, Mem.size_put, Mem.size_kill, List.length_cons, List.length_nil, List.length_append, List.length_map, List.length_take, List.length_replicate, t0, t1, t5] <;> omega) | (refine (id ?_ : (_ : Bool) = true); simp only [go_sem, if_true, if_false, reduceIte, reduceCtorEq, Nat.reduceAdd, Nat.reduceSub, Nat.reduceBEq, Nat.reduceLT, Nat.reduceMul, Nat.reducePow, Nat.reduceLeDiff, t0, t1, t5]; done) | fail "no") only [go_sem, if_true, if_false, reduceIte, reduceCtorEq, Nat.reduceAdd, Nat.reduceSub, Nat.reduceBEq, Nat.reduceLT, Nat.reduceMul, Nat.reducePow, Nat.reduceLeDiff, t0, t1, t5]; refine hK1 _ _ ?_; clear hK1 K1)); refine aops_nil ?_; simp only [Nx, Caught, if_true, if_false, reduceIte, Nat.reduceEqDiff]; clear gd sep)
      | (refine hK _ _ ?_; clear hK K)
      | (clear hK K)
      )
    refine awp_cond (t := false) rfl ?_
    repeat (first
      | (refine awp_seq fun K hK => ?_)
      | (refine awp_block ?_)
      | (refine awp_skip ?_; simp only [Nx, Caught, if_true, if_false, reduceIte, Nat.reduceEqDiff])
      | (refine awp_exit ?_; simp only [Nx, Caught, if_true, if_false, reduceIte, Nat.reduceEqDiff])
      | (refine region_seq fun gd sep hgd => ?_; clear hgd; (repeat (refine aops_cons fun K1 hK1 => ?_; simp (disch := first | with_reducible assumption | (simp -failIfUnchanged only [Mem.size_push, Mem.size_put, Mem.size_kill, List.length_cons, List.length_nil, List.length_append, List.length_map, List.length_take, List.length_replicate, t1] <;> omega) | (refine (id ?_ : (_ : Bool) = true); simp only [go_sem, if_true, if_false, reduceIte, reduceCtorEq, Nat.reduceAdd, Nat.reduceSub, Nat.reduceBEq, Nat.reduceLT, Nat.reduceMul, Nat.reducePow, Nat.reduceLeDiff, t1]; done) | fail "no") only [go_sem, if_true, if_false, reduceIte, reduceCtorEq, Nat.reduceAdd, Nat.reduceSub, Nat.reduceBEq, Nat.reduceLT, Nat.reduceMul, Nat.reducePow, Nat.reduceLeDiff, t1]; refine hK1 _ _ ?_; clear hK1 K1)); refine aops_nil ?_; simp only [Nx, Caught, if_true, if_false, reduceIte, Nat.reduceEqDiff]; clear gd sep)
      | (refine region_draw' mixed (by decide +kernel) fun gd sep hgd hsep => ?_; clear hgd hsep; (repeat (refine aops_cons fun K1 hK1 => ?_; simp (disch := first | with_reducible assumption | (simp -failIfUnchanged only [Mem.size_push, Mem.size_put, Mem.size_kill, List.length_cons, List.length_nil, List.length_append, List.length_map, List.length_take, List.length_replicate, t1] <;> omega) | (refine (id ?_ : (_ : Bool) = true); simp only [go_sem, if_true, if_false, reduceIte, reduceCtorEq, Nat.reduceAdd, Nat.reduceSub, Nat.reduceBEq, Nat.reduceLT, Nat.reduceMul, Nat.reducePow, Nat.reduceLeDiff, t1]; done) | fail "no") only [go_sem, if_true, if_false, reduceIte, reduceCtorEq, Nat.reduceAdd, Nat.reduceSub, Nat.reduceBEq, Nat.reduceLT, Nat.reduceMul, Nat.reducePow, Nat.reduceLeDiff, t1]; refine hK1 _ _ ?_; clear hK1 K1)); refine aops_nil ?_; simp only [Nx, Caught, if_true, if_false, reduceIte, Nat.reduceEqDiff]; clear gd sep)
      | (refine hK _ _ ?_; clear hK K)
      | (clear hK K)
      )
    refine awp_ret ?_; try simp only [Nx, Caught]
    apply ends_ret
    · simp (disch := first | with_reducible assumption | (simp -failIfUnchanged only [Mem.size_push, Mem.size_put, Mem.size_kill, List.length_cons, List.length_nil, List.length_append, List.length_map, List.length_take, List.length_replicate] <;> omega) | (refine (id ?_ : (_ : Bool) = true); simp only [go_sem, if_true, if_false, reduceIte, reduceCtorEq, Nat.reduceAdd, Nat.reduceSub, Nat.reduceBEq, Nat.reduceLT, Nat.reduceMul, Nat.reducePow, Nat.reduceLeDiff]; done) | fail "no") only [go_sem, if_true, if_false, reduceIte, reduceCtorEq, Nat.reduceAdd, Nat.reduceSub, Nat.reduceBEq, Nat.reduceLT, Nat.reduceMul, Nat.reducePow, Nat.reduceLeDiff, aress, ares1]; exact rfl
    simp only [tupled]
    exact ⟨by simp, (Chg.of_ext (Ext.refl _)).mono (by simp), by first | rfl | trivial, .inr (.inl ⟨rfl, rfl⟩)⟩
  · obtain ⟨hf, _, hw⟩ := ho n rfl
    have hlen : ∀ i, i < xs.length → o + i < (m.blk n).cells.length := fun i hi => by
      have := hc i _ (getElem?_getD' (d := 0) hi)
      exact (List.getElem?_eq_some_iff.1 this).1
    refine enter Try.func30 (by decide) rfl Try.ntmps30 Try.results30 ?_
    repeat (first
      | (refine awp_seq fun K hK => ?_)
      | (refine awp_block ?_)
      | (refine awp_skip ?_; simp only [Nx, Caught, if_true, if_false, reduceIte, Nat.reduceEqDiff])
      | (refine awp_exit ?_; simp only [Nx, Caught, if_true, if_false, reduceIte, Nat.reduceEqDiff])
      | (refine region_seq fun gd sep hgd => ?_; clear hgd; (repeat (refine aops_cons fun K1 hK1 => ?_; simp (disch := first | with_reducible assumption | (simp -failIfUnchanged only [Mem.size_push, Mem.size_put, Mem.size_kill, List.length_cons, List.length_nil, List.length_append, List.length_map, List.length_take, List.length_replicate] <;> omega) | (refine (id ?_ : (_ : Bool) = true); simp only [go_sem, if_true, if_false, reduceIte, reduceCtorEq, Nat.reduceAdd, Nat.reduceSub, Nat.reduceBEq, Nat.reduceLT, Nat.reduceMul, Nat.reducePow, Nat.reduceLeDiff]; done) | fail "no") only [go_sem, if_true, if_false, reduceIte, reduceCtorEq, Nat.reduceAdd, Nat.reduceSub, Nat.reduceBEq, Nat.reduceLT, Nat.reduceMul, Nat.reducePow, Nat.reduceLeDiff]; refine hK1 _ _ ?_; clear hK1 K1)); refine aops_nil ?_; simp only [Nx, Caught, if_true, if_false, reduceIte, Nat.reduceEqDiff]; clear gd sep)
      | (refine region_draw' mixed (by decide +kernel) fun gd sep hgd hsep => ?_; clear hgd hsep; (repeat (refine aops_cons fun K1 hK1 => ?_; simp (disch := first | with_reducible assumption | (simp -failIfUnchanged only [Mem.size_push, Mem.size_put, Mem.size_kill, List.length_cons, List.length_nil, List.length_append, List.length_map, List.length_take, List.length_replicate] <;> omega) | (refine (id ?_ : (_ : Bool) = true); simp only [go_sem, if_true, if_false, reduceIte, reduceCtorEq, Nat.reduceAdd, Nat.reduceSub, Nat.reduceBEq, Nat.reduceLT, Nat.reduceMul, Nat.reducePow, Nat.reduceLeDiff]; done) | fail "no") only [go_sem, if_true, if_false, reduceIte, reduceCtorEq, Nat.reduceAdd, Nat.reduceSub, Nat.reduceBEq, Nat.reduceLT, Nat.reduceMul, Nat.reducePow, Nat.reduceLeDiff]; refine hK1 _ _ ?_; clear hK1 K1)); refine aops_nil ?_; simp only [Nx, Caught, if_true, if_false, reduceIte, Nat.reduceEqDiff]; clear gd sep)
      | (refine hK _ _ ?_; clear hK K)
      | (clear hK K)
      )
    refine awp_loop (fun n' ts m' => ∃ j : Nat, n' = xs.length - j ∧ j ≤ xs.length ∧ ts 0 = .sl n o xs.length cap 1 ∧ ts 1 = .int .i64 (k + j) ∧ ts 5 = .int .i64 j ∧ m'.size = m.size ∧ (∀ i, i ≠ n → m'.blk i = m.blk i) ∧ (m'.blk n).mode = .rw ∧
      (m'.blk n).cells.length = (m.blk n).cells.length ∧ ∀ i : Nat, i < j → (m'.blk n).cells[o + i]? = some ((AVal.int .i64) (k + (i : Int)))) xs.length ⟨0, rfl, by omega, rfl, by simp [fset_b, fargs], rfl, rfl, fun _ _ => rfl, hw, rfl, fun i hi => by omega⟩ ?_
    rintro n' ts m1 ⟨j, rfl, hj, t0, t1, t5, q1, q2, q3, q4, q5⟩ J hJ
    repeat (first
      | (refine awp_seq fun K hK => ?_)
      | (refine awp_block ?_)
      | (refine awp_skip ?_; simp only [Nx, Caught, if_true, if_false, reduceIte, Nat.reduceEqDiff])
      | (refine awp_exit ?_; simp only [Nx, Caught, if_true, if_false, reduceIte, Nat.reduceEqDiff])
      | (refine region_seq fun gd sep hgd => ?_; clear hgd; (repeat (refine aops_cons fun K1 hK1 => ?_; simp (disch := first | with_reducible assumption | (simp -failIfUnchanged only [Mem.size_push, Mem.size_put, Mem.size_kill, List.length_cons, List.length_nil, List.length_append, List.length_map, List.length_take, List.length_replicate, t0, t1, t5] <;> omega) | (refine (id ?_ : (_ : Bool) = true); simp only [go_sem, if_true, if_false, reduceIte, reduceCtorEq, Nat.reduceAdd, Nat.reduceSub, Nat.reduceBEq, Nat.reduceLT, Nat.reduceMul, Nat.reducePow, Nat.reduceLeDiff, t0, t1, t5]; done) | fail "no") only [go_sem, if_true, if_false, reduceIte, reduceCtorEq, Nat.reduceAdd, Nat.reduceSub, Nat.reduceBEq, Nat.reduceLT, Nat.reduceMul, Nat.reducePow, Nat.reduceLeDiff, t0, t1, t5]; refine hK1 _ _ ?_; clear hK1 K1)); refine aops_nil ?_; simp only [Nx, Caught, if_true, if_false, reduceIte, Nat.reduceEqDiff]; clear gd sep)
      | (refine region_draw' mixed (by decide +kernel) fun gd sep hgd hsep => ?_; clear hgd hsep; (repeat (refine aops_cons fun K1 hK1 => ?_; simp (disch := first | with_reducible assumption | (simp -failIfUnchanged only [Mem.size_push, Mem.size_put, Mem.size_kill, List.length_cons, List.length_nil, List.length_append, List.length_map, List.length_take, List.length_replicate, t0, t1, t5] <;> omega) | (refine (id ?_ : (_ : Bool) = true); simp only [go_sem, if_true, if_false, reduceIte, reduceCtorEq, Nat.reduceAdd, Nat.reduceSub, Nat.reduceBEq, Nat.reduceLT, Nat.reduceMul, Nat.reducePow, Nat.reduceLeDiff, t0, t1, t5]; done) | fail "no") only [go_sem, if_true, if_false, reduceIte, reduceCtorEq, Nat.reduceAdd, Nat.reduceSub, Nat.reduceBEq, Nat.reduceLT, Nat.reduceMul, Nat.reducePow, Nat.reduceLeDiff, t0, t1, t5]; refine hK1 _ _ ?_; clear hK1 K1)); refine aops_nil ?_; simp only [Nx, Caught, if_true, if_false, reduceIte, Nat.reduceEqDiff]; clear gd sep)
      | (refine hK _ _ ?_; clear hK K)
      | (clear hK K)
      )
    refine awp_if rfl (fun h => ?_) (fun h => ?_)
    · have hlt : j < xs.length := by simp at h; omega
      have hst : ∀ w : AVal, w.one = true → asts fl m1 n (o + j) [w] = some (m1.put n ⟨(m1.blk n).cells.set (o + j) w, .rw⟩) := fun w hw1 => by
        unfold asts
        rw [if_pos ⟨hf, by omega, q3, by have := hlen j hlt; simp; omega, by simp [hw1]⟩]
        rfl
      repeat (first
        | (refine awp_seq fun K hK => ?_)
        | (refine awp_block ?_)
        | (refine awp_skip ?_; simp only [Nx, Caught, if_true, if_false, reduceIte, Nat.reduceEqDiff])
        | (refine awp_exit ?_; simp only [Nx, Caught, if_true, if_false, reduceIte, Nat.reduceEqDiff])
        | (refine region_seq fun gd sep hgd => ?_; clear hgd; (repeat (refine aops_cons fun K1 hK1 => ?_; simp (disch := first | with_reducible assumption | (simp -failIfUnchanged only [Mem.size_push, Mem.size_put, Mem.size_kill, List.length_cons, List.length_nil, List.length_append, List.length_map, List.length_take, List.length_replicate, t0, t1, t5, hst, Int.toNat_natCast] <;> omega) | (refine (id ?_ : (_ : Bool) = true); simp only [go_sem, if_true, if_false, reduceIte, reduceCtorEq, Nat.reduceAdd, Nat.reduceSub, Nat.reduceBEq, Nat.reduceLT, Nat.reduceMul, Nat.reducePow, Nat.reduceLeDiff, t0, t1, t5, hst, Int.toNat_natCast]; done) | fail "no") only [go_sem, if_true, if_false, reduceIte, reduceCtorEq, Nat.reduceAdd, Nat.reduceSub, Nat.reduceBEq, Nat.reduceLT, Nat.reduceMul, Nat.reducePow, Nat.reduceLeDiff, t0, t1, t5, hst, Int.toNat_natCast]; refine hK1 _ _ ?_; clear hK1 K1)); refine aops_nil ?_; simp only [Nx, Caught, if_true, if_false, reduceIte, Nat.reduceEqDiff]; clear gd sep)
        | (refine region_draw' mixed (by decide +kernel) fun gd sep hgd hsep => ?_; clear hgd hsep; (repeat (refine aops_cons fun K1 hK1 => ?_; simp (disch := first | with_reducible assumption | (simp -failIfUnchanged only [Mem.size_push, Mem.size_put, Mem.size_kill, List.length_cons, List.length_nil, List.length_append, List.length_map, List.length_take, List.length_replicate, t0, t1, t5, hst, Int.toNat_natCast] <;> omega) | (refine (id ?_ : (_ : Bool) = true); simp only [go_sem, if_true, if_false, reduceIte, reduceCtorEq, Nat.reduceAdd, Nat.reduceSub, Nat.reduceBEq, Nat.reduceLT, Nat.reduceMul, Nat.reducePow, Nat.reduceLeDiff, t0, t1, t5, hst, Int.toNat_natCast]; done) | fail "no") only [go_sem, if_true, if_false, reduceIte, reduceCtorEq, Nat.reduceAdd, Nat.reduceSub, Nat.reduceBEq, Nat.reduceLT, Nat.reduceMul, Nat.reducePow, Nat.reduceLeDiff, t0, t1, t5, hst, Int.toNat_natCast]; refine hK1 _ _ ?_; clear hK1 K1)); refine aops_nil ?_; simp only [Nx, Caught, if_true, if_false, reduceIte, Nat.reduceEqDiff]; clear gd sep)
        | (refine hK _ _ ?_; clear hK K)
        | (clear hK K)
        )
      refine hJ _ _ _ ?_ ⟨j + 1, rfl, by omega, t0, ?_, rfl, by simpa using q1, fun i hi => by simp [hi]; exact q2 i hi, by simp, by simpa using q4, fun i hi => ?_⟩
      · omega
      · simp only [fset_b]; simp; omega
      · simp only [Mem.blk_put, if_true]
        rw [List.getElem?_set]
        by_cases e : i = j
        · subst e
          rw [if_pos rfl, if_pos (by have := hlen i hlt; omega)]
        · rw [if_neg (by omega)]
          exact q5 i (by omega)
    · have he : j = xs.length := by simp at h; omega
      subst he
      repeat (first
        | (refine awp_seq fun K hK => ?_)
        | (refine awp_block ?_)
        | (refine awp_skip ?_; simp only [Nx, Caught, if_true, if_false, reduceIte, Nat.reduceEqDiff])
        | (refine awp_exit ?_; simp only [Nx, Caught, if_true, if_false, reduceIte, Nat.reduceEqDiff])
        | (refine region_seq fun gd sep hgd => ?_; clear hgd; (repeat (refine aops_cons fun K1 hK1 => ?_; simp (disch := first | with_reducible assumption | (simp -failIfUnchanged only [Mem.size_push, Mem.size_put, Mem.size_kill, List.length_cons, List.length_nil, List.length_append, List.length_map, List.length_take, List.length_replicate, t1] <;> omega) | (refine (id ?_ : (_ : Bool) = true); simp only [go_sem, if_true, if_false, reduceIte, reduceCtorEq, Nat.reduceAdd, Nat.reduceSub, Nat.reduceBEq, Nat.reduceLT, Nat.reduceMul, Nat.reducePow, Nat.reduceLeDiff, t1]; done) | fail "no") only [go_sem, if_true, if_false, reduceIte, reduceCtorEq, Nat.reduceAdd, Nat.reduceSub, Nat.reduceBEq, Nat.reduceLT, Nat.reduceMul, Nat.reducePow, Nat.reduceLeDiff, t1]; refine hK1 _ _ ?_; clear hK1 K1)); refine aops_nil ?_; simp only [Nx, Caught, if_true, if_false, reduceIte, Nat.reduceEqDiff]; clear gd sep)
        | (refine region_draw' mixed (by decide +kernel) fun gd sep hgd hsep => ?_; clear hgd hsep; (repeat (refine aops_cons fun K1 hK1 => ?_; simp (disch := first | with_reducible assumption | (simp -failIfUnchanged only [Mem.size_push, Mem.size_put, Mem.size_kill, List.length_cons, List.length_nil, List.length_append, List.length_map, List.length_take, List.length_replicate, t1] <;> omega) | (refine (id ?_ : (_ : Bool) = true); simp only [go_sem, if_true, if_false, reduceIte, reduceCtorEq, Nat.reduceAdd, Nat.reduceSub, Nat.reduceBEq, Nat.reduceLT, Nat.reduceMul, Nat.reducePow, Nat.reduceLeDiff, t1]; done) | fail "no") only [go_sem, if_true, if_false, reduceIte, reduceCtorEq, Nat.reduceAdd, Nat.reduceSub, Nat.reduceBEq, Nat.reduceLT, Nat.reduceMul, Nat.reducePow, Nat.reduceLeDiff, t1]; refine hK1 _ _ ?_; clear hK1 K1)); refine aops_nil ?_; simp only [Nx, Caught, if_true, if_false, reduceIte, Nat.reduceEqDiff]; clear gd sep)
        | (refine hK _ _ ?_; clear hK K)
        | (clear hK K)
        )
      refine awp_ret ?_; try simp only [Nx, Caught]
      apply ends_ret
      · simp (disch := first | with_reducible assumption | (simp -failIfUnchanged only [Mem.size_push, Mem.size_put, Mem.size_kill, List.length_cons, List.length_nil, List.length_append, List.length_map, List.length_take, List.length_replicate] <;> omega) | (refine (id ?_ : (_ : Bool) = true); simp only [go_sem, if_true, if_false, reduceIte, reduceCtorEq, Nat.reduceAdd, Nat.reduceSub, Nat.reduceBEq, Nat.reduceLT, Nat.reduceMul, Nat.reducePow, Nat.reduceLeDiff]; done) | fail "no") only [go_sem, if_true, if_false, reduceIte, reduceCtorEq, Nat.reduceAdd, Nat.reduceSub, Nat.reduceBEq, Nat.reduceLT, Nat.reduceMul, Nat.reducePow, Nat.reduceLeDiff, aress, ares1]; exact rfl
      simp only [tupled]
      refine ⟨by simp, ⟨by omega, fun i hi hh => q2 i (by simpa [blkOf] using hh), fun i hi => ?_⟩, q1, .inr (.inr ⟨n, o, cap, by rw [iota_length], by omega, by rw [q3]; decide, fun i x hx => ?_⟩)⟩
      · by_cases e : i = n
        · subst e; rw [q3, hw]
        · rw [q2 i e]
      · have hi : i < xs.length := by
          have := (List.getElem?_eq_some_iff.1 hx).1
          rwa [iota_length] at this
        rw [q5 i hi]
        rw [iota_getElem? hi] at hx
        cases hx
        rfl
theorem markBoolS_c {m : Mem} {v : AVal} {xs : List Bool} {k : Int} {fl : Nat} (ha : RdB m v xs) (ho : ∀ n, blkOf v = some n → fl ≤ n ∧ n < m.size ∧ (m.blk n).mode = .rw) (h0 : 0 ≤ k) (h1 : k + xs.length ≤ 4611686018427387904) :
    ∃ r m', (r = .int .i64 (k + xs.length) ∧ Chg m m' ([v].filterMap blkOf) ∧ m'.size = m.size ∧ RdB m' v (iotaB k xs.length)) ∧ DCalls PP fl 77 [v, .int .i64 k] m r m' := by
  rcases ha with ⟨rfl, rfl⟩ | ⟨rfl, rfl⟩ | ⟨n, o, cap, rfl, hn, hm, hc⟩
  · refine enter Try.func77 (by decide) rfl Try.ntmps77 Try.results77 ?_
    repeat (first
      | (refine awp_seq fun K hK => ?_)
      | (refine awp_block ?_)
      | (refine awp_skip ?_; simp only [Nx, Caught, if_true, if_false, reduceIte, Nat.reduceEqDiff])
      | (refine awp_exit ?_; simp only [Nx, Caught, if_true, if_false, reduceIte, Nat.reduceEqDiff])
      | (refine region_seq fun gd sep hgd => ?_; clear hgd; (repeat (refine aops_cons fun K1 hK1 => ?_; simp (disch := first | with_reducible assumption | (simp -failIfUnchanged only [Mem.size_push, Mem.size_put, Mem.size_kill, List.length_cons, List.length_nil, List.length_append, List.length_map, List.length_take, List.length_replicate] <;> omega) | (refine (id ?_ : (_ : Bool) = true); simp only [go_sem, if_true, if_false, reduceIte, reduceCtorEq, Nat.reduceAdd, Nat.reduceSub, Nat.reduceBEq, Nat.reduceLT, Nat.reduceMul, Nat.reducePow, Nat.reduceLeDiff]; done) | fail "no") only [go_sem, if_true, if_false, reduceIte, reduceCtorEq, Nat.reduceAdd, Nat.reduceSub, Nat.reduceBEq, Nat.reduceLT, Nat.reduceMul, Nat.reducePow, Nat.reduceLeDiff]; refine hK1 _ _ ?_; clear hK1 K1)); refine aops_nil ?_; simp only [Nx, Caught, if_true, if_false, reduceIte, Nat.reduceEqDiff]; clear gd sep)
      | (refine region_draw' mixed (by decide +kernel) fun gd sep hgd hsep => ?_; clear hgd hsep; (repeat (refine aops_cons fun K1 hK1 => ?_; simp (disch := first | with_reducible assumption | (simp -failIfUnchanged only [Mem.size_push, Mem.size_put, Mem.size_kill, List.length_cons, List.length_nil, List.length_append, List.length_map, List.length_take, List.length_replicate] <;> omega) | (refine (id ?_ : (_ : Bool) = true); simp only [go_sem, if_true, if_false, reduceIte, reduceCtorEq, Nat.reduceAdd, Nat.reduceSub, Nat.reduceBEq, Nat.reduceLT, Nat.reduceMul, Nat.reducePow, Nat.reduceLeDiff]; done) | fail "no") only [go_sem, if_true, if_false, reduceIte, reduceCtorEq, Nat.reduceAdd, Nat.reduceSub, Nat.reduceBEq, Nat.reduceLT, Nat.reduceMul, Nat.reducePow, Nat.reduceLeDiff]; refine hK1 _ _ ?_; clear hK1 K1)); refine aops_nil ?_; simp only [Nx, Caught, if_true, if_false, reduceIte, Nat.reduceEqDiff]; clear gd sep)
      | (refine hK _ _ ?_; clear hK K)
      | (clear hK K)
      )
    refine awp_loop (fun n ts m' => ts 0 = .nilSl ∧ ts 1 = .int .i64 k ∧ ts 5 = .int .i64 0 ∧ m' = m) 0 ⟨rfl, rfl, rfl, rfl⟩ ?_
    rintro n ts _ ⟨t0, t1, t5, rfl⟩ J hJ
    repeat (first
      | (refine awp_seq fun K hK => ?_)
      | (refine awp_block ?_)
      | (refine awp_skip ?_; simp only [Nx, Caught, if_true, if_false, reduceIte, Nat.reduceEqDiff])
      | (refine awp_exit ?_; simp only [Nx, Caught, if_true, if_false, reduceIte, Nat.reduceEqDiff])
      | (refine region_seq fun gd sep hgd => ?_; clear hgd; (repeat (refine aops_cons fun K1 hK1 => ?_; simp (disch := first | with_reducible assumption | (simp -failIfUnchanged only [Mem.size_push, Mem.size_put, Mem.size_kill, List.length_cons, List.length_nil, List.length_append, List.length_map, List.length_take, List.length_replicate, t0, t1, t5] <;> omega) | (refine (id ?_ : (_ : Bool) = true); simp only [go_sem, if_true, if_false, reduceIte, reduceCtorEq, Nat.reduceAdd, Nat.reduceSub, Nat.reduceBEq, Nat.reduceLT, Nat.reduceMul, Nat.reducePow, Nat.reduceLeDiff, t0, t1, t5]; done) | fail "no") only [go_sem, if_true, if_false, reduceIte, reduceCtorEq, Nat.reduceAdd, Nat.reduceSub, Nat.reduceBEq, Nat.reduceLT, Nat.reduceMul, Nat.reducePow, Nat.reduceLeDiff, t0, t1, t5]; refine hK1 _ _ ?_; clear hK1 K1)); refine aops_nil ?_; simp only [Nx, Caught, if_true, if_false, reduceIte, Nat.reduceEqDiff]; clear gd sep)
      | (refine region_draw' mixed (by decide +kernel) fun gd sep hgd hsep => ?_; clear hgd hsep; (repeat (refine aops_cons fun K1 hK1 => ?_; simp (disch := first | with_reducible assumption | (simp -failIfUnchanged only [Mem.size_push, Mem.size_put, Mem.size_kill, List.length_cons, List.length_nil, List.length_append, List.length_map, List.length_take, List.length_replicate, t0, t1, t5] <;> omega) | (refine (id ?_ : (_ : Bool) = true); simp only [go_sem, if_true, if_false, reduceIte, reduceCtorEq, Nat.reduceAdd, Nat.reduceSub, Nat.reduceBEq, Nat.reduceLT, Nat.reduceMul, Nat.reducePow, Nat.reduceLeDiff, t0, t1, t5]; done) | fail "no") only [go_sem, if_true, if_false, reduceIte, reduceCtorEq, Nat.reduceAdd, Nat.reduceSub, Nat.reduceBEq, Nat.reduceLT, Nat.reduceMul, Nat.reducePow, Nat.reduceLeDiff, t0, t1, t5]; refine hK1 _ _ ?_; clear hK1 K1)); refine aops_nil ?_; simp only [Nx, Caught, if_true, if_false, reduceIte, Nat.reduceEqDiff]; clear gd sep)
      | (refine hK _ _ ?_; clear hK K)
      | (clear hK K)
      )
    refine awp_cond (t := false) rfl ?_
    repeat (first
      | (refine awp_seq fun K hK => ?_)
      | (refine awp_block ?_)
      | (refine awp_skip ?_; simp only [Nx, Caught, if_true, if_false, reduceIte, Nat.reduceEqDiff])
      | (refine awp_exit ?_; simp only [Nx, Caught, if_true, if_false, reduceIte, Nat.reduceEqDiff])
      | (refine region_seq fun gd sep hgd => ?_; clear hgd; (repeat (refine aops_cons fun K1 hK1 => ?_; simp (disch := first | with_reducible assumption | (simp -failIfUnchanged only [Mem.size_push, Mem.size_put, Mem.size_kill, List.length_cons, List.length_nil, List.length_append, List.length_map, List.length_take, List.length_replicate, t1] <;> omega) | (refine (id ?_ : (_ : Bool) = true); simp only [go_sem, if_true, if_false, reduceIte, reduceCtorEq, Nat.reduceAdd, Nat.reduceSub, Nat.reduceBEq, Nat.reduceLT, Nat.reduceMul, Nat.reducePow, Nat.reduceLeDiff, t1]; done) | fail "no") only [go_sem, if_true, if_false, reduceIte, reduceCtorEq, Nat.reduceAdd, Nat.reduceSub, Nat.reduceBEq, Nat.reduceLT, Nat.reduceMul, Nat.reducePow, Nat.reduceLeDiff, t1]; refine hK1 _ _ ?_; clear hK1 K1)); refine aops_nil ?_; simp only [Nx, Caught, if_true, if_false, reduceIte, Nat.reduceEqDiff]; clear gd sep)
      | (refine region_draw' mixed (by decide +kernel) fun gd sep hgd hsep => ?_; clear hgd hsep; (repeat (refine aops_cons fun K1 hK1 => ?_; simp (disch := first | with_reducible assumption | (simp -failIfUnchanged only [Mem.size_push, Mem.size_put, Mem.size_kill, List.length_cons, List.length_nil, List.length_append, List.length_map, List.length_take, List.length_replicate, t1] <;> omega) | (refine (id ?_ : (_ : Bool) = true); simp only [go_sem, if_true, if_false, reduceIte, reduceCtorEq, Nat.reduceAdd, Nat.reduceSub, Nat.reduceBEq, Nat.reduceLT, Nat.reduceMul, Nat.reducePow, Nat.reduceLeDiff, t1]; done) | fail "no") only [go_sem, if_true, if_false, reduceIte, reduceCtorEq, Nat.reduceAdd, Nat.reduceSub, Nat.reduceBEq, Nat.reduceLT, Nat.reduceMul, Nat.reducePow, Nat.reduceLeDiff, t1]; refine hK1 _ _ ?_; clear hK1 K1)); refine aops_nil ?_; simp only [Nx, Caught, if_true, if_false, reduceIte, Nat.reduceEqDiff]; clear gd sep)
      | (refine hK _ _ ?_; clear hK K)
      | (clear hK K)
      )
    refine awp_ret ?_; try simp only [Nx, Caught]
    apply ends_ret
    · simp (disch := first | with_reducible assumption | (simp -failIfUnchanged only [Mem.size_push, Mem.size_put, Mem.size_kill, List.length_cons, List.length_nil, List.length_append, List.length_map, List.length_take, List.length_replicate] <;> omega) | (refine (id ?_ : (_ : Bool) = true); simp only [go_sem, if_true, if_false, reduceIte, reduceCtorEq, Nat.reduceAdd, Nat.reduceSub, Nat.reduceBEq, Nat.reduceLT, Nat.reduceMul, Nat.reducePow, Nat.reduceLeDiff]; done) | fail "no") only [go_sem, if_true, if_false, reduceIte, reduceCtorEq, Nat.reduceAdd, Nat.reduceSub, Nat.reduceBEq, Nat.reduceLT, Nat.reduceMul, Nat.reducePow, Nat.reduceLeDiff, aress, ares1]; exact rfl
    simp only [tupled]
    exact ⟨by simp, (Chg.of_ext (Ext.refl _)).mono (by simp), by first | rfl | trivial, .inl ⟨rfl, rfl⟩⟩
  · refine enter Try.func77 (by decide) rfl Try.ntmps77 Try.results77 ?_
    repeat (first
      | (refine awp_seq fun K hK => ?_)
      | (refine awp_block ?_)
      | (refine awp_skip ?_; simp only [Nx, Caught, if_true, if_false, reduceIte, Nat.reduceEqDiff])
      | (refine awp_exit ?_; simp only [Nx, Caught, if_true, if_false, reduceIte, Nat.reduceEqDiff])
      | (refine region_seq fun gd sep hgd => ?_; clear hgd; (repeat (refine aops_cons fun K1 hK1 => ?_; simp (disch := first | with_reducible assumption | (simp -failIfUnchanged only [Mem.size_push, Mem.size_put, Mem.size_kill, List.length_cons, List.length_nil, List.length_append, List.length_map, List.length_take, List.length_replicate] <;> omega) | (refine (id ?_ : (_ : Bool) = true); simp only [go_sem, if_true, if_false, reduceIte, reduceCtorEq, Nat.reduceAdd, Nat.reduceSub, Nat.reduceBEq, Nat.reduceLT, Nat.reduceMul, Nat.reducePow, Nat.reduceLeDiff]; done) | fail "no") only [go_sem, if_true, if_false, reduceIte, reduceCtorEq, Nat.reduceAdd, Nat.reduceSub, Nat.reduceBEq, Nat.reduceLT, Nat.reduceMul, Nat.reducePow, Nat.reduceLeDiff]; refine hK1 _ _ ?_; clear hK1 K1)); refine aops_nil ?_; simp only [Nx, Caught, if_true, if_false, reduceIte, Nat.reduceEqDiff]; clear gd sep)
      | (refine region_draw' mixed (by decide +kernel) fun gd sep hgd hsep => ?_; clear hgd hsep; (repeat (refine aops_cons fun K1 hK1 => ?_; simp (disch := first | with_reducible assumption | (simp -failIfUnchanged only [Mem.size_push, Mem.size_put, Mem.size_kill, List.length_cons, List.length_nil, List.length_append, List.length_map, List.length_take, List.length_replicate] <;> omega) | (refine (id ?_ : (_ : Bool) = true); simp only [go_sem, if_true, if_false, reduceIte, reduceCtorEq, Nat.reduceAdd, Nat.reduceSub, Nat.reduceBEq, Nat.reduceLT, Nat.reduceMul, Nat.reducePow, Nat.reduceLeDiff]; done) | fail "no") only [go_sem, if_true, if_false, reduceIte, reduceCtorEq, Nat.reduceAdd, Nat.reduceSub, Nat.reduceBEq, Nat.reduceLT, Nat.reduceMul, Nat.reducePow, Nat.reduceLeDiff]; refine hK1 _ _ ?_; clear hK1 K1)); refine aops_nil ?_; simp only [Nx, Caught, if_true, if_false, reduceIte, Nat.reduceEqDiff]; clear gd sep)
      | (refine hK _ _ ?_; clear hK K)
      | (clear hK K)
      )
    refine awp_loop (fun n ts m' => ts 0 = .emptySl ∧ ts 1 = .int .i64 k ∧ ts 5 = .int .i64 0 ∧ m' = m) 0 ⟨rfl, rfl, rfl, rfl⟩ ?_
    rintro n ts _ ⟨t0, t1, t5, rfl⟩ J hJ
    repeat (first
      | (refine awp_seq fun K hK => ?_)
      | (refine awp_block ?_)
      | (refine awp_skip ?_; simp only [Nx, Caught, if_true, if_false, reduceIte, Nat.reduceEqDiff])
      | (refine awp_exit ?_; simp only [Nx, Caught, if_true, if_false, reduceIte, Nat.reduceEqDiff])
      | (refine region_seq fun gd sep hgd => ?_; clear hgd; (repeat (refine aops_cons fun K1 hK1 => ?_; simp (disch := first | with_reducible assumption | (simp -failIfUnchanged only [Mem.size_push, Mem.size_put, Mem.size_kill, List.length_cons, List.length_nil, List.length_append, List.length_map, List.length_take, List.length_replicate, t0, t1, t5] <;> omega) | (refine (id ?_ : (_ : Bool) = true); simp only [go_sem, if_true, if_false, reduceIte, reduceCtorEq, Nat.reduceAdd, Nat.reduceSub, Nat.reduceBEq, Nat.reduceLT, Nat.reduceMul, Nat.reducePow, Nat.reduceLeDiff, t0, t1, t5]; done) | fail "no") only [go_sem, if_true, if_false, reduceIte, reduceCtorEq, Nat.reduceAdd, Nat.reduceSub, Nat.reduceBEq, Nat.reduceLT, Nat.reduceMul, Nat.reducePow, Nat.reduceLeDiff, t0, t1, t5]; refine hK1 _ _ ?_; clear hK1 K1)); refine aops_nil ?_; simp only [Nx, Caught, if_true, if_false, reduceIte, Nat.reduceEqDiff]; clear gd sep)
      | (refine region_draw' mixed (by decide +kernel) fun gd sep hgd hsep => ?_; clear hgd hsep; (repeat (refine aops_cons fun K1 hK1 => ?_; simp (disch := first | with_reducible assumption | (simp -failIfUnchanged only [Mem.size_push, Mem.size_put, Mem.size_kill, List.length_cons, List.length_nil, List.length_append, List.length_map, List.length_take, List.length_replicate, t0, t1, t5] <;> omega) | (refine (id ?_ : (_ : Bool) = true); simp only [go_sem, if_true, if_false, reduceIte, reduceCtorEq, Nat.reduceAdd, Nat.reduceSub, Nat.reduceBEq, Nat.reduceLT, Nat.reduceMul, Nat.reducePow, Nat.reduceLeDiff, t0, t1, t5]; done) | fail "no") only [go_sem, if_true, if_false, reduceIte, reduceCtorEq, Nat.reduceAdd, Nat.reduceSub, Nat.reduceBEq, Nat.reduceLT, Nat.reduceMul, Nat.reducePow, Nat.reduceLeDiff, t0, t1, t5]; refine hK1 _ _ ?_; clear hK1 K1)); refine aops_nil ?_; simp only [Nx, Caught, if_true, if_false, reduceIte, Nat.reduceEqDiff]; clear gd sep)
      | (refine hK _ _ ?_; clear hK K)
      | (clear hK K)
      )
    refine awp_cond (t := false) rfl ?_
    repeat (first
      | (refine awp_seq fun K hK => ?_)
      | (refine awp_block ?_)
      | (refine awp_skip ?_; simp only [Nx, Caught, if_true, if_false, reduceIte, Nat.reduceEqDiff])
      | (refine awp_exit ?_; simp only [Nx, Caught, if_true, if_false, reduceIte, Nat.reduceEqDiff])
      | (refine region_seq fun gd sep hgd => ?_; clear hgd; (repeat (refine aops_cons fun K1 hK1 => ?_; simp (disch := first | with_reducible assumption | (simp -failIfUnchanged only [Mem.size_push, Mem.size_put, Mem.size_kill, List.length_cons, List.length_nil, List.length_append, List.length_map, List.length_take, List.length_replicate, t1] <;> omega) | (refine (id ?_ : (_ : Bool) = true); simp only [go_sem, if_true, if_false, reduceIte, reduceCtorEq, Nat.reduceAdd, Nat.reduceSub, Nat.reduceBEq, Nat.reduceLT, Nat.reduceMul, Nat.reducePow, Nat.reduceLeDiff, t1]; done) | fail "no") only [go_sem, if_true, if_false, reduceIte, reduceCtorEq, Nat.reduceAdd, Nat.reduceSub, Nat.reduceBEq, Nat.reduceLT, Nat.reduceMul, Nat.reducePow, Nat.reduceLeDiff, t1]; refine hK1 _ _ ?_; clear hK1 K1)); refine aops_nil ?_; simp only [Nx, Caught, if_true, if_false, reduceIte, Nat.reduceEqDiff]; clear gd sep)
      | (refine region_draw' mixed (by decide +kernel) fun gd sep hgd hsep => ?_; clear hgd hsep; (repeat (refine aops_cons fun K1 hK1 => ?_; simp (disch := first | with_reducible assumption | (simp -failIfUnchanged only [Mem.size_push, Mem.size_put, Mem.size_kill, List.length_cons, List.length_nil, List.length_append, List.length_map, List.length_take, List.length_replicate, t1] <;> omega) | (refine (id ?_ : (_ : Bool) = true); simp only [go_sem, if_true, if_false, reduceIte, reduceCtorEq, Nat.reduceAdd, Nat.reduceSub, Nat.reduceBEq, Nat.reduceLT, Nat.reduceMul, Nat.reducePow, Nat.reduceLeDiff, t1]; done) | fail "no") only [go_sem, if_true, if_false, reduceIte, reduceCtorEq, Nat.reduceAdd, Nat.reduceSub, Nat.reduceBEq, Nat.reduceLT, Nat.reduceMul, Nat.reducePow, Nat.reduceLeDiff, t1]; refine hK1 _ _ ?_; clear hK1 K1)); refine aops_nil ?_; simp only [Nx, Caught, if_true, if_false, reduceIte, Nat.reduceEqDiff]; clear gd sep)
      | (refine hK _ _ ?_; clear hK K)
      | (clear hK K)
      )
    refine awp_ret ?_; try simp only [Nx, Caught]
    apply ends_ret
    · simp (disch := first | with_reducible assumption | (simp -failIfUnchanged only [Mem.size_push, Mem.size_put, Mem.size_kill, List.length_cons, List.length_nil, List.length_append, List.length_map, List.length_take, List.length_replicate] <;> omega) | (refine (id ?_ : (_ : Bool) = true); simp only [go_sem, if_true, if_false, reduceIte, reduceCtorEq, Nat.reduceAdd, Nat.reduceSub, Nat.reduceBEq, Nat.reduceLT, Nat.reduceMul, Nat.reducePow, Nat.reduceLeDiff]; done) | fail "no") only [go_sem, if_true, if_false, reduceIte, reduceCtorEq, Nat.reduceAdd, Nat.reduceSub, Nat.reduceBEq, Nat.reduceLT, Nat.reduceMul, Nat.reducePow, Nat.reduceLeDiff, aress, ares1]; exact rfl
    simp only [tupled]
    exact ⟨by simp, (Chg.of_ext (Ext.refl _)).mono (by simp), by first | rfl | trivial, .inr (.inl ⟨rfl, rfl⟩)⟩
  · obtain ⟨hf, _, hw⟩ := ho n rfl
    have hlen : ∀ i, i < xs.length → o + i < (m.blk n).cells.length := fun i hi => by
      have := hc i _ (getElem?_getD' (d := false) hi)
      exact (List.getElem?_eq_some_iff.1 this).1
    refine enter Try.func77 (by decide) rfl Try.ntmps77 Try.results77 ?_
    repeat (first
      | (refine awp_seq fun K hK => ?_)
      | (refine awp_block ?_)
      | (refine awp_skip ?_; simp only [Nx, Caught, if_true, if_false, reduceIte, Nat.reduceEqDiff])
      | (refine awp_exit ?_; simp only [Nx, Caught, if_true, if_false, reduceIte, Nat.reduceEqDiff])
      | (refine region_seq fun gd sep hgd => ?_; clear hgd; (repeat (refine aops_cons fun K1 hK1 => ?_; simp (disch := first | with_reducible assumption | (simp -failIfUnchanged only [Mem.size_push, Mem.size_put, Mem.size_kill, List.length_cons, List.length_nil, List.length_append, List.length_map, List.length_take, List.length_replicate] <;> omega) | (refine (id ?_ : (_ : Bool) = true); simp only [go_sem, if_true, if_false, reduceIte, reduceCtorEq, Nat.reduceAdd, Nat.reduceSub, Nat.reduceBEq, Nat.reduceLT, Nat.reduceMul, Nat.reducePow, Nat.reduceLeDiff]; done) | fail "no") only [go_sem, if_true, if_false, reduceIte, reduceCtorEq, Nat.reduceAdd, Nat.reduceSub, Nat.reduceBEq, Nat.reduceLT, Nat.reduceMul, Nat.reducePow, Nat.reduceLeDiff]; refine hK1 _ _ ?_; clear hK1 K1)); refine aops_nil ?_; simp only [Nx, Caught, if_true, if_false, reduceIte, Nat.reduceEqDiff]; clear gd sep)
      | (refine region_draw' mixed (by decide +kernel) fun gd sep hgd hsep => ?_; clear hgd hsep; (repeat (refine aops_cons fun K1 hK1 => ?_; simp (disch := first | with_reducible assumption | (simp -failIfUnchanged only [Mem.size_push, Mem.size_put, Mem.size_kill, List.length_cons, List.length_nil, List.length_append, List.length_map, List.length_take, List.length_replicate] <;> omega) | (refine (id ?_ : (_ : Bool) = true); simp only [go_sem, if_true, if_false, reduceIte, reduceCtorEq, Nat.reduceAdd, Nat.reduceSub, Nat.reduceBEq, Nat.reduceLT, Nat.reduceMul, Nat.reducePow, Nat.reduceLeDiff]; done) | fail "no") only [go_sem, if_true, if_false, reduceIte, reduceCtorEq, Nat.reduceAdd, Nat.reduceSub, Nat.reduceBEq, Nat.reduceLT, Nat.reduceMul, Nat.reducePow, Nat.reduceLeDiff]; refine hK1 _ _ ?_; clear hK1 K1)); refine aops_nil ?_; simp only [Nx, Caught, if_true, if_false, reduceIte, Nat.reduceEqDiff]; clear gd sep)
      | (refine hK _ _ ?_; clear hK K)
      | (clear hK K)
      )
    refine awp_loop (fun n' ts m' => ∃ j : Nat, n' = xs.length - j ∧ j ≤ xs.length ∧ ts 0 = .sl n o xs.length cap 1 ∧ ts 1 = .int .i64 (k + j) ∧ ts 5 = .int .i64 j ∧ m'.size = m.size ∧ (∀ i, i ≠ n → m'.blk i = m.blk i) ∧ (m'.blk n).mode = .rw ∧
      (m'.blk n).cells.length = (m.blk n).cells.length ∧ ∀ i : Nat, i < j → (m'.blk n).cells[o + i]? = some ((AVal.bool) ((k + (i : Int)).tmod 3 == 0))) xs.length ⟨0, rfl, by omega, rfl, by simp [fset_b, fargs], rfl, rfl, fun _ _ => rfl, hw, rfl, fun i hi => by omega⟩ ?_
    rintro n' ts m1 ⟨j, rfl, hj, t0, t1, t5, q1, q2, q3, q4, q5⟩ J hJ
    repeat (first
      | (refine awp_seq fun K hK => ?_)
      | (refine awp_block ?_)
      | (refine awp_skip ?_; simp only [Nx, Caught, if_true, if_false, reduceIte, Nat.reduceEqDiff])
      | (refine awp_exit ?_; simp only [Nx, Caught, if_true, if_false, reduceIte, Nat.reduceEqDiff])
      | (refine region_seq fun gd sep hgd => ?_; clear hgd; (repeat (refine aops_cons fun K1 hK1 => ?_; simp (disch := first | with_reducible assumption | (simp -failIfUnchanged only [Mem.size_push, Mem.size_put, Mem.size_kill, List.length_cons, List.length_nil, List.length_append, List.length_map, List.length_take, List.length_replicate, t0, t1, t5] <;> omega) | (refine (id ?_ : (_ : Bool) = true); simp only [go_sem, if_true, if_false, reduceIte, reduceCtorEq, Nat.reduceAdd, Nat.reduceSub, Nat.reduceBEq, Nat.reduceLT, Nat.reduceMul, Nat.reducePow, Nat.reduceLeDiff, t0, t1, t5]; done) | fail "no") only [go_sem, if_true, if_false, reduceIte, reduceCtorEq, Nat.reduceAdd, Nat.reduceSub, Nat.reduceBEq, Nat.reduceLT, Nat.reduceMul, Nat.reducePow, Nat.reduceLeDiff, t0, t1, t5]; refine hK1 _ _ ?_; clear hK1 K1)); refine aops_nil ?_; simp only [Nx, Caught, if_true, if_false, reduceIte, Nat.reduceEqDiff]; clear gd sep)
      | (refine region_draw' mixed (by decide +kernel) fun gd sep hgd hsep => ?_; clear hgd hsep; (repeat (refine aops_cons fun K1 hK1 => ?_; simp (disch := first | with_reducible assumption | (simp -failIfUnchanged only [Mem.size_push, Mem.size_put, Mem.size_kill, List.length_cons, List.length_nil, List.length_append, List.length_map, List.length_take, List.length_replicate, t0, t1, t5] <;> omega) | (refine (id ?_ : (_ : Bool) = true); simp only [go_sem, if_true, if_false, reduceIte, reduceCtorEq, Nat.reduceAdd, Nat.reduceSub, Nat.reduceBEq, Nat.reduceLT, Nat.reduceMul, Nat.reducePow, Nat.reduceLeDiff, t0, t1, t5]; done) | fail "no") only [go_sem, if_true, if_false, reduceIte, reduceCtorEq, Nat.reduceAdd, Nat.reduceSub, Nat.reduceBEq, Nat.reduceLT, Nat.reduceMul, Nat.reducePow, Nat.reduceLeDiff, t0, t1, t5]; refine hK1 _ _ ?_; clear hK1 K1)); refine aops_nil ?_; simp only [Nx, Caught, if_true, if_false, reduceIte, Nat.reduceEqDiff]; clear gd sep)
      | (refine hK _ _ ?_; clear hK K)
      | (clear hK K)
      )
    refine awp_if rfl (fun h => ?_) (fun h => ?_)
    · have hlt : j < xs.length := by simp at h; omega
      have hst : ∀ w : AVal, w.one = true → asts fl m1 n (o + j) [w] = some (m1.put n ⟨(m1.blk n).cells.set (o + j) w, .rw⟩) := fun w hw1 => by
        unfold asts
        rw [if_pos ⟨hf, by omega, q3, by have := hlen j hlt; simp; omega, by simp [hw1]⟩]
        rfl
      repeat (first
        | (refine awp_seq fun K hK => ?_)
        | (refine awp_block ?_)
        | (refine awp_skip ?_; simp only [Nx, Caught, if_true, if_false, reduceIte, Nat.reduceEqDiff])
        | (refine awp_exit ?_; simp only [Nx, Caught, if_true, if_false, reduceIte, Nat.reduceEqDiff])
        | (refine region_seq fun gd sep hgd => ?_; clear hgd; (repeat (refine aops_cons fun K1 hK1 => ?_; simp (disch := first | with_reducible assumption | (simp -failIfUnchanged only [Mem.size_push, Mem.size_put, Mem.size_kill, List.length_cons, List.length_nil, List.length_append, List.length_map, List.length_take, List.length_replicate, t0, t1, t5, hst, Int.toNat_natCast, show (3 : Int) ≠ 0 by decide] <;> omega) | (refine (id ?_ : (_ : Bool) = true); simp only [go_sem, if_true, if_false, reduceIte, reduceCtorEq, Nat.reduceAdd, Nat.reduceSub, Nat.reduceBEq, Nat.reduceLT, Nat.reduceMul, Nat.reducePow, Nat.reduceLeDiff, t0, t1, t5, hst, Int.toNat_natCast, show (3 : Int) ≠ 0 by decide]; done) | fail "no") only [go_sem, if_true, if_false, reduceIte, reduceCtorEq, Nat.reduceAdd, Nat.reduceSub, Nat.reduceBEq, Nat.reduceLT, Nat.reduceMul, Nat.reducePow, Nat.reduceLeDiff, t0, t1, t5, hst, Int.toNat_natCast, show (3 : Int) ≠ 0 by decide]; refine hK1 _ _ ?_; clear hK1 K1)); refine aops_nil ?_; simp only [Nx, Caught, if_true, if_false, reduceIte, Nat.reduceEqDiff]; clear gd sep)
        | (refine region_draw' mixed (by decide +kernel) fun gd sep hgd hsep => ?_; clear hgd hsep; (repeat (refine aops_cons fun K1 hK1 => ?_; simp (disch := first | with_reducible assumption | (simp -failIfUnchanged only [Mem.size_push, Mem.size_put, Mem.size_kill, List.length_cons, List.length_nil, List.length_append, List.length_map, List.length_take, List.length_replicate, t0, t1, t5, hst, Int.toNat_natCast, show (3 : Int) ≠ 0 by decide] <;> omega) | (refine (id ?_ : (_ : Bool) = true); simp only [go_sem, if_true, if_false, reduceIte, reduceCtorEq, Nat.reduceAdd, Nat.reduceSub, Nat.reduceBEq, Nat.reduceLT, Nat.reduceMul, Nat.reducePow, Nat.reduceLeDiff, t0, t1, t5, hst, Int.toNat_natCast, show (3 : Int) ≠ 0 by decide]; done) | fail "no") only [go_sem, if_true, if_false, reduceIte, reduceCtorEq, Nat.reduceAdd, Nat.reduceSub, Nat.reduceBEq, Nat.reduceLT, Nat.reduceMul, Nat.reducePow, Nat.reduceLeDiff, t0, t1, t5, hst, Int.toNat_natCast, show (3 : Int) ≠ 0 by decide]; refine hK1 _ _ ?_; clear hK1 K1)); refine aops_nil ?_; simp only [Nx, Caught, if_true, if_false, reduceIte, Nat.reduceEqDiff]; clear gd sep)
        | (refine hK _ _ ?_; clear hK K)
        | (clear hK K)
        )
      refine hJ _ _ _ ?_ ⟨j + 1, rfl, by omega, t0, ?_, rfl, by simpa using q1, fun i hi => by simp [hi]; exact q2 i hi, by simp, by simpa using q4, fun i hi => ?_⟩
      · omega
      · simp only [fset_b]; simp; omega
      · simp only [Mem.blk_put, if_true]
        rw [List.getElem?_set]
        by_cases e : i = j
        · subst e
          rw [if_pos rfl, if_pos (by have := hlen i hlt; omega)]
        · rw [if_neg (by omega)]
          exact q5 i (by omega)
    · have he : j = xs.length := by simp at h; omega
      subst he
      repeat (first
        | (refine awp_seq fun K hK => ?_)
        | (refine awp_block ?_)
        | (refine awp_skip ?_; simp only [Nx, Caught, if_true, if_false, reduceIte, Nat.reduceEqDiff])
        | (refine awp_exit ?_; simp only [Nx, Caught, if_true, if_false, reduceIte, Nat.reduceEqDiff])
        | (refine region_seq fun gd sep hgd => ?_; clear hgd; (repeat (refine aops_cons fun K1 hK1 => ?_; simp (disch := first | with_reducible assumption | (simp -failIfUnchanged only [Mem.size_push, Mem.size_put, Mem.size_kill, List.length_cons, List.length_nil, List.length_append, List.length_map, List.length_take, List.length_replicate, t1] <;> omega) | (refine (id ?_ : (_ : Bool) = true); simp only [go_sem, if_true, if_false, reduceIte, reduceCtorEq, Nat.reduceAdd, Nat.reduceSub, Nat.reduceBEq, Nat.reduceLT, Nat.reduceMul, Nat.reducePow, Nat.reduceLeDiff, t1]; done) | fail "no") only [go_sem, if_true, if_false, reduceIte, reduceCtorEq, Nat.reduceAdd, Nat.reduceSub, Nat.reduceBEq, Nat.reduceLT, Nat.reduceMul, Nat.reducePow, Nat.reduceLeDiff, t1]; refine hK1 _ _ ?_; clear hK1 K1)); refine aops_nil ?_; simp only [Nx, Caught, if_true, if_false, reduceIte, Nat.reduceEqDiff]; clear gd sep)
        | (refine region_draw' mixed (by decide +kernel) fun gd sep hgd hsep => ?_; clear hgd hsep; (repeat (refine aops_cons fun K1 hK1 => ?_; simp (disch := first | with_reducible assumption | (simp -failIfUnchanged only [Mem.size_push, Mem.size_put, Mem.size_kill, List.length_cons, List.length_nil, List.length_append, List.length_map, List.length_take, List.length_replicate, t1] <;> omega) | (refine (id ?_ : (_ : Bool) = true); simp only [go_sem, if_true, if_false, reduceIte, reduceCtorEq, Nat.reduceAdd, Nat.reduceSub, Nat.reduceBEq, Nat.reduceLT, Nat.reduceMul, Nat.reducePow, Nat.reduceLeDiff, t1]; done) | fail "no") only [go_sem, if_true, if_false, reduceIte, reduceCtorEq, Nat.reduceAdd, Nat.reduceSub, Nat.reduceBEq, Nat.reduceLT, Nat.reduceMul, Nat.reducePow, Nat.reduceLeDiff, t1]; refine hK1 _ _ ?_; clear hK1 K1)); refine aops_nil ?_; simp only [Nx, Caught, if_true, if_false, reduceIte, Nat.reduceEqDiff]; clear gd sep)
        | (refine hK _ _ ?_; clear hK K)
        | (clear hK K)
        )
      refine awp_ret ?_; try simp only [Nx, Caught]
      apply ends_ret
      · simp (disch := first | with_reducible assumption | (simp -failIfUnchanged only [Mem.size_push, Mem.size_put, Mem.size_kill, List.length_cons, List.length_nil, List.length_append, List.length_map, List.length_take, List.length_replicate] <;> omega) | (refine (id ?_ : (_ : Bool) = true); simp only [go_sem, if_true, if_false, reduceIte, reduceCtorEq, Nat.reduceAdd, Nat.reduceSub, Nat.reduceBEq, Nat.reduceLT, Nat.reduceMul, Nat.reducePow, Nat.reduceLeDiff]; done) | fail "no") only [go_sem, if_true, if_false, reduceIte, reduceCtorEq, Nat.reduceAdd, Nat.reduceSub, Nat.reduceBEq, Nat.reduceLT, Nat.reduceMul, Nat.reducePow, Nat.reduceLeDiff, aress, ares1]; exact rfl
      simp only [tupled]
      refine ⟨by simp, ⟨by omega, fun i hi hh => q2 i (by simpa [blkOf] using hh), fun i hi => ?_⟩, q1, .inr (.inr ⟨n, o, cap, by rw [iotaB_length], by omega, by rw [q3]; decide, fun i x hx => ?_⟩)⟩
      · by_cases e : i = n
        · subst e; rw [q3, hw]
        · rw [q2 i e]
      · have hi : i < xs.length := by
          have := (List.getElem?_eq_some_iff.1 hx).1
          rwa [iotaB_length] at this
        rw [q5 i hi]
        rw [iotaB_getElem? hi] at hx
        cases hx
        rfl

theorem heldBoolS_c {m : Mem} {a : AVal} {xs : List Bool} {k : Int} (ha : RdB m a xs) (hx : xs = iotaB k xs.length) (h0 : 0 ≤ k) (h1 : k + xs.length ≤ 4611686018427387904) :
    ∃ v m', (v = .int .i64 (k + xs.length) ∧ m' = m) ∧ DCalls PP m.size 79 [a, .int .i64 k] m v m' := by
  refine enter Try.func79 (by decide) rfl Try.ntmps79 Try.results79 ?_
  repeat (first
    | (refine awp_seq fun K hK => ?_)
    | (refine awp_block ?_)
    | (refine awp_skip ?_; simp only [Nx, Caught, if_true, if_false, reduceIte, Nat.reduceEqDiff])
    | (refine awp_exit ?_; simp only [Nx, Caught, if_true, if_false, reduceIte, Nat.reduceEqDiff])
    | (refine region_seq fun gd sep hgd => ?_; clear hgd; (repeat (refine aops_cons fun K1 hK1 => ?_; simp (disch := first | with_reducible assumption | (simp -failIfUnchanged only [Mem.size_push, Mem.size_put, Mem.size_kill, List.length_cons, List.length_nil, List.length_append, List.length_map, List.length_take, List.length_replicate] <;> omega) | (refine (id ?_ : (_ : Bool) = true); simp only [go_sem, if_true, if_false, reduceIte, reduceCtorEq, Nat.reduceAdd, Nat.reduceSub, Nat.reduceBEq, Nat.reduceLT, Nat.reduceMul, Nat.reducePow, Nat.reduceLeDiff]; done) | fail "no") only [go_sem, if_true, if_false, reduceIte, reduceCtorEq, Nat.reduceAdd, Nat.reduceSub, Nat.reduceBEq, Nat.reduceLT, Nat.reduceMul, Nat.reducePow, Nat.reduceLeDiff]; refine hK1 _ _ ?_; clear hK1 K1)); refine aops_nil ?_; simp only [Nx, Caught, if_true, if_false, reduceIte, Nat.reduceEqDiff]; clear gd sep)
    | (refine region_draw' mixed (by decide +kernel) fun gd sep hgd hsep => ?_; clear hgd hsep; (repeat (refine aops_cons fun K1 hK1 => ?_; simp (disch := first | with_reducible assumption | (simp -failIfUnchanged only [Mem.size_push, Mem.size_put, Mem.size_kill, List.length_cons, List.length_nil, List.length_append, List.length_map, List.length_take, List.length_replicate] <;> omega) | (refine (id ?_ : (_ : Bool) = true); simp only [go_sem, if_true, if_false, reduceIte, reduceCtorEq, Nat.reduceAdd, Nat.reduceSub, Nat.reduceBEq, Nat.reduceLT, Nat.reduceMul, Nat.reducePow, Nat.reduceLeDiff]; done) | fail "no") only [go_sem, if_true, if_false, reduceIte, reduceCtorEq, Nat.reduceAdd, Nat.reduceSub, Nat.reduceBEq, Nat.reduceLT, Nat.reduceMul, Nat.reducePow, Nat.reduceLeDiff]; refine hK1 _ _ ?_; clear hK1 K1)); refine aops_nil ?_; simp only [Nx, Caught, if_true, if_false, reduceIte, Nat.reduceEqDiff]; clear gd sep)
    | (refine hK _ _ ?_; clear hK K)
    | (clear hK K)
    )
  refine awp_loop (fun n ts m' => ∃ j : Nat, n = xs.length - j ∧ j ≤ xs.length ∧ ts 0 = a ∧ ts 1 = .int .i64 (k + j) ∧ ts 5 = .int .i64 j ∧ m' = m) xs.length ⟨0, rfl, by omega, rfl, by simp [fset_b, fargs], rfl, rfl⟩ ?_
  rintro n ts _ ⟨j, rfl, hj, t0, t1, t5, rfl⟩ J hJ
  repeat (first
    | (refine awp_seq fun K hK => ?_)
    | (refine awp_block ?_)
    | (refine awp_skip ?_; simp only [Nx, Caught, if_true, if_false, reduceIte, Nat.reduceEqDiff])
    | (refine awp_exit ?_; simp only [Nx, Caught, if_true, if_false, reduceIte, Nat.reduceEqDiff])
    | (refine region_seq fun gd sep hgd => ?_; clear hgd; (repeat (refine aops_cons fun K1 hK1 => ?_; simp (disch := first | with_reducible assumption | (simp -failIfUnchanged only [Mem.size_push, Mem.size_put, Mem.size_kill, List.length_cons, List.length_nil, List.length_append, List.length_map, List.length_take, List.length_replicate, ha.lenB, t0, t1, t5] <;> omega) | (refine (id ?_ : (_ : Bool) = true); simp only [go_sem, if_true, if_false, reduceIte, reduceCtorEq, Nat.reduceAdd, Nat.reduceSub, Nat.reduceBEq, Nat.reduceLT, Nat.reduceMul, Nat.reducePow, Nat.reduceLeDiff, ha.lenB, t0, t1, t5]; done) | fail "no") only [go_sem, if_true, if_false, reduceIte, reduceCtorEq, Nat.reduceAdd, Nat.reduceSub, Nat.reduceBEq, Nat.reduceLT, Nat.reduceMul, Nat.reducePow, Nat.reduceLeDiff, ha.lenB, t0, t1, t5]; refine hK1 _ _ ?_; clear hK1 K1)); refine aops_nil ?_; simp only [Nx, Caught, if_true, if_false, reduceIte, Nat.reduceEqDiff]; clear gd sep)
    | (refine region_draw' mixed (by decide +kernel) fun gd sep hgd hsep => ?_; clear hgd hsep; (repeat (refine aops_cons fun K1 hK1 => ?_; simp (disch := first | with_reducible assumption | (simp -failIfUnchanged only [Mem.size_push, Mem.size_put, Mem.size_kill, List.length_cons, List.length_nil, List.length_append, List.length_map, List.length_take, List.length_replicate, ha.lenB, t0, t1, t5] <;> omega) | (refine (id ?_ : (_ : Bool) = true); simp only [go_sem, if_true, if_false, reduceIte, reduceCtorEq, Nat.reduceAdd, Nat.reduceSub, Nat.reduceBEq, Nat.reduceLT, Nat.reduceMul, Nat.reducePow, Nat.reduceLeDiff, ha.lenB, t0, t1, t5]; done) | fail "no") only [go_sem, if_true, if_false, reduceIte, reduceCtorEq, Nat.reduceAdd, Nat.reduceSub, Nat.reduceBEq, Nat.reduceLT, Nat.reduceMul, Nat.reducePow, Nat.reduceLeDiff, ha.lenB, t0, t1, t5]; refine hK1 _ _ ?_; clear hK1 K1)); refine aops_nil ?_; simp only [Nx, Caught, if_true, if_false, reduceIte, Nat.reduceEqDiff]; clear gd sep)
    | (refine hK _ _ ?_; clear hK K)
    | (clear hK K)
    )
  refine awp_if rfl (fun h => ?_) (fun h => ?_)
  · have hlt : j < xs.length := by simp at h; omega
    have hd : xs.getD j false = ((k + (j : Int)).tmod 3 == 0) := by rw [hx]; exact iotaB_getD hlt
    repeat (first
      | (refine awp_seq fun K hK => ?_)
      | (refine awp_block ?_)
      | (refine awp_skip ?_; simp only [Nx, Caught, if_true, if_false, reduceIte, Nat.reduceEqDiff])
      | (refine awp_exit ?_; simp only [Nx, Caught, if_true, if_false, reduceIte, Nat.reduceEqDiff])
      | (refine region_seq fun gd sep hgd => ?_; clear hgd; (repeat (refine aops_cons fun K1 hK1 => ?_; simp (disch := first | with_reducible assumption | (simp -failIfUnchanged only [Mem.size_push, Mem.size_put, Mem.size_kill, List.length_cons, List.length_nil, List.length_append, List.length_map, List.length_take, List.length_replicate, ha.idxB, ha.loadB, Int.toNat_natCast, t0, t1, t5, hd, bne_self_eq_false] <;> omega) | (refine (id ?_ : (_ : Bool) = true); simp only [go_sem, if_true, if_false, reduceIte, reduceCtorEq, Nat.reduceAdd, Nat.reduceSub, Nat.reduceBEq, Nat.reduceLT, Nat.reduceMul, Nat.reducePow, Nat.reduceLeDiff, ha.idxB, ha.loadB, Int.toNat_natCast, t0, t1, t5, hd, bne_self_eq_false]; done) | fail "no") only [go_sem, if_true, if_false, reduceIte, reduceCtorEq, Nat.reduceAdd, Nat.reduceSub, Nat.reduceBEq, Nat.reduceLT, Nat.reduceMul, Nat.reducePow, Nat.reduceLeDiff, ha.idxB, ha.loadB, Int.toNat_natCast, t0, t1, t5, hd, bne_self_eq_false]; refine hK1 _ _ ?_; clear hK1 K1)); refine aops_nil ?_; simp only [Nx, Caught, if_true, if_false, reduceIte, Nat.reduceEqDiff]; clear gd sep)
      | (refine region_draw' mixed (by decide +kernel) fun gd sep hgd hsep => ?_; clear hgd hsep; (repeat (refine aops_cons fun K1 hK1 => ?_; simp (disch := first | with_reducible assumption | (simp -failIfUnchanged only [Mem.size_push, Mem.size_put, Mem.size_kill, List.length_cons, List.length_nil, List.length_append, List.length_map, List.length_take, List.length_replicate, ha.idxB, ha.loadB, Int.toNat_natCast, t0, t1, t5, hd, bne_self_eq_false] <;> omega) | (refine (id ?_ : (_ : Bool) = true); simp only [go_sem, if_true, if_false, reduceIte, reduceCtorEq, Nat.reduceAdd, Nat.reduceSub, Nat.reduceBEq, Nat.reduceLT, Nat.reduceMul, Nat.reducePow, Nat.reduceLeDiff, ha.idxB, ha.loadB, Int.toNat_natCast, t0, t1, t5, hd, bne_self_eq_false]; done) | fail "no") only [go_sem, if_true, if_false, reduceIte, reduceCtorEq, Nat.reduceAdd, Nat.reduceSub, Nat.reduceBEq, Nat.reduceLT, Nat.reduceMul, Nat.reducePow, Nat.reduceLeDiff, ha.idxB, ha.loadB, Int.toNat_natCast, t0, t1, t5, hd, bne_self_eq_false]; refine hK1 _ _ ?_; clear hK1 K1)); refine aops_nil ?_; simp only [Nx, Caught, if_true, if_false, reduceIte, Nat.reduceEqDiff]; clear gd sep)
      | (refine hK _ _ ?_; clear hK K)
      | (clear hK K)
      )
    refine awp_cond (t := false) rfl ?_
    repeat (first
      | (refine awp_seq fun K hK => ?_)
      | (refine awp_block ?_)
      | (refine awp_skip ?_; simp only [Nx, Caught, if_true, if_false, reduceIte, Nat.reduceEqDiff])
      | (refine awp_exit ?_; simp only [Nx, Caught, if_true, if_false, reduceIte, Nat.reduceEqDiff])
      | (refine region_seq fun gd sep hgd => ?_; clear hgd; (repeat (refine aops_cons fun K1 hK1 => ?_; simp (disch := first | with_reducible assumption | (simp -failIfUnchanged only [Mem.size_push, Mem.size_put, Mem.size_kill, List.length_cons, List.length_nil, List.length_append, List.length_map, List.length_take, List.length_replicate, t0, t1, t5] <;> omega) | (refine (id ?_ : (_ : Bool) = true); simp only [go_sem, if_true, if_false, reduceIte, reduceCtorEq, Nat.reduceAdd, Nat.reduceSub, Nat.reduceBEq, Nat.reduceLT, Nat.reduceMul, Nat.reducePow, Nat.reduceLeDiff, t0, t1, t5]; done) | fail "no") only [go_sem, if_true, if_false, reduceIte, reduceCtorEq, Nat.reduceAdd, Nat.reduceSub, Nat.reduceBEq, Nat.reduceLT, Nat.reduceMul, Nat.reducePow, Nat.reduceLeDiff, t0, t1, t5]; refine hK1 _ _ ?_; clear hK1 K1)); refine aops_nil ?_; simp only [Nx, Caught, if_true, if_false, reduceIte, Nat.reduceEqDiff]; clear gd sep)
      | (refine region_draw' mixed (by decide +kernel) fun gd sep hgd hsep => ?_; clear hgd hsep; (repeat (refine aops_cons fun K1 hK1 => ?_; simp (disch := first | with_reducible assumption | (simp -failIfUnchanged only [Mem.size_push, Mem.size_put, Mem.size_kill, List.length_cons, List.length_nil, List.length_append, List.length_map, List.length_take, List.length_replicate, t0, t1, t5] <;> omega) | (refine (id ?_ : (_ : Bool) = true); simp only [go_sem, if_true, if_false, reduceIte, reduceCtorEq, Nat.reduceAdd, Nat.reduceSub, Nat.reduceBEq, Nat.reduceLT, Nat.reduceMul, Nat.reducePow, Nat.reduceLeDiff, t0, t1, t5]; done) | fail "no") only [go_sem, if_true, if_false, reduceIte, reduceCtorEq, Nat.reduceAdd, Nat.reduceSub, Nat.reduceBEq, Nat.reduceLT, Nat.reduceMul, Nat.reducePow, Nat.reduceLeDiff, t0, t1, t5]; refine hK1 _ _ ?_; clear hK1 K1)); refine aops_nil ?_; simp only [Nx, Caught, if_true, if_false, reduceIte, Nat.reduceEqDiff]; clear gd sep)
      | (refine hK _ _ ?_; clear hK K)
      | (clear hK K)
      )
    refine hJ _ _ _ ?_ ⟨j + 1, rfl, by omega, t0, ?_, rfl, rfl⟩
    · omega
    · simp only [fset_b]; simp; omega
  · have he : j = xs.length := by simp at h; omega
    subst he
    repeat (first
      | (refine awp_seq fun K hK => ?_)
      | (refine awp_block ?_)
      | (refine awp_skip ?_; simp only [Nx, Caught, if_true, if_false, reduceIte, Nat.reduceEqDiff])
      | (refine awp_exit ?_; simp only [Nx, Caught, if_true, if_false, reduceIte, Nat.reduceEqDiff])
      | (refine region_seq fun gd sep hgd => ?_; clear hgd; (repeat (refine aops_cons fun K1 hK1 => ?_; simp (disch := first | with_reducible assumption | (simp -failIfUnchanged only [Mem.size_push, Mem.size_put, Mem.size_kill, List.length_cons, List.length_nil, List.length_append, List.length_map, List.length_take, List.length_replicate, t1] <;> omega) | (refine (id ?_ : (_ : Bool) = true); simp only [go_sem, if_true, if_false, reduceIte, reduceCtorEq, Nat.reduceAdd, Nat.reduceSub, Nat.reduceBEq, Nat.reduceLT, Nat.reduceMul, Nat.reducePow, Nat.reduceLeDiff, t1]; done) | fail "no") only [go_sem, if_true, if_false, reduceIte, reduceCtorEq, Nat.reduceAdd, Nat.reduceSub, Nat.reduceBEq, Nat.reduceLT, Nat.reduceMul, Nat.reducePow, Nat.reduceLeDiff, t1]; refine hK1 _ _ ?_; clear hK1 K1)); refine aops_nil ?_; simp only [Nx, Caught, if_true, if_false, reduceIte, Nat.reduceEqDiff]; clear gd sep)
      | (refine region_draw' mixed (by decide +kernel) fun gd sep hgd hsep => ?_; clear hgd hsep; (repeat (refine aops_cons fun K1 hK1 => ?_; simp (disch := first | with_reducible assumption | (simp -failIfUnchanged only [Mem.size_push, Mem.size_put, Mem.size_kill, List.length_cons, List.length_nil, List.length_append, List.length_map, List.length_take, List.length_replicate, t1] <;> omega) | (refine (id ?_ : (_ : Bool) = true); simp only [go_sem, if_true, if_false, reduceIte, reduceCtorEq, Nat.reduceAdd, Nat.reduceSub, Nat.reduceBEq, Nat.reduceLT, Nat.reduceMul, Nat.reducePow, Nat.reduceLeDiff, t1]; done) | fail "no") only [go_sem, if_true, if_false, reduceIte, reduceCtorEq, Nat.reduceAdd, Nat.reduceSub, Nat.reduceBEq, Nat.reduceLT, Nat.reduceMul, Nat.reducePow, Nat.reduceLeDiff, t1]; refine hK1 _ _ ?_; clear hK1 K1)); refine aops_nil ?_; simp only [Nx, Caught, if_true, if_false, reduceIte, Nat.reduceEqDiff]; clear gd sep)
      | (refine hK _ _ ?_; clear hK K)
      | (clear hK K)
      )
    refine awp_ret ?_; try simp only [Nx, Caught]
    apply ends_ret
    · simp (disch := first | with_reducible assumption | (simp -failIfUnchanged only [Mem.size_push, Mem.size_put, Mem.size_kill, List.length_cons, List.length_nil, List.length_append, List.length_map, List.length_take, List.length_replicate] <;> omega) | (refine (id ?_ : (_ : Bool) = true); simp only [go_sem, if_true, if_false, reduceIte, reduceCtorEq, Nat.reduceAdd, Nat.reduceSub, Nat.reduceBEq, Nat.reduceLT, Nat.reduceMul, Nat.reducePow, Nat.reduceLeDiff]; done) | fail "no") only [go_sem, if_true, if_false, reduceIte, reduceCtorEq, Nat.reduceAdd, Nat.reduceSub, Nat.reduceBEq, Nat.reduceLT, Nat.reduceMul, Nat.reducePow, Nat.reduceLeDiff, aress, ares1]; exact rfl
    simp only [tupled]
    simp

end Go.Ab
