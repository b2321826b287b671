/-
  What is proved here: the contracts of marking heaps and generations, and of the two functions that compare generations. Condition: the lists' lengths are bounded as each statement says.
-/
import Derived.Test.YtmpnapfbgfpllaaF4
namespace Go.Ab
open Go.Proofs
set_option linter.unusedSimpArgs false
set_option linter.unusedVariables false
set_option maxRecDepth 10000
set_option maxHeartbeats 1000000

theorem Ext.chg {m m' : Mem} (e : Ext m m') : Chg m m' [] := .of_ext e

theorem markHeap_c {m : Mem} {v : AVal} {h : HP} {k : Int} {fl : Nat} (hv : RdH m v h) (ho : Own fl m v.cells) (h0 : 0 ≤ k) (h1 : k + h.cnt ≤ 4611686018427387904) :
    ∃ r m', (r = .int .i64 (k + h.cnt) ∧ Chg m m' (v.cells.filterMap blkOf) ∧ RdH m' v (h.mark k)) ∧ DCalls PP fl 29 [v, .int .i64 k] m r m' := by
  obtain ⟨a, b, c, rfl, ha, hb, hc⟩ := hv
  have ho : Own fl m [a, b, c] := ho
  have e0 := Ext.push m [a, b, c]
  have ho0 := ho.ext e0
  have pw := ho.pw
  simp only [List.pairwise_cons, List.mem_cons, List.not_mem_nil, or_false, forall_eq_or_imp, forall_eq] at pw
  obtain ⟨⟨ab, ac⟩, bc, -⟩ := pw
  unfold HP.cnt at *
  refine enter Try.func29 (by decide) rfl Try.ntmps29 Try.results29 ?_
  repeat (first
    | (refine awp_seq fun K hK => ?_)
    | (refine awp_block ?_)
    | (refine awp_skip ?_; simp only [Nx, Caught, if_true, if_false, reduceIte, Nat.reduceEqDiff])
    | (refine awp_exit ?_; simp only [Nx, Caught, if_true, if_false, reduceIte, Nat.reduceEqDiff])
    | (refine region_seq fun gd sep hgd => ?_; clear hgd; (repeat (refine aops_cons fun K1 hK1 => ?_; simp (disch := first | with_reducible assumption | (simp -failIfUnchanged only [Mem.size_push, Mem.size_put, Mem.size_kill, List.length_cons, List.length_nil, List.length_append, List.length_map, List.length_take, List.length_replicate] <;> omega) | (refine (id ?_ : (_ : Bool) = true); simp only [go_sem, if_true, if_false, reduceIte, reduceCtorEq, Nat.reduceAdd, Nat.reduceSub, Nat.reduceBEq, Nat.reduceLT, Nat.reduceMul, Nat.reducePow, Nat.reduceLeDiff]; done) | fail "no") only [go_sem, if_true, if_false, reduceIte, reduceCtorEq, Nat.reduceAdd, Nat.reduceSub, Nat.reduceBEq, Nat.reduceLT, Nat.reduceMul, Nat.reducePow, Nat.reduceLeDiff]; refine hK1 _ _ ?_; clear hK1 K1)); refine aops_nil ?_; simp only [Nx, Caught, if_true, if_false, reduceIte, Nat.reduceEqDiff]; clear gd sep)
    | (refine region_draw' mixed (by decide +kernel) fun gd sep hgd hsep => ?_; clear hgd hsep; (repeat (refine aops_cons fun K1 hK1 => ?_; simp (disch := first | with_reducible assumption | (simp -failIfUnchanged only [Mem.size_push, Mem.size_put, Mem.size_kill, List.length_cons, List.length_nil, List.length_append, List.length_map, List.length_take, List.length_replicate] <;> omega) | (refine (id ?_ : (_ : Bool) = true); simp only [go_sem, if_true, if_false, reduceIte, reduceCtorEq, Nat.reduceAdd, Nat.reduceSub, Nat.reduceBEq, Nat.reduceLT, Nat.reduceMul, Nat.reducePow, Nat.reduceLeDiff]; done) | fail "no") only [go_sem, if_true, if_false, reduceIte, reduceCtorEq, Nat.reduceAdd, Nat.reduceSub, Nat.reduceBEq, Nat.reduceLT, Nat.reduceMul, Nat.reducePow, Nat.reduceLeDiff]; refine hK1 _ _ ?_; clear hK1 K1)); refine aops_nil ?_; simp only [Nx, Caught, if_true, if_false, reduceIte, Nat.reduceEqDiff]; clear gd sep)
    | (refine hK _ _ ?_; clear hK K)
    | (clear hK K)
    )
  refine region_seq fun gd sep hgd => ?_
  clear hgd
  (repeat (refine aops_cons fun K1 hK1 => ?_; simp (disch := first | with_reducible assumption | (simp -failIfUnchanged only [Mem.size_push, Mem.size_put, Mem.size_kill, List.length_cons, List.length_nil, List.length_append, List.length_map, List.length_take, List.length_replicate] <;> omega) | (refine (id ?_ : (_ : Bool) = true); simp only [go_sem, if_true, if_false, reduceIte, reduceCtorEq, Nat.reduceAdd, Nat.reduceSub, Nat.reduceBEq, Nat.reduceLT, Nat.reduceMul, Nat.reducePow, Nat.reduceLeDiff]; done) | fail "no") only [go_sem, if_true, if_false, reduceIte, reduceCtorEq, Nat.reduceAdd, Nat.reduceSub, Nat.reduceBEq, Nat.reduceLT, Nat.reduceMul, Nat.reducePow, Nat.reduceLeDiff]; refine hK1 _ _ ?_; clear hK1 K1))
  refine aops_cons fun K1 hK1 => ?_
  simp (disch := first | with_reducible assumption | (simp -failIfUnchanged only [Mem.size_push, Mem.size_put, Mem.size_kill, List.length_cons, List.length_nil, List.length_append, List.length_map, List.length_take, List.length_replicate] <;> omega) | (refine (id ?_ : (_ : Bool) = true); simp only [go_sem, if_true, if_false, reduceIte, reduceCtorEq, Nat.reduceAdd, Nat.reduceSub, Nat.reduceBEq, Nat.reduceLT, Nat.reduceMul, Nat.reducePow, Nat.reduceLeDiff]; done) | fail "no") only [go_sem, if_true, if_false, reduceIte, reduceCtorEq, Nat.reduceAdd, Nat.reduceSub, Nat.reduceBEq, Nat.reduceLT, Nat.reduceMul, Nat.reducePow, Nat.reduceLeDiff]
  refine acallw rfl (markIntS_c (ha.ext e0) (fun n hn => ho0.get (by simp) hn) h0 (by omega)) ?_
  rintro r1 m1 ⟨rfl, c1, z1, d1⟩
  refine hK1 _ _ ?_; clear hK1 K1
  have nm : ∀ x ∈ [a, b, c], m.size ∉ [x].filterMap blkOf := fun x hx => notMem_of fun k hk => by have := (ho.get hx hk).2.1; omega
  have q1 : ∀ o, ald m1 m.size o = ald (m.push [a, b, c]) m.size o := fun o => c1.ald (by simp) (nm a (by simp))
  (repeat (refine aops_cons fun K1 hK1 => ?_; simp (disch := first | with_reducible assumption | (simp -failIfUnchanged only [Mem.size_push, Mem.size_put, Mem.size_kill, List.length_cons, List.length_nil, List.length_append, List.length_map, List.length_take, List.length_replicate] <;> omega) | (refine (id ?_ : (_ : Bool) = true); simp only [go_sem, if_true, if_false, reduceIte, reduceCtorEq, Nat.reduceAdd, Nat.reduceSub, Nat.reduceBEq, Nat.reduceLT, Nat.reduceMul, Nat.reducePow, Nat.reduceLeDiff]; done) | fail "no") only [go_sem, if_true, if_false, reduceIte, reduceCtorEq, Nat.reduceAdd, Nat.reduceSub, Nat.reduceBEq, Nat.reduceLT, Nat.reduceMul, Nat.reducePow, Nat.reduceLeDiff]; refine hK1 _ _ ?_; clear hK1 K1))
  refine aops_nil ?_; simp only [Nx, Caught, if_true, if_false, reduceIte, Nat.reduceEqDiff]
  try clear gd sep
  first | (refine hK _ _ ?_; clear hK K) | skip
  repeat (first
    | (refine awp_seq fun K hK => ?_)
    | (refine awp_block ?_)
    | (refine awp_skip ?_; simp only [Nx, Caught, if_true, if_false, reduceIte, Nat.reduceEqDiff])
    | (refine awp_exit ?_; simp only [Nx, Caught, if_true, if_false, reduceIte, Nat.reduceEqDiff])
    | (refine region_seq fun gd sep hgd => ?_; clear hgd; (repeat (refine aops_cons fun K1 hK1 => ?_; simp (disch := first | with_reducible assumption | (simp -failIfUnchanged only [Mem.size_push, Mem.size_put, Mem.size_kill, List.length_cons, List.length_nil, List.length_append, List.length_map, List.length_take, List.length_replicate, q1] <;> omega) | (refine (id ?_ : (_ : Bool) = true); simp only [go_sem, if_true, if_false, reduceIte, reduceCtorEq, Nat.reduceAdd, Nat.reduceSub, Nat.reduceBEq, Nat.reduceLT, Nat.reduceMul, Nat.reducePow, Nat.reduceLeDiff, q1]; done) | fail "no") only [go_sem, if_true, if_false, reduceIte, reduceCtorEq, Nat.reduceAdd, Nat.reduceSub, Nat.reduceBEq, Nat.reduceLT, Nat.reduceMul, Nat.reducePow, Nat.reduceLeDiff, q1]; refine hK1 _ _ ?_; clear hK1 K1)); refine aops_nil ?_; simp only [Nx, Caught, if_true, if_false, reduceIte, Nat.reduceEqDiff]; clear gd sep)
    | (refine region_draw' mixed (by decide +kernel) fun gd sep hgd hsep => ?_; clear hgd hsep; (repeat (refine aops_cons fun K1 hK1 => ?_; simp (disch := first | with_reducible assumption | (simp -failIfUnchanged only [Mem.size_push, Mem.size_put, Mem.size_kill, List.length_cons, List.length_nil, List.length_append, List.length_map, List.length_take, List.length_replicate, q1] <;> omega) | (refine (id ?_ : (_ : Bool) = true); simp only [go_sem, if_true, if_false, reduceIte, reduceCtorEq, Nat.reduceAdd, Nat.reduceSub, Nat.reduceBEq, Nat.reduceLT, Nat.reduceMul, Nat.reducePow, Nat.reduceLeDiff, q1]; done) | fail "no") only [go_sem, if_true, if_false, reduceIte, reduceCtorEq, Nat.reduceAdd, Nat.reduceSub, Nat.reduceBEq, Nat.reduceLT, Nat.reduceMul, Nat.reducePow, Nat.reduceLeDiff, q1]; refine hK1 _ _ ?_; clear hK1 K1)); refine aops_nil ?_; simp only [Nx, Caught, if_true, if_false, reduceIte, Nat.reduceEqDiff]; clear gd sep)
    | (refine hK _ _ ?_; clear hK K)
    | (clear hK K)
    )
  refine region_seq fun gd sep hgd => ?_
  clear hgd
  (repeat (refine aops_cons fun K1 hK1 => ?_; simp (disch := first | with_reducible assumption | (simp -failIfUnchanged only [Mem.size_push, Mem.size_put, Mem.size_kill, List.length_cons, List.length_nil, List.length_append, List.length_map, List.length_take, List.length_replicate, q1] <;> omega) | (refine (id ?_ : (_ : Bool) = true); simp only [go_sem, if_true, if_false, reduceIte, reduceCtorEq, Nat.reduceAdd, Nat.reduceSub, Nat.reduceBEq, Nat.reduceLT, Nat.reduceMul, Nat.reducePow, Nat.reduceLeDiff, q1]; done) | fail "no") only [go_sem, if_true, if_false, reduceIte, reduceCtorEq, Nat.reduceAdd, Nat.reduceSub, Nat.reduceBEq, Nat.reduceLT, Nat.reduceMul, Nat.reducePow, Nat.reduceLeDiff, q1]; refine hK1 _ _ ?_; clear hK1 K1))
  refine aops_cons fun K1 hK1 => ?_
  simp (disch := first | with_reducible assumption | (simp -failIfUnchanged only [Mem.size_push, Mem.size_put, Mem.size_kill, List.length_cons, List.length_nil, List.length_append, List.length_map, List.length_take, List.length_replicate] <;> omega) | (refine (id ?_ : (_ : Bool) = true); simp only [go_sem, if_true, if_false, reduceIte, reduceCtorEq, Nat.reduceAdd, Nat.reduceSub, Nat.reduceBEq, Nat.reduceLT, Nat.reduceMul, Nat.reducePow, Nat.reduceLeDiff]; done) | fail "no") only [go_sem, if_true, if_false, reduceIte, reduceCtorEq, Nat.reduceAdd, Nat.reduceSub, Nat.reduceBEq, Nat.reduceLT, Nat.reduceMul, Nat.reducePow, Nat.reduceLeDiff]
  refine acallw rfl (markIntS_c ((hb.ext e0).chg c1 (notMem_swap ab)) (fun n hn => (ho0.chg c1).get (by simp) hn) (by omega) (by omega)) ?_
  rintro r2 m2 ⟨rfl, c2, z2, d2⟩
  refine hK1 _ _ ?_; clear hK1 K1
  have c12 := c1.trans c2
  have q2 : ∀ o, ald m2 m.size o = ald (m.push [a, b, c]) m.size o := fun o => c12.ald (by simp) (notMem_append (nm a (by simp)) (nm b (by simp)))
  (repeat (refine aops_cons fun K1 hK1 => ?_; simp (disch := first | with_reducible assumption | (simp -failIfUnchanged only [Mem.size_push, Mem.size_put, Mem.size_kill, List.length_cons, List.length_nil, List.length_append, List.length_map, List.length_take, List.length_replicate] <;> omega) | (refine (id ?_ : (_ : Bool) = true); simp only [go_sem, if_true, if_false, reduceIte, reduceCtorEq, Nat.reduceAdd, Nat.reduceSub, Nat.reduceBEq, Nat.reduceLT, Nat.reduceMul, Nat.reducePow, Nat.reduceLeDiff]; done) | fail "no") only [go_sem, if_true, if_false, reduceIte, reduceCtorEq, Nat.reduceAdd, Nat.reduceSub, Nat.reduceBEq, Nat.reduceLT, Nat.reduceMul, Nat.reducePow, Nat.reduceLeDiff]; refine hK1 _ _ ?_; clear hK1 K1))
  refine aops_nil ?_; simp only [Nx, Caught, if_true, if_false, reduceIte, Nat.reduceEqDiff]
  try clear gd sep
  first | (refine hK _ _ ?_; clear hK K) | skip
  repeat (first
    | (refine awp_seq fun K hK => ?_)
    | (refine awp_block ?_)
    | (refine awp_skip ?_; simp only [Nx, Caught, if_true, if_false, reduceIte, Nat.reduceEqDiff])
    | (refine awp_exit ?_; simp only [Nx, Caught, if_true, if_false, reduceIte, Nat.reduceEqDiff])
    | (refine region_seq fun gd sep hgd => ?_; clear hgd; (repeat (refine aops_cons fun K1 hK1 => ?_; simp (disch := first | with_reducible assumption | (simp -failIfUnchanged only [Mem.size_push, Mem.size_put, Mem.size_kill, List.length_cons, List.length_nil, List.length_append, List.length_map, List.length_take, List.length_replicate, q2] <;> omega) | (refine (id ?_ : (_ : Bool) = true); simp only [go_sem, if_true, if_false, reduceIte, reduceCtorEq, Nat.reduceAdd, Nat.reduceSub, Nat.reduceBEq, Nat.reduceLT, Nat.reduceMul, Nat.reducePow, Nat.reduceLeDiff, q2]; done) | fail "no") only [go_sem, if_true, if_false, reduceIte, reduceCtorEq, Nat.reduceAdd, Nat.reduceSub, Nat.reduceBEq, Nat.reduceLT, Nat.reduceMul, Nat.reducePow, Nat.reduceLeDiff, q2]; refine hK1 _ _ ?_; clear hK1 K1)); refine aops_nil ?_; simp only [Nx, Caught, if_true, if_false, reduceIte, Nat.reduceEqDiff]; clear gd sep)
    | (refine region_draw' mixed (by decide +kernel) fun gd sep hgd hsep => ?_; clear hgd hsep; (repeat (refine aops_cons fun K1 hK1 => ?_; simp (disch := first | with_reducible assumption | (simp -failIfUnchanged only [Mem.size_push, Mem.size_put, Mem.size_kill, List.length_cons, List.length_nil, List.length_append, List.length_map, List.length_take, List.length_replicate, q2] <;> omega) | (refine (id ?_ : (_ : Bool) = true); simp only [go_sem, if_true, if_false, reduceIte, reduceCtorEq, Nat.reduceAdd, Nat.reduceSub, Nat.reduceBEq, Nat.reduceLT, Nat.reduceMul, Nat.reducePow, Nat.reduceLeDiff, q2]; done) | fail "no") only [go_sem, if_true, if_false, reduceIte, reduceCtorEq, Nat.reduceAdd, Nat.reduceSub, Nat.reduceBEq, Nat.reduceLT, Nat.reduceMul, Nat.reducePow, Nat.reduceLeDiff, q2]; refine hK1 _ _ ?_; clear hK1 K1)); refine aops_nil ?_; simp only [Nx, Caught, if_true, if_false, reduceIte, Nat.reduceEqDiff]; clear gd sep)
    | (refine hK _ _ ?_; clear hK K)
    | (clear hK K)
    )
  refine region_seq fun gd sep hgd => ?_
  clear hgd
  (repeat (refine aops_cons fun K1 hK1 => ?_; simp (disch := first | with_reducible assumption | (simp -failIfUnchanged only [Mem.size_push, Mem.size_put, Mem.size_kill, List.length_cons, List.length_nil, List.length_append, List.length_map, List.length_take, List.length_replicate, q2] <;> omega) | (refine (id ?_ : (_ : Bool) = true); simp only [go_sem, if_true, if_false, reduceIte, reduceCtorEq, Nat.reduceAdd, Nat.reduceSub, Nat.reduceBEq, Nat.reduceLT, Nat.reduceMul, Nat.reducePow, Nat.reduceLeDiff, q2]; done) | fail "no") only [go_sem, if_true, if_false, reduceIte, reduceCtorEq, Nat.reduceAdd, Nat.reduceSub, Nat.reduceBEq, Nat.reduceLT, Nat.reduceMul, Nat.reducePow, Nat.reduceLeDiff, q2]; refine hK1 _ _ ?_; clear hK1 K1))
  refine aops_cons fun K1 hK1 => ?_
  simp (disch := first | with_reducible assumption | (simp -failIfUnchanged only [Mem.size_push, Mem.size_put, Mem.size_kill, List.length_cons, List.length_nil, List.length_append, List.length_map, List.length_take, List.length_replicate] <;> omega) | (refine (id ?_ : (_ : Bool) = true); simp only [go_sem, if_true, if_false, reduceIte, reduceCtorEq, Nat.reduceAdd, Nat.reduceSub, Nat.reduceBEq, Nat.reduceLT, Nat.reduceMul, Nat.reducePow, Nat.reduceLeDiff]; done) | fail "no") only [go_sem, if_true, if_false, reduceIte, reduceCtorEq, Nat.reduceAdd, Nat.reduceSub, Nat.reduceBEq, Nat.reduceLT, Nat.reduceMul, Nat.reducePow, Nat.reduceLeDiff]
  refine acallw rfl (markIntS_c ((hc.ext e0).chg c12 (fun n hn => notMem_append (notMem_swap ac n hn) (notMem_swap bc n hn))) (fun n hn => (ho0.chg c12).get (by simp) hn) (by omega) (by omega)) ?_
  rintro r3 m3 ⟨rfl, c3, z3, d3⟩
  refine hK1 _ _ ?_; clear hK1 K1
  have c13 := (e0.chg.trans c12).trans c3
  (repeat (refine aops_cons fun K1 hK1 => ?_; simp (disch := first | with_reducible assumption | (simp -failIfUnchanged only [Mem.size_push, Mem.size_put, Mem.size_kill, List.length_cons, List.length_nil, List.length_append, List.length_map, List.length_take, List.length_replicate] <;> omega) | (refine (id ?_ : (_ : Bool) = true); simp only [go_sem, if_true, if_false, reduceIte, reduceCtorEq, Nat.reduceAdd, Nat.reduceSub, Nat.reduceBEq, Nat.reduceLT, Nat.reduceMul, Nat.reducePow, Nat.reduceLeDiff]; done) | fail "no") only [go_sem, if_true, if_false, reduceIte, reduceCtorEq, Nat.reduceAdd, Nat.reduceSub, Nat.reduceBEq, Nat.reduceLT, Nat.reduceMul, Nat.reducePow, Nat.reduceLeDiff]; refine hK1 _ _ ?_; clear hK1 K1))
  refine aops_nil ?_; simp only [Nx, Caught, if_true, if_false, reduceIte, Nat.reduceEqDiff]
  try clear gd sep
  first | (refine hK _ _ ?_; clear hK K) | skip
  repeat (first
    | (refine awp_seq fun K hK => ?_)
    | (refine awp_block ?_)
    | (refine awp_skip ?_; simp only [Nx, Caught, if_true, if_false, reduceIte, Nat.reduceEqDiff])
    | (refine awp_exit ?_; simp only [Nx, Caught, if_true, if_false, reduceIte, Nat.reduceEqDiff])
    | (refine region_seq fun gd sep hgd => ?_; clear hgd; (repeat (refine aops_cons fun K1 hK1 => ?_; simp (disch := first | with_reducible assumption | (simp -failIfUnchanged only [Mem.size_push, Mem.size_put, Mem.size_kill, List.length_cons, List.length_nil, List.length_append, List.length_map, List.length_take, List.length_replicate] <;> omega) | (refine (id ?_ : (_ : Bool) = true); simp only [go_sem, if_true, if_false, reduceIte, reduceCtorEq, Nat.reduceAdd, Nat.reduceSub, Nat.reduceBEq, Nat.reduceLT, Nat.reduceMul, Nat.reducePow, Nat.reduceLeDiff]; done) | fail "no") only [go_sem, if_true, if_false, reduceIte, reduceCtorEq, Nat.reduceAdd, Nat.reduceSub, Nat.reduceBEq, Nat.reduceLT, Nat.reduceMul, Nat.reducePow, Nat.reduceLeDiff]; refine hK1 _ _ ?_; clear hK1 K1)); refine aops_nil ?_; simp only [Nx, Caught, if_true, if_false, reduceIte, Nat.reduceEqDiff]; clear gd sep)
    | (refine region_draw' mixed (by decide +kernel) fun gd sep hgd hsep => ?_; clear hgd hsep; (repeat (refine aops_cons fun K1 hK1 => ?_; simp (disch := first | with_reducible assumption | (simp -failIfUnchanged only [Mem.size_push, Mem.size_put, Mem.size_kill, List.length_cons, List.length_nil, List.length_append, List.length_map, List.length_take, List.length_replicate] <;> omega) | (refine (id ?_ : (_ : Bool) = true); simp only [go_sem, if_true, if_false, reduceIte, reduceCtorEq, Nat.reduceAdd, Nat.reduceSub, Nat.reduceBEq, Nat.reduceLT, Nat.reduceMul, Nat.reducePow, Nat.reduceLeDiff]; done) | fail "no") only [go_sem, if_true, if_false, reduceIte, reduceCtorEq, Nat.reduceAdd, Nat.reduceSub, Nat.reduceBEq, Nat.reduceLT, Nat.reduceMul, Nat.reducePow, Nat.reduceLeDiff]; refine hK1 _ _ ?_; clear hK1 K1)); refine aops_nil ?_; simp only [Nx, Caught, if_true, if_false, reduceIte, Nat.reduceEqDiff]; clear gd sep)
    | (refine hK _ _ ?_; clear hK K)
    | (clear hK K)
    )
  refine awp_ret ?_; try simp only [Nx, Caught]
  apply ends_ret
  · simp (disch := first | with_reducible assumption | (simp -failIfUnchanged only [Mem.size_push, Mem.size_put, Mem.size_kill, List.length_cons, List.length_nil, List.length_append, List.length_map, List.length_take, List.length_replicate] <;> omega) | (refine (id ?_ : (_ : Bool) = true); simp only [go_sem, if_true, if_false, reduceIte, reduceCtorEq, Nat.reduceAdd, Nat.reduceSub, Nat.reduceBEq, Nat.reduceLT, Nat.reduceMul, Nat.reducePow, Nat.reduceLeDiff]; done) | fail "no") only [go_sem, if_true, if_false, reduceIte, reduceCtorEq, Nat.reduceAdd, Nat.reduceSub, Nat.reduceBEq, Nat.reduceLT, Nat.reduceMul, Nat.reducePow, Nat.reduceLeDiff, aress, ares1]; exact rfl
  simp only [tupled]
  refine ⟨by simp; omega, c13.mono ?_, ⟨a, b, c, rfl, (d1.chg c2 ab).chg c3 ac, d2.chg c3 bc, d3⟩⟩
  intro n hn
  have : ([a, b, c].filterMap blkOf) = [a].filterMap blkOf ++ [b].filterMap blkOf ++ [c].filterMap blkOf := by rw [← List.filterMap_append, ← List.filterMap_append]; rfl
  show n ∈ [a, b, c].filterMap blkOf
  rw [this]
  simpa using hn

theorem markGens_c {m : Mem} {v : AVal} {g : GP} {k : Int} {fl : Nat} (hv : RdG m v g) (ho : Own fl m v.cells) (h0 : 0 ≤ k) (h1 : k + g.cnt ≤ 4611686018427387904) :
    ∃ r m', (r = .int .i64 (k + g.cnt) ∧ Chg m m' (v.cells.filterMap blkOf) ∧ RdG m' v (g.mark k)) ∧ DCalls PP fl 43 [v, .int .i64 k] m r m' := by
  obtain ⟨a, b, c, d, e, rfl, ha, hb, hc, hd, he⟩ := hv
  have ho : Own fl m [a, b, c, d, e] := ho
  have e0 := Ext.push m [a, b, c, d, e]
  have ho0 := ho.ext e0
  have hoH : Own fl (m.push [a, b, c, d, e]) [a, b, c] := ho0.of_sub (by simp)
  have pw := ho.pw
  simp only [List.pairwise_cons, List.mem_cons, List.not_mem_nil, or_false, forall_eq_or_imp, forall_eq] at pw
  obtain ⟨⟨-, -, ad, ae⟩, ⟨-, bd, be⟩, ⟨cd, ce⟩, de, -⟩ := pw
  have abc : [a, b, c].filterMap blkOf = [a].filterMap blkOf ++ [b].filterMap blkOf ++ [c].filterMap blkOf := by rw [← List.filterMap_append, ← List.filterMap_append]; rfl
  have nm : ∀ x ∈ [a, b, c, d, e], m.size ∉ [x].filterMap blkOf := fun x hx => notMem_of fun k hk => by have := (ho.get hx hk).2.1; omega
  unfold GP.cnt at *
  refine enter Try.func43 (by decide) rfl Try.ntmps43 Try.results43 ?_
  repeat (first
    | (refine awp_seq fun K hK => ?_)
    | (refine awp_block ?_)
    | (refine awp_skip ?_; simp only [Nx, Caught, if_true, if_false, reduceIte, Nat.reduceEqDiff])
    | (refine awp_exit ?_; simp only [Nx, Caught, if_true, if_false, reduceIte, Nat.reduceEqDiff])
    | (refine region_seq fun gd sep hgd => ?_; clear hgd; (repeat (refine aops_cons fun K1 hK1 => ?_; simp (disch := first | with_reducible assumption | (simp -failIfUnchanged only [Mem.size_push, Mem.size_put, Mem.size_kill, List.length_cons, List.length_nil, List.length_append, List.length_map, List.length_take, List.length_replicate] <;> omega) | (refine (id ?_ : (_ : Bool) = true); simp only [go_sem, if_true, if_false, reduceIte, reduceCtorEq, Nat.reduceAdd, Nat.reduceSub, Nat.reduceBEq, Nat.reduceLT, Nat.reduceMul, Nat.reducePow, Nat.reduceLeDiff]; done) | fail "no") only [go_sem, if_true, if_false, reduceIte, reduceCtorEq, Nat.reduceAdd, Nat.reduceSub, Nat.reduceBEq, Nat.reduceLT, Nat.reduceMul, Nat.reducePow, Nat.reduceLeDiff]; refine hK1 _ _ ?_; clear hK1 K1)); refine aops_nil ?_; simp only [Nx, Caught, if_true, if_false, reduceIte, Nat.reduceEqDiff]; clear gd sep)
    | (refine region_draw' mixed (by decide +kernel) fun gd sep hgd hsep => ?_; clear hgd hsep; (repeat (refine aops_cons fun K1 hK1 => ?_; simp (disch := first | with_reducible assumption | (simp -failIfUnchanged only [Mem.size_push, Mem.size_put, Mem.size_kill, List.length_cons, List.length_nil, List.length_append, List.length_map, List.length_take, List.length_replicate] <;> omega) | (refine (id ?_ : (_ : Bool) = true); simp only [go_sem, if_true, if_false, reduceIte, reduceCtorEq, Nat.reduceAdd, Nat.reduceSub, Nat.reduceBEq, Nat.reduceLT, Nat.reduceMul, Nat.reducePow, Nat.reduceLeDiff]; done) | fail "no") only [go_sem, if_true, if_false, reduceIte, reduceCtorEq, Nat.reduceAdd, Nat.reduceSub, Nat.reduceBEq, Nat.reduceLT, Nat.reduceMul, Nat.reducePow, Nat.reduceLeDiff]; refine hK1 _ _ ?_; clear hK1 K1)); refine aops_nil ?_; simp only [Nx, Caught, if_true, if_false, reduceIte, Nat.reduceEqDiff]; clear gd sep)
    | (refine hK _ _ ?_; clear hK K)
    | (clear hK K)
    )
  refine region_seq fun gd sep hgd => ?_
  clear hgd
  (repeat (refine aops_cons fun K1 hK1 => ?_; simp (disch := first | with_reducible assumption | (simp -failIfUnchanged only [Mem.size_push, Mem.size_put, Mem.size_kill, List.length_cons, List.length_nil, List.length_append, List.length_map, List.length_take, List.length_replicate] <;> omega) | (refine (id ?_ : (_ : Bool) = true); simp only [go_sem, if_true, if_false, reduceIte, reduceCtorEq, Nat.reduceAdd, Nat.reduceSub, Nat.reduceBEq, Nat.reduceLT, Nat.reduceMul, Nat.reducePow, Nat.reduceLeDiff]; done) | fail "no") only [go_sem, if_true, if_false, reduceIte, reduceCtorEq, Nat.reduceAdd, Nat.reduceSub, Nat.reduceBEq, Nat.reduceLT, Nat.reduceMul, Nat.reducePow, Nat.reduceLeDiff]; refine hK1 _ _ ?_; clear hK1 K1))
  refine aops_cons fun K1 hK1 => ?_
  simp (disch := first | with_reducible assumption | (simp -failIfUnchanged only [Mem.size_push, Mem.size_put, Mem.size_kill, List.length_cons, List.length_nil, List.length_append, List.length_map, List.length_take, List.length_replicate] <;> omega) | (refine (id ?_ : (_ : Bool) = true); simp only [go_sem, if_true, if_false, reduceIte, reduceCtorEq, Nat.reduceAdd, Nat.reduceSub, Nat.reduceBEq, Nat.reduceLT, Nat.reduceMul, Nat.reducePow, Nat.reduceLeDiff]; done) | fail "no") only [go_sem, if_true, if_false, reduceIte, reduceCtorEq, Nat.reduceAdd, Nat.reduceSub, Nat.reduceBEq, Nat.reduceLT, Nat.reduceMul, Nat.reducePow, Nat.reduceLeDiff]
  refine acallw rfl (markHeap_c (h := g.h) ⟨a, b, c, rfl, ha.ext e0, hb.ext e0, hc.ext e0⟩ hoH h0 (by omega)) ?_
  rintro r1 m1 ⟨rfl, c1, d1⟩
  refine hK1 _ _ ?_; clear hK1 K1
  rw [show (AVal.agg [a, b, c]).cells = [a, b, c] from rfl, abc] at c1
  obtain ⟨_, _, _, hh, da, db, dc⟩ := d1
  cases hh
  have q1 : ∀ o, ald m1 m.size o = ald (m.push [a, b, c, d, e]) m.size o := fun o => c1.ald (by simp) (notMem_append (notMem_append (nm a (by simp)) (nm b (by simp))) (nm c (by simp)))
  (repeat (refine aops_cons fun K1 hK1 => ?_; simp (disch := first | with_reducible assumption | (simp -failIfUnchanged only [Mem.size_push, Mem.size_put, Mem.size_kill, List.length_cons, List.length_nil, List.length_append, List.length_map, List.length_take, List.length_replicate] <;> omega) | (refine (id ?_ : (_ : Bool) = true); simp only [go_sem, if_true, if_false, reduceIte, reduceCtorEq, Nat.reduceAdd, Nat.reduceSub, Nat.reduceBEq, Nat.reduceLT, Nat.reduceMul, Nat.reducePow, Nat.reduceLeDiff]; done) | fail "no") only [go_sem, if_true, if_false, reduceIte, reduceCtorEq, Nat.reduceAdd, Nat.reduceSub, Nat.reduceBEq, Nat.reduceLT, Nat.reduceMul, Nat.reducePow, Nat.reduceLeDiff]; refine hK1 _ _ ?_; clear hK1 K1))
  refine aops_nil ?_; simp only [Nx, Caught, if_true, if_false, reduceIte, Nat.reduceEqDiff]
  try clear gd sep
  first | (refine hK _ _ ?_; clear hK K) | skip
  repeat (first
    | (refine awp_seq fun K hK => ?_)
    | (refine awp_block ?_)
    | (refine awp_skip ?_; simp only [Nx, Caught, if_true, if_false, reduceIte, Nat.reduceEqDiff])
    | (refine awp_exit ?_; simp only [Nx, Caught, if_true, if_false, reduceIte, Nat.reduceEqDiff])
    | (refine region_seq fun gd sep hgd => ?_; clear hgd; (repeat (refine aops_cons fun K1 hK1 => ?_; simp (disch := first | with_reducible assumption | (simp -failIfUnchanged only [Mem.size_push, Mem.size_put, Mem.size_kill, List.length_cons, List.length_nil, List.length_append, List.length_map, List.length_take, List.length_replicate, q1] <;> omega) | (refine (id ?_ : (_ : Bool) = true); simp only [go_sem, if_true, if_false, reduceIte, reduceCtorEq, Nat.reduceAdd, Nat.reduceSub, Nat.reduceBEq, Nat.reduceLT, Nat.reduceMul, Nat.reducePow, Nat.reduceLeDiff, q1]; done) | fail "no") only [go_sem, if_true, if_false, reduceIte, reduceCtorEq, Nat.reduceAdd, Nat.reduceSub, Nat.reduceBEq, Nat.reduceLT, Nat.reduceMul, Nat.reducePow, Nat.reduceLeDiff, q1]; refine hK1 _ _ ?_; clear hK1 K1)); refine aops_nil ?_; simp only [Nx, Caught, if_true, if_false, reduceIte, Nat.reduceEqDiff]; clear gd sep)
    | (refine region_draw' mixed (by decide +kernel) fun gd sep hgd hsep => ?_; clear hgd hsep; (repeat (refine aops_cons fun K1 hK1 => ?_; simp (disch := first | with_reducible assumption | (simp -failIfUnchanged only [Mem.size_push, Mem.size_put, Mem.size_kill, List.length_cons, List.length_nil, List.length_append, List.length_map, List.length_take, List.length_replicate, q1] <;> omega) | (refine (id ?_ : (_ : Bool) = true); simp only [go_sem, if_true, if_false, reduceIte, reduceCtorEq, Nat.reduceAdd, Nat.reduceSub, Nat.reduceBEq, Nat.reduceLT, Nat.reduceMul, Nat.reducePow, Nat.reduceLeDiff, q1]; done) | fail "no") only [go_sem, if_true, if_false, reduceIte, reduceCtorEq, Nat.reduceAdd, Nat.reduceSub, Nat.reduceBEq, Nat.reduceLT, Nat.reduceMul, Nat.reducePow, Nat.reduceLeDiff, q1]; refine hK1 _ _ ?_; clear hK1 K1)); refine aops_nil ?_; simp only [Nx, Caught, if_true, if_false, reduceIte, Nat.reduceEqDiff]; clear gd sep)
    | (refine hK _ _ ?_; clear hK K)
    | (clear hK K)
    )
  refine region_seq fun gd sep hgd => ?_
  clear hgd
  (repeat (refine aops_cons fun K1 hK1 => ?_; simp (disch := first | with_reducible assumption | (simp -failIfUnchanged only [Mem.size_push, Mem.size_put, Mem.size_kill, List.length_cons, List.length_nil, List.length_append, List.length_map, List.length_take, List.length_replicate, q1] <;> omega) | (refine (id ?_ : (_ : Bool) = true); simp only [go_sem, if_true, if_false, reduceIte, reduceCtorEq, Nat.reduceAdd, Nat.reduceSub, Nat.reduceBEq, Nat.reduceLT, Nat.reduceMul, Nat.reducePow, Nat.reduceLeDiff, q1]; done) | fail "no") only [go_sem, if_true, if_false, reduceIte, reduceCtorEq, Nat.reduceAdd, Nat.reduceSub, Nat.reduceBEq, Nat.reduceLT, Nat.reduceMul, Nat.reducePow, Nat.reduceLeDiff, q1]; refine hK1 _ _ ?_; clear hK1 K1))
  refine aops_cons fun K1 hK1 => ?_
  simp (disch := first | with_reducible assumption | (simp -failIfUnchanged only [Mem.size_push, Mem.size_put, Mem.size_kill, List.length_cons, List.length_nil, List.length_append, List.length_map, List.length_take, List.length_replicate] <;> omega) | (refine (id ?_ : (_ : Bool) = true); simp only [go_sem, if_true, if_false, reduceIte, reduceCtorEq, Nat.reduceAdd, Nat.reduceSub, Nat.reduceBEq, Nat.reduceLT, Nat.reduceMul, Nat.reducePow, Nat.reduceLeDiff]; done) | fail "no") only [go_sem, if_true, if_false, reduceIte, reduceCtorEq, Nat.reduceAdd, Nat.reduceSub, Nat.reduceBEq, Nat.reduceLT, Nat.reduceMul, Nat.reducePow, Nat.reduceLeDiff]
  refine acallw rfl (markBoolS_c ((hd.ext e0).chg c1 (fun n hn => notMem_append (notMem_append (notMem_swap ad n hn) (notMem_swap bd n hn)) (notMem_swap cd n hn))) (fun n hn => (ho0.chg c1).get (by simp) hn) (by omega) (by omega)) ?_
  rintro r2 m2 ⟨rfl, c2, z2, d2⟩
  refine hK1 _ _ ?_; clear hK1 K1
  have c12 := c1.trans c2
  have q2 : ∀ o, ald m2 m.size o = ald (m.push [a, b, c, d, e]) m.size o := fun o => c12.ald (by simp) (notMem_append (notMem_append (notMem_append (nm a (by simp)) (nm b (by simp))) (nm c (by simp))) (nm d (by simp)))
  (repeat (refine aops_cons fun K1 hK1 => ?_; simp (disch := first | with_reducible assumption | (simp -failIfUnchanged only [Mem.size_push, Mem.size_put, Mem.size_kill, List.length_cons, List.length_nil, List.length_append, List.length_map, List.length_take, List.length_replicate] <;> omega) | (refine (id ?_ : (_ : Bool) = true); simp only [go_sem, if_true, if_false, reduceIte, reduceCtorEq, Nat.reduceAdd, Nat.reduceSub, Nat.reduceBEq, Nat.reduceLT, Nat.reduceMul, Nat.reducePow, Nat.reduceLeDiff]; done) | fail "no") only [go_sem, if_true, if_false, reduceIte, reduceCtorEq, Nat.reduceAdd, Nat.reduceSub, Nat.reduceBEq, Nat.reduceLT, Nat.reduceMul, Nat.reducePow, Nat.reduceLeDiff]; refine hK1 _ _ ?_; clear hK1 K1))
  refine aops_nil ?_; simp only [Nx, Caught, if_true, if_false, reduceIte, Nat.reduceEqDiff]
  try clear gd sep
  first | (refine hK _ _ ?_; clear hK K) | skip
  repeat (first
    | (refine awp_seq fun K hK => ?_)
    | (refine awp_block ?_)
    | (refine awp_skip ?_; simp only [Nx, Caught, if_true, if_false, reduceIte, Nat.reduceEqDiff])
    | (refine awp_exit ?_; simp only [Nx, Caught, if_true, if_false, reduceIte, Nat.reduceEqDiff])
    | (refine region_seq fun gd sep hgd => ?_; clear hgd; (repeat (refine aops_cons fun K1 hK1 => ?_; simp (disch := first | with_reducible assumption | (simp -failIfUnchanged only [Mem.size_push, Mem.size_put, Mem.size_kill, List.length_cons, List.length_nil, List.length_append, List.length_map, List.length_take, List.length_replicate, q2] <;> omega) | (refine (id ?_ : (_ : Bool) = true); simp only [go_sem, if_true, if_false, reduceIte, reduceCtorEq, Nat.reduceAdd, Nat.reduceSub, Nat.reduceBEq, Nat.reduceLT, Nat.reduceMul, Nat.reducePow, Nat.reduceLeDiff, q2]; done) | fail "no") only [go_sem, if_true, if_false, reduceIte, reduceCtorEq, Nat.reduceAdd, Nat.reduceSub, Nat.reduceBEq, Nat.reduceLT, Nat.reduceMul, Nat.reducePow, Nat.reduceLeDiff, q2]; refine hK1 _ _ ?_; clear hK1 K1)); refine aops_nil ?_; simp only [Nx, Caught, if_true, if_false, reduceIte, Nat.reduceEqDiff]; clear gd sep)
    | (refine region_draw' mixed (by decide +kernel) fun gd sep hgd hsep => ?_; clear hgd hsep; (repeat (refine aops_cons fun K1 hK1 => ?_; simp (disch := first | with_reducible assumption | (simp -failIfUnchanged only [Mem.size_push, Mem.size_put, Mem.size_kill, List.length_cons, List.length_nil, List.length_append, List.length_map, List.length_take, List.length_replicate, q2] <;> omega) | (refine (id ?_ : (_ : Bool) = true); simp only [go_sem, if_true, if_false, reduceIte, reduceCtorEq, Nat.reduceAdd, Nat.reduceSub, Nat.reduceBEq, Nat.reduceLT, Nat.reduceMul, Nat.reducePow, Nat.reduceLeDiff, q2]; done) | fail "no") only [go_sem, if_true, if_false, reduceIte, reduceCtorEq, Nat.reduceAdd, Nat.reduceSub, Nat.reduceBEq, Nat.reduceLT, Nat.reduceMul, Nat.reducePow, Nat.reduceLeDiff, q2]; refine hK1 _ _ ?_; clear hK1 K1)); refine aops_nil ?_; simp only [Nx, Caught, if_true, if_false, reduceIte, Nat.reduceEqDiff]; clear gd sep)
    | (refine hK _ _ ?_; clear hK K)
    | (clear hK K)
    )
  refine region_seq fun gd sep hgd => ?_
  clear hgd
  (repeat (refine aops_cons fun K1 hK1 => ?_; simp (disch := first | with_reducible assumption | (simp -failIfUnchanged only [Mem.size_push, Mem.size_put, Mem.size_kill, List.length_cons, List.length_nil, List.length_append, List.length_map, List.length_take, List.length_replicate, q2] <;> omega) | (refine (id ?_ : (_ : Bool) = true); simp only [go_sem, if_true, if_false, reduceIte, reduceCtorEq, Nat.reduceAdd, Nat.reduceSub, Nat.reduceBEq, Nat.reduceLT, Nat.reduceMul, Nat.reducePow, Nat.reduceLeDiff, q2]; done) | fail "no") only [go_sem, if_true, if_false, reduceIte, reduceCtorEq, Nat.reduceAdd, Nat.reduceSub, Nat.reduceBEq, Nat.reduceLT, Nat.reduceMul, Nat.reducePow, Nat.reduceLeDiff, q2]; refine hK1 _ _ ?_; clear hK1 K1))
  refine aops_cons fun K1 hK1 => ?_
  simp (disch := first | with_reducible assumption | (simp -failIfUnchanged only [Mem.size_push, Mem.size_put, Mem.size_kill, List.length_cons, List.length_nil, List.length_append, List.length_map, List.length_take, List.length_replicate] <;> omega) | (refine (id ?_ : (_ : Bool) = true); simp only [go_sem, if_true, if_false, reduceIte, reduceCtorEq, Nat.reduceAdd, Nat.reduceSub, Nat.reduceBEq, Nat.reduceLT, Nat.reduceMul, Nat.reducePow, Nat.reduceLeDiff]; done) | fail "no") only [go_sem, if_true, if_false, reduceIte, reduceCtorEq, Nat.reduceAdd, Nat.reduceSub, Nat.reduceBEq, Nat.reduceLT, Nat.reduceMul, Nat.reducePow, Nat.reduceLeDiff]
  refine acallw rfl (markIntS_c ((he.ext e0).chg c12 (fun n hn => notMem_append (notMem_append (notMem_append (notMem_swap ae n hn) (notMem_swap be n hn)) (notMem_swap ce n hn)) (notMem_swap de n hn))) (fun n hn => (ho0.chg c12).get (by simp) hn) (by omega) (by omega)) ?_
  rintro r3 m3 ⟨rfl, c3, z3, d3⟩
  refine hK1 _ _ ?_; clear hK1 K1
  have c13 := (e0.chg.trans c12).trans c3
  (repeat (refine aops_cons fun K1 hK1 => ?_; simp (disch := first | with_reducible assumption | (simp -failIfUnchanged only [Mem.size_push, Mem.size_put, Mem.size_kill, List.length_cons, List.length_nil, List.length_append, List.length_map, List.length_take, List.length_replicate] <;> omega) | (refine (id ?_ : (_ : Bool) = true); simp only [go_sem, if_true, if_false, reduceIte, reduceCtorEq, Nat.reduceAdd, Nat.reduceSub, Nat.reduceBEq, Nat.reduceLT, Nat.reduceMul, Nat.reducePow, Nat.reduceLeDiff]; done) | fail "no") only [go_sem, if_true, if_false, reduceIte, reduceCtorEq, Nat.reduceAdd, Nat.reduceSub, Nat.reduceBEq, Nat.reduceLT, Nat.reduceMul, Nat.reducePow, Nat.reduceLeDiff]; refine hK1 _ _ ?_; clear hK1 K1))
  refine aops_nil ?_; simp only [Nx, Caught, if_true, if_false, reduceIte, Nat.reduceEqDiff]
  try clear gd sep
  first | (refine hK _ _ ?_; clear hK K) | skip
  repeat (first
    | (refine awp_seq fun K hK => ?_)
    | (refine awp_block ?_)
    | (refine awp_skip ?_; simp only [Nx, Caught, if_true, if_false, reduceIte, Nat.reduceEqDiff])
    | (refine awp_exit ?_; simp only [Nx, Caught, if_true, if_false, reduceIte, Nat.reduceEqDiff])
    | (refine region_seq fun gd sep hgd => ?_; clear hgd; (repeat (refine aops_cons fun K1 hK1 => ?_; simp (disch := first | with_reducible assumption | (simp -failIfUnchanged only [Mem.size_push, Mem.size_put, Mem.size_kill, List.length_cons, List.length_nil, List.length_append, List.length_map, List.length_take, List.length_replicate] <;> omega) | (refine (id ?_ : (_ : Bool) = true); simp only [go_sem, if_true, if_false, reduceIte, reduceCtorEq, Nat.reduceAdd, Nat.reduceSub, Nat.reduceBEq, Nat.reduceLT, Nat.reduceMul, Nat.reducePow, Nat.reduceLeDiff]; done) | fail "no") only [go_sem, if_true, if_false, reduceIte, reduceCtorEq, Nat.reduceAdd, Nat.reduceSub, Nat.reduceBEq, Nat.reduceLT, Nat.reduceMul, Nat.reducePow, Nat.reduceLeDiff]; refine hK1 _ _ ?_; clear hK1 K1)); refine aops_nil ?_; simp only [Nx, Caught, if_true, if_false, reduceIte, Nat.reduceEqDiff]; clear gd sep)
    | (refine region_draw' mixed (by decide +kernel) fun gd sep hgd hsep => ?_; clear hgd hsep; (repeat (refine aops_cons fun K1 hK1 => ?_; simp (disch := first | with_reducible assumption | (simp -failIfUnchanged only [Mem.size_push, Mem.size_put, Mem.size_kill, List.length_cons, List.length_nil, List.length_append, List.length_map, List.length_take, List.length_replicate] <;> omega) | (refine (id ?_ : (_ : Bool) = true); simp only [go_sem, if_true, if_false, reduceIte, reduceCtorEq, Nat.reduceAdd, Nat.reduceSub, Nat.reduceBEq, Nat.reduceLT, Nat.reduceMul, Nat.reducePow, Nat.reduceLeDiff]; done) | fail "no") only [go_sem, if_true, if_false, reduceIte, reduceCtorEq, Nat.reduceAdd, Nat.reduceSub, Nat.reduceBEq, Nat.reduceLT, Nat.reduceMul, Nat.reducePow, Nat.reduceLeDiff]; refine hK1 _ _ ?_; clear hK1 K1)); refine aops_nil ?_; simp only [Nx, Caught, if_true, if_false, reduceIte, Nat.reduceEqDiff]; clear gd sep)
    | (refine hK _ _ ?_; clear hK K)
    | (clear hK K)
    )
  refine awp_ret ?_; try simp only [Nx, Caught]
  apply ends_ret
  · simp (disch := first | with_reducible assumption | (simp -failIfUnchanged only [Mem.size_push, Mem.size_put, Mem.size_kill, List.length_cons, List.length_nil, List.length_append, List.length_map, List.length_take, List.length_replicate] <;> omega) | (refine (id ?_ : (_ : Bool) = true); simp only [go_sem, if_true, if_false, reduceIte, reduceCtorEq, Nat.reduceAdd, Nat.reduceSub, Nat.reduceBEq, Nat.reduceLT, Nat.reduceMul, Nat.reducePow, Nat.reduceLeDiff]; done) | fail "no") only [go_sem, if_true, if_false, reduceIte, reduceCtorEq, Nat.reduceAdd, Nat.reduceSub, Nat.reduceBEq, Nat.reduceLT, Nat.reduceMul, Nat.reducePow, Nat.reduceLeDiff, aress, ares1]; exact rfl
  simp only [tupled]
  refine ⟨by simp; omega, c13.mono ?_, ⟨a, b, c, d, e, rfl, (da.chg c2 ad).chg c3 ae, (db.chg c2 bd).chg c3 be, (dc.chg c2 cd).chg c3 ce, d2.chg c3 de, d3⟩⟩
  intro n hn
  have : ([a, b, c, d, e].filterMap blkOf) = [a, b, c].filterMap blkOf ++ [d].filterMap blkOf ++ [e].filterMap blkOf := by rw [← List.filterMap_append, ← List.filterMap_append]; rfl
  show n ∈ [a, b, c, d, e].filterMap blkOf
  rw [this, abc]
  simpa using hn

theorem iHeapSame_c {m : Mem} {v w : AVal} {x y : HP} (hv : RdH m v x) (hw : RdH m w y) (hx : x.lens 1099511627776) :
    ∃ r m', (r = .bool (x.same y)) ∧ DCalls PP m.size 53 [v, w] m r m' := by
  obtain ⟨a, b, c, rfl, ha, hb, hc⟩ := hv
  obtain ⟨a', b', c', rfl, ha', hb', hc'⟩ := hw
  refine enter Try.func53 (by decide) rfl Try.ntmps53 Try.results53 ?_
  repeat (first
    | (refine awp_seq fun K hK => ?_)
    | (refine awp_block ?_)
    | (refine awp_skip ?_; simp only [Nx, Caught, if_true, if_false, reduceIte, Nat.reduceEqDiff])
    | (refine awp_exit ?_; simp only [Nx, Caught, if_true, if_false, reduceIte, Nat.reduceEqDiff])
    | (refine region_seq fun gd sep hgd => ?_; clear hgd; (repeat (refine aops_cons fun K1 hK1 => ?_; simp (disch := first | with_reducible assumption | (simp -failIfUnchanged only [Mem.size_push, Mem.size_put, Mem.size_kill, List.length_cons, List.length_nil, List.length_append, List.length_map, List.length_take, List.length_replicate] <;> omega) | (refine (id ?_ : (_ : Bool) = true); simp only [go_sem, if_true, if_false, reduceIte, reduceCtorEq, Nat.reduceAdd, Nat.reduceSub, Nat.reduceBEq, Nat.reduceLT, Nat.reduceMul, Nat.reducePow, Nat.reduceLeDiff]; done) | fail "no") only [go_sem, if_true, if_false, reduceIte, reduceCtorEq, Nat.reduceAdd, Nat.reduceSub, Nat.reduceBEq, Nat.reduceLT, Nat.reduceMul, Nat.reducePow, Nat.reduceLeDiff]; refine hK1 _ _ ?_; clear hK1 K1)); refine aops_nil ?_; simp only [Nx, Caught, if_true, if_false, reduceIte, Nat.reduceEqDiff]; clear gd sep)
    | (refine region_draw' mixed (by decide +kernel) fun gd sep hgd hsep => ?_; clear hgd hsep; (repeat (refine aops_cons fun K1 hK1 => ?_; simp (disch := first | with_reducible assumption | (simp -failIfUnchanged only [Mem.size_push, Mem.size_put, Mem.size_kill, List.length_cons, List.length_nil, List.length_append, List.length_map, List.length_take, List.length_replicate] <;> omega) | (refine (id ?_ : (_ : Bool) = true); simp only [go_sem, if_true, if_false, reduceIte, reduceCtorEq, Nat.reduceAdd, Nat.reduceSub, Nat.reduceBEq, Nat.reduceLT, Nat.reduceMul, Nat.reducePow, Nat.reduceLeDiff]; done) | fail "no") only [go_sem, if_true, if_false, reduceIte, reduceCtorEq, Nat.reduceAdd, Nat.reduceSub, Nat.reduceBEq, Nat.reduceLT, Nat.reduceMul, Nat.reducePow, Nat.reduceLeDiff]; refine hK1 _ _ ?_; clear hK1 K1)); refine aops_nil ?_; simp only [Nx, Caught, if_true, if_false, reduceIte, Nat.reduceEqDiff]; clear gd sep)
    | (refine hK _ _ ?_; clear hK K)
    | (clear hK K)
    )
  refine region_seq fun gd sep hgd => ?_
  have g5 : gd 5 = some 10 := hgd 5; have g12 : gd 12 = some 17 := hgd 12; clear hgd
  (repeat (refine aops_cons fun K1 hK1 => ?_; simp (disch := first | with_reducible assumption | (simp -failIfUnchanged only [Mem.size_push, Mem.size_put, Mem.size_kill, List.length_cons, List.length_nil, List.length_append, List.length_map, List.length_take, List.length_replicate, g5, g12] <;> omega) | (refine (id ?_ : (_ : Bool) = true); simp only [go_sem, if_true, if_false, reduceIte, reduceCtorEq, Nat.reduceAdd, Nat.reduceSub, Nat.reduceBEq, Nat.reduceLT, Nat.reduceMul, Nat.reducePow, Nat.reduceLeDiff, g5, g12]; done) | fail "no") only [go_sem, if_true, if_false, reduceIte, reduceCtorEq, Nat.reduceAdd, Nat.reduceSub, Nat.reduceBEq, Nat.reduceLT, Nat.reduceMul, Nat.reducePow, Nat.reduceLeDiff, g5, g12]; refine hK1 _ _ ?_; clear hK1 K1))
  refine aops_cons fun K1 hK1 => ?_
  simp (disch := first | with_reducible assumption | (simp -failIfUnchanged only [Mem.size_push, Mem.size_put, Mem.size_kill, List.length_cons, List.length_nil, List.length_append, List.length_map, List.length_take, List.length_replicate] <;> omega) | (refine (id ?_ : (_ : Bool) = true); simp only [go_sem, if_true, if_false, reduceIte, reduceCtorEq, Nat.reduceAdd, Nat.reduceSub, Nat.reduceBEq, Nat.reduceLT, Nat.reduceMul, Nat.reducePow, Nat.reduceLeDiff]; done) | fail "no") only [go_sem, if_true, if_false, reduceIte, reduceCtorEq, Nat.reduceAdd, Nat.reduceSub, Nat.reduceBEq, Nat.reduceLT, Nat.reduceMul, Nat.reducePow, Nat.reduceLeDiff]
  refine acall rfl (sEqI_c (ha.ext (by with_reducible iterate 60 (try (first | exact Ext.refl _ | assumption | exact Ext.push _ _ | refine Ext.trans ?_ (Ext.push _ _) | (refine Ext.put ?_ (by first | omega | (simp only [Mem.size_push]; omega)) _) | (refine Ext.trans ?_ (by assumption)))))) (ha'.ext (by with_reducible iterate 60 (try (first | exact Ext.refl _ | assumption | exact Ext.push _ _ | refine Ext.trans ?_ (Ext.push _ _) | (refine Ext.put ?_ (by first | omega | (simp only [Mem.size_push]; omega)) _) | (refine Ext.trans ?_ (by assumption)))))) hx.1) ?_
  rintro r1 m1 ⟨rfl, rfl⟩ -
  refine hK1 _ _ ?_; clear hK1 K1
  cases h1 : (x.l == y.l)
  case false =>
    (repeat (refine aops_cons fun K1 hK1 => ?_; simp (disch := first | with_reducible assumption | (simp -failIfUnchanged only [Mem.size_push, Mem.size_put, Mem.size_kill, List.length_cons, List.length_nil, List.length_append, List.length_map, List.length_take, List.length_replicate, g5, g12, h1] <;> omega) | (refine (id ?_ : (_ : Bool) = true); simp only [go_sem, if_true, if_false, reduceIte, reduceCtorEq, Nat.reduceAdd, Nat.reduceSub, Nat.reduceBEq, Nat.reduceLT, Nat.reduceMul, Nat.reducePow, Nat.reduceLeDiff, g5, g12, h1]; done) | fail "no") only [go_sem, if_true, if_false, reduceIte, reduceCtorEq, Nat.reduceAdd, Nat.reduceSub, Nat.reduceBEq, Nat.reduceLT, Nat.reduceMul, Nat.reducePow, Nat.reduceLeDiff, g5, g12, h1]; refine hK1 _ _ ?_; clear hK1 K1))
    refine aops_nil ?_; simp only [Nx, Caught, if_true, if_false, reduceIte, Nat.reduceEqDiff]
    try clear g5 g12 gd sep
    first | (refine hK _ _ ?_; clear hK K) | skip
    refine awp_ret ?_; try simp only [Nx, Caught]
    apply ends_ret
    · simp (disch := first | with_reducible assumption | (simp -failIfUnchanged only [Mem.size_push, Mem.size_put, Mem.size_kill, List.length_cons, List.length_nil, List.length_append, List.length_map, List.length_take, List.length_replicate] <;> omega) | (refine (id ?_ : (_ : Bool) = true); simp only [go_sem, if_true, if_false, reduceIte, reduceCtorEq, Nat.reduceAdd, Nat.reduceSub, Nat.reduceBEq, Nat.reduceLT, Nat.reduceMul, Nat.reducePow, Nat.reduceLeDiff]; done) | fail "no") only [go_sem, if_true, if_false, reduceIte, reduceCtorEq, Nat.reduceAdd, Nat.reduceSub, Nat.reduceBEq, Nat.reduceLT, Nat.reduceMul, Nat.reducePow, Nat.reduceLeDiff, aress, ares1]; exact rfl
    simp only [tupled]
    simp [HP.same, h1]
  (repeat (refine aops_cons fun K1 hK1 => ?_; simp (disch := first | with_reducible assumption | (simp -failIfUnchanged only [Mem.size_push, Mem.size_put, Mem.size_kill, List.length_cons, List.length_nil, List.length_append, List.length_map, List.length_take, List.length_replicate, g5, g12, h1] <;> omega) | (refine (id ?_ : (_ : Bool) = true); simp only [go_sem, if_true, if_false, reduceIte, reduceCtorEq, Nat.reduceAdd, Nat.reduceSub, Nat.reduceBEq, Nat.reduceLT, Nat.reduceMul, Nat.reducePow, Nat.reduceLeDiff, g5, g12, h1]; done) | fail "no") only [go_sem, if_true, if_false, reduceIte, reduceCtorEq, Nat.reduceAdd, Nat.reduceSub, Nat.reduceBEq, Nat.reduceLT, Nat.reduceMul, Nat.reducePow, Nat.reduceLeDiff, g5, g12, h1]; refine hK1 _ _ ?_; clear hK1 K1))
  refine aops_cons fun K1 hK1 => ?_
  simp (disch := first | with_reducible assumption | (simp -failIfUnchanged only [Mem.size_push, Mem.size_put, Mem.size_kill, List.length_cons, List.length_nil, List.length_append, List.length_map, List.length_take, List.length_replicate, g5, g12, h1] <;> omega) | (refine (id ?_ : (_ : Bool) = true); simp only [go_sem, if_true, if_false, reduceIte, reduceCtorEq, Nat.reduceAdd, Nat.reduceSub, Nat.reduceBEq, Nat.reduceLT, Nat.reduceMul, Nat.reducePow, Nat.reduceLeDiff, g5, g12, h1]; done) | fail "no") only [go_sem, if_true, if_false, reduceIte, reduceCtorEq, Nat.reduceAdd, Nat.reduceSub, Nat.reduceBEq, Nat.reduceLT, Nat.reduceMul, Nat.reducePow, Nat.reduceLeDiff, g5, g12, h1]
  refine acall rfl (sEqI_c (hb.ext (by with_reducible iterate 60 (try (first | exact Ext.refl _ | assumption | exact Ext.push _ _ | refine Ext.trans ?_ (Ext.push _ _) | (refine Ext.put ?_ (by first | omega | (simp only [Mem.size_push]; omega)) _) | (refine Ext.trans ?_ (by assumption)))))) (hb'.ext (by with_reducible iterate 60 (try (first | exact Ext.refl _ | assumption | exact Ext.push _ _ | refine Ext.trans ?_ (Ext.push _ _) | (refine Ext.put ?_ (by first | omega | (simp only [Mem.size_push]; omega)) _) | (refine Ext.trans ?_ (by assumption)))))) hx.2.1) ?_
  rintro r2 m2 ⟨rfl, rfl⟩ -
  refine hK1 _ _ ?_; clear hK1 K1
  cases h2 : (x.r == y.r)
  case false =>
    (repeat (refine aops_cons fun K1 hK1 => ?_; simp (disch := first | with_reducible assumption | (simp -failIfUnchanged only [Mem.size_push, Mem.size_put, Mem.size_kill, List.length_cons, List.length_nil, List.length_append, List.length_map, List.length_take, List.length_replicate, g5, g12, h1, h2] <;> omega) | (refine (id ?_ : (_ : Bool) = true); simp only [go_sem, if_true, if_false, reduceIte, reduceCtorEq, Nat.reduceAdd, Nat.reduceSub, Nat.reduceBEq, Nat.reduceLT, Nat.reduceMul, Nat.reducePow, Nat.reduceLeDiff, g5, g12, h1, h2]; done) | fail "no") only [go_sem, if_true, if_false, reduceIte, reduceCtorEq, Nat.reduceAdd, Nat.reduceSub, Nat.reduceBEq, Nat.reduceLT, Nat.reduceMul, Nat.reducePow, Nat.reduceLeDiff, g5, g12, h1, h2]; refine hK1 _ _ ?_; clear hK1 K1))
    refine aops_nil ?_; simp only [Nx, Caught, if_true, if_false, reduceIte, Nat.reduceEqDiff]
    try clear g5 g12 gd sep
    first | (refine hK _ _ ?_; clear hK K) | skip
    refine awp_ret ?_; try simp only [Nx, Caught]
    apply ends_ret
    · simp (disch := first | with_reducible assumption | (simp -failIfUnchanged only [Mem.size_push, Mem.size_put, Mem.size_kill, List.length_cons, List.length_nil, List.length_append, List.length_map, List.length_take, List.length_replicate] <;> omega) | (refine (id ?_ : (_ : Bool) = true); simp only [go_sem, if_true, if_false, reduceIte, reduceCtorEq, Nat.reduceAdd, Nat.reduceSub, Nat.reduceBEq, Nat.reduceLT, Nat.reduceMul, Nat.reducePow, Nat.reduceLeDiff]; done) | fail "no") only [go_sem, if_true, if_false, reduceIte, reduceCtorEq, Nat.reduceAdd, Nat.reduceSub, Nat.reduceBEq, Nat.reduceLT, Nat.reduceMul, Nat.reducePow, Nat.reduceLeDiff, aress, ares1]; exact rfl
    simp only [tupled]
    simp [HP.same, h1, h2]
  (repeat (refine aops_cons fun K1 hK1 => ?_; simp (disch := first | with_reducible assumption | (simp -failIfUnchanged only [Mem.size_push, Mem.size_put, Mem.size_kill, List.length_cons, List.length_nil, List.length_append, List.length_map, List.length_take, List.length_replicate, g5, g12, h1, h2] <;> omega) | (refine (id ?_ : (_ : Bool) = true); simp only [go_sem, if_true, if_false, reduceIte, reduceCtorEq, Nat.reduceAdd, Nat.reduceSub, Nat.reduceBEq, Nat.reduceLT, Nat.reduceMul, Nat.reducePow, Nat.reduceLeDiff, g5, g12, h1, h2]; done) | fail "no") only [go_sem, if_true, if_false, reduceIte, reduceCtorEq, Nat.reduceAdd, Nat.reduceSub, Nat.reduceBEq, Nat.reduceLT, Nat.reduceMul, Nat.reducePow, Nat.reduceLeDiff, g5, g12, h1, h2]; refine hK1 _ _ ?_; clear hK1 K1))
  refine aops_cons fun K1 hK1 => ?_
  simp (disch := first | with_reducible assumption | (simp -failIfUnchanged only [Mem.size_push, Mem.size_put, Mem.size_kill, List.length_cons, List.length_nil, List.length_append, List.length_map, List.length_take, List.length_replicate, g5, g12, h1, h2] <;> omega) | (refine (id ?_ : (_ : Bool) = true); simp only [go_sem, if_true, if_false, reduceIte, reduceCtorEq, Nat.reduceAdd, Nat.reduceSub, Nat.reduceBEq, Nat.reduceLT, Nat.reduceMul, Nat.reducePow, Nat.reduceLeDiff, g5, g12, h1, h2]; done) | fail "no") only [go_sem, if_true, if_false, reduceIte, reduceCtorEq, Nat.reduceAdd, Nat.reduceSub, Nat.reduceBEq, Nat.reduceLT, Nat.reduceMul, Nat.reducePow, Nat.reduceLeDiff, g5, g12, h1, h2]
  refine acall rfl (sEqI_c (hc.ext (by with_reducible iterate 60 (try (first | exact Ext.refl _ | assumption | exact Ext.push _ _ | refine Ext.trans ?_ (Ext.push _ _) | (refine Ext.put ?_ (by first | omega | (simp only [Mem.size_push]; omega)) _) | (refine Ext.trans ?_ (by assumption)))))) (hc'.ext (by with_reducible iterate 60 (try (first | exact Ext.refl _ | assumption | exact Ext.push _ _ | refine Ext.trans ?_ (Ext.push _ _) | (refine Ext.put ?_ (by first | omega | (simp only [Mem.size_push]; omega)) _) | (refine Ext.trans ?_ (by assumption)))))) hx.2.2) ?_
  rintro r3 m3 ⟨rfl, rfl⟩ -
  refine hK1 _ _ ?_; clear hK1 K1
  (repeat (refine aops_cons fun K1 hK1 => ?_; simp (disch := first | with_reducible assumption | (simp -failIfUnchanged only [Mem.size_push, Mem.size_put, Mem.size_kill, List.length_cons, List.length_nil, List.length_append, List.length_map, List.length_take, List.length_replicate, g5, g12, h1, h2] <;> omega) | (refine (id ?_ : (_ : Bool) = true); simp only [go_sem, if_true, if_false, reduceIte, reduceCtorEq, Nat.reduceAdd, Nat.reduceSub, Nat.reduceBEq, Nat.reduceLT, Nat.reduceMul, Nat.reducePow, Nat.reduceLeDiff, g5, g12, h1, h2]; done) | fail "no") only [go_sem, if_true, if_false, reduceIte, reduceCtorEq, Nat.reduceAdd, Nat.reduceSub, Nat.reduceBEq, Nat.reduceLT, Nat.reduceMul, Nat.reducePow, Nat.reduceLeDiff, g5, g12, h1, h2]; refine hK1 _ _ ?_; clear hK1 K1))
  refine aops_nil ?_; simp only [Nx, Caught, if_true, if_false, reduceIte, Nat.reduceEqDiff]
  try clear g5 g12 gd sep
  first | (refine hK _ _ ?_; clear hK K) | skip
  refine awp_ret ?_; try simp only [Nx, Caught]
  apply ends_ret
  · simp (disch := first | with_reducible assumption | (simp -failIfUnchanged only [Mem.size_push, Mem.size_put, Mem.size_kill, List.length_cons, List.length_nil, List.length_append, List.length_map, List.length_take, List.length_replicate] <;> omega) | (refine (id ?_ : (_ : Bool) = true); simp only [go_sem, if_true, if_false, reduceIte, reduceCtorEq, Nat.reduceAdd, Nat.reduceSub, Nat.reduceBEq, Nat.reduceLT, Nat.reduceMul, Nat.reducePow, Nat.reduceLeDiff]; done) | fail "no") only [go_sem, if_true, if_false, reduceIte, reduceCtorEq, Nat.reduceAdd, Nat.reduceSub, Nat.reduceBEq, Nat.reduceLT, Nat.reduceMul, Nat.reducePow, Nat.reduceLeDiff, aress, ares1]; exact rfl
  simp only [tupled]
  simp [HP.same, h1, h2]
theorem sHeapSame_c {m : Mem} {v w : AVal} {x y : HP} (hv : RdH m v x) (hw : RdH m w y) (hx : x.lens 1099511627776) :
    ∃ r m', (r = .bool (x.same y)) ∧ DCalls PP m.size 50 [v, w] m r m' := by
  obtain ⟨a, b, c, rfl, ha, hb, hc⟩ := hv
  obtain ⟨a', b', c', rfl, ha', hb', hc'⟩ := hw
  refine enter Try.func50 (by decide) rfl Try.ntmps50 Try.results50 ?_
  repeat (first
    | (refine awp_seq fun K hK => ?_)
    | (refine awp_block ?_)
    | (refine awp_skip ?_; simp only [Nx, Caught, if_true, if_false, reduceIte, Nat.reduceEqDiff])
    | (refine awp_exit ?_; simp only [Nx, Caught, if_true, if_false, reduceIte, Nat.reduceEqDiff])
    | (refine region_seq fun gd sep hgd => ?_; clear hgd; (repeat (refine aops_cons fun K1 hK1 => ?_; simp (disch := first | with_reducible assumption | (simp -failIfUnchanged only [Mem.size_push, Mem.size_put, Mem.size_kill, List.length_cons, List.length_nil, List.length_append, List.length_map, List.length_take, List.length_replicate] <;> omega) | (refine (id ?_ : (_ : Bool) = true); simp only [go_sem, if_true, if_false, reduceIte, reduceCtorEq, Nat.reduceAdd, Nat.reduceSub, Nat.reduceBEq, Nat.reduceLT, Nat.reduceMul, Nat.reducePow, Nat.reduceLeDiff]; done) | fail "no") only [go_sem, if_true, if_false, reduceIte, reduceCtorEq, Nat.reduceAdd, Nat.reduceSub, Nat.reduceBEq, Nat.reduceLT, Nat.reduceMul, Nat.reducePow, Nat.reduceLeDiff]; refine hK1 _ _ ?_; clear hK1 K1)); refine aops_nil ?_; simp only [Nx, Caught, if_true, if_false, reduceIte, Nat.reduceEqDiff]; clear gd sep)
    | (refine region_draw' mixed (by decide +kernel) fun gd sep hgd hsep => ?_; clear hgd hsep; (repeat (refine aops_cons fun K1 hK1 => ?_; simp (disch := first | with_reducible assumption | (simp -failIfUnchanged only [Mem.size_push, Mem.size_put, Mem.size_kill, List.length_cons, List.length_nil, List.length_append, List.length_map, List.length_take, List.length_replicate] <;> omega) | (refine (id ?_ : (_ : Bool) = true); simp only [go_sem, if_true, if_false, reduceIte, reduceCtorEq, Nat.reduceAdd, Nat.reduceSub, Nat.reduceBEq, Nat.reduceLT, Nat.reduceMul, Nat.reducePow, Nat.reduceLeDiff]; done) | fail "no") only [go_sem, if_true, if_false, reduceIte, reduceCtorEq, Nat.reduceAdd, Nat.reduceSub, Nat.reduceBEq, Nat.reduceLT, Nat.reduceMul, Nat.reducePow, Nat.reduceLeDiff]; refine hK1 _ _ ?_; clear hK1 K1)); refine aops_nil ?_; simp only [Nx, Caught, if_true, if_false, reduceIte, Nat.reduceEqDiff]; clear gd sep)
    | (refine hK _ _ ?_; clear hK K)
    | (clear hK K)
    )
  refine region_seq fun gd sep hgd => ?_
  have g5 : gd 5 = some 10 := hgd 5; have g12 : gd 12 = some 17 := hgd 12; clear hgd
  (repeat (refine aops_cons fun K1 hK1 => ?_; simp (disch := first | with_reducible assumption | (simp -failIfUnchanged only [Mem.size_push, Mem.size_put, Mem.size_kill, List.length_cons, List.length_nil, List.length_append, List.length_map, List.length_take, List.length_replicate, g5, g12] <;> omega) | (refine (id ?_ : (_ : Bool) = true); simp only [go_sem, if_true, if_false, reduceIte, reduceCtorEq, Nat.reduceAdd, Nat.reduceSub, Nat.reduceBEq, Nat.reduceLT, Nat.reduceMul, Nat.reducePow, Nat.reduceLeDiff, g5, g12]; done) | fail "no") only [go_sem, if_true, if_false, reduceIte, reduceCtorEq, Nat.reduceAdd, Nat.reduceSub, Nat.reduceBEq, Nat.reduceLT, Nat.reduceMul, Nat.reducePow, Nat.reduceLeDiff, g5, g12]; refine hK1 _ _ ?_; clear hK1 K1))
  refine aops_cons fun K1 hK1 => ?_
  simp (disch := first | with_reducible assumption | (simp -failIfUnchanged only [Mem.size_push, Mem.size_put, Mem.size_kill, List.length_cons, List.length_nil, List.length_append, List.length_map, List.length_take, List.length_replicate] <;> omega) | (refine (id ?_ : (_ : Bool) = true); simp only [go_sem, if_true, if_false, reduceIte, reduceCtorEq, Nat.reduceAdd, Nat.reduceSub, Nat.reduceBEq, Nat.reduceLT, Nat.reduceMul, Nat.reducePow, Nat.reduceLeDiff]; done) | fail "no") only [go_sem, if_true, if_false, reduceIte, reduceCtorEq, Nat.reduceAdd, Nat.reduceSub, Nat.reduceBEq, Nat.reduceLT, Nat.reduceMul, Nat.reducePow, Nat.reduceLeDiff]
  refine acall rfl (l1Ints_c (ha.ext (by with_reducible iterate 60 (try (first | exact Ext.refl _ | assumption | exact Ext.push _ _ | refine Ext.trans ?_ (Ext.push _ _) | (refine Ext.put ?_ (by first | omega | (simp only [Mem.size_push]; omega)) _) | (refine Ext.trans ?_ (by assumption)))))) (ha'.ext (by with_reducible iterate 60 (try (first | exact Ext.refl _ | assumption | exact Ext.push _ _ | refine Ext.trans ?_ (Ext.push _ _) | (refine Ext.put ?_ (by first | omega | (simp only [Mem.size_push]; omega)) _) | (refine Ext.trans ?_ (by assumption)))))) hx.1) ?_
  rintro r1 m1 ⟨rfl, rfl⟩ -
  refine hK1 _ _ ?_; clear hK1 K1
  cases h1 : (x.l == y.l)
  case false =>
    (repeat (refine aops_cons fun K1 hK1 => ?_; simp (disch := first | with_reducible assumption | (simp -failIfUnchanged only [Mem.size_push, Mem.size_put, Mem.size_kill, List.length_cons, List.length_nil, List.length_append, List.length_map, List.length_take, List.length_replicate, g5, g12, h1] <;> omega) | (refine (id ?_ : (_ : Bool) = true); simp only [go_sem, if_true, if_false, reduceIte, reduceCtorEq, Nat.reduceAdd, Nat.reduceSub, Nat.reduceBEq, Nat.reduceLT, Nat.reduceMul, Nat.reducePow, Nat.reduceLeDiff, g5, g12, h1]; done) | fail "no") only [go_sem, if_true, if_false, reduceIte, reduceCtorEq, Nat.reduceAdd, Nat.reduceSub, Nat.reduceBEq, Nat.reduceLT, Nat.reduceMul, Nat.reducePow, Nat.reduceLeDiff, g5, g12, h1]; refine hK1 _ _ ?_; clear hK1 K1))
    refine aops_nil ?_; simp only [Nx, Caught, if_true, if_false, reduceIte, Nat.reduceEqDiff]
    try clear g5 g12 gd sep
    first | (refine hK _ _ ?_; clear hK K) | skip
    refine awp_ret ?_; try simp only [Nx, Caught]
    apply ends_ret
    · simp (disch := first | with_reducible assumption | (simp -failIfUnchanged only [Mem.size_push, Mem.size_put, Mem.size_kill, List.length_cons, List.length_nil, List.length_append, List.length_map, List.length_take, List.length_replicate] <;> omega) | (refine (id ?_ : (_ : Bool) = true); simp only [go_sem, if_true, if_false, reduceIte, reduceCtorEq, Nat.reduceAdd, Nat.reduceSub, Nat.reduceBEq, Nat.reduceLT, Nat.reduceMul, Nat.reducePow, Nat.reduceLeDiff]; done) | fail "no") only [go_sem, if_true, if_false, reduceIte, reduceCtorEq, Nat.reduceAdd, Nat.reduceSub, Nat.reduceBEq, Nat.reduceLT, Nat.reduceMul, Nat.reducePow, Nat.reduceLeDiff, aress, ares1]; exact rfl
    simp only [tupled]
    simp [HP.same, h1]
  (repeat (refine aops_cons fun K1 hK1 => ?_; simp (disch := first | with_reducible assumption | (simp -failIfUnchanged only [Mem.size_push, Mem.size_put, Mem.size_kill, List.length_cons, List.length_nil, List.length_append, List.length_map, List.length_take, List.length_replicate, g5, g12, h1] <;> omega) | (refine (id ?_ : (_ : Bool) = true); simp only [go_sem, if_true, if_false, reduceIte, reduceCtorEq, Nat.reduceAdd, Nat.reduceSub, Nat.reduceBEq, Nat.reduceLT, Nat.reduceMul, Nat.reducePow, Nat.reduceLeDiff, g5, g12, h1]; done) | fail "no") only [go_sem, if_true, if_false, reduceIte, reduceCtorEq, Nat.reduceAdd, Nat.reduceSub, Nat.reduceBEq, Nat.reduceLT, Nat.reduceMul, Nat.reducePow, Nat.reduceLeDiff, g5, g12, h1]; refine hK1 _ _ ?_; clear hK1 K1))
  refine aops_cons fun K1 hK1 => ?_
  simp (disch := first | with_reducible assumption | (simp -failIfUnchanged only [Mem.size_push, Mem.size_put, Mem.size_kill, List.length_cons, List.length_nil, List.length_append, List.length_map, List.length_take, List.length_replicate, g5, g12, h1] <;> omega) | (refine (id ?_ : (_ : Bool) = true); simp only [go_sem, if_true, if_false, reduceIte, reduceCtorEq, Nat.reduceAdd, Nat.reduceSub, Nat.reduceBEq, Nat.reduceLT, Nat.reduceMul, Nat.reducePow, Nat.reduceLeDiff, g5, g12, h1]; done) | fail "no") only [go_sem, if_true, if_false, reduceIte, reduceCtorEq, Nat.reduceAdd, Nat.reduceSub, Nat.reduceBEq, Nat.reduceLT, Nat.reduceMul, Nat.reducePow, Nat.reduceLeDiff, g5, g12, h1]
  refine acall rfl (l1Ints_c (hb.ext (by with_reducible iterate 60 (try (first | exact Ext.refl _ | assumption | exact Ext.push _ _ | refine Ext.trans ?_ (Ext.push _ _) | (refine Ext.put ?_ (by first | omega | (simp only [Mem.size_push]; omega)) _) | (refine Ext.trans ?_ (by assumption)))))) (hb'.ext (by with_reducible iterate 60 (try (first | exact Ext.refl _ | assumption | exact Ext.push _ _ | refine Ext.trans ?_ (Ext.push _ _) | (refine Ext.put ?_ (by first | omega | (simp only [Mem.size_push]; omega)) _) | (refine Ext.trans ?_ (by assumption)))))) hx.2.1) ?_
  rintro r2 m2 ⟨rfl, rfl⟩ -
  refine hK1 _ _ ?_; clear hK1 K1
  cases h2 : (x.r == y.r)
  case false =>
    (repeat (refine aops_cons fun K1 hK1 => ?_; simp (disch := first | with_reducible assumption | (simp -failIfUnchanged only [Mem.size_push, Mem.size_put, Mem.size_kill, List.length_cons, List.length_nil, List.length_append, List.length_map, List.length_take, List.length_replicate, g5, g12, h1, h2] <;> omega) | (refine (id ?_ : (_ : Bool) = true); simp only [go_sem, if_true, if_false, reduceIte, reduceCtorEq, Nat.reduceAdd, Nat.reduceSub, Nat.reduceBEq, Nat.reduceLT, Nat.reduceMul, Nat.reducePow, Nat.reduceLeDiff, g5, g12, h1, h2]; done) | fail "no") only [go_sem, if_true, if_false, reduceIte, reduceCtorEq, Nat.reduceAdd, Nat.reduceSub, Nat.reduceBEq, Nat.reduceLT, Nat.reduceMul, Nat.reducePow, Nat.reduceLeDiff, g5, g12, h1, h2]; refine hK1 _ _ ?_; clear hK1 K1))
    refine aops_nil ?_; simp only [Nx, Caught, if_true, if_false, reduceIte, Nat.reduceEqDiff]
    try clear g5 g12 gd sep
    first | (refine hK _ _ ?_; clear hK K) | skip
    refine awp_ret ?_; try simp only [Nx, Caught]
    apply ends_ret
    · simp (disch := first | with_reducible assumption | (simp -failIfUnchanged only [Mem.size_push, Mem.size_put, Mem.size_kill, List.length_cons, List.length_nil, List.length_append, List.length_map, List.length_take, List.length_replicate] <;> omega) | (refine (id ?_ : (_ : Bool) = true); simp only [go_sem, if_true, if_false, reduceIte, reduceCtorEq, Nat.reduceAdd, Nat.reduceSub, Nat.reduceBEq, Nat.reduceLT, Nat.reduceMul, Nat.reducePow, Nat.reduceLeDiff]; done) | fail "no") only [go_sem, if_true, if_false, reduceIte, reduceCtorEq, Nat.reduceAdd, Nat.reduceSub, Nat.reduceBEq, Nat.reduceLT, Nat.reduceMul, Nat.reducePow, Nat.reduceLeDiff, aress, ares1]; exact rfl
    simp only [tupled]
    simp [HP.same, h1, h2]
  (repeat (refine aops_cons fun K1 hK1 => ?_; simp (disch := first | with_reducible assumption | (simp -failIfUnchanged only [Mem.size_push, Mem.size_put, Mem.size_kill, List.length_cons, List.length_nil, List.length_append, List.length_map, List.length_take, List.length_replicate, g5, g12, h1, h2] <;> omega) | (refine (id ?_ : (_ : Bool) = true); simp only [go_sem, if_true, if_false, reduceIte, reduceCtorEq, Nat.reduceAdd, Nat.reduceSub, Nat.reduceBEq, Nat.reduceLT, Nat.reduceMul, Nat.reducePow, Nat.reduceLeDiff, g5, g12, h1, h2]; done) | fail "no") only [go_sem, if_true, if_false, reduceIte, reduceCtorEq, Nat.reduceAdd, Nat.reduceSub, Nat.reduceBEq, Nat.reduceLT, Nat.reduceMul, Nat.reducePow, Nat.reduceLeDiff, g5, g12, h1, h2]; refine hK1 _ _ ?_; clear hK1 K1))
  refine aops_cons fun K1 hK1 => ?_
  simp (disch := first | with_reducible assumption | (simp -failIfUnchanged only [Mem.size_push, Mem.size_put, Mem.size_kill, List.length_cons, List.length_nil, List.length_append, List.length_map, List.length_take, List.length_replicate, g5, g12, h1, h2] <;> omega) | (refine (id ?_ : (_ : Bool) = true); simp only [go_sem, if_true, if_false, reduceIte, reduceCtorEq, Nat.reduceAdd, Nat.reduceSub, Nat.reduceBEq, Nat.reduceLT, Nat.reduceMul, Nat.reducePow, Nat.reduceLeDiff, g5, g12, h1, h2]; done) | fail "no") only [go_sem, if_true, if_false, reduceIte, reduceCtorEq, Nat.reduceAdd, Nat.reduceSub, Nat.reduceBEq, Nat.reduceLT, Nat.reduceMul, Nat.reducePow, Nat.reduceLeDiff, g5, g12, h1, h2]
  refine acall rfl (l1Ints_c (hc.ext (by with_reducible iterate 60 (try (first | exact Ext.refl _ | assumption | exact Ext.push _ _ | refine Ext.trans ?_ (Ext.push _ _) | (refine Ext.put ?_ (by first | omega | (simp only [Mem.size_push]; omega)) _) | (refine Ext.trans ?_ (by assumption)))))) (hc'.ext (by with_reducible iterate 60 (try (first | exact Ext.refl _ | assumption | exact Ext.push _ _ | refine Ext.trans ?_ (Ext.push _ _) | (refine Ext.put ?_ (by first | omega | (simp only [Mem.size_push]; omega)) _) | (refine Ext.trans ?_ (by assumption)))))) hx.2.2) ?_
  rintro r3 m3 ⟨rfl, rfl⟩ -
  refine hK1 _ _ ?_; clear hK1 K1
  (repeat (refine aops_cons fun K1 hK1 => ?_; simp (disch := first | with_reducible assumption | (simp -failIfUnchanged only [Mem.size_push, Mem.size_put, Mem.size_kill, List.length_cons, List.length_nil, List.length_append, List.length_map, List.length_take, List.length_replicate, g5, g12, h1, h2] <;> omega) | (refine (id ?_ : (_ : Bool) = true); simp only [go_sem, if_true, if_false, reduceIte, reduceCtorEq, Nat.reduceAdd, Nat.reduceSub, Nat.reduceBEq, Nat.reduceLT, Nat.reduceMul, Nat.reducePow, Nat.reduceLeDiff, g5, g12, h1, h2]; done) | fail "no") only [go_sem, if_true, if_false, reduceIte, reduceCtorEq, Nat.reduceAdd, Nat.reduceSub, Nat.reduceBEq, Nat.reduceLT, Nat.reduceMul, Nat.reducePow, Nat.reduceLeDiff, g5, g12, h1, h2]; refine hK1 _ _ ?_; clear hK1 K1))
  refine aops_nil ?_; simp only [Nx, Caught, if_true, if_false, reduceIte, Nat.reduceEqDiff]
  try clear g5 g12 gd sep
  first | (refine hK _ _ ?_; clear hK K) | skip
  refine awp_ret ?_; try simp only [Nx, Caught]
  apply ends_ret
  · simp (disch := first | with_reducible assumption | (simp -failIfUnchanged only [Mem.size_push, Mem.size_put, Mem.size_kill, List.length_cons, List.length_nil, List.length_append, List.length_map, List.length_take, List.length_replicate] <;> omega) | (refine (id ?_ : (_ : Bool) = true); simp only [go_sem, if_true, if_false, reduceIte, reduceCtorEq, Nat.reduceAdd, Nat.reduceSub, Nat.reduceBEq, Nat.reduceLT, Nat.reduceMul, Nat.reducePow, Nat.reduceLeDiff]; done) | fail "no") only [go_sem, if_true, if_false, reduceIte, reduceCtorEq, Nat.reduceAdd, Nat.reduceSub, Nat.reduceBEq, Nat.reduceLT, Nat.reduceMul, Nat.reducePow, Nat.reduceLeDiff, aress, ares1]; exact rfl
  simp only [tupled]
  simp [HP.same, h1, h2]

theorem iGensSame_c {m : Mem} {v w : AVal} {x y : GP} (hv : RdG m v x) (hw : RdG m w y) (hx : x.lens 1099511627776) :
    ∃ r m', (r = .bool (x.same y)) ∧ DCalls PP m.size 18 [v, w] m r m' := by
  obtain ⟨a, b, c, d, e, rfl, ha, hb, hc, hd, he⟩ := hv
  obtain ⟨a', b', c', d', e', rfl, ha', hb', hc', hd', he'⟩ := hw
  refine enter Try.func18 (by decide) rfl Try.ntmps18 Try.results18 ?_
  repeat (first
    | (refine awp_seq fun K hK => ?_)
    | (refine awp_block ?_)
    | (refine awp_skip ?_; simp only [Nx, Caught, if_true, if_false, reduceIte, Nat.reduceEqDiff])
    | (refine awp_exit ?_; simp only [Nx, Caught, if_true, if_false, reduceIte, Nat.reduceEqDiff])
    | (refine region_seq fun gd sep hgd => ?_; clear hgd; (repeat (refine aops_cons fun K1 hK1 => ?_; simp (disch := first | with_reducible assumption | (simp -failIfUnchanged only [Mem.size_push, Mem.size_put, Mem.size_kill, List.length_cons, List.length_nil, List.length_append, List.length_map, List.length_take, List.length_replicate] <;> omega) | (refine (id ?_ : (_ : Bool) = true); simp only [go_sem, if_true, if_false, reduceIte, reduceCtorEq, Nat.reduceAdd, Nat.reduceSub, Nat.reduceBEq, Nat.reduceLT, Nat.reduceMul, Nat.reducePow, Nat.reduceLeDiff]; done) | fail "no") only [go_sem, if_true, if_false, reduceIte, reduceCtorEq, Nat.reduceAdd, Nat.reduceSub, Nat.reduceBEq, Nat.reduceLT, Nat.reduceMul, Nat.reducePow, Nat.reduceLeDiff]; refine hK1 _ _ ?_; clear hK1 K1)); refine aops_nil ?_; simp only [Nx, Caught, if_true, if_false, reduceIte, Nat.reduceEqDiff]; clear gd sep)
    | (refine region_draw' mixed (by decide +kernel) fun gd sep hgd hsep => ?_; clear hgd hsep; (repeat (refine aops_cons fun K1 hK1 => ?_; simp (disch := first | with_reducible assumption | (simp -failIfUnchanged only [Mem.size_push, Mem.size_put, Mem.size_kill, List.length_cons, List.length_nil, List.length_append, List.length_map, List.length_take, List.length_replicate] <;> omega) | (refine (id ?_ : (_ : Bool) = true); simp only [go_sem, if_true, if_false, reduceIte, reduceCtorEq, Nat.reduceAdd, Nat.reduceSub, Nat.reduceBEq, Nat.reduceLT, Nat.reduceMul, Nat.reducePow, Nat.reduceLeDiff]; done) | fail "no") only [go_sem, if_true, if_false, reduceIte, reduceCtorEq, Nat.reduceAdd, Nat.reduceSub, Nat.reduceBEq, Nat.reduceLT, Nat.reduceMul, Nat.reducePow, Nat.reduceLeDiff]; refine hK1 _ _ ?_; clear hK1 K1)); refine aops_nil ?_; simp only [Nx, Caught, if_true, if_false, reduceIte, Nat.reduceEqDiff]; clear gd sep)
    | (refine hK _ _ ?_; clear hK K)
    | (clear hK K)
    )
  refine region_seq fun gd sep hgd => ?_
  have g5 : gd 5 = some 10 := hgd 5; have g12 : gd 12 = some 17 := hgd 12; clear hgd
  (repeat (refine aops_cons fun K1 hK1 => ?_; simp (disch := first | with_reducible assumption | (simp -failIfUnchanged only [Mem.size_push, Mem.size_put, Mem.size_kill, List.length_cons, List.length_nil, List.length_append, List.length_map, List.length_take, List.length_replicate, g5, g12] <;> omega) | (refine (id ?_ : (_ : Bool) = true); simp only [go_sem, if_true, if_false, reduceIte, reduceCtorEq, Nat.reduceAdd, Nat.reduceSub, Nat.reduceBEq, Nat.reduceLT, Nat.reduceMul, Nat.reducePow, Nat.reduceLeDiff, g5, g12]; done) | fail "no") only [go_sem, if_true, if_false, reduceIte, reduceCtorEq, Nat.reduceAdd, Nat.reduceSub, Nat.reduceBEq, Nat.reduceLT, Nat.reduceMul, Nat.reducePow, Nat.reduceLeDiff, g5, g12]; refine hK1 _ _ ?_; clear hK1 K1))
  refine aops_cons fun K1 hK1 => ?_
  simp (disch := first | with_reducible assumption | (simp -failIfUnchanged only [Mem.size_push, Mem.size_put, Mem.size_kill, List.length_cons, List.length_nil, List.length_append, List.length_map, List.length_take, List.length_replicate] <;> omega) | (refine (id ?_ : (_ : Bool) = true); simp only [go_sem, if_true, if_false, reduceIte, reduceCtorEq, Nat.reduceAdd, Nat.reduceSub, Nat.reduceBEq, Nat.reduceLT, Nat.reduceMul, Nat.reducePow, Nat.reduceLeDiff]; done) | fail "no") only [go_sem, if_true, if_false, reduceIte, reduceCtorEq, Nat.reduceAdd, Nat.reduceSub, Nat.reduceBEq, Nat.reduceLT, Nat.reduceMul, Nat.reducePow, Nat.reduceLeDiff]
  refine acall rfl (iHeapSame_c (x := x.h) (y := y.h) ⟨a, b, c, rfl, ha.ext (by with_reducible iterate 60 (try (first | exact Ext.refl _ | assumption | exact Ext.push _ _ | refine Ext.trans ?_ (Ext.push _ _) | (refine Ext.put ?_ (by first | omega | (simp only [Mem.size_push]; omega)) _) | (refine Ext.trans ?_ (by assumption))))), hb.ext (by with_reducible iterate 60 (try (first | exact Ext.refl _ | assumption | exact Ext.push _ _ | refine Ext.trans ?_ (Ext.push _ _) | (refine Ext.put ?_ (by first | omega | (simp only [Mem.size_push]; omega)) _) | (refine Ext.trans ?_ (by assumption))))), hc.ext (by with_reducible iterate 60 (try (first | exact Ext.refl _ | assumption | exact Ext.push _ _ | refine Ext.trans ?_ (Ext.push _ _) | (refine Ext.put ?_ (by first | omega | (simp only [Mem.size_push]; omega)) _) | (refine Ext.trans ?_ (by assumption)))))⟩ ⟨a', b', c', rfl, ha'.ext (by with_reducible iterate 60 (try (first | exact Ext.refl _ | assumption | exact Ext.push _ _ | refine Ext.trans ?_ (Ext.push _ _) | (refine Ext.put ?_ (by first | omega | (simp only [Mem.size_push]; omega)) _) | (refine Ext.trans ?_ (by assumption))))), hb'.ext (by with_reducible iterate 60 (try (first | exact Ext.refl _ | assumption | exact Ext.push _ _ | refine Ext.trans ?_ (Ext.push _ _) | (refine Ext.put ?_ (by first | omega | (simp only [Mem.size_push]; omega)) _) | (refine Ext.trans ?_ (by assumption))))), hc'.ext (by with_reducible iterate 60 (try (first | exact Ext.refl _ | assumption | exact Ext.push _ _ | refine Ext.trans ?_ (Ext.push _ _) | (refine Ext.put ?_ (by first | omega | (simp only [Mem.size_push]; omega)) _) | (refine Ext.trans ?_ (by assumption)))))⟩ hx.1) ?_
  rintro r1 m1 rfl e1
  have z_e1 := e1.size; (try simp only [Mem.size_push, Mem.size_put] at z_e1)
  refine hK1 _ _ ?_; clear hK1 K1
  cases h1 : (x.h.same y.h)
  case false =>
    (repeat (refine aops_cons fun K1 hK1 => ?_; simp (disch := first | with_reducible assumption | (simp -failIfUnchanged only [Mem.size_push, Mem.size_put, Mem.size_kill, List.length_cons, List.length_nil, List.length_append, List.length_map, List.length_take, List.length_replicate, g5, g12, h1] <;> omega) | (refine (id ?_ : (_ : Bool) = true); simp only [go_sem, if_true, if_false, reduceIte, reduceCtorEq, Nat.reduceAdd, Nat.reduceSub, Nat.reduceBEq, Nat.reduceLT, Nat.reduceMul, Nat.reducePow, Nat.reduceLeDiff, g5, g12, h1]; done) | fail "no") only [go_sem, if_true, if_false, reduceIte, reduceCtorEq, Nat.reduceAdd, Nat.reduceSub, Nat.reduceBEq, Nat.reduceLT, Nat.reduceMul, Nat.reducePow, Nat.reduceLeDiff, g5, g12, h1]; refine hK1 _ _ ?_; clear hK1 K1))
    refine aops_nil ?_; simp only [Nx, Caught, if_true, if_false, reduceIte, Nat.reduceEqDiff]
    try clear g5 g12 gd sep
    first | (refine hK _ _ ?_; clear hK K) | skip
    refine awp_ret ?_; try simp only [Nx, Caught]
    apply ends_ret
    · simp (disch := first | with_reducible assumption | (simp -failIfUnchanged only [Mem.size_push, Mem.size_put, Mem.size_kill, List.length_cons, List.length_nil, List.length_append, List.length_map, List.length_take, List.length_replicate] <;> omega) | (refine (id ?_ : (_ : Bool) = true); simp only [go_sem, if_true, if_false, reduceIte, reduceCtorEq, Nat.reduceAdd, Nat.reduceSub, Nat.reduceBEq, Nat.reduceLT, Nat.reduceMul, Nat.reducePow, Nat.reduceLeDiff]; done) | fail "no") only [go_sem, if_true, if_false, reduceIte, reduceCtorEq, Nat.reduceAdd, Nat.reduceSub, Nat.reduceBEq, Nat.reduceLT, Nat.reduceMul, Nat.reducePow, Nat.reduceLeDiff, aress, ares1]; exact rfl
    simp only [tupled]
    simp [GP.same, h1]
  (repeat (refine aops_cons fun K1 hK1 => ?_; simp (disch := first | with_reducible assumption | (simp -failIfUnchanged only [Mem.size_push, Mem.size_put, Mem.size_kill, List.length_cons, List.length_nil, List.length_append, List.length_map, List.length_take, List.length_replicate, g5, g12, h1, e1.ald] <;> omega) | (refine (id ?_ : (_ : Bool) = true); simp only [go_sem, if_true, if_false, reduceIte, reduceCtorEq, Nat.reduceAdd, Nat.reduceSub, Nat.reduceBEq, Nat.reduceLT, Nat.reduceMul, Nat.reducePow, Nat.reduceLeDiff, g5, g12, h1, e1.ald]; done) | fail "no") only [go_sem, if_true, if_false, reduceIte, reduceCtorEq, Nat.reduceAdd, Nat.reduceSub, Nat.reduceBEq, Nat.reduceLT, Nat.reduceMul, Nat.reducePow, Nat.reduceLeDiff, g5, g12, h1, e1.ald]; refine hK1 _ _ ?_; clear hK1 K1))
  refine aops_cons fun K1 hK1 => ?_
  simp (disch := first | with_reducible assumption | (simp -failIfUnchanged only [Mem.size_push, Mem.size_put, Mem.size_kill, List.length_cons, List.length_nil, List.length_append, List.length_map, List.length_take, List.length_replicate, g5, g12, h1] <;> omega) | (refine (id ?_ : (_ : Bool) = true); simp only [go_sem, if_true, if_false, reduceIte, reduceCtorEq, Nat.reduceAdd, Nat.reduceSub, Nat.reduceBEq, Nat.reduceLT, Nat.reduceMul, Nat.reducePow, Nat.reduceLeDiff, g5, g12, h1]; done) | fail "no") only [go_sem, if_true, if_false, reduceIte, reduceCtorEq, Nat.reduceAdd, Nat.reduceSub, Nat.reduceBEq, Nat.reduceLT, Nat.reduceMul, Nat.reducePow, Nat.reduceLeDiff, g5, g12, h1]
  refine acall rfl (sEqB_c (hd.ext (by with_reducible iterate 60 (try (first | exact Ext.refl _ | assumption | exact Ext.push _ _ | refine Ext.trans ?_ (Ext.push _ _) | (refine Ext.put ?_ (by first | omega | (simp only [Mem.size_push]; omega)) _) | (refine Ext.trans ?_ (by assumption)))))) (hd'.ext (by with_reducible iterate 60 (try (first | exact Ext.refl _ | assumption | exact Ext.push _ _ | refine Ext.trans ?_ (Ext.push _ _) | (refine Ext.put ?_ (by first | omega | (simp only [Mem.size_push]; omega)) _) | (refine Ext.trans ?_ (by assumption)))))) hx.2.1) ?_
  rintro r2 m2 ⟨rfl, rfl⟩ -
  refine hK1 _ _ ?_; clear hK1 K1
  cases h2 : (x.old == y.old)
  case false =>
    (repeat (refine aops_cons fun K1 hK1 => ?_; simp (disch := first | with_reducible assumption | (simp -failIfUnchanged only [Mem.size_push, Mem.size_put, Mem.size_kill, List.length_cons, List.length_nil, List.length_append, List.length_map, List.length_take, List.length_replicate, g5, g12, h1, h2] <;> omega) | (refine (id ?_ : (_ : Bool) = true); simp only [go_sem, if_true, if_false, reduceIte, reduceCtorEq, Nat.reduceAdd, Nat.reduceSub, Nat.reduceBEq, Nat.reduceLT, Nat.reduceMul, Nat.reducePow, Nat.reduceLeDiff, g5, g12, h1, h2]; done) | fail "no") only [go_sem, if_true, if_false, reduceIte, reduceCtorEq, Nat.reduceAdd, Nat.reduceSub, Nat.reduceBEq, Nat.reduceLT, Nat.reduceMul, Nat.reducePow, Nat.reduceLeDiff, g5, g12, h1, h2]; refine hK1 _ _ ?_; clear hK1 K1))
    refine aops_nil ?_; simp only [Nx, Caught, if_true, if_false, reduceIte, Nat.reduceEqDiff]
    try clear g5 g12 gd sep
    first | (refine hK _ _ ?_; clear hK K) | skip
    refine awp_ret ?_; try simp only [Nx, Caught]
    apply ends_ret
    · simp (disch := first | with_reducible assumption | (simp -failIfUnchanged only [Mem.size_push, Mem.size_put, Mem.size_kill, List.length_cons, List.length_nil, List.length_append, List.length_map, List.length_take, List.length_replicate] <;> omega) | (refine (id ?_ : (_ : Bool) = true); simp only [go_sem, if_true, if_false, reduceIte, reduceCtorEq, Nat.reduceAdd, Nat.reduceSub, Nat.reduceBEq, Nat.reduceLT, Nat.reduceMul, Nat.reducePow, Nat.reduceLeDiff]; done) | fail "no") only [go_sem, if_true, if_false, reduceIte, reduceCtorEq, Nat.reduceAdd, Nat.reduceSub, Nat.reduceBEq, Nat.reduceLT, Nat.reduceMul, Nat.reducePow, Nat.reduceLeDiff, aress, ares1]; exact rfl
    simp only [tupled]
    simp [GP.same, h1, h2]
  (repeat (refine aops_cons fun K1 hK1 => ?_; simp (disch := first | with_reducible assumption | (simp -failIfUnchanged only [Mem.size_push, Mem.size_put, Mem.size_kill, List.length_cons, List.length_nil, List.length_append, List.length_map, List.length_take, List.length_replicate, g5, g12, h1, h2, e1.ald] <;> omega) | (refine (id ?_ : (_ : Bool) = true); simp only [go_sem, if_true, if_false, reduceIte, reduceCtorEq, Nat.reduceAdd, Nat.reduceSub, Nat.reduceBEq, Nat.reduceLT, Nat.reduceMul, Nat.reducePow, Nat.reduceLeDiff, g5, g12, h1, h2, e1.ald]; done) | fail "no") only [go_sem, if_true, if_false, reduceIte, reduceCtorEq, Nat.reduceAdd, Nat.reduceSub, Nat.reduceBEq, Nat.reduceLT, Nat.reduceMul, Nat.reducePow, Nat.reduceLeDiff, g5, g12, h1, h2, e1.ald]; refine hK1 _ _ ?_; clear hK1 K1))
  refine aops_cons fun K1 hK1 => ?_
  simp (disch := first | with_reducible assumption | (simp -failIfUnchanged only [Mem.size_push, Mem.size_put, Mem.size_kill, List.length_cons, List.length_nil, List.length_append, List.length_map, List.length_take, List.length_replicate, g5, g12, h1, h2] <;> omega) | (refine (id ?_ : (_ : Bool) = true); simp only [go_sem, if_true, if_false, reduceIte, reduceCtorEq, Nat.reduceAdd, Nat.reduceSub, Nat.reduceBEq, Nat.reduceLT, Nat.reduceMul, Nat.reducePow, Nat.reduceLeDiff, g5, g12, h1, h2]; done) | fail "no") only [go_sem, if_true, if_false, reduceIte, reduceCtorEq, Nat.reduceAdd, Nat.reduceSub, Nat.reduceBEq, Nat.reduceLT, Nat.reduceMul, Nat.reducePow, Nat.reduceLeDiff, g5, g12, h1, h2]
  refine acall rfl (sEqI_c (he.ext (by with_reducible iterate 60 (try (first | exact Ext.refl _ | assumption | exact Ext.push _ _ | refine Ext.trans ?_ (Ext.push _ _) | (refine Ext.put ?_ (by first | omega | (simp only [Mem.size_push]; omega)) _) | (refine Ext.trans ?_ (by assumption)))))) (he'.ext (by with_reducible iterate 60 (try (first | exact Ext.refl _ | assumption | exact Ext.push _ _ | refine Ext.trans ?_ (Ext.push _ _) | (refine Ext.put ?_ (by first | omega | (simp only [Mem.size_push]; omega)) _) | (refine Ext.trans ?_ (by assumption)))))) hx.2.2) ?_
  rintro r3 m3 ⟨rfl, rfl⟩ -
  refine hK1 _ _ ?_; clear hK1 K1
  (repeat (refine aops_cons fun K1 hK1 => ?_; simp (disch := first | with_reducible assumption | (simp -failIfUnchanged only [Mem.size_push, Mem.size_put, Mem.size_kill, List.length_cons, List.length_nil, List.length_append, List.length_map, List.length_take, List.length_replicate, g5, g12, h1, h2] <;> omega) | (refine (id ?_ : (_ : Bool) = true); simp only [go_sem, if_true, if_false, reduceIte, reduceCtorEq, Nat.reduceAdd, Nat.reduceSub, Nat.reduceBEq, Nat.reduceLT, Nat.reduceMul, Nat.reducePow, Nat.reduceLeDiff, g5, g12, h1, h2]; done) | fail "no") only [go_sem, if_true, if_false, reduceIte, reduceCtorEq, Nat.reduceAdd, Nat.reduceSub, Nat.reduceBEq, Nat.reduceLT, Nat.reduceMul, Nat.reducePow, Nat.reduceLeDiff, g5, g12, h1, h2]; refine hK1 _ _ ?_; clear hK1 K1))
  refine aops_nil ?_; simp only [Nx, Caught, if_true, if_false, reduceIte, Nat.reduceEqDiff]
  try clear g5 g12 gd sep
  first | (refine hK _ _ ?_; clear hK K) | skip
  refine awp_ret ?_; try simp only [Nx, Caught]
  apply ends_ret
  · simp (disch := first | with_reducible assumption | (simp -failIfUnchanged only [Mem.size_push, Mem.size_put, Mem.size_kill, List.length_cons, List.length_nil, List.length_append, List.length_map, List.length_take, List.length_replicate] <;> omega) | (refine (id ?_ : (_ : Bool) = true); simp only [go_sem, if_true, if_false, reduceIte, reduceCtorEq, Nat.reduceAdd, Nat.reduceSub, Nat.reduceBEq, Nat.reduceLT, Nat.reduceMul, Nat.reducePow, Nat.reduceLeDiff]; done) | fail "no") only [go_sem, if_true, if_false, reduceIte, reduceCtorEq, Nat.reduceAdd, Nat.reduceSub, Nat.reduceBEq, Nat.reduceLT, Nat.reduceMul, Nat.reducePow, Nat.reduceLeDiff, aress, ares1]; exact rfl
  simp only [tupled]
  simp [GP.same, h1, h2]

end Go.Ab
