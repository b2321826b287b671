/-
  What is proved here: the contracts of the functions over lists of numbers and of truths: comparing, copying, measuring, marking. Condition: the lists' lengths are bounded as each statement says.
-/
import Derived.Test.YtmpnapfbgfpllaaTy
namespace Go.Ab
open Go.Proofs
set_option linter.unusedSimpArgs false
set_option linter.unusedVariables false
set_option maxRecDepth 10000

abbrev RdI (m : Mem) (v : AVal) (xs : List Int) : Prop := Rd (AVal.int .i64) m v xs
abbrev RdB (m : Mem) (v : AVal) (xs : List Bool) : Prop := Rd AVal.bool m v xs

theorem list_eq_of_getD {α : Type} {d : α} {xs ys : List α} (hl : xs.length = ys.length) (h : ∀ i, i < xs.length → xs.getD i d = ys.getD i d) : xs = ys := by
  refine List.ext_getElem hl fun i h1 h2 => ?_
  have := h i h1
  rw [List.getD_eq_getElem?_getD, List.getD_eq_getElem?_getD, List.getElem?_eq_getElem h1, List.getElem?_eq_getElem h2] at this
  exact this
theorem getElem?_getD' {α : Type} {d : α} {l : List α} {i : Nat} (h : i < l.length) : l[i]? = some (l.getD i d) := by
  rw [List.getD_eq_getElem?_getD, List.getElem?_eq_getElem h]; rfl

theorem Rd.lenI {m : Mem} {v : AVal} {xs : List Int} (h : RdI m v xs) : alen PP 22 v = some (.int .i64 xs.length) := h.gLen kd_22
theorem Rd.idxI {m : Mem} {v : AVal} {xs : List Int} (h : RdI m v xs) {k : IntKind} {i : Int} (h0 : 0 ≤ i) (h1 : i < xs.length) : aindexAddr PP 22 v (.int k i) = some (elemPtr v i) := h.gIdx es_22 h0 h1
theorem Rd.loadI {m : Mem} {v : AVal} {xs : List Int} (h : RdI m v xs) {i : Int} (h0 : 0 ≤ i) (h1 : i < xs.length) : aload PP m 3 (elemPtr v i) = some (.int .i64 (xs.getD i.toNat 0)) :=
  h.gLoad ag_3 h0 h1 (getElem?_getD' (by omega))
theorem Rd.lenB {m : Mem} {v : AVal} {xs : List Bool} (h : RdB m v xs) : alen PP 25 v = some (.int .i64 xs.length) := h.gLen kd_25
theorem Rd.idxB {m : Mem} {v : AVal} {xs : List Bool} (h : RdB m v xs) {k : IntKind} {i : Int} (h0 : 0 ≤ i) (h1 : i < xs.length) : aindexAddr PP 25 v (.int k i) = some (elemPtr v i) := h.gIdx es_25 h0 h1
theorem Rd.loadB {m : Mem} {v : AVal} {xs : List Bool} (h : RdB m v xs) {i : Int} (h0 : 0 ≤ i) (h1 : i < xs.length) : aload PP m 4 (elemPtr v i) = some (.bool (xs.getD i.toNat false)) :=
  h.gLoad ag_4 h0 h1 (getElem?_getD' (by omega))

theorem l1Ints_c {m : Mem} {a b : AVal} {xs ys : List Int} (ha : RdI m a xs) (hb : RdI m b ys) (hx : xs.length ≤ 1099511627776) :
    ∃ v m', (v = .bool (xs == ys) ∧ m' = m) ∧ DCalls PP m.size 51 [a, b] m v m' := by
  refine enter Try.func51 (by decide) rfl Try.ntmps51 Try.results51 ?_
  repeat (first
    | (refine awp_seq fun K hK => ?_)
    | (refine awp_block ?_)
    | (refine awp_skip ?_; simp only [Nx, Caught, if_true, if_false, reduceIte, Nat.reduceEqDiff])
    | (refine awp_exit ?_; simp only [Nx, Caught, if_true, if_false, reduceIte, Nat.reduceEqDiff])
    | (refine region_seq fun gd sep hgd => ?_; clear hgd; (repeat (refine aops_cons fun K1 hK1 => ?_; simp (disch := first | with_reducible assumption | (simp -failIfUnchanged only [Mem.size_push, Mem.size_put, Mem.size_kill, List.length_cons, List.length_nil, List.length_append, List.length_map, List.length_take, List.length_replicate, ha.lenI, hb.lenI] <;> omega) | (refine (id ?_ : (_ : Bool) = true); simp only [go_sem, if_true, if_false, reduceIte, reduceCtorEq, Nat.reduceAdd, Nat.reduceSub, Nat.reduceBEq, Nat.reduceLT, Nat.reduceMul, Nat.reducePow, Nat.reduceLeDiff, ha.lenI, hb.lenI]; done) | fail "no") only [go_sem, if_true, if_false, reduceIte, reduceCtorEq, Nat.reduceAdd, Nat.reduceSub, Nat.reduceBEq, Nat.reduceLT, Nat.reduceMul, Nat.reducePow, Nat.reduceLeDiff, ha.lenI, hb.lenI]; refine hK1 _ _ ?_; clear hK1 K1)); refine aops_nil ?_; simp only [Nx, Caught, if_true, if_false, reduceIte, Nat.reduceEqDiff]; clear gd sep)
    | (refine region_draw' mixed (by decide +kernel) fun gd sep hgd hsep => ?_; clear hgd hsep; (repeat (refine aops_cons fun K1 hK1 => ?_; simp (disch := first | with_reducible assumption | (simp -failIfUnchanged only [Mem.size_push, Mem.size_put, Mem.size_kill, List.length_cons, List.length_nil, List.length_append, List.length_map, List.length_take, List.length_replicate, ha.lenI, hb.lenI] <;> omega) | (refine (id ?_ : (_ : Bool) = true); simp only [go_sem, if_true, if_false, reduceIte, reduceCtorEq, Nat.reduceAdd, Nat.reduceSub, Nat.reduceBEq, Nat.reduceLT, Nat.reduceMul, Nat.reducePow, Nat.reduceLeDiff, ha.lenI, hb.lenI]; done) | fail "no") only [go_sem, if_true, if_false, reduceIte, reduceCtorEq, Nat.reduceAdd, Nat.reduceSub, Nat.reduceBEq, Nat.reduceLT, Nat.reduceMul, Nat.reducePow, Nat.reduceLeDiff, ha.lenI, hb.lenI]; refine hK1 _ _ ?_; clear hK1 K1)); refine aops_nil ?_; simp only [Nx, Caught, if_true, if_false, reduceIte, Nat.reduceEqDiff]; clear gd sep)
    | (refine hK _ _ ?_; clear hK K)
    | (clear hK K)
    )
  refine awp_if rfl (fun h => ?_) (fun h => ?_)
  · repeat (first
      | (refine awp_seq fun K hK => ?_)
      | (refine awp_block ?_)
      | (refine awp_skip ?_; simp only [Nx, Caught, if_true, if_false, reduceIte, Nat.reduceEqDiff])
      | (refine awp_exit ?_; simp only [Nx, Caught, if_true, if_false, reduceIte, Nat.reduceEqDiff])
      | (refine region_seq fun gd sep hgd => ?_; clear hgd; (repeat (refine aops_cons fun K1 hK1 => ?_; simp (disch := first | with_reducible assumption | (simp -failIfUnchanged only [Mem.size_push, Mem.size_put, Mem.size_kill, List.length_cons, List.length_nil, List.length_append, List.length_map, List.length_take, List.length_replicate] <;> omega) | (refine (id ?_ : (_ : Bool) = true); simp only [go_sem, if_true, if_false, reduceIte, reduceCtorEq, Nat.reduceAdd, Nat.reduceSub, Nat.reduceBEq, Nat.reduceLT, Nat.reduceMul, Nat.reducePow, Nat.reduceLeDiff]; done) | fail "no") only [go_sem, if_true, if_false, reduceIte, reduceCtorEq, Nat.reduceAdd, Nat.reduceSub, Nat.reduceBEq, Nat.reduceLT, Nat.reduceMul, Nat.reducePow, Nat.reduceLeDiff]; refine hK1 _ _ ?_; clear hK1 K1)); refine aops_nil ?_; simp only [Nx, Caught, if_true, if_false, reduceIte, Nat.reduceEqDiff]; clear gd sep)
      | (refine region_draw' mixed (by decide +kernel) fun gd sep hgd hsep => ?_; clear hgd hsep; (repeat (refine aops_cons fun K1 hK1 => ?_; simp (disch := first | with_reducible assumption | (simp -failIfUnchanged only [Mem.size_push, Mem.size_put, Mem.size_kill, List.length_cons, List.length_nil, List.length_append, List.length_map, List.length_take, List.length_replicate] <;> omega) | (refine (id ?_ : (_ : Bool) = true); simp only [go_sem, if_true, if_false, reduceIte, reduceCtorEq, Nat.reduceAdd, Nat.reduceSub, Nat.reduceBEq, Nat.reduceLT, Nat.reduceMul, Nat.reducePow, Nat.reduceLeDiff]; done) | fail "no") only [go_sem, if_true, if_false, reduceIte, reduceCtorEq, Nat.reduceAdd, Nat.reduceSub, Nat.reduceBEq, Nat.reduceLT, Nat.reduceMul, Nat.reducePow, Nat.reduceLeDiff]; refine hK1 _ _ ?_; clear hK1 K1)); refine aops_nil ?_; simp only [Nx, Caught, if_true, if_false, reduceIte, Nat.reduceEqDiff]; clear gd sep)
      | (refine hK _ _ ?_; clear hK K)
      | (clear hK K)
      )
    refine awp_ret ?_; try simp only [Nx, Caught]
    apply ends_ret
    · simp (disch := first | with_reducible assumption | (simp -failIfUnchanged only [Mem.size_push, Mem.size_put, Mem.size_kill, List.length_cons, List.length_nil, List.length_append, List.length_map, List.length_take, List.length_replicate] <;> omega) | (refine (id ?_ : (_ : Bool) = true); simp only [go_sem, if_true, if_false, reduceIte, reduceCtorEq, Nat.reduceAdd, Nat.reduceSub, Nat.reduceBEq, Nat.reduceLT, Nat.reduceMul, Nat.reducePow, Nat.reduceLeDiff]; done) | fail "no") only [go_sem, if_true, if_false, reduceIte, reduceCtorEq, Nat.reduceAdd, Nat.reduceSub, Nat.reduceBEq, Nat.reduceLT, Nat.reduceMul, Nat.reducePow, Nat.reduceLeDiff, aress, ares1]; exact rfl
    simp only [tupled]
    simp at h ⊢
    intro e; subst e; exact h rfl
  · have hlen : xs.length = ys.length := by simp at h; omega
    repeat (first
      | (refine awp_seq fun K hK => ?_)
      | (refine awp_block ?_)
      | (refine awp_skip ?_; simp only [Nx, Caught, if_true, if_false, reduceIte, Nat.reduceEqDiff])
      | (refine awp_exit ?_; simp only [Nx, Caught, if_true, if_false, reduceIte, Nat.reduceEqDiff])
      | (refine region_seq fun gd sep hgd => ?_; clear hgd; (repeat (refine aops_cons fun K1 hK1 => ?_; simp (disch := first | with_reducible assumption | (simp -failIfUnchanged only [Mem.size_push, Mem.size_put, Mem.size_kill, List.length_cons, List.length_nil, List.length_append, List.length_map, List.length_take, List.length_replicate] <;> omega) | (refine (id ?_ : (_ : Bool) = true); simp only [go_sem, if_true, if_false, reduceIte, reduceCtorEq, Nat.reduceAdd, Nat.reduceSub, Nat.reduceBEq, Nat.reduceLT, Nat.reduceMul, Nat.reducePow, Nat.reduceLeDiff]; done) | fail "no") only [go_sem, if_true, if_false, reduceIte, reduceCtorEq, Nat.reduceAdd, Nat.reduceSub, Nat.reduceBEq, Nat.reduceLT, Nat.reduceMul, Nat.reducePow, Nat.reduceLeDiff]; refine hK1 _ _ ?_; clear hK1 K1)); refine aops_nil ?_; simp only [Nx, Caught, if_true, if_false, reduceIte, Nat.reduceEqDiff]; clear gd sep)
      | (refine region_draw' mixed (by decide +kernel) fun gd sep hgd hsep => ?_; clear hgd hsep; (repeat (refine aops_cons fun K1 hK1 => ?_; simp (disch := first | with_reducible assumption | (simp -failIfUnchanged only [Mem.size_push, Mem.size_put, Mem.size_kill, List.length_cons, List.length_nil, List.length_append, List.length_map, List.length_take, List.length_replicate] <;> omega) | (refine (id ?_ : (_ : Bool) = true); simp only [go_sem, if_true, if_false, reduceIte, reduceCtorEq, Nat.reduceAdd, Nat.reduceSub, Nat.reduceBEq, Nat.reduceLT, Nat.reduceMul, Nat.reducePow, Nat.reduceLeDiff]; done) | fail "no") only [go_sem, if_true, if_false, reduceIte, reduceCtorEq, Nat.reduceAdd, Nat.reduceSub, Nat.reduceBEq, Nat.reduceLT, Nat.reduceMul, Nat.reducePow, Nat.reduceLeDiff]; refine hK1 _ _ ?_; clear hK1 K1)); refine aops_nil ?_; simp only [Nx, Caught, if_true, if_false, reduceIte, Nat.reduceEqDiff]; clear gd sep)
      | (refine hK _ _ ?_; clear hK K)
      | (clear hK K)
      )
    refine awp_loop (fun n ts m' => ∃ k : Nat, n = xs.length - k ∧ k ≤ xs.length ∧ ts 0 = a ∧ ts 1 = b ∧ ts 5 = .int .i64 k ∧ m' = m ∧ ∀ i, i < k → xs.getD i 0 = ys.getD i 0) xs.length ⟨0, rfl, by omega, rfl, rfl, rfl, rfl, fun i hi => by omega⟩ ?_
    rintro n ts _ ⟨k, rfl, hk, h0, h1, h5, rfl, hs⟩ J hJ
    repeat (first
      | (refine awp_seq fun K hK => ?_)
      | (refine awp_block ?_)
      | (refine awp_skip ?_; simp only [Nx, Caught, if_true, if_false, reduceIte, Nat.reduceEqDiff])
      | (refine awp_exit ?_; simp only [Nx, Caught, if_true, if_false, reduceIte, Nat.reduceEqDiff])
      | (refine region_seq fun gd sep hgd => ?_; clear hgd; (repeat (refine aops_cons fun K1 hK1 => ?_; simp (disch := first | with_reducible assumption | (simp -failIfUnchanged only [Mem.size_push, Mem.size_put, Mem.size_kill, List.length_cons, List.length_nil, List.length_append, List.length_map, List.length_take, List.length_replicate, ha.lenI, hb.lenI, h0, h1, h5] <;> omega) | (refine (id ?_ : (_ : Bool) = true); simp only [go_sem, if_true, if_false, reduceIte, reduceCtorEq, Nat.reduceAdd, Nat.reduceSub, Nat.reduceBEq, Nat.reduceLT, Nat.reduceMul, Nat.reducePow, Nat.reduceLeDiff, ha.lenI, hb.lenI, h0, h1, h5]; done) | fail "no") only [go_sem, if_true, if_false, reduceIte, reduceCtorEq, Nat.reduceAdd, Nat.reduceSub, Nat.reduceBEq, Nat.reduceLT, Nat.reduceMul, Nat.reducePow, Nat.reduceLeDiff, ha.lenI, hb.lenI, h0, h1, h5]; refine hK1 _ _ ?_; clear hK1 K1)); refine aops_nil ?_; simp only [Nx, Caught, if_true, if_false, reduceIte, Nat.reduceEqDiff]; clear gd sep)
      | (refine region_draw' mixed (by decide +kernel) fun gd sep hgd hsep => ?_; clear hgd hsep; (repeat (refine aops_cons fun K1 hK1 => ?_; simp (disch := first | with_reducible assumption | (simp -failIfUnchanged only [Mem.size_push, Mem.size_put, Mem.size_kill, List.length_cons, List.length_nil, List.length_append, List.length_map, List.length_take, List.length_replicate, ha.lenI, hb.lenI, h0, h1, h5] <;> omega) | (refine (id ?_ : (_ : Bool) = true); simp only [go_sem, if_true, if_false, reduceIte, reduceCtorEq, Nat.reduceAdd, Nat.reduceSub, Nat.reduceBEq, Nat.reduceLT, Nat.reduceMul, Nat.reducePow, Nat.reduceLeDiff, ha.lenI, hb.lenI, h0, h1, h5]; done) | fail "no") only [go_sem, if_true, if_false, reduceIte, reduceCtorEq, Nat.reduceAdd, Nat.reduceSub, Nat.reduceBEq, Nat.reduceLT, Nat.reduceMul, Nat.reducePow, Nat.reduceLeDiff, ha.lenI, hb.lenI, h0, h1, h5]; refine hK1 _ _ ?_; clear hK1 K1)); refine aops_nil ?_; simp only [Nx, Caught, if_true, if_false, reduceIte, Nat.reduceEqDiff]; clear gd sep)
      | (refine hK _ _ ?_; clear hK K)
      | (clear hK K)
      )
    refine awp_if rfl (fun h => ?_) (fun h => ?_)
    · have hlt : k < xs.length := by simp at h; omega
      repeat (first
        | (refine awp_seq fun K hK => ?_)
        | (refine awp_block ?_)
        | (refine awp_skip ?_; simp only [Nx, Caught, if_true, if_false, reduceIte, Nat.reduceEqDiff])
        | (refine awp_exit ?_; simp only [Nx, Caught, if_true, if_false, reduceIte, Nat.reduceEqDiff])
        | (refine region_seq fun gd sep hgd => ?_; clear hgd; (repeat (refine aops_cons fun K1 hK1 => ?_; simp (disch := first | with_reducible assumption | (simp -failIfUnchanged only [Mem.size_push, Mem.size_put, Mem.size_kill, List.length_cons, List.length_nil, List.length_append, List.length_map, List.length_take, List.length_replicate, ha.idxI, hb.idxI, ha.loadI, hb.loadI, Int.toNat_natCast, h0, h1, h5] <;> omega) | (refine (id ?_ : (_ : Bool) = true); simp only [go_sem, if_true, if_false, reduceIte, reduceCtorEq, Nat.reduceAdd, Nat.reduceSub, Nat.reduceBEq, Nat.reduceLT, Nat.reduceMul, Nat.reducePow, Nat.reduceLeDiff, ha.idxI, hb.idxI, ha.loadI, hb.loadI, Int.toNat_natCast, h0, h1, h5]; done) | fail "no") only [go_sem, if_true, if_false, reduceIte, reduceCtorEq, Nat.reduceAdd, Nat.reduceSub, Nat.reduceBEq, Nat.reduceLT, Nat.reduceMul, Nat.reducePow, Nat.reduceLeDiff, ha.idxI, hb.idxI, ha.loadI, hb.loadI, Int.toNat_natCast, h0, h1, h5]; refine hK1 _ _ ?_; clear hK1 K1)); refine aops_nil ?_; simp only [Nx, Caught, if_true, if_false, reduceIte, Nat.reduceEqDiff]; clear gd sep)
        | (refine region_draw' mixed (by decide +kernel) fun gd sep hgd hsep => ?_; clear hgd hsep; (repeat (refine aops_cons fun K1 hK1 => ?_; simp (disch := first | with_reducible assumption | (simp -failIfUnchanged only [Mem.size_push, Mem.size_put, Mem.size_kill, List.length_cons, List.length_nil, List.length_append, List.length_map, List.length_take, List.length_replicate, ha.idxI, hb.idxI, ha.loadI, hb.loadI, Int.toNat_natCast, h0, h1, h5] <;> omega) | (refine (id ?_ : (_ : Bool) = true); simp only [go_sem, if_true, if_false, reduceIte, reduceCtorEq, Nat.reduceAdd, Nat.reduceSub, Nat.reduceBEq, Nat.reduceLT, Nat.reduceMul, Nat.reducePow, Nat.reduceLeDiff, ha.idxI, hb.idxI, ha.loadI, hb.loadI, Int.toNat_natCast, h0, h1, h5]; done) | fail "no") only [go_sem, if_true, if_false, reduceIte, reduceCtorEq, Nat.reduceAdd, Nat.reduceSub, Nat.reduceBEq, Nat.reduceLT, Nat.reduceMul, Nat.reducePow, Nat.reduceLeDiff, ha.idxI, hb.idxI, ha.loadI, hb.loadI, Int.toNat_natCast, h0, h1, h5]; refine hK1 _ _ ?_; clear hK1 K1)); refine aops_nil ?_; simp only [Nx, Caught, if_true, if_false, reduceIte, Nat.reduceEqDiff]; clear gd sep)
        | (refine hK _ _ ?_; clear hK K)
        | (clear hK K)
        )
      refine awp_if rfl (fun h => ?_) (fun h => ?_)
      · repeat (first
          | (refine awp_seq fun K hK => ?_)
          | (refine awp_block ?_)
          | (refine awp_skip ?_; simp only [Nx, Caught, if_true, if_false, reduceIte, Nat.reduceEqDiff])
          | (refine awp_exit ?_; simp only [Nx, Caught, if_true, if_false, reduceIte, Nat.reduceEqDiff])
          | (refine region_seq fun gd sep hgd => ?_; clear hgd; (repeat (refine aops_cons fun K1 hK1 => ?_; simp (disch := first | with_reducible assumption | (simp -failIfUnchanged only [Mem.size_push, Mem.size_put, Mem.size_kill, List.length_cons, List.length_nil, List.length_append, List.length_map, List.length_take, List.length_replicate] <;> omega) | (refine (id ?_ : (_ : Bool) = true); simp only [go_sem, if_true, if_false, reduceIte, reduceCtorEq, Nat.reduceAdd, Nat.reduceSub, Nat.reduceBEq, Nat.reduceLT, Nat.reduceMul, Nat.reducePow, Nat.reduceLeDiff]; done) | fail "no") only [go_sem, if_true, if_false, reduceIte, reduceCtorEq, Nat.reduceAdd, Nat.reduceSub, Nat.reduceBEq, Nat.reduceLT, Nat.reduceMul, Nat.reducePow, Nat.reduceLeDiff]; refine hK1 _ _ ?_; clear hK1 K1)); refine aops_nil ?_; simp only [Nx, Caught, if_true, if_false, reduceIte, Nat.reduceEqDiff]; clear gd sep)
          | (refine region_draw' mixed (by decide +kernel) fun gd sep hgd hsep => ?_; clear hgd hsep; (repeat (refine aops_cons fun K1 hK1 => ?_; simp (disch := first | with_reducible assumption | (simp -failIfUnchanged only [Mem.size_push, Mem.size_put, Mem.size_kill, List.length_cons, List.length_nil, List.length_append, List.length_map, List.length_take, List.length_replicate] <;> omega) | (refine (id ?_ : (_ : Bool) = true); simp only [go_sem, if_true, if_false, reduceIte, reduceCtorEq, Nat.reduceAdd, Nat.reduceSub, Nat.reduceBEq, Nat.reduceLT, Nat.reduceMul, Nat.reducePow, Nat.reduceLeDiff]; done) | fail "no") only [go_sem, if_true, if_false, reduceIte, reduceCtorEq, Nat.reduceAdd, Nat.reduceSub, Nat.reduceBEq, Nat.reduceLT, Nat.reduceMul, Nat.reducePow, Nat.reduceLeDiff]; refine hK1 _ _ ?_; clear hK1 K1)); refine aops_nil ?_; simp only [Nx, Caught, if_true, if_false, reduceIte, Nat.reduceEqDiff]; clear gd sep)
          | (refine hK _ _ ?_; clear hK K)
          | (clear hK K)
          )
        refine awp_ret ?_; try simp only [Nx, Caught]
        apply ends_ret
        · simp (disch := first | with_reducible assumption | (simp -failIfUnchanged only [Mem.size_push, Mem.size_put, Mem.size_kill, List.length_cons, List.length_nil, List.length_append, List.length_map, List.length_take, List.length_replicate] <;> omega) | (refine (id ?_ : (_ : Bool) = true); simp only [go_sem, if_true, if_false, reduceIte, reduceCtorEq, Nat.reduceAdd, Nat.reduceSub, Nat.reduceBEq, Nat.reduceLT, Nat.reduceMul, Nat.reducePow, Nat.reduceLeDiff]; done) | fail "no") only [go_sem, if_true, if_false, reduceIte, reduceCtorEq, Nat.reduceAdd, Nat.reduceSub, Nat.reduceBEq, Nat.reduceLT, Nat.reduceMul, Nat.reducePow, Nat.reduceLeDiff, aress, ares1]; exact rfl
        simp only [tupled]
        simp at h ⊢
        intro e; subst e; exact h rfl
      · repeat (first
          | (refine awp_seq fun K hK => ?_)
          | (refine awp_block ?_)
          | (refine awp_skip ?_; simp only [Nx, Caught, if_true, if_false, reduceIte, Nat.reduceEqDiff])
          | (refine awp_exit ?_; simp only [Nx, Caught, if_true, if_false, reduceIte, Nat.reduceEqDiff])
          | (refine region_seq fun gd sep hgd => ?_; clear hgd; (repeat (refine aops_cons fun K1 hK1 => ?_; simp (disch := first | with_reducible assumption | (simp -failIfUnchanged only [Mem.size_push, Mem.size_put, Mem.size_kill, List.length_cons, List.length_nil, List.length_append, List.length_map, List.length_take, List.length_replicate, h0, h1, h5] <;> omega) | (refine (id ?_ : (_ : Bool) = true); simp only [go_sem, if_true, if_false, reduceIte, reduceCtorEq, Nat.reduceAdd, Nat.reduceSub, Nat.reduceBEq, Nat.reduceLT, Nat.reduceMul, Nat.reducePow, Nat.reduceLeDiff, h0, h1, h5]; done) | fail "no") only [go_sem, if_true, if_false, reduceIte, reduceCtorEq, Nat.reduceAdd, Nat.reduceSub, Nat.reduceBEq, Nat.reduceLT, Nat.reduceMul, Nat.reducePow, Nat.reduceLeDiff, h0, h1, h5]; refine hK1 _ _ ?_; clear hK1 K1)); refine aops_nil ?_; simp only [Nx, Caught, if_true, if_false, reduceIte, Nat.reduceEqDiff]; clear gd sep)
          | (refine region_draw' mixed (by decide +kernel) fun gd sep hgd hsep => ?_; clear hgd hsep; (repeat (refine aops_cons fun K1 hK1 => ?_; simp (disch := first | with_reducible assumption | (simp -failIfUnchanged only [Mem.size_push, Mem.size_put, Mem.size_kill, List.length_cons, List.length_nil, List.length_append, List.length_map, List.length_take, List.length_replicate, h0, h1, h5] <;> omega) | (refine (id ?_ : (_ : Bool) = true); simp only [go_sem, if_true, if_false, reduceIte, reduceCtorEq, Nat.reduceAdd, Nat.reduceSub, Nat.reduceBEq, Nat.reduceLT, Nat.reduceMul, Nat.reducePow, Nat.reduceLeDiff, h0, h1, h5]; done) | fail "no") only [go_sem, if_true, if_false, reduceIte, reduceCtorEq, Nat.reduceAdd, Nat.reduceSub, Nat.reduceBEq, Nat.reduceLT, Nat.reduceMul, Nat.reducePow, Nat.reduceLeDiff, h0, h1, h5]; refine hK1 _ _ ?_; clear hK1 K1)); refine aops_nil ?_; simp only [Nx, Caught, if_true, if_false, reduceIte, Nat.reduceEqDiff]; clear gd sep)
          | (refine hK _ _ ?_; clear hK K)
          | (clear hK K)
          )
        refine hJ _ _ _ ?_ ⟨k + 1, rfl, by omega, h0, h1, rfl, rfl, fun i hi => ?_⟩
        · omega
        · by_cases e : i = k
          · subst e; simpa using h
          · exact hs i (by omega)
    · have he : k = xs.length := by simp at h; omega
      repeat (first
        | (refine awp_seq fun K hK => ?_)
        | (refine awp_block ?_)
        | (refine awp_skip ?_; simp only [Nx, Caught, if_true, if_false, reduceIte, Nat.reduceEqDiff])
        | (refine awp_exit ?_; simp only [Nx, Caught, if_true, if_false, reduceIte, Nat.reduceEqDiff])
        | (refine region_seq fun gd sep hgd => ?_; clear hgd; (repeat (refine aops_cons fun K1 hK1 => ?_; simp (disch := first | with_reducible assumption | (simp -failIfUnchanged only [Mem.size_push, Mem.size_put, Mem.size_kill, List.length_cons, List.length_nil, List.length_append, List.length_map, List.length_take, List.length_replicate] <;> omega) | (refine (id ?_ : (_ : Bool) = true); simp only [go_sem, if_true, if_false, reduceIte, reduceCtorEq, Nat.reduceAdd, Nat.reduceSub, Nat.reduceBEq, Nat.reduceLT, Nat.reduceMul, Nat.reducePow, Nat.reduceLeDiff]; done) | fail "no") only [go_sem, if_true, if_false, reduceIte, reduceCtorEq, Nat.reduceAdd, Nat.reduceSub, Nat.reduceBEq, Nat.reduceLT, Nat.reduceMul, Nat.reducePow, Nat.reduceLeDiff]; refine hK1 _ _ ?_; clear hK1 K1)); refine aops_nil ?_; simp only [Nx, Caught, if_true, if_false, reduceIte, Nat.reduceEqDiff]; clear gd sep)
        | (refine region_draw' mixed (by decide +kernel) fun gd sep hgd hsep => ?_; clear hgd hsep; (repeat (refine aops_cons fun K1 hK1 => ?_; simp (disch := first | with_reducible assumption | (simp -failIfUnchanged only [Mem.size_push, Mem.size_put, Mem.size_kill, List.length_cons, List.length_nil, List.length_append, List.length_map, List.length_take, List.length_replicate] <;> omega) | (refine (id ?_ : (_ : Bool) = true); simp only [go_sem, if_true, if_false, reduceIte, reduceCtorEq, Nat.reduceAdd, Nat.reduceSub, Nat.reduceBEq, Nat.reduceLT, Nat.reduceMul, Nat.reducePow, Nat.reduceLeDiff]; done) | fail "no") only [go_sem, if_true, if_false, reduceIte, reduceCtorEq, Nat.reduceAdd, Nat.reduceSub, Nat.reduceBEq, Nat.reduceLT, Nat.reduceMul, Nat.reducePow, Nat.reduceLeDiff]; refine hK1 _ _ ?_; clear hK1 K1)); refine aops_nil ?_; simp only [Nx, Caught, if_true, if_false, reduceIte, Nat.reduceEqDiff]; clear gd sep)
        | (refine hK _ _ ?_; clear hK K)
        | (clear hK K)
        )
      refine awp_ret ?_; try simp only [Nx, Caught]
      apply ends_ret
      · simp (disch := first | with_reducible assumption | (simp -failIfUnchanged only [Mem.size_push, Mem.size_put, Mem.size_kill, List.length_cons, List.length_nil, List.length_append, List.length_map, List.length_take, List.length_replicate] <;> omega) | (refine (id ?_ : (_ : Bool) = true); simp only [go_sem, if_true, if_false, reduceIte, reduceCtorEq, Nat.reduceAdd, Nat.reduceSub, Nat.reduceBEq, Nat.reduceLT, Nat.reduceMul, Nat.reducePow, Nat.reduceLeDiff]; done) | fail "no") only [go_sem, if_true, if_false, reduceIte, reduceCtorEq, Nat.reduceAdd, Nat.reduceSub, Nat.reduceBEq, Nat.reduceLT, Nat.reduceMul, Nat.reducePow, Nat.reduceLeDiff, aress, ares1]; exact rfl
      simp only [tupled]
      simp
      exact list_eq_of_getD hlen (he ▸ hs)
theorem eqIntS_c {m : Mem} {a b : AVal} {xs ys : List Int} (ha : RdI m a xs) (hb : RdI m b ys) (hx : xs.length ≤ 1099511627776) :
    ∃ v m', (v = .bool (xs == ys) ∧ m' = m) ∧ DCalls PP m.size 27 [a, b] m v m' := by
  refine enter Try.func27 (by decide) rfl Try.ntmps27 Try.results27 ?_
  repeat (first
    | (refine awp_seq fun K hK => ?_)
    | (refine awp_block ?_)
    | (refine awp_skip ?_; simp only [Nx, Caught, if_true, if_false, reduceIte, Nat.reduceEqDiff])
    | (refine awp_exit ?_; simp only [Nx, Caught, if_true, if_false, reduceIte, Nat.reduceEqDiff])
    | (refine region_seq fun gd sep hgd => ?_; clear hgd; (repeat (refine aops_cons fun K1 hK1 => ?_; simp (disch := first | with_reducible assumption | (simp -failIfUnchanged only [Mem.size_push, Mem.size_put, Mem.size_kill, List.length_cons, List.length_nil, List.length_append, List.length_map, List.length_take, List.length_replicate, ha.lenI, hb.lenI] <;> omega) | (refine (id ?_ : (_ : Bool) = true); simp only [go_sem, if_true, if_false, reduceIte, reduceCtorEq, Nat.reduceAdd, Nat.reduceSub, Nat.reduceBEq, Nat.reduceLT, Nat.reduceMul, Nat.reducePow, Nat.reduceLeDiff, ha.lenI, hb.lenI]; done) | fail "no") only [go_sem, if_true, if_false, reduceIte, reduceCtorEq, Nat.reduceAdd, Nat.reduceSub, Nat.reduceBEq, Nat.reduceLT, Nat.reduceMul, Nat.reducePow, Nat.reduceLeDiff, ha.lenI, hb.lenI]; refine hK1 _ _ ?_; clear hK1 K1)); refine aops_nil ?_; simp only [Nx, Caught, if_true, if_false, reduceIte, Nat.reduceEqDiff]; clear gd sep)
    | (refine region_draw' mixed (by decide +kernel) fun gd sep hgd hsep => ?_; clear hgd hsep; (repeat (refine aops_cons fun K1 hK1 => ?_; simp (disch := first | with_reducible assumption | (simp -failIfUnchanged only [Mem.size_push, Mem.size_put, Mem.size_kill, List.length_cons, List.length_nil, List.length_append, List.length_map, List.length_take, List.length_replicate, ha.lenI, hb.lenI] <;> omega) | (refine (id ?_ : (_ : Bool) = true); simp only [go_sem, if_true, if_false, reduceIte, reduceCtorEq, Nat.reduceAdd, Nat.reduceSub, Nat.reduceBEq, Nat.reduceLT, Nat.reduceMul, Nat.reducePow, Nat.reduceLeDiff, ha.lenI, hb.lenI]; done) | fail "no") only [go_sem, if_true, if_false, reduceIte, reduceCtorEq, Nat.reduceAdd, Nat.reduceSub, Nat.reduceBEq, Nat.reduceLT, Nat.reduceMul, Nat.reducePow, Nat.reduceLeDiff, ha.lenI, hb.lenI]; refine hK1 _ _ ?_; clear hK1 K1)); refine aops_nil ?_; simp only [Nx, Caught, if_true, if_false, reduceIte, Nat.reduceEqDiff]; clear gd sep)
    | (refine hK _ _ ?_; clear hK K)
    | (clear hK K)
    )
  refine awp_if rfl (fun h => ?_) (fun h => ?_)
  · repeat (first
      | (refine awp_seq fun K hK => ?_)
      | (refine awp_block ?_)
      | (refine awp_skip ?_; simp only [Nx, Caught, if_true, if_false, reduceIte, Nat.reduceEqDiff])
      | (refine awp_exit ?_; simp only [Nx, Caught, if_true, if_false, reduceIte, Nat.reduceEqDiff])
      | (refine region_seq fun gd sep hgd => ?_; clear hgd; (repeat (refine aops_cons fun K1 hK1 => ?_; simp (disch := first | with_reducible assumption | (simp -failIfUnchanged only [Mem.size_push, Mem.size_put, Mem.size_kill, List.length_cons, List.length_nil, List.length_append, List.length_map, List.length_take, List.length_replicate] <;> omega) | (refine (id ?_ : (_ : Bool) = true); simp only [go_sem, if_true, if_false, reduceIte, reduceCtorEq, Nat.reduceAdd, Nat.reduceSub, Nat.reduceBEq, Nat.reduceLT, Nat.reduceMul, Nat.reducePow, Nat.reduceLeDiff]; done) | fail "no") only [go_sem, if_true, if_false, reduceIte, reduceCtorEq, Nat.reduceAdd, Nat.reduceSub, Nat.reduceBEq, Nat.reduceLT, Nat.reduceMul, Nat.reducePow, Nat.reduceLeDiff]; refine hK1 _ _ ?_; clear hK1 K1)); refine aops_nil ?_; simp only [Nx, Caught, if_true, if_false, reduceIte, Nat.reduceEqDiff]; clear gd sep)
      | (refine region_draw' mixed (by decide +kernel) fun gd sep hgd hsep => ?_; clear hgd hsep; (repeat (refine aops_cons fun K1 hK1 => ?_; simp (disch := first | with_reducible assumption | (simp -failIfUnchanged only [Mem.size_push, Mem.size_put, Mem.size_kill, List.length_cons, List.length_nil, List.length_append, List.length_map, List.length_take, List.length_replicate] <;> omega) | (refine (id ?_ : (_ : Bool) = true); simp only [go_sem, if_true, if_false, reduceIte, reduceCtorEq, Nat.reduceAdd, Nat.reduceSub, Nat.reduceBEq, Nat.reduceLT, Nat.reduceMul, Nat.reducePow, Nat.reduceLeDiff]; done) | fail "no") only [go_sem, if_true, if_false, reduceIte, reduceCtorEq, Nat.reduceAdd, Nat.reduceSub, Nat.reduceBEq, Nat.reduceLT, Nat.reduceMul, Nat.reducePow, Nat.reduceLeDiff]; refine hK1 _ _ ?_; clear hK1 K1)); refine aops_nil ?_; simp only [Nx, Caught, if_true, if_false, reduceIte, Nat.reduceEqDiff]; clear gd sep)
      | (refine hK _ _ ?_; clear hK K)
      | (clear hK K)
      )
    refine awp_ret ?_; try simp only [Nx, Caught]
    apply ends_ret
    · simp (disch := first | with_reducible assumption | (simp -failIfUnchanged only [Mem.size_push, Mem.size_put, Mem.size_kill, List.length_cons, List.length_nil, List.length_append, List.length_map, List.length_take, List.length_replicate] <;> omega) | (refine (id ?_ : (_ : Bool) = true); simp only [go_sem, if_true, if_false, reduceIte, reduceCtorEq, Nat.reduceAdd, Nat.reduceSub, Nat.reduceBEq, Nat.reduceLT, Nat.reduceMul, Nat.reducePow, Nat.reduceLeDiff]; done) | fail "no") only [go_sem, if_true, if_false, reduceIte, reduceCtorEq, Nat.reduceAdd, Nat.reduceSub, Nat.reduceBEq, Nat.reduceLT, Nat.reduceMul, Nat.reducePow, Nat.reduceLeDiff, aress, ares1]; exact rfl
    simp only [tupled]
    simp at h ⊢
    intro e; subst e; exact h rfl
  · have hlen : xs.length = ys.length := by simp at h; omega
    repeat (first
      | (refine awp_seq fun K hK => ?_)
      | (refine awp_block ?_)
      | (refine awp_skip ?_; simp only [Nx, Caught, if_true, if_false, reduceIte, Nat.reduceEqDiff])
      | (refine awp_exit ?_; simp only [Nx, Caught, if_true, if_false, reduceIte, Nat.reduceEqDiff])
      | (refine region_seq fun gd sep hgd => ?_; clear hgd; (repeat (refine aops_cons fun K1 hK1 => ?_; simp (disch := first | with_reducible assumption | (simp -failIfUnchanged only [Mem.size_push, Mem.size_put, Mem.size_kill, List.length_cons, List.length_nil, List.length_append, List.length_map, List.length_take, List.length_replicate] <;> omega) | (refine (id ?_ : (_ : Bool) = true); simp only [go_sem, if_true, if_false, reduceIte, reduceCtorEq, Nat.reduceAdd, Nat.reduceSub, Nat.reduceBEq, Nat.reduceLT, Nat.reduceMul, Nat.reducePow, Nat.reduceLeDiff]; done) | fail "no") only [go_sem, if_true, if_false, reduceIte, reduceCtorEq, Nat.reduceAdd, Nat.reduceSub, Nat.reduceBEq, Nat.reduceLT, Nat.reduceMul, Nat.reducePow, Nat.reduceLeDiff]; refine hK1 _ _ ?_; clear hK1 K1)); refine aops_nil ?_; simp only [Nx, Caught, if_true, if_false, reduceIte, Nat.reduceEqDiff]; clear gd sep)
      | (refine region_draw' mixed (by decide +kernel) fun gd sep hgd hsep => ?_; clear hgd hsep; (repeat (refine aops_cons fun K1 hK1 => ?_; simp (disch := first | with_reducible assumption | (simp -failIfUnchanged only [Mem.size_push, Mem.size_put, Mem.size_kill, List.length_cons, List.length_nil, List.length_append, List.length_map, List.length_take, List.length_replicate] <;> omega) | (refine (id ?_ : (_ : Bool) = true); simp only [go_sem, if_true, if_false, reduceIte, reduceCtorEq, Nat.reduceAdd, Nat.reduceSub, Nat.reduceBEq, Nat.reduceLT, Nat.reduceMul, Nat.reducePow, Nat.reduceLeDiff]; done) | fail "no") only [go_sem, if_true, if_false, reduceIte, reduceCtorEq, Nat.reduceAdd, Nat.reduceSub, Nat.reduceBEq, Nat.reduceLT, Nat.reduceMul, Nat.reducePow, Nat.reduceLeDiff]; refine hK1 _ _ ?_; clear hK1 K1)); refine aops_nil ?_; simp only [Nx, Caught, if_true, if_false, reduceIte, Nat.reduceEqDiff]; clear gd sep)
      | (refine hK _ _ ?_; clear hK K)
      | (clear hK K)
      )
    refine awp_loop (fun n ts m' => ∃ k : Nat, n = xs.length - k ∧ k ≤ xs.length ∧ ts 0 = a ∧ ts 1 = b ∧ ts 5 = .int .i64 k ∧ m' = m ∧ ∀ i, i < k → xs.getD i 0 = ys.getD i 0) xs.length ⟨0, rfl, by omega, rfl, rfl, rfl, rfl, fun i hi => by omega⟩ ?_
    rintro n ts _ ⟨k, rfl, hk, h0, h1, h5, rfl, hs⟩ J hJ
    repeat (first
      | (refine awp_seq fun K hK => ?_)
      | (refine awp_block ?_)
      | (refine awp_skip ?_; simp only [Nx, Caught, if_true, if_false, reduceIte, Nat.reduceEqDiff])
      | (refine awp_exit ?_; simp only [Nx, Caught, if_true, if_false, reduceIte, Nat.reduceEqDiff])
      | (refine region_seq fun gd sep hgd => ?_; clear hgd; (repeat (refine aops_cons fun K1 hK1 => ?_; simp (disch := first | with_reducible assumption | (simp -failIfUnchanged only [Mem.size_push, Mem.size_put, Mem.size_kill, List.length_cons, List.length_nil, List.length_append, List.length_map, List.length_take, List.length_replicate, ha.lenI, hb.lenI, h0, h1, h5] <;> omega) | (refine (id ?_ : (_ : Bool) = true); simp only [go_sem, if_true, if_false, reduceIte, reduceCtorEq, Nat.reduceAdd, Nat.reduceSub, Nat.reduceBEq, Nat.reduceLT, Nat.reduceMul, Nat.reducePow, Nat.reduceLeDiff, ha.lenI, hb.lenI, h0, h1, h5]; done) | fail "no") only [go_sem, if_true, if_false, reduceIte, reduceCtorEq, Nat.reduceAdd, Nat.reduceSub, Nat.reduceBEq, Nat.reduceLT, Nat.reduceMul, Nat.reducePow, Nat.reduceLeDiff, ha.lenI, hb.lenI, h0, h1, h5]; refine hK1 _ _ ?_; clear hK1 K1)); refine aops_nil ?_; simp only [Nx, Caught, if_true, if_false, reduceIte, Nat.reduceEqDiff]; clear gd sep)
      | (refine region_draw' mixed (by decide +kernel) fun gd sep hgd hsep => ?_; clear hgd hsep; (repeat (refine aops_cons fun K1 hK1 => ?_; simp (disch := first | with_reducible assumption | (simp -failIfUnchanged only [Mem.size_push, Mem.size_put, Mem.size_kill, List.length_cons, List.length_nil, List.length_append, List.length_map, List.length_take, List.length_replicate, ha.lenI, hb.lenI, h0, h1, h5] <;> omega) | (refine (id ?_ : (_ : Bool) = true); simp only [go_sem, if_true, if_false, reduceIte, reduceCtorEq, Nat.reduceAdd, Nat.reduceSub, Nat.reduceBEq, Nat.reduceLT, Nat.reduceMul, Nat.reducePow, Nat.reduceLeDiff, ha.lenI, hb.lenI, h0, h1, h5]; done) | fail "no") only [go_sem, if_true, if_false, reduceIte, reduceCtorEq, Nat.reduceAdd, Nat.reduceSub, Nat.reduceBEq, Nat.reduceLT, Nat.reduceMul, Nat.reducePow, Nat.reduceLeDiff, ha.lenI, hb.lenI, h0, h1, h5]; refine hK1 _ _ ?_; clear hK1 K1)); refine aops_nil ?_; simp only [Nx, Caught, if_true, if_false, reduceIte, Nat.reduceEqDiff]; clear gd sep)
      | (refine hK _ _ ?_; clear hK K)
      | (clear hK K)
      )
    refine awp_if rfl (fun h => ?_) (fun h => ?_)
    · have hlt : k < xs.length := by simp at h; omega
      repeat (first
        | (refine awp_seq fun K hK => ?_)
        | (refine awp_block ?_)
        | (refine awp_skip ?_; simp only [Nx, Caught, if_true, if_false, reduceIte, Nat.reduceEqDiff])
        | (refine awp_exit ?_; simp only [Nx, Caught, if_true, if_false, reduceIte, Nat.reduceEqDiff])
        | (refine region_seq fun gd sep hgd => ?_; clear hgd; (repeat (refine aops_cons fun K1 hK1 => ?_; simp (disch := first | with_reducible assumption | (simp -failIfUnchanged only [Mem.size_push, Mem.size_put, Mem.size_kill, List.length_cons, List.length_nil, List.length_append, List.length_map, List.length_take, List.length_replicate, ha.idxI, hb.idxI, ha.loadI, hb.loadI, Int.toNat_natCast, h0, h1, h5] <;> omega) | (refine (id ?_ : (_ : Bool) = true); simp only [go_sem, if_true, if_false, reduceIte, reduceCtorEq, Nat.reduceAdd, Nat.reduceSub, Nat.reduceBEq, Nat.reduceLT, Nat.reduceMul, Nat.reducePow, Nat.reduceLeDiff, ha.idxI, hb.idxI, ha.loadI, hb.loadI, Int.toNat_natCast, h0, h1, h5]; done) | fail "no") only [go_sem, if_true, if_false, reduceIte, reduceCtorEq, Nat.reduceAdd, Nat.reduceSub, Nat.reduceBEq, Nat.reduceLT, Nat.reduceMul, Nat.reducePow, Nat.reduceLeDiff, ha.idxI, hb.idxI, ha.loadI, hb.loadI, Int.toNat_natCast, h0, h1, h5]; refine hK1 _ _ ?_; clear hK1 K1)); refine aops_nil ?_; simp only [Nx, Caught, if_true, if_false, reduceIte, Nat.reduceEqDiff]; clear gd sep)
        | (refine region_draw' mixed (by decide +kernel) fun gd sep hgd hsep => ?_; clear hgd hsep; (repeat (refine aops_cons fun K1 hK1 => ?_; simp (disch := first | with_reducible assumption | (simp -failIfUnchanged only [Mem.size_push, Mem.size_put, Mem.size_kill, List.length_cons, List.length_nil, List.length_append, List.length_map, List.length_take, List.length_replicate, ha.idxI, hb.idxI, ha.loadI, hb.loadI, Int.toNat_natCast, h0, h1, h5] <;> omega) | (refine (id ?_ : (_ : Bool) = true); simp only [go_sem, if_true, if_false, reduceIte, reduceCtorEq, Nat.reduceAdd, Nat.reduceSub, Nat.reduceBEq, Nat.reduceLT, Nat.reduceMul, Nat.reducePow, Nat.reduceLeDiff, ha.idxI, hb.idxI, ha.loadI, hb.loadI, Int.toNat_natCast, h0, h1, h5]; done) | fail "no") only [go_sem, if_true, if_false, reduceIte, reduceCtorEq, Nat.reduceAdd, Nat.reduceSub, Nat.reduceBEq, Nat.reduceLT, Nat.reduceMul, Nat.reducePow, Nat.reduceLeDiff, ha.idxI, hb.idxI, ha.loadI, hb.loadI, Int.toNat_natCast, h0, h1, h5]; refine hK1 _ _ ?_; clear hK1 K1)); refine aops_nil ?_; simp only [Nx, Caught, if_true, if_false, reduceIte, Nat.reduceEqDiff]; clear gd sep)
        | (refine hK _ _ ?_; clear hK K)
        | (clear hK K)
        )
      refine awp_if rfl (fun h => ?_) (fun h => ?_)
      · repeat (first
          | (refine awp_seq fun K hK => ?_)
          | (refine awp_block ?_)
          | (refine awp_skip ?_; simp only [Nx, Caught, if_true, if_false, reduceIte, Nat.reduceEqDiff])
          | (refine awp_exit ?_; simp only [Nx, Caught, if_true, if_false, reduceIte, Nat.reduceEqDiff])
          | (refine region_seq fun gd sep hgd => ?_; clear hgd; (repeat (refine aops_cons fun K1 hK1 => ?_; simp (disch := first | with_reducible assumption | (simp -failIfUnchanged only [Mem.size_push, Mem.size_put, Mem.size_kill, List.length_cons, List.length_nil, List.length_append, List.length_map, List.length_take, List.length_replicate] <;> omega) | (refine (id ?_ : (_ : Bool) = true); simp only [go_sem, if_true, if_false, reduceIte, reduceCtorEq, Nat.reduceAdd, Nat.reduceSub, Nat.reduceBEq, Nat.reduceLT, Nat.reduceMul, Nat.reducePow, Nat.reduceLeDiff]; done) | fail "no") only [go_sem, if_true, if_false, reduceIte, reduceCtorEq, Nat.reduceAdd, Nat.reduceSub, Nat.reduceBEq, Nat.reduceLT, Nat.reduceMul, Nat.reducePow, Nat.reduceLeDiff]; refine hK1 _ _ ?_; clear hK1 K1)); refine aops_nil ?_; simp only [Nx, Caught, if_true, if_false, reduceIte, Nat.reduceEqDiff]; clear gd sep)
          | (refine region_draw' mixed (by decide +kernel) fun gd sep hgd hsep => ?_; clear hgd hsep; (repeat (refine aops_cons fun K1 hK1 => ?_; simp (disch := first | with_reducible assumption | (simp -failIfUnchanged only [Mem.size_push, Mem.size_put, Mem.size_kill, List.length_cons, List.length_nil, List.length_append, List.length_map, List.length_take, List.length_replicate] <;> omega) | (refine (id ?_ : (_ : Bool) = true); simp only [go_sem, if_true, if_false, reduceIte, reduceCtorEq, Nat.reduceAdd, Nat.reduceSub, Nat.reduceBEq, Nat.reduceLT, Nat.reduceMul, Nat.reducePow, Nat.reduceLeDiff]; done) | fail "no") only [go_sem, if_true, if_false, reduceIte, reduceCtorEq, Nat.reduceAdd, Nat.reduceSub, Nat.reduceBEq, Nat.reduceLT, Nat.reduceMul, Nat.reducePow, Nat.reduceLeDiff]; refine hK1 _ _ ?_; clear hK1 K1)); refine aops_nil ?_; simp only [Nx, Caught, if_true, if_false, reduceIte, Nat.reduceEqDiff]; clear gd sep)
          | (refine hK _ _ ?_; clear hK K)
          | (clear hK K)
          )
        refine awp_ret ?_; try simp only [Nx, Caught]
        apply ends_ret
        · simp (disch := first | with_reducible assumption | (simp -failIfUnchanged only [Mem.size_push, Mem.size_put, Mem.size_kill, List.length_cons, List.length_nil, List.length_append, List.length_map, List.length_take, List.length_replicate] <;> omega) | (refine (id ?_ : (_ : Bool) = true); simp only [go_sem, if_true, if_false, reduceIte, reduceCtorEq, Nat.reduceAdd, Nat.reduceSub, Nat.reduceBEq, Nat.reduceLT, Nat.reduceMul, Nat.reducePow, Nat.reduceLeDiff]; done) | fail "no") only [go_sem, if_true, if_false, reduceIte, reduceCtorEq, Nat.reduceAdd, Nat.reduceSub, Nat.reduceBEq, Nat.reduceLT, Nat.reduceMul, Nat.reducePow, Nat.reduceLeDiff, aress, ares1]; exact rfl
        simp only [tupled]
        simp at h ⊢
        intro e; subst e; exact h rfl
      · repeat (first
          | (refine awp_seq fun K hK => ?_)
          | (refine awp_block ?_)
          | (refine awp_skip ?_; simp only [Nx, Caught, if_true, if_false, reduceIte, Nat.reduceEqDiff])
          | (refine awp_exit ?_; simp only [Nx, Caught, if_true, if_false, reduceIte, Nat.reduceEqDiff])
          | (refine region_seq fun gd sep hgd => ?_; clear hgd; (repeat (refine aops_cons fun K1 hK1 => ?_; simp (disch := first | with_reducible assumption | (simp -failIfUnchanged only [Mem.size_push, Mem.size_put, Mem.size_kill, List.length_cons, List.length_nil, List.length_append, List.length_map, List.length_take, List.length_replicate, h0, h1, h5] <;> omega) | (refine (id ?_ : (_ : Bool) = true); simp only [go_sem, if_true, if_false, reduceIte, reduceCtorEq, Nat.reduceAdd, Nat.reduceSub, Nat.reduceBEq, Nat.reduceLT, Nat.reduceMul, Nat.reducePow, Nat.reduceLeDiff, h0, h1, h5]; done) | fail "no") only [go_sem, if_true, if_false, reduceIte, reduceCtorEq, Nat.reduceAdd, Nat.reduceSub, Nat.reduceBEq, Nat.reduceLT, Nat.reduceMul, Nat.reducePow, Nat.reduceLeDiff, h0, h1, h5]; refine hK1 _ _ ?_; clear hK1 K1)); refine aops_nil ?_; simp only [Nx, Caught, if_true, if_false, reduceIte, Nat.reduceEqDiff]; clear gd sep)
          | (refine region_draw' mixed (by decide +kernel) fun gd sep hgd hsep => ?_; clear hgd hsep; (repeat (refine aops_cons fun K1 hK1 => ?_; simp (disch := first | with_reducible assumption | (simp -failIfUnchanged only [Mem.size_push, Mem.size_put, Mem.size_kill, List.length_cons, List.length_nil, List.length_append, List.length_map, List.length_take, List.length_replicate, h0, h1, h5] <;> omega) | (refine (id ?_ : (_ : Bool) = true); simp only [go_sem, if_true, if_false, reduceIte, reduceCtorEq, Nat.reduceAdd, Nat.reduceSub, Nat.reduceBEq, Nat.reduceLT, Nat.reduceMul, Nat.reducePow, Nat.reduceLeDiff, h0, h1, h5]; done) | fail "no") only [go_sem, if_true, if_false, reduceIte, reduceCtorEq, Nat.reduceAdd, Nat.reduceSub, Nat.reduceBEq, Nat.reduceLT, Nat.reduceMul, Nat.reducePow, Nat.reduceLeDiff, h0, h1, h5]; refine hK1 _ _ ?_; clear hK1 K1)); refine aops_nil ?_; simp only [Nx, Caught, if_true, if_false, reduceIte, Nat.reduceEqDiff]; clear gd sep)
          | (refine hK _ _ ?_; clear hK K)
          | (clear hK K)
          )
        refine hJ _ _ _ ?_ ⟨k + 1, rfl, by omega, h0, h1, rfl, rfl, fun i hi => ?_⟩
        · omega
        · by_cases e : i = k
          · subst e; simpa using h
          · exact hs i (by omega)
    · have he : k = xs.length := by simp at h; omega
      repeat (first
        | (refine awp_seq fun K hK => ?_)
        | (refine awp_block ?_)
        | (refine awp_skip ?_; simp only [Nx, Caught, if_true, if_false, reduceIte, Nat.reduceEqDiff])
        | (refine awp_exit ?_; simp only [Nx, Caught, if_true, if_false, reduceIte, Nat.reduceEqDiff])
        | (refine region_seq fun gd sep hgd => ?_; clear hgd; (repeat (refine aops_cons fun K1 hK1 => ?_; simp (disch := first | with_reducible assumption | (simp -failIfUnchanged only [Mem.size_push, Mem.size_put, Mem.size_kill, List.length_cons, List.length_nil, List.length_append, List.length_map, List.length_take, List.length_replicate] <;> omega) | (refine (id ?_ : (_ : Bool) = true); simp only [go_sem, if_true, if_false, reduceIte, reduceCtorEq, Nat.reduceAdd, Nat.reduceSub, Nat.reduceBEq, Nat.reduceLT, Nat.reduceMul, Nat.reducePow, Nat.reduceLeDiff]; done) | fail "no") only [go_sem, if_true, if_false, reduceIte, reduceCtorEq, Nat.reduceAdd, Nat.reduceSub, Nat.reduceBEq, Nat.reduceLT, Nat.reduceMul, Nat.reducePow, Nat.reduceLeDiff]; refine hK1 _ _ ?_; clear hK1 K1)); refine aops_nil ?_; simp only [Nx, Caught, if_true, if_false, reduceIte, Nat.reduceEqDiff]; clear gd sep)
        | (refine region_draw' mixed (by decide +kernel) fun gd sep hgd hsep => ?_; clear hgd hsep; (repeat (refine aops_cons fun K1 hK1 => ?_; simp (disch := first | with_reducible assumption | (simp -failIfUnchanged only [Mem.size_push, Mem.size_put, Mem.size_kill, List.length_cons, List.length_nil, List.length_append, List.length_map, List.length_take, List.length_replicate] <;> omega) | (refine (id ?_ : (_ : Bool) = true); simp only [go_sem, if_true, if_false, reduceIte, reduceCtorEq, Nat.reduceAdd, Nat.reduceSub, Nat.reduceBEq, Nat.reduceLT, Nat.reduceMul, Nat.reducePow, Nat.reduceLeDiff]; done) | fail "no") only [go_sem, if_true, if_false, reduceIte, reduceCtorEq, Nat.reduceAdd, Nat.reduceSub, Nat.reduceBEq, Nat.reduceLT, Nat.reduceMul, Nat.reducePow, Nat.reduceLeDiff]; refine hK1 _ _ ?_; clear hK1 K1)); refine aops_nil ?_; simp only [Nx, Caught, if_true, if_false, reduceIte, Nat.reduceEqDiff]; clear gd sep)
        | (refine hK _ _ ?_; clear hK K)
        | (clear hK K)
        )
      refine awp_ret ?_; try simp only [Nx, Caught]
      apply ends_ret
      · simp (disch := first | with_reducible assumption | (simp -failIfUnchanged only [Mem.size_push, Mem.size_put, Mem.size_kill, List.length_cons, List.length_nil, List.length_append, List.length_map, List.length_take, List.length_replicate] <;> omega) | (refine (id ?_ : (_ : Bool) = true); simp only [go_sem, if_true, if_false, reduceIte, reduceCtorEq, Nat.reduceAdd, Nat.reduceSub, Nat.reduceBEq, Nat.reduceLT, Nat.reduceMul, Nat.reducePow, Nat.reduceLeDiff]; done) | fail "no") only [go_sem, if_true, if_false, reduceIte, reduceCtorEq, Nat.reduceAdd, Nat.reduceSub, Nat.reduceBEq, Nat.reduceLT, Nat.reduceMul, Nat.reducePow, Nat.reduceLeDiff, aress, ares1]; exact rfl
      simp only [tupled]
      simp
      exact list_eq_of_getD hlen (he ▸ hs)
theorem eqBoolS_c {m : Mem} {a b : AVal} {xs ys : List Bool} (ha : RdB m a xs) (hb : RdB m b ys) (hx : xs.length ≤ 1099511627776) :
    ∃ v m', (v = .bool (xs == ys) ∧ m' = m) ∧ DCalls PP m.size 56 [a, b] m v m' := by
  refine enter Try.func56 (by decide) rfl Try.ntmps56 Try.results56 ?_
  repeat (first
    | (refine awp_seq fun K hK => ?_)
    | (refine awp_block ?_)
    | (refine awp_skip ?_; simp only [Nx, Caught, if_true, if_false, reduceIte, Nat.reduceEqDiff])
    | (refine awp_exit ?_; simp only [Nx, Caught, if_true, if_false, reduceIte, Nat.reduceEqDiff])
    | (refine region_seq fun gd sep hgd => ?_; clear hgd; (repeat (refine aops_cons fun K1 hK1 => ?_; simp (disch := first | with_reducible assumption | (simp -failIfUnchanged only [Mem.size_push, Mem.size_put, Mem.size_kill, List.length_cons, List.length_nil, List.length_append, List.length_map, List.length_take, List.length_replicate, ha.lenB, hb.lenB] <;> omega) | (refine (id ?_ : (_ : Bool) = true); simp only [go_sem, if_true, if_false, reduceIte, reduceCtorEq, Nat.reduceAdd, Nat.reduceSub, Nat.reduceBEq, Nat.reduceLT, Nat.reduceMul, Nat.reducePow, Nat.reduceLeDiff, ha.lenB, hb.lenB]; done) | fail "no") only [go_sem, if_true, if_false, reduceIte, reduceCtorEq, Nat.reduceAdd, Nat.reduceSub, Nat.reduceBEq, Nat.reduceLT, Nat.reduceMul, Nat.reducePow, Nat.reduceLeDiff, ha.lenB, hb.lenB]; refine hK1 _ _ ?_; clear hK1 K1)); refine aops_nil ?_; simp only [Nx, Caught, if_true, if_false, reduceIte, Nat.reduceEqDiff]; clear gd sep)
    | (refine region_draw' mixed (by decide +kernel) fun gd sep hgd hsep => ?_; clear hgd hsep; (repeat (refine aops_cons fun K1 hK1 => ?_; simp (disch := first | with_reducible assumption | (simp -failIfUnchanged only [Mem.size_push, Mem.size_put, Mem.size_kill, List.length_cons, List.length_nil, List.length_append, List.length_map, List.length_take, List.length_replicate, ha.lenB, hb.lenB] <;> omega) | (refine (id ?_ : (_ : Bool) = true); simp only [go_sem, if_true, if_false, reduceIte, reduceCtorEq, Nat.reduceAdd, Nat.reduceSub, Nat.reduceBEq, Nat.reduceLT, Nat.reduceMul, Nat.reducePow, Nat.reduceLeDiff, ha.lenB, hb.lenB]; done) | fail "no") only [go_sem, if_true, if_false, reduceIte, reduceCtorEq, Nat.reduceAdd, Nat.reduceSub, Nat.reduceBEq, Nat.reduceLT, Nat.reduceMul, Nat.reducePow, Nat.reduceLeDiff, ha.lenB, hb.lenB]; refine hK1 _ _ ?_; clear hK1 K1)); refine aops_nil ?_; simp only [Nx, Caught, if_true, if_false, reduceIte, Nat.reduceEqDiff]; clear gd sep)
    | (refine hK _ _ ?_; clear hK K)
    | (clear hK K)
    )
  refine awp_if rfl (fun h => ?_) (fun h => ?_)
  · repeat (first
      | (refine awp_seq fun K hK => ?_)
      | (refine awp_block ?_)
      | (refine awp_skip ?_; simp only [Nx, Caught, if_true, if_false, reduceIte, Nat.reduceEqDiff])
      | (refine awp_exit ?_; simp only [Nx, Caught, if_true, if_false, reduceIte, Nat.reduceEqDiff])
      | (refine region_seq fun gd sep hgd => ?_; clear hgd; (repeat (refine aops_cons fun K1 hK1 => ?_; simp (disch := first | with_reducible assumption | (simp -failIfUnchanged only [Mem.size_push, Mem.size_put, Mem.size_kill, List.length_cons, List.length_nil, List.length_append, List.length_map, List.length_take, List.length_replicate] <;> omega) | (refine (id ?_ : (_ : Bool) = true); simp only [go_sem, if_true, if_false, reduceIte, reduceCtorEq, Nat.reduceAdd, Nat.reduceSub, Nat.reduceBEq, Nat.reduceLT, Nat.reduceMul, Nat.reducePow, Nat.reduceLeDiff]; done) | fail "no") only [go_sem, if_true, if_false, reduceIte, reduceCtorEq, Nat.reduceAdd, Nat.reduceSub, Nat.reduceBEq, Nat.reduceLT, Nat.reduceMul, Nat.reducePow, Nat.reduceLeDiff]; refine hK1 _ _ ?_; clear hK1 K1)); refine aops_nil ?_; simp only [Nx, Caught, if_true, if_false, reduceIte, Nat.reduceEqDiff]; clear gd sep)
      | (refine region_draw' mixed (by decide +kernel) fun gd sep hgd hsep => ?_; clear hgd hsep; (repeat (refine aops_cons fun K1 hK1 => ?_; simp (disch := first | with_reducible assumption | (simp -failIfUnchanged only [Mem.size_push, Mem.size_put, Mem.size_kill, List.length_cons, List.length_nil, List.length_append, List.length_map, List.length_take, List.length_replicate] <;> omega) | (refine (id ?_ : (_ : Bool) = true); simp only [go_sem, if_true, if_false, reduceIte, reduceCtorEq, Nat.reduceAdd, Nat.reduceSub, Nat.reduceBEq, Nat.reduceLT, Nat.reduceMul, Nat.reducePow, Nat.reduceLeDiff]; done) | fail "no") only [go_sem, if_true, if_false, reduceIte, reduceCtorEq, Nat.reduceAdd, Nat.reduceSub, Nat.reduceBEq, Nat.reduceLT, Nat.reduceMul, Nat.reducePow, Nat.reduceLeDiff]; refine hK1 _ _ ?_; clear hK1 K1)); refine aops_nil ?_; simp only [Nx, Caught, if_true, if_false, reduceIte, Nat.reduceEqDiff]; clear gd sep)
      | (refine hK _ _ ?_; clear hK K)
      | (clear hK K)
      )
    refine awp_ret ?_; try simp only [Nx, Caught]
    apply ends_ret
    · simp (disch := first | with_reducible assumption | (simp -failIfUnchanged only [Mem.size_push, Mem.size_put, Mem.size_kill, List.length_cons, List.length_nil, List.length_append, List.length_map, List.length_take, List.length_replicate] <;> omega) | (refine (id ?_ : (_ : Bool) = true); simp only [go_sem, if_true, if_false, reduceIte, reduceCtorEq, Nat.reduceAdd, Nat.reduceSub, Nat.reduceBEq, Nat.reduceLT, Nat.reduceMul, Nat.reducePow, Nat.reduceLeDiff]; done) | fail "no") only [go_sem, if_true, if_false, reduceIte, reduceCtorEq, Nat.reduceAdd, Nat.reduceSub, Nat.reduceBEq, Nat.reduceLT, Nat.reduceMul, Nat.reducePow, Nat.reduceLeDiff, aress, ares1]; exact rfl
    simp only [tupled]
    simp at h ⊢
    intro e; subst e; exact h rfl
  · have hlen : xs.length = ys.length := by simp at h; omega
    repeat (first
      | (refine awp_seq fun K hK => ?_)
      | (refine awp_block ?_)
      | (refine awp_skip ?_; simp only [Nx, Caught, if_true, if_false, reduceIte, Nat.reduceEqDiff])
      | (refine awp_exit ?_; simp only [Nx, Caught, if_true, if_false, reduceIte, Nat.reduceEqDiff])
      | (refine region_seq fun gd sep hgd => ?_; clear hgd; (repeat (refine aops_cons fun K1 hK1 => ?_; simp (disch := first | with_reducible assumption | (simp -failIfUnchanged only [Mem.size_push, Mem.size_put, Mem.size_kill, List.length_cons, List.length_nil, List.length_append, List.length_map, List.length_take, List.length_replicate] <;> omega) | (refine (id ?_ : (_ : Bool) = true); simp only [go_sem, if_true, if_false, reduceIte, reduceCtorEq, Nat.reduceAdd, Nat.reduceSub, Nat.reduceBEq, Nat.reduceLT, Nat.reduceMul, Nat.reducePow, Nat.reduceLeDiff]; done) | fail "no") only [go_sem, if_true, if_false, reduceIte, reduceCtorEq, Nat.reduceAdd, Nat.reduceSub, Nat.reduceBEq, Nat.reduceLT, Nat.reduceMul, Nat.reducePow, Nat.reduceLeDiff]; refine hK1 _ _ ?_; clear hK1 K1)); refine aops_nil ?_; simp only [Nx, Caught, if_true, if_false, reduceIte, Nat.reduceEqDiff]; clear gd sep)
      | (refine region_draw' mixed (by decide +kernel) fun gd sep hgd hsep => ?_; clear hgd hsep; (repeat (refine aops_cons fun K1 hK1 => ?_; simp (disch := first | with_reducible assumption | (simp -failIfUnchanged only [Mem.size_push, Mem.size_put, Mem.size_kill, List.length_cons, List.length_nil, List.length_append, List.length_map, List.length_take, List.length_replicate] <;> omega) | (refine (id ?_ : (_ : Bool) = true); simp only [go_sem, if_true, if_false, reduceIte, reduceCtorEq, Nat.reduceAdd, Nat.reduceSub, Nat.reduceBEq, Nat.reduceLT, Nat.reduceMul, Nat.reducePow, Nat.reduceLeDiff]; done) | fail "no") only [go_sem, if_true, if_false, reduceIte, reduceCtorEq, Nat.reduceAdd, Nat.reduceSub, Nat.reduceBEq, Nat.reduceLT, Nat.reduceMul, Nat.reducePow, Nat.reduceLeDiff]; refine hK1 _ _ ?_; clear hK1 K1)); refine aops_nil ?_; simp only [Nx, Caught, if_true, if_false, reduceIte, Nat.reduceEqDiff]; clear gd sep)
      | (refine hK _ _ ?_; clear hK K)
      | (clear hK K)
      )
    refine awp_loop (fun n ts m' => ∃ k : Nat, n = xs.length - k ∧ k ≤ xs.length ∧ ts 0 = a ∧ ts 1 = b ∧ ts 5 = .int .i64 k ∧ m' = m ∧ ∀ i, i < k → xs.getD i false = ys.getD i false) xs.length ⟨0, rfl, by omega, rfl, rfl, rfl, rfl, fun i hi => by omega⟩ ?_
    rintro n ts _ ⟨k, rfl, hk, h0, h1, h5, rfl, hs⟩ J hJ
    repeat (first
      | (refine awp_seq fun K hK => ?_)
      | (refine awp_block ?_)
      | (refine awp_skip ?_; simp only [Nx, Caught, if_true, if_false, reduceIte, Nat.reduceEqDiff])
      | (refine awp_exit ?_; simp only [Nx, Caught, if_true, if_false, reduceIte, Nat.reduceEqDiff])
      | (refine region_seq fun gd sep hgd => ?_; clear hgd; (repeat (refine aops_cons fun K1 hK1 => ?_; simp (disch := first | with_reducible assumption | (simp -failIfUnchanged only [Mem.size_push, Mem.size_put, Mem.size_kill, List.length_cons, List.length_nil, List.length_append, List.length_map, List.length_take, List.length_replicate, ha.lenB, hb.lenB, h0, h1, h5] <;> omega) | (refine (id ?_ : (_ : Bool) = true); simp only [go_sem, if_true, if_false, reduceIte, reduceCtorEq, Nat.reduceAdd, Nat.reduceSub, Nat.reduceBEq, Nat.reduceLT, Nat.reduceMul, Nat.reducePow, Nat.reduceLeDiff, ha.lenB, hb.lenB, h0, h1, h5]; done) | fail "no") only [go_sem, if_true, if_false, reduceIte, reduceCtorEq, Nat.reduceAdd, Nat.reduceSub, Nat.reduceBEq, Nat.reduceLT, Nat.reduceMul, Nat.reducePow, Nat.reduceLeDiff, ha.lenB, hb.lenB, h0, h1, h5]; refine hK1 _ _ ?_; clear hK1 K1)); refine aops_nil ?_; simp only [Nx, Caught, if_true, if_false, reduceIte, Nat.reduceEqDiff]; clear gd sep)
      | (refine region_draw' mixed (by decide +kernel) fun gd sep hgd hsep => ?_; clear hgd hsep; (repeat (refine aops_cons fun K1 hK1 => ?_; simp (disch := first | with_reducible assumption | (simp -failIfUnchanged only [Mem.size_push, Mem.size_put, Mem.size_kill, List.length_cons, List.length_nil, List.length_append, List.length_map, List.length_take, List.length_replicate, ha.lenB, hb.lenB, h0, h1, h5] <;> omega) | (refine (id ?_ : (_ : Bool) = true); simp only [go_sem, if_true, if_false, reduceIte, reduceCtorEq, Nat.reduceAdd, Nat.reduceSub, Nat.reduceBEq, Nat.reduceLT, Nat.reduceMul, Nat.reducePow, Nat.reduceLeDiff, ha.lenB, hb.lenB, h0, h1, h5]; done) | fail "no") only [go_sem, if_true, if_false, reduceIte, reduceCtorEq, Nat.reduceAdd, Nat.reduceSub, Nat.reduceBEq, Nat.reduceLT, Nat.reduceMul, Nat.reducePow, Nat.reduceLeDiff, ha.lenB, hb.lenB, h0, h1, h5]; refine hK1 _ _ ?_; clear hK1 K1)); refine aops_nil ?_; simp only [Nx, Caught, if_true, if_false, reduceIte, Nat.reduceEqDiff]; clear gd sep)
      | (refine hK _ _ ?_; clear hK K)
      | (clear hK K)
      )
    refine awp_if rfl (fun h => ?_) (fun h => ?_)
    · have hlt : k < xs.length := by simp at h; omega
      repeat (first
        | (refine awp_seq fun K hK => ?_)
        | (refine awp_block ?_)
        | (refine awp_skip ?_; simp only [Nx, Caught, if_true, if_false, reduceIte, Nat.reduceEqDiff])
        | (refine awp_exit ?_; simp only [Nx, Caught, if_true, if_false, reduceIte, Nat.reduceEqDiff])
        | (refine region_seq fun gd sep hgd => ?_; clear hgd; (repeat (refine aops_cons fun K1 hK1 => ?_; simp (disch := first | with_reducible assumption | (simp -failIfUnchanged only [Mem.size_push, Mem.size_put, Mem.size_kill, List.length_cons, List.length_nil, List.length_append, List.length_map, List.length_take, List.length_replicate, ha.idxB, hb.idxB, ha.loadB, hb.loadB, Int.toNat_natCast, h0, h1, h5] <;> omega) | (refine (id ?_ : (_ : Bool) = true); simp only [go_sem, if_true, if_false, reduceIte, reduceCtorEq, Nat.reduceAdd, Nat.reduceSub, Nat.reduceBEq, Nat.reduceLT, Nat.reduceMul, Nat.reducePow, Nat.reduceLeDiff, ha.idxB, hb.idxB, ha.loadB, hb.loadB, Int.toNat_natCast, h0, h1, h5]; done) | fail "no") only [go_sem, if_true, if_false, reduceIte, reduceCtorEq, Nat.reduceAdd, Nat.reduceSub, Nat.reduceBEq, Nat.reduceLT, Nat.reduceMul, Nat.reducePow, Nat.reduceLeDiff, ha.idxB, hb.idxB, ha.loadB, hb.loadB, Int.toNat_natCast, h0, h1, h5]; refine hK1 _ _ ?_; clear hK1 K1)); refine aops_nil ?_; simp only [Nx, Caught, if_true, if_false, reduceIte, Nat.reduceEqDiff]; clear gd sep)
        | (refine region_draw' mixed (by decide +kernel) fun gd sep hgd hsep => ?_; clear hgd hsep; (repeat (refine aops_cons fun K1 hK1 => ?_; simp (disch := first | with_reducible assumption | (simp -failIfUnchanged only [Mem.size_push, Mem.size_put, Mem.size_kill, List.length_cons, List.length_nil, List.length_append, List.length_map, List.length_take, List.length_replicate, ha.idxB, hb.idxB, ha.loadB, hb.loadB, Int.toNat_natCast, h0, h1, h5] <;> omega) | (refine (id ?_ : (_ : Bool) = true); simp only [go_sem, if_true, if_false, reduceIte, reduceCtorEq, Nat.reduceAdd, Nat.reduceSub, Nat.reduceBEq, Nat.reduceLT, Nat.reduceMul, Nat.reducePow, Nat.reduceLeDiff, ha.idxB, hb.idxB, ha.loadB, hb.loadB, Int.toNat_natCast, h0, h1, h5]; done) | fail "no") only [go_sem, if_true, if_false, reduceIte, reduceCtorEq, Nat.reduceAdd, Nat.reduceSub, Nat.reduceBEq, Nat.reduceLT, Nat.reduceMul, Nat.reducePow, Nat.reduceLeDiff, ha.idxB, hb.idxB, ha.loadB, hb.loadB, Int.toNat_natCast, h0, h1, h5]; refine hK1 _ _ ?_; clear hK1 K1)); refine aops_nil ?_; simp only [Nx, Caught, if_true, if_false, reduceIte, Nat.reduceEqDiff]; clear gd sep)
        | (refine hK _ _ ?_; clear hK K)
        | (clear hK K)
        )
      refine awp_if rfl (fun h => ?_) (fun h => ?_)
      · repeat (first
          | (refine awp_seq fun K hK => ?_)
          | (refine awp_block ?_)
          | (refine awp_skip ?_; simp only [Nx, Caught, if_true, if_false, reduceIte, Nat.reduceEqDiff])
          | (refine awp_exit ?_; simp only [Nx, Caught, if_true, if_false, reduceIte, Nat.reduceEqDiff])
          | (refine region_seq fun gd sep hgd => ?_; clear hgd; (repeat (refine aops_cons fun K1 hK1 => ?_; simp (disch := first | with_reducible assumption | (simp -failIfUnchanged only [Mem.size_push, Mem.size_put, Mem.size_kill, List.length_cons, List.length_nil, List.length_append, List.length_map, List.length_take, List.length_replicate] <;> omega) | (refine (id ?_ : (_ : Bool) = true); simp only [go_sem, if_true, if_false, reduceIte, reduceCtorEq, Nat.reduceAdd, Nat.reduceSub, Nat.reduceBEq, Nat.reduceLT, Nat.reduceMul, Nat.reducePow, Nat.reduceLeDiff]; done) | fail "no") only [go_sem, if_true, if_false, reduceIte, reduceCtorEq, Nat.reduceAdd, Nat.reduceSub, Nat.reduceBEq, Nat.reduceLT, Nat.reduceMul, Nat.reducePow, Nat.reduceLeDiff]; refine hK1 _ _ ?_; clear hK1 K1)); refine aops_nil ?_; simp only [Nx, Caught, if_true, if_false, reduceIte, Nat.reduceEqDiff]; clear gd sep)
          | (refine region_draw' mixed (by decide +kernel) fun gd sep hgd hsep => ?_; clear hgd hsep; (repeat (refine aops_cons fun K1 hK1 => ?_; simp (disch := first | with_reducible assumption | (simp -failIfUnchanged only [Mem.size_push, Mem.size_put, Mem.size_kill, List.length_cons, List.length_nil, List.length_append, List.length_map, List.length_take, List.length_replicate] <;> omega) | (refine (id ?_ : (_ : Bool) = true); simp only [go_sem, if_true, if_false, reduceIte, reduceCtorEq, Nat.reduceAdd, Nat.reduceSub, Nat.reduceBEq, Nat.reduceLT, Nat.reduceMul, Nat.reducePow, Nat.reduceLeDiff]; done) | fail "no") only [go_sem, if_true, if_false, reduceIte, reduceCtorEq, Nat.reduceAdd, Nat.reduceSub, Nat.reduceBEq, Nat.reduceLT, Nat.reduceMul, Nat.reducePow, Nat.reduceLeDiff]; refine hK1 _ _ ?_; clear hK1 K1)); refine aops_nil ?_; simp only [Nx, Caught, if_true, if_false, reduceIte, Nat.reduceEqDiff]; clear gd sep)
          | (refine hK _ _ ?_; clear hK K)
          | (clear hK K)
          )
        refine awp_ret ?_; try simp only [Nx, Caught]
        apply ends_ret
        · simp (disch := first | with_reducible assumption | (simp -failIfUnchanged only [Mem.size_push, Mem.size_put, Mem.size_kill, List.length_cons, List.length_nil, List.length_append, List.length_map, List.length_take, List.length_replicate] <;> omega) | (refine (id ?_ : (_ : Bool) = true); simp only [go_sem, if_true, if_false, reduceIte, reduceCtorEq, Nat.reduceAdd, Nat.reduceSub, Nat.reduceBEq, Nat.reduceLT, Nat.reduceMul, Nat.reducePow, Nat.reduceLeDiff]; done) | fail "no") only [go_sem, if_true, if_false, reduceIte, reduceCtorEq, Nat.reduceAdd, Nat.reduceSub, Nat.reduceBEq, Nat.reduceLT, Nat.reduceMul, Nat.reducePow, Nat.reduceLeDiff, aress, ares1]; exact rfl
        simp only [tupled]
        simp at h ⊢
        intro e; subst e; exact h rfl
      · repeat (first
          | (refine awp_seq fun K hK => ?_)
          | (refine awp_block ?_)
          | (refine awp_skip ?_; simp only [Nx, Caught, if_true, if_false, reduceIte, Nat.reduceEqDiff])
          | (refine awp_exit ?_; simp only [Nx, Caught, if_true, if_false, reduceIte, Nat.reduceEqDiff])
          | (refine region_seq fun gd sep hgd => ?_; clear hgd; (repeat (refine aops_cons fun K1 hK1 => ?_; simp (disch := first | with_reducible assumption | (simp -failIfUnchanged only [Mem.size_push, Mem.size_put, Mem.size_kill, List.length_cons, List.length_nil, List.length_append, List.length_map, List.length_take, List.length_replicate, h0, h1, h5] <;> omega) | (refine (id ?_ : (_ : Bool) = true); simp only [go_sem, if_true, if_false, reduceIte, reduceCtorEq, Nat.reduceAdd, Nat.reduceSub, Nat.reduceBEq, Nat.reduceLT, Nat.reduceMul, Nat.reducePow, Nat.reduceLeDiff, h0, h1, h5]; done) | fail "no") only [go_sem, if_true, if_false, reduceIte, reduceCtorEq, Nat.reduceAdd, Nat.reduceSub, Nat.reduceBEq, Nat.reduceLT, Nat.reduceMul, Nat.reducePow, Nat.reduceLeDiff, h0, h1, h5]; refine hK1 _ _ ?_; clear hK1 K1)); refine aops_nil ?_; simp only [Nx, Caught, if_true, if_false, reduceIte, Nat.reduceEqDiff]; clear gd sep)
          | (refine region_draw' mixed (by decide +kernel) fun gd sep hgd hsep => ?_; clear hgd hsep; (repeat (refine aops_cons fun K1 hK1 => ?_; simp (disch := first | with_reducible assumption | (simp -failIfUnchanged only [Mem.size_push, Mem.size_put, Mem.size_kill, List.length_cons, List.length_nil, List.length_append, List.length_map, List.length_take, List.length_replicate, h0, h1, h5] <;> omega) | (refine (id ?_ : (_ : Bool) = true); simp only [go_sem, if_true, if_false, reduceIte, reduceCtorEq, Nat.reduceAdd, Nat.reduceSub, Nat.reduceBEq, Nat.reduceLT, Nat.reduceMul, Nat.reducePow, Nat.reduceLeDiff, h0, h1, h5]; done) | fail "no") only [go_sem, if_true, if_false, reduceIte, reduceCtorEq, Nat.reduceAdd, Nat.reduceSub, Nat.reduceBEq, Nat.reduceLT, Nat.reduceMul, Nat.reducePow, Nat.reduceLeDiff, h0, h1, h5]; refine hK1 _ _ ?_; clear hK1 K1)); refine aops_nil ?_; simp only [Nx, Caught, if_true, if_false, reduceIte, Nat.reduceEqDiff]; clear gd sep)
          | (refine hK _ _ ?_; clear hK K)
          | (clear hK K)
          )
        refine hJ _ _ _ ?_ ⟨k + 1, rfl, by omega, h0, h1, rfl, rfl, fun i hi => ?_⟩
        · omega
        · by_cases e : i = k
          · subst e; simpa using h
          · exact hs i (by omega)
    · have he : k = xs.length := by simp at h; omega
      repeat (first
        | (refine awp_seq fun K hK => ?_)
        | (refine awp_block ?_)
        | (refine awp_skip ?_; simp only [Nx, Caught, if_true, if_false, reduceIte, Nat.reduceEqDiff])
        | (refine awp_exit ?_; simp only [Nx, Caught, if_true, if_false, reduceIte, Nat.reduceEqDiff])
        | (refine region_seq fun gd sep hgd => ?_; clear hgd; (repeat (refine aops_cons fun K1 hK1 => ?_; simp (disch := first | with_reducible assumption | (simp -failIfUnchanged only [Mem.size_push, Mem.size_put, Mem.size_kill, List.length_cons, List.length_nil, List.length_append, List.length_map, List.length_take, List.length_replicate] <;> omega) | (refine (id ?_ : (_ : Bool) = true); simp only [go_sem, if_true, if_false, reduceIte, reduceCtorEq, Nat.reduceAdd, Nat.reduceSub, Nat.reduceBEq, Nat.reduceLT, Nat.reduceMul, Nat.reducePow, Nat.reduceLeDiff]; done) | fail "no") only [go_sem, if_true, if_false, reduceIte, reduceCtorEq, Nat.reduceAdd, Nat.reduceSub, Nat.reduceBEq, Nat.reduceLT, Nat.reduceMul, Nat.reducePow, Nat.reduceLeDiff]; refine hK1 _ _ ?_; clear hK1 K1)); refine aops_nil ?_; simp only [Nx, Caught, if_true, if_false, reduceIte, Nat.reduceEqDiff]; clear gd sep)
        | (refine region_draw' mixed (by decide +kernel) fun gd sep hgd hsep => ?_; clear hgd hsep; (repeat (refine aops_cons fun K1 hK1 => ?_; simp (disch := first | with_reducible assumption | (simp -failIfUnchanged only [Mem.size_push, Mem.size_put, Mem.size_kill, List.length_cons, List.length_nil, List.length_append, List.length_map, List.length_take, List.length_replicate] <;> omega) | (refine (id ?_ : (_ : Bool) = true); simp only [go_sem, if_true, if_false, reduceIte, reduceCtorEq, Nat.reduceAdd, Nat.reduceSub, Nat.reduceBEq, Nat.reduceLT, Nat.reduceMul, Nat.reducePow, Nat.reduceLeDiff]; done) | fail "no") only [go_sem, if_true, if_false, reduceIte, reduceCtorEq, Nat.reduceAdd, Nat.reduceSub, Nat.reduceBEq, Nat.reduceLT, Nat.reduceMul, Nat.reducePow, Nat.reduceLeDiff]; refine hK1 _ _ ?_; clear hK1 K1)); refine aops_nil ?_; simp only [Nx, Caught, if_true, if_false, reduceIte, Nat.reduceEqDiff]; clear gd sep)
        | (refine hK _ _ ?_; clear hK K)
        | (clear hK K)
        )
      refine awp_ret ?_; try simp only [Nx, Caught]
      apply ends_ret
      · simp (disch := first | with_reducible assumption | (simp -failIfUnchanged only [Mem.size_push, Mem.size_put, Mem.size_kill, List.length_cons, List.length_nil, List.length_append, List.length_map, List.length_take, List.length_replicate] <;> omega) | (refine (id ?_ : (_ : Bool) = true); simp only [go_sem, if_true, if_false, reduceIte, reduceCtorEq, Nat.reduceAdd, Nat.reduceSub, Nat.reduceBEq, Nat.reduceLT, Nat.reduceMul, Nat.reducePow, Nat.reduceLeDiff]; done) | fail "no") only [go_sem, if_true, if_false, reduceIte, reduceCtorEq, Nat.reduceAdd, Nat.reduceSub, Nat.reduceBEq, Nat.reduceLT, Nat.reduceMul, Nat.reducePow, Nat.reduceLeDiff, aress, ares1]; exact rfl
      simp only [tupled]
      simp
      exact list_eq_of_getD hlen (he ▸ hs)
theorem ccInts_c {m : Mem} {a b : AVal} {xs ys : List Int} (ha : RdI m a xs) (hb : RdI m b ys) (hx : xs.length ≤ 1099511627776) :
    ∃ v m', (v = .bool (xs == ys) ∧ m' = m) ∧ DCalls PP m.size 33 [a, b] m v m' := by
  refine enter Try.func33 (by decide) rfl Try.ntmps33 Try.results33 ?_
  repeat (first
    | (refine awp_seq fun K hK => ?_)
    | (refine awp_block ?_)
    | (refine awp_skip ?_; simp only [Nx, Caught, if_true, if_false, reduceIte, Nat.reduceEqDiff])
    | (refine awp_exit ?_; simp only [Nx, Caught, if_true, if_false, reduceIte, Nat.reduceEqDiff])
    | (refine region_seq fun gd sep hgd => ?_; clear hgd; (repeat (refine aops_cons fun K1 hK1 => ?_; simp (disch := first | with_reducible assumption | (simp -failIfUnchanged only [Mem.size_push, Mem.size_put, Mem.size_kill, List.length_cons, List.length_nil, List.length_append, List.length_map, List.length_take, List.length_replicate, ha.lenI, hb.lenI] <;> omega) | (refine (id ?_ : (_ : Bool) = true); simp only [go_sem, if_true, if_false, reduceIte, reduceCtorEq, Nat.reduceAdd, Nat.reduceSub, Nat.reduceBEq, Nat.reduceLT, Nat.reduceMul, Nat.reducePow, Nat.reduceLeDiff, ha.lenI, hb.lenI]; done) | fail "no") only [go_sem, if_true, if_false, reduceIte, reduceCtorEq, Nat.reduceAdd, Nat.reduceSub, Nat.reduceBEq, Nat.reduceLT, Nat.reduceMul, Nat.reducePow, Nat.reduceLeDiff, ha.lenI, hb.lenI]; refine hK1 _ _ ?_; clear hK1 K1)); refine aops_nil ?_; simp only [Nx, Caught, if_true, if_false, reduceIte, Nat.reduceEqDiff]; clear gd sep)
    | (refine region_draw' mixed (by decide +kernel) fun gd sep hgd hsep => ?_; clear hgd hsep; (repeat (refine aops_cons fun K1 hK1 => ?_; simp (disch := first | with_reducible assumption | (simp -failIfUnchanged only [Mem.size_push, Mem.size_put, Mem.size_kill, List.length_cons, List.length_nil, List.length_append, List.length_map, List.length_take, List.length_replicate, ha.lenI, hb.lenI] <;> omega) | (refine (id ?_ : (_ : Bool) = true); simp only [go_sem, if_true, if_false, reduceIte, reduceCtorEq, Nat.reduceAdd, Nat.reduceSub, Nat.reduceBEq, Nat.reduceLT, Nat.reduceMul, Nat.reducePow, Nat.reduceLeDiff, ha.lenI, hb.lenI]; done) | fail "no") only [go_sem, if_true, if_false, reduceIte, reduceCtorEq, Nat.reduceAdd, Nat.reduceSub, Nat.reduceBEq, Nat.reduceLT, Nat.reduceMul, Nat.reducePow, Nat.reduceLeDiff, ha.lenI, hb.lenI]; refine hK1 _ _ ?_; clear hK1 K1)); refine aops_nil ?_; simp only [Nx, Caught, if_true, if_false, reduceIte, Nat.reduceEqDiff]; clear gd sep)
    | (refine hK _ _ ?_; clear hK K)
    | (clear hK K)
    )
  refine awp_if rfl (fun h => ?_) (fun h => ?_)
  · repeat (first
      | (refine awp_seq fun K hK => ?_)
      | (refine awp_block ?_)
      | (refine awp_skip ?_; simp only [Nx, Caught, if_true, if_false, reduceIte, Nat.reduceEqDiff])
      | (refine awp_exit ?_; simp only [Nx, Caught, if_true, if_false, reduceIte, Nat.reduceEqDiff])
      | (refine region_seq fun gd sep hgd => ?_; clear hgd; (repeat (refine aops_cons fun K1 hK1 => ?_; simp (disch := first | with_reducible assumption | (simp -failIfUnchanged only [Mem.size_push, Mem.size_put, Mem.size_kill, List.length_cons, List.length_nil, List.length_append, List.length_map, List.length_take, List.length_replicate] <;> omega) | (refine (id ?_ : (_ : Bool) = true); simp only [go_sem, if_true, if_false, reduceIte, reduceCtorEq, Nat.reduceAdd, Nat.reduceSub, Nat.reduceBEq, Nat.reduceLT, Nat.reduceMul, Nat.reducePow, Nat.reduceLeDiff]; done) | fail "no") only [go_sem, if_true, if_false, reduceIte, reduceCtorEq, Nat.reduceAdd, Nat.reduceSub, Nat.reduceBEq, Nat.reduceLT, Nat.reduceMul, Nat.reducePow, Nat.reduceLeDiff]; refine hK1 _ _ ?_; clear hK1 K1)); refine aops_nil ?_; simp only [Nx, Caught, if_true, if_false, reduceIte, Nat.reduceEqDiff]; clear gd sep)
      | (refine region_draw' mixed (by decide +kernel) fun gd sep hgd hsep => ?_; clear hgd hsep; (repeat (refine aops_cons fun K1 hK1 => ?_; simp (disch := first | with_reducible assumption | (simp -failIfUnchanged only [Mem.size_push, Mem.size_put, Mem.size_kill, List.length_cons, List.length_nil, List.length_append, List.length_map, List.length_take, List.length_replicate] <;> omega) | (refine (id ?_ : (_ : Bool) = true); simp only [go_sem, if_true, if_false, reduceIte, reduceCtorEq, Nat.reduceAdd, Nat.reduceSub, Nat.reduceBEq, Nat.reduceLT, Nat.reduceMul, Nat.reducePow, Nat.reduceLeDiff]; done) | fail "no") only [go_sem, if_true, if_false, reduceIte, reduceCtorEq, Nat.reduceAdd, Nat.reduceSub, Nat.reduceBEq, Nat.reduceLT, Nat.reduceMul, Nat.reducePow, Nat.reduceLeDiff]; refine hK1 _ _ ?_; clear hK1 K1)); refine aops_nil ?_; simp only [Nx, Caught, if_true, if_false, reduceIte, Nat.reduceEqDiff]; clear gd sep)
      | (refine hK _ _ ?_; clear hK K)
      | (clear hK K)
      )
    refine awp_ret ?_; try simp only [Nx, Caught]
    apply ends_ret
    · simp (disch := first | with_reducible assumption | (simp -failIfUnchanged only [Mem.size_push, Mem.size_put, Mem.size_kill, List.length_cons, List.length_nil, List.length_append, List.length_map, List.length_take, List.length_replicate] <;> omega) | (refine (id ?_ : (_ : Bool) = true); simp only [go_sem, if_true, if_false, reduceIte, reduceCtorEq, Nat.reduceAdd, Nat.reduceSub, Nat.reduceBEq, Nat.reduceLT, Nat.reduceMul, Nat.reducePow, Nat.reduceLeDiff]; done) | fail "no") only [go_sem, if_true, if_false, reduceIte, reduceCtorEq, Nat.reduceAdd, Nat.reduceSub, Nat.reduceBEq, Nat.reduceLT, Nat.reduceMul, Nat.reducePow, Nat.reduceLeDiff, aress, ares1]; exact rfl
    simp only [tupled]
    simp at h ⊢
    intro e; subst e; exact h rfl
  · have hlen : xs.length = ys.length := by simp at h; omega
    repeat (first
      | (refine awp_seq fun K hK => ?_)
      | (refine awp_block ?_)
      | (refine awp_skip ?_; simp only [Nx, Caught, if_true, if_false, reduceIte, Nat.reduceEqDiff])
      | (refine awp_exit ?_; simp only [Nx, Caught, if_true, if_false, reduceIte, Nat.reduceEqDiff])
      | (refine region_seq fun gd sep hgd => ?_; clear hgd; (repeat (refine aops_cons fun K1 hK1 => ?_; simp (disch := first | with_reducible assumption | (simp -failIfUnchanged only [Mem.size_push, Mem.size_put, Mem.size_kill, List.length_cons, List.length_nil, List.length_append, List.length_map, List.length_take, List.length_replicate] <;> omega) | (refine (id ?_ : (_ : Bool) = true); simp only [go_sem, if_true, if_false, reduceIte, reduceCtorEq, Nat.reduceAdd, Nat.reduceSub, Nat.reduceBEq, Nat.reduceLT, Nat.reduceMul, Nat.reducePow, Nat.reduceLeDiff]; done) | fail "no") only [go_sem, if_true, if_false, reduceIte, reduceCtorEq, Nat.reduceAdd, Nat.reduceSub, Nat.reduceBEq, Nat.reduceLT, Nat.reduceMul, Nat.reducePow, Nat.reduceLeDiff]; refine hK1 _ _ ?_; clear hK1 K1)); refine aops_nil ?_; simp only [Nx, Caught, if_true, if_false, reduceIte, Nat.reduceEqDiff]; clear gd sep)
      | (refine region_draw' mixed (by decide +kernel) fun gd sep hgd hsep => ?_; clear hgd hsep; (repeat (refine aops_cons fun K1 hK1 => ?_; simp (disch := first | with_reducible assumption | (simp -failIfUnchanged only [Mem.size_push, Mem.size_put, Mem.size_kill, List.length_cons, List.length_nil, List.length_append, List.length_map, List.length_take, List.length_replicate] <;> omega) | (refine (id ?_ : (_ : Bool) = true); simp only [go_sem, if_true, if_false, reduceIte, reduceCtorEq, Nat.reduceAdd, Nat.reduceSub, Nat.reduceBEq, Nat.reduceLT, Nat.reduceMul, Nat.reducePow, Nat.reduceLeDiff]; done) | fail "no") only [go_sem, if_true, if_false, reduceIte, reduceCtorEq, Nat.reduceAdd, Nat.reduceSub, Nat.reduceBEq, Nat.reduceLT, Nat.reduceMul, Nat.reducePow, Nat.reduceLeDiff]; refine hK1 _ _ ?_; clear hK1 K1)); refine aops_nil ?_; simp only [Nx, Caught, if_true, if_false, reduceIte, Nat.reduceEqDiff]; clear gd sep)
      | (refine hK _ _ ?_; clear hK K)
      | (clear hK K)
      )
    refine awp_loop (fun n ts m' => ∃ k : Nat, n = xs.length - k ∧ k ≤ xs.length ∧ ts 0 = a ∧ ts 1 = b ∧ ts 5 = .int .i64 k ∧ m' = m ∧ ∀ i, i < k → xs.getD i 0 = ys.getD i 0) xs.length ⟨0, rfl, by omega, rfl, rfl, rfl, rfl, fun i hi => by omega⟩ ?_
    rintro n ts _ ⟨k, rfl, hk, h0, h1, h5, rfl, hs⟩ J hJ
    repeat (first
      | (refine awp_seq fun K hK => ?_)
      | (refine awp_block ?_)
      | (refine awp_skip ?_; simp only [Nx, Caught, if_true, if_false, reduceIte, Nat.reduceEqDiff])
      | (refine awp_exit ?_; simp only [Nx, Caught, if_true, if_false, reduceIte, Nat.reduceEqDiff])
      | (refine region_seq fun gd sep hgd => ?_; clear hgd; (repeat (refine aops_cons fun K1 hK1 => ?_; simp (disch := first | with_reducible assumption | (simp -failIfUnchanged only [Mem.size_push, Mem.size_put, Mem.size_kill, List.length_cons, List.length_nil, List.length_append, List.length_map, List.length_take, List.length_replicate, ha.lenI, hb.lenI, h0, h1, h5] <;> omega) | (refine (id ?_ : (_ : Bool) = true); simp only [go_sem, if_true, if_false, reduceIte, reduceCtorEq, Nat.reduceAdd, Nat.reduceSub, Nat.reduceBEq, Nat.reduceLT, Nat.reduceMul, Nat.reducePow, Nat.reduceLeDiff, ha.lenI, hb.lenI, h0, h1, h5]; done) | fail "no") only [go_sem, if_true, if_false, reduceIte, reduceCtorEq, Nat.reduceAdd, Nat.reduceSub, Nat.reduceBEq, Nat.reduceLT, Nat.reduceMul, Nat.reducePow, Nat.reduceLeDiff, ha.lenI, hb.lenI, h0, h1, h5]; refine hK1 _ _ ?_; clear hK1 K1)); refine aops_nil ?_; simp only [Nx, Caught, if_true, if_false, reduceIte, Nat.reduceEqDiff]; clear gd sep)
      | (refine region_draw' mixed (by decide +kernel) fun gd sep hgd hsep => ?_; clear hgd hsep; (repeat (refine aops_cons fun K1 hK1 => ?_; simp (disch := first | with_reducible assumption | (simp -failIfUnchanged only [Mem.size_push, Mem.size_put, Mem.size_kill, List.length_cons, List.length_nil, List.length_append, List.length_map, List.length_take, List.length_replicate, ha.lenI, hb.lenI, h0, h1, h5] <;> omega) | (refine (id ?_ : (_ : Bool) = true); simp only [go_sem, if_true, if_false, reduceIte, reduceCtorEq, Nat.reduceAdd, Nat.reduceSub, Nat.reduceBEq, Nat.reduceLT, Nat.reduceMul, Nat.reducePow, Nat.reduceLeDiff, ha.lenI, hb.lenI, h0, h1, h5]; done) | fail "no") only [go_sem, if_true, if_false, reduceIte, reduceCtorEq, Nat.reduceAdd, Nat.reduceSub, Nat.reduceBEq, Nat.reduceLT, Nat.reduceMul, Nat.reducePow, Nat.reduceLeDiff, ha.lenI, hb.lenI, h0, h1, h5]; refine hK1 _ _ ?_; clear hK1 K1)); refine aops_nil ?_; simp only [Nx, Caught, if_true, if_false, reduceIte, Nat.reduceEqDiff]; clear gd sep)
      | (refine hK _ _ ?_; clear hK K)
      | (clear hK K)
      )
    refine awp_if rfl (fun h => ?_) (fun h => ?_)
    · have hlt : k < xs.length := by simp at h; omega
      repeat (first
        | (refine awp_seq fun K hK => ?_)
        | (refine awp_block ?_)
        | (refine awp_skip ?_; simp only [Nx, Caught, if_true, if_false, reduceIte, Nat.reduceEqDiff])
        | (refine awp_exit ?_; simp only [Nx, Caught, if_true, if_false, reduceIte, Nat.reduceEqDiff])
        | (refine region_seq fun gd sep hgd => ?_; clear hgd; (repeat (refine aops_cons fun K1 hK1 => ?_; simp (disch := first | with_reducible assumption | (simp -failIfUnchanged only [Mem.size_push, Mem.size_put, Mem.size_kill, List.length_cons, List.length_nil, List.length_append, List.length_map, List.length_take, List.length_replicate, ha.idxI, hb.idxI, ha.loadI, hb.loadI, Int.toNat_natCast, h0, h1, h5] <;> omega) | (refine (id ?_ : (_ : Bool) = true); simp only [go_sem, if_true, if_false, reduceIte, reduceCtorEq, Nat.reduceAdd, Nat.reduceSub, Nat.reduceBEq, Nat.reduceLT, Nat.reduceMul, Nat.reducePow, Nat.reduceLeDiff, ha.idxI, hb.idxI, ha.loadI, hb.loadI, Int.toNat_natCast, h0, h1, h5]; done) | fail "no") only [go_sem, if_true, if_false, reduceIte, reduceCtorEq, Nat.reduceAdd, Nat.reduceSub, Nat.reduceBEq, Nat.reduceLT, Nat.reduceMul, Nat.reducePow, Nat.reduceLeDiff, ha.idxI, hb.idxI, ha.loadI, hb.loadI, Int.toNat_natCast, h0, h1, h5]; refine hK1 _ _ ?_; clear hK1 K1)); refine aops_nil ?_; simp only [Nx, Caught, if_true, if_false, reduceIte, Nat.reduceEqDiff]; clear gd sep)
        | (refine region_draw' mixed (by decide +kernel) fun gd sep hgd hsep => ?_; clear hgd hsep; (repeat (refine aops_cons fun K1 hK1 => ?_; simp (disch := first | with_reducible assumption | (simp -failIfUnchanged only [Mem.size_push, Mem.size_put, Mem.size_kill, List.length_cons, List.length_nil, List.length_append, List.length_map, List.length_take, List.length_replicate, ha.idxI, hb.idxI, ha.loadI, hb.loadI, Int.toNat_natCast, h0, h1, h5] <;> omega) | (refine (id ?_ : (_ : Bool) = true); simp only [go_sem, if_true, if_false, reduceIte, reduceCtorEq, Nat.reduceAdd, Nat.reduceSub, Nat.reduceBEq, Nat.reduceLT, Nat.reduceMul, Nat.reducePow, Nat.reduceLeDiff, ha.idxI, hb.idxI, ha.loadI, hb.loadI, Int.toNat_natCast, h0, h1, h5]; done) | fail "no") only [go_sem, if_true, if_false, reduceIte, reduceCtorEq, Nat.reduceAdd, Nat.reduceSub, Nat.reduceBEq, Nat.reduceLT, Nat.reduceMul, Nat.reducePow, Nat.reduceLeDiff, ha.idxI, hb.idxI, ha.loadI, hb.loadI, Int.toNat_natCast, h0, h1, h5]; refine hK1 _ _ ?_; clear hK1 K1)); refine aops_nil ?_; simp only [Nx, Caught, if_true, if_false, reduceIte, Nat.reduceEqDiff]; clear gd sep)
        | (refine hK _ _ ?_; clear hK K)
        | (clear hK K)
        )
      refine awp_if rfl (fun h => ?_) (fun h => ?_)
      · repeat (first
          | (refine awp_seq fun K hK => ?_)
          | (refine awp_block ?_)
          | (refine awp_skip ?_; simp only [Nx, Caught, if_true, if_false, reduceIte, Nat.reduceEqDiff])
          | (refine awp_exit ?_; simp only [Nx, Caught, if_true, if_false, reduceIte, Nat.reduceEqDiff])
          | (refine region_seq fun gd sep hgd => ?_; clear hgd; (repeat (refine aops_cons fun K1 hK1 => ?_; simp (disch := first | with_reducible assumption | (simp -failIfUnchanged only [Mem.size_push, Mem.size_put, Mem.size_kill, List.length_cons, List.length_nil, List.length_append, List.length_map, List.length_take, List.length_replicate] <;> omega) | (refine (id ?_ : (_ : Bool) = true); simp only [go_sem, if_true, if_false, reduceIte, reduceCtorEq, Nat.reduceAdd, Nat.reduceSub, Nat.reduceBEq, Nat.reduceLT, Nat.reduceMul, Nat.reducePow, Nat.reduceLeDiff]; done) | fail "no") only [go_sem, if_true, if_false, reduceIte, reduceCtorEq, Nat.reduceAdd, Nat.reduceSub, Nat.reduceBEq, Nat.reduceLT, Nat.reduceMul, Nat.reducePow, Nat.reduceLeDiff]; refine hK1 _ _ ?_; clear hK1 K1)); refine aops_nil ?_; simp only [Nx, Caught, if_true, if_false, reduceIte, Nat.reduceEqDiff]; clear gd sep)
          | (refine region_draw' mixed (by decide +kernel) fun gd sep hgd hsep => ?_; clear hgd hsep; (repeat (refine aops_cons fun K1 hK1 => ?_; simp (disch := first | with_reducible assumption | (simp -failIfUnchanged only [Mem.size_push, Mem.size_put, Mem.size_kill, List.length_cons, List.length_nil, List.length_append, List.length_map, List.length_take, List.length_replicate] <;> omega) | (refine (id ?_ : (_ : Bool) = true); simp only [go_sem, if_true, if_false, reduceIte, reduceCtorEq, Nat.reduceAdd, Nat.reduceSub, Nat.reduceBEq, Nat.reduceLT, Nat.reduceMul, Nat.reducePow, Nat.reduceLeDiff]; done) | fail "no") only [go_sem, if_true, if_false, reduceIte, reduceCtorEq, Nat.reduceAdd, Nat.reduceSub, Nat.reduceBEq, Nat.reduceLT, Nat.reduceMul, Nat.reducePow, Nat.reduceLeDiff]; refine hK1 _ _ ?_; clear hK1 K1)); refine aops_nil ?_; simp only [Nx, Caught, if_true, if_false, reduceIte, Nat.reduceEqDiff]; clear gd sep)
          | (refine hK _ _ ?_; clear hK K)
          | (clear hK K)
          )
        refine awp_ret ?_; try simp only [Nx, Caught]
        apply ends_ret
        · simp (disch := first | with_reducible assumption | (simp -failIfUnchanged only [Mem.size_push, Mem.size_put, Mem.size_kill, List.length_cons, List.length_nil, List.length_append, List.length_map, List.length_take, List.length_replicate] <;> omega) | (refine (id ?_ : (_ : Bool) = true); simp only [go_sem, if_true, if_false, reduceIte, reduceCtorEq, Nat.reduceAdd, Nat.reduceSub, Nat.reduceBEq, Nat.reduceLT, Nat.reduceMul, Nat.reducePow, Nat.reduceLeDiff]; done) | fail "no") only [go_sem, if_true, if_false, reduceIte, reduceCtorEq, Nat.reduceAdd, Nat.reduceSub, Nat.reduceBEq, Nat.reduceLT, Nat.reduceMul, Nat.reducePow, Nat.reduceLeDiff, aress, ares1]; exact rfl
        simp only [tupled]
        simp at h ⊢
        intro e; subst e; exact h rfl
      · repeat (first
          | (refine awp_seq fun K hK => ?_)
          | (refine awp_block ?_)
          | (refine awp_skip ?_; simp only [Nx, Caught, if_true, if_false, reduceIte, Nat.reduceEqDiff])
          | (refine awp_exit ?_; simp only [Nx, Caught, if_true, if_false, reduceIte, Nat.reduceEqDiff])
          | (refine region_seq fun gd sep hgd => ?_; clear hgd; (repeat (refine aops_cons fun K1 hK1 => ?_; simp (disch := first | with_reducible assumption | (simp -failIfUnchanged only [Mem.size_push, Mem.size_put, Mem.size_kill, List.length_cons, List.length_nil, List.length_append, List.length_map, List.length_take, List.length_replicate, h0, h1, h5] <;> omega) | (refine (id ?_ : (_ : Bool) = true); simp only [go_sem, if_true, if_false, reduceIte, reduceCtorEq, Nat.reduceAdd, Nat.reduceSub, Nat.reduceBEq, Nat.reduceLT, Nat.reduceMul, Nat.reducePow, Nat.reduceLeDiff, h0, h1, h5]; done) | fail "no") only [go_sem, if_true, if_false, reduceIte, reduceCtorEq, Nat.reduceAdd, Nat.reduceSub, Nat.reduceBEq, Nat.reduceLT, Nat.reduceMul, Nat.reducePow, Nat.reduceLeDiff, h0, h1, h5]; refine hK1 _ _ ?_; clear hK1 K1)); refine aops_nil ?_; simp only [Nx, Caught, if_true, if_false, reduceIte, Nat.reduceEqDiff]; clear gd sep)
          | (refine region_draw' mixed (by decide +kernel) fun gd sep hgd hsep => ?_; clear hgd hsep; (repeat (refine aops_cons fun K1 hK1 => ?_; simp (disch := first | with_reducible assumption | (simp -failIfUnchanged only [Mem.size_push, Mem.size_put, Mem.size_kill, List.length_cons, List.length_nil, List.length_append, List.length_map, List.length_take, List.length_replicate, h0, h1, h5] <;> omega) | (refine (id ?_ : (_ : Bool) = true); simp only [go_sem, if_true, if_false, reduceIte, reduceCtorEq, Nat.reduceAdd, Nat.reduceSub, Nat.reduceBEq, Nat.reduceLT, Nat.reduceMul, Nat.reducePow, Nat.reduceLeDiff, h0, h1, h5]; done) | fail "no") only [go_sem, if_true, if_false, reduceIte, reduceCtorEq, Nat.reduceAdd, Nat.reduceSub, Nat.reduceBEq, Nat.reduceLT, Nat.reduceMul, Nat.reducePow, Nat.reduceLeDiff, h0, h1, h5]; refine hK1 _ _ ?_; clear hK1 K1)); refine aops_nil ?_; simp only [Nx, Caught, if_true, if_false, reduceIte, Nat.reduceEqDiff]; clear gd sep)
          | (refine hK _ _ ?_; clear hK K)
          | (clear hK K)
          )
        refine hJ _ _ _ ?_ ⟨k + 1, rfl, by omega, h0, h1, rfl, rfl, fun i hi => ?_⟩
        · omega
        · by_cases e : i = k
          · subst e; simpa using h
          · exact hs i (by omega)
    · have he : k = xs.length := by simp at h; omega
      repeat (first
        | (refine awp_seq fun K hK => ?_)
        | (refine awp_block ?_)
        | (refine awp_skip ?_; simp only [Nx, Caught, if_true, if_false, reduceIte, Nat.reduceEqDiff])
        | (refine awp_exit ?_; simp only [Nx, Caught, if_true, if_false, reduceIte, Nat.reduceEqDiff])
        | (refine region_seq fun gd sep hgd => ?_; clear hgd; (repeat (refine aops_cons fun K1 hK1 => ?_; simp (disch := first | with_reducible assumption | (simp -failIfUnchanged only [Mem.size_push, Mem.size_put, Mem.size_kill, List.length_cons, List.length_nil, List.length_append, List.length_map, List.length_take, List.length_replicate] <;> omega) | (refine (id ?_ : (_ : Bool) = true); simp only [go_sem, if_true, if_false, reduceIte, reduceCtorEq, Nat.reduceAdd, Nat.reduceSub, Nat.reduceBEq, Nat.reduceLT, Nat.reduceMul, Nat.reducePow, Nat.reduceLeDiff]; done) | fail "no") only [go_sem, if_true, if_false, reduceIte, reduceCtorEq, Nat.reduceAdd, Nat.reduceSub, Nat.reduceBEq, Nat.reduceLT, Nat.reduceMul, Nat.reducePow, Nat.reduceLeDiff]; refine hK1 _ _ ?_; clear hK1 K1)); refine aops_nil ?_; simp only [Nx, Caught, if_true, if_false, reduceIte, Nat.reduceEqDiff]; clear gd sep)
        | (refine region_draw' mixed (by decide +kernel) fun gd sep hgd hsep => ?_; clear hgd hsep; (repeat (refine aops_cons fun K1 hK1 => ?_; simp (disch := first | with_reducible assumption | (simp -failIfUnchanged only [Mem.size_push, Mem.size_put, Mem.size_kill, List.length_cons, List.length_nil, List.length_append, List.length_map, List.length_take, List.length_replicate] <;> omega) | (refine (id ?_ : (_ : Bool) = true); simp only [go_sem, if_true, if_false, reduceIte, reduceCtorEq, Nat.reduceAdd, Nat.reduceSub, Nat.reduceBEq, Nat.reduceLT, Nat.reduceMul, Nat.reducePow, Nat.reduceLeDiff]; done) | fail "no") only [go_sem, if_true, if_false, reduceIte, reduceCtorEq, Nat.reduceAdd, Nat.reduceSub, Nat.reduceBEq, Nat.reduceLT, Nat.reduceMul, Nat.reducePow, Nat.reduceLeDiff]; refine hK1 _ _ ?_; clear hK1 K1)); refine aops_nil ?_; simp only [Nx, Caught, if_true, if_false, reduceIte, Nat.reduceEqDiff]; clear gd sep)
        | (refine hK _ _ ?_; clear hK K)
        | (clear hK K)
        )
      refine awp_ret ?_; try simp only [Nx, Caught]
      apply ends_ret
      · simp (disch := first | with_reducible assumption | (simp -failIfUnchanged only [Mem.size_push, Mem.size_put, Mem.size_kill, List.length_cons, List.length_nil, List.length_append, List.length_map, List.length_take, List.length_replicate] <;> omega) | (refine (id ?_ : (_ : Bool) = true); simp only [go_sem, if_true, if_false, reduceIte, reduceCtorEq, Nat.reduceAdd, Nat.reduceSub, Nat.reduceBEq, Nat.reduceLT, Nat.reduceMul, Nat.reducePow, Nat.reduceLeDiff]; done) | fail "no") only [go_sem, if_true, if_false, reduceIte, reduceCtorEq, Nat.reduceAdd, Nat.reduceSub, Nat.reduceBEq, Nat.reduceLT, Nat.reduceMul, Nat.reducePow, Nat.reduceLeDiff, aress, ares1]; exact rfl
      simp only [tupled]
      simp
      exact list_eq_of_getD hlen (he ▸ hs)

theorem sEqI_c {m : Mem} {a b : AVal} {xs ys : List Int} (ha : RdI m a xs) (hb : RdI m b ys) (hx : xs.length ≤ 1099511627776) :
    ∃ v m', (v = .bool (xs == ys) ∧ m' = m) ∧ DCalls PP m.size 55 [a, b] m v m' := by
  refine enter Try.func55 (by decide) rfl Try.ntmps55 Try.results55 ?_
  repeat (first
    | (refine awp_seq fun K hK => ?_)
    | (refine awp_block ?_)
    | (refine awp_skip ?_; simp only [Nx, Caught, if_true, if_false, reduceIte, Nat.reduceEqDiff])
    | (refine awp_exit ?_; simp only [Nx, Caught, if_true, if_false, reduceIte, Nat.reduceEqDiff])
    | (refine region_seq fun gd sep hgd => ?_; clear hgd; (repeat (refine aops_cons fun K1 hK1 => ?_; simp (disch := first | with_reducible assumption | (simp -failIfUnchanged only [Mem.size_push, Mem.size_put, Mem.size_kill, List.length_cons, List.length_nil, List.length_append, List.length_map, List.length_take, List.length_replicate, ha.lenI, hb.lenI] <;> omega) | (refine (id ?_ : (_ : Bool) = true); simp only [go_sem, if_true, if_false, reduceIte, reduceCtorEq, Nat.reduceAdd, Nat.reduceSub, Nat.reduceBEq, Nat.reduceLT, Nat.reduceMul, Nat.reducePow, Nat.reduceLeDiff, ha.lenI, hb.lenI]; done) | fail "no") only [go_sem, if_true, if_false, reduceIte, reduceCtorEq, Nat.reduceAdd, Nat.reduceSub, Nat.reduceBEq, Nat.reduceLT, Nat.reduceMul, Nat.reducePow, Nat.reduceLeDiff, ha.lenI, hb.lenI]; refine hK1 _ _ ?_; clear hK1 K1)); refine aops_nil ?_; simp only [Nx, Caught, if_true, if_false, reduceIte, Nat.reduceEqDiff]; clear gd sep)
    | (refine region_draw' mixed (by decide +kernel) fun gd sep hgd hsep => ?_; clear hgd hsep; (repeat (refine aops_cons fun K1 hK1 => ?_; simp (disch := first | with_reducible assumption | (simp -failIfUnchanged only [Mem.size_push, Mem.size_put, Mem.size_kill, List.length_cons, List.length_nil, List.length_append, List.length_map, List.length_take, List.length_replicate, ha.lenI, hb.lenI] <;> omega) | (refine (id ?_ : (_ : Bool) = true); simp only [go_sem, if_true, if_false, reduceIte, reduceCtorEq, Nat.reduceAdd, Nat.reduceSub, Nat.reduceBEq, Nat.reduceLT, Nat.reduceMul, Nat.reducePow, Nat.reduceLeDiff, ha.lenI, hb.lenI]; done) | fail "no") only [go_sem, if_true, if_false, reduceIte, reduceCtorEq, Nat.reduceAdd, Nat.reduceSub, Nat.reduceBEq, Nat.reduceLT, Nat.reduceMul, Nat.reducePow, Nat.reduceLeDiff, ha.lenI, hb.lenI]; refine hK1 _ _ ?_; clear hK1 K1)); refine aops_nil ?_; simp only [Nx, Caught, if_true, if_false, reduceIte, Nat.reduceEqDiff]; clear gd sep)
    | (refine hK _ _ ?_; clear hK K)
    | (clear hK K)
    )
  refine awp_if rfl (fun h => ?_) (fun h => ?_)
  · repeat (first
      | (refine awp_seq fun K hK => ?_)
      | (refine awp_block ?_)
      | (refine awp_skip ?_; simp only [Nx, Caught, if_true, if_false, reduceIte, Nat.reduceEqDiff])
      | (refine awp_exit ?_; simp only [Nx, Caught, if_true, if_false, reduceIte, Nat.reduceEqDiff])
      | (refine region_seq fun gd sep hgd => ?_; clear hgd; (repeat (refine aops_cons fun K1 hK1 => ?_; simp (disch := first | with_reducible assumption | (simp -failIfUnchanged only [Mem.size_push, Mem.size_put, Mem.size_kill, List.length_cons, List.length_nil, List.length_append, List.length_map, List.length_take, List.length_replicate] <;> omega) | (refine (id ?_ : (_ : Bool) = true); simp only [go_sem, if_true, if_false, reduceIte, reduceCtorEq, Nat.reduceAdd, Nat.reduceSub, Nat.reduceBEq, Nat.reduceLT, Nat.reduceMul, Nat.reducePow, Nat.reduceLeDiff]; done) | fail "no") only [go_sem, if_true, if_false, reduceIte, reduceCtorEq, Nat.reduceAdd, Nat.reduceSub, Nat.reduceBEq, Nat.reduceLT, Nat.reduceMul, Nat.reducePow, Nat.reduceLeDiff]; refine hK1 _ _ ?_; clear hK1 K1)); refine aops_nil ?_; simp only [Nx, Caught, if_true, if_false, reduceIte, Nat.reduceEqDiff]; clear gd sep)
      | (refine region_draw' mixed (by decide +kernel) fun gd sep hgd hsep => ?_; clear hgd hsep; (repeat (refine aops_cons fun K1 hK1 => ?_; simp (disch := first | with_reducible assumption | (simp -failIfUnchanged only [Mem.size_push, Mem.size_put, Mem.size_kill, List.length_cons, List.length_nil, List.length_append, List.length_map, List.length_take, List.length_replicate] <;> omega) | (refine (id ?_ : (_ : Bool) = true); simp only [go_sem, if_true, if_false, reduceIte, reduceCtorEq, Nat.reduceAdd, Nat.reduceSub, Nat.reduceBEq, Nat.reduceLT, Nat.reduceMul, Nat.reducePow, Nat.reduceLeDiff]; done) | fail "no") only [go_sem, if_true, if_false, reduceIte, reduceCtorEq, Nat.reduceAdd, Nat.reduceSub, Nat.reduceBEq, Nat.reduceLT, Nat.reduceMul, Nat.reducePow, Nat.reduceLeDiff]; refine hK1 _ _ ?_; clear hK1 K1)); refine aops_nil ?_; simp only [Nx, Caught, if_true, if_false, reduceIte, Nat.reduceEqDiff]; clear gd sep)
      | (refine hK _ _ ?_; clear hK K)
      | (clear hK K)
      )
    refine awp_ret ?_; try simp only [Nx, Caught]
    apply ends_ret
    · simp (disch := first | with_reducible assumption | (simp -failIfUnchanged only [Mem.size_push, Mem.size_put, Mem.size_kill, List.length_cons, List.length_nil, List.length_append, List.length_map, List.length_take, List.length_replicate] <;> omega) | (refine (id ?_ : (_ : Bool) = true); simp only [go_sem, if_true, if_false, reduceIte, reduceCtorEq, Nat.reduceAdd, Nat.reduceSub, Nat.reduceBEq, Nat.reduceLT, Nat.reduceMul, Nat.reducePow, Nat.reduceLeDiff]; done) | fail "no") only [go_sem, if_true, if_false, reduceIte, reduceCtorEq, Nat.reduceAdd, Nat.reduceSub, Nat.reduceBEq, Nat.reduceLT, Nat.reduceMul, Nat.reducePow, Nat.reduceLeDiff, aress, ares1]; exact rfl
    simp only [tupled]
    simp at h ⊢
    intro e; subst e; exact h rfl
  · have hlen : xs.length = ys.length := by simp at h; omega
    repeat (first
      | (refine awp_seq fun K hK => ?_)
      | (refine awp_block ?_)
      | (refine awp_skip ?_; simp only [Nx, Caught, if_true, if_false, reduceIte, Nat.reduceEqDiff])
      | (refine awp_exit ?_; simp only [Nx, Caught, if_true, if_false, reduceIte, Nat.reduceEqDiff])
      | (refine region_seq fun gd sep hgd => ?_; clear hgd; (repeat (refine aops_cons fun K1 hK1 => ?_; simp (disch := first | with_reducible assumption | (simp -failIfUnchanged only [Mem.size_push, Mem.size_put, Mem.size_kill, List.length_cons, List.length_nil, List.length_append, List.length_map, List.length_take, List.length_replicate, ha.lenI] <;> omega) | (refine (id ?_ : (_ : Bool) = true); simp only [go_sem, if_true, if_false, reduceIte, reduceCtorEq, Nat.reduceAdd, Nat.reduceSub, Nat.reduceBEq, Nat.reduceLT, Nat.reduceMul, Nat.reducePow, Nat.reduceLeDiff, ha.lenI]; done) | fail "no") only [go_sem, if_true, if_false, reduceIte, reduceCtorEq, Nat.reduceAdd, Nat.reduceSub, Nat.reduceBEq, Nat.reduceLT, Nat.reduceMul, Nat.reducePow, Nat.reduceLeDiff, ha.lenI]; refine hK1 _ _ ?_; clear hK1 K1)); refine aops_nil ?_; simp only [Nx, Caught, if_true, if_false, reduceIte, Nat.reduceEqDiff]; clear gd sep)
      | (refine region_draw' mixed (by decide +kernel) fun gd sep hgd hsep => ?_; clear hgd hsep; (repeat (refine aops_cons fun K1 hK1 => ?_; simp (disch := first | with_reducible assumption | (simp -failIfUnchanged only [Mem.size_push, Mem.size_put, Mem.size_kill, List.length_cons, List.length_nil, List.length_append, List.length_map, List.length_take, List.length_replicate, ha.lenI] <;> omega) | (refine (id ?_ : (_ : Bool) = true); simp only [go_sem, if_true, if_false, reduceIte, reduceCtorEq, Nat.reduceAdd, Nat.reduceSub, Nat.reduceBEq, Nat.reduceLT, Nat.reduceMul, Nat.reducePow, Nat.reduceLeDiff, ha.lenI]; done) | fail "no") only [go_sem, if_true, if_false, reduceIte, reduceCtorEq, Nat.reduceAdd, Nat.reduceSub, Nat.reduceBEq, Nat.reduceLT, Nat.reduceMul, Nat.reducePow, Nat.reduceLeDiff, ha.lenI]; refine hK1 _ _ ?_; clear hK1 K1)); refine aops_nil ?_; simp only [Nx, Caught, if_true, if_false, reduceIte, Nat.reduceEqDiff]; clear gd sep)
      | (refine hK _ _ ?_; clear hK K)
      | (clear hK K)
      )
    refine awp_loop (fun n ts m' => ∃ k : Nat, n = xs.length - k ∧ k ≤ xs.length ∧ ts 0 = a ∧ ts 1 = b ∧ ts 12 = .int .i64 xs.length ∧ ts 13 = .int .i64 k ∧ m' = m ∧ ∀ i, i < k → xs.getD i 0 = ys.getD i 0) xs.length ⟨0, rfl, by omega, rfl, rfl, rfl, rfl, rfl, fun i hi => by omega⟩ ?_
    rintro n ts _ ⟨k, rfl, hk, h0, h1, h12, h13, rfl, hs⟩ J hJ
    repeat (first
      | (refine awp_seq fun K hK => ?_)
      | (refine awp_block ?_)
      | (refine awp_skip ?_; simp only [Nx, Caught, if_true, if_false, reduceIte, Nat.reduceEqDiff])
      | (refine awp_exit ?_; simp only [Nx, Caught, if_true, if_false, reduceIte, Nat.reduceEqDiff])
      | (refine region_seq fun gd sep hgd => ?_; clear hgd; (repeat (refine aops_cons fun K1 hK1 => ?_; simp (disch := first | with_reducible assumption | (simp -failIfUnchanged only [Mem.size_push, Mem.size_put, Mem.size_kill, List.length_cons, List.length_nil, List.length_append, List.length_map, List.length_take, List.length_replicate, h0, h1, h12, h13] <;> omega) | (refine (id ?_ : (_ : Bool) = true); simp only [go_sem, if_true, if_false, reduceIte, reduceCtorEq, Nat.reduceAdd, Nat.reduceSub, Nat.reduceBEq, Nat.reduceLT, Nat.reduceMul, Nat.reducePow, Nat.reduceLeDiff, h0, h1, h12, h13]; done) | fail "no") only [go_sem, if_true, if_false, reduceIte, reduceCtorEq, Nat.reduceAdd, Nat.reduceSub, Nat.reduceBEq, Nat.reduceLT, Nat.reduceMul, Nat.reducePow, Nat.reduceLeDiff, h0, h1, h12, h13]; refine hK1 _ _ ?_; clear hK1 K1)); refine aops_nil ?_; simp only [Nx, Caught, if_true, if_false, reduceIte, Nat.reduceEqDiff]; clear gd sep)
      | (refine region_draw' mixed (by decide +kernel) fun gd sep hgd hsep => ?_; clear hgd hsep; (repeat (refine aops_cons fun K1 hK1 => ?_; simp (disch := first | with_reducible assumption | (simp -failIfUnchanged only [Mem.size_push, Mem.size_put, Mem.size_kill, List.length_cons, List.length_nil, List.length_append, List.length_map, List.length_take, List.length_replicate, h0, h1, h12, h13] <;> omega) | (refine (id ?_ : (_ : Bool) = true); simp only [go_sem, if_true, if_false, reduceIte, reduceCtorEq, Nat.reduceAdd, Nat.reduceSub, Nat.reduceBEq, Nat.reduceLT, Nat.reduceMul, Nat.reducePow, Nat.reduceLeDiff, h0, h1, h12, h13]; done) | fail "no") only [go_sem, if_true, if_false, reduceIte, reduceCtorEq, Nat.reduceAdd, Nat.reduceSub, Nat.reduceBEq, Nat.reduceLT, Nat.reduceMul, Nat.reducePow, Nat.reduceLeDiff, h0, h1, h12, h13]; refine hK1 _ _ ?_; clear hK1 K1)); refine aops_nil ?_; simp only [Nx, Caught, if_true, if_false, reduceIte, Nat.reduceEqDiff]; clear gd sep)
      | (refine hK _ _ ?_; clear hK K)
      | (clear hK K)
      )
    refine awp_if rfl (fun h => ?_) (fun h => ?_)
    · have hlt : k < xs.length := by simp at h; omega
      repeat (first
        | (refine awp_seq fun K hK => ?_)
        | (refine awp_block ?_)
        | (refine awp_skip ?_; simp only [Nx, Caught, if_true, if_false, reduceIte, Nat.reduceEqDiff])
        | (refine awp_exit ?_; simp only [Nx, Caught, if_true, if_false, reduceIte, Nat.reduceEqDiff])
        | (refine region_seq fun gd sep hgd => ?_; clear hgd; (repeat (refine aops_cons fun K1 hK1 => ?_; simp (disch := first | with_reducible assumption | (simp -failIfUnchanged only [Mem.size_push, Mem.size_put, Mem.size_kill, List.length_cons, List.length_nil, List.length_append, List.length_map, List.length_take, List.length_replicate, ha.idxI, hb.idxI, ha.loadI, hb.loadI, Int.toNat_natCast, h0, h1, h12, h13] <;> omega) | (refine (id ?_ : (_ : Bool) = true); simp only [go_sem, if_true, if_false, reduceIte, reduceCtorEq, Nat.reduceAdd, Nat.reduceSub, Nat.reduceBEq, Nat.reduceLT, Nat.reduceMul, Nat.reducePow, Nat.reduceLeDiff, ha.idxI, hb.idxI, ha.loadI, hb.loadI, Int.toNat_natCast, h0, h1, h12, h13]; done) | fail "no") only [go_sem, if_true, if_false, reduceIte, reduceCtorEq, Nat.reduceAdd, Nat.reduceSub, Nat.reduceBEq, Nat.reduceLT, Nat.reduceMul, Nat.reducePow, Nat.reduceLeDiff, ha.idxI, hb.idxI, ha.loadI, hb.loadI, Int.toNat_natCast, h0, h1, h12, h13]; refine hK1 _ _ ?_; clear hK1 K1)); refine aops_nil ?_; simp only [Nx, Caught, if_true, if_false, reduceIte, Nat.reduceEqDiff]; clear gd sep)
        | (refine region_draw' mixed (by decide +kernel) fun gd sep hgd hsep => ?_; clear hgd hsep; (repeat (refine aops_cons fun K1 hK1 => ?_; simp (disch := first | with_reducible assumption | (simp -failIfUnchanged only [Mem.size_push, Mem.size_put, Mem.size_kill, List.length_cons, List.length_nil, List.length_append, List.length_map, List.length_take, List.length_replicate, ha.idxI, hb.idxI, ha.loadI, hb.loadI, Int.toNat_natCast, h0, h1, h12, h13] <;> omega) | (refine (id ?_ : (_ : Bool) = true); simp only [go_sem, if_true, if_false, reduceIte, reduceCtorEq, Nat.reduceAdd, Nat.reduceSub, Nat.reduceBEq, Nat.reduceLT, Nat.reduceMul, Nat.reducePow, Nat.reduceLeDiff, ha.idxI, hb.idxI, ha.loadI, hb.loadI, Int.toNat_natCast, h0, h1, h12, h13]; done) | fail "no") only [go_sem, if_true, if_false, reduceIte, reduceCtorEq, Nat.reduceAdd, Nat.reduceSub, Nat.reduceBEq, Nat.reduceLT, Nat.reduceMul, Nat.reducePow, Nat.reduceLeDiff, ha.idxI, hb.idxI, ha.loadI, hb.loadI, Int.toNat_natCast, h0, h1, h12, h13]; refine hK1 _ _ ?_; clear hK1 K1)); refine aops_nil ?_; simp only [Nx, Caught, if_true, if_false, reduceIte, Nat.reduceEqDiff]; clear gd sep)
        | (refine hK _ _ ?_; clear hK K)
        | (clear hK K)
        )
      refine awp_if rfl (fun h => ?_) (fun h => ?_)
      · repeat (first
          | (refine awp_seq fun K hK => ?_)
          | (refine awp_block ?_)
          | (refine awp_skip ?_; simp only [Nx, Caught, if_true, if_false, reduceIte, Nat.reduceEqDiff])
          | (refine awp_exit ?_; simp only [Nx, Caught, if_true, if_false, reduceIte, Nat.reduceEqDiff])
          | (refine region_seq fun gd sep hgd => ?_; clear hgd; (repeat (refine aops_cons fun K1 hK1 => ?_; simp (disch := first | with_reducible assumption | (simp -failIfUnchanged only [Mem.size_push, Mem.size_put, Mem.size_kill, List.length_cons, List.length_nil, List.length_append, List.length_map, List.length_take, List.length_replicate] <;> omega) | (refine (id ?_ : (_ : Bool) = true); simp only [go_sem, if_true, if_false, reduceIte, reduceCtorEq, Nat.reduceAdd, Nat.reduceSub, Nat.reduceBEq, Nat.reduceLT, Nat.reduceMul, Nat.reducePow, Nat.reduceLeDiff]; done) | fail "no") only [go_sem, if_true, if_false, reduceIte, reduceCtorEq, Nat.reduceAdd, Nat.reduceSub, Nat.reduceBEq, Nat.reduceLT, Nat.reduceMul, Nat.reducePow, Nat.reduceLeDiff]; refine hK1 _ _ ?_; clear hK1 K1)); refine aops_nil ?_; simp only [Nx, Caught, if_true, if_false, reduceIte, Nat.reduceEqDiff]; clear gd sep)
          | (refine region_draw' mixed (by decide +kernel) fun gd sep hgd hsep => ?_; clear hgd hsep; (repeat (refine aops_cons fun K1 hK1 => ?_; simp (disch := first | with_reducible assumption | (simp -failIfUnchanged only [Mem.size_push, Mem.size_put, Mem.size_kill, List.length_cons, List.length_nil, List.length_append, List.length_map, List.length_take, List.length_replicate] <;> omega) | (refine (id ?_ : (_ : Bool) = true); simp only [go_sem, if_true, if_false, reduceIte, reduceCtorEq, Nat.reduceAdd, Nat.reduceSub, Nat.reduceBEq, Nat.reduceLT, Nat.reduceMul, Nat.reducePow, Nat.reduceLeDiff]; done) | fail "no") only [go_sem, if_true, if_false, reduceIte, reduceCtorEq, Nat.reduceAdd, Nat.reduceSub, Nat.reduceBEq, Nat.reduceLT, Nat.reduceMul, Nat.reducePow, Nat.reduceLeDiff]; refine hK1 _ _ ?_; clear hK1 K1)); refine aops_nil ?_; simp only [Nx, Caught, if_true, if_false, reduceIte, Nat.reduceEqDiff]; clear gd sep)
          | (refine hK _ _ ?_; clear hK K)
          | (clear hK K)
          )
        refine awp_ret ?_; try simp only [Nx, Caught]
        apply ends_ret
        · simp (disch := first | with_reducible assumption | (simp -failIfUnchanged only [Mem.size_push, Mem.size_put, Mem.size_kill, List.length_cons, List.length_nil, List.length_append, List.length_map, List.length_take, List.length_replicate] <;> omega) | (refine (id ?_ : (_ : Bool) = true); simp only [go_sem, if_true, if_false, reduceIte, reduceCtorEq, Nat.reduceAdd, Nat.reduceSub, Nat.reduceBEq, Nat.reduceLT, Nat.reduceMul, Nat.reducePow, Nat.reduceLeDiff]; done) | fail "no") only [go_sem, if_true, if_false, reduceIte, reduceCtorEq, Nat.reduceAdd, Nat.reduceSub, Nat.reduceBEq, Nat.reduceLT, Nat.reduceMul, Nat.reducePow, Nat.reduceLeDiff, aress, ares1]; exact rfl
        simp only [tupled]
        simp at h ⊢
        intro e; subst e; exact h rfl
      · repeat (first
          | (refine awp_seq fun K hK => ?_)
          | (refine awp_block ?_)
          | (refine awp_skip ?_; simp only [Nx, Caught, if_true, if_false, reduceIte, Nat.reduceEqDiff])
          | (refine awp_exit ?_; simp only [Nx, Caught, if_true, if_false, reduceIte, Nat.reduceEqDiff])
          | (refine region_seq fun gd sep hgd => ?_; clear hgd; (repeat (refine aops_cons fun K1 hK1 => ?_; simp (disch := first | with_reducible assumption | (simp -failIfUnchanged only [Mem.size_push, Mem.size_put, Mem.size_kill, List.length_cons, List.length_nil, List.length_append, List.length_map, List.length_take, List.length_replicate, h0, h1, h12, h13] <;> omega) | (refine (id ?_ : (_ : Bool) = true); simp only [go_sem, if_true, if_false, reduceIte, reduceCtorEq, Nat.reduceAdd, Nat.reduceSub, Nat.reduceBEq, Nat.reduceLT, Nat.reduceMul, Nat.reducePow, Nat.reduceLeDiff, h0, h1, h12, h13]; done) | fail "no") only [go_sem, if_true, if_false, reduceIte, reduceCtorEq, Nat.reduceAdd, Nat.reduceSub, Nat.reduceBEq, Nat.reduceLT, Nat.reduceMul, Nat.reducePow, Nat.reduceLeDiff, h0, h1, h12, h13]; refine hK1 _ _ ?_; clear hK1 K1)); refine aops_nil ?_; simp only [Nx, Caught, if_true, if_false, reduceIte, Nat.reduceEqDiff]; clear gd sep)
          | (refine region_draw' mixed (by decide +kernel) fun gd sep hgd hsep => ?_; clear hgd hsep; (repeat (refine aops_cons fun K1 hK1 => ?_; simp (disch := first | with_reducible assumption | (simp -failIfUnchanged only [Mem.size_push, Mem.size_put, Mem.size_kill, List.length_cons, List.length_nil, List.length_append, List.length_map, List.length_take, List.length_replicate, h0, h1, h12, h13] <;> omega) | (refine (id ?_ : (_ : Bool) = true); simp only [go_sem, if_true, if_false, reduceIte, reduceCtorEq, Nat.reduceAdd, Nat.reduceSub, Nat.reduceBEq, Nat.reduceLT, Nat.reduceMul, Nat.reducePow, Nat.reduceLeDiff, h0, h1, h12, h13]; done) | fail "no") only [go_sem, if_true, if_false, reduceIte, reduceCtorEq, Nat.reduceAdd, Nat.reduceSub, Nat.reduceBEq, Nat.reduceLT, Nat.reduceMul, Nat.reducePow, Nat.reduceLeDiff, h0, h1, h12, h13]; refine hK1 _ _ ?_; clear hK1 K1)); refine aops_nil ?_; simp only [Nx, Caught, if_true, if_false, reduceIte, Nat.reduceEqDiff]; clear gd sep)
          | (refine hK _ _ ?_; clear hK K)
          | (clear hK K)
          )
        refine hJ _ _ _ ?_ ⟨k + 1, rfl, by omega, h0, h1, h12, rfl, rfl, fun i hi => ?_⟩
        · omega
        · by_cases e : i = k
          · subst e; simpa using h
          · exact hs i (by omega)
    · have he : k = xs.length := by simp at h; omega
      repeat (first
        | (refine awp_seq fun K hK => ?_)
        | (refine awp_block ?_)
        | (refine awp_skip ?_; simp only [Nx, Caught, if_true, if_false, reduceIte, Nat.reduceEqDiff])
        | (refine awp_exit ?_; simp only [Nx, Caught, if_true, if_false, reduceIte, Nat.reduceEqDiff])
        | (refine region_seq fun gd sep hgd => ?_; clear hgd; (repeat (refine aops_cons fun K1 hK1 => ?_; simp (disch := first | with_reducible assumption | (simp -failIfUnchanged only [Mem.size_push, Mem.size_put, Mem.size_kill, List.length_cons, List.length_nil, List.length_append, List.length_map, List.length_take, List.length_replicate] <;> omega) | (refine (id ?_ : (_ : Bool) = true); simp only [go_sem, if_true, if_false, reduceIte, reduceCtorEq, Nat.reduceAdd, Nat.reduceSub, Nat.reduceBEq, Nat.reduceLT, Nat.reduceMul, Nat.reducePow, Nat.reduceLeDiff]; done) | fail "no") only [go_sem, if_true, if_false, reduceIte, reduceCtorEq, Nat.reduceAdd, Nat.reduceSub, Nat.reduceBEq, Nat.reduceLT, Nat.reduceMul, Nat.reducePow, Nat.reduceLeDiff]; refine hK1 _ _ ?_; clear hK1 K1)); refine aops_nil ?_; simp only [Nx, Caught, if_true, if_false, reduceIte, Nat.reduceEqDiff]; clear gd sep)
        | (refine region_draw' mixed (by decide +kernel) fun gd sep hgd hsep => ?_; clear hgd hsep; (repeat (refine aops_cons fun K1 hK1 => ?_; simp (disch := first | with_reducible assumption | (simp -failIfUnchanged only [Mem.size_push, Mem.size_put, Mem.size_kill, List.length_cons, List.length_nil, List.length_append, List.length_map, List.length_take, List.length_replicate] <;> omega) | (refine (id ?_ : (_ : Bool) = true); simp only [go_sem, if_true, if_false, reduceIte, reduceCtorEq, Nat.reduceAdd, Nat.reduceSub, Nat.reduceBEq, Nat.reduceLT, Nat.reduceMul, Nat.reducePow, Nat.reduceLeDiff]; done) | fail "no") only [go_sem, if_true, if_false, reduceIte, reduceCtorEq, Nat.reduceAdd, Nat.reduceSub, Nat.reduceBEq, Nat.reduceLT, Nat.reduceMul, Nat.reducePow, Nat.reduceLeDiff]; refine hK1 _ _ ?_; clear hK1 K1)); refine aops_nil ?_; simp only [Nx, Caught, if_true, if_false, reduceIte, Nat.reduceEqDiff]; clear gd sep)
        | (refine hK _ _ ?_; clear hK K)
        | (clear hK K)
        )
      refine awp_ret ?_; try simp only [Nx, Caught]
      apply ends_ret
      · simp (disch := first | with_reducible assumption | (simp -failIfUnchanged only [Mem.size_push, Mem.size_put, Mem.size_kill, List.length_cons, List.length_nil, List.length_append, List.length_map, List.length_take, List.length_replicate] <;> omega) | (refine (id ?_ : (_ : Bool) = true); simp only [go_sem, if_true, if_false, reduceIte, reduceCtorEq, Nat.reduceAdd, Nat.reduceSub, Nat.reduceBEq, Nat.reduceLT, Nat.reduceMul, Nat.reducePow, Nat.reduceLeDiff]; done) | fail "no") only [go_sem, if_true, if_false, reduceIte, reduceCtorEq, Nat.reduceAdd, Nat.reduceSub, Nat.reduceBEq, Nat.reduceLT, Nat.reduceMul, Nat.reducePow, Nat.reduceLeDiff, aress, ares1]; exact rfl
      simp only [tupled]
      simp
      exact list_eq_of_getD hlen (he ▸ hs)
theorem sEqB_c {m : Mem} {a b : AVal} {xs ys : List Bool} (ha : RdB m a xs) (hb : RdB m b ys) (hx : xs.length ≤ 1099511627776) :
    ∃ v m', (v = .bool (xs == ys) ∧ m' = m) ∧ DCalls PP m.size 54 [a, b] m v m' := by
  refine enter Try.func54 (by decide) rfl Try.ntmps54 Try.results54 ?_
  repeat (first
    | (refine awp_seq fun K hK => ?_)
    | (refine awp_block ?_)
    | (refine awp_skip ?_; simp only [Nx, Caught, if_true, if_false, reduceIte, Nat.reduceEqDiff])
    | (refine awp_exit ?_; simp only [Nx, Caught, if_true, if_false, reduceIte, Nat.reduceEqDiff])
    | (refine region_seq fun gd sep hgd => ?_; clear hgd; (repeat (refine aops_cons fun K1 hK1 => ?_; simp (disch := first | with_reducible assumption | (simp -failIfUnchanged only [Mem.size_push, Mem.size_put, Mem.size_kill, List.length_cons, List.length_nil, List.length_append, List.length_map, List.length_take, List.length_replicate, ha.lenB, hb.lenB] <;> omega) | (refine (id ?_ : (_ : Bool) = true); simp only [go_sem, if_true, if_false, reduceIte, reduceCtorEq, Nat.reduceAdd, Nat.reduceSub, Nat.reduceBEq, Nat.reduceLT, Nat.reduceMul, Nat.reducePow, Nat.reduceLeDiff, ha.lenB, hb.lenB]; done) | fail "no") only [go_sem, if_true, if_false, reduceIte, reduceCtorEq, Nat.reduceAdd, Nat.reduceSub, Nat.reduceBEq, Nat.reduceLT, Nat.reduceMul, Nat.reducePow, Nat.reduceLeDiff, ha.lenB, hb.lenB]; refine hK1 _ _ ?_; clear hK1 K1)); refine aops_nil ?_; simp only [Nx, Caught, if_true, if_false, reduceIte, Nat.reduceEqDiff]; clear gd sep)
    | (refine region_draw' mixed (by decide +kernel) fun gd sep hgd hsep => ?_; clear hgd hsep; (repeat (refine aops_cons fun K1 hK1 => ?_; simp (disch := first | with_reducible assumption | (simp -failIfUnchanged only [Mem.size_push, Mem.size_put, Mem.size_kill, List.length_cons, List.length_nil, List.length_append, List.length_map, List.length_take, List.length_replicate, ha.lenB, hb.lenB] <;> omega) | (refine (id ?_ : (_ : Bool) = true); simp only [go_sem, if_true, if_false, reduceIte, reduceCtorEq, Nat.reduceAdd, Nat.reduceSub, Nat.reduceBEq, Nat.reduceLT, Nat.reduceMul, Nat.reducePow, Nat.reduceLeDiff, ha.lenB, hb.lenB]; done) | fail "no") only [go_sem, if_true, if_false, reduceIte, reduceCtorEq, Nat.reduceAdd, Nat.reduceSub, Nat.reduceBEq, Nat.reduceLT, Nat.reduceMul, Nat.reducePow, Nat.reduceLeDiff, ha.lenB, hb.lenB]; refine hK1 _ _ ?_; clear hK1 K1)); refine aops_nil ?_; simp only [Nx, Caught, if_true, if_false, reduceIte, Nat.reduceEqDiff]; clear gd sep)
    | (refine hK _ _ ?_; clear hK K)
    | (clear hK K)
    )
  refine awp_if rfl (fun h => ?_) (fun h => ?_)
  · repeat (first
      | (refine awp_seq fun K hK => ?_)
      | (refine awp_block ?_)
      | (refine awp_skip ?_; simp only [Nx, Caught, if_true, if_false, reduceIte, Nat.reduceEqDiff])
      | (refine awp_exit ?_; simp only [Nx, Caught, if_true, if_false, reduceIte, Nat.reduceEqDiff])
      | (refine region_seq fun gd sep hgd => ?_; clear hgd; (repeat (refine aops_cons fun K1 hK1 => ?_; simp (disch := first | with_reducible assumption | (simp -failIfUnchanged only [Mem.size_push, Mem.size_put, Mem.size_kill, List.length_cons, List.length_nil, List.length_append, List.length_map, List.length_take, List.length_replicate] <;> omega) | (refine (id ?_ : (_ : Bool) = true); simp only [go_sem, if_true, if_false, reduceIte, reduceCtorEq, Nat.reduceAdd, Nat.reduceSub, Nat.reduceBEq, Nat.reduceLT, Nat.reduceMul, Nat.reducePow, Nat.reduceLeDiff]; done) | fail "no") only [go_sem, if_true, if_false, reduceIte, reduceCtorEq, Nat.reduceAdd, Nat.reduceSub, Nat.reduceBEq, Nat.reduceLT, Nat.reduceMul, Nat.reducePow, Nat.reduceLeDiff]; refine hK1 _ _ ?_; clear hK1 K1)); refine aops_nil ?_; simp only [Nx, Caught, if_true, if_false, reduceIte, Nat.reduceEqDiff]; clear gd sep)
      | (refine region_draw' mixed (by decide +kernel) fun gd sep hgd hsep => ?_; clear hgd hsep; (repeat (refine aops_cons fun K1 hK1 => ?_; simp (disch := first | with_reducible assumption | (simp -failIfUnchanged only [Mem.size_push, Mem.size_put, Mem.size_kill, List.length_cons, List.length_nil, List.length_append, List.length_map, List.length_take, List.length_replicate] <;> omega) | (refine (id ?_ : (_ : Bool) = true); simp only [go_sem, if_true, if_false, reduceIte, reduceCtorEq, Nat.reduceAdd, Nat.reduceSub, Nat.reduceBEq, Nat.reduceLT, Nat.reduceMul, Nat.reducePow, Nat.reduceLeDiff]; done) | fail "no") only [go_sem, if_true, if_false, reduceIte, reduceCtorEq, Nat.reduceAdd, Nat.reduceSub, Nat.reduceBEq, Nat.reduceLT, Nat.reduceMul, Nat.reducePow, Nat.reduceLeDiff]; refine hK1 _ _ ?_; clear hK1 K1)); refine aops_nil ?_; simp only [Nx, Caught, if_true, if_false, reduceIte, Nat.reduceEqDiff]; clear gd sep)
      | (refine hK _ _ ?_; clear hK K)
      | (clear hK K)
      )
    refine awp_ret ?_; try simp only [Nx, Caught]
    apply ends_ret
    · simp (disch := first | with_reducible assumption | (simp -failIfUnchanged only [Mem.size_push, Mem.size_put, Mem.size_kill, List.length_cons, List.length_nil, List.length_append, List.length_map, List.length_take, List.length_replicate] <;> omega) | (refine (id ?_ : (_ : Bool) = true); simp only [go_sem, if_true, if_false, reduceIte, reduceCtorEq, Nat.reduceAdd, Nat.reduceSub, Nat.reduceBEq, Nat.reduceLT, Nat.reduceMul, Nat.reducePow, Nat.reduceLeDiff]; done) | fail "no") only [go_sem, if_true, if_false, reduceIte, reduceCtorEq, Nat.reduceAdd, Nat.reduceSub, Nat.reduceBEq, Nat.reduceLT, Nat.reduceMul, Nat.reducePow, Nat.reduceLeDiff, aress, ares1]; exact rfl
    simp only [tupled]
    simp at h ⊢
    intro e; subst e; exact h rfl
  · have hlen : xs.length = ys.length := by simp at h; omega
    repeat (first
      | (refine awp_seq fun K hK => ?_)
      | (refine awp_block ?_)
      | (refine awp_skip ?_; simp only [Nx, Caught, if_true, if_false, reduceIte, Nat.reduceEqDiff])
      | (refine awp_exit ?_; simp only [Nx, Caught, if_true, if_false, reduceIte, Nat.reduceEqDiff])
      | (refine region_seq fun gd sep hgd => ?_; clear hgd; (repeat (refine aops_cons fun K1 hK1 => ?_; simp (disch := first | with_reducible assumption | (simp -failIfUnchanged only [Mem.size_push, Mem.size_put, Mem.size_kill, List.length_cons, List.length_nil, List.length_append, List.length_map, List.length_take, List.length_replicate, ha.lenB] <;> omega) | (refine (id ?_ : (_ : Bool) = true); simp only [go_sem, if_true, if_false, reduceIte, reduceCtorEq, Nat.reduceAdd, Nat.reduceSub, Nat.reduceBEq, Nat.reduceLT, Nat.reduceMul, Nat.reducePow, Nat.reduceLeDiff, ha.lenB]; done) | fail "no") only [go_sem, if_true, if_false, reduceIte, reduceCtorEq, Nat.reduceAdd, Nat.reduceSub, Nat.reduceBEq, Nat.reduceLT, Nat.reduceMul, Nat.reducePow, Nat.reduceLeDiff, ha.lenB]; refine hK1 _ _ ?_; clear hK1 K1)); refine aops_nil ?_; simp only [Nx, Caught, if_true, if_false, reduceIte, Nat.reduceEqDiff]; clear gd sep)
      | (refine region_draw' mixed (by decide +kernel) fun gd sep hgd hsep => ?_; clear hgd hsep; (repeat (refine aops_cons fun K1 hK1 => ?_; simp (disch := first | with_reducible assumption | (simp -failIfUnchanged only [Mem.size_push, Mem.size_put, Mem.size_kill, List.length_cons, List.length_nil, List.length_append, List.length_map, List.length_take, List.length_replicate, ha.lenB] <;> omega) | (refine (id ?_ : (_ : Bool) = true); simp only [go_sem, if_true, if_false, reduceIte, reduceCtorEq, Nat.reduceAdd, Nat.reduceSub, Nat.reduceBEq, Nat.reduceLT, Nat.reduceMul, Nat.reducePow, Nat.reduceLeDiff, ha.lenB]; done) | fail "no") only [go_sem, if_true, if_false, reduceIte, reduceCtorEq, Nat.reduceAdd, Nat.reduceSub, Nat.reduceBEq, Nat.reduceLT, Nat.reduceMul, Nat.reducePow, Nat.reduceLeDiff, ha.lenB]; refine hK1 _ _ ?_; clear hK1 K1)); refine aops_nil ?_; simp only [Nx, Caught, if_true, if_false, reduceIte, Nat.reduceEqDiff]; clear gd sep)
      | (refine hK _ _ ?_; clear hK K)
      | (clear hK K)
      )
    refine awp_loop (fun n ts m' => ∃ k : Nat, n = xs.length - k ∧ k ≤ xs.length ∧ ts 0 = a ∧ ts 1 = b ∧ ts 12 = .int .i64 xs.length ∧ ts 13 = .int .i64 k ∧ m' = m ∧ ∀ i, i < k → xs.getD i false = ys.getD i false) xs.length ⟨0, rfl, by omega, rfl, rfl, rfl, rfl, rfl, fun i hi => by omega⟩ ?_
    rintro n ts _ ⟨k, rfl, hk, h0, h1, h12, h13, rfl, hs⟩ J hJ
    repeat (first
      | (refine awp_seq fun K hK => ?_)
      | (refine awp_block ?_)
      | (refine awp_skip ?_; simp only [Nx, Caught, if_true, if_false, reduceIte, Nat.reduceEqDiff])
      | (refine awp_exit ?_; simp only [Nx, Caught, if_true, if_false, reduceIte, Nat.reduceEqDiff])
      | (refine region_seq fun gd sep hgd => ?_; clear hgd; (repeat (refine aops_cons fun K1 hK1 => ?_; simp (disch := first | with_reducible assumption | (simp -failIfUnchanged only [Mem.size_push, Mem.size_put, Mem.size_kill, List.length_cons, List.length_nil, List.length_append, List.length_map, List.length_take, List.length_replicate, h0, h1, h12, h13] <;> omega) | (refine (id ?_ : (_ : Bool) = true); simp only [go_sem, if_true, if_false, reduceIte, reduceCtorEq, Nat.reduceAdd, Nat.reduceSub, Nat.reduceBEq, Nat.reduceLT, Nat.reduceMul, Nat.reducePow, Nat.reduceLeDiff, h0, h1, h12, h13]; done) | fail "no") only [go_sem, if_true, if_false, reduceIte, reduceCtorEq, Nat.reduceAdd, Nat.reduceSub, Nat.reduceBEq, Nat.reduceLT, Nat.reduceMul, Nat.reducePow, Nat.reduceLeDiff, h0, h1, h12, h13]; refine hK1 _ _ ?_; clear hK1 K1)); refine aops_nil ?_; simp only [Nx, Caught, if_true, if_false, reduceIte, Nat.reduceEqDiff]; clear gd sep)
      | (refine region_draw' mixed (by decide +kernel) fun gd sep hgd hsep => ?_; clear hgd hsep; (repeat (refine aops_cons fun K1 hK1 => ?_; simp (disch := first | with_reducible assumption | (simp -failIfUnchanged only [Mem.size_push, Mem.size_put, Mem.size_kill, List.length_cons, List.length_nil, List.length_append, List.length_map, List.length_take, List.length_replicate, h0, h1, h12, h13] <;> omega) | (refine (id ?_ : (_ : Bool) = true); simp only [go_sem, if_true, if_false, reduceIte, reduceCtorEq, Nat.reduceAdd, Nat.reduceSub, Nat.reduceBEq, Nat.reduceLT, Nat.reduceMul, Nat.reducePow, Nat.reduceLeDiff, h0, h1, h12, h13]; done) | fail "no") only [go_sem, if_true, if_false, reduceIte, reduceCtorEq, Nat.reduceAdd, Nat.reduceSub, Nat.reduceBEq, Nat.reduceLT, Nat.reduceMul, Nat.reducePow, Nat.reduceLeDiff, h0, h1, h12, h13]; refine hK1 _ _ ?_; clear hK1 K1)); refine aops_nil ?_; simp only [Nx, Caught, if_true, if_false, reduceIte, Nat.reduceEqDiff]; clear gd sep)
      | (refine hK _ _ ?_; clear hK K)
      | (clear hK K)
      )
    refine awp_if rfl (fun h => ?_) (fun h => ?_)
    · have hlt : k < xs.length := by simp at h; omega
      repeat (first
        | (refine awp_seq fun K hK => ?_)
        | (refine awp_block ?_)
        | (refine awp_skip ?_; simp only [Nx, Caught, if_true, if_false, reduceIte, Nat.reduceEqDiff])
        | (refine awp_exit ?_; simp only [Nx, Caught, if_true, if_false, reduceIte, Nat.reduceEqDiff])
        | (refine region_seq fun gd sep hgd => ?_; clear hgd; (repeat (refine aops_cons fun K1 hK1 => ?_; simp (disch := first | with_reducible assumption | (simp -failIfUnchanged only [Mem.size_push, Mem.size_put, Mem.size_kill, List.length_cons, List.length_nil, List.length_append, List.length_map, List.length_take, List.length_replicate, ha.idxB, hb.idxB, ha.loadB, hb.loadB, Int.toNat_natCast, h0, h1, h12, h13] <;> omega) | (refine (id ?_ : (_ : Bool) = true); simp only [go_sem, if_true, if_false, reduceIte, reduceCtorEq, Nat.reduceAdd, Nat.reduceSub, Nat.reduceBEq, Nat.reduceLT, Nat.reduceMul, Nat.reducePow, Nat.reduceLeDiff, ha.idxB, hb.idxB, ha.loadB, hb.loadB, Int.toNat_natCast, h0, h1, h12, h13]; done) | fail "no") only [go_sem, if_true, if_false, reduceIte, reduceCtorEq, Nat.reduceAdd, Nat.reduceSub, Nat.reduceBEq, Nat.reduceLT, Nat.reduceMul, Nat.reducePow, Nat.reduceLeDiff, ha.idxB, hb.idxB, ha.loadB, hb.loadB, Int.toNat_natCast, h0, h1, h12, h13]; refine hK1 _ _ ?_; clear hK1 K1)); refine aops_nil ?_; simp only [Nx, Caught, if_true, if_false, reduceIte, Nat.reduceEqDiff]; clear gd sep)
        | (refine region_draw' mixed (by decide +kernel) fun gd sep hgd hsep => ?_; clear hgd hsep; (repeat (refine aops_cons fun K1 hK1 => ?_; simp (disch := first | with_reducible assumption | (simp -failIfUnchanged only [Mem.size_push, Mem.size_put, Mem.size_kill, List.length_cons, List.length_nil, List.length_append, List.length_map, List.length_take, List.length_replicate, ha.idxB, hb.idxB, ha.loadB, hb.loadB, Int.toNat_natCast, h0, h1, h12, h13] <;> omega) | (refine (id ?_ : (_ : Bool) = true); simp only [go_sem, if_true, if_false, reduceIte, reduceCtorEq, Nat.reduceAdd, Nat.reduceSub, Nat.reduceBEq, Nat.reduceLT, Nat.reduceMul, Nat.reducePow, Nat.reduceLeDiff, ha.idxB, hb.idxB, ha.loadB, hb.loadB, Int.toNat_natCast, h0, h1, h12, h13]; done) | fail "no") only [go_sem, if_true, if_false, reduceIte, reduceCtorEq, Nat.reduceAdd, Nat.reduceSub, Nat.reduceBEq, Nat.reduceLT, Nat.reduceMul, Nat.reducePow, Nat.reduceLeDiff, ha.idxB, hb.idxB, ha.loadB, hb.loadB, Int.toNat_natCast, h0, h1, h12, h13]; refine hK1 _ _ ?_; clear hK1 K1)); refine aops_nil ?_; simp only [Nx, Caught, if_true, if_false, reduceIte, Nat.reduceEqDiff]; clear gd sep)
        | (refine hK _ _ ?_; clear hK K)
        | (clear hK K)
        )
      refine awp_if rfl (fun h => ?_) (fun h => ?_)
      · repeat (first
          | (refine awp_seq fun K hK => ?_)
          | (refine awp_block ?_)
          | (refine awp_skip ?_; simp only [Nx, Caught, if_true, if_false, reduceIte, Nat.reduceEqDiff])
          | (refine awp_exit ?_; simp only [Nx, Caught, if_true, if_false, reduceIte, Nat.reduceEqDiff])
          | (refine region_seq fun gd sep hgd => ?_; clear hgd; (repeat (refine aops_cons fun K1 hK1 => ?_; simp (disch := first | with_reducible assumption | (simp -failIfUnchanged only [Mem.size_push, Mem.size_put, Mem.size_kill, List.length_cons, List.length_nil, List.length_append, List.length_map, List.length_take, List.length_replicate] <;> omega) | (refine (id ?_ : (_ : Bool) = true); simp only [go_sem, if_true, if_false, reduceIte, reduceCtorEq, Nat.reduceAdd, Nat.reduceSub, Nat.reduceBEq, Nat.reduceLT, Nat.reduceMul, Nat.reducePow, Nat.reduceLeDiff]; done) | fail "no") only [go_sem, if_true, if_false, reduceIte, reduceCtorEq, Nat.reduceAdd, Nat.reduceSub, Nat.reduceBEq, Nat.reduceLT, Nat.reduceMul, Nat.reducePow, Nat.reduceLeDiff]; refine hK1 _ _ ?_; clear hK1 K1)); refine aops_nil ?_; simp only [Nx, Caught, if_true, if_false, reduceIte, Nat.reduceEqDiff]; clear gd sep)
          | (refine region_draw' mixed (by decide +kernel) fun gd sep hgd hsep => ?_; clear hgd hsep; (repeat (refine aops_cons fun K1 hK1 => ?_; simp (disch := first | with_reducible assumption | (simp -failIfUnchanged only [Mem.size_push, Mem.size_put, Mem.size_kill, List.length_cons, List.length_nil, List.length_append, List.length_map, List.length_take, List.length_replicate] <;> omega) | (refine (id ?_ : (_ : Bool) = true); simp only [go_sem, if_true, if_false, reduceIte, reduceCtorEq, Nat.reduceAdd, Nat.reduceSub, Nat.reduceBEq, Nat.reduceLT, Nat.reduceMul, Nat.reducePow, Nat.reduceLeDiff]; done) | fail "no") only [go_sem, if_true, if_false, reduceIte, reduceCtorEq, Nat.reduceAdd, Nat.reduceSub, Nat.reduceBEq, Nat.reduceLT, Nat.reduceMul, Nat.reducePow, Nat.reduceLeDiff]; refine hK1 _ _ ?_; clear hK1 K1)); refine aops_nil ?_; simp only [Nx, Caught, if_true, if_false, reduceIte, Nat.reduceEqDiff]; clear gd sep)
          | (refine hK _ _ ?_; clear hK K)
          | (clear hK K)
          )
        refine awp_ret ?_; try simp only [Nx, Caught]
        apply ends_ret
        · simp (disch := first | with_reducible assumption | (simp -failIfUnchanged only [Mem.size_push, Mem.size_put, Mem.size_kill, List.length_cons, List.length_nil, List.length_append, List.length_map, List.length_take, List.length_replicate] <;> omega) | (refine (id ?_ : (_ : Bool) = true); simp only [go_sem, if_true, if_false, reduceIte, reduceCtorEq, Nat.reduceAdd, Nat.reduceSub, Nat.reduceBEq, Nat.reduceLT, Nat.reduceMul, Nat.reducePow, Nat.reduceLeDiff]; done) | fail "no") only [go_sem, if_true, if_false, reduceIte, reduceCtorEq, Nat.reduceAdd, Nat.reduceSub, Nat.reduceBEq, Nat.reduceLT, Nat.reduceMul, Nat.reducePow, Nat.reduceLeDiff, aress, ares1]; exact rfl
        simp only [tupled]
        simp at h ⊢
        intro e; subst e; exact h rfl
      · repeat (first
          | (refine awp_seq fun K hK => ?_)
          | (refine awp_block ?_)
          | (refine awp_skip ?_; simp only [Nx, Caught, if_true, if_false, reduceIte, Nat.reduceEqDiff])
          | (refine awp_exit ?_; simp only [Nx, Caught, if_true, if_false, reduceIte, Nat.reduceEqDiff])
          | (refine region_seq fun gd sep hgd => ?_; clear hgd; (repeat (refine aops_cons fun K1 hK1 => ?_; simp (disch := first | with_reducible assumption | (simp -failIfUnchanged only [Mem.size_push, Mem.size_put, Mem.size_kill, List.length_cons, List.length_nil, List.length_append, List.length_map, List.length_take, List.length_replicate, h0, h1, h12, h13] <;> omega) | (refine (id ?_ : (_ : Bool) = true); simp only [go_sem, if_true, if_false, reduceIte, reduceCtorEq, Nat.reduceAdd, Nat.reduceSub, Nat.reduceBEq, Nat.reduceLT, Nat.reduceMul, Nat.reducePow, Nat.reduceLeDiff, h0, h1, h12, h13]; done) | fail "no") only [go_sem, if_true, if_false, reduceIte, reduceCtorEq, Nat.reduceAdd, Nat.reduceSub, Nat.reduceBEq, Nat.reduceLT, Nat.reduceMul, Nat.reducePow, Nat.reduceLeDiff, h0, h1, h12, h13]; refine hK1 _ _ ?_; clear hK1 K1)); refine aops_nil ?_; simp only [Nx, Caught, if_true, if_false, reduceIte, Nat.reduceEqDiff]; clear gd sep)
          | (refine region_draw' mixed (by decide +kernel) fun gd sep hgd hsep => ?_; clear hgd hsep; (repeat (refine aops_cons fun K1 hK1 => ?_; simp (disch := first | with_reducible assumption | (simp -failIfUnchanged only [Mem.size_push, Mem.size_put, Mem.size_kill, List.length_cons, List.length_nil, List.length_append, List.length_map, List.length_take, List.length_replicate, h0, h1, h12, h13] <;> omega) | (refine (id ?_ : (_ : Bool) = true); simp only [go_sem, if_true, if_false, reduceIte, reduceCtorEq, Nat.reduceAdd, Nat.reduceSub, Nat.reduceBEq, Nat.reduceLT, Nat.reduceMul, Nat.reducePow, Nat.reduceLeDiff, h0, h1, h12, h13]; done) | fail "no") only [go_sem, if_true, if_false, reduceIte, reduceCtorEq, Nat.reduceAdd, Nat.reduceSub, Nat.reduceBEq, Nat.reduceLT, Nat.reduceMul, Nat.reducePow, Nat.reduceLeDiff, h0, h1, h12, h13]; refine hK1 _ _ ?_; clear hK1 K1)); refine aops_nil ?_; simp only [Nx, Caught, if_true, if_false, reduceIte, Nat.reduceEqDiff]; clear gd sep)
          | (refine hK _ _ ?_; clear hK K)
          | (clear hK K)
          )
        refine hJ _ _ _ ?_ ⟨k + 1, rfl, by omega, h0, h1, h12, rfl, rfl, fun i hi => ?_⟩
        · omega
        · by_cases e : i = k
          · subst e; simpa using h
          · exact hs i (by omega)
    · have he : k = xs.length := by simp at h; omega
      repeat (first
        | (refine awp_seq fun K hK => ?_)
        | (refine awp_block ?_)
        | (refine awp_skip ?_; simp only [Nx, Caught, if_true, if_false, reduceIte, Nat.reduceEqDiff])
        | (refine awp_exit ?_; simp only [Nx, Caught, if_true, if_false, reduceIte, Nat.reduceEqDiff])
        | (refine region_seq fun gd sep hgd => ?_; clear hgd; (repeat (refine aops_cons fun K1 hK1 => ?_; simp (disch := first | with_reducible assumption | (simp -failIfUnchanged only [Mem.size_push, Mem.size_put, Mem.size_kill, List.length_cons, List.length_nil, List.length_append, List.length_map, List.length_take, List.length_replicate] <;> omega) | (refine (id ?_ : (_ : Bool) = true); simp only [go_sem, if_true, if_false, reduceIte, reduceCtorEq, Nat.reduceAdd, Nat.reduceSub, Nat.reduceBEq, Nat.reduceLT, Nat.reduceMul, Nat.reducePow, Nat.reduceLeDiff]; done) | fail "no") only [go_sem, if_true, if_false, reduceIte, reduceCtorEq, Nat.reduceAdd, Nat.reduceSub, Nat.reduceBEq, Nat.reduceLT, Nat.reduceMul, Nat.reducePow, Nat.reduceLeDiff]; refine hK1 _ _ ?_; clear hK1 K1)); refine aops_nil ?_; simp only [Nx, Caught, if_true, if_false, reduceIte, Nat.reduceEqDiff]; clear gd sep)
        | (refine region_draw' mixed (by decide +kernel) fun gd sep hgd hsep => ?_; clear hgd hsep; (repeat (refine aops_cons fun K1 hK1 => ?_; simp (disch := first | with_reducible assumption | (simp -failIfUnchanged only [Mem.size_push, Mem.size_put, Mem.size_kill, List.length_cons, List.length_nil, List.length_append, List.length_map, List.length_take, List.length_replicate] <;> omega) | (refine (id ?_ : (_ : Bool) = true); simp only [go_sem, if_true, if_false, reduceIte, reduceCtorEq, Nat.reduceAdd, Nat.reduceSub, Nat.reduceBEq, Nat.reduceLT, Nat.reduceMul, Nat.reducePow, Nat.reduceLeDiff]; done) | fail "no") only [go_sem, if_true, if_false, reduceIte, reduceCtorEq, Nat.reduceAdd, Nat.reduceSub, Nat.reduceBEq, Nat.reduceLT, Nat.reduceMul, Nat.reducePow, Nat.reduceLeDiff]; refine hK1 _ _ ?_; clear hK1 K1)); refine aops_nil ?_; simp only [Nx, Caught, if_true, if_false, reduceIte, Nat.reduceEqDiff]; clear gd sep)
        | (refine hK _ _ ?_; clear hK K)
        | (clear hK K)
        )
      refine awp_ret ?_; try simp only [Nx, Caught]
      apply ends_ret
      · simp (disch := first | with_reducible assumption | (simp -failIfUnchanged only [Mem.size_push, Mem.size_put, Mem.size_kill, List.length_cons, List.length_nil, List.length_append, List.length_map, List.length_take, List.length_replicate] <;> omega) | (refine (id ?_ : (_ : Bool) = true); simp only [go_sem, if_true, if_false, reduceIte, reduceCtorEq, Nat.reduceAdd, Nat.reduceSub, Nat.reduceBEq, Nat.reduceLT, Nat.reduceMul, Nat.reducePow, Nat.reduceLeDiff]; done) | fail "no") only [go_sem, if_true, if_false, reduceIte, reduceCtorEq, Nat.reduceAdd, Nat.reduceSub, Nat.reduceBEq, Nat.reduceLT, Nat.reduceMul, Nat.reducePow, Nat.reduceLeDiff, aress, ares1]; exact rfl
      simp only [tupled]
      simp
      exact list_eq_of_getD hlen (he ▸ hs)

/-- What is left of a measure. -/
def sz (left : Int) (n : Nat) : Int := if left - n < 0 then -1 else left - n
theorem sz_ge (left : Int) (n : Nat) : -1 ≤ sz left n := by unfold sz; split <;> omega
theorem sz_le {left : Int} {n : Nat} (h : -1 ≤ left) : sz left n ≤ left := by unfold sz; split <;> omega
theorem sz_nn {left : Int} {n : Nat} (h : ¬ sz left n < 0) : sz left n = left - n ∧ (n : Int) ≤ left := by unfold sz at *; split at h <;> rename_i h2 <;> simp_all <;> omega

theorem szIntS_c {m : Mem} {a : AVal} {xs : List Int} {left : Int} (ha : RdI m a xs) (hx : xs.length ≤ 9223372036854775807) (h0 : 0 ≤ left) (h1 : left ≤ 1099511627776) :
    ∃ v m', (v = .int .i64 (sz left xs.length) ∧ m' = m) ∧ DCalls PP m.size 49 [a, .int .i64 left] m v m' := by
  refine enter Try.func49 (by decide) rfl Try.ntmps49 Try.results49 ?_
  repeat (first
    | (refine awp_seq fun K hK => ?_)
    | (refine awp_block ?_)
    | (refine awp_skip ?_; simp only [Nx, Caught, if_true, if_false, reduceIte, Nat.reduceEqDiff])
    | (refine awp_exit ?_; simp only [Nx, Caught, if_true, if_false, reduceIte, Nat.reduceEqDiff])
    | (refine region_seq fun gd sep hgd => ?_; clear hgd; (repeat (refine aops_cons fun K1 hK1 => ?_; simp (disch := first | with_reducible assumption | (simp -failIfUnchanged only [Mem.size_push, Mem.size_put, Mem.size_kill, List.length_cons, List.length_nil, List.length_append, List.length_map, List.length_take, List.length_replicate, ha.lenI] <;> omega) | (refine (id ?_ : (_ : Bool) = true); simp only [go_sem, if_true, if_false, reduceIte, reduceCtorEq, Nat.reduceAdd, Nat.reduceSub, Nat.reduceBEq, Nat.reduceLT, Nat.reduceMul, Nat.reducePow, Nat.reduceLeDiff, ha.lenI]; done) | fail "no") only [go_sem, if_true, if_false, reduceIte, reduceCtorEq, Nat.reduceAdd, Nat.reduceSub, Nat.reduceBEq, Nat.reduceLT, Nat.reduceMul, Nat.reducePow, Nat.reduceLeDiff, ha.lenI]; refine hK1 _ _ ?_; clear hK1 K1)); refine aops_nil ?_; simp only [Nx, Caught, if_true, if_false, reduceIte, Nat.reduceEqDiff]; clear gd sep)
    | (refine region_draw' mixed (by decide +kernel) fun gd sep hgd hsep => ?_; clear hgd hsep; (repeat (refine aops_cons fun K1 hK1 => ?_; simp (disch := first | with_reducible assumption | (simp -failIfUnchanged only [Mem.size_push, Mem.size_put, Mem.size_kill, List.length_cons, List.length_nil, List.length_append, List.length_map, List.length_take, List.length_replicate, ha.lenI] <;> omega) | (refine (id ?_ : (_ : Bool) = true); simp only [go_sem, if_true, if_false, reduceIte, reduceCtorEq, Nat.reduceAdd, Nat.reduceSub, Nat.reduceBEq, Nat.reduceLT, Nat.reduceMul, Nat.reducePow, Nat.reduceLeDiff, ha.lenI]; done) | fail "no") only [go_sem, if_true, if_false, reduceIte, reduceCtorEq, Nat.reduceAdd, Nat.reduceSub, Nat.reduceBEq, Nat.reduceLT, Nat.reduceMul, Nat.reducePow, Nat.reduceLeDiff, ha.lenI]; refine hK1 _ _ ?_; clear hK1 K1)); refine aops_nil ?_; simp only [Nx, Caught, if_true, if_false, reduceIte, Nat.reduceEqDiff]; clear gd sep)
    | (refine hK _ _ ?_; clear hK K)
    | (clear hK K)
    )
  refine awp_if rfl (fun h => ?_) (fun h => ?_)
  · repeat (first
      | (refine awp_seq fun K hK => ?_)
      | (refine awp_block ?_)
      | (refine awp_skip ?_; simp only [Nx, Caught, if_true, if_false, reduceIte, Nat.reduceEqDiff])
      | (refine awp_exit ?_; simp only [Nx, Caught, if_true, if_false, reduceIte, Nat.reduceEqDiff])
      | (refine region_seq fun gd sep hgd => ?_; clear hgd; (repeat (refine aops_cons fun K1 hK1 => ?_; simp (disch := first | with_reducible assumption | (simp -failIfUnchanged only [Mem.size_push, Mem.size_put, Mem.size_kill, List.length_cons, List.length_nil, List.length_append, List.length_map, List.length_take, List.length_replicate] <;> omega) | (refine (id ?_ : (_ : Bool) = true); simp only [go_sem, if_true, if_false, reduceIte, reduceCtorEq, Nat.reduceAdd, Nat.reduceSub, Nat.reduceBEq, Nat.reduceLT, Nat.reduceMul, Nat.reducePow, Nat.reduceLeDiff]; done) | fail "no") only [go_sem, if_true, if_false, reduceIte, reduceCtorEq, Nat.reduceAdd, Nat.reduceSub, Nat.reduceBEq, Nat.reduceLT, Nat.reduceMul, Nat.reducePow, Nat.reduceLeDiff]; refine hK1 _ _ ?_; clear hK1 K1)); refine aops_nil ?_; simp only [Nx, Caught, if_true, if_false, reduceIte, Nat.reduceEqDiff]; clear gd sep)
      | (refine region_draw' mixed (by decide +kernel) fun gd sep hgd hsep => ?_; clear hgd hsep; (repeat (refine aops_cons fun K1 hK1 => ?_; simp (disch := first | with_reducible assumption | (simp -failIfUnchanged only [Mem.size_push, Mem.size_put, Mem.size_kill, List.length_cons, List.length_nil, List.length_append, List.length_map, List.length_take, List.length_replicate] <;> omega) | (refine (id ?_ : (_ : Bool) = true); simp only [go_sem, if_true, if_false, reduceIte, reduceCtorEq, Nat.reduceAdd, Nat.reduceSub, Nat.reduceBEq, Nat.reduceLT, Nat.reduceMul, Nat.reducePow, Nat.reduceLeDiff]; done) | fail "no") only [go_sem, if_true, if_false, reduceIte, reduceCtorEq, Nat.reduceAdd, Nat.reduceSub, Nat.reduceBEq, Nat.reduceLT, Nat.reduceMul, Nat.reducePow, Nat.reduceLeDiff]; refine hK1 _ _ ?_; clear hK1 K1)); refine aops_nil ?_; simp only [Nx, Caught, if_true, if_false, reduceIte, Nat.reduceEqDiff]; clear gd sep)
      | (refine hK _ _ ?_; clear hK K)
      | (clear hK K)
      )
    refine awp_ret ?_; try simp only [Nx, Caught]
    apply ends_ret
    · simp (disch := first | with_reducible assumption | (simp -failIfUnchanged only [Mem.size_push, Mem.size_put, Mem.size_kill, List.length_cons, List.length_nil, List.length_append, List.length_map, List.length_take, List.length_replicate] <;> omega) | (refine (id ?_ : (_ : Bool) = true); simp only [go_sem, if_true, if_false, reduceIte, reduceCtorEq, Nat.reduceAdd, Nat.reduceSub, Nat.reduceBEq, Nat.reduceLT, Nat.reduceMul, Nat.reducePow, Nat.reduceLeDiff]; done) | fail "no") only [go_sem, if_true, if_false, reduceIte, reduceCtorEq, Nat.reduceAdd, Nat.reduceSub, Nat.reduceBEq, Nat.reduceLT, Nat.reduceMul, Nat.reducePow, Nat.reduceLeDiff, aress, ares1]; exact rfl
    simp only [tupled]
    simp at h
    simp [sz, h]
  · repeat (first
      | (refine awp_seq fun K hK => ?_)
      | (refine awp_block ?_)
      | (refine awp_skip ?_; simp only [Nx, Caught, if_true, if_false, reduceIte, Nat.reduceEqDiff])
      | (refine awp_exit ?_; simp only [Nx, Caught, if_true, if_false, reduceIte, Nat.reduceEqDiff])
      | (refine region_seq fun gd sep hgd => ?_; clear hgd; (repeat (refine aops_cons fun K1 hK1 => ?_; simp (disch := first | with_reducible assumption | (simp -failIfUnchanged only [Mem.size_push, Mem.size_put, Mem.size_kill, List.length_cons, List.length_nil, List.length_append, List.length_map, List.length_take, List.length_replicate] <;> omega) | (refine (id ?_ : (_ : Bool) = true); simp only [go_sem, if_true, if_false, reduceIte, reduceCtorEq, Nat.reduceAdd, Nat.reduceSub, Nat.reduceBEq, Nat.reduceLT, Nat.reduceMul, Nat.reducePow, Nat.reduceLeDiff]; done) | fail "no") only [go_sem, if_true, if_false, reduceIte, reduceCtorEq, Nat.reduceAdd, Nat.reduceSub, Nat.reduceBEq, Nat.reduceLT, Nat.reduceMul, Nat.reducePow, Nat.reduceLeDiff]; refine hK1 _ _ ?_; clear hK1 K1)); refine aops_nil ?_; simp only [Nx, Caught, if_true, if_false, reduceIte, Nat.reduceEqDiff]; clear gd sep)
      | (refine region_draw' mixed (by decide +kernel) fun gd sep hgd hsep => ?_; clear hgd hsep; (repeat (refine aops_cons fun K1 hK1 => ?_; simp (disch := first | with_reducible assumption | (simp -failIfUnchanged only [Mem.size_push, Mem.size_put, Mem.size_kill, List.length_cons, List.length_nil, List.length_append, List.length_map, List.length_take, List.length_replicate] <;> omega) | (refine (id ?_ : (_ : Bool) = true); simp only [go_sem, if_true, if_false, reduceIte, reduceCtorEq, Nat.reduceAdd, Nat.reduceSub, Nat.reduceBEq, Nat.reduceLT, Nat.reduceMul, Nat.reducePow, Nat.reduceLeDiff]; done) | fail "no") only [go_sem, if_true, if_false, reduceIte, reduceCtorEq, Nat.reduceAdd, Nat.reduceSub, Nat.reduceBEq, Nat.reduceLT, Nat.reduceMul, Nat.reducePow, Nat.reduceLeDiff]; refine hK1 _ _ ?_; clear hK1 K1)); refine aops_nil ?_; simp only [Nx, Caught, if_true, if_false, reduceIte, Nat.reduceEqDiff]; clear gd sep)
      | (refine hK _ _ ?_; clear hK K)
      | (clear hK K)
      )
    refine awp_ret ?_; try simp only [Nx, Caught]
    apply ends_ret
    · simp (disch := first | with_reducible assumption | (simp -failIfUnchanged only [Mem.size_push, Mem.size_put, Mem.size_kill, List.length_cons, List.length_nil, List.length_append, List.length_map, List.length_take, List.length_replicate] <;> omega) | (refine (id ?_ : (_ : Bool) = true); simp only [go_sem, if_true, if_false, reduceIte, reduceCtorEq, Nat.reduceAdd, Nat.reduceSub, Nat.reduceBEq, Nat.reduceLT, Nat.reduceMul, Nat.reducePow, Nat.reduceLeDiff]; done) | fail "no") only [go_sem, if_true, if_false, reduceIte, reduceCtorEq, Nat.reduceAdd, Nat.reduceSub, Nat.reduceBEq, Nat.reduceLT, Nat.reduceMul, Nat.reducePow, Nat.reduceLeDiff, aress, ares1]; exact rfl
    simp only [tupled]
    simp at h
    simp [sz]
    omega
theorem szBoolS_c {m : Mem} {a : AVal} {xs : List Bool} {left : Int} (ha : RdB m a xs) (hx : xs.length ≤ 9223372036854775807) (h0 : 0 ≤ left) (h1 : left ≤ 1099511627776) :
    ∃ v m', (v = .int .i64 (sz left xs.length) ∧ m' = m) ∧ DCalls PP m.size 48 [a, .int .i64 left] m v m' := by
  refine enter Try.func48 (by decide) rfl Try.ntmps48 Try.results48 ?_
  repeat (first
    | (refine awp_seq fun K hK => ?_)
    | (refine awp_block ?_)
    | (refine awp_skip ?_; simp only [Nx, Caught, if_true, if_false, reduceIte, Nat.reduceEqDiff])
    | (refine awp_exit ?_; simp only [Nx, Caught, if_true, if_false, reduceIte, Nat.reduceEqDiff])
    | (refine region_seq fun gd sep hgd => ?_; clear hgd; (repeat (refine aops_cons fun K1 hK1 => ?_; simp (disch := first | with_reducible assumption | (simp -failIfUnchanged only [Mem.size_push, Mem.size_put, Mem.size_kill, List.length_cons, List.length_nil, List.length_append, List.length_map, List.length_take, List.length_replicate, ha.lenB] <;> omega) | (refine (id ?_ : (_ : Bool) = true); simp only [go_sem, if_true, if_false, reduceIte, reduceCtorEq, Nat.reduceAdd, Nat.reduceSub, Nat.reduceBEq, Nat.reduceLT, Nat.reduceMul, Nat.reducePow, Nat.reduceLeDiff, ha.lenB]; done) | fail "no") only [go_sem, if_true, if_false, reduceIte, reduceCtorEq, Nat.reduceAdd, Nat.reduceSub, Nat.reduceBEq, Nat.reduceLT, Nat.reduceMul, Nat.reducePow, Nat.reduceLeDiff, ha.lenB]; refine hK1 _ _ ?_; clear hK1 K1)); refine aops_nil ?_; simp only [Nx, Caught, if_true, if_false, reduceIte, Nat.reduceEqDiff]; clear gd sep)
    | (refine region_draw' mixed (by decide +kernel) fun gd sep hgd hsep => ?_; clear hgd hsep; (repeat (refine aops_cons fun K1 hK1 => ?_; simp (disch := first | with_reducible assumption | (simp -failIfUnchanged only [Mem.size_push, Mem.size_put, Mem.size_kill, List.length_cons, List.length_nil, List.length_append, List.length_map, List.length_take, List.length_replicate, ha.lenB] <;> omega) | (refine (id ?_ : (_ : Bool) = true); simp only [go_sem, if_true, if_false, reduceIte, reduceCtorEq, Nat.reduceAdd, Nat.reduceSub, Nat.reduceBEq, Nat.reduceLT, Nat.reduceMul, Nat.reducePow, Nat.reduceLeDiff, ha.lenB]; done) | fail "no") only [go_sem, if_true, if_false, reduceIte, reduceCtorEq, Nat.reduceAdd, Nat.reduceSub, Nat.reduceBEq, Nat.reduceLT, Nat.reduceMul, Nat.reducePow, Nat.reduceLeDiff, ha.lenB]; refine hK1 _ _ ?_; clear hK1 K1)); refine aops_nil ?_; simp only [Nx, Caught, if_true, if_false, reduceIte, Nat.reduceEqDiff]; clear gd sep)
    | (refine hK _ _ ?_; clear hK K)
    | (clear hK K)
    )
  refine awp_if rfl (fun h => ?_) (fun h => ?_)
  · repeat (first
      | (refine awp_seq fun K hK => ?_)
      | (refine awp_block ?_)
      | (refine awp_skip ?_; simp only [Nx, Caught, if_true, if_false, reduceIte, Nat.reduceEqDiff])
      | (refine awp_exit ?_; simp only [Nx, Caught, if_true, if_false, reduceIte, Nat.reduceEqDiff])
      | (refine region_seq fun gd sep hgd => ?_; clear hgd; (repeat (refine aops_cons fun K1 hK1 => ?_; simp (disch := first | with_reducible assumption | (simp -failIfUnchanged only [Mem.size_push, Mem.size_put, Mem.size_kill, List.length_cons, List.length_nil, List.length_append, List.length_map, List.length_take, List.length_replicate] <;> omega) | (refine (id ?_ : (_ : Bool) = true); simp only [go_sem, if_true, if_false, reduceIte, reduceCtorEq, Nat.reduceAdd, Nat.reduceSub, Nat.reduceBEq, Nat.reduceLT, Nat.reduceMul, Nat.reducePow, Nat.reduceLeDiff]; done) | fail "no") only [go_sem, if_true, if_false, reduceIte, reduceCtorEq, Nat.reduceAdd, Nat.reduceSub, Nat.reduceBEq, Nat.reduceLT, Nat.reduceMul, Nat.reducePow, Nat.reduceLeDiff]; refine hK1 _ _ ?_; clear hK1 K1)); refine aops_nil ?_; simp only [Nx, Caught, if_true, if_false, reduceIte, Nat.reduceEqDiff]; clear gd sep)
      | (refine region_draw' mixed (by decide +kernel) fun gd sep hgd hsep => ?_; clear hgd hsep; (repeat (refine aops_cons fun K1 hK1 => ?_; simp (disch := first | with_reducible assumption | (simp -failIfUnchanged only [Mem.size_push, Mem.size_put, Mem.size_kill, List.length_cons, List.length_nil, List.length_append, List.length_map, List.length_take, List.length_replicate] <;> omega) | (refine (id ?_ : (_ : Bool) = true); simp only [go_sem, if_true, if_false, reduceIte, reduceCtorEq, Nat.reduceAdd, Nat.reduceSub, Nat.reduceBEq, Nat.reduceLT, Nat.reduceMul, Nat.reducePow, Nat.reduceLeDiff]; done) | fail "no") only [go_sem, if_true, if_false, reduceIte, reduceCtorEq, Nat.reduceAdd, Nat.reduceSub, Nat.reduceBEq, Nat.reduceLT, Nat.reduceMul, Nat.reducePow, Nat.reduceLeDiff]; refine hK1 _ _ ?_; clear hK1 K1)); refine aops_nil ?_; simp only [Nx, Caught, if_true, if_false, reduceIte, Nat.reduceEqDiff]; clear gd sep)
      | (refine hK _ _ ?_; clear hK K)
      | (clear hK K)
      )
    refine awp_ret ?_; try simp only [Nx, Caught]
    apply ends_ret
    · simp (disch := first | with_reducible assumption | (simp -failIfUnchanged only [Mem.size_push, Mem.size_put, Mem.size_kill, List.length_cons, List.length_nil, List.length_append, List.length_map, List.length_take, List.length_replicate] <;> omega) | (refine (id ?_ : (_ : Bool) = true); simp only [go_sem, if_true, if_false, reduceIte, reduceCtorEq, Nat.reduceAdd, Nat.reduceSub, Nat.reduceBEq, Nat.reduceLT, Nat.reduceMul, Nat.reducePow, Nat.reduceLeDiff]; done) | fail "no") only [go_sem, if_true, if_false, reduceIte, reduceCtorEq, Nat.reduceAdd, Nat.reduceSub, Nat.reduceBEq, Nat.reduceLT, Nat.reduceMul, Nat.reducePow, Nat.reduceLeDiff, aress, ares1]; exact rfl
    simp only [tupled]
    simp at h
    simp [sz, h]
  · repeat (first
      | (refine awp_seq fun K hK => ?_)
      | (refine awp_block ?_)
      | (refine awp_skip ?_; simp only [Nx, Caught, if_true, if_false, reduceIte, Nat.reduceEqDiff])
      | (refine awp_exit ?_; simp only [Nx, Caught, if_true, if_false, reduceIte, Nat.reduceEqDiff])
      | (refine region_seq fun gd sep hgd => ?_; clear hgd; (repeat (refine aops_cons fun K1 hK1 => ?_; simp (disch := first | with_reducible assumption | (simp -failIfUnchanged only [Mem.size_push, Mem.size_put, Mem.size_kill, List.length_cons, List.length_nil, List.length_append, List.length_map, List.length_take, List.length_replicate] <;> omega) | (refine (id ?_ : (_ : Bool) = true); simp only [go_sem, if_true, if_false, reduceIte, reduceCtorEq, Nat.reduceAdd, Nat.reduceSub, Nat.reduceBEq, Nat.reduceLT, Nat.reduceMul, Nat.reducePow, Nat.reduceLeDiff]; done) | fail "no") only [go_sem, if_true, if_false, reduceIte, reduceCtorEq, Nat.reduceAdd, Nat.reduceSub, Nat.reduceBEq, Nat.reduceLT, Nat.reduceMul, Nat.reducePow, Nat.reduceLeDiff]; refine hK1 _ _ ?_; clear hK1 K1)); refine aops_nil ?_; simp only [Nx, Caught, if_true, if_false, reduceIte, Nat.reduceEqDiff]; clear gd sep)
      | (refine region_draw' mixed (by decide +kernel) fun gd sep hgd hsep => ?_; clear hgd hsep; (repeat (refine aops_cons fun K1 hK1 => ?_; simp (disch := first | with_reducible assumption | (simp -failIfUnchanged only [Mem.size_push, Mem.size_put, Mem.size_kill, List.length_cons, List.length_nil, List.length_append, List.length_map, List.length_take, List.length_replicate] <;> omega) | (refine (id ?_ : (_ : Bool) = true); simp only [go_sem, if_true, if_false, reduceIte, reduceCtorEq, Nat.reduceAdd, Nat.reduceSub, Nat.reduceBEq, Nat.reduceLT, Nat.reduceMul, Nat.reducePow, Nat.reduceLeDiff]; done) | fail "no") only [go_sem, if_true, if_false, reduceIte, reduceCtorEq, Nat.reduceAdd, Nat.reduceSub, Nat.reduceBEq, Nat.reduceLT, Nat.reduceMul, Nat.reducePow, Nat.reduceLeDiff]; refine hK1 _ _ ?_; clear hK1 K1)); refine aops_nil ?_; simp only [Nx, Caught, if_true, if_false, reduceIte, Nat.reduceEqDiff]; clear gd sep)
      | (refine hK _ _ ?_; clear hK K)
      | (clear hK K)
      )
    refine awp_ret ?_; try simp only [Nx, Caught]
    apply ends_ret
    · simp (disch := first | with_reducible assumption | (simp -failIfUnchanged only [Mem.size_push, Mem.size_put, Mem.size_kill, List.length_cons, List.length_nil, List.length_append, List.length_map, List.length_take, List.length_replicate] <;> omega) | (refine (id ?_ : (_ : Bool) = true); simp only [go_sem, if_true, if_false, reduceIte, reduceCtorEq, Nat.reduceAdd, Nat.reduceSub, Nat.reduceBEq, Nat.reduceLT, Nat.reduceMul, Nat.reducePow, Nat.reduceLeDiff]; done) | fail "no") only [go_sem, if_true, if_false, reduceIte, reduceCtorEq, Nat.reduceAdd, Nat.reduceSub, Nat.reduceBEq, Nat.reduceLT, Nat.reduceMul, Nat.reducePow, Nat.reduceLeDiff, aress, ares1]; exact rfl
    simp only [tupled]
    simp at h
    simp [sz]
    omega

end Go.Ab
