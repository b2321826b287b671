/-
  What is proved here: the contract of HeapValid.
-/
import Derived.Test.YtmpnapfbgfpllaaF1
namespace Go.Ab
open Go.Proofs
set_option linter.unusedSimpArgs false
set_option linter.unusedVariables false
set_option maxRecDepth 10000

structure HP where
  l : List Int
  r : List Int
  ro : List Int
def okp (n : Nat) (p : Int) : Bool := decide (-1 ≤ p) && decide (p < n)
def HP.valid (h : HP) : Bool := h.l.length == h.r.length && decide (1 ≤ h.l.length) && decide (h.l.length ≤ 8) && decide (1 ≤ h.ro.length) && decide (h.ro.length ≤ 3) && h.l.all (okp h.l.length) && h.r.all (okp h.l.length) && h.ro.all (okp h.l.length)

def RdH (m : Mem) (v : AVal) (h : HP) : Prop := ∃ a b c, v = .agg [a, b, c] ∧ RdI m a h.l ∧ RdI m b h.r ∧ RdI m c h.ro
/-- Lengths fit. -/
def HP.fit (h : HP) : Prop := h.l.length ≤ 1099511627776 ∧ h.r.length ≤ 1099511627776 ∧ h.ro.length ≤ 1099511627776

theorem all_okp {n : Nat} {xs : List Int} {k : Nat} (h : ∀ i, i < k → okp n (xs.getD i 0) = true) (hk : k = xs.length) : xs.all (okp n) = true := by
  rw [List.all_eq_true]
  intro x hx
  obtain ⟨i, hi, rfl⟩ := List.getElem_of_mem hx
  have := h i (by omega)
  rwa [List.getD_eq_getElem?_getD, List.getElem?_eq_getElem hi] at this
theorem not_all_okp {n : Nat} {xs : List Int} {k : Nat} (hk : k < xs.length) (h : okp n (xs.getD k 0) = false) : xs.all (okp n) = false := by
  rw [List.all_eq_false]
  refine ⟨xs[k], List.getElem_mem hk, ?_⟩
  rw [List.getD_eq_getElem?_getD, List.getElem?_eq_getElem hk] at h
  simp only [Option.getD_some] at h
  simp [h]

theorem HeapValid_c {m : Mem} {v : AVal} {h : HP} (hv : RdH m v h) (hf : h.fit) :
    ∃ x m', (x = .bool h.valid) ∧ DCalls PP m.size 34 [v] m x m' := by
  obtain ⟨a, b, c, rfl, ha, hb, hc⟩ := hv
  obtain ⟨f1, f2, f3⟩ := hf
  have e1 := Ext.push m [a, b, c]
  have ha := ha.ext e1
  have hb := hb.ext e1
  have hc := hc.ext e1
  refine enter Try.func34 (by decide) rfl Try.ntmps34 Try.results34 ?_
  refine awp_seq fun K hK => ?_
  refine region_seq fun gd sep hgd => ?_
  clear hgd
  (repeat (refine aops_cons fun K1 hK1 => ?_; simp (disch := first | with_reducible assumption | (simp -failIfUnchanged only [Mem.size_push, Mem.size_put, Mem.size_kill, List.length_cons, List.length_nil, List.length_append, List.length_map, List.length_take, List.length_replicate] <;> omega) | (refine (id ?_ : (_ : Bool) = true); simp only [go_sem, if_true, if_false, reduceIte, reduceCtorEq, Nat.reduceAdd, Nat.reduceSub, Nat.reduceBEq, Nat.reduceLT, Nat.reduceMul, Nat.reducePow, Nat.reduceLeDiff]; done) | fail "no") only [go_sem, if_true, if_false, reduceIte, reduceCtorEq, Nat.reduceAdd, Nat.reduceSub, Nat.reduceBEq, Nat.reduceLT, Nat.reduceMul, Nat.reducePow, Nat.reduceLeDiff]; refine hK1 _ _ ?_; clear hK1 K1))
  refine aops_nil ?_; simp only [Nx, Caught, if_true, if_false, reduceIte, Nat.reduceEqDiff]
  clear gd sep
  refine hK _ _ ?_; clear hK K
  refine awp_seq fun K hK => ?_
  refine awp_seq fun K hK => ?_
  cases h1 : ((h.l.length : Int) != h.r.length)
  case true =>
    refine region_seq fun gd sep hgd => ?_
    have g7 : gd 7 = some 14 := hgd 7; have g13 : gd 13 = some 20 := hgd 13; have g19 : gd 19 = some 26 := hgd 19; have g25 : gd 25 = some 32 := hgd 25; clear hgd
    (repeat (refine aops_cons fun K1 hK1 => ?_; simp (disch := first | with_reducible assumption | (simp -failIfUnchanged only [Mem.size_push, Mem.size_put, Mem.size_kill, List.length_cons, List.length_nil, List.length_append, List.length_map, List.length_take, List.length_replicate, ha.lenI, hb.lenI, hc.lenI, h1, g7, g13, g19, g25] <;> omega) | (refine (id ?_ : (_ : Bool) = true); simp only [go_sem, if_true, if_false, reduceIte, reduceCtorEq, Nat.reduceAdd, Nat.reduceSub, Nat.reduceBEq, Nat.reduceLT, Nat.reduceMul, Nat.reducePow, Nat.reduceLeDiff, ha.lenI, hb.lenI, hc.lenI, h1, g7, g13, g19, g25]; done) | fail "no") only [go_sem, if_true, if_false, reduceIte, reduceCtorEq, Nat.reduceAdd, Nat.reduceSub, Nat.reduceBEq, Nat.reduceLT, Nat.reduceMul, Nat.reducePow, Nat.reduceLeDiff, ha.lenI, hb.lenI, hc.lenI, h1, g7, g13, g19, g25]; refine hK1 _ _ ?_; clear hK1 K1))
    refine aops_nil ?_; simp only [Nx, Caught, if_true, if_false, reduceIte, Nat.reduceEqDiff]
    clear g7 g13 g19 g25 gd sep
    refine hK _ _ ?_; clear hK K
    refine awp_cond (t := true) rfl ?_
    repeat (first
      | (refine awp_seq fun K hK => ?_)
      | (refine awp_block ?_)
      | (refine awp_skip ?_; simp only [Nx, Caught, if_true, if_false, reduceIte, Nat.reduceEqDiff])
      | (refine awp_exit ?_; simp only [Nx, Caught, if_true, if_false, reduceIte, Nat.reduceEqDiff])
      | (refine region_seq fun gd sep hgd => ?_; clear hgd; (repeat (refine aops_cons fun K1 hK1 => ?_; simp (disch := first | with_reducible assumption | (simp -failIfUnchanged only [Mem.size_push, Mem.size_put, Mem.size_kill, List.length_cons, List.length_nil, List.length_append, List.length_map, List.length_take, List.length_replicate] <;> omega) | (refine (id ?_ : (_ : Bool) = true); simp only [go_sem, if_true, if_false, reduceIte, reduceCtorEq, Nat.reduceAdd, Nat.reduceSub, Nat.reduceBEq, Nat.reduceLT, Nat.reduceMul, Nat.reducePow, Nat.reduceLeDiff]; done) | fail "no") only [go_sem, if_true, if_false, reduceIte, reduceCtorEq, Nat.reduceAdd, Nat.reduceSub, Nat.reduceBEq, Nat.reduceLT, Nat.reduceMul, Nat.reducePow, Nat.reduceLeDiff]; refine hK1 _ _ ?_; clear hK1 K1)); refine aops_nil ?_; simp only [Nx, Caught, if_true, if_false, reduceIte, Nat.reduceEqDiff]; clear gd sep)
      | (refine region_draw' mixed (by decide +kernel) fun gd sep hgd hsep => ?_; clear hgd hsep; (repeat (refine aops_cons fun K1 hK1 => ?_; simp (disch := first | with_reducible assumption | (simp -failIfUnchanged only [Mem.size_push, Mem.size_put, Mem.size_kill, List.length_cons, List.length_nil, List.length_append, List.length_map, List.length_take, List.length_replicate] <;> omega) | (refine (id ?_ : (_ : Bool) = true); simp only [go_sem, if_true, if_false, reduceIte, reduceCtorEq, Nat.reduceAdd, Nat.reduceSub, Nat.reduceBEq, Nat.reduceLT, Nat.reduceMul, Nat.reducePow, Nat.reduceLeDiff]; done) | fail "no") only [go_sem, if_true, if_false, reduceIte, reduceCtorEq, Nat.reduceAdd, Nat.reduceSub, Nat.reduceBEq, Nat.reduceLT, Nat.reduceMul, Nat.reducePow, Nat.reduceLeDiff]; refine hK1 _ _ ?_; clear hK1 K1)); refine aops_nil ?_; simp only [Nx, Caught, if_true, if_false, reduceIte, Nat.reduceEqDiff]; clear gd sep)
      | (refine hK _ _ ?_; clear hK K)
      | (clear hK K)
      )
    refine awp_ret ?_; try simp only [Nx, Caught]
    apply ends_ret
    · simp (disch := first | with_reducible assumption | (simp -failIfUnchanged only [Mem.size_push, Mem.size_put, Mem.size_kill, List.length_cons, List.length_nil, List.length_append, List.length_map, List.length_take, List.length_replicate] <;> omega) | (refine (id ?_ : (_ : Bool) = true); simp only [go_sem, if_true, if_false, reduceIte, reduceCtorEq, Nat.reduceAdd, Nat.reduceSub, Nat.reduceBEq, Nat.reduceLT, Nat.reduceMul, Nat.reducePow, Nat.reduceLeDiff]; done) | fail "no") only [go_sem, if_true, if_false, reduceIte, reduceCtorEq, Nat.reduceAdd, Nat.reduceSub, Nat.reduceBEq, Nat.reduceLT, Nat.reduceMul, Nat.reducePow, Nat.reduceLeDiff, aress, ares1]; exact rfl
    simp only [tupled]
    simp [HP.valid]
    simp at h1
    omega
  cases h2 : decide ((h.l.length : Int) < 1)
  case true =>
    refine region_seq fun gd sep hgd => ?_
    have g7 : gd 7 = some 14 := hgd 7; have g13 : gd 13 = some 20 := hgd 13; have g19 : gd 19 = some 26 := hgd 19; have g25 : gd 25 = some 32 := hgd 25; clear hgd
    (repeat (refine aops_cons fun K1 hK1 => ?_; simp (disch := first | with_reducible assumption | (simp -failIfUnchanged only [Mem.size_push, Mem.size_put, Mem.size_kill, List.length_cons, List.length_nil, List.length_append, List.length_map, List.length_take, List.length_replicate, ha.lenI, hb.lenI, hc.lenI, h1, h2, g7, g13, g19, g25] <;> omega) | (refine (id ?_ : (_ : Bool) = true); simp only [go_sem, if_true, if_false, reduceIte, reduceCtorEq, Nat.reduceAdd, Nat.reduceSub, Nat.reduceBEq, Nat.reduceLT, Nat.reduceMul, Nat.reducePow, Nat.reduceLeDiff, ha.lenI, hb.lenI, hc.lenI, h1, h2, g7, g13, g19, g25]; done) | fail "no") only [go_sem, if_true, if_false, reduceIte, reduceCtorEq, Nat.reduceAdd, Nat.reduceSub, Nat.reduceBEq, Nat.reduceLT, Nat.reduceMul, Nat.reducePow, Nat.reduceLeDiff, ha.lenI, hb.lenI, hc.lenI, h1, h2, g7, g13, g19, g25]; refine hK1 _ _ ?_; clear hK1 K1))
    refine aops_nil ?_; simp only [Nx, Caught, if_true, if_false, reduceIte, Nat.reduceEqDiff]
    clear g7 g13 g19 g25 gd sep
    refine hK _ _ ?_; clear hK K
    refine awp_cond (t := true) rfl ?_
    repeat (first
      | (refine awp_seq fun K hK => ?_)
      | (refine awp_block ?_)
      | (refine awp_skip ?_; simp only [Nx, Caught, if_true, if_false, reduceIte, Nat.reduceEqDiff])
      | (refine awp_exit ?_; simp only [Nx, Caught, if_true, if_false, reduceIte, Nat.reduceEqDiff])
      | (refine region_seq fun gd sep hgd => ?_; clear hgd; (repeat (refine aops_cons fun K1 hK1 => ?_; simp (disch := first | with_reducible assumption | (simp -failIfUnchanged only [Mem.size_push, Mem.size_put, Mem.size_kill, List.length_cons, List.length_nil, List.length_append, List.length_map, List.length_take, List.length_replicate] <;> omega) | (refine (id ?_ : (_ : Bool) = true); simp only [go_sem, if_true, if_false, reduceIte, reduceCtorEq, Nat.reduceAdd, Nat.reduceSub, Nat.reduceBEq, Nat.reduceLT, Nat.reduceMul, Nat.reducePow, Nat.reduceLeDiff]; done) | fail "no") only [go_sem, if_true, if_false, reduceIte, reduceCtorEq, Nat.reduceAdd, Nat.reduceSub, Nat.reduceBEq, Nat.reduceLT, Nat.reduceMul, Nat.reducePow, Nat.reduceLeDiff]; refine hK1 _ _ ?_; clear hK1 K1)); refine aops_nil ?_; simp only [Nx, Caught, if_true, if_false, reduceIte, Nat.reduceEqDiff]; clear gd sep)
      | (refine region_draw' mixed (by decide +kernel) fun gd sep hgd hsep => ?_; clear hgd hsep; (repeat (refine aops_cons fun K1 hK1 => ?_; simp (disch := first | with_reducible assumption | (simp -failIfUnchanged only [Mem.size_push, Mem.size_put, Mem.size_kill, List.length_cons, List.length_nil, List.length_append, List.length_map, List.length_take, List.length_replicate] <;> omega) | (refine (id ?_ : (_ : Bool) = true); simp only [go_sem, if_true, if_false, reduceIte, reduceCtorEq, Nat.reduceAdd, Nat.reduceSub, Nat.reduceBEq, Nat.reduceLT, Nat.reduceMul, Nat.reducePow, Nat.reduceLeDiff]; done) | fail "no") only [go_sem, if_true, if_false, reduceIte, reduceCtorEq, Nat.reduceAdd, Nat.reduceSub, Nat.reduceBEq, Nat.reduceLT, Nat.reduceMul, Nat.reducePow, Nat.reduceLeDiff]; refine hK1 _ _ ?_; clear hK1 K1)); refine aops_nil ?_; simp only [Nx, Caught, if_true, if_false, reduceIte, Nat.reduceEqDiff]; clear gd sep)
      | (refine hK _ _ ?_; clear hK K)
      | (clear hK K)
      )
    refine awp_ret ?_; try simp only [Nx, Caught]
    apply ends_ret
    · simp (disch := first | with_reducible assumption | (simp -failIfUnchanged only [Mem.size_push, Mem.size_put, Mem.size_kill, List.length_cons, List.length_nil, List.length_append, List.length_map, List.length_take, List.length_replicate] <;> omega) | (refine (id ?_ : (_ : Bool) = true); simp only [go_sem, if_true, if_false, reduceIte, reduceCtorEq, Nat.reduceAdd, Nat.reduceSub, Nat.reduceBEq, Nat.reduceLT, Nat.reduceMul, Nat.reducePow, Nat.reduceLeDiff]; done) | fail "no") only [go_sem, if_true, if_false, reduceIte, reduceCtorEq, Nat.reduceAdd, Nat.reduceSub, Nat.reduceBEq, Nat.reduceLT, Nat.reduceMul, Nat.reducePow, Nat.reduceLeDiff, aress, ares1]; exact rfl
    simp only [tupled]
    simp [HP.valid]
    simp at h1 h2
    omega
  cases h3 : decide ((h.l.length : Int) > 8)
  case true =>
    refine region_seq fun gd sep hgd => ?_
    have g7 : gd 7 = some 14 := hgd 7; have g13 : gd 13 = some 20 := hgd 13; have g19 : gd 19 = some 26 := hgd 19; have g25 : gd 25 = some 32 := hgd 25; clear hgd
    (repeat (refine aops_cons fun K1 hK1 => ?_; simp (disch := first | with_reducible assumption | (simp -failIfUnchanged only [Mem.size_push, Mem.size_put, Mem.size_kill, List.length_cons, List.length_nil, List.length_append, List.length_map, List.length_take, List.length_replicate, ha.lenI, hb.lenI, hc.lenI, h1, h2, h3, g7, g13, g19, g25] <;> omega) | (refine (id ?_ : (_ : Bool) = true); simp only [go_sem, if_true, if_false, reduceIte, reduceCtorEq, Nat.reduceAdd, Nat.reduceSub, Nat.reduceBEq, Nat.reduceLT, Nat.reduceMul, Nat.reducePow, Nat.reduceLeDiff, ha.lenI, hb.lenI, hc.lenI, h1, h2, h3, g7, g13, g19, g25]; done) | fail "no") only [go_sem, if_true, if_false, reduceIte, reduceCtorEq, Nat.reduceAdd, Nat.reduceSub, Nat.reduceBEq, Nat.reduceLT, Nat.reduceMul, Nat.reducePow, Nat.reduceLeDiff, ha.lenI, hb.lenI, hc.lenI, h1, h2, h3, g7, g13, g19, g25]; refine hK1 _ _ ?_; clear hK1 K1))
    refine aops_nil ?_; simp only [Nx, Caught, if_true, if_false, reduceIte, Nat.reduceEqDiff]
    clear g7 g13 g19 g25 gd sep
    refine hK _ _ ?_; clear hK K
    refine awp_cond (t := true) rfl ?_
    repeat (first
      | (refine awp_seq fun K hK => ?_)
      | (refine awp_block ?_)
      | (refine awp_skip ?_; simp only [Nx, Caught, if_true, if_false, reduceIte, Nat.reduceEqDiff])
      | (refine awp_exit ?_; simp only [Nx, Caught, if_true, if_false, reduceIte, Nat.reduceEqDiff])
      | (refine region_seq fun gd sep hgd => ?_; clear hgd; (repeat (refine aops_cons fun K1 hK1 => ?_; simp (disch := first | with_reducible assumption | (simp -failIfUnchanged only [Mem.size_push, Mem.size_put, Mem.size_kill, List.length_cons, List.length_nil, List.length_append, List.length_map, List.length_take, List.length_replicate] <;> omega) | (refine (id ?_ : (_ : Bool) = true); simp only [go_sem, if_true, if_false, reduceIte, reduceCtorEq, Nat.reduceAdd, Nat.reduceSub, Nat.reduceBEq, Nat.reduceLT, Nat.reduceMul, Nat.reducePow, Nat.reduceLeDiff]; done) | fail "no") only [go_sem, if_true, if_false, reduceIte, reduceCtorEq, Nat.reduceAdd, Nat.reduceSub, Nat.reduceBEq, Nat.reduceLT, Nat.reduceMul, Nat.reducePow, Nat.reduceLeDiff]; refine hK1 _ _ ?_; clear hK1 K1)); refine aops_nil ?_; simp only [Nx, Caught, if_true, if_false, reduceIte, Nat.reduceEqDiff]; clear gd sep)
      | (refine region_draw' mixed (by decide +kernel) fun gd sep hgd hsep => ?_; clear hgd hsep; (repeat (refine aops_cons fun K1 hK1 => ?_; simp (disch := first | with_reducible assumption | (simp -failIfUnchanged only [Mem.size_push, Mem.size_put, Mem.size_kill, List.length_cons, List.length_nil, List.length_append, List.length_map, List.length_take, List.length_replicate] <;> omega) | (refine (id ?_ : (_ : Bool) = true); simp only [go_sem, if_true, if_false, reduceIte, reduceCtorEq, Nat.reduceAdd, Nat.reduceSub, Nat.reduceBEq, Nat.reduceLT, Nat.reduceMul, Nat.reducePow, Nat.reduceLeDiff]; done) | fail "no") only [go_sem, if_true, if_false, reduceIte, reduceCtorEq, Nat.reduceAdd, Nat.reduceSub, Nat.reduceBEq, Nat.reduceLT, Nat.reduceMul, Nat.reducePow, Nat.reduceLeDiff]; refine hK1 _ _ ?_; clear hK1 K1)); refine aops_nil ?_; simp only [Nx, Caught, if_true, if_false, reduceIte, Nat.reduceEqDiff]; clear gd sep)
      | (refine hK _ _ ?_; clear hK K)
      | (clear hK K)
      )
    refine awp_ret ?_; try simp only [Nx, Caught]
    apply ends_ret
    · simp (disch := first | with_reducible assumption | (simp -failIfUnchanged only [Mem.size_push, Mem.size_put, Mem.size_kill, List.length_cons, List.length_nil, List.length_append, List.length_map, List.length_take, List.length_replicate] <;> omega) | (refine (id ?_ : (_ : Bool) = true); simp only [go_sem, if_true, if_false, reduceIte, reduceCtorEq, Nat.reduceAdd, Nat.reduceSub, Nat.reduceBEq, Nat.reduceLT, Nat.reduceMul, Nat.reducePow, Nat.reduceLeDiff]; done) | fail "no") only [go_sem, if_true, if_false, reduceIte, reduceCtorEq, Nat.reduceAdd, Nat.reduceSub, Nat.reduceBEq, Nat.reduceLT, Nat.reduceMul, Nat.reducePow, Nat.reduceLeDiff, aress, ares1]; exact rfl
    simp only [tupled]
    simp [HP.valid]
    simp at h1 h2 h3
    omega
  cases h4 : decide ((h.ro.length : Int) < 1)
  case true =>
    refine region_seq fun gd sep hgd => ?_
    have g7 : gd 7 = some 14 := hgd 7; have g13 : gd 13 = some 20 := hgd 13; have g19 : gd 19 = some 26 := hgd 19; have g25 : gd 25 = some 32 := hgd 25; clear hgd
    (repeat (refine aops_cons fun K1 hK1 => ?_; simp (disch := first | with_reducible assumption | (simp -failIfUnchanged only [Mem.size_push, Mem.size_put, Mem.size_kill, List.length_cons, List.length_nil, List.length_append, List.length_map, List.length_take, List.length_replicate, ha.lenI, hb.lenI, hc.lenI, h1, h2, h3, h4, g7, g13, g19, g25] <;> omega) | (refine (id ?_ : (_ : Bool) = true); simp only [go_sem, if_true, if_false, reduceIte, reduceCtorEq, Nat.reduceAdd, Nat.reduceSub, Nat.reduceBEq, Nat.reduceLT, Nat.reduceMul, Nat.reducePow, Nat.reduceLeDiff, ha.lenI, hb.lenI, hc.lenI, h1, h2, h3, h4, g7, g13, g19, g25]; done) | fail "no") only [go_sem, if_true, if_false, reduceIte, reduceCtorEq, Nat.reduceAdd, Nat.reduceSub, Nat.reduceBEq, Nat.reduceLT, Nat.reduceMul, Nat.reducePow, Nat.reduceLeDiff, ha.lenI, hb.lenI, hc.lenI, h1, h2, h3, h4, g7, g13, g19, g25]; refine hK1 _ _ ?_; clear hK1 K1))
    refine aops_nil ?_; simp only [Nx, Caught, if_true, if_false, reduceIte, Nat.reduceEqDiff]
    clear g7 g13 g19 g25 gd sep
    refine hK _ _ ?_; clear hK K
    refine awp_cond (t := true) rfl ?_
    repeat (first
      | (refine awp_seq fun K hK => ?_)
      | (refine awp_block ?_)
      | (refine awp_skip ?_; simp only [Nx, Caught, if_true, if_false, reduceIte, Nat.reduceEqDiff])
      | (refine awp_exit ?_; simp only [Nx, Caught, if_true, if_false, reduceIte, Nat.reduceEqDiff])
      | (refine region_seq fun gd sep hgd => ?_; clear hgd; (repeat (refine aops_cons fun K1 hK1 => ?_; simp (disch := first | with_reducible assumption | (simp -failIfUnchanged only [Mem.size_push, Mem.size_put, Mem.size_kill, List.length_cons, List.length_nil, List.length_append, List.length_map, List.length_take, List.length_replicate] <;> omega) | (refine (id ?_ : (_ : Bool) = true); simp only [go_sem, if_true, if_false, reduceIte, reduceCtorEq, Nat.reduceAdd, Nat.reduceSub, Nat.reduceBEq, Nat.reduceLT, Nat.reduceMul, Nat.reducePow, Nat.reduceLeDiff]; done) | fail "no") only [go_sem, if_true, if_false, reduceIte, reduceCtorEq, Nat.reduceAdd, Nat.reduceSub, Nat.reduceBEq, Nat.reduceLT, Nat.reduceMul, Nat.reducePow, Nat.reduceLeDiff]; refine hK1 _ _ ?_; clear hK1 K1)); refine aops_nil ?_; simp only [Nx, Caught, if_true, if_false, reduceIte, Nat.reduceEqDiff]; clear gd sep)
      | (refine region_draw' mixed (by decide +kernel) fun gd sep hgd hsep => ?_; clear hgd hsep; (repeat (refine aops_cons fun K1 hK1 => ?_; simp (disch := first | with_reducible assumption | (simp -failIfUnchanged only [Mem.size_push, Mem.size_put, Mem.size_kill, List.length_cons, List.length_nil, List.length_append, List.length_map, List.length_take, List.length_replicate] <;> omega) | (refine (id ?_ : (_ : Bool) = true); simp only [go_sem, if_true, if_false, reduceIte, reduceCtorEq, Nat.reduceAdd, Nat.reduceSub, Nat.reduceBEq, Nat.reduceLT, Nat.reduceMul, Nat.reducePow, Nat.reduceLeDiff]; done) | fail "no") only [go_sem, if_true, if_false, reduceIte, reduceCtorEq, Nat.reduceAdd, Nat.reduceSub, Nat.reduceBEq, Nat.reduceLT, Nat.reduceMul, Nat.reducePow, Nat.reduceLeDiff]; refine hK1 _ _ ?_; clear hK1 K1)); refine aops_nil ?_; simp only [Nx, Caught, if_true, if_false, reduceIte, Nat.reduceEqDiff]; clear gd sep)
      | (refine hK _ _ ?_; clear hK K)
      | (clear hK K)
      )
    refine awp_ret ?_; try simp only [Nx, Caught]
    apply ends_ret
    · simp (disch := first | with_reducible assumption | (simp -failIfUnchanged only [Mem.size_push, Mem.size_put, Mem.size_kill, List.length_cons, List.length_nil, List.length_append, List.length_map, List.length_take, List.length_replicate] <;> omega) | (refine (id ?_ : (_ : Bool) = true); simp only [go_sem, if_true, if_false, reduceIte, reduceCtorEq, Nat.reduceAdd, Nat.reduceSub, Nat.reduceBEq, Nat.reduceLT, Nat.reduceMul, Nat.reducePow, Nat.reduceLeDiff]; done) | fail "no") only [go_sem, if_true, if_false, reduceIte, reduceCtorEq, Nat.reduceAdd, Nat.reduceSub, Nat.reduceBEq, Nat.reduceLT, Nat.reduceMul, Nat.reducePow, Nat.reduceLeDiff, aress, ares1]; exact rfl
    simp only [tupled]
    simp [HP.valid]
    simp at h1 h2 h3 h4
    omega
  cases h5 : decide ((h.ro.length : Int) > 3)
  case true =>
    refine region_seq fun gd sep hgd => ?_
    have g7 : gd 7 = some 14 := hgd 7; have g13 : gd 13 = some 20 := hgd 13; have g19 : gd 19 = some 26 := hgd 19; have g25 : gd 25 = some 32 := hgd 25; clear hgd
    (repeat (refine aops_cons fun K1 hK1 => ?_; simp (disch := first | with_reducible assumption | (simp -failIfUnchanged only [Mem.size_push, Mem.size_put, Mem.size_kill, List.length_cons, List.length_nil, List.length_append, List.length_map, List.length_take, List.length_replicate, ha.lenI, hb.lenI, hc.lenI, h1, h2, h3, h4, h5, g7, g13, g19, g25] <;> omega) | (refine (id ?_ : (_ : Bool) = true); simp only [go_sem, if_true, if_false, reduceIte, reduceCtorEq, Nat.reduceAdd, Nat.reduceSub, Nat.reduceBEq, Nat.reduceLT, Nat.reduceMul, Nat.reducePow, Nat.reduceLeDiff, ha.lenI, hb.lenI, hc.lenI, h1, h2, h3, h4, h5, g7, g13, g19, g25]; done) | fail "no") only [go_sem, if_true, if_false, reduceIte, reduceCtorEq, Nat.reduceAdd, Nat.reduceSub, Nat.reduceBEq, Nat.reduceLT, Nat.reduceMul, Nat.reducePow, Nat.reduceLeDiff, ha.lenI, hb.lenI, hc.lenI, h1, h2, h3, h4, h5, g7, g13, g19, g25]; refine hK1 _ _ ?_; clear hK1 K1))
    refine aops_nil ?_; simp only [Nx, Caught, if_true, if_false, reduceIte, Nat.reduceEqDiff]
    clear g7 g13 g19 g25 gd sep
    refine hK _ _ ?_; clear hK K
    refine awp_cond (t := true) rfl ?_
    repeat (first
      | (refine awp_seq fun K hK => ?_)
      | (refine awp_block ?_)
      | (refine awp_skip ?_; simp only [Nx, Caught, if_true, if_false, reduceIte, Nat.reduceEqDiff])
      | (refine awp_exit ?_; simp only [Nx, Caught, if_true, if_false, reduceIte, Nat.reduceEqDiff])
      | (refine region_seq fun gd sep hgd => ?_; clear hgd; (repeat (refine aops_cons fun K1 hK1 => ?_; simp (disch := first | with_reducible assumption | (simp -failIfUnchanged only [Mem.size_push, Mem.size_put, Mem.size_kill, List.length_cons, List.length_nil, List.length_append, List.length_map, List.length_take, List.length_replicate] <;> omega) | (refine (id ?_ : (_ : Bool) = true); simp only [go_sem, if_true, if_false, reduceIte, reduceCtorEq, Nat.reduceAdd, Nat.reduceSub, Nat.reduceBEq, Nat.reduceLT, Nat.reduceMul, Nat.reducePow, Nat.reduceLeDiff]; done) | fail "no") only [go_sem, if_true, if_false, reduceIte, reduceCtorEq, Nat.reduceAdd, Nat.reduceSub, Nat.reduceBEq, Nat.reduceLT, Nat.reduceMul, Nat.reducePow, Nat.reduceLeDiff]; refine hK1 _ _ ?_; clear hK1 K1)); refine aops_nil ?_; simp only [Nx, Caught, if_true, if_false, reduceIte, Nat.reduceEqDiff]; clear gd sep)
      | (refine region_draw' mixed (by decide +kernel) fun gd sep hgd hsep => ?_; clear hgd hsep; (repeat (refine aops_cons fun K1 hK1 => ?_; simp (disch := first | with_reducible assumption | (simp -failIfUnchanged only [Mem.size_push, Mem.size_put, Mem.size_kill, List.length_cons, List.length_nil, List.length_append, List.length_map, List.length_take, List.length_replicate] <;> omega) | (refine (id ?_ : (_ : Bool) = true); simp only [go_sem, if_true, if_false, reduceIte, reduceCtorEq, Nat.reduceAdd, Nat.reduceSub, Nat.reduceBEq, Nat.reduceLT, Nat.reduceMul, Nat.reducePow, Nat.reduceLeDiff]; done) | fail "no") only [go_sem, if_true, if_false, reduceIte, reduceCtorEq, Nat.reduceAdd, Nat.reduceSub, Nat.reduceBEq, Nat.reduceLT, Nat.reduceMul, Nat.reducePow, Nat.reduceLeDiff]; refine hK1 _ _ ?_; clear hK1 K1)); refine aops_nil ?_; simp only [Nx, Caught, if_true, if_false, reduceIte, Nat.reduceEqDiff]; clear gd sep)
      | (refine hK _ _ ?_; clear hK K)
      | (clear hK K)
      )
    refine awp_ret ?_; try simp only [Nx, Caught]
    apply ends_ret
    · simp (disch := first | with_reducible assumption | (simp -failIfUnchanged only [Mem.size_push, Mem.size_put, Mem.size_kill, List.length_cons, List.length_nil, List.length_append, List.length_map, List.length_take, List.length_replicate] <;> omega) | (refine (id ?_ : (_ : Bool) = true); simp only [go_sem, if_true, if_false, reduceIte, reduceCtorEq, Nat.reduceAdd, Nat.reduceSub, Nat.reduceBEq, Nat.reduceLT, Nat.reduceMul, Nat.reducePow, Nat.reduceLeDiff]; done) | fail "no") only [go_sem, if_true, if_false, reduceIte, reduceCtorEq, Nat.reduceAdd, Nat.reduceSub, Nat.reduceBEq, Nat.reduceLT, Nat.reduceMul, Nat.reducePow, Nat.reduceLeDiff, aress, ares1]; exact rfl
    simp only [tupled]
    simp [HP.valid]
    simp at h1 h2 h3 h4 h5
    omega
  refine region_seq fun gd sep hgd => ?_
  have g7 : gd 7 = some 14 := hgd 7; have g13 : gd 13 = some 20 := hgd 13; have g19 : gd 19 = some 26 := hgd 19; have g25 : gd 25 = some 32 := hgd 25; clear hgd
  (repeat (refine aops_cons fun K1 hK1 => ?_; simp (disch := first | with_reducible assumption | (simp -failIfUnchanged only [Mem.size_push, Mem.size_put, Mem.size_kill, List.length_cons, List.length_nil, List.length_append, List.length_map, List.length_take, List.length_replicate, ha.lenI, hb.lenI, hc.lenI, h1, h2, h3, h4, h5, g7, g13, g19, g25] <;> omega) | (refine (id ?_ : (_ : Bool) = true); simp only [go_sem, if_true, if_false, reduceIte, reduceCtorEq, Nat.reduceAdd, Nat.reduceSub, Nat.reduceBEq, Nat.reduceLT, Nat.reduceMul, Nat.reducePow, Nat.reduceLeDiff, ha.lenI, hb.lenI, hc.lenI, h1, h2, h3, h4, h5, g7, g13, g19, g25]; done) | fail "no") only [go_sem, if_true, if_false, reduceIte, reduceCtorEq, Nat.reduceAdd, Nat.reduceSub, Nat.reduceBEq, Nat.reduceLT, Nat.reduceMul, Nat.reducePow, Nat.reduceLeDiff, ha.lenI, hb.lenI, hc.lenI, h1, h2, h3, h4, h5, g7, g13, g19, g25]; refine hK1 _ _ ?_; clear hK1 K1))
  refine aops_nil ?_; simp only [Nx, Caught, if_true, if_false, reduceIte, Nat.reduceEqDiff]
  clear g7 g13 g19 g25 gd sep
  refine hK _ _ ?_; clear hK K
  refine awp_cond (t := false) rfl ?_
  repeat (first
    | (refine awp_seq fun K hK => ?_)
    | (refine awp_block ?_)
    | (refine awp_skip ?_; simp only [Nx, Caught, if_true, if_false, reduceIte, Nat.reduceEqDiff])
    | (refine awp_exit ?_; simp only [Nx, Caught, if_true, if_false, reduceIte, Nat.reduceEqDiff])
    | (refine region_seq fun gd sep hgd => ?_; clear hgd; (repeat (refine aops_cons fun K1 hK1 => ?_; simp (disch := first | with_reducible assumption | (simp -failIfUnchanged only [Mem.size_push, Mem.size_put, Mem.size_kill, List.length_cons, List.length_nil, List.length_append, List.length_map, List.length_take, List.length_replicate, ha.fits, hb.fits, hc.fits, ha.cells, hb.cells, hc.cells] <;> omega) | (refine (id ?_ : (_ : Bool) = true); simp only [go_sem, if_true, if_false, reduceIte, reduceCtorEq, Nat.reduceAdd, Nat.reduceSub, Nat.reduceBEq, Nat.reduceLT, Nat.reduceMul, Nat.reducePow, Nat.reduceLeDiff, ha.fits, hb.fits, hc.fits, ha.cells, hb.cells, hc.cells]; done) | fail "no") only [go_sem, if_true, if_false, reduceIte, reduceCtorEq, Nat.reduceAdd, Nat.reduceSub, Nat.reduceBEq, Nat.reduceLT, Nat.reduceMul, Nat.reducePow, Nat.reduceLeDiff, ha.fits, hb.fits, hc.fits, ha.cells, hb.cells, hc.cells]; refine hK1 _ _ ?_; clear hK1 K1)); refine aops_nil ?_; simp only [Nx, Caught, if_true, if_false, reduceIte, Nat.reduceEqDiff]; clear gd sep)
    | (refine region_draw' mixed (by decide +kernel) fun gd sep hgd hsep => ?_; clear hgd hsep; (repeat (refine aops_cons fun K1 hK1 => ?_; simp (disch := first | with_reducible assumption | (simp -failIfUnchanged only [Mem.size_push, Mem.size_put, Mem.size_kill, List.length_cons, List.length_nil, List.length_append, List.length_map, List.length_take, List.length_replicate, ha.fits, hb.fits, hc.fits, ha.cells, hb.cells, hc.cells] <;> omega) | (refine (id ?_ : (_ : Bool) = true); simp only [go_sem, if_true, if_false, reduceIte, reduceCtorEq, Nat.reduceAdd, Nat.reduceSub, Nat.reduceBEq, Nat.reduceLT, Nat.reduceMul, Nat.reducePow, Nat.reduceLeDiff, ha.fits, hb.fits, hc.fits, ha.cells, hb.cells, hc.cells]; done) | fail "no") only [go_sem, if_true, if_false, reduceIte, reduceCtorEq, Nat.reduceAdd, Nat.reduceSub, Nat.reduceBEq, Nat.reduceLT, Nat.reduceMul, Nat.reducePow, Nat.reduceLeDiff, ha.fits, hb.fits, hc.fits, ha.cells, hb.cells, hc.cells]; refine hK1 _ _ ?_; clear hK1 K1)); refine aops_nil ?_; simp only [Nx, Caught, if_true, if_false, reduceIte, Nat.reduceEqDiff]; clear gd sep)
    | (refine hK _ _ ?_; clear hK K)
    | (clear hK K)
    )
  have e2 := Ext.push (m.push [a, b, c]) [a, b, c]
  have ha2 := ha.ext e2
  have hsel : ∀ j : Nat, j < 3 → ∃ v xs, [a, b, c][j]? = some v ∧ [h.l, h.r, h.ro][j]? = some xs ∧ RdI ((m.push [a, b, c]).push [a, b, c]) v xs ∧ xs.length ≤ 1099511627776 := by
    intro j hj
    match j, hj with
    | 0, _ => exact ⟨a, h.l, rfl, rfl, ha.ext e2, f1⟩
    | 1, _ => exact ⟨b, h.r, rfl, rfl, hb.ext e2, f2⟩
    | 2, _ => exact ⟨c, h.ro, rfl, rfl, hc.ext e2, f3⟩
  refine awp_loop (fun n ts m' => ∃ j : Nat, n = 3 - j ∧ j ≤ 3 ∧ ts 1 = .ptr (some (m.size, 0)) ∧ ts 44 = .sl (m.size + 1) 0 3 (some 3) 1 ∧ ts 45 = .int .i64 3 ∧ ts 46 = .int .i64 j ∧ m' = (m.push [a, b, c]).push [a, b, c] ∧
    ∀ i, i < j → ([h.l, h.r, h.ro].getD i []).all (okp h.l.length) = true) 3 ⟨0, rfl, by omega, rfl, rfl, rfl, rfl, rfl, fun i hi => by omega⟩ ?_
  rintro n ts _ ⟨j, rfl, hj, t1, t44, t45, t46, rfl, hs⟩ J hJ
  repeat (first
    | (refine awp_seq fun K hK => ?_)
    | (refine awp_block ?_)
    | (refine awp_skip ?_; simp only [Nx, Caught, if_true, if_false, reduceIte, Nat.reduceEqDiff])
    | (refine awp_exit ?_; simp only [Nx, Caught, if_true, if_false, reduceIte, Nat.reduceEqDiff])
    | (refine region_seq fun gd sep hgd => ?_; clear hgd; (repeat (refine aops_cons fun K1 hK1 => ?_; simp (disch := first | with_reducible assumption | (simp -failIfUnchanged only [Mem.size_push, Mem.size_put, Mem.size_kill, List.length_cons, List.length_nil, List.length_append, List.length_map, List.length_take, List.length_replicate, t1, t44, t45, t46] <;> omega) | (refine (id ?_ : (_ : Bool) = true); simp only [go_sem, if_true, if_false, reduceIte, reduceCtorEq, Nat.reduceAdd, Nat.reduceSub, Nat.reduceBEq, Nat.reduceLT, Nat.reduceMul, Nat.reducePow, Nat.reduceLeDiff, t1, t44, t45, t46]; done) | fail "no") only [go_sem, if_true, if_false, reduceIte, reduceCtorEq, Nat.reduceAdd, Nat.reduceSub, Nat.reduceBEq, Nat.reduceLT, Nat.reduceMul, Nat.reducePow, Nat.reduceLeDiff, t1, t44, t45, t46]; refine hK1 _ _ ?_; clear hK1 K1)); refine aops_nil ?_; simp only [Nx, Caught, if_true, if_false, reduceIte, Nat.reduceEqDiff]; clear gd sep)
    | (refine region_draw' mixed (by decide +kernel) fun gd sep hgd hsep => ?_; clear hgd hsep; (repeat (refine aops_cons fun K1 hK1 => ?_; simp (disch := first | with_reducible assumption | (simp -failIfUnchanged only [Mem.size_push, Mem.size_put, Mem.size_kill, List.length_cons, List.length_nil, List.length_append, List.length_map, List.length_take, List.length_replicate, t1, t44, t45, t46] <;> omega) | (refine (id ?_ : (_ : Bool) = true); simp only [go_sem, if_true, if_false, reduceIte, reduceCtorEq, Nat.reduceAdd, Nat.reduceSub, Nat.reduceBEq, Nat.reduceLT, Nat.reduceMul, Nat.reducePow, Nat.reduceLeDiff, t1, t44, t45, t46]; done) | fail "no") only [go_sem, if_true, if_false, reduceIte, reduceCtorEq, Nat.reduceAdd, Nat.reduceSub, Nat.reduceBEq, Nat.reduceLT, Nat.reduceMul, Nat.reducePow, Nat.reduceLeDiff, t1, t44, t45, t46]; refine hK1 _ _ ?_; clear hK1 K1)); refine aops_nil ?_; simp only [Nx, Caught, if_true, if_false, reduceIte, Nat.reduceEqDiff]; clear gd sep)
    | (refine hK _ _ ?_; clear hK K)
    | (clear hK K)
    )
  refine awp_if rfl (fun hlt => ?_) (fun hge => ?_)
  · have hlt : j < 3 := by simp at hlt; omega
    obtain ⟨v, xs, hv, hx, hr, hf⟩ := hsel j hlt
    have hbad : ∀ k : Nat, k < xs.length → okp h.l.length (xs.getD k 0) = false → h.valid = false := by
      intro k hk hb
      have := not_all_okp hk hb
      unfold HP.valid
      match j, hlt, hx with
      | 0, _, hx => simp at hx; subst hx; rw [this]; simp
      | 1, _, hx => simp at hx; subst hx; rw [this]; simp
      | 2, _, hx => simp at hx; subst hx; rw [this]; simp
    repeat (first
      | (refine awp_seq fun K hK => ?_)
      | (refine awp_block ?_)
      | (refine awp_skip ?_; simp only [Nx, Caught, if_true, if_false, reduceIte, Nat.reduceEqDiff])
      | (refine awp_exit ?_; simp only [Nx, Caught, if_true, if_false, reduceIte, Nat.reduceEqDiff])
      | (refine region_seq fun gd sep hgd => ?_; clear hgd; (repeat (refine aops_cons fun K1 hK1 => ?_; simp (disch := first | with_reducible assumption | (simp -failIfUnchanged only [Mem.size_push, Mem.size_put, Mem.size_kill, List.length_cons, List.length_nil, List.length_append, List.length_map, List.length_take, List.length_replicate, t1, t44, t45, t46, hv, hr.lenI, Int.toNat_natCast, Nat.mul_one] <;> omega) | (refine (id ?_ : (_ : Bool) = true); simp only [go_sem, if_true, if_false, reduceIte, reduceCtorEq, Nat.reduceAdd, Nat.reduceSub, Nat.reduceBEq, Nat.reduceLT, Nat.reduceMul, Nat.reducePow, Nat.reduceLeDiff, t1, t44, t45, t46, hv, hr.lenI, Int.toNat_natCast, Nat.mul_one]; done) | fail "no") only [go_sem, if_true, if_false, reduceIte, reduceCtorEq, Nat.reduceAdd, Nat.reduceSub, Nat.reduceBEq, Nat.reduceLT, Nat.reduceMul, Nat.reducePow, Nat.reduceLeDiff, t1, t44, t45, t46, hv, hr.lenI, Int.toNat_natCast, Nat.mul_one]; refine hK1 _ _ ?_; clear hK1 K1)); refine aops_nil ?_; simp only [Nx, Caught, if_true, if_false, reduceIte, Nat.reduceEqDiff]; clear gd sep)
      | (refine region_draw' mixed (by decide +kernel) fun gd sep hgd hsep => ?_; clear hgd hsep; (repeat (refine aops_cons fun K1 hK1 => ?_; simp (disch := first | with_reducible assumption | (simp -failIfUnchanged only [Mem.size_push, Mem.size_put, Mem.size_kill, List.length_cons, List.length_nil, List.length_append, List.length_map, List.length_take, List.length_replicate, t1, t44, t45, t46, hv, hr.lenI, Int.toNat_natCast, Nat.mul_one] <;> omega) | (refine (id ?_ : (_ : Bool) = true); simp only [go_sem, if_true, if_false, reduceIte, reduceCtorEq, Nat.reduceAdd, Nat.reduceSub, Nat.reduceBEq, Nat.reduceLT, Nat.reduceMul, Nat.reducePow, Nat.reduceLeDiff, t1, t44, t45, t46, hv, hr.lenI, Int.toNat_natCast, Nat.mul_one]; done) | fail "no") only [go_sem, if_true, if_false, reduceIte, reduceCtorEq, Nat.reduceAdd, Nat.reduceSub, Nat.reduceBEq, Nat.reduceLT, Nat.reduceMul, Nat.reducePow, Nat.reduceLeDiff, t1, t44, t45, t46, hv, hr.lenI, Int.toNat_natCast, Nat.mul_one]; refine hK1 _ _ ?_; clear hK1 K1)); refine aops_nil ?_; simp only [Nx, Caught, if_true, if_false, reduceIte, Nat.reduceEqDiff]; clear gd sep)
      | (refine hK _ _ ?_; clear hK K)
      | (clear hK K)
      )
    refine awp_loop (fun n ts m' => ∃ k : Nat, n = xs.length - k ∧ k ≤ xs.length ∧ ts 1 = .ptr (some (m.size, 0)) ∧ ts 44 = .sl (m.size + 1) 0 3 (some 3) 1 ∧ ts 45 = .int .i64 3 ∧ ts 46 = .int .i64 j ∧ ts 50 = v ∧ ts 51 = .int .i64 xs.length ∧ ts 52 = .int .i64 k ∧
      m' = (m.push [a, b, c]).push [a, b, c] ∧ ∀ i, i < k → okp h.l.length (xs.getD i 0) = true) xs.length ⟨0, rfl, by omega, t1, t44, t45, t46, rfl, rfl, rfl, rfl, fun i hi => by omega⟩ ?_
    clear t1 t44 t45 t46 ts
    rintro n ts _ ⟨k, rfl, hk, t1, t44, t45, t46, t50, t51, t52, rfl, hks⟩ J2 hJ2
    repeat (first
      | (refine awp_seq fun K hK => ?_)
      | (refine awp_block ?_)
      | (refine awp_skip ?_; simp only [Nx, Caught, if_true, if_false, reduceIte, Nat.reduceEqDiff])
      | (refine awp_exit ?_; simp only [Nx, Caught, if_true, if_false, reduceIte, Nat.reduceEqDiff])
      | (refine region_seq fun gd sep hgd => ?_; clear hgd; (repeat (refine aops_cons fun K1 hK1 => ?_; simp (disch := first | with_reducible assumption | (simp -failIfUnchanged only [Mem.size_push, Mem.size_put, Mem.size_kill, List.length_cons, List.length_nil, List.length_append, List.length_map, List.length_take, List.length_replicate, t1, t50, t51, t52] <;> omega) | (refine (id ?_ : (_ : Bool) = true); simp only [go_sem, if_true, if_false, reduceIte, reduceCtorEq, Nat.reduceAdd, Nat.reduceSub, Nat.reduceBEq, Nat.reduceLT, Nat.reduceMul, Nat.reducePow, Nat.reduceLeDiff, t1, t50, t51, t52]; done) | fail "no") only [go_sem, if_true, if_false, reduceIte, reduceCtorEq, Nat.reduceAdd, Nat.reduceSub, Nat.reduceBEq, Nat.reduceLT, Nat.reduceMul, Nat.reducePow, Nat.reduceLeDiff, t1, t50, t51, t52]; refine hK1 _ _ ?_; clear hK1 K1)); refine aops_nil ?_; simp only [Nx, Caught, if_true, if_false, reduceIte, Nat.reduceEqDiff]; clear gd sep)
      | (refine region_draw' mixed (by decide +kernel) fun gd sep hgd hsep => ?_; clear hgd hsep; (repeat (refine aops_cons fun K1 hK1 => ?_; simp (disch := first | with_reducible assumption | (simp -failIfUnchanged only [Mem.size_push, Mem.size_put, Mem.size_kill, List.length_cons, List.length_nil, List.length_append, List.length_map, List.length_take, List.length_replicate, t1, t50, t51, t52] <;> omega) | (refine (id ?_ : (_ : Bool) = true); simp only [go_sem, if_true, if_false, reduceIte, reduceCtorEq, Nat.reduceAdd, Nat.reduceSub, Nat.reduceBEq, Nat.reduceLT, Nat.reduceMul, Nat.reducePow, Nat.reduceLeDiff, t1, t50, t51, t52]; done) | fail "no") only [go_sem, if_true, if_false, reduceIte, reduceCtorEq, Nat.reduceAdd, Nat.reduceSub, Nat.reduceBEq, Nat.reduceLT, Nat.reduceMul, Nat.reducePow, Nat.reduceLeDiff, t1, t50, t51, t52]; refine hK1 _ _ ?_; clear hK1 K1)); refine aops_nil ?_; simp only [Nx, Caught, if_true, if_false, reduceIte, Nat.reduceEqDiff]; clear gd sep)
      | (refine hK _ _ ?_; clear hK K)
      | (clear hK K)
      )
    refine awp_if rfl (fun hlt2 => ?_) (fun hge2 => ?_)
    · have hlt2 : k < xs.length := by simp at hlt2; omega
      cases c1 : decide (xs.getD k 0 < -1)
      case true =>
        repeat (first
          | (refine awp_seq fun K hK => ?_)
          | (refine awp_block ?_)
          | (refine awp_skip ?_; simp only [Nx, Caught, if_true, if_false, reduceIte, Nat.reduceEqDiff])
          | (refine awp_exit ?_; simp only [Nx, Caught, if_true, if_false, reduceIte, Nat.reduceEqDiff])
          | (refine region_seq fun gd sep hgd => ?_; have g2 : gd 2 = some 58 := hgd 2; clear hgd; (repeat (refine aops_cons fun K1 hK1 => ?_; simp (disch := first | with_reducible assumption | (simp -failIfUnchanged only [Mem.size_push, Mem.size_put, Mem.size_kill, List.length_cons, List.length_nil, List.length_append, List.length_map, List.length_take, List.length_replicate, t1, t50, t51, t52, hr.idxI, hr.loadI, Int.toNat_natCast, c1, g2] <;> omega) | (refine (id ?_ : (_ : Bool) = true); simp only [go_sem, if_true, if_false, reduceIte, reduceCtorEq, Nat.reduceAdd, Nat.reduceSub, Nat.reduceBEq, Nat.reduceLT, Nat.reduceMul, Nat.reducePow, Nat.reduceLeDiff, t1, t50, t51, t52, hr.idxI, hr.loadI, Int.toNat_natCast, c1, g2]; done) | fail "no") only [go_sem, if_true, if_false, reduceIte, reduceCtorEq, Nat.reduceAdd, Nat.reduceSub, Nat.reduceBEq, Nat.reduceLT, Nat.reduceMul, Nat.reducePow, Nat.reduceLeDiff, t1, t50, t51, t52, hr.idxI, hr.loadI, Int.toNat_natCast, c1, g2]; refine hK1 _ _ ?_; clear hK1 K1)); refine aops_nil ?_; simp only [Nx, Caught, if_true, if_false, reduceIte, Nat.reduceEqDiff]; clear g2 gd sep)
          | (refine region_draw' mixed (by decide +kernel) fun gd sep hgd hsep => ?_; have g2 : gd 2 = some 58 := hgd 2; clear hgd hsep; (repeat (refine aops_cons fun K1 hK1 => ?_; simp (disch := first | with_reducible assumption | (simp -failIfUnchanged only [Mem.size_push, Mem.size_put, Mem.size_kill, List.length_cons, List.length_nil, List.length_append, List.length_map, List.length_take, List.length_replicate, t1, t50, t51, t52, hr.idxI, hr.loadI, Int.toNat_natCast, c1, g2] <;> omega) | (refine (id ?_ : (_ : Bool) = true); simp only [go_sem, if_true, if_false, reduceIte, reduceCtorEq, Nat.reduceAdd, Nat.reduceSub, Nat.reduceBEq, Nat.reduceLT, Nat.reduceMul, Nat.reducePow, Nat.reduceLeDiff, t1, t50, t51, t52, hr.idxI, hr.loadI, Int.toNat_natCast, c1, g2]; done) | fail "no") only [go_sem, if_true, if_false, reduceIte, reduceCtorEq, Nat.reduceAdd, Nat.reduceSub, Nat.reduceBEq, Nat.reduceLT, Nat.reduceMul, Nat.reducePow, Nat.reduceLeDiff, t1, t50, t51, t52, hr.idxI, hr.loadI, Int.toNat_natCast, c1, g2]; refine hK1 _ _ ?_; clear hK1 K1)); refine aops_nil ?_; simp only [Nx, Caught, if_true, if_false, reduceIte, Nat.reduceEqDiff]; clear g2 gd sep)
          | (refine region_seq fun gd sep hgd => ?_; clear hgd; (repeat (refine aops_cons fun K1 hK1 => ?_; simp (disch := first | with_reducible assumption | (simp -failIfUnchanged only [Mem.size_push, Mem.size_put, Mem.size_kill, List.length_cons, List.length_nil, List.length_append, List.length_map, List.length_take, List.length_replicate, t1, t50, t51, t52, hr.idxI, hr.loadI, Int.toNat_natCast, c1] <;> omega) | (refine (id ?_ : (_ : Bool) = true); simp only [go_sem, if_true, if_false, reduceIte, reduceCtorEq, Nat.reduceAdd, Nat.reduceSub, Nat.reduceBEq, Nat.reduceLT, Nat.reduceMul, Nat.reducePow, Nat.reduceLeDiff, t1, t50, t51, t52, hr.idxI, hr.loadI, Int.toNat_natCast, c1]; done) | fail "no") only [go_sem, if_true, if_false, reduceIte, reduceCtorEq, Nat.reduceAdd, Nat.reduceSub, Nat.reduceBEq, Nat.reduceLT, Nat.reduceMul, Nat.reducePow, Nat.reduceLeDiff, t1, t50, t51, t52, hr.idxI, hr.loadI, Int.toNat_natCast, c1]; refine hK1 _ _ ?_; clear hK1 K1)); refine aops_nil ?_; simp only [Nx, Caught, if_true, if_false, reduceIte, Nat.reduceEqDiff]; clear gd sep)
          | (refine region_draw' mixed (by decide +kernel) fun gd sep hgd hsep => ?_; clear hgd hsep; (repeat (refine aops_cons fun K1 hK1 => ?_; simp (disch := first | with_reducible assumption | (simp -failIfUnchanged only [Mem.size_push, Mem.size_put, Mem.size_kill, List.length_cons, List.length_nil, List.length_append, List.length_map, List.length_take, List.length_replicate, t1, t50, t51, t52, hr.idxI, hr.loadI, Int.toNat_natCast, c1] <;> omega) | (refine (id ?_ : (_ : Bool) = true); simp only [go_sem, if_true, if_false, reduceIte, reduceCtorEq, Nat.reduceAdd, Nat.reduceSub, Nat.reduceBEq, Nat.reduceLT, Nat.reduceMul, Nat.reducePow, Nat.reduceLeDiff, t1, t50, t51, t52, hr.idxI, hr.loadI, Int.toNat_natCast, c1]; done) | fail "no") only [go_sem, if_true, if_false, reduceIte, reduceCtorEq, Nat.reduceAdd, Nat.reduceSub, Nat.reduceBEq, Nat.reduceLT, Nat.reduceMul, Nat.reducePow, Nat.reduceLeDiff, t1, t50, t51, t52, hr.idxI, hr.loadI, Int.toNat_natCast, c1]; refine hK1 _ _ ?_; clear hK1 K1)); refine aops_nil ?_; simp only [Nx, Caught, if_true, if_false, reduceIte, Nat.reduceEqDiff]; clear gd sep)
          | (refine hK _ _ ?_; clear hK K)
          | (clear hK K)
          )
        refine awp_cond (t := true) rfl ?_
        repeat (first
          | (refine awp_seq fun K hK => ?_)
          | (refine awp_block ?_)
          | (refine awp_skip ?_; simp only [Nx, Caught, if_true, if_false, reduceIte, Nat.reduceEqDiff])
          | (refine awp_exit ?_; simp only [Nx, Caught, if_true, if_false, reduceIte, Nat.reduceEqDiff])
          | (refine region_seq fun gd sep hgd => ?_; clear hgd; (repeat (refine aops_cons fun K1 hK1 => ?_; simp (disch := first | with_reducible assumption | (simp -failIfUnchanged only [Mem.size_push, Mem.size_put, Mem.size_kill, List.length_cons, List.length_nil, List.length_append, List.length_map, List.length_take, List.length_replicate] <;> omega) | (refine (id ?_ : (_ : Bool) = true); simp only [go_sem, if_true, if_false, reduceIte, reduceCtorEq, Nat.reduceAdd, Nat.reduceSub, Nat.reduceBEq, Nat.reduceLT, Nat.reduceMul, Nat.reducePow, Nat.reduceLeDiff]; done) | fail "no") only [go_sem, if_true, if_false, reduceIte, reduceCtorEq, Nat.reduceAdd, Nat.reduceSub, Nat.reduceBEq, Nat.reduceLT, Nat.reduceMul, Nat.reducePow, Nat.reduceLeDiff]; refine hK1 _ _ ?_; clear hK1 K1)); refine aops_nil ?_; simp only [Nx, Caught, if_true, if_false, reduceIte, Nat.reduceEqDiff]; clear gd sep)
          | (refine region_draw' mixed (by decide +kernel) fun gd sep hgd hsep => ?_; clear hgd hsep; (repeat (refine aops_cons fun K1 hK1 => ?_; simp (disch := first | with_reducible assumption | (simp -failIfUnchanged only [Mem.size_push, Mem.size_put, Mem.size_kill, List.length_cons, List.length_nil, List.length_append, List.length_map, List.length_take, List.length_replicate] <;> omega) | (refine (id ?_ : (_ : Bool) = true); simp only [go_sem, if_true, if_false, reduceIte, reduceCtorEq, Nat.reduceAdd, Nat.reduceSub, Nat.reduceBEq, Nat.reduceLT, Nat.reduceMul, Nat.reducePow, Nat.reduceLeDiff]; done) | fail "no") only [go_sem, if_true, if_false, reduceIte, reduceCtorEq, Nat.reduceAdd, Nat.reduceSub, Nat.reduceBEq, Nat.reduceLT, Nat.reduceMul, Nat.reducePow, Nat.reduceLeDiff]; refine hK1 _ _ ?_; clear hK1 K1)); refine aops_nil ?_; simp only [Nx, Caught, if_true, if_false, reduceIte, Nat.reduceEqDiff]; clear gd sep)
          | (refine hK _ _ ?_; clear hK K)
          | (clear hK K)
          )
        refine awp_ret ?_; try simp only [Nx, Caught]
        apply ends_ret
        · simp (disch := first | with_reducible assumption | (simp -failIfUnchanged only [Mem.size_push, Mem.size_put, Mem.size_kill, List.length_cons, List.length_nil, List.length_append, List.length_map, List.length_take, List.length_replicate] <;> omega) | (refine (id ?_ : (_ : Bool) = true); simp only [go_sem, if_true, if_false, reduceIte, reduceCtorEq, Nat.reduceAdd, Nat.reduceSub, Nat.reduceBEq, Nat.reduceLT, Nat.reduceMul, Nat.reducePow, Nat.reduceLeDiff]; done) | fail "no") only [go_sem, if_true, if_false, reduceIte, reduceCtorEq, Nat.reduceAdd, Nat.reduceSub, Nat.reduceBEq, Nat.reduceLT, Nat.reduceMul, Nat.reducePow, Nat.reduceLeDiff, aress, ares1]; exact rfl
        simp only [tupled]
        rw [hbad k hlt2 (by unfold okp; simp at c1 ⊢; intro h; omega)]
      cases c2 : decide (xs.getD k 0 ≥ (h.l.length : Int))
      case true =>
        repeat (first
          | (refine awp_seq fun K hK => ?_)
          | (refine awp_block ?_)
          | (refine awp_skip ?_; simp only [Nx, Caught, if_true, if_false, reduceIte, Nat.reduceEqDiff])
          | (refine awp_exit ?_; simp only [Nx, Caught, if_true, if_false, reduceIte, Nat.reduceEqDiff])
          | (refine region_seq fun gd sep hgd => ?_; have g2 : gd 2 = some 58 := hgd 2; clear hgd; (repeat (refine aops_cons fun K1 hK1 => ?_; simp (disch := first | with_reducible assumption | (simp -failIfUnchanged only [Mem.size_push, Mem.size_put, Mem.size_kill, List.length_cons, List.length_nil, List.length_append, List.length_map, List.length_take, List.length_replicate, t1, t50, t51, t52, hr.idxI, hr.loadI, Int.toNat_natCast, c1, c2, ha2.lenI, g2] <;> omega) | (refine (id ?_ : (_ : Bool) = true); simp only [go_sem, if_true, if_false, reduceIte, reduceCtorEq, Nat.reduceAdd, Nat.reduceSub, Nat.reduceBEq, Nat.reduceLT, Nat.reduceMul, Nat.reducePow, Nat.reduceLeDiff, t1, t50, t51, t52, hr.idxI, hr.loadI, Int.toNat_natCast, c1, c2, ha2.lenI, g2]; done) | fail "no") only [go_sem, if_true, if_false, reduceIte, reduceCtorEq, Nat.reduceAdd, Nat.reduceSub, Nat.reduceBEq, Nat.reduceLT, Nat.reduceMul, Nat.reducePow, Nat.reduceLeDiff, t1, t50, t51, t52, hr.idxI, hr.loadI, Int.toNat_natCast, c1, c2, ha2.lenI, g2]; refine hK1 _ _ ?_; clear hK1 K1)); refine aops_nil ?_; simp only [Nx, Caught, if_true, if_false, reduceIte, Nat.reduceEqDiff]; clear g2 gd sep)
          | (refine region_draw' mixed (by decide +kernel) fun gd sep hgd hsep => ?_; have g2 : gd 2 = some 58 := hgd 2; clear hgd hsep; (repeat (refine aops_cons fun K1 hK1 => ?_; simp (disch := first | with_reducible assumption | (simp -failIfUnchanged only [Mem.size_push, Mem.size_put, Mem.size_kill, List.length_cons, List.length_nil, List.length_append, List.length_map, List.length_take, List.length_replicate, t1, t50, t51, t52, hr.idxI, hr.loadI, Int.toNat_natCast, c1, c2, ha2.lenI, g2] <;> omega) | (refine (id ?_ : (_ : Bool) = true); simp only [go_sem, if_true, if_false, reduceIte, reduceCtorEq, Nat.reduceAdd, Nat.reduceSub, Nat.reduceBEq, Nat.reduceLT, Nat.reduceMul, Nat.reducePow, Nat.reduceLeDiff, t1, t50, t51, t52, hr.idxI, hr.loadI, Int.toNat_natCast, c1, c2, ha2.lenI, g2]; done) | fail "no") only [go_sem, if_true, if_false, reduceIte, reduceCtorEq, Nat.reduceAdd, Nat.reduceSub, Nat.reduceBEq, Nat.reduceLT, Nat.reduceMul, Nat.reducePow, Nat.reduceLeDiff, t1, t50, t51, t52, hr.idxI, hr.loadI, Int.toNat_natCast, c1, c2, ha2.lenI, g2]; refine hK1 _ _ ?_; clear hK1 K1)); refine aops_nil ?_; simp only [Nx, Caught, if_true, if_false, reduceIte, Nat.reduceEqDiff]; clear g2 gd sep)
          | (refine region_seq fun gd sep hgd => ?_; clear hgd; (repeat (refine aops_cons fun K1 hK1 => ?_; simp (disch := first | with_reducible assumption | (simp -failIfUnchanged only [Mem.size_push, Mem.size_put, Mem.size_kill, List.length_cons, List.length_nil, List.length_append, List.length_map, List.length_take, List.length_replicate, t1, t50, t51, t52, hr.idxI, hr.loadI, Int.toNat_natCast, c1, c2, ha2.lenI] <;> omega) | (refine (id ?_ : (_ : Bool) = true); simp only [go_sem, if_true, if_false, reduceIte, reduceCtorEq, Nat.reduceAdd, Nat.reduceSub, Nat.reduceBEq, Nat.reduceLT, Nat.reduceMul, Nat.reducePow, Nat.reduceLeDiff, t1, t50, t51, t52, hr.idxI, hr.loadI, Int.toNat_natCast, c1, c2, ha2.lenI]; done) | fail "no") only [go_sem, if_true, if_false, reduceIte, reduceCtorEq, Nat.reduceAdd, Nat.reduceSub, Nat.reduceBEq, Nat.reduceLT, Nat.reduceMul, Nat.reducePow, Nat.reduceLeDiff, t1, t50, t51, t52, hr.idxI, hr.loadI, Int.toNat_natCast, c1, c2, ha2.lenI]; refine hK1 _ _ ?_; clear hK1 K1)); refine aops_nil ?_; simp only [Nx, Caught, if_true, if_false, reduceIte, Nat.reduceEqDiff]; clear gd sep)
          | (refine region_draw' mixed (by decide +kernel) fun gd sep hgd hsep => ?_; clear hgd hsep; (repeat (refine aops_cons fun K1 hK1 => ?_; simp (disch := first | with_reducible assumption | (simp -failIfUnchanged only [Mem.size_push, Mem.size_put, Mem.size_kill, List.length_cons, List.length_nil, List.length_append, List.length_map, List.length_take, List.length_replicate, t1, t50, t51, t52, hr.idxI, hr.loadI, Int.toNat_natCast, c1, c2, ha2.lenI] <;> omega) | (refine (id ?_ : (_ : Bool) = true); simp only [go_sem, if_true, if_false, reduceIte, reduceCtorEq, Nat.reduceAdd, Nat.reduceSub, Nat.reduceBEq, Nat.reduceLT, Nat.reduceMul, Nat.reducePow, Nat.reduceLeDiff, t1, t50, t51, t52, hr.idxI, hr.loadI, Int.toNat_natCast, c1, c2, ha2.lenI]; done) | fail "no") only [go_sem, if_true, if_false, reduceIte, reduceCtorEq, Nat.reduceAdd, Nat.reduceSub, Nat.reduceBEq, Nat.reduceLT, Nat.reduceMul, Nat.reducePow, Nat.reduceLeDiff, t1, t50, t51, t52, hr.idxI, hr.loadI, Int.toNat_natCast, c1, c2, ha2.lenI]; refine hK1 _ _ ?_; clear hK1 K1)); refine aops_nil ?_; simp only [Nx, Caught, if_true, if_false, reduceIte, Nat.reduceEqDiff]; clear gd sep)
          | (refine hK _ _ ?_; clear hK K)
          | (clear hK K)
          )
        refine awp_cond (t := true) rfl ?_
        repeat (first
          | (refine awp_seq fun K hK => ?_)
          | (refine awp_block ?_)
          | (refine awp_skip ?_; simp only [Nx, Caught, if_true, if_false, reduceIte, Nat.reduceEqDiff])
          | (refine awp_exit ?_; simp only [Nx, Caught, if_true, if_false, reduceIte, Nat.reduceEqDiff])
          | (refine region_seq fun gd sep hgd => ?_; clear hgd; (repeat (refine aops_cons fun K1 hK1 => ?_; simp (disch := first | with_reducible assumption | (simp -failIfUnchanged only [Mem.size_push, Mem.size_put, Mem.size_kill, List.length_cons, List.length_nil, List.length_append, List.length_map, List.length_take, List.length_replicate] <;> omega) | (refine (id ?_ : (_ : Bool) = true); simp only [go_sem, if_true, if_false, reduceIte, reduceCtorEq, Nat.reduceAdd, Nat.reduceSub, Nat.reduceBEq, Nat.reduceLT, Nat.reduceMul, Nat.reducePow, Nat.reduceLeDiff]; done) | fail "no") only [go_sem, if_true, if_false, reduceIte, reduceCtorEq, Nat.reduceAdd, Nat.reduceSub, Nat.reduceBEq, Nat.reduceLT, Nat.reduceMul, Nat.reducePow, Nat.reduceLeDiff]; refine hK1 _ _ ?_; clear hK1 K1)); refine aops_nil ?_; simp only [Nx, Caught, if_true, if_false, reduceIte, Nat.reduceEqDiff]; clear gd sep)
          | (refine region_draw' mixed (by decide +kernel) fun gd sep hgd hsep => ?_; clear hgd hsep; (repeat (refine aops_cons fun K1 hK1 => ?_; simp (disch := first | with_reducible assumption | (simp -failIfUnchanged only [Mem.size_push, Mem.size_put, Mem.size_kill, List.length_cons, List.length_nil, List.length_append, List.length_map, List.length_take, List.length_replicate] <;> omega) | (refine (id ?_ : (_ : Bool) = true); simp only [go_sem, if_true, if_false, reduceIte, reduceCtorEq, Nat.reduceAdd, Nat.reduceSub, Nat.reduceBEq, Nat.reduceLT, Nat.reduceMul, Nat.reducePow, Nat.reduceLeDiff]; done) | fail "no") only [go_sem, if_true, if_false, reduceIte, reduceCtorEq, Nat.reduceAdd, Nat.reduceSub, Nat.reduceBEq, Nat.reduceLT, Nat.reduceMul, Nat.reducePow, Nat.reduceLeDiff]; refine hK1 _ _ ?_; clear hK1 K1)); refine aops_nil ?_; simp only [Nx, Caught, if_true, if_false, reduceIte, Nat.reduceEqDiff]; clear gd sep)
          | (refine hK _ _ ?_; clear hK K)
          | (clear hK K)
          )
        refine awp_ret ?_; try simp only [Nx, Caught]
        apply ends_ret
        · simp (disch := first | with_reducible assumption | (simp -failIfUnchanged only [Mem.size_push, Mem.size_put, Mem.size_kill, List.length_cons, List.length_nil, List.length_append, List.length_map, List.length_take, List.length_replicate] <;> omega) | (refine (id ?_ : (_ : Bool) = true); simp only [go_sem, if_true, if_false, reduceIte, reduceCtorEq, Nat.reduceAdd, Nat.reduceSub, Nat.reduceBEq, Nat.reduceLT, Nat.reduceMul, Nat.reducePow, Nat.reduceLeDiff]; done) | fail "no") only [go_sem, if_true, if_false, reduceIte, reduceCtorEq, Nat.reduceAdd, Nat.reduceSub, Nat.reduceBEq, Nat.reduceLT, Nat.reduceMul, Nat.reducePow, Nat.reduceLeDiff, aress, ares1]; exact rfl
        simp only [tupled]
        rw [hbad k hlt2 (by unfold okp; simp at c2 ⊢; intro h; omega)]
      repeat (first
        | (refine awp_seq fun K hK => ?_)
        | (refine awp_block ?_)
        | (refine awp_skip ?_; simp only [Nx, Caught, if_true, if_false, reduceIte, Nat.reduceEqDiff])
        | (refine awp_exit ?_; simp only [Nx, Caught, if_true, if_false, reduceIte, Nat.reduceEqDiff])
        | (refine region_seq fun gd sep hgd => ?_; have g2 : gd 2 = some 58 := hgd 2; clear hgd; (repeat (refine aops_cons fun K1 hK1 => ?_; simp (disch := first | with_reducible assumption | (simp -failIfUnchanged only [Mem.size_push, Mem.size_put, Mem.size_kill, List.length_cons, List.length_nil, List.length_append, List.length_map, List.length_take, List.length_replicate, t1, t50, t51, t52, hr.idxI, hr.loadI, Int.toNat_natCast, c1, c2, ha2.lenI, g2] <;> omega) | (refine (id ?_ : (_ : Bool) = true); simp only [go_sem, if_true, if_false, reduceIte, reduceCtorEq, Nat.reduceAdd, Nat.reduceSub, Nat.reduceBEq, Nat.reduceLT, Nat.reduceMul, Nat.reducePow, Nat.reduceLeDiff, t1, t50, t51, t52, hr.idxI, hr.loadI, Int.toNat_natCast, c1, c2, ha2.lenI, g2]; done) | fail "no") only [go_sem, if_true, if_false, reduceIte, reduceCtorEq, Nat.reduceAdd, Nat.reduceSub, Nat.reduceBEq, Nat.reduceLT, Nat.reduceMul, Nat.reducePow, Nat.reduceLeDiff, t1, t50, t51, t52, hr.idxI, hr.loadI, Int.toNat_natCast, c1, c2, ha2.lenI, g2]; refine hK1 _ _ ?_; clear hK1 K1)); refine aops_nil ?_; simp only [Nx, Caught, if_true, if_false, reduceIte, Nat.reduceEqDiff]; clear g2 gd sep)
        | (refine region_draw' mixed (by decide +kernel) fun gd sep hgd hsep => ?_; have g2 : gd 2 = some 58 := hgd 2; clear hgd hsep; (repeat (refine aops_cons fun K1 hK1 => ?_; simp (disch := first | with_reducible assumption | (simp -failIfUnchanged only [Mem.size_push, Mem.size_put, Mem.size_kill, List.length_cons, List.length_nil, List.length_append, List.length_map, List.length_take, List.length_replicate, t1, t50, t51, t52, hr.idxI, hr.loadI, Int.toNat_natCast, c1, c2, ha2.lenI, g2] <;> omega) | (refine (id ?_ : (_ : Bool) = true); simp only [go_sem, if_true, if_false, reduceIte, reduceCtorEq, Nat.reduceAdd, Nat.reduceSub, Nat.reduceBEq, Nat.reduceLT, Nat.reduceMul, Nat.reducePow, Nat.reduceLeDiff, t1, t50, t51, t52, hr.idxI, hr.loadI, Int.toNat_natCast, c1, c2, ha2.lenI, g2]; done) | fail "no") only [go_sem, if_true, if_false, reduceIte, reduceCtorEq, Nat.reduceAdd, Nat.reduceSub, Nat.reduceBEq, Nat.reduceLT, Nat.reduceMul, Nat.reducePow, Nat.reduceLeDiff, t1, t50, t51, t52, hr.idxI, hr.loadI, Int.toNat_natCast, c1, c2, ha2.lenI, g2]; refine hK1 _ _ ?_; clear hK1 K1)); refine aops_nil ?_; simp only [Nx, Caught, if_true, if_false, reduceIte, Nat.reduceEqDiff]; clear g2 gd sep)
        | (refine region_seq fun gd sep hgd => ?_; clear hgd; (repeat (refine aops_cons fun K1 hK1 => ?_; simp (disch := first | with_reducible assumption | (simp -failIfUnchanged only [Mem.size_push, Mem.size_put, Mem.size_kill, List.length_cons, List.length_nil, List.length_append, List.length_map, List.length_take, List.length_replicate, t1, t50, t51, t52, hr.idxI, hr.loadI, Int.toNat_natCast, c1, c2, ha2.lenI] <;> omega) | (refine (id ?_ : (_ : Bool) = true); simp only [go_sem, if_true, if_false, reduceIte, reduceCtorEq, Nat.reduceAdd, Nat.reduceSub, Nat.reduceBEq, Nat.reduceLT, Nat.reduceMul, Nat.reducePow, Nat.reduceLeDiff, t1, t50, t51, t52, hr.idxI, hr.loadI, Int.toNat_natCast, c1, c2, ha2.lenI]; done) | fail "no") only [go_sem, if_true, if_false, reduceIte, reduceCtorEq, Nat.reduceAdd, Nat.reduceSub, Nat.reduceBEq, Nat.reduceLT, Nat.reduceMul, Nat.reducePow, Nat.reduceLeDiff, t1, t50, t51, t52, hr.idxI, hr.loadI, Int.toNat_natCast, c1, c2, ha2.lenI]; refine hK1 _ _ ?_; clear hK1 K1)); refine aops_nil ?_; simp only [Nx, Caught, if_true, if_false, reduceIte, Nat.reduceEqDiff]; clear gd sep)
        | (refine region_draw' mixed (by decide +kernel) fun gd sep hgd hsep => ?_; clear hgd hsep; (repeat (refine aops_cons fun K1 hK1 => ?_; simp (disch := first | with_reducible assumption | (simp -failIfUnchanged only [Mem.size_push, Mem.size_put, Mem.size_kill, List.length_cons, List.length_nil, List.length_append, List.length_map, List.length_take, List.length_replicate, t1, t50, t51, t52, hr.idxI, hr.loadI, Int.toNat_natCast, c1, c2, ha2.lenI] <;> omega) | (refine (id ?_ : (_ : Bool) = true); simp only [go_sem, if_true, if_false, reduceIte, reduceCtorEq, Nat.reduceAdd, Nat.reduceSub, Nat.reduceBEq, Nat.reduceLT, Nat.reduceMul, Nat.reducePow, Nat.reduceLeDiff, t1, t50, t51, t52, hr.idxI, hr.loadI, Int.toNat_natCast, c1, c2, ha2.lenI]; done) | fail "no") only [go_sem, if_true, if_false, reduceIte, reduceCtorEq, Nat.reduceAdd, Nat.reduceSub, Nat.reduceBEq, Nat.reduceLT, Nat.reduceMul, Nat.reducePow, Nat.reduceLeDiff, t1, t50, t51, t52, hr.idxI, hr.loadI, Int.toNat_natCast, c1, c2, ha2.lenI]; refine hK1 _ _ ?_; clear hK1 K1)); refine aops_nil ?_; simp only [Nx, Caught, if_true, if_false, reduceIte, Nat.reduceEqDiff]; clear gd sep)
        | (refine hK _ _ ?_; clear hK K)
        | (clear hK K)
        )
      refine awp_cond (t := false) rfl ?_
      repeat (first
        | (refine awp_seq fun K hK => ?_)
        | (refine awp_block ?_)
        | (refine awp_skip ?_; simp only [Nx, Caught, if_true, if_false, reduceIte, Nat.reduceEqDiff])
        | (refine awp_exit ?_; simp only [Nx, Caught, if_true, if_false, reduceIte, Nat.reduceEqDiff])
        | (refine region_seq fun gd sep hgd => ?_; clear hgd; (repeat (refine aops_cons fun K1 hK1 => ?_; simp (disch := first | with_reducible assumption | (simp -failIfUnchanged only [Mem.size_push, Mem.size_put, Mem.size_kill, List.length_cons, List.length_nil, List.length_append, List.length_map, List.length_take, List.length_replicate, t52] <;> omega) | (refine (id ?_ : (_ : Bool) = true); simp only [go_sem, if_true, if_false, reduceIte, reduceCtorEq, Nat.reduceAdd, Nat.reduceSub, Nat.reduceBEq, Nat.reduceLT, Nat.reduceMul, Nat.reducePow, Nat.reduceLeDiff, t52]; done) | fail "no") only [go_sem, if_true, if_false, reduceIte, reduceCtorEq, Nat.reduceAdd, Nat.reduceSub, Nat.reduceBEq, Nat.reduceLT, Nat.reduceMul, Nat.reducePow, Nat.reduceLeDiff, t52]; refine hK1 _ _ ?_; clear hK1 K1)); refine aops_nil ?_; simp only [Nx, Caught, if_true, if_false, reduceIte, Nat.reduceEqDiff]; clear gd sep)
        | (refine region_draw' mixed (by decide +kernel) fun gd sep hgd hsep => ?_; clear hgd hsep; (repeat (refine aops_cons fun K1 hK1 => ?_; simp (disch := first | with_reducible assumption | (simp -failIfUnchanged only [Mem.size_push, Mem.size_put, Mem.size_kill, List.length_cons, List.length_nil, List.length_append, List.length_map, List.length_take, List.length_replicate, t52] <;> omega) | (refine (id ?_ : (_ : Bool) = true); simp only [go_sem, if_true, if_false, reduceIte, reduceCtorEq, Nat.reduceAdd, Nat.reduceSub, Nat.reduceBEq, Nat.reduceLT, Nat.reduceMul, Nat.reducePow, Nat.reduceLeDiff, t52]; done) | fail "no") only [go_sem, if_true, if_false, reduceIte, reduceCtorEq, Nat.reduceAdd, Nat.reduceSub, Nat.reduceBEq, Nat.reduceLT, Nat.reduceMul, Nat.reducePow, Nat.reduceLeDiff, t52]; refine hK1 _ _ ?_; clear hK1 K1)); refine aops_nil ?_; simp only [Nx, Caught, if_true, if_false, reduceIte, Nat.reduceEqDiff]; clear gd sep)
        | (refine hK _ _ ?_; clear hK K)
        | (clear hK K)
        )
      refine hJ2 _ _ _ ?_ ⟨k + 1, rfl, by omega, t1, t44, t45, t46, t50, t51, rfl, rfl, fun i hi => ?_⟩
      · omega
      · by_cases e : i = k
        · subst e; unfold okp; simp at c1 c2 ⊢; omega
        · exact hks i (by omega)
    · have he : k = xs.length := by simp at hge2; omega
      repeat (first
        | (refine awp_seq fun K hK => ?_)
        | (refine awp_block ?_)
        | (refine awp_skip ?_; simp only [Nx, Caught, if_true, if_false, reduceIte, Nat.reduceEqDiff])
        | (refine awp_exit ?_; simp only [Nx, Caught, if_true, if_false, reduceIte, Nat.reduceEqDiff])
        | (refine region_seq fun gd sep hgd => ?_; clear hgd; (repeat (refine aops_cons fun K1 hK1 => ?_; simp (disch := first | with_reducible assumption | (simp -failIfUnchanged only [Mem.size_push, Mem.size_put, Mem.size_kill, List.length_cons, List.length_nil, List.length_append, List.length_map, List.length_take, List.length_replicate, t46] <;> omega) | (refine (id ?_ : (_ : Bool) = true); simp only [go_sem, if_true, if_false, reduceIte, reduceCtorEq, Nat.reduceAdd, Nat.reduceSub, Nat.reduceBEq, Nat.reduceLT, Nat.reduceMul, Nat.reducePow, Nat.reduceLeDiff, t46]; done) | fail "no") only [go_sem, if_true, if_false, reduceIte, reduceCtorEq, Nat.reduceAdd, Nat.reduceSub, Nat.reduceBEq, Nat.reduceLT, Nat.reduceMul, Nat.reducePow, Nat.reduceLeDiff, t46]; refine hK1 _ _ ?_; clear hK1 K1)); refine aops_nil ?_; simp only [Nx, Caught, if_true, if_false, reduceIte, Nat.reduceEqDiff]; clear gd sep)
        | (refine region_draw' mixed (by decide +kernel) fun gd sep hgd hsep => ?_; clear hgd hsep; (repeat (refine aops_cons fun K1 hK1 => ?_; simp (disch := first | with_reducible assumption | (simp -failIfUnchanged only [Mem.size_push, Mem.size_put, Mem.size_kill, List.length_cons, List.length_nil, List.length_append, List.length_map, List.length_take, List.length_replicate, t46] <;> omega) | (refine (id ?_ : (_ : Bool) = true); simp only [go_sem, if_true, if_false, reduceIte, reduceCtorEq, Nat.reduceAdd, Nat.reduceSub, Nat.reduceBEq, Nat.reduceLT, Nat.reduceMul, Nat.reducePow, Nat.reduceLeDiff, t46]; done) | fail "no") only [go_sem, if_true, if_false, reduceIte, reduceCtorEq, Nat.reduceAdd, Nat.reduceSub, Nat.reduceBEq, Nat.reduceLT, Nat.reduceMul, Nat.reducePow, Nat.reduceLeDiff, t46]; refine hK1 _ _ ?_; clear hK1 K1)); refine aops_nil ?_; simp only [Nx, Caught, if_true, if_false, reduceIte, Nat.reduceEqDiff]; clear gd sep)
        | (refine hK _ _ ?_; clear hK K)
        | (clear hK K)
        )
      refine hJ _ _ _ ?_ ⟨j + 1, rfl, by omega, t1, t44, t45, rfl, rfl, fun i hi => ?_⟩
      · omega
      · by_cases e : i = j
        · subst e
          rw [List.getD_eq_getElem?_getD, hx]
          exact all_okp hks he
        · exact hs i (by omega)
  · have he : j = 3 := by simp at hge; omega
    subst he
    repeat (first
      | (refine awp_seq fun K hK => ?_)
      | (refine awp_block ?_)
      | (refine awp_skip ?_; simp only [Nx, Caught, if_true, if_false, reduceIte, Nat.reduceEqDiff])
      | (refine awp_exit ?_; simp only [Nx, Caught, if_true, if_false, reduceIte, Nat.reduceEqDiff])
      | (refine region_seq fun gd sep hgd => ?_; clear hgd; (repeat (refine aops_cons fun K1 hK1 => ?_; simp (disch := first | with_reducible assumption | (simp -failIfUnchanged only [Mem.size_push, Mem.size_put, Mem.size_kill, List.length_cons, List.length_nil, List.length_append, List.length_map, List.length_take, List.length_replicate] <;> omega) | (refine (id ?_ : (_ : Bool) = true); simp only [go_sem, if_true, if_false, reduceIte, reduceCtorEq, Nat.reduceAdd, Nat.reduceSub, Nat.reduceBEq, Nat.reduceLT, Nat.reduceMul, Nat.reducePow, Nat.reduceLeDiff]; done) | fail "no") only [go_sem, if_true, if_false, reduceIte, reduceCtorEq, Nat.reduceAdd, Nat.reduceSub, Nat.reduceBEq, Nat.reduceLT, Nat.reduceMul, Nat.reducePow, Nat.reduceLeDiff]; refine hK1 _ _ ?_; clear hK1 K1)); refine aops_nil ?_; simp only [Nx, Caught, if_true, if_false, reduceIte, Nat.reduceEqDiff]; clear gd sep)
      | (refine region_draw' mixed (by decide +kernel) fun gd sep hgd hsep => ?_; clear hgd hsep; (repeat (refine aops_cons fun K1 hK1 => ?_; simp (disch := first | with_reducible assumption | (simp -failIfUnchanged only [Mem.size_push, Mem.size_put, Mem.size_kill, List.length_cons, List.length_nil, List.length_append, List.length_map, List.length_take, List.length_replicate] <;> omega) | (refine (id ?_ : (_ : Bool) = true); simp only [go_sem, if_true, if_false, reduceIte, reduceCtorEq, Nat.reduceAdd, Nat.reduceSub, Nat.reduceBEq, Nat.reduceLT, Nat.reduceMul, Nat.reducePow, Nat.reduceLeDiff]; done) | fail "no") only [go_sem, if_true, if_false, reduceIte, reduceCtorEq, Nat.reduceAdd, Nat.reduceSub, Nat.reduceBEq, Nat.reduceLT, Nat.reduceMul, Nat.reducePow, Nat.reduceLeDiff]; refine hK1 _ _ ?_; clear hK1 K1)); refine aops_nil ?_; simp only [Nx, Caught, if_true, if_false, reduceIte, Nat.reduceEqDiff]; clear gd sep)
      | (refine hK _ _ ?_; clear hK K)
      | (clear hK K)
      )
    refine awp_ret ?_; try simp only [Nx, Caught]
    apply ends_ret
    · simp (disch := first | with_reducible assumption | (simp -failIfUnchanged only [Mem.size_push, Mem.size_put, Mem.size_kill, List.length_cons, List.length_nil, List.length_append, List.length_map, List.length_take, List.length_replicate] <;> omega) | (refine (id ?_ : (_ : Bool) = true); simp only [go_sem, if_true, if_false, reduceIte, reduceCtorEq, Nat.reduceAdd, Nat.reduceSub, Nat.reduceBEq, Nat.reduceLT, Nat.reduceMul, Nat.reducePow, Nat.reduceLeDiff]; done) | fail "no") only [go_sem, if_true, if_false, reduceIte, reduceCtorEq, Nat.reduceAdd, Nat.reduceSub, Nat.reduceBEq, Nat.reduceLT, Nat.reduceMul, Nat.reducePow, Nat.reduceLeDiff, aress, ares1]; exact rfl
    simp only [tupled]
    have q0 := hs 0 (by omega)
    have q1 := hs 1 (by omega)
    have q2 := hs 2 (by omega)
    simp at q0 q1 q2 h1 h2 h3 h4 h5
    unfold HP.valid
    simp
    refine ⟨⟨⟨⟨⟨⟨⟨?_, ?_⟩, ?_⟩, ?_⟩, ?_⟩, q0⟩, q1⟩, q2⟩ <;> omega
end Go.Ab
