/-
  What is proved here: the contracts of the functions over heaps and over generations: measuring, copying, comparing, marking. Condition: the lists' lengths are bounded as each statement says.
-/
import Derived.Test.YtmpnapfbgfpllaaF2
import Derived.Test.YtmpnapfbgfpllaaF3
namespace Go.Ab
open Go.Proofs
set_option linter.unusedSimpArgs false
set_option linter.unusedVariables false
set_option maxRecDepth 10000
set_option maxHeartbeats 1000000

def szH (left : Int) (h : HP) : Int := sz (sz (sz left h.l.length) h.r.length) h.ro.length
def HP.lens (h : HP) (n : Nat) : Prop := h.l.length ≤ n ∧ h.r.length ≤ n ∧ h.ro.length ≤ n
theorem HP.lens.mono {h : HP} {n k : Nat} (a : h.lens n) (b : n ≤ k) : h.lens k := ⟨Nat.le_trans a.1 b, Nat.le_trans a.2.1 b, Nat.le_trans a.2.2 b⟩
theorem sz_neg {left : Int} {n : Nat} (h : left < 0) : sz left n = -1 := by unfold sz; rw [if_pos (by omega)]

def HP.same (x y : HP) : Bool := x.l == y.l && x.r == y.r && x.ro == y.ro
theorem HP.same_iff {x y : HP} : x.same y = true ↔ x = y := by
  cases x; cases y; simp [HP.same, and_assoc]
theorem HP.same_rfl {x : HP} : x.same x = true := HP.same_iff.2 rfl
structure GP where
  h : HP
  old : List Bool
  rem : List Int
def GP.same (x y : GP) : Bool := x.h.same y.h && x.old == y.old && x.rem == y.rem
theorem GP.same_iff {x y : GP} : x.same y = true ↔ x = y := by
  cases x; cases y; simp [GP.same, HP.same_iff, and_assoc]
theorem GP.same_rfl {x : GP} : x.same x = true := GP.same_iff.2 rfl
def RdG (m : Mem) (v : AVal) (g : GP) : Prop := ∃ a b c d e, v = .agg [a, b, c, d, e] ∧ RdI m a g.h.l ∧ RdI m b g.h.r ∧ RdI m c g.h.ro ∧ RdB m d g.old ∧ RdI m e g.rem
def GP.lens (g : GP) (n : Nat) : Prop := g.h.lens n ∧ g.old.length ≤ n ∧ g.rem.length ≤ n
theorem GP.lens.mono {g : GP} {n k : Nat} (a : g.lens n) (b : n ≤ k) : g.lens k := ⟨a.1.mono b, Nat.le_trans a.2.1 b, Nat.le_trans a.2.2 b⟩
theorem RdH.ext {m m' : Mem} {v : AVal} {h : HP} (r : RdH m v h) (e : Ext m m') : RdH m' v h :=
  let ⟨a, b, c, hv, h1, h2, h3⟩ := r; ⟨a, b, c, hv, h1.ext e, h2.ext e, h3.ext e⟩
theorem RdG.ext {m m' : Mem} {v : AVal} {g : GP} (r : RdG m v g) (e : Ext m m') : RdG m' v g :=
  let ⟨a, b, c, d, f, hv, h1, h2, h3, h4, h5⟩ := r; ⟨a, b, c, d, f, hv, h1.ext e, h2.ext e, h3.ext e, h4.ext e, h5.ext e⟩

def szG (left : Int) (g : GP) : Int := sz (sz (szH left g.h) g.old.length) g.rem.length
theorem szH_ge (left : Int) (h : HP) : -1 ≤ szH left h := sz_ge _ _
theorem szH_le {left : Int} {h : HP} (h0 : 0 ≤ left) : szH left h ≤ left := by
  have a := sz_le (left := left) (n := h.l.length) (by omega)
  have b := sz_le (n := h.r.length) (sz_ge left h.l.length)
  have c := sz_le (n := h.ro.length) (sz_ge (sz left h.l.length) h.r.length)
  unfold szH
  omega
theorem szH_nn {left : Int} {h : HP} (hh : ¬ szH left h < 0) : (h.l.length : Int) ≤ left ∧ (h.r.length : Int) ≤ left ∧ (h.ro.length : Int) ≤ left ∧ szH left h = left - h.l.length - h.r.length - h.ro.length := by
  unfold szH at *
  have a := sz_nn hh
  have b := sz_nn (left := sz left h.l.length) (n := h.r.length) (by omega)
  have c := sz_nn (left := left) (n := h.l.length) (by omega)
  omega
theorem szG_nn {left : Int} {g : GP} (hh : ¬ szG left g < 0) : ((g.h.l.length : Int) ≤ left ∧ (g.h.r.length : Int) ≤ left ∧ (g.h.ro.length : Int) ≤ left) ∧ (g.old.length : Int) ≤ left ∧ (g.rem.length : Int) ≤ left ∧ szG left g ≤ left := by
  unfold szG at *
  have a := sz_nn hh
  have b := sz_nn (left := szH left g.h) (n := g.old.length) (by omega)
  have c := szH_nn (left := left) (h := g.h) (by omega)
  omega
theorem szG_ge (left : Int) (g : GP) : -1 ≤ szG left g := sz_ge _ _
theorem lens_of {left : Int} {h : HP} {n : Nat} (hh : ¬ szH left h < 0) (hl : left ≤ n) : h.lens n := by
  have := szH_nn hh
  exact ⟨by omega, by omega, by omega⟩
theorem lensG_of {left : Int} {g : GP} {n : Nat} (hh : ¬ szG left g < 0) (hl : left ≤ n) : g.lens n := by
  have := szG_nn hh
  exact ⟨⟨by omega, by omega, by omega⟩, by omega, by omega⟩

theorem szHeap_c {m : Mem} {v : AVal} {h : HP} {left : Int} (hv : RdH m v h) (hx : h.lens 9223372036854775807) (h0 : 0 ≤ left) (h1 : left ≤ 1099511627776) :
    ∃ r m', (r = .int .i64 (szH left h)) ∧ DCalls PP m.size 23 [v, .int .i64 left] m r m' := by
  obtain ⟨a, b, c, rfl, ha, hb, hc⟩ := hv
  have g1 := sz_le (left := left) (n := h.l.length) (by omega)
  have g2 := sz_le (n := h.r.length) (sz_ge left h.l.length)
  refine enter Try.func23 (by decide) rfl Try.ntmps23 Try.results23 ?_
  repeat (first
    | (refine awp_seq fun K hK => ?_)
    | (refine awp_block ?_)
    | (refine awp_skip ?_; simp only [Nx, Caught, if_true, if_false, reduceIte, Nat.reduceEqDiff])
    | (refine awp_exit ?_; simp only [Nx, Caught, if_true, if_false, reduceIte, Nat.reduceEqDiff])
    | (refine region_seq fun gd sep hgd => ?_; clear hgd; (repeat (refine aops_cons fun K1 hK1 => ?_; simp (disch := first | with_reducible assumption | (simp -failIfUnchanged only [Mem.size_push, Mem.size_put, Mem.size_kill, List.length_cons, List.length_nil, List.length_append, List.length_map, List.length_take, List.length_replicate] <;> omega) | (refine (id ?_ : (_ : Bool) = true); simp only [go_sem, if_true, if_false, reduceIte, reduceCtorEq, Nat.reduceAdd, Nat.reduceSub, Nat.reduceBEq, Nat.reduceLT, Nat.reduceMul, Nat.reducePow, Nat.reduceLeDiff]; done) | fail "no") only [go_sem, if_true, if_false, reduceIte, reduceCtorEq, Nat.reduceAdd, Nat.reduceSub, Nat.reduceBEq, Nat.reduceLT, Nat.reduceMul, Nat.reducePow, Nat.reduceLeDiff]; refine hK1 _ _ ?_; clear hK1 K1)); refine aops_nil ?_; simp only [Nx, Caught, if_true, if_false, reduceIte, Nat.reduceEqDiff]; clear gd sep)
    | (refine region_draw' mixed (by decide +kernel) fun gd sep hgd hsep => ?_; clear hgd hsep; (repeat (refine aops_cons fun K1 hK1 => ?_; simp (disch := first | with_reducible assumption | (simp -failIfUnchanged only [Mem.size_push, Mem.size_put, Mem.size_kill, List.length_cons, List.length_nil, List.length_append, List.length_map, List.length_take, List.length_replicate] <;> omega) | (refine (id ?_ : (_ : Bool) = true); simp only [go_sem, if_true, if_false, reduceIte, reduceCtorEq, Nat.reduceAdd, Nat.reduceSub, Nat.reduceBEq, Nat.reduceLT, Nat.reduceMul, Nat.reducePow, Nat.reduceLeDiff]; done) | fail "no") only [go_sem, if_true, if_false, reduceIte, reduceCtorEq, Nat.reduceAdd, Nat.reduceSub, Nat.reduceBEq, Nat.reduceLT, Nat.reduceMul, Nat.reducePow, Nat.reduceLeDiff]; refine hK1 _ _ ?_; clear hK1 K1)); refine aops_nil ?_; simp only [Nx, Caught, if_true, if_false, reduceIte, Nat.reduceEqDiff]; clear gd sep)
    | (refine hK _ _ ?_; clear hK K)
    | (clear hK K)
    )
  refine region_seq fun gd sep hgd => ?_
  clear hgd
  (repeat (refine aops_cons fun K1 hK1 => ?_; simp (disch := first | with_reducible assumption | (simp -failIfUnchanged only [Mem.size_push, Mem.size_put, Mem.size_kill, List.length_cons, List.length_nil, List.length_append, List.length_map, List.length_take, List.length_replicate] <;> omega) | (refine (id ?_ : (_ : Bool) = true); simp only [go_sem, if_true, if_false, reduceIte, reduceCtorEq, Nat.reduceAdd, Nat.reduceSub, Nat.reduceBEq, Nat.reduceLT, Nat.reduceMul, Nat.reducePow, Nat.reduceLeDiff]; done) | fail "no") only [go_sem, if_true, if_false, reduceIte, reduceCtorEq, Nat.reduceAdd, Nat.reduceSub, Nat.reduceBEq, Nat.reduceLT, Nat.reduceMul, Nat.reducePow, Nat.reduceLeDiff]; refine hK1 _ _ ?_; clear hK1 K1))
  refine aops_cons fun K1 hK1 => ?_
  simp (disch := first | with_reducible assumption | (simp -failIfUnchanged only [Mem.size_push, Mem.size_put, Mem.size_kill, List.length_cons, List.length_nil, List.length_append, List.length_map, List.length_take, List.length_replicate] <;> omega) | (refine (id ?_ : (_ : Bool) = true); simp only [go_sem, if_true, if_false, reduceIte, reduceCtorEq, Nat.reduceAdd, Nat.reduceSub, Nat.reduceBEq, Nat.reduceLT, Nat.reduceMul, Nat.reducePow, Nat.reduceLeDiff]; done) | fail "no") only [go_sem, if_true, if_false, reduceIte, reduceCtorEq, Nat.reduceAdd, Nat.reduceSub, Nat.reduceBEq, Nat.reduceLT, Nat.reduceMul, Nat.reducePow, Nat.reduceLeDiff]
  refine acall rfl (szIntS_c (ha.ext (by with_reducible iterate 60 (try (first | exact Ext.refl _ | assumption | exact Ext.push _ _ | refine Ext.trans ?_ (Ext.push _ _) | (refine Ext.put ?_ (by first | omega | (simp only [Mem.size_push]; omega)) _) | (refine Ext.trans ?_ (by assumption)))))) hx.1 h0 h1) ?_
  rintro r1 m1 ⟨rfl, rfl⟩ -
  refine hK1 _ _ ?_; clear hK1 K1
  (repeat (refine aops_cons fun K1 hK1 => ?_; simp (disch := first | with_reducible assumption | (simp -failIfUnchanged only [Mem.size_push, Mem.size_put, Mem.size_kill, List.length_cons, List.length_nil, List.length_append, List.length_map, List.length_take, List.length_replicate] <;> omega) | (refine (id ?_ : (_ : Bool) = true); simp only [go_sem, if_true, if_false, reduceIte, reduceCtorEq, Nat.reduceAdd, Nat.reduceSub, Nat.reduceBEq, Nat.reduceLT, Nat.reduceMul, Nat.reducePow, Nat.reduceLeDiff]; done) | fail "no") only [go_sem, if_true, if_false, reduceIte, reduceCtorEq, Nat.reduceAdd, Nat.reduceSub, Nat.reduceBEq, Nat.reduceLT, Nat.reduceMul, Nat.reducePow, Nat.reduceLeDiff]; refine hK1 _ _ ?_; clear hK1 K1))
  refine aops_nil ?_; simp only [Nx, Caught, if_true, if_false, reduceIte, Nat.reduceEqDiff]
  try clear gd sep
  first | (refine hK _ _ ?_; clear hK K) | skip
  repeat (first
    | (refine awp_seq fun K hK => ?_)
    | (refine awp_block ?_)
    | (refine awp_skip ?_; simp only [Nx, Caught, if_true, if_false, reduceIte, Nat.reduceEqDiff])
    | (refine awp_exit ?_; simp only [Nx, Caught, if_true, if_false, reduceIte, Nat.reduceEqDiff])
    | (refine region_seq fun gd sep hgd => ?_; clear hgd; (repeat (refine aops_cons fun K1 hK1 => ?_; simp (disch := first | with_reducible assumption | (simp -failIfUnchanged only [Mem.size_push, Mem.size_put, Mem.size_kill, List.length_cons, List.length_nil, List.length_append, List.length_map, List.length_take, List.length_replicate] <;> omega) | (refine (id ?_ : (_ : Bool) = true); simp only [go_sem, if_true, if_false, reduceIte, reduceCtorEq, Nat.reduceAdd, Nat.reduceSub, Nat.reduceBEq, Nat.reduceLT, Nat.reduceMul, Nat.reducePow, Nat.reduceLeDiff]; done) | fail "no") only [go_sem, if_true, if_false, reduceIte, reduceCtorEq, Nat.reduceAdd, Nat.reduceSub, Nat.reduceBEq, Nat.reduceLT, Nat.reduceMul, Nat.reducePow, Nat.reduceLeDiff]; refine hK1 _ _ ?_; clear hK1 K1)); refine aops_nil ?_; simp only [Nx, Caught, if_true, if_false, reduceIte, Nat.reduceEqDiff]; clear gd sep)
    | (refine region_draw' mixed (by decide +kernel) fun gd sep hgd hsep => ?_; clear hgd hsep; (repeat (refine aops_cons fun K1 hK1 => ?_; simp (disch := first | with_reducible assumption | (simp -failIfUnchanged only [Mem.size_push, Mem.size_put, Mem.size_kill, List.length_cons, List.length_nil, List.length_append, List.length_map, List.length_take, List.length_replicate] <;> omega) | (refine (id ?_ : (_ : Bool) = true); simp only [go_sem, if_true, if_false, reduceIte, reduceCtorEq, Nat.reduceAdd, Nat.reduceSub, Nat.reduceBEq, Nat.reduceLT, Nat.reduceMul, Nat.reducePow, Nat.reduceLeDiff]; done) | fail "no") only [go_sem, if_true, if_false, reduceIte, reduceCtorEq, Nat.reduceAdd, Nat.reduceSub, Nat.reduceBEq, Nat.reduceLT, Nat.reduceMul, Nat.reducePow, Nat.reduceLeDiff]; refine hK1 _ _ ?_; clear hK1 K1)); refine aops_nil ?_; simp only [Nx, Caught, if_true, if_false, reduceIte, Nat.reduceEqDiff]; clear gd sep)
    | (refine hK _ _ ?_; clear hK K)
    | (clear hK K)
    )
  refine awp_if rfl (fun g => ?_) (fun g => ?_)
  · repeat (first
      | (refine awp_seq fun K hK => ?_)
      | (refine awp_block ?_)
      | (refine awp_skip ?_; simp only [Nx, Caught, if_true, if_false, reduceIte, Nat.reduceEqDiff])
      | (refine awp_exit ?_; simp only [Nx, Caught, if_true, if_false, reduceIte, Nat.reduceEqDiff])
      | (refine region_seq fun gd sep hgd => ?_; clear hgd; (repeat (refine aops_cons fun K1 hK1 => ?_; simp (disch := first | with_reducible assumption | (simp -failIfUnchanged only [Mem.size_push, Mem.size_put, Mem.size_kill, List.length_cons, List.length_nil, List.length_append, List.length_map, List.length_take, List.length_replicate] <;> omega) | (refine (id ?_ : (_ : Bool) = true); simp only [go_sem, if_true, if_false, reduceIte, reduceCtorEq, Nat.reduceAdd, Nat.reduceSub, Nat.reduceBEq, Nat.reduceLT, Nat.reduceMul, Nat.reducePow, Nat.reduceLeDiff]; done) | fail "no") only [go_sem, if_true, if_false, reduceIte, reduceCtorEq, Nat.reduceAdd, Nat.reduceSub, Nat.reduceBEq, Nat.reduceLT, Nat.reduceMul, Nat.reducePow, Nat.reduceLeDiff]; refine hK1 _ _ ?_; clear hK1 K1)); refine aops_nil ?_; simp only [Nx, Caught, if_true, if_false, reduceIte, Nat.reduceEqDiff]; clear gd sep)
      | (refine region_draw' mixed (by decide +kernel) fun gd sep hgd hsep => ?_; clear hgd hsep; (repeat (refine aops_cons fun K1 hK1 => ?_; simp (disch := first | with_reducible assumption | (simp -failIfUnchanged only [Mem.size_push, Mem.size_put, Mem.size_kill, List.length_cons, List.length_nil, List.length_append, List.length_map, List.length_take, List.length_replicate] <;> omega) | (refine (id ?_ : (_ : Bool) = true); simp only [go_sem, if_true, if_false, reduceIte, reduceCtorEq, Nat.reduceAdd, Nat.reduceSub, Nat.reduceBEq, Nat.reduceLT, Nat.reduceMul, Nat.reducePow, Nat.reduceLeDiff]; done) | fail "no") only [go_sem, if_true, if_false, reduceIte, reduceCtorEq, Nat.reduceAdd, Nat.reduceSub, Nat.reduceBEq, Nat.reduceLT, Nat.reduceMul, Nat.reducePow, Nat.reduceLeDiff]; refine hK1 _ _ ?_; clear hK1 K1)); refine aops_nil ?_; simp only [Nx, Caught, if_true, if_false, reduceIte, Nat.reduceEqDiff]; clear gd sep)
      | (refine hK _ _ ?_; clear hK K)
      | (clear hK K)
      )
    refine awp_ret ?_; try simp only [Nx, Caught]
    apply ends_ret
    · simp (disch := first | with_reducible assumption | (simp -failIfUnchanged only [Mem.size_push, Mem.size_put, Mem.size_kill, List.length_cons, List.length_nil, List.length_append, List.length_map, List.length_take, List.length_replicate] <;> omega) | (refine (id ?_ : (_ : Bool) = true); simp only [go_sem, if_true, if_false, reduceIte, reduceCtorEq, Nat.reduceAdd, Nat.reduceSub, Nat.reduceBEq, Nat.reduceLT, Nat.reduceMul, Nat.reducePow, Nat.reduceLeDiff]; done) | fail "no") only [go_sem, if_true, if_false, reduceIte, reduceCtorEq, Nat.reduceAdd, Nat.reduceSub, Nat.reduceBEq, Nat.reduceLT, Nat.reduceMul, Nat.reducePow, Nat.reduceLeDiff, aress, ares1]; exact rfl
    simp only [tupled]
    simp at g
    simp [szH, sz_neg g, sz_neg (show (-1 : Int) < 0 by omega)]
  repeat (first
    | (refine awp_seq fun K hK => ?_)
    | (refine awp_block ?_)
    | (refine awp_skip ?_; simp only [Nx, Caught, if_true, if_false, reduceIte, Nat.reduceEqDiff])
    | (refine awp_exit ?_; simp only [Nx, Caught, if_true, if_false, reduceIte, Nat.reduceEqDiff])
    | (refine region_seq fun gd sep hgd => ?_; clear hgd; (repeat (refine aops_cons fun K1 hK1 => ?_; simp (disch := first | with_reducible assumption | (simp -failIfUnchanged only [Mem.size_push, Mem.size_put, Mem.size_kill, List.length_cons, List.length_nil, List.length_append, List.length_map, List.length_take, List.length_replicate] <;> omega) | (refine (id ?_ : (_ : Bool) = true); simp only [go_sem, if_true, if_false, reduceIte, reduceCtorEq, Nat.reduceAdd, Nat.reduceSub, Nat.reduceBEq, Nat.reduceLT, Nat.reduceMul, Nat.reducePow, Nat.reduceLeDiff]; done) | fail "no") only [go_sem, if_true, if_false, reduceIte, reduceCtorEq, Nat.reduceAdd, Nat.reduceSub, Nat.reduceBEq, Nat.reduceLT, Nat.reduceMul, Nat.reducePow, Nat.reduceLeDiff]; refine hK1 _ _ ?_; clear hK1 K1)); refine aops_nil ?_; simp only [Nx, Caught, if_true, if_false, reduceIte, Nat.reduceEqDiff]; clear gd sep)
    | (refine region_draw' mixed (by decide +kernel) fun gd sep hgd hsep => ?_; clear hgd hsep; (repeat (refine aops_cons fun K1 hK1 => ?_; simp (disch := first | with_reducible assumption | (simp -failIfUnchanged only [Mem.size_push, Mem.size_put, Mem.size_kill, List.length_cons, List.length_nil, List.length_append, List.length_map, List.length_take, List.length_replicate] <;> omega) | (refine (id ?_ : (_ : Bool) = true); simp only [go_sem, if_true, if_false, reduceIte, reduceCtorEq, Nat.reduceAdd, Nat.reduceSub, Nat.reduceBEq, Nat.reduceLT, Nat.reduceMul, Nat.reducePow, Nat.reduceLeDiff]; done) | fail "no") only [go_sem, if_true, if_false, reduceIte, reduceCtorEq, Nat.reduceAdd, Nat.reduceSub, Nat.reduceBEq, Nat.reduceLT, Nat.reduceMul, Nat.reducePow, Nat.reduceLeDiff]; refine hK1 _ _ ?_; clear hK1 K1)); refine aops_nil ?_; simp only [Nx, Caught, if_true, if_false, reduceIte, Nat.reduceEqDiff]; clear gd sep)
    | (refine hK _ _ ?_; clear hK K)
    | (clear hK K)
    )
  refine region_seq fun gd sep hgd => ?_
  clear hgd
  (repeat (refine aops_cons fun K1 hK1 => ?_; simp (disch := first | with_reducible assumption | (simp -failIfUnchanged only [Mem.size_push, Mem.size_put, Mem.size_kill, List.length_cons, List.length_nil, List.length_append, List.length_map, List.length_take, List.length_replicate] <;> omega) | (refine (id ?_ : (_ : Bool) = true); simp only [go_sem, if_true, if_false, reduceIte, reduceCtorEq, Nat.reduceAdd, Nat.reduceSub, Nat.reduceBEq, Nat.reduceLT, Nat.reduceMul, Nat.reducePow, Nat.reduceLeDiff]; done) | fail "no") only [go_sem, if_true, if_false, reduceIte, reduceCtorEq, Nat.reduceAdd, Nat.reduceSub, Nat.reduceBEq, Nat.reduceLT, Nat.reduceMul, Nat.reducePow, Nat.reduceLeDiff]; refine hK1 _ _ ?_; clear hK1 K1))
  refine aops_cons fun K1 hK1 => ?_
  simp (disch := first | with_reducible assumption | (simp -failIfUnchanged only [Mem.size_push, Mem.size_put, Mem.size_kill, List.length_cons, List.length_nil, List.length_append, List.length_map, List.length_take, List.length_replicate] <;> omega) | (refine (id ?_ : (_ : Bool) = true); simp only [go_sem, if_true, if_false, reduceIte, reduceCtorEq, Nat.reduceAdd, Nat.reduceSub, Nat.reduceBEq, Nat.reduceLT, Nat.reduceMul, Nat.reducePow, Nat.reduceLeDiff]; done) | fail "no") only [go_sem, if_true, if_false, reduceIte, reduceCtorEq, Nat.reduceAdd, Nat.reduceSub, Nat.reduceBEq, Nat.reduceLT, Nat.reduceMul, Nat.reducePow, Nat.reduceLeDiff]
  refine acall rfl (szIntS_c (hb.ext (by with_reducible iterate 60 (try (first | exact Ext.refl _ | assumption | exact Ext.push _ _ | refine Ext.trans ?_ (Ext.push _ _) | (refine Ext.put ?_ (by first | omega | (simp only [Mem.size_push]; omega)) _) | (refine Ext.trans ?_ (by assumption)))))) hx.2.1 (by simp at g; omega) (by omega)) ?_
  rintro r2 m2 ⟨rfl, rfl⟩ -
  refine hK1 _ _ ?_; clear hK1 K1
  (repeat (refine aops_cons fun K1 hK1 => ?_; simp (disch := first | with_reducible assumption | (simp -failIfUnchanged only [Mem.size_push, Mem.size_put, Mem.size_kill, List.length_cons, List.length_nil, List.length_append, List.length_map, List.length_take, List.length_replicate] <;> omega) | (refine (id ?_ : (_ : Bool) = true); simp only [go_sem, if_true, if_false, reduceIte, reduceCtorEq, Nat.reduceAdd, Nat.reduceSub, Nat.reduceBEq, Nat.reduceLT, Nat.reduceMul, Nat.reducePow, Nat.reduceLeDiff]; done) | fail "no") only [go_sem, if_true, if_false, reduceIte, reduceCtorEq, Nat.reduceAdd, Nat.reduceSub, Nat.reduceBEq, Nat.reduceLT, Nat.reduceMul, Nat.reducePow, Nat.reduceLeDiff]; refine hK1 _ _ ?_; clear hK1 K1))
  refine aops_nil ?_; simp only [Nx, Caught, if_true, if_false, reduceIte, Nat.reduceEqDiff]
  try clear gd sep
  first | (refine hK _ _ ?_; clear hK K) | skip
  repeat (first
    | (refine awp_seq fun K hK => ?_)
    | (refine awp_block ?_)
    | (refine awp_skip ?_; simp only [Nx, Caught, if_true, if_false, reduceIte, Nat.reduceEqDiff])
    | (refine awp_exit ?_; simp only [Nx, Caught, if_true, if_false, reduceIte, Nat.reduceEqDiff])
    | (refine region_seq fun gd sep hgd => ?_; clear hgd; (repeat (refine aops_cons fun K1 hK1 => ?_; simp (disch := first | with_reducible assumption | (simp -failIfUnchanged only [Mem.size_push, Mem.size_put, Mem.size_kill, List.length_cons, List.length_nil, List.length_append, List.length_map, List.length_take, List.length_replicate] <;> omega) | (refine (id ?_ : (_ : Bool) = true); simp only [go_sem, if_true, if_false, reduceIte, reduceCtorEq, Nat.reduceAdd, Nat.reduceSub, Nat.reduceBEq, Nat.reduceLT, Nat.reduceMul, Nat.reducePow, Nat.reduceLeDiff]; done) | fail "no") only [go_sem, if_true, if_false, reduceIte, reduceCtorEq, Nat.reduceAdd, Nat.reduceSub, Nat.reduceBEq, Nat.reduceLT, Nat.reduceMul, Nat.reducePow, Nat.reduceLeDiff]; refine hK1 _ _ ?_; clear hK1 K1)); refine aops_nil ?_; simp only [Nx, Caught, if_true, if_false, reduceIte, Nat.reduceEqDiff]; clear gd sep)
    | (refine region_draw' mixed (by decide +kernel) fun gd sep hgd hsep => ?_; clear hgd hsep; (repeat (refine aops_cons fun K1 hK1 => ?_; simp (disch := first | with_reducible assumption | (simp -failIfUnchanged only [Mem.size_push, Mem.size_put, Mem.size_kill, List.length_cons, List.length_nil, List.length_append, List.length_map, List.length_take, List.length_replicate] <;> omega) | (refine (id ?_ : (_ : Bool) = true); simp only [go_sem, if_true, if_false, reduceIte, reduceCtorEq, Nat.reduceAdd, Nat.reduceSub, Nat.reduceBEq, Nat.reduceLT, Nat.reduceMul, Nat.reducePow, Nat.reduceLeDiff]; done) | fail "no") only [go_sem, if_true, if_false, reduceIte, reduceCtorEq, Nat.reduceAdd, Nat.reduceSub, Nat.reduceBEq, Nat.reduceLT, Nat.reduceMul, Nat.reducePow, Nat.reduceLeDiff]; refine hK1 _ _ ?_; clear hK1 K1)); refine aops_nil ?_; simp only [Nx, Caught, if_true, if_false, reduceIte, Nat.reduceEqDiff]; clear gd sep)
    | (refine hK _ _ ?_; clear hK K)
    | (clear hK K)
    )
  refine awp_if rfl (fun g' => ?_) (fun g' => ?_)
  · repeat (first
      | (refine awp_seq fun K hK => ?_)
      | (refine awp_block ?_)
      | (refine awp_skip ?_; simp only [Nx, Caught, if_true, if_false, reduceIte, Nat.reduceEqDiff])
      | (refine awp_exit ?_; simp only [Nx, Caught, if_true, if_false, reduceIte, Nat.reduceEqDiff])
      | (refine region_seq fun gd sep hgd => ?_; clear hgd; (repeat (refine aops_cons fun K1 hK1 => ?_; simp (disch := first | with_reducible assumption | (simp -failIfUnchanged only [Mem.size_push, Mem.size_put, Mem.size_kill, List.length_cons, List.length_nil, List.length_append, List.length_map, List.length_take, List.length_replicate] <;> omega) | (refine (id ?_ : (_ : Bool) = true); simp only [go_sem, if_true, if_false, reduceIte, reduceCtorEq, Nat.reduceAdd, Nat.reduceSub, Nat.reduceBEq, Nat.reduceLT, Nat.reduceMul, Nat.reducePow, Nat.reduceLeDiff]; done) | fail "no") only [go_sem, if_true, if_false, reduceIte, reduceCtorEq, Nat.reduceAdd, Nat.reduceSub, Nat.reduceBEq, Nat.reduceLT, Nat.reduceMul, Nat.reducePow, Nat.reduceLeDiff]; refine hK1 _ _ ?_; clear hK1 K1)); refine aops_nil ?_; simp only [Nx, Caught, if_true, if_false, reduceIte, Nat.reduceEqDiff]; clear gd sep)
      | (refine region_draw' mixed (by decide +kernel) fun gd sep hgd hsep => ?_; clear hgd hsep; (repeat (refine aops_cons fun K1 hK1 => ?_; simp (disch := first | with_reducible assumption | (simp -failIfUnchanged only [Mem.size_push, Mem.size_put, Mem.size_kill, List.length_cons, List.length_nil, List.length_append, List.length_map, List.length_take, List.length_replicate] <;> omega) | (refine (id ?_ : (_ : Bool) = true); simp only [go_sem, if_true, if_false, reduceIte, reduceCtorEq, Nat.reduceAdd, Nat.reduceSub, Nat.reduceBEq, Nat.reduceLT, Nat.reduceMul, Nat.reducePow, Nat.reduceLeDiff]; done) | fail "no") only [go_sem, if_true, if_false, reduceIte, reduceCtorEq, Nat.reduceAdd, Nat.reduceSub, Nat.reduceBEq, Nat.reduceLT, Nat.reduceMul, Nat.reducePow, Nat.reduceLeDiff]; refine hK1 _ _ ?_; clear hK1 K1)); refine aops_nil ?_; simp only [Nx, Caught, if_true, if_false, reduceIte, Nat.reduceEqDiff]; clear gd sep)
      | (refine hK _ _ ?_; clear hK K)
      | (clear hK K)
      )
    refine awp_ret ?_; try simp only [Nx, Caught]
    apply ends_ret
    · simp (disch := first | with_reducible assumption | (simp -failIfUnchanged only [Mem.size_push, Mem.size_put, Mem.size_kill, List.length_cons, List.length_nil, List.length_append, List.length_map, List.length_take, List.length_replicate] <;> omega) | (refine (id ?_ : (_ : Bool) = true); simp only [go_sem, if_true, if_false, reduceIte, reduceCtorEq, Nat.reduceAdd, Nat.reduceSub, Nat.reduceBEq, Nat.reduceLT, Nat.reduceMul, Nat.reducePow, Nat.reduceLeDiff]; done) | fail "no") only [go_sem, if_true, if_false, reduceIte, reduceCtorEq, Nat.reduceAdd, Nat.reduceSub, Nat.reduceBEq, Nat.reduceLT, Nat.reduceMul, Nat.reducePow, Nat.reduceLeDiff, aress, ares1]; exact rfl
    simp only [tupled]
    simp at g'
    simp [szH, sz_neg g']
  repeat (first
    | (refine awp_seq fun K hK => ?_)
    | (refine awp_block ?_)
    | (refine awp_skip ?_; simp only [Nx, Caught, if_true, if_false, reduceIte, Nat.reduceEqDiff])
    | (refine awp_exit ?_; simp only [Nx, Caught, if_true, if_false, reduceIte, Nat.reduceEqDiff])
    | (refine region_seq fun gd sep hgd => ?_; clear hgd; (repeat (refine aops_cons fun K1 hK1 => ?_; simp (disch := first | with_reducible assumption | (simp -failIfUnchanged only [Mem.size_push, Mem.size_put, Mem.size_kill, List.length_cons, List.length_nil, List.length_append, List.length_map, List.length_take, List.length_replicate] <;> omega) | (refine (id ?_ : (_ : Bool) = true); simp only [go_sem, if_true, if_false, reduceIte, reduceCtorEq, Nat.reduceAdd, Nat.reduceSub, Nat.reduceBEq, Nat.reduceLT, Nat.reduceMul, Nat.reducePow, Nat.reduceLeDiff]; done) | fail "no") only [go_sem, if_true, if_false, reduceIte, reduceCtorEq, Nat.reduceAdd, Nat.reduceSub, Nat.reduceBEq, Nat.reduceLT, Nat.reduceMul, Nat.reducePow, Nat.reduceLeDiff]; refine hK1 _ _ ?_; clear hK1 K1)); refine aops_nil ?_; simp only [Nx, Caught, if_true, if_false, reduceIte, Nat.reduceEqDiff]; clear gd sep)
    | (refine region_draw' mixed (by decide +kernel) fun gd sep hgd hsep => ?_; clear hgd hsep; (repeat (refine aops_cons fun K1 hK1 => ?_; simp (disch := first | with_reducible assumption | (simp -failIfUnchanged only [Mem.size_push, Mem.size_put, Mem.size_kill, List.length_cons, List.length_nil, List.length_append, List.length_map, List.length_take, List.length_replicate] <;> omega) | (refine (id ?_ : (_ : Bool) = true); simp only [go_sem, if_true, if_false, reduceIte, reduceCtorEq, Nat.reduceAdd, Nat.reduceSub, Nat.reduceBEq, Nat.reduceLT, Nat.reduceMul, Nat.reducePow, Nat.reduceLeDiff]; done) | fail "no") only [go_sem, if_true, if_false, reduceIte, reduceCtorEq, Nat.reduceAdd, Nat.reduceSub, Nat.reduceBEq, Nat.reduceLT, Nat.reduceMul, Nat.reducePow, Nat.reduceLeDiff]; refine hK1 _ _ ?_; clear hK1 K1)); refine aops_nil ?_; simp only [Nx, Caught, if_true, if_false, reduceIte, Nat.reduceEqDiff]; clear gd sep)
    | (refine hK _ _ ?_; clear hK K)
    | (clear hK K)
    )
  refine region_seq fun gd sep hgd => ?_
  clear hgd
  (repeat (refine aops_cons fun K1 hK1 => ?_; simp (disch := first | with_reducible assumption | (simp -failIfUnchanged only [Mem.size_push, Mem.size_put, Mem.size_kill, List.length_cons, List.length_nil, List.length_append, List.length_map, List.length_take, List.length_replicate] <;> omega) | (refine (id ?_ : (_ : Bool) = true); simp only [go_sem, if_true, if_false, reduceIte, reduceCtorEq, Nat.reduceAdd, Nat.reduceSub, Nat.reduceBEq, Nat.reduceLT, Nat.reduceMul, Nat.reducePow, Nat.reduceLeDiff]; done) | fail "no") only [go_sem, if_true, if_false, reduceIte, reduceCtorEq, Nat.reduceAdd, Nat.reduceSub, Nat.reduceBEq, Nat.reduceLT, Nat.reduceMul, Nat.reducePow, Nat.reduceLeDiff]; refine hK1 _ _ ?_; clear hK1 K1))
  refine aops_cons fun K1 hK1 => ?_
  simp (disch := first | with_reducible assumption | (simp -failIfUnchanged only [Mem.size_push, Mem.size_put, Mem.size_kill, List.length_cons, List.length_nil, List.length_append, List.length_map, List.length_take, List.length_replicate] <;> omega) | (refine (id ?_ : (_ : Bool) = true); simp only [go_sem, if_true, if_false, reduceIte, reduceCtorEq, Nat.reduceAdd, Nat.reduceSub, Nat.reduceBEq, Nat.reduceLT, Nat.reduceMul, Nat.reducePow, Nat.reduceLeDiff]; done) | fail "no") only [go_sem, if_true, if_false, reduceIte, reduceCtorEq, Nat.reduceAdd, Nat.reduceSub, Nat.reduceBEq, Nat.reduceLT, Nat.reduceMul, Nat.reducePow, Nat.reduceLeDiff]
  refine acall rfl (szIntS_c (hc.ext (by with_reducible iterate 60 (try (first | exact Ext.refl _ | assumption | exact Ext.push _ _ | refine Ext.trans ?_ (Ext.push _ _) | (refine Ext.put ?_ (by first | omega | (simp only [Mem.size_push]; omega)) _) | (refine Ext.trans ?_ (by assumption)))))) hx.2.2 (by simp at g'; omega) (by omega)) ?_
  rintro r3 m3 ⟨rfl, rfl⟩ -
  refine hK1 _ _ ?_; clear hK1 K1
  (repeat (refine aops_cons fun K1 hK1 => ?_; simp (disch := first | with_reducible assumption | (simp -failIfUnchanged only [Mem.size_push, Mem.size_put, Mem.size_kill, List.length_cons, List.length_nil, List.length_append, List.length_map, List.length_take, List.length_replicate] <;> omega) | (refine (id ?_ : (_ : Bool) = true); simp only [go_sem, if_true, if_false, reduceIte, reduceCtorEq, Nat.reduceAdd, Nat.reduceSub, Nat.reduceBEq, Nat.reduceLT, Nat.reduceMul, Nat.reducePow, Nat.reduceLeDiff]; done) | fail "no") only [go_sem, if_true, if_false, reduceIte, reduceCtorEq, Nat.reduceAdd, Nat.reduceSub, Nat.reduceBEq, Nat.reduceLT, Nat.reduceMul, Nat.reducePow, Nat.reduceLeDiff]; refine hK1 _ _ ?_; clear hK1 K1))
  refine aops_nil ?_; simp only [Nx, Caught, if_true, if_false, reduceIte, Nat.reduceEqDiff]
  try clear gd sep
  first | (refine hK _ _ ?_; clear hK K) | skip
  repeat (first
    | (refine awp_seq fun K hK => ?_)
    | (refine awp_block ?_)
    | (refine awp_skip ?_; simp only [Nx, Caught, if_true, if_false, reduceIte, Nat.reduceEqDiff])
    | (refine awp_exit ?_; simp only [Nx, Caught, if_true, if_false, reduceIte, Nat.reduceEqDiff])
    | (refine region_seq fun gd sep hgd => ?_; clear hgd; (repeat (refine aops_cons fun K1 hK1 => ?_; simp (disch := first | with_reducible assumption | (simp -failIfUnchanged only [Mem.size_push, Mem.size_put, Mem.size_kill, List.length_cons, List.length_nil, List.length_append, List.length_map, List.length_take, List.length_replicate] <;> omega) | (refine (id ?_ : (_ : Bool) = true); simp only [go_sem, if_true, if_false, reduceIte, reduceCtorEq, Nat.reduceAdd, Nat.reduceSub, Nat.reduceBEq, Nat.reduceLT, Nat.reduceMul, Nat.reducePow, Nat.reduceLeDiff]; done) | fail "no") only [go_sem, if_true, if_false, reduceIte, reduceCtorEq, Nat.reduceAdd, Nat.reduceSub, Nat.reduceBEq, Nat.reduceLT, Nat.reduceMul, Nat.reducePow, Nat.reduceLeDiff]; refine hK1 _ _ ?_; clear hK1 K1)); refine aops_nil ?_; simp only [Nx, Caught, if_true, if_false, reduceIte, Nat.reduceEqDiff]; clear gd sep)
    | (refine region_draw' mixed (by decide +kernel) fun gd sep hgd hsep => ?_; clear hgd hsep; (repeat (refine aops_cons fun K1 hK1 => ?_; simp (disch := first | with_reducible assumption | (simp -failIfUnchanged only [Mem.size_push, Mem.size_put, Mem.size_kill, List.length_cons, List.length_nil, List.length_append, List.length_map, List.length_take, List.length_replicate] <;> omega) | (refine (id ?_ : (_ : Bool) = true); simp only [go_sem, if_true, if_false, reduceIte, reduceCtorEq, Nat.reduceAdd, Nat.reduceSub, Nat.reduceBEq, Nat.reduceLT, Nat.reduceMul, Nat.reducePow, Nat.reduceLeDiff]; done) | fail "no") only [go_sem, if_true, if_false, reduceIte, reduceCtorEq, Nat.reduceAdd, Nat.reduceSub, Nat.reduceBEq, Nat.reduceLT, Nat.reduceMul, Nat.reducePow, Nat.reduceLeDiff]; refine hK1 _ _ ?_; clear hK1 K1)); refine aops_nil ?_; simp only [Nx, Caught, if_true, if_false, reduceIte, Nat.reduceEqDiff]; clear gd sep)
    | (refine hK _ _ ?_; clear hK K)
    | (clear hK K)
    )
  refine awp_if rfl (fun g' => ?_) (fun g' => ?_)
  · repeat (first
      | (refine awp_seq fun K hK => ?_)
      | (refine awp_block ?_)
      | (refine awp_skip ?_; simp only [Nx, Caught, if_true, if_false, reduceIte, Nat.reduceEqDiff])
      | (refine awp_exit ?_; simp only [Nx, Caught, if_true, if_false, reduceIte, Nat.reduceEqDiff])
      | (refine region_seq fun gd sep hgd => ?_; clear hgd; (repeat (refine aops_cons fun K1 hK1 => ?_; simp (disch := first | with_reducible assumption | (simp -failIfUnchanged only [Mem.size_push, Mem.size_put, Mem.size_kill, List.length_cons, List.length_nil, List.length_append, List.length_map, List.length_take, List.length_replicate] <;> omega) | (refine (id ?_ : (_ : Bool) = true); simp only [go_sem, if_true, if_false, reduceIte, reduceCtorEq, Nat.reduceAdd, Nat.reduceSub, Nat.reduceBEq, Nat.reduceLT, Nat.reduceMul, Nat.reducePow, Nat.reduceLeDiff]; done) | fail "no") only [go_sem, if_true, if_false, reduceIte, reduceCtorEq, Nat.reduceAdd, Nat.reduceSub, Nat.reduceBEq, Nat.reduceLT, Nat.reduceMul, Nat.reducePow, Nat.reduceLeDiff]; refine hK1 _ _ ?_; clear hK1 K1)); refine aops_nil ?_; simp only [Nx, Caught, if_true, if_false, reduceIte, Nat.reduceEqDiff]; clear gd sep)
      | (refine region_draw' mixed (by decide +kernel) fun gd sep hgd hsep => ?_; clear hgd hsep; (repeat (refine aops_cons fun K1 hK1 => ?_; simp (disch := first | with_reducible assumption | (simp -failIfUnchanged only [Mem.size_push, Mem.size_put, Mem.size_kill, List.length_cons, List.length_nil, List.length_append, List.length_map, List.length_take, List.length_replicate] <;> omega) | (refine (id ?_ : (_ : Bool) = true); simp only [go_sem, if_true, if_false, reduceIte, reduceCtorEq, Nat.reduceAdd, Nat.reduceSub, Nat.reduceBEq, Nat.reduceLT, Nat.reduceMul, Nat.reducePow, Nat.reduceLeDiff]; done) | fail "no") only [go_sem, if_true, if_false, reduceIte, reduceCtorEq, Nat.reduceAdd, Nat.reduceSub, Nat.reduceBEq, Nat.reduceLT, Nat.reduceMul, Nat.reducePow, Nat.reduceLeDiff]; refine hK1 _ _ ?_; clear hK1 K1)); refine aops_nil ?_; simp only [Nx, Caught, if_true, if_false, reduceIte, Nat.reduceEqDiff]; clear gd sep)
      | (refine hK _ _ ?_; clear hK K)
      | (clear hK K)
      )
    refine awp_ret ?_; try simp only [Nx, Caught]
    apply ends_ret
    · simp (disch := first | with_reducible assumption | (simp -failIfUnchanged only [Mem.size_push, Mem.size_put, Mem.size_kill, List.length_cons, List.length_nil, List.length_append, List.length_map, List.length_take, List.length_replicate] <;> omega) | (refine (id ?_ : (_ : Bool) = true); simp only [go_sem, if_true, if_false, reduceIte, reduceCtorEq, Nat.reduceAdd, Nat.reduceSub, Nat.reduceBEq, Nat.reduceLT, Nat.reduceMul, Nat.reducePow, Nat.reduceLeDiff]; done) | fail "no") only [go_sem, if_true, if_false, reduceIte, reduceCtorEq, Nat.reduceAdd, Nat.reduceSub, Nat.reduceBEq, Nat.reduceLT, Nat.reduceMul, Nat.reducePow, Nat.reduceLeDiff, aress, ares1]; exact rfl
    simp only [tupled]
    simp at g'
    have := sz_ge (sz (sz left h.l.length) h.r.length) h.ro.length
    simp [szH]
    omega
  · repeat (first
      | (refine awp_seq fun K hK => ?_)
      | (refine awp_block ?_)
      | (refine awp_skip ?_; simp only [Nx, Caught, if_true, if_false, reduceIte, Nat.reduceEqDiff])
      | (refine awp_exit ?_; simp only [Nx, Caught, if_true, if_false, reduceIte, Nat.reduceEqDiff])
      | (refine region_seq fun gd sep hgd => ?_; clear hgd; (repeat (refine aops_cons fun K1 hK1 => ?_; simp (disch := first | with_reducible assumption | (simp -failIfUnchanged only [Mem.size_push, Mem.size_put, Mem.size_kill, List.length_cons, List.length_nil, List.length_append, List.length_map, List.length_take, List.length_replicate] <;> omega) | (refine (id ?_ : (_ : Bool) = true); simp only [go_sem, if_true, if_false, reduceIte, reduceCtorEq, Nat.reduceAdd, Nat.reduceSub, Nat.reduceBEq, Nat.reduceLT, Nat.reduceMul, Nat.reducePow, Nat.reduceLeDiff]; done) | fail "no") only [go_sem, if_true, if_false, reduceIte, reduceCtorEq, Nat.reduceAdd, Nat.reduceSub, Nat.reduceBEq, Nat.reduceLT, Nat.reduceMul, Nat.reducePow, Nat.reduceLeDiff]; refine hK1 _ _ ?_; clear hK1 K1)); refine aops_nil ?_; simp only [Nx, Caught, if_true, if_false, reduceIte, Nat.reduceEqDiff]; clear gd sep)
      | (refine region_draw' mixed (by decide +kernel) fun gd sep hgd hsep => ?_; clear hgd hsep; (repeat (refine aops_cons fun K1 hK1 => ?_; simp (disch := first | with_reducible assumption | (simp -failIfUnchanged only [Mem.size_push, Mem.size_put, Mem.size_kill, List.length_cons, List.length_nil, List.length_append, List.length_map, List.length_take, List.length_replicate] <;> omega) | (refine (id ?_ : (_ : Bool) = true); simp only [go_sem, if_true, if_false, reduceIte, reduceCtorEq, Nat.reduceAdd, Nat.reduceSub, Nat.reduceBEq, Nat.reduceLT, Nat.reduceMul, Nat.reducePow, Nat.reduceLeDiff]; done) | fail "no") only [go_sem, if_true, if_false, reduceIte, reduceCtorEq, Nat.reduceAdd, Nat.reduceSub, Nat.reduceBEq, Nat.reduceLT, Nat.reduceMul, Nat.reducePow, Nat.reduceLeDiff]; refine hK1 _ _ ?_; clear hK1 K1)); refine aops_nil ?_; simp only [Nx, Caught, if_true, if_false, reduceIte, Nat.reduceEqDiff]; clear gd sep)
      | (refine hK _ _ ?_; clear hK K)
      | (clear hK K)
      )
    refine awp_ret ?_; try simp only [Nx, Caught]
    apply ends_ret
    · simp (disch := first | with_reducible assumption | (simp -failIfUnchanged only [Mem.size_push, Mem.size_put, Mem.size_kill, List.length_cons, List.length_nil, List.length_append, List.length_map, List.length_take, List.length_replicate] <;> omega) | (refine (id ?_ : (_ : Bool) = true); simp only [go_sem, if_true, if_false, reduceIte, reduceCtorEq, Nat.reduceAdd, Nat.reduceSub, Nat.reduceBEq, Nat.reduceLT, Nat.reduceMul, Nat.reducePow, Nat.reduceLeDiff]; done) | fail "no") only [go_sem, if_true, if_false, reduceIte, reduceCtorEq, Nat.reduceAdd, Nat.reduceSub, Nat.reduceBEq, Nat.reduceLT, Nat.reduceMul, Nat.reducePow, Nat.reduceLeDiff, aress, ares1]; exact rfl
    simp only [tupled]
    simp [szH]

theorem szGens_c {m : Mem} {v : AVal} {g : GP} {left : Int} (hv : RdG m v g) (hx : g.lens 9223372036854775807) (h0 : 0 ≤ left) (h1 : left ≤ 1099511627776) :
    ∃ r m', (r = .int .i64 (szG left g)) ∧ DCalls PP m.size 15 [v, .int .i64 left] m r m' := by
  obtain ⟨a, b, c, d, e, rfl, ha, hb, hc, hd, he⟩ := hv
  have g1 := szH_le (left := left) (h := g.h) (by omega)
  have g2 := sz_le (n := g.old.length) (szH_ge left g.h)
  refine enter Try.func15 (by decide) rfl Try.ntmps15 Try.results15 ?_
  repeat (first
    | (refine awp_seq fun K hK => ?_)
    | (refine awp_block ?_)
    | (refine awp_skip ?_; simp only [Nx, Caught, if_true, if_false, reduceIte, Nat.reduceEqDiff])
    | (refine awp_exit ?_; simp only [Nx, Caught, if_true, if_false, reduceIte, Nat.reduceEqDiff])
    | (refine region_seq fun gd sep hgd => ?_; clear hgd; (repeat (refine aops_cons fun K1 hK1 => ?_; simp (disch := first | with_reducible assumption | (simp -failIfUnchanged only [Mem.size_push, Mem.size_put, Mem.size_kill, List.length_cons, List.length_nil, List.length_append, List.length_map, List.length_take, List.length_replicate] <;> omega) | (refine (id ?_ : (_ : Bool) = true); simp only [go_sem, if_true, if_false, reduceIte, reduceCtorEq, Nat.reduceAdd, Nat.reduceSub, Nat.reduceBEq, Nat.reduceLT, Nat.reduceMul, Nat.reducePow, Nat.reduceLeDiff]; done) | fail "no") only [go_sem, if_true, if_false, reduceIte, reduceCtorEq, Nat.reduceAdd, Nat.reduceSub, Nat.reduceBEq, Nat.reduceLT, Nat.reduceMul, Nat.reducePow, Nat.reduceLeDiff]; refine hK1 _ _ ?_; clear hK1 K1)); refine aops_nil ?_; simp only [Nx, Caught, if_true, if_false, reduceIte, Nat.reduceEqDiff]; clear gd sep)
    | (refine region_draw' mixed (by decide +kernel) fun gd sep hgd hsep => ?_; clear hgd hsep; (repeat (refine aops_cons fun K1 hK1 => ?_; simp (disch := first | with_reducible assumption | (simp -failIfUnchanged only [Mem.size_push, Mem.size_put, Mem.size_kill, List.length_cons, List.length_nil, List.length_append, List.length_map, List.length_take, List.length_replicate] <;> omega) | (refine (id ?_ : (_ : Bool) = true); simp only [go_sem, if_true, if_false, reduceIte, reduceCtorEq, Nat.reduceAdd, Nat.reduceSub, Nat.reduceBEq, Nat.reduceLT, Nat.reduceMul, Nat.reducePow, Nat.reduceLeDiff]; done) | fail "no") only [go_sem, if_true, if_false, reduceIte, reduceCtorEq, Nat.reduceAdd, Nat.reduceSub, Nat.reduceBEq, Nat.reduceLT, Nat.reduceMul, Nat.reducePow, Nat.reduceLeDiff]; refine hK1 _ _ ?_; clear hK1 K1)); refine aops_nil ?_; simp only [Nx, Caught, if_true, if_false, reduceIte, Nat.reduceEqDiff]; clear gd sep)
    | (refine hK _ _ ?_; clear hK K)
    | (clear hK K)
    )
  refine region_seq fun gd sep hgd => ?_
  clear hgd
  (repeat (refine aops_cons fun K1 hK1 => ?_; simp (disch := first | with_reducible assumption | (simp -failIfUnchanged only [Mem.size_push, Mem.size_put, Mem.size_kill, List.length_cons, List.length_nil, List.length_append, List.length_map, List.length_take, List.length_replicate] <;> omega) | (refine (id ?_ : (_ : Bool) = true); simp only [go_sem, if_true, if_false, reduceIte, reduceCtorEq, Nat.reduceAdd, Nat.reduceSub, Nat.reduceBEq, Nat.reduceLT, Nat.reduceMul, Nat.reducePow, Nat.reduceLeDiff]; done) | fail "no") only [go_sem, if_true, if_false, reduceIte, reduceCtorEq, Nat.reduceAdd, Nat.reduceSub, Nat.reduceBEq, Nat.reduceLT, Nat.reduceMul, Nat.reducePow, Nat.reduceLeDiff]; refine hK1 _ _ ?_; clear hK1 K1))
  refine aops_cons fun K1 hK1 => ?_
  simp (disch := first | with_reducible assumption | (simp -failIfUnchanged only [Mem.size_push, Mem.size_put, Mem.size_kill, List.length_cons, List.length_nil, List.length_append, List.length_map, List.length_take, List.length_replicate] <;> omega) | (refine (id ?_ : (_ : Bool) = true); simp only [go_sem, if_true, if_false, reduceIte, reduceCtorEq, Nat.reduceAdd, Nat.reduceSub, Nat.reduceBEq, Nat.reduceLT, Nat.reduceMul, Nat.reducePow, Nat.reduceLeDiff]; done) | fail "no") only [go_sem, if_true, if_false, reduceIte, reduceCtorEq, Nat.reduceAdd, Nat.reduceSub, Nat.reduceBEq, Nat.reduceLT, Nat.reduceMul, Nat.reducePow, Nat.reduceLeDiff]
  refine acall rfl (szHeap_c (h := g.h) ⟨a, b, c, rfl, ha.ext (by with_reducible iterate 60 (try (first | exact Ext.refl _ | assumption | exact Ext.push _ _ | refine Ext.trans ?_ (Ext.push _ _) | (refine Ext.put ?_ (by first | omega | (simp only [Mem.size_push]; omega)) _) | (refine Ext.trans ?_ (by assumption))))), hb.ext (by with_reducible iterate 60 (try (first | exact Ext.refl _ | assumption | exact Ext.push _ _ | refine Ext.trans ?_ (Ext.push _ _) | (refine Ext.put ?_ (by first | omega | (simp only [Mem.size_push]; omega)) _) | (refine Ext.trans ?_ (by assumption))))), hc.ext (by with_reducible iterate 60 (try (first | exact Ext.refl _ | assumption | exact Ext.push _ _ | refine Ext.trans ?_ (Ext.push _ _) | (refine Ext.put ?_ (by first | omega | (simp only [Mem.size_push]; omega)) _) | (refine Ext.trans ?_ (by assumption)))))⟩ hx.1 h0 h1) ?_
  rintro r1 m1 rfl e1
  have z_e1 := e1.size; (try simp only [Mem.size_push, Mem.size_put] at z_e1)
  refine hK1 _ _ ?_; clear hK1 K1
  (repeat (refine aops_cons fun K1 hK1 => ?_; simp (disch := first | with_reducible assumption | (simp -failIfUnchanged only [Mem.size_push, Mem.size_put, Mem.size_kill, List.length_cons, List.length_nil, List.length_append, List.length_map, List.length_take, List.length_replicate] <;> omega) | (refine (id ?_ : (_ : Bool) = true); simp only [go_sem, if_true, if_false, reduceIte, reduceCtorEq, Nat.reduceAdd, Nat.reduceSub, Nat.reduceBEq, Nat.reduceLT, Nat.reduceMul, Nat.reducePow, Nat.reduceLeDiff]; done) | fail "no") only [go_sem, if_true, if_false, reduceIte, reduceCtorEq, Nat.reduceAdd, Nat.reduceSub, Nat.reduceBEq, Nat.reduceLT, Nat.reduceMul, Nat.reducePow, Nat.reduceLeDiff]; refine hK1 _ _ ?_; clear hK1 K1))
  refine aops_nil ?_; simp only [Nx, Caught, if_true, if_false, reduceIte, Nat.reduceEqDiff]
  try clear gd sep
  first | (refine hK _ _ ?_; clear hK K) | skip
  repeat (first
    | (refine awp_seq fun K hK => ?_)
    | (refine awp_block ?_)
    | (refine awp_skip ?_; simp only [Nx, Caught, if_true, if_false, reduceIte, Nat.reduceEqDiff])
    | (refine awp_exit ?_; simp only [Nx, Caught, if_true, if_false, reduceIte, Nat.reduceEqDiff])
    | (refine region_seq fun gd sep hgd => ?_; clear hgd; (repeat (refine aops_cons fun K1 hK1 => ?_; simp (disch := first | with_reducible assumption | (simp -failIfUnchanged only [Mem.size_push, Mem.size_put, Mem.size_kill, List.length_cons, List.length_nil, List.length_append, List.length_map, List.length_take, List.length_replicate] <;> omega) | (refine (id ?_ : (_ : Bool) = true); simp only [go_sem, if_true, if_false, reduceIte, reduceCtorEq, Nat.reduceAdd, Nat.reduceSub, Nat.reduceBEq, Nat.reduceLT, Nat.reduceMul, Nat.reducePow, Nat.reduceLeDiff]; done) | fail "no") only [go_sem, if_true, if_false, reduceIte, reduceCtorEq, Nat.reduceAdd, Nat.reduceSub, Nat.reduceBEq, Nat.reduceLT, Nat.reduceMul, Nat.reducePow, Nat.reduceLeDiff]; refine hK1 _ _ ?_; clear hK1 K1)); refine aops_nil ?_; simp only [Nx, Caught, if_true, if_false, reduceIte, Nat.reduceEqDiff]; clear gd sep)
    | (refine region_draw' mixed (by decide +kernel) fun gd sep hgd hsep => ?_; clear hgd hsep; (repeat (refine aops_cons fun K1 hK1 => ?_; simp (disch := first | with_reducible assumption | (simp -failIfUnchanged only [Mem.size_push, Mem.size_put, Mem.size_kill, List.length_cons, List.length_nil, List.length_append, List.length_map, List.length_take, List.length_replicate] <;> omega) | (refine (id ?_ : (_ : Bool) = true); simp only [go_sem, if_true, if_false, reduceIte, reduceCtorEq, Nat.reduceAdd, Nat.reduceSub, Nat.reduceBEq, Nat.reduceLT, Nat.reduceMul, Nat.reducePow, Nat.reduceLeDiff]; done) | fail "no") only [go_sem, if_true, if_false, reduceIte, reduceCtorEq, Nat.reduceAdd, Nat.reduceSub, Nat.reduceBEq, Nat.reduceLT, Nat.reduceMul, Nat.reducePow, Nat.reduceLeDiff]; refine hK1 _ _ ?_; clear hK1 K1)); refine aops_nil ?_; simp only [Nx, Caught, if_true, if_false, reduceIte, Nat.reduceEqDiff]; clear gd sep)
    | (refine hK _ _ ?_; clear hK K)
    | (clear hK K)
    )
  refine awp_if rfl (fun q => ?_) (fun q => ?_)
  · repeat (first
      | (refine awp_seq fun K hK => ?_)
      | (refine awp_block ?_)
      | (refine awp_skip ?_; simp only [Nx, Caught, if_true, if_false, reduceIte, Nat.reduceEqDiff])
      | (refine awp_exit ?_; simp only [Nx, Caught, if_true, if_false, reduceIte, Nat.reduceEqDiff])
      | (refine region_seq fun gd sep hgd => ?_; clear hgd; (repeat (refine aops_cons fun K1 hK1 => ?_; simp (disch := first | with_reducible assumption | (simp -failIfUnchanged only [Mem.size_push, Mem.size_put, Mem.size_kill, List.length_cons, List.length_nil, List.length_append, List.length_map, List.length_take, List.length_replicate] <;> omega) | (refine (id ?_ : (_ : Bool) = true); simp only [go_sem, if_true, if_false, reduceIte, reduceCtorEq, Nat.reduceAdd, Nat.reduceSub, Nat.reduceBEq, Nat.reduceLT, Nat.reduceMul, Nat.reducePow, Nat.reduceLeDiff]; done) | fail "no") only [go_sem, if_true, if_false, reduceIte, reduceCtorEq, Nat.reduceAdd, Nat.reduceSub, Nat.reduceBEq, Nat.reduceLT, Nat.reduceMul, Nat.reducePow, Nat.reduceLeDiff]; refine hK1 _ _ ?_; clear hK1 K1)); refine aops_nil ?_; simp only [Nx, Caught, if_true, if_false, reduceIte, Nat.reduceEqDiff]; clear gd sep)
      | (refine region_draw' mixed (by decide +kernel) fun gd sep hgd hsep => ?_; clear hgd hsep; (repeat (refine aops_cons fun K1 hK1 => ?_; simp (disch := first | with_reducible assumption | (simp -failIfUnchanged only [Mem.size_push, Mem.size_put, Mem.size_kill, List.length_cons, List.length_nil, List.length_append, List.length_map, List.length_take, List.length_replicate] <;> omega) | (refine (id ?_ : (_ : Bool) = true); simp only [go_sem, if_true, if_false, reduceIte, reduceCtorEq, Nat.reduceAdd, Nat.reduceSub, Nat.reduceBEq, Nat.reduceLT, Nat.reduceMul, Nat.reducePow, Nat.reduceLeDiff]; done) | fail "no") only [go_sem, if_true, if_false, reduceIte, reduceCtorEq, Nat.reduceAdd, Nat.reduceSub, Nat.reduceBEq, Nat.reduceLT, Nat.reduceMul, Nat.reducePow, Nat.reduceLeDiff]; refine hK1 _ _ ?_; clear hK1 K1)); refine aops_nil ?_; simp only [Nx, Caught, if_true, if_false, reduceIte, Nat.reduceEqDiff]; clear gd sep)
      | (refine hK _ _ ?_; clear hK K)
      | (clear hK K)
      )
    refine awp_ret ?_; try simp only [Nx, Caught]
    apply ends_ret
    · simp (disch := first | with_reducible assumption | (simp -failIfUnchanged only [Mem.size_push, Mem.size_put, Mem.size_kill, List.length_cons, List.length_nil, List.length_append, List.length_map, List.length_take, List.length_replicate] <;> omega) | (refine (id ?_ : (_ : Bool) = true); simp only [go_sem, if_true, if_false, reduceIte, reduceCtorEq, Nat.reduceAdd, Nat.reduceSub, Nat.reduceBEq, Nat.reduceLT, Nat.reduceMul, Nat.reducePow, Nat.reduceLeDiff]; done) | fail "no") only [go_sem, if_true, if_false, reduceIte, reduceCtorEq, Nat.reduceAdd, Nat.reduceSub, Nat.reduceBEq, Nat.reduceLT, Nat.reduceMul, Nat.reducePow, Nat.reduceLeDiff, aress, ares1]; exact rfl
    simp only [tupled]
    simp at q
    simp [szG, sz_neg q, sz_neg (show (-1 : Int) < 0 by omega)]
  have e1' : Ext m m1 := (by with_reducible iterate 60 (try (first | exact Ext.refl _ | assumption | exact Ext.push _ _ | refine Ext.trans ?_ (Ext.push _ _) | (refine Ext.put ?_ (by first | omega | (simp only [Mem.size_push]; omega)) _) | (refine Ext.trans ?_ (by assumption)))))
  repeat (first
    | (refine awp_seq fun K hK => ?_)
    | (refine awp_block ?_)
    | (refine awp_skip ?_; simp only [Nx, Caught, if_true, if_false, reduceIte, Nat.reduceEqDiff])
    | (refine awp_exit ?_; simp only [Nx, Caught, if_true, if_false, reduceIte, Nat.reduceEqDiff])
    | (refine region_seq fun gd sep hgd => ?_; clear hgd; (repeat (refine aops_cons fun K1 hK1 => ?_; simp (disch := first | with_reducible assumption | (simp -failIfUnchanged only [Mem.size_push, Mem.size_put, Mem.size_kill, List.length_cons, List.length_nil, List.length_append, List.length_map, List.length_take, List.length_replicate, e1.ald, e1.alds] <;> omega) | (refine (id ?_ : (_ : Bool) = true); simp only [go_sem, if_true, if_false, reduceIte, reduceCtorEq, Nat.reduceAdd, Nat.reduceSub, Nat.reduceBEq, Nat.reduceLT, Nat.reduceMul, Nat.reducePow, Nat.reduceLeDiff, e1.ald, e1.alds]; done) | fail "no") only [go_sem, if_true, if_false, reduceIte, reduceCtorEq, Nat.reduceAdd, Nat.reduceSub, Nat.reduceBEq, Nat.reduceLT, Nat.reduceMul, Nat.reducePow, Nat.reduceLeDiff, e1.ald, e1.alds]; refine hK1 _ _ ?_; clear hK1 K1)); refine aops_nil ?_; simp only [Nx, Caught, if_true, if_false, reduceIte, Nat.reduceEqDiff]; clear gd sep)
    | (refine region_draw' mixed (by decide +kernel) fun gd sep hgd hsep => ?_; clear hgd hsep; (repeat (refine aops_cons fun K1 hK1 => ?_; simp (disch := first | with_reducible assumption | (simp -failIfUnchanged only [Mem.size_push, Mem.size_put, Mem.size_kill, List.length_cons, List.length_nil, List.length_append, List.length_map, List.length_take, List.length_replicate, e1.ald, e1.alds] <;> omega) | (refine (id ?_ : (_ : Bool) = true); simp only [go_sem, if_true, if_false, reduceIte, reduceCtorEq, Nat.reduceAdd, Nat.reduceSub, Nat.reduceBEq, Nat.reduceLT, Nat.reduceMul, Nat.reducePow, Nat.reduceLeDiff, e1.ald, e1.alds]; done) | fail "no") only [go_sem, if_true, if_false, reduceIte, reduceCtorEq, Nat.reduceAdd, Nat.reduceSub, Nat.reduceBEq, Nat.reduceLT, Nat.reduceMul, Nat.reducePow, Nat.reduceLeDiff, e1.ald, e1.alds]; refine hK1 _ _ ?_; clear hK1 K1)); refine aops_nil ?_; simp only [Nx, Caught, if_true, if_false, reduceIte, Nat.reduceEqDiff]; clear gd sep)
    | (refine hK _ _ ?_; clear hK K)
    | (clear hK K)
    )
  refine region_seq fun gd sep hgd => ?_
  clear hgd
  (repeat (refine aops_cons fun K1 hK1 => ?_; simp (disch := first | with_reducible assumption | (simp -failIfUnchanged only [Mem.size_push, Mem.size_put, Mem.size_kill, List.length_cons, List.length_nil, List.length_append, List.length_map, List.length_take, List.length_replicate, e1.ald, e1.alds] <;> omega) | (refine (id ?_ : (_ : Bool) = true); simp only [go_sem, if_true, if_false, reduceIte, reduceCtorEq, Nat.reduceAdd, Nat.reduceSub, Nat.reduceBEq, Nat.reduceLT, Nat.reduceMul, Nat.reducePow, Nat.reduceLeDiff, e1.ald, e1.alds]; done) | fail "no") only [go_sem, if_true, if_false, reduceIte, reduceCtorEq, Nat.reduceAdd, Nat.reduceSub, Nat.reduceBEq, Nat.reduceLT, Nat.reduceMul, Nat.reducePow, Nat.reduceLeDiff, e1.ald, e1.alds]; refine hK1 _ _ ?_; clear hK1 K1))
  refine aops_cons fun K1 hK1 => ?_
  simp (disch := first | with_reducible assumption | (simp -failIfUnchanged only [Mem.size_push, Mem.size_put, Mem.size_kill, List.length_cons, List.length_nil, List.length_append, List.length_map, List.length_take, List.length_replicate] <;> omega) | (refine (id ?_ : (_ : Bool) = true); simp only [go_sem, if_true, if_false, reduceIte, reduceCtorEq, Nat.reduceAdd, Nat.reduceSub, Nat.reduceBEq, Nat.reduceLT, Nat.reduceMul, Nat.reducePow, Nat.reduceLeDiff]; done) | fail "no") only [go_sem, if_true, if_false, reduceIte, reduceCtorEq, Nat.reduceAdd, Nat.reduceSub, Nat.reduceBEq, Nat.reduceLT, Nat.reduceMul, Nat.reducePow, Nat.reduceLeDiff]
  refine acall rfl (szBoolS_c (hd.ext (by with_reducible iterate 60 (try (first | exact Ext.refl _ | assumption | exact Ext.push _ _ | refine Ext.trans ?_ (Ext.push _ _) | (refine Ext.put ?_ (by first | omega | (simp only [Mem.size_push]; omega)) _) | (refine Ext.trans ?_ (by assumption)))))) hx.2.1 (by simp at q; omega) (by omega)) ?_
  rintro r2 m2 ⟨rfl, rfl⟩ -
  refine hK1 _ _ ?_; clear hK1 K1
  (repeat (refine aops_cons fun K1 hK1 => ?_; simp (disch := first | with_reducible assumption | (simp -failIfUnchanged only [Mem.size_push, Mem.size_put, Mem.size_kill, List.length_cons, List.length_nil, List.length_append, List.length_map, List.length_take, List.length_replicate] <;> omega) | (refine (id ?_ : (_ : Bool) = true); simp only [go_sem, if_true, if_false, reduceIte, reduceCtorEq, Nat.reduceAdd, Nat.reduceSub, Nat.reduceBEq, Nat.reduceLT, Nat.reduceMul, Nat.reducePow, Nat.reduceLeDiff]; done) | fail "no") only [go_sem, if_true, if_false, reduceIte, reduceCtorEq, Nat.reduceAdd, Nat.reduceSub, Nat.reduceBEq, Nat.reduceLT, Nat.reduceMul, Nat.reducePow, Nat.reduceLeDiff]; refine hK1 _ _ ?_; clear hK1 K1))
  refine aops_nil ?_; simp only [Nx, Caught, if_true, if_false, reduceIte, Nat.reduceEqDiff]
  try clear gd sep
  first | (refine hK _ _ ?_; clear hK K) | skip
  repeat (first
    | (refine awp_seq fun K hK => ?_)
    | (refine awp_block ?_)
    | (refine awp_skip ?_; simp only [Nx, Caught, if_true, if_false, reduceIte, Nat.reduceEqDiff])
    | (refine awp_exit ?_; simp only [Nx, Caught, if_true, if_false, reduceIte, Nat.reduceEqDiff])
    | (refine region_seq fun gd sep hgd => ?_; clear hgd; (repeat (refine aops_cons fun K1 hK1 => ?_; simp (disch := first | with_reducible assumption | (simp -failIfUnchanged only [Mem.size_push, Mem.size_put, Mem.size_kill, List.length_cons, List.length_nil, List.length_append, List.length_map, List.length_take, List.length_replicate] <;> omega) | (refine (id ?_ : (_ : Bool) = true); simp only [go_sem, if_true, if_false, reduceIte, reduceCtorEq, Nat.reduceAdd, Nat.reduceSub, Nat.reduceBEq, Nat.reduceLT, Nat.reduceMul, Nat.reducePow, Nat.reduceLeDiff]; done) | fail "no") only [go_sem, if_true, if_false, reduceIte, reduceCtorEq, Nat.reduceAdd, Nat.reduceSub, Nat.reduceBEq, Nat.reduceLT, Nat.reduceMul, Nat.reducePow, Nat.reduceLeDiff]; refine hK1 _ _ ?_; clear hK1 K1)); refine aops_nil ?_; simp only [Nx, Caught, if_true, if_false, reduceIte, Nat.reduceEqDiff]; clear gd sep)
    | (refine region_draw' mixed (by decide +kernel) fun gd sep hgd hsep => ?_; clear hgd hsep; (repeat (refine aops_cons fun K1 hK1 => ?_; simp (disch := first | with_reducible assumption | (simp -failIfUnchanged only [Mem.size_push, Mem.size_put, Mem.size_kill, List.length_cons, List.length_nil, List.length_append, List.length_map, List.length_take, List.length_replicate] <;> omega) | (refine (id ?_ : (_ : Bool) = true); simp only [go_sem, if_true, if_false, reduceIte, reduceCtorEq, Nat.reduceAdd, Nat.reduceSub, Nat.reduceBEq, Nat.reduceLT, Nat.reduceMul, Nat.reducePow, Nat.reduceLeDiff]; done) | fail "no") only [go_sem, if_true, if_false, reduceIte, reduceCtorEq, Nat.reduceAdd, Nat.reduceSub, Nat.reduceBEq, Nat.reduceLT, Nat.reduceMul, Nat.reducePow, Nat.reduceLeDiff]; refine hK1 _ _ ?_; clear hK1 K1)); refine aops_nil ?_; simp only [Nx, Caught, if_true, if_false, reduceIte, Nat.reduceEqDiff]; clear gd sep)
    | (refine hK _ _ ?_; clear hK K)
    | (clear hK K)
    )
  refine awp_if rfl (fun q' => ?_) (fun q' => ?_)
  · repeat (first
      | (refine awp_seq fun K hK => ?_)
      | (refine awp_block ?_)
      | (refine awp_skip ?_; simp only [Nx, Caught, if_true, if_false, reduceIte, Nat.reduceEqDiff])
      | (refine awp_exit ?_; simp only [Nx, Caught, if_true, if_false, reduceIte, Nat.reduceEqDiff])
      | (refine region_seq fun gd sep hgd => ?_; clear hgd; (repeat (refine aops_cons fun K1 hK1 => ?_; simp (disch := first | with_reducible assumption | (simp -failIfUnchanged only [Mem.size_push, Mem.size_put, Mem.size_kill, List.length_cons, List.length_nil, List.length_append, List.length_map, List.length_take, List.length_replicate] <;> omega) | (refine (id ?_ : (_ : Bool) = true); simp only [go_sem, if_true, if_false, reduceIte, reduceCtorEq, Nat.reduceAdd, Nat.reduceSub, Nat.reduceBEq, Nat.reduceLT, Nat.reduceMul, Nat.reducePow, Nat.reduceLeDiff]; done) | fail "no") only [go_sem, if_true, if_false, reduceIte, reduceCtorEq, Nat.reduceAdd, Nat.reduceSub, Nat.reduceBEq, Nat.reduceLT, Nat.reduceMul, Nat.reducePow, Nat.reduceLeDiff]; refine hK1 _ _ ?_; clear hK1 K1)); refine aops_nil ?_; simp only [Nx, Caught, if_true, if_false, reduceIte, Nat.reduceEqDiff]; clear gd sep)
      | (refine region_draw' mixed (by decide +kernel) fun gd sep hgd hsep => ?_; clear hgd hsep; (repeat (refine aops_cons fun K1 hK1 => ?_; simp (disch := first | with_reducible assumption | (simp -failIfUnchanged only [Mem.size_push, Mem.size_put, Mem.size_kill, List.length_cons, List.length_nil, List.length_append, List.length_map, List.length_take, List.length_replicate] <;> omega) | (refine (id ?_ : (_ : Bool) = true); simp only [go_sem, if_true, if_false, reduceIte, reduceCtorEq, Nat.reduceAdd, Nat.reduceSub, Nat.reduceBEq, Nat.reduceLT, Nat.reduceMul, Nat.reducePow, Nat.reduceLeDiff]; done) | fail "no") only [go_sem, if_true, if_false, reduceIte, reduceCtorEq, Nat.reduceAdd, Nat.reduceSub, Nat.reduceBEq, Nat.reduceLT, Nat.reduceMul, Nat.reducePow, Nat.reduceLeDiff]; refine hK1 _ _ ?_; clear hK1 K1)); refine aops_nil ?_; simp only [Nx, Caught, if_true, if_false, reduceIte, Nat.reduceEqDiff]; clear gd sep)
      | (refine hK _ _ ?_; clear hK K)
      | (clear hK K)
      )
    refine awp_ret ?_; try simp only [Nx, Caught]
    apply ends_ret
    · simp (disch := first | with_reducible assumption | (simp -failIfUnchanged only [Mem.size_push, Mem.size_put, Mem.size_kill, List.length_cons, List.length_nil, List.length_append, List.length_map, List.length_take, List.length_replicate] <;> omega) | (refine (id ?_ : (_ : Bool) = true); simp only [go_sem, if_true, if_false, reduceIte, reduceCtorEq, Nat.reduceAdd, Nat.reduceSub, Nat.reduceBEq, Nat.reduceLT, Nat.reduceMul, Nat.reducePow, Nat.reduceLeDiff]; done) | fail "no") only [go_sem, if_true, if_false, reduceIte, reduceCtorEq, Nat.reduceAdd, Nat.reduceSub, Nat.reduceBEq, Nat.reduceLT, Nat.reduceMul, Nat.reducePow, Nat.reduceLeDiff, aress, ares1]; exact rfl
    simp only [tupled]
    simp at q'
    simp [szG, sz_neg q']
  repeat (first
    | (refine awp_seq fun K hK => ?_)
    | (refine awp_block ?_)
    | (refine awp_skip ?_; simp only [Nx, Caught, if_true, if_false, reduceIte, Nat.reduceEqDiff])
    | (refine awp_exit ?_; simp only [Nx, Caught, if_true, if_false, reduceIte, Nat.reduceEqDiff])
    | (refine region_seq fun gd sep hgd => ?_; clear hgd; (repeat (refine aops_cons fun K1 hK1 => ?_; simp (disch := first | with_reducible assumption | (simp -failIfUnchanged only [Mem.size_push, Mem.size_put, Mem.size_kill, List.length_cons, List.length_nil, List.length_append, List.length_map, List.length_take, List.length_replicate, e1.ald, e1.alds] <;> omega) | (refine (id ?_ : (_ : Bool) = true); simp only [go_sem, if_true, if_false, reduceIte, reduceCtorEq, Nat.reduceAdd, Nat.reduceSub, Nat.reduceBEq, Nat.reduceLT, Nat.reduceMul, Nat.reducePow, Nat.reduceLeDiff, e1.ald, e1.alds]; done) | fail "no") only [go_sem, if_true, if_false, reduceIte, reduceCtorEq, Nat.reduceAdd, Nat.reduceSub, Nat.reduceBEq, Nat.reduceLT, Nat.reduceMul, Nat.reducePow, Nat.reduceLeDiff, e1.ald, e1.alds]; refine hK1 _ _ ?_; clear hK1 K1)); refine aops_nil ?_; simp only [Nx, Caught, if_true, if_false, reduceIte, Nat.reduceEqDiff]; clear gd sep)
    | (refine region_draw' mixed (by decide +kernel) fun gd sep hgd hsep => ?_; clear hgd hsep; (repeat (refine aops_cons fun K1 hK1 => ?_; simp (disch := first | with_reducible assumption | (simp -failIfUnchanged only [Mem.size_push, Mem.size_put, Mem.size_kill, List.length_cons, List.length_nil, List.length_append, List.length_map, List.length_take, List.length_replicate, e1.ald, e1.alds] <;> omega) | (refine (id ?_ : (_ : Bool) = true); simp only [go_sem, if_true, if_false, reduceIte, reduceCtorEq, Nat.reduceAdd, Nat.reduceSub, Nat.reduceBEq, Nat.reduceLT, Nat.reduceMul, Nat.reducePow, Nat.reduceLeDiff, e1.ald, e1.alds]; done) | fail "no") only [go_sem, if_true, if_false, reduceIte, reduceCtorEq, Nat.reduceAdd, Nat.reduceSub, Nat.reduceBEq, Nat.reduceLT, Nat.reduceMul, Nat.reducePow, Nat.reduceLeDiff, e1.ald, e1.alds]; refine hK1 _ _ ?_; clear hK1 K1)); refine aops_nil ?_; simp only [Nx, Caught, if_true, if_false, reduceIte, Nat.reduceEqDiff]; clear gd sep)
    | (refine hK _ _ ?_; clear hK K)
    | (clear hK K)
    )
  refine region_seq fun gd sep hgd => ?_
  clear hgd
  (repeat (refine aops_cons fun K1 hK1 => ?_; simp (disch := first | with_reducible assumption | (simp -failIfUnchanged only [Mem.size_push, Mem.size_put, Mem.size_kill, List.length_cons, List.length_nil, List.length_append, List.length_map, List.length_take, List.length_replicate, e1.ald, e1.alds] <;> omega) | (refine (id ?_ : (_ : Bool) = true); simp only [go_sem, if_true, if_false, reduceIte, reduceCtorEq, Nat.reduceAdd, Nat.reduceSub, Nat.reduceBEq, Nat.reduceLT, Nat.reduceMul, Nat.reducePow, Nat.reduceLeDiff, e1.ald, e1.alds]; done) | fail "no") only [go_sem, if_true, if_false, reduceIte, reduceCtorEq, Nat.reduceAdd, Nat.reduceSub, Nat.reduceBEq, Nat.reduceLT, Nat.reduceMul, Nat.reducePow, Nat.reduceLeDiff, e1.ald, e1.alds]; refine hK1 _ _ ?_; clear hK1 K1))
  refine aops_cons fun K1 hK1 => ?_
  simp (disch := first | with_reducible assumption | (simp -failIfUnchanged only [Mem.size_push, Mem.size_put, Mem.size_kill, List.length_cons, List.length_nil, List.length_append, List.length_map, List.length_take, List.length_replicate] <;> omega) | (refine (id ?_ : (_ : Bool) = true); simp only [go_sem, if_true, if_false, reduceIte, reduceCtorEq, Nat.reduceAdd, Nat.reduceSub, Nat.reduceBEq, Nat.reduceLT, Nat.reduceMul, Nat.reducePow, Nat.reduceLeDiff]; done) | fail "no") only [go_sem, if_true, if_false, reduceIte, reduceCtorEq, Nat.reduceAdd, Nat.reduceSub, Nat.reduceBEq, Nat.reduceLT, Nat.reduceMul, Nat.reducePow, Nat.reduceLeDiff]
  refine acall rfl (szIntS_c (he.ext (by with_reducible iterate 60 (try (first | exact Ext.refl _ | assumption | exact Ext.push _ _ | refine Ext.trans ?_ (Ext.push _ _) | (refine Ext.put ?_ (by first | omega | (simp only [Mem.size_push]; omega)) _) | (refine Ext.trans ?_ (by assumption)))))) hx.2.2 (by simp at q'; omega) (by omega)) ?_
  rintro r3 m3 ⟨rfl, rfl⟩ -
  refine hK1 _ _ ?_; clear hK1 K1
  (repeat (refine aops_cons fun K1 hK1 => ?_; simp (disch := first | with_reducible assumption | (simp -failIfUnchanged only [Mem.size_push, Mem.size_put, Mem.size_kill, List.length_cons, List.length_nil, List.length_append, List.length_map, List.length_take, List.length_replicate] <;> omega) | (refine (id ?_ : (_ : Bool) = true); simp only [go_sem, if_true, if_false, reduceIte, reduceCtorEq, Nat.reduceAdd, Nat.reduceSub, Nat.reduceBEq, Nat.reduceLT, Nat.reduceMul, Nat.reducePow, Nat.reduceLeDiff]; done) | fail "no") only [go_sem, if_true, if_false, reduceIte, reduceCtorEq, Nat.reduceAdd, Nat.reduceSub, Nat.reduceBEq, Nat.reduceLT, Nat.reduceMul, Nat.reducePow, Nat.reduceLeDiff]; refine hK1 _ _ ?_; clear hK1 K1))
  refine aops_nil ?_; simp only [Nx, Caught, if_true, if_false, reduceIte, Nat.reduceEqDiff]
  try clear gd sep
  first | (refine hK _ _ ?_; clear hK K) | skip
  repeat (first
    | (refine awp_seq fun K hK => ?_)
    | (refine awp_block ?_)
    | (refine awp_skip ?_; simp only [Nx, Caught, if_true, if_false, reduceIte, Nat.reduceEqDiff])
    | (refine awp_exit ?_; simp only [Nx, Caught, if_true, if_false, reduceIte, Nat.reduceEqDiff])
    | (refine region_seq fun gd sep hgd => ?_; clear hgd; (repeat (refine aops_cons fun K1 hK1 => ?_; simp (disch := first | with_reducible assumption | (simp -failIfUnchanged only [Mem.size_push, Mem.size_put, Mem.size_kill, List.length_cons, List.length_nil, List.length_append, List.length_map, List.length_take, List.length_replicate] <;> omega) | (refine (id ?_ : (_ : Bool) = true); simp only [go_sem, if_true, if_false, reduceIte, reduceCtorEq, Nat.reduceAdd, Nat.reduceSub, Nat.reduceBEq, Nat.reduceLT, Nat.reduceMul, Nat.reducePow, Nat.reduceLeDiff]; done) | fail "no") only [go_sem, if_true, if_false, reduceIte, reduceCtorEq, Nat.reduceAdd, Nat.reduceSub, Nat.reduceBEq, Nat.reduceLT, Nat.reduceMul, Nat.reducePow, Nat.reduceLeDiff]; refine hK1 _ _ ?_; clear hK1 K1)); refine aops_nil ?_; simp only [Nx, Caught, if_true, if_false, reduceIte, Nat.reduceEqDiff]; clear gd sep)
    | (refine region_draw' mixed (by decide +kernel) fun gd sep hgd hsep => ?_; clear hgd hsep; (repeat (refine aops_cons fun K1 hK1 => ?_; simp (disch := first | with_reducible assumption | (simp -failIfUnchanged only [Mem.size_push, Mem.size_put, Mem.size_kill, List.length_cons, List.length_nil, List.length_append, List.length_map, List.length_take, List.length_replicate] <;> omega) | (refine (id ?_ : (_ : Bool) = true); simp only [go_sem, if_true, if_false, reduceIte, reduceCtorEq, Nat.reduceAdd, Nat.reduceSub, Nat.reduceBEq, Nat.reduceLT, Nat.reduceMul, Nat.reducePow, Nat.reduceLeDiff]; done) | fail "no") only [go_sem, if_true, if_false, reduceIte, reduceCtorEq, Nat.reduceAdd, Nat.reduceSub, Nat.reduceBEq, Nat.reduceLT, Nat.reduceMul, Nat.reducePow, Nat.reduceLeDiff]; refine hK1 _ _ ?_; clear hK1 K1)); refine aops_nil ?_; simp only [Nx, Caught, if_true, if_false, reduceIte, Nat.reduceEqDiff]; clear gd sep)
    | (refine hK _ _ ?_; clear hK K)
    | (clear hK K)
    )
  refine awp_if rfl (fun g' => ?_) (fun g' => ?_)
  · repeat (first
      | (refine awp_seq fun K hK => ?_)
      | (refine awp_block ?_)
      | (refine awp_skip ?_; simp only [Nx, Caught, if_true, if_false, reduceIte, Nat.reduceEqDiff])
      | (refine awp_exit ?_; simp only [Nx, Caught, if_true, if_false, reduceIte, Nat.reduceEqDiff])
      | (refine region_seq fun gd sep hgd => ?_; clear hgd; (repeat (refine aops_cons fun K1 hK1 => ?_; simp (disch := first | with_reducible assumption | (simp -failIfUnchanged only [Mem.size_push, Mem.size_put, Mem.size_kill, List.length_cons, List.length_nil, List.length_append, List.length_map, List.length_take, List.length_replicate] <;> omega) | (refine (id ?_ : (_ : Bool) = true); simp only [go_sem, if_true, if_false, reduceIte, reduceCtorEq, Nat.reduceAdd, Nat.reduceSub, Nat.reduceBEq, Nat.reduceLT, Nat.reduceMul, Nat.reducePow, Nat.reduceLeDiff]; done) | fail "no") only [go_sem, if_true, if_false, reduceIte, reduceCtorEq, Nat.reduceAdd, Nat.reduceSub, Nat.reduceBEq, Nat.reduceLT, Nat.reduceMul, Nat.reducePow, Nat.reduceLeDiff]; refine hK1 _ _ ?_; clear hK1 K1)); refine aops_nil ?_; simp only [Nx, Caught, if_true, if_false, reduceIte, Nat.reduceEqDiff]; clear gd sep)
      | (refine region_draw' mixed (by decide +kernel) fun gd sep hgd hsep => ?_; clear hgd hsep; (repeat (refine aops_cons fun K1 hK1 => ?_; simp (disch := first | with_reducible assumption | (simp -failIfUnchanged only [Mem.size_push, Mem.size_put, Mem.size_kill, List.length_cons, List.length_nil, List.length_append, List.length_map, List.length_take, List.length_replicate] <;> omega) | (refine (id ?_ : (_ : Bool) = true); simp only [go_sem, if_true, if_false, reduceIte, reduceCtorEq, Nat.reduceAdd, Nat.reduceSub, Nat.reduceBEq, Nat.reduceLT, Nat.reduceMul, Nat.reducePow, Nat.reduceLeDiff]; done) | fail "no") only [go_sem, if_true, if_false, reduceIte, reduceCtorEq, Nat.reduceAdd, Nat.reduceSub, Nat.reduceBEq, Nat.reduceLT, Nat.reduceMul, Nat.reducePow, Nat.reduceLeDiff]; refine hK1 _ _ ?_; clear hK1 K1)); refine aops_nil ?_; simp only [Nx, Caught, if_true, if_false, reduceIte, Nat.reduceEqDiff]; clear gd sep)
      | (refine hK _ _ ?_; clear hK K)
      | (clear hK K)
      )
    refine awp_ret ?_; try simp only [Nx, Caught]
    apply ends_ret
    · simp (disch := first | with_reducible assumption | (simp -failIfUnchanged only [Mem.size_push, Mem.size_put, Mem.size_kill, List.length_cons, List.length_nil, List.length_append, List.length_map, List.length_take, List.length_replicate] <;> omega) | (refine (id ?_ : (_ : Bool) = true); simp only [go_sem, if_true, if_false, reduceIte, reduceCtorEq, Nat.reduceAdd, Nat.reduceSub, Nat.reduceBEq, Nat.reduceLT, Nat.reduceMul, Nat.reducePow, Nat.reduceLeDiff]; done) | fail "no") only [go_sem, if_true, if_false, reduceIte, reduceCtorEq, Nat.reduceAdd, Nat.reduceSub, Nat.reduceBEq, Nat.reduceLT, Nat.reduceMul, Nat.reducePow, Nat.reduceLeDiff, aress, ares1]; exact rfl
    simp only [tupled]
    simp at g'
    have := sz_ge (sz (szH left g.h) g.old.length) g.rem.length
    simp [szG]
    omega
  · repeat (first
      | (refine awp_seq fun K hK => ?_)
      | (refine awp_block ?_)
      | (refine awp_skip ?_; simp only [Nx, Caught, if_true, if_false, reduceIte, Nat.reduceEqDiff])
      | (refine awp_exit ?_; simp only [Nx, Caught, if_true, if_false, reduceIte, Nat.reduceEqDiff])
      | (refine region_seq fun gd sep hgd => ?_; clear hgd; (repeat (refine aops_cons fun K1 hK1 => ?_; simp (disch := first | with_reducible assumption | (simp -failIfUnchanged only [Mem.size_push, Mem.size_put, Mem.size_kill, List.length_cons, List.length_nil, List.length_append, List.length_map, List.length_take, List.length_replicate] <;> omega) | (refine (id ?_ : (_ : Bool) = true); simp only [go_sem, if_true, if_false, reduceIte, reduceCtorEq, Nat.reduceAdd, Nat.reduceSub, Nat.reduceBEq, Nat.reduceLT, Nat.reduceMul, Nat.reducePow, Nat.reduceLeDiff]; done) | fail "no") only [go_sem, if_true, if_false, reduceIte, reduceCtorEq, Nat.reduceAdd, Nat.reduceSub, Nat.reduceBEq, Nat.reduceLT, Nat.reduceMul, Nat.reducePow, Nat.reduceLeDiff]; refine hK1 _ _ ?_; clear hK1 K1)); refine aops_nil ?_; simp only [Nx, Caught, if_true, if_false, reduceIte, Nat.reduceEqDiff]; clear gd sep)
      | (refine region_draw' mixed (by decide +kernel) fun gd sep hgd hsep => ?_; clear hgd hsep; (repeat (refine aops_cons fun K1 hK1 => ?_; simp (disch := first | with_reducible assumption | (simp -failIfUnchanged only [Mem.size_push, Mem.size_put, Mem.size_kill, List.length_cons, List.length_nil, List.length_append, List.length_map, List.length_take, List.length_replicate] <;> omega) | (refine (id ?_ : (_ : Bool) = true); simp only [go_sem, if_true, if_false, reduceIte, reduceCtorEq, Nat.reduceAdd, Nat.reduceSub, Nat.reduceBEq, Nat.reduceLT, Nat.reduceMul, Nat.reducePow, Nat.reduceLeDiff]; done) | fail "no") only [go_sem, if_true, if_false, reduceIte, reduceCtorEq, Nat.reduceAdd, Nat.reduceSub, Nat.reduceBEq, Nat.reduceLT, Nat.reduceMul, Nat.reducePow, Nat.reduceLeDiff]; refine hK1 _ _ ?_; clear hK1 K1)); refine aops_nil ?_; simp only [Nx, Caught, if_true, if_false, reduceIte, Nat.reduceEqDiff]; clear gd sep)
      | (refine hK _ _ ?_; clear hK K)
      | (clear hK K)
      )
    refine awp_ret ?_; try simp only [Nx, Caught]
    apply ends_ret
    · simp (disch := first | with_reducible assumption | (simp -failIfUnchanged only [Mem.size_push, Mem.size_put, Mem.size_kill, List.length_cons, List.length_nil, List.length_append, List.length_map, List.length_take, List.length_replicate] <;> omega) | (refine (id ?_ : (_ : Bool) = true); simp only [go_sem, if_true, if_false, reduceIte, reduceCtorEq, Nat.reduceAdd, Nat.reduceSub, Nat.reduceBEq, Nat.reduceLT, Nat.reduceMul, Nat.reducePow, Nat.reduceLeDiff]; done) | fail "no") only [go_sem, if_true, if_false, reduceIte, reduceCtorEq, Nat.reduceAdd, Nat.reduceSub, Nat.reduceBEq, Nat.reduceLT, Nat.reduceMul, Nat.reducePow, Nat.reduceLeDiff, aress, ares1]; exact rfl
    simp only [tupled]
    simp [szG]

/-- New lists, each in a block of its own. -/
def NewH (lo : Nat) (m : Mem) (v : AVal) (h : HP) : Prop := RdH m v h ∧ Own lo m v.cells
def NewG (lo : Nat) (m : Mem) (v : AVal) (g : GP) : Prop := RdG m v g ∧ Own lo m v.cells

theorem toHeap_c {m : Mem} {v : AVal} {h : HP} (hv : RdH m v h) (hx : h.lens 68719476736) :
    ∃ r m', NewH m.size m' r h ∧ DCalls PP m.size 25 [v] m r m' := by
  obtain ⟨a, b, c, rfl, ha, hb, hc⟩ := hv
  refine enter Try.func25 (by decide) rfl Try.ntmps25 Try.results25 ?_
  repeat (first
    | (refine awp_seq fun K hK => ?_)
    | (refine awp_block ?_)
    | (refine awp_skip ?_; simp only [Nx, Caught, if_true, if_false, reduceIte, Nat.reduceEqDiff])
    | (refine awp_exit ?_; simp only [Nx, Caught, if_true, if_false, reduceIte, Nat.reduceEqDiff])
    | (refine region_seq fun gd sep hgd => ?_; clear hgd; (repeat (refine aops_cons fun K1 hK1 => ?_; simp (disch := first | with_reducible assumption | (simp -failIfUnchanged only [Mem.size_push, Mem.size_put, Mem.size_kill, List.length_cons, List.length_nil, List.length_append, List.length_map, List.length_take, List.length_replicate] <;> omega) | (refine (id ?_ : (_ : Bool) = true); simp only [go_sem, if_true, if_false, reduceIte, reduceCtorEq, Nat.reduceAdd, Nat.reduceSub, Nat.reduceBEq, Nat.reduceLT, Nat.reduceMul, Nat.reducePow, Nat.reduceLeDiff]; done) | fail "no") only [go_sem, if_true, if_false, reduceIte, reduceCtorEq, Nat.reduceAdd, Nat.reduceSub, Nat.reduceBEq, Nat.reduceLT, Nat.reduceMul, Nat.reducePow, Nat.reduceLeDiff]; refine hK1 _ _ ?_; clear hK1 K1)); refine aops_nil ?_; simp only [Nx, Caught, if_true, if_false, reduceIte, Nat.reduceEqDiff]; clear gd sep)
    | (refine region_draw' mixed (by decide +kernel) fun gd sep hgd hsep => ?_; clear hgd hsep; (repeat (refine aops_cons fun K1 hK1 => ?_; simp (disch := first | with_reducible assumption | (simp -failIfUnchanged only [Mem.size_push, Mem.size_put, Mem.size_kill, List.length_cons, List.length_nil, List.length_append, List.length_map, List.length_take, List.length_replicate] <;> omega) | (refine (id ?_ : (_ : Bool) = true); simp only [go_sem, if_true, if_false, reduceIte, reduceCtorEq, Nat.reduceAdd, Nat.reduceSub, Nat.reduceBEq, Nat.reduceLT, Nat.reduceMul, Nat.reducePow, Nat.reduceLeDiff]; done) | fail "no") only [go_sem, if_true, if_false, reduceIte, reduceCtorEq, Nat.reduceAdd, Nat.reduceSub, Nat.reduceBEq, Nat.reduceLT, Nat.reduceMul, Nat.reducePow, Nat.reduceLeDiff]; refine hK1 _ _ ?_; clear hK1 K1)); refine aops_nil ?_; simp only [Nx, Caught, if_true, if_false, reduceIte, Nat.reduceEqDiff]; clear gd sep)
    | (refine hK _ _ ?_; clear hK K)
    | (clear hK K)
    )
  refine region_seq fun gd sep hgd => ?_
  clear hgd
  (repeat (refine aops_cons fun K1 hK1 => ?_; simp (disch := first | with_reducible assumption | (simp -failIfUnchanged only [Mem.size_push, Mem.size_put, Mem.size_kill, List.length_cons, List.length_nil, List.length_append, List.length_map, List.length_take, List.length_replicate] <;> omega) | (refine (id ?_ : (_ : Bool) = true); simp only [go_sem, if_true, if_false, reduceIte, reduceCtorEq, Nat.reduceAdd, Nat.reduceSub, Nat.reduceBEq, Nat.reduceLT, Nat.reduceMul, Nat.reducePow, Nat.reduceLeDiff]; done) | fail "no") only [go_sem, if_true, if_false, reduceIte, reduceCtorEq, Nat.reduceAdd, Nat.reduceSub, Nat.reduceBEq, Nat.reduceLT, Nat.reduceMul, Nat.reducePow, Nat.reduceLeDiff]; refine hK1 _ _ ?_; clear hK1 K1))
  refine aops_cons fun K1 hK1 => ?_
  simp (disch := first | with_reducible assumption | (simp -failIfUnchanged only [Mem.size_push, Mem.size_put, Mem.size_kill, List.length_cons, List.length_nil, List.length_append, List.length_map, List.length_take, List.length_replicate] <;> omega) | (refine (id ?_ : (_ : Bool) = true); simp only [go_sem, if_true, if_false, reduceIte, reduceCtorEq, Nat.reduceAdd, Nat.reduceSub, Nat.reduceBEq, Nat.reduceLT, Nat.reduceMul, Nat.reducePow, Nat.reduceLeDiff]; done) | fail "no") only [go_sem, if_true, if_false, reduceIte, reduceCtorEq, Nat.reduceAdd, Nat.reduceSub, Nat.reduceBEq, Nat.reduceLT, Nat.reduceMul, Nat.reducePow, Nat.reduceLeDiff]
  refine acall rfl (toIntS_c (ha.ext (by with_reducible iterate 60 (try (first | exact Ext.refl _ | assumption | exact Ext.push _ _ | refine Ext.trans ?_ (Ext.push _ _) | (refine Ext.put ?_ (by first | omega | (simp only [Mem.size_push]; omega)) _) | (refine Ext.trans ?_ (by assumption)))))) hx.1) ?_
  rintro r1 m1 ⟨rfl, rfl⟩ e1
  have z_e1 := e1.size; (try simp only [Mem.size_push, Mem.size_put] at z_e1)
  refine hK1 _ _ ?_; clear hK1 K1
  (repeat (refine aops_cons fun K1 hK1 => ?_; simp (disch := first | with_reducible assumption | (simp -failIfUnchanged only [Mem.size_push, Mem.size_put, Mem.size_kill, List.length_cons, List.length_nil, List.length_append, List.length_map, List.length_take, List.length_replicate] <;> omega) | (refine (id ?_ : (_ : Bool) = true); simp only [go_sem, if_true, if_false, reduceIte, reduceCtorEq, Nat.reduceAdd, Nat.reduceSub, Nat.reduceBEq, Nat.reduceLT, Nat.reduceMul, Nat.reducePow, Nat.reduceLeDiff]; done) | fail "no") only [go_sem, if_true, if_false, reduceIte, reduceCtorEq, Nat.reduceAdd, Nat.reduceSub, Nat.reduceBEq, Nat.reduceLT, Nat.reduceMul, Nat.reducePow, Nat.reduceLeDiff]; refine hK1 _ _ ?_; clear hK1 K1))
  refine aops_nil ?_; simp only [Nx, Caught, if_true, if_false, reduceIte, Nat.reduceEqDiff]
  try clear gd sep
  first | (refine hK _ _ ?_; clear hK K) | skip
  repeat (first
    | (refine awp_seq fun K hK => ?_)
    | (refine awp_block ?_)
    | (refine awp_skip ?_; simp only [Nx, Caught, if_true, if_false, reduceIte, Nat.reduceEqDiff])
    | (refine awp_exit ?_; simp only [Nx, Caught, if_true, if_false, reduceIte, Nat.reduceEqDiff])
    | (refine region_seq fun gd sep hgd => ?_; clear hgd; (repeat (refine aops_cons fun K1 hK1 => ?_; simp (disch := first | with_reducible assumption | (simp -failIfUnchanged only [Mem.size_push, Mem.size_put, Mem.size_kill, List.length_cons, List.length_nil, List.length_append, List.length_map, List.length_take, List.length_replicate] <;> omega) | (refine (id ?_ : (_ : Bool) = true); simp only [go_sem, if_true, if_false, reduceIte, reduceCtorEq, Nat.reduceAdd, Nat.reduceSub, Nat.reduceBEq, Nat.reduceLT, Nat.reduceMul, Nat.reducePow, Nat.reduceLeDiff]; done) | fail "no") only [go_sem, if_true, if_false, reduceIte, reduceCtorEq, Nat.reduceAdd, Nat.reduceSub, Nat.reduceBEq, Nat.reduceLT, Nat.reduceMul, Nat.reducePow, Nat.reduceLeDiff]; refine hK1 _ _ ?_; clear hK1 K1)); refine aops_nil ?_; simp only [Nx, Caught, if_true, if_false, reduceIte, Nat.reduceEqDiff]; clear gd sep)
    | (refine region_draw' mixed (by decide +kernel) fun gd sep hgd hsep => ?_; clear hgd hsep; (repeat (refine aops_cons fun K1 hK1 => ?_; simp (disch := first | with_reducible assumption | (simp -failIfUnchanged only [Mem.size_push, Mem.size_put, Mem.size_kill, List.length_cons, List.length_nil, List.length_append, List.length_map, List.length_take, List.length_replicate] <;> omega) | (refine (id ?_ : (_ : Bool) = true); simp only [go_sem, if_true, if_false, reduceIte, reduceCtorEq, Nat.reduceAdd, Nat.reduceSub, Nat.reduceBEq, Nat.reduceLT, Nat.reduceMul, Nat.reducePow, Nat.reduceLeDiff]; done) | fail "no") only [go_sem, if_true, if_false, reduceIte, reduceCtorEq, Nat.reduceAdd, Nat.reduceSub, Nat.reduceBEq, Nat.reduceLT, Nat.reduceMul, Nat.reducePow, Nat.reduceLeDiff]; refine hK1 _ _ ?_; clear hK1 K1)); refine aops_nil ?_; simp only [Nx, Caught, if_true, if_false, reduceIte, Nat.reduceEqDiff]; clear gd sep)
    | (refine hK _ _ ?_; clear hK K)
    | (clear hK K)
    )
  refine region_seq fun gd sep hgd => ?_
  clear hgd
  (repeat (refine aops_cons fun K1 hK1 => ?_; simp (disch := first | with_reducible assumption | (simp -failIfUnchanged only [Mem.size_push, Mem.size_put, Mem.size_kill, List.length_cons, List.length_nil, List.length_append, List.length_map, List.length_take, List.length_replicate] <;> omega) | (refine (id ?_ : (_ : Bool) = true); simp only [go_sem, if_true, if_false, reduceIte, reduceCtorEq, Nat.reduceAdd, Nat.reduceSub, Nat.reduceBEq, Nat.reduceLT, Nat.reduceMul, Nat.reducePow, Nat.reduceLeDiff]; done) | fail "no") only [go_sem, if_true, if_false, reduceIte, reduceCtorEq, Nat.reduceAdd, Nat.reduceSub, Nat.reduceBEq, Nat.reduceLT, Nat.reduceMul, Nat.reducePow, Nat.reduceLeDiff]; refine hK1 _ _ ?_; clear hK1 K1))
  refine aops_cons fun K1 hK1 => ?_
  simp (disch := first | with_reducible assumption | (simp -failIfUnchanged only [Mem.size_push, Mem.size_put, Mem.size_kill, List.length_cons, List.length_nil, List.length_append, List.length_map, List.length_take, List.length_replicate] <;> omega) | (refine (id ?_ : (_ : Bool) = true); simp only [go_sem, if_true, if_false, reduceIte, reduceCtorEq, Nat.reduceAdd, Nat.reduceSub, Nat.reduceBEq, Nat.reduceLT, Nat.reduceMul, Nat.reducePow, Nat.reduceLeDiff]; done) | fail "no") only [go_sem, if_true, if_false, reduceIte, reduceCtorEq, Nat.reduceAdd, Nat.reduceSub, Nat.reduceBEq, Nat.reduceLT, Nat.reduceMul, Nat.reducePow, Nat.reduceLeDiff]
  refine acall rfl (toIntS_c (hb.ext (by with_reducible iterate 60 (try (first | exact Ext.refl _ | assumption | exact Ext.push _ _ | refine Ext.trans ?_ (Ext.push _ _) | (refine Ext.put ?_ (by first | omega | (simp only [Mem.size_push]; omega)) _) | (refine Ext.trans ?_ (by assumption)))))) hx.2.1) ?_
  rintro r2 m2 ⟨rfl, rfl⟩ e2
  have z_e2 := e2.size; (try simp only [Mem.size_push, Mem.size_put] at z_e2)
  refine hK1 _ _ ?_; clear hK1 K1
  (repeat (refine aops_cons fun K1 hK1 => ?_; simp (disch := first | with_reducible assumption | (simp -failIfUnchanged only [Mem.size_push, Mem.size_put, Mem.size_kill, List.length_cons, List.length_nil, List.length_append, List.length_map, List.length_take, List.length_replicate] <;> omega) | (refine (id ?_ : (_ : Bool) = true); simp only [go_sem, if_true, if_false, reduceIte, reduceCtorEq, Nat.reduceAdd, Nat.reduceSub, Nat.reduceBEq, Nat.reduceLT, Nat.reduceMul, Nat.reducePow, Nat.reduceLeDiff]; done) | fail "no") only [go_sem, if_true, if_false, reduceIte, reduceCtorEq, Nat.reduceAdd, Nat.reduceSub, Nat.reduceBEq, Nat.reduceLT, Nat.reduceMul, Nat.reducePow, Nat.reduceLeDiff]; refine hK1 _ _ ?_; clear hK1 K1))
  refine aops_nil ?_; simp only [Nx, Caught, if_true, if_false, reduceIte, Nat.reduceEqDiff]
  try clear gd sep
  first | (refine hK _ _ ?_; clear hK K) | skip
  repeat (first
    | (refine awp_seq fun K hK => ?_)
    | (refine awp_block ?_)
    | (refine awp_skip ?_; simp only [Nx, Caught, if_true, if_false, reduceIte, Nat.reduceEqDiff])
    | (refine awp_exit ?_; simp only [Nx, Caught, if_true, if_false, reduceIte, Nat.reduceEqDiff])
    | (refine region_seq fun gd sep hgd => ?_; clear hgd; (repeat (refine aops_cons fun K1 hK1 => ?_; simp (disch := first | with_reducible assumption | (simp -failIfUnchanged only [Mem.size_push, Mem.size_put, Mem.size_kill, List.length_cons, List.length_nil, List.length_append, List.length_map, List.length_take, List.length_replicate] <;> omega) | (refine (id ?_ : (_ : Bool) = true); simp only [go_sem, if_true, if_false, reduceIte, reduceCtorEq, Nat.reduceAdd, Nat.reduceSub, Nat.reduceBEq, Nat.reduceLT, Nat.reduceMul, Nat.reducePow, Nat.reduceLeDiff]; done) | fail "no") only [go_sem, if_true, if_false, reduceIte, reduceCtorEq, Nat.reduceAdd, Nat.reduceSub, Nat.reduceBEq, Nat.reduceLT, Nat.reduceMul, Nat.reducePow, Nat.reduceLeDiff]; refine hK1 _ _ ?_; clear hK1 K1)); refine aops_nil ?_; simp only [Nx, Caught, if_true, if_false, reduceIte, Nat.reduceEqDiff]; clear gd sep)
    | (refine region_draw' mixed (by decide +kernel) fun gd sep hgd hsep => ?_; clear hgd hsep; (repeat (refine aops_cons fun K1 hK1 => ?_; simp (disch := first | with_reducible assumption | (simp -failIfUnchanged only [Mem.size_push, Mem.size_put, Mem.size_kill, List.length_cons, List.length_nil, List.length_append, List.length_map, List.length_take, List.length_replicate] <;> omega) | (refine (id ?_ : (_ : Bool) = true); simp only [go_sem, if_true, if_false, reduceIte, reduceCtorEq, Nat.reduceAdd, Nat.reduceSub, Nat.reduceBEq, Nat.reduceLT, Nat.reduceMul, Nat.reducePow, Nat.reduceLeDiff]; done) | fail "no") only [go_sem, if_true, if_false, reduceIte, reduceCtorEq, Nat.reduceAdd, Nat.reduceSub, Nat.reduceBEq, Nat.reduceLT, Nat.reduceMul, Nat.reducePow, Nat.reduceLeDiff]; refine hK1 _ _ ?_; clear hK1 K1)); refine aops_nil ?_; simp only [Nx, Caught, if_true, if_false, reduceIte, Nat.reduceEqDiff]; clear gd sep)
    | (refine hK _ _ ?_; clear hK K)
    | (clear hK K)
    )
  refine region_seq fun gd sep hgd => ?_
  clear hgd
  (repeat (refine aops_cons fun K1 hK1 => ?_; simp (disch := first | with_reducible assumption | (simp -failIfUnchanged only [Mem.size_push, Mem.size_put, Mem.size_kill, List.length_cons, List.length_nil, List.length_append, List.length_map, List.length_take, List.length_replicate] <;> omega) | (refine (id ?_ : (_ : Bool) = true); simp only [go_sem, if_true, if_false, reduceIte, reduceCtorEq, Nat.reduceAdd, Nat.reduceSub, Nat.reduceBEq, Nat.reduceLT, Nat.reduceMul, Nat.reducePow, Nat.reduceLeDiff]; done) | fail "no") only [go_sem, if_true, if_false, reduceIte, reduceCtorEq, Nat.reduceAdd, Nat.reduceSub, Nat.reduceBEq, Nat.reduceLT, Nat.reduceMul, Nat.reducePow, Nat.reduceLeDiff]; refine hK1 _ _ ?_; clear hK1 K1))
  refine aops_cons fun K1 hK1 => ?_
  simp (disch := first | with_reducible assumption | (simp -failIfUnchanged only [Mem.size_push, Mem.size_put, Mem.size_kill, List.length_cons, List.length_nil, List.length_append, List.length_map, List.length_take, List.length_replicate] <;> omega) | (refine (id ?_ : (_ : Bool) = true); simp only [go_sem, if_true, if_false, reduceIte, reduceCtorEq, Nat.reduceAdd, Nat.reduceSub, Nat.reduceBEq, Nat.reduceLT, Nat.reduceMul, Nat.reducePow, Nat.reduceLeDiff]; done) | fail "no") only [go_sem, if_true, if_false, reduceIte, reduceCtorEq, Nat.reduceAdd, Nat.reduceSub, Nat.reduceBEq, Nat.reduceLT, Nat.reduceMul, Nat.reducePow, Nat.reduceLeDiff]
  refine acall rfl (toIntS_c (hc.ext (by with_reducible iterate 60 (try (first | exact Ext.refl _ | assumption | exact Ext.push _ _ | refine Ext.trans ?_ (Ext.push _ _) | (refine Ext.put ?_ (by first | omega | (simp only [Mem.size_push]; omega)) _) | (refine Ext.trans ?_ (by assumption)))))) hx.2.2) ?_
  rintro r3 m3 ⟨rfl, rfl⟩ e3
  have z_e3 := e3.size; (try simp only [Mem.size_push, Mem.size_put] at z_e3)
  refine hK1 _ _ ?_; clear hK1 K1
  (repeat (refine aops_cons fun K1 hK1 => ?_; simp (disch := first | with_reducible assumption | (simp -failIfUnchanged only [Mem.size_push, Mem.size_put, Mem.size_kill, List.length_cons, List.length_nil, List.length_append, List.length_map, List.length_take, List.length_replicate] <;> omega) | (refine (id ?_ : (_ : Bool) = true); simp only [go_sem, if_true, if_false, reduceIte, reduceCtorEq, Nat.reduceAdd, Nat.reduceSub, Nat.reduceBEq, Nat.reduceLT, Nat.reduceMul, Nat.reducePow, Nat.reduceLeDiff]; done) | fail "no") only [go_sem, if_true, if_false, reduceIte, reduceCtorEq, Nat.reduceAdd, Nat.reduceSub, Nat.reduceBEq, Nat.reduceLT, Nat.reduceMul, Nat.reducePow, Nat.reduceLeDiff]; refine hK1 _ _ ?_; clear hK1 K1))
  refine aops_nil ?_; simp only [Nx, Caught, if_true, if_false, reduceIte, Nat.reduceEqDiff]
  try clear gd sep
  first | (refine hK _ _ ?_; clear hK K) | skip
  repeat (first
    | (refine awp_seq fun K hK => ?_)
    | (refine awp_block ?_)
    | (refine awp_skip ?_; simp only [Nx, Caught, if_true, if_false, reduceIte, Nat.reduceEqDiff])
    | (refine awp_exit ?_; simp only [Nx, Caught, if_true, if_false, reduceIte, Nat.reduceEqDiff])
    | (refine region_seq fun gd sep hgd => ?_; clear hgd; (repeat (refine aops_cons fun K1 hK1 => ?_; simp (disch := first | with_reducible assumption | (simp -failIfUnchanged only [Mem.size_push, Mem.size_put, Mem.size_kill, List.length_cons, List.length_nil, List.length_append, List.length_map, List.length_take, List.length_replicate] <;> omega) | (refine (id ?_ : (_ : Bool) = true); simp only [go_sem, if_true, if_false, reduceIte, reduceCtorEq, Nat.reduceAdd, Nat.reduceSub, Nat.reduceBEq, Nat.reduceLT, Nat.reduceMul, Nat.reducePow, Nat.reduceLeDiff]; done) | fail "no") only [go_sem, if_true, if_false, reduceIte, reduceCtorEq, Nat.reduceAdd, Nat.reduceSub, Nat.reduceBEq, Nat.reduceLT, Nat.reduceMul, Nat.reducePow, Nat.reduceLeDiff]; refine hK1 _ _ ?_; clear hK1 K1)); refine aops_nil ?_; simp only [Nx, Caught, if_true, if_false, reduceIte, Nat.reduceEqDiff]; clear gd sep)
    | (refine region_draw' mixed (by decide +kernel) fun gd sep hgd hsep => ?_; clear hgd hsep; (repeat (refine aops_cons fun K1 hK1 => ?_; simp (disch := first | with_reducible assumption | (simp -failIfUnchanged only [Mem.size_push, Mem.size_put, Mem.size_kill, List.length_cons, List.length_nil, List.length_append, List.length_map, List.length_take, List.length_replicate] <;> omega) | (refine (id ?_ : (_ : Bool) = true); simp only [go_sem, if_true, if_false, reduceIte, reduceCtorEq, Nat.reduceAdd, Nat.reduceSub, Nat.reduceBEq, Nat.reduceLT, Nat.reduceMul, Nat.reducePow, Nat.reduceLeDiff]; done) | fail "no") only [go_sem, if_true, if_false, reduceIte, reduceCtorEq, Nat.reduceAdd, Nat.reduceSub, Nat.reduceBEq, Nat.reduceLT, Nat.reduceMul, Nat.reducePow, Nat.reduceLeDiff]; refine hK1 _ _ ?_; clear hK1 K1)); refine aops_nil ?_; simp only [Nx, Caught, if_true, if_false, reduceIte, Nat.reduceEqDiff]; clear gd sep)
    | (refine hK _ _ ?_; clear hK K)
    | (clear hK K)
    )
  refine awp_ret ?_; try simp only [Nx, Caught]
  apply ends_ret
  · simp (disch := first | with_reducible assumption | (simp -failIfUnchanged only [Mem.size_push, Mem.size_put, Mem.size_kill, List.length_cons, List.length_nil, List.length_append, List.length_map, List.length_take, List.length_replicate] <;> omega) | (refine (id ?_ : (_ : Bool) = true); simp only [go_sem, if_true, if_false, reduceIte, reduceCtorEq, Nat.reduceAdd, Nat.reduceSub, Nat.reduceBEq, Nat.reduceLT, Nat.reduceMul, Nat.reducePow, Nat.reduceLeDiff]; done) | fail "no") only [go_sem, if_true, if_false, reduceIte, reduceCtorEq, Nat.reduceAdd, Nat.reduceSub, Nat.reduceBEq, Nat.reduceLT, Nat.reduceMul, Nat.reducePow, Nat.reduceLeDiff, aress, ares1]; exact rfl
  simp only [tupled]
  exact ⟨⟨_, _, _, rfl, Rd.at (by simp <;> omega) (by simp), Rd.at (by simp <;> omega) (by simp), Rd.at (by simp) (by simp)⟩, ⟨by simp [AVal.cells, blkOf], by
    simp [AVal.cells, blkOf]
    omega⟩⟩

theorem toGens_c {m : Mem} {v : AVal} {g : GP} (hv : RdG m v g) (hx : g.lens 68719476736) :
    ∃ r m', NewG m.size m' r g ∧ DCalls PP m.size 17 [v] m r m' := by
  obtain ⟨a, b, c, d, e, rfl, ha, hb, hc, hd, he⟩ := hv
  refine enter Try.func17 (by decide) rfl Try.ntmps17 Try.results17 ?_
  repeat (first
    | (refine awp_seq fun K hK => ?_)
    | (refine awp_block ?_)
    | (refine awp_skip ?_; simp only [Nx, Caught, if_true, if_false, reduceIte, Nat.reduceEqDiff])
    | (refine awp_exit ?_; simp only [Nx, Caught, if_true, if_false, reduceIte, Nat.reduceEqDiff])
    | (refine region_seq fun gd sep hgd => ?_; clear hgd; (repeat (refine aops_cons fun K1 hK1 => ?_; simp (disch := first | with_reducible assumption | (simp -failIfUnchanged only [Mem.size_push, Mem.size_put, Mem.size_kill, List.length_cons, List.length_nil, List.length_append, List.length_map, List.length_take, List.length_replicate] <;> omega) | (refine (id ?_ : (_ : Bool) = true); simp only [go_sem, if_true, if_false, reduceIte, reduceCtorEq, Nat.reduceAdd, Nat.reduceSub, Nat.reduceBEq, Nat.reduceLT, Nat.reduceMul, Nat.reducePow, Nat.reduceLeDiff]; done) | fail "no") only [go_sem, if_true, if_false, reduceIte, reduceCtorEq, Nat.reduceAdd, Nat.reduceSub, Nat.reduceBEq, Nat.reduceLT, Nat.reduceMul, Nat.reducePow, Nat.reduceLeDiff]; refine hK1 _ _ ?_; clear hK1 K1)); refine aops_nil ?_; simp only [Nx, Caught, if_true, if_false, reduceIte, Nat.reduceEqDiff]; clear gd sep)
    | (refine region_draw' mixed (by decide +kernel) fun gd sep hgd hsep => ?_; clear hgd hsep; (repeat (refine aops_cons fun K1 hK1 => ?_; simp (disch := first | with_reducible assumption | (simp -failIfUnchanged only [Mem.size_push, Mem.size_put, Mem.size_kill, List.length_cons, List.length_nil, List.length_append, List.length_map, List.length_take, List.length_replicate] <;> omega) | (refine (id ?_ : (_ : Bool) = true); simp only [go_sem, if_true, if_false, reduceIte, reduceCtorEq, Nat.reduceAdd, Nat.reduceSub, Nat.reduceBEq, Nat.reduceLT, Nat.reduceMul, Nat.reducePow, Nat.reduceLeDiff]; done) | fail "no") only [go_sem, if_true, if_false, reduceIte, reduceCtorEq, Nat.reduceAdd, Nat.reduceSub, Nat.reduceBEq, Nat.reduceLT, Nat.reduceMul, Nat.reducePow, Nat.reduceLeDiff]; refine hK1 _ _ ?_; clear hK1 K1)); refine aops_nil ?_; simp only [Nx, Caught, if_true, if_false, reduceIte, Nat.reduceEqDiff]; clear gd sep)
    | (refine hK _ _ ?_; clear hK K)
    | (clear hK K)
    )
  refine region_seq fun gd sep hgd => ?_
  clear hgd
  (repeat (refine aops_cons fun K1 hK1 => ?_; simp (disch := first | with_reducible assumption | (simp -failIfUnchanged only [Mem.size_push, Mem.size_put, Mem.size_kill, List.length_cons, List.length_nil, List.length_append, List.length_map, List.length_take, List.length_replicate] <;> omega) | (refine (id ?_ : (_ : Bool) = true); simp only [go_sem, if_true, if_false, reduceIte, reduceCtorEq, Nat.reduceAdd, Nat.reduceSub, Nat.reduceBEq, Nat.reduceLT, Nat.reduceMul, Nat.reducePow, Nat.reduceLeDiff]; done) | fail "no") only [go_sem, if_true, if_false, reduceIte, reduceCtorEq, Nat.reduceAdd, Nat.reduceSub, Nat.reduceBEq, Nat.reduceLT, Nat.reduceMul, Nat.reducePow, Nat.reduceLeDiff]; refine hK1 _ _ ?_; clear hK1 K1))
  refine aops_cons fun K1 hK1 => ?_
  simp (disch := first | with_reducible assumption | (simp -failIfUnchanged only [Mem.size_push, Mem.size_put, Mem.size_kill, List.length_cons, List.length_nil, List.length_append, List.length_map, List.length_take, List.length_replicate] <;> omega) | (refine (id ?_ : (_ : Bool) = true); simp only [go_sem, if_true, if_false, reduceIte, reduceCtorEq, Nat.reduceAdd, Nat.reduceSub, Nat.reduceBEq, Nat.reduceLT, Nat.reduceMul, Nat.reducePow, Nat.reduceLeDiff]; done) | fail "no") only [go_sem, if_true, if_false, reduceIte, reduceCtorEq, Nat.reduceAdd, Nat.reduceSub, Nat.reduceBEq, Nat.reduceLT, Nat.reduceMul, Nat.reducePow, Nat.reduceLeDiff]
  refine acall rfl (toHeap_c (h := g.h) ⟨a, b, c, rfl, ha.ext (by with_reducible iterate 60 (try (first | exact Ext.refl _ | assumption | exact Ext.push _ _ | refine Ext.trans ?_ (Ext.push _ _) | (refine Ext.put ?_ (by first | omega | (simp only [Mem.size_push]; omega)) _) | (refine Ext.trans ?_ (by assumption))))), hb.ext (by with_reducible iterate 60 (try (first | exact Ext.refl _ | assumption | exact Ext.push _ _ | refine Ext.trans ?_ (Ext.push _ _) | (refine Ext.put ?_ (by first | omega | (simp only [Mem.size_push]; omega)) _) | (refine Ext.trans ?_ (by assumption))))), hc.ext (by with_reducible iterate 60 (try (first | exact Ext.refl _ | assumption | exact Ext.push _ _ | refine Ext.trans ?_ (Ext.push _ _) | (refine Ext.put ?_ (by first | omega | (simp only [Mem.size_push]; omega)) _) | (refine Ext.trans ?_ (by assumption)))))⟩ hx.1) ?_
  rintro r1 m1 ⟨⟨a1, b1, c1, rfl, q1, q2, q3⟩, o1⟩ e1
  have z_e1 := e1.size; (try simp only [Mem.size_push, Mem.size_put] at z_e1)
  refine hK1 _ _ ?_; clear hK1 K1
  have z1 := e1.size
  simp only [Mem.size_push] at z1
  (repeat (refine aops_cons fun K1 hK1 => ?_; simp (disch := first | with_reducible assumption | (simp -failIfUnchanged only [Mem.size_push, Mem.size_put, Mem.size_kill, List.length_cons, List.length_nil, List.length_append, List.length_map, List.length_take, List.length_replicate, e1.asts, q1.one, q2.one, q3.one] <;> omega) | (refine (id ?_ : (_ : Bool) = true); simp only [go_sem, if_true, if_false, reduceIte, reduceCtorEq, Nat.reduceAdd, Nat.reduceSub, Nat.reduceBEq, Nat.reduceLT, Nat.reduceMul, Nat.reducePow, Nat.reduceLeDiff, e1.asts, q1.one, q2.one, q3.one]; done) | fail "no") only [go_sem, if_true, if_false, reduceIte, reduceCtorEq, Nat.reduceAdd, Nat.reduceSub, Nat.reduceBEq, Nat.reduceLT, Nat.reduceMul, Nat.reducePow, Nat.reduceLeDiff, e1.asts, q1.one, q2.one, q3.one]; refine hK1 _ _ ?_; clear hK1 K1))
  refine aops_nil ?_; simp only [Nx, Caught, if_true, if_false, reduceIte, Nat.reduceEqDiff]
  try clear gd sep
  first | (refine hK _ _ ?_; clear hK K) | skip
  repeat (first
    | (refine awp_seq fun K hK => ?_)
    | (refine awp_block ?_)
    | (refine awp_skip ?_; simp only [Nx, Caught, if_true, if_false, reduceIte, Nat.reduceEqDiff])
    | (refine awp_exit ?_; simp only [Nx, Caught, if_true, if_false, reduceIte, Nat.reduceEqDiff])
    | (refine region_seq fun gd sep hgd => ?_; clear hgd; (repeat (refine aops_cons fun K1 hK1 => ?_; simp (disch := first | with_reducible assumption | (simp -failIfUnchanged only [Mem.size_push, Mem.size_put, Mem.size_kill, List.length_cons, List.length_nil, List.length_append, List.length_map, List.length_take, List.length_replicate, e1.ald, e1.alds] <;> omega) | (refine (id ?_ : (_ : Bool) = true); simp only [go_sem, if_true, if_false, reduceIte, reduceCtorEq, Nat.reduceAdd, Nat.reduceSub, Nat.reduceBEq, Nat.reduceLT, Nat.reduceMul, Nat.reducePow, Nat.reduceLeDiff, e1.ald, e1.alds]; done) | fail "no") only [go_sem, if_true, if_false, reduceIte, reduceCtorEq, Nat.reduceAdd, Nat.reduceSub, Nat.reduceBEq, Nat.reduceLT, Nat.reduceMul, Nat.reducePow, Nat.reduceLeDiff, e1.ald, e1.alds]; refine hK1 _ _ ?_; clear hK1 K1)); refine aops_nil ?_; simp only [Nx, Caught, if_true, if_false, reduceIte, Nat.reduceEqDiff]; clear gd sep)
    | (refine region_draw' mixed (by decide +kernel) fun gd sep hgd hsep => ?_; clear hgd hsep; (repeat (refine aops_cons fun K1 hK1 => ?_; simp (disch := first | with_reducible assumption | (simp -failIfUnchanged only [Mem.size_push, Mem.size_put, Mem.size_kill, List.length_cons, List.length_nil, List.length_append, List.length_map, List.length_take, List.length_replicate, e1.ald, e1.alds] <;> omega) | (refine (id ?_ : (_ : Bool) = true); simp only [go_sem, if_true, if_false, reduceIte, reduceCtorEq, Nat.reduceAdd, Nat.reduceSub, Nat.reduceBEq, Nat.reduceLT, Nat.reduceMul, Nat.reducePow, Nat.reduceLeDiff, e1.ald, e1.alds]; done) | fail "no") only [go_sem, if_true, if_false, reduceIte, reduceCtorEq, Nat.reduceAdd, Nat.reduceSub, Nat.reduceBEq, Nat.reduceLT, Nat.reduceMul, Nat.reducePow, Nat.reduceLeDiff, e1.ald, e1.alds]; refine hK1 _ _ ?_; clear hK1 K1)); refine aops_nil ?_; simp only [Nx, Caught, if_true, if_false, reduceIte, Nat.reduceEqDiff]; clear gd sep)
    | (refine hK _ _ ?_; clear hK K)
    | (clear hK K)
    )
  refine region_seq fun gd sep hgd => ?_
  clear hgd
  (repeat (refine aops_cons fun K1 hK1 => ?_; simp (disch := first | with_reducible assumption | (simp -failIfUnchanged only [Mem.size_push, Mem.size_put, Mem.size_kill, List.length_cons, List.length_nil, List.length_append, List.length_map, List.length_take, List.length_replicate, e1.ald, e1.alds] <;> omega) | (refine (id ?_ : (_ : Bool) = true); simp only [go_sem, if_true, if_false, reduceIte, reduceCtorEq, Nat.reduceAdd, Nat.reduceSub, Nat.reduceBEq, Nat.reduceLT, Nat.reduceMul, Nat.reducePow, Nat.reduceLeDiff, e1.ald, e1.alds]; done) | fail "no") only [go_sem, if_true, if_false, reduceIte, reduceCtorEq, Nat.reduceAdd, Nat.reduceSub, Nat.reduceBEq, Nat.reduceLT, Nat.reduceMul, Nat.reducePow, Nat.reduceLeDiff, e1.ald, e1.alds]; refine hK1 _ _ ?_; clear hK1 K1))
  refine aops_cons fun K1 hK1 => ?_
  simp (disch := first | with_reducible assumption | (simp -failIfUnchanged only [Mem.size_push, Mem.size_put, Mem.size_kill, List.length_cons, List.length_nil, List.length_append, List.length_map, List.length_take, List.length_replicate] <;> omega) | (refine (id ?_ : (_ : Bool) = true); simp only [go_sem, if_true, if_false, reduceIte, reduceCtorEq, Nat.reduceAdd, Nat.reduceSub, Nat.reduceBEq, Nat.reduceLT, Nat.reduceMul, Nat.reducePow, Nat.reduceLeDiff]; done) | fail "no") only [go_sem, if_true, if_false, reduceIte, reduceCtorEq, Nat.reduceAdd, Nat.reduceSub, Nat.reduceBEq, Nat.reduceLT, Nat.reduceMul, Nat.reducePow, Nat.reduceLeDiff]
  refine acall rfl (toBoolS_c (hd.ext (by with_reducible iterate 60 (try (first | exact Ext.refl _ | assumption | exact Ext.push _ _ | refine Ext.trans ?_ (Ext.push _ _) | (refine Ext.put ?_ (by first | omega | (simp only [Mem.size_push]; omega)) _) | (refine Ext.trans ?_ (by assumption)))))) hx.2.1) ?_
  rintro r2 m2 ⟨rfl, rfl⟩ e2
  have z_e2 := e2.size; (try simp only [Mem.size_push, Mem.size_put] at z_e2)
  refine hK1 _ _ ?_; clear hK1 K1
  (repeat (refine aops_cons fun K1 hK1 => ?_; simp (disch := first | with_reducible assumption | (simp -failIfUnchanged only [Mem.size_push, Mem.size_put, Mem.size_kill, List.length_cons, List.length_nil, List.length_append, List.length_map, List.length_take, List.length_replicate, e1.asts, q1.one, q2.one, q3.one] <;> omega) | (refine (id ?_ : (_ : Bool) = true); simp only [go_sem, if_true, if_false, reduceIte, reduceCtorEq, Nat.reduceAdd, Nat.reduceSub, Nat.reduceBEq, Nat.reduceLT, Nat.reduceMul, Nat.reducePow, Nat.reduceLeDiff, e1.asts, q1.one, q2.one, q3.one]; done) | fail "no") only [go_sem, if_true, if_false, reduceIte, reduceCtorEq, Nat.reduceAdd, Nat.reduceSub, Nat.reduceBEq, Nat.reduceLT, Nat.reduceMul, Nat.reducePow, Nat.reduceLeDiff, e1.asts, q1.one, q2.one, q3.one]; refine hK1 _ _ ?_; clear hK1 K1))
  refine aops_nil ?_; simp only [Nx, Caught, if_true, if_false, reduceIte, Nat.reduceEqDiff]
  try clear gd sep
  first | (refine hK _ _ ?_; clear hK K) | skip
  repeat (first
    | (refine awp_seq fun K hK => ?_)
    | (refine awp_block ?_)
    | (refine awp_skip ?_; simp only [Nx, Caught, if_true, if_false, reduceIte, Nat.reduceEqDiff])
    | (refine awp_exit ?_; simp only [Nx, Caught, if_true, if_false, reduceIte, Nat.reduceEqDiff])
    | (refine region_seq fun gd sep hgd => ?_; clear hgd; (repeat (refine aops_cons fun K1 hK1 => ?_; simp (disch := first | with_reducible assumption | (simp -failIfUnchanged only [Mem.size_push, Mem.size_put, Mem.size_kill, List.length_cons, List.length_nil, List.length_append, List.length_map, List.length_take, List.length_replicate, e1.ald, e1.alds] <;> omega) | (refine (id ?_ : (_ : Bool) = true); simp only [go_sem, if_true, if_false, reduceIte, reduceCtorEq, Nat.reduceAdd, Nat.reduceSub, Nat.reduceBEq, Nat.reduceLT, Nat.reduceMul, Nat.reducePow, Nat.reduceLeDiff, e1.ald, e1.alds]; done) | fail "no") only [go_sem, if_true, if_false, reduceIte, reduceCtorEq, Nat.reduceAdd, Nat.reduceSub, Nat.reduceBEq, Nat.reduceLT, Nat.reduceMul, Nat.reducePow, Nat.reduceLeDiff, e1.ald, e1.alds]; refine hK1 _ _ ?_; clear hK1 K1)); refine aops_nil ?_; simp only [Nx, Caught, if_true, if_false, reduceIte, Nat.reduceEqDiff]; clear gd sep)
    | (refine region_draw' mixed (by decide +kernel) fun gd sep hgd hsep => ?_; clear hgd hsep; (repeat (refine aops_cons fun K1 hK1 => ?_; simp (disch := first | with_reducible assumption | (simp -failIfUnchanged only [Mem.size_push, Mem.size_put, Mem.size_kill, List.length_cons, List.length_nil, List.length_append, List.length_map, List.length_take, List.length_replicate, e1.ald, e1.alds] <;> omega) | (refine (id ?_ : (_ : Bool) = true); simp only [go_sem, if_true, if_false, reduceIte, reduceCtorEq, Nat.reduceAdd, Nat.reduceSub, Nat.reduceBEq, Nat.reduceLT, Nat.reduceMul, Nat.reducePow, Nat.reduceLeDiff, e1.ald, e1.alds]; done) | fail "no") only [go_sem, if_true, if_false, reduceIte, reduceCtorEq, Nat.reduceAdd, Nat.reduceSub, Nat.reduceBEq, Nat.reduceLT, Nat.reduceMul, Nat.reducePow, Nat.reduceLeDiff, e1.ald, e1.alds]; refine hK1 _ _ ?_; clear hK1 K1)); refine aops_nil ?_; simp only [Nx, Caught, if_true, if_false, reduceIte, Nat.reduceEqDiff]; clear gd sep)
    | (refine hK _ _ ?_; clear hK K)
    | (clear hK K)
    )
  refine region_seq fun gd sep hgd => ?_
  clear hgd
  (repeat (refine aops_cons fun K1 hK1 => ?_; simp (disch := first | with_reducible assumption | (simp -failIfUnchanged only [Mem.size_push, Mem.size_put, Mem.size_kill, List.length_cons, List.length_nil, List.length_append, List.length_map, List.length_take, List.length_replicate, e1.ald, e1.alds] <;> omega) | (refine (id ?_ : (_ : Bool) = true); simp only [go_sem, if_true, if_false, reduceIte, reduceCtorEq, Nat.reduceAdd, Nat.reduceSub, Nat.reduceBEq, Nat.reduceLT, Nat.reduceMul, Nat.reducePow, Nat.reduceLeDiff, e1.ald, e1.alds]; done) | fail "no") only [go_sem, if_true, if_false, reduceIte, reduceCtorEq, Nat.reduceAdd, Nat.reduceSub, Nat.reduceBEq, Nat.reduceLT, Nat.reduceMul, Nat.reducePow, Nat.reduceLeDiff, e1.ald, e1.alds]; refine hK1 _ _ ?_; clear hK1 K1))
  refine aops_cons fun K1 hK1 => ?_
  simp (disch := first | with_reducible assumption | (simp -failIfUnchanged only [Mem.size_push, Mem.size_put, Mem.size_kill, List.length_cons, List.length_nil, List.length_append, List.length_map, List.length_take, List.length_replicate] <;> omega) | (refine (id ?_ : (_ : Bool) = true); simp only [go_sem, if_true, if_false, reduceIte, reduceCtorEq, Nat.reduceAdd, Nat.reduceSub, Nat.reduceBEq, Nat.reduceLT, Nat.reduceMul, Nat.reducePow, Nat.reduceLeDiff]; done) | fail "no") only [go_sem, if_true, if_false, reduceIte, reduceCtorEq, Nat.reduceAdd, Nat.reduceSub, Nat.reduceBEq, Nat.reduceLT, Nat.reduceMul, Nat.reducePow, Nat.reduceLeDiff]
  refine acall rfl (toIntS_c (he.ext (by with_reducible iterate 60 (try (first | exact Ext.refl _ | assumption | exact Ext.push _ _ | refine Ext.trans ?_ (Ext.push _ _) | (refine Ext.put ?_ (by first | omega | (simp only [Mem.size_push]; omega)) _) | (refine Ext.trans ?_ (by assumption)))))) hx.2.2) ?_
  rintro r3 m3 ⟨rfl, rfl⟩ e3
  have z_e3 := e3.size; (try simp only [Mem.size_push, Mem.size_put] at z_e3)
  refine hK1 _ _ ?_; clear hK1 K1
  (repeat (refine aops_cons fun K1 hK1 => ?_; simp (disch := first | with_reducible assumption | (simp -failIfUnchanged only [Mem.size_push, Mem.size_put, Mem.size_kill, List.length_cons, List.length_nil, List.length_append, List.length_map, List.length_take, List.length_replicate, e1.asts, q1.one, q2.one, q3.one] <;> omega) | (refine (id ?_ : (_ : Bool) = true); simp only [go_sem, if_true, if_false, reduceIte, reduceCtorEq, Nat.reduceAdd, Nat.reduceSub, Nat.reduceBEq, Nat.reduceLT, Nat.reduceMul, Nat.reducePow, Nat.reduceLeDiff, e1.asts, q1.one, q2.one, q3.one]; done) | fail "no") only [go_sem, if_true, if_false, reduceIte, reduceCtorEq, Nat.reduceAdd, Nat.reduceSub, Nat.reduceBEq, Nat.reduceLT, Nat.reduceMul, Nat.reducePow, Nat.reduceLeDiff, e1.asts, q1.one, q2.one, q3.one]; refine hK1 _ _ ?_; clear hK1 K1))
  refine aops_nil ?_; simp only [Nx, Caught, if_true, if_false, reduceIte, Nat.reduceEqDiff]
  try clear gd sep
  first | (refine hK _ _ ?_; clear hK K) | skip
  repeat (first
    | (refine awp_seq fun K hK => ?_)
    | (refine awp_block ?_)
    | (refine awp_skip ?_; simp only [Nx, Caught, if_true, if_false, reduceIte, Nat.reduceEqDiff])
    | (refine awp_exit ?_; simp only [Nx, Caught, if_true, if_false, reduceIte, Nat.reduceEqDiff])
    | (refine region_seq fun gd sep hgd => ?_; clear hgd; (repeat (refine aops_cons fun K1 hK1 => ?_; simp (disch := first | with_reducible assumption | (simp -failIfUnchanged only [Mem.size_push, Mem.size_put, Mem.size_kill, List.length_cons, List.length_nil, List.length_append, List.length_map, List.length_take, List.length_replicate, e1.ald, e1.alds, e1.asts, q1.one, q2.one, q3.one] <;> omega) | (refine (id ?_ : (_ : Bool) = true); simp only [go_sem, if_true, if_false, reduceIte, reduceCtorEq, Nat.reduceAdd, Nat.reduceSub, Nat.reduceBEq, Nat.reduceLT, Nat.reduceMul, Nat.reducePow, Nat.reduceLeDiff, e1.ald, e1.alds, e1.asts, q1.one, q2.one, q3.one]; done) | fail "no") only [go_sem, if_true, if_false, reduceIte, reduceCtorEq, Nat.reduceAdd, Nat.reduceSub, Nat.reduceBEq, Nat.reduceLT, Nat.reduceMul, Nat.reducePow, Nat.reduceLeDiff, e1.ald, e1.alds, e1.asts, q1.one, q2.one, q3.one]; refine hK1 _ _ ?_; clear hK1 K1)); refine aops_nil ?_; simp only [Nx, Caught, if_true, if_false, reduceIte, Nat.reduceEqDiff]; clear gd sep)
    | (refine region_draw' mixed (by decide +kernel) fun gd sep hgd hsep => ?_; clear hgd hsep; (repeat (refine aops_cons fun K1 hK1 => ?_; simp (disch := first | with_reducible assumption | (simp -failIfUnchanged only [Mem.size_push, Mem.size_put, Mem.size_kill, List.length_cons, List.length_nil, List.length_append, List.length_map, List.length_take, List.length_replicate, e1.ald, e1.alds, e1.asts, q1.one, q2.one, q3.one] <;> omega) | (refine (id ?_ : (_ : Bool) = true); simp only [go_sem, if_true, if_false, reduceIte, reduceCtorEq, Nat.reduceAdd, Nat.reduceSub, Nat.reduceBEq, Nat.reduceLT, Nat.reduceMul, Nat.reducePow, Nat.reduceLeDiff, e1.ald, e1.alds, e1.asts, q1.one, q2.one, q3.one]; done) | fail "no") only [go_sem, if_true, if_false, reduceIte, reduceCtorEq, Nat.reduceAdd, Nat.reduceSub, Nat.reduceBEq, Nat.reduceLT, Nat.reduceMul, Nat.reducePow, Nat.reduceLeDiff, e1.ald, e1.alds, e1.asts, q1.one, q2.one, q3.one]; refine hK1 _ _ ?_; clear hK1 K1)); refine aops_nil ?_; simp only [Nx, Caught, if_true, if_false, reduceIte, Nat.reduceEqDiff]; clear gd sep)
    | (refine hK _ _ ?_; clear hK K)
    | (clear hK K)
    )
  refine awp_ret ?_; try simp only [Nx, Caught]
  apply ends_ret
  · simp (disch := first | with_reducible assumption | (simp -failIfUnchanged only [Mem.size_push, Mem.size_put, Mem.size_kill, List.length_cons, List.length_nil, List.length_append, List.length_map, List.length_take, List.length_replicate, e1.ald, e1.alds] <;> omega) | (refine (id ?_ : (_ : Bool) = true); simp only [go_sem, if_true, if_false, reduceIte, reduceCtorEq, Nat.reduceAdd, Nat.reduceSub, Nat.reduceBEq, Nat.reduceLT, Nat.reduceMul, Nat.reducePow, Nat.reduceLeDiff, e1.ald, e1.alds]; done) | fail "no") only [go_sem, if_true, if_false, reduceIte, reduceCtorEq, Nat.reduceAdd, Nat.reduceSub, Nat.reduceBEq, Nat.reduceLT, Nat.reduceMul, Nat.reducePow, Nat.reduceLeDiff, e1.ald, e1.alds, aress, ares1]; exact rfl
  simp only [tupled]
  simp only [Mem.size_push] at o1
  have lt := fun n hn => (o1.rw n hn).2.1
  refine ⟨⟨a1, b1, c1, _, _, rfl, q1.keep (o1.from' (by simp [AVal.cells])) ?kp, q2.keep (o1.from' (by simp [AVal.cells])) ?kp, q3.keep (o1.from' (by simp [AVal.cells])) ?kp, Rd.at (by simp <;> omega) (by simp), Rd.at (by simp) (by simp)⟩,
    ((o1.keep ?kp).mono (by omega)).app (mid := m1.size) (ws := [_, _]) ⟨by simp [blkOf], by simp [blkOf] <;> omega⟩ (by omega) lt⟩
  exact ⟨by (try simp only [Mem.size_push, Mem.size_put]); omega, fun n h1 h2 => by (try simp only [Mem.size_push, Mem.size_put] at h1 h2); simp (disch := (first | omega | (simp only [Mem.size_push, Mem.size_put]; omega) | fail "no")) only [blk_old, blk_other]⟩

theorem eqHeap_c {m : Mem} {v w : AVal} {x y : HP} (hv : RdH m v x) (hw : RdH m w y) (hx : x.lens 1099511627776) :
    ∃ r m', (r = .bool (x.same y)) ∧ DCalls PP m.size 28 [v, w] m r m' := by
  obtain ⟨a, b, c, rfl, ha, hb, hc⟩ := hv
  obtain ⟨a', b', c', rfl, ha', hb', hc'⟩ := hw
  refine enter Try.func28 (by decide) rfl Try.ntmps28 Try.results28 ?_
  repeat (first
    | (refine awp_seq fun K hK => ?_)
    | (refine awp_block ?_)
    | (refine awp_skip ?_; simp only [Nx, Caught, if_true, if_false, reduceIte, Nat.reduceEqDiff])
    | (refine awp_exit ?_; simp only [Nx, Caught, if_true, if_false, reduceIte, Nat.reduceEqDiff])
    | (refine region_seq fun gd sep hgd => ?_; clear hgd; (repeat (refine aops_cons fun K1 hK1 => ?_; simp (disch := first | with_reducible assumption | (simp -failIfUnchanged only [Mem.size_push, Mem.size_put, Mem.size_kill, List.length_cons, List.length_nil, List.length_append, List.length_map, List.length_take, List.length_replicate] <;> omega) | (refine (id ?_ : (_ : Bool) = true); simp only [go_sem, if_true, if_false, reduceIte, reduceCtorEq, Nat.reduceAdd, Nat.reduceSub, Nat.reduceBEq, Nat.reduceLT, Nat.reduceMul, Nat.reducePow, Nat.reduceLeDiff]; done) | fail "no") only [go_sem, if_true, if_false, reduceIte, reduceCtorEq, Nat.reduceAdd, Nat.reduceSub, Nat.reduceBEq, Nat.reduceLT, Nat.reduceMul, Nat.reducePow, Nat.reduceLeDiff]; refine hK1 _ _ ?_; clear hK1 K1)); refine aops_nil ?_; simp only [Nx, Caught, if_true, if_false, reduceIte, Nat.reduceEqDiff]; clear gd sep)
    | (refine region_draw' mixed (by decide +kernel) fun gd sep hgd hsep => ?_; clear hgd hsep; (repeat (refine aops_cons fun K1 hK1 => ?_; simp (disch := first | with_reducible assumption | (simp -failIfUnchanged only [Mem.size_push, Mem.size_put, Mem.size_kill, List.length_cons, List.length_nil, List.length_append, List.length_map, List.length_take, List.length_replicate] <;> omega) | (refine (id ?_ : (_ : Bool) = true); simp only [go_sem, if_true, if_false, reduceIte, reduceCtorEq, Nat.reduceAdd, Nat.reduceSub, Nat.reduceBEq, Nat.reduceLT, Nat.reduceMul, Nat.reducePow, Nat.reduceLeDiff]; done) | fail "no") only [go_sem, if_true, if_false, reduceIte, reduceCtorEq, Nat.reduceAdd, Nat.reduceSub, Nat.reduceBEq, Nat.reduceLT, Nat.reduceMul, Nat.reducePow, Nat.reduceLeDiff]; refine hK1 _ _ ?_; clear hK1 K1)); refine aops_nil ?_; simp only [Nx, Caught, if_true, if_false, reduceIte, Nat.reduceEqDiff]; clear gd sep)
    | (refine hK _ _ ?_; clear hK K)
    | (clear hK K)
    )
  refine region_seq fun gd sep hgd => ?_
  clear hgd
  (repeat (refine aops_cons fun K1 hK1 => ?_; simp (disch := first | with_reducible assumption | (simp -failIfUnchanged only [Mem.size_push, Mem.size_put, Mem.size_kill, List.length_cons, List.length_nil, List.length_append, List.length_map, List.length_take, List.length_replicate] <;> omega) | (refine (id ?_ : (_ : Bool) = true); simp only [go_sem, if_true, if_false, reduceIte, reduceCtorEq, Nat.reduceAdd, Nat.reduceSub, Nat.reduceBEq, Nat.reduceLT, Nat.reduceMul, Nat.reducePow, Nat.reduceLeDiff]; done) | fail "no") only [go_sem, if_true, if_false, reduceIte, reduceCtorEq, Nat.reduceAdd, Nat.reduceSub, Nat.reduceBEq, Nat.reduceLT, Nat.reduceMul, Nat.reducePow, Nat.reduceLeDiff]; refine hK1 _ _ ?_; clear hK1 K1))
  refine aops_cons fun K1 hK1 => ?_
  simp (disch := first | with_reducible assumption | (simp -failIfUnchanged only [Mem.size_push, Mem.size_put, Mem.size_kill, List.length_cons, List.length_nil, List.length_append, List.length_map, List.length_take, List.length_replicate] <;> omega) | (refine (id ?_ : (_ : Bool) = true); simp only [go_sem, if_true, if_false, reduceIte, reduceCtorEq, Nat.reduceAdd, Nat.reduceSub, Nat.reduceBEq, Nat.reduceLT, Nat.reduceMul, Nat.reducePow, Nat.reduceLeDiff]; done) | fail "no") only [go_sem, if_true, if_false, reduceIte, reduceCtorEq, Nat.reduceAdd, Nat.reduceSub, Nat.reduceBEq, Nat.reduceLT, Nat.reduceMul, Nat.reducePow, Nat.reduceLeDiff]
  refine acall rfl (eqIntS_c (ha.ext (by with_reducible iterate 60 (try (first | exact Ext.refl _ | assumption | exact Ext.push _ _ | refine Ext.trans ?_ (Ext.push _ _) | (refine Ext.put ?_ (by first | omega | (simp only [Mem.size_push]; omega)) _) | (refine Ext.trans ?_ (by assumption)))))) (ha'.ext (by with_reducible iterate 60 (try (first | exact Ext.refl _ | assumption | exact Ext.push _ _ | refine Ext.trans ?_ (Ext.push _ _) | (refine Ext.put ?_ (by first | omega | (simp only [Mem.size_push]; omega)) _) | (refine Ext.trans ?_ (by assumption)))))) hx.1) ?_
  rintro r1 m1 ⟨rfl, rfl⟩ -
  refine hK1 _ _ ?_; clear hK1 K1
  (repeat (refine aops_cons fun K1 hK1 => ?_; simp (disch := first | with_reducible assumption | (simp -failIfUnchanged only [Mem.size_push, Mem.size_put, Mem.size_kill, List.length_cons, List.length_nil, List.length_append, List.length_map, List.length_take, List.length_replicate] <;> omega) | (refine (id ?_ : (_ : Bool) = true); simp only [go_sem, if_true, if_false, reduceIte, reduceCtorEq, Nat.reduceAdd, Nat.reduceSub, Nat.reduceBEq, Nat.reduceLT, Nat.reduceMul, Nat.reducePow, Nat.reduceLeDiff]; done) | fail "no") only [go_sem, if_true, if_false, reduceIte, reduceCtorEq, Nat.reduceAdd, Nat.reduceSub, Nat.reduceBEq, Nat.reduceLT, Nat.reduceMul, Nat.reducePow, Nat.reduceLeDiff]; refine hK1 _ _ ?_; clear hK1 K1))
  refine aops_nil ?_; simp only [Nx, Caught, if_true, if_false, reduceIte, Nat.reduceEqDiff]
  try clear gd sep
  first | (refine hK _ _ ?_; clear hK K) | skip
  repeat (first
    | (refine awp_seq fun K hK => ?_)
    | (refine awp_block ?_)
    | (refine awp_skip ?_; simp only [Nx, Caught, if_true, if_false, reduceIte, Nat.reduceEqDiff])
    | (refine awp_exit ?_; simp only [Nx, Caught, if_true, if_false, reduceIte, Nat.reduceEqDiff])
    | (refine region_seq fun gd sep hgd => ?_; clear hgd; (repeat (refine aops_cons fun K1 hK1 => ?_; simp (disch := first | with_reducible assumption | (simp -failIfUnchanged only [Mem.size_push, Mem.size_put, Mem.size_kill, List.length_cons, List.length_nil, List.length_append, List.length_map, List.length_take, List.length_replicate] <;> omega) | (refine (id ?_ : (_ : Bool) = true); simp only [go_sem, if_true, if_false, reduceIte, reduceCtorEq, Nat.reduceAdd, Nat.reduceSub, Nat.reduceBEq, Nat.reduceLT, Nat.reduceMul, Nat.reducePow, Nat.reduceLeDiff]; done) | fail "no") only [go_sem, if_true, if_false, reduceIte, reduceCtorEq, Nat.reduceAdd, Nat.reduceSub, Nat.reduceBEq, Nat.reduceLT, Nat.reduceMul, Nat.reducePow, Nat.reduceLeDiff]; refine hK1 _ _ ?_; clear hK1 K1)); refine aops_nil ?_; simp only [Nx, Caught, if_true, if_false, reduceIte, Nat.reduceEqDiff]; clear gd sep)
    | (refine region_draw' mixed (by decide +kernel) fun gd sep hgd hsep => ?_; clear hgd hsep; (repeat (refine aops_cons fun K1 hK1 => ?_; simp (disch := first | with_reducible assumption | (simp -failIfUnchanged only [Mem.size_push, Mem.size_put, Mem.size_kill, List.length_cons, List.length_nil, List.length_append, List.length_map, List.length_take, List.length_replicate] <;> omega) | (refine (id ?_ : (_ : Bool) = true); simp only [go_sem, if_true, if_false, reduceIte, reduceCtorEq, Nat.reduceAdd, Nat.reduceSub, Nat.reduceBEq, Nat.reduceLT, Nat.reduceMul, Nat.reducePow, Nat.reduceLeDiff]; done) | fail "no") only [go_sem, if_true, if_false, reduceIte, reduceCtorEq, Nat.reduceAdd, Nat.reduceSub, Nat.reduceBEq, Nat.reduceLT, Nat.reduceMul, Nat.reducePow, Nat.reduceLeDiff]; refine hK1 _ _ ?_; clear hK1 K1)); refine aops_nil ?_; simp only [Nx, Caught, if_true, if_false, reduceIte, Nat.reduceEqDiff]; clear gd sep)
    | (refine hK _ _ ?_; clear hK K)
    | (clear hK K)
    )
  refine awp_if rfl (fun g => ?_) (fun g => ?_)
  · repeat (first
      | (refine awp_seq fun K hK => ?_)
      | (refine awp_block ?_)
      | (refine awp_skip ?_; simp only [Nx, Caught, if_true, if_false, reduceIte, Nat.reduceEqDiff])
      | (refine awp_exit ?_; simp only [Nx, Caught, if_true, if_false, reduceIte, Nat.reduceEqDiff])
      | (refine region_seq fun gd sep hgd => ?_; clear hgd; (repeat (refine aops_cons fun K1 hK1 => ?_; simp (disch := first | with_reducible assumption | (simp -failIfUnchanged only [Mem.size_push, Mem.size_put, Mem.size_kill, List.length_cons, List.length_nil, List.length_append, List.length_map, List.length_take, List.length_replicate] <;> omega) | (refine (id ?_ : (_ : Bool) = true); simp only [go_sem, if_true, if_false, reduceIte, reduceCtorEq, Nat.reduceAdd, Nat.reduceSub, Nat.reduceBEq, Nat.reduceLT, Nat.reduceMul, Nat.reducePow, Nat.reduceLeDiff]; done) | fail "no") only [go_sem, if_true, if_false, reduceIte, reduceCtorEq, Nat.reduceAdd, Nat.reduceSub, Nat.reduceBEq, Nat.reduceLT, Nat.reduceMul, Nat.reducePow, Nat.reduceLeDiff]; refine hK1 _ _ ?_; clear hK1 K1)); refine aops_nil ?_; simp only [Nx, Caught, if_true, if_false, reduceIte, Nat.reduceEqDiff]; clear gd sep)
      | (refine region_draw' mixed (by decide +kernel) fun gd sep hgd hsep => ?_; clear hgd hsep; (repeat (refine aops_cons fun K1 hK1 => ?_; simp (disch := first | with_reducible assumption | (simp -failIfUnchanged only [Mem.size_push, Mem.size_put, Mem.size_kill, List.length_cons, List.length_nil, List.length_append, List.length_map, List.length_take, List.length_replicate] <;> omega) | (refine (id ?_ : (_ : Bool) = true); simp only [go_sem, if_true, if_false, reduceIte, reduceCtorEq, Nat.reduceAdd, Nat.reduceSub, Nat.reduceBEq, Nat.reduceLT, Nat.reduceMul, Nat.reducePow, Nat.reduceLeDiff]; done) | fail "no") only [go_sem, if_true, if_false, reduceIte, reduceCtorEq, Nat.reduceAdd, Nat.reduceSub, Nat.reduceBEq, Nat.reduceLT, Nat.reduceMul, Nat.reducePow, Nat.reduceLeDiff]; refine hK1 _ _ ?_; clear hK1 K1)); refine aops_nil ?_; simp only [Nx, Caught, if_true, if_false, reduceIte, Nat.reduceEqDiff]; clear gd sep)
      | (refine hK _ _ ?_; clear hK K)
      | (clear hK K)
      )
    refine awp_ret ?_; try simp only [Nx, Caught]
    apply ends_ret
    · simp (disch := first | with_reducible assumption | (simp -failIfUnchanged only [Mem.size_push, Mem.size_put, Mem.size_kill, List.length_cons, List.length_nil, List.length_append, List.length_map, List.length_take, List.length_replicate] <;> omega) | (refine (id ?_ : (_ : Bool) = true); simp only [go_sem, if_true, if_false, reduceIte, reduceCtorEq, Nat.reduceAdd, Nat.reduceSub, Nat.reduceBEq, Nat.reduceLT, Nat.reduceMul, Nat.reducePow, Nat.reduceLeDiff]; done) | fail "no") only [go_sem, if_true, if_false, reduceIte, reduceCtorEq, Nat.reduceAdd, Nat.reduceSub, Nat.reduceBEq, Nat.reduceLT, Nat.reduceMul, Nat.reducePow, Nat.reduceLeDiff, aress, ares1]; exact rfl
    simp only [tupled]
    simp at g
    simp [HP.same, g]
  repeat (first
    | (refine awp_seq fun K hK => ?_)
    | (refine awp_block ?_)
    | (refine awp_skip ?_; simp only [Nx, Caught, if_true, if_false, reduceIte, Nat.reduceEqDiff])
    | (refine awp_exit ?_; simp only [Nx, Caught, if_true, if_false, reduceIte, Nat.reduceEqDiff])
    | (refine region_seq fun gd sep hgd => ?_; clear hgd; (repeat (refine aops_cons fun K1 hK1 => ?_; simp (disch := first | with_reducible assumption | (simp -failIfUnchanged only [Mem.size_push, Mem.size_put, Mem.size_kill, List.length_cons, List.length_nil, List.length_append, List.length_map, List.length_take, List.length_replicate] <;> omega) | (refine (id ?_ : (_ : Bool) = true); simp only [go_sem, if_true, if_false, reduceIte, reduceCtorEq, Nat.reduceAdd, Nat.reduceSub, Nat.reduceBEq, Nat.reduceLT, Nat.reduceMul, Nat.reducePow, Nat.reduceLeDiff]; done) | fail "no") only [go_sem, if_true, if_false, reduceIte, reduceCtorEq, Nat.reduceAdd, Nat.reduceSub, Nat.reduceBEq, Nat.reduceLT, Nat.reduceMul, Nat.reducePow, Nat.reduceLeDiff]; refine hK1 _ _ ?_; clear hK1 K1)); refine aops_nil ?_; simp only [Nx, Caught, if_true, if_false, reduceIte, Nat.reduceEqDiff]; clear gd sep)
    | (refine region_draw' mixed (by decide +kernel) fun gd sep hgd hsep => ?_; clear hgd hsep; (repeat (refine aops_cons fun K1 hK1 => ?_; simp (disch := first | with_reducible assumption | (simp -failIfUnchanged only [Mem.size_push, Mem.size_put, Mem.size_kill, List.length_cons, List.length_nil, List.length_append, List.length_map, List.length_take, List.length_replicate] <;> omega) | (refine (id ?_ : (_ : Bool) = true); simp only [go_sem, if_true, if_false, reduceIte, reduceCtorEq, Nat.reduceAdd, Nat.reduceSub, Nat.reduceBEq, Nat.reduceLT, Nat.reduceMul, Nat.reducePow, Nat.reduceLeDiff]; done) | fail "no") only [go_sem, if_true, if_false, reduceIte, reduceCtorEq, Nat.reduceAdd, Nat.reduceSub, Nat.reduceBEq, Nat.reduceLT, Nat.reduceMul, Nat.reducePow, Nat.reduceLeDiff]; refine hK1 _ _ ?_; clear hK1 K1)); refine aops_nil ?_; simp only [Nx, Caught, if_true, if_false, reduceIte, Nat.reduceEqDiff]; clear gd sep)
    | (refine hK _ _ ?_; clear hK K)
    | (clear hK K)
    )
  refine region_seq fun gd sep hgd => ?_
  clear hgd
  (repeat (refine aops_cons fun K1 hK1 => ?_; simp (disch := first | with_reducible assumption | (simp -failIfUnchanged only [Mem.size_push, Mem.size_put, Mem.size_kill, List.length_cons, List.length_nil, List.length_append, List.length_map, List.length_take, List.length_replicate] <;> omega) | (refine (id ?_ : (_ : Bool) = true); simp only [go_sem, if_true, if_false, reduceIte, reduceCtorEq, Nat.reduceAdd, Nat.reduceSub, Nat.reduceBEq, Nat.reduceLT, Nat.reduceMul, Nat.reducePow, Nat.reduceLeDiff]; done) | fail "no") only [go_sem, if_true, if_false, reduceIte, reduceCtorEq, Nat.reduceAdd, Nat.reduceSub, Nat.reduceBEq, Nat.reduceLT, Nat.reduceMul, Nat.reducePow, Nat.reduceLeDiff]; refine hK1 _ _ ?_; clear hK1 K1))
  refine aops_cons fun K1 hK1 => ?_
  simp (disch := first | with_reducible assumption | (simp -failIfUnchanged only [Mem.size_push, Mem.size_put, Mem.size_kill, List.length_cons, List.length_nil, List.length_append, List.length_map, List.length_take, List.length_replicate] <;> omega) | (refine (id ?_ : (_ : Bool) = true); simp only [go_sem, if_true, if_false, reduceIte, reduceCtorEq, Nat.reduceAdd, Nat.reduceSub, Nat.reduceBEq, Nat.reduceLT, Nat.reduceMul, Nat.reducePow, Nat.reduceLeDiff]; done) | fail "no") only [go_sem, if_true, if_false, reduceIte, reduceCtorEq, Nat.reduceAdd, Nat.reduceSub, Nat.reduceBEq, Nat.reduceLT, Nat.reduceMul, Nat.reducePow, Nat.reduceLeDiff]
  refine acall rfl (eqIntS_c (hb.ext (by with_reducible iterate 60 (try (first | exact Ext.refl _ | assumption | exact Ext.push _ _ | refine Ext.trans ?_ (Ext.push _ _) | (refine Ext.put ?_ (by first | omega | (simp only [Mem.size_push]; omega)) _) | (refine Ext.trans ?_ (by assumption)))))) (hb'.ext (by with_reducible iterate 60 (try (first | exact Ext.refl _ | assumption | exact Ext.push _ _ | refine Ext.trans ?_ (Ext.push _ _) | (refine Ext.put ?_ (by first | omega | (simp only [Mem.size_push]; omega)) _) | (refine Ext.trans ?_ (by assumption)))))) hx.2.1) ?_
  rintro r2 m2 ⟨rfl, rfl⟩ -
  refine hK1 _ _ ?_; clear hK1 K1
  (repeat (refine aops_cons fun K1 hK1 => ?_; simp (disch := first | with_reducible assumption | (simp -failIfUnchanged only [Mem.size_push, Mem.size_put, Mem.size_kill, List.length_cons, List.length_nil, List.length_append, List.length_map, List.length_take, List.length_replicate] <;> omega) | (refine (id ?_ : (_ : Bool) = true); simp only [go_sem, if_true, if_false, reduceIte, reduceCtorEq, Nat.reduceAdd, Nat.reduceSub, Nat.reduceBEq, Nat.reduceLT, Nat.reduceMul, Nat.reducePow, Nat.reduceLeDiff]; done) | fail "no") only [go_sem, if_true, if_false, reduceIte, reduceCtorEq, Nat.reduceAdd, Nat.reduceSub, Nat.reduceBEq, Nat.reduceLT, Nat.reduceMul, Nat.reducePow, Nat.reduceLeDiff]; refine hK1 _ _ ?_; clear hK1 K1))
  refine aops_nil ?_; simp only [Nx, Caught, if_true, if_false, reduceIte, Nat.reduceEqDiff]
  try clear gd sep
  first | (refine hK _ _ ?_; clear hK K) | skip
  repeat (first
    | (refine awp_seq fun K hK => ?_)
    | (refine awp_block ?_)
    | (refine awp_skip ?_; simp only [Nx, Caught, if_true, if_false, reduceIte, Nat.reduceEqDiff])
    | (refine awp_exit ?_; simp only [Nx, Caught, if_true, if_false, reduceIte, Nat.reduceEqDiff])
    | (refine region_seq fun gd sep hgd => ?_; clear hgd; (repeat (refine aops_cons fun K1 hK1 => ?_; simp (disch := first | with_reducible assumption | (simp -failIfUnchanged only [Mem.size_push, Mem.size_put, Mem.size_kill, List.length_cons, List.length_nil, List.length_append, List.length_map, List.length_take, List.length_replicate] <;> omega) | (refine (id ?_ : (_ : Bool) = true); simp only [go_sem, if_true, if_false, reduceIte, reduceCtorEq, Nat.reduceAdd, Nat.reduceSub, Nat.reduceBEq, Nat.reduceLT, Nat.reduceMul, Nat.reducePow, Nat.reduceLeDiff]; done) | fail "no") only [go_sem, if_true, if_false, reduceIte, reduceCtorEq, Nat.reduceAdd, Nat.reduceSub, Nat.reduceBEq, Nat.reduceLT, Nat.reduceMul, Nat.reducePow, Nat.reduceLeDiff]; refine hK1 _ _ ?_; clear hK1 K1)); refine aops_nil ?_; simp only [Nx, Caught, if_true, if_false, reduceIte, Nat.reduceEqDiff]; clear gd sep)
    | (refine region_draw' mixed (by decide +kernel) fun gd sep hgd hsep => ?_; clear hgd hsep; (repeat (refine aops_cons fun K1 hK1 => ?_; simp (disch := first | with_reducible assumption | (simp -failIfUnchanged only [Mem.size_push, Mem.size_put, Mem.size_kill, List.length_cons, List.length_nil, List.length_append, List.length_map, List.length_take, List.length_replicate] <;> omega) | (refine (id ?_ : (_ : Bool) = true); simp only [go_sem, if_true, if_false, reduceIte, reduceCtorEq, Nat.reduceAdd, Nat.reduceSub, Nat.reduceBEq, Nat.reduceLT, Nat.reduceMul, Nat.reducePow, Nat.reduceLeDiff]; done) | fail "no") only [go_sem, if_true, if_false, reduceIte, reduceCtorEq, Nat.reduceAdd, Nat.reduceSub, Nat.reduceBEq, Nat.reduceLT, Nat.reduceMul, Nat.reducePow, Nat.reduceLeDiff]; refine hK1 _ _ ?_; clear hK1 K1)); refine aops_nil ?_; simp only [Nx, Caught, if_true, if_false, reduceIte, Nat.reduceEqDiff]; clear gd sep)
    | (refine hK _ _ ?_; clear hK K)
    | (clear hK K)
    )
  refine awp_if rfl (fun g' => ?_) (fun g' => ?_)
  · repeat (first
      | (refine awp_seq fun K hK => ?_)
      | (refine awp_block ?_)
      | (refine awp_skip ?_; simp only [Nx, Caught, if_true, if_false, reduceIte, Nat.reduceEqDiff])
      | (refine awp_exit ?_; simp only [Nx, Caught, if_true, if_false, reduceIte, Nat.reduceEqDiff])
      | (refine region_seq fun gd sep hgd => ?_; clear hgd; (repeat (refine aops_cons fun K1 hK1 => ?_; simp (disch := first | with_reducible assumption | (simp -failIfUnchanged only [Mem.size_push, Mem.size_put, Mem.size_kill, List.length_cons, List.length_nil, List.length_append, List.length_map, List.length_take, List.length_replicate] <;> omega) | (refine (id ?_ : (_ : Bool) = true); simp only [go_sem, if_true, if_false, reduceIte, reduceCtorEq, Nat.reduceAdd, Nat.reduceSub, Nat.reduceBEq, Nat.reduceLT, Nat.reduceMul, Nat.reducePow, Nat.reduceLeDiff]; done) | fail "no") only [go_sem, if_true, if_false, reduceIte, reduceCtorEq, Nat.reduceAdd, Nat.reduceSub, Nat.reduceBEq, Nat.reduceLT, Nat.reduceMul, Nat.reducePow, Nat.reduceLeDiff]; refine hK1 _ _ ?_; clear hK1 K1)); refine aops_nil ?_; simp only [Nx, Caught, if_true, if_false, reduceIte, Nat.reduceEqDiff]; clear gd sep)
      | (refine region_draw' mixed (by decide +kernel) fun gd sep hgd hsep => ?_; clear hgd hsep; (repeat (refine aops_cons fun K1 hK1 => ?_; simp (disch := first | with_reducible assumption | (simp -failIfUnchanged only [Mem.size_push, Mem.size_put, Mem.size_kill, List.length_cons, List.length_nil, List.length_append, List.length_map, List.length_take, List.length_replicate] <;> omega) | (refine (id ?_ : (_ : Bool) = true); simp only [go_sem, if_true, if_false, reduceIte, reduceCtorEq, Nat.reduceAdd, Nat.reduceSub, Nat.reduceBEq, Nat.reduceLT, Nat.reduceMul, Nat.reducePow, Nat.reduceLeDiff]; done) | fail "no") only [go_sem, if_true, if_false, reduceIte, reduceCtorEq, Nat.reduceAdd, Nat.reduceSub, Nat.reduceBEq, Nat.reduceLT, Nat.reduceMul, Nat.reducePow, Nat.reduceLeDiff]; refine hK1 _ _ ?_; clear hK1 K1)); refine aops_nil ?_; simp only [Nx, Caught, if_true, if_false, reduceIte, Nat.reduceEqDiff]; clear gd sep)
      | (refine hK _ _ ?_; clear hK K)
      | (clear hK K)
      )
    refine awp_ret ?_; try simp only [Nx, Caught]
    apply ends_ret
    · simp (disch := first | with_reducible assumption | (simp -failIfUnchanged only [Mem.size_push, Mem.size_put, Mem.size_kill, List.length_cons, List.length_nil, List.length_append, List.length_map, List.length_take, List.length_replicate] <;> omega) | (refine (id ?_ : (_ : Bool) = true); simp only [go_sem, if_true, if_false, reduceIte, reduceCtorEq, Nat.reduceAdd, Nat.reduceSub, Nat.reduceBEq, Nat.reduceLT, Nat.reduceMul, Nat.reducePow, Nat.reduceLeDiff]; done) | fail "no") only [go_sem, if_true, if_false, reduceIte, reduceCtorEq, Nat.reduceAdd, Nat.reduceSub, Nat.reduceBEq, Nat.reduceLT, Nat.reduceMul, Nat.reducePow, Nat.reduceLeDiff, aress, ares1]; exact rfl
    simp only [tupled]
    simp at g'
    simp [HP.same, g']
  repeat (first
    | (refine awp_seq fun K hK => ?_)
    | (refine awp_block ?_)
    | (refine awp_skip ?_; simp only [Nx, Caught, if_true, if_false, reduceIte, Nat.reduceEqDiff])
    | (refine awp_exit ?_; simp only [Nx, Caught, if_true, if_false, reduceIte, Nat.reduceEqDiff])
    | (refine region_seq fun gd sep hgd => ?_; clear hgd; (repeat (refine aops_cons fun K1 hK1 => ?_; simp (disch := first | with_reducible assumption | (simp -failIfUnchanged only [Mem.size_push, Mem.size_put, Mem.size_kill, List.length_cons, List.length_nil, List.length_append, List.length_map, List.length_take, List.length_replicate] <;> omega) | (refine (id ?_ : (_ : Bool) = true); simp only [go_sem, if_true, if_false, reduceIte, reduceCtorEq, Nat.reduceAdd, Nat.reduceSub, Nat.reduceBEq, Nat.reduceLT, Nat.reduceMul, Nat.reducePow, Nat.reduceLeDiff]; done) | fail "no") only [go_sem, if_true, if_false, reduceIte, reduceCtorEq, Nat.reduceAdd, Nat.reduceSub, Nat.reduceBEq, Nat.reduceLT, Nat.reduceMul, Nat.reducePow, Nat.reduceLeDiff]; refine hK1 _ _ ?_; clear hK1 K1)); refine aops_nil ?_; simp only [Nx, Caught, if_true, if_false, reduceIte, Nat.reduceEqDiff]; clear gd sep)
    | (refine region_draw' mixed (by decide +kernel) fun gd sep hgd hsep => ?_; clear hgd hsep; (repeat (refine aops_cons fun K1 hK1 => ?_; simp (disch := first | with_reducible assumption | (simp -failIfUnchanged only [Mem.size_push, Mem.size_put, Mem.size_kill, List.length_cons, List.length_nil, List.length_append, List.length_map, List.length_take, List.length_replicate] <;> omega) | (refine (id ?_ : (_ : Bool) = true); simp only [go_sem, if_true, if_false, reduceIte, reduceCtorEq, Nat.reduceAdd, Nat.reduceSub, Nat.reduceBEq, Nat.reduceLT, Nat.reduceMul, Nat.reducePow, Nat.reduceLeDiff]; done) | fail "no") only [go_sem, if_true, if_false, reduceIte, reduceCtorEq, Nat.reduceAdd, Nat.reduceSub, Nat.reduceBEq, Nat.reduceLT, Nat.reduceMul, Nat.reducePow, Nat.reduceLeDiff]; refine hK1 _ _ ?_; clear hK1 K1)); refine aops_nil ?_; simp only [Nx, Caught, if_true, if_false, reduceIte, Nat.reduceEqDiff]; clear gd sep)
    | (refine hK _ _ ?_; clear hK K)
    | (clear hK K)
    )
  refine region_seq fun gd sep hgd => ?_
  clear hgd
  (repeat (refine aops_cons fun K1 hK1 => ?_; simp (disch := first | with_reducible assumption | (simp -failIfUnchanged only [Mem.size_push, Mem.size_put, Mem.size_kill, List.length_cons, List.length_nil, List.length_append, List.length_map, List.length_take, List.length_replicate] <;> omega) | (refine (id ?_ : (_ : Bool) = true); simp only [go_sem, if_true, if_false, reduceIte, reduceCtorEq, Nat.reduceAdd, Nat.reduceSub, Nat.reduceBEq, Nat.reduceLT, Nat.reduceMul, Nat.reducePow, Nat.reduceLeDiff]; done) | fail "no") only [go_sem, if_true, if_false, reduceIte, reduceCtorEq, Nat.reduceAdd, Nat.reduceSub, Nat.reduceBEq, Nat.reduceLT, Nat.reduceMul, Nat.reducePow, Nat.reduceLeDiff]; refine hK1 _ _ ?_; clear hK1 K1))
  refine aops_cons fun K1 hK1 => ?_
  simp (disch := first | with_reducible assumption | (simp -failIfUnchanged only [Mem.size_push, Mem.size_put, Mem.size_kill, List.length_cons, List.length_nil, List.length_append, List.length_map, List.length_take, List.length_replicate] <;> omega) | (refine (id ?_ : (_ : Bool) = true); simp only [go_sem, if_true, if_false, reduceIte, reduceCtorEq, Nat.reduceAdd, Nat.reduceSub, Nat.reduceBEq, Nat.reduceLT, Nat.reduceMul, Nat.reducePow, Nat.reduceLeDiff]; done) | fail "no") only [go_sem, if_true, if_false, reduceIte, reduceCtorEq, Nat.reduceAdd, Nat.reduceSub, Nat.reduceBEq, Nat.reduceLT, Nat.reduceMul, Nat.reducePow, Nat.reduceLeDiff]
  refine acall rfl (eqIntS_c (hc.ext (by with_reducible iterate 60 (try (first | exact Ext.refl _ | assumption | exact Ext.push _ _ | refine Ext.trans ?_ (Ext.push _ _) | (refine Ext.put ?_ (by first | omega | (simp only [Mem.size_push]; omega)) _) | (refine Ext.trans ?_ (by assumption)))))) (hc'.ext (by with_reducible iterate 60 (try (first | exact Ext.refl _ | assumption | exact Ext.push _ _ | refine Ext.trans ?_ (Ext.push _ _) | (refine Ext.put ?_ (by first | omega | (simp only [Mem.size_push]; omega)) _) | (refine Ext.trans ?_ (by assumption)))))) hx.2.2) ?_
  rintro r3 m3 ⟨rfl, rfl⟩ -
  refine hK1 _ _ ?_; clear hK1 K1
  (repeat (refine aops_cons fun K1 hK1 => ?_; simp (disch := first | with_reducible assumption | (simp -failIfUnchanged only [Mem.size_push, Mem.size_put, Mem.size_kill, List.length_cons, List.length_nil, List.length_append, List.length_map, List.length_take, List.length_replicate] <;> omega) | (refine (id ?_ : (_ : Bool) = true); simp only [go_sem, if_true, if_false, reduceIte, reduceCtorEq, Nat.reduceAdd, Nat.reduceSub, Nat.reduceBEq, Nat.reduceLT, Nat.reduceMul, Nat.reducePow, Nat.reduceLeDiff]; done) | fail "no") only [go_sem, if_true, if_false, reduceIte, reduceCtorEq, Nat.reduceAdd, Nat.reduceSub, Nat.reduceBEq, Nat.reduceLT, Nat.reduceMul, Nat.reducePow, Nat.reduceLeDiff]; refine hK1 _ _ ?_; clear hK1 K1))
  refine aops_nil ?_; simp only [Nx, Caught, if_true, if_false, reduceIte, Nat.reduceEqDiff]
  try clear gd sep
  first | (refine hK _ _ ?_; clear hK K) | skip
  repeat (first
    | (refine awp_seq fun K hK => ?_)
    | (refine awp_block ?_)
    | (refine awp_skip ?_; simp only [Nx, Caught, if_true, if_false, reduceIte, Nat.reduceEqDiff])
    | (refine awp_exit ?_; simp only [Nx, Caught, if_true, if_false, reduceIte, Nat.reduceEqDiff])
    | (refine region_seq fun gd sep hgd => ?_; clear hgd; (repeat (refine aops_cons fun K1 hK1 => ?_; simp (disch := first | with_reducible assumption | (simp -failIfUnchanged only [Mem.size_push, Mem.size_put, Mem.size_kill, List.length_cons, List.length_nil, List.length_append, List.length_map, List.length_take, List.length_replicate] <;> omega) | (refine (id ?_ : (_ : Bool) = true); simp only [go_sem, if_true, if_false, reduceIte, reduceCtorEq, Nat.reduceAdd, Nat.reduceSub, Nat.reduceBEq, Nat.reduceLT, Nat.reduceMul, Nat.reducePow, Nat.reduceLeDiff]; done) | fail "no") only [go_sem, if_true, if_false, reduceIte, reduceCtorEq, Nat.reduceAdd, Nat.reduceSub, Nat.reduceBEq, Nat.reduceLT, Nat.reduceMul, Nat.reducePow, Nat.reduceLeDiff]; refine hK1 _ _ ?_; clear hK1 K1)); refine aops_nil ?_; simp only [Nx, Caught, if_true, if_false, reduceIte, Nat.reduceEqDiff]; clear gd sep)
    | (refine region_draw' mixed (by decide +kernel) fun gd sep hgd hsep => ?_; clear hgd hsep; (repeat (refine aops_cons fun K1 hK1 => ?_; simp (disch := first | with_reducible assumption | (simp -failIfUnchanged only [Mem.size_push, Mem.size_put, Mem.size_kill, List.length_cons, List.length_nil, List.length_append, List.length_map, List.length_take, List.length_replicate] <;> omega) | (refine (id ?_ : (_ : Bool) = true); simp only [go_sem, if_true, if_false, reduceIte, reduceCtorEq, Nat.reduceAdd, Nat.reduceSub, Nat.reduceBEq, Nat.reduceLT, Nat.reduceMul, Nat.reducePow, Nat.reduceLeDiff]; done) | fail "no") only [go_sem, if_true, if_false, reduceIte, reduceCtorEq, Nat.reduceAdd, Nat.reduceSub, Nat.reduceBEq, Nat.reduceLT, Nat.reduceMul, Nat.reducePow, Nat.reduceLeDiff]; refine hK1 _ _ ?_; clear hK1 K1)); refine aops_nil ?_; simp only [Nx, Caught, if_true, if_false, reduceIte, Nat.reduceEqDiff]; clear gd sep)
    | (refine hK _ _ ?_; clear hK K)
    | (clear hK K)
    )
  refine awp_if rfl (fun g'' => ?_) (fun g'' => ?_)
  · repeat (first
      | (refine awp_seq fun K hK => ?_)
      | (refine awp_block ?_)
      | (refine awp_skip ?_; simp only [Nx, Caught, if_true, if_false, reduceIte, Nat.reduceEqDiff])
      | (refine awp_exit ?_; simp only [Nx, Caught, if_true, if_false, reduceIte, Nat.reduceEqDiff])
      | (refine region_seq fun gd sep hgd => ?_; clear hgd; (repeat (refine aops_cons fun K1 hK1 => ?_; simp (disch := first | with_reducible assumption | (simp -failIfUnchanged only [Mem.size_push, Mem.size_put, Mem.size_kill, List.length_cons, List.length_nil, List.length_append, List.length_map, List.length_take, List.length_replicate] <;> omega) | (refine (id ?_ : (_ : Bool) = true); simp only [go_sem, if_true, if_false, reduceIte, reduceCtorEq, Nat.reduceAdd, Nat.reduceSub, Nat.reduceBEq, Nat.reduceLT, Nat.reduceMul, Nat.reducePow, Nat.reduceLeDiff]; done) | fail "no") only [go_sem, if_true, if_false, reduceIte, reduceCtorEq, Nat.reduceAdd, Nat.reduceSub, Nat.reduceBEq, Nat.reduceLT, Nat.reduceMul, Nat.reducePow, Nat.reduceLeDiff]; refine hK1 _ _ ?_; clear hK1 K1)); refine aops_nil ?_; simp only [Nx, Caught, if_true, if_false, reduceIte, Nat.reduceEqDiff]; clear gd sep)
      | (refine region_draw' mixed (by decide +kernel) fun gd sep hgd hsep => ?_; clear hgd hsep; (repeat (refine aops_cons fun K1 hK1 => ?_; simp (disch := first | with_reducible assumption | (simp -failIfUnchanged only [Mem.size_push, Mem.size_put, Mem.size_kill, List.length_cons, List.length_nil, List.length_append, List.length_map, List.length_take, List.length_replicate] <;> omega) | (refine (id ?_ : (_ : Bool) = true); simp only [go_sem, if_true, if_false, reduceIte, reduceCtorEq, Nat.reduceAdd, Nat.reduceSub, Nat.reduceBEq, Nat.reduceLT, Nat.reduceMul, Nat.reducePow, Nat.reduceLeDiff]; done) | fail "no") only [go_sem, if_true, if_false, reduceIte, reduceCtorEq, Nat.reduceAdd, Nat.reduceSub, Nat.reduceBEq, Nat.reduceLT, Nat.reduceMul, Nat.reducePow, Nat.reduceLeDiff]; refine hK1 _ _ ?_; clear hK1 K1)); refine aops_nil ?_; simp only [Nx, Caught, if_true, if_false, reduceIte, Nat.reduceEqDiff]; clear gd sep)
      | (refine hK _ _ ?_; clear hK K)
      | (clear hK K)
      )
    refine awp_ret ?_; try simp only [Nx, Caught]
    apply ends_ret
    · simp (disch := first | with_reducible assumption | (simp -failIfUnchanged only [Mem.size_push, Mem.size_put, Mem.size_kill, List.length_cons, List.length_nil, List.length_append, List.length_map, List.length_take, List.length_replicate] <;> omega) | (refine (id ?_ : (_ : Bool) = true); simp only [go_sem, if_true, if_false, reduceIte, reduceCtorEq, Nat.reduceAdd, Nat.reduceSub, Nat.reduceBEq, Nat.reduceLT, Nat.reduceMul, Nat.reducePow, Nat.reduceLeDiff]; done) | fail "no") only [go_sem, if_true, if_false, reduceIte, reduceCtorEq, Nat.reduceAdd, Nat.reduceSub, Nat.reduceBEq, Nat.reduceLT, Nat.reduceMul, Nat.reducePow, Nat.reduceLeDiff, aress, ares1]; exact rfl
    simp only [tupled]
    simp at g''
    simp [HP.same, g'']
  · repeat (first
      | (refine awp_seq fun K hK => ?_)
      | (refine awp_block ?_)
      | (refine awp_skip ?_; simp only [Nx, Caught, if_true, if_false, reduceIte, Nat.reduceEqDiff])
      | (refine awp_exit ?_; simp only [Nx, Caught, if_true, if_false, reduceIte, Nat.reduceEqDiff])
      | (refine region_seq fun gd sep hgd => ?_; clear hgd; (repeat (refine aops_cons fun K1 hK1 => ?_; simp (disch := first | with_reducible assumption | (simp -failIfUnchanged only [Mem.size_push, Mem.size_put, Mem.size_kill, List.length_cons, List.length_nil, List.length_append, List.length_map, List.length_take, List.length_replicate] <;> omega) | (refine (id ?_ : (_ : Bool) = true); simp only [go_sem, if_true, if_false, reduceIte, reduceCtorEq, Nat.reduceAdd, Nat.reduceSub, Nat.reduceBEq, Nat.reduceLT, Nat.reduceMul, Nat.reducePow, Nat.reduceLeDiff]; done) | fail "no") only [go_sem, if_true, if_false, reduceIte, reduceCtorEq, Nat.reduceAdd, Nat.reduceSub, Nat.reduceBEq, Nat.reduceLT, Nat.reduceMul, Nat.reducePow, Nat.reduceLeDiff]; refine hK1 _ _ ?_; clear hK1 K1)); refine aops_nil ?_; simp only [Nx, Caught, if_true, if_false, reduceIte, Nat.reduceEqDiff]; clear gd sep)
      | (refine region_draw' mixed (by decide +kernel) fun gd sep hgd hsep => ?_; clear hgd hsep; (repeat (refine aops_cons fun K1 hK1 => ?_; simp (disch := first | with_reducible assumption | (simp -failIfUnchanged only [Mem.size_push, Mem.size_put, Mem.size_kill, List.length_cons, List.length_nil, List.length_append, List.length_map, List.length_take, List.length_replicate] <;> omega) | (refine (id ?_ : (_ : Bool) = true); simp only [go_sem, if_true, if_false, reduceIte, reduceCtorEq, Nat.reduceAdd, Nat.reduceSub, Nat.reduceBEq, Nat.reduceLT, Nat.reduceMul, Nat.reducePow, Nat.reduceLeDiff]; done) | fail "no") only [go_sem, if_true, if_false, reduceIte, reduceCtorEq, Nat.reduceAdd, Nat.reduceSub, Nat.reduceBEq, Nat.reduceLT, Nat.reduceMul, Nat.reducePow, Nat.reduceLeDiff]; refine hK1 _ _ ?_; clear hK1 K1)); refine aops_nil ?_; simp only [Nx, Caught, if_true, if_false, reduceIte, Nat.reduceEqDiff]; clear gd sep)
      | (refine hK _ _ ?_; clear hK K)
      | (clear hK K)
      )
    refine awp_ret ?_; try simp only [Nx, Caught]
    apply ends_ret
    · simp (disch := first | with_reducible assumption | (simp -failIfUnchanged only [Mem.size_push, Mem.size_put, Mem.size_kill, List.length_cons, List.length_nil, List.length_append, List.length_map, List.length_take, List.length_replicate] <;> omega) | (refine (id ?_ : (_ : Bool) = true); simp only [go_sem, if_true, if_false, reduceIte, reduceCtorEq, Nat.reduceAdd, Nat.reduceSub, Nat.reduceBEq, Nat.reduceLT, Nat.reduceMul, Nat.reducePow, Nat.reduceLeDiff]; done) | fail "no") only [go_sem, if_true, if_false, reduceIte, reduceCtorEq, Nat.reduceAdd, Nat.reduceSub, Nat.reduceBEq, Nat.reduceLT, Nat.reduceMul, Nat.reducePow, Nat.reduceLeDiff, aress, ares1]; exact rfl
    simp only [tupled]
    simp at g g' g''
    simp [HP.same, g, g', g'']

theorem eqGens_c {m : Mem} {v w : AVal} {x y : GP} (hv : RdG m v x) (hw : RdG m w y) (hx : x.lens 1099511627776) :
    ∃ r m', (r = .bool (x.same y)) ∧ DCalls PP m.size 19 [v, w] m r m' := by
  obtain ⟨a, b, c, d, e, rfl, ha, hb, hc, hd, he⟩ := hv
  obtain ⟨a', b', c', d', e', rfl, ha', hb', hc', hd', he'⟩ := hw
  refine enter Try.func19 (by decide) rfl Try.ntmps19 Try.results19 ?_
  repeat (first
    | (refine awp_seq fun K hK => ?_)
    | (refine awp_block ?_)
    | (refine awp_skip ?_; simp only [Nx, Caught, if_true, if_false, reduceIte, Nat.reduceEqDiff])
    | (refine awp_exit ?_; simp only [Nx, Caught, if_true, if_false, reduceIte, Nat.reduceEqDiff])
    | (refine region_seq fun gd sep hgd => ?_; clear hgd; (repeat (refine aops_cons fun K1 hK1 => ?_; simp (disch := first | with_reducible assumption | (simp -failIfUnchanged only [Mem.size_push, Mem.size_put, Mem.size_kill, List.length_cons, List.length_nil, List.length_append, List.length_map, List.length_take, List.length_replicate] <;> omega) | (refine (id ?_ : (_ : Bool) = true); simp only [go_sem, if_true, if_false, reduceIte, reduceCtorEq, Nat.reduceAdd, Nat.reduceSub, Nat.reduceBEq, Nat.reduceLT, Nat.reduceMul, Nat.reducePow, Nat.reduceLeDiff]; done) | fail "no") only [go_sem, if_true, if_false, reduceIte, reduceCtorEq, Nat.reduceAdd, Nat.reduceSub, Nat.reduceBEq, Nat.reduceLT, Nat.reduceMul, Nat.reducePow, Nat.reduceLeDiff]; refine hK1 _ _ ?_; clear hK1 K1)); refine aops_nil ?_; simp only [Nx, Caught, if_true, if_false, reduceIte, Nat.reduceEqDiff]; clear gd sep)
    | (refine region_draw' mixed (by decide +kernel) fun gd sep hgd hsep => ?_; clear hgd hsep; (repeat (refine aops_cons fun K1 hK1 => ?_; simp (disch := first | with_reducible assumption | (simp -failIfUnchanged only [Mem.size_push, Mem.size_put, Mem.size_kill, List.length_cons, List.length_nil, List.length_append, List.length_map, List.length_take, List.length_replicate] <;> omega) | (refine (id ?_ : (_ : Bool) = true); simp only [go_sem, if_true, if_false, reduceIte, reduceCtorEq, Nat.reduceAdd, Nat.reduceSub, Nat.reduceBEq, Nat.reduceLT, Nat.reduceMul, Nat.reducePow, Nat.reduceLeDiff]; done) | fail "no") only [go_sem, if_true, if_false, reduceIte, reduceCtorEq, Nat.reduceAdd, Nat.reduceSub, Nat.reduceBEq, Nat.reduceLT, Nat.reduceMul, Nat.reducePow, Nat.reduceLeDiff]; refine hK1 _ _ ?_; clear hK1 K1)); refine aops_nil ?_; simp only [Nx, Caught, if_true, if_false, reduceIte, Nat.reduceEqDiff]; clear gd sep)
    | (refine hK _ _ ?_; clear hK K)
    | (clear hK K)
    )
  refine region_seq fun gd sep hgd => ?_
  clear hgd
  (repeat (refine aops_cons fun K1 hK1 => ?_; simp (disch := first | with_reducible assumption | (simp -failIfUnchanged only [Mem.size_push, Mem.size_put, Mem.size_kill, List.length_cons, List.length_nil, List.length_append, List.length_map, List.length_take, List.length_replicate] <;> omega) | (refine (id ?_ : (_ : Bool) = true); simp only [go_sem, if_true, if_false, reduceIte, reduceCtorEq, Nat.reduceAdd, Nat.reduceSub, Nat.reduceBEq, Nat.reduceLT, Nat.reduceMul, Nat.reducePow, Nat.reduceLeDiff]; done) | fail "no") only [go_sem, if_true, if_false, reduceIte, reduceCtorEq, Nat.reduceAdd, Nat.reduceSub, Nat.reduceBEq, Nat.reduceLT, Nat.reduceMul, Nat.reducePow, Nat.reduceLeDiff]; refine hK1 _ _ ?_; clear hK1 K1))
  refine aops_cons fun K1 hK1 => ?_
  simp (disch := first | with_reducible assumption | (simp -failIfUnchanged only [Mem.size_push, Mem.size_put, Mem.size_kill, List.length_cons, List.length_nil, List.length_append, List.length_map, List.length_take, List.length_replicate] <;> omega) | (refine (id ?_ : (_ : Bool) = true); simp only [go_sem, if_true, if_false, reduceIte, reduceCtorEq, Nat.reduceAdd, Nat.reduceSub, Nat.reduceBEq, Nat.reduceLT, Nat.reduceMul, Nat.reducePow, Nat.reduceLeDiff]; done) | fail "no") only [go_sem, if_true, if_false, reduceIte, reduceCtorEq, Nat.reduceAdd, Nat.reduceSub, Nat.reduceBEq, Nat.reduceLT, Nat.reduceMul, Nat.reducePow, Nat.reduceLeDiff]
  refine acall rfl (eqHeap_c (x := x.h) (y := y.h) ⟨a, b, c, rfl, ha.ext (by with_reducible iterate 60 (try (first | exact Ext.refl _ | assumption | exact Ext.push _ _ | refine Ext.trans ?_ (Ext.push _ _) | (refine Ext.put ?_ (by first | omega | (simp only [Mem.size_push]; omega)) _) | (refine Ext.trans ?_ (by assumption))))), hb.ext (by with_reducible iterate 60 (try (first | exact Ext.refl _ | assumption | exact Ext.push _ _ | refine Ext.trans ?_ (Ext.push _ _) | (refine Ext.put ?_ (by first | omega | (simp only [Mem.size_push]; omega)) _) | (refine Ext.trans ?_ (by assumption))))), hc.ext (by with_reducible iterate 60 (try (first | exact Ext.refl _ | assumption | exact Ext.push _ _ | refine Ext.trans ?_ (Ext.push _ _) | (refine Ext.put ?_ (by first | omega | (simp only [Mem.size_push]; omega)) _) | (refine Ext.trans ?_ (by assumption)))))⟩ ⟨a', b', c', rfl, ha'.ext (by with_reducible iterate 60 (try (first | exact Ext.refl _ | assumption | exact Ext.push _ _ | refine Ext.trans ?_ (Ext.push _ _) | (refine Ext.put ?_ (by first | omega | (simp only [Mem.size_push]; omega)) _) | (refine Ext.trans ?_ (by assumption))))), hb'.ext (by with_reducible iterate 60 (try (first | exact Ext.refl _ | assumption | exact Ext.push _ _ | refine Ext.trans ?_ (Ext.push _ _) | (refine Ext.put ?_ (by first | omega | (simp only [Mem.size_push]; omega)) _) | (refine Ext.trans ?_ (by assumption))))), hc'.ext (by with_reducible iterate 60 (try (first | exact Ext.refl _ | assumption | exact Ext.push _ _ | refine Ext.trans ?_ (Ext.push _ _) | (refine Ext.put ?_ (by first | omega | (simp only [Mem.size_push]; omega)) _) | (refine Ext.trans ?_ (by assumption)))))⟩ hx.1) ?_
  rintro r1 m1 rfl e1
  have z_e1 := e1.size; (try simp only [Mem.size_push, Mem.size_put] at z_e1)
  refine hK1 _ _ ?_; clear hK1 K1
  (repeat (refine aops_cons fun K1 hK1 => ?_; simp (disch := first | with_reducible assumption | (simp -failIfUnchanged only [Mem.size_push, Mem.size_put, Mem.size_kill, List.length_cons, List.length_nil, List.length_append, List.length_map, List.length_take, List.length_replicate] <;> omega) | (refine (id ?_ : (_ : Bool) = true); simp only [go_sem, if_true, if_false, reduceIte, reduceCtorEq, Nat.reduceAdd, Nat.reduceSub, Nat.reduceBEq, Nat.reduceLT, Nat.reduceMul, Nat.reducePow, Nat.reduceLeDiff]; done) | fail "no") only [go_sem, if_true, if_false, reduceIte, reduceCtorEq, Nat.reduceAdd, Nat.reduceSub, Nat.reduceBEq, Nat.reduceLT, Nat.reduceMul, Nat.reducePow, Nat.reduceLeDiff]; refine hK1 _ _ ?_; clear hK1 K1))
  refine aops_nil ?_; simp only [Nx, Caught, if_true, if_false, reduceIte, Nat.reduceEqDiff]
  try clear gd sep
  first | (refine hK _ _ ?_; clear hK K) | skip
  repeat (first
    | (refine awp_seq fun K hK => ?_)
    | (refine awp_block ?_)
    | (refine awp_skip ?_; simp only [Nx, Caught, if_true, if_false, reduceIte, Nat.reduceEqDiff])
    | (refine awp_exit ?_; simp only [Nx, Caught, if_true, if_false, reduceIte, Nat.reduceEqDiff])
    | (refine region_seq fun gd sep hgd => ?_; clear hgd; (repeat (refine aops_cons fun K1 hK1 => ?_; simp (disch := first | with_reducible assumption | (simp -failIfUnchanged only [Mem.size_push, Mem.size_put, Mem.size_kill, List.length_cons, List.length_nil, List.length_append, List.length_map, List.length_take, List.length_replicate] <;> omega) | (refine (id ?_ : (_ : Bool) = true); simp only [go_sem, if_true, if_false, reduceIte, reduceCtorEq, Nat.reduceAdd, Nat.reduceSub, Nat.reduceBEq, Nat.reduceLT, Nat.reduceMul, Nat.reducePow, Nat.reduceLeDiff]; done) | fail "no") only [go_sem, if_true, if_false, reduceIte, reduceCtorEq, Nat.reduceAdd, Nat.reduceSub, Nat.reduceBEq, Nat.reduceLT, Nat.reduceMul, Nat.reducePow, Nat.reduceLeDiff]; refine hK1 _ _ ?_; clear hK1 K1)); refine aops_nil ?_; simp only [Nx, Caught, if_true, if_false, reduceIte, Nat.reduceEqDiff]; clear gd sep)
    | (refine region_draw' mixed (by decide +kernel) fun gd sep hgd hsep => ?_; clear hgd hsep; (repeat (refine aops_cons fun K1 hK1 => ?_; simp (disch := first | with_reducible assumption | (simp -failIfUnchanged only [Mem.size_push, Mem.size_put, Mem.size_kill, List.length_cons, List.length_nil, List.length_append, List.length_map, List.length_take, List.length_replicate] <;> omega) | (refine (id ?_ : (_ : Bool) = true); simp only [go_sem, if_true, if_false, reduceIte, reduceCtorEq, Nat.reduceAdd, Nat.reduceSub, Nat.reduceBEq, Nat.reduceLT, Nat.reduceMul, Nat.reducePow, Nat.reduceLeDiff]; done) | fail "no") only [go_sem, if_true, if_false, reduceIte, reduceCtorEq, Nat.reduceAdd, Nat.reduceSub, Nat.reduceBEq, Nat.reduceLT, Nat.reduceMul, Nat.reducePow, Nat.reduceLeDiff]; refine hK1 _ _ ?_; clear hK1 K1)); refine aops_nil ?_; simp only [Nx, Caught, if_true, if_false, reduceIte, Nat.reduceEqDiff]; clear gd sep)
    | (refine hK _ _ ?_; clear hK K)
    | (clear hK K)
    )
  refine awp_if rfl (fun g => ?_) (fun g => ?_)
  · repeat (first
      | (refine awp_seq fun K hK => ?_)
      | (refine awp_block ?_)
      | (refine awp_skip ?_; simp only [Nx, Caught, if_true, if_false, reduceIte, Nat.reduceEqDiff])
      | (refine awp_exit ?_; simp only [Nx, Caught, if_true, if_false, reduceIte, Nat.reduceEqDiff])
      | (refine region_seq fun gd sep hgd => ?_; clear hgd; (repeat (refine aops_cons fun K1 hK1 => ?_; simp (disch := first | with_reducible assumption | (simp -failIfUnchanged only [Mem.size_push, Mem.size_put, Mem.size_kill, List.length_cons, List.length_nil, List.length_append, List.length_map, List.length_take, List.length_replicate] <;> omega) | (refine (id ?_ : (_ : Bool) = true); simp only [go_sem, if_true, if_false, reduceIte, reduceCtorEq, Nat.reduceAdd, Nat.reduceSub, Nat.reduceBEq, Nat.reduceLT, Nat.reduceMul, Nat.reducePow, Nat.reduceLeDiff]; done) | fail "no") only [go_sem, if_true, if_false, reduceIte, reduceCtorEq, Nat.reduceAdd, Nat.reduceSub, Nat.reduceBEq, Nat.reduceLT, Nat.reduceMul, Nat.reducePow, Nat.reduceLeDiff]; refine hK1 _ _ ?_; clear hK1 K1)); refine aops_nil ?_; simp only [Nx, Caught, if_true, if_false, reduceIte, Nat.reduceEqDiff]; clear gd sep)
      | (refine region_draw' mixed (by decide +kernel) fun gd sep hgd hsep => ?_; clear hgd hsep; (repeat (refine aops_cons fun K1 hK1 => ?_; simp (disch := first | with_reducible assumption | (simp -failIfUnchanged only [Mem.size_push, Mem.size_put, Mem.size_kill, List.length_cons, List.length_nil, List.length_append, List.length_map, List.length_take, List.length_replicate] <;> omega) | (refine (id ?_ : (_ : Bool) = true); simp only [go_sem, if_true, if_false, reduceIte, reduceCtorEq, Nat.reduceAdd, Nat.reduceSub, Nat.reduceBEq, Nat.reduceLT, Nat.reduceMul, Nat.reducePow, Nat.reduceLeDiff]; done) | fail "no") only [go_sem, if_true, if_false, reduceIte, reduceCtorEq, Nat.reduceAdd, Nat.reduceSub, Nat.reduceBEq, Nat.reduceLT, Nat.reduceMul, Nat.reducePow, Nat.reduceLeDiff]; refine hK1 _ _ ?_; clear hK1 K1)); refine aops_nil ?_; simp only [Nx, Caught, if_true, if_false, reduceIte, Nat.reduceEqDiff]; clear gd sep)
      | (refine hK _ _ ?_; clear hK K)
      | (clear hK K)
      )
    refine awp_ret ?_; try simp only [Nx, Caught]
    apply ends_ret
    · simp (disch := first | with_reducible assumption | (simp -failIfUnchanged only [Mem.size_push, Mem.size_put, Mem.size_kill, List.length_cons, List.length_nil, List.length_append, List.length_map, List.length_take, List.length_replicate] <;> omega) | (refine (id ?_ : (_ : Bool) = true); simp only [go_sem, if_true, if_false, reduceIte, reduceCtorEq, Nat.reduceAdd, Nat.reduceSub, Nat.reduceBEq, Nat.reduceLT, Nat.reduceMul, Nat.reducePow, Nat.reduceLeDiff]; done) | fail "no") only [go_sem, if_true, if_false, reduceIte, reduceCtorEq, Nat.reduceAdd, Nat.reduceSub, Nat.reduceBEq, Nat.reduceLT, Nat.reduceMul, Nat.reducePow, Nat.reduceLeDiff, aress, ares1]; exact rfl
    simp only [tupled]
    simp at g
    simp [GP.same, g]
  repeat (first
    | (refine awp_seq fun K hK => ?_)
    | (refine awp_block ?_)
    | (refine awp_skip ?_; simp only [Nx, Caught, if_true, if_false, reduceIte, Nat.reduceEqDiff])
    | (refine awp_exit ?_; simp only [Nx, Caught, if_true, if_false, reduceIte, Nat.reduceEqDiff])
    | (refine region_seq fun gd sep hgd => ?_; clear hgd; (repeat (refine aops_cons fun K1 hK1 => ?_; simp (disch := first | with_reducible assumption | (simp -failIfUnchanged only [Mem.size_push, Mem.size_put, Mem.size_kill, List.length_cons, List.length_nil, List.length_append, List.length_map, List.length_take, List.length_replicate, e1.ald, e1.alds] <;> omega) | (refine (id ?_ : (_ : Bool) = true); simp only [go_sem, if_true, if_false, reduceIte, reduceCtorEq, Nat.reduceAdd, Nat.reduceSub, Nat.reduceBEq, Nat.reduceLT, Nat.reduceMul, Nat.reducePow, Nat.reduceLeDiff, e1.ald, e1.alds]; done) | fail "no") only [go_sem, if_true, if_false, reduceIte, reduceCtorEq, Nat.reduceAdd, Nat.reduceSub, Nat.reduceBEq, Nat.reduceLT, Nat.reduceMul, Nat.reducePow, Nat.reduceLeDiff, e1.ald, e1.alds]; refine hK1 _ _ ?_; clear hK1 K1)); refine aops_nil ?_; simp only [Nx, Caught, if_true, if_false, reduceIte, Nat.reduceEqDiff]; clear gd sep)
    | (refine region_draw' mixed (by decide +kernel) fun gd sep hgd hsep => ?_; clear hgd hsep; (repeat (refine aops_cons fun K1 hK1 => ?_; simp (disch := first | with_reducible assumption | (simp -failIfUnchanged only [Mem.size_push, Mem.size_put, Mem.size_kill, List.length_cons, List.length_nil, List.length_append, List.length_map, List.length_take, List.length_replicate, e1.ald, e1.alds] <;> omega) | (refine (id ?_ : (_ : Bool) = true); simp only [go_sem, if_true, if_false, reduceIte, reduceCtorEq, Nat.reduceAdd, Nat.reduceSub, Nat.reduceBEq, Nat.reduceLT, Nat.reduceMul, Nat.reducePow, Nat.reduceLeDiff, e1.ald, e1.alds]; done) | fail "no") only [go_sem, if_true, if_false, reduceIte, reduceCtorEq, Nat.reduceAdd, Nat.reduceSub, Nat.reduceBEq, Nat.reduceLT, Nat.reduceMul, Nat.reducePow, Nat.reduceLeDiff, e1.ald, e1.alds]; refine hK1 _ _ ?_; clear hK1 K1)); refine aops_nil ?_; simp only [Nx, Caught, if_true, if_false, reduceIte, Nat.reduceEqDiff]; clear gd sep)
    | (refine hK _ _ ?_; clear hK K)
    | (clear hK K)
    )
  refine region_seq fun gd sep hgd => ?_
  clear hgd
  (repeat (refine aops_cons fun K1 hK1 => ?_; simp (disch := first | with_reducible assumption | (simp -failIfUnchanged only [Mem.size_push, Mem.size_put, Mem.size_kill, List.length_cons, List.length_nil, List.length_append, List.length_map, List.length_take, List.length_replicate, e1.ald, e1.alds] <;> omega) | (refine (id ?_ : (_ : Bool) = true); simp only [go_sem, if_true, if_false, reduceIte, reduceCtorEq, Nat.reduceAdd, Nat.reduceSub, Nat.reduceBEq, Nat.reduceLT, Nat.reduceMul, Nat.reducePow, Nat.reduceLeDiff, e1.ald, e1.alds]; done) | fail "no") only [go_sem, if_true, if_false, reduceIte, reduceCtorEq, Nat.reduceAdd, Nat.reduceSub, Nat.reduceBEq, Nat.reduceLT, Nat.reduceMul, Nat.reducePow, Nat.reduceLeDiff, e1.ald, e1.alds]; refine hK1 _ _ ?_; clear hK1 K1))
  refine aops_cons fun K1 hK1 => ?_
  simp (disch := first | with_reducible assumption | (simp -failIfUnchanged only [Mem.size_push, Mem.size_put, Mem.size_kill, List.length_cons, List.length_nil, List.length_append, List.length_map, List.length_take, List.length_replicate] <;> omega) | (refine (id ?_ : (_ : Bool) = true); simp only [go_sem, if_true, if_false, reduceIte, reduceCtorEq, Nat.reduceAdd, Nat.reduceSub, Nat.reduceBEq, Nat.reduceLT, Nat.reduceMul, Nat.reducePow, Nat.reduceLeDiff]; done) | fail "no") only [go_sem, if_true, if_false, reduceIte, reduceCtorEq, Nat.reduceAdd, Nat.reduceSub, Nat.reduceBEq, Nat.reduceLT, Nat.reduceMul, Nat.reducePow, Nat.reduceLeDiff]
  refine acall rfl (eqBoolS_c (hd.ext (by with_reducible iterate 60 (try (first | exact Ext.refl _ | assumption | exact Ext.push _ _ | refine Ext.trans ?_ (Ext.push _ _) | (refine Ext.put ?_ (by first | omega | (simp only [Mem.size_push]; omega)) _) | (refine Ext.trans ?_ (by assumption)))))) (hd'.ext (by with_reducible iterate 60 (try (first | exact Ext.refl _ | assumption | exact Ext.push _ _ | refine Ext.trans ?_ (Ext.push _ _) | (refine Ext.put ?_ (by first | omega | (simp only [Mem.size_push]; omega)) _) | (refine Ext.trans ?_ (by assumption)))))) hx.2.1) ?_
  rintro r2 m2 ⟨rfl, rfl⟩ -
  refine hK1 _ _ ?_; clear hK1 K1
  (repeat (refine aops_cons fun K1 hK1 => ?_; simp (disch := first | with_reducible assumption | (simp -failIfUnchanged only [Mem.size_push, Mem.size_put, Mem.size_kill, List.length_cons, List.length_nil, List.length_append, List.length_map, List.length_take, List.length_replicate] <;> omega) | (refine (id ?_ : (_ : Bool) = true); simp only [go_sem, if_true, if_false, reduceIte, reduceCtorEq, Nat.reduceAdd, Nat.reduceSub, Nat.reduceBEq, Nat.reduceLT, Nat.reduceMul, Nat.reducePow, Nat.reduceLeDiff]; done) | fail "no") only [go_sem, if_true, if_false, reduceIte, reduceCtorEq, Nat.reduceAdd, Nat.reduceSub, Nat.reduceBEq, Nat.reduceLT, Nat.reduceMul, Nat.reducePow, Nat.reduceLeDiff]; refine hK1 _ _ ?_; clear hK1 K1))
  refine aops_nil ?_; simp only [Nx, Caught, if_true, if_false, reduceIte, Nat.reduceEqDiff]
  try clear gd sep
  first | (refine hK _ _ ?_; clear hK K) | skip
  repeat (first
    | (refine awp_seq fun K hK => ?_)
    | (refine awp_block ?_)
    | (refine awp_skip ?_; simp only [Nx, Caught, if_true, if_false, reduceIte, Nat.reduceEqDiff])
    | (refine awp_exit ?_; simp only [Nx, Caught, if_true, if_false, reduceIte, Nat.reduceEqDiff])
    | (refine region_seq fun gd sep hgd => ?_; clear hgd; (repeat (refine aops_cons fun K1 hK1 => ?_; simp (disch := first | with_reducible assumption | (simp -failIfUnchanged only [Mem.size_push, Mem.size_put, Mem.size_kill, List.length_cons, List.length_nil, List.length_append, List.length_map, List.length_take, List.length_replicate] <;> omega) | (refine (id ?_ : (_ : Bool) = true); simp only [go_sem, if_true, if_false, reduceIte, reduceCtorEq, Nat.reduceAdd, Nat.reduceSub, Nat.reduceBEq, Nat.reduceLT, Nat.reduceMul, Nat.reducePow, Nat.reduceLeDiff]; done) | fail "no") only [go_sem, if_true, if_false, reduceIte, reduceCtorEq, Nat.reduceAdd, Nat.reduceSub, Nat.reduceBEq, Nat.reduceLT, Nat.reduceMul, Nat.reducePow, Nat.reduceLeDiff]; refine hK1 _ _ ?_; clear hK1 K1)); refine aops_nil ?_; simp only [Nx, Caught, if_true, if_false, reduceIte, Nat.reduceEqDiff]; clear gd sep)
    | (refine region_draw' mixed (by decide +kernel) fun gd sep hgd hsep => ?_; clear hgd hsep; (repeat (refine aops_cons fun K1 hK1 => ?_; simp (disch := first | with_reducible assumption | (simp -failIfUnchanged only [Mem.size_push, Mem.size_put, Mem.size_kill, List.length_cons, List.length_nil, List.length_append, List.length_map, List.length_take, List.length_replicate] <;> omega) | (refine (id ?_ : (_ : Bool) = true); simp only [go_sem, if_true, if_false, reduceIte, reduceCtorEq, Nat.reduceAdd, Nat.reduceSub, Nat.reduceBEq, Nat.reduceLT, Nat.reduceMul, Nat.reducePow, Nat.reduceLeDiff]; done) | fail "no") only [go_sem, if_true, if_false, reduceIte, reduceCtorEq, Nat.reduceAdd, Nat.reduceSub, Nat.reduceBEq, Nat.reduceLT, Nat.reduceMul, Nat.reducePow, Nat.reduceLeDiff]; refine hK1 _ _ ?_; clear hK1 K1)); refine aops_nil ?_; simp only [Nx, Caught, if_true, if_false, reduceIte, Nat.reduceEqDiff]; clear gd sep)
    | (refine hK _ _ ?_; clear hK K)
    | (clear hK K)
    )
  refine awp_if rfl (fun g' => ?_) (fun g' => ?_)
  · repeat (first
      | (refine awp_seq fun K hK => ?_)
      | (refine awp_block ?_)
      | (refine awp_skip ?_; simp only [Nx, Caught, if_true, if_false, reduceIte, Nat.reduceEqDiff])
      | (refine awp_exit ?_; simp only [Nx, Caught, if_true, if_false, reduceIte, Nat.reduceEqDiff])
      | (refine region_seq fun gd sep hgd => ?_; clear hgd; (repeat (refine aops_cons fun K1 hK1 => ?_; simp (disch := first | with_reducible assumption | (simp -failIfUnchanged only [Mem.size_push, Mem.size_put, Mem.size_kill, List.length_cons, List.length_nil, List.length_append, List.length_map, List.length_take, List.length_replicate] <;> omega) | (refine (id ?_ : (_ : Bool) = true); simp only [go_sem, if_true, if_false, reduceIte, reduceCtorEq, Nat.reduceAdd, Nat.reduceSub, Nat.reduceBEq, Nat.reduceLT, Nat.reduceMul, Nat.reducePow, Nat.reduceLeDiff]; done) | fail "no") only [go_sem, if_true, if_false, reduceIte, reduceCtorEq, Nat.reduceAdd, Nat.reduceSub, Nat.reduceBEq, Nat.reduceLT, Nat.reduceMul, Nat.reducePow, Nat.reduceLeDiff]; refine hK1 _ _ ?_; clear hK1 K1)); refine aops_nil ?_; simp only [Nx, Caught, if_true, if_false, reduceIte, Nat.reduceEqDiff]; clear gd sep)
      | (refine region_draw' mixed (by decide +kernel) fun gd sep hgd hsep => ?_; clear hgd hsep; (repeat (refine aops_cons fun K1 hK1 => ?_; simp (disch := first | with_reducible assumption | (simp -failIfUnchanged only [Mem.size_push, Mem.size_put, Mem.size_kill, List.length_cons, List.length_nil, List.length_append, List.length_map, List.length_take, List.length_replicate] <;> omega) | (refine (id ?_ : (_ : Bool) = true); simp only [go_sem, if_true, if_false, reduceIte, reduceCtorEq, Nat.reduceAdd, Nat.reduceSub, Nat.reduceBEq, Nat.reduceLT, Nat.reduceMul, Nat.reducePow, Nat.reduceLeDiff]; done) | fail "no") only [go_sem, if_true, if_false, reduceIte, reduceCtorEq, Nat.reduceAdd, Nat.reduceSub, Nat.reduceBEq, Nat.reduceLT, Nat.reduceMul, Nat.reducePow, Nat.reduceLeDiff]; refine hK1 _ _ ?_; clear hK1 K1)); refine aops_nil ?_; simp only [Nx, Caught, if_true, if_false, reduceIte, Nat.reduceEqDiff]; clear gd sep)
      | (refine hK _ _ ?_; clear hK K)
      | (clear hK K)
      )
    refine awp_ret ?_; try simp only [Nx, Caught]
    apply ends_ret
    · simp (disch := first | with_reducible assumption | (simp -failIfUnchanged only [Mem.size_push, Mem.size_put, Mem.size_kill, List.length_cons, List.length_nil, List.length_append, List.length_map, List.length_take, List.length_replicate] <;> omega) | (refine (id ?_ : (_ : Bool) = true); simp only [go_sem, if_true, if_false, reduceIte, reduceCtorEq, Nat.reduceAdd, Nat.reduceSub, Nat.reduceBEq, Nat.reduceLT, Nat.reduceMul, Nat.reducePow, Nat.reduceLeDiff]; done) | fail "no") only [go_sem, if_true, if_false, reduceIte, reduceCtorEq, Nat.reduceAdd, Nat.reduceSub, Nat.reduceBEq, Nat.reduceLT, Nat.reduceMul, Nat.reducePow, Nat.reduceLeDiff, aress, ares1]; exact rfl
    simp only [tupled]
    simp at g'
    simp [GP.same, g']
  repeat (first
    | (refine awp_seq fun K hK => ?_)
    | (refine awp_block ?_)
    | (refine awp_skip ?_; simp only [Nx, Caught, if_true, if_false, reduceIte, Nat.reduceEqDiff])
    | (refine awp_exit ?_; simp only [Nx, Caught, if_true, if_false, reduceIte, Nat.reduceEqDiff])
    | (refine region_seq fun gd sep hgd => ?_; clear hgd; (repeat (refine aops_cons fun K1 hK1 => ?_; simp (disch := first | with_reducible assumption | (simp -failIfUnchanged only [Mem.size_push, Mem.size_put, Mem.size_kill, List.length_cons, List.length_nil, List.length_append, List.length_map, List.length_take, List.length_replicate, e1.ald, e1.alds] <;> omega) | (refine (id ?_ : (_ : Bool) = true); simp only [go_sem, if_true, if_false, reduceIte, reduceCtorEq, Nat.reduceAdd, Nat.reduceSub, Nat.reduceBEq, Nat.reduceLT, Nat.reduceMul, Nat.reducePow, Nat.reduceLeDiff, e1.ald, e1.alds]; done) | fail "no") only [go_sem, if_true, if_false, reduceIte, reduceCtorEq, Nat.reduceAdd, Nat.reduceSub, Nat.reduceBEq, Nat.reduceLT, Nat.reduceMul, Nat.reducePow, Nat.reduceLeDiff, e1.ald, e1.alds]; refine hK1 _ _ ?_; clear hK1 K1)); refine aops_nil ?_; simp only [Nx, Caught, if_true, if_false, reduceIte, Nat.reduceEqDiff]; clear gd sep)
    | (refine region_draw' mixed (by decide +kernel) fun gd sep hgd hsep => ?_; clear hgd hsep; (repeat (refine aops_cons fun K1 hK1 => ?_; simp (disch := first | with_reducible assumption | (simp -failIfUnchanged only [Mem.size_push, Mem.size_put, Mem.size_kill, List.length_cons, List.length_nil, List.length_append, List.length_map, List.length_take, List.length_replicate, e1.ald, e1.alds] <;> omega) | (refine (id ?_ : (_ : Bool) = true); simp only [go_sem, if_true, if_false, reduceIte, reduceCtorEq, Nat.reduceAdd, Nat.reduceSub, Nat.reduceBEq, Nat.reduceLT, Nat.reduceMul, Nat.reducePow, Nat.reduceLeDiff, e1.ald, e1.alds]; done) | fail "no") only [go_sem, if_true, if_false, reduceIte, reduceCtorEq, Nat.reduceAdd, Nat.reduceSub, Nat.reduceBEq, Nat.reduceLT, Nat.reduceMul, Nat.reducePow, Nat.reduceLeDiff, e1.ald, e1.alds]; refine hK1 _ _ ?_; clear hK1 K1)); refine aops_nil ?_; simp only [Nx, Caught, if_true, if_false, reduceIte, Nat.reduceEqDiff]; clear gd sep)
    | (refine hK _ _ ?_; clear hK K)
    | (clear hK K)
    )
  refine region_seq fun gd sep hgd => ?_
  clear hgd
  (repeat (refine aops_cons fun K1 hK1 => ?_; simp (disch := first | with_reducible assumption | (simp -failIfUnchanged only [Mem.size_push, Mem.size_put, Mem.size_kill, List.length_cons, List.length_nil, List.length_append, List.length_map, List.length_take, List.length_replicate, e1.ald, e1.alds] <;> omega) | (refine (id ?_ : (_ : Bool) = true); simp only [go_sem, if_true, if_false, reduceIte, reduceCtorEq, Nat.reduceAdd, Nat.reduceSub, Nat.reduceBEq, Nat.reduceLT, Nat.reduceMul, Nat.reducePow, Nat.reduceLeDiff, e1.ald, e1.alds]; done) | fail "no") only [go_sem, if_true, if_false, reduceIte, reduceCtorEq, Nat.reduceAdd, Nat.reduceSub, Nat.reduceBEq, Nat.reduceLT, Nat.reduceMul, Nat.reducePow, Nat.reduceLeDiff, e1.ald, e1.alds]; refine hK1 _ _ ?_; clear hK1 K1))
  refine aops_cons fun K1 hK1 => ?_
  simp (disch := first | with_reducible assumption | (simp -failIfUnchanged only [Mem.size_push, Mem.size_put, Mem.size_kill, List.length_cons, List.length_nil, List.length_append, List.length_map, List.length_take, List.length_replicate] <;> omega) | (refine (id ?_ : (_ : Bool) = true); simp only [go_sem, if_true, if_false, reduceIte, reduceCtorEq, Nat.reduceAdd, Nat.reduceSub, Nat.reduceBEq, Nat.reduceLT, Nat.reduceMul, Nat.reducePow, Nat.reduceLeDiff]; done) | fail "no") only [go_sem, if_true, if_false, reduceIte, reduceCtorEq, Nat.reduceAdd, Nat.reduceSub, Nat.reduceBEq, Nat.reduceLT, Nat.reduceMul, Nat.reducePow, Nat.reduceLeDiff]
  refine acall rfl (eqIntS_c (he.ext (by with_reducible iterate 60 (try (first | exact Ext.refl _ | assumption | exact Ext.push _ _ | refine Ext.trans ?_ (Ext.push _ _) | (refine Ext.put ?_ (by first | omega | (simp only [Mem.size_push]; omega)) _) | (refine Ext.trans ?_ (by assumption)))))) (he'.ext (by with_reducible iterate 60 (try (first | exact Ext.refl _ | assumption | exact Ext.push _ _ | refine Ext.trans ?_ (Ext.push _ _) | (refine Ext.put ?_ (by first | omega | (simp only [Mem.size_push]; omega)) _) | (refine Ext.trans ?_ (by assumption)))))) hx.2.2) ?_
  rintro r3 m3 ⟨rfl, rfl⟩ -
  refine hK1 _ _ ?_; clear hK1 K1
  (repeat (refine aops_cons fun K1 hK1 => ?_; simp (disch := first | with_reducible assumption | (simp -failIfUnchanged only [Mem.size_push, Mem.size_put, Mem.size_kill, List.length_cons, List.length_nil, List.length_append, List.length_map, List.length_take, List.length_replicate] <;> omega) | (refine (id ?_ : (_ : Bool) = true); simp only [go_sem, if_true, if_false, reduceIte, reduceCtorEq, Nat.reduceAdd, Nat.reduceSub, Nat.reduceBEq, Nat.reduceLT, Nat.reduceMul, Nat.reducePow, Nat.reduceLeDiff]; done) | fail "no") only [go_sem, if_true, if_false, reduceIte, reduceCtorEq, Nat.reduceAdd, Nat.reduceSub, Nat.reduceBEq, Nat.reduceLT, Nat.reduceMul, Nat.reducePow, Nat.reduceLeDiff]; refine hK1 _ _ ?_; clear hK1 K1))
  refine aops_nil ?_; simp only [Nx, Caught, if_true, if_false, reduceIte, Nat.reduceEqDiff]
  try clear gd sep
  first | (refine hK _ _ ?_; clear hK K) | skip
  repeat (first
    | (refine awp_seq fun K hK => ?_)
    | (refine awp_block ?_)
    | (refine awp_skip ?_; simp only [Nx, Caught, if_true, if_false, reduceIte, Nat.reduceEqDiff])
    | (refine awp_exit ?_; simp only [Nx, Caught, if_true, if_false, reduceIte, Nat.reduceEqDiff])
    | (refine region_seq fun gd sep hgd => ?_; clear hgd; (repeat (refine aops_cons fun K1 hK1 => ?_; simp (disch := first | with_reducible assumption | (simp -failIfUnchanged only [Mem.size_push, Mem.size_put, Mem.size_kill, List.length_cons, List.length_nil, List.length_append, List.length_map, List.length_take, List.length_replicate] <;> omega) | (refine (id ?_ : (_ : Bool) = true); simp only [go_sem, if_true, if_false, reduceIte, reduceCtorEq, Nat.reduceAdd, Nat.reduceSub, Nat.reduceBEq, Nat.reduceLT, Nat.reduceMul, Nat.reducePow, Nat.reduceLeDiff]; done) | fail "no") only [go_sem, if_true, if_false, reduceIte, reduceCtorEq, Nat.reduceAdd, Nat.reduceSub, Nat.reduceBEq, Nat.reduceLT, Nat.reduceMul, Nat.reducePow, Nat.reduceLeDiff]; refine hK1 _ _ ?_; clear hK1 K1)); refine aops_nil ?_; simp only [Nx, Caught, if_true, if_false, reduceIte, Nat.reduceEqDiff]; clear gd sep)
    | (refine region_draw' mixed (by decide +kernel) fun gd sep hgd hsep => ?_; clear hgd hsep; (repeat (refine aops_cons fun K1 hK1 => ?_; simp (disch := first | with_reducible assumption | (simp -failIfUnchanged only [Mem.size_push, Mem.size_put, Mem.size_kill, List.length_cons, List.length_nil, List.length_append, List.length_map, List.length_take, List.length_replicate] <;> omega) | (refine (id ?_ : (_ : Bool) = true); simp only [go_sem, if_true, if_false, reduceIte, reduceCtorEq, Nat.reduceAdd, Nat.reduceSub, Nat.reduceBEq, Nat.reduceLT, Nat.reduceMul, Nat.reducePow, Nat.reduceLeDiff]; done) | fail "no") only [go_sem, if_true, if_false, reduceIte, reduceCtorEq, Nat.reduceAdd, Nat.reduceSub, Nat.reduceBEq, Nat.reduceLT, Nat.reduceMul, Nat.reducePow, Nat.reduceLeDiff]; refine hK1 _ _ ?_; clear hK1 K1)); refine aops_nil ?_; simp only [Nx, Caught, if_true, if_false, reduceIte, Nat.reduceEqDiff]; clear gd sep)
    | (refine hK _ _ ?_; clear hK K)
    | (clear hK K)
    )
  refine awp_if rfl (fun g'' => ?_) (fun g'' => ?_)
  · repeat (first
      | (refine awp_seq fun K hK => ?_)
      | (refine awp_block ?_)
      | (refine awp_skip ?_; simp only [Nx, Caught, if_true, if_false, reduceIte, Nat.reduceEqDiff])
      | (refine awp_exit ?_; simp only [Nx, Caught, if_true, if_false, reduceIte, Nat.reduceEqDiff])
      | (refine region_seq fun gd sep hgd => ?_; clear hgd; (repeat (refine aops_cons fun K1 hK1 => ?_; simp (disch := first | with_reducible assumption | (simp -failIfUnchanged only [Mem.size_push, Mem.size_put, Mem.size_kill, List.length_cons, List.length_nil, List.length_append, List.length_map, List.length_take, List.length_replicate] <;> omega) | (refine (id ?_ : (_ : Bool) = true); simp only [go_sem, if_true, if_false, reduceIte, reduceCtorEq, Nat.reduceAdd, Nat.reduceSub, Nat.reduceBEq, Nat.reduceLT, Nat.reduceMul, Nat.reducePow, Nat.reduceLeDiff]; done) | fail "no") only [go_sem, if_true, if_false, reduceIte, reduceCtorEq, Nat.reduceAdd, Nat.reduceSub, Nat.reduceBEq, Nat.reduceLT, Nat.reduceMul, Nat.reducePow, Nat.reduceLeDiff]; refine hK1 _ _ ?_; clear hK1 K1)); refine aops_nil ?_; simp only [Nx, Caught, if_true, if_false, reduceIte, Nat.reduceEqDiff]; clear gd sep)
      | (refine region_draw' mixed (by decide +kernel) fun gd sep hgd hsep => ?_; clear hgd hsep; (repeat (refine aops_cons fun K1 hK1 => ?_; simp (disch := first | with_reducible assumption | (simp -failIfUnchanged only [Mem.size_push, Mem.size_put, Mem.size_kill, List.length_cons, List.length_nil, List.length_append, List.length_map, List.length_take, List.length_replicate] <;> omega) | (refine (id ?_ : (_ : Bool) = true); simp only [go_sem, if_true, if_false, reduceIte, reduceCtorEq, Nat.reduceAdd, Nat.reduceSub, Nat.reduceBEq, Nat.reduceLT, Nat.reduceMul, Nat.reducePow, Nat.reduceLeDiff]; done) | fail "no") only [go_sem, if_true, if_false, reduceIte, reduceCtorEq, Nat.reduceAdd, Nat.reduceSub, Nat.reduceBEq, Nat.reduceLT, Nat.reduceMul, Nat.reducePow, Nat.reduceLeDiff]; refine hK1 _ _ ?_; clear hK1 K1)); refine aops_nil ?_; simp only [Nx, Caught, if_true, if_false, reduceIte, Nat.reduceEqDiff]; clear gd sep)
      | (refine hK _ _ ?_; clear hK K)
      | (clear hK K)
      )
    refine awp_ret ?_; try simp only [Nx, Caught]
    apply ends_ret
    · simp (disch := first | with_reducible assumption | (simp -failIfUnchanged only [Mem.size_push, Mem.size_put, Mem.size_kill, List.length_cons, List.length_nil, List.length_append, List.length_map, List.length_take, List.length_replicate] <;> omega) | (refine (id ?_ : (_ : Bool) = true); simp only [go_sem, if_true, if_false, reduceIte, reduceCtorEq, Nat.reduceAdd, Nat.reduceSub, Nat.reduceBEq, Nat.reduceLT, Nat.reduceMul, Nat.reducePow, Nat.reduceLeDiff]; done) | fail "no") only [go_sem, if_true, if_false, reduceIte, reduceCtorEq, Nat.reduceAdd, Nat.reduceSub, Nat.reduceBEq, Nat.reduceLT, Nat.reduceMul, Nat.reducePow, Nat.reduceLeDiff, aress, ares1]; exact rfl
    simp only [tupled]
    simp at g''
    simp [GP.same, g'']
  · repeat (first
      | (refine awp_seq fun K hK => ?_)
      | (refine awp_block ?_)
      | (refine awp_skip ?_; simp only [Nx, Caught, if_true, if_false, reduceIte, Nat.reduceEqDiff])
      | (refine awp_exit ?_; simp only [Nx, Caught, if_true, if_false, reduceIte, Nat.reduceEqDiff])
      | (refine region_seq fun gd sep hgd => ?_; clear hgd; (repeat (refine aops_cons fun K1 hK1 => ?_; simp (disch := first | with_reducible assumption | (simp -failIfUnchanged only [Mem.size_push, Mem.size_put, Mem.size_kill, List.length_cons, List.length_nil, List.length_append, List.length_map, List.length_take, List.length_replicate] <;> omega) | (refine (id ?_ : (_ : Bool) = true); simp only [go_sem, if_true, if_false, reduceIte, reduceCtorEq, Nat.reduceAdd, Nat.reduceSub, Nat.reduceBEq, Nat.reduceLT, Nat.reduceMul, Nat.reducePow, Nat.reduceLeDiff]; done) | fail "no") only [go_sem, if_true, if_false, reduceIte, reduceCtorEq, Nat.reduceAdd, Nat.reduceSub, Nat.reduceBEq, Nat.reduceLT, Nat.reduceMul, Nat.reducePow, Nat.reduceLeDiff]; refine hK1 _ _ ?_; clear hK1 K1)); refine aops_nil ?_; simp only [Nx, Caught, if_true, if_false, reduceIte, Nat.reduceEqDiff]; clear gd sep)
      | (refine region_draw' mixed (by decide +kernel) fun gd sep hgd hsep => ?_; clear hgd hsep; (repeat (refine aops_cons fun K1 hK1 => ?_; simp (disch := first | with_reducible assumption | (simp -failIfUnchanged only [Mem.size_push, Mem.size_put, Mem.size_kill, List.length_cons, List.length_nil, List.length_append, List.length_map, List.length_take, List.length_replicate] <;> omega) | (refine (id ?_ : (_ : Bool) = true); simp only [go_sem, if_true, if_false, reduceIte, reduceCtorEq, Nat.reduceAdd, Nat.reduceSub, Nat.reduceBEq, Nat.reduceLT, Nat.reduceMul, Nat.reducePow, Nat.reduceLeDiff]; done) | fail "no") only [go_sem, if_true, if_false, reduceIte, reduceCtorEq, Nat.reduceAdd, Nat.reduceSub, Nat.reduceBEq, Nat.reduceLT, Nat.reduceMul, Nat.reducePow, Nat.reduceLeDiff]; refine hK1 _ _ ?_; clear hK1 K1)); refine aops_nil ?_; simp only [Nx, Caught, if_true, if_false, reduceIte, Nat.reduceEqDiff]; clear gd sep)
      | (refine hK _ _ ?_; clear hK K)
      | (clear hK K)
      )
    refine awp_ret ?_; try simp only [Nx, Caught]
    apply ends_ret
    · simp (disch := first | with_reducible assumption | (simp -failIfUnchanged only [Mem.size_push, Mem.size_put, Mem.size_kill, List.length_cons, List.length_nil, List.length_append, List.length_map, List.length_take, List.length_replicate] <;> omega) | (refine (id ?_ : (_ : Bool) = true); simp only [go_sem, if_true, if_false, reduceIte, reduceCtorEq, Nat.reduceAdd, Nat.reduceSub, Nat.reduceBEq, Nat.reduceLT, Nat.reduceMul, Nat.reducePow, Nat.reduceLeDiff]; done) | fail "no") only [go_sem, if_true, if_false, reduceIte, reduceCtorEq, Nat.reduceAdd, Nat.reduceSub, Nat.reduceBEq, Nat.reduceLT, Nat.reduceMul, Nat.reducePow, Nat.reduceLeDiff, aress, ares1]; exact rfl
    simp only [tupled]
    simp at g g' g''
    simp [GP.same, g, g', g'']

/-- The heap with marks. -/
def HP.cnt (h : HP) : Nat := h.l.length + h.r.length + h.ro.length
def HP.mark (k : Int) (h : HP) : HP := ⟨iota k h.l.length, iota (k + h.l.length) h.r.length, iota (k + h.l.length + h.r.length) h.ro.length⟩
def GP.cnt (g : GP) : Nat := g.h.cnt + g.old.length + g.rem.length
def GP.mark (k : Int) (g : GP) : GP := ⟨g.h.mark k, iotaB (k + g.h.cnt) g.old.length, iota (k + g.h.cnt + g.old.length) g.rem.length⟩

theorem heldHeap_c {m : Mem} {v : AVal} {h : HP} {k : Int} (hv : RdH m v (h.mark k)) (h0 : 0 ≤ k) (h1 : k + h.cnt ≤ 4611686018427387904) :
    ∃ r m', (r = .int .i64 (k + h.cnt)) ∧ DCalls PP m.size 78 [v, .int .i64 k] m r m' := by
  obtain ⟨a, b, c, rfl, ha, hb, hc⟩ := hv
  unfold HP.cnt at *
  refine enter Try.func78 (by decide) rfl Try.ntmps78 Try.results78 ?_
  repeat (first
    | (refine awp_seq fun K hK => ?_)
    | (refine awp_block ?_)
    | (refine awp_skip ?_; simp only [Nx, Caught, if_true, if_false, reduceIte, Nat.reduceEqDiff])
    | (refine awp_exit ?_; simp only [Nx, Caught, if_true, if_false, reduceIte, Nat.reduceEqDiff])
    | (refine region_seq fun gd sep hgd => ?_; clear hgd; (repeat (refine aops_cons fun K1 hK1 => ?_; simp (disch := first | with_reducible assumption | (simp -failIfUnchanged only [Mem.size_push, Mem.size_put, Mem.size_kill, List.length_cons, List.length_nil, List.length_append, List.length_map, List.length_take, List.length_replicate] <;> omega) | (refine (id ?_ : (_ : Bool) = true); simp only [go_sem, if_true, if_false, reduceIte, reduceCtorEq, Nat.reduceAdd, Nat.reduceSub, Nat.reduceBEq, Nat.reduceLT, Nat.reduceMul, Nat.reducePow, Nat.reduceLeDiff]; done) | fail "no") only [go_sem, if_true, if_false, reduceIte, reduceCtorEq, Nat.reduceAdd, Nat.reduceSub, Nat.reduceBEq, Nat.reduceLT, Nat.reduceMul, Nat.reducePow, Nat.reduceLeDiff]; refine hK1 _ _ ?_; clear hK1 K1)); refine aops_nil ?_; simp only [Nx, Caught, if_true, if_false, reduceIte, Nat.reduceEqDiff]; clear gd sep)
    | (refine region_draw' mixed (by decide +kernel) fun gd sep hgd hsep => ?_; clear hgd hsep; (repeat (refine aops_cons fun K1 hK1 => ?_; simp (disch := first | with_reducible assumption | (simp -failIfUnchanged only [Mem.size_push, Mem.size_put, Mem.size_kill, List.length_cons, List.length_nil, List.length_append, List.length_map, List.length_take, List.length_replicate] <;> omega) | (refine (id ?_ : (_ : Bool) = true); simp only [go_sem, if_true, if_false, reduceIte, reduceCtorEq, Nat.reduceAdd, Nat.reduceSub, Nat.reduceBEq, Nat.reduceLT, Nat.reduceMul, Nat.reducePow, Nat.reduceLeDiff]; done) | fail "no") only [go_sem, if_true, if_false, reduceIte, reduceCtorEq, Nat.reduceAdd, Nat.reduceSub, Nat.reduceBEq, Nat.reduceLT, Nat.reduceMul, Nat.reducePow, Nat.reduceLeDiff]; refine hK1 _ _ ?_; clear hK1 K1)); refine aops_nil ?_; simp only [Nx, Caught, if_true, if_false, reduceIte, Nat.reduceEqDiff]; clear gd sep)
    | (refine hK _ _ ?_; clear hK K)
    | (clear hK K)
    )
  refine region_seq fun gd sep hgd => ?_
  clear hgd
  (repeat (refine aops_cons fun K1 hK1 => ?_; simp (disch := first | with_reducible assumption | (simp -failIfUnchanged only [Mem.size_push, Mem.size_put, Mem.size_kill, List.length_cons, List.length_nil, List.length_append, List.length_map, List.length_take, List.length_replicate] <;> omega) | (refine (id ?_ : (_ : Bool) = true); simp only [go_sem, if_true, if_false, reduceIte, reduceCtorEq, Nat.reduceAdd, Nat.reduceSub, Nat.reduceBEq, Nat.reduceLT, Nat.reduceMul, Nat.reducePow, Nat.reduceLeDiff]; done) | fail "no") only [go_sem, if_true, if_false, reduceIte, reduceCtorEq, Nat.reduceAdd, Nat.reduceSub, Nat.reduceBEq, Nat.reduceLT, Nat.reduceMul, Nat.reducePow, Nat.reduceLeDiff]; refine hK1 _ _ ?_; clear hK1 K1))
  refine aops_cons fun K1 hK1 => ?_
  simp (disch := first | with_reducible assumption | (simp -failIfUnchanged only [Mem.size_push, Mem.size_put, Mem.size_kill, List.length_cons, List.length_nil, List.length_append, List.length_map, List.length_take, List.length_replicate] <;> omega) | (refine (id ?_ : (_ : Bool) = true); simp only [go_sem, if_true, if_false, reduceIte, reduceCtorEq, Nat.reduceAdd, Nat.reduceSub, Nat.reduceBEq, Nat.reduceLT, Nat.reduceMul, Nat.reducePow, Nat.reduceLeDiff]; done) | fail "no") only [go_sem, if_true, if_false, reduceIte, reduceCtorEq, Nat.reduceAdd, Nat.reduceSub, Nat.reduceBEq, Nat.reduceLT, Nat.reduceMul, Nat.reducePow, Nat.reduceLeDiff]
  refine acall rfl (heldIntS_c (ha.ext (by with_reducible iterate 60 (try (first | exact Ext.refl _ | assumption | exact Ext.push _ _ | refine Ext.trans ?_ (Ext.push _ _) | (refine Ext.put ?_ (by first | omega | (simp only [Mem.size_push]; omega)) _) | (refine Ext.trans ?_ (by assumption)))))) (by simp [HP.mark, iota_length]) h0 (by simp [HP.mark, iota_length]; omega)) ?_
  rintro r1 m1 ⟨rfl, rfl⟩ -
  refine hK1 _ _ ?_; clear hK1 K1
  (repeat (refine aops_cons fun K1 hK1 => ?_; simp (disch := first | with_reducible assumption | (simp -failIfUnchanged only [Mem.size_push, Mem.size_put, Mem.size_kill, List.length_cons, List.length_nil, List.length_append, List.length_map, List.length_take, List.length_replicate] <;> omega) | (refine (id ?_ : (_ : Bool) = true); simp only [go_sem, if_true, if_false, reduceIte, reduceCtorEq, Nat.reduceAdd, Nat.reduceSub, Nat.reduceBEq, Nat.reduceLT, Nat.reduceMul, Nat.reducePow, Nat.reduceLeDiff]; done) | fail "no") only [go_sem, if_true, if_false, reduceIte, reduceCtorEq, Nat.reduceAdd, Nat.reduceSub, Nat.reduceBEq, Nat.reduceLT, Nat.reduceMul, Nat.reducePow, Nat.reduceLeDiff]; refine hK1 _ _ ?_; clear hK1 K1))
  refine aops_nil ?_; simp only [Nx, Caught, if_true, if_false, reduceIte, Nat.reduceEqDiff]
  try clear gd sep
  first | (refine hK _ _ ?_; clear hK K) | skip
  repeat (first
    | (refine awp_seq fun K hK => ?_)
    | (refine awp_block ?_)
    | (refine awp_skip ?_; simp only [Nx, Caught, if_true, if_false, reduceIte, Nat.reduceEqDiff])
    | (refine awp_exit ?_; simp only [Nx, Caught, if_true, if_false, reduceIte, Nat.reduceEqDiff])
    | (refine region_seq fun gd sep hgd => ?_; clear hgd; (repeat (refine aops_cons fun K1 hK1 => ?_; simp (disch := first | with_reducible assumption | (simp -failIfUnchanged only [Mem.size_push, Mem.size_put, Mem.size_kill, List.length_cons, List.length_nil, List.length_append, List.length_map, List.length_take, List.length_replicate] <;> omega) | (refine (id ?_ : (_ : Bool) = true); simp only [go_sem, if_true, if_false, reduceIte, reduceCtorEq, Nat.reduceAdd, Nat.reduceSub, Nat.reduceBEq, Nat.reduceLT, Nat.reduceMul, Nat.reducePow, Nat.reduceLeDiff]; done) | fail "no") only [go_sem, if_true, if_false, reduceIte, reduceCtorEq, Nat.reduceAdd, Nat.reduceSub, Nat.reduceBEq, Nat.reduceLT, Nat.reduceMul, Nat.reducePow, Nat.reduceLeDiff]; refine hK1 _ _ ?_; clear hK1 K1)); refine aops_nil ?_; simp only [Nx, Caught, if_true, if_false, reduceIte, Nat.reduceEqDiff]; clear gd sep)
    | (refine region_draw' mixed (by decide +kernel) fun gd sep hgd hsep => ?_; clear hgd hsep; (repeat (refine aops_cons fun K1 hK1 => ?_; simp (disch := first | with_reducible assumption | (simp -failIfUnchanged only [Mem.size_push, Mem.size_put, Mem.size_kill, List.length_cons, List.length_nil, List.length_append, List.length_map, List.length_take, List.length_replicate] <;> omega) | (refine (id ?_ : (_ : Bool) = true); simp only [go_sem, if_true, if_false, reduceIte, reduceCtorEq, Nat.reduceAdd, Nat.reduceSub, Nat.reduceBEq, Nat.reduceLT, Nat.reduceMul, Nat.reducePow, Nat.reduceLeDiff]; done) | fail "no") only [go_sem, if_true, if_false, reduceIte, reduceCtorEq, Nat.reduceAdd, Nat.reduceSub, Nat.reduceBEq, Nat.reduceLT, Nat.reduceMul, Nat.reducePow, Nat.reduceLeDiff]; refine hK1 _ _ ?_; clear hK1 K1)); refine aops_nil ?_; simp only [Nx, Caught, if_true, if_false, reduceIte, Nat.reduceEqDiff]; clear gd sep)
    | (refine hK _ _ ?_; clear hK K)
    | (clear hK K)
    )
  refine awp_if rfl (fun g => ?_) (fun g => ?_)
  · simp at g; omega
  repeat (first
    | (refine awp_seq fun K hK => ?_)
    | (refine awp_block ?_)
    | (refine awp_skip ?_; simp only [Nx, Caught, if_true, if_false, reduceIte, Nat.reduceEqDiff])
    | (refine awp_exit ?_; simp only [Nx, Caught, if_true, if_false, reduceIte, Nat.reduceEqDiff])
    | (refine region_seq fun gd sep hgd => ?_; clear hgd; (repeat (refine aops_cons fun K1 hK1 => ?_; simp (disch := first | with_reducible assumption | (simp -failIfUnchanged only [Mem.size_push, Mem.size_put, Mem.size_kill, List.length_cons, List.length_nil, List.length_append, List.length_map, List.length_take, List.length_replicate] <;> omega) | (refine (id ?_ : (_ : Bool) = true); simp only [go_sem, if_true, if_false, reduceIte, reduceCtorEq, Nat.reduceAdd, Nat.reduceSub, Nat.reduceBEq, Nat.reduceLT, Nat.reduceMul, Nat.reducePow, Nat.reduceLeDiff]; done) | fail "no") only [go_sem, if_true, if_false, reduceIte, reduceCtorEq, Nat.reduceAdd, Nat.reduceSub, Nat.reduceBEq, Nat.reduceLT, Nat.reduceMul, Nat.reducePow, Nat.reduceLeDiff]; refine hK1 _ _ ?_; clear hK1 K1)); refine aops_nil ?_; simp only [Nx, Caught, if_true, if_false, reduceIte, Nat.reduceEqDiff]; clear gd sep)
    | (refine region_draw' mixed (by decide +kernel) fun gd sep hgd hsep => ?_; clear hgd hsep; (repeat (refine aops_cons fun K1 hK1 => ?_; simp (disch := first | with_reducible assumption | (simp -failIfUnchanged only [Mem.size_push, Mem.size_put, Mem.size_kill, List.length_cons, List.length_nil, List.length_append, List.length_map, List.length_take, List.length_replicate] <;> omega) | (refine (id ?_ : (_ : Bool) = true); simp only [go_sem, if_true, if_false, reduceIte, reduceCtorEq, Nat.reduceAdd, Nat.reduceSub, Nat.reduceBEq, Nat.reduceLT, Nat.reduceMul, Nat.reducePow, Nat.reduceLeDiff]; done) | fail "no") only [go_sem, if_true, if_false, reduceIte, reduceCtorEq, Nat.reduceAdd, Nat.reduceSub, Nat.reduceBEq, Nat.reduceLT, Nat.reduceMul, Nat.reducePow, Nat.reduceLeDiff]; refine hK1 _ _ ?_; clear hK1 K1)); refine aops_nil ?_; simp only [Nx, Caught, if_true, if_false, reduceIte, Nat.reduceEqDiff]; clear gd sep)
    | (refine hK _ _ ?_; clear hK K)
    | (clear hK K)
    )
  refine region_seq fun gd sep hgd => ?_
  clear hgd
  (repeat (refine aops_cons fun K1 hK1 => ?_; simp (disch := first | with_reducible assumption | (simp -failIfUnchanged only [Mem.size_push, Mem.size_put, Mem.size_kill, List.length_cons, List.length_nil, List.length_append, List.length_map, List.length_take, List.length_replicate] <;> omega) | (refine (id ?_ : (_ : Bool) = true); simp only [go_sem, if_true, if_false, reduceIte, reduceCtorEq, Nat.reduceAdd, Nat.reduceSub, Nat.reduceBEq, Nat.reduceLT, Nat.reduceMul, Nat.reducePow, Nat.reduceLeDiff]; done) | fail "no") only [go_sem, if_true, if_false, reduceIte, reduceCtorEq, Nat.reduceAdd, Nat.reduceSub, Nat.reduceBEq, Nat.reduceLT, Nat.reduceMul, Nat.reducePow, Nat.reduceLeDiff]; refine hK1 _ _ ?_; clear hK1 K1))
  refine aops_cons fun K1 hK1 => ?_
  simp (disch := first | with_reducible assumption | (simp -failIfUnchanged only [Mem.size_push, Mem.size_put, Mem.size_kill, List.length_cons, List.length_nil, List.length_append, List.length_map, List.length_take, List.length_replicate] <;> omega) | (refine (id ?_ : (_ : Bool) = true); simp only [go_sem, if_true, if_false, reduceIte, reduceCtorEq, Nat.reduceAdd, Nat.reduceSub, Nat.reduceBEq, Nat.reduceLT, Nat.reduceMul, Nat.reducePow, Nat.reduceLeDiff]; done) | fail "no") only [go_sem, if_true, if_false, reduceIte, reduceCtorEq, Nat.reduceAdd, Nat.reduceSub, Nat.reduceBEq, Nat.reduceLT, Nat.reduceMul, Nat.reducePow, Nat.reduceLeDiff]
  refine acall rfl (heldIntS_c (hb.ext (by with_reducible iterate 60 (try (first | exact Ext.refl _ | assumption | exact Ext.push _ _ | refine Ext.trans ?_ (Ext.push _ _) | (refine Ext.put ?_ (by first | omega | (simp only [Mem.size_push]; omega)) _) | (refine Ext.trans ?_ (by assumption)))))) (by simp [HP.mark, iota_length]) (by omega) (by simp [HP.mark, iota_length]; omega)) ?_
  rintro r2 m2 ⟨rfl, rfl⟩ -
  refine hK1 _ _ ?_; clear hK1 K1
  (repeat (refine aops_cons fun K1 hK1 => ?_; simp (disch := first | with_reducible assumption | (simp -failIfUnchanged only [Mem.size_push, Mem.size_put, Mem.size_kill, List.length_cons, List.length_nil, List.length_append, List.length_map, List.length_take, List.length_replicate] <;> omega) | (refine (id ?_ : (_ : Bool) = true); simp only [go_sem, if_true, if_false, reduceIte, reduceCtorEq, Nat.reduceAdd, Nat.reduceSub, Nat.reduceBEq, Nat.reduceLT, Nat.reduceMul, Nat.reducePow, Nat.reduceLeDiff]; done) | fail "no") only [go_sem, if_true, if_false, reduceIte, reduceCtorEq, Nat.reduceAdd, Nat.reduceSub, Nat.reduceBEq, Nat.reduceLT, Nat.reduceMul, Nat.reducePow, Nat.reduceLeDiff]; refine hK1 _ _ ?_; clear hK1 K1))
  refine aops_nil ?_; simp only [Nx, Caught, if_true, if_false, reduceIte, Nat.reduceEqDiff]
  try clear gd sep
  first | (refine hK _ _ ?_; clear hK K) | skip
  repeat (first
    | (refine awp_seq fun K hK => ?_)
    | (refine awp_block ?_)
    | (refine awp_skip ?_; simp only [Nx, Caught, if_true, if_false, reduceIte, Nat.reduceEqDiff])
    | (refine awp_exit ?_; simp only [Nx, Caught, if_true, if_false, reduceIte, Nat.reduceEqDiff])
    | (refine region_seq fun gd sep hgd => ?_; clear hgd; (repeat (refine aops_cons fun K1 hK1 => ?_; simp (disch := first | with_reducible assumption | (simp -failIfUnchanged only [Mem.size_push, Mem.size_put, Mem.size_kill, List.length_cons, List.length_nil, List.length_append, List.length_map, List.length_take, List.length_replicate] <;> omega) | (refine (id ?_ : (_ : Bool) = true); simp only [go_sem, if_true, if_false, reduceIte, reduceCtorEq, Nat.reduceAdd, Nat.reduceSub, Nat.reduceBEq, Nat.reduceLT, Nat.reduceMul, Nat.reducePow, Nat.reduceLeDiff]; done) | fail "no") only [go_sem, if_true, if_false, reduceIte, reduceCtorEq, Nat.reduceAdd, Nat.reduceSub, Nat.reduceBEq, Nat.reduceLT, Nat.reduceMul, Nat.reducePow, Nat.reduceLeDiff]; refine hK1 _ _ ?_; clear hK1 K1)); refine aops_nil ?_; simp only [Nx, Caught, if_true, if_false, reduceIte, Nat.reduceEqDiff]; clear gd sep)
    | (refine region_draw' mixed (by decide +kernel) fun gd sep hgd hsep => ?_; clear hgd hsep; (repeat (refine aops_cons fun K1 hK1 => ?_; simp (disch := first | with_reducible assumption | (simp -failIfUnchanged only [Mem.size_push, Mem.size_put, Mem.size_kill, List.length_cons, List.length_nil, List.length_append, List.length_map, List.length_take, List.length_replicate] <;> omega) | (refine (id ?_ : (_ : Bool) = true); simp only [go_sem, if_true, if_false, reduceIte, reduceCtorEq, Nat.reduceAdd, Nat.reduceSub, Nat.reduceBEq, Nat.reduceLT, Nat.reduceMul, Nat.reducePow, Nat.reduceLeDiff]; done) | fail "no") only [go_sem, if_true, if_false, reduceIte, reduceCtorEq, Nat.reduceAdd, Nat.reduceSub, Nat.reduceBEq, Nat.reduceLT, Nat.reduceMul, Nat.reducePow, Nat.reduceLeDiff]; refine hK1 _ _ ?_; clear hK1 K1)); refine aops_nil ?_; simp only [Nx, Caught, if_true, if_false, reduceIte, Nat.reduceEqDiff]; clear gd sep)
    | (refine hK _ _ ?_; clear hK K)
    | (clear hK K)
    )
  refine awp_if rfl (fun g => ?_) (fun g => ?_)
  · simp at g; omega
  repeat (first
    | (refine awp_seq fun K hK => ?_)
    | (refine awp_block ?_)
    | (refine awp_skip ?_; simp only [Nx, Caught, if_true, if_false, reduceIte, Nat.reduceEqDiff])
    | (refine awp_exit ?_; simp only [Nx, Caught, if_true, if_false, reduceIte, Nat.reduceEqDiff])
    | (refine region_seq fun gd sep hgd => ?_; clear hgd; (repeat (refine aops_cons fun K1 hK1 => ?_; simp (disch := first | with_reducible assumption | (simp -failIfUnchanged only [Mem.size_push, Mem.size_put, Mem.size_kill, List.length_cons, List.length_nil, List.length_append, List.length_map, List.length_take, List.length_replicate] <;> omega) | (refine (id ?_ : (_ : Bool) = true); simp only [go_sem, if_true, if_false, reduceIte, reduceCtorEq, Nat.reduceAdd, Nat.reduceSub, Nat.reduceBEq, Nat.reduceLT, Nat.reduceMul, Nat.reducePow, Nat.reduceLeDiff]; done) | fail "no") only [go_sem, if_true, if_false, reduceIte, reduceCtorEq, Nat.reduceAdd, Nat.reduceSub, Nat.reduceBEq, Nat.reduceLT, Nat.reduceMul, Nat.reducePow, Nat.reduceLeDiff]; refine hK1 _ _ ?_; clear hK1 K1)); refine aops_nil ?_; simp only [Nx, Caught, if_true, if_false, reduceIte, Nat.reduceEqDiff]; clear gd sep)
    | (refine region_draw' mixed (by decide +kernel) fun gd sep hgd hsep => ?_; clear hgd hsep; (repeat (refine aops_cons fun K1 hK1 => ?_; simp (disch := first | with_reducible assumption | (simp -failIfUnchanged only [Mem.size_push, Mem.size_put, Mem.size_kill, List.length_cons, List.length_nil, List.length_append, List.length_map, List.length_take, List.length_replicate] <;> omega) | (refine (id ?_ : (_ : Bool) = true); simp only [go_sem, if_true, if_false, reduceIte, reduceCtorEq, Nat.reduceAdd, Nat.reduceSub, Nat.reduceBEq, Nat.reduceLT, Nat.reduceMul, Nat.reducePow, Nat.reduceLeDiff]; done) | fail "no") only [go_sem, if_true, if_false, reduceIte, reduceCtorEq, Nat.reduceAdd, Nat.reduceSub, Nat.reduceBEq, Nat.reduceLT, Nat.reduceMul, Nat.reducePow, Nat.reduceLeDiff]; refine hK1 _ _ ?_; clear hK1 K1)); refine aops_nil ?_; simp only [Nx, Caught, if_true, if_false, reduceIte, Nat.reduceEqDiff]; clear gd sep)
    | (refine hK _ _ ?_; clear hK K)
    | (clear hK K)
    )
  refine region_seq fun gd sep hgd => ?_
  clear hgd
  (repeat (refine aops_cons fun K1 hK1 => ?_; simp (disch := first | with_reducible assumption | (simp -failIfUnchanged only [Mem.size_push, Mem.size_put, Mem.size_kill, List.length_cons, List.length_nil, List.length_append, List.length_map, List.length_take, List.length_replicate] <;> omega) | (refine (id ?_ : (_ : Bool) = true); simp only [go_sem, if_true, if_false, reduceIte, reduceCtorEq, Nat.reduceAdd, Nat.reduceSub, Nat.reduceBEq, Nat.reduceLT, Nat.reduceMul, Nat.reducePow, Nat.reduceLeDiff]; done) | fail "no") only [go_sem, if_true, if_false, reduceIte, reduceCtorEq, Nat.reduceAdd, Nat.reduceSub, Nat.reduceBEq, Nat.reduceLT, Nat.reduceMul, Nat.reducePow, Nat.reduceLeDiff]; refine hK1 _ _ ?_; clear hK1 K1))
  refine aops_cons fun K1 hK1 => ?_
  simp (disch := first | with_reducible assumption | (simp -failIfUnchanged only [Mem.size_push, Mem.size_put, Mem.size_kill, List.length_cons, List.length_nil, List.length_append, List.length_map, List.length_take, List.length_replicate] <;> omega) | (refine (id ?_ : (_ : Bool) = true); simp only [go_sem, if_true, if_false, reduceIte, reduceCtorEq, Nat.reduceAdd, Nat.reduceSub, Nat.reduceBEq, Nat.reduceLT, Nat.reduceMul, Nat.reducePow, Nat.reduceLeDiff]; done) | fail "no") only [go_sem, if_true, if_false, reduceIte, reduceCtorEq, Nat.reduceAdd, Nat.reduceSub, Nat.reduceBEq, Nat.reduceLT, Nat.reduceMul, Nat.reducePow, Nat.reduceLeDiff]
  refine acall rfl (heldIntS_c (hc.ext (by with_reducible iterate 60 (try (first | exact Ext.refl _ | assumption | exact Ext.push _ _ | refine Ext.trans ?_ (Ext.push _ _) | (refine Ext.put ?_ (by first | omega | (simp only [Mem.size_push]; omega)) _) | (refine Ext.trans ?_ (by assumption)))))) (by simp [HP.mark, iota_length]) (by omega) (by simp [HP.mark, iota_length]; omega)) ?_
  rintro r3 m3 ⟨rfl, rfl⟩ -
  refine hK1 _ _ ?_; clear hK1 K1
  (repeat (refine aops_cons fun K1 hK1 => ?_; simp (disch := first | with_reducible assumption | (simp -failIfUnchanged only [Mem.size_push, Mem.size_put, Mem.size_kill, List.length_cons, List.length_nil, List.length_append, List.length_map, List.length_take, List.length_replicate] <;> omega) | (refine (id ?_ : (_ : Bool) = true); simp only [go_sem, if_true, if_false, reduceIte, reduceCtorEq, Nat.reduceAdd, Nat.reduceSub, Nat.reduceBEq, Nat.reduceLT, Nat.reduceMul, Nat.reducePow, Nat.reduceLeDiff]; done) | fail "no") only [go_sem, if_true, if_false, reduceIte, reduceCtorEq, Nat.reduceAdd, Nat.reduceSub, Nat.reduceBEq, Nat.reduceLT, Nat.reduceMul, Nat.reducePow, Nat.reduceLeDiff]; refine hK1 _ _ ?_; clear hK1 K1))
  refine aops_nil ?_; simp only [Nx, Caught, if_true, if_false, reduceIte, Nat.reduceEqDiff]
  try clear gd sep
  first | (refine hK _ _ ?_; clear hK K) | skip
  repeat (first
    | (refine awp_seq fun K hK => ?_)
    | (refine awp_block ?_)
    | (refine awp_skip ?_; simp only [Nx, Caught, if_true, if_false, reduceIte, Nat.reduceEqDiff])
    | (refine awp_exit ?_; simp only [Nx, Caught, if_true, if_false, reduceIte, Nat.reduceEqDiff])
    | (refine region_seq fun gd sep hgd => ?_; clear hgd; (repeat (refine aops_cons fun K1 hK1 => ?_; simp (disch := first | with_reducible assumption | (simp -failIfUnchanged only [Mem.size_push, Mem.size_put, Mem.size_kill, List.length_cons, List.length_nil, List.length_append, List.length_map, List.length_take, List.length_replicate] <;> omega) | (refine (id ?_ : (_ : Bool) = true); simp only [go_sem, if_true, if_false, reduceIte, reduceCtorEq, Nat.reduceAdd, Nat.reduceSub, Nat.reduceBEq, Nat.reduceLT, Nat.reduceMul, Nat.reducePow, Nat.reduceLeDiff]; done) | fail "no") only [go_sem, if_true, if_false, reduceIte, reduceCtorEq, Nat.reduceAdd, Nat.reduceSub, Nat.reduceBEq, Nat.reduceLT, Nat.reduceMul, Nat.reducePow, Nat.reduceLeDiff]; refine hK1 _ _ ?_; clear hK1 K1)); refine aops_nil ?_; simp only [Nx, Caught, if_true, if_false, reduceIte, Nat.reduceEqDiff]; clear gd sep)
    | (refine region_draw' mixed (by decide +kernel) fun gd sep hgd hsep => ?_; clear hgd hsep; (repeat (refine aops_cons fun K1 hK1 => ?_; simp (disch := first | with_reducible assumption | (simp -failIfUnchanged only [Mem.size_push, Mem.size_put, Mem.size_kill, List.length_cons, List.length_nil, List.length_append, List.length_map, List.length_take, List.length_replicate] <;> omega) | (refine (id ?_ : (_ : Bool) = true); simp only [go_sem, if_true, if_false, reduceIte, reduceCtorEq, Nat.reduceAdd, Nat.reduceSub, Nat.reduceBEq, Nat.reduceLT, Nat.reduceMul, Nat.reducePow, Nat.reduceLeDiff]; done) | fail "no") only [go_sem, if_true, if_false, reduceIte, reduceCtorEq, Nat.reduceAdd, Nat.reduceSub, Nat.reduceBEq, Nat.reduceLT, Nat.reduceMul, Nat.reducePow, Nat.reduceLeDiff]; refine hK1 _ _ ?_; clear hK1 K1)); refine aops_nil ?_; simp only [Nx, Caught, if_true, if_false, reduceIte, Nat.reduceEqDiff]; clear gd sep)
    | (refine hK _ _ ?_; clear hK K)
    | (clear hK K)
    )
  refine awp_if rfl (fun g => ?_) (fun g => ?_)
  · simp at g; omega
  repeat (first
    | (refine awp_seq fun K hK => ?_)
    | (refine awp_block ?_)
    | (refine awp_skip ?_; simp only [Nx, Caught, if_true, if_false, reduceIte, Nat.reduceEqDiff])
    | (refine awp_exit ?_; simp only [Nx, Caught, if_true, if_false, reduceIte, Nat.reduceEqDiff])
    | (refine region_seq fun gd sep hgd => ?_; clear hgd; (repeat (refine aops_cons fun K1 hK1 => ?_; simp (disch := first | with_reducible assumption | (simp -failIfUnchanged only [Mem.size_push, Mem.size_put, Mem.size_kill, List.length_cons, List.length_nil, List.length_append, List.length_map, List.length_take, List.length_replicate] <;> omega) | (refine (id ?_ : (_ : Bool) = true); simp only [go_sem, if_true, if_false, reduceIte, reduceCtorEq, Nat.reduceAdd, Nat.reduceSub, Nat.reduceBEq, Nat.reduceLT, Nat.reduceMul, Nat.reducePow, Nat.reduceLeDiff]; done) | fail "no") only [go_sem, if_true, if_false, reduceIte, reduceCtorEq, Nat.reduceAdd, Nat.reduceSub, Nat.reduceBEq, Nat.reduceLT, Nat.reduceMul, Nat.reducePow, Nat.reduceLeDiff]; refine hK1 _ _ ?_; clear hK1 K1)); refine aops_nil ?_; simp only [Nx, Caught, if_true, if_false, reduceIte, Nat.reduceEqDiff]; clear gd sep)
    | (refine region_draw' mixed (by decide +kernel) fun gd sep hgd hsep => ?_; clear hgd hsep; (repeat (refine aops_cons fun K1 hK1 => ?_; simp (disch := first | with_reducible assumption | (simp -failIfUnchanged only [Mem.size_push, Mem.size_put, Mem.size_kill, List.length_cons, List.length_nil, List.length_append, List.length_map, List.length_take, List.length_replicate] <;> omega) | (refine (id ?_ : (_ : Bool) = true); simp only [go_sem, if_true, if_false, reduceIte, reduceCtorEq, Nat.reduceAdd, Nat.reduceSub, Nat.reduceBEq, Nat.reduceLT, Nat.reduceMul, Nat.reducePow, Nat.reduceLeDiff]; done) | fail "no") only [go_sem, if_true, if_false, reduceIte, reduceCtorEq, Nat.reduceAdd, Nat.reduceSub, Nat.reduceBEq, Nat.reduceLT, Nat.reduceMul, Nat.reducePow, Nat.reduceLeDiff]; refine hK1 _ _ ?_; clear hK1 K1)); refine aops_nil ?_; simp only [Nx, Caught, if_true, if_false, reduceIte, Nat.reduceEqDiff]; clear gd sep)
    | (refine hK _ _ ?_; clear hK K)
    | (clear hK K)
    )
  refine awp_ret ?_; try simp only [Nx, Caught]
  apply ends_ret
  · simp (disch := first | with_reducible assumption | (simp -failIfUnchanged only [Mem.size_push, Mem.size_put, Mem.size_kill, List.length_cons, List.length_nil, List.length_append, List.length_map, List.length_take, List.length_replicate] <;> omega) | (refine (id ?_ : (_ : Bool) = true); simp only [go_sem, if_true, if_false, reduceIte, reduceCtorEq, Nat.reduceAdd, Nat.reduceSub, Nat.reduceBEq, Nat.reduceLT, Nat.reduceMul, Nat.reducePow, Nat.reduceLeDiff]; done) | fail "no") only [go_sem, if_true, if_false, reduceIte, reduceCtorEq, Nat.reduceAdd, Nat.reduceSub, Nat.reduceBEq, Nat.reduceLT, Nat.reduceMul, Nat.reducePow, Nat.reduceLeDiff, aress, ares1]; exact rfl
  simp only [tupled]
  simp [HP.mark, iota_length]
  omega

theorem heldGens_c {m : Mem} {v : AVal} {g : GP} {k : Int} (hv : RdG m v (g.mark k)) (h0 : 0 ≤ k) (h1 : k + g.cnt ≤ 4611686018427387904) :
    ∃ r m', (r = .int .i64 (k + g.cnt)) ∧ DCalls PP m.size 44 [v, .int .i64 k] m r m' := by
  obtain ⟨a, b, c, d, e, rfl, ha, hb, hc, hd, he⟩ := hv
  unfold GP.cnt at *
  refine enter Try.func44 (by decide) rfl Try.ntmps44 Try.results44 ?_
  repeat (first
    | (refine awp_seq fun K hK => ?_)
    | (refine awp_block ?_)
    | (refine awp_skip ?_; simp only [Nx, Caught, if_true, if_false, reduceIte, Nat.reduceEqDiff])
    | (refine awp_exit ?_; simp only [Nx, Caught, if_true, if_false, reduceIte, Nat.reduceEqDiff])
    | (refine region_seq fun gd sep hgd => ?_; clear hgd; (repeat (refine aops_cons fun K1 hK1 => ?_; simp (disch := first | with_reducible assumption | (simp -failIfUnchanged only [Mem.size_push, Mem.size_put, Mem.size_kill, List.length_cons, List.length_nil, List.length_append, List.length_map, List.length_take, List.length_replicate] <;> omega) | (refine (id ?_ : (_ : Bool) = true); simp only [go_sem, if_true, if_false, reduceIte, reduceCtorEq, Nat.reduceAdd, Nat.reduceSub, Nat.reduceBEq, Nat.reduceLT, Nat.reduceMul, Nat.reducePow, Nat.reduceLeDiff]; done) | fail "no") only [go_sem, if_true, if_false, reduceIte, reduceCtorEq, Nat.reduceAdd, Nat.reduceSub, Nat.reduceBEq, Nat.reduceLT, Nat.reduceMul, Nat.reducePow, Nat.reduceLeDiff]; refine hK1 _ _ ?_; clear hK1 K1)); refine aops_nil ?_; simp only [Nx, Caught, if_true, if_false, reduceIte, Nat.reduceEqDiff]; clear gd sep)
    | (refine region_draw' mixed (by decide +kernel) fun gd sep hgd hsep => ?_; clear hgd hsep; (repeat (refine aops_cons fun K1 hK1 => ?_; simp (disch := first | with_reducible assumption | (simp -failIfUnchanged only [Mem.size_push, Mem.size_put, Mem.size_kill, List.length_cons, List.length_nil, List.length_append, List.length_map, List.length_take, List.length_replicate] <;> omega) | (refine (id ?_ : (_ : Bool) = true); simp only [go_sem, if_true, if_false, reduceIte, reduceCtorEq, Nat.reduceAdd, Nat.reduceSub, Nat.reduceBEq, Nat.reduceLT, Nat.reduceMul, Nat.reducePow, Nat.reduceLeDiff]; done) | fail "no") only [go_sem, if_true, if_false, reduceIte, reduceCtorEq, Nat.reduceAdd, Nat.reduceSub, Nat.reduceBEq, Nat.reduceLT, Nat.reduceMul, Nat.reducePow, Nat.reduceLeDiff]; refine hK1 _ _ ?_; clear hK1 K1)); refine aops_nil ?_; simp only [Nx, Caught, if_true, if_false, reduceIte, Nat.reduceEqDiff]; clear gd sep)
    | (refine hK _ _ ?_; clear hK K)
    | (clear hK K)
    )
  refine region_seq fun gd sep hgd => ?_
  clear hgd
  (repeat (refine aops_cons fun K1 hK1 => ?_; simp (disch := first | with_reducible assumption | (simp -failIfUnchanged only [Mem.size_push, Mem.size_put, Mem.size_kill, List.length_cons, List.length_nil, List.length_append, List.length_map, List.length_take, List.length_replicate] <;> omega) | (refine (id ?_ : (_ : Bool) = true); simp only [go_sem, if_true, if_false, reduceIte, reduceCtorEq, Nat.reduceAdd, Nat.reduceSub, Nat.reduceBEq, Nat.reduceLT, Nat.reduceMul, Nat.reducePow, Nat.reduceLeDiff]; done) | fail "no") only [go_sem, if_true, if_false, reduceIte, reduceCtorEq, Nat.reduceAdd, Nat.reduceSub, Nat.reduceBEq, Nat.reduceLT, Nat.reduceMul, Nat.reducePow, Nat.reduceLeDiff]; refine hK1 _ _ ?_; clear hK1 K1))
  refine aops_cons fun K1 hK1 => ?_
  simp (disch := first | with_reducible assumption | (simp -failIfUnchanged only [Mem.size_push, Mem.size_put, Mem.size_kill, List.length_cons, List.length_nil, List.length_append, List.length_map, List.length_take, List.length_replicate] <;> omega) | (refine (id ?_ : (_ : Bool) = true); simp only [go_sem, if_true, if_false, reduceIte, reduceCtorEq, Nat.reduceAdd, Nat.reduceSub, Nat.reduceBEq, Nat.reduceLT, Nat.reduceMul, Nat.reducePow, Nat.reduceLeDiff]; done) | fail "no") only [go_sem, if_true, if_false, reduceIte, reduceCtorEq, Nat.reduceAdd, Nat.reduceSub, Nat.reduceBEq, Nat.reduceLT, Nat.reduceMul, Nat.reducePow, Nat.reduceLeDiff]
  refine acall rfl (heldHeap_c (h := g.h) ⟨a, b, c, rfl, ha.ext (by with_reducible iterate 60 (try (first | exact Ext.refl _ | assumption | exact Ext.push _ _ | refine Ext.trans ?_ (Ext.push _ _) | (refine Ext.put ?_ (by first | omega | (simp only [Mem.size_push]; omega)) _) | (refine Ext.trans ?_ (by assumption))))), hb.ext (by with_reducible iterate 60 (try (first | exact Ext.refl _ | assumption | exact Ext.push _ _ | refine Ext.trans ?_ (Ext.push _ _) | (refine Ext.put ?_ (by first | omega | (simp only [Mem.size_push]; omega)) _) | (refine Ext.trans ?_ (by assumption))))), hc.ext (by with_reducible iterate 60 (try (first | exact Ext.refl _ | assumption | exact Ext.push _ _ | refine Ext.trans ?_ (Ext.push _ _) | (refine Ext.put ?_ (by first | omega | (simp only [Mem.size_push]; omega)) _) | (refine Ext.trans ?_ (by assumption)))))⟩ h0 (by omega)) ?_
  rintro r1 m1 rfl e1
  have z_e1 := e1.size; (try simp only [Mem.size_push, Mem.size_put] at z_e1)
  refine hK1 _ _ ?_; clear hK1 K1
  (repeat (refine aops_cons fun K1 hK1 => ?_; simp (disch := first | with_reducible assumption | (simp -failIfUnchanged only [Mem.size_push, Mem.size_put, Mem.size_kill, List.length_cons, List.length_nil, List.length_append, List.length_map, List.length_take, List.length_replicate] <;> omega) | (refine (id ?_ : (_ : Bool) = true); simp only [go_sem, if_true, if_false, reduceIte, reduceCtorEq, Nat.reduceAdd, Nat.reduceSub, Nat.reduceBEq, Nat.reduceLT, Nat.reduceMul, Nat.reducePow, Nat.reduceLeDiff]; done) | fail "no") only [go_sem, if_true, if_false, reduceIte, reduceCtorEq, Nat.reduceAdd, Nat.reduceSub, Nat.reduceBEq, Nat.reduceLT, Nat.reduceMul, Nat.reducePow, Nat.reduceLeDiff]; refine hK1 _ _ ?_; clear hK1 K1))
  refine aops_nil ?_; simp only [Nx, Caught, if_true, if_false, reduceIte, Nat.reduceEqDiff]
  try clear gd sep
  first | (refine hK _ _ ?_; clear hK K) | skip
  repeat (first
    | (refine awp_seq fun K hK => ?_)
    | (refine awp_block ?_)
    | (refine awp_skip ?_; simp only [Nx, Caught, if_true, if_false, reduceIte, Nat.reduceEqDiff])
    | (refine awp_exit ?_; simp only [Nx, Caught, if_true, if_false, reduceIte, Nat.reduceEqDiff])
    | (refine region_seq fun gd sep hgd => ?_; clear hgd; (repeat (refine aops_cons fun K1 hK1 => ?_; simp (disch := first | with_reducible assumption | (simp -failIfUnchanged only [Mem.size_push, Mem.size_put, Mem.size_kill, List.length_cons, List.length_nil, List.length_append, List.length_map, List.length_take, List.length_replicate] <;> omega) | (refine (id ?_ : (_ : Bool) = true); simp only [go_sem, if_true, if_false, reduceIte, reduceCtorEq, Nat.reduceAdd, Nat.reduceSub, Nat.reduceBEq, Nat.reduceLT, Nat.reduceMul, Nat.reducePow, Nat.reduceLeDiff]; done) | fail "no") only [go_sem, if_true, if_false, reduceIte, reduceCtorEq, Nat.reduceAdd, Nat.reduceSub, Nat.reduceBEq, Nat.reduceLT, Nat.reduceMul, Nat.reducePow, Nat.reduceLeDiff]; refine hK1 _ _ ?_; clear hK1 K1)); refine aops_nil ?_; simp only [Nx, Caught, if_true, if_false, reduceIte, Nat.reduceEqDiff]; clear gd sep)
    | (refine region_draw' mixed (by decide +kernel) fun gd sep hgd hsep => ?_; clear hgd hsep; (repeat (refine aops_cons fun K1 hK1 => ?_; simp (disch := first | with_reducible assumption | (simp -failIfUnchanged only [Mem.size_push, Mem.size_put, Mem.size_kill, List.length_cons, List.length_nil, List.length_append, List.length_map, List.length_take, List.length_replicate] <;> omega) | (refine (id ?_ : (_ : Bool) = true); simp only [go_sem, if_true, if_false, reduceIte, reduceCtorEq, Nat.reduceAdd, Nat.reduceSub, Nat.reduceBEq, Nat.reduceLT, Nat.reduceMul, Nat.reducePow, Nat.reduceLeDiff]; done) | fail "no") only [go_sem, if_true, if_false, reduceIte, reduceCtorEq, Nat.reduceAdd, Nat.reduceSub, Nat.reduceBEq, Nat.reduceLT, Nat.reduceMul, Nat.reducePow, Nat.reduceLeDiff]; refine hK1 _ _ ?_; clear hK1 K1)); refine aops_nil ?_; simp only [Nx, Caught, if_true, if_false, reduceIte, Nat.reduceEqDiff]; clear gd sep)
    | (refine hK _ _ ?_; clear hK K)
    | (clear hK K)
    )
  refine awp_if rfl (fun g => ?_) (fun g => ?_)
  · simp at g; omega
  repeat (first
    | (refine awp_seq fun K hK => ?_)
    | (refine awp_block ?_)
    | (refine awp_skip ?_; simp only [Nx, Caught, if_true, if_false, reduceIte, Nat.reduceEqDiff])
    | (refine awp_exit ?_; simp only [Nx, Caught, if_true, if_false, reduceIte, Nat.reduceEqDiff])
    | (refine region_seq fun gd sep hgd => ?_; clear hgd; (repeat (refine aops_cons fun K1 hK1 => ?_; simp (disch := first | with_reducible assumption | (simp -failIfUnchanged only [Mem.size_push, Mem.size_put, Mem.size_kill, List.length_cons, List.length_nil, List.length_append, List.length_map, List.length_take, List.length_replicate, e1.ald, e1.alds] <;> omega) | (refine (id ?_ : (_ : Bool) = true); simp only [go_sem, if_true, if_false, reduceIte, reduceCtorEq, Nat.reduceAdd, Nat.reduceSub, Nat.reduceBEq, Nat.reduceLT, Nat.reduceMul, Nat.reducePow, Nat.reduceLeDiff, e1.ald, e1.alds]; done) | fail "no") only [go_sem, if_true, if_false, reduceIte, reduceCtorEq, Nat.reduceAdd, Nat.reduceSub, Nat.reduceBEq, Nat.reduceLT, Nat.reduceMul, Nat.reducePow, Nat.reduceLeDiff, e1.ald, e1.alds]; refine hK1 _ _ ?_; clear hK1 K1)); refine aops_nil ?_; simp only [Nx, Caught, if_true, if_false, reduceIte, Nat.reduceEqDiff]; clear gd sep)
    | (refine region_draw' mixed (by decide +kernel) fun gd sep hgd hsep => ?_; clear hgd hsep; (repeat (refine aops_cons fun K1 hK1 => ?_; simp (disch := first | with_reducible assumption | (simp -failIfUnchanged only [Mem.size_push, Mem.size_put, Mem.size_kill, List.length_cons, List.length_nil, List.length_append, List.length_map, List.length_take, List.length_replicate, e1.ald, e1.alds] <;> omega) | (refine (id ?_ : (_ : Bool) = true); simp only [go_sem, if_true, if_false, reduceIte, reduceCtorEq, Nat.reduceAdd, Nat.reduceSub, Nat.reduceBEq, Nat.reduceLT, Nat.reduceMul, Nat.reducePow, Nat.reduceLeDiff, e1.ald, e1.alds]; done) | fail "no") only [go_sem, if_true, if_false, reduceIte, reduceCtorEq, Nat.reduceAdd, Nat.reduceSub, Nat.reduceBEq, Nat.reduceLT, Nat.reduceMul, Nat.reducePow, Nat.reduceLeDiff, e1.ald, e1.alds]; refine hK1 _ _ ?_; clear hK1 K1)); refine aops_nil ?_; simp only [Nx, Caught, if_true, if_false, reduceIte, Nat.reduceEqDiff]; clear gd sep)
    | (refine hK _ _ ?_; clear hK K)
    | (clear hK K)
    )
  refine region_seq fun gd sep hgd => ?_
  clear hgd
  (repeat (refine aops_cons fun K1 hK1 => ?_; simp (disch := first | with_reducible assumption | (simp -failIfUnchanged only [Mem.size_push, Mem.size_put, Mem.size_kill, List.length_cons, List.length_nil, List.length_append, List.length_map, List.length_take, List.length_replicate, e1.ald, e1.alds] <;> omega) | (refine (id ?_ : (_ : Bool) = true); simp only [go_sem, if_true, if_false, reduceIte, reduceCtorEq, Nat.reduceAdd, Nat.reduceSub, Nat.reduceBEq, Nat.reduceLT, Nat.reduceMul, Nat.reducePow, Nat.reduceLeDiff, e1.ald, e1.alds]; done) | fail "no") only [go_sem, if_true, if_false, reduceIte, reduceCtorEq, Nat.reduceAdd, Nat.reduceSub, Nat.reduceBEq, Nat.reduceLT, Nat.reduceMul, Nat.reducePow, Nat.reduceLeDiff, e1.ald, e1.alds]; refine hK1 _ _ ?_; clear hK1 K1))
  refine aops_cons fun K1 hK1 => ?_
  simp (disch := first | with_reducible assumption | (simp -failIfUnchanged only [Mem.size_push, Mem.size_put, Mem.size_kill, List.length_cons, List.length_nil, List.length_append, List.length_map, List.length_take, List.length_replicate] <;> omega) | (refine (id ?_ : (_ : Bool) = true); simp only [go_sem, if_true, if_false, reduceIte, reduceCtorEq, Nat.reduceAdd, Nat.reduceSub, Nat.reduceBEq, Nat.reduceLT, Nat.reduceMul, Nat.reducePow, Nat.reduceLeDiff]; done) | fail "no") only [go_sem, if_true, if_false, reduceIte, reduceCtorEq, Nat.reduceAdd, Nat.reduceSub, Nat.reduceBEq, Nat.reduceLT, Nat.reduceMul, Nat.reducePow, Nat.reduceLeDiff]
  refine acall rfl (heldBoolS_c (hd.ext (by with_reducible iterate 60 (try (first | exact Ext.refl _ | assumption | exact Ext.push _ _ | refine Ext.trans ?_ (Ext.push _ _) | (refine Ext.put ?_ (by first | omega | (simp only [Mem.size_push]; omega)) _) | (refine Ext.trans ?_ (by assumption)))))) (by simp [GP.mark, iotaB_length]) (by omega) (by simp [GP.mark, iotaB_length]; omega)) ?_
  rintro r2 m2 ⟨rfl, rfl⟩ -
  refine hK1 _ _ ?_; clear hK1 K1
  (repeat (refine aops_cons fun K1 hK1 => ?_; simp (disch := first | with_reducible assumption | (simp -failIfUnchanged only [Mem.size_push, Mem.size_put, Mem.size_kill, List.length_cons, List.length_nil, List.length_append, List.length_map, List.length_take, List.length_replicate] <;> omega) | (refine (id ?_ : (_ : Bool) = true); simp only [go_sem, if_true, if_false, reduceIte, reduceCtorEq, Nat.reduceAdd, Nat.reduceSub, Nat.reduceBEq, Nat.reduceLT, Nat.reduceMul, Nat.reducePow, Nat.reduceLeDiff]; done) | fail "no") only [go_sem, if_true, if_false, reduceIte, reduceCtorEq, Nat.reduceAdd, Nat.reduceSub, Nat.reduceBEq, Nat.reduceLT, Nat.reduceMul, Nat.reducePow, Nat.reduceLeDiff]; refine hK1 _ _ ?_; clear hK1 K1))
  refine aops_nil ?_; simp only [Nx, Caught, if_true, if_false, reduceIte, Nat.reduceEqDiff]
  try clear gd sep
  first | (refine hK _ _ ?_; clear hK K) | skip
  repeat (first
    | (refine awp_seq fun K hK => ?_)
    | (refine awp_block ?_)
    | (refine awp_skip ?_; simp only [Nx, Caught, if_true, if_false, reduceIte, Nat.reduceEqDiff])
    | (refine awp_exit ?_; simp only [Nx, Caught, if_true, if_false, reduceIte, Nat.reduceEqDiff])
    | (refine region_seq fun gd sep hgd => ?_; clear hgd; (repeat (refine aops_cons fun K1 hK1 => ?_; simp (disch := first | with_reducible assumption | (simp -failIfUnchanged only [Mem.size_push, Mem.size_put, Mem.size_kill, List.length_cons, List.length_nil, List.length_append, List.length_map, List.length_take, List.length_replicate] <;> omega) | (refine (id ?_ : (_ : Bool) = true); simp only [go_sem, if_true, if_false, reduceIte, reduceCtorEq, Nat.reduceAdd, Nat.reduceSub, Nat.reduceBEq, Nat.reduceLT, Nat.reduceMul, Nat.reducePow, Nat.reduceLeDiff]; done) | fail "no") only [go_sem, if_true, if_false, reduceIte, reduceCtorEq, Nat.reduceAdd, Nat.reduceSub, Nat.reduceBEq, Nat.reduceLT, Nat.reduceMul, Nat.reducePow, Nat.reduceLeDiff]; refine hK1 _ _ ?_; clear hK1 K1)); refine aops_nil ?_; simp only [Nx, Caught, if_true, if_false, reduceIte, Nat.reduceEqDiff]; clear gd sep)
    | (refine region_draw' mixed (by decide +kernel) fun gd sep hgd hsep => ?_; clear hgd hsep; (repeat (refine aops_cons fun K1 hK1 => ?_; simp (disch := first | with_reducible assumption | (simp -failIfUnchanged only [Mem.size_push, Mem.size_put, Mem.size_kill, List.length_cons, List.length_nil, List.length_append, List.length_map, List.length_take, List.length_replicate] <;> omega) | (refine (id ?_ : (_ : Bool) = true); simp only [go_sem, if_true, if_false, reduceIte, reduceCtorEq, Nat.reduceAdd, Nat.reduceSub, Nat.reduceBEq, Nat.reduceLT, Nat.reduceMul, Nat.reducePow, Nat.reduceLeDiff]; done) | fail "no") only [go_sem, if_true, if_false, reduceIte, reduceCtorEq, Nat.reduceAdd, Nat.reduceSub, Nat.reduceBEq, Nat.reduceLT, Nat.reduceMul, Nat.reducePow, Nat.reduceLeDiff]; refine hK1 _ _ ?_; clear hK1 K1)); refine aops_nil ?_; simp only [Nx, Caught, if_true, if_false, reduceIte, Nat.reduceEqDiff]; clear gd sep)
    | (refine hK _ _ ?_; clear hK K)
    | (clear hK K)
    )
  refine awp_if rfl (fun g => ?_) (fun g => ?_)
  · simp at g; omega
  repeat (first
    | (refine awp_seq fun K hK => ?_)
    | (refine awp_block ?_)
    | (refine awp_skip ?_; simp only [Nx, Caught, if_true, if_false, reduceIte, Nat.reduceEqDiff])
    | (refine awp_exit ?_; simp only [Nx, Caught, if_true, if_false, reduceIte, Nat.reduceEqDiff])
    | (refine region_seq fun gd sep hgd => ?_; clear hgd; (repeat (refine aops_cons fun K1 hK1 => ?_; simp (disch := first | with_reducible assumption | (simp -failIfUnchanged only [Mem.size_push, Mem.size_put, Mem.size_kill, List.length_cons, List.length_nil, List.length_append, List.length_map, List.length_take, List.length_replicate, e1.ald, e1.alds] <;> omega) | (refine (id ?_ : (_ : Bool) = true); simp only [go_sem, if_true, if_false, reduceIte, reduceCtorEq, Nat.reduceAdd, Nat.reduceSub, Nat.reduceBEq, Nat.reduceLT, Nat.reduceMul, Nat.reducePow, Nat.reduceLeDiff, e1.ald, e1.alds]; done) | fail "no") only [go_sem, if_true, if_false, reduceIte, reduceCtorEq, Nat.reduceAdd, Nat.reduceSub, Nat.reduceBEq, Nat.reduceLT, Nat.reduceMul, Nat.reducePow, Nat.reduceLeDiff, e1.ald, e1.alds]; refine hK1 _ _ ?_; clear hK1 K1)); refine aops_nil ?_; simp only [Nx, Caught, if_true, if_false, reduceIte, Nat.reduceEqDiff]; clear gd sep)
    | (refine region_draw' mixed (by decide +kernel) fun gd sep hgd hsep => ?_; clear hgd hsep; (repeat (refine aops_cons fun K1 hK1 => ?_; simp (disch := first | with_reducible assumption | (simp -failIfUnchanged only [Mem.size_push, Mem.size_put, Mem.size_kill, List.length_cons, List.length_nil, List.length_append, List.length_map, List.length_take, List.length_replicate, e1.ald, e1.alds] <;> omega) | (refine (id ?_ : (_ : Bool) = true); simp only [go_sem, if_true, if_false, reduceIte, reduceCtorEq, Nat.reduceAdd, Nat.reduceSub, Nat.reduceBEq, Nat.reduceLT, Nat.reduceMul, Nat.reducePow, Nat.reduceLeDiff, e1.ald, e1.alds]; done) | fail "no") only [go_sem, if_true, if_false, reduceIte, reduceCtorEq, Nat.reduceAdd, Nat.reduceSub, Nat.reduceBEq, Nat.reduceLT, Nat.reduceMul, Nat.reducePow, Nat.reduceLeDiff, e1.ald, e1.alds]; refine hK1 _ _ ?_; clear hK1 K1)); refine aops_nil ?_; simp only [Nx, Caught, if_true, if_false, reduceIte, Nat.reduceEqDiff]; clear gd sep)
    | (refine hK _ _ ?_; clear hK K)
    | (clear hK K)
    )
  refine region_seq fun gd sep hgd => ?_
  clear hgd
  (repeat (refine aops_cons fun K1 hK1 => ?_; simp (disch := first | with_reducible assumption | (simp -failIfUnchanged only [Mem.size_push, Mem.size_put, Mem.size_kill, List.length_cons, List.length_nil, List.length_append, List.length_map, List.length_take, List.length_replicate, e1.ald, e1.alds] <;> omega) | (refine (id ?_ : (_ : Bool) = true); simp only [go_sem, if_true, if_false, reduceIte, reduceCtorEq, Nat.reduceAdd, Nat.reduceSub, Nat.reduceBEq, Nat.reduceLT, Nat.reduceMul, Nat.reducePow, Nat.reduceLeDiff, e1.ald, e1.alds]; done) | fail "no") only [go_sem, if_true, if_false, reduceIte, reduceCtorEq, Nat.reduceAdd, Nat.reduceSub, Nat.reduceBEq, Nat.reduceLT, Nat.reduceMul, Nat.reducePow, Nat.reduceLeDiff, e1.ald, e1.alds]; refine hK1 _ _ ?_; clear hK1 K1))
  refine aops_cons fun K1 hK1 => ?_
  simp (disch := first | with_reducible assumption | (simp -failIfUnchanged only [Mem.size_push, Mem.size_put, Mem.size_kill, List.length_cons, List.length_nil, List.length_append, List.length_map, List.length_take, List.length_replicate] <;> omega) | (refine (id ?_ : (_ : Bool) = true); simp only [go_sem, if_true, if_false, reduceIte, reduceCtorEq, Nat.reduceAdd, Nat.reduceSub, Nat.reduceBEq, Nat.reduceLT, Nat.reduceMul, Nat.reducePow, Nat.reduceLeDiff]; done) | fail "no") only [go_sem, if_true, if_false, reduceIte, reduceCtorEq, Nat.reduceAdd, Nat.reduceSub, Nat.reduceBEq, Nat.reduceLT, Nat.reduceMul, Nat.reducePow, Nat.reduceLeDiff]
  refine acall rfl (heldIntS_c (he.ext (by with_reducible iterate 60 (try (first | exact Ext.refl _ | assumption | exact Ext.push _ _ | refine Ext.trans ?_ (Ext.push _ _) | (refine Ext.put ?_ (by first | omega | (simp only [Mem.size_push]; omega)) _) | (refine Ext.trans ?_ (by assumption)))))) (by simp [GP.mark, iota_length, iotaB_length]) (by omega) (by simp [GP.mark, iota_length, iotaB_length]; omega)) ?_
  rintro r3 m3 ⟨rfl, rfl⟩ -
  refine hK1 _ _ ?_; clear hK1 K1
  (repeat (refine aops_cons fun K1 hK1 => ?_; simp (disch := first | with_reducible assumption | (simp -failIfUnchanged only [Mem.size_push, Mem.size_put, Mem.size_kill, List.length_cons, List.length_nil, List.length_append, List.length_map, List.length_take, List.length_replicate] <;> omega) | (refine (id ?_ : (_ : Bool) = true); simp only [go_sem, if_true, if_false, reduceIte, reduceCtorEq, Nat.reduceAdd, Nat.reduceSub, Nat.reduceBEq, Nat.reduceLT, Nat.reduceMul, Nat.reducePow, Nat.reduceLeDiff]; done) | fail "no") only [go_sem, if_true, if_false, reduceIte, reduceCtorEq, Nat.reduceAdd, Nat.reduceSub, Nat.reduceBEq, Nat.reduceLT, Nat.reduceMul, Nat.reducePow, Nat.reduceLeDiff]; refine hK1 _ _ ?_; clear hK1 K1))
  refine aops_nil ?_; simp only [Nx, Caught, if_true, if_false, reduceIte, Nat.reduceEqDiff]
  try clear gd sep
  first | (refine hK _ _ ?_; clear hK K) | skip
  repeat (first
    | (refine awp_seq fun K hK => ?_)
    | (refine awp_block ?_)
    | (refine awp_skip ?_; simp only [Nx, Caught, if_true, if_false, reduceIte, Nat.reduceEqDiff])
    | (refine awp_exit ?_; simp only [Nx, Caught, if_true, if_false, reduceIte, Nat.reduceEqDiff])
    | (refine region_seq fun gd sep hgd => ?_; clear hgd; (repeat (refine aops_cons fun K1 hK1 => ?_; simp (disch := first | with_reducible assumption | (simp -failIfUnchanged only [Mem.size_push, Mem.size_put, Mem.size_kill, List.length_cons, List.length_nil, List.length_append, List.length_map, List.length_take, List.length_replicate] <;> omega) | (refine (id ?_ : (_ : Bool) = true); simp only [go_sem, if_true, if_false, reduceIte, reduceCtorEq, Nat.reduceAdd, Nat.reduceSub, Nat.reduceBEq, Nat.reduceLT, Nat.reduceMul, Nat.reducePow, Nat.reduceLeDiff]; done) | fail "no") only [go_sem, if_true, if_false, reduceIte, reduceCtorEq, Nat.reduceAdd, Nat.reduceSub, Nat.reduceBEq, Nat.reduceLT, Nat.reduceMul, Nat.reducePow, Nat.reduceLeDiff]; refine hK1 _ _ ?_; clear hK1 K1)); refine aops_nil ?_; simp only [Nx, Caught, if_true, if_false, reduceIte, Nat.reduceEqDiff]; clear gd sep)
    | (refine region_draw' mixed (by decide +kernel) fun gd sep hgd hsep => ?_; clear hgd hsep; (repeat (refine aops_cons fun K1 hK1 => ?_; simp (disch := first | with_reducible assumption | (simp -failIfUnchanged only [Mem.size_push, Mem.size_put, Mem.size_kill, List.length_cons, List.length_nil, List.length_append, List.length_map, List.length_take, List.length_replicate] <;> omega) | (refine (id ?_ : (_ : Bool) = true); simp only [go_sem, if_true, if_false, reduceIte, reduceCtorEq, Nat.reduceAdd, Nat.reduceSub, Nat.reduceBEq, Nat.reduceLT, Nat.reduceMul, Nat.reducePow, Nat.reduceLeDiff]; done) | fail "no") only [go_sem, if_true, if_false, reduceIte, reduceCtorEq, Nat.reduceAdd, Nat.reduceSub, Nat.reduceBEq, Nat.reduceLT, Nat.reduceMul, Nat.reducePow, Nat.reduceLeDiff]; refine hK1 _ _ ?_; clear hK1 K1)); refine aops_nil ?_; simp only [Nx, Caught, if_true, if_false, reduceIte, Nat.reduceEqDiff]; clear gd sep)
    | (refine hK _ _ ?_; clear hK K)
    | (clear hK K)
    )
  refine awp_if rfl (fun g => ?_) (fun g => ?_)
  · simp at g; omega
  repeat (first
    | (refine awp_seq fun K hK => ?_)
    | (refine awp_block ?_)
    | (refine awp_skip ?_; simp only [Nx, Caught, if_true, if_false, reduceIte, Nat.reduceEqDiff])
    | (refine awp_exit ?_; simp only [Nx, Caught, if_true, if_false, reduceIte, Nat.reduceEqDiff])
    | (refine region_seq fun gd sep hgd => ?_; clear hgd; (repeat (refine aops_cons fun K1 hK1 => ?_; simp (disch := first | with_reducible assumption | (simp -failIfUnchanged only [Mem.size_push, Mem.size_put, Mem.size_kill, List.length_cons, List.length_nil, List.length_append, List.length_map, List.length_take, List.length_replicate] <;> omega) | (refine (id ?_ : (_ : Bool) = true); simp only [go_sem, if_true, if_false, reduceIte, reduceCtorEq, Nat.reduceAdd, Nat.reduceSub, Nat.reduceBEq, Nat.reduceLT, Nat.reduceMul, Nat.reducePow, Nat.reduceLeDiff]; done) | fail "no") only [go_sem, if_true, if_false, reduceIte, reduceCtorEq, Nat.reduceAdd, Nat.reduceSub, Nat.reduceBEq, Nat.reduceLT, Nat.reduceMul, Nat.reducePow, Nat.reduceLeDiff]; refine hK1 _ _ ?_; clear hK1 K1)); refine aops_nil ?_; simp only [Nx, Caught, if_true, if_false, reduceIte, Nat.reduceEqDiff]; clear gd sep)
    | (refine region_draw' mixed (by decide +kernel) fun gd sep hgd hsep => ?_; clear hgd hsep; (repeat (refine aops_cons fun K1 hK1 => ?_; simp (disch := first | with_reducible assumption | (simp -failIfUnchanged only [Mem.size_push, Mem.size_put, Mem.size_kill, List.length_cons, List.length_nil, List.length_append, List.length_map, List.length_take, List.length_replicate] <;> omega) | (refine (id ?_ : (_ : Bool) = true); simp only [go_sem, if_true, if_false, reduceIte, reduceCtorEq, Nat.reduceAdd, Nat.reduceSub, Nat.reduceBEq, Nat.reduceLT, Nat.reduceMul, Nat.reducePow, Nat.reduceLeDiff]; done) | fail "no") only [go_sem, if_true, if_false, reduceIte, reduceCtorEq, Nat.reduceAdd, Nat.reduceSub, Nat.reduceBEq, Nat.reduceLT, Nat.reduceMul, Nat.reducePow, Nat.reduceLeDiff]; refine hK1 _ _ ?_; clear hK1 K1)); refine aops_nil ?_; simp only [Nx, Caught, if_true, if_false, reduceIte, Nat.reduceEqDiff]; clear gd sep)
    | (refine hK _ _ ?_; clear hK K)
    | (clear hK K)
    )
  refine awp_ret ?_; try simp only [Nx, Caught]
  apply ends_ret
  · simp (disch := first | with_reducible assumption | (simp -failIfUnchanged only [Mem.size_push, Mem.size_put, Mem.size_kill, List.length_cons, List.length_nil, List.length_append, List.length_map, List.length_take, List.length_replicate] <;> omega) | (refine (id ?_ : (_ : Bool) = true); simp only [go_sem, if_true, if_false, reduceIte, reduceCtorEq, Nat.reduceAdd, Nat.reduceSub, Nat.reduceBEq, Nat.reduceLT, Nat.reduceMul, Nat.reducePow, Nat.reduceLeDiff]; done) | fail "no") only [go_sem, if_true, if_false, reduceIte, reduceCtorEq, Nat.reduceAdd, Nat.reduceSub, Nat.reduceBEq, Nat.reduceLT, Nat.reduceMul, Nat.reducePow, Nat.reduceLeDiff, aress, ares1]; exact rfl
  simp only [tupled]
  simp [GP.mark, iota_length, iotaB_length]
  omega

end Go.Ab
