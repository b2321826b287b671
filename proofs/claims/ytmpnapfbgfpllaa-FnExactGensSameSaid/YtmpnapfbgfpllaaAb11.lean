/-
  What is proved here: the rules by which translated code is walked abstractly: sequences, branches, blocks, loops, regions, calls.
-/
import Derived.Test.YtmpnapfbgfpllaaAb10
namespace Go.Ab
open Go.RowKit

inductive AExit where
  | normal
  | exit (id : Nat)
  | ret
  deriving DecidableEq
def AExit.to : AExit → Exit
  | .normal => .normal
  | .exit id => .exit id
  | .ret => .ret

/-- This code takes this frame and memory to that end, frame and memory, in every world. -/
def DCode (P : Program) (nt fl : Nat) (c : Code) (ts : Frm) (m : Mem) (e : AExit) (ts' : Frm) (m' : Mem) : Prop :=
  AStep fl m m' ∧ ∀ β w (a : Act), FRel β nt ts a.tmps → a.defers = [] → Sim β m w → Free β m m' →
    c.wp P (fun e' a' w' => ∃ β', e' = e.to ∧ FRel β' nt ts' a'.tmps ∧ a'.defers = [] ∧ Post fl β m w m' β' w') a w

/-- Walked abstractly from here, the code comes to an end of which Q holds. -/
def AWp (P : Program) (nt fl : Nat) (c : Code) (Q : AExit → Frm → Mem → Prop) (ts : Frm) (m : Mem) : Prop :=
  ∃ e ts' m', Q e ts' m' ∧ DCode P nt fl c ts m e ts' m'

section rules
variable {P : Program} {nt fl : Nat} {Q : AExit → Frm → Mem → Prop} {ts : Frm} {m : Mem}

theorem awp_mono {c : Code} {Q' : AExit → Frm → Mem → Prop} (h : AWp P nt fl c Q ts m) (hq : ∀ e ts m, Q e ts m → Q' e ts m) : AWp P nt fl c Q' ts m :=
  let ⟨e, ts', m', q, d⟩ := h; ⟨e, ts', m', hq _ _ _ q, d⟩

theorem awp_skip (h : Q .normal ts m) : AWp P nt fl .skip Q ts m :=
  ⟨.normal, ts, m, h, AStep.refl _ _, fun β _ _ hl hd hs _ => wp_skip ⟨β, rfl, hl, hd, Post.refl hs⟩⟩
theorem awp_ret (h : Q .ret ts m) : AWp P nt fl .ret Q ts m :=
  ⟨.ret, ts, m, h, AStep.refl _ _, fun β _ _ hl hd hs _ => wp_ret ⟨β, rfl, hl, hd, Post.refl hs⟩⟩
theorem awp_exit {id : Nat} (h : Q (.exit id) ts m) : AWp P nt fl (.exit id) Q ts m :=
  ⟨.exit id, ts, m, h, AStep.refl _ _, fun β _ _ hl hd hs _ => wp_exit ⟨β, rfl, hl, hd, Post.refl hs⟩⟩

/-- What follows in a sequence. -/
def Nx (K : Frm → Mem → Prop) (Q : AExit → Frm → Mem → Prop) : AExit → Frm → Mem → Prop
  | .normal, ts, m => K ts m
  | e, ts, m => Q e ts m

theorem awp_seq {x y : Code} (h : ∀ K : Frm → Mem → Prop, (∀ ts m, AWp P nt fl y Q ts m → K ts m) → AWp P nt fl x (Nx K Q) ts m) : AWp P nt fl (.seq x y) Q ts m := by
  obtain ⟨e, ts1, m1, hq, d1, d2⟩ := h (fun ts m => AWp P nt fl y Q ts m) fun _ _ h => h
  cases e with
  | normal =>
    obtain ⟨e, ts2, m2, hq2, d3, d4⟩ := hq
    refine ⟨e, ts2, m2, hq2, d1.trans d3, fun β w a hl hd hs hf => wp_seq (wp_mono (d2 β w a hl hd hs (hf.left d3.size)) ?_)⟩
    rintro e' a' w' ⟨β', rfl, hl', hd', hp'⟩
    refine wp_mono (d4 β' w' a' hl' hd' hp'.sim (hf.right d1.size hp')) ?_
    rintro e' a2 w2 ⟨β2, he, hl2, hd2, hp2⟩
    exact ⟨β2, he, hl2, hd2, hp'.trans d1 d3 hp2⟩
  | exit id =>
    refine ⟨.exit id, ts1, m1, hq, d1, fun β w a hl hd hs hf => wp_seq (wp_mono (d2 β w a hl hd hs hf) ?_)⟩
    rintro e' a' w' ⟨β', rfl, hl', hd', hp'⟩
    exact ⟨β', rfl, hl', hd', hp'⟩
  | ret =>
    refine ⟨.ret, ts1, m1, hq, d1, fun β w a hl hd hs hf => wp_seq (wp_mono (d2 β w a hl hd hs hf) ?_)⟩
    rintro e' a' w' ⟨β', rfl, hl', hd', hp'⟩
    exact ⟨β', rfl, hl', hd', hp'⟩

theorem awp_cond {c : Operand} {x y : Code} {t : Bool} (hc : aev nt ts c = .bool t) (h : AWp P nt fl (if t then x else y) Q ts m) : AWp P nt fl (.cond c x y) Q ts m := by
  obtain ⟨e, ts1, m1, hq, d1, d2⟩ := h
  refine ⟨e, ts1, m1, hq, d1, fun β w a hl hd hs hf => wp_cond (t := t) ?_ (d2 β w a hl hd hs hf)⟩
  have := hl.aev c
  rw [hc] at this
  generalize a.eval c = q at this
  cases this
  rfl
theorem awp_if {c : Operand} {x y : Code} {t : Bool} (hc : aev nt ts c = .bool t) (h1 : t = true → AWp P nt fl x Q ts m) (h2 : t = false → AWp P nt fl y Q ts m) : AWp P nt fl (.cond c x y) Q ts m := by
  refine awp_cond hc ?_
  cases t
  · exact h2 rfl
  · exact h1 rfl

/-- An exit that a block catches. -/
def Caught (id : Nat) (Q : AExit → Frm → Mem → Prop) : AExit → Frm → Mem → Prop
  | .exit id', ts, m => if id' = id then Q .normal ts m else Q (.exit id') ts m
  | e, ts, m => Q e ts m

theorem awp_block {id : Nat} {c : Code} (h : AWp P nt fl c (Caught id Q) ts m) : AWp P nt fl (.block id c) Q ts m := by
  obtain ⟨e, ts1, m1, hq, d1, d2⟩ := h
  cases e with
  | normal =>
    refine ⟨.normal, ts1, m1, hq, d1, fun β w a hl hd hs hf => wp_block (wp_mono (d2 β w a hl hd hs hf) ?_)⟩
    rintro e' a' w' ⟨β', rfl, hl', hd', hp'⟩
    exact ⟨β', rfl, hl', hd', hp'⟩
  | ret =>
    refine ⟨.ret, ts1, m1, hq, d1, fun β w a hl hd hs hf => wp_block (wp_mono (d2 β w a hl hd hs hf) ?_)⟩
    rintro e' a' w' ⟨β', rfl, hl', hd', hp'⟩
    exact ⟨β', rfl, hl', hd', hp'⟩
  | exit id' =>
    by_cases he : id' = id
    · simp only [Caught, he, if_true] at hq
      refine ⟨.normal, ts1, m1, hq, d1, fun β w a hl hd hs hf => wp_block (wp_mono (d2 β w a hl hd hs hf) ?_)⟩
      rintro e' a' w' ⟨β', rfl, hl', hd', hp'⟩
      simp only [AExit.to, Exit.inBlock, he, if_true]
      exact ⟨β', trivial, hl', hd', hp'⟩
    · simp only [Caught, he, if_false] at hq
      refine ⟨.exit id', ts1, m1, hq, d1, fun β w a hl hd hs hf => wp_block (wp_mono (d2 β w a hl hd hs hf) ?_)⟩
      rintro e' a' w' ⟨β', rfl, hl', hd', hp'⟩
      simp only [AExit.to, Exit.inBlock, he, if_false]
      exact ⟨β', trivial, hl', hd', hp'⟩

/-- Rounds of a loop. -/
inductive LTr (P : Program) (nt fl : Nat) (c : Code) (e : AExit) (ts' : Frm) (m' : Mem) : Nat → Frm → Mem → Prop where
  | last (ts : Frm) (m : Mem) (n : Nat) (he : e ≠ .normal) (h : DCode P nt fl c ts m e ts' m') : LTr P nt fl c e ts' m' n ts m
  | more (ts : Frm) (m : Mem) (ts1 : Frm) (m1 : Mem) (n : Nat) (h : DCode P nt fl c ts m .normal ts1 m1) (r : LTr P nt fl c e ts' m' n ts1 m1) : LTr P nt fl c e ts' m' (n + 1) ts m

theorem LTr.step {c : Code} {e : AExit} {ts' : Frm} {m' : Mem} {n : Nat} (h : LTr P nt fl c e ts' m' n ts m) : AStep fl m m' := by
  induction h with
  | last ts m n he h => exact h.1
  | more ts m ts1 m1 n h _ ih => exact h.1.trans ih

theorem dcode_loop {c : Code} {e : AExit} {ts' : Frm} {m' : Mem} {n : Nat} (h : LTr P nt fl c e ts' m' n ts m) : DCode P nt fl (.loop c) ts m e ts' m' := by
  refine ⟨h.step, fun β0 w0 a0 hl0 hd0 hs0 hf0 => ?_⟩
  refine wp_loop_ghost (fun j a w => ∃ ts1 m1 β, LTr P nt fl c e ts' m' j ts1 m1 ∧ FRel β nt ts1 a.tmps ∧ a.defers = [] ∧ AStep fl m m1 ∧ Post fl β0 m w0 m1 β w) n ⟨ts, m, β0, h, hl0, hd0, AStep.refl _ _, Post.refl hs0⟩ ?_
  rintro j a w ⟨ts1, m1, β, hr, hl, hd, hst, hp⟩
  have hfree : Free β m1 m' := hf0.right hst.size hp
  cases hr with
  | last _ _ _ he h1 =>
    refine wp_mono (h1.2 β w a hl hd hp.sim hfree) ?_
    rintro e' a' w' ⟨β', rfl, hl', hd', hp'⟩
    have : ∃ β', FRel β' nt ts' a'.tmps ∧ a'.defers = [] ∧ Post fl β0 m w0 m' β' w' := ⟨β', hl', hd', hp.trans hst h1.1 hp'⟩
    obtain ⟨β'', g1, g2, g3⟩ := this
    cases e with
    | normal => exact absurd rfl he
    | exit id => exact ⟨β'', rfl, g1, g2, g3⟩
    | ret => exact ⟨β'', rfl, g1, g2, g3⟩
  | more _ _ ts2 m2 j' h1 hr' =>
    refine wp_mono (h1.2 β w a hl hd hp.sim (hfree.left hr'.step.size)) ?_
    rintro e' a' w' ⟨β', rfl, hl', hd', hp'⟩
    exact ⟨j', Nat.lt_succ_self _, ts2, m2, β', hr', hl', hd', hst.trans h1.1, hp.trans hst h1.1 hp'⟩

theorem awp_loop {c : Code} (I : Nat → Frm → Mem → Prop) (n : Nat) (h0 : I n ts m)
    (round : ∀ n ts m, I n ts m → ∀ K : Frm → Mem → Prop, (∀ n' ts m, n' < n → I n' ts m → K ts m) → AWp P nt fl c (Nx K Q) ts m) : AWp P nt fl (.loop c) Q ts m := by
  have key : ∀ n ts m, I n ts m → ∃ e ts' m' k, Q e ts' m' ∧ LTr P nt fl c e ts' m' k ts m := by
    intro n
    induction n using Nat.strongRecOn with
    | _ n ih =>
      intro ts m hI
      obtain ⟨e, ts1, m1, hq, d⟩ := round n ts m hI (fun ts m => ∃ n', n' < n ∧ I n' ts m) fun n' ts m h1 h2 => ⟨n', h1, h2⟩
      cases e with
      | normal =>
        obtain ⟨n', hlt, hI'⟩ := hq
        obtain ⟨e, ts', m', k, hq', ht⟩ := ih n' hlt ts1 m1 hI'
        exact ⟨e, ts', m', k + 1, hq', .more _ _ _ _ _ d ht⟩
      | exit id => exact ⟨.exit id, ts1, m1, 0, hq, .last _ _ _ (by simp) d⟩
      | ret => exact ⟨.ret, ts1, m1, 0, hq, .last _ _ _ (by simp) d⟩
  obtain ⟨e, ts', m', k, hq, ht⟩ := key n ts m h0
  exact ⟨e, ts', m', hq, dcode_loop ht⟩

/-- A frame of which less is told. -/
theorem awp_less {c : Code} {ts0 : Frm} (hle : ∀ i, ts i = AVal.any ∨ ts i = ts0 i) (h : AWp P nt fl c Q ts m) : AWp P nt fl c Q ts0 m := by
  obtain ⟨e, ts', m', hq, d1, d2⟩ := h
  refine ⟨e, ts', m', hq, d1, fun β w a hl => d2 β w a ⟨hl.1, fun i v h2 => ?_⟩⟩
  rcases hle i with h3 | h3
  · rw [h3]; exact .any v
  · rw [h3]; exact hl.2 i v h2

/-- What is walked once behind ways that meet. -/
theorem awp_cut {x y : Code} (J : Frm → Mem → Prop) (h : ∀ K : Frm → Mem → Prop, (∀ ts m, J ts m → K ts m) → AWp P nt fl x (Nx K Q) ts m) (k : ∀ ts m, J ts m → AWp P nt fl y Q ts m) : AWp P nt fl (.seq x y) Q ts m :=
  awp_seq fun K hK => h K fun ts m hj => hK ts m (k ts m hj)

end rules
end Go.Ab
