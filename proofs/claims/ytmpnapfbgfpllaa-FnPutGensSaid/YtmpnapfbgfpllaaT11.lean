/-
  What is proved here: the contract of a function out of what is read of its code; the contract of a call out of that of the function.
-/
import Derived.Test.YtmpnapfbgfpllaaT10
namespace Go.Ab
set_option linter.unusedVariables false
set_option linter.unusedSimpArgs false

def argsF (args : List TV) : TFrm := fun i => args.getD i (.tup [])

section ends
variable {P : Program} {nt fl : Nat} {A : Nat → Prop} {c0 : Cfg}

theorem ald_view {m : Mem} {r : Nat → Bool} {n o : Nat} : ald (m.view (fun _ => false) r) n o = ald m n o := by
  unfold ald
  rw [view_cells]
  have : ((m.view (fun _ => false) r).blk n).mode ≠ .dead ↔ (m.blk n).mode ≠ .dead := by
    constructor
    · intro h; exact (view_live h).2.1
    · intro h q
      apply h
      unfold Mem.view at q
      simp only [Bool.false_eq_true, if_false] at q
      split at q
      · exact Blk.roify_dead.1 q
      · exact q
  simp only [this]
  rfl
theorem alds_view {m : Mem} {r : Nat → Bool} {n o k : Nat} : alds (m.view (fun _ => false) r) n o k = alds m n o k := by
  unfold alds
  rw [view_cells]
  have : ((m.view (fun _ => false) r).blk n).mode ≠ .dead ↔ (m.blk n).mode ≠ .dead := by
    constructor
    · intro h; exact (view_live h).2.1
    · intro h q
      apply h
      unfold Mem.view at q
      simp only [Bool.false_eq_true, if_false] at q
      split at q
      · exact Blk.roify_dead.1 q
      · exact q
  simp only [this]
  rfl
theorem aress_view {fr : Frm} {m : Mem} {r : Nat → Bool} : ∀ rs, aress P nt fr (m.view (fun _ => false) r) rs = aress P nt fr m rs
  | [] => rfl
  | x :: rs => by
    have : ares1 P nt fr (m.view (fun _ => false) r) x = ares1 P nt fr m x := by
      cases x with
      | tmp t => rfl
      | cell a t => simp only [ares1, ald_view, alds_view]
    simp only [aress, this, aress_view rs]

theorem tres1_ok {ts : TFrm} {c : Cfg} {fr : Frm} (R : RM c A) (hf : FV c ts fr) {x : ResultVar} {v : TV} (h : tres1 P nt ts c.tm x = some v) : ∃ a, ares1 P nt fr c.m x = some a ∧ RV c v a := by
  cases x with
  | tmp t => simp only [tres1, Option.some.injEq] at h; subst h; exact ⟨_, rfl, hf.ev (.tmp t)⟩
  | cell a t =>
    simp only [tres1] at h
    have he := hf.ev (n := nt) (.tmp a)
    split at h
    · rename_i k o hk
      rw [hk] at he
      obtain ⟨n, p, h1, h2, h3⟩ := rv_ptr he
      split at h
      · rename_i w l hb
        obtain ⟨n', p', g1, g2, g3, _, g5, g6⟩ := R.cells k _ l hb
        rw [h2] at g1; simp at g1; obtain ⟨rfl, rfl⟩ := g1
        obtain ⟨b, q1, q2⟩ := load_row (c := c) (n := n) (q := p + o) (ts := l.drop o) g2 g3 (fun hne => by
          have hlt : o < l.length := by
            rcases Nat.lt_or_ge o l.length with h | h
            · exact h
            · exact absurd (List.drop_eq_nil_of_le h) hne
          simp; omega) (fun i t' ht => by
          rw [List.getElem?_drop] at ht
          obtain ⟨b, k1, k2⟩ := g6 _ _ ht
          exact ⟨b, by rw [Nat.add_assoc]; exact k1, k2⟩) h
        refine ⟨b, ?_, q2⟩
        simp only [ares1, h3]
        simp only [aload] at q1
        exact q1
      · cases h
    · cases h
theorem tress_ok {ts : TFrm} {c : Cfg} {fr : Frm} (R : RM c A) (hf : FV c ts fr) : ∀ (rs : List ResultVar) {vs : List TV}, tress P nt ts c.tm rs = some vs → ∃ as, aress P nt fr c.m rs = some as ∧ LV c vs as
  | [], vs, h => by simp only [tress, Option.some.injEq] at h; subst h; exact ⟨[], rfl, LV.nil c⟩
  | x :: rs, vs, h => by
    simp only [tress] at h
    split at h
    · rename_i v vs' h1 h2
      simp only [Option.some.injEq] at h
      subst h
      obtain ⟨a, g1, g2⟩ := tres1_ok R hf h1
      obtain ⟨as, q1, q2⟩ := tress_ok R hf rs h2
      exact ⟨a :: as, by simp only [aress, g1, q1], (LV.single g2).append q2⟩
    · cases h
theorem tupled_rv {c : Cfg} {vs : List TV} {as : List AVal} (h : LV c vs as) : RV c (tupT vs) (tupled as) := by
  match vs, as, h with
  | [], [], h => exact .tup [] [] rfl (fun i t a h => by simp at h)
  | [v], [a], h => exact h.2 0 v a rfl rfl
  | v :: v2 :: vs, a :: a2 :: as, h => exact .tup _ _ h.1 h.2
  | [], _ :: _, h => exact absurd h.1 (by simp)
  | _ :: _, [], h => exact absurd h.1 (by simp)
  | [_], _ :: _ :: _, h => exact absurd h.1 (by simp)
  | _ :: _ :: _, [_], h => exact absurd h.1 (by simp)

theorem move_ok {K : List TV → TMem → Prop} {as : List AVal} : ∀ (ks : List Nat) {vs : List TV} {c : Cfg}, moveB ks vs c.tm K → RM c A → LV c vs as → ∃ vs' c', K vs' c'.tm ∧ c'.m = c.m ∧ RM c' A ∧ LV c' vs' as ∧ Stp c c' A
  | [], vs, c, h, R, hv => ⟨vs, c, h, rfl, R, hv, Stp.refl _ _⟩
  | k :: ks, vs, c, h, R, hv => by
    simp only [moveB] at h
    split at h
    · rename_i e l hb
      obtain ⟨c1, g1, g2, g3, g4, g5⟩ := move1_ok R hb
      rw [← g1] at h
      obtain ⟨vs', c', q1, q2, q3, q4, q5⟩ := move_ok ks h g3 (hv.rn g5)
      exact ⟨vs', c', q1, q2.trans g2, q3, q4, g4.trans q5⟩
    · exact move_ok ks h R hv
    · exact h.elim

theorem fun_ok {f : FuncId} {fn : Func} {x : Code} {rs : List ResultVar} {Γ : List (Nat × Con)} {H : List (Nat × LH)} {WW : List (Nat × List (Nat × List Nat))} {shs : List Sh} {cons : List Nat} (hmix : P.follows .mixedOrders = true) (hfn : P.funcs[f]? = some fn)
    (hn : (fn.name == "runtime.NumGoroutine") = false) (hb : fn.body = some x) (ht : fn.ntmps = nt) (hr : fn.results = ⟨rs⟩) (hΓ : GSound P Γ) {args : List TV} {K : TV → TMem → Prop} {c : Cfg}
    (h : TW P nt Γ H WW c.tm.length x (endT P nt rs shs cons c.tm.length K) (argsF args) c.tm) {A : Nat → Prop} {aargs : List AVal} (hA : ∀ n, A n → fl ≤ n) (hN : ∀ n, c.m.size ≤ n → A n) (R : RM c A) (hl : LV c args aargs) :
    ∃ v c' r, K r c'.tm ∧ RV c' r v ∧ DCalls P fl f aargs c.m v c'.m ∧ RM c' A ∧ Stp c c' A := by
  have hfv : FV c (argsF args) (fargs aargs) := by
    intro i
    unfold argsF fargs
    rw [List.getD_eq_getElem?_getD, List.getD_eq_getElem?_getD]
    cases hi : args[i]? with
    | none =>
      have : aargs[i]? = none := by
        rw [List.getElem?_eq_none_iff] at hi ⊢
        rw [← hl.1]; exact hi
      rw [this]
      exact .tup [] [] rfl (fun i t a h => by simp at h)
    | some t =>
      obtain ⟨a, h1, h2⟩ := hl.get hi
      rw [h1]; exact h2
  have hw := TW_ok (nt := nt) hmix hΓ hA hN x _ _ c _ R hfv (Stp.refl c A) h
  obtain ⟨v, m', ⟨c', r, q, h1, h2, h3, h4, h5, h6⟩, hd⟩ := dcalls_of (Q := fun v m' => ∃ (c' : Cfg) (r : TV) (q : Nat → Bool), c'.m = m'.view (fun _ => false) q ∧ (∀ n, q n = true → A n) ∧ K r c'.tm ∧ RV c' r v ∧ RM c' A ∧ Stp c c' A) (fl := fl) (m := c.m) (args := aargs) hfn hn hb (by
      rw [ht, hr]
      refine awp_mono hw fun e fr m' hq => ?_
      obtain ⟨ts, c1, r1, g1, g2, g3, g4, g5, g6⟩ := hq
      have fin : (match tress P nt ts c1.tm rs with
          | some vs => moveB cons vs c1.tm fun vs tm => match coeL shs vs tm with
            | some (vs, tm) => canonT c.tm.length vs tm fun vs tm => K (tupT vs) tm
            | none => False
          | none => False) → ∃ vs, aress P nt fr m' rs = some vs ∧ ∃ (c' : Cfg) (r : TV) (q : Nat → Bool), c'.m = m'.view (fun _ => false) q ∧ (∀ n, q n = true → A n) ∧ K r c'.tm ∧ RV c' r (tupled vs) ∧ RM c' A ∧ Stp c c' A := by
        intro hh
        split at hh
        case h_2 => exact hh.elim
        rename_i vs hvs
        obtain ⟨as, w1, w2⟩ := tress_ok g4 g5 rs hvs
        rw [g1, aress_view] at w1
        obtain ⟨vs1, c2, k1, k2, k3, k4, k5⟩ := move_ok cons hh g4 w2
        split at k1
        case h_2 => exact k1.elim
        rename_i vs2 tm2 hco
        obtain ⟨c3, rfl, s2, s3, s4, _⟩ := coeL_ok _ hco k3 k4
        obtain ⟨vs4, c4, z1, z2, z3, z4, z5⟩ := canon_ok s2 ((g6.trans k5).trans s4.stp) s3 k1
        obtain ⟨q, y1, y2⟩ := s4.gh
        obtain ⟨q', x1, x2⟩ := ghost_trans (A := A) (m := m') (m1 := c4.m) g2 y1 (by rw [z2, y2, k2, g1])
        exact ⟨as, w1, c4, _, q', x2, x1, z1, tupled_rv z5, z3, z4⟩
      cases e with
      | normal => exact fin g3
      | ret => exact fin g3
      | exit id => exact g3.elim)
  refine ⟨v, c', r, h3, h4, ?_, h5, h6⟩
  rw [h1]
  exact hd.weak fun n hn => .inl (hA n (h2 n hn))
end ends
end Go.Ab
