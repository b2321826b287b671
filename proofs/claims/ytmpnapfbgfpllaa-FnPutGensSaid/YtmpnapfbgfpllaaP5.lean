/-
  What is proved here: what is drawn: numbers in their bounds, valid heaps, generations. Conditions: the bytes are bytes, and the reader stands early enough.
-/
import Derived.Test.YtmpnapfbgfpllaaP4
namespace Go.Ab
set_option linter.unusedVariables false
set_option linter.unusedSimpArgs false

/-- A reader that may draw k more times. -/
structure RdOk (b : List Int) (p : Int) (k : Nat) : Prop where
  by_ : ∀ x ∈ b, 0 ≤ x ∧ x < 256
  len : b.length ≤ 2000
  p0 : 0 ≤ p
  pk : p + k ≤ 1099511627776
theorem RdOk.le {b : List Int} {p : Int} {k k' : Nat} (h : RdOk b p k) (hk : k' ≤ k) : RdOk b p k' := ⟨h.by_, h.len, h.p0, by have := h.pk; omega⟩
theorem RdOk.gY {b : List Int} {p : Int} {k : Nat} (h : RdOk b p k) {i : Int} (h0 : 0 ≤ i) (h1 : i < b.length) : 0 ≤ gY b i ∧ gY b i < 256 := by
  unfold Ab.gY
  exact h.by_ _ (getD_mem _ (by omega))
theorem xor_pos {a b : Int} (ha : 0 ≤ a) (ha' : a < 4611686018427387904) (hb : 0 ≤ b) (hb' : b < 4611686018427387904) :
    0 ≤ IntKind.wrap .i64 (((BitVec.ofInt (IntKind.bits .i64) a ^^^ BitVec.ofInt (IntKind.bits .i64) b).toNat : Int)) := by
  obtain ⟨x, rfl⟩ := Int.eq_ofNat_of_zero_le ha
  obtain ⟨y, rfl⟩ := Int.eq_ofNat_of_zero_le hb
  have hx : x < 2 ^ 62 := by omega
  have hy : y < 2 ^ 62 := by omega
  have h1 : x % 2 ^ 64 = x := Nat.mod_eq_of_lt (by omega)
  have h2 : y % 2 ^ 64 = y := Nat.mod_eq_of_lt (by omega)
  have h3 : (BitVec.ofInt (IntKind.bits .i64) (x : Int) ^^^ BitVec.ofInt (IntKind.bits .i64) (y : Int)).toNat = x ^^^ y := by
    rw [BitVec.toNat_xor]
    have e1 : (BitVec.ofInt (IntKind.bits .i64) (x : Int)).toNat = x % 2 ^ 64 := by simp [BitVec.toNat_ofInt, IntKind.bits]
    have e2 : (BitVec.ofInt (IntKind.bits .i64) (y : Int)).toNat = y % 2 ^ 64 := by simp [BitVec.toNat_ofInt, IntKind.bits]
    rw [e1, e2, h1, h2]
  rw [h3]
  have h4 : x ^^^ y < 2 ^ 62 := Nat.xor_lt_two_pow hx hy
  rw [wrap64 (by omega) (by omega)]
  omega
theorem tmod_in {x n : Int} (hx : 0 ≤ x) (hn : 1 ≤ n) : 0 ≤ x.tmod n ∧ x.tmod n < n := by
  rw [Int.tmod_eq_emod_of_nonneg hx]
  exact ⟨Int.emod_nonneg _ (by omega), Int.emod_lt_of_pos _ (by omega)⟩

theorem L_pick {n : Int} {b : List Int} {p : Int} {k : Nat} {K : Int → Int → Prop} (h : RdOk b p (k + 1)) (hK : ∀ v, 0 ≤ v → (1 ≤ n → v < n) → RdOk b (p + 1) k → K v (p + 1)) : Ms_l13Rd_pick n b p K := by
  have hp := h.p0
  have hk := h.pk
  have hl := h.len
  have e1 : iadd p 1 = p + 1 := iadd_eq (by omega) (by omega)
  have e2 : isub (p + 1) 1 = p := by rw [isub_eq (by omega) (by omega)]; omega
  have hr : RdOk b (p + 1) k := ⟨h.by_, h.len, by omega, by omega⟩
  unfold Ms_l13Rd_pick
  rw [e1, e2]
  refine br (fun h1 => hK 0 (by omega) (fun _ => by omega) hr) fun h1 => br (fun h2 => hK 0 (by omega) (fun _ => by omega) hr) fun h2 => ?_
  have h1 : 1 ≤ n := by have := of_decide_eq_false h1; omega
  have h2 : 0 < b.length := by simp [len_eq] at h2; exact List.length_pos_iff.2 h2
  refine br (fun h3 => ?_) fun h3 => ?_
  · have h3 : p < b.length := by have := of_decide_eq_true h3; simp only [len_eq] at this; omega
    have hg := h.gY hp h3
    refine ⟨⟨hp, h3⟩, by omega, ?_⟩
    have e3 : IntKind.wrap .i64 (gY b p) = gY b p := wrap64 (by omega) (by omega)
    have := tmod_in hg.1 h1
    dsimp only
    rw [e3]
    exact hK _ this.1 (fun _ => this.2) hr
  · have hl' : len b ≠ 0 := by simp only [len_eq]; omega
    have hl1 : (1 : Int) ≤ len b := by simp only [len_eq]; omega
    have hl2 : len b ≤ 2000 := by simp only [len_eq]; omega
    have m1 := tmod_in hp hl1
    have e4 : imul p 7 = p * 7 := imul_eq (by omega) (by omega)
    have e5 : iadd (p * 7) 3 = p * 7 + 3 := iadd_eq (by omega) (by omega)
    have m2 := tmod_in (show 0 ≤ p * 7 + 3 by omega) hl1
    have hg1 := h.gY (i := p.tmod (len b)) m1.1 m1.2
    have hg2 := h.gY (i := (p * 7 + 3).tmod (len b)) m2.1 m2.2
    have e6 : IntKind.wrap .i64 (gY b (p.tmod (len b))) = gY b (p.tmod (len b)) := wrap64 (by omega) (by omega)
    have e7 : IntKind.wrap .i64 (gY b ((p * 7 + 3).tmod (len b))) = gY b ((p * 7 + 3).tmod (len b)) := wrap64 (by omega) (by omega)
    rw [e4, e5]
    refine ⟨hl', ⟨m1.1, m1.2⟩, ?_⟩
    dsimp only
    refine ⟨hl', ⟨m2.1, m2.2⟩, ?_⟩
    rw [e6, e7]
    generalize gY b (p.tmod (len b)) = x1 at hg1
    generalize gY b ((p * 7 + 3).tmod (len b)) = x2 at hg2
    have q0 : 0 ≤ p.tdiv (len b) := Int.tdiv_nonneg hp (by omega)
    have q1 : p.tdiv (len b) ≤ p := by rw [Int.tdiv_eq_ediv_of_nonneg hp]; exact Int.ediv_le_self _ hp
    have f1 : imul x1 131 = x1 * 131 := imul_eq (by omega) (by omega)
    have f2 : imul x2 1117 = x2 * 1117 := imul_eq (by omega) (by omega)
    have f3 : imul p 29 = p * 29 := imul_eq (by omega) (by omega)
    have f4 : iquo p (len b) = p.tdiv (len b) := wrap64 (by omega) (by omega)
    rw [f1, f2, f3, f4]
    generalize p.tdiv (len b) = q at q0 q1
    have f5 : imul q 53 = q * 53 := imul_eq (by omega) (by omega)
    have f6 : iadd (x1 * 131) (x2 * 1117) = x1 * 131 + x2 * 1117 := iadd_eq (by omega) (by omega)
    have f7 : iadd (x1 * 131 + x2 * 1117) (p * 29) = x1 * 131 + x2 * 1117 + p * 29 := iadd_eq (by omega) (by omega)
    have f8 : iadd (x1 * 131 + x2 * 1117 + p * 29) (q * 53) = x1 * 131 + x2 * 1117 + p * 29 + q * 53 := iadd_eq (by omega) (by omega)
    rw [f5, f6, f7, f8]
    have g0 : 0 ≤ x1 * 131 + x2 * 1117 + p * 29 + q * 53 := by omega
    have g1 : x1 * 131 + x2 * 1117 + p * 29 + q * 53 < 4611686018427387904 := by omega
    generalize x1 * 131 + x2 * 1117 + p * 29 + q * 53 = x at g0 g1
    have r0 : 0 ≤ x.tdiv 64 := Int.tdiv_nonneg g0 (by omega)
    have r1 : x.tdiv 64 ≤ x := by rw [Int.tdiv_eq_ediv_of_nonneg g0]; exact Int.ediv_le_self _ g0
    have f9 : iquo x 64 = x.tdiv 64 := wrap64 (by omega) (by omega)
    refine ⟨hl', by omega, by omega, ?_⟩
    rw [f9]
    have := tmod_in (xor_pos g0 g1 r0 (by omega)) h1
    exact hK _ this.1 (fun _ => this.2) hr
theorem L_num {l b : List Int} {p : Int} {k : Nat} {K : Int → Int → Prop} (h : RdOk b p (k + 1)) (hl : 1 ≤ l.length) (hK : ∀ v, v ∈ l → RdOk b (p + 1) k → K v (p + 1)) : Ms_l13Rd_num l b p K := by
  refine L_pick h fun v h0 h1 hr => ?_
  have h1 := h1 (by simp only [len_eq]; omega)
  simp only [len_eq] at h1
  exact ⟨⟨h0, h1⟩, hK _ (getD_mem 0 (by omega)) hr⟩
theorem L_l13Open {c : List Int} {K : List Int → Int → Prop} (hc : ∀ x ∈ c, U8 x) (hK : ∀ b, RdOk b 0 1000000 → K b 0) : Ms_l13Open c K := by
  have h8 : ∀ x ∈ c, 0 ≤ x ∧ x < 256 := fun x hx => by
    have := hc x hx
    simp [U8, Lit.wf, IntKind.min, IntKind.max, IntKind.signed, IntKind.bits] at this
    omega
  refine br (fun h => ⟨⟨by omega, by omega, ?_⟩, hK _ ⟨fun x hx => ?_, ?_, by omega, by omega⟩⟩) fun h => hK _ ⟨h8, ?_, by omega, by omega⟩
  · have := of_decide_eq_true h; omega
  · simp only [sub] at hx; exact h8 x (List.mem_of_mem_take (List.mem_of_mem_drop hx))
  · simp [sub]; omega
  · have := of_decide_eq_false h; simp only [len_eq] at this; omega
theorem L_l1Many {n : Nat} {K : List Int → Prop} (hn : n ≤ 8) (hK : K (List.replicate n (-1))) : Ms_l1Many n K := by
  refine LoopP_for (fun i s => s = ((n : Int), (i : Int), List.replicate i (-1))) n rfl ?_ ?_
  · rintro i _ hi rfl Kb hKb
    refine br_t (by simp; omega) ⟨by simp; omega, hKb _ ?_⟩
    rw [iadd_nat (by omega), ← List.replicate_succ']
  · rintro _ rfl Kb
    exact br_f (by simp) hK
theorem L_sNewHeap {n m : Nat} {K : Bool → List Int → List Int → List Int → Prop} (hn : 1 ≤ n) (hn8 : n ≤ 8) (hm : 1 ≤ m) (hm3 : m ≤ 3) (hK : K true (List.replicate n (-1)) (List.replicate n (-1)) (List.replicate m (-1))) : Ms_NewHeap n m K :=
  br_f (by simp; omega) (br_f (by simp; omega) (br_f (by simp; omega) (br_f (by simp; omega) (L_l1Many hn8 (L_l1Many hn8 (L_l1Many (by omega) hK))))))
theorem ok_set {n : Nat} {l : List Int} {i : Nat} {v : Int} (h : ∀ x ∈ l, okP n x) (hv : okP n v) : ∀ x ∈ l.set i v, okP n x := fun x hx => by
  rcases List.mem_or_eq_of_mem_set hx with hx | rfl
  · exact h x hx
  · exact hv
theorem ok_rep {n m : Nat} : ∀ x ∈ List.replicate m (-1 : Int), okP n x := fun x hx => by
  have := (List.mem_replicate.1 hx).2
  subst this
  exact ⟨by omega, by omega⟩
theorem L_l1Draw {b : List Int} {p : Int} {k : Nat} {K : List Int → Int → List Int → List Int → List Int → Prop} (h : RdOk b p (k + 21)) (hK : ∀ p' l r ro, RdOk b p' k → HVp l r ro → K b p' l r ro) : Ms_l1Draw b p K := by
  refine L_num (k := k + 20) h (by simp) fun y1 hy1 h1 => L_num (k := k + 19) h1 (by simp) fun y3 hy3 h2 => ?_
  have ha : 1 ≤ y1 ∧ y1 ≤ 8 := by simp at hy1; omega
  have hb : 1 ≤ y3 ∧ y3 ≤ 3 := by simp at hy3; omega
  obtain ⟨n, rfl⟩ := Int.eq_ofNat_of_zero_le (show 0 ≤ y1 by omega)
  obtain ⟨m, rfl⟩ := Int.eq_ofNat_of_zero_le (show 0 ≤ y3 by omega)
  refine L_sNewHeap (by omega) (by omega) (by omega) (by omega) ?_
  refine LoopP_for (fun i s => ∃ p' L R, s = ((n : Int), (i : Int), b, p', [], [], [], L, R, List.replicate m (-1)) ∧ RdOk b p' (k + 3 + 2 * (n - i)) ∧ L.length = n ∧ R.length = n ∧ (∀ x ∈ L, okP n x) ∧ ∀ x ∈ R, okP n x) n
    ⟨_, _, _, rfl, h2.le (by omega), by simp, by simp, ok_rep, ok_rep⟩ ?_ ?_
  · rintro i _ hi ⟨p', L, R, rfl, hr, hL, hR, oL, oR⟩ Kb hKb
    have e1 : iadd (n : Int) 2 = n + 2 := iadd_eq (by omega) (by omega)
    refine br_t (by simp; omega) ?_
    dsimp only
    rw [e1]
    refine L_pick (k := k + 3 + 2 * (n - (i + 1)) + 1) (hr.le (by omega)) fun v hv0 hv1 hr1 => ⟨by rw [inB_nat]; omega, L_pick (k := k + 3 + 2 * (n - (i + 1))) hr1 fun w hw0 hw1 hr2 => ⟨by rw [inB_nat]; omega, by rw [inB_nat, uL_nat, List.length_set]; omega, ?_⟩⟩
    have hv1 := hv1 (by omega)
    have hw1 := hw1 (by omega)
    have e2 : isub v 1 = v - 1 := isub_eq (by omega) (by omega)
    have e3 : isub w 2 = w - 2 := isub_eq (by omega) (by omega)
    have g1 : (L.set i (v - 1)).getD i 0 = v - 1 := by rw [getD_lt (by rw [List.length_set]; omega)]; simp
    have g2 : (R.set i (w - 2)).getD i 0 = w - 2 := by rw [getD_lt (by rw [List.length_set]; omega)]; simp
    simp only [e2, e3, uL_nat, gI_nat, g1, g2, List.set_set, inB_nat, List.length_set, hL, hR, hi, true_and]
    have key : ∀ L' R', L'.length = n → R'.length = n → (∀ x ∈ L', okP n x) → (∀ x ∈ R', okP n x) → Kb ((n : Int), iadd (i : Int) 1, b, p' + 1 + 1, [], [], [], L', R', List.replicate m (-1)) := fun L' R' a1 a2 a3 a4 => hKb _ ⟨_, L', R', by rw [iadd_nat (by omega)], hr2, a1, a2, a3, a4⟩
    have m1 : okP n (-1) := ⟨by omega, by omega⟩
    refine br (fun c1 => br (fun c2 => ?_) fun c2 => ?_) fun c1 => br (fun c2 => ?_) fun c2 => ?_
    · exact key _ _ (by simpa using hL) (by simpa using hR) (ok_set oL m1) (ok_set oR m1)
    · exact key _ _ (by simpa using hL) (by simpa using hR) (ok_set oL m1) (ok_set oR ⟨by have := of_decide_eq_false c2; omega, by omega⟩)
    · exact key _ _ (by simpa using hL) (by simpa using hR) (ok_set oL ⟨by omega, by have := of_decide_eq_false c1; omega⟩) (ok_set oR m1)
    · exact key _ _ (by simpa using hL) (by simpa using hR) (ok_set oL ⟨by omega, by have := of_decide_eq_false c1; omega⟩) (ok_set oR ⟨by have := of_decide_eq_false c2; omega, by omega⟩)
  · rintro _ ⟨p', L, R, rfl, hr, hL, hR, oL, oR⟩ Kb
    refine br_f (by simp) ?_
    have e1 : iadd (n : Int) 1 = n + 1 := iadd_eq (by omega) (by omega)
    refine LoopP_for (fun i s => ∃ p' ro, s = ((n : Int), (i : Int), b, p', [], [], [], L, R, ro) ∧ RdOk b p' (k + (m - i)) ∧ ro.length = m ∧ ∀ x ∈ ro, okP n x) m ⟨_, _, rfl, hr.le (by omega), by simp, ok_rep⟩ ?_ ?_
    · rintro i _ hi ⟨p', ro, rfl, hr, hro, oro⟩ Kb hKb
      refine br_t (by simp [len_eq, hro]; omega) ?_
      dsimp only
      rw [e1]
      refine L_pick (k := k + (m - (i + 1))) (hr.le (by omega)) fun v hv0 hv1 hr1 => ⟨by rw [inB_nat]; omega, hKb _ ⟨_, ro.set i (v - 1), ?_, hr1, by simpa using hro, ok_set oro ?_⟩⟩
      · rw [iadd_nat (by omega), isub_eq (by omega) (by have := hv1 (by omega); omega), uL_nat]
      · have := hv1 (by omega); exact ⟨by omega, by omega⟩
    · rintro _ ⟨p', ro, rfl, hr, hro, oro⟩ Kb
      refine br_f (by simp [len_eq, hro]) ?_
      dsimp only
      exact (hK _ _ _ _ (hr.le (by omega)) ⟨by omega, by omega, by omega, by omega, by omega, by rw [hL]; exact oL, by rw [hL]; exact oR, by rw [hL]; exact oro⟩)
end Go.Ab
