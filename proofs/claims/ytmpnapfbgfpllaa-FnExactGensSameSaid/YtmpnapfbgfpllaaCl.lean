/-
  What is proved here: heaps and generations that came in as arguments stand in the abstract memory.
-/
import Derived.Test.YtmpnapfbgfpllaaF4
namespace Go.Ab
open Go.Proofs
set_option linter.unusedVariables false

theorem opens_Ints : Opens PP 22 fun m vs => ∃ v xs, vs = [v] ∧ RdI m v xs ∧ xs.length ≤ maxLen ∧ ∀ x ∈ xs, (Lit.int .i64 x).wf = true := opens_ints Try.underlying22 Try.underlying3 (by kernel_rfl)
theorem opens_Bools : Opens PP 25 fun m vs => ∃ v xs, vs = [v] ∧ RdB m v xs ∧ xs.length ≤ maxLen ∧ ∀ x ∈ xs, True := opens_bools Try.underlying25 Try.underlying4 (by kernel_rfl)
def Wf (xs : List Int) : Prop := ∀ x ∈ xs, (Lit.int .i64 x).wf = true
def HP.wf (h : HP) : Prop := Wf h.l ∧ Wf h.r ∧ Wf h.ro
def GP.wf (g : GP) : Prop := g.h.wf ∧ Wf g.rem
theorem mono_Ints : Mono fun m vs => ∃ v xs, vs = [v] ∧ RdI m v xs ∧ xs.length ≤ maxLen ∧ ∀ x ∈ xs, (Lit.int .i64 x).wf = true := fun m m' vs ⟨v, xs, h1, h2, h3⟩ e => ⟨v, xs, h1, h2.ext e, h3⟩
theorem mono_Bools : Mono fun m vs => ∃ v xs, vs = [v] ∧ RdB m v xs ∧ xs.length ≤ maxLen ∧ ∀ x ∈ xs, True := fun m m' vs ⟨v, xs, h1, h2, h3⟩ e => ⟨v, xs, h1, h2.ext e, h3⟩
theorem opens_Heap : Opens PP 24 fun m vs => ∃ h, RdH m (.agg vs) h ∧ h.lens maxLen ∧ h.wf :=
  (opens_struct3 Try.underlying24 rfl (by kernel_rfl) (by kernel_rfl) (by kernel_rfl) opens_Ints opens_Ints opens_Ints mono_Ints mono_Ints).imp fun m vs h => by
    obtain ⟨_, _, _, rfl, ⟨a, l, rfl, h1, h2, h3⟩, ⟨b, r, rfl, h4, h5, h6⟩, ⟨c, ro, rfl, h7, h8, h9⟩⟩ := h
    exact ⟨⟨l, r, ro⟩, ⟨a, b, c, rfl, h1, h4, h7⟩, ⟨h2, h5, h8⟩, h3, h6, h9⟩
theorem mono_Heap : Mono fun m vs => ∃ h, RdH m (.agg vs) h ∧ h.lens maxLen ∧ h.wf := fun m m' vs ⟨h, h1, h2⟩ e => ⟨h, h1.ext e, h2⟩
theorem opens_Gens : Opens PP 27 fun m vs => ∃ g, RdG m (.agg vs) g ∧ g.lens maxLen ∧ g.wf :=
  (opens_struct3 Try.underlying27 rfl (by kernel_rfl) (by kernel_rfl) (by kernel_rfl) opens_Heap opens_Bools opens_Ints mono_Heap mono_Bools).imp fun m vs h => by
    obtain ⟨_, _, _, rfl, ⟨hp, ⟨a, b, c, hv, h1, h2, h3⟩, hl, hw⟩, ⟨d, old, rfl, h4, h5, _⟩, ⟨e, rem, rfl, h7, h8, h9⟩⟩ := h
    cases hv
    exact ⟨⟨hp, old, rem⟩, ⟨a, b, c, d, e, rfl, h1, h2, h3, h4, h7⟩, ⟨hl, h5, h8⟩, hw, h9⟩
end Go.Ab
