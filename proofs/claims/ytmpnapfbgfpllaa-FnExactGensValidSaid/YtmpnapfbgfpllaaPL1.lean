/-
  What is proved here: the models of the laws FnExactGensSame and FnExactGensValid return true. Conditions: the arguments' lengths are those of slices.
-/
import Derived.Test.YtmpnapfbgfpllaaP2
namespace Go.Ab
set_option linter.unusedVariables false
set_option linter.unusedSimpArgs false

theorem law_FnExactGensSame {p q r s p' q' r' s' : List Int} {o o' : List Bool} (hp : p.length ≤ maxLen) (hq : q.length ≤ maxLen) (hr : r.length ≤ maxLen) (ho : o.length ≤ maxLen) (hs : s.length ≤ maxLen)
    (hp' : p'.length ≤ maxLen) (hq' : q'.length ≤ maxLen) (hr' : r'.length ≤ maxLen) (ho' : o'.length ≤ maxLen) (hs' : s'.length ≤ maxLen) {K : Bool → Prop} (hK : K true) : Ml_FnExactGensSame p q r o s p' q' r' o' s' K := by
  unfold Ml_FnExactGensSame
  refine L_szGens (by decide) (by decide) hp hq hr ho hs (szStop hK) fun y a1 b1 c1 c2 c3 c4 c5 => szStep a1 ?_
  refine L_szGens a1 (by omega) hp' hq' hr' ho' hs' (szStop hK) fun z a2 b2 c1' c2' c3' c4' c5' => szStep a2 ?_
  refine L_toGens c1 c2 c3 c4 c5 (L_toGens c1' c2' c3' c4' c5' (L_sGensSame (by omega) (by omega) (by omega) (by omega) (by omega) (L_toGens c1 c2 c3 c4 c5 (L_toGens c1' c2' c3' c4' c5' (L_iGensSame (by omega) (by omega) (by omega) (by omega) (by omega) ?_)))))
  refine step_t (by simp) (L_toGens c1 c2 c3 c4 c5 (L_eqGens_same (by omega) (by omega) (by omega) (by omega) (by omega) (step_t rfl (L_toGens c1' c2' c3' c4' c5' (L_eqGens_same (by omega) (by omega) (by omega) (by omega) (by omega) (step_t rfl hK))))))
theorem law_FnExactGensValid {p q r s : List Int} {o : List Bool} (hp : p.length ≤ maxLen) (hq : q.length ≤ maxLen) (hr : r.length ≤ maxLen) (ho : o.length ≤ maxLen) (hs : s.length ≤ maxLen) {K : Bool → Prop} (hK : K true) : Ml_FnExactGensValid p q r o s K := by
  unfold Ml_FnExactGensValid
  refine L_szGens (by decide) (by decide) hp hq hr ho hs (szStop hK) fun y a1 b1 c1 c2 c3 c4 c5 => szStep a1 ?_
  refine L_toGens c1 c2 c3 c4 c5 (L_sGensValid (by omega) (L_toGens c1 c2 c3 c4 c5 (L_iGensValid (by omega) ?_)))
  exact step_t (by simp) (L_toGens c1 c2 c3 c4 c5 (L_eqGens_same (by omega) (by omega) (by omega) (by omega) (by omega) (step_t rfl hK)))
end Go.Ab
