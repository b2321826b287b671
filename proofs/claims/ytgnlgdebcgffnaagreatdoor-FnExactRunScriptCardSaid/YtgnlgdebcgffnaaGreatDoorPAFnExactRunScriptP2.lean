/- What is proved here: the plain laws that the law FnExactRunScript needs: what its functions compute, and that its model returns true. Conditions: those written in each statement. -/
import Derived.Test.YtgnlgdebcgffnaaGreatDoorPAFnExactRunScriptP1
namespace Go.Ab
set_option linter.unusedVariables false
set_option linter.unusedSimpArgs false
theorem pk {text:aV} {K:Bool→Prop} (hK:K true):f9 text K:=
 br (fun _=>hK) fun _=>wk (o5 (ak (by simp) hK))
end Go.Ab
