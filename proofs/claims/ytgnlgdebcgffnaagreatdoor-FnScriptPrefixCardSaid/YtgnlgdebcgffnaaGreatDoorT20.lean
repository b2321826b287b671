/- What is proved here: contracts of the shelf's form that put other texts into a slice's cells (sorting; running together equal ones) are contracts of the typed layer. Conditions: those written in each statement. -/
import Derived.Test.YtgnlgdebcgffnaaGreatDoorT19
import Derived.Sort.Row
import Derived.Sort.Grow
namespace Go.Ab
set_option linter.unusedVariables false
open Go.RowKit Go.Sort
end Go.Ab
