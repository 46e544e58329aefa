/- Chapter 21: closed calls. -/
import Derived.Test.YtjbodjmkfklleaaDoorEX
set_option linter.unusedVariables false
set_option linter.unusedSimpArgs false
set_option linter.unusedSectionVars false

namespace Go.Ab
open Go.Proofs
set_option maxRecDepth 100000
theorem ex65 : exF Tryd.prog extS 300 20 65 [.agg [.sc (.bool false), .sl 1 [], .sl 1 []]] = some (.sc (.bool true)) := by kernel_rfl
end Go.Ab
