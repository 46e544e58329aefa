/- Congruent lists. -/
import Derived.Test.YtjbodjmkfklleaaDoorEV2
import Derived.Test.YtjbodjmkfklleaaDoorET3
set_option linter.unusedVariables false
set_option linter.unusedSimpArgs false
set_option linter.unusedSectionVars false

namespace Go.Ab
open Go.Proofs
set_option maxRecDepth 10000
set_option linter.unusedVariables false

/-- One more quarter. -/
def rot (s : Spot) : Spot := ⟨ng s.y, s.x⟩
end Go.Ab
