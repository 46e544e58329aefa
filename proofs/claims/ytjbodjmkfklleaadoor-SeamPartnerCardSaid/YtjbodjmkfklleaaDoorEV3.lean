/- Congruent lists. -/
import Derived.Test.YtjbodjmkfklleaaDoorEV2
import Derived.Test.YtjbodjmkfklleaaDoorET3
set_option linter.unusedVariables false
set_option linter.unusedSimpArgs false
set_option linter.unusedSectionVars false

