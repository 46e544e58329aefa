/- Chapter 21: names. -/
import Derived.Test.YtjbodjmkfklleaaDoorEEx
import Derived.Test.YtjbodjmkfklleaaDoorEWall
set_option linter.unusedVariables false
set_option linter.unusedSimpArgs false
set_option linter.unusedSectionVars false
