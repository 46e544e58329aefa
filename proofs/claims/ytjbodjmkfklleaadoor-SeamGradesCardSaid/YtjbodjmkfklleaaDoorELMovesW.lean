/- A part of the proof. Conditions: those of each theorem. -/
import Derived.Test.YtjbodjmkfklleaaDoorETy
import Derived.Test.YtjbodjmkfklleaaDoorEWall
set_option linter.unusedVariables false
set_option linter.unusedSimpArgs false
set_option linter.unusedSectionVars false
