/- How the arguments of the laws are read. -/
import Derived.Test.YtjbodjmkfklleaaDoorAbRd
import Derived.Test.YtjbodjmkfklleaaDoorETy
set_option linter.unusedVariables false
set_option linter.unusedSimpArgs false
set_option linter.unusedSectionVars false

