/- Grading commutes with turning. -/
import Derived.Test.YtmdeiagmlabfmaaDoorDT5
import Derived.Test.YtmdeiagmlabfmaaDoorDG15
set_option linter.unusedVariables false
set_option linter.unusedSimpArgs false
set_option linter.unusedSectionVars false
