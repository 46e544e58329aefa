/- Grading commutes with turning. -/
import Derived.Test.YtmdeiagmlabfmaaGreatDoorZT5
import Derived.Test.YtmdeiagmlabfmaaGreatDoorZG15
set_option linter.unusedVariables false
set_option linter.unusedSimpArgs false
set_option linter.unusedSectionVars false
