/- Chapter 21: moves of edges, exact at their ends. -/
import Derived.Test.YtmdeiagmlabfmaaDoorDG12
set_option linter.unusedVariables false
set_option linter.unusedSimpArgs false
set_option linter.unusedSectionVars false
