/- The square root of a float of a whole number from 0 on: it is a whole number from 0 on, in range. -/
import GoSem.Extern.MathSqrt
import GoSem.Conv.IntToFloat
set_option linter.unusedVariables false
set_option linter.unusedSimpArgs false
set_option linter.unusedSectionVars false

