/- Chapter 22: the closed call. -/
import Derived.Test.YtjbodjmkfklleaaDoorEX
set_option linter.unusedVariables false
set_option linter.unusedSimpArgs false
set_option linter.unusedSectionVars false

namespace Go.Ab
open Go.Proofs
set_option maxRecDepth 1000000
theorem ret_alive : Ret Tryd.prog XS 12 [] (.sc (.bool true)) := exF_sound (n := 600) (k := 60) extS_sound pOk (by kernel_rfl)
end Go.Ab
