/- Chapter 21: closed calls. -/
import Derived.Test.YtmdeiagmlabfmaaDoorDX
set_option linter.unusedVariables false
set_option linter.unusedSimpArgs false
set_option linter.unusedSectionVars false

namespace Go.Ab
open Go.Proofs
set_option maxRecDepth 100000
theorem ex62 : exF Tryd.prog extS 300 20 62 [.agg [.sc (.bool false), .sl 1 [], .sl 1 []]] = some (.sc (.bool true)) := by kernel_rfl
theorem ret_example : Ret Tryd.prog XS 10 [] (.sc (.bool true)) := exF_sound (n := 300) (k := 40) extS_sound pOk (by kernel_rfl)
end Go.Ab
