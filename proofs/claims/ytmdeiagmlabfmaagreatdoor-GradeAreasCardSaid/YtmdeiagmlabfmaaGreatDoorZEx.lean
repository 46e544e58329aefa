/- Chapter 21: closed calls. -/
import Derived.Test.YtmdeiagmlabfmaaGreatDoorZX
set_option linter.unusedVariables false
set_option linter.unusedSimpArgs false
set_option linter.unusedSectionVars false

namespace Go.Ab
open Go.Proofs
set_option maxRecDepth 100000
theorem ex76 : exF Tryz.prog extS 300 20 76 [.agg [.sc (.bool false), .sl 1 [], .sl 1 []]] = some (.sc (.bool true)) := by kernel_rfl
theorem ret_example : Ret Tryz.prog XS 6 [] (.sc (.bool true)) := exF_sound (n := 300) (k := 40) extS_sound pOk (by kernel_rfl)
end Go.Ab
