/- A part of the proof. Conditions: those of each theorem. -/
import Derived.Test.YtjbodjmkfklleaaDoorEX
import Derived.Test.YtjbodjmkfklleaaDoorAbW2
set_option linter.unusedVariables false
set_option linter.unusedSimpArgs false
set_option linter.unusedSectionVars false

namespace Go.Ab
open Go.Proofs
set_option maxRecDepth 10000
set_option maxHeartbeats 4000000
set_option linter.unusedSimpArgs false

@[simp] theorem ti3 : tint Tryd.prog 3 = some .i64 := by kernel_rfl
@[simp] theorem ti103 : tint Tryd.prog 103 = none := by kernel_rfl
@[simp] theorem tf103 : tfloat Tryd.prog 103 = some .f64 := by kernel_rfl
end Go.Ab
