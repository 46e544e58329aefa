/- A part of the proof. Conditions: those of each theorem. -/
import Derived.Test.YtmdeiagmlabfmaaDoorDX
import Derived.Test.YtmdeiagmlabfmaaDoorAbW
set_option linter.unusedVariables false
set_option linter.unusedSimpArgs false
set_option linter.unusedSectionVars false

namespace Go.Ab
open Go.Proofs
set_option maxRecDepth 10000
set_option maxHeartbeats 4000000
set_option linter.unusedSimpArgs false

@[simp] theorem ti3 : tint Tryd.prog 3 = some .i64 := by kernel_rfl
@[simp] theorem ti98 : tint Tryd.prog 98 = none := by kernel_rfl
@[simp] theorem tf98 : tfloat Tryd.prog 98 = some .f64 := by kernel_rfl
end Go.Ab
