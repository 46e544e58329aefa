/- A part of the proof. Conditions: those of each theorem. -/
import Derived.Test.YtmdeiagmlabfmaaGreatDoorZX
import Derived.Test.YtmdeiagmlabfmaaGreatDoorAbW
set_option linter.unusedVariables false
set_option linter.unusedSimpArgs false
set_option linter.unusedSectionVars false

namespace Go.Ab
open Go.Proofs
set_option maxRecDepth 10000
set_option maxHeartbeats 4000000
set_option linter.unusedSimpArgs false

@[simp] theorem ti3 : tint Tryz.prog 3 = some .i64 := by kernel_rfl
@[simp] theorem ti102 : tint Tryz.prog 102 = none := by kernel_rfl
@[simp] theorem tf102 : tfloat Tryz.prog 102 = some .f64 := by kernel_rfl
end Go.Ab
