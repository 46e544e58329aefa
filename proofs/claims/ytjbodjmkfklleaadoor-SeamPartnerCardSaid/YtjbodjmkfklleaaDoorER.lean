/- A part of the proof. Conditions: those of each theorem. -/
import Derived.Test.YtjbodjmkfklleaaDoorEX
import Derived.Test.YtjbodjmkfklleaaDoorAbW2
set_option linter.unusedVariables false
set_option linter.unusedSimpArgs false
set_option linter.unusedSectionVars false

namespace Go.Ab
open Go.Proofs
set_option maxRecDepth 10000
set_option maxHeartbeats 4000000
set_option linter.unusedSimpArgs false

/-- The square root, rounded down. -/
def isqF : Nat → Nat → Nat
  | 0, _ => 0
  | k + 1, n => if (2 * isqF k (n / 4) + 1) * (2 * isqF k (n / 4) + 1) ≤ n then 2 * isqF k (n / 4) + 1 else 2 * isqF k (n / 4)
def isq (n : Int) : Int := isqF 32 n.toNat
@[simp] theorem ti3 : tint Tryd.prog 3 = some .i64 := by kernel_rfl
@[simp] theorem ti103 : tint Tryd.prog 103 = none := by kernel_rfl
@[simp] theorem tf103 : tfloat Tryd.prog 103 = some .f64 := by kernel_rfl
end Go.Ab
