/- math/bits: products and quotients of two words. -/
import Derived.Test.YtjbodjmkfklleaaDoorEWall
import Derived.Test.YtjbodjmkfklleaaDoorKV
set_option linter.unusedVariables false
set_option linter.unusedSimpArgs false
set_option linter.unusedSectionVars false

section
namespace Go.Ab
open Go.Proofs
set_option maxRecDepth 100000
set_option linter.unusedVariables false

/-- The number of bits. -/
structure LenOf (x n : Int) : Prop where
  n0 : 0 ≤ n
  n64 : n ≤ 64
  zero : x = 0 → n = 0
  pos : 0 < x → 1 ≤ n ∧ 2 ^ (n.toNat - 1) ≤ x ∧ x < 2 ^ n.toNat
end Go.Ab
end

section
namespace Go.Ab
open Go.Proofs
set_option maxRecDepth 10000
set_option linter.unusedVariables false

def parBad (fr to at_ : Int) : Prop := fr < 1 ∨ 1099511627776 < fr ∨ to < 0 ∨ 1099511627776 < to ∨ at_ < 0 ∨ fr < at_
instance (fr to at_ : Int) : Decidable (parBad fr to at_) := by unfold parBad; infer_instance
end Go.Ab
end
