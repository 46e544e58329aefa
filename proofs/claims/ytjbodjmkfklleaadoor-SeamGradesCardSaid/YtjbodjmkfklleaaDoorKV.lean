/- Knuth's division of two words by one, as math/bits.Div64 does it: plain arithmetic. -/
import Derived.Test.YtjbodjmkfklleaaDoorAbW2
set_option linter.unusedVariables false
set_option linter.unusedSimpArgs false
set_option linter.unusedSectionVars false

namespace Go.Ab
set_option linter.unusedVariables false

/-- One digit: what the loop keeps. -/
structure Digit (y1 y0 u u1 q r : Int) : Prop where
  r0 : 0 ≤ r
  r1 : r < 4294967296
  q0 : 0 ≤ q
  q1 : q ≤ 8589934592
  eu : u = q * y1 + r
  up : u * 4294967296 + u1 < (q + 1) * (y1 * 4294967296 + y0)
end Go.Ab
