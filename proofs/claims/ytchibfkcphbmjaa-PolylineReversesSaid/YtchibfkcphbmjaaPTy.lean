/- A part of the proof. Conditions: those of each theorem. -/
import Derived.Test.YtchibfkcphbmjaaAbV
import Derived.Test.YtchibfkcphbmjaaPX
set_option linter.unusedVariables false
set_option linter.unusedSimpArgs false
set_option linter.unusedSectionVars false

namespace Go.Ab
open Go.Proofs
set_option maxRecDepth 100000
set_option linter.unusedVariables false
structure Spot where
  x : Int
  y : Int
  deriving DecidableEq, Inhabited
def cSpot (p : Spot) : List AV := [int p.x, int p.y]
theorem beq_Spot (p q : Spot) : ((p.x == q.x) && ((p.y == q.y) && true)) = decide (p = q) := by
  rcases p with ⟨_, _⟩; rcases q with ⟨_, _⟩; rw [Bool.eq_iff_iff]; simp
theorem sSpot_t {p q : Spot} (h : p = q) : ((p.x == q.x) && ((p.y == q.y) && true)) = true := by rw [beq_Spot]; exact decide_eq_true h
theorem sSpot_f {p q : Spot} (h : ¬ p = q) : ((p.x == q.x) && ((p.y == q.y) && true)) = false := by rw [beq_Spot]; exact decide_eq_false h
end Go.Ab
