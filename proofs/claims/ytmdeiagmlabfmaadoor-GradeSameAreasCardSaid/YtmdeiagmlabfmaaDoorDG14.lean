/- Chapter 21: moves of edges, exact at their ends. -/
import Derived.Test.YtmdeiagmlabfmaaDoorDG12
set_option linter.unusedVariables false
set_option linter.unusedSimpArgs false
set_option linter.unusedSectionVars false

section
namespace Go.Ab
open Go.Proofs
set_option maxRecDepth 10000
set_option linter.unusedVariables false

theorem gE_at {p : Piece} {m : Int} {i : Nat} (hi : i < p.edges.length) : gE p m i = ⟨p.edges[i].name, alongL p.edges[i].line (mv m (vx p.corners i)) (mv m (vx p.corners (i + 1)))⟩ := by simp [gE, hi]
theorem gradedL_at {p : Piece} {m : Int} {i : Nat} (hi : i < p.edges.length) : (gradedL p m)[i]'(by rw [gradedL_len]; exact hi) = gE p m i := by simp [gradedL]
theorem gerr_inv {p : Piece} {m : Int} (h : gerr p m = 0) : (-100 ≤ m ∧ m ≤ 100) ∧ p.corners.length = p.edges.length ∧ p.corners.all shifted = true ∧ ocheck p.edges = 0 ∧ ocheck (gradedL p m) = 0 := by
  unfold gerr at h
  split at h
  · cases h
  · split at h
    · cases h
    · split at h
      · cases h
      · rename_i h3
        split at h
        · contradiction
        · rename_i h4
          exact ⟨by omega, by omega, by simpa using h3, by omega, h⟩
theorem gerr_to {p : Piece} {m : Int} (h1 : -100 ≤ m ∧ m ≤ 100) (h2 : p.corners.length = p.edges.length) (h3 : p.corners.all shifted = true) (h4 : ocheck p.edges = 0) : gerr p m = ocheck (gradedL p m) := by
  rw [gerr, if_neg (by omega), if_neg (by omega), if_neg (by simp [h3]), if_neg (by omega)]
end Go.Ab
end
