/- Chapter 21: moves of edges, exact at their ends. -/
import Derived.Test.YtjbodjmkfklleaaDoorEG12
import Derived.Test.YtjbodjmkfklleaaDoorEEx
set_option linter.unusedVariables false
set_option linter.unusedSimpArgs false
set_option linter.unusedSectionVars false

section
namespace Go.Ab
open Go.Proofs
set_option maxRecDepth 10000
set_option linter.unusedVariables false

theorem gE_at {p : Piece} {m : Int} {i : Nat} (hi : i < p.edges.length) : gE p m i = ⟨p.edges[i].name, alongL p.edges[i].line (mv m (vx p.corners i)) (mv m (vx p.corners (i + 1)))⟩ := by simp [gE, hi]
theorem gradedL_at {p : Piece} {m : Int} {i : Nat} (hi : i < p.edges.length) : (gradedL p m)[i]'(by rw [gradedL_len]; exact hi) = gE p m i := by simp [gradedL]
theorem gerr_inv {p : Piece} {m : Int} (h : gerr p m = 0) : (-100 ≤ m ∧ m ≤ 100) ∧ p.corners.length = p.edges.length ∧ p.corners.all shifted = true ∧ ocheck p.edges = 0 ∧ ocheck (gradedL p m) = 0 := by
  unfold gerr at h
  split at h
  · cases h
  · split at h
    · cases h
    · split at h
      · cases h
      · rename_i h3
        split at h
        · contradiction
        · rename_i h4
          exact ⟨by omega, by omega, by simpa using h3, by omega, h⟩
end Go.Ab
end

section
namespace Go.Ab
open Go.Proofs
set_option maxRecDepth 10000
set_option linter.unusedVariables false

theorem light_inv {p : Piece} {a : Int} (h : light p a = true) : p.edges.length ≤ 20 ∧ p.corners.length ≤ 20 ∧ p.widths.length ≤ 20 ∧ p.notches.length ≤ 20 ∧ ∀ e, e ∈ p.edges → (e.line.length : Int) ≤ a ∧ e.name.size ≤ 100 := by
  simp only [light, Bool.and_eq_true, decide_eq_true_eq, List.all_eq_true] at h
  obtain ⟨h1, h2, h3, h4, h5, _⟩ := h
  refine ⟨h1, h2, h3, h4, fun e he => ?_⟩
  have := h5 e he
  simpa only [okE, Bool.and_eq_true, decide_eq_true_eq] using this
theorem gres_eq {p : Piece} {m : Int} (h : gerr p m = 0) : gres p m = gradedL p m := by rw [gres, if_pos h]
end Go.Ab
end
