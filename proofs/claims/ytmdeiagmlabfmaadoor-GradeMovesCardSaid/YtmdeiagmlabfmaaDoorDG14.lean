/- Chapter 21: moves of edges, exact at their ends. -/
import Derived.Test.YtmdeiagmlabfmaaDoorDG12
set_option linter.unusedVariables false
set_option linter.unusedSimpArgs false
set_option linter.unusedSectionVars false

section
namespace Go.Ab
open Go.Proofs
set_option maxRecDepth 10000
set_option linter.unusedVariables false

/-- A share of a multiple is exact. -/
theorem shr_mul {n s : Int} (hs : 0 < s) : shr (s * n) s = n := by
  have key : ∀ k : Int, 0 ≤ k → (2 * (s * k) + s).tdiv (2 * s) = k := by
    intro k hk
    have h0 : 0 ≤ s * k := Int.mul_nonneg (by omega) hk
    rw [Int.tdiv_eq_ediv_of_nonneg (by omega), show 2 * (s * k) + s = s + (2 * s) * k by rw [Int.mul_assoc]; omega, Int.add_mul_ediv_left _ _ (by omega), Int.ediv_eq_zero_of_lt (by omega) (by omega), Int.zero_add]
  unfold shr
  split
  · rename_i h
    have hn : n < 0 := by
      apply Classical.byContradiction; intro hc
      have := Int.mul_nonneg (show 0 ≤ s by omega) (show 0 ≤ n by omega); omega
    rw [show -(s * n) = s * (-n) by rw [Int.mul_neg], key (-n) (by omega)]; omega
  · rename_i h
    refine key n ?_
    apply Classical.byContradiction; intro hc
    have := Int.mul_pos hs (show 0 < -n by omega)
    rw [Int.mul_neg] at this; omega
end Go.Ab
end

section
namespace Go.Ab
open Go.Proofs
set_option maxRecDepth 10000
set_option linter.unusedVariables false

theorem gE_at {p : Piece} {m : Int} {i : Nat} (hi : i < p.edges.length) : gE p m i = ⟨p.edges[i].name, alongL p.edges[i].line (mv m (vx p.corners i)) (mv m (vx p.corners (i + 1)))⟩ := by simp [gE, hi]
theorem gradedL_at {p : Piece} {m : Int} {i : Nat} (hi : i < p.edges.length) : (gradedL p m)[i]'(by rw [gradedL_len]; exact hi) = gE p m i := by simp [gradedL]
theorem gerr_inv {p : Piece} {m : Int} (h : gerr p m = 0) : (-100 ≤ m ∧ m ≤ 100) ∧ p.corners.length = p.edges.length ∧ p.corners.all shifted = true ∧ ocheck p.edges = 0 ∧ ocheck (gradedL p m) = 0 := by
  unfold gerr at h
  split at h
  · cases h
  · split at h
    · cases h
    · split at h
      · cases h
      · rename_i h3
        split at h
        · contradiction
        · rename_i h4
          exact ⟨by omega, by omega, by simpa using h3, by omega, h⟩
theorem gerr_to {p : Piece} {m : Int} (h1 : -100 ≤ m ∧ m ≤ 100) (h2 : p.corners.length = p.edges.length) (h3 : p.corners.all shifted = true) (h4 : ocheck p.edges = 0) : gerr p m = ocheck (gradedL p m) := by
  rw [gerr, if_neg (by omega), if_neg (by omega), if_neg (by simp [h3]), if_neg (by omega)]
end Go.Ab
end
