/- Grading commutes with turning. -/
import Derived.Test.YtjbodjmkfklleaaDoorET5
import Derived.Test.YtjbodjmkfklleaaDoorEG15
set_option linter.unusedVariables false
set_option linter.unusedSimpArgs false
set_option linter.unusedSectionVars false

section
namespace Go.Ab
open Go.Proofs
set_option maxRecDepth 10000
set_option linter.unusedVariables false

theorem find_at {l : List Int} {i : Nat} (hi : i < l.length) (h0 : ∀ j, (hj : j < i) → l[j] = 0) (h : l[i] ≠ 0) : (l.find? fun e => decide (e ≠ 0)).getD 0 = l[i] := by
  have : l.find? (fun e => decide (e ≠ 0)) = some l[i] := by
    rw [List.find?_eq_some_iff_getElem]
    exact ⟨by simpa using h, i, hi, rfl, fun j hj => by simp [h0 j hj]⟩
  rw [this]; rfl
theorem find_none {l : List Int} : (l.find? fun e => decide (e ≠ 0)).getD 0 = 0 ↔ ∀ x, x ∈ l → x = 0 := by
  constructor
  · intro h x hx
    apply Classical.byContradiction
    intro hne
    cases hf : l.find? (fun e => decide (e ≠ 0)) with
    | none => rw [List.find?_eq_none] at hf; exact hf x hx (by simpa using hne)
    | some y => have := List.find?_some hf; rw [hf] at h; simp at this h; exact this h
  · intro h
    have : l.find? (fun e => decide (e ≠ 0)) = none := by rw [List.find?_eq_none]; intro x hx; simp [h x hx]
    rw [this]; rfl
end Go.Ab
end
