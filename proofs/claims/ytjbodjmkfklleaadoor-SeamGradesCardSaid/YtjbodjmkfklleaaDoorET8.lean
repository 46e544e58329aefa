/- Grading commutes with turning. -/
import Derived.Test.YtjbodjmkfklleaaDoorET5
import Derived.Test.YtjbodjmkfklleaaDoorEG15
set_option linter.unusedVariables false
set_option linter.unusedSimpArgs false
set_option linter.unusedSectionVars false

section
namespace Go.Ab
open Go.Proofs
set_option maxRecDepth 10000
set_option linter.unusedVariables false

theorem along_map {φ : Spot → Spot} {σ : Int} (k : Iso φ σ) (l : List Spot) (a b : Spot) : alongL (l.map φ) (φ a) (φ b) = (alongL l a b).map φ := by
  refine List.ext_getElem (by simp [alongL_len]) fun i h1 h2 => ?_
  rw [alongL_len, List.length_map] at h1
  have e := k.add l[i] ⟨sh l.length i a.x b.x, sh l.length i a.y b.y⟩
  rw [k.shl] at e
  simp only [alongL, List.getElem_map, List.getElem_range, alongAt, List.length_map, List.getElem?_map, List.getElem?_eq_getElem h1, Option.map_some, Option.getD_some]
  exact e.symm
theorem shifted_mild {c : Spot} (h : shifted c = true) : Mild c := by
  simp only [shifted, small, Bool.and_eq_true, decide_eq_true_eq] at h
  exact ⟨⟨by omega, by omega⟩, by omega, by omega⟩
theorem mv_lin (t : Turn) (m : Int) (c : Spot) : mv m (lin t c) = lin t (mv m c) := ((iso_lin t).mul m c).symm
end Go.Ab
end

section
namespace Go.Ab
open Go.Proofs
set_option maxRecDepth 10000
set_option linter.unusedVariables false

def sumN (f : Nat → Int) : Nat → Int
  | 0 => 0
  | n + 1 => sumN f n + f n
theorem sumN_congr {f g : Nat → Int} : ∀ {n : Nat}, (∀ i, i < n → f i = g i) → sumN f n = sumN g n
  | 0, _ => rfl
  | n + 1, h => by rw [sumN, sumN, sumN_congr fun i hi => h i (by omega), h n (by omega)]
end Go.Ab
end
