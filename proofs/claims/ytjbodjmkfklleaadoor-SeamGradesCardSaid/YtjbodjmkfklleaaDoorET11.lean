/- Turning twice. -/
import Derived.Test.YtjbodjmkfklleaaDoorET8
set_option linter.unusedVariables false
set_option linter.unusedSimpArgs false
set_option linter.unusedSectionVars false

namespace Go.Ab
open Go.Proofs
set_option maxRecDepth 10000
set_option linter.unusedVariables false

def segAt (l : List Spot) (i : Nat) : Int := seg (ai l (i : Int)) (ai l ((i : Int) + 1))
theorem total_sum {l : List Spot} (h : 0 < l.length) : total l = sumN (segAt l) (l.length - 1) := by
  have : ∀ k, sumTo l k = sumN (segAt l) k := fun k => by
    induction k with
    | zero => rfl
    | succ k ih => rw [sumTo, sumN, ih]; rfl
  unfold total upTo
  rw [show ((l.length : Int) - 1).toNat = l.length - 1 by omega, this]
theorem segAt_lt {l : List Spot} {i : Nat} (h : i + 1 < l.length) : segAt l i = seg l[i] l[i + 1] := by
  unfold segAt
  rw [ai_get rfl (show i < l.length by omega), ai_get (i := i + 1) (by omega) h]
theorem total_map {l : List Spot} {φ : Spot → Spot} {σ : Int} (k : Iso φ σ) (h : 0 < l.length) : total (l.map φ) = total l := by
  rw [total_sum (by simpa using h), total_sum h, List.length_map]
  refine sumN_congr fun i hi => ?_
  rw [segAt_lt (by simp; omega), segAt_lt (by omega)]
  simp only [List.getElem_map, seg, k.sq]
end Go.Ab
