/- The laws SeamPartners, SeamCongruents, SeamMoves, SeamPartner. -/
import Derived.Test.YtjbodjmkfklleaaDoorEV3
import Derived.Test.YtjbodjmkfklleaaDoorEEx2
import Derived.Test.YtjbodjmkfklleaaDoorELMovesW
set_option linter.unusedVariables false
set_option linter.unusedSimpArgs false
set_option linter.unusedSectionVars false

namespace Go.Ab
open Go.Proofs
set_option maxRecDepth 10000
set_option linter.unusedVariables false

theorem con_of_fit {a b : List Spot} {i : Nat} (h0 : a.length ≠ 0) (hl : a.length = b.length) (hi : i < 8) (h : fitB a b i = true) : ∃ j, conI a b = some j ∧ j < 8 ∧ fitB a b j = true := by
  cases hc : conI a b with
  | none =>
    rw [conI, if_neg (by omega), List.find?_eq_none] at hc
    exact absurd h (hc i (List.mem_range.2 hi))
  | some j =>
    rw [conI, if_neg (by omega), List.find?_range_eq_some] at hc
    exact ⟨j, rfl, by simpa using hc.2.1, hc.1⟩
theorem ai_map {a : List Spot} {f : Spot → Spot} {k : Nat} (hk : k < a.length) : ai (a.map f) (k : Int) = f (ai a (k : Int)) := by
  rw [ai_get rfl (show k < (a.map f).length by simpa using hk), ai_get rfl hk]; simp
end Go.Ab
