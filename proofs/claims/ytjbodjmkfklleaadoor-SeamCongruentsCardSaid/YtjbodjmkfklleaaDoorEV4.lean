/- The laws SeamPartners, SeamCongruents, SeamMoves, SeamPartner. -/
import Derived.Test.YtjbodjmkfklleaaDoorEV3
import Derived.Test.YtjbodjmkfklleaaDoorEEx2
import Derived.Test.YtjbodjmkfklleaaDoorELMovesW
set_option linter.unusedVariables false
set_option linter.unusedSimpArgs false
set_option linter.unusedSectionVars false

namespace Go.Ab
open Go.Proofs
set_option maxRecDepth 10000
set_option linter.unusedVariables false

theorem law_congruents (a b : List Spot) (ha : ∀ p, p ∈ a → Wd p) (hb : ∀ p, p ∈ b → Wd p) : Ret Tryd.prog XS 4 [.sl 2 (a.map cSpot), .sl 2 (b.map cSpot)] (boo true) :=
  garmentlaw22_SeamCongruents_W a b true ⟨fun _ => ⟨_, ret_alive, rfl⟩, fun h1 => ⟨fun _ => ⟨_, ret_alive, rfl⟩, fun h2 => ⟨_, _, _, ret_congruent a b (by omega), _, _, _, ret_rcongruent a b (by omega) ha hb, fun _ => ⟨fun _ => ⟨fun _ => ⟨_, ret_alive, rfl⟩, fun h => absurd rfl h⟩, fun h => absurd rfl h⟩, fun h => absurd rfl h⟩⟩⟩
end Go.Ab
