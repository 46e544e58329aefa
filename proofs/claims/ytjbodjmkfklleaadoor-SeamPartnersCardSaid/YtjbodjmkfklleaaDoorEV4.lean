/- The laws SeamPartners, SeamCongruents, SeamMoves, SeamPartner. -/
import Derived.Test.YtjbodjmkfklleaaDoorEV3
import Derived.Test.YtjbodjmkfklleaaDoorEEx2
import Derived.Test.YtjbodjmkfklleaaDoorELMovesW
set_option linter.unusedVariables false
set_option linter.unusedSimpArgs false
set_option linter.unusedSectionVars false

namespace Go.Ab
open Go.Proofs
set_option maxRecDepth 10000
set_option linter.unusedVariables false

theorem law_partners (x : Garmentlaw22Places) : Ret Tryd.prog XS 3 [.agg [int x.from_, int x.to_, boo x.reverse, int x.at_]] (boo true) :=
  garmentlaw22_SeamPartners_W x true ⟨_, _, ret_partner _ _ _ _, _, _, ret_rpartner _ _ _ _, fun _ => ⟨fun _ => ⟨_, ret_alive, rfl⟩, fun h => absurd rfl h⟩, fun h => absurd rfl h⟩
end Go.Ab
