/- The laws SeamPartners, SeamCongruents, SeamMoves, SeamPartner. -/
import Derived.Test.YtjbodjmkfklleaaDoorEV3
import Derived.Test.YtjbodjmkfklleaaDoorEEx2
import Derived.Test.YtjbodjmkfklleaaDoorELMovesW
set_option linter.unusedVariables false
set_option linter.unusedSimpArgs false
set_option linter.unusedSectionVars false

