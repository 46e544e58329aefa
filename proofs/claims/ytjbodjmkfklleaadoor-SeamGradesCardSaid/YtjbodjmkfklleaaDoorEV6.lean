/- Chapter 22: the lengths of a seam's sides, the seams that don't fit; the laws SeamSides and SeamEase. -/
import Derived.Test.YtjbodjmkfklleaaDoorEV4
import Derived.Test.YtjbodjmkfklleaaDoorET8
import Derived.Test.YtjbodjmkfklleaaDoorEG15
import Derived.Test.YtjbodjmkfklleaaDoorELEaseW
set_option linter.unusedVariables false
set_option linter.unusedSimpArgs false
set_option linter.unusedSectionVars false

