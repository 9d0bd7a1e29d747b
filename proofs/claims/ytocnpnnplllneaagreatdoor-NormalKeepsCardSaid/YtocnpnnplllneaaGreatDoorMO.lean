/- Attributes: the document's code. No condition. -/
import Derived.Test.YtocnpnnplllneaaGreatDoorMN
namespace Go.Proofs.YtocnpnnplllneaaGreatDoor
set_option linter.unusedSimpArgs false
set_option linter.unusedVariables false
open Go Go.RowKit
set_option maxRecDepth 100000
end Go.Proofs.YtocnpnnplllneaaGreatDoor