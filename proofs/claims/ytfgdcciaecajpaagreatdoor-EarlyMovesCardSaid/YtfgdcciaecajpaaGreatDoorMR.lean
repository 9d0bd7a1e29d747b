/- Closed runs: calls that answer a scalar, at what the heap holds, however nested. No condition. -/
import Derived.Test.YtfgdcciaecajpaaGreatDoorMQ
namespace Go.Proofs.YtfgdcciaecajpaaGreatDoor
set_option linter.unusedSimpArgs false
set_option linter.unusedVariables false
open Go Go.RowKit
end Go.Proofs.YtfgdcciaecajpaaGreatDoor