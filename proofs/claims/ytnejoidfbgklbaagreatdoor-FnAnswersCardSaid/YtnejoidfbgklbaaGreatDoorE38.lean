/- The engine, part 38: rows whose laws want the library's own numbers to be numbers. -/
import Derived.Test.YtnejoidfbgklbaaGreatDoorER
import Derived.Handed
import Derived.Shelf.Vars
namespace Go.Proofs.YtnejoidfbgklbaaGreatDoor.Eng
open Go
set_option linter.unusedVariables false
variable {H : Type} {enc : TypeId × Value → H}
end Go.Proofs.YtnejoidfbgklbaaGreatDoor.Eng
