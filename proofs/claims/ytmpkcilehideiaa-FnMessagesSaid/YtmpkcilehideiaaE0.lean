/- The engine, part 0: the blocks of the library's tables that the program reads, and what lies in them (none here). -/
import Derived.Below
namespace Go.Proofs.Ytmpkcilehideiaa.Eng
open Go
def tabs : List (Nat × (Obj → Prop)) := []
end Go.Proofs.Ytmpkcilehideiaa.Eng
