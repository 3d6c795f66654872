/- The engine, part 0: the blocks of the library's tables that the program reads, and what lies in them. -/
import Derived.Below
import Derived.Lib.ItoaNum
namespace Go.Proofs.YtnejoidfbgklbaaGreatDoor.Eng
open Go
def isErr (o : Obj) : Prop := ∃ u p t z, o = .cells #[.iface u p] t z
def isPow (o : Obj) : Prop := ∃ t z, o = .cells (Lib.pow10Tab.map fun z => Value.int .u64 z).toArray t z
def tabs : List (Nat × (Obj → Prop)) := [(0, isErr), (1, isErr), (2, isPow)]
end Go.Proofs.YtnejoidfbgklbaaGreatDoor.Eng
