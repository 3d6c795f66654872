/- The engine, part 0: the blocks of the library's tables that the program reads, and what lies in them. -/
import Derived.Below
import Derived.Lib.ItoaNum
namespace Go.Proofs.YtakbbccdnkigpaaGreatDoor.Eng
open Go
/-- Block g, where it is this object, has a number in its first cell. -/
def isIntAt (g : Nat) (o : Obj) : Prop := ∃ z, ∀ w : World, w.heap[g]? = some o → w.cell? ⟨g, 0, none⟩ = some (.int .i64 z)
def isErr (o : Obj) : Prop := ∃ u p t z, o = .cells #[.iface u p] t z
def isPow (o : Obj) : Prop := ∃ t z, o = .cells (Lib.pow10Tab.map fun z => Value.int .u64 z).toArray t z
def tabs : List (Nat × (Obj → Prop)) := [(0, isIntAt 0), (1, isErr), (2, isErr), (3, isPow)]
end Go.Proofs.YtakbbccdnkigpaaGreatDoor.Eng
