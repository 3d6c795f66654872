/- The engine, part 0: the blocks of the library's tables that the program reads, and what lies in them: one cell with a number. -/
import Derived.Below
namespace Go.Proofs.YtlkoklhnodcipaaDoor.Eng
open Go
/-- Block g, where it is this object, has a number in its first cell. -/
def isIntAt (g : Nat) (o : Obj) : Prop := ∃ z, ∀ w : World, w.heap[g]? = some o → w.cell? ⟨g, 0, none⟩ = some (.int .i64 z)
def tabs : List (Nat × (Obj → Prop)) := [(0, isIntAt 0)]
end Go.Proofs.YtlkoklhnodcipaaDoor.Eng
