/- A small law of texts. -/
import Derived.Test.YtakbbccdnkigpaaGreatDoorHA
namespace Go.Proofs.YtakbbccdnkigpaaGreatDoor
open Go Go.RowKit Go.Proofs.YtakbbccdnkigpaaGreatDoor.Eng
noncomputable section
theorem extract_list (a : ByteArray) (l h : Nat) : (a.extract l h).data.toList = (a.data.toList.drop l).take (h - l) := by
  rw [ByteArray.data_extract, Array.toList_extract]
end
end Go.Proofs.YtakbbccdnkigpaaGreatDoor
