/- The library's contracts at this program, in plain words. -/
import Derived.Shelf.Bytes.IndexByte
import Derived.Test.YtmncdkecpnoogaaChecked
namespace Go.Proofs.Ytmncdkecpnoogaa
open Go Go.Shelf
def sh187_ren : Go.Shelf.Ren := ⟨fun | 187 => 58 | 255 => 104 | n => n, fun | 37 => 22 | 5 => 5 | 3 => 3 | n => n, fun | n => n⟩
theorem sh187 : Go.Proofs.Lays.n187 Try.prog sh187_ren := {
  mixed := by kernel_rfl
  f187 := Try.func58.trans (congrArg some (by kernel_rfl))
  f255 := Try.func104.trans (congrArg some (by kernel_rfl))
  t3 := Try.underlying3
  a3 := Try.isAgg3
  z3 := Try.sizeOf3
  v3 := Try.zeroValue3
  t5 := Try.underlying5
  a5 := Try.isAgg5
  z5 := Try.sizeOf5
  v5 := Try.zeroValue5
  t37 := Try.underlying22
  a37 := Try.isAgg22
  z37 := Try.sizeOf22
  v37 := Try.zeroValue22 }
end Go.Proofs.Ytmncdkecpnoogaa
