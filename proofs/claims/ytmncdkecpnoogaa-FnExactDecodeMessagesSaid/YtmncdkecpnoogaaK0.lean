/- What becomes of results, and which functions work on their caller's blocks. -/
import Derived.Test.YtmncdkecpnoogaaM
import Derived.Test.YtmncdkecpnoogaaER
namespace Go.Proofs.Ytmncdkecpnoogaa
open Go Go.RowKit Go.Proofs.Ytmncdkecpnoogaa.Eng
set_option linter.unusedSimpArgs false
set_option linter.unusedVariables false
set_option maxRecDepth 100000
noncomputable section
def raw0 (f : Nat) : Bool := f == 18 || f == 66 || f == 19 || f == 132 || f == 79 || f == 73 || f == 75 || f == 74 || f == 112 || f == 72 || f == 68 || f == 76 || f == 78
def pol0 (f b : Nat) : Nat := if f = 4 then (if b = 17 then 1 else if b = 19 then 1 else 0) else if f = 71 then (if b = 22 then 1 else if b = 30 then 1 else if b = 49 then 1 else if b = 62 then 1 else 0) else if f = 64 then (if b = 90 then 1 else 0) else if f = 15 then (if b = 54 then 1 else 0) else 0
def cfg0 : Cfg := ⟨pol0, raw0, fun _ => none, fun _ => false, fun _ => false⟩
theorem prim0 : PrimOk Try.prog cfg0 := primOk_none
end
end Go.Proofs.Ytmncdkecpnoogaa
