/- What becomes of results, and which functions work on their caller's blocks. -/
import Derived.Test.YtmncdkecpnoogaaM
import Derived.Test.YtmncdkecpnoogaaE32
namespace Go.Proofs.Ytmncdkecpnoogaa
open Go Go.RowKit Go.Proofs.Ytmncdkecpnoogaa.Eng
set_option linter.unusedSimpArgs false
set_option linter.unusedVariables false
set_option maxRecDepth 100000
noncomputable section
def raw0 (f : Nat) : Bool := f == 18 || f == 99 || f == 125 || f == 126 || f == 127 || f == 128 || f == 98 || f == 97 || f == 43 || f == 44
def pol0 (f b : Nat) : Nat := if f = 140 then (if b = 9 then 1 else 0) else if f = 152 then (if b = 9 then 1 else 0) else if f = 91 then (if b = 20 then 1 else 0) else if f = 39 then (if b = 6 then 1 else if b = 10 then 1 else if b = 14 then 1 else 0) else if f = 92 then (if b = 20 then 1 else 0) else if f = 142 then (if b = 20 then 1 else 0) else if f = 121 then (if b = 10 then 1 else if b = 14 then 1 else if b = 27 then 1 else if b = 31 then 1 else 0) else if f = 122 then (if b = 9 then 1 else 0) else if f = 55 then (if b = 9 then 1 else 0) else if f = 150 then (if b = 20 then 1 else 0) else if f = 6 then (if b = 23 then 1 else if b = 26 then 1 else 0) else if f = 7 then (if b = 20 then 1 else if b = 22 then 1 else 0) else 0
def cfg0 : Cfg := ⟨pol0, raw0, fun _ => none, fun _ => false, fun _ => false⟩
theorem prim0 : PrimOk Try.prog cfg0 := primOk_none
end
end Go.Proofs.Ytmncdkecpnoogaa
