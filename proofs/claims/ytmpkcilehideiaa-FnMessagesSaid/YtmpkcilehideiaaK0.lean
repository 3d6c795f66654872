/- What becomes of results, and which functions work on their caller's blocks. -/
import Derived.Test.YtmpkcilehideiaaM
import Derived.Test.YtmpkcilehideiaaER
namespace Go.Proofs.Ytmpkcilehideiaa
open Go Go.RowKit Go.Proofs.Ytmpkcilehideiaa.Eng
set_option linter.unusedSimpArgs false
set_option linter.unusedVariables false
set_option maxRecDepth 100000
noncomputable section
def raw0 (f : Nat) : Bool := f == 10 || f == 32 || f == 11 || f == 78 || f == 35 || f == 46 || f == 39 || f == 41 || f == 40 || f == 65 || f == 38 || f == 34 || f == 42 || f == 45
def pol0 (f b : Nat) : Nat := if f = 19 then (if b = 14 then 1 else if b = 29 then 3 else if b = 31 then 3 else if b = 35 then 3 else if b = 1000000 then 2 else 0) else if f = 47 then (if b = 9 then 1 else 0) else if f = 43 then (if b = 21 then 3 else if b = 27 then 3 else if b = 28 then 3 else if b = 47 then 3 else if b = 48 then 3 else if b = 55 then 3 else if b = 63 then 3 else if b = 64 then 3 else if b = 71 then 3 else if b = 78 then 3 else if b = 79 then 3 else if b = 84 then 3 else if b = 85 then 3 else if b = 92 then 3 else if b = 1000000 then 2 else 0) else if f = 42 then (if b = 17 then 2 else if b = 18 then 2 else if b = 1000000 then 2 else 0) else if f = 21 then (if b = 15 then 1 else 0) else if f = 20 then (if b = 16 then 1 else 0) else if f = 16 then (if b = 17 then 1 else 0) else if f = 29 then (if b = 65 then 1 else 0) else if f = 49 then (if b = 87 then 1 else 0) else if f = 3 then (if b = 17 then 1 else if b = 19 then 1 else 0) else if f = 37 then (if b = 22 then 1 else if b = 30 then 1 else if b = 49 then 1 else if b = 62 then 1 else 0) else if f = 30 then (if b = 90 then 1 else 0) else if f = 7 then (if b = 54 then 1 else 0) else 0
def cfg0 : Cfg := ⟨pol0, raw0, fun _ => none, fun _ => false, fun _ => false⟩
theorem prim0 : PrimOk Try.prog cfg0 := primOk_none
end
end Go.Proofs.Ytmpkcilehideiaa
