/- Small laws that the texts of services want. -/
import Derived.Test.YtepnlhjafgomgaaDoorK0
namespace Go.Proofs.YtepnlhjafgomgaaDoor
open Go Go.RowKit Go.Proofs.YtepnlhjafgomgaaDoor.Eng
set_option linter.unusedSimpArgs false
set_option linter.unusedVariables false
noncomputable section
theorem aconv_int {P : Program} {a b : TypeId} {k k1 : IntKind} (h1 : P.underlying a = some (.int k1)) (h2 : P.underlying b = some (.int k)) (H : Hp) (k' : IntKind) (n : Int) : aconv P H a b (.v (.int k' n)) = some (.v (.int k (k.wrap n))) := by simp only [aconv, h1, h2]
theorem wrap8 (z : Int) : IntKind.wrap .u8 z = z % 256 := by simp [IntKind.wrap, IntKind.bits, IntKind.signed]
theorem get_text {l : List ByteArray} {j : Nat} {x : ByteArray} (h : l[j]? = some x) : (l.map fun s => [AV.v (.string s)])[j]? = some [.v (.string x)] := by rw [List.getElem?_map, h]; rfl
theorem wSt {P : Program} {cfg : Cfg} {fid : Nat} {c : Code} {e : Env} {H : Hp} {Q : AX → St → Prop} (R : Env → Hp → Prop) (hR : R e H) (h : ∀ e2 H2, R e2 H2 → Wp P cfg fid c (e2, H2) Q) : Wp P cfg fid c (e, H) Q := h e H hR
end
end Go.Proofs.YtepnlhjafgomgaaDoor
