/- What becomes of results, which functions work on their caller's blocks, and the laws from elsewhere. -/
import Derived.Test.YtmncdkecpnoogaaDoorM
import Derived.Test.YtmncdkecpnoogaaDoorE30
import Derived.Test.YtmncdkecpnoogaaDoorSh
import Derived.Lib.LaidTab
namespace Go.Proofs.YtmncdkecpnoogaaDoor
open Go Go.RowKit Go.Proofs.YtmncdkecpnoogaaDoor.Eng Go.Shelf
set_option linter.unusedSimpArgs false
set_option linter.unusedVariables false
set_option maxRecDepth 100000
noncomputable section
def raw0 (f : Nat) : Bool := f == 72 || f == 37 || f == 47 || f == 16
def pol0 (f b : Nat) : Nat := 0
def prim0F (f : Nat) : Option (List AV → Option (AV × Bool)) :=
  if f = 55 then some itoaG else if f = 77 then some fmtG else none
def cfg0 : Cfg := ⟨pol0, raw0, prim0F, fun _ => false, fun _ => false⟩
/-- The table's name, as the given rows have it. -/
def powN : String := ((Rows.fnExactClaimTextRow.laid[2]?).map (·.1)).getD ""
theorem gPow : Tryd.prog.globalNamed powN = some 2 := by kernel_rfl
theorem tab_pow {base : Nat} {w : World} (T : Tab base w) : Lib.TabIs Tryd.prog w powN .u64 Lib.pow10Tab := by
  obtain ⟨-, o, h, t, z, rfl⟩ := T (2, isPow) (by simp [tabs])
  show World.var? Tryd.prog w powN = _
  simp only [World.var?, gPow, Option.bind_some, h]
theorem law_Itoa (n : Int) (w : World) (hn : i64B n) (T : Tab w.heap.size w) : Calls Tryd.prog 55 #[.int .i64 n] w fun e w' => e = .returned (.string ⟨(Lib.itoa n).toArray⟩) ∧ ∃ k os, w' = Go.Sort.grow (w.drewN k) os :=
  Any.strconv_Itoa sh171 n hn.1 hn.2 w (tab_pow T)
theorem law_FormatInt (n : Int) (w : World) (hn : i64B n) (T : Tab w.heap.size w) : Calls Tryd.prog 77 #[.int .i64 n, .int .i64 10] w fun e w' => e = .returned (.string ⟨(Lib.itoa n).toArray⟩) ∧ ∃ k os, w' = Go.Sort.grow (w.drewN k) os :=
  Any.strconv_FormatInt_10 sh173 n hn.1 hn.2 w (tab_pow T)
theorem prim0 : PrimOk Tryd.prog cfg0 := by
  intro f g hg ts v cl h ρ F w vals I hl hv
  refine ⟨?_, fun h => by cases h⟩
  have hg : prim0F f = some g := hg
  unfold prim0F at hg
  split at hg
  · rename_i hf; subst hf
    obtain rfl := Option.some.inj hg
    exact itoa_ok law_Itoa h I hl hv
  split at hg
  · rename_i hf; subst hf
    obtain rfl := Option.some.inj hg
    exact fmt_ok law_FormatInt h I hl hv
  · simp at hg
theorem c_Itoa (n : Int) (hn : i64B n) : ∀ H, call Tryd.prog cfg0 0 55 [.v (.int .i64 n)] H = some (itoaT n, H) := fun H => by
  rw [call_prim Tryd.prog cfg0 Tryd.func55 (g := itoaG) rfl (by kernel_rfl) rfl (by omega)]
  rw [show [AV.v (.int .i64 n)].mapM (deep H depthD) = some [.v (.int .i64 n)] from rfl]
  simp only [Option.bind_some, itoaG, if_pos hn, pureAt, Bool.true_or, if_true]
theorem c_FormatInt (n : Int) (hn : i64B n) : ∀ H, call Tryd.prog cfg0 0 77 [.v (.int .i64 n), .v (.int .i64 10)] H = some (itoaT n, H) := fun H => by
  rw [call_prim Tryd.prog cfg0 Tryd.func77 (g := fmtG) rfl (by kernel_rfl) rfl (by omega)]
  rw [show [AV.v (.int .i64 n), AV.v (.int .i64 10)].mapM (deep H depthD) = some [.v (.int .i64 n), .v (.int .i64 10)] from rfl]
  simp only [Option.bind_some, fmtG, if_pos hn, pureAt, Bool.true_or, if_true]
end
end Go.Proofs.YtmncdkecpnoogaaDoor
