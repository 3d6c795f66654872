/- What becomes of results, which functions work on their caller's blocks, and the laws from elsewhere. -/
import Derived.Test.YtnejoidfbgklbaaGreatDoorM
import Derived.Test.YtnejoidfbgklbaaGreatDoorE39
import Derived.Test.YtnejoidfbgklbaaGreatDoorER
import Derived.Test.YtnejoidfbgklbaaGreatDoorSh
import Derived.Lib.LaidTab
namespace Go.Proofs.YtnejoidfbgklbaaGreatDoor
open Go Go.RowKit Go.Proofs.YtnejoidfbgklbaaGreatDoor.Eng Go.Shelf
set_option linter.unusedSimpArgs false
set_option linter.unusedVariables false
set_option maxRecDepth 100000
noncomputable section
def raw0 (f : Nat) : Bool := f == 66 || f == 52 || f == 21 || f == 36 || f == 23 || f == 38 || f == 24 || f == 32 || f == 72 || f == 71 || f == 39 || f == 37 || f == 64 || f == 22
def pol0 (f b : Nat) : Nat := if f = 11 then (if b = 19 then 1 else if b = 33 then 2 else if b = 34 then 2 else if b = 1000000 then 2 else 0) else if f = 7 then (if b = 10 then 1 else if b = 20 then 2 else if b = 21 then 2 else if b = 1000000 then 2 else 0) else if f = 14 then (if b = 55 then 1 else 0) else if f = 45 then (if b = 9 then 1 else if b = 34 then 3 else if b = 36 then 3 else if b = 1000000 then 2 else 0) else if f = 69 then (if b = 23 then 3 else if b = 24 then 3 else if b = 25 then 3 else if b = 1000000 then 2 else 0) else if f = 48 then (if b = 14 then 1 else 0) else if f = 77 then (if b = 33 then 3 else if b = 1000000 then 2 else 0) else if f = 31 then (if b = 8 then 1 else if b = 15 then 3 else if b = 21 then 3 else if b = 1000000 then 2 else 0) else if f = 68 then (if b = 4 then 1 else 0) else if f = 16 then (if b = 66 then 1 else if b = 71 then 1 else 0) else if f = 42 then (if b = 33 then 1 else 0) else if f = 10 then (if b = 60 then 1 else 0) else 0
def prim0F (f : Nat) : Option (List AV → Option (AV × Bool)) :=
  if f = 61 then some itoaG else if f = 78 then some fmtG else if f = 60 then some atoiG else none
def cfg0 : Cfg := ⟨pol0, raw0, prim0F, fun _ => false, fun _ => false⟩
/-- The table's name, as the given rows have it. -/
def powN : String := ((Rows.fnAnswersRow.laid[2]?).map (·.1)).getD ""
theorem gPow : Tryz.prog.globalNamed powN = some 2 := by kernel_rfl
theorem tab_pow {base : Nat} {w : World} (T : Tab base w) : Lib.TabIs Tryz.prog w powN .u64 Lib.pow10Tab := by
  obtain ⟨-, o, h, t, z, rfl⟩ := T (2, isPow) (by simp [tabs])
  show World.var? Tryz.prog w powN = _
  simp only [World.var?, gPow, Option.bind_some, h]
theorem tab_err {base : Nat} {w : World} (T : Tab base w) (k : Nat) (hk : (k, isErr) ∈ tabs) : ∃ ev, w.cell? ⟨k, 0, none⟩ = some ev ∧ (ev = .nilIface ∨ ∃ te pe, ev = .iface te pe) := by
  obtain ⟨-, o, h, u, p, t, z, rfl⟩ := T (k, isErr) hk
  exact ⟨.iface u p, by simp only at h; simp only [World.cell?, h]; rfl, .inr ⟨_, _, rfl⟩⟩
theorem law_Itoa (n : Int) (w : World) (hn : i64B n) (T : Tab w.heap.size w) : Calls Tryz.prog 61 #[.int .i64 n] w fun e w' => e = .returned (.string ⟨(Lib.itoa n).toArray⟩) ∧ ∃ k os, w' = Go.Sort.grow (w.drewN k) os :=
  Any.strconv_Itoa sh171 n hn.1 hn.2 w (tab_pow T)
theorem law_FormatInt (n : Int) (w : World) (hn : i64B n) (T : Tab w.heap.size w) : Calls Tryz.prog 78 #[.int .i64 n, .int .i64 10] w fun e w' => e = .returned (.string ⟨(Lib.itoa n).toArray⟩) ∧ ∃ k os, w' = Go.Sort.grow (w.drewN k) os :=
  Any.strconv_FormatInt_10 sh173 n hn.1 hn.2 w (tab_pow T)
theorem below_or {w w' : World} {e : TypeId} (h : w' = w ∨ ∃ t, w' = Lib.bytesWorld w e t) : Below w.heap.size w w' := by
  rcases h with rfl | ⟨t, rfl⟩
  · exact .refl _ _
  · exact Lib.bytesWorld_below _ _ _
theorem law_Atoi (s : ByteArray) (w : World) (hs : s.size ≤ 281474976710656) (T : Tab w.heap.size w) : EndLaw Tryz.prog 60 #[.string s] w (Lib.atoiSat s.data.toList) (Lib.atoiAll s.data.toList) := by
  rcases numEnd_cases (Lib.atoiAll s.data.toList) with ⟨v, hr⟩ | hr | hr
  · skip
    rw [hr]
    refine (Any.strconv_Atoi_ok sh172 s (by omega) v hr w).mono ?_
    rintro e w' ⟨rfl, h⟩
    exact ⟨below_or h, rfl⟩
  · skip
    obtain ⟨ev, h1, h2⟩ := tab_err T 0 (by simp [tabs])
    rw [hr]
    refine (Any.strconv_Atoi_syntax sh172 s hs hr ev w h1 h2).mono ?_
    rintro e w' ⟨N, rfl, -, -, h⟩
    exact ⟨h, _, _, rfl⟩
  · skip
    obtain ⟨ev, h1, h2⟩ := tab_err T 1 (by simp [tabs])
    rw [hr]
    refine (Any.strconv_Atoi_range sh172 s hs hr ev w h1 h2).mono ?_
    rintro e w' ⟨N, rfl, -, -, h⟩
    exact ⟨h, _, _, rfl⟩
theorem prim0 : PrimOk Tryz.prog cfg0 := by
  intro f g hg ts v cl h ρ F w vals I hl hv
  refine ⟨?_, fun h => by cases h⟩
  have hg : prim0F f = some g := hg
  unfold prim0F at hg
  split at hg
  · rename_i hf; subst hf
    obtain rfl := Option.some.inj hg
    exact itoa_ok law_Itoa h I hl hv
  split at hg
  · rename_i hf; subst hf
    obtain rfl := Option.some.inj hg
    exact fmt_ok law_FormatInt h I hl hv
  split at hg
  · rename_i hf; subst hf
    obtain rfl := Option.some.inj hg
    exact atoi_ok law_Atoi h I hl hv
  · simp at hg
theorem c_FormatInt (n : Int) (hn : i64B n) : ∀ H, call Tryz.prog cfg0 0 78 [.v (.int .i64 n), .v (.int .i64 10)] H = some (itoaT n, H) := fun H => by
  rw [call_prim Tryz.prog cfg0 Tryz.func78 (g := fmtG) rfl (by kernel_rfl) rfl (by omega)]
  rw [show [AV.v (.int .i64 n), AV.v (.int .i64 10)].mapM (deep H depthD) = some [.v (.int .i64 n), .v (.int .i64 10)] from rfl]
  simp only [Option.bind_some, fmtG, if_pos hn, pureAt, Bool.true_or, if_true]
theorem c_Itoa (n : Int) (hn : i64B n) : ∀ H, call Tryz.prog cfg0 0 61 [.v (.int .i64 n)] H = some (itoaT n, H) := fun H => by
  rw [call_prim Tryz.prog cfg0 Tryz.func61 (g := itoaG) rfl (by kernel_rfl) rfl (by omega)]
  rw [show [AV.v (.int .i64 n)].mapM (deep H depthD) = some [.v (.int .i64 n)] from rfl]
  simp only [Option.bind_some, itoaG, if_pos hn, pureAt, Bool.true_or, if_true]
theorem c_Atoi (s : ByteArray) (hs : s.size ≤ 281474976710656) : ∀ H, call Tryz.prog cfg0 0 60 [.v (.string s)] H = some (endT (Lib.atoiSat s.data.toList) (Lib.atoiAll s.data.toList), H) := fun H => by
  rw [call_prim Tryz.prog cfg0 Tryz.func60 (g := atoiG) rfl (by kernel_rfl) rfl (by omega)]
  rw [show [AV.v (.string s)].mapM (deep H depthD) = some [.v (.string s)] from rfl]
  simp only [Option.bind_some, atoiG, if_pos hs, pureAt, Bool.true_or, if_true]
end
end Go.Proofs.YtnejoidfbgklbaaGreatDoor
