/- What becomes of results, which functions work on their caller's blocks, and the law of strings.Split. -/
import Derived.Test.YtlkoklhnodcipaaDoorM
import Derived.Test.YtlkoklhnodcipaaDoorE37
import Derived.Test.YtlkoklhnodcipaaDoorE30
import Derived.Test.YtlkoklhnodcipaaDoorSh
namespace Go.Proofs.YtlkoklhnodcipaaDoor
open Go Go.RowKit Go.Proofs.YtlkoklhnodcipaaDoor.Eng Go.Shelf
set_option linter.unusedSimpArgs false
set_option linter.unusedVariables false
set_option maxRecDepth 100000
noncomputable section
def raw0 (f : Nat) : Bool := f == 14 || f == 7 || f == 11
def pol0 (f b : Nat) : Nat := if f = 3 then (if b = 14 then 1 else 0) else if f = 5 then (if b = 9 then 1 else 0) else 0
def splitG : List AV → Option (AV × Bool)
  | [.v (.string s), .v (.string t)] => if s.size ≤ 4000000 ∧ t.size = 1 then some (textsL (Lib.splitB t 0 (Lib.countB s t) s), true) else none
  | _ => none
def prim0F (f : Nat) : Option (List AV → Option (AV × Bool)) := if f = 10 then some splitG else none
def cfg0 : Cfg := ⟨pol0, raw0, prim0F, fun _ => false, fun f => f == 10⟩
theorem law_Split (s t : ByteArray) (w : World) (hs : s.size ≤ 4000000) (ht : t.size = 1) (T : Tab w.heap.size w) : Calls Tryd.prog 10 #[.string s, .string t] w fun e w' =>
    e = .returned (.slice (some ⟨w.heap.size, 0, none⟩) (Lib.splitB t 0 (Lib.countB s t) s).length (Lib.splitB t 0 (Lib.countB s t) s).length) ∧ w' = w.alloc (.cells ((Lib.splitB t 0 (Lib.countB s t) s).map Value.string).toArray 9) := by
  obtain ⟨-, o, h, z, hz⟩ := T (0, isIntAt 0) (by simp [tabs])
  have hm : w.cell? ⟨0, 0, none⟩ = some (.int .i64 z) := hz w h
  have := Any.strings_Split { sh146 with } sh146.i9 s t z w (by omega) hm (by omega)
  rw [Lib.splitB_all t (by omega) 0 _ s rfl]
  exact this
theorem prim0 : PrimOk Tryd.prog cfg0 := by
  intro f g hg ts v cl h ρ F w vals I hl hv
  have hg : prim0F f = some g := hg
  unfold prim0F at hg
  split at hg
  rotate_left
  · simp at hg
  rename_i hf; subst hf
  obtain rfl := Option.some.inj hg
  unfold splitG at h
  split at h
  rotate_left
  · simp at h
  rename_i s t
  split at h
  rotate_left
  · simp at h
  rename_i hc
  simp only [Option.some.injEq, Prod.mk.injEq] at h
  obtain ⟨rfl, rfl⟩ := h
  obtain rfl := vals2 hl hv
  obtain ⟨h1, h2⟩ := texts_fresh I (law_Split s t w hc.1 hc.2 I.tab)
  exact ⟨h1, fun _ => h2⟩
end
end Go.Proofs.YtlkoklhnodcipaaDoor
