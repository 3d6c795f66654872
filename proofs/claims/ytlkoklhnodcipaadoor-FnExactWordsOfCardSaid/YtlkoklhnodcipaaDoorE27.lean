/- The engine, part 27: bytes as texts. -/
import Derived.Test.YtlkoklhnodcipaaDoorE26
namespace Go.Proofs.YtlkoklhnodcipaaDoor.Eng
open Go Go.RowKit
set_option linter.unusedSimpArgs false
set_option linter.unusedVariables false

theorem beqB (x y : Bool) : (x == y) = decide (x = y) := by cases x <;> cases y <;> rfl
theorem conv_bytesL {P : Program} {t st el : TypeId} (h1 : P.underlying t = some (.slice el)) (h2 : P.underlying st = some .string) (h3 : P.underlying el = some (.int .u8)) (H : Hp) (l : List Int) : aconv P H t st (bytesL l) = some (.v (.string (strOf l))) := by
  have e : (l.map fun z => [cell z]).all (fun c => decide (c.length = 1)) = true := by simp
  simp only [aconv, h1, h2, h3, bytesL, e, if_true, cells_flat, bytesIn_cells, Option.map_some, strOf]
theorem strOf_inj {a b : List Int} (ha : Bytes a) (hb : Bytes b) (h : strOf a = strOf b) : a = b := by
  have h1 : (a.map fun z => UInt8.ofNat z.toNat) = b.map fun z => UInt8.ofNat z.toNat := by
    have := congrArg (fun s : ByteArray => s.data.toList) h
    simpa [strOf] using this
  clear h
  induction a generalizing b with
  | nil => cases b with
    | nil => rfl
    | cons _ _ => simp at h1
  | cons x a ih =>
    cases b with
    | nil => simp at h1
    | cons y b =>
      simp only [List.map_cons, List.cons.injEq] at h1
      have hx := ha x (by simp)
      have hy := hb y (by simp)
      have e : x = y := by
        have := congrArg UInt8.toNat h1.1
        simp at this
        omega
      rw [e, ih (fun z hz => ha z (by simp [hz])) (fun z hz => hb z (by simp [hz])) h1.2]
theorem strOf_eq {a b : List Int} (ha : Bytes a) (hb : Bytes b) : ((strOf a).toList == (strOf b).toList) = decide (a = b) := by
  apply bool_eq
  simp only [beq_iff_eq, decide_eq_true_eq]
  constructor
  · intro h
    refine strOf_inj ha hb ?_
    have e : ∀ s : ByteArray, s.toList = s.data.toList := fun s => by
      simp [ByteArray.toList_eq]
    rw [e, e] at h
    cases hs : strOf a; cases ht : strOf b
    rw [hs, ht] at h
    simp at h
    rw [h]
  · intro h; rw [h]
end Go.Proofs.YtlkoklhnodcipaaDoor.Eng
