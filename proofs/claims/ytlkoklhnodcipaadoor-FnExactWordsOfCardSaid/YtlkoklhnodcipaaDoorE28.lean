/- The engine, part 28: bytes.IndexByte, by a law from elsewhere. -/
import Derived.Test.YtlkoklhnodcipaaDoorE27
import Derived.Lib.Bytealg
import Derived.Lib.Bytes
namespace Go.Proofs.YtlkoklhnodcipaaDoor.Eng
open Go Go.RowKit
set_option linter.unusedSimpArgs false
set_option linter.unusedVariables false

section
variable {P : Program} {F : Nat → Nat → Prop} {w : World}
def rowInts (xs : List (List AV)) : List Int := xs.map fun r => match r with
  | [.v (.int .u8 z)] => z
  | _ => 0
theorem rowInts_bytes (l : List Int) : rowInts (l.map fun z => [cell z]) = l := by
  unfold rowInts
  rw [List.map_map]
  conv => rhs; rw [← List.map_id l]
  apply List.map_congr_left
  intro z _; rfl
def indexG : List AV → Option (AV × Bool)
  | [.lst false xs, .v (.int .u8 c)] => if xs ≠ [] ∧ xs.all byteRow = true then some (.v (.int .i64 (Lib.indexByte (Lib.bytesOf (rowInts xs)) c.toNat.toUInt8)), true) else none
  | _ => none
theorem indexByte_ok {f : Nat}
    (law : ∀ (b o n c : Nat) (xs : List Int) (cv : Int) (w : World), xs.length = n → (∀ i, i < n → w.cell? ⟨b, o + i, none⟩ = some (.int .u8 (xs.getD i 0))) →
      Calls P f #[.slice (some ⟨b, o, none⟩) n c, .int .u8 cv] w fun e w' => e = .returned (.int .i64 (Lib.indexByte (Lib.bytesOf xs) cv.toNat.toUInt8)) ∧ w' = w)
    {ts : List AV} {v : AV} {cl : Bool} (hg : indexG ts = some (v, cl))
    {ρ : Nat → Loc} {vals : Array Value} (I : Inv w.heap.size Hp.nil ρ F w) (hl : ts.length = vals.size) (hv : ∀ (i : Nat) x y, ts[i]? = some x → vals[i]? = some y → VR Hp.nil ρ F w x y) :
    Calls P f vals w fun e w' => ∃ u F', e = .returned u ∧ After w.heap.size Hp.nil ρ F w Hp.nil ρ F' w' ∧ VR Hp.nil ρ F' w' v u ∧ (cl = true → VR Hp.nil ρ (fun k o => F' k o ∧ w.heap.size ≤ k) w' v u) := by
  unfold indexG at hg
  split at hg
  rotate_left
  · simp at hg
  rename_i xs c
  split at hg
  rotate_left
  · simp at hg
  rename_i hc
  simp only [Option.some.injEq, Prod.mk.injEq] at hg
  obtain ⟨rfl, rfl⟩ := hg
  obtain ⟨va, vb, rfl⟩ : ∃ va vb, vals = #[va, vb] := by
    have : vals.size = 2 := by simpa using hl.symm
    obtain ⟨l⟩ := vals
    match l, this with
    | [va, vb], _ => exact ⟨va, vb, rfl⟩
  have h0 := hv 0 _ va rfl rfl
  have h1 := hv 1 _ vb rfl rfl
  obtain ⟨l, rfl⟩ := rows_bytes _ hc.2
  rw [rowInts_bytes]
  cases h1
  generalize hxs : (l.map fun z => [cell z]) = xs at h0
  cases h0 with
  | lst0 h => simp at hxs; subst hxs; exact absurd rfl hc.1
  | lst rd hne hs hf hcap ho hm hvv =>
    rename_i blk off cc sz
    subst hxs
    have hsz : sz = 1 := by
      cases l with
      | nil => exact absurd rfl hne
      | cons z l => have := hs [cell z] (by simp); simpa using this.symm
    subst hsz
    have hlen : (l.map fun z => [cell z]).length = l.length := by simp
    refine (law blk off _ cc l c w hlen.symm fun i hi => ?_).mono fun e w' hR => ?_
    · rw [hlen] at hi
      have hg2 : get2 (l.map fun z => [cell z]) i 0 = some (cell (l[i]'hi)) := by
        simp [get2, List.getElem?_map, List.getElem?_eq_getElem hi]
      have hrd : rd i 0 = .int .u8 (l[i]'hi) := by
        have := hvv i 0 _ hg2
        unfold cell at this
        generalize rd i 0 = y at this
        cases this; rfl
      have hcell := (hm i 0 _ hg2).1
      rw [hrd] at hcell
      rw [List.getD_eq_getElem?_getD, List.getElem?_eq_getElem hi]
      simpa [at_] using hcell
    · obtain ⟨rfl, rfl⟩ := hR
      exact ⟨_, F, rfl, After.refl I, .v, fun _ => .v⟩
end
end Go.Proofs.YtlkoklhnodcipaaDoor.Eng
