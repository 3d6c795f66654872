/- Contracts: the number of a word, both sides. -/
import Derived.Test.YtepnlhjafgomgaaDoorD1
namespace Go.Proofs.YtepnlhjafgomgaaDoor
open Go Go.RowKit Go.Proofs.YtepnlhjafgomgaaDoor.Eng
set_option linter.unusedSimpArgs false
set_option linter.unusedVariables false
set_option maxRecDepth 100000
noncomputable section
theorem size_toList (s : ByteArray) : s.size = s.data.toList.length := by rw [Array.length_toList]; rfl
theorem canon_nd {l : List UInt8} {c : UInt8} (hm : c ∈ l) (h : isDg c = false) : canon l = false := by
  have : l.all isDg = false := List.all_eq_false.2 ⟨c, hm, by simp [h]⟩
  simp [canon, this]
theorem numOf_nd {N : Nat} {l : List UInt8} (h : canon l = false) : numOf N l = -1 := by simp [numOf, h]
theorem canon_of {l : List UInt8} (h1 : l ≠ []) (h2 : l.all isDg = true) (h3 : l.length ≤ 1 ∨ l.head? ≠ some 48) : canon l = true := by
  unfold canon
  rw [h2, decide_eq_true h1]
  rcases h3 with h3 | h3
  · rw [decide_eq_true h3]; rfl
  · rw [decide_eq_true h3]; simp
theorem canon0 {c : UInt8} {r : List UInt8} {N : Nat} (h : c = 48) (h1 : 1 < r.length + 1) : ¬ (canon (c :: r) = true ∧ (c :: r).length ≤ N) := by
  rintro ⟨h2, -⟩
  simp only [canon, Bool.and_eq_true, Bool.or_eq_true, decide_eq_true_eq, List.length_cons, List.head?_cons] at h2
  rcases h2.2 with h3 | h3
  · omega
  · exact of_decide_eq_true h3 (by rw [h])
-- not here: spec_l14Number
end
end Go.Proofs.YtepnlhjafgomgaaDoor
