/- Plain laws: a text cut at a sign. -/
import Derived.Test.YtlkoklhnodcipaaDoorK0
import Derived.Lib.Split
import Derived.Lib.SplitLaws
namespace Go.Proofs.YtlkoklhnodcipaaDoor
open Go Go.RowKit Go.Proofs.YtlkoklhnodcipaaDoor.Eng
set_option linter.unusedSimpArgs false
set_option linter.unusedVariables false
set_option maxRecDepth 100000
noncomputable section
def ba (l : List UInt8) : ByteArray := ⟨l.toArray⟩
theorem ba_data (l : List UInt8) : (ba l).data.toList = l := rfl
theorem ba_of (s : ByteArray) : ba s.data.toList = s := by cases s; simp [ba]
/-- A list cut at a sign. -/
def cutL (c : UInt8) : List UInt8 → List (List UInt8)
  | [] => [[]]
  | b :: l => if (b == c) = true then [] :: cutL c l else match cutL c l with
    | [] => [[b]]
    | p :: ps => (b :: p) :: ps
theorem cutL_ne (c : UInt8) : ∀ l, cutL c l ≠ [] := by
  intro l
  cases l with
  | nil => simp [cutL]
  | cons b l =>
    unfold cutL
    split
    · simp
    · split <;> simp
/-- The first piece, lengthened at its head. -/
def pre (q : List UInt8) : List (List UInt8) → List (List UInt8)
  | [] => [q]
  | p :: ps => (q ++ p) :: ps
theorem pre_nil {l : List (List UInt8)} (h : l ≠ []) : pre [] l = l := by
  cases l with
  | nil => exact absurd rfl h
  | cons p ps => rfl
theorem cut_hit {c b : UInt8} {l q : List UInt8} (h : b = c) : pre q (cutL c (b :: l)) = q :: cutL c l := by
  subst h
  have e : cutL b (b :: l) = [] :: cutL b l := by show (if (b == b) = true then _ else _) = _; rw [if_pos (by simp)]
  rw [e]
  show (q ++ []) :: cutL b l = q :: cutL b l
  rw [List.append_nil]
theorem cut_miss {c b : UInt8} {l q : List UInt8} (h : ¬ b = c) : pre q (cutL c (b :: l)) = pre (q ++ [b]) (cutL c l) := by
  have e : cutL c (b :: l) = match cutL c l with
    | [] => [[b]]
    | p :: ps => (b :: p) :: ps := by show (if (b == c) = true then _ else _) = _; rw [if_neg (by simpa using h)]
  rw [e]
  cases hc : cutL c l with
  | nil => exact absurd hc (cutL_ne c l)
  | cons p ps => simp [pre]
theorem splitK_cut (c : UInt8) : ∀ l : List UInt8, Lib.splitK [c] 0 (Lib.count l [c]) l = cutL c l := by
  intro l
  induction l with
  | nil => rfl
  | cons b l ih =>
    by_cases h : b = c
    · subst h
      have hix : Lib.index (b :: l) [b] = ((0 : Nat) : Int) := by rw [Lib.index]; simp [List.isPrefixOf]
      have e : cutL b (b :: l) = [] :: cutL b l := by show (if (b == b) = true then _ else _) = _; rw [if_pos (by simp)]
      rw [Lib.count_cons_eq, Nat.add_comm, e, ← ih]
      show (if Lib.index (b :: l) [b] == -1 then _ else _) = _
      rw [hix]; simp
    · have hp : ([c] : List UInt8).isPrefixOf (b :: l) = false := by simp [List.isPrefixOf, Ne.symm h]
      have hix : Lib.index (b :: l) [c] = if Lib.index l [c] == -1 then -1 else Lib.index l [c] + 1 := by rw [Lib.index, hp]; simp
      have e : cutL c (b :: l) = match cutL c l with
        | [] => [[b]]
        | p :: ps => (b :: p) :: ps := by show (if (b == c) = true then _ else _) = _; rw [if_neg (by simpa using h)]
      rw [Lib.count_cons_ne b c l h, e, ← ih]
      by_cases hm : Lib.index l [c] = -1
      · rw [Lib.count_miss hm]; rfl
      · have hge := Lib.index_ge l [c]
        obtain ⟨j, hj⟩ : ∃ j : Nat, Lib.index l [c] = j := ⟨(Lib.index l [c]).toNat, by omega⟩
        have hix' : Lib.index (b :: l) [c] = ((j + 1 : Nat) : Int) := by rw [hix, if_neg (fun e => hm (beq_iff_eq.1 e)), hj]; omega
        rw [Lib.count_hit (by simp) hj, Nat.add_comm]
        have u1 : ∀ k (l : List UInt8) (i : Nat), Lib.index l [c] = (i : Nat) → Lib.splitK [c] 0 (k + 1) l = l.take i :: Lib.splitK [c] 0 k (l.drop (i + 1)) := fun k l i hi => by
          show (if Lib.index l [c] == -1 then _ else _) = _
          rw [hi, if_neg (by simp)]; simp
        rw [u1 _ _ _ hix', u1 _ _ _ hj]
        simp
/-- What strings.Split gives, at one sign. -/
theorem splitB_cut (s : ByteArray) (c : UInt8) : Lib.splitB (ba [c]) 0 (Lib.countB s (ba [c])) s = (cutL c s.data.toList).map ba := by
  have h := Lib.splitB_data (ba [c]) 0 (Lib.countB s (ba [c])) s
  have h2 : Lib.splitK (ba [c]).data.toList 0 (Lib.countB s (ba [c])) s.data.toList = cutL c s.data.toList := splitK_cut c s.data.toList
  rw [h2] at h
  rw [← h, List.map_map]
  have : (ba ∘ fun (x : ByteArray) => x.data.toList) = id := by funext x; exact ba_of x
  rw [this, List.map_id]
theorem cut_size (c : UInt8) : ∀ l : List UInt8, (cutL c l).length ≤ l.length + 1 := by
  intro l
  induction l with
  | nil => simp [cutL]
  | cons b l ih =>
    unfold cutL
    split
    · simp only [List.length_cons]; omega
    · split
      · simp
      · rename_i h; rw [h] at ih; simp only [List.length_cons] at ih ⊢; omega
/-- The words of a line: its pieces that are not empty. -/
def wordsL (l : List UInt8) : List (List UInt8) := (cutL 32 l).filter fun p => decide (¬ p = [])
def neB (s : ByteArray) : Bool := decide (¬ s.data.toList = [])
theorem wordsL_ba (l : List UInt8) : ((cutL 32 l).map ba).filter neB = (wordsL l).map ba := by
  unfold wordsL
  rw [List.filter_map]
  rfl
theorem words_size (l : List UInt8) : (wordsL l).length ≤ l.length + 1 := Nat.le_trans (List.length_filter_le _ _) (cut_size 32 l)
end
end Go.Proofs.YtlkoklhnodcipaaDoor
