/- The engine, part 31: results in own blocks, and marks in them. -/
import Derived.Test.YtepnlhjafgomgaaDoorEQ
namespace Go.Proofs.YtepnlhjafgomgaaDoor.Eng
open Go
set_option linter.unusedSimpArgs false
set_option linter.unusedVariables false

theorem Hp.set_set (H : Hp) (b : Nat) (x y : List AV) : (H.set b x).set b y = H.set b y := by
  unfold Hp.set
  simp only [Hp.mk.injEq, and_true]
  funext b'
  split <;> rfl
theorem Hp.set_id {H : Hp} {b : Nat} {x : List AV} (h : H.h b = some x) : H.set b x = H := by
  unfold Hp.set
  cases H with
  | mk h' g' =>
    simp only [Hp.mk.injEq, and_true]
    funext b'
    by_cases e : b' = b
    · subst e; simpa using h.symm
    · rw [if_neg e]
theorem mat_v (d : Nat) (y : Value) (H : Hp) : mat (d + 1) (.v y) H = some (.v y, H) := rfl
theorem mat_nil (d : Nat) (fu : Bool) (H : Hp) : mat (d + 1) (.lst fu []) H = some (.lst false [], H) := rfl
theorem mat_lst (d : Nat) (fu : Bool) (r : List AV) (rs : List (List AV)) (H : Hp) : mat (d + 1) (.lst fu (r :: rs)) H = if 0 < r.length ∧ rs.all (fun c => decide (c.length = r.length)) = true then (matL (mat d) (r :: rs).flatten H).map fun q => (.sl q.2.g r.length 0 (rs.length + 1), q.2.new q.1) else none := rfl
theorem mat_agg (d : Nat) (cs : List AV) (H : Hp) : mat (d + 1) (.agg cs) H = (matL (mat d) cs H).map fun q => (.agg q.1, q.2) := rfl
theorem mat_tup (d : Nat) (cs : List AV) (H : Hp) : mat (d + 1) (.tup cs) H = (matL (mat d) cs H).map fun q => (.tup q.1, q.2) := rfl
/-- Plain cells go over as they are. -/
theorem matL_v (d : Nat) (H : Hp) : ∀ cs : List Value, matL (mat (d + 1)) (cs.map .v) H = some (cs.map .v, H) := by
  intro cs
  induction cs with
  | nil => rfl
  | cons c cs ih => simp only [List.map_cons, matL, mat_v, Option.bind_some, ih, Option.map_some]
/-- A list of rows of one plain cell each. -/
theorem mat_flat {α : Type} (f : α → Value) (d : Nat) (l : List α) (hne : l ≠ []) (H : Hp) : mat (d + 2) (.lst false (l.map fun z => [AV.v (f z)])) H = some (.sl H.g 1 0 l.length, H.new (l.map fun z => AV.v (f z))) := by
  cases l with
  | nil => exact absurd rfl hne
  | cons a l =>
    have e : ((a :: l).map fun z => [AV.v (f z)]).flatten = ((a :: l).map f).map .v := by
      generalize a :: l = k
      induction k with
      | nil => rfl
      | cons a l ih => simp only [List.map_cons, List.flatten_cons, ih, List.singleton_append]
    simp only [List.map_cons] at e ⊢
    rw [mat_lst, e, if_pos]
    rotate_left
    · refine ⟨by simp, List.all_eq_true.2 fun c hc => ?_⟩
      obtain ⟨z, -, rfl⟩ := List.mem_map.1 hc
      simp
    have := matL_v d H (f a :: l.map f)
    simp only [List.map_cons] at this
    rw [this]
    simp [Function.comp_def]
theorem mat_bytes (d : Nat) (l : List Int) (hne : l ≠ []) (H : Hp) : mat (d + 2) (bytesL l) H = some (.sl H.g 1 0 l.length, H.new (l.map cell)) := mat_flat (fun z => .int .u8 z) d l hne H
theorem mat_bytes0 (d : Nat) (H : Hp) : mat (d + 1) (bytesL []) H = some (.lst false [], H) := rfl
theorem mat_i64s (d : Nat) (l : List Int) (hne : l ≠ []) (H : Hp) : mat (d + 2) (i64L l) H = some (.sl H.g 1 0 l.length, H.new (l.map icell)) := mat_flat (fun z => .int .i64 z) d l hne H
theorem mat_i64s0 (d : Nat) (H : Hp) : mat (d + 1) (i64L []) H = some (.lst false [], H) := rfl
theorem mat_texts (d : Nat) (l : List ByteArray) (hne : l ≠ []) (H : Hp) : mat (d + 2) (textsL l) H = some (.sl H.g 1 0 l.length, H.new (l.map fun s => .v (.string s))) := mat_flat (fun z => .string z) d l hne H
theorem mat_texts0 (d : Nat) (H : Hp) : mat (d + 1) (textsL []) H = some (.lst false [], H) := rfl
/-- A struct of a number and a list. -/
theorem mat_two {d : Nat} {y : Value} {t z : AV} {H K : Hp} (h : mat (d + 1) t H = some (z, K)) : mat (d + 2) (.agg [.v y, t]) H = some (.agg [.v y, z], K) := by
  simp only [mat_agg, matL, mat_v, Option.bind_some, h, Option.map_some]
theorem own_agg2 {y : Value} {x : AV} {H : Hp} (h : ∃ fp, fpt H 11 x = some fp ∧ fp.Nodup) : Own1 H (.agg [.v y, x]) := by
  obtain ⟨fp, h1, h2⟩ := h
  refine ⟨fp, ?_, h2⟩
  show ([AV.v y, x].mapM (fpt H 11)).map List.flatten = some fp
  have hm : [AV.v y, x].mapM (fpt H 11) = some [[], fp] := mapM_cons_some.2 ⟨_, _, rfl, mapM_cons_some.2 ⟨_, _, h1, rfl, rfl⟩, rfl⟩
  rw [hm]
  simp
/-- The marks from k on, in bytes. -/
def marksB (k : Int) (n : Nat) : List Int := (List.range n).map fun (i : Nat) => IntKind.wrap .u8 (k + (i : Int))
theorem marksB_length (k : Int) (n : Nat) : (marksB k n).length = n := by simp [marksB]
theorem marksB_at (k : Int) (n j : Nat) (h : j < n) : (marksB k n)[j]? = some (IntKind.wrap .u8 (k + j)) := by simp [marksB, h]
theorem marksB_succ (k : Int) (n : Nat) : marksB k (n + 1) = marksB k n ++ [IntKind.wrap .u8 (k + n)] := by simp [marksB, List.range_succ]
def marksI (k : Int) (n : Nat) : List Int := (List.range n).map fun (i : Nat) => IntKind.wrap .i64 (k + (i : Int))
theorem marksI_length (k : Int) (n : Nat) : (marksI k n).length = n := by simp [marksI]
theorem marksI_at (k : Int) (n j : Nat) (h : j < n) : (marksI k n)[j]? = some (IntKind.wrap .i64 (k + j)) := by simp [marksI, h]
theorem marksI_succ (k : Int) (n : Nat) : marksI k (n + 1) = marksI k n ++ [IntKind.wrap .i64 (k + n)] := by simp [marksI, List.range_succ]
/-- In a marked list the next place is marked. -/
theorem mark_step {α : Type} {m l : List α} {x : α} {j : Nat} (hm : m.length = j) (hj : j < l.length) : (m ++ l.drop j).set j x = (m ++ [x]) ++ l.drop (j + 1) := by
  rw [List.set_append_right _ _ (by omega), show j - m.length = 0 by omega, List.drop_eq_getElem_cons hj, List.set_cons_zero]
  simp
end Go.Proofs.YtepnlhjafgomgaaDoor.Eng
