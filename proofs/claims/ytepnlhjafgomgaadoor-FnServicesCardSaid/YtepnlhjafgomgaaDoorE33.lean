/- The engine, part 33: functions that write into laid values. -/
import Derived.Test.YtepnlhjafgomgaaDoorE32
namespace Go.Proofs.YtepnlhjafgomgaaDoor.Eng
open Go
set_option linter.unusedSimpArgs false
set_option linter.unusedVariables false

/-- Nothing but the blocks lo.., below hi, was written. -/
def OutOf (lo hi : Nat) (H H' : Hp) : Prop := H.g ≤ H'.g ∧ ∀ b, b < H.g → (b < lo ∨ hi ≤ b) → H'.h b = H.h b
/-- The blocks lo.., below hi, are as they were. -/
def InReg (lo hi : Nat) (H K : Hp) : Prop := H.g ≤ K.g ∧ ∀ b, lo ≤ b → b < hi → K.h b = H.h b
section
variable {lo hi : Nat} {H K K' : Hp}
theorem OutOf.refl (lo hi : Nat) (H : Hp) : OutOf lo hi H H := ⟨Nat.le_refl _, fun _ _ _ => rfl⟩
theorem OutOf.set {b : Nat} {x : List AV} (h : OutOf lo hi H K) (h1 : lo ≤ b) (h2 : b < hi) : OutOf lo hi H (K.set b x) := ⟨h.1, fun b' h3 h4 => by rw [Hp.set_h, if_neg (by omega)]; exact h.2 b' h3 h4⟩
theorem OutOf.out {l r : Nat} (o : OutOf l r K K') (h1 : lo ≤ l) (h2 : r ≤ hi) (h : OutOf lo hi H K) : OutOf lo hi H K' :=
  ⟨Nat.le_trans h.1 o.1, fun b h3 h4 => (o.2 b (Nat.lt_of_lt_of_le h3 h.1) (by omega)).trans (h.2 b h3 h4)⟩
theorem OutOf.new {x : List AV} (hg : hi ≤ H.g) (h : OutOf lo hi H K) : OutOf lo hi H (K.new x) := ⟨Nat.le_trans h.1 (by simp), fun b h3 h4 => by
  rw [Hp.new_h, if_neg (by have := h.1; omega)]; exact h.2 b h3 h4⟩
theorem InReg.refl (lo hi : Nat) (H : Hp) : InReg lo hi H H := ⟨Nat.le_refl _, fun _ _ _ => rfl⟩
theorem InReg.set {b : Nat} {x : List AV} (h1 : b < lo ∨ hi ≤ b) (h : InReg lo hi H K) : InReg lo hi H (K.set b x) := ⟨h.1, fun b' h3 h4 => by rw [Hp.set_h, if_neg (by omega)]; exact h.2 b' h3 h4⟩
theorem InReg.out {l r : Nat} (o : OutOf l r K K') (h1 : r ≤ lo ∨ hi ≤ l) (hg : hi ≤ H.g) (h : InReg lo hi H K) : InReg lo hi H K' :=
  ⟨Nat.le_trans h.1 o.1, fun b h3 h4 => (o.2 b (by have := h.1; omega) (by omega)).trans (h.2 b h3 h4)⟩
theorem Laid.reg {ts zs : List AV} (h : Laid H lo hi ts zs) (r : InReg lo hi H K) : Laid K lo hi ts zs := h.keep r.2
theorem Laid.inv1 {rows : List (List AV)} {z : AV} (h : Laid H lo hi [.lst false rows] [z]) : (rows = [] ∧ z = .lst false []) ∨ ∃ b sz cs, rows ≠ [] ∧ z = .sl b sz 0 rows.length ∧ 0 < sz ∧ (∀ c ∈ rows, c.length = sz) ∧ lo ≤ b ∧ b < hi ∧ Laid H lo b rows.flatten cs ∧ H.h b = some cs := by
  generalize hts : [AV.lst false rows] = ts at h
  generalize hzs : [z] = zs at h
  cases h with
  | nil h => simp at hts
  | v y h => simp at hts
  | nl h =>
    simp only [List.cons.injEq, AV.lst.injEq, true_and] at hts hzs
    exact .inl ⟨hts.1, hzs.1⟩
  | lst hne hn hsz hs hi1 hb h =>
    simp only [List.cons.injEq, AV.lst.injEq, true_and] at hts hzs
    obtain ⟨e, -⟩ := hts
    subst e
    have l1 := hi1.le
    have l2 := h.le
    exact .inr ⟨_, _, _, hne, by rw [hzs.1, hn], hsz, hs, l1, by omega, hi1, hb⟩
theorem Laid.invV {ts zs : List AV} {y : Value} (h : Laid H lo hi (.v y :: ts) zs) : ∃ zs', zs = .v y :: zs' ∧ Laid H lo hi ts zs' := by
  cases h with
  | v y h => exact ⟨_, rfl, h⟩
theorem Laid.invL {ts zs : List AV} {rows : List (List AV)} (h : Laid H lo hi (.lst false rows :: ts) zs) : ∃ z zs' mid, zs = z :: zs' ∧ lo ≤ mid ∧ mid ≤ hi ∧ Laid H lo mid [.lst false rows] [z] ∧ Laid H mid hi ts zs' := by
  have h' : Laid H lo hi ([.lst false rows] ++ ts) zs := h
  obtain ⟨mid, z1, z2, rfl, h1, h2⟩ := Laid.split _ h'
  have hl := h1.len
  match z1, hl with
  | [z], _ => exact ⟨z, z2, mid, rfl, h1.le, h2.le, h1, h2⟩
theorem Laid.invN {zs : List AV} (h : Laid H lo hi [] zs) : zs = [] := by cases h; rfl
/-- The cells of row j. -/
theorem row_cell {cs r1 r2 : List AV} {o : Nat} (h : cs.drop o = r1 ++ r2) (i : Nat) (hi : i < r1.length) : cs[o + i]? = r1[i]? := by
  rw [← List.getElem?_drop, h, List.getElem?_append_left hi]
theorem row_rest {cs r1 r2 : List AV} {o n : Nat} (h : cs.drop o = r1 ++ r2) (hn : r1.length = n) : cs.drop (o + n) = r2 := by
  rw [← List.drop_drop, h, ← hn, List.drop_left]
theorem drop_set {cs : List AV} {o i : Nat} {x : AV} (h : i < o) : (cs.set i x).drop o = cs.drop o := by
  apply List.ext_getElem?
  intro k
  rw [List.getElem?_drop, List.getElem?_drop, List.getElem?_set_ne (by omega)]
theorem okc_laid {z : AV} {rows : List (List AV)} (h : Laid H lo hi [.lst false rows] [z]) : okc z = true ∧ asCells z = some [z] := by
  rcases h.inv1 with ⟨-, rfl⟩ | ⟨b, sz, cs, -, rfl, -⟩ <;> exact ⟨rfl, rfl⟩
end
end Go.Proofs.YtepnlhjafgomgaaDoor.Eng
