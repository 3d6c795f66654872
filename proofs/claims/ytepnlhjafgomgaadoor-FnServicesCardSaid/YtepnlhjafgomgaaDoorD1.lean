/- Decimal numerals: what is a number's own numeral, and what reads as it. -/
import Derived.Test.YtepnlhjafgomgaaDoorV0
namespace Go.Proofs.YtepnlhjafgomgaaDoor
open Go
set_option linter.unusedSimpArgs false
set_option linter.unusedVariables false
/-- The value of digits behind a number. -/
def vdA (acc : Nat) (l : List UInt8) : Nat := l.foldl (fun a c => a * 10 + (c.toNat - 48)) acc
def isDg (c : UInt8) : Bool := decide (48 ≤ c.toNat ∧ c.toNat ≤ 57)
theorem vdA_snoc (acc : Nat) (l : List UInt8) (c : UInt8) : vdA acc (l ++ [c]) = vdA acc l * 10 + (c.toNat - 48) := by simp [vdA]
theorem vdA_cons (acc : Nat) (c : UInt8) (l : List UInt8) : vdA acc (c :: l) = vdA (acc * 10 + (c.toNat - 48)) l := by simp only [vdA, List.foldl_cons]
theorem vdA_le : ∀ (l : List UInt8) (acc : Nat), acc ≤ vdA acc l := by
  intro l
  induction l with
  | nil => intro acc; exact Nat.le_refl _
  | cons c l ih => intro acc; rw [vdA_cons]; exact Nat.le_trans (by omega) (ih _)
theorem vdA_lt : ∀ (l : List UInt8) (acc : Nat), l.all isDg = true → vdA acc l < (acc + 1) * 10 ^ l.length := by
  intro l
  induction l with
  | nil => intro acc _; simp [vdA]
  | cons c l ih =>
    intro acc h
    simp only [List.all_cons, Bool.and_eq_true, isDg, decide_eq_true_eq] at h
    rw [vdA_cons]
    refine Nat.lt_of_lt_of_le (ih _ (by simpa [isDg] using h.2)) ?_
    rw [List.length_cons, Nat.pow_succ, Nat.mul_comm (10 ^ l.length) 10, ← Nat.mul_assoc]
    exact Nat.mul_le_mul_right _ (by omega)
/-- Digits, the first of which is no zero where there are more than one. -/
def canon (l : List UInt8) : Bool := decide (l ≠ []) && l.all isDg && (decide (l.length ≤ 1) || decide (l.head? ≠ some 48))
theorem ofNat_dg {c : UInt8} (h1 : 48 ≤ c.toNat) : UInt8.ofNat (48 + (c.toNat - 48)) = c := by
  rw [show 48 + (c.toNat - 48) = c.toNat by omega]; exact UInt8.ofNat_toNat
theorem toNat_dg {d : Nat} (h : d < 10) : (UInt8.ofNat (48 + d)).toNat = 48 + d := by
  rw [UInt8.toNat_ofNat']; omega
theorem pos_head : ∀ (l : List UInt8) (c : UInt8), (c :: l).all isDg = true → c ≠ 48 → 0 < vdA 0 (c :: l) := by
  intro l c h hc
  simp only [List.all_cons, Bool.and_eq_true, isDg, decide_eq_true_eq] at h
  rw [vdA_cons]
  refine Nat.lt_of_lt_of_le ?_ (vdA_le l _)
  have : c.toNat ≠ 48 := fun e => hc (UInt8.toNat_inj.1 (by simpa using e))
  omega
/-- A canonical numeral is its value's. -/
theorem dec_of_canon : ∀ (n : Nat) (l : List UInt8), l.length = n → canon l = true → Lib.decDigits (vdA 0 l) = l := by
  intro n
  induction n with
  | zero => intro l h hc; have : l = [] := List.length_eq_zero_iff.1 h; subst this; simp [canon] at hc
  | succ n ih =>
    intro l h hc
    obtain ⟨l', c, rfl⟩ : ∃ l' c, l = l' ++ [c] := by
      refine ⟨l.dropLast, l.getLast (by intro e; simp [e] at h), ?_⟩
      exact (List.dropLast_concat_getLast _).symm
    simp only [canon, Bool.and_eq_true, Bool.or_eq_true, decide_eq_true_eq, List.all_append, List.all_cons, List.all_nil, Bool.and_true] at hc
    obtain ⟨⟨-, hd', hd⟩, hh⟩ := hc
    simp only [isDg, decide_eq_true_eq] at hd
    rw [vdA_snoc]
    cases l' with
    | nil =>
      simp only [vdA, List.foldl_nil, Nat.zero_mul, Nat.zero_add, List.nil_append]
      rw [Lib.decDigits, dif_pos (by omega), ofNat_dg hd.1]
    | cons a r =>
      have ha : a ≠ 48 := by
        rcases hh with hh | hh
        · simp at hh
        · intro e; exact hh (by simp [e])
      have hpos := pos_head r a hd' ha
      have hlen : (a :: r).length = n := by simpa using h
      have hcan : canon (a :: r) = true := by
        simp only [canon, Bool.and_eq_true, Bool.or_eq_true, decide_eq_true_eq]
        exact ⟨⟨by simp, hd'⟩, .inr (by simpa using ha)⟩
      have := ih (a :: r) hlen hcan
      rw [Lib.decDigits, dif_neg (by omega), show (vdA 0 (a :: r) * 10 + (c.toNat - 48)) / 10 = vdA 0 (a :: r) by omega, show (vdA 0 (a :: r) * 10 + (c.toNat - 48)) % 10 = c.toNat - 48 by omega, this, ofNat_dg hd.1]
theorem head_app {l : List UInt8} (h : l ≠ []) (r : List UInt8) : (l ++ r).head? = l.head? := by
  cases l with
  | nil => exact absurd rfl h
  | cons a l => rfl
/-- A number's numeral is canonical, and reads as it. -/
theorem canon_of_dec : ∀ (n u : Nat), u ≤ n → canon (Lib.decDigits u) = true ∧ vdA 0 (Lib.decDigits u) = u ∧ (0 < u → (Lib.decDigits u).head? ≠ some 48) := by
  intro n
  induction n with
  | zero =>
    intro u h
    obtain rfl : u = 0 := by omega
    rw [Lib.decDigits, dif_pos (by omega)]
    exact ⟨by decide, by decide, fun h => by omega⟩
  | succ n ih =>
    intro u h
    by_cases hu : u < 10
    · rw [Lib.decDigits, dif_pos hu]
      have ht := toNat_dg hu
      refine ⟨by simp [canon, isDg, ht]; omega, by simp only [vdA, List.foldl_cons, List.foldl_nil, ht]; omega, fun h0 e => ?_⟩
      simp only [List.head?_cons, Option.some.injEq] at e
      rw [e] at ht
      have : (48 : UInt8).toNat = 48 := rfl
      omega
    · obtain ⟨h1, h2, h3⟩ := ih (u / 10) (by omega)
      have h3 := h3 (by omega)
      rw [Lib.decDigits, dif_neg hu]
      have ht := toNat_dg (show u % 10 < 10 by omega)
      have hne : Lib.decDigits (u / 10) ≠ [] := by intro e; rw [e] at h1; simp [canon] at h1
      have hh : (Lib.decDigits (u / 10) ++ [UInt8.ofNat (48 + u % 10)]).head? ≠ some 48 := by rw [head_app hne]; exact h3
      refine ⟨?_, by rw [vdA_snoc, h2, ht]; omega, fun _ => hh⟩
      simp only [canon, Bool.and_eq_true, Bool.or_eq_true, decide_eq_true_eq] at h1 ⊢
      refine ⟨⟨by simp, ?_⟩, .inr hh⟩
      rw [List.all_append, h1.1.2]
      simp [isDg, ht]; omega
/-- Few digits are read as what they are. -/
theorem parseM_dg : ∀ (l : List UInt8) (acc : Nat), l.all isDg = true → (acc + 1) * 10 ^ l.length ≤ 1000000000000000000 → Lib.parseUintM (2 ^ 64 - 1) acc l = .ok (vdA acc l) := by
  intro l
  induction l with
  | nil => intro acc _ _; rfl
  | cons c l ih =>
    intro acc h hb
    simp only [List.all_cons, Bool.and_eq_true, isDg, decide_eq_true_eq] at h
    rw [List.length_cons, Nat.pow_succ, Nat.mul_comm (10 ^ l.length) 10, ← Nat.mul_assoc] at hb
    have hp : 1 ≤ 10 ^ l.length := Nat.one_le_pow _ _ (by decide)
    have hacc : (acc + 1) * 10 ≤ 1000000000000000000 := Nat.le_trans (Nat.le_mul_of_pos_right _ hp) hb
    simp only [Lib.parseUintM]
    rw [if_pos h.1, if_neg (by omega), if_neg (by omega), vdA_cons]
    refine ih _ (by simpa [isDg] using h.2) (Nat.le_trans (Nat.mul_le_mul_right _ ?_) hb)
    omega
theorem parse10_dg : ∀ (l : List UInt8) (acc : Nat), l.all isDg = true → (acc + 1) * 10 ^ l.length ≤ 1000000000000000000 → Lib.parseUint10 acc l = .ok (vdA acc l) := by
  intro l
  induction l with
  | nil => intro acc _ _; rfl
  | cons c l ih =>
    intro acc h hb
    simp only [List.all_cons, Bool.and_eq_true, isDg, decide_eq_true_eq] at h
    rw [List.length_cons, Nat.pow_succ, Nat.mul_comm (10 ^ l.length) 10, ← Nat.mul_assoc] at hb
    have hp : 1 ≤ 10 ^ l.length := Nat.one_le_pow _ _ (by decide)
    have hacc : (acc + 1) * 10 ≤ 1000000000000000000 := Nat.le_trans (Nat.le_mul_of_pos_right _ hp) hb
    simp only [Lib.parseUint10]
    rw [if_pos h.1, if_neg (by omega), if_neg (by omega), vdA_cons]
    refine ih _ (by simpa [isDg] using h.2) (Nat.le_trans (Nat.mul_le_mul_right _ ?_) hb)
    omega
theorem canon_head {c : UInt8} {r : List UInt8} (h : canon (c :: r) = true) : c.toNat ≠ 43 ∧ c.toNat ≠ 45 := by
  simp only [canon, Bool.and_eq_true, List.all_cons, isDg, decide_eq_true_eq] at h
  obtain ⟨⟨-, h, -⟩, -⟩ := h
  omega
theorem parseB_dg {l : List UInt8} (h : canon l = true) (hl : l.length ≤ 17) : Lib.parseIntB 64 l = .ok (vdA 0 l : Nat) := by
  have hd : l.all isDg = true := by simp only [canon, Bool.and_eq_true] at h; exact h.1.2
  have hb : (0 + 1) * 10 ^ l.length ≤ 1000000000000000000 := by
    have := Nat.pow_le_pow_right (n := 10) (by decide) hl
    omega
  have hv := vdA_lt l 0 hd
  cases l with
  | nil => simp [canon] at h
  | cons c r =>
    obtain ⟨h1, h2⟩ := canon_head h
    simp only [Lib.parseIntB]
    rw [if_neg (by omega)]
    simp only [Lib.parseUintB, if_neg (List.cons_ne_nil c r)]
    rw [parseM_dg _ _ hd hb]
    simp only
    rw [if_neg (by simp only [not_and]; intro _; simp only [Nat.reduceSub, Nat.reducePow]; omega), if_neg (by omega), if_neg h2]
theorem atoi_dg {l : List UInt8} (h : canon l = true) (hl : l.length ≤ 17) : Lib.atoiAll l = .ok (vdA 0 l : Nat) := by
  have hd : l.all isDg = true := by simp only [canon, Bool.and_eq_true] at h; exact h.1.2
  have hb : (0 + 1) * 10 ^ l.length ≤ 1000000000000000000 := by
    have := Nat.pow_le_pow_right (n := 10) (by decide) hl
    omega
  have hv := vdA_lt l 0 hd
  cases l with
  | nil => simp [canon] at h
  | cons c r =>
    obtain ⟨h1, h2⟩ := canon_head h
    simp only [Lib.atoiAll]
    rw [if_neg (by omega)]
    simp only [Lib.parseMag, if_neg (List.cons_ne_nil c r)]
    rw [parse10_dg _ _ hd hb]
    simp only
    rw [if_neg (by simp only [not_and]; intro _; omega), if_neg (by omega), if_neg h2]
/-- The number of a word, where it is its own numeral of at most so many digits; else -1. -/
def numOf (N : Nat) (l : List UInt8) : Int := if canon l = true ∧ l.length ≤ N then (vdA 0 l : Nat) else -1
theorem itoa_nat (u : Nat) : Lib.itoa (u : Int) = Lib.decDigits u := by
  unfold Lib.itoa
  rw [if_neg (by omega)]; simp
/-- What both sides tell: reading, then writing. -/
theorem num_back {l : List UInt8} {n : Int} (h0 : 0 ≤ n) (hi : Lib.itoa n = l) : canon l = true ∧ ((vdA 0 l : Nat) : Int) = n := by
  obtain ⟨u, rfl⟩ : ∃ u : Nat, n = u := ⟨n.toNat, by omega⟩
  rw [itoa_nat] at hi
  obtain ⟨h1, h2, -⟩ := canon_of_dec u u (Nat.le_refl _)
  rw [hi] at h1 h2
  exact ⟨h1, by rw [h2]⟩
end Go.Proofs.YtepnlhjafgomgaaDoor
