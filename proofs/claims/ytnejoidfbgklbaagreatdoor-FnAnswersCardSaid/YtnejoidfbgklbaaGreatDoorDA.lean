/- Small laws that the texts of services want. Decimal numerals: what is a number's own numeral, and what reads as it. Contracts: the number of a word, both sides. Contracts: NumberOf, both sides. Contracts: ServiceOf, both sides. Contracts: ServiceOf, both sides (its results). -/
import Derived.Test.YtnejoidfbgklbaaGreatDoorK0
import Derived.Lib.ParseIntBTie
namespace Go.Proofs.YtnejoidfbgklbaaGreatDoor
open Go Go.RowKit Go.Proofs.YtnejoidfbgklbaaGreatDoor.Eng
set_option linter.unusedSimpArgs false
set_option linter.unusedVariables false
noncomputable section
theorem aconv_int {P : Program} {a b : TypeId} {k k1 : IntKind} (h1 : P.underlying a = some (.int k1)) (h2 : P.underlying b = some (.int k)) (H : Hp) (k' : IntKind) (n : Int) : aconv P H a b (.v (.int k' n)) = some (.v (.int k (k.wrap n))) := by simp only [aconv, h1, h2]
theorem wrap8 (z : Int) : IntKind.wrap .u8 z = z % 256 := by simp [IntKind.wrap, IntKind.bits, IntKind.signed]
theorem get_text {l : List ByteArray} {j : Nat} {x : ByteArray} (h : l[j]? = some x) : (l.map fun s => [AV.v (.string s)])[j]? = some [.v (.string x)] := by rw [List.getElem?_map, h]; rfl
theorem wSt {P : Program} {cfg : Cfg} {fid : Nat} {c : Code} {e : Env} {H : Hp} {Q : AX → St → Prop} (R : Env → Hp → Prop) (hR : R e H) (h : ∀ e2 H2, R e2 H2 → Wp P cfg fid c (e2, H2) Q) : Wp P cfg fid c (e, H) Q := h e H hR
end
end Go.Proofs.YtnejoidfbgklbaaGreatDoor
namespace Go.Proofs.YtnejoidfbgklbaaGreatDoor
open Go
set_option linter.unusedSimpArgs false
set_option linter.unusedVariables false
/-- The value of digits behind a number. -/
def vdA (acc : Nat) (l : List UInt8) : Nat := l.foldl (fun a c => a * 10 + (c.toNat - 48)) acc
def isDg (c : UInt8) : Bool := decide (48 ≤ c.toNat ∧ c.toNat ≤ 57)
theorem vdA_snoc (acc : Nat) (l : List UInt8) (c : UInt8) : vdA acc (l ++ [c]) = vdA acc l * 10 + (c.toNat - 48) := by simp [vdA]
theorem vdA_cons (acc : Nat) (c : UInt8) (l : List UInt8) : vdA acc (c :: l) = vdA (acc * 10 + (c.toNat - 48)) l := by simp only [vdA, List.foldl_cons]
theorem vdA_le : ∀ (l : List UInt8) (acc : Nat), acc ≤ vdA acc l := by
  intro l
  induction l with
  | nil => intro acc; exact Nat.le_refl _
  | cons c l ih => intro acc; rw [vdA_cons]; exact Nat.le_trans (by omega) (ih _)
theorem vdA_lt : ∀ (l : List UInt8) (acc : Nat), l.all isDg = true → vdA acc l < (acc + 1) * 10 ^ l.length := by
  intro l
  induction l with
  | nil => intro acc _; simp [vdA]
  | cons c l ih =>
    intro acc h
    simp only [List.all_cons, Bool.and_eq_true, isDg, decide_eq_true_eq] at h
    rw [vdA_cons]
    refine Nat.lt_of_lt_of_le (ih _ (by simpa [isDg] using h.2)) ?_
    rw [List.length_cons, Nat.pow_succ, Nat.mul_comm (10 ^ l.length) 10, ← Nat.mul_assoc]
    exact Nat.mul_le_mul_right _ (by omega)
/-- Digits, the first of which is no zero where there are more than one. -/
def canon (l : List UInt8) : Bool := decide (l ≠ []) && l.all isDg && (decide (l.length ≤ 1) || decide (l.head? ≠ some 48))
theorem ofNat_dg {c : UInt8} (h1 : 48 ≤ c.toNat) : UInt8.ofNat (48 + (c.toNat - 48)) = c := by
  rw [show 48 + (c.toNat - 48) = c.toNat by omega]; exact UInt8.ofNat_toNat
theorem toNat_dg {d : Nat} (h : d < 10) : (UInt8.ofNat (48 + d)).toNat = 48 + d := by
  rw [UInt8.toNat_ofNat']; omega
theorem pos_head : ∀ (l : List UInt8) (c : UInt8), (c :: l).all isDg = true → c ≠ 48 → 0 < vdA 0 (c :: l) := by
  intro l c h hc
  simp only [List.all_cons, Bool.and_eq_true, isDg, decide_eq_true_eq] at h
  rw [vdA_cons]
  refine Nat.lt_of_lt_of_le ?_ (vdA_le l _)
  have : c.toNat ≠ 48 := fun e => hc (UInt8.toNat_inj.1 (by simpa using e))
  omega
/-- A canonical numeral is its value's. -/
theorem dec_of_canon : ∀ (n : Nat) (l : List UInt8), l.length = n → canon l = true → Lib.decDigits (vdA 0 l) = l := by
  intro n
  induction n with
  | zero => intro l h hc; have : l = [] := List.length_eq_zero_iff.1 h; subst this; simp [canon] at hc
  | succ n ih =>
    intro l h hc
    obtain ⟨l', c, rfl⟩ : ∃ l' c, l = l' ++ [c] := by
      refine ⟨l.dropLast, l.getLast (by intro e; simp [e] at h), ?_⟩
      exact (List.dropLast_concat_getLast _).symm
    simp only [canon, Bool.and_eq_true, Bool.or_eq_true, decide_eq_true_eq, List.all_append, List.all_cons, List.all_nil, Bool.and_true] at hc
    obtain ⟨⟨-, hd', hd⟩, hh⟩ := hc
    simp only [isDg, decide_eq_true_eq] at hd
    rw [vdA_snoc]
    cases l' with
    | nil =>
      simp only [vdA, List.foldl_nil, Nat.zero_mul, Nat.zero_add, List.nil_append]
      rw [Lib.decDigits, dif_pos (by omega), ofNat_dg hd.1]
    | cons a r =>
      have ha : a ≠ 48 := by
        rcases hh with hh | hh
        · simp at hh
        · intro e; exact hh (by simp [e])
      have hpos := pos_head r a hd' ha
      have hlen : (a :: r).length = n := by simpa using h
      have hcan : canon (a :: r) = true := by
        simp only [canon, Bool.and_eq_true, Bool.or_eq_true, decide_eq_true_eq]
        exact ⟨⟨by simp, hd'⟩, .inr (by simpa using ha)⟩
      have := ih (a :: r) hlen hcan
      rw [Lib.decDigits, dif_neg (by omega), show (vdA 0 (a :: r) * 10 + (c.toNat - 48)) / 10 = vdA 0 (a :: r) by omega, show (vdA 0 (a :: r) * 10 + (c.toNat - 48)) % 10 = c.toNat - 48 by omega, this, ofNat_dg hd.1]
theorem head_app {l : List UInt8} (h : l ≠ []) (r : List UInt8) : (l ++ r).head? = l.head? := by
  cases l with
  | nil => exact absurd rfl h
  | cons a l => rfl
/-- A number's numeral is canonical, and reads as it. -/
theorem canon_of_dec : ∀ (n u : Nat), u ≤ n → canon (Lib.decDigits u) = true ∧ vdA 0 (Lib.decDigits u) = u ∧ (0 < u → (Lib.decDigits u).head? ≠ some 48) := by
  intro n
  induction n with
  | zero =>
    intro u h
    obtain rfl : u = 0 := by omega
    rw [Lib.decDigits, dif_pos (by omega)]
    exact ⟨by decide, by decide, fun h => by omega⟩
  | succ n ih =>
    intro u h
    by_cases hu : u < 10
    · rw [Lib.decDigits, dif_pos hu]
      have ht := toNat_dg hu
      refine ⟨by simp [canon, isDg, ht]; omega, by simp only [vdA, List.foldl_cons, List.foldl_nil, ht]; omega, fun h0 e => ?_⟩
      simp only [List.head?_cons, Option.some.injEq] at e
      rw [e] at ht
      have : (48 : UInt8).toNat = 48 := rfl
      omega
    · obtain ⟨h1, h2, h3⟩ := ih (u / 10) (by omega)
      have h3 := h3 (by omega)
      rw [Lib.decDigits, dif_neg hu]
      have ht := toNat_dg (show u % 10 < 10 by omega)
      have hne : Lib.decDigits (u / 10) ≠ [] := by intro e; rw [e] at h1; simp [canon] at h1
      have hh : (Lib.decDigits (u / 10) ++ [UInt8.ofNat (48 + u % 10)]).head? ≠ some 48 := by rw [head_app hne]; exact h3
      refine ⟨?_, by rw [vdA_snoc, h2, ht]; omega, fun _ => hh⟩
      simp only [canon, Bool.and_eq_true, Bool.or_eq_true, decide_eq_true_eq] at h1 ⊢
      refine ⟨⟨by simp, ?_⟩, .inr hh⟩
      rw [List.all_append, h1.1.2]
      simp [isDg, ht]; omega
theorem parse10_dg : ∀ (l : List UInt8) (acc : Nat), l.all isDg = true → (acc + 1) * 10 ^ l.length ≤ 1000000000000000000 → Lib.parseUint10 acc l = .ok (vdA acc l) := by
  intro l
  induction l with
  | nil => intro acc _ _; rfl
  | cons c l ih =>
    intro acc h hb
    simp only [List.all_cons, Bool.and_eq_true, isDg, decide_eq_true_eq] at h
    rw [List.length_cons, Nat.pow_succ, Nat.mul_comm (10 ^ l.length) 10, ← Nat.mul_assoc] at hb
    have hp : 1 ≤ 10 ^ l.length := Nat.one_le_pow _ _ (by decide)
    have hacc : (acc + 1) * 10 ≤ 1000000000000000000 := Nat.le_trans (Nat.le_mul_of_pos_right _ hp) hb
    simp only [Lib.parseUint10]
    rw [if_pos h.1, if_neg (by omega), if_neg (by omega), vdA_cons]
    refine ih _ (by simpa [isDg] using h.2) (Nat.le_trans (Nat.mul_le_mul_right _ ?_) hb)
    omega
theorem canon_head {c : UInt8} {r : List UInt8} (h : canon (c :: r) = true) : c.toNat ≠ 43 ∧ c.toNat ≠ 45 := by
  simp only [canon, Bool.and_eq_true, List.all_cons, isDg, decide_eq_true_eq] at h
  obtain ⟨⟨-, h, -⟩, -⟩ := h
  omega
theorem atoi_dg {l : List UInt8} (h : canon l = true) (hl : l.length ≤ 17) : Lib.atoiAll l = .ok (vdA 0 l : Nat) := by
  have hd : l.all isDg = true := by simp only [canon, Bool.and_eq_true] at h; exact h.1.2
  have hb : (0 + 1) * 10 ^ l.length ≤ 1000000000000000000 := by
    have := Nat.pow_le_pow_right (n := 10) (by decide) hl
    omega
  have hv := vdA_lt l 0 hd
  cases l with
  | nil => simp [canon] at h
  | cons c r =>
    obtain ⟨h1, h2⟩ := canon_head h
    simp only [Lib.atoiAll]
    rw [if_neg (by omega)]
    simp only [Lib.parseMag, if_neg (List.cons_ne_nil c r)]
    rw [parse10_dg _ _ hd hb]
    simp only
    rw [if_neg (by simp only [not_and]; intro _; omega), if_neg (by omega), if_neg h2]
/-- The number of a word, where it is its own numeral of at most so many digits; else -1. -/
def numOf (N : Nat) (l : List UInt8) : Int := if canon l = true ∧ l.length ≤ N then (vdA 0 l : Nat) else -1
theorem itoa_nat (u : Nat) : Lib.itoa (u : Int) = Lib.decDigits u := by
  unfold Lib.itoa
  rw [if_neg (by omega)]; simp
/-- What both sides tell: reading, then writing. -/
theorem num_back {l : List UInt8} {n : Int} (h0 : 0 ≤ n) (hi : Lib.itoa n = l) : canon l = true ∧ ((vdA 0 l : Nat) : Int) = n := by
  obtain ⟨u, rfl⟩ : ∃ u : Nat, n = u := ⟨n.toNat, by omega⟩
  rw [itoa_nat] at hi
  obtain ⟨h1, h2, -⟩ := canon_of_dec u u (Nat.le_refl _)
  rw [hi] at h1 h2
  exact ⟨h1, by rw [h2]⟩
end Go.Proofs.YtnejoidfbgklbaaGreatDoor
namespace Go.Proofs.YtnejoidfbgklbaaGreatDoor
open Go Go.RowKit Go.Proofs.YtnejoidfbgklbaaGreatDoor.Eng
set_option linter.unusedSimpArgs false
set_option linter.unusedVariables false
set_option maxRecDepth 100000
noncomputable section
theorem size_toList (s : ByteArray) : s.size = s.data.toList.length := by rw [Array.length_toList]; rfl
theorem canon_nd {l : List UInt8} {c : UInt8} (hm : c ∈ l) (h : isDg c = false) : canon l = false := by
  have : l.all isDg = false := List.all_eq_false.2 ⟨c, hm, by simp [h]⟩
  simp [canon, this]
theorem numOf_nd {N : Nat} {l : List UInt8} (h : canon l = false) : numOf N l = -1 := by simp [numOf, h]
theorem canon_of {l : List UInt8} (h1 : l ≠ []) (h2 : l.all isDg = true) (h3 : l.length ≤ 1 ∨ l.head? ≠ some 48) : canon l = true := by
  unfold canon
  rw [h2, decide_eq_true h1]
  rcases h3 with h3 | h3
  · rw [decide_eq_true h3]; rfl
  · rw [decide_eq_true h3]; simp
theorem canon0 {c : UInt8} {r : List UInt8} {N : Nat} (h : c = 48) (h1 : 1 < r.length + 1) : ¬ (canon (c :: r) = true ∧ (c :: r).length ≤ N) := by
  rintro ⟨h2, -⟩
  simp only [canon, Bool.and_eq_true, Bool.or_eq_true, decide_eq_true_eq, List.length_cons, List.head?_cons] at h2
  rcases h2.2 with h3 | h3
  · omega
  · exact of_decide_eq_true h3 (by rw [h])
-- not here: spec_l14Number
end
end Go.Proofs.YtnejoidfbgklbaaGreatDoor
namespace Go.Proofs.YtnejoidfbgklbaaGreatDoor
open Go Go.RowKit Go.Proofs.YtnejoidfbgklbaaGreatDoor.Eng
set_option linter.unusedSimpArgs false
set_option linter.unusedVariables false
set_option maxRecDepth 100000
noncomputable section
theorem str_eq (a b : ByteArray) : (a.toList == b.toList) = decide (a.data.toList = b.data.toList) := by
  have e : ∀ s : ByteArray, s.toList = s.data.toList := fun s => by simp [ByteArray.toList_eq]
  rw [e, e]
  apply bool_eq
  simp only [beq_iff_eq, decide_eq_true_eq]
theorem ok_inoInt : fnOk Tryz.prog cfg0 59 Tryz.f59 = true := by kernel_rfl
theorem p_inoInt (n : Int) : pure Tryz.prog cfg0 59 Tryz.f59 [.v (.int .i64 n)] = some (.agg [.v (.int .i64 n), .v (.int .i64 0)], true) := by
  refine pure_wp (rs := [.cell 2 45]) rfl rfl ?_
  have hp0 : ∀ b, cfg0.pol 59 b = 0 := fun b => rfl
  (have hF := hp0; have hc := trivial; repeat' (first | refine wK ?_ | refine wX ?_ | refine rR ?_ | refine rB ?_ ?_ <;> intro ht <;> try simp only [bbs] at ht | refine rG ?_ ?_ <;> intro hc | refine wQ ?_ | refine rZ ?_))
  all_goals exact ⟨rfl, rfl⟩
theorem c_inoInt (n : Int) : ∀ H, call Tryz.prog cfg0 0 59 [.v (.int .i64 n)] H = some (.agg [.v (.int .i64 n), .v (.int .i64 0)], H) :=
  call_fz Tryz.func59 rfl ok_inoInt rfl (by simp only [fz_cons, fz_nil, go_sem, and_self]) (p_inoInt n)

end
end Go.Proofs.YtnejoidfbgklbaaGreatDoor
namespace Go.Proofs.YtnejoidfbgklbaaGreatDoor
open Go Go.RowKit Go.Proofs.YtnejoidfbgklbaaGreatDoor.Eng
set_option linter.unusedSimpArgs false
set_option linter.unusedVariables false
set_option maxRecDepth 100000
set_option maxHeartbeats 1000000
noncomputable section
def tailOf (a : ByteArray) : List UInt8 := a.data.toList.tail
def svOk (l : List ByteArray) : Bool := match l with
  | [a, b] => decide (b.data.toList = [108, 111, 99, 97, 108]) && decide (a.data.toList.head? = some 115)
  | _ => false
def svNum (l : List ByteArray) : List UInt8 := match l with
  | a :: _ => tailOf a
  | _ => []
def svOf (l : List ByteArray) : Int := if svOk l = true then numOf 2 (svNum l) else -1
theorem extract_list (a : ByteArray) (l h : Nat) : (a.extract l h).data.toList = (a.data.toList.drop l).take (h - l) := by
  rw [ByteArray.data_extract, Array.toList_extract]
theorem extract_tail (a : ByteArray) : (a.extract 1 a.size).data.toList = tailOf a := by
  rw [extract_list, size_toList]
  unfold tailOf
  rw [List.drop_one, List.take_of_length_le]
  rw [List.length_tail]; exact Nat.le_refl _
theorem slice_tail {a : ByteArray} (h : 1 ≤ a.size) (e : Env) (H : Hp) : aslice Tryz.prog H e 9 (.v (.string a)) (some (.const (.int .i64 1))) none none = some (.v (.string (a.extract 1 a.size))) := by
  simp only [aslice, u9, Option.isSome_none, Bool.false_eq_true, if_false, bound, opd_int, natOf]
  rw [if_pos (by omega)]
  simp only [Option.bind_some]
  rw [if_pos ⟨by simpa using h, Nat.le_refl _⟩]; rfl
theorem ok_sl10Service : fnOk Tryz.prog cfg0 56 Tryz.f56 = true := by kernel_rfl
theorem p_sl10Service (l : List ByteArray) : pure Tryz.prog cfg0 56 Tryz.f56 [textsL l] = some (.v (.int .i64 (svOf l)), true) := by
  refine pure_wp (rs := [.tmp 2]) rfl rfl ?_
  have hp0 : ∀ b, cfg0.pol 56 b = 0 := fun b => rfl
  by_cases hl2 : (l.length : Int) = 2
  rotate_left
  · have hno : svOf l = -1 := by
      unfold svOf
      rw [if_neg]
      match l, hl2 with
      | [], _ => simp [svOk]
      | [a], _ => simp [svOk]
      | [a, b], h => exact absurd rfl h
      | a :: b :: c :: r, _ => simp [svOk]
    (have hF := an hp0 <| hl2; have hc := trivial; repeat' (first | refine wK ?_ | refine wX ?_ | refine rR ?_ | refine rB ?_ ?_ <;> intro ht <;> try simp only [bbs] at ht | refine rG ?_ ?_ <;> intro hc | refine rZ ?_ | refine wQ ?_))
    all_goals (refine gives_intv ?_; rw [hno])
  obtain ⟨a, b, hab⟩ : ∃ a b, l = [a, b] := by
    match l, hl2 with
    | [a, b], _ => exact ⟨a, b, rfl⟩
    | [], h => simp at h
    | [a], h => simp at h
    | a :: b :: c :: r, h => simp only [List.length_cons] at h; omega
  have g1 : (l.map fun s => [AV.v (.string s)])[1]? = some [.v (.string b)] := get_text (by rw [hab]; rfl)
  have g0 : (l.map fun s => [AV.v (.string s)])[0]? = some [.v (.string a)] := get_text (by rw [hab]; rfl)
  by_cases hlo : b.data.toList = [108, 111, 99, 97, 108]
  rotate_left
  · have hno : svOf l = -1 := by
      unfold svOf; rw [if_neg]; rw [hab]; simp [svOk, hlo]
    (have hF := an hp0 <| an hl2 <| an textsL.eq_def <| an @List.length_map.{0,0} <| an g1 <| an g0 <| an str_eq <| hlo; have hc := trivial; repeat' (first | refine wK ?_ | refine wX ?_ | refine rR ?_ | refine rB ?_ ?_ <;> intro ht <;> try simp only [bbs] at ht | refine rG ?_ ?_ <;> intro hc | refine rZ ?_ | refine wQ ?_))
    all_goals (refine gives_intv ?_; rw [hno])
  have hz := size_toList a
  generalize hla : a.data.toList = la at hz
  have hsv : svOf l = if la.head? = some 115 then numOf 2 la.tail else -1 := by
    unfold svOf svNum tailOf; rw [hab]; simp only [svOk, hlo, hla, decide_true, Bool.true_and, decide_eq_true_eq]
  by_cases hsz : la.length < 2
  · have hno : svOf l = -1 := by
      rw [hsv]; split
      · unfold numOf; rw [if_neg]
        rintro ⟨h1, -⟩
        have : la.tail = [] := List.length_eq_zero_iff.1 (by rw [List.length_tail]; omega)
        rw [this] at h1; simp [canon] at h1
      · rfl
    have hszI : (a.size : Int) < 2 := by omega
    (have hF := an hp0 <| an hl2 <| an textsL.eq_def <| an @List.length_map.{0,0} <| an g1 <| an g0 <| an str_eq <| an hlo <| hszI; have hc := trivial; repeat' (first | refine wK ?_ | refine wX ?_ | refine rR ?_ | refine rB ?_ ?_ <;> intro ht <;> try simp only [bbs] at ht | refine rG ?_ ?_ <;> intro hc | refine rZ ?_ | refine wQ ?_))
    all_goals (refine gives_intv ?_; rw [hno])
  by_cases hs3 : 3 < la.length
  · have hno : svOf l = -1 := by
      rw [hsv]; split
      · unfold numOf; rw [if_neg]
        rintro ⟨-, h1⟩
        rw [List.length_tail] at h1; omega
      · rfl
    have hszI : ¬ (a.size : Int) < 2 := by omega
    have hs3I : 3 < (a.size : Int) := by omega
    (have hF := an hp0 <| an hl2 <| an textsL.eq_def <| an @List.length_map.{0,0} <| an g1 <| an g0 <| an str_eq <| an hlo <| an hszI <| hs3I; have hc := trivial; repeat' (first | refine wK ?_ | refine wX ?_ | refine rR ?_ | refine rB ?_ ?_ <;> intro ht <;> try simp only [bbs] at ht | refine rG ?_ ?_ <;> intro hc | refine rZ ?_ | refine wQ ?_))
    all_goals (refine gives_intv ?_; rw [hno])
  have hszI : ¬ (a.size : Int) < 2 := by omega
  have hs3I : ¬ 3 < (a.size : Int) := by omega
  obtain ⟨c, r, hcr⟩ : ∃ c r, la = c :: r := by
    cases la with
    | nil => simp at hsz
    | cons c r => exact ⟨c, r, rfl⟩
  have ga : a.data.toList[0]? = some c := by rw [hla, hcr]; rfl
  by_cases hc5 : c = 115
  rotate_left
  · have hno : svOf l = -1 := by
      rw [hsv, hcr]; simp [hc5]
    have hc5I : ¬ (c.toNat : Int) = 115 := by
      intro h; exact hc5 (UInt8.toNat_inj.1 (by have : (115 : UInt8).toNat = 115 := rfl; omega))
    (have hF := an hp0 <| an hl2 <| an textsL.eq_def <| an @List.length_map.{0,0} <| an g1 <| an g0 <| an str_eq <| an hlo <| an hszI <| an hs3I <| an ga <| hc5I; have hc := trivial; repeat' (first | refine wK ?_ | refine wX ?_ | refine rR ?_ | refine rB ?_ ?_ <;> intro ht <;> try simp only [bbs] at ht | refine rG ?_ ?_ <;> intro hc | refine rZ ?_ | refine wQ ?_))
    all_goals (refine gives_intv ?_; rw [hno])
  have hc5I : (c.toNat : Int) = 115 := by rw [hc5]; rfl
  have hsv2 : svOf l = numOf 2 r := by rw [hsv, hcr, hc5]; rfl
  have hrl : r.length + 1 = la.length := by rw [hcr]; rfl
  obtain ⟨d, r2, hdr⟩ : ∃ d r2, r = d :: r2 := by
    cases r with
    | nil => simp at hrl; omega
    | cons c r => exact ⟨c, r, rfl⟩
  have gb : a.data.toList[1]? = some d := by rw [hla, hcr, hdr]; rfl
  by_cases h03 : la.length = 3 ∧ d = 48
  · have hno : svOf l = -1 := by
      rw [hsv2]; unfold numOf; rw [if_neg]
      rw [hdr]; exact canon0 h03.2 (by rw [hdr] at hrl; simp only [List.length_cons] at hrl; omega)
    have e3 : (a.size : Int) = 3 := by omega
    have e48 : (d.toNat : Int) = 48 := by rw [h03.2]; rfl
    (have hF := an hp0 <| an hl2 <| an textsL.eq_def <| an @List.length_map.{0,0} <| an g1 <| an g0 <| an str_eq <| an hlo <| an hszI <| an hs3I <| an ga <| an hc5I <| an gb <| an e3 <| e48; have hc := trivial; repeat' (first | refine wK ?_ | refine wX ?_ | refine rR ?_ | refine rB ?_ ?_ <;> intro ht <;> try simp only [bbs] at ht | refine rG ?_ ?_ <;> intro hc | refine rZ ?_ | refine wQ ?_))
    all_goals (refine gives_intv ?_; rw [hno])
  have hcan : r.length ≤ 1 ∨ r.head? ≠ some 48 := by
    by_cases h3 : la.length = 3
    · right; intro h; rw [hdr] at h; simp at h; exact h03 ⟨h3, h⟩
    · left; omega
  have hd48 : (d.toNat : Int) = 48 → d = 48 := by
    intro h; exact UInt8.toNat_inj.1 (by have : (48 : UInt8).toNat = 48 := rfl; omega)
  (have hF := an hp0 <| an hl2 <| an textsL.eq_def <| an @List.length_map.{0,0} <| an g1 <| an g0 <| an str_eq <| an hlo <| an hszI <| an hs3I <| an ga <| an hc5I <| gb; have hc := trivial; repeat' (first | refine wK ?_ | refine wX ?_ | refine rR ?_ | refine rB ?_ ?_ <;> intro ht <;> try simp only [bbs] at ht | refine rG ?_ ?_ <;> intro hc | refine rZ ?_ | refine wQ ?_))
  all_goals (try simp only [bbs] at *)
  all_goals try (exfalso; first | omega | exact absurd trivial (by assumption) | (have q1 := hd48 (by assumption); exact h03 ⟨by omega, q1⟩))
  all_goals
    refine wLoop (fun k s => ∃ (j : Nat), j + k = r.length ∧ s.1 0 = textsL l ∧ s.1 3 = .v (.string a) ∧ s.1 4 = .v (.int .i64 ((vdA 0 (r.take j) : Nat) : Int)) ∧ s.1 5 = .v (.int .i64 ((j + 1 : Nat) : Int)) ∧ ((r.take j).all isDg = true)) (fun k s hI => ?_) (r.length) _ ?_
    · obtain ⟨e, H⟩ := s
      obtain ⟨j, hj, h0, h3, h4, h5, hd⟩ := hI
      simp only at h0 h3 h4 h5 hd
      have hv := vdA_lt _ 0 hd
      have hv2 : vdA 0 (r.take j) < 100 := by
        have : 10 ^ (r.take j).length ≤ 10 ^ 2 := Nat.pow_le_pow_right (by decide) (by simp only [List.length_take]; omega)
        omega
      by_cases hlt : j < r.length
      · obtain ⟨k, hg, hdr', hm⟩ := at_drop hlt
        have hg' : a.data.toList[j + 1]? = some k := by rw [hla, hcr]; simpa using hg
        have hk := UInt8.toNat_lt k
        have htk : r.take (j + 1) = r.take j ++ [k] := by
          rw [List.take_add_one, hg]; rfl
        by_cases hdg : isDg k = true
        · have hdg' := hdg
          simp only [isDg, decide_eq_true_eq] at hdg'
          have w1 : IntKind.wrap .u8 ((k.toNat : Int) - 48) = (k.toNat : Int) - 48 := wrap_u8 (by omega) (by omega)
          have w2 : IntKind.wrap .i64 ((k.toNat : Int) - 48) = (k.toNat : Int) - 48 := wrap_i64 (by omega) (by omega)
          have w3 : IntKind.wrap .i64 ((vdA 0 (r.take j) : Nat) * 10 : Int) = ((vdA 0 (r.take j) : Nat) * 10 : Int) := wrap_i64 (by omega) (by omega)
          have w4 : IntKind.wrap .i64 (((vdA 0 (r.take j) : Nat) : Int) * 10 + ((k.toNat : Int) - 48)) = ((vdA 0 (r.take (j + 1)) : Nat) : Int) := by
            rw [wrap_i64 (by omega) (by omega), htk, vdA_snoc]; omega
          (have hF := an h0 <| an h3 <| an h4 <| an h5 <| an hp0 <| an hg' <| an w1 <| an w2 <| an w3 <| an w4 <| (wrap_succ (show j + 1 < 9223372036854775807 by omega)); have hc := trivial; repeat' (first | refine wK ?_ | refine wX ?_ | refine rR ?_ | refine rB ?_ ?_ <;> intro ht <;> try simp only [bbs] at ht | refine rG ?_ ?_ <;> intro hc | refine rZ ?_ | refine wQ ?_))
          all_goals first
            | (exfalso; (try simp only [bbs] at *); omega)
            | skip
          have hS := an h0 <| an h3 <| an h4 <| h5; refine ⟨_, Nat.sub_lt (by omega) Nat.one_pos, j + 1, by omega, sl, sl, sl, sl, ?_⟩
          rw [htk, List.all_append, hd]; simp [hdg]
        · have hcf : canon r = false := canon_nd hm (by simpa using hdg)
          have hdg' : ¬ (48 ≤ k.toNat ∧ k.toNat ≤ 57) := by simpa [isDg] using hdg
          (have hF := an h0 <| an h3 <| an h4 <| an h5 <| an hp0 <| hg'; have hc := trivial; repeat' (first | refine wK ?_ | refine wX ?_ | refine rR ?_ | refine rB ?_ ?_ <;> intro ht <;> try simp only [bbs] at ht | refine rG ?_ ?_ <;> intro hc | refine rZ ?_ | refine wQ ?_))
          all_goals first
            | (refine gives_intv ?_; rw [hsv2, numOf_nd hcf]; done)
            | (exfalso; (try simp only [bbs] at *); omega)
      · have hj' : j = r.length := by omega
        (have hF := an h0 <| an h3 <| an h4 <| an h5 <| hp0; have hc := trivial; repeat' (first | refine wK ?_ | refine wX ?_ | refine rR ?_ | refine rB ?_ ?_ <;> intro ht <;> try simp only [bbs] at ht | refine rG ?_ ?_ <;> intro hc | refine rZ ?_ | refine wQ ?_))
        all_goals first
          | (exfalso; (try simp only [bbs] at *); omega)
          | skip
        refine gives_intv ?_
        rw [hj', List.take_length] at hd ⊢
        rw [hsv2]; unfold numOf
        rw [if_pos]
        exact ⟨canon_of (by rw [hdr]; simp) hd hcan, by omega⟩
    · refine ⟨0, by omega, rfl, rfl, rfl, rfl, ?_⟩
      rfl
theorem c_sl10Service (l : List ByteArray) : ∀ H, call Tryz.prog cfg0 0 56 [textsL l] H = some (.v (.int .i64 (svOf l)), H) :=
  call_fz Tryz.func56 rfl ok_sl10Service rfl (by simp only [fz_cons, fz_nil, go_sem, and_self]) (p_sl10Service l)

end
end Go.Proofs.YtnejoidfbgklbaaGreatDoor
namespace Go.Proofs.YtnejoidfbgklbaaGreatDoor
open Go Go.RowKit Go.Proofs.YtnejoidfbgklbaaGreatDoor.Eng
set_option linter.unusedSimpArgs false
set_option linter.unusedVariables false
set_option maxRecDepth 100000
set_option maxHeartbeats 1000000
noncomputable section
def svC (l : List ByteArray) : Int := if svOf l < 0 then 4 else 0
def svV (l : List ByteArray) : Int := if svOf l < 0 then 0 else svOf l
-- not here: spec_ServiceOf
theorem sv_no {l : List ByteArray} (h : svOf l = -1) : svC l = 4 ∧ svV l = 0 := by
  unfold svC svV; rw [h]; exact ⟨rfl, rfl⟩
theorem sv_yes {l : List ByteArray} {n : Int} (h0 : 0 ≤ n) (h : svOf l = n) : svC l = 0 ∧ svV l = n := by
  unfold svC svV; rw [h, if_neg (by omega), if_neg (by omega)]; exact ⟨rfl, rfl⟩
theorem ok_iin : fnOk Tryz.prog cfg0 26 Tryz.f26 = true := by kernel_rfl
theorem p_iin (n a b : Int) : pure Tryz.prog cfg0 26 Tryz.f26 [.v (.int .i64 n), .v (.int .i64 a), .v (.int .i64 b)] = some (.v (.bool (inB n a b)), true) := by
  refine pure_wp (rs := [.tmp 6]) rfl rfl ?_
  have hp0 : ∀ b, cfg0.pol 26 b = 0 := fun b => rfl
  (have hF := hp0; have hc := trivial; repeat' (first | refine wK ?_ | refine wX ?_ | refine rR ?_ | refine rB ?_ ?_ <;> intro ht <;> try simp only [bbs] at ht | refine rG ?_ ?_ <;> intro hc | refine rZ ?_ | refine wQ ?_))
  all_goals (refine gives_boolv ?_; simp_all [inB]; try omega)
theorem c_iin (n a b : Int) : ∀ H, call Tryz.prog cfg0 0 26 [.v (.int .i64 n), .v (.int .i64 a), .v (.int .i64 b)] H = some (.v (.bool (inB n a b)), H) :=
  call_fz Tryz.func26 rfl ok_iin rfl (by simp only [fz_cons, fz_nil, go_sem, and_self]) (p_iin n a b)

theorem num_small {l : List UInt8} {n : Int} (h0 : 0 ≤ n) (h9 : n ≤ 99) (h : Lib.itoa n = l) : numOf 2 l = n := by
  obtain ⟨h1, h2⟩ := num_back h0 h
  have hl : l.length ≤ 2 := by
    obtain ⟨u, rfl⟩ : ∃ u : Nat, n = u := ⟨n.toNat, by omega⟩
    rw [itoa_nat] at h
    by_cases hu : u < 10
    · rw [Lib.decDigits_one hu] at h; rw [← h]; simp
    · rw [Lib.decDigits_two hu (by omega)] at h; rw [← h]; simp
  unfold numOf; rw [if_pos ⟨h1, hl⟩]; exact h2
theorem num_small_no {l : List UInt8} (h : ∀ n : Int, Lib.atoiAll l = .ok n → 0 ≤ n → n ≤ 99 → ¬ Lib.itoa n = l) : numOf 2 l = -1 := by
  unfold numOf; rw [if_neg]
  rintro ⟨h1, h2⟩
  have hd : l.all isDg = true := by simp only [canon, Bool.and_eq_true] at h1; exact h1.1.2
  have hv := vdA_lt l 0 hd
  have : 10 ^ l.length ≤ 10 ^ 2 := Nat.pow_le_pow_right (by decide) h2
  refine h _ (atoi_dg h1 (by omega)) (by omega) (by omega) ?_
  rw [itoa_nat]; exact dec_of_canon _ _ rfl h1
theorem ok_iServiceOf : fnOk Tryz.prog cfg0 18 Tryz.f18 = true := by kernel_rfl
theorem p_iServiceOf (l : List ByteArray) (hk : ∀ z ∈ l, z.size ≤ 1048576) : pure Tryz.prog cfg0 18 Tryz.f18 [textsL l] = some (.agg [.v (.int .i64 (svC l)), .v (.int .i64 (svV l))], true) := by
  refine pure_wp (rs := [.cell 2 45]) rfl rfl ?_
  have hp0 : ∀ b, cfg0.pol 18 b = 0 := fun b => rfl
  by_cases hl2 : (l.length : Int) = 2
  rotate_left
  · have hno : svOf l = -1 := by
      unfold svOf
      rw [if_neg]
      match l, hl2 with
      | [], _ => simp [svOk]
      | [a], _ => simp [svOk]
      | [a, b], h => exact absurd rfl h
      | a :: b :: c :: r, _ => simp [svOk]
    have e := sv_no hno
    (have hF := an hp0 <| an hl2 <| c_inoInt; have hc := trivial; repeat' (first | refine wK ?_ | refine wX ?_ | refine rR ?_ | refine rB ?_ ?_ <;> intro ht <;> try simp only [bbs] at ht | refine rG ?_ ?_ <;> intro hc | refine rZ ?_ | refine wQ ?_))
    all_goals (refine ⟨?_, rfl⟩; rw [e.1, e.2]; rfl)
  obtain ⟨a, b, hab⟩ : ∃ a b, l = [a, b] := by
    match l, hl2 with
    | [a, b], _ => exact ⟨a, b, rfl⟩
    | [], h => simp at h
    | [a], h => simp at h
    | a :: b :: c :: r, h => simp only [List.length_cons] at h; omega
  have g1 : (l.map fun s => [AV.v (.string s)])[1]? = some [.v (.string b)] := get_text (by rw [hab]; rfl)
  have g0 : (l.map fun s => [AV.v (.string s)])[0]? = some [.v (.string a)] := get_text (by rw [hab]; rfl)
  have hka : a.size ≤ 1048576 := hk a (by rw [hab]; simp)
  by_cases hlo : b.data.toList = [108, 111, 99, 97, 108]
  rotate_left
  · have hno : svOf l = -1 := by
      unfold svOf; rw [if_neg]; rw [hab]; simp [svOk, hlo]
    have e := sv_no hno
    (have hF := an hp0 <| an hl2 <| an textsL.eq_def <| an @List.length_map.{0,0} <| an g1 <| an g0 <| an str_eq <| an hlo <| c_inoInt; have hc := trivial; repeat' (first | refine wK ?_ | refine wX ?_ | refine rR ?_ | refine rB ?_ ?_ <;> intro ht <;> try simp only [bbs] at ht | refine rG ?_ ?_ <;> intro hc | refine rZ ?_ | refine wQ ?_))
    all_goals (refine ⟨?_, rfl⟩; rw [e.1, e.2]; rfl)
  have hz := size_toList a
  have hsv : svOf l = if a.data.toList.head? = some 115 then numOf 2 (tailOf a) else -1 := by
    unfold svOf svNum; rw [hab]; simp only [svOk, hlo, decide_true, Bool.true_and, decide_eq_true_eq]
  by_cases hsz : a.size < 2
  · have hno : svOf l = -1 := by
      rw [hsv]; split
      · unfold numOf; rw [if_neg]
        rintro ⟨h1, -⟩
        have : tailOf a = [] := List.length_eq_zero_iff.1 (by unfold tailOf; rw [List.length_tail]; omega)
        rw [this] at h1; simp [canon] at h1
      · rfl
    have hszI : (a.size : Int) < 2 := by omega
    have e := sv_no hno
    (have hF := an hp0 <| an hl2 <| an textsL.eq_def <| an @List.length_map.{0,0} <| an g1 <| an g0 <| an str_eq <| an hlo <| an hszI <| c_inoInt; have hc := trivial; repeat' (first | refine wK ?_ | refine wX ?_ | refine rR ?_ | refine rB ?_ ?_ <;> intro ht <;> try simp only [bbs] at ht | refine rG ?_ ?_ <;> intro hc | refine rZ ?_ | refine wQ ?_))
    all_goals (refine ⟨?_, rfl⟩; rw [e.1, e.2]; rfl)
  have hszI : ¬ (a.size : Int) < 2 := by omega
  obtain ⟨c, r, hcr⟩ : ∃ c r, a.data.toList = c :: r := by
    cases h : a.data.toList with
    | nil => have : a.size = 0 := by rw [hz, h]; rfl
             omega
    | cons c r => exact ⟨c, r, rfl⟩
  have ga : a.data.toList[0]? = some c := by rw [hcr]; rfl
  by_cases hc5 : c = 115
  rotate_left
  · have hno : svOf l = -1 := by
      rw [hsv, hcr]; simp [hc5]
    have hc5I : ¬ (c.toNat : Int) = 115 := by
      intro h; exact hc5 (UInt8.toNat_inj.1 (by have : (115 : UInt8).toNat = 115 := rfl; omega))
    have e := sv_no hno
    (have hF := an hp0 <| an hl2 <| an textsL.eq_def <| an @List.length_map.{0,0} <| an g1 <| an g0 <| an str_eq <| an hlo <| an hszI <| an ga <| an hc5I <| c_inoInt; have hc := trivial; repeat' (first | refine wK ?_ | refine wX ?_ | refine rR ?_ | refine rB ?_ ?_ <;> intro ht <;> try simp only [bbs] at ht | refine rG ?_ ?_ <;> intro hc | refine rZ ?_ | refine wQ ?_))
    all_goals (refine ⟨?_, rfl⟩; rw [e.1, e.2]; rfl)
  have hc5I : (c.toNat : Int) = 115 := by rw [hc5]; rfl
  have hsv2 : svOf l = numOf 2 (tailOf a) := by rw [hsv, hcr, hc5]; rfl
  have hsl := slice_tail (a := a) (by omega)
  have hex := extract_tail a
  have htz : (a.extract 1 a.size).size ≤ 281474976710656 := by
    rw [size_toList, hex]; unfold tailOf; rw [List.length_tail]; omega
  have hat := c_Atoi (a.extract 1 a.size) htz
  rw [hex] at hat
  rcases numEnd_cases (Lib.atoiAll (tailOf a)) with ⟨n, hp⟩ | hp | hp
  · have hb := Lib.atoiAll_bounds hp
    have hn : i64B n := ⟨hb.1, hb.2⟩
    by_cases hin : 0 ≤ n ∧ n ≤ 99
    · have hinB : inB n 0 99 = true := by simp [inB, hin]
      by_cases hit : Lib.itoa n = tailOf a
      · have e := sv_yes hin.1 (hsv2.trans (num_small hin.1 hin.2 hit))
        have hit' : (⟨(Lib.itoa n).toArray⟩ : ByteArray).data.toList = tailOf a := hit
        (have hF := an hp0 <| an hl2 <| an textsL.eq_def <| an @List.length_map.{0,0} <| an g1 <| an g0 <| an str_eq <| an hlo <| an hszI <| an ga <| an hc5I <| an hsl <| an hat <| an hp <| an endT.eq_def <| an c_iin <| an hinB <| an (c_Itoa n hn) <| an itoaT.eq_def <| an hit' <| an hit <| an hex <| c_inoInt; have hc := trivial; repeat' (first | refine wK ?_ | refine wX ?_ | refine rR ?_ | refine rB ?_ ?_ <;> intro ht <;> try simp only [bbs] at ht | refine rG ?_ ?_ <;> intro hc | refine rZ ?_ | refine wQ ?_))
        all_goals first
          | (exfalso; (try simp only [bbs] at *); first | omega | exact absurd trivial (by assumption))
          | (refine ⟨?_, rfl⟩; rw [e.1, e.2]; rfl)
      · have e := sv_no (hsv2.trans (num_small_no fun m hm _ _ => by rw [hp] at hm; obtain rfl := Lib.NumEnd.ok.inj hm; exact hit))
        have hit' : ¬ (⟨(Lib.itoa n).toArray⟩ : ByteArray).data.toList = tailOf a := hit
        (have hF := an hp0 <| an hl2 <| an textsL.eq_def <| an @List.length_map.{0,0} <| an g1 <| an g0 <| an str_eq <| an hlo <| an hszI <| an ga <| an hc5I <| an hsl <| an hat <| an hp <| an endT.eq_def <| an c_iin <| an hinB <| an (c_Itoa n hn) <| an itoaT.eq_def <| an hit' <| an hit <| an hex <| c_inoInt; have hc := trivial; repeat' (first | refine wK ?_ | refine wX ?_ | refine rR ?_ | refine rB ?_ ?_ <;> intro ht <;> try simp only [bbs] at ht | refine rG ?_ ?_ <;> intro hc | refine rZ ?_ | refine wQ ?_))
        all_goals (refine ⟨?_, rfl⟩; rw [e.1, e.2]; rfl)
    · have hinB : inB n 0 99 = false := by simp only [inB, decide_eq_false_iff_not, Bool.and_eq_false_iff, Bool.and_eq_true, decide_eq_true_eq]; omega
      have e := sv_no (hsv2.trans (num_small_no fun m hm h1 h2 => by rw [hp] at hm; obtain rfl := Lib.NumEnd.ok.inj hm; exact absurd ⟨h1, h2⟩ hin))
      (have hF := an hp0 <| an hl2 <| an textsL.eq_def <| an @List.length_map.{0,0} <| an g1 <| an g0 <| an str_eq <| an hlo <| an hszI <| an ga <| an hc5I <| an hsl <| an hat <| an hp <| an endT.eq_def <| an c_iin <| an hinB <| c_inoInt; have hc := trivial; repeat' (first | refine wK ?_ | refine wX ?_ | refine rR ?_ | refine rB ?_ ?_ <;> intro ht <;> try simp only [bbs] at ht | refine rG ?_ ?_ <;> intro hc | refine rZ ?_ | refine wQ ?_))
      all_goals (refine ⟨?_, rfl⟩; rw [e.1, e.2]; rfl)
  · have e := sv_no (hsv2.trans (num_small_no fun m hm _ _ => by rw [hp] at hm; cases hm))
    (have hF := an hp0 <| an hl2 <| an textsL.eq_def <| an @List.length_map.{0,0} <| an g1 <| an g0 <| an str_eq <| an hlo <| an hszI <| an ga <| an hc5I <| an hsl <| an hat <| an hp <| an endT.eq_def <| c_inoInt; have hc := trivial; repeat' (first | refine wK ?_ | refine wX ?_ | refine rR ?_ | refine rB ?_ ?_ <;> intro ht <;> try simp only [bbs] at ht | refine rG ?_ ?_ <;> intro hc | refine rZ ?_ | refine wQ ?_))
    all_goals (refine ⟨?_, rfl⟩; rw [e.1, e.2]; rfl)
  · have e := sv_no (hsv2.trans (num_small_no fun m hm _ _ => by rw [hp] at hm; cases hm))
    (have hF := an hp0 <| an hl2 <| an textsL.eq_def <| an @List.length_map.{0,0} <| an g1 <| an g0 <| an str_eq <| an hlo <| an hszI <| an ga <| an hc5I <| an hsl <| an hat <| an hp <| an endT.eq_def <| c_inoInt; have hc := trivial; repeat' (first | refine wK ?_ | refine wX ?_ | refine rR ?_ | refine rB ?_ ?_ <;> intro ht <;> try simp only [bbs] at ht | refine rG ?_ ?_ <;> intro hc | refine rZ ?_ | refine wQ ?_))
    all_goals (refine ⟨?_, rfl⟩; rw [e.1, e.2]; rfl)
theorem c_iServiceOf (l : List ByteArray) (hk : ∀ z ∈ l, z.size ≤ 1048576) : ∀ H, call Tryz.prog cfg0 0 18 [textsL l] H = some (.agg [.v (.int .i64 (svC l)), .v (.int .i64 (svV l))], H) :=
  call_fz Tryz.func18 rfl ok_iServiceOf rfl (by simp only [fz_cons, fz_nil, go_sem, and_self]) (p_iServiceOf l hk)

end
end Go.Proofs.YtnejoidfbgklbaaGreatDoor
