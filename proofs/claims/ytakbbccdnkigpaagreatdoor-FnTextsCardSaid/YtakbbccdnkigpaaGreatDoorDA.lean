/- Small laws that the texts of services want. Decimal numerals: what is a number's own numeral, and what reads as it. Contracts: the number of a word, both sides. Contracts: NumberOf, both sides. -/
import Derived.Test.YtakbbccdnkigpaaGreatDoorK0
import Derived.Lib.ParseIntBTie
namespace Go.Proofs.YtakbbccdnkigpaaGreatDoor
open Go Go.RowKit Go.Proofs.YtakbbccdnkigpaaGreatDoor.Eng
set_option linter.unusedSimpArgs false
set_option linter.unusedVariables false
noncomputable section
theorem aconv_int {P : Program} {a b : TypeId} {k k1 : IntKind} (h1 : P.underlying a = some (.int k1)) (h2 : P.underlying b = some (.int k)) (H : Hp) (k' : IntKind) (n : Int) : aconv P H a b (.v (.int k' n)) = some (.v (.int k (k.wrap n))) := by simp only [aconv, h1, h2]
theorem wrap8 (z : Int) : IntKind.wrap .u8 z = z % 256 := by simp [IntKind.wrap, IntKind.bits, IntKind.signed]
end
end Go.Proofs.YtakbbccdnkigpaaGreatDoor
namespace Go.Proofs.YtakbbccdnkigpaaGreatDoor
open Go
set_option linter.unusedSimpArgs false
set_option linter.unusedVariables false
/-- The value of digits behind a number. -/
def vdA (acc : Nat) (l : List UInt8) : Nat := l.foldl (fun a c => a * 10 + (c.toNat - 48)) acc
def isDg (c : UInt8) : Bool := decide (48 ≤ c.toNat ∧ c.toNat ≤ 57)
theorem vdA_snoc (acc : Nat) (l : List UInt8) (c : UInt8) : vdA acc (l ++ [c]) = vdA acc l * 10 + (c.toNat - 48) := by simp [vdA]
theorem vdA_cons (acc : Nat) (c : UInt8) (l : List UInt8) : vdA acc (c :: l) = vdA (acc * 10 + (c.toNat - 48)) l := by simp only [vdA, List.foldl_cons]
theorem vdA_le : ∀ (l : List UInt8) (acc : Nat), acc ≤ vdA acc l := by
  intro l
  induction l with
  | nil => intro acc; exact Nat.le_refl _
  | cons c l ih => intro acc; rw [vdA_cons]; exact Nat.le_trans (by omega) (ih _)
theorem vdA_lt : ∀ (l : List UInt8) (acc : Nat), l.all isDg = true → vdA acc l < (acc + 1) * 10 ^ l.length := by
  intro l
  induction l with
  | nil => intro acc _; simp [vdA]
  | cons c l ih =>
    intro acc h
    simp only [List.all_cons, Bool.and_eq_true, isDg, decide_eq_true_eq] at h
    rw [vdA_cons]
    refine Nat.lt_of_lt_of_le (ih _ (by simpa [isDg] using h.2)) ?_
    rw [List.length_cons, Nat.pow_succ, Nat.mul_comm (10 ^ l.length) 10, ← Nat.mul_assoc]
    exact Nat.mul_le_mul_right _ (by omega)
/-- Digits, the first of which is no zero where there are more than one. -/
def canon (l : List UInt8) : Bool := decide (l ≠ []) && l.all isDg && (decide (l.length ≤ 1) || decide (l.head? ≠ some 48))
theorem ofNat_dg {c : UInt8} (h1 : 48 ≤ c.toNat) : UInt8.ofNat (48 + (c.toNat - 48)) = c := by
  rw [show 48 + (c.toNat - 48) = c.toNat by omega]; exact UInt8.ofNat_toNat
theorem toNat_dg {d : Nat} (h : d < 10) : (UInt8.ofNat (48 + d)).toNat = 48 + d := by
  rw [UInt8.toNat_ofNat']; omega
theorem pos_head : ∀ (l : List UInt8) (c : UInt8), (c :: l).all isDg = true → c ≠ 48 → 0 < vdA 0 (c :: l) := by
  intro l c h hc
  simp only [List.all_cons, Bool.and_eq_true, isDg, decide_eq_true_eq] at h
  rw [vdA_cons]
  refine Nat.lt_of_lt_of_le ?_ (vdA_le l _)
  have : c.toNat ≠ 48 := fun e => hc (UInt8.toNat_inj.1 (by simpa using e))
  omega
/-- A canonical numeral is its value's. -/
theorem dec_of_canon : ∀ (n : Nat) (l : List UInt8), l.length = n → canon l = true → Lib.decDigits (vdA 0 l) = l := by
  intro n
  induction n with
  | zero => intro l h hc; have : l = [] := List.length_eq_zero_iff.1 h; subst this; simp [canon] at hc
  | succ n ih =>
    intro l h hc
    obtain ⟨l', c, rfl⟩ : ∃ l' c, l = l' ++ [c] := by
      refine ⟨l.dropLast, l.getLast (by intro e; simp [e] at h), ?_⟩
      exact (List.dropLast_concat_getLast _).symm
    simp only [canon, Bool.and_eq_true, Bool.or_eq_true, decide_eq_true_eq, List.all_append, List.all_cons, List.all_nil, Bool.and_true] at hc
    obtain ⟨⟨-, hd', hd⟩, hh⟩ := hc
    simp only [isDg, decide_eq_true_eq] at hd
    rw [vdA_snoc]
    cases l' with
    | nil =>
      simp only [vdA, List.foldl_nil, Nat.zero_mul, Nat.zero_add, List.nil_append]
      rw [Lib.decDigits, dif_pos (by omega), ofNat_dg hd.1]
    | cons a r =>
      have ha : a ≠ 48 := by
        rcases hh with hh | hh
        · simp at hh
        · intro e; exact hh (by simp [e])
      have hpos := pos_head r a hd' ha
      have hlen : (a :: r).length = n := by simpa using h
      have hcan : canon (a :: r) = true := by
        simp only [canon, Bool.and_eq_true, Bool.or_eq_true, decide_eq_true_eq]
        exact ⟨⟨by simp, hd'⟩, .inr (by simpa using ha)⟩
      have := ih (a :: r) hlen hcan
      rw [Lib.decDigits, dif_neg (by omega), show (vdA 0 (a :: r) * 10 + (c.toNat - 48)) / 10 = vdA 0 (a :: r) by omega, show (vdA 0 (a :: r) * 10 + (c.toNat - 48)) % 10 = c.toNat - 48 by omega, this, ofNat_dg hd.1]
theorem head_app {l : List UInt8} (h : l ≠ []) (r : List UInt8) : (l ++ r).head? = l.head? := by
  cases l with
  | nil => exact absurd rfl h
  | cons a l => rfl
/-- A number's numeral is canonical, and reads as it. -/
theorem canon_of_dec : ∀ (n u : Nat), u ≤ n → canon (Lib.decDigits u) = true ∧ vdA 0 (Lib.decDigits u) = u ∧ (0 < u → (Lib.decDigits u).head? ≠ some 48) := by
  intro n
  induction n with
  | zero =>
    intro u h
    obtain rfl : u = 0 := by omega
    rw [Lib.decDigits, dif_pos (by omega)]
    exact ⟨by decide, by decide, fun h => by omega⟩
  | succ n ih =>
    intro u h
    by_cases hu : u < 10
    · rw [Lib.decDigits, dif_pos hu]
      have ht := toNat_dg hu
      refine ⟨by simp [canon, isDg, ht]; omega, by simp only [vdA, List.foldl_cons, List.foldl_nil, ht]; omega, fun h0 e => ?_⟩
      simp only [List.head?_cons, Option.some.injEq] at e
      rw [e] at ht
      have : (48 : UInt8).toNat = 48 := rfl
      omega
    · obtain ⟨h1, h2, h3⟩ := ih (u / 10) (by omega)
      have h3 := h3 (by omega)
      rw [Lib.decDigits, dif_neg hu]
      have ht := toNat_dg (show u % 10 < 10 by omega)
      have hne : Lib.decDigits (u / 10) ≠ [] := by intro e; rw [e] at h1; simp [canon] at h1
      have hh : (Lib.decDigits (u / 10) ++ [UInt8.ofNat (48 + u % 10)]).head? ≠ some 48 := by rw [head_app hne]; exact h3
      refine ⟨?_, by rw [vdA_snoc, h2, ht]; omega, fun _ => hh⟩
      simp only [canon, Bool.and_eq_true, Bool.or_eq_true, decide_eq_true_eq] at h1 ⊢
      refine ⟨⟨by simp, ?_⟩, .inr hh⟩
      rw [List.all_append, h1.1.2]
      simp [isDg, ht]; omega
/-- Few digits are read as what they are. -/
theorem parseM_dg : ∀ (l : List UInt8) (acc : Nat), l.all isDg = true → (acc + 1) * 10 ^ l.length ≤ 1000000000000000000 → Lib.parseUintM (2 ^ 64 - 1) acc l = .ok (vdA acc l) := by
  intro l
  induction l with
  | nil => intro acc _ _; rfl
  | cons c l ih =>
    intro acc h hb
    simp only [List.all_cons, Bool.and_eq_true, isDg, decide_eq_true_eq] at h
    rw [List.length_cons, Nat.pow_succ, Nat.mul_comm (10 ^ l.length) 10, ← Nat.mul_assoc] at hb
    have hp : 1 ≤ 10 ^ l.length := Nat.one_le_pow _ _ (by decide)
    have hacc : (acc + 1) * 10 ≤ 1000000000000000000 := Nat.le_trans (Nat.le_mul_of_pos_right _ hp) hb
    simp only [Lib.parseUintM]
    rw [if_pos h.1, if_neg (by omega), if_neg (by omega), vdA_cons]
    refine ih _ (by simpa [isDg] using h.2) (Nat.le_trans (Nat.mul_le_mul_right _ ?_) hb)
    omega
theorem canon_head {c : UInt8} {r : List UInt8} (h : canon (c :: r) = true) : c.toNat ≠ 43 ∧ c.toNat ≠ 45 := by
  simp only [canon, Bool.and_eq_true, List.all_cons, isDg, decide_eq_true_eq] at h
  obtain ⟨⟨-, h, -⟩, -⟩ := h
  omega
theorem parseB_dg {l : List UInt8} (h : canon l = true) (hl : l.length ≤ 17) : Lib.parseIntB 64 l = .ok (vdA 0 l : Nat) := by
  have hd : l.all isDg = true := by simp only [canon, Bool.and_eq_true] at h; exact h.1.2
  have hb : (0 + 1) * 10 ^ l.length ≤ 1000000000000000000 := by
    have := Nat.pow_le_pow_right (n := 10) (by decide) hl
    omega
  have hv := vdA_lt l 0 hd
  cases l with
  | nil => simp [canon] at h
  | cons c r =>
    obtain ⟨h1, h2⟩ := canon_head h
    simp only [Lib.parseIntB]
    rw [if_neg (by omega)]
    simp only [Lib.parseUintB, if_neg (List.cons_ne_nil c r)]
    rw [parseM_dg _ _ hd hb]
    simp only
    rw [if_neg (by simp only [not_and]; intro _; simp only [Nat.reduceSub, Nat.reducePow]; omega), if_neg (by omega), if_neg h2]
/-- The number of a word, where it is its own numeral of at most so many digits; else -1. -/
def numOf (N : Nat) (l : List UInt8) : Int := if canon l = true ∧ l.length ≤ N then (vdA 0 l : Nat) else -1
theorem itoa_nat (u : Nat) : Lib.itoa (u : Int) = Lib.decDigits u := by
  unfold Lib.itoa
  rw [if_neg (by omega)]; simp
/-- What both sides tell: reading, then writing. -/
theorem num_back {l : List UInt8} {n : Int} (h0 : 0 ≤ n) (hi : Lib.itoa n = l) : canon l = true ∧ ((vdA 0 l : Nat) : Int) = n := by
  obtain ⟨u, rfl⟩ : ∃ u : Nat, n = u := ⟨n.toNat, by omega⟩
  rw [itoa_nat] at hi
  obtain ⟨h1, h2, -⟩ := canon_of_dec u u (Nat.le_refl _)
  rw [hi] at h1 h2
  exact ⟨h1, by rw [h2]⟩
end Go.Proofs.YtakbbccdnkigpaaGreatDoor
namespace Go.Proofs.YtakbbccdnkigpaaGreatDoor
open Go Go.RowKit Go.Proofs.YtakbbccdnkigpaaGreatDoor.Eng
set_option linter.unusedSimpArgs false
set_option linter.unusedVariables false
set_option maxRecDepth 100000
noncomputable section
theorem size_toList (s : ByteArray) : s.size = s.data.toList.length := by rw [Array.length_toList]; rfl
theorem canon_nd {l : List UInt8} {c : UInt8} (hm : c ∈ l) (h : isDg c = false) : canon l = false := by
  have : l.all isDg = false := List.all_eq_false.2 ⟨c, hm, by simp [h]⟩
  simp [canon, this]
theorem numOf_nd {N : Nat} {l : List UInt8} (h : canon l = false) : numOf N l = -1 := by simp [numOf, h]
theorem canon_of {l : List UInt8} (h1 : l ≠ []) (h2 : l.all isDg = true) (h3 : l.length ≤ 1 ∨ l.head? ≠ some 48) : canon l = true := by
  unfold canon
  rw [h2, decide_eq_true h1]
  rcases h3 with h3 | h3
  · rw [decide_eq_true h3]; rfl
  · rw [decide_eq_true h3]; simp
theorem canon0 {c : UInt8} {r : List UInt8} {N : Nat} (h : c = 48) (h1 : 1 < r.length + 1) : ¬ (canon (c :: r) = true ∧ (c :: r).length ≤ N) := by
  rintro ⟨h2, -⟩
  simp only [canon, Bool.and_eq_true, Bool.or_eq_true, decide_eq_true_eq, List.length_cons, List.head?_cons] at h2
  rcases h2.2 with h3 | h3
  · omega
  · exact of_decide_eq_true h3 (by rw [h])
theorem ok_sl14Number : fnOk Tryz.prog cfg0 55 Tryz.f55 = true := by kernel_rfl
theorem p_sl14Number (z : ByteArray) : pure Tryz.prog cfg0 55 Tryz.f55 [.v (.string z)] = some (.v (.int .i64 (numOf 7 z.data.toList)), true) := by
  refine pure_wp (rs := [.tmp 2]) rfl rfl ?_
  have hp0 : ∀ b, cfg0.pol 55 b = 0 := fun b => rfl
  have hsz := size_toList z
  generalize hl : z.data.toList = l at hsz ⊢
  by_cases hne : l = []
  · subst hne
    have hsz' : (z.size : Int) = 0 := by rw [hsz]; rfl
    repeat' (first | ((first | refine wSeqr ?_ | refine wIf ?_ | refine wReg ?_ | (refine wRet ?_; (try simp only [thenQ, blockQ]); refine ends_by ?_)); intro xx hx; have hc := trivial; (repeat' (simp only [hc, Nat.reduceBEq, go_sem, Nat.reduceAdd, Nat.reduceMul, Nat.reduceSub, Nat.reduceEqDiff, Nat.reduceLT, Nat.reduceLeDiff, Int.reduceEq, Int.reduceLT, Int.reduceLE, reduceIte, aresults, aresult, hp0, hsz', hl] at hx; (try (rw [guardL_if] at hx; split at hx <;> rename_i hc)))); all_goals (subst hx; first | (refine ⟨_, rfl, fun ht => ?_, fun ht => ?_⟩ <;> (try simp only [bbs] at ht)) | (refine ⟨_, rfl, ?_⟩; (try simp only [tupOf])))) | refine wSkip ?_ | (refine wExit ?_; simp only [thenQ, blockQ, reduceIte, Nat.reduceEqDiff]) | refine wSeq ?_ | refine wBlock ?_)
    all_goals (refine gives_intv ?_; rfl)
  · obtain ⟨c, r, hcr⟩ := List.exists_cons_of_ne_nil hne
    have hln : l.length = r.length + 1 := by rw [hcr]; rfl
    have g0 : z.data.toList[0]? = some c := by rw [hl, hcr]; rfl
    have h48 : (c.toNat : Int) = 48 → c = 48 := by
      intro h; exact UInt8.toNat_inj.1 (by have : (48 : UInt8).toNat = 48 := rfl; omega)
    repeat' (first | ((first | refine wSeqr ?_ | refine wIf ?_ | refine wReg ?_ | (refine wRet ?_; (try simp only [thenQ, blockQ]); refine ends_by ?_)); intro xx hx; have hc := trivial; (repeat' (simp only [hc, Nat.reduceBEq, go_sem, Nat.reduceAdd, Nat.reduceMul, Nat.reduceSub, Nat.reduceEqDiff, Nat.reduceLT, Nat.reduceLeDiff, Int.reduceEq, Int.reduceLT, Int.reduceLE, reduceIte, aresults, aresult, hp0, hsz, g0] at hx; (try (rw [guardL_if] at hx; split at hx <;> rename_i hc)))); all_goals (subst hx; first | (refine ⟨_, rfl, fun ht => ?_, fun ht => ?_⟩ <;> (try simp only [bbs] at ht)) | (refine ⟨_, rfl, ?_⟩; (try simp only [tupOf])))) | refine wSkip ?_ | (refine wExit ?_; simp only [thenQ, blockQ, reduceIte, Nat.reduceEqDiff]) | refine wSeq ?_ | refine wBlock ?_)
    all_goals (try simp only [bbs] at *)
    all_goals try (exfalso; omega)
    all_goals try (refine gives_intv ?_; unfold numOf; rw [if_neg]; first
      | (omega)
      | (have h4 := h48 (by assumption); rw [hcr]; exact canon0 h4 (by omega)))
    all_goals
      have hcan : l.length ≤ 1 ∨ l.head? ≠ some 48 := by
        first
        | (left; omega)
        | (right; intro h; rw [hcr] at h; simp only [List.head?_cons, Option.some.injEq] at h; subst h; exact absurd (show ((48 : UInt8).toNat : Int) = 48 from rfl) (by assumption))
      have hlen : l.length ≤ 7 := by omega
      refine wLoop (fun k s => ∃ (j : Nat), j + k = l.length ∧ s.1 0 = .v (.string z) ∧ s.1 3 = .v (.int .i64 ((vdA 0 (l.take j) : Nat) : Int)) ∧ s.1 4 = .v (.int .i64 (j : Nat)) ∧ ((l.take j).all isDg = true)) (fun k s hI => ?_) (l.length) _ ?_
      · obtain ⟨e, H⟩ := s
        obtain ⟨j, hj, h0, h3, h4, hd⟩ := hI
        simp only at h0 h3 h4 hd
        have hv := vdA_lt _ 0 hd
        have hv2 : vdA 0 (l.take j) < 10000000 := by
          have : 10 ^ (l.take j).length ≤ 10 ^ 7 := Nat.pow_le_pow_right (by decide) (by simp only [List.length_take]; omega)
          omega
        by_cases hlt : j < l.length
        · obtain ⟨k, hg, hdr, hm⟩ := at_drop hlt
          have hg' : z.data.toList[j]? = some k := by rw [hl]; exact hg
          have hk := UInt8.toNat_lt k
          have htk : l.take (j + 1) = l.take j ++ [k] := by
            rw [List.take_add_one, hg]; rfl
          have w1 : 48 ≤ k.toNat → IntKind.wrap .u8 ((k.toNat : Int) - 48) = (k.toNat : Int) - 48 := fun h => wrap_u8 (by omega) (by omega)
          by_cases hdg : isDg k = true
          · have hdg' := hdg
            simp only [isDg, decide_eq_true_eq] at hdg'
            have w1' := w1 hdg'.1
            have w2 : IntKind.wrap .i64 ((k.toNat : Int) - 48) = (k.toNat : Int) - 48 := wrap_i64 (by omega) (by omega)
            have w3 : IntKind.wrap .i64 ((vdA 0 (l.take j) : Nat) * 10 : Int) = ((vdA 0 (l.take j) : Nat) * 10 : Int) := wrap_i64 (by omega) (by omega)
            have w4 : IntKind.wrap .i64 (((vdA 0 (l.take j) : Nat) : Int) * 10 + ((k.toNat : Int) - 48)) = ((vdA 0 (l.take (j + 1)) : Nat) : Int) := by
              rw [wrap_i64 (by omega) (by omega), htk, vdA_snoc]; omega
            repeat' (first | ((first | refine wSeqr ?_ | refine wIf ?_ | refine wReg ?_ | (refine wRet ?_; (try simp only [thenQ, blockQ]); refine ends_by ?_)); intro xx hx; have hc := trivial; (repeat' (simp only [hc, Nat.reduceBEq, go_sem, Nat.reduceAdd, Nat.reduceMul, Nat.reduceSub, Nat.reduceEqDiff, Nat.reduceLT, Nat.reduceLeDiff, Int.reduceEq, Int.reduceLT, Int.reduceLE, reduceIte, aresults, aresult, h0, h3, h4, hp0, hsz, hg', w1', w2, w3, w4, wrap_succ (show j < 9223372036854775807 by omega)] at hx; (try (rw [guardL_if] at hx; split at hx <;> rename_i hc)))); all_goals (subst hx; first | (refine ⟨_, rfl, fun ht => ?_, fun ht => ?_⟩ <;> (try simp only [bbs] at ht)) | (refine ⟨_, rfl, ?_⟩; (try simp only [tupOf])))) | refine wSkip ?_ | (refine wExit ?_; simp only [thenQ, blockQ, reduceIte, Nat.reduceEqDiff]) | refine wSeq ?_ | refine wBlock ?_)
            all_goals first
              | (exfalso; (try simp only [bbs] at *); omega)
              | skip
            refine ⟨_, Nat.sub_lt (by omega) Nat.one_pos, j + 1, by omega, by simp only [upd_eq, Nat.reduceEqDiff, if_false, if_true, h0, h3, h4], by simp only [upd_eq, Nat.reduceEqDiff, if_false, if_true, h0, h3, h4], by simp only [upd_eq, Nat.reduceEqDiff, if_false, if_true, h0, h3, h4], ?_⟩
            rw [htk, List.all_append, hd]; simp [hdg]
          · have hcf : canon l = false := canon_nd hm (by simpa using hdg)
            have hdg' : ¬ (48 ≤ k.toNat ∧ k.toNat ≤ 57) := by simpa [isDg] using hdg
            repeat' (first | ((first | refine wSeqr ?_ | refine wIf ?_ | refine wReg ?_ | (refine wRet ?_; (try simp only [thenQ, blockQ]); refine ends_by ?_)); intro xx hx; have hc := trivial; (repeat' (simp only [hc, Nat.reduceBEq, go_sem, Nat.reduceAdd, Nat.reduceMul, Nat.reduceSub, Nat.reduceEqDiff, Nat.reduceLT, Nat.reduceLeDiff, Int.reduceEq, Int.reduceLT, Int.reduceLE, reduceIte, aresults, aresult, h0, h3, h4, hp0, hsz, hg'] at hx; (try (rw [guardL_if] at hx; split at hx <;> rename_i hc)))); all_goals (subst hx; first | (refine ⟨_, rfl, fun ht => ?_, fun ht => ?_⟩ <;> (try simp only [bbs] at ht)) | (refine ⟨_, rfl, ?_⟩; (try simp only [tupOf])))) | refine wSkip ?_ | (refine wExit ?_; simp only [thenQ, blockQ, reduceIte, Nat.reduceEqDiff]) | refine wSeq ?_ | refine wBlock ?_)
            all_goals first
              | (refine gives_intv ?_; rw [numOf_nd hcf]; done)
              | (exfalso; (try simp only [bbs] at *); omega)
        · have hj' : j = l.length := by omega
          repeat' (first | ((first | refine wSeqr ?_ | refine wIf ?_ | refine wReg ?_ | (refine wRet ?_; (try simp only [thenQ, blockQ]); refine ends_by ?_)); intro xx hx; have hc := trivial; (repeat' (simp only [hc, Nat.reduceBEq, go_sem, Nat.reduceAdd, Nat.reduceMul, Nat.reduceSub, Nat.reduceEqDiff, Nat.reduceLT, Nat.reduceLeDiff, Int.reduceEq, Int.reduceLT, Int.reduceLE, reduceIte, aresults, aresult, h0, h3, h4, hp0, hsz] at hx; (try (rw [guardL_if] at hx; split at hx <;> rename_i hc)))); all_goals (subst hx; first | (refine ⟨_, rfl, fun ht => ?_, fun ht => ?_⟩ <;> (try simp only [bbs] at ht)) | (refine ⟨_, rfl, ?_⟩; (try simp only [tupOf])))) | refine wSkip ?_ | (refine wExit ?_; simp only [thenQ, blockQ, reduceIte, Nat.reduceEqDiff]) | refine wSeq ?_ | refine wBlock ?_)
          all_goals first
            | (exfalso; (try simp only [bbs] at *); omega)
            | skip
          refine gives_intv ?_
          rw [hj', List.take_length] at hd ⊢
          unfold numOf
          rw [if_pos]
          refine ⟨?_, hlen⟩
          exact canon_of hne hd hcan
      · refine ⟨0, by omega, rfl, rfl, rfl, ?_⟩
        rfl
theorem c_sl14Number (z : ByteArray) : ∀ H, call Tryz.prog cfg0 0 55 [.v (.string z)] H = some (.v (.int .i64 (numOf 7 z.data.toList)), H) :=
  call_fz Tryz.func55 rfl ok_sl14Number rfl (by simp only [fz_cons, fz_nil, go_sem, and_self]) (p_sl14Number z)

end
end Go.Proofs.YtakbbccdnkigpaaGreatDoor
namespace Go.Proofs.YtakbbccdnkigpaaGreatDoor
open Go Go.RowKit Go.Proofs.YtakbbccdnkigpaaGreatDoor.Eng
set_option linter.unusedSimpArgs false
set_option linter.unusedVariables false
set_option maxRecDepth 100000
noncomputable section
theorem str_eq (a b : ByteArray) : (a.toList == b.toList) = decide (a.data.toList = b.data.toList) := by
  have e : ∀ s : ByteArray, s.toList = s.data.toList := fun s => by simp [ByteArray.toList_eq]
  rw [e, e]
  apply bool_eq
  simp only [beq_iff_eq, decide_eq_true_eq]
def textOf (n : Int) : ByteArray := ⟨(Lib.itoa n).toArray⟩
theorem textOf_list (n : Int) : (textOf n).data.toList = Lib.itoa n := rfl
theorem ok_idigits : fnOk Tryz.prog cfg0 48 Tryz.f48 = true := by kernel_rfl
theorem p_idigits (n : Int) (hn : i64B n) : pure Tryz.prog cfg0 48 Tryz.f48 [.v (.int .i64 n)] = some (.v (.string (textOf n)), true) := by
  refine pure_wp (rs := [.tmp 2]) rfl rfl ?_
  have hp0 : ∀ b, cfg0.pol 48 b = 0 := fun b => rfl
  repeat' (first | ((first | refine wSeqr ?_ | refine wIf ?_ | refine wReg ?_ | (refine wRet ?_; (try simp only [thenQ, blockQ]); refine ends_by ?_)); intro xx hx; have hc := trivial; (repeat' (simp only [hc, Nat.reduceBEq, go_sem, Nat.reduceAdd, Nat.reduceMul, Nat.reduceSub, Nat.reduceEqDiff, Nat.reduceLT, Nat.reduceLeDiff, Int.reduceEq, Int.reduceLT, Int.reduceLE, reduceIte, aresults, aresult, hp0, c_FormatInt n hn] at hx; (try (rw [guardL_if] at hx; split at hx <;> rename_i hc)))); all_goals (subst hx; first | (refine ⟨_, rfl, fun ht => ?_, fun ht => ?_⟩ <;> (try simp only [bbs] at ht)) | (refine ⟨_, rfl, ?_⟩; (try simp only [tupOf])))) | refine wSkip ?_ | (refine wExit ?_; simp only [thenQ, blockQ, reduceIte, Nat.reduceEqDiff]) | refine wSeq ?_ | refine wBlock ?_)
  all_goals exact ⟨rfl, rfl⟩
theorem c_idigits (n : Int) (hn : i64B n) : ∀ H, call Tryz.prog cfg0 0 48 [.v (.int .i64 n)] H = some (.v (.string (textOf n)), H) :=
  call_fz Tryz.func48 rfl ok_idigits rfl (by simp only [fz_cons, fz_nil, go_sem, and_self]) (p_idigits n hn)

theorem ok_inoInt : fnOk Tryz.prog cfg0 54 Tryz.f54 = true := by kernel_rfl
theorem p_inoInt (n : Int) : pure Tryz.prog cfg0 54 Tryz.f54 [.v (.int .i64 n)] = some (.agg [.v (.int .i64 n), .v (.int .i64 0)], true) := by
  refine pure_wp (rs := [.cell 2 51]) rfl rfl ?_
  have hp0 : ∀ b, cfg0.pol 54 b = 0 := fun b => rfl
  repeat' (first | ((first | refine wSeqr ?_ | refine wIf ?_ | refine wReg ?_ | (refine wRet ?_; (try simp only [thenQ, blockQ]); refine ends_by ?_)); intro xx hx; have hc := trivial; (repeat' (simp only [hc, Nat.reduceBEq, go_sem, Nat.reduceAdd, Nat.reduceMul, Nat.reduceSub, Nat.reduceEqDiff, Nat.reduceLT, Nat.reduceLeDiff, Int.reduceEq, Int.reduceLT, Int.reduceLE, reduceIte, aresults, aresult, hp0] at hx; (try (rw [guardL_if] at hx; split at hx <;> rename_i hc)))); all_goals (subst hx; first | (refine ⟨_, rfl, fun ht => ?_, fun ht => ?_⟩ <;> (try simp only [bbs] at ht)) | (refine ⟨_, rfl, ?_⟩; (try simp only [tupOf])))) | refine wSkip ?_ | (refine wExit ?_; simp only [thenQ, blockQ, reduceIte, Nat.reduceEqDiff]) | refine wSeq ?_ | refine wBlock ?_)
  all_goals exact ⟨rfl, rfl⟩
theorem c_inoInt (n : Int) : ∀ H, call Tryz.prog cfg0 0 54 [.v (.int .i64 n)] H = some (.agg [.v (.int .i64 n), .v (.int .i64 0)], H) :=
  call_fz Tryz.func54 rfl ok_inoInt rfl (by simp only [fz_cons, fz_nil, go_sem, and_self]) (p_inoInt n)

def numC (N : Nat) (k : Int) (l : List UInt8) : Int := if numOf N l < 0 then k else 0
def numV (N : Nat) (l : List UInt8) : Int := if numOf N l < 0 then 0 else numOf N l
theorem num_no {N : Nat} {k : Int} {l : List UInt8} (h : ¬ (canon l = true ∧ l.length ≤ N)) : numC N k l = k ∧ numV N l = 0 := by
  have : numOf N l = -1 := by unfold numOf; rw [if_neg h]
  unfold numC numV
  rw [this]; exact ⟨rfl, rfl⟩
theorem num_yes {N : Nat} {k : Int} {l : List UInt8} (h : canon l = true ∧ l.length ≤ N) : numC N k l = 0 ∧ numV N l = (vdA 0 l : Nat) := by
  have : numOf N l = (vdA 0 l : Nat) := by unfold numOf; rw [if_pos h]
  unfold numC numV
  rw [this, if_neg (by omega), if_neg (by omega)]; exact ⟨rfl, rfl⟩
theorem ok_sNumberOf : fnOk Tryz.prog cfg0 24 Tryz.f24 = true := by kernel_rfl
theorem p_sNumberOf (z : ByteArray) : pure Tryz.prog cfg0 24 Tryz.f24 [.v (.string z)] = some (.agg [.v (.int .i64 (numC 7 5 z.data.toList)), .v (.int .i64 (numV 7 z.data.toList))], true) := by
  refine pure_wp (rs := [.cell 2 51]) rfl rfl ?_
  have hp0 : ∀ b, cfg0.pol 24 b = 0 := fun b => rfl
  repeat' (first | ((first | refine wSeqr ?_ | refine wIf ?_ | refine wReg ?_ | (refine wRet ?_; (try simp only [thenQ, blockQ]); refine ends_by ?_)); intro xx hx; have hc := trivial; (repeat' (simp only [hc, Nat.reduceBEq, go_sem, Nat.reduceAdd, Nat.reduceMul, Nat.reduceSub, Nat.reduceEqDiff, Nat.reduceLT, Nat.reduceLeDiff, Int.reduceEq, Int.reduceLT, Int.reduceLE, reduceIte, aresults, aresult, hp0, c_sl14Number] at hx; (try (rw [guardL_if] at hx; split at hx <;> rename_i hc)))); all_goals (subst hx; first | (refine ⟨_, rfl, fun ht => ?_, fun ht => ?_⟩ <;> (try simp only [bbs] at ht)) | (refine ⟨_, rfl, ?_⟩; (try simp only [tupOf])))) | refine wSkip ?_ | (refine wExit ?_; simp only [thenQ, blockQ, reduceIte, Nat.reduceEqDiff]) | refine wSeq ?_ | refine wBlock ?_)
  all_goals (refine ⟨?_, rfl⟩; unfold numC numV)
  · rw [if_pos (by assumption), if_pos (by assumption)]; rfl
  · rw [if_neg (by assumption), if_neg (by assumption)]; rfl
theorem c_sNumberOf (z : ByteArray) : ∀ H, call Tryz.prog cfg0 0 24 [.v (.string z)] H = some (.agg [.v (.int .i64 (numC 7 5 z.data.toList)), .v (.int .i64 (numV 7 z.data.toList))], H) :=
  call_fz Tryz.func24 rfl ok_sNumberOf rfl (by simp only [fz_cons, fz_nil, go_sem, and_self]) (p_sNumberOf z)

theorem num_end {z : ByteArray} {n : Int} {k : Int} (h0 : ¬ n < 0) (h7 : ¬ 7 < (z.size : Int)) (h : (textOf n).data.toList = z.data.toList) : numC 7 k z.data.toList = 0 ∧ numV 7 z.data.toList = n := by
  rw [textOf_list] at h
  obtain ⟨h1, h2⟩ := num_back (by omega) h
  obtain ⟨h3, h4⟩ := num_yes (N := 7) (k := k) ⟨h1, by rw [← size_toList]; omega⟩
  exact ⟨h3, h4.trans h2⟩
theorem num_ne {z : ByteArray} {n : Int} {k : Int} (hp : Lib.parseIntB 64 z.data.toList = .ok n) (h : ¬ (textOf n).data.toList = z.data.toList) : numC 7 k z.data.toList = k ∧ numV 7 z.data.toList = 0 := by
  refine num_no ?_
  rintro ⟨h1, h2⟩
  rw [parseB_dg h1 (by omega)] at hp
  simp only [Lib.NumEnd.ok.injEq] at hp
  refine h ?_
  rw [textOf_list, ← hp, itoa_nat]
  exact dec_of_canon _ _ rfl h1
theorem ok_iNumberOf : fnOk Tryz.prog cfg0 23 Tryz.f23 = true := by kernel_rfl
theorem p_iNumberOf (z : ByteArray) (hz : z.size ≤ 1048576) : pure Tryz.prog cfg0 23 Tryz.f23 [.v (.string z)] = some (.agg [.v (.int .i64 (numC 7 5 z.data.toList)), .v (.int .i64 (numV 7 z.data.toList))], true) := by
  refine pure_wp (rs := [.cell 2 51]) rfl rfl ?_
  have hp0 : ∀ b, cfg0.pol 23 b = 0 := fun b => rfl
  have hcp := c_ParseInt z (by omega)
  rcases numEnd_cases (Lib.parseIntB 64 z.data.toList) with ⟨n, hp⟩ | hp | hp
  · skip
    have hb := Lib.parseIntB_bounds hp
    have hn : i64B n := by unfold i64B; simp only [Nat.reduceSub, Nat.reducePow] at hb; omega
    have h0n : n < 0 → numC 7 5 z.data.toList = 5 ∧ numV 7 z.data.toList = 0 := by
      intro h
      refine num_no ?_
      rintro ⟨h1, h2⟩
      rw [parseB_dg h1 (by omega)] at hp
      simp only [Lib.NumEnd.ok.injEq] at hp
      omega
    have h7n : 7 < (z.size : Int) → numC 7 5 z.data.toList = 5 ∧ numV 7 z.data.toList = 0 := by
      intro h
      refine num_no ?_
      rintro ⟨h1, h2⟩
      rw [← size_toList] at h2; omega
    repeat' (first | ((first | refine wSeqr ?_ | refine wIf ?_ | refine wReg ?_ | (refine wRet ?_; (try simp only [thenQ, blockQ]); refine ends_by ?_)); intro xx hx; have hc := trivial; (repeat' (simp only [hc, Nat.reduceBEq, go_sem, Nat.reduceAdd, Nat.reduceMul, Nat.reduceSub, Nat.reduceEqDiff, Nat.reduceLT, Nat.reduceLeDiff, Int.reduceEq, Int.reduceLT, Int.reduceLE, reduceIte, aresults, aresult, hp0, hcp, hp, endT, c_idigits n hn, c_inoInt, str_eq] at hx; (try (rw [guardL_if] at hx; split at hx <;> rename_i hc)))); all_goals (subst hx; first | (refine ⟨_, rfl, fun ht => ?_, fun ht => ?_⟩ <;> (try simp only [bbs] at ht)) | (refine ⟨_, rfl, ?_⟩; (try simp only [tupOf])))) | refine wSkip ?_ | (refine wExit ?_; simp only [thenQ, blockQ, reduceIte, Nat.reduceEqDiff]) | refine wSeq ?_ | refine wBlock ?_)
    all_goals (refine ⟨?_, rfl⟩)
    all_goals (try simp only [bbs] at *)
    all_goals first
      | (have e := h0n (by assumption); rw [e.1, e.2]; rfl)
      | (have e := h7n (by assumption); rw [e.1, e.2]; rfl)
      | (have e := num_ne (k := 5) hp (by assumption); rw [e.1, e.2]; rfl)
      | (have e := num_end (k := 5) (by assumption) (by assumption) (by assumption); rw [e.1, e.2]; rfl)
  · skip
    have e : numC 7 5 z.data.toList = 5 ∧ numV 7 z.data.toList = 0 := by
      refine num_no ?_
      rintro ⟨h1, h2⟩
      rw [parseB_dg h1 (by omega)] at hp
      cases hp
    repeat' (first | ((first | refine wSeqr ?_ | refine wIf ?_ | refine wReg ?_ | (refine wRet ?_; (try simp only [thenQ, blockQ]); refine ends_by ?_)); intro xx hx; have hc := trivial; (repeat' (simp only [hc, Nat.reduceBEq, go_sem, Nat.reduceAdd, Nat.reduceMul, Nat.reduceSub, Nat.reduceEqDiff, Nat.reduceLT, Nat.reduceLeDiff, Int.reduceEq, Int.reduceLT, Int.reduceLE, reduceIte, aresults, aresult, hp0, hcp, hp, endT, c_inoInt] at hx; (try (rw [guardL_if] at hx; split at hx <;> rename_i hc)))); all_goals (subst hx; first | (refine ⟨_, rfl, fun ht => ?_, fun ht => ?_⟩ <;> (try simp only [bbs] at ht)) | (refine ⟨_, rfl, ?_⟩; (try simp only [tupOf])))) | refine wSkip ?_ | (refine wExit ?_; simp only [thenQ, blockQ, reduceIte, Nat.reduceEqDiff]) | refine wSeq ?_ | refine wBlock ?_)
    all_goals (refine ⟨?_, rfl⟩; rw [e.1, e.2]; rfl)
  · skip
    have e : numC 7 5 z.data.toList = 5 ∧ numV 7 z.data.toList = 0 := by
      refine num_no ?_
      rintro ⟨h1, h2⟩
      rw [parseB_dg h1 (by omega)] at hp
      cases hp
    repeat' (first | ((first | refine wSeqr ?_ | refine wIf ?_ | refine wReg ?_ | (refine wRet ?_; (try simp only [thenQ, blockQ]); refine ends_by ?_)); intro xx hx; have hc := trivial; (repeat' (simp only [hc, Nat.reduceBEq, go_sem, Nat.reduceAdd, Nat.reduceMul, Nat.reduceSub, Nat.reduceEqDiff, Nat.reduceLT, Nat.reduceLeDiff, Int.reduceEq, Int.reduceLT, Int.reduceLE, reduceIte, aresults, aresult, hp0, hcp, hp, endT, c_inoInt] at hx; (try (rw [guardL_if] at hx; split at hx <;> rename_i hc)))); all_goals (subst hx; first | (refine ⟨_, rfl, fun ht => ?_, fun ht => ?_⟩ <;> (try simp only [bbs] at ht)) | (refine ⟨_, rfl, ?_⟩; (try simp only [tupOf])))) | refine wSkip ?_ | (refine wExit ?_; simp only [thenQ, blockQ, reduceIte, Nat.reduceEqDiff]) | refine wSeq ?_ | refine wBlock ?_)
    all_goals (refine ⟨?_, rfl⟩; rw [e.1, e.2]; rfl)
theorem c_iNumberOf (z : ByteArray) (hz : z.size ≤ 1048576) : ∀ H, call Tryz.prog cfg0 0 23 [.v (.string z)] H = some (.agg [.v (.int .i64 (numC 7 5 z.data.toList)), .v (.int .i64 (numV 7 z.data.toList))], H) :=
  call_fz Tryz.func23 rfl ok_iNumberOf rfl (by simp only [fz_cons, fz_nil, go_sem, and_self]) (p_iNumberOf z hz)

end
end Go.Proofs.YtakbbccdnkigpaaGreatDoor
