/- The contracts of small functions of the laws. -/
import Derived.Test.YtbjcffiaapobpaaF
namespace Go.Proofs.Ytbjcffiaapobpaa
open Go Go.RowKit Go.Proofs.Ytbjcffiaapobpaa.Eng
set_option linter.unusedSimpArgs false
noncomputable section
def cfg0 : Cfg := ⟨fun _ _ => 0, fun _ => false, fun _ => none⟩

theorem ok11 : fnOk Try.prog cfg0 11 Try.f11 = true := by kernel_rfl
theorem p11 (a b : Int) (s t : ByteArray) : pure Try.prog cfg0 11 Try.f11 [.agg [.v (.int .i64 a), .v (.string s)], .agg [.v (.int .i64 b), .v (.string t)]] = some (.v (.bool (decide (a = b) && s.toList == t.toList)), true) := by
  refine pure_wp rfl rfl ?_
  refine wSeqr (fun x hx => ?_); simp only [go_sem, Nat.reduceAdd, Nat.reduceMul, Nat.reduceSub, Nat.reduceEqDiff, Nat.reduceLT, Nat.reduceLeDiff, Int.reduceEq, Int.reduceLT, Int.reduceLE, reduceIte, Nat.add_zero, Nat.zero_add, Nat.mul_one] at hx; subst hx; refine ⟨_, rfl, ?_⟩
  refine wSeq (wSeqr ?_); refine (fun x hx => ?_); simp only [go_sem, Nat.reduceAdd, Nat.reduceMul, Nat.reduceSub, Nat.reduceEqDiff, Nat.reduceLT, Nat.reduceLeDiff, Int.reduceEq, Int.reduceLT, Int.reduceLE, reduceIte, Nat.add_zero, Nat.zero_add, Nat.mul_one] at hx; subst hx; refine ⟨_, rfl, ?_⟩
  refine wIf (fun y hy => ?_); simp only [go_sem, Nat.reduceAdd, Nat.reduceMul, Nat.reduceSub, Nat.reduceEqDiff, Nat.reduceLT, Nat.reduceLeDiff, Int.reduceEq, Int.reduceLT, Int.reduceLE, reduceIte, Nat.add_zero, Nat.zero_add, Nat.mul_one] at hy; subst hy; refine ⟨_, rfl, fun ht => ?_, fun hf => ?_⟩
  · simp only [decide_eq_true_eq] at ht
    refine wSeqr (fun x hx => ?_); simp only [go_sem, Nat.reduceAdd, Nat.reduceMul, Nat.reduceSub, Nat.reduceEqDiff, Nat.reduceLT, Nat.reduceLeDiff, Int.reduceEq, Int.reduceLT, Int.reduceLE, reduceIte, Nat.add_zero, Nat.zero_add, Nat.mul_one] at hx; subst hx; refine ⟨_, rfl, ?_⟩
    refine wRet (ends_ret rfl ?_)
    simp [ht, tupOf, Gives, deep, clean, depthD, upd_eq]
  · simp only [decide_eq_false_iff_not, Decidable.not_not] at hf
    have h0 := hf
    refine wSkip ?_
    refine wSeq (wSeqr ?_); refine (fun x hx => ?_); simp only [go_sem, Nat.reduceAdd, Nat.reduceMul, Nat.reduceSub, Nat.reduceEqDiff, Nat.reduceLT, Nat.reduceLeDiff, Int.reduceEq, Int.reduceLT, Int.reduceLE, reduceIte, Nat.add_zero, Nat.zero_add, Nat.mul_one] at hx; subst hx; refine ⟨_, rfl, ?_⟩
    refine wIf (fun y hy => ?_); simp only [go_sem, Nat.reduceAdd, Nat.reduceMul, Nat.reduceSub, Nat.reduceEqDiff, Nat.reduceLT, Nat.reduceLeDiff, Int.reduceEq, Int.reduceLT, Int.reduceLE, reduceIte, Nat.add_zero, Nat.zero_add, Nat.mul_one] at hy; subst hy; refine ⟨_, rfl, fun ht => ?_, fun hf => ?_⟩
    · refine wSeqr (fun x hx => ?_); simp only [go_sem, Nat.reduceAdd, Nat.reduceMul, Nat.reduceSub, Nat.reduceEqDiff, Nat.reduceLT, Nat.reduceLeDiff, Int.reduceEq, Int.reduceLT, Int.reduceLE, reduceIte, Nat.add_zero, Nat.zero_add, Nat.mul_one] at hx; subst hx; refine ⟨_, rfl, ?_⟩
      refine wRet (ends_ret rfl ?_)
      simp only [Bool.not_eq_true'] at ht
      simp [ht, tupOf, Gives, deep, clean, depthD, upd_eq]
    · simp only [Bool.not_eq_false'] at hf
      refine wSkip ?_
      refine wSeqr (fun x hx => ?_); simp only [go_sem, Nat.reduceAdd, Nat.reduceMul, Nat.reduceSub, Nat.reduceEqDiff, Nat.reduceLT, Nat.reduceLeDiff, Int.reduceEq, Int.reduceLT, Int.reduceLE, reduceIte, Nat.add_zero, Nat.zero_add, Nat.mul_one] at hx; subst hx; refine ⟨_, rfl, ?_⟩
      refine wRet (ends_ret rfl ?_)
      simp [h0, hf, tupOf, Gives, deep, clean, depthD, upd_eq]

theorem ok9 : fnOk Try.prog cfg0 9 Try.f9 = true := by kernel_rfl
theorem get_cell {l : List Int} {j : Nat} (h : j < l.length) : (l.map fun z => [cell z])[j]? = some [cell l[j]] := by simp [h]
theorem get_byte {l : List Int} {j : Nat} (h : j < l.length) : (l.map fun z => [AV.v (.int .u8 z)])[j]? = some [.v (.int .u8 l[j])] := by simp [h]
theorem zeros_cell (n : Nat) : zeros n [cell 0] = (List.replicate n 0).map cell := by
  unfold zeros
  induction n with
  | zero => rfl
  | succ n ih => simp [List.replicate_succ, ih]
theorem take_set {l : List Int} {j : Nat} (h : j < l.length) : ((l.take j ++ List.replicate (l.length - j) 0).set j l[j]) = l.take (j + 1) ++ List.replicate (l.length - (j + 1)) 0 := by
  rw [List.set_append_right _ _ (by simp; omega)]
  obtain ⟨d, hd⟩ : ∃ d, l.length - j = d + 1 := ⟨l.length - j - 1, by omega⟩
  rw [hd, List.replicate_succ]
  simp only [List.length_take, Nat.min_eq_left (Nat.le_of_lt h), Nat.sub_self, List.set_cons_zero]
  rw [List.take_succ_eq_append_getElem h, List.append_assoc, show l.length - (j + 1) = d by omega]; rfl
theorem map_set_cell (l : List Int) (j : Nat) (z : Int) : (l.map cell).set j (cell z) = (l.set j z).map cell := by rw [List.map_set]

/-- A copy of bytes. -/
theorem p9 (l : List Int) (hl : l.length ≤ 1048576) : pure Try.prog cfg0 9 Try.f9 [bytesL l] = some (bytesL l, true) := by
  refine pure_wp rfl rfl ?_
  refine wSeqr (fun x hx => ?_); simp only [go_sem, Nat.reduceAdd, Nat.reduceMul, Nat.reduceSub, Nat.reduceEqDiff, Nat.reduceLT, Nat.reduceLeDiff, Int.reduceEq, Int.reduceLT, Int.reduceLE, reduceIte, Nat.add_zero, Nat.zero_add, Nat.mul_one] at hx; subst hx; refine ⟨_, rfl, ?_⟩
  have hr := roomy_1 (n := l.length) (by omega)
  refine wSeqr (fun x hx => ?_); simp only [go_sem, Nat.reduceAdd, Nat.reduceMul, Nat.reduceSub, Nat.reduceEqDiff, Nat.reduceLT, Nat.reduceLeDiff, Int.reduceEq, Int.reduceLT, Int.reduceLE, reduceIte, Nat.add_zero, Nat.zero_add, Nat.mul_one, bytesL, List.length_map, hr] at hx; subst hx; refine ⟨_, rfl, ?_⟩
  refine wSeq (wSeqr ?_); refine (fun x hx => ?_); simp only [go_sem, Nat.reduceAdd, Nat.reduceMul, Nat.reduceSub, Nat.reduceEqDiff, Nat.reduceLT, Nat.reduceLeDiff, Int.reduceEq, Int.reduceLT, Int.reduceLE, reduceIte, Nat.add_zero, Nat.zero_add, Nat.mul_one] at hx; subst hx; refine ⟨_, rfl, ?_⟩
  refine wBlock (wLoop (fun k s => ∃ j, j + k = l.length ∧ s.1 0 = bytesL l ∧ s.1 4 = .v (.int .i64 (j : Nat)) ∧ s.1 3 = .sl 0 1 0 l.length ∧ s.2.h 0 = some ((l.take j ++ List.replicate (l.length - j) 0).map cell)) (fun k s hI => ?_) l.length _ ?_)
  · obtain ⟨e, H⟩ := s
    obtain ⟨j, hj, h0, h4, h3, hh⟩ := hI
    simp only at h0 h4 h3 hh
    refine wSeq (wSeqr ?_); refine (fun x hx => ?_); simp only [go_sem, Nat.reduceAdd, Nat.reduceMul, Nat.reduceSub, Nat.reduceEqDiff, Nat.reduceLT, Nat.reduceLeDiff, Int.reduceEq, Int.reduceLT, Int.reduceLE, reduceIte, Nat.add_zero, Nat.zero_add, Nat.mul_one, h0, h4, bytesL, List.length_map] at hx; subst hx; refine ⟨_, rfl, ?_⟩
    refine wIf (fun y hy => ?_); simp only [go_sem, Nat.reduceAdd, Nat.reduceMul, Nat.reduceSub, Nat.reduceEqDiff, Nat.reduceLT, Nat.reduceLeDiff, Int.reduceEq, Int.reduceLT, Int.reduceLE, reduceIte, Nat.add_zero, Nat.zero_add, Nat.mul_one] at hy; subst hy; refine ⟨_, rfl, fun ht => ?_, fun hf => ?_⟩
    · simp only [decide_eq_true_eq] at ht
      have hlt : j < l.length := by omega
      have hg := get_cell hlt
      have hlen : (List.map cell (l.take j ++ List.replicate (l.length - j) 0)).length = l.length := by simp; omega
      refine wSkip (wSeq (wBlock (wReg ?_))); refine (fun x hx => ?_); simp only [go_sem, Nat.reduceAdd, Nat.reduceMul, Nat.reduceSub, Nat.reduceEqDiff, Nat.reduceLT, Nat.reduceLeDiff, Int.reduceEq, Int.reduceLT, Int.reduceLE, reduceIte, Nat.add_zero, Nat.zero_add, Nat.mul_one, h0, h3, h4, hg, hh, hlt, hlen, Option.isSome_some, Nat.succ_le_of_lt, bytesL, show j + 1 ≤ l.length from hlt] at hx; subst hx; refine ⟨_, rfl, ?_⟩
      refine wReg (fun x hx => ?_); simp only [go_sem, Nat.reduceAdd, Nat.reduceMul, Nat.reduceSub, Nat.reduceEqDiff, Nat.reduceLT, Nat.reduceLeDiff, Int.reduceEq, Int.reduceLT, Int.reduceLE, reduceIte, Nat.add_zero, Nat.zero_add, Nat.mul_one, h4, wrap_succ (show j < 9223372036854775807 by omega)] at hx; subst hx; refine ⟨_, rfl, ?_⟩
      refine ⟨k - 1, by omega, j + 1, by omega, ?_⟩
      refine ⟨by simp only [upd_eq, Nat.reduceEqDiff, if_false, h0], by simp only [upd_eq, Nat.reduceEqDiff, if_true], by simp only [upd_eq, Nat.reduceEqDiff, if_false, h3], ?_⟩
      simp only [Hp.set_h, if_true, ← take_set hlt]
      exact congrArg some (map_set_cell _ _ _)
    · simp only [decide_eq_false_iff_not] at hf
      have hj' : j = l.length := by omega
      subst hj'
      refine wExit ?_; simp only [thenQ, blockQ, reduceIte, Nat.reduceEqDiff]
      refine wSeqr (fun x hx => ?_); simp only [go_sem, Nat.reduceAdd, Nat.reduceMul, Nat.reduceSub, Nat.reduceEqDiff, Nat.reduceLT, Nat.reduceLeDiff, Int.reduceEq, Int.reduceLT, Int.reduceLE, reduceIte, Nat.add_zero, Nat.zero_add, Nat.mul_one, h3] at hx; subst hx; refine ⟨_, rfl, ?_⟩
      refine wRet (ends_ret rfl ?_)
      have hh' : H.h 0 = some (l.map cell) := by rw [hh]; simp
      simp only [tupOf, upd_eq, Nat.reduceEqDiff, if_true]
      exact ⟨deep_bytes hh' rfl, clean_bytes hh'⟩
  · refine ⟨0, by omega, rfl, rfl, rfl, ?_⟩
    simp only [Hp.new_h, nil_g, if_true, Nat.sub_zero, List.take_zero, List.nil_append]
    exact congrArg some (zeros_cell _)

theorem ok12 : fnOk Try.prog cfg0 12 Try.f12 = true := by kernel_rfl
theorem ends_bool (b : Bool) {x : AV} {H : Hp} (h : x = .v (.bool b)) : Gives (.v (.bool b)) true x H := by subst h; exact ⟨rfl, rfl⟩
/-- Are they the same bytes? -/
theorem p12 (a b : List Int) (ha : a.length ≤ 4611686018427387904) : pure Try.prog cfg0 12 Try.f12 [bytesL a, bytesL b] = some (.v (.bool (decide (a = b))), true) := by
  refine pure_wp rfl rfl ?_
  refine wSeqr (fun x hx => ?_); simp only [go_sem, Nat.reduceAdd, Nat.reduceMul, Nat.reduceSub, Nat.reduceEqDiff, Nat.reduceLT, Nat.reduceLeDiff, Int.reduceEq, Int.reduceLT, Int.reduceLE, reduceIte, Nat.add_zero, Nat.zero_add, Nat.mul_one] at hx; subst hx; refine ⟨_, rfl, ?_⟩
  refine wSeq (wSeqr ?_); refine (fun x hx => ?_); simp only [go_sem, Nat.reduceAdd, Nat.reduceMul, Nat.reduceSub, Nat.reduceEqDiff, Nat.reduceLT, Nat.reduceLeDiff, Int.reduceEq, Int.reduceLT, Int.reduceLE, reduceIte, Nat.add_zero, Nat.zero_add, Nat.mul_one, bytesL, List.length_map] at hx; subst hx; refine ⟨_, rfl, ?_⟩
  refine wIf (fun y hy => ?_); simp only [go_sem, Nat.reduceAdd, Nat.reduceMul, Nat.reduceSub, Nat.reduceEqDiff, Nat.reduceLT, Nat.reduceLeDiff, Int.reduceEq, Int.reduceLT, Int.reduceLE, reduceIte, Nat.add_zero, Nat.zero_add, Nat.mul_one] at hy; subst hy; refine ⟨_, rfl, fun ht => ?_, fun hf => ?_⟩
  · simp only [decide_eq_true_eq] at ht
    refine wSeqr (fun x hx => ?_); simp only [go_sem, Nat.reduceAdd, Nat.reduceMul, Nat.reduceSub, Nat.reduceEqDiff, Nat.reduceLT, Nat.reduceLeDiff, Int.reduceEq, Int.reduceLT, Int.reduceLE, reduceIte, Nat.add_zero, Nat.zero_add, Nat.mul_one] at hx; subst hx; refine ⟨_, rfl, ?_⟩
    refine wRet ?_; (try simp only [thenQ, blockQ]); refine ends_ret rfl ?_
    refine ends_bool _ ?_
    have hne : a ≠ b := fun h => ht (by rw [h])
    rw [decide_eq_false hne]; rfl
  · simp only [decide_eq_false_iff_not, Decidable.not_not] at hf
    have hlen : a.length = b.length := by omega
    refine wSkip ?_
    refine wSeq (wSeqr ?_); refine (fun x hx => ?_); simp only [go_sem, Nat.reduceAdd, Nat.reduceMul, Nat.reduceSub, Nat.reduceEqDiff, Nat.reduceLT, Nat.reduceLeDiff, Int.reduceEq, Int.reduceLT, Int.reduceLE, reduceIte, Nat.add_zero, Nat.zero_add, Nat.mul_one] at hx; subst hx; refine ⟨_, rfl, ?_⟩
    refine wBlock (wLoop (fun k s => ∃ j, j + k = a.length ∧ s.1 0 = bytesL a ∧ s.1 1 = bytesL b ∧ s.1 5 = .v (.int .i64 (j : Nat)) ∧ a.take j = b.take j) (fun k s hI => ?_) a.length _ ?_)
    · obtain ⟨e, H⟩ := s
      obtain ⟨j, hj, h0, h1, h5, htk⟩ := hI
      simp only at h0 h1 h5
      refine wSeq (wSeqr ?_); refine (fun x hx => ?_); simp only [go_sem, Nat.reduceAdd, Nat.reduceMul, Nat.reduceSub, Nat.reduceEqDiff, Nat.reduceLT, Nat.reduceLeDiff, Int.reduceEq, Int.reduceLT, Int.reduceLE, reduceIte, Nat.add_zero, Nat.zero_add, Nat.mul_one, h0, h5, bytesL, List.length_map] at hx; subst hx; refine ⟨_, rfl, ?_⟩
      refine wIf (fun y hy => ?_); simp only [go_sem, Nat.reduceAdd, Nat.reduceMul, Nat.reduceSub, Nat.reduceEqDiff, Nat.reduceLT, Nat.reduceLeDiff, Int.reduceEq, Int.reduceLT, Int.reduceLE, reduceIte, Nat.add_zero, Nat.zero_add, Nat.mul_one] at hy; subst hy; refine ⟨_, rfl, fun ht => ?_, fun hf => ?_⟩
      · simp only [decide_eq_true_eq] at ht
        have hla : j < a.length := by omega
        have hlb : j < b.length := by omega
        have ga := get_byte hla
        have gb := get_byte hlb
        refine wSkip (wSeq (wBlock (wSeqr ?_))); refine (fun x hx => ?_); simp only [go_sem, Nat.reduceAdd, Nat.reduceMul, Nat.reduceSub, Nat.reduceEqDiff, Nat.reduceLT, Nat.reduceLeDiff, Int.reduceEq, Int.reduceLT, Int.reduceLE, reduceIte, Nat.add_zero, Nat.zero_add, Nat.mul_one, h0, h1, h5, ga, gb, bytesL, cell] at hx; subst hx; refine ⟨_, rfl, ?_⟩
        refine wIf (fun y hy => ?_); simp only [go_sem, Nat.reduceAdd, Nat.reduceMul, Nat.reduceSub, Nat.reduceEqDiff, Nat.reduceLT, Nat.reduceLeDiff, Int.reduceEq, Int.reduceLT, Int.reduceLE, reduceIte, Nat.add_zero, Nat.zero_add, Nat.mul_one] at hy; subst hy; refine ⟨_, rfl, fun ht => ?_, fun hf => ?_⟩
        · simp only [decide_eq_true_eq] at ht
          refine wSeqr (fun x hx => ?_); simp only [go_sem, Nat.reduceAdd, Nat.reduceMul, Nat.reduceSub, Nat.reduceEqDiff, Nat.reduceLT, Nat.reduceLeDiff, Int.reduceEq, Int.reduceLT, Int.reduceLE, reduceIte, Nat.add_zero, Nat.zero_add, Nat.mul_one] at hx; subst hx; refine ⟨_, rfl, ?_⟩
          refine wRet ?_; (try simp only [thenQ, blockQ]); refine ends_ret rfl ?_
          refine ends_bool _ ?_
          have hne : a ≠ b := fun h => ht (by subst h; rfl)
          rw [decide_eq_false hne]; rfl
        · simp only [decide_eq_false_iff_not, Decidable.not_not] at hf
          refine wSkip ?_
          refine wReg (fun x hx => ?_); simp only [go_sem, Nat.reduceAdd, Nat.reduceMul, Nat.reduceSub, Nat.reduceEqDiff, Nat.reduceLT, Nat.reduceLeDiff, Int.reduceEq, Int.reduceLT, Int.reduceLE, reduceIte, Nat.add_zero, Nat.zero_add, Nat.mul_one, h5, wrap_succ (show j < 9223372036854775807 by omega)] at hx; subst hx; refine ⟨_, rfl, ?_⟩
          refine ⟨k - 1, by omega, j + 1, by omega, ?_⟩
          refine ⟨by simp only [upd_eq, Nat.reduceEqDiff, if_false, h0], by simp only [upd_eq, Nat.reduceEqDiff, if_false, h1], by simp only [upd_eq, Nat.reduceEqDiff, if_true], ?_⟩
          rw [List.take_succ_eq_append_getElem hla, List.take_succ_eq_append_getElem hlb, htk, hf]
      · simp only [decide_eq_false_iff_not] at hf
        have hj' : j = a.length := by omega
        have hab : a = b := by
          rw [List.take_of_length_le (by omega), List.take_of_length_le (by omega)] at htk; exact htk
        refine wExit ?_; simp only [thenQ, blockQ, reduceIte, Nat.reduceEqDiff]
        refine wSeqr (fun x hx => ?_); simp only [go_sem, Nat.reduceAdd, Nat.reduceMul, Nat.reduceSub, Nat.reduceEqDiff, Nat.reduceLT, Nat.reduceLeDiff, Int.reduceEq, Int.reduceLT, Int.reduceLE, reduceIte, Nat.add_zero, Nat.zero_add, Nat.mul_one] at hx; subst hx; refine ⟨_, rfl, ?_⟩
        refine wRet ?_; (try simp only [thenQ, blockQ]); refine ends_ret rfl ?_
        refine ends_bool _ ?_
        rw [decide_eq_true hab]; rfl
    · exact ⟨0, by omega, rfl, rfl, rfl, by simp⟩

/-! Hex text. -/
def hexB (n : Nat) : UInt8 := if n < 10 then UInt8.ofNat (48 + n) else UInt8.ofNat (87 + n)
def hexS : ByteArray := ⟨#[48, 49, 50, 51, 52, 53, 54, 55, 56, 57, 97, 98, 99, 100, 101, 102]⟩
def hex2 (z : Int) : List Int := [(hexB (z / 16).toNat).toNat, (hexB (z % 16).toNat).toNat]
def hexT (l : List Int) : List Int := l.flatMap hex2
theorem hex_at {n : Nat} (h : n < 16) : ([48, 49, 50, 51, 52, 53, 54, 55, 56, 57, 97, 98, 99, 100, 101, 102] : List UInt8)[n]? = some (hexB n) := by
  revert h; revert n; decide
theorem hexT_length (l : List Int) : (hexT l).length = 2 * l.length := by
  induction l with
  | nil => rfl
  | cons a l ih =>
    show (hex2 a ++ hexT l).length = _
    rw [List.length_append, ih]; simp [hex2]; omega
theorem hexT_succ {l : List Int} {j : Nat} (h : j < l.length) : hexT (l.take (j + 1)) = hexT (l.take j) ++ hex2 l[j] := by
  unfold hexT; rw [List.take_succ_eq_append_getElem h, List.flatMap_append]; simp
theorem quo16 {z : Int} (h : 0 ≤ z ∧ z ≤ 255) : ∃ q : Nat, IntKind.wrap .u8 (z.tdiv 16) = (q : Int) ∧ q < 16 ∧ (z / 16).toNat = q := by
  refine ⟨(z / 16).toNat, ?_, by omega, rfl⟩
  rw [Int.tdiv_eq_ediv_of_nonneg h.1, wrap_u8 (by omega) (by omega)]; omega
theorem rem16 {z : Int} (h : 0 ≤ z ∧ z ≤ 255) : ∃ q : Nat, z.tmod 16 = (q : Int) ∧ q < 16 ∧ (z % 16).toNat = q := by
  refine ⟨(z % 16).toNat, ?_, by omega, rfl⟩
  rw [Int.tmod_eq_emod_of_nonneg h.1]; omega
theorem ok34 : fnOk Try.prog cfg0 34 Try.f34 = true := by kernel_rfl
set_option maxRecDepth 100000 in
theorem p34 (l : List Int) (hl : l.length ≤ 800) (hb : Bytes l) : pure Try.prog cfg0 34 Try.f34 [bytesL l] = some (.v (.string (strOf (hexT l))), true) := by
  refine pure_wp rfl rfl ?_
  refine wSeqr (fun x hx => ?_); simp only [go_sem, Nat.reduceAdd, Nat.reduceMul, Nat.reduceSub, Nat.reduceEqDiff, Nat.reduceLT, Nat.reduceLeDiff, Int.reduceEq, Int.reduceLT, Int.reduceLE, reduceIte, Nat.add_zero, Nat.zero_add, Nat.mul_one] at hx; subst hx; refine ⟨_, rfl, ?_⟩
  have hp : ∀ a b, cfg0.pol a b = 0 := fun _ _ => rfl
  refine wSeqr (fun x hx => ?_); simp only [go_sem, Nat.reduceAdd, Nat.reduceMul, Nat.reduceSub, Nat.reduceEqDiff, Nat.reduceLT, Nat.reduceLeDiff, Int.reduceEq, Int.reduceLT, Int.reduceLE, reduceIte, Nat.add_zero, Nat.zero_add, Nat.mul_one, hp] at hx; subst hx; refine ⟨_, rfl, ?_⟩
  refine wSeq (wSeqr ?_); refine (fun x hx => ?_); simp only [go_sem, Nat.reduceAdd, Nat.reduceMul, Nat.reduceSub, Nat.reduceEqDiff, Nat.reduceLT, Nat.reduceLeDiff, Int.reduceEq, Int.reduceLT, Int.reduceLE, reduceIte, Nat.add_zero, Nat.zero_add, Nat.mul_one] at hx; subst hx; refine ⟨_, rfl, ?_⟩
  refine wBlock (wLoop (fun k s => ∃ j, j + k = l.length ∧ s.1 0 = bytesL l ∧ s.1 4 = .v (.int .i64 (j : Nat)) ∧ BAcc s.2 (s.1 3) (hexT (l.take j))) (fun k s hI => ?_) l.length _ ?_)
  · obtain ⟨e, H⟩ := s
    obtain ⟨j, hj, h0, h4, hacc⟩ := hI
    simp only at h0 h4 hacc
    refine wSeq (wSeqr ?_); refine (fun x hx => ?_); simp only [go_sem, Nat.reduceAdd, Nat.reduceMul, Nat.reduceSub, Nat.reduceEqDiff, Nat.reduceLT, Nat.reduceLeDiff, Int.reduceEq, Int.reduceLT, Int.reduceLE, reduceIte, Nat.add_zero, Nat.zero_add, Nat.mul_one, h0, h4, bytesL, List.length_map] at hx; subst hx; refine ⟨_, rfl, ?_⟩
    refine wIf (fun y hy => ?_); simp only [go_sem, Nat.reduceAdd, Nat.reduceMul, Nat.reduceSub, Nat.reduceEqDiff, Nat.reduceLT, Nat.reduceLeDiff, Int.reduceEq, Int.reduceLT, Int.reduceLE, reduceIte, Nat.add_zero, Nat.zero_add, Nat.mul_one] at hy; subst hy; refine ⟨_, rfl, fun ht => ?_, fun hf => ?_⟩
    · simp only [decide_eq_true_eq] at ht
      have hla : j < l.length := by omega
      have ga := get_byte hla
      have hz := hb l[j] (List.getElem_mem hla)
      obtain ⟨q, hq, hq16, hq2⟩ := quo16 hz
      obtain ⟨r, hr, hr16, hr2⟩ := rem16 hz
      have hxq := hex_at hq16
      have hxr := hex_at hr16
      have hlen := hexT_length (l.take j)
      obtain ⟨x', H', happ, hacc', -, -⟩ := app_bytes (P := Try.prog) el22 zero5 by5 int22 hacc (y := .lst true [[.v (.int .u8 (hexB q).toNat)], [.v (.int .u8 (hexB r).toNat)]]) (m := 2) (ys := hex2 l[j]) rfl (by rw [hex2, hq2, hr2]; rfl) rfl (by simp [hlen, hex2]; omega)
      refine wSkip (wSeq (wBlock (wReg ?_))); refine (fun x hx => ?_); simp only [go_sem, Nat.reduceAdd, Nat.reduceMul, Nat.reduceSub, Nat.reduceEqDiff, Nat.reduceLT, Nat.reduceLeDiff, Int.reduceEq, Int.reduceLT, Int.reduceLE, reduceIte, Nat.add_zero, Nat.zero_add, Nat.mul_one, h0, h4, ga, bytesL, cell, hp, happ, hq, hr, hxq, hxr] at hx; subst hx; refine ⟨_, rfl, ?_⟩
      refine wReg (fun x hx => ?_); simp only [go_sem, Nat.reduceAdd, Nat.reduceMul, Nat.reduceSub, Nat.reduceEqDiff, Nat.reduceLT, Nat.reduceLeDiff, Int.reduceEq, Int.reduceLT, Int.reduceLE, reduceIte, Nat.add_zero, Nat.zero_add, Nat.mul_one, h4, wrap_succ (show j < 9223372036854775807 by omega)] at hx; subst hx; refine ⟨_, rfl, ?_⟩
      refine ⟨k - 1, by omega, j + 1, by omega, ?_⟩
      refine ⟨by simp only [upd_eq, Nat.reduceEqDiff, if_false, h0], by simp only [upd_eq, Nat.reduceEqDiff, if_true], ?_⟩
      simp only [upd_eq, Nat.reduceEqDiff, if_true, if_false]
      rw [hexT_succ hla]; exact hacc'
    · simp only [decide_eq_false_iff_not] at hf
      have hj' : j = l.length := by omega
      subst hj'
      rw [List.take_length] at hacc
      have hconv := conv_bytes u22 u9 u5 hacc
      refine wExit ?_; simp only [thenQ, blockQ, reduceIte, Nat.reduceEqDiff]
      refine wSeqr (fun x hx => ?_); simp only [go_sem, Nat.reduceAdd, Nat.reduceMul, Nat.reduceSub, Nat.reduceEqDiff, Nat.reduceLT, Nat.reduceLeDiff, Int.reduceEq, Int.reduceLT, Int.reduceLE, reduceIte, Nat.add_zero, Nat.zero_add, Nat.mul_one, hconv] at hx; subst hx; refine ⟨_, rfl, ?_⟩
      refine wRet ?_; (try simp only [thenQ, blockQ]); refine ends_ret rfl ?_
      exact ⟨rfl, rfl⟩
  · exact ⟨0, by omega, rfl, rfl, .inl ⟨rfl, .inl rfl⟩⟩

theorem fn34 : Try.prog.funcs[34]? = some Try.f34 := Try.func34
theorem args_one {H : Hp} {l : List Int} : [bytesL l].mapM (deep H depthD) = some [bytesL l] := by
  rw [mapM_self]; intro x hx; simp at hx; subst hx; exact (bytesL_fz 10 l).1 H
theorem c34 (p : Nat) (hp : p ≠ 1) (H : Hp) (l : List Int) (hl : l.length ≤ 800) (hb : Bytes l) : call Try.prog cfg0 p 34 [bytesL l] H = some (.v (.string (strOf (hexT l))), H) :=
  call_of Try.func34 rfl ok34 rfl hp args_one (p34 l hl hb) (.inl rfl)

theorem ok8 : fnOk Try.prog cfg0 8 Try.f8 = true := by kernel_rfl
def hexR (l : List Int) : AV := if l.length ≤ 800 then .agg [.v (.int .i64 0), .v (.string (strOf (hexT l)))] else .agg [.v (.int .i64 2), .v (.string ⟨#[]⟩)]
theorem p8 (l : List Int) (hb : Bytes l) : pure Try.prog cfg0 8 Try.f8 [bytesL l] = some (hexR l, true) := by
  refine pure_wp (rs := [.cell 2 24]) rfl rfl ?_
  refine wSeqr (fun x hx => ?_); simp only [go_sem, Nat.reduceAdd, Nat.reduceMul, Nat.reduceSub, Nat.reduceEqDiff, Nat.reduceLT, Nat.reduceLeDiff, Int.reduceEq, Int.reduceLT, Int.reduceLE, reduceIte, Nat.add_zero, Nat.zero_add, Nat.mul_one] at hx; subst hx; refine ⟨_, rfl, ?_⟩
  refine wSeq (wSeqr ?_); refine (fun x hx => ?_); simp only [go_sem, Nat.reduceAdd, Nat.reduceMul, Nat.reduceSub, Nat.reduceEqDiff, Nat.reduceLT, Nat.reduceLeDiff, Int.reduceEq, Int.reduceLT, Int.reduceLE, reduceIte, Nat.add_zero, Nat.zero_add, Nat.mul_one, bytesL, List.length_map] at hx; subst hx; refine ⟨_, rfl, ?_⟩
  refine wIf (fun y hy => ?_); simp only [go_sem, Nat.reduceAdd, Nat.reduceMul, Nat.reduceSub, Nat.reduceEqDiff, Nat.reduceLT, Nat.reduceLeDiff, Int.reduceEq, Int.reduceLT, Int.reduceLE, reduceIte, Nat.add_zero, Nat.zero_add, Nat.mul_one] at hy; subst hy; refine ⟨_, rfl, fun ht => ?_, fun hf => ?_⟩
  · simp only [decide_eq_true_eq] at ht
    refine wSeqr (fun x hx => ?_); simp only [go_sem, Nat.reduceAdd, Nat.reduceMul, Nat.reduceSub, Nat.reduceEqDiff, Nat.reduceLT, Nat.reduceLeDiff, Int.reduceEq, Int.reduceLT, Int.reduceLE, reduceIte, Nat.add_zero, Nat.zero_add, Nat.mul_one] at hx; subst hx; refine ⟨_, rfl, ?_⟩
    refine wRet ?_; (try simp only [thenQ, blockQ]); refine ends_by (fun x hx => ?_); simp only [go_sem, Nat.reduceAdd, Nat.reduceMul, Nat.reduceSub, Nat.reduceEqDiff, Nat.reduceLT, Nat.reduceLeDiff, Int.reduceEq, Int.reduceLT, Int.reduceLE, reduceIte, Nat.add_zero, Nat.zero_add, Nat.mul_one, aresults, aresult] at hx; subst hx; refine ⟨_, rfl, ?_⟩
    rw [hexR, if_neg (by omega)]; exact ⟨rfl, rfl⟩
  · simp only [decide_eq_false_iff_not] at hf
    have hc := c34 0 (by omega) (Hp.nil.new [.v (.int .i64 0), .v (.string ⟨#[]⟩)]) l (by omega) hb
    have hp : ∀ a b, cfg0.pol a b = 0 := fun _ _ => rfl
    simp only [bytesL] at hc
    refine wSkip ?_
    refine wSeqr (fun x hx => ?_); simp only [go_sem, Nat.reduceAdd, Nat.reduceMul, Nat.reduceSub, Nat.reduceEqDiff, Nat.reduceLT, Nat.reduceLeDiff, Int.reduceEq, Int.reduceLT, Int.reduceLE, reduceIte, Nat.add_zero, Nat.zero_add, Nat.mul_one, hp, hc] at hx; subst hx; refine ⟨_, rfl, ?_⟩
    refine wRet ?_; (try simp only [thenQ, blockQ]); refine ends_by (fun x hx => ?_); simp only [go_sem, Nat.reduceAdd, Nat.reduceMul, Nat.reduceSub, Nat.reduceEqDiff, Nat.reduceLT, Nat.reduceLeDiff, Int.reduceEq, Int.reduceLT, Int.reduceLE, reduceIte, Nat.add_zero, Nat.zero_add, Nat.mul_one, aresults, aresult] at hx; subst hx; refine ⟨_, rfl, ?_⟩
    rw [hexR, if_pos (by omega)]; exact ⟨rfl, rfl⟩

theorem ok10 : fnOk Try.prog cfg0 10 Try.f10 = true := by kernel_rfl
set_option maxRecDepth 100000 in
theorem p10 (l : List Int) (hb : Bytes l) : pure Try.prog cfg0 10 Try.f10 [bytesL l] = some (hexR l, true) := by
  have hp : ∀ a b, cfg0.pol a b = 0 := fun _ _ => rfl
  refine pure_wp (rs := [.cell 2 24]) rfl rfl ?_
  refine wSeqr (fun x hx => ?_); simp only [go_sem, Nat.reduceAdd, Nat.reduceMul, Nat.reduceSub, Nat.reduceEqDiff, Nat.reduceLT, Nat.reduceLeDiff, Int.reduceEq, Int.reduceLT, Int.reduceLE, reduceIte, Nat.add_zero, Nat.zero_add, Nat.mul_one] at hx; subst hx; refine ⟨_, rfl, ?_⟩
  refine wSeq (wSeqr ?_); refine (fun x hx => ?_); simp only [go_sem, Nat.reduceAdd, Nat.reduceMul, Nat.reduceSub, Nat.reduceEqDiff, Nat.reduceLT, Nat.reduceLeDiff, Int.reduceEq, Int.reduceLT, Int.reduceLE, reduceIte, Nat.add_zero, Nat.zero_add, Nat.mul_one, bytesL, List.length_map] at hx; subst hx; refine ⟨_, rfl, ?_⟩
  refine wIf (fun y hy => ?_); simp only [go_sem, Nat.reduceAdd, Nat.reduceMul, Nat.reduceSub, Nat.reduceEqDiff, Nat.reduceLT, Nat.reduceLeDiff, Int.reduceEq, Int.reduceLT, Int.reduceLE, reduceIte, Nat.add_zero, Nat.zero_add, Nat.mul_one] at hy; subst hy; refine ⟨_, rfl, fun ht => ?_, fun hf => ?_⟩
  · simp only [decide_eq_true_eq] at ht
    refine wSeqr (fun x hx => ?_); simp only [go_sem, Nat.reduceAdd, Nat.reduceMul, Nat.reduceSub, Nat.reduceEqDiff, Nat.reduceLT, Nat.reduceLeDiff, Int.reduceEq, Int.reduceLT, Int.reduceLE, reduceIte, Nat.add_zero, Nat.zero_add, Nat.mul_one] at hx; subst hx; refine ⟨_, rfl, ?_⟩
    refine wRet ?_; (try simp only [thenQ, blockQ]); refine ends_by (fun x hx => ?_); simp only [go_sem, Nat.reduceAdd, Nat.reduceMul, Nat.reduceSub, Nat.reduceEqDiff, Nat.reduceLT, Nat.reduceLeDiff, Int.reduceEq, Int.reduceLT, Int.reduceLE, reduceIte, Nat.add_zero, Nat.zero_add, Nat.mul_one, aresults, aresult] at hx; subst hx; refine ⟨_, rfl, ?_⟩
    rw [hexR, if_neg (by omega)]; exact ⟨rfl, rfl⟩
  · simp only [decide_eq_false_iff_not] at hf
    refine wSkip ?_
    refine wSeqr (fun x hx => ?_); simp only [go_sem, Nat.reduceAdd, Nat.reduceMul, Nat.reduceSub, Nat.reduceEqDiff, Nat.reduceLT, Nat.reduceLeDiff, Int.reduceEq, Int.reduceLT, Int.reduceLE, reduceIte, Nat.add_zero, Nat.zero_add, Nat.mul_one, hp] at hx; subst hx; refine ⟨_, rfl, ?_⟩
    refine wSeq (wSeqr ?_); refine (fun x hx => ?_); simp only [go_sem, Nat.reduceAdd, Nat.reduceMul, Nat.reduceSub, Nat.reduceEqDiff, Nat.reduceLT, Nat.reduceLeDiff, Int.reduceEq, Int.reduceLT, Int.reduceLE, reduceIte, Nat.add_zero, Nat.zero_add, Nat.mul_one, List.length_map] at hx; subst hx; refine ⟨_, rfl, ?_⟩
    refine wBlock (wLoop (fun k s => ∃ j, j + k = l.length ∧ s.1 2 = .ptr 0 0 ∧ s.1 11 = bytesL l ∧ s.1 12 = .v (.int .i64 l.length) ∧ s.1 13 = .v (.int .i64 (j : Nat)) ∧ BAcc s.2 (s.1 3) (hexT (l.take j)) ∧ 0 < s.2.g ∧ s.2.h 0 = some [.v (.int .i64 0), .v (.string ⟨#[]⟩)] ∧ ∀ n, s.1 3 ≠ .sl 0 1 0 n) (fun k s hI => ?_) l.length _ ?_)
    · obtain ⟨e, H⟩ := s
      obtain ⟨j, hj, h2, h11, h12, h13, hacc, hg, h0, hn⟩ := hI
      simp only at h2 h11 h12 h13 hacc hg h0 hn
      refine wSeqr (fun x hx => ?_); simp only [go_sem, Nat.reduceAdd, Nat.reduceMul, Nat.reduceSub, Nat.reduceEqDiff, Nat.reduceLT, Nat.reduceLeDiff, Int.reduceEq, Int.reduceLT, Int.reduceLE, reduceIte, Nat.add_zero, Nat.zero_add, Nat.mul_one, h11, h12, h13] at hx; subst hx; refine ⟨_, rfl, ?_⟩
      refine wSeq (wIf ?_); refine (fun y hy => ?_); simp only [go_sem, Nat.reduceAdd, Nat.reduceMul, Nat.reduceSub, Nat.reduceEqDiff, Nat.reduceLT, Nat.reduceLeDiff, Int.reduceEq, Int.reduceLT, Int.reduceLE, reduceIte, Nat.add_zero, Nat.zero_add, Nat.mul_one] at hy; subst hy; refine ⟨_, rfl, fun ht => ?_, fun hf => ?_⟩
      · simp only [decide_eq_true_eq] at ht
        have hla : j < l.length := by omega
        have ga := get_byte hla
        have hz := hb l[j] (List.getElem_mem hla)
        obtain ⟨q, hq, hq16, hq2⟩ := quo16 hz
        obtain ⟨r, hr, hr16, hr2⟩ := rem16 hz
        have hxq := hex_at hq16
        have hxr := hex_at hr16
        have hlen := hexT_length (l.take j)
        obtain ⟨x', H', happ, hacc', hg', hk⟩ := app_bytes (P := Try.prog) el22 zero5 by5 int22 hacc (y := .lst true [[.v (.int .u8 (hexB q).toNat)], [.v (.int .u8 (hexB r).toNat)]]) (m := 2) (ys := hex2 l[j]) rfl (by rw [hex2, hq2, hr2]; rfl) rfl (by simp [hlen, hex2]; omega)
        refine wSkip (wSeq (wBlock (wSeqr ?_))); refine (fun x hx => ?_); simp only [go_sem, Nat.reduceAdd, Nat.reduceMul, Nat.reduceSub, Nat.reduceEqDiff, Nat.reduceLT, Nat.reduceLeDiff, Int.reduceEq, Int.reduceLT, Int.reduceLE, reduceIte, Nat.add_zero, Nat.zero_add, Nat.mul_one, h11, h13, ga, bytesL, cell] at hx; subst hx; refine ⟨_, rfl, ?_⟩
        refine wReg (fun x hx => ?_); simp only [go_sem, Nat.reduceAdd, Nat.reduceMul, Nat.reduceSub, Nat.reduceEqDiff, Nat.reduceLT, Nat.reduceLeDiff, Int.reduceEq, Int.reduceLT, Int.reduceLE, reduceIte, Nat.add_zero, Nat.zero_add, Nat.mul_one, hp, happ, hq, hr, hxq, hxr] at hx; subst hx; refine ⟨_, rfl, ?_⟩
        refine wReg (fun x hx => ?_); simp only [go_sem, Nat.reduceAdd, Nat.reduceMul, Nat.reduceSub, Nat.reduceEqDiff, Nat.reduceLT, Nat.reduceLeDiff, Int.reduceEq, Int.reduceLT, Int.reduceLE, reduceIte, Nat.add_zero, Nat.zero_add, Nat.mul_one, h13, wrap_succ (show j < 9223372036854775807 by omega)] at hx; subst hx; refine ⟨_, rfl, ?_⟩
        refine ⟨k - 1, by omega, j + 1, by omega, ?_⟩
        obtain ⟨k1, k2⟩ := hk 0 hg hn
        refine ⟨by simp only [upd_eq, Nat.reduceEqDiff, if_false, h2], by simp only [upd_eq, Nat.reduceEqDiff, if_false, h11], by simp only [upd_eq, Nat.reduceEqDiff, if_false, h12], by simp only [upd_eq, Nat.reduceEqDiff, if_true], ?_, ?_, ?_, ?_⟩
        · simp only [upd_eq, Nat.reduceEqDiff, if_true, if_false]
          rw [hexT_succ hla]; exact hacc'
        · exact Nat.lt_of_lt_of_le hg hg'
        · exact k1.trans h0
        · simp only [upd_eq, Nat.reduceEqDiff, if_true, if_false]; exact k2
      · simp only [decide_eq_false_iff_not] at hf
        have hj' : j = l.length := by omega
        subst hj'
        rw [List.take_length] at hacc
        have hconv := conv_bytes u22 u9 u5 hacc
        refine wExit ?_; simp only [thenQ, blockQ, reduceIte, Nat.reduceEqDiff]
        refine wSeqr (fun x hx => ?_); simp only [go_sem, Nat.reduceAdd, Nat.reduceMul, Nat.reduceSub, Nat.reduceEqDiff, Nat.reduceLT, Nat.reduceLeDiff, Int.reduceEq, Int.reduceLT, Int.reduceLE, reduceIte, Nat.add_zero, Nat.zero_add, Nat.mul_one, hconv, h2, h0] at hx; subst hx; refine ⟨_, rfl, ?_⟩
        refine wRet ?_; (try simp only [thenQ, blockQ]); refine ends_by (fun x hx => ?_); simp only [go_sem, Nat.reduceAdd, Nat.reduceMul, Nat.reduceSub, Nat.reduceEqDiff, Nat.reduceLT, Nat.reduceLeDiff, Int.reduceEq, Int.reduceLT, Int.reduceLE, reduceIte, Nat.add_zero, Nat.zero_add, Nat.mul_one, aresults, aresult, h2] at hx; subst hx; refine ⟨_, rfl, ?_⟩
        rw [hexR, if_pos (by omega)]; exact ⟨rfl, rfl⟩
    · exact ⟨0, by omega, rfl, rfl, rfl, rfl, .inl ⟨rfl, .inl rfl⟩, Nat.succ_pos _, rfl, fun n h => by simp [upd_eq] at h⟩

theorem c9 (p : Nat) (hp : p ≠ 1) (H : Hp) (l : List Int) (x : AV) (hl : l.length ≤ 1048576) (hx : deep H depthD x = some (bytesL l)) : call Try.prog cfg0 p 9 [x] H = some (bytesL l, H) :=
  call_of Try.func9 rfl ok9 rfl hp (by simp [List.mapM_cons, hx]) (p9 l hl) (.inl rfl)
theorem c8 (p : Nat) (hp : p ≠ 1) (H : Hp) (l : List Int) (hb : Bytes l) : call Try.prog cfg0 p 8 [bytesL l] H = some (hexR l, H) :=
  call_of Try.func8 rfl ok8 rfl hp args_one (p8 l hb) (.inl rfl)
theorem c10 (p : Nat) (hp : p ≠ 1) (H : Hp) (l : List Int) (hb : Bytes l) : call Try.prog cfg0 p 10 [bytesL l] H = some (hexR l, H) :=
  call_of Try.func10 rfl ok10 rfl hp args_one (p10 l hb) (.inl rfl)
theorem hexR_two (l : List Int) : ∃ a b, hexR l = .agg [.v (.int .i64 a), .v (.string b)] := by
  unfold hexR; split <;> exact ⟨_, _, rfl⟩
theorem hexR_fz (n : Nat) (l : List Int) : Fz (n + 2) (hexR l) := by
  unfold hexR
  split <;> refine Fz.agg fun x hx => ?_ <;> (simp at hx; rcases hx with rfl | rfl <;> first | exact Fz.int _ _ _ | exact Fz.string _ _)
theorem mapM_two {f : AV → Option AV} {x y a b : AV} (hx : f x = some a) (hy : f y = some b) : [x, y].mapM f = some [a, b] := by simp [List.mapM_cons, hx, hy]
theorem c11 (p : Nat) (hp : p ≠ 1) (H : Hp) (l : List Int) : call Try.prog cfg0 p 11 [hexR l, hexR l] H = some (.v (.bool true), H) := by
  refine call_of Try.func11 rfl ok11 rfl hp (mapM_two ((hexR_fz 10 l).1 H) ((hexR_fz 10 l).1 H)) (cl := true) ?_ (.inl rfl)
  unfold hexR
  split <;> (rw [p11]; simp)
theorem c12 (p : Nat) (hp : p ≠ 1) (H : Hp) (l : List Int) (hl : l.length ≤ 4611686018427387904) : call Try.prog cfg0 p 12 [bytesL l, bytesL l] H = some (.v (.bool true), H) := by
  refine call_of Try.func12 rfl ok12 rfl hp (mapM_two ((bytesL_fz 10 l).1 H) ((bytesL_fz 10 l).1 H)) (cl := true) ?_ (.inl rfl)
  rw [p12 l l hl]; simp

theorem ok3 : fnOk Try.prog cfg0 3 Try.f3 = true := by kernel_rfl
/-- The law, on bytes. -/
theorem p3 (l : List Int) (hb : Bytes l) : pure Try.prog cfg0 3 Try.f3 [bytesL l] = some (.v (.bool true), true) := by
  have hp : ∀ a b, cfg0.pol a b = 0 := fun _ _ => rfl
  refine pure_wp rfl rfl ?_
  refine wSeqr (fun x hx => ?_); simp only [go_sem, Nat.reduceAdd, Nat.reduceMul, Nat.reduceSub, Nat.reduceEqDiff, Nat.reduceLT, Nat.reduceLeDiff, Int.reduceEq, Int.reduceLT, Int.reduceLE, reduceIte, Nat.add_zero, Nat.zero_add, Nat.mul_one] at hx; subst hx; refine ⟨_, rfl, ?_⟩
  refine wSeq (wSeqr ?_); refine (fun x hx => ?_); simp only [go_sem, Nat.reduceAdd, Nat.reduceMul, Nat.reduceSub, Nat.reduceEqDiff, Nat.reduceLT, Nat.reduceLeDiff, Int.reduceEq, Int.reduceLT, Int.reduceLE, reduceIte, Nat.add_zero, Nat.zero_add, Nat.mul_one] at hx; subst hx; refine ⟨_, rfl, ?_⟩
  refine wIf (fun y hy => ?_); simp only [go_sem, Nat.reduceAdd, Nat.reduceMul, Nat.reduceSub, Nat.reduceEqDiff, Nat.reduceLT, Nat.reduceLeDiff, Int.reduceEq, Int.reduceLT, Int.reduceLE, reduceIte, Nat.add_zero, Nat.zero_add, Nat.mul_one] at hy; subst hy; refine ⟨_, rfl, fun ht => ?_, fun hf => ?_⟩
  · refine wSeqr (fun x hx => ?_); simp only [go_sem, Nat.reduceAdd, Nat.reduceMul, Nat.reduceSub, Nat.reduceEqDiff, Nat.reduceLT, Nat.reduceLeDiff, Int.reduceEq, Int.reduceLT, Int.reduceLE, reduceIte, Nat.add_zero, Nat.zero_add, Nat.mul_one] at hx; subst hx; refine ⟨_, rfl, ?_⟩
    refine wRet ?_; (try simp only [thenQ, blockQ]); refine ends_ret rfl ?_
    exact ⟨rfl, rfl⟩
  · simp only [decide_eq_false_iff_not] at hf
    have hl : l.length ≤ 1048576 := by omega
    have h9 : ∀ H, call Try.prog cfg0 0 9 [bytesL l] H = some (bytesL l, H) := fun H => c9 0 (by omega) H l (bytesL l) hl ((bytesL_fz 10 l).1 H)
    have h8 : ∀ H, call Try.prog cfg0 0 8 [bytesL l] H = some (hexR l, H) := fun H => c8 0 (by omega) H l hb
    have h10 : ∀ H, call Try.prog cfg0 0 10 [bytesL l] H = some (hexR l, H) := fun H => c10 0 (by omega) H l hb
    have h11 : ∀ H, call Try.prog cfg0 0 11 [hexR l, hexR l] H = some (.v (.bool true), H) := fun H => c11 0 (by omega) H l
    have h12 : ∀ H, call Try.prog cfg0 0 12 [bytesL l, bytesL l] H = some (.v (.bool true), H) := fun H => c12 0 (by omega) H l (by omega)
    obtain ⟨a, b, hab⟩ := hexR_two l
    simp only [hab] at h8 h10 h11
    refine wSkip ?_
    refine wSeqr (fun x hx => ?_); simp only [go_sem, Nat.reduceAdd, Nat.reduceMul, Nat.reduceSub, Nat.reduceEqDiff, Nat.reduceLT, Nat.reduceLeDiff, Int.reduceEq, Int.reduceLT, Int.reduceLE, reduceIte, Nat.add_zero, Nat.zero_add, Nat.mul_one, hp, h9, h8] at hx; subst hx; refine ⟨_, rfl, ?_⟩
    refine wSeqr (fun x hx => ?_); simp only [go_sem, Nat.reduceAdd, Nat.reduceMul, Nat.reduceSub, Nat.reduceEqDiff, Nat.reduceLT, Nat.reduceLeDiff, Int.reduceEq, Int.reduceLT, Int.reduceLE, reduceIte, Nat.add_zero, Nat.zero_add, Nat.mul_one, hp, h9] at hx; subst hx; refine ⟨_, rfl, ?_⟩
    refine wSeqr (fun x hx => ?_); simp only [go_sem, Nat.reduceAdd, Nat.reduceMul, Nat.reduceSub, Nat.reduceEqDiff, Nat.reduceLT, Nat.reduceLeDiff, Int.reduceEq, Int.reduceLT, Int.reduceLE, reduceIte, Nat.add_zero, Nat.zero_add, Nat.mul_one, hp, h10] at hx; subst hx; refine ⟨_, rfl, ?_⟩
    refine wSeq (wSeqr ?_); refine (fun x hx => ?_); simp only [go_sem, Nat.reduceAdd, Nat.reduceMul, Nat.reduceSub, Nat.reduceEqDiff, Nat.reduceLT, Nat.reduceLeDiff, Int.reduceEq, Int.reduceLT, Int.reduceLE, reduceIte, Nat.add_zero, Nat.zero_add, Nat.mul_one, hp, h11] at hx; subst hx; refine ⟨_, rfl, ?_⟩
    refine wIfF (by simp only [go_sem, Nat.reduceEqDiff, reduceIte]) ?_
    refine wSkip ?_
    refine wSeq (wSeqr ?_); refine (fun x hx => ?_); simp only [go_sem, Nat.reduceAdd, Nat.reduceMul, Nat.reduceSub, Nat.reduceEqDiff, Nat.reduceLT, Nat.reduceLeDiff, Int.reduceEq, Int.reduceLT, Int.reduceLE, reduceIte, Nat.add_zero, Nat.zero_add, Nat.mul_one, hp, h9, h12] at hx; subst hx; refine ⟨_, rfl, ?_⟩
    refine wIfF (by simp only [go_sem, Nat.reduceEqDiff, reduceIte]) ?_
    refine wSkip ?_
    refine wSeqr (fun x hx => ?_); simp only [go_sem, Nat.reduceAdd, Nat.reduceMul, Nat.reduceSub, Nat.reduceEqDiff, Nat.reduceLT, Nat.reduceLeDiff, Int.reduceEq, Int.reduceLT, Int.reduceLE, reduceIte, Nat.add_zero, Nat.zero_add, Nat.mul_one] at hx; subst hx; refine ⟨_, rfl, ?_⟩
    refine wRet ?_; (try simp only [thenQ, blockQ]); refine ends_ret rfl ?_
    exact ⟨rfl, rfl⟩

set_option linter.constructorNameAsVariable false
theorem sh_byte {n : Nat} {c : List AV} (h : Sh Try.prog reach (n + 1) 5 c) : ∃ z : Int, c = [cell z] ∧ 0 ≤ z ∧ z ≤ 255 := by
  simp only [Sh, u5] at h
  obtain ⟨z, rfl, hz⟩ := h
  refine ⟨z, rfl, ?_⟩
  simp only [Lit.wf, Bool.and_eq_true, decide_eq_true_eq] at hz
  exact hz
theorem choose_bytes : ∀ (ys : List (List AV)), (∀ c ∈ ys, ∃ z : Int, c = [cell z] ∧ 0 ≤ z ∧ z ≤ 255) → ∃ l : List Int, ys = l.map (fun z => [cell z]) ∧ Bytes l := by
  intro ys
  induction ys with
  | nil => intro _; exact ⟨[], rfl, fun z h => by simp at h⟩
  | cons c ys ih =>
    intro h
    obtain ⟨z, rfl, hz⟩ := h c (by simp)
    obtain ⟨l, rfl, hl⟩ := ih fun c hc => h c (by simp [hc])
    refine ⟨z :: l, rfl, fun y hy => ?_⟩
    rcases List.mem_cons.1 hy with rfl | hy
    · exact hz
    · exact hl y hy
set_option maxRecDepth 100000 in
theorem sh_bytes {n : Nat} {xs : List AV} (h : Sh Try.prog reach (n + 2) 22 xs) : xs = [.v (.slice none 0 0)] ∨ ∃ l : List Int, xs = [bytesL l] ∧ Bytes l := by
  unfold Sh at h
  rw [u22] at h
  rcases h with rfl | ⟨ys, rfl, -, hc⟩
  · exact .inl rfl
  · obtain ⟨l, rfl, hl⟩ := choose_bytes ys fun c hc' => sh_byte (hc c hc')
    exact .inr ⟨l, rfl, hl⟩
set_option maxRecDepth 100000 in
theorem law3 (xs : List AV) (h : ArgsSh Try.prog reach 3 [22] xs) : ∃ H', call Try.prog cfg0 0 3 xs Hp.nil = some (.v (.bool true), H') := by
  obtain ⟨a, r, rfl, ha, rfl⟩ := h
  have hsh : Sh Try.prog reach 3 22 [a] := by
    unfold ArgSh at ha; rw [agg22] at ha; exact ha
  rcases sh_bytes (n := 1) hsh with h | ⟨l, h, hb⟩
  · simp only [List.cons.injEq, and_true] at h; subst h
    exact ⟨_, call_of Try.func3 rfl ok3 rfl (by omega) (ts := [bytesL []]) rfl (p3 [] (fun z h => by simp at h)) (.inl rfl)⟩
  · simp only [List.cons.injEq, and_true] at h; subst h
    exact ⟨_, call_of Try.func3 rfl ok3 rfl (by omega) args_one (p3 l hb) (.inl rfl)⟩
end
end Go.Proofs.Ytbjcffiaapobpaa
