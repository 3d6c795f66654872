/- Contracts: numbers into bytes; copies, comparisons and joins of bytes. -/
import Derived.Test.YtmpkcilehideiaaK9
namespace Go.Proofs.Ytmpkcilehideiaa
open Go Go.RowKit Go.Proofs.Ytmpkcilehideiaa.Eng
set_option linter.unusedSimpArgs false
set_option linter.unusedVariables false
set_option maxRecDepth 100000
set_option maxHeartbeats 2000000
noncomputable section
theorem slB (H : Hp) (e : Env) (l : List Int) (lo : Option Operand) (hi : Operand) : aslice Try.prog H e 22 (bytesL l) lo (some hi) none = sliceB l (bound e 0 lo) (natOf (opd e hi)) := aslice_B u22 sz5 H e l lo hi
theorem slF (H : Hp) (e : Env) (l : List Int) (lo : Option Operand) : aslice Try.prog H e 22 (bytesL l) lo none none = sliceF l (bound e 0 lo) := aslice_F u22 sz5 H e l lo
theorem slN (H : Hp) (e : Env) (lo : Option Operand) (hi : Operand) : aslice Try.prog H e 22 (.v (.slice none 0 0)) lo (some hi) none = sliceN (bound e 0 lo) (natOf (opd e hi)) := aslice_N u22 sz5 H e lo hi
theorem slO (H : Hp) (e : Env) (b o n : Nat) (lo : Option Operand) (hi : Operand) : aslice Try.prog H e 22 (.sl b 1 o n) lo (some hi) none = sliceO (H.h b) b 1 o (bound e 0 lo) (natOf (opd e hi)) := aslice_O u22 sz5 (by omega) H e b o n lo hi
theorem slOF (H : Hp) (e : Env) (b o n : Nat) (lo : Option Operand) : aslice Try.prog H e 22 (.sl b 1 o n) lo none none = sliceO (H.h b) b 1 o (bound e 0 lo) (some n) := aslice_OF u22 sz5 (by omega) H e b o n lo
attribute [go_sem] slB slF slN slO slOF
/-- A number in m bytes, the highest one first. -/
def wordL (n : Int) (m : Nat) : List Int := (List.range m).reverse.map fun (i : Nat) => n / 256 ^ i % 256
theorem wordL_zero (n : Int) : wordL n 0 = [] := rfl
theorem wordL_succ (n : Int) (m : Nat) : wordL n (m + 1) = (n / 256 ^ m % 256) :: wordL n m := by simp [wordL, List.range_succ]
theorem wordL_len (n : Int) (m : Nat) : (wordL n m).length = m := by simp [wordL]
theorem wordL_bytes (n : Int) (m : Nat) : Eng.Bytes (wordL n m) := by
  intro z hz
  obtain ⟨i, -, rfl⟩ := List.mem_map.1 hz
  omega
theorem wordL_one {n : Int} (h : 0 ≤ n ∧ n ≤ 255) : wordL n 1 = [n] := by
  have : n % 256 = n := by omega
  simp [wordL_succ, wordL_zero, this]
theorem wordL_ne (n : Int) {m : Nat} (h : 0 < m) : wordL n m ≠ [] := fun e => by have := wordL_len n m; rw [e] at this; simp at this; omega
theorem q_pos {n : Int} (h : 0 ≤ n) (j : Nat) : 0 ≤ n / 256 ^ j ∧ n / 256 ^ j ≤ n := by
  have hp : (0 : Int) < 256 ^ j := Int.pow_pos (by omega)
  refine ⟨Int.ediv_nonneg h (Int.le_of_lt hp), ?_⟩
  exact Int.ediv_le_self _ h
theorem q_next {n : Int} (j : Nat) : n / 256 ^ (j + 1) = n / 256 ^ j / 256 := by
  rw [Int.pow_succ, Int.ediv_ediv_of_nonneg (Int.le_of_lt (Int.pow_pos (by omega)))]
theorem rep_set {m j : Nat} (hj : j < m) (w : List Int) (z : Int) : ((List.replicate (m - j) (0 : Int) ++ w).set (m - 1 - j) z) = List.replicate (m - (j + 1)) 0 ++ z :: w := by
  obtain ⟨d, hd⟩ : ∃ d, m - j = d + 1 := ⟨m - j - 1, by omega⟩
  rw [hd, show m - 1 - j = d by omega, show m - (j + 1) = d by omega, List.replicate_succ', List.append_assoc, List.set_append_right _ _ (by simp)]
  simp
theorem ok_iword : fnOk Try.prog cfg0 64 Try.f64 = true := by kernel_rfl
theorem pq_iword (n : Int) (m : Nat) (m' : Int) (hm : m' = m) (hn : 0 ≤ n ∧ n ≤ 9223372036854775807) (hs : m ≤ 8) : pure Try.prog cfg0 64 Try.f64 [.v (.int .i64 n), .v (.int .i64 m')] = some (bytesL (wordL n m), true) ∧ owned Try.prog cfg0 64 Try.f64 [.v (.int .i64 n), .v (.int .i64 m')] = some (bytesL (wordL n m)) := by
  refine both_wp (rs := [.tmp 4]) rfl rfl ?_
  have hp0 : ∀ b, cfg0.pol 64 b = 0 := fun b => rfl
  subst hm
  have hr := roomy_1 (n := m) (by omega)
  have w0 : IntKind.wrap .i64 ((m : Int) - 1) = (m : Int) - 1 := wrap_i64 (by omega) (by omega)
  repeat' (first | ((first | refine wSeqr (fun xx hx => ?_) | refine wSeqrF (fun xx hx => ?_) | refine wIf (fun xx hx => ?_) | refine wReg (fun xx hx => ?_) | refine wRegF (fun xx hx => ?_) | (refine wRet ?_; (try simp only [thenQ, blockQ]); (try (subst hQQ; (try simp only [thenQ, blockQ]))); refine ends_by (fun xx hx => ?_))); have hc := trivial; (repeat' (simp only [hc, Nat.reduceBEq, go_sem, Nat.reduceAdd, Nat.reduceMul, Nat.reduceSub, Nat.reduceEqDiff, Nat.reduceLT, Nat.reduceLeDiff, Int.reduceEq, Int.reduceLT, Int.reduceLE, reduceIte, aresults, aresult, hp0, hr, w0] at hx; (try ((first | rw [guardL_if] at hx | rw [guardF_if] at hx); split at hx <;> rename_i hc)))); all_goals (subst hx; first | (refine ⟨_, rfl, fun ht => ?_, fun ht => ?_⟩ <;> (try simp only [Bool.not_eq_true', Bool.not_eq_false', Bool.and_eq_true, Bool.and_eq_false_iff, Bool.or_eq_true, Bool.or_eq_false_iff, decide_eq_true_eq, decide_eq_false_iff_not, beq_iff_eq, bne_iff_ne, Bool.not_true, Bool.not_false, Bool.true_eq_false, Bool.false_eq_true, ne_eq, Decidable.not_not, inB_t, inB_f] at ht)) | (refine ⟨_, rfl, ?_⟩; (try simp only [tupOf])))) | refine wSkip ?_ | (refine wExit ?_; simp only [thenQ, blockQ, reduceIte, Nat.reduceEqDiff]) | refine wSeq ?_ | refine wBlock ?_ | (subst hQQ; (try simp only [thenQ, blockQ, reduceIte, Nat.reduceEqDiff])))
  refine wLoop (fun k s => ∃ (j : Nat), j + k = m ∧ s.1 0 = .v (.int .i64 (n / 256 ^ j)) ∧ s.1 5 = .sl 0 1 0 m ∧ s.1 6 = .v (.int .i64 ((m : Int) - 1 - (j : Nat))) ∧ (s.2.h 0 = some ((List.replicate (m - j) 0 ++ wordL n j).map cell))) (fun k s hI => ?_) (m) _ ?_
  · obtain ⟨e, H⟩ := s
    obtain ⟨j, hj, h0, h5, h6, hh⟩ := hI
    simp only at h0 h5 h6 hh
    obtain ⟨q1, q2⟩ := q_pos hn.1 j
    by_cases hlt : j < m
    · have hnat : natOf (.v (.int .i64 ((m : Int) - 1 - (j : Nat)))) = some (m - 1 - j) := by
        simp only [natOf]
        rw [if_pos (by omega), show ((m : Int) - 1 - (j : Nat)).toNat = m - 1 - j by omega]
      have hge : (0 : Int) ≤ (m : Int) - 1 - (j : Nat) := by omega
      have w1 : (n / 256 ^ j).tmod 256 = n / 256 ^ j % 256 := Int.tmod_eq_emod_of_nonneg q1
      have w2 : IntKind.wrap .u8 (n / 256 ^ j % 256) = n / 256 ^ j % 256 := wrap_u8 (by omega) (by omega)
      have w3 : IntKind.wrap .i64 ((n / 256 ^ j).tdiv 256) = n / 256 ^ (j + 1) := by rw [Int.tdiv_eq_ediv_of_nonneg q1, q_next]; exact wrap_i64 (by omega) (by omega)
      have w4 : IntKind.wrap .i64 ((m : Int) - 1 - (j : Nat) - 1) = (m : Int) - 1 - ((j + 1 : Nat) : Int) := by rw [wrap_i64 (by omega) (by omega)]; omega
      have hlen : (List.map cell (List.replicate (m - j) 0 ++ wordL n j)).length = m := by simp [wordL_len]; omega
      have hlt2 : m - 1 - j < m := by omega
      have hle2 : m - 1 - j + 1 ≤ m := by omega
      repeat' (first | ((first | refine wSeqr (fun xx hx => ?_) | refine wSeqrF (fun xx hx => ?_) | refine wIf (fun xx hx => ?_) | refine wReg (fun xx hx => ?_) | refine wRegF (fun xx hx => ?_) | (refine wRet ?_; (try simp only [thenQ, blockQ]); (try (subst hQQ; (try simp only [thenQ, blockQ]))); refine ends_by (fun xx hx => ?_))); have hc := trivial; (repeat' (simp only [hc, Nat.reduceBEq, go_sem, Nat.reduceAdd, Nat.reduceMul, Nat.reduceSub, Nat.reduceEqDiff, Nat.reduceLT, Nat.reduceLeDiff, Int.reduceEq, Int.reduceLT, Int.reduceLE, reduceIte, aresults, aresult, hp0, h0, h5, h6, hnat, hge, hh, hlen, hlt2, hle2, w1, w2, w3, w4, Option.isSome_some, aconv_int u2 u5] at hx; (try ((first | rw [guardL_if] at hx | rw [guardF_if] at hx); split at hx <;> rename_i hc)))); all_goals (subst hx; first | (refine ⟨_, rfl, fun ht => ?_, fun ht => ?_⟩ <;> (try simp only [Bool.not_eq_true', Bool.not_eq_false', Bool.and_eq_true, Bool.and_eq_false_iff, Bool.or_eq_true, Bool.or_eq_false_iff, decide_eq_true_eq, decide_eq_false_iff_not, beq_iff_eq, bne_iff_ne, Bool.not_true, Bool.not_false, Bool.true_eq_false, Bool.false_eq_true, ne_eq, Decidable.not_not, inB_t, inB_f] at ht)) | (refine ⟨_, rfl, ?_⟩; (try simp only [tupOf])))) | refine wSkip ?_ | (refine wExit ?_; simp only [thenQ, blockQ, reduceIte, Nat.reduceEqDiff]) | refine wSeq ?_ | refine wBlock ?_ | (subst hQQ; (try simp only [thenQ, blockQ, reduceIte, Nat.reduceEqDiff])))
      all_goals first
        | (exfalso; (try simp only [Bool.not_eq_true', Bool.not_eq_false', Bool.and_eq_true, Bool.and_eq_false_iff, Bool.or_eq_true, Bool.or_eq_false_iff, decide_eq_true_eq, decide_eq_false_iff_not, beq_iff_eq, bne_iff_ne, Bool.not_true, Bool.not_false, Bool.true_eq_false, Bool.false_eq_true, ne_eq, Decidable.not_not, inB_t, inB_f] at *); omega)
        | skip
      refine ⟨_, Nat.sub_lt (by omega) Nat.one_pos, j + 1, by omega, by simp only [upd_eq, Nat.reduceEqDiff, if_false, if_true, h0, h5, h6], by simp only [upd_eq, Nat.reduceEqDiff, if_false, if_true, h0, h5, h6], by simp only [upd_eq, Nat.reduceEqDiff, if_false, if_true, h0, h5, h6], ?_⟩
      simp only [Hp.set_h, if_true]
      refine congrArg some ?_
      show ((List.replicate (m - j) (0 : Int) ++ wordL n j).map cell).set (m - 1 - j) (cell (n / 256 ^ j % 256)) = _
      rw [← List.map_set, rep_set hlt, wordL_succ]
    · have hj' : j = m := by omega
      have hge : ¬ (0 : Int) ≤ (m : Int) - 1 - (j : Nat) := by omega
      repeat' (first | ((first | refine wSeqr (fun xx hx => ?_) | refine wSeqrF (fun xx hx => ?_) | refine wIf (fun xx hx => ?_) | refine wReg (fun xx hx => ?_) | refine wRegF (fun xx hx => ?_) | (refine wRet ?_; (try simp only [thenQ, blockQ]); (try (subst hQQ; (try simp only [thenQ, blockQ]))); refine ends_by (fun xx hx => ?_))); have hc := trivial; (repeat' (simp only [hc, Nat.reduceBEq, go_sem, Nat.reduceAdd, Nat.reduceMul, Nat.reduceSub, Nat.reduceEqDiff, Nat.reduceLT, Nat.reduceLeDiff, Int.reduceEq, Int.reduceLT, Int.reduceLE, reduceIte, aresults, aresult, hp0, h5, h6, hge] at hx; (try ((first | rw [guardL_if] at hx | rw [guardF_if] at hx); split at hx <;> rename_i hc)))); all_goals (subst hx; first | (refine ⟨_, rfl, fun ht => ?_, fun ht => ?_⟩ <;> (try simp only [Bool.not_eq_true', Bool.not_eq_false', Bool.and_eq_true, Bool.and_eq_false_iff, Bool.or_eq_true, Bool.or_eq_false_iff, decide_eq_true_eq, decide_eq_false_iff_not, beq_iff_eq, bne_iff_ne, Bool.not_true, Bool.not_false, Bool.true_eq_false, Bool.false_eq_true, ne_eq, Decidable.not_not, inB_t, inB_f] at ht)) | (refine ⟨_, rfl, ?_⟩; (try simp only [tupOf])))) | refine wSkip ?_ | (refine wExit ?_; simp only [thenQ, blockQ, reduceIte, Nat.reduceEqDiff]) | refine wSeq ?_ | refine wBlock ?_ | (subst hQQ; (try simp only [thenQ, blockQ, reduceIte, Nat.reduceEqDiff])))
      all_goals first
        | (exfalso; (try simp only [Bool.not_eq_true', Bool.not_eq_false', Bool.and_eq_true, Bool.and_eq_false_iff, Bool.or_eq_true, Bool.or_eq_false_iff, decide_eq_true_eq, decide_eq_false_iff_not, beq_iff_eq, bne_iff_ne, Bool.not_true, Bool.not_false, Bool.true_eq_false, Bool.false_eq_true, ne_eq, Decidable.not_not, inB_t, inB_f] at *); omega)
        | skip
      have hh' : H.h 0 = some ((wordL n m).map cell) := by rw [hh, hj', Nat.sub_self]; rfl
      have := gO_bytes hh'
      rw [wordL_len] at this
      exact this
  · refine ⟨0, by omega, ?_, rfl, ?_, ?_⟩
    · simp only [upd_eq, Nat.reduceEqDiff, if_false, Int.pow_zero, Int.ediv_one]; rfl
    · simp only [upd_eq, Nat.reduceEqDiff, if_true]; simp
    · simp only [Hp.new_h, nil_g, if_true, Nat.sub_zero, wordL_zero, List.append_nil]
      exact congrArg some (zeros_cell _)
theorem p_iword (n : Int) (m : Nat) (m' : Int) (hm : m' = m) (hn : 0 ≤ n ∧ n ≤ 9223372036854775807) (hs : m ≤ 8) : pure Try.prog cfg0 64 Try.f64 [.v (.int .i64 n), .v (.int .i64 m')] = some (bytesL (wordL n m), true) := (pq_iword n m m' hm hn hs).1
theorem c_iword (n : Int) (m : Nat) (m' : Int) (hm : m' = m) (hn : 0 ≤ n ∧ n ≤ 9223372036854775807) (hs : m ≤ 8) : ∀ H, call Try.prog cfg0 0 64 [.v (.int .i64 n), .v (.int .i64 m')] H = some (bytesL (wordL n m), H) :=
  call_fz Try.func64 rfl ok_iword rfl (by simp only [fz_cons, fz_nil, go_sem, and_self]) (pq_iword n m m' hm hn hs).1
theorem o_iword (n : Int) (m : Nat) (m' : Int) (hm : m' = m) (hn : 0 ≤ n ∧ n ≤ 9223372036854775807) (hs : m ≤ 8) : ∀ H, call Try.prog cfg0 1 64 [.v (.int .i64 n), .v (.int .i64 m')] H = mat depthD (bytesL (wordL n m)) H := fun H =>
  call_ofO Try.func64 rfl ok_iword rfl (mapM_self fun x hx => ((show ∀ x ∈ ([.v (.int .i64 n), .v (.int .i64 m')] : List AV), Fz depthD x by simp only [fz_cons, fz_nil, go_sem, and_self]) x hx).1 H) (pq_iword n m m' hm hn hs).2

theorem ok_sl1Pack : fnOk Try.prog cfg0 67 Try.f67 = true := by kernel_rfl
theorem pq_sl1Pack (n : Int) (m : Nat) (m' : Int) (hm : m' = m) (hn : 0 ≤ n ∧ n ≤ 9223372036854775807) (hs : m ≤ 8) : pure Try.prog cfg0 67 Try.f67 [.v (.int .i64 n), .v (.int .i64 m')] = some (bytesL (wordL n m), true) ∧ owned Try.prog cfg0 67 Try.f67 [.v (.int .i64 n), .v (.int .i64 m')] = some (bytesL (wordL n m)) := by
  refine both_wp (rs := [.tmp 4]) rfl rfl ?_
  have hp0 : ∀ b, cfg0.pol 67 b = 0 := fun b => rfl
  subst hm
  have hr := roomy_1 (n := m) (by omega)
  have w0 : IntKind.wrap .i64 ((m : Int) - 1) = (m : Int) - 1 := wrap_i64 (by omega) (by omega)
  repeat' (first | ((first | refine wSeqr (fun xx hx => ?_) | refine wSeqrF (fun xx hx => ?_) | refine wIf (fun xx hx => ?_) | refine wReg (fun xx hx => ?_) | refine wRegF (fun xx hx => ?_) | (refine wRet ?_; (try simp only [thenQ, blockQ]); (try (subst hQQ; (try simp only [thenQ, blockQ]))); refine ends_by (fun xx hx => ?_))); have hc := trivial; (repeat' (simp only [hc, Nat.reduceBEq, go_sem, Nat.reduceAdd, Nat.reduceMul, Nat.reduceSub, Nat.reduceEqDiff, Nat.reduceLT, Nat.reduceLeDiff, Int.reduceEq, Int.reduceLT, Int.reduceLE, reduceIte, aresults, aresult, hp0, hr, w0] at hx; (try ((first | rw [guardL_if] at hx | rw [guardF_if] at hx); split at hx <;> rename_i hc)))); all_goals (subst hx; first | (refine ⟨_, rfl, fun ht => ?_, fun ht => ?_⟩ <;> (try simp only [Bool.not_eq_true', Bool.not_eq_false', Bool.and_eq_true, Bool.and_eq_false_iff, Bool.or_eq_true, Bool.or_eq_false_iff, decide_eq_true_eq, decide_eq_false_iff_not, beq_iff_eq, bne_iff_ne, Bool.not_true, Bool.not_false, Bool.true_eq_false, Bool.false_eq_true, ne_eq, Decidable.not_not, inB_t, inB_f] at ht)) | (refine ⟨_, rfl, ?_⟩; (try simp only [tupOf])))) | refine wSkip ?_ | (refine wExit ?_; simp only [thenQ, blockQ, reduceIte, Nat.reduceEqDiff]) | refine wSeq ?_ | refine wBlock ?_ | (subst hQQ; (try simp only [thenQ, blockQ, reduceIte, Nat.reduceEqDiff])))
  refine wLoop (fun k s => ∃ (j : Nat), j + k = m ∧ s.1 0 = .v (.int .i64 (n / 256 ^ j)) ∧ s.1 5 = .sl 0 1 0 m ∧ s.1 6 = .v (.int .i64 ((m : Int) - 1 - (j : Nat))) ∧ (s.2.h 0 = some ((List.replicate (m - j) 0 ++ wordL n j).map cell))) (fun k s hI => ?_) (m) _ ?_
  · obtain ⟨e, H⟩ := s
    obtain ⟨j, hj, h0, h5, h6, hh⟩ := hI
    simp only at h0 h5 h6 hh
    obtain ⟨q1, q2⟩ := q_pos hn.1 j
    by_cases hlt : j < m
    · have hnat : natOf (.v (.int .i64 ((m : Int) - 1 - (j : Nat)))) = some (m - 1 - j) := by
        simp only [natOf]
        rw [if_pos (by omega), show ((m : Int) - 1 - (j : Nat)).toNat = m - 1 - j by omega]
      have hge : (0 : Int) ≤ (m : Int) - 1 - (j : Nat) := by omega
      have w1 : (n / 256 ^ j).tmod 256 = n / 256 ^ j % 256 := Int.tmod_eq_emod_of_nonneg q1
      have w2 : IntKind.wrap .u8 (n / 256 ^ j % 256) = n / 256 ^ j % 256 := wrap_u8 (by omega) (by omega)
      have w3 : IntKind.wrap .i64 ((n / 256 ^ j).tdiv 256) = n / 256 ^ (j + 1) := by rw [Int.tdiv_eq_ediv_of_nonneg q1, q_next]; exact wrap_i64 (by omega) (by omega)
      have w4 : IntKind.wrap .i64 ((m : Int) - 1 - (j : Nat) - 1) = (m : Int) - 1 - ((j + 1 : Nat) : Int) := by rw [wrap_i64 (by omega) (by omega)]; omega
      have hlen : (List.map cell (List.replicate (m - j) 0 ++ wordL n j)).length = m := by simp [wordL_len]; omega
      have hlt2 : m - 1 - j < m := by omega
      have hle2 : m - 1 - j + 1 ≤ m := by omega
      repeat' (first | ((first | refine wSeqr (fun xx hx => ?_) | refine wSeqrF (fun xx hx => ?_) | refine wIf (fun xx hx => ?_) | refine wReg (fun xx hx => ?_) | refine wRegF (fun xx hx => ?_) | (refine wRet ?_; (try simp only [thenQ, blockQ]); (try (subst hQQ; (try simp only [thenQ, blockQ]))); refine ends_by (fun xx hx => ?_))); have hc := trivial; (repeat' (simp only [hc, Nat.reduceBEq, go_sem, Nat.reduceAdd, Nat.reduceMul, Nat.reduceSub, Nat.reduceEqDiff, Nat.reduceLT, Nat.reduceLeDiff, Int.reduceEq, Int.reduceLT, Int.reduceLE, reduceIte, aresults, aresult, hp0, h0, h5, h6, hnat, hge, hh, hlen, hlt2, hle2, w1, w2, w3, w4, Option.isSome_some, aconv_int u2 u5] at hx; (try ((first | rw [guardL_if] at hx | rw [guardF_if] at hx); split at hx <;> rename_i hc)))); all_goals (subst hx; first | (refine ⟨_, rfl, fun ht => ?_, fun ht => ?_⟩ <;> (try simp only [Bool.not_eq_true', Bool.not_eq_false', Bool.and_eq_true, Bool.and_eq_false_iff, Bool.or_eq_true, Bool.or_eq_false_iff, decide_eq_true_eq, decide_eq_false_iff_not, beq_iff_eq, bne_iff_ne, Bool.not_true, Bool.not_false, Bool.true_eq_false, Bool.false_eq_true, ne_eq, Decidable.not_not, inB_t, inB_f] at ht)) | (refine ⟨_, rfl, ?_⟩; (try simp only [tupOf])))) | refine wSkip ?_ | (refine wExit ?_; simp only [thenQ, blockQ, reduceIte, Nat.reduceEqDiff]) | refine wSeq ?_ | refine wBlock ?_ | (subst hQQ; (try simp only [thenQ, blockQ, reduceIte, Nat.reduceEqDiff])))
      all_goals first
        | (exfalso; (try simp only [Bool.not_eq_true', Bool.not_eq_false', Bool.and_eq_true, Bool.and_eq_false_iff, Bool.or_eq_true, Bool.or_eq_false_iff, decide_eq_true_eq, decide_eq_false_iff_not, beq_iff_eq, bne_iff_ne, Bool.not_true, Bool.not_false, Bool.true_eq_false, Bool.false_eq_true, ne_eq, Decidable.not_not, inB_t, inB_f] at *); omega)
        | skip
      refine ⟨_, Nat.sub_lt (by omega) Nat.one_pos, j + 1, by omega, by simp only [upd_eq, Nat.reduceEqDiff, if_false, if_true, h0, h5, h6], by simp only [upd_eq, Nat.reduceEqDiff, if_false, if_true, h0, h5, h6], by simp only [upd_eq, Nat.reduceEqDiff, if_false, if_true, h0, h5, h6], ?_⟩
      simp only [Hp.set_h, if_true]
      refine congrArg some ?_
      show ((List.replicate (m - j) (0 : Int) ++ wordL n j).map cell).set (m - 1 - j) (cell (n / 256 ^ j % 256)) = _
      rw [← List.map_set, rep_set hlt, wordL_succ]
    · have hj' : j = m := by omega
      have hge : ¬ (0 : Int) ≤ (m : Int) - 1 - (j : Nat) := by omega
      repeat' (first | ((first | refine wSeqr (fun xx hx => ?_) | refine wSeqrF (fun xx hx => ?_) | refine wIf (fun xx hx => ?_) | refine wReg (fun xx hx => ?_) | refine wRegF (fun xx hx => ?_) | (refine wRet ?_; (try simp only [thenQ, blockQ]); (try (subst hQQ; (try simp only [thenQ, blockQ]))); refine ends_by (fun xx hx => ?_))); have hc := trivial; (repeat' (simp only [hc, Nat.reduceBEq, go_sem, Nat.reduceAdd, Nat.reduceMul, Nat.reduceSub, Nat.reduceEqDiff, Nat.reduceLT, Nat.reduceLeDiff, Int.reduceEq, Int.reduceLT, Int.reduceLE, reduceIte, aresults, aresult, hp0, h5, h6, hge] at hx; (try ((first | rw [guardL_if] at hx | rw [guardF_if] at hx); split at hx <;> rename_i hc)))); all_goals (subst hx; first | (refine ⟨_, rfl, fun ht => ?_, fun ht => ?_⟩ <;> (try simp only [Bool.not_eq_true', Bool.not_eq_false', Bool.and_eq_true, Bool.and_eq_false_iff, Bool.or_eq_true, Bool.or_eq_false_iff, decide_eq_true_eq, decide_eq_false_iff_not, beq_iff_eq, bne_iff_ne, Bool.not_true, Bool.not_false, Bool.true_eq_false, Bool.false_eq_true, ne_eq, Decidable.not_not, inB_t, inB_f] at ht)) | (refine ⟨_, rfl, ?_⟩; (try simp only [tupOf])))) | refine wSkip ?_ | (refine wExit ?_; simp only [thenQ, blockQ, reduceIte, Nat.reduceEqDiff]) | refine wSeq ?_ | refine wBlock ?_ | (subst hQQ; (try simp only [thenQ, blockQ, reduceIte, Nat.reduceEqDiff])))
      all_goals first
        | (exfalso; (try simp only [Bool.not_eq_true', Bool.not_eq_false', Bool.and_eq_true, Bool.and_eq_false_iff, Bool.or_eq_true, Bool.or_eq_false_iff, decide_eq_true_eq, decide_eq_false_iff_not, beq_iff_eq, bne_iff_ne, Bool.not_true, Bool.not_false, Bool.true_eq_false, Bool.false_eq_true, ne_eq, Decidable.not_not, inB_t, inB_f] at *); omega)
        | skip
      have hh' : H.h 0 = some ((wordL n m).map cell) := by rw [hh, hj', Nat.sub_self]; rfl
      have := gO_bytes hh'
      rw [wordL_len] at this
      exact this
  · refine ⟨0, by omega, ?_, rfl, ?_, ?_⟩
    · simp only [upd_eq, Nat.reduceEqDiff, if_false, Int.pow_zero, Int.ediv_one]; rfl
    · simp only [upd_eq, Nat.reduceEqDiff, if_true]; simp
    · simp only [Hp.new_h, nil_g, if_true, Nat.sub_zero, wordL_zero, List.append_nil]
      exact congrArg some (zeros_cell _)
theorem p_sl1Pack (n : Int) (m : Nat) (m' : Int) (hm : m' = m) (hn : 0 ≤ n ∧ n ≤ 9223372036854775807) (hs : m ≤ 8) : pure Try.prog cfg0 67 Try.f67 [.v (.int .i64 n), .v (.int .i64 m')] = some (bytesL (wordL n m), true) := (pq_sl1Pack n m m' hm hn hs).1
theorem c_sl1Pack (n : Int) (m : Nat) (m' : Int) (hm : m' = m) (hn : 0 ≤ n ∧ n ≤ 9223372036854775807) (hs : m ≤ 8) : ∀ H, call Try.prog cfg0 0 67 [.v (.int .i64 n), .v (.int .i64 m')] H = some (bytesL (wordL n m), H) :=
  call_fz Try.func67 rfl ok_sl1Pack rfl (by simp only [fz_cons, fz_nil, go_sem, and_self]) (pq_sl1Pack n m m' hm hn hs).1
theorem o_sl1Pack (n : Int) (m : Nat) (m' : Int) (hm : m' = m) (hn : 0 ≤ n ∧ n ≤ 9223372036854775807) (hs : m ≤ 8) : ∀ H, call Try.prog cfg0 1 67 [.v (.int .i64 n), .v (.int .i64 m')] H = mat depthD (bytesL (wordL n m)) H := fun H =>
  call_ofO Try.func67 rfl ok_sl1Pack rfl (mapM_self fun x hx => ((show ∀ x ∈ ([.v (.int .i64 n), .v (.int .i64 m')] : List AV), Fz depthD x by simp only [fz_cons, fz_nil, go_sem, and_self]) x hx).1 H) (pq_sl1Pack n m m' hm hn hs).2

theorem ok_inoBytes : fnOk Try.prog cfg0 36 Try.f36 = true := by kernel_rfl
theorem pq_inoBytes (n : Int) : pure Try.prog cfg0 36 Try.f36 [.v (.int .i64 n)] = some (.agg [.v (.int .i64 n), .lst false []], true) ∧ owned Try.prog cfg0 36 Try.f36 [.v (.int .i64 n)] = some (.agg [.v (.int .i64 n), .lst false []]) := by
  refine both_wp (rs := [.cell 2 41]) rfl rfl ?_
  have hp0 : ∀ b, cfg0.pol 36 b = 0 := fun b => rfl
  repeat' (first | ((first | refine wSeqr (fun xx hx => ?_) | refine wSeqrF (fun xx hx => ?_) | refine wIf (fun xx hx => ?_) | refine wReg (fun xx hx => ?_) | refine wRegF (fun xx hx => ?_) | (refine wRet ?_; (try simp only [thenQ, blockQ]); (try (subst hQQ; (try simp only [thenQ, blockQ]))); refine ends_by (fun xx hx => ?_))); have hc := trivial; (repeat' (simp only [hc, Nat.reduceBEq, go_sem, Nat.reduceAdd, Nat.reduceMul, Nat.reduceSub, Nat.reduceEqDiff, Nat.reduceLT, Nat.reduceLeDiff, Int.reduceEq, Int.reduceLT, Int.reduceLE, reduceIte, aresults, aresult, hp0] at hx; (try ((first | rw [guardL_if] at hx | rw [guardF_if] at hx); split at hx <;> rename_i hc)))); all_goals (subst hx; first | (refine ⟨_, rfl, fun ht => ?_, fun ht => ?_⟩ <;> (try simp only [Bool.not_eq_true', Bool.not_eq_false', Bool.and_eq_true, Bool.and_eq_false_iff, Bool.or_eq_true, Bool.or_eq_false_iff, decide_eq_true_eq, decide_eq_false_iff_not, beq_iff_eq, bne_iff_ne, Bool.not_true, Bool.not_false, Bool.true_eq_false, Bool.false_eq_true, ne_eq, Decidable.not_not, inB_t, inB_f] at ht)) | (refine ⟨_, rfl, ?_⟩; (try simp only [tupOf])))) | refine wSkip ?_ | (refine wExit ?_; simp only [thenQ, blockQ, reduceIte, Nat.reduceEqDiff]) | refine wSeq ?_ | refine wBlock ?_ | (subst hQQ; (try simp only [thenQ, blockQ, reduceIte, Nat.reduceEqDiff])))
  all_goals exact ⟨⟨rfl, rfl⟩, own_agg2 ⟨[], rfl, List.nodup_nil⟩⟩
theorem p_inoBytes (n : Int) : pure Try.prog cfg0 36 Try.f36 [.v (.int .i64 n)] = some (.agg [.v (.int .i64 n), .lst false []], true) := (pq_inoBytes n).1
theorem c_inoBytes (n : Int) : ∀ H, call Try.prog cfg0 0 36 [.v (.int .i64 n)] H = some (.agg [.v (.int .i64 n), .lst false []], H) :=
  call_fz Try.func36 rfl ok_inoBytes rfl (by simp only [fz_cons, fz_nil, go_sem, and_self]) (pq_inoBytes n).1
theorem o_inoBytes (n : Int) : ∀ H, call Try.prog cfg0 1 36 [.v (.int .i64 n)] H = mat depthD (.agg [.v (.int .i64 n), .lst false []]) H := fun H =>
  call_ofO Try.func36 rfl ok_inoBytes rfl (mapM_self fun x hx => ((show ∀ x ∈ ([.v (.int .i64 n)] : List AV), Fz depthD x by simp only [fz_cons, fz_nil, go_sem, and_self]) x hx).1 H) (pq_inoBytes n).2

theorem ok_inumber : fnOk Try.prog cfg0 58 Try.f58 = true := by kernel_rfl
theorem p_inumber (l : List Int) (a m : Nat) (a' m' : Int) (ha' : a' = a) (hm' : m' = m) (hb : Eng.Bytes l) (hm1 : 1 ≤ m) (hm8 : m ≤ 8) (hl : l.length ≤ 1048576) (hab : a ≤ 1048576) : pure Try.prog cfg0 58 Try.f58 [bytesL l, .v (.int .i64 a'), .v (.int .i64 m')] = some (.tup [.v (.int .i64 (readWord l a m).2), .v (.bool (decide ((readWord l a m).1 = 0)))], true) := by
  refine pure_wp (rs := [.tmp 6, .tmp 7]) rfl rfl ?_
  have hp0 : ∀ b, cfg0.pol 58 b = 0 := fun b => rfl
  repeat' (first | ((first | refine wSeqr (fun xx hx => ?_) | refine wSeqrF (fun xx hx => ?_) | refine wIf (fun xx hx => ?_) | refine wReg (fun xx hx => ?_) | refine wRegF (fun xx hx => ?_) | (refine wRet ?_; (try simp only [thenQ, blockQ]); (try (subst hQQ; (try simp only [thenQ, blockQ]))); refine ends_by (fun xx hx => ?_))); have hc := trivial; (repeat' (simp only [hc, Nat.reduceBEq, go_sem, Nat.reduceAdd, Nat.reduceMul, Nat.reduceSub, Nat.reduceEqDiff, Nat.reduceLT, Nat.reduceLeDiff, Int.reduceEq, Int.reduceLT, Int.reduceLE, reduceIte, aresults, aresult, hp0, c_iReadWord l a m a' m' ha' hm' hb hm1 hm8 hl hab] at hx; (try ((first | rw [guardL_if] at hx | rw [guardF_if] at hx); split at hx <;> rename_i hc)))); all_goals (subst hx; first | (refine ⟨_, rfl, fun ht => ?_, fun ht => ?_⟩ <;> (try simp only [Bool.not_eq_true', Bool.not_eq_false', Bool.and_eq_true, Bool.and_eq_false_iff, Bool.or_eq_true, Bool.or_eq_false_iff, decide_eq_true_eq, decide_eq_false_iff_not, beq_iff_eq, bne_iff_ne, Bool.not_true, Bool.not_false, Bool.true_eq_false, Bool.false_eq_true, ne_eq, Decidable.not_not, inB_t, inB_f] at ht)) | (refine ⟨_, rfl, ?_⟩; (try simp only [tupOf])))) | refine wSkip ?_ | (refine wExit ?_; simp only [thenQ, blockQ, reduceIte, Nat.reduceEqDiff]) | refine wSeq ?_ | refine wBlock ?_ | (subst hQQ; (try simp only [thenQ, blockQ, reduceIte, Nat.reduceEqDiff])))
  all_goals exact ⟨rfl, rfl⟩
theorem c_inumber (l : List Int) (a m : Nat) (a' m' : Int) (ha' : a' = a) (hm' : m' = m) (hb : Eng.Bytes l) (hm1 : 1 ≤ m) (hm8 : m ≤ 8) (hl : l.length ≤ 1048576) (hab : a ≤ 1048576) : ∀ H, call Try.prog cfg0 0 58 [bytesL l, .v (.int .i64 a'), .v (.int .i64 m')] H = some (.tup [.v (.int .i64 (readWord l a m).2), .v (.bool (decide ((readWord l a m).1 = 0)))], H) :=
  call_fz Try.func58 rfl ok_inumber rfl (by simp only [fz_cons, fz_nil, go_sem, and_self]) (p_inumber l a m a' m' ha' hm' hb hm1 hm8 hl hab)

theorem ok_iClone : fnOk Try.prog cfg0 59 Try.f59 = true := by kernel_rfl
theorem pq_iClone (l : List Int) (hne : l ≠ []) (hl : l.length ≤ 1048576) : pure Try.prog cfg0 59 Try.f59 [bytesL l] = some (bytesL l, true) ∧ owned Try.prog cfg0 59 Try.f59 [bytesL l] = some (bytesL l) := by
  refine both_wp (rs := [.tmp 2]) rfl rfl ?_
  have hp0 : ∀ b, cfg0.pol 59 b = 0 := fun b => rfl
  cases l with
  | nil => exact absurd rfl hne
  | cons a l =>
    repeat' (first | ((first | refine wSeqr (fun xx hx => ?_) | refine wSeqrF (fun xx hx => ?_) | refine wIf (fun xx hx => ?_) | refine wReg (fun xx hx => ?_) | refine wRegF (fun xx hx => ?_) | (refine wRet ?_; (try simp only [thenQ, blockQ]); (try (subst hQQ; (try simp only [thenQ, blockQ]))); refine ends_by (fun xx hx => ?_))); have hc := trivial; (repeat' (simp only [hc, Nat.reduceBEq, go_sem, Nat.reduceAdd, Nat.reduceMul, Nat.reduceSub, Nat.reduceEqDiff, Nat.reduceLT, Nat.reduceLeDiff, Int.reduceEq, Int.reduceLT, Int.reduceLE, reduceIte, aresults, aresult, hp0] at hx; (try ((first | rw [guardL_if] at hx | rw [guardF_if] at hx); split at hx <;> rename_i hc)))); all_goals (subst hx; first | (refine ⟨_, rfl, fun ht => ?_, fun ht => ?_⟩ <;> (try simp only [Bool.not_eq_true', Bool.not_eq_false', Bool.and_eq_true, Bool.and_eq_false_iff, Bool.or_eq_true, Bool.or_eq_false_iff, decide_eq_true_eq, decide_eq_false_iff_not, beq_iff_eq, bne_iff_ne, Bool.not_true, Bool.not_false, Bool.true_eq_false, Bool.false_eq_true, ne_eq, Decidable.not_not, inB_t, inB_f] at ht)) | (refine ⟨_, rfl, ?_⟩; (try simp only [tupOf])))) | refine wSkip ?_ | (refine wExit ?_; simp only [thenQ, blockQ, reduceIte, Nat.reduceEqDiff]) | refine wSeq ?_ | refine wBlock ?_ | (subst hQQ; (try simp only [thenQ, blockQ, reduceIte, Nat.reduceEqDiff])))
    all_goals first
      | (exfalso; (try simp only [Bool.not_eq_true', Bool.not_eq_false', Bool.and_eq_true, Bool.and_eq_false_iff, Bool.or_eq_true, Bool.or_eq_false_iff, decide_eq_true_eq, decide_eq_false_iff_not, beq_iff_eq, bne_iff_ne, Bool.not_true, Bool.not_false, Bool.true_eq_false, Bool.false_eq_true, ne_eq, Decidable.not_not, inB_t, inB_f] at *); simp at *; done)
      | skip
    (first | refine wSeqr (fun xx hx => ?_) | refine wSeqrF (fun xx hx => ?_) | refine wReg (fun xx hx => ?_) | refine wRegF (fun xx hx => ?_)); have hc := trivial; (repeat' (simp only [hc, Nat.reduceBEq, go_sem, Nat.reduceAdd, Nat.reduceMul, Nat.reduceSub, Nat.reduceEqDiff, Nat.reduceLT, Nat.reduceLeDiff, Int.reduceEq, Int.reduceLT, Int.reduceLE, reduceIte, aresults, aresult, hp0] at hx; (try ((first | rw [guardL_if] at hx | rw [guardF_if] at hx); split at hx <;> rename_i hc)))); generalize hq : aappend Try.prog _ _ _ _ = q at hx
    obtain ⟨x', H', rfl, hacc, -, -⟩ := app_rows hq el22 zero5 by5 int22 (sz := 1) rfl (by omega) RAcc.lst (alen_bytes _) (afirst_bytes _ _) (by simp) (by omega) (by omega)
    have hc := trivial; (repeat' (simp only [hc, Nat.reduceBEq, go_sem, Nat.reduceAdd, Nat.reduceMul, Nat.reduceSub, Nat.reduceEqDiff, Nat.reduceLT, Nat.reduceLeDiff, Int.reduceEq, Int.reduceLT, Int.reduceLE, reduceIte, aresults, aresult, hp0] at hx; (try ((first | rw [guardL_if] at hx | rw [guardF_if] at hx); split at hx <;> rename_i hc)))); all_goals (subst hx; refine ⟨_, rfl, ?_⟩)
    repeat' (first | ((first | refine wSeqr (fun xx hx => ?_) | refine wSeqrF (fun xx hx => ?_) | refine wIf (fun xx hx => ?_) | refine wReg (fun xx hx => ?_) | refine wRegF (fun xx hx => ?_) | (refine wRet ?_; (try simp only [thenQ, blockQ]); (try (subst hQQ; (try simp only [thenQ, blockQ]))); refine ends_by (fun xx hx => ?_))); have hc := trivial; (repeat' (simp only [hc, Nat.reduceBEq, go_sem, Nat.reduceAdd, Nat.reduceMul, Nat.reduceSub, Nat.reduceEqDiff, Nat.reduceLT, Nat.reduceLeDiff, Int.reduceEq, Int.reduceLT, Int.reduceLE, reduceIte, aresults, aresult] at hx; (try ((first | rw [guardL_if] at hx | rw [guardF_if] at hx); split at hx <;> rename_i hc)))); all_goals (subst hx; first | (refine ⟨_, rfl, fun ht => ?_, fun ht => ?_⟩ <;> (try simp only [Bool.not_eq_true', Bool.not_eq_false', Bool.and_eq_true, Bool.and_eq_false_iff, Bool.or_eq_true, Bool.or_eq_false_iff, decide_eq_true_eq, decide_eq_false_iff_not, beq_iff_eq, bne_iff_ne, Bool.not_true, Bool.not_false, Bool.true_eq_false, Bool.false_eq_true, ne_eq, Decidable.not_not, inB_t, inB_f] at ht)) | (refine ⟨_, rfl, ?_⟩; (try simp only [tupOf])))) | refine wSkip ?_ | (refine wExit ?_; simp only [thenQ, blockQ, reduceIte, Nat.reduceEqDiff]) | refine wSeq ?_ | refine wBlock ?_ | (subst hQQ; (try simp only [thenQ, blockQ, reduceIte, Nat.reduceEqDiff])))
    rw [List.nil_append] at hacc
    exact gO_bytesR hacc
theorem p_iClone (l : List Int) (hne : l ≠ []) (hl : l.length ≤ 1048576) : pure Try.prog cfg0 59 Try.f59 [bytesL l] = some (bytesL l, true) := (pq_iClone l hne hl).1
theorem c_iClone (l : List Int) (hne : l ≠ []) (hl : l.length ≤ 1048576) : ∀ H, call Try.prog cfg0 0 59 [bytesL l] H = some (bytesL l, H) :=
  call_fz Try.func59 rfl ok_iClone rfl (by simp only [fz_cons, fz_nil, go_sem, and_self]) (pq_iClone l hne hl).1
theorem o_iClone (l : List Int) (hne : l ≠ []) (hl : l.length ≤ 1048576) : ∀ H, call Try.prog cfg0 1 59 [bytesL l] H = mat depthD (bytesL l) H := fun H =>
  call_ofO Try.func59 rfl ok_iClone rfl (mapM_self fun x hx => ((show ∀ x ∈ ([bytesL l] : List AV), Fz depthD x by simp only [fz_cons, fz_nil, go_sem, and_self]) x hx).1 H) (pq_iClone l hne hl).2

theorem ok_sl1Copy : fnOk Try.prog cfg0 72 Try.f72 = true := by kernel_rfl
theorem pq_sl1Copy (l : List Int) (hl : l.length ≤ 1048576) : pure Try.prog cfg0 72 Try.f72 [bytesL l] = some (bytesL l, true) ∧ owned Try.prog cfg0 72 Try.f72 [bytesL l] = some (bytesL l) := by
  refine both_wp (rs := [.tmp 2]) rfl rfl ?_
  have hp0 : ∀ b, cfg0.pol 72 b = 0 := fun b => rfl
  repeat' (first | ((first | refine wSeqr (fun xx hx => ?_) | refine wSeqrF (fun xx hx => ?_) | refine wIf (fun xx hx => ?_) | refine wReg (fun xx hx => ?_) | refine wRegF (fun xx hx => ?_) | (refine wRet ?_; (try simp only [thenQ, blockQ]); (try (subst hQQ; (try simp only [thenQ, blockQ]))); refine ends_by (fun xx hx => ?_))); have hc := trivial; (repeat' (simp only [hc, Nat.reduceBEq, go_sem, Nat.reduceAdd, Nat.reduceMul, Nat.reduceSub, Nat.reduceEqDiff, Nat.reduceLT, Nat.reduceLeDiff, Int.reduceEq, Int.reduceLT, Int.reduceLE, reduceIte, aresults, aresult, hp0] at hx; (try ((first | rw [guardL_if] at hx | rw [guardF_if] at hx); split at hx <;> rename_i hc)))); all_goals (subst hx; first | (refine ⟨_, rfl, fun ht => ?_, fun ht => ?_⟩ <;> (try simp only [Bool.not_eq_true', Bool.not_eq_false', Bool.and_eq_true, Bool.and_eq_false_iff, Bool.or_eq_true, Bool.or_eq_false_iff, decide_eq_true_eq, decide_eq_false_iff_not, beq_iff_eq, bne_iff_ne, Bool.not_true, Bool.not_false, Bool.true_eq_false, Bool.false_eq_true, ne_eq, Decidable.not_not, inB_t, inB_f] at ht)) | (refine ⟨_, rfl, ?_⟩; (try simp only [tupOf])))) | refine wSkip ?_ | (refine wExit ?_; simp only [thenQ, blockQ, reduceIte, Nat.reduceEqDiff]) | refine wSeq ?_ | refine wBlock ?_ | (subst hQQ; (try simp only [thenQ, blockQ, reduceIte, Nat.reduceEqDiff])))
  (first | refine wSeqr (fun xx hx => ?_) | refine wSeqrF (fun xx hx => ?_) | refine wReg (fun xx hx => ?_) | refine wRegF (fun xx hx => ?_)); have hc := trivial; (repeat' (simp only [hc, Nat.reduceBEq, go_sem, Nat.reduceAdd, Nat.reduceMul, Nat.reduceSub, Nat.reduceEqDiff, Nat.reduceLT, Nat.reduceLeDiff, Int.reduceEq, Int.reduceLT, Int.reduceLE, reduceIte, aresults, aresult, hp0] at hx; (try ((first | rw [guardL_if] at hx | rw [guardF_if] at hx); split at hx <;> rename_i hc)))); generalize hq : aappend Try.prog _ _ _ _ = q at hx
  obtain ⟨x', H', rfl, hacc, -, -⟩ := app_rows hq el22 zero5 by5 int22 (sz := 1) rfl (by omega) RAcc.lst (alen_bytes _) (afirst_bytes _ _) (by simp) (by omega) (by omega)
  have hc := trivial; (repeat' (simp only [hc, Nat.reduceBEq, go_sem, Nat.reduceAdd, Nat.reduceMul, Nat.reduceSub, Nat.reduceEqDiff, Nat.reduceLT, Nat.reduceLeDiff, Int.reduceEq, Int.reduceLT, Int.reduceLE, reduceIte, aresults, aresult, hp0] at hx; (try ((first | rw [guardL_if] at hx | rw [guardF_if] at hx); split at hx <;> rename_i hc)))); all_goals (subst hx; refine ⟨_, rfl, ?_⟩)
  repeat' (first | ((first | refine wSeqr (fun xx hx => ?_) | refine wSeqrF (fun xx hx => ?_) | refine wIf (fun xx hx => ?_) | refine wReg (fun xx hx => ?_) | refine wRegF (fun xx hx => ?_) | (refine wRet ?_; (try simp only [thenQ, blockQ]); (try (subst hQQ; (try simp only [thenQ, blockQ]))); refine ends_by (fun xx hx => ?_))); have hc := trivial; (repeat' (simp only [hc, Nat.reduceBEq, go_sem, Nat.reduceAdd, Nat.reduceMul, Nat.reduceSub, Nat.reduceEqDiff, Nat.reduceLT, Nat.reduceLeDiff, Int.reduceEq, Int.reduceLT, Int.reduceLE, reduceIte, aresults, aresult] at hx; (try ((first | rw [guardL_if] at hx | rw [guardF_if] at hx); split at hx <;> rename_i hc)))); all_goals (subst hx; first | (refine ⟨_, rfl, fun ht => ?_, fun ht => ?_⟩ <;> (try simp only [Bool.not_eq_true', Bool.not_eq_false', Bool.and_eq_true, Bool.and_eq_false_iff, Bool.or_eq_true, Bool.or_eq_false_iff, decide_eq_true_eq, decide_eq_false_iff_not, beq_iff_eq, bne_iff_ne, Bool.not_true, Bool.not_false, Bool.true_eq_false, Bool.false_eq_true, ne_eq, Decidable.not_not, inB_t, inB_f] at ht)) | (refine ⟨_, rfl, ?_⟩; (try simp only [tupOf])))) | refine wSkip ?_ | (refine wExit ?_; simp only [thenQ, blockQ, reduceIte, Nat.reduceEqDiff]) | refine wSeq ?_ | refine wBlock ?_ | (subst hQQ; (try simp only [thenQ, blockQ, reduceIte, Nat.reduceEqDiff])))
  rw [List.nil_append] at hacc
  exact gO_bytesR hacc
theorem p_sl1Copy (l : List Int) (hl : l.length ≤ 1048576) : pure Try.prog cfg0 72 Try.f72 [bytesL l] = some (bytesL l, true) := (pq_sl1Copy l hl).1
theorem c_sl1Copy (l : List Int) (hl : l.length ≤ 1048576) : ∀ H, call Try.prog cfg0 0 72 [bytesL l] H = some (bytesL l, H) :=
  call_fz Try.func72 rfl ok_sl1Copy rfl (by simp only [fz_cons, fz_nil, go_sem, and_self]) (pq_sl1Copy l hl).1
theorem o_sl1Copy (l : List Int) (hl : l.length ≤ 1048576) : ∀ H, call Try.prog cfg0 1 72 [bytesL l] H = mat depthD (bytesL l) H := fun H =>
  call_ofO Try.func72 rfl ok_sl1Copy rfl (mapM_self fun x hx => ((show ∀ x ∈ ([bytesL l] : List AV), Fz depthD x by simp only [fz_cons, fz_nil, go_sem, and_self]) x hx).1 H) (pq_sl1Copy l hl).2

theorem ok_EqB : fnOk Try.prog cfg0 60 Try.f60 = true := by kernel_rfl
theorem p_EqB (a b : List Int) (hl : a.length ≤ 1048576) : pure Try.prog cfg0 60 Try.f60 [bytesL a, bytesL b] = some (.v (.bool (decide (a = b))), true) := by
  refine pure_wp (rs := [.tmp 4]) rfl rfl ?_
  have hp0 : ∀ b, cfg0.pol 60 b = 0 := fun b => rfl
  repeat' (first | ((first | refine wSeqr (fun xx hx => ?_) | refine wSeqrF (fun xx hx => ?_) | refine wIf (fun xx hx => ?_) | refine wReg (fun xx hx => ?_) | refine wRegF (fun xx hx => ?_) | (refine wRet ?_; (try simp only [thenQ, blockQ]); (try (subst hQQ; (try simp only [thenQ, blockQ]))); refine ends_by (fun xx hx => ?_))); have hc := trivial; (repeat' (simp only [hc, Nat.reduceBEq, go_sem, Nat.reduceAdd, Nat.reduceMul, Nat.reduceSub, Nat.reduceEqDiff, Nat.reduceLT, Nat.reduceLeDiff, Int.reduceEq, Int.reduceLT, Int.reduceLE, reduceIte, aresults, aresult, hp0] at hx; (try ((first | rw [guardL_if] at hx | rw [guardF_if] at hx); split at hx <;> rename_i hc)))); all_goals (subst hx; first | (refine ⟨_, rfl, fun ht => ?_, fun ht => ?_⟩ <;> (try simp only [Bool.not_eq_true', Bool.not_eq_false', Bool.and_eq_true, Bool.and_eq_false_iff, Bool.or_eq_true, Bool.or_eq_false_iff, decide_eq_true_eq, decide_eq_false_iff_not, beq_iff_eq, bne_iff_ne, Bool.not_true, Bool.not_false, Bool.true_eq_false, Bool.false_eq_true, ne_eq, Decidable.not_not, inB_t, inB_f] at ht)) | (refine ⟨_, rfl, ?_⟩; (try simp only [tupOf])))) | refine wSkip ?_ | (refine wExit ?_; simp only [thenQ, blockQ, reduceIte, Nat.reduceEqDiff]) | refine wSeq ?_ | refine wBlock ?_ | (subst hQQ; (try simp only [thenQ, blockQ, reduceIte, Nat.reduceEqDiff])))
  · refine gives_boolv ?_
    rw [decide_eq_false]
    intro h; rw [h] at ht; exact ht rfl
  have hlen : a.length = b.length := by (try simp only [Bool.not_eq_true', Bool.not_eq_false', Bool.and_eq_true, Bool.and_eq_false_iff, Bool.or_eq_true, Bool.or_eq_false_iff, decide_eq_true_eq, decide_eq_false_iff_not, beq_iff_eq, bne_iff_ne, Bool.not_true, Bool.not_false, Bool.true_eq_false, Bool.false_eq_true, ne_eq, Decidable.not_not, inB_t, inB_f] at *); omega
  refine wLoop (fun k s => ∃ (j : Nat), j + k = a.length ∧ s.1 0 = bytesL a ∧ s.1 1 = bytesL b ∧ s.1 12 = .v (.int .i64 (a.length : Nat)) ∧ s.1 13 = .v (.int .i64 (j : Nat)) ∧ (a.take j = b.take j)) (fun k s hI => ?_) (a.length) _ ?_
  · obtain ⟨e, H⟩ := s
    obtain ⟨j, hj, h0, h1, h12, h13, htk⟩ := hI
    simp only at h0 h1 h12 h13 htk
    by_cases hlt : j < a.length
    · obtain ⟨x, gx, -, -⟩ := at_drop hlt
      obtain ⟨y, gy, -, -⟩ := at_drop (show j < b.length by omega)
      have gx' : (a.map fun z => [AV.v (.int .u8 z)])[j]? = some [.v (.int .u8 x)] := by rw [List.getElem?_map, gx]; rfl
      have gy' : (b.map fun z => [AV.v (.int .u8 z)])[j]? = some [.v (.int .u8 y)] := by rw [List.getElem?_map, gy]; rfl
      by_cases he : x = y
      · repeat' (first | ((first | refine wSeqr (fun xx hx => ?_) | refine wSeqrF (fun xx hx => ?_) | refine wIf (fun xx hx => ?_) | refine wReg (fun xx hx => ?_) | refine wRegF (fun xx hx => ?_) | (refine wRet ?_; (try simp only [thenQ, blockQ]); (try (subst hQQ; (try simp only [thenQ, blockQ]))); refine ends_by (fun xx hx => ?_))); have hc := trivial; (repeat' (simp only [hc, Nat.reduceBEq, go_sem, Nat.reduceAdd, Nat.reduceMul, Nat.reduceSub, Nat.reduceEqDiff, Nat.reduceLT, Nat.reduceLeDiff, Int.reduceEq, Int.reduceLT, Int.reduceLE, reduceIte, aresults, aresult, hp0, h0, h1, h12, h13, bytesL, cell, List.length_map, gx', gy', he, wrap_succ (show j < 9223372036854775807 by omega)] at hx; (try ((first | rw [guardL_if] at hx | rw [guardF_if] at hx); split at hx <;> rename_i hc)))); all_goals (subst hx; first | (refine ⟨_, rfl, fun ht => ?_, fun ht => ?_⟩ <;> (try simp only [Bool.not_eq_true', Bool.not_eq_false', Bool.and_eq_true, Bool.and_eq_false_iff, Bool.or_eq_true, Bool.or_eq_false_iff, decide_eq_true_eq, decide_eq_false_iff_not, beq_iff_eq, bne_iff_ne, Bool.not_true, Bool.not_false, Bool.true_eq_false, Bool.false_eq_true, ne_eq, Decidable.not_not, inB_t, inB_f] at ht)) | (refine ⟨_, rfl, ?_⟩; (try simp only [tupOf])))) | refine wSkip ?_ | (refine wExit ?_; simp only [thenQ, blockQ, reduceIte, Nat.reduceEqDiff]) | refine wSeq ?_ | refine wBlock ?_ | (subst hQQ; (try simp only [thenQ, blockQ, reduceIte, Nat.reduceEqDiff])))
        all_goals try (exfalso; (try simp only [Bool.not_eq_true', Bool.not_eq_false', Bool.and_eq_true, Bool.and_eq_false_iff, Bool.or_eq_true, Bool.or_eq_false_iff, decide_eq_true_eq, decide_eq_false_iff_not, beq_iff_eq, bne_iff_ne, Bool.not_true, Bool.not_false, Bool.true_eq_false, Bool.false_eq_true, ne_eq, Decidable.not_not, inB_t, inB_f] at *); first | omega | exact absurd trivial (by assumption))
        refine ⟨_, Nat.sub_lt (by omega) Nat.one_pos, j + 1, by omega, by simp only [upd_eq, Nat.reduceEqDiff, if_false, if_true, h0, h1, h12, h13], by simp only [upd_eq, Nat.reduceEqDiff, if_false, if_true, h0, h1, h12, h13], by simp only [upd_eq, Nat.reduceEqDiff, if_false, if_true, h0, h1, h12, h13], by simp only [upd_eq, Nat.reduceEqDiff, if_false, if_true, h0, h1, h12, h13], ?_⟩
        rw [List.take_add_one, List.take_add_one, gx, gy, htk, he]
      · repeat' (first | ((first | refine wSeqr (fun xx hx => ?_) | refine wSeqrF (fun xx hx => ?_) | refine wIf (fun xx hx => ?_) | refine wReg (fun xx hx => ?_) | refine wRegF (fun xx hx => ?_) | (refine wRet ?_; (try simp only [thenQ, blockQ]); (try (subst hQQ; (try simp only [thenQ, blockQ]))); refine ends_by (fun xx hx => ?_))); have hc := trivial; (repeat' (simp only [hc, Nat.reduceBEq, go_sem, Nat.reduceAdd, Nat.reduceMul, Nat.reduceSub, Nat.reduceEqDiff, Nat.reduceLT, Nat.reduceLeDiff, Int.reduceEq, Int.reduceLT, Int.reduceLE, reduceIte, aresults, aresult, hp0, h0, h1, h12, h13, bytesL, cell, List.length_map, gx', gy', he] at hx; (try ((first | rw [guardL_if] at hx | rw [guardF_if] at hx); split at hx <;> rename_i hc)))); all_goals (subst hx; first | (refine ⟨_, rfl, fun ht => ?_, fun ht => ?_⟩ <;> (try simp only [Bool.not_eq_true', Bool.not_eq_false', Bool.and_eq_true, Bool.and_eq_false_iff, Bool.or_eq_true, Bool.or_eq_false_iff, decide_eq_true_eq, decide_eq_false_iff_not, beq_iff_eq, bne_iff_ne, Bool.not_true, Bool.not_false, Bool.true_eq_false, Bool.false_eq_true, ne_eq, Decidable.not_not, inB_t, inB_f] at ht)) | (refine ⟨_, rfl, ?_⟩; (try simp only [tupOf])))) | refine wSkip ?_ | (refine wExit ?_; simp only [thenQ, blockQ, reduceIte, Nat.reduceEqDiff]) | refine wSeq ?_ | refine wBlock ?_ | (subst hQQ; (try simp only [thenQ, blockQ, reduceIte, Nat.reduceEqDiff])))
        all_goals try (exfalso; (try simp only [Bool.not_eq_true', Bool.not_eq_false', Bool.and_eq_true, Bool.and_eq_false_iff, Bool.or_eq_true, Bool.or_eq_false_iff, decide_eq_true_eq, decide_eq_false_iff_not, beq_iff_eq, bne_iff_ne, Bool.not_true, Bool.not_false, Bool.true_eq_false, Bool.false_eq_true, ne_eq, Decidable.not_not, inB_t, inB_f] at *); first | omega | exact absurd trivial (by assumption))
        refine gives_boolv ?_
        rw [decide_eq_false]
        intro h; rw [h] at gx; rw [gx] at gy
        exact he (Option.some.inj gy)
    · have hj' : j = a.length := by omega
      repeat' (first | ((first | refine wSeqr (fun xx hx => ?_) | refine wSeqrF (fun xx hx => ?_) | refine wIf (fun xx hx => ?_) | refine wReg (fun xx hx => ?_) | refine wRegF (fun xx hx => ?_) | (refine wRet ?_; (try simp only [thenQ, blockQ]); (try (subst hQQ; (try simp only [thenQ, blockQ]))); refine ends_by (fun xx hx => ?_))); have hc := trivial; (repeat' (simp only [hc, Nat.reduceBEq, go_sem, Nat.reduceAdd, Nat.reduceMul, Nat.reduceSub, Nat.reduceEqDiff, Nat.reduceLT, Nat.reduceLeDiff, Int.reduceEq, Int.reduceLT, Int.reduceLE, reduceIte, aresults, aresult, hp0, h0, h1, h12, h13, bytesL, List.length_map] at hx; (try ((first | rw [guardL_if] at hx | rw [guardF_if] at hx); split at hx <;> rename_i hc)))); all_goals (subst hx; first | (refine ⟨_, rfl, fun ht => ?_, fun ht => ?_⟩ <;> (try simp only [Bool.not_eq_true', Bool.not_eq_false', Bool.and_eq_true, Bool.and_eq_false_iff, Bool.or_eq_true, Bool.or_eq_false_iff, decide_eq_true_eq, decide_eq_false_iff_not, beq_iff_eq, bne_iff_ne, Bool.not_true, Bool.not_false, Bool.true_eq_false, Bool.false_eq_true, ne_eq, Decidable.not_not, inB_t, inB_f] at ht)) | (refine ⟨_, rfl, ?_⟩; (try simp only [tupOf])))) | refine wSkip ?_ | (refine wExit ?_; simp only [thenQ, blockQ, reduceIte, Nat.reduceEqDiff]) | refine wSeq ?_ | refine wBlock ?_ | (subst hQQ; (try simp only [thenQ, blockQ, reduceIte, Nat.reduceEqDiff])))
      all_goals try (exfalso; (try simp only [Bool.not_eq_true', Bool.not_eq_false', Bool.and_eq_true, Bool.and_eq_false_iff, Bool.or_eq_true, Bool.or_eq_false_iff, decide_eq_true_eq, decide_eq_false_iff_not, beq_iff_eq, bne_iff_ne, Bool.not_true, Bool.not_false, Bool.true_eq_false, Bool.false_eq_true, ne_eq, Decidable.not_not, inB_t, inB_f] at *); first | omega | exact absurd trivial (by assumption))
      refine gives_boolv ?_
      rw [hj', List.take_length, hlen, List.take_length] at htk
      rw [htk, decide_eq_true rfl]
  · refine ⟨0, by omega, rfl, rfl, rfl, rfl, ?_⟩
    rfl
theorem c_EqB (a b : List Int) (hl : a.length ≤ 1048576) : ∀ H, call Try.prog cfg0 0 60 [bytesL a, bytesL b] H = some (.v (.bool (decide (a = b))), H) :=
  call_fz Try.func60 rfl ok_EqB rfl (by simp only [fz_cons, fz_nil, go_sem, and_self]) (p_EqB a b hl)

theorem ok_Grow : fnOk Try.prog cfg0 78 Try.f78 = true := by kernel_rfl
theorem cr_Grow (n : Nat) (h0 : 0 < n) (hn : n ≤ 1048576) : ∀ H, call Try.prog cfg0 0 78 [.v (.slice none 0 0), .v (.int .i64 (n : Nat))] H = some (.sl H.g 1 0 0, H.new ((List.replicate n 0).map cell)) := by
  intro H
  have key : ∃ r, body Try.prog cfg0 78 Try.f78 [.v (.slice none 0 0), .v (.int .i64 (n : Nat))] H = some r ∧ (r.1 = .sl H.g 1 0 0 ∧ r.2 = H.new ((List.replicate n 0).map cell)) := by
    refine body_wp (rs := [.tmp 4]) rfl rfl (R := fun x H' => x = .sl H.g 1 0 0 ∧ H' = H.new ((List.replicate n 0).map cell)) ?_
    have hp0 : ∀ b, cfg0.pol 78 b = 0 := fun b => rfl
    have w1 : IntKind.wrap .i64 ((n : Int) - 0) = (n : Int) := by rw [wrap_i64 (by omega) (by omega)]; omega
    have w0 : IntKind.wrap .i64 (((0 : Nat) : Int) - ((0 : Nat) : Int)) = 0 := by decide
    have hap : ∀ K : Hp, aappend Try.prog K [22, 3] (.v (.slice none 0 0)) (.v (.int .i64 (n : Nat))) = some (.sl K.g 1 0 n, K.new ((List.replicate n 0).map cell)) := by
      intro K
      have hi : intT Try.prog 3 = some true := by kernel_rfl
      have hz : zeroOf Try.prog 5 = some [cell 0] := zero5
      simp only [aappend, el22, hz, by5, Option.bind_some, aappended, hi, if_true, natOf_nat]
      rw [if_pos (by omega)]
      simp only [Option.bind_some]
      rw [if_neg (by omega), if_neg (by simp), if_pos (roomy_1 (by omega)), zeros_cell]
      rfl
    repeat' (first | ((first | refine wSeqr (fun xx hx => ?_) | refine wSeqrF (fun xx hx => ?_) | refine wIf (fun xx hx => ?_) | refine wReg (fun xx hx => ?_) | refine wRegF (fun xx hx => ?_) | (refine wRet ?_; (try simp only [thenQ, blockQ]); (try (subst hQQ; (try simp only [thenQ, blockQ]))); refine ends_by (fun xx hx => ?_))); have hc := trivial; (repeat' (simp only [hc, Nat.reduceBEq, go_sem, Nat.reduceAdd, Nat.reduceMul, Nat.reduceSub, Nat.reduceEqDiff, Nat.reduceLT, Nat.reduceLeDiff, Int.reduceEq, Int.reduceLT, Int.reduceLE, reduceIte, aresults, aresult, hp0, w0, w1, hap] at hx; (try ((first | rw [guardL_if] at hx | rw [guardF_if] at hx); split at hx <;> rename_i hc)))); all_goals (subst hx; first | (refine ⟨_, rfl, fun ht => ?_, fun ht => ?_⟩ <;> (try simp only [Bool.not_eq_true', Bool.not_eq_false', Bool.and_eq_true, Bool.and_eq_false_iff, Bool.or_eq_true, Bool.or_eq_false_iff, decide_eq_true_eq, decide_eq_false_iff_not, beq_iff_eq, bne_iff_ne, Bool.not_true, Bool.not_false, Bool.true_eq_false, Bool.false_eq_true, ne_eq, Decidable.not_not, inB_t, inB_f] at ht)) | (refine ⟨_, rfl, ?_⟩; (try simp only [tupOf])))) | refine wSkip ?_ | (refine wExit ?_; simp only [thenQ, blockQ, reduceIte, Nat.reduceEqDiff]) | refine wSeq ?_ | refine wBlock ?_ | (subst hQQ; (try simp only [thenQ, blockQ, reduceIte, Nat.reduceEqDiff])))
    all_goals first
      | (exfalso; (try simp only [Bool.not_eq_true', Bool.not_eq_false', Bool.and_eq_true, Bool.and_eq_false_iff, Bool.or_eq_true, Bool.or_eq_false_iff, decide_eq_true_eq, decide_eq_false_iff_not, beq_iff_eq, bne_iff_ne, Bool.not_true, Bool.not_false, Bool.true_eq_false, Bool.false_eq_true, ne_eq, Decidable.not_not, inB_t, inB_f] at *); omega)
      | skip
    all_goals (constructor <;> first | trivial | rfl)
  obtain ⟨⟨v, H'⟩, h1, rfl, rfl⟩ := key
  rw [call_raw Try.prog cfg0 Try.func78 rfl ok_Grow rfl rfl, h1]
theorem cr_Grow0 : ∀ H, call Try.prog cfg0 0 78 [.v (.slice none 0 0), .v (.int .i64 0)] H = some (.v (.slice none 0 0), H) := by
  intro H
  have key : ∃ r, body Try.prog cfg0 78 Try.f78 [.v (.slice none 0 0), .v (.int .i64 0)] H = some r ∧ (r.1 = .v (.slice none 0 0) ∧ r.2 = H) := by
    refine body_wp (rs := [.tmp 4]) rfl rfl (R := fun x H' => x = .v (.slice none 0 0) ∧ H' = H) ?_
    have hp0 : ∀ b, cfg0.pol 78 b = 0 := fun b => rfl
    have w0 : IntKind.wrap .i64 (((0 : Nat) : Int) - ((0 : Nat) : Int)) = 0 := by decide
    have w1 : IntKind.wrap .i64 ((0 : Int) - 0) = 0 := by decide
    repeat' (first | ((first | refine wSeqr (fun xx hx => ?_) | refine wSeqrF (fun xx hx => ?_) | refine wIf (fun xx hx => ?_) | refine wReg (fun xx hx => ?_) | refine wRegF (fun xx hx => ?_) | (refine wRet ?_; (try simp only [thenQ, blockQ]); (try (subst hQQ; (try simp only [thenQ, blockQ]))); refine ends_by (fun xx hx => ?_))); have hc := trivial; (repeat' (simp only [hc, Nat.reduceBEq, go_sem, Nat.reduceAdd, Nat.reduceMul, Nat.reduceSub, Nat.reduceEqDiff, Nat.reduceLT, Nat.reduceLeDiff, Int.reduceEq, Int.reduceLT, Int.reduceLE, reduceIte, aresults, aresult, hp0, w0, w1] at hx; (try ((first | rw [guardL_if] at hx | rw [guardF_if] at hx); split at hx <;> rename_i hc)))); all_goals (subst hx; first | (refine ⟨_, rfl, fun ht => ?_, fun ht => ?_⟩ <;> (try simp only [Bool.not_eq_true', Bool.not_eq_false', Bool.and_eq_true, Bool.and_eq_false_iff, Bool.or_eq_true, Bool.or_eq_false_iff, decide_eq_true_eq, decide_eq_false_iff_not, beq_iff_eq, bne_iff_ne, Bool.not_true, Bool.not_false, Bool.true_eq_false, Bool.false_eq_true, ne_eq, Decidable.not_not, inB_t, inB_f] at ht)) | (refine ⟨_, rfl, ?_⟩; (try simp only [tupOf])))) | refine wSkip ?_ | (refine wExit ?_; simp only [thenQ, blockQ, reduceIte, Nat.reduceEqDiff]) | refine wSeq ?_ | refine wBlock ?_ | (subst hQQ; (try simp only [thenQ, blockQ, reduceIte, Nat.reduceEqDiff])))
    all_goals first
      | (exfalso; (try simp only [Bool.not_eq_true', Bool.not_eq_false', Bool.and_eq_true, Bool.and_eq_false_iff, Bool.or_eq_true, Bool.or_eq_false_iff, decide_eq_true_eq, decide_eq_false_iff_not, beq_iff_eq, bne_iff_ne, Bool.not_true, Bool.not_false, Bool.true_eq_false, Bool.false_eq_true, ne_eq, Decidable.not_not, inB_t, inB_f] at *); simp at *; done)
      | skip
    all_goals (constructor <;> first | trivial | rfl)
  obtain ⟨⟨v, H'⟩, h1, rfl, rfl⟩ := key
  rw [call_raw Try.prog cfg0 Try.func78 rfl ok_Grow rfl rfl, h1]
end
end Go.Proofs.Ytmpkcilehideiaa
