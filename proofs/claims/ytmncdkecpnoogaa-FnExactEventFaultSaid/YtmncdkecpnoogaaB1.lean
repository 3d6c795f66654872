/- Contracts of the laws' generated helpers, over the typed mirrors: printed by fam2.py. -/
import Derived.Test.YtmncdkecpnoogaaB0
namespace Go.Proofs.Ytmncdkecpnoogaa
open Go Go.RowKit Go.Proofs.Ytmncdkecpnoogaa.Eng
set_option linter.unusedSimpArgs false
set_option linter.unusedVariables false
set_option maxRecDepth 100000
noncomputable section
theorem ok_lszByteS : fnOk Try.prog cfg0 48 Try.f48 = true := by kernel_rfl
theorem s_lszByteS (l : List Int) (n : Int) (hl : l.length ≤ 140737488351232) (hn : 0 ≤ n ∧ n ≤ 1048576) : ∃ m : Int, -1 ≤ m ∧ m ≤ n ∧ (0 ≤ m → l.length ≤ 1048576) ∧ ∀ H, call Try.prog cfg0 0 48 [bytesL l, .v (.int .i64 n)] H = some (.v (.int .i64 m), H) := by
  have hw : IntKind.wrap .i64 (n - l.length) = n - l.length := wrap_i64 (by omega) (by omega)
  have key : ∃ v cl, (∃ m : Int, v = .v (.int .i64 m) ∧ -1 ≤ m ∧ m ≤ n ∧ (0 ≤ m → l.length ≤ 1048576)) ∧ pure Try.prog cfg0 48 Try.f48 [bytesL l, .v (.int .i64 n)] = some (v, cl) := by
    refine pure_ex (rs := [.tmp 4]) rfl rfl ?_
    have hp0 : ∀ b, cfg0.pol 48 b = 0 := fun b => rfl
    repeat' (first | ((first | refine wSeqr (fun xx hx => ?_) | refine wIf (fun xx hx => ?_) | refine wReg (fun xx hx => ?_) | (refine wRet ?_; (try simp only [thenQ, blockQ]); refine ends_by (fun xx hx => ?_))); have hc := trivial; (repeat' (simp only [hc, go_sem, Nat.reduceAdd, Nat.reduceMul, Nat.reduceSub, Nat.reduceEqDiff, Nat.reduceLT, Nat.reduceLeDiff, Int.reduceEq, Int.reduceLT, Int.reduceLE, reduceIte, aresults, aresult, hw] at hx; (try (rw [guardL_if] at hx; split at hx <;> rename_i hc)))); all_goals (subst hx; first | (refine ⟨_, rfl, fun ht => ?_, fun ht => ?_⟩ <;> (try simp only [Bool.not_eq_true', Bool.not_eq_false', Bool.and_eq_true, Bool.and_eq_false_iff, Bool.or_eq_true, Bool.or_eq_false_iff, decide_eq_true_eq, decide_eq_false_iff_not, beq_iff_eq, bne_iff_ne, Bool.not_true, Bool.not_false, Bool.true_eq_false, Bool.false_eq_true, ne_eq, Decidable.not_not, inB_t, inB_f] at ht)) | (refine ⟨_, rfl, ?_⟩; (try simp only [tupOf])))) | refine wSkip ?_ | (refine wExit ?_; simp only [thenQ, blockQ, reduceIte, Nat.reduceEqDiff]) | refine wSeq ?_ | refine wBlock ?_)
    · exact ⟨_, _, ⟨-1, rfl, by omega, by omega, by omega⟩, rfl, rfl⟩
    · exact ⟨_, _, ⟨n - l.length, rfl, by omega, by omega, by omega⟩, rfl, rfl⟩
  obtain ⟨v, cl, ⟨m, rfl, h1, h2, h3⟩, hp⟩ := key
  exact ⟨m, h1, h2, h3, fun H => call_fz Try.func48 rfl ok_lszByteS rfl (by simp only [fz_cons, fz_nil, go_sem, and_self]) hp H⟩
theorem ok_lszInt64S : fnOk Try.prog cfg0 90 Try.f90 = true := by kernel_rfl
theorem s_lszInt64S (l : List Int) (n : Int) (hl : l.length ≤ 140737488351232) (hn : 0 ≤ n ∧ n ≤ 1048576) : ∃ m : Int, -1 ≤ m ∧ m ≤ n ∧ (0 ≤ m → l.length ≤ 1048576) ∧ ∀ H, call Try.prog cfg0 0 90 [i64L l, .v (.int .i64 n)] H = some (.v (.int .i64 m), H) := by
  have hw : IntKind.wrap .i64 (n - l.length) = n - l.length := wrap_i64 (by omega) (by omega)
  have key : ∃ v cl, (∃ m : Int, v = .v (.int .i64 m) ∧ -1 ≤ m ∧ m ≤ n ∧ (0 ≤ m → l.length ≤ 1048576)) ∧ pure Try.prog cfg0 90 Try.f90 [i64L l, .v (.int .i64 n)] = some (v, cl) := by
    refine pure_ex (rs := [.tmp 4]) rfl rfl ?_
    have hp0 : ∀ b, cfg0.pol 90 b = 0 := fun b => rfl
    repeat' (first | ((first | refine wSeqr (fun xx hx => ?_) | refine wIf (fun xx hx => ?_) | refine wReg (fun xx hx => ?_) | (refine wRet ?_; (try simp only [thenQ, blockQ]); refine ends_by (fun xx hx => ?_))); have hc := trivial; (repeat' (simp only [hc, go_sem, Nat.reduceAdd, Nat.reduceMul, Nat.reduceSub, Nat.reduceEqDiff, Nat.reduceLT, Nat.reduceLeDiff, Int.reduceEq, Int.reduceLT, Int.reduceLE, reduceIte, aresults, aresult, hw] at hx; (try (rw [guardL_if] at hx; split at hx <;> rename_i hc)))); all_goals (subst hx; first | (refine ⟨_, rfl, fun ht => ?_, fun ht => ?_⟩ <;> (try simp only [Bool.not_eq_true', Bool.not_eq_false', Bool.and_eq_true, Bool.and_eq_false_iff, Bool.or_eq_true, Bool.or_eq_false_iff, decide_eq_true_eq, decide_eq_false_iff_not, beq_iff_eq, bne_iff_ne, Bool.not_true, Bool.not_false, Bool.true_eq_false, Bool.false_eq_true, ne_eq, Decidable.not_not, inB_t, inB_f] at ht)) | (refine ⟨_, rfl, ?_⟩; (try simp only [tupOf])))) | refine wSkip ?_ | (refine wExit ?_; simp only [thenQ, blockQ, reduceIte, Nat.reduceEqDiff]) | refine wSeq ?_ | refine wBlock ?_)
    · exact ⟨_, _, ⟨-1, rfl, by omega, by omega, by omega⟩, rfl, rfl⟩
    · exact ⟨_, _, ⟨n - l.length, rfl, by omega, by omega, by omega⟩, rfl, rfl⟩
  obtain ⟨v, cl, ⟨m, rfl, h1, h2, h3⟩, hp⟩ := key
  exact ⟨m, h1, h2, h3, fun H => call_fz Try.func90 rfl ok_lszInt64S rfl (by simp only [fz_cons, fz_nil, go_sem, and_self]) hp H⟩
theorem ok_ltoInt64S : fnOk Try.prog cfg0 93 Try.f93 = true := by kernel_rfl
theorem p_ltoInt64S (l : List Int) (hl : l.length ≤ 1048576) : pure Try.prog cfg0 93 Try.f93 [i64L l] = some (i64L l, true) := by
  refine pure_wp (rs := [.tmp 2]) rfl rfl ?_
  have hp0 : ∀ b, cfg0.pol 93 b = 0 := fun b => rfl
  have hr := roomy_of (n := l.length) (b := 8) (by omega) (by omega)
  repeat' (first | ((first | refine wSeqr (fun xx hx => ?_) | refine wIf (fun xx hx => ?_) | refine wReg (fun xx hx => ?_) | (refine wRet ?_; (try simp only [thenQ, blockQ]); refine ends_by (fun xx hx => ?_))); have hc := trivial; (repeat' (simp only [hc, go_sem, Nat.reduceAdd, Nat.reduceMul, Nat.reduceSub, Nat.reduceEqDiff, Nat.reduceLT, Nat.reduceLeDiff, Int.reduceEq, Int.reduceLT, Int.reduceLE, reduceIte, aresults, aresult, hr] at hx; (try (rw [guardL_if] at hx; split at hx <;> rename_i hc)))); all_goals (subst hx; first | (refine ⟨_, rfl, fun ht => ?_, fun ht => ?_⟩ <;> (try simp only [Bool.not_eq_true', Bool.not_eq_false', Bool.and_eq_true, Bool.and_eq_false_iff, Bool.or_eq_true, Bool.or_eq_false_iff, decide_eq_true_eq, decide_eq_false_iff_not, beq_iff_eq, bne_iff_ne, Bool.not_true, Bool.not_false, Bool.true_eq_false, Bool.false_eq_true, ne_eq, Decidable.not_not, inB_t, inB_f] at ht)) | (refine ⟨_, rfl, ?_⟩; (try simp only [tupOf])))) | refine wSkip ?_ | (refine wExit ?_; simp only [thenQ, blockQ, reduceIte, Nat.reduceEqDiff]) | refine wSeq ?_ | refine wBlock ?_)
  refine wLoop (fun k s => ∃ (j : Nat), j + k = l.length ∧ s.1 0 = i64L l ∧ s.1 4 = .v (.int .i64 (j : Nat)) ∧ s.1 3 = .sl 0 1 0 l.length ∧ (s.2.h 0 = some ((l.take j ++ List.replicate (l.length - j) 0).map icell))) (fun k s hI => ?_) (l.length) _ ?_
  · obtain ⟨e, H⟩ := s
    obtain ⟨j, hj, h0, h4, h3, hh⟩ := hI
    simp only at h0 h4 h3 hh
    repeat' (first | ((first | refine wSeqr (fun xx hx => ?_) | refine wIf (fun xx hx => ?_) | refine wReg (fun xx hx => ?_) | (refine wRet ?_; (try simp only [thenQ, blockQ]); refine ends_by (fun xx hx => ?_))); have hc := trivial; (repeat' (simp only [hc, go_sem, Nat.reduceAdd, Nat.reduceMul, Nat.reduceSub, Nat.reduceEqDiff, Nat.reduceLT, Nat.reduceLeDiff, Int.reduceEq, Int.reduceLT, Int.reduceLE, reduceIte, aresults, aresult, h0, h4] at hx; (try (rw [guardL_if] at hx; split at hx <;> rename_i hc)))); all_goals (subst hx; first | (refine ⟨_, rfl, fun ht => ?_, fun ht => ?_⟩ <;> (try simp only [Bool.not_eq_true', Bool.not_eq_false', Bool.and_eq_true, Bool.and_eq_false_iff, Bool.or_eq_true, Bool.or_eq_false_iff, decide_eq_true_eq, decide_eq_false_iff_not, beq_iff_eq, bne_iff_ne, Bool.not_true, Bool.not_false, Bool.true_eq_false, Bool.false_eq_true, ne_eq, Decidable.not_not, inB_t, inB_f] at ht)) | (refine ⟨_, rfl, ?_⟩; (try simp only [tupOf])))) | refine wSkip ?_ | (refine wExit ?_; simp only [thenQ, blockQ, reduceIte, Nat.reduceEqDiff]) | refine wSeq ?_ | refine wBlock ?_)
    · have hlt : j < l.length := by omega
      have hg := get_i64 hlt
      have hlen : (List.map icell (l.take j ++ List.replicate (l.length - j) 0)).length = l.length := by simp; omega
      repeat' (first | ((first | refine wSeqr (fun xx hx => ?_) | refine wIf (fun xx hx => ?_) | refine wReg (fun xx hx => ?_) | (refine wRet ?_; (try simp only [thenQ, blockQ]); refine ends_by (fun xx hx => ?_))); have hc := trivial; (repeat' (simp only [hc, go_sem, Nat.reduceAdd, Nat.reduceMul, Nat.reduceSub, Nat.reduceEqDiff, Nat.reduceLT, Nat.reduceLeDiff, Int.reduceEq, Int.reduceLT, Int.reduceLE, reduceIte, aresults, aresult, h0, h3, h4, hg, hh, hlt, hlen, Option.isSome_some, i64L, icell, show j + 1 ≤ l.length from hlt, wrap_succ (show j < 9223372036854775807 by omega)] at hx; (try (rw [guardL_if] at hx; split at hx <;> rename_i hc)))); all_goals (subst hx; first | (refine ⟨_, rfl, fun ht => ?_, fun ht => ?_⟩ <;> (try simp only [Bool.not_eq_true', Bool.not_eq_false', Bool.and_eq_true, Bool.and_eq_false_iff, Bool.or_eq_true, Bool.or_eq_false_iff, decide_eq_true_eq, decide_eq_false_iff_not, beq_iff_eq, bne_iff_ne, Bool.not_true, Bool.not_false, Bool.true_eq_false, Bool.false_eq_true, ne_eq, Decidable.not_not, inB_t, inB_f] at ht)) | (refine ⟨_, rfl, ?_⟩; (try simp only [tupOf])))) | refine wSkip ?_ | (refine wExit ?_; simp only [thenQ, blockQ, reduceIte, Nat.reduceEqDiff]) | refine wSeq ?_ | refine wBlock ?_)
      refine ⟨_, Nat.sub_lt (by omega) Nat.one_pos, j + 1, by omega, by simp only [upd_eq, Nat.reduceEqDiff, if_false, if_true, h0, h4, h3], by simp only [upd_eq, Nat.reduceEqDiff, if_false, if_true, h0, h4, h3], by simp only [upd_eq, Nat.reduceEqDiff, if_false, if_true, h0, h4, h3], ?_⟩
      simp only [Hp.set_h, if_true, ← take_set hlt]
      exact congrArg some (map_set_icell _ _ _)
    · have hj' : j = l.length := by omega
      subst hj'
      rw [h3]
      have hh' : H.h 0 = some (l.map icell) := by rw [hh]; simp
      exact ⟨deep_i64s hh' rfl, clean_i64s hh'⟩
  · refine ⟨0, by omega, rfl, rfl, rfl, ?_⟩
    simp only [Hp.new_h, nil_g, if_true, Nat.sub_zero, List.take_zero, List.nil_append]
    exact congrArg some (zeros_icell _)
theorem c_ltoInt64S (l : List Int) (hl : l.length ≤ 1048576) : ∀ H, call Try.prog cfg0 0 93 [i64L l] H = some (i64L l, H) :=
  call_fz Try.func93 rfl ok_ltoInt64S rfl (by simp only [fz_cons, fz_nil, go_sem, and_self]) (p_ltoInt64S l hl)

theorem ok_leqInt64S : fnOk Try.prog cfg0 94 Try.f94 = true := by kernel_rfl
theorem p_leqInt64S (a b : List Int) (hl : a.length ≤ 1048576) : pure Try.prog cfg0 94 Try.f94 [i64L a, i64L b] = some (.v (.bool (decide (a = b))), true) := by
  refine pure_wp (rs := [.tmp 4]) rfl rfl ?_
  have hp0 : ∀ b, cfg0.pol 94 b = 0 := fun b => rfl
  repeat' (first | ((first | refine wSeqr (fun xx hx => ?_) | refine wIf (fun xx hx => ?_) | refine wReg (fun xx hx => ?_) | (refine wRet ?_; (try simp only [thenQ, blockQ]); refine ends_by (fun xx hx => ?_))); have hc := trivial; (repeat' (simp only [hc, go_sem, Nat.reduceAdd, Nat.reduceMul, Nat.reduceSub, Nat.reduceEqDiff, Nat.reduceLT, Nat.reduceLeDiff, Int.reduceEq, Int.reduceLT, Int.reduceLE, reduceIte, aresults, aresult] at hx; (try (rw [guardL_if] at hx; split at hx <;> rename_i hc)))); all_goals (subst hx; first | (refine ⟨_, rfl, fun ht => ?_, fun ht => ?_⟩ <;> (try simp only [Bool.not_eq_true', Bool.not_eq_false', Bool.and_eq_true, Bool.and_eq_false_iff, Bool.or_eq_true, Bool.or_eq_false_iff, decide_eq_true_eq, decide_eq_false_iff_not, beq_iff_eq, bne_iff_ne, Bool.not_true, Bool.not_false, Bool.true_eq_false, Bool.false_eq_true, ne_eq, Decidable.not_not, inB_t, inB_f] at ht)) | (refine ⟨_, rfl, ?_⟩; (try simp only [tupOf])))) | refine wSkip ?_ | (refine wExit ?_; simp only [thenQ, blockQ, reduceIte, Nat.reduceEqDiff]) | refine wSeq ?_ | refine wBlock ?_)
  · refine gives_boolv ?_
    rw [decide_eq_false]
    intro h; rw [h] at ht; exact ht rfl
  have hlen : a.length = b.length := by (try simp only [Bool.not_eq_true', Bool.not_eq_false', Bool.and_eq_true, Bool.and_eq_false_iff, Bool.or_eq_true, Bool.or_eq_false_iff, decide_eq_true_eq, decide_eq_false_iff_not, beq_iff_eq, bne_iff_ne, Bool.not_true, Bool.not_false, Bool.true_eq_false, Bool.false_eq_true, ne_eq, Decidable.not_not, inB_t, inB_f] at *); omega
  refine wLoop (fun k s => ∃ (j : Nat), j + k = a.length ∧ s.1 0 = i64L a ∧ s.1 1 = i64L b ∧ s.1 5 = .v (.int .i64 (j : Nat)) ∧ (a.take j = b.take j)) (fun k s hI => ?_) (a.length) _ ?_
  · obtain ⟨e, H⟩ := s
    obtain ⟨j, hj, h0, h1, h5, htk⟩ := hI
    simp only at h0 h1 h5 htk
    repeat' (first | ((first | refine wSeqr (fun xx hx => ?_) | refine wIf (fun xx hx => ?_) | refine wReg (fun xx hx => ?_) | (refine wRet ?_; (try simp only [thenQ, blockQ]); refine ends_by (fun xx hx => ?_))); have hc := trivial; (repeat' (simp only [hc, go_sem, Nat.reduceAdd, Nat.reduceMul, Nat.reduceSub, Nat.reduceEqDiff, Nat.reduceLT, Nat.reduceLeDiff, Int.reduceEq, Int.reduceLT, Int.reduceLE, reduceIte, aresults, aresult, h0, h5] at hx; (try (rw [guardL_if] at hx; split at hx <;> rename_i hc)))); all_goals (subst hx; first | (refine ⟨_, rfl, fun ht => ?_, fun ht => ?_⟩ <;> (try simp only [Bool.not_eq_true', Bool.not_eq_false', Bool.and_eq_true, Bool.and_eq_false_iff, Bool.or_eq_true, Bool.or_eq_false_iff, decide_eq_true_eq, decide_eq_false_iff_not, beq_iff_eq, bne_iff_ne, Bool.not_true, Bool.not_false, Bool.true_eq_false, Bool.false_eq_true, ne_eq, Decidable.not_not, inB_t, inB_f] at ht)) | (refine ⟨_, rfl, ?_⟩; (try simp only [tupOf])))) | refine wSkip ?_ | (refine wExit ?_; simp only [thenQ, blockQ, reduceIte, Nat.reduceEqDiff]) | refine wSeq ?_ | refine wBlock ?_)
    · have hla : j < a.length := by omega
      have hlb : j < b.length := by omega
      have ga := get_i64 hla
      have gb := get_i64 hlb
      repeat' (first | ((first | refine wSeqr (fun xx hx => ?_) | refine wIf (fun xx hx => ?_) | refine wReg (fun xx hx => ?_) | (refine wRet ?_; (try simp only [thenQ, blockQ]); refine ends_by (fun xx hx => ?_))); have hc := trivial; (repeat' (simp only [hc, go_sem, Nat.reduceAdd, Nat.reduceMul, Nat.reduceSub, Nat.reduceEqDiff, Nat.reduceLT, Nat.reduceLeDiff, Int.reduceEq, Int.reduceLT, Int.reduceLE, reduceIte, aresults, aresult, h0, h1, h5, ga, gb, i64L, icell, wrap_succ (show j < 9223372036854775807 by omega)] at hx; (try (rw [guardL_if] at hx; split at hx <;> rename_i hc)))); all_goals (subst hx; first | (refine ⟨_, rfl, fun ht => ?_, fun ht => ?_⟩ <;> (try simp only [Bool.not_eq_true', Bool.not_eq_false', Bool.and_eq_true, Bool.and_eq_false_iff, Bool.or_eq_true, Bool.or_eq_false_iff, decide_eq_true_eq, decide_eq_false_iff_not, beq_iff_eq, bne_iff_ne, Bool.not_true, Bool.not_false, Bool.true_eq_false, Bool.false_eq_true, ne_eq, Decidable.not_not, inB_t, inB_f] at ht)) | (refine ⟨_, rfl, ?_⟩; (try simp only [tupOf])))) | refine wSkip ?_ | (refine wExit ?_; simp only [thenQ, blockQ, reduceIte, Nat.reduceEqDiff]) | refine wSeq ?_ | refine wBlock ?_)
      · refine gives_boolv ?_
        rw [decide_eq_false]
        intro h; subst h; exact ht rfl
      · refine ⟨_, Nat.sub_lt (by omega) Nat.one_pos, j + 1, by omega, by simp only [upd_eq, Nat.reduceEqDiff, if_false, if_true, h0, h1, h5], by simp only [upd_eq, Nat.reduceEqDiff, if_false, if_true, h0, h1, h5], by simp only [upd_eq, Nat.reduceEqDiff, if_false, if_true, h0, h1, h5], ?_⟩
        rw [List.take_succ_eq_append_getElem hla, List.take_succ_eq_append_getElem hlb, htk, ht]
    · have hj' : j = a.length := by omega
      have hab : a = b := by
        rw [List.take_of_length_le (by omega), List.take_of_length_le (by omega)] at htk; exact htk
      repeat' (first | ((first | refine wSeqr (fun xx hx => ?_) | refine wIf (fun xx hx => ?_) | refine wReg (fun xx hx => ?_) | (refine wRet ?_; (try simp only [thenQ, blockQ]); refine ends_by (fun xx hx => ?_))); have hc := trivial; (repeat' (simp only [hc, go_sem, Nat.reduceAdd, Nat.reduceMul, Nat.reduceSub, Nat.reduceEqDiff, Nat.reduceLT, Nat.reduceLeDiff, Int.reduceEq, Int.reduceLT, Int.reduceLE, reduceIte, aresults, aresult] at hx; (try (rw [guardL_if] at hx; split at hx <;> rename_i hc)))); all_goals (subst hx; first | (refine ⟨_, rfl, fun ht => ?_, fun ht => ?_⟩ <;> (try simp only [Bool.not_eq_true', Bool.not_eq_false', Bool.and_eq_true, Bool.and_eq_false_iff, Bool.or_eq_true, Bool.or_eq_false_iff, decide_eq_true_eq, decide_eq_false_iff_not, beq_iff_eq, bne_iff_ne, Bool.not_true, Bool.not_false, Bool.true_eq_false, Bool.false_eq_true, ne_eq, Decidable.not_not, inB_t, inB_f] at ht)) | (refine ⟨_, rfl, ?_⟩; (try simp only [tupOf])))) | refine wSkip ?_ | (refine wExit ?_; simp only [thenQ, blockQ, reduceIte, Nat.reduceEqDiff]) | refine wSeq ?_ | refine wBlock ?_)
      refine gives_boolv ?_
      rw [decide_eq_true hab]
  · refine ⟨0, by omega, rfl, rfl, rfl, ?_⟩; simp
theorem c_leqInt64S (a b : List Int) (hl : a.length ≤ 1048576) : ∀ H, call Try.prog cfg0 0 94 [i64L a, i64L b] H = some (.v (.bool (decide (a = b))), H) :=
  call_fz Try.func94 rfl ok_leqInt64S rfl (by simp only [fz_cons, fz_nil, go_sem, and_self]) (p_leqInt64S a b hl)

theorem ok_lszKey : fnOk Try.prog cfg0 49 Try.f49 = true := by kernel_rfl
theorem s_lszKey (k : KeyM) (n : Int) (hk : k.ok 140737488351232) (hn : 0 ≤ n ∧ n ≤ 1048576) : ∃ m : Int, -1 ≤ m ∧ m ≤ n ∧ (0 ≤ m → k.ok 1048576) ∧ ∀ H, call Try.prog cfg0 0 49 [.agg [.v (.int .i64 k.Id), bytesL k.Bytes], .v (.int .i64 n)] H = some (.v (.int .i64 m), H) := by
  have key : ∃ v cl, (∃ m : Int, v = .v (.int .i64 m) ∧ -1 ≤ m ∧ m ≤ n ∧ (0 ≤ m → k.ok 1048576)) ∧ pure Try.prog cfg0 49 Try.f49 [.agg [.v (.int .i64 k.Id), bytesL k.Bytes], .v (.int .i64 n)] = some (v, cl) := by
    refine pure_ex (rs := [.tmp 4]) rfl rfl ?_
    have hp0 : ∀ b, cfg0.pol 49 b = 0 := fun b => rfl
    obtain ⟨m1, p1, q1, b1, hc1⟩ := s_lszByteS k.Bytes n (hk.2.2) ⟨by omega, by omega⟩
    repeat' (first | ((first | refine wSeqr (fun xx hx => ?_) | refine wIf (fun xx hx => ?_) | refine wReg (fun xx hx => ?_) | (refine wRet ?_; (try simp only [thenQ, blockQ]); refine ends_by (fun xx hx => ?_))); have hc := trivial; (repeat' (simp only [hc, go_sem, Nat.reduceAdd, Nat.reduceMul, Nat.reduceSub, Nat.reduceEqDiff, Nat.reduceLT, Nat.reduceLeDiff, Int.reduceEq, Int.reduceLT, Int.reduceLE, reduceIte, aresults, aresult, hp0, hc1] at hx; (try (rw [guardL_if] at hx; split at hx <;> rename_i hc)))); all_goals (subst hx; first | (refine ⟨_, rfl, fun ht => ?_, fun ht => ?_⟩ <;> (try simp only [Bool.not_eq_true', Bool.not_eq_false', Bool.and_eq_true, Bool.and_eq_false_iff, Bool.or_eq_true, Bool.or_eq_false_iff, decide_eq_true_eq, decide_eq_false_iff_not, beq_iff_eq, bne_iff_ne, Bool.not_true, Bool.not_false, Bool.true_eq_false, Bool.false_eq_true, ne_eq, Decidable.not_not, inB_t, inB_f] at ht)) | (refine ⟨_, rfl, ?_⟩; (try simp only [tupOf])))) | refine wSkip ?_ | (refine wExit ?_; simp only [thenQ, blockQ, reduceIte, Nat.reduceEqDiff]) | refine wSeq ?_ | refine wBlock ?_)
    · exact ⟨_, _, ⟨-1, rfl, by omega, by omega, by omega⟩, rfl, rfl⟩
    exact ⟨_, _, ⟨m1, rfl, by omega, by omega, fun _ => ⟨hk.1, ⟨hk.2.1, b1 (by omega)⟩⟩⟩, rfl, rfl⟩
  obtain ⟨v, cl, ⟨m, rfl, h1, h2, h3⟩, hp⟩ := key
  exact ⟨m, h1, h2, h3, fun H => call_fz Try.func49 rfl ok_lszKey rfl (by simp only [fz_cons, fz_nil, go_sem, and_self]) hp H⟩
theorem ok_lszKeyS : fnOk Try.prog cfg0 148 Try.f148 = true := by kernel_rfl
theorem s_lszKeyS (l : List KeyM) (n : Int) (hk : l.length ≤ 140737488351232 ∧ ∀ x ∈ l, x.ok 140737488351232) (hn : 0 ≤ n ∧ n ≤ 1048576) : ∃ m : Int, -1 ≤ m ∧ m ≤ n ∧ (0 ≤ m → l.length ≤ 1048576 ∧ ∀ x ∈ l, x.ok 1048576) ∧ ∀ H, call Try.prog cfg0 0 148 [.lst false (l.map encKey), .v (.int .i64 n)] H = some (.v (.int .i64 m), H) := by
  have hl := hk.1
  have hw : IntKind.wrap .i64 (n - l.length) = n - l.length := wrap_i64 (by omega) (by omega)
  have key : ∃ v cl, (∃ m : Int, v = .v (.int .i64 m) ∧ -1 ≤ m ∧ m ≤ n ∧ (0 ≤ m → l.length ≤ 1048576 ∧ ∀ x ∈ l, x.ok 1048576)) ∧ pure Try.prog cfg0 148 Try.f148 [.lst false (l.map encKey), .v (.int .i64 n)] = some (v, cl) := by
    refine pure_ex (rs := [.tmp 4]) rfl rfl ?_
    have hp0 : ∀ b, cfg0.pol 148 b = 0 := fun b => rfl
    repeat' (first | ((first | refine wSeqr (fun xx hx => ?_) | refine wIf (fun xx hx => ?_) | refine wReg (fun xx hx => ?_) | (refine wRet ?_; (try simp only [thenQ, blockQ]); refine ends_by (fun xx hx => ?_))); have hc := trivial; (repeat' (simp only [hc, go_sem, Nat.reduceAdd, Nat.reduceMul, Nat.reduceSub, Nat.reduceEqDiff, Nat.reduceLT, Nat.reduceLeDiff, Int.reduceEq, Int.reduceLT, Int.reduceLE, reduceIte, aresults, aresult, hw, List.length_map] at hx; (try (rw [guardL_if] at hx; split at hx <;> rename_i hc)))); all_goals (subst hx; first | (refine ⟨_, rfl, fun ht => ?_, fun ht => ?_⟩ <;> (try simp only [Bool.not_eq_true', Bool.not_eq_false', Bool.and_eq_true, Bool.and_eq_false_iff, Bool.or_eq_true, Bool.or_eq_false_iff, decide_eq_true_eq, decide_eq_false_iff_not, beq_iff_eq, bne_iff_ne, Bool.not_true, Bool.not_false, Bool.true_eq_false, Bool.false_eq_true, ne_eq, Decidable.not_not, inB_t, inB_f] at ht)) | (refine ⟨_, rfl, ?_⟩; (try simp only [tupOf])))) | refine wSkip ?_ | (refine wExit ?_; simp only [thenQ, blockQ, reduceIte, Nat.reduceEqDiff]) | refine wSeq ?_ | refine wBlock ?_)
    · exact ⟨_, _, ⟨-1, rfl, by omega, by omega, by omega⟩, rfl, rfl⟩
    refine wLoop (fun k s => ∃ (j : Nat) (m : Int), j + k = l.length ∧ s.1 0 = .lst false (l.map encKey) ∧ s.1 1 = .v (.int .i64 m) ∧ s.1 5 = .v (.int .i64 (j : Nat)) ∧ (0 ≤ m ∧ m ≤ n) ∧ (∀ x ∈ l.take j, x.ok 1048576)) (fun k s hI => ?_) (l.length) _ ?_
    · obtain ⟨e, H⟩ := s
      obtain ⟨j, m, hj, h0, h1, h5, hm0, hle⟩ := hI
      simp only at h0 h1 h5 hm0 hle
      repeat' (first | ((first | refine wSeqr (fun xx hx => ?_) | refine wIf (fun xx hx => ?_) | refine wReg (fun xx hx => ?_) | (refine wRet ?_; (try simp only [thenQ, blockQ]); refine ends_by (fun xx hx => ?_))); have hc := trivial; (repeat' (simp only [hc, go_sem, Nat.reduceAdd, Nat.reduceMul, Nat.reduceSub, Nat.reduceEqDiff, Nat.reduceLT, Nat.reduceLeDiff, Int.reduceEq, Int.reduceLT, Int.reduceLE, reduceIte, aresults, aresult, h0, h5, List.length_map] at hx; (try (rw [guardL_if] at hx; split at hx <;> rename_i hc)))); all_goals (subst hx; first | (refine ⟨_, rfl, fun ht => ?_, fun ht => ?_⟩ <;> (try simp only [Bool.not_eq_true', Bool.not_eq_false', Bool.and_eq_true, Bool.and_eq_false_iff, Bool.or_eq_true, Bool.or_eq_false_iff, decide_eq_true_eq, decide_eq_false_iff_not, beq_iff_eq, bne_iff_ne, Bool.not_true, Bool.not_false, Bool.true_eq_false, Bool.false_eq_true, ne_eq, Decidable.not_not, inB_t, inB_f] at ht)) | (refine ⟨_, rfl, ?_⟩; (try simp only [tupOf])))) | refine wSkip ?_ | (refine wExit ?_; simp only [thenQ, blockQ, reduceIte, Nat.reduceEqDiff]) | refine wSeq ?_ | refine wBlock ?_)
      · have hlt : j < l.length := by omega
        obtain ⟨k, hg, hd, hm⟩ := at_drop hlt
        have hg' := map_at (f := encKey) hg
        obtain ⟨m2, p1, p2, p3, hcall⟩ := s_lszKey k m (hk.2 k hm) ⟨hm0.1, by omega⟩
        repeat' (first | ((first | refine wSeqr (fun xx hx => ?_) | refine wIf (fun xx hx => ?_) | refine wReg (fun xx hx => ?_) | (refine wRet ?_; (try simp only [thenQ, blockQ]); refine ends_by (fun xx hx => ?_))); have hc := trivial; (repeat' (simp only [hc, go_sem, Nat.reduceAdd, Nat.reduceMul, Nat.reduceSub, Nat.reduceEqDiff, Nat.reduceLT, Nat.reduceLeDiff, Int.reduceEq, Int.reduceLT, Int.reduceLE, reduceIte, aresults, aresult, h0, h1, h5, hg', hp0, hcall, wrap_succ (show j < 9223372036854775807 by omega)] at hx; (try (rw [guardL_if] at hx; split at hx <;> rename_i hc)))); all_goals (subst hx; first | (refine ⟨_, rfl, fun ht => ?_, fun ht => ?_⟩ <;> (try simp only [Bool.not_eq_true', Bool.not_eq_false', Bool.and_eq_true, Bool.and_eq_false_iff, Bool.or_eq_true, Bool.or_eq_false_iff, decide_eq_true_eq, decide_eq_false_iff_not, beq_iff_eq, bne_iff_ne, Bool.not_true, Bool.not_false, Bool.true_eq_false, Bool.false_eq_true, ne_eq, Decidable.not_not, inB_t, inB_f] at ht)) | (refine ⟨_, rfl, ?_⟩; (try simp only [tupOf])))) | refine wSkip ?_ | (refine wExit ?_; simp only [thenQ, blockQ, reduceIte, Nat.reduceEqDiff]) | refine wSeq ?_ | refine wBlock ?_)
        · exact ⟨_, _, ⟨-1, rfl, by omega, by omega, by omega⟩, rfl, rfl⟩
        · refine ⟨_, Nat.sub_lt (by omega) Nat.one_pos, j + 1, m2, by omega, by simp only [upd_eq, Nat.reduceEqDiff, if_false, if_true, h0, h1, h5], by simp only [upd_eq, Nat.reduceEqDiff, if_false, if_true, h0, h1, h5], by simp only [upd_eq, Nat.reduceEqDiff, if_false, if_true, h0, h1, h5], ?_⟩
          refine ⟨⟨by omega, by omega⟩, fun x hx => ?_⟩
          rw [at_take hg] at hx
          rcases List.mem_append.1 hx with hx | hx
          · exact hle x hx
          · simp only [List.mem_singleton] at hx; subst hx; exact p3 (by omega)
      · rw [List.take_of_length_le (by omega)] at hle
        repeat' (first | ((first | refine wSeqr (fun xx hx => ?_) | refine wIf (fun xx hx => ?_) | refine wReg (fun xx hx => ?_) | (refine wRet ?_; (try simp only [thenQ, blockQ]); refine ends_by (fun xx hx => ?_))); have hc := trivial; (repeat' (simp only [hc, go_sem, Nat.reduceAdd, Nat.reduceMul, Nat.reduceSub, Nat.reduceEqDiff, Nat.reduceLT, Nat.reduceLeDiff, Int.reduceEq, Int.reduceLT, Int.reduceLE, reduceIte, aresults, aresult, h1] at hx; (try (rw [guardL_if] at hx; split at hx <;> rename_i hc)))); all_goals (subst hx; first | (refine ⟨_, rfl, fun ht => ?_, fun ht => ?_⟩ <;> (try simp only [Bool.not_eq_true', Bool.not_eq_false', Bool.and_eq_true, Bool.and_eq_false_iff, Bool.or_eq_true, Bool.or_eq_false_iff, decide_eq_true_eq, decide_eq_false_iff_not, beq_iff_eq, bne_iff_ne, Bool.not_true, Bool.not_false, Bool.true_eq_false, Bool.false_eq_true, ne_eq, Decidable.not_not, inB_t, inB_f] at ht)) | (refine ⟨_, rfl, ?_⟩; (try simp only [tupOf])))) | refine wSkip ?_ | (refine wExit ?_; simp only [thenQ, blockQ, reduceIte, Nat.reduceEqDiff]) | refine wSeq ?_ | refine wBlock ?_)
        rw [h1]
        exact ⟨_, _, ⟨m, rfl, by omega, by omega, fun _ => ⟨by omega, hle⟩⟩, rfl, rfl⟩
    · refine ⟨0, _, by omega, rfl, rfl, rfl, ?_⟩
      exact ⟨by omega, fun x hx => by simp at hx⟩
  obtain ⟨v, cl, ⟨m, rfl, h1, h2, h3⟩, hp⟩ := key
  exact ⟨m, h1, h2, h3, fun H => call_fz Try.func148 rfl ok_lszKeyS rfl (by simp only [fz_cons, fz_nil, go_sem, and_self]) hp H⟩
theorem ok_ltoKey : fnOk Try.prog cfg0 55 Try.f55 = true := by kernel_rfl
theorem p_ltoKey (k : KeyM) (hk : k.ok 1048576) : ∃ cl, pure Try.prog cfg0 55 Try.f55 [.agg [.v (.int .i64 k.Id), bytesL k.Bytes]] = some (.agg [.v (.int .i64 k.Id), bytesL k.Bytes], cl) := by
  have key : ∃ v cl, v = (.agg [.v (.int .i64 k.Id), bytesL k.Bytes] : AV) ∧ pure Try.prog cfg0 55 Try.f55 [.agg [.v (.int .i64 k.Id), bytesL k.Bytes]] = some (v, cl) := by
    refine pure_ex (rs := [.cell 2 29]) rfl rfl ?_
    have hp0 : ∀ b, cfg0.pol 55 b = 0 := fun b => rfl
    repeat' (first | ((first | refine wSeqr (fun xx hx => ?_) | refine wIf (fun xx hx => ?_) | refine wReg (fun xx hx => ?_) | (refine wRet ?_; (try simp only [thenQ, blockQ]); refine ends_by (fun xx hx => ?_))); have hc := trivial; (repeat' (simp only [hc, go_sem, Nat.reduceAdd, Nat.reduceMul, Nat.reduceSub, Nat.reduceEqDiff, Nat.reduceLT, Nat.reduceLeDiff, Int.reduceEq, Int.reduceLT, Int.reduceLE, reduceIte, aresults, aresult, hp0, c_ltoByteS k.Bytes (hk.2.2)] at hx; (try (rw [guardL_if] at hx; split at hx <;> rename_i hc)))); all_goals (subst hx; first | (refine ⟨_, rfl, fun ht => ?_, fun ht => ?_⟩ <;> (try simp only [Bool.not_eq_true', Bool.not_eq_false', Bool.and_eq_true, Bool.and_eq_false_iff, Bool.or_eq_true, Bool.or_eq_false_iff, decide_eq_true_eq, decide_eq_false_iff_not, beq_iff_eq, bne_iff_ne, Bool.not_true, Bool.not_false, Bool.true_eq_false, Bool.false_eq_true, ne_eq, Decidable.not_not, inB_t, inB_f] at ht)) | (refine ⟨_, rfl, ?_⟩; (try simp only [tupOf])))) | refine wSkip ?_ | (refine wExit ?_; simp only [thenQ, blockQ, reduceIte, Nat.reduceEqDiff]) | refine wSeq ?_ | refine wBlock ?_)
    exact dirty (fz_deep (fzA_Key k) _)
  obtain ⟨v, cl, rfl, hp⟩ := key
  exact ⟨cl, hp⟩
theorem c_ltoKey (k : KeyM) (hk : k.ok 1048576) : ∀ H, call Try.prog cfg0 0 55 [.agg [.v (.int .i64 k.Id), bytesL k.Bytes]] H = some (.agg [.v (.int .i64 k.Id), bytesL k.Bytes], H) := fun H => by
  obtain ⟨cl, hp⟩ := p_ltoKey k hk
  exact call_fz Try.func55 rfl ok_ltoKey rfl (by simp only [fz_cons, fz_nil, go_sem, and_self]) hp H

theorem ok_ltoKeyS : fnOk Try.prog cfg0 150 Try.f150 = true := by kernel_rfl
theorem p_ltoKeyS (l : List KeyM) (hk : l.length ≤ 1048576 ∧ ∀ x ∈ l, x.ok 1048576) : ∃ cl, pure Try.prog cfg0 150 Try.f150 [.lst false (l.map encKey)] = some (.lst false (l.map encKey), cl) := by
  have key : ∃ v cl, v = (.lst false (l.map encKey) : AV) ∧ pure Try.prog cfg0 150 Try.f150 [.lst false (l.map encKey)] = some (v, cl) := by
    refine pure_ex (rs := [.tmp 2]) rfl rfl ?_
    have hp0 : ∀ b, cfg0.pol 150 b = 0 := fun b => rfl
    have hl := hk.1
    have hr := roomy_of (n := l.length) (b := 32) (by omega) (by omega)
    have hls : ∀ c ∈ l.map encKey, c.length = 2 := fun c hc => by obtain ⟨k, -, rfl⟩ := List.mem_map.1 hc; rfl
    repeat' (first | ((first | refine wSeqr (fun xx hx => ?_) | refine wIf (fun xx hx => ?_) | refine wReg (fun xx hx => ?_) | (refine wRet ?_; (try simp only [thenQ, blockQ]); refine ends_by (fun xx hx => ?_))); have hc := trivial; (repeat' (simp only [hc, go_sem, Nat.reduceAdd, Nat.reduceMul, Nat.reduceSub, Nat.reduceEqDiff, Nat.reduceLT, Nat.reduceLeDiff, Int.reduceEq, Int.reduceLT, Int.reduceLE, reduceIte, aresults, aresult, hr, List.length_map] at hx; (try (rw [guardL_if] at hx; split at hx <;> rename_i hc)))); all_goals (subst hx; first | (refine ⟨_, rfl, fun ht => ?_, fun ht => ?_⟩ <;> (try simp only [Bool.not_eq_true', Bool.not_eq_false', Bool.and_eq_true, Bool.and_eq_false_iff, Bool.or_eq_true, Bool.or_eq_false_iff, decide_eq_true_eq, decide_eq_false_iff_not, beq_iff_eq, bne_iff_ne, Bool.not_true, Bool.not_false, Bool.true_eq_false, Bool.false_eq_true, ne_eq, Decidable.not_not, inB_t, inB_f] at ht)) | (refine ⟨_, rfl, ?_⟩; (try simp only [tupOf])))) | refine wSkip ?_ | (refine wExit ?_; simp only [thenQ, blockQ, reduceIte, Nat.reduceEqDiff]) | refine wSeq ?_ | refine wBlock ?_)
    refine wLoop (fun k s => ∃ (j : Nat), j + k = l.length ∧ s.1 0 = .lst false (l.map encKey) ∧ s.1 4 = .v (.int .i64 (j : Nat)) ∧ s.1 3 = .sl 0 2 0 l.length ∧ (s.2.h 0 = some (((l.map encKey).take j).flatten ++ zeros (l.length - j) [.v (.int .i64 0), .v (.slice none 0 0)]))) (fun k s hI => ?_) (l.length) _ ?_
    · obtain ⟨e, H⟩ := s
      obtain ⟨j, hj, h0, h4, h3, hh⟩ := hI
      simp only at h0 h4 h3 hh
      repeat' (first | ((first | refine wSeqr (fun xx hx => ?_) | refine wIf (fun xx hx => ?_) | refine wReg (fun xx hx => ?_) | (refine wRet ?_; (try simp only [thenQ, blockQ]); refine ends_by (fun xx hx => ?_))); have hc := trivial; (repeat' (simp only [hc, go_sem, Nat.reduceAdd, Nat.reduceMul, Nat.reduceSub, Nat.reduceEqDiff, Nat.reduceLT, Nat.reduceLeDiff, Int.reduceEq, Int.reduceLT, Int.reduceLE, reduceIte, aresults, aresult, h0, h4, List.length_map] at hx; (try (rw [guardL_if] at hx; split at hx <;> rename_i hc)))); all_goals (subst hx; first | (refine ⟨_, rfl, fun ht => ?_, fun ht => ?_⟩ <;> (try simp only [Bool.not_eq_true', Bool.not_eq_false', Bool.and_eq_true, Bool.and_eq_false_iff, Bool.or_eq_true, Bool.or_eq_false_iff, decide_eq_true_eq, decide_eq_false_iff_not, beq_iff_eq, bne_iff_ne, Bool.not_true, Bool.not_false, Bool.true_eq_false, Bool.false_eq_true, ne_eq, Decidable.not_not, inB_t, inB_f] at ht)) | (refine ⟨_, rfl, ?_⟩; (try simp only [tupOf])))) | refine wSkip ?_ | (refine wExit ?_; simp only [thenQ, blockQ, reduceIte, Nat.reduceEqDiff]) | refine wSeq ?_ | refine wBlock ?_)
      · have hlt : j < l.length := by omega
        obtain ⟨k, hg, hd, hm⟩ := at_drop hlt
        have hg' := map_at (f := encKey) hg
        have hlen := rows_len hls (z := [.v (.int .i64 0), .v (.slice none 0 0)]) rfl (j := j) (by simp; omega)
        have hle : j * 2 + 2 ≤ l.length * 2 := by omega
        have hfill := fill_rows hls (z := [.v (.int .i64 0), .v (.slice none 0 0)]) rfl hg'
        simp only [List.length_map] at hlen hfill
        simp only [encKey] at hfill
        repeat' (first | ((first | refine wSeqr (fun xx hx => ?_) | refine wIf (fun xx hx => ?_) | refine wReg (fun xx hx => ?_) | (refine wRet ?_; (try simp only [thenQ, blockQ]); refine ends_by (fun xx hx => ?_))); have hc := trivial; (repeat' (simp only [hc, go_sem, Nat.reduceAdd, Nat.reduceMul, Nat.reduceSub, Nat.reduceEqDiff, Nat.reduceLT, Nat.reduceLeDiff, Int.reduceEq, Int.reduceLT, Int.reduceLE, reduceIte, aresults, aresult, h0, h3, h4, hg', hp0, c_ltoKey k (hk.2 k hm), hh, hlt, hlen, Option.isSome_some, hle, hfill, wrap_succ (show j < 9223372036854775807 by omega)] at hx; (try (rw [guardL_if] at hx; split at hx <;> rename_i hc)))); all_goals (subst hx; first | (refine ⟨_, rfl, fun ht => ?_, fun ht => ?_⟩ <;> (try simp only [Bool.not_eq_true', Bool.not_eq_false', Bool.and_eq_true, Bool.and_eq_false_iff, Bool.or_eq_true, Bool.or_eq_false_iff, decide_eq_true_eq, decide_eq_false_iff_not, beq_iff_eq, bne_iff_ne, Bool.not_true, Bool.not_false, Bool.true_eq_false, Bool.false_eq_true, ne_eq, Decidable.not_not, inB_t, inB_f] at ht)) | (refine ⟨_, rfl, ?_⟩; (try simp only [tupOf])))) | refine wSkip ?_ | (refine wExit ?_; simp only [thenQ, blockQ, reduceIte, Nat.reduceEqDiff]) | refine wSeq ?_ | refine wBlock ?_)
        refine ⟨_, Nat.sub_lt (by omega) Nat.one_pos, j + 1, by omega, by simp only [upd_eq, Nat.reduceEqDiff, if_false, if_true, h0, h4, h3], by simp only [upd_eq, Nat.reduceEqDiff, if_false, if_true, h0, h4, h3], by simp only [upd_eq, Nat.reduceEqDiff, if_false, if_true, h0, h4, h3], ?_⟩
        simp only [setAll, Nat.add_assoc, Nat.reduceAdd] at hfill
        simp only [Hp.set_h, if_true, Nat.add_assoc, Nat.reduceAdd]
        exact congrArg some hfill
      · have hj' : j = l.length := by omega
        subst hj'
        rw [h3]
        have hh' : H.h 0 = some (l.map encKey).flatten := by rw [hh, List.take_of_length_le (by simp)]; simp [zeros]
        exact dirty (deep_sl (n := 11) hh' (by omega) hls (by simp) (fun c hc' x hx => by obtain ⟨k, -, rfl⟩ := List.mem_map.1 hc'; exact (fzE_Key 9 k x hx).1 _))
    · refine ⟨0, by omega, rfl, rfl, rfl, ?_⟩
      simp only [Hp.new_h, nil_g, if_true, Nat.sub_zero, List.take_zero, List.flatten_nil, List.nil_append]
  obtain ⟨v, cl, rfl, hp⟩ := key
  exact ⟨cl, hp⟩
theorem c_ltoKeyS (l : List KeyM) (hk : l.length ≤ 1048576 ∧ ∀ x ∈ l, x.ok 1048576) : ∀ H, call Try.prog cfg0 0 150 [.lst false (l.map encKey)] H = some (.lst false (l.map encKey), H) := fun H => by
  obtain ⟨cl, hp⟩ := p_ltoKeyS l hk
  exact call_fz Try.func150 rfl ok_ltoKeyS rfl (by simp only [fz_cons, fz_nil, go_sem, and_self]) hp H

theorem ok_leqKey : fnOk Try.prog cfg0 62 Try.f62 = true := by kernel_rfl
theorem p_leqKey (k : KeyM) (hk : k.ok 1048576) : pure Try.prog cfg0 62 Try.f62 [.agg [.v (.int .i64 k.Id), bytesL k.Bytes], .agg [.v (.int .i64 k.Id), bytesL k.Bytes]] = some (.v (.bool true), true) := by
  refine pure_wp (rs := [.tmp 4]) rfl rfl ?_
  have hp0 : ∀ b, cfg0.pol 62 b = 0 := fun b => rfl
  repeat' (first | ((first | refine wSeqr (fun xx hx => ?_) | refine wIf (fun xx hx => ?_) | refine wReg (fun xx hx => ?_) | (refine wRet ?_; (try simp only [thenQ, blockQ]); refine ends_by (fun xx hx => ?_))); have hc := trivial; (repeat' (simp only [hc, go_sem, Nat.reduceAdd, Nat.reduceMul, Nat.reduceSub, Nat.reduceEqDiff, Nat.reduceLT, Nat.reduceLeDiff, Int.reduceEq, Int.reduceLT, Int.reduceLE, reduceIte, aresults, aresult, hp0, (fun H => by have := c_leqByteS k.Bytes k.Bytes (hk.2.2) H; simpa using this), decide_true, decide_false, not_true_eq_false, beq_self_eq_true, Bool.not_true] at hx; (try (rw [guardL_if] at hx; split at hx <;> rename_i hc)))); all_goals (subst hx; first | (refine ⟨_, rfl, fun ht => ?_, fun ht => ?_⟩ <;> (try simp only [Bool.not_eq_true', Bool.not_eq_false', Bool.and_eq_true, Bool.and_eq_false_iff, Bool.or_eq_true, Bool.or_eq_false_iff, decide_eq_true_eq, decide_eq_false_iff_not, beq_iff_eq, bne_iff_ne, Bool.not_true, Bool.not_false, Bool.true_eq_false, Bool.false_eq_true, ne_eq, Decidable.not_not, inB_t, inB_f] at ht)) | (refine ⟨_, rfl, ?_⟩; (try simp only [tupOf])))) | refine wSkip ?_ | (refine wExit ?_; simp only [thenQ, blockQ, reduceIte, Nat.reduceEqDiff]) | refine wSeq ?_ | refine wBlock ?_)
  exact ⟨rfl, rfl⟩
theorem c_leqKey (k : KeyM) (hk : k.ok 1048576) : ∀ H, call Try.prog cfg0 0 62 [.agg [.v (.int .i64 k.Id), bytesL k.Bytes], .agg [.v (.int .i64 k.Id), bytesL k.Bytes]] H = some (.v (.bool true), H) :=
  call_fz Try.func62 rfl ok_leqKey rfl (by simp only [fz_cons, fz_nil, go_sem, and_self]) (p_leqKey k hk)

theorem ok_leqKeyS : fnOk Try.prog cfg0 153 Try.f153 = true := by kernel_rfl
theorem p_leqKeyS (l : List KeyM) (hk : l.length ≤ 1048576 ∧ ∀ x ∈ l, x.ok 1048576) : pure Try.prog cfg0 153 Try.f153 [.lst false (l.map encKey), .lst false (l.map encKey)] = some (.v (.bool true), true) := by
  refine pure_wp (rs := [.tmp 4]) rfl rfl ?_
  have hp0 : ∀ b, cfg0.pol 153 b = 0 := fun b => rfl
  have hl := hk.1
  repeat' (first | ((first | refine wSeqr (fun xx hx => ?_) | refine wIf (fun xx hx => ?_) | refine wReg (fun xx hx => ?_) | (refine wRet ?_; (try simp only [thenQ, blockQ]); refine ends_by (fun xx hx => ?_))); have hc := trivial; (repeat' (simp only [hc, go_sem, Nat.reduceAdd, Nat.reduceMul, Nat.reduceSub, Nat.reduceEqDiff, Nat.reduceLT, Nat.reduceLeDiff, Int.reduceEq, Int.reduceLT, Int.reduceLE, reduceIte, aresults, aresult, List.length_map, decide_true, decide_false, not_true_eq_false] at hx; (try (rw [guardL_if] at hx; split at hx <;> rename_i hc)))); all_goals (subst hx; first | (refine ⟨_, rfl, fun ht => ?_, fun ht => ?_⟩ <;> (try simp only [Bool.not_eq_true', Bool.not_eq_false', Bool.and_eq_true, Bool.and_eq_false_iff, Bool.or_eq_true, Bool.or_eq_false_iff, decide_eq_true_eq, decide_eq_false_iff_not, beq_iff_eq, bne_iff_ne, Bool.not_true, Bool.not_false, Bool.true_eq_false, Bool.false_eq_true, ne_eq, Decidable.not_not, inB_t, inB_f] at ht)) | (refine ⟨_, rfl, ?_⟩; (try simp only [tupOf])))) | refine wSkip ?_ | (refine wExit ?_; simp only [thenQ, blockQ, reduceIte, Nat.reduceEqDiff]) | refine wSeq ?_ | refine wBlock ?_)
  refine wLoop (fun k s => ∃ (j : Nat), j + k = l.length ∧ s.1 0 = .lst false (l.map encKey) ∧ s.1 1 = .lst false (l.map encKey) ∧ s.1 5 = .v (.int .i64 (j : Nat)) ∧ True) (fun k s hI => ?_) (l.length) _ ?_
  · obtain ⟨e, H⟩ := s
    obtain ⟨j, hj, h0, h1, h5, -⟩ := hI
    simp only at h0 h1 h5
    repeat' (first | ((first | refine wSeqr (fun xx hx => ?_) | refine wIf (fun xx hx => ?_) | refine wReg (fun xx hx => ?_) | (refine wRet ?_; (try simp only [thenQ, blockQ]); refine ends_by (fun xx hx => ?_))); have hc := trivial; (repeat' (simp only [hc, go_sem, Nat.reduceAdd, Nat.reduceMul, Nat.reduceSub, Nat.reduceEqDiff, Nat.reduceLT, Nat.reduceLeDiff, Int.reduceEq, Int.reduceLT, Int.reduceLE, reduceIte, aresults, aresult, h0, h5, List.length_map] at hx; (try (rw [guardL_if] at hx; split at hx <;> rename_i hc)))); all_goals (subst hx; first | (refine ⟨_, rfl, fun ht => ?_, fun ht => ?_⟩ <;> (try simp only [Bool.not_eq_true', Bool.not_eq_false', Bool.and_eq_true, Bool.and_eq_false_iff, Bool.or_eq_true, Bool.or_eq_false_iff, decide_eq_true_eq, decide_eq_false_iff_not, beq_iff_eq, bne_iff_ne, Bool.not_true, Bool.not_false, Bool.true_eq_false, Bool.false_eq_true, ne_eq, Decidable.not_not, inB_t, inB_f] at ht)) | (refine ⟨_, rfl, ?_⟩; (try simp only [tupOf])))) | refine wSkip ?_ | (refine wExit ?_; simp only [thenQ, blockQ, reduceIte, Nat.reduceEqDiff]) | refine wSeq ?_ | refine wBlock ?_)
    · have hlt : j < l.length := by omega
      obtain ⟨k, hg, hd, hm⟩ := at_drop hlt
      have hg' := map_at (f := encKey) hg
      repeat' (first | ((first | refine wSeqr (fun xx hx => ?_) | refine wIf (fun xx hx => ?_) | refine wReg (fun xx hx => ?_) | (refine wRet ?_; (try simp only [thenQ, blockQ]); refine ends_by (fun xx hx => ?_))); have hc := trivial; (repeat' (simp only [hc, go_sem, Nat.reduceAdd, Nat.reduceMul, Nat.reduceSub, Nat.reduceEqDiff, Nat.reduceLT, Nat.reduceLeDiff, Int.reduceEq, Int.reduceLT, Int.reduceLE, reduceIte, aresults, aresult, h0, h1, h5, hg', hp0, c_leqKey k (hk.2 k hm), Bool.not_true, wrap_succ (show j < 9223372036854775807 by omega)] at hx; (try (rw [guardL_if] at hx; split at hx <;> rename_i hc)))); all_goals (subst hx; first | (refine ⟨_, rfl, fun ht => ?_, fun ht => ?_⟩ <;> (try simp only [Bool.not_eq_true', Bool.not_eq_false', Bool.and_eq_true, Bool.and_eq_false_iff, Bool.or_eq_true, Bool.or_eq_false_iff, decide_eq_true_eq, decide_eq_false_iff_not, beq_iff_eq, bne_iff_ne, Bool.not_true, Bool.not_false, Bool.true_eq_false, Bool.false_eq_true, ne_eq, Decidable.not_not, inB_t, inB_f] at ht)) | (refine ⟨_, rfl, ?_⟩; (try simp only [tupOf])))) | refine wSkip ?_ | (refine wExit ?_; simp only [thenQ, blockQ, reduceIte, Nat.reduceEqDiff]) | refine wSeq ?_ | refine wBlock ?_)
      refine ⟨_, Nat.sub_lt (by omega) Nat.one_pos, j + 1, by omega, by simp only [upd_eq, Nat.reduceEqDiff, if_false, if_true, h0, h1, h5], by simp only [upd_eq, Nat.reduceEqDiff, if_false, if_true, h0, h1, h5], by simp only [upd_eq, Nat.reduceEqDiff, if_false, if_true, h0, h1, h5], trivial⟩
    · repeat' (first | ((first | refine wSeqr (fun xx hx => ?_) | refine wIf (fun xx hx => ?_) | refine wReg (fun xx hx => ?_) | (refine wRet ?_; (try simp only [thenQ, blockQ]); refine ends_by (fun xx hx => ?_))); have hc := trivial; (repeat' (simp only [hc, go_sem, Nat.reduceAdd, Nat.reduceMul, Nat.reduceSub, Nat.reduceEqDiff, Nat.reduceLT, Nat.reduceLeDiff, Int.reduceEq, Int.reduceLT, Int.reduceLE, reduceIte, aresults, aresult] at hx; (try (rw [guardL_if] at hx; split at hx <;> rename_i hc)))); all_goals (subst hx; first | (refine ⟨_, rfl, fun ht => ?_, fun ht => ?_⟩ <;> (try simp only [Bool.not_eq_true', Bool.not_eq_false', Bool.and_eq_true, Bool.and_eq_false_iff, Bool.or_eq_true, Bool.or_eq_false_iff, decide_eq_true_eq, decide_eq_false_iff_not, beq_iff_eq, bne_iff_ne, Bool.not_true, Bool.not_false, Bool.true_eq_false, Bool.false_eq_true, ne_eq, Decidable.not_not, inB_t, inB_f] at ht)) | (refine ⟨_, rfl, ?_⟩; (try simp only [tupOf])))) | refine wSkip ?_ | (refine wExit ?_; simp only [thenQ, blockQ, reduceIte, Nat.reduceEqDiff]) | refine wSeq ?_ | refine wBlock ?_)
      exact ⟨rfl, rfl⟩
  · refine ⟨0, by omega, rfl, rfl, rfl, trivial⟩
theorem c_leqKeyS (l : List KeyM) (hk : l.length ≤ 1048576 ∧ ∀ x ∈ l, x.ok 1048576) : ∀ H, call Try.prog cfg0 0 153 [.lst false (l.map encKey), .lst false (l.map encKey)] H = some (.v (.bool true), H) :=
  call_fz Try.func153 rfl ok_leqKeyS rfl (by simp only [fz_cons, fz_nil, go_sem, and_self]) (p_leqKeyS l hk)

theorem ok_lszEvent : fnOk Try.prog cfg0 8 Try.f8 = true := by kernel_rfl
theorem s_lszEvent (k : EventM) (n : Int) (hk : k.ok 140737488351232) (hn : 0 ≤ n ∧ n ≤ 1048576) : ∃ m : Int, -1 ≤ m ∧ m ≤ n ∧ (0 ≤ m → k.ok 1048576) ∧ ∀ H, call Try.prog cfg0 0 8 [.agg [.v (.int .i64 k.Kind), .v (.int .i64 k.Node), .v (.int .i64 k.At), .v (.int .i64 k.Mask), bytesL k.Data, .v (.int .i64 k.Op), .v (.int .i64 k.Key.Id), bytesL k.Key.Bytes], .v (.int .i64 n)] H = some (.v (.int .i64 m), H) := by
  have key : ∃ v cl, (∃ m : Int, v = .v (.int .i64 m) ∧ -1 ≤ m ∧ m ≤ n ∧ (0 ≤ m → k.ok 1048576)) ∧ pure Try.prog cfg0 8 Try.f8 [.agg [.v (.int .i64 k.Kind), .v (.int .i64 k.Node), .v (.int .i64 k.At), .v (.int .i64 k.Mask), bytesL k.Data, .v (.int .i64 k.Op), .v (.int .i64 k.Key.Id), bytesL k.Key.Bytes], .v (.int .i64 n)] = some (v, cl) := by
    refine pure_ex (rs := [.tmp 4]) rfl rfl ?_
    have hp0 : ∀ b, cfg0.pol 8 b = 0 := fun b => rfl
    obtain ⟨m4, p4, q4, b4, hc4⟩ := s_lszByteS k.Data n (hk.2.2.2.2.1.2) ⟨by omega, by omega⟩
    repeat' (first | ((first | refine wSeqr (fun xx hx => ?_) | refine wIf (fun xx hx => ?_) | refine wReg (fun xx hx => ?_) | (refine wRet ?_; (try simp only [thenQ, blockQ]); refine ends_by (fun xx hx => ?_))); have hc := trivial; (repeat' (simp only [hc, go_sem, Nat.reduceAdd, Nat.reduceMul, Nat.reduceSub, Nat.reduceEqDiff, Nat.reduceLT, Nat.reduceLeDiff, Int.reduceEq, Int.reduceLT, Int.reduceLE, reduceIte, aresults, aresult, hp0, hc4] at hx; (try (rw [guardL_if] at hx; split at hx <;> rename_i hc)))); all_goals (subst hx; first | (refine ⟨_, rfl, fun ht => ?_, fun ht => ?_⟩ <;> (try simp only [Bool.not_eq_true', Bool.not_eq_false', Bool.and_eq_true, Bool.and_eq_false_iff, Bool.or_eq_true, Bool.or_eq_false_iff, decide_eq_true_eq, decide_eq_false_iff_not, beq_iff_eq, bne_iff_ne, Bool.not_true, Bool.not_false, Bool.true_eq_false, Bool.false_eq_true, ne_eq, Decidable.not_not, inB_t, inB_f] at ht)) | (refine ⟨_, rfl, ?_⟩; (try simp only [tupOf])))) | refine wSkip ?_ | (refine wExit ?_; simp only [thenQ, blockQ, reduceIte, Nat.reduceEqDiff]) | refine wSeq ?_ | refine wBlock ?_)
    · exact ⟨_, _, ⟨-1, rfl, by omega, by omega, by omega⟩, rfl, rfl⟩
    obtain ⟨m6, p6, q6, b6, hc6⟩ := s_lszKey k.Key m4 (hk.2.2.2.2.2.2) ⟨by omega, by omega⟩
    repeat' (first | ((first | refine wSeqr (fun xx hx => ?_) | refine wIf (fun xx hx => ?_) | refine wReg (fun xx hx => ?_) | (refine wRet ?_; (try simp only [thenQ, blockQ]); refine ends_by (fun xx hx => ?_))); have hc := trivial; (repeat' (simp only [hc, go_sem, Nat.reduceAdd, Nat.reduceMul, Nat.reduceSub, Nat.reduceEqDiff, Nat.reduceLT, Nat.reduceLeDiff, Int.reduceEq, Int.reduceLT, Int.reduceLE, reduceIte, aresults, aresult, hp0, hc6] at hx; (try (rw [guardL_if] at hx; split at hx <;> rename_i hc)))); all_goals (subst hx; first | (refine ⟨_, rfl, fun ht => ?_, fun ht => ?_⟩ <;> (try simp only [Bool.not_eq_true', Bool.not_eq_false', Bool.and_eq_true, Bool.and_eq_false_iff, Bool.or_eq_true, Bool.or_eq_false_iff, decide_eq_true_eq, decide_eq_false_iff_not, beq_iff_eq, bne_iff_ne, Bool.not_true, Bool.not_false, Bool.true_eq_false, Bool.false_eq_true, ne_eq, Decidable.not_not, inB_t, inB_f] at ht)) | (refine ⟨_, rfl, ?_⟩; (try simp only [tupOf])))) | refine wSkip ?_ | (refine wExit ?_; simp only [thenQ, blockQ, reduceIte, Nat.reduceEqDiff]) | refine wSeq ?_ | refine wBlock ?_)
    · exact ⟨_, _, ⟨-1, rfl, by omega, by omega, by omega⟩, rfl, rfl⟩
    exact ⟨_, _, ⟨m6, rfl, by omega, by omega, fun _ => ⟨hk.1, hk.2.1, hk.2.2.1, hk.2.2.2.1, ⟨hk.2.2.2.2.1.1, b4 (by omega)⟩, hk.2.2.2.2.2.1, b6 (by omega)⟩⟩, rfl, rfl⟩
  obtain ⟨v, cl, ⟨m, rfl, h1, h2, h3⟩, hp⟩ := key
  exact ⟨m, h1, h2, h3, fun H => call_fz Try.func8 rfl ok_lszEvent rfl (by simp only [fz_cons, fz_nil, go_sem, and_self]) hp H⟩
theorem ok_ltoEvent : fnOk Try.prog cfg0 10 Try.f10 = true := by kernel_rfl
theorem p_ltoEvent (k : EventM) (hk : k.ok 1048576) : ∃ cl, pure Try.prog cfg0 10 Try.f10 [.agg [.v (.int .i64 k.Kind), .v (.int .i64 k.Node), .v (.int .i64 k.At), .v (.int .i64 k.Mask), bytesL k.Data, .v (.int .i64 k.Op), .v (.int .i64 k.Key.Id), bytesL k.Key.Bytes]] = some (.agg [.v (.int .i64 k.Kind), .v (.int .i64 k.Node), .v (.int .i64 k.At), .v (.int .i64 k.Mask), bytesL k.Data, .v (.int .i64 k.Op), .v (.int .i64 k.Key.Id), bytesL k.Key.Bytes], cl) := by
  have key : ∃ v cl, v = (.agg [.v (.int .i64 k.Kind), .v (.int .i64 k.Node), .v (.int .i64 k.At), .v (.int .i64 k.Mask), bytesL k.Data, .v (.int .i64 k.Op), .v (.int .i64 k.Key.Id), bytesL k.Key.Bytes] : AV) ∧ pure Try.prog cfg0 10 Try.f10 [.agg [.v (.int .i64 k.Kind), .v (.int .i64 k.Node), .v (.int .i64 k.At), .v (.int .i64 k.Mask), bytesL k.Data, .v (.int .i64 k.Op), .v (.int .i64 k.Key.Id), bytesL k.Key.Bytes]] = some (v, cl) := by
    refine pure_ex (rs := [.cell 2 31]) rfl rfl ?_
    have hp0 : ∀ b, cfg0.pol 10 b = 0 := fun b => rfl
    repeat' (first | ((first | refine wSeqr (fun xx hx => ?_) | refine wIf (fun xx hx => ?_) | refine wReg (fun xx hx => ?_) | (refine wRet ?_; (try simp only [thenQ, blockQ]); refine ends_by (fun xx hx => ?_))); have hc := trivial; (repeat' (simp only [hc, go_sem, Nat.reduceAdd, Nat.reduceMul, Nat.reduceSub, Nat.reduceEqDiff, Nat.reduceLT, Nat.reduceLeDiff, Int.reduceEq, Int.reduceLT, Int.reduceLE, reduceIte, aresults, aresult, hp0, c_ltoByteS k.Data (hk.2.2.2.2.1.2), c_ltoKey k.Key (hk.2.2.2.2.2.2)] at hx; (try (rw [guardL_if] at hx; split at hx <;> rename_i hc)))); all_goals (subst hx; first | (refine ⟨_, rfl, fun ht => ?_, fun ht => ?_⟩ <;> (try simp only [Bool.not_eq_true', Bool.not_eq_false', Bool.and_eq_true, Bool.and_eq_false_iff, Bool.or_eq_true, Bool.or_eq_false_iff, decide_eq_true_eq, decide_eq_false_iff_not, beq_iff_eq, bne_iff_ne, Bool.not_true, Bool.not_false, Bool.true_eq_false, Bool.false_eq_true, ne_eq, Decidable.not_not, inB_t, inB_f] at ht)) | (refine ⟨_, rfl, ?_⟩; (try simp only [tupOf])))) | refine wSkip ?_ | (refine wExit ?_; simp only [thenQ, blockQ, reduceIte, Nat.reduceEqDiff]) | refine wSeq ?_ | refine wBlock ?_)
    exact dirty (fz_deep (fzA_Event k) _)
  obtain ⟨v, cl, rfl, hp⟩ := key
  exact ⟨cl, hp⟩
theorem c_ltoEvent (k : EventM) (hk : k.ok 1048576) : ∀ H, call Try.prog cfg0 0 10 [.agg [.v (.int .i64 k.Kind), .v (.int .i64 k.Node), .v (.int .i64 k.At), .v (.int .i64 k.Mask), bytesL k.Data, .v (.int .i64 k.Op), .v (.int .i64 k.Key.Id), bytesL k.Key.Bytes]] H = some (.agg [.v (.int .i64 k.Kind), .v (.int .i64 k.Node), .v (.int .i64 k.At), .v (.int .i64 k.Mask), bytesL k.Data, .v (.int .i64 k.Op), .v (.int .i64 k.Key.Id), bytesL k.Key.Bytes], H) := fun H => by
  obtain ⟨cl, hp⟩ := p_ltoEvent k hk
  exact call_fz Try.func10 rfl ok_ltoEvent rfl (by simp only [fz_cons, fz_nil, go_sem, and_self]) hp H

theorem ok_leqEvent : fnOk Try.prog cfg0 12 Try.f12 = true := by kernel_rfl
theorem p_leqEvent (k : EventM) (hk : k.ok 1048576) : pure Try.prog cfg0 12 Try.f12 [.agg [.v (.int .i64 k.Kind), .v (.int .i64 k.Node), .v (.int .i64 k.At), .v (.int .i64 k.Mask), bytesL k.Data, .v (.int .i64 k.Op), .v (.int .i64 k.Key.Id), bytesL k.Key.Bytes], .agg [.v (.int .i64 k.Kind), .v (.int .i64 k.Node), .v (.int .i64 k.At), .v (.int .i64 k.Mask), bytesL k.Data, .v (.int .i64 k.Op), .v (.int .i64 k.Key.Id), bytesL k.Key.Bytes]] = some (.v (.bool true), true) := by
  refine pure_wp (rs := [.tmp 4]) rfl rfl ?_
  have hp0 : ∀ b, cfg0.pol 12 b = 0 := fun b => rfl
  repeat' (first | ((first | refine wSeqr (fun xx hx => ?_) | refine wIf (fun xx hx => ?_) | refine wReg (fun xx hx => ?_) | (refine wRet ?_; (try simp only [thenQ, blockQ]); refine ends_by (fun xx hx => ?_))); have hc := trivial; (repeat' (simp only [hc, go_sem, Nat.reduceAdd, Nat.reduceMul, Nat.reduceSub, Nat.reduceEqDiff, Nat.reduceLT, Nat.reduceLeDiff, Int.reduceEq, Int.reduceLT, Int.reduceLE, reduceIte, aresults, aresult, hp0, (fun H => by have := c_leqByteS k.Data k.Data (hk.2.2.2.2.1.2) H; simpa using this), c_leqKey k.Key (hk.2.2.2.2.2.2), decide_true, decide_false, not_true_eq_false, beq_self_eq_true, Bool.not_true] at hx; (try (rw [guardL_if] at hx; split at hx <;> rename_i hc)))); all_goals (subst hx; first | (refine ⟨_, rfl, fun ht => ?_, fun ht => ?_⟩ <;> (try simp only [Bool.not_eq_true', Bool.not_eq_false', Bool.and_eq_true, Bool.and_eq_false_iff, Bool.or_eq_true, Bool.or_eq_false_iff, decide_eq_true_eq, decide_eq_false_iff_not, beq_iff_eq, bne_iff_ne, Bool.not_true, Bool.not_false, Bool.true_eq_false, Bool.false_eq_true, ne_eq, Decidable.not_not, inB_t, inB_f] at ht)) | (refine ⟨_, rfl, ?_⟩; (try simp only [tupOf])))) | refine wSkip ?_ | (refine wExit ?_; simp only [thenQ, blockQ, reduceIte, Nat.reduceEqDiff]) | refine wSeq ?_ | refine wBlock ?_)
  exact ⟨rfl, rfl⟩
theorem c_leqEvent (k : EventM) (hk : k.ok 1048576) : ∀ H, call Try.prog cfg0 0 12 [.agg [.v (.int .i64 k.Kind), .v (.int .i64 k.Node), .v (.int .i64 k.At), .v (.int .i64 k.Mask), bytesL k.Data, .v (.int .i64 k.Op), .v (.int .i64 k.Key.Id), bytesL k.Key.Bytes], .agg [.v (.int .i64 k.Kind), .v (.int .i64 k.Node), .v (.int .i64 k.At), .v (.int .i64 k.Mask), bytesL k.Data, .v (.int .i64 k.Op), .v (.int .i64 k.Key.Id), bytesL k.Key.Bytes]] H = some (.v (.bool true), H) :=
  call_fz Try.func12 rfl ok_leqEvent rfl (by simp only [fz_cons, fz_nil, go_sem, and_self]) (p_leqEvent k hk)

end
end Go.Proofs.Ytmncdkecpnoogaa
