/- Contracts: comparisons; printed by eqs.py. -/
import Derived.Test.YtmobkpfalcfepaaK0
namespace Go.Proofs.Ytmobkpfalcfepaa
open Go Go.RowKit Go.Proofs.Ytmobkpfalcfepaa.Eng
set_option linter.unusedSimpArgs false
set_option linter.unusedVariables false
set_option maxRecDepth 100000
noncomputable section
theorem ok_sl1Same : fnOk Try.prog cfg0 115 Try.f115 = true := by kernel_rfl
theorem p_sl1Same (a b : List Int) (ha : a.length ≤ 1048576) (hb : b.length ≤ 1048576) : pure Try.prog cfg0 115 Try.f115 [i64L a, i64L b] = some (.v (.bool (decide (a = b))), true) := by
  refine pure_wp (rs := [.tmp 4]) rfl rfl ?_
  have hla0 := ha
  repeat' (first | ((first | refine wSeqr (fun xx hx => ?_) | refine wIf (fun xx hx => ?_) | refine wReg (fun xx hx => ?_) | (refine wRet ?_; (try simp only [thenQ, blockQ]); refine ends_by (fun xx hx => ?_))); have hc := trivial; (repeat' (simp only [hc, go_sem, Nat.reduceAdd, Nat.reduceMul, Nat.reduceSub, Nat.reduceEqDiff, Nat.reduceLT, Nat.reduceLeDiff, Int.reduceEq, Int.reduceLT, Int.reduceLE, reduceIte, aresults, aresult, List.length_map] at hx; (try (rw [guardL_if] at hx; split at hx <;> rename_i hc)))); all_goals (subst hx; first | (refine ⟨_, rfl, fun ht => ?_, fun ht => ?_⟩ <;> (try simp only [Bool.not_eq_true', Bool.not_eq_false', Bool.and_eq_true, Bool.and_eq_false_iff, Bool.or_eq_true, Bool.or_eq_false_iff, decide_eq_true_eq, decide_eq_false_iff_not, beq_iff_eq, bne_iff_ne, Bool.not_true, Bool.not_false, Bool.true_eq_false, Bool.false_eq_true, ne_eq, Decidable.not_not, inB_t, inB_f] at ht)) | (refine ⟨_, rfl, ?_⟩; (try simp only [tupOf])))) | refine wSkip ?_ | (refine wExit ?_; simp only [thenQ, blockQ, reduceIte, Nat.reduceEqDiff]) | refine wSeq ?_ | refine wBlock ?_)
  · refine gives_boolv ?_
    rw [decide_eq_false]
    intro h; rw [h] at ht; exact ht rfl
  have hlen : a.length = b.length := by (try simp only [Bool.not_eq_true', Bool.not_eq_false', Bool.and_eq_true, Bool.and_eq_false_iff, Bool.or_eq_true, Bool.or_eq_false_iff, decide_eq_true_eq, decide_eq_false_iff_not, beq_iff_eq, bne_iff_ne, Bool.not_true, Bool.not_false, Bool.true_eq_false, Bool.false_eq_true, ne_eq, Decidable.not_not, inB_t, inB_f] at *); omega
  refine wLoop (fun k s => ∃ (j : Nat), j + k = a.length ∧ s.1 0 = i64L a ∧ s.1 1 = i64L b ∧ s.1 5 = .v (.int .i64 (j : Nat)) ∧ (a.take j = b.take j)) (fun k s hI => ?_) (a.length) _ ?_
  · obtain ⟨e, H⟩ := s
    obtain ⟨j, hj, h0, h1, h5, htk⟩ := hI
    simp only at h0 h1 h5 htk
    repeat' (first | ((first | refine wSeqr (fun xx hx => ?_) | refine wIf (fun xx hx => ?_) | refine wReg (fun xx hx => ?_) | (refine wRet ?_; (try simp only [thenQ, blockQ]); refine ends_by (fun xx hx => ?_))); have hc := trivial; (repeat' (simp only [hc, go_sem, Nat.reduceAdd, Nat.reduceMul, Nat.reduceSub, Nat.reduceEqDiff, Nat.reduceLT, Nat.reduceLeDiff, Int.reduceEq, Int.reduceLT, Int.reduceLE, reduceIte, aresults, aresult, h0, h5, List.length_map] at hx; (try (rw [guardL_if] at hx; split at hx <;> rename_i hc)))); all_goals (subst hx; first | (refine ⟨_, rfl, fun ht => ?_, fun ht => ?_⟩ <;> (try simp only [Bool.not_eq_true', Bool.not_eq_false', Bool.and_eq_true, Bool.and_eq_false_iff, Bool.or_eq_true, Bool.or_eq_false_iff, decide_eq_true_eq, decide_eq_false_iff_not, beq_iff_eq, bne_iff_ne, Bool.not_true, Bool.not_false, Bool.true_eq_false, Bool.false_eq_true, ne_eq, Decidable.not_not, inB_t, inB_f] at ht)) | (refine ⟨_, rfl, ?_⟩; (try simp only [tupOf])))) | refine wSkip ?_ | (refine wExit ?_; simp only [thenQ, blockQ, reduceIte, Nat.reduceEqDiff]) | refine wSeq ?_ | refine wBlock ?_)
    · have hla : j < a.length := by omega
      have hlb : j < b.length := by omega
      obtain ⟨x, gx, -, mx⟩ := at_drop hla
      obtain ⟨y, gy, -, my⟩ := at_drop hlb
      have gx' := map_at (f := fun z => [AV.v (.int .i64 z)]) gx
      have gy' := map_at (f := fun z => [AV.v (.int .i64 z)]) gy
      repeat' (first | ((first | refine wSeqr (fun xx hx => ?_) | refine wIf (fun xx hx => ?_) | refine wReg (fun xx hx => ?_) | (refine wRet ?_; (try simp only [thenQ, blockQ]); refine ends_by (fun xx hx => ?_))); have hc := trivial; (repeat' (simp only [hc, go_sem, Nat.reduceAdd, Nat.reduceMul, Nat.reduceSub, Nat.reduceEqDiff, Nat.reduceLT, Nat.reduceLeDiff, Int.reduceEq, Int.reduceLT, Int.reduceLE, reduceIte, aresults, aresult, h0, h1, h5, gx', gy', hp0, i64L, icell, List.cons_append, List.nil_append, wrap_succ (show j < 9223372036854775807 by omega)] at hx; (try (rw [guardL_if] at hx; split at hx <;> rename_i hc)))); all_goals (subst hx; first | (refine ⟨_, rfl, fun ht => ?_, fun ht => ?_⟩ <;> (try simp only [Bool.not_eq_true', Bool.not_eq_false', Bool.and_eq_true, Bool.and_eq_false_iff, Bool.or_eq_true, Bool.or_eq_false_iff, decide_eq_true_eq, decide_eq_false_iff_not, beq_iff_eq, bne_iff_ne, Bool.not_true, Bool.not_false, Bool.true_eq_false, Bool.false_eq_true, ne_eq, Decidable.not_not, inB_t, inB_f] at ht)) | (refine ⟨_, rfl, ?_⟩; (try simp only [tupOf])))) | refine wSkip ?_ | (refine wExit ?_; simp only [thenQ, blockQ, reduceIte, Nat.reduceEqDiff]) | refine wSeq ?_ | refine wBlock ?_)
      · refine gives_boolv ?_
        have hne : ¬ x = y := by first | exact ht | (rw [eq_self]; first | exact ht | omega)
        rw [decide_eq_false]
        intro h; rw [h] at gx; exact hne (Option.some.inj (gx.symm.trans gy))
      · refine ⟨_, Nat.sub_lt (by omega) Nat.one_pos, j + 1, by omega, by simp only [upd_eq, Nat.reduceEqDiff, if_false, if_true, h0, h1, h5], by simp only [upd_eq, Nat.reduceEqDiff, if_false, if_true, h0, h1, h5], by simp only [upd_eq, Nat.reduceEqDiff, if_false, if_true, h0, h1, h5], ?_⟩
        have hxe : x = y := by first | exact ht | (rw [eq_self]; exact ht)
        rw [at_take gx, at_take gy, htk, hxe]
    · have hj' : j = a.length := by omega
      have hab : a = b := by
        rw [List.take_of_length_le (by omega), List.take_of_length_le (by omega)] at htk; exact htk
      refine gives_boolv ?_
      rw [decide_eq_true hab]
  · refine ⟨0, by omega, rfl, rfl, rfl, ?_⟩; simp
theorem c_sl1Same (a b : List Int) (ha : a.length ≤ 1048576) (hb : b.length ≤ 1048576) : ∀ H, call Try.prog cfg0 0 115 [i64L a, i64L b] H = some (.v (.bool (decide (a = b))), H) :=
  call_fz Try.func115 rfl ok_sl1Same rfl (by simp only [fz_cons, fz_nil, go_sem, and_self]) (p_sl1Same a b ha hb)

theorem ok_EqualInt : fnOk Try.prog cfg0 118 Try.f118 = true := by kernel_rfl
theorem p_EqualInt (a b : List Int) (ha : a.length ≤ 1048576) (hb : b.length ≤ 1048576) : pure Try.prog cfg0 118 Try.f118 [i64L a, i64L b] = some (.v (.bool (decide (a = b))), true) := by
  refine pure_wp (rs := [.tmp 4]) rfl rfl ?_
  have hla0 := ha
  repeat' (first | ((first | refine wSeqr (fun xx hx => ?_) | refine wIf (fun xx hx => ?_) | refine wReg (fun xx hx => ?_) | (refine wRet ?_; (try simp only [thenQ, blockQ]); refine ends_by (fun xx hx => ?_))); have hc := trivial; (repeat' (simp only [hc, go_sem, Nat.reduceAdd, Nat.reduceMul, Nat.reduceSub, Nat.reduceEqDiff, Nat.reduceLT, Nat.reduceLeDiff, Int.reduceEq, Int.reduceLT, Int.reduceLE, reduceIte, aresults, aresult, List.length_map] at hx; (try (rw [guardL_if] at hx; split at hx <;> rename_i hc)))); all_goals (subst hx; first | (refine ⟨_, rfl, fun ht => ?_, fun ht => ?_⟩ <;> (try simp only [Bool.not_eq_true', Bool.not_eq_false', Bool.and_eq_true, Bool.and_eq_false_iff, Bool.or_eq_true, Bool.or_eq_false_iff, decide_eq_true_eq, decide_eq_false_iff_not, beq_iff_eq, bne_iff_ne, Bool.not_true, Bool.not_false, Bool.true_eq_false, Bool.false_eq_true, ne_eq, Decidable.not_not, inB_t, inB_f] at ht)) | (refine ⟨_, rfl, ?_⟩; (try simp only [tupOf])))) | refine wSkip ?_ | (refine wExit ?_; simp only [thenQ, blockQ, reduceIte, Nat.reduceEqDiff]) | refine wSeq ?_ | refine wBlock ?_)
  · refine gives_boolv ?_
    rw [decide_eq_false]
    intro h; rw [h] at ht; exact ht rfl
  have hlen : a.length = b.length := by (try simp only [Bool.not_eq_true', Bool.not_eq_false', Bool.and_eq_true, Bool.and_eq_false_iff, Bool.or_eq_true, Bool.or_eq_false_iff, decide_eq_true_eq, decide_eq_false_iff_not, beq_iff_eq, bne_iff_ne, Bool.not_true, Bool.not_false, Bool.true_eq_false, Bool.false_eq_true, ne_eq, Decidable.not_not, inB_t, inB_f] at *); omega
  refine wLoop (fun k s => ∃ (j : Nat), j + k = a.length ∧ s.1 0 = i64L a ∧ s.1 1 = i64L b ∧ s.1 12 = .v (.int .i64 (a.length : Nat)) ∧ s.1 13 = .v (.int .i64 (j : Nat)) ∧ (a.take j = b.take j)) (fun k s hI => ?_) (a.length) _ ?_
  · obtain ⟨e, H⟩ := s
    obtain ⟨j, hj, h0, h1, h12, h13, htk⟩ := hI
    simp only at h0 h1 h12 h13 htk
    repeat' (first | ((first | refine wSeqr (fun xx hx => ?_) | refine wIf (fun xx hx => ?_) | refine wReg (fun xx hx => ?_) | (refine wRet ?_; (try simp only [thenQ, blockQ]); refine ends_by (fun xx hx => ?_))); have hc := trivial; (repeat' (simp only [hc, go_sem, Nat.reduceAdd, Nat.reduceMul, Nat.reduceSub, Nat.reduceEqDiff, Nat.reduceLT, Nat.reduceLeDiff, Int.reduceEq, Int.reduceLT, Int.reduceLE, reduceIte, aresults, aresult, h12, h13, List.length_map] at hx; (try (rw [guardL_if] at hx; split at hx <;> rename_i hc)))); all_goals (subst hx; first | (refine ⟨_, rfl, fun ht => ?_, fun ht => ?_⟩ <;> (try simp only [Bool.not_eq_true', Bool.not_eq_false', Bool.and_eq_true, Bool.and_eq_false_iff, Bool.or_eq_true, Bool.or_eq_false_iff, decide_eq_true_eq, decide_eq_false_iff_not, beq_iff_eq, bne_iff_ne, Bool.not_true, Bool.not_false, Bool.true_eq_false, Bool.false_eq_true, ne_eq, Decidable.not_not, inB_t, inB_f] at ht)) | (refine ⟨_, rfl, ?_⟩; (try simp only [tupOf])))) | refine wSkip ?_ | (refine wExit ?_; simp only [thenQ, blockQ, reduceIte, Nat.reduceEqDiff]) | refine wSeq ?_ | refine wBlock ?_)
    · have hla : j < a.length := by omega
      have hlb : j < b.length := by omega
      obtain ⟨x, gx, -, mx⟩ := at_drop hla
      obtain ⟨y, gy, -, my⟩ := at_drop hlb
      have gx' := map_at (f := fun z => [AV.v (.int .i64 z)]) gx
      have gy' := map_at (f := fun z => [AV.v (.int .i64 z)]) gy
      repeat' (first | ((first | refine wSeqr (fun xx hx => ?_) | refine wIf (fun xx hx => ?_) | refine wReg (fun xx hx => ?_) | (refine wRet ?_; (try simp only [thenQ, blockQ]); refine ends_by (fun xx hx => ?_))); have hc := trivial; (repeat' (simp only [hc, go_sem, Nat.reduceAdd, Nat.reduceMul, Nat.reduceSub, Nat.reduceEqDiff, Nat.reduceLT, Nat.reduceLeDiff, Int.reduceEq, Int.reduceLT, Int.reduceLE, reduceIte, aresults, aresult, h0, h1, h13, gx', gy', hp0, i64L, icell, List.cons_append, List.nil_append, wrap_succ (show j < 9223372036854775807 by omega)] at hx; (try (rw [guardL_if] at hx; split at hx <;> rename_i hc)))); all_goals (subst hx; first | (refine ⟨_, rfl, fun ht => ?_, fun ht => ?_⟩ <;> (try simp only [Bool.not_eq_true', Bool.not_eq_false', Bool.and_eq_true, Bool.and_eq_false_iff, Bool.or_eq_true, Bool.or_eq_false_iff, decide_eq_true_eq, decide_eq_false_iff_not, beq_iff_eq, bne_iff_ne, Bool.not_true, Bool.not_false, Bool.true_eq_false, Bool.false_eq_true, ne_eq, Decidable.not_not, inB_t, inB_f] at ht)) | (refine ⟨_, rfl, ?_⟩; (try simp only [tupOf])))) | refine wSkip ?_ | (refine wExit ?_; simp only [thenQ, blockQ, reduceIte, Nat.reduceEqDiff]) | refine wSeq ?_ | refine wBlock ?_)
      · refine gives_boolv ?_
        have hne : ¬ x = y := by first | exact ht | (rw [eq_self]; first | exact ht | omega)
        rw [decide_eq_false]
        intro h; rw [h] at gx; exact hne (Option.some.inj (gx.symm.trans gy))
      · refine ⟨_, Nat.sub_lt (by omega) Nat.one_pos, j + 1, by omega, by simp only [upd_eq, Nat.reduceEqDiff, if_false, if_true, h0, h1, h12, h13], by simp only [upd_eq, Nat.reduceEqDiff, if_false, if_true, h0, h1, h12, h13], by simp only [upd_eq, Nat.reduceEqDiff, if_false, if_true, h0, h1, h12, h13], by simp only [upd_eq, Nat.reduceEqDiff, if_false, if_true, h0, h1, h12, h13], ?_⟩
        have hxe : x = y := by first | exact ht | (rw [eq_self]; exact ht)
        rw [at_take gx, at_take gy, htk, hxe]
    · have hj' : j = a.length := by omega
      have hab : a = b := by
        rw [List.take_of_length_le (by omega), List.take_of_length_le (by omega)] at htk; exact htk
      refine gives_boolv ?_
      rw [decide_eq_true hab]
  · refine ⟨0, by omega, rfl, rfl, rfl, rfl, ?_⟩; simp
theorem c_EqualInt (a b : List Int) (ha : a.length ≤ 1048576) (hb : b.length ≤ 1048576) : ∀ H, call Try.prog cfg0 0 118 [i64L a, i64L b] H = some (.v (.bool (decide (a = b))), H) :=
  call_fz Try.func118 rfl ok_EqualInt rfl (by simp only [fz_cons, fz_nil, go_sem, and_self]) (p_EqualInt a b ha hb)

theorem conv_b (H : Hp) (l : List Int) : aconv Try.prog H 22 9 (bytesL l) = some (.v (.string (strOf l))) := conv_bytesL u22 u9 u5 H l
theorem ok_bEqual : fnOk Try.prog cfg0 114 Try.f114 = true := by kernel_rfl
theorem p_bEqual (a b : List Int) (ha : Eng.Bytes a) (hb : Eng.Bytes b) : pure Try.prog cfg0 114 Try.f114 [bytesL a, bytesL b] = some (.v (.bool (decide (a = b))), true) := by
  refine pure_wp (rs := [.tmp 4]) rfl rfl ?_
  repeat' (first | ((first | refine wSeqr (fun xx hx => ?_) | refine wIf (fun xx hx => ?_) | refine wReg (fun xx hx => ?_) | (refine wRet ?_; (try simp only [thenQ, blockQ]); refine ends_by (fun xx hx => ?_))); have hc := trivial; (repeat' (simp only [hc, go_sem, Nat.reduceAdd, Nat.reduceMul, Nat.reduceSub, Nat.reduceEqDiff, Nat.reduceLT, Nat.reduceLeDiff, Int.reduceEq, Int.reduceLT, Int.reduceLE, reduceIte, aresults, aresult, conv_b] at hx; (try (rw [guardL_if] at hx; split at hx <;> rename_i hc)))); all_goals (subst hx; first | (refine ⟨_, rfl, fun ht => ?_, fun ht => ?_⟩ <;> (try simp only [Bool.not_eq_true', Bool.not_eq_false', Bool.and_eq_true, Bool.and_eq_false_iff, Bool.or_eq_true, Bool.or_eq_false_iff, decide_eq_true_eq, decide_eq_false_iff_not, beq_iff_eq, bne_iff_ne, Bool.not_true, Bool.not_false, Bool.true_eq_false, Bool.false_eq_true, ne_eq, Decidable.not_not, inB_t, inB_f] at ht)) | (refine ⟨_, rfl, ?_⟩; (try simp only [tupOf])))) | refine wSkip ?_ | (refine wExit ?_; simp only [thenQ, blockQ, reduceIte, Nat.reduceEqDiff]) | refine wSeq ?_ | refine wBlock ?_)
  exact gives_boolv (strOf_eq ha hb)
theorem c_bEqual (a b : List Int) (ha : Eng.Bytes a) (hb : Eng.Bytes b) : ∀ H, call Try.prog cfg0 0 114 [bytesL a, bytesL b] H = some (.v (.bool (decide (a = b))), H) :=
  call_fz Try.func114 rfl ok_bEqual rfl (by simp only [fz_cons, fz_nil, go_sem, and_self]) (p_bEqual a b ha hb)

theorem ok_sSameViews : fnOk Try.prog cfg0 160 Try.f160 = true := by kernel_rfl
theorem p_sSameViews (a b : List ClaimM) (ha : a.length ≤ 1048576 ∧ ∀ x ∈ a, x.ok 1048576) (hb : b.length ≤ 1048576 ∧ ∀ x ∈ b, x.ok 1048576) : pure Try.prog cfg0 160 Try.f160 [.lst false (a.map encClaim), .lst false (b.map encClaim)] = some (.v (.bool (decide (a = b))), true) := by
  refine pure_wp (rs := [.tmp 4]) rfl rfl ?_
  have hla0 := ha.1
  repeat' (first | ((first | refine wSeqr (fun xx hx => ?_) | refine wIf (fun xx hx => ?_) | refine wReg (fun xx hx => ?_) | (refine wRet ?_; (try simp only [thenQ, blockQ]); refine ends_by (fun xx hx => ?_))); have hc := trivial; (repeat' (simp only [hc, go_sem, Nat.reduceAdd, Nat.reduceMul, Nat.reduceSub, Nat.reduceEqDiff, Nat.reduceLT, Nat.reduceLeDiff, Int.reduceEq, Int.reduceLT, Int.reduceLE, reduceIte, aresults, aresult, List.length_map] at hx; (try (rw [guardL_if] at hx; split at hx <;> rename_i hc)))); all_goals (subst hx; first | (refine ⟨_, rfl, fun ht => ?_, fun ht => ?_⟩ <;> (try simp only [Bool.not_eq_true', Bool.not_eq_false', Bool.and_eq_true, Bool.and_eq_false_iff, Bool.or_eq_true, Bool.or_eq_false_iff, decide_eq_true_eq, decide_eq_false_iff_not, beq_iff_eq, bne_iff_ne, Bool.not_true, Bool.not_false, Bool.true_eq_false, Bool.false_eq_true, ne_eq, Decidable.not_not, inB_t, inB_f] at ht)) | (refine ⟨_, rfl, ?_⟩; (try simp only [tupOf])))) | refine wSkip ?_ | (refine wExit ?_; simp only [thenQ, blockQ, reduceIte, Nat.reduceEqDiff]) | refine wSeq ?_ | refine wBlock ?_)
  · refine gives_boolv ?_
    rw [decide_eq_false]
    intro h; rw [h] at ht; exact ht rfl
  have hlen : a.length = b.length := by (try simp only [Bool.not_eq_true', Bool.not_eq_false', Bool.and_eq_true, Bool.and_eq_false_iff, Bool.or_eq_true, Bool.or_eq_false_iff, decide_eq_true_eq, decide_eq_false_iff_not, beq_iff_eq, bne_iff_ne, Bool.not_true, Bool.not_false, Bool.true_eq_false, Bool.false_eq_true, ne_eq, Decidable.not_not, inB_t, inB_f] at *); omega
  refine wLoop (fun k s => ∃ (j : Nat), j + k = a.length ∧ s.1 0 = .lst false (a.map encClaim) ∧ s.1 1 = .lst false (b.map encClaim) ∧ s.1 5 = .v (.int .i64 (j : Nat)) ∧ (a.take j = b.take j)) (fun k s hI => ?_) (a.length) _ ?_
  · obtain ⟨e, H⟩ := s
    obtain ⟨j, hj, h0, h1, h5, htk⟩ := hI
    simp only at h0 h1 h5 htk
    repeat' (first | ((first | refine wSeqr (fun xx hx => ?_) | refine wIf (fun xx hx => ?_) | refine wReg (fun xx hx => ?_) | (refine wRet ?_; (try simp only [thenQ, blockQ]); refine ends_by (fun xx hx => ?_))); have hc := trivial; (repeat' (simp only [hc, go_sem, Nat.reduceAdd, Nat.reduceMul, Nat.reduceSub, Nat.reduceEqDiff, Nat.reduceLT, Nat.reduceLeDiff, Int.reduceEq, Int.reduceLT, Int.reduceLE, reduceIte, aresults, aresult, h0, h5, List.length_map] at hx; (try (rw [guardL_if] at hx; split at hx <;> rename_i hc)))); all_goals (subst hx; first | (refine ⟨_, rfl, fun ht => ?_, fun ht => ?_⟩ <;> (try simp only [Bool.not_eq_true', Bool.not_eq_false', Bool.and_eq_true, Bool.and_eq_false_iff, Bool.or_eq_true, Bool.or_eq_false_iff, decide_eq_true_eq, decide_eq_false_iff_not, beq_iff_eq, bne_iff_ne, Bool.not_true, Bool.not_false, Bool.true_eq_false, Bool.false_eq_true, ne_eq, Decidable.not_not, inB_t, inB_f] at ht)) | (refine ⟨_, rfl, ?_⟩; (try simp only [tupOf])))) | refine wSkip ?_ | (refine wExit ?_; simp only [thenQ, blockQ, reduceIte, Nat.reduceEqDiff]) | refine wSeq ?_ | refine wBlock ?_)
    · have hla : j < a.length := by omega
      have hlb : j < b.length := by omega
      obtain ⟨x, gx, -, mx⟩ := at_drop hla
      obtain ⟨y, gy, -, my⟩ := at_drop hlb
      have gx' := map_at (f := encClaim) gx
      have gy' := map_at (f := encClaim) gy
      repeat' (first | ((first | refine wSeqr (fun xx hx => ?_) | refine wIf (fun xx hx => ?_) | refine wReg (fun xx hx => ?_) | (refine wRet ?_; (try simp only [thenQ, blockQ]); refine ends_by (fun xx hx => ?_))); have hc := trivial; (repeat' (simp only [hc, go_sem, Nat.reduceAdd, Nat.reduceMul, Nat.reduceSub, Nat.reduceEqDiff, Nat.reduceLT, Nat.reduceLeDiff, Int.reduceEq, Int.reduceLT, Int.reduceLE, reduceIte, aresults, aresult, h0, h1, h5, gx', gy', hp0, List.length_map, List.cons_append, List.nil_append, wrap_succ (show j < 9223372036854775807 by omega)] at hx; (try (rw [guardL_if] at hx; split at hx <;> rename_i hc)))); all_goals (subst hx; first | (refine ⟨_, rfl, fun ht => ?_, fun ht => ?_⟩ <;> (try simp only [Bool.not_eq_true', Bool.not_eq_false', Bool.and_eq_true, Bool.and_eq_false_iff, Bool.or_eq_true, Bool.or_eq_false_iff, decide_eq_true_eq, decide_eq_false_iff_not, beq_iff_eq, bne_iff_ne, Bool.not_true, Bool.not_false, Bool.true_eq_false, Bool.false_eq_true, ne_eq, Decidable.not_not, inB_t, inB_f] at ht)) | (refine ⟨_, rfl, ?_⟩; (try simp only [tupOf])))) | refine wSkip ?_ | (refine wExit ?_; simp only [thenQ, blockQ, reduceIte, Nat.reduceEqDiff]) | refine wSeq ?_ | refine wBlock ?_)
      · refine gives_boolv ?_
        have hne : ¬ x = y := by first | exact ht | (rw [eq_Claim]; first | exact ht | omega)
        rw [decide_eq_false]
        intro h; rw [h] at gx; exact hne (Option.some.inj (gx.symm.trans gy))
      · refine ⟨_, Nat.sub_lt (by omega) Nat.one_pos, j + 1, by omega, by simp only [upd_eq, Nat.reduceEqDiff, if_false, if_true, h0, h1, h5], by simp only [upd_eq, Nat.reduceEqDiff, if_false, if_true, h0, h1, h5], by simp only [upd_eq, Nat.reduceEqDiff, if_false, if_true, h0, h1, h5], ?_⟩
        have hxe : x = y := by first | exact ht | (rw [eq_Claim]; exact ht)
        rw [at_take gx, at_take gy, htk, hxe]
    · have hj' : j = a.length := by omega
      have hab : a = b := by
        rw [List.take_of_length_le (by omega), List.take_of_length_le (by omega)] at htk; exact htk
      refine gives_boolv ?_
      rw [decide_eq_true hab]
  · refine ⟨0, by omega, rfl, rfl, rfl, ?_⟩; simp
theorem c_sSameViews (a b : List ClaimM) (ha : a.length ≤ 1048576 ∧ ∀ x ∈ a, x.ok 1048576) (hb : b.length ≤ 1048576 ∧ ∀ x ∈ b, x.ok 1048576) : ∀ H, call Try.prog cfg0 0 160 [.lst false (a.map encClaim), .lst false (b.map encClaim)] H = some (.v (.bool (decide (a = b))), H) :=
  call_fz Try.func160 rfl ok_sSameViews rfl (by simp only [fz_cons, fz_nil, go_sem, and_self]) (p_sSameViews a b ha hb)

theorem ok_EqualClaim : fnOk Try.prog cfg0 182 Try.f182 = true := by kernel_rfl
theorem p_EqualClaim (a b : List ClaimM) (ha : a.length ≤ 1048576 ∧ ∀ x ∈ a, x.ok 1048576) (hb : b.length ≤ 1048576 ∧ ∀ x ∈ b, x.ok 1048576) : pure Try.prog cfg0 182 Try.f182 [.lst false (a.map encClaim), .lst false (b.map encClaim)] = some (.v (.bool (decide (a = b))), true) := by
  refine pure_wp (rs := [.tmp 4]) rfl rfl ?_
  have hla0 := ha.1
  repeat' (first | ((first | refine wSeqr (fun xx hx => ?_) | refine wIf (fun xx hx => ?_) | refine wReg (fun xx hx => ?_) | (refine wRet ?_; (try simp only [thenQ, blockQ]); refine ends_by (fun xx hx => ?_))); have hc := trivial; (repeat' (simp only [hc, go_sem, Nat.reduceAdd, Nat.reduceMul, Nat.reduceSub, Nat.reduceEqDiff, Nat.reduceLT, Nat.reduceLeDiff, Int.reduceEq, Int.reduceLT, Int.reduceLE, reduceIte, aresults, aresult, List.length_map] at hx; (try (rw [guardL_if] at hx; split at hx <;> rename_i hc)))); all_goals (subst hx; first | (refine ⟨_, rfl, fun ht => ?_, fun ht => ?_⟩ <;> (try simp only [Bool.not_eq_true', Bool.not_eq_false', Bool.and_eq_true, Bool.and_eq_false_iff, Bool.or_eq_true, Bool.or_eq_false_iff, decide_eq_true_eq, decide_eq_false_iff_not, beq_iff_eq, bne_iff_ne, Bool.not_true, Bool.not_false, Bool.true_eq_false, Bool.false_eq_true, ne_eq, Decidable.not_not, inB_t, inB_f] at ht)) | (refine ⟨_, rfl, ?_⟩; (try simp only [tupOf])))) | refine wSkip ?_ | (refine wExit ?_; simp only [thenQ, blockQ, reduceIte, Nat.reduceEqDiff]) | refine wSeq ?_ | refine wBlock ?_)
  · refine gives_boolv ?_
    rw [decide_eq_false]
    intro h; rw [h] at ht; exact ht rfl
  have hlen : a.length = b.length := by (try simp only [Bool.not_eq_true', Bool.not_eq_false', Bool.and_eq_true, Bool.and_eq_false_iff, Bool.or_eq_true, Bool.or_eq_false_iff, decide_eq_true_eq, decide_eq_false_iff_not, beq_iff_eq, bne_iff_ne, Bool.not_true, Bool.not_false, Bool.true_eq_false, Bool.false_eq_true, ne_eq, Decidable.not_not, inB_t, inB_f] at *); omega
  refine wLoop (fun k s => ∃ (j : Nat), j + k = a.length ∧ s.1 0 = .lst false (a.map encClaim) ∧ s.1 1 = .lst false (b.map encClaim) ∧ s.1 12 = .v (.int .i64 (a.length : Nat)) ∧ s.1 13 = .v (.int .i64 (j : Nat)) ∧ (a.take j = b.take j)) (fun k s hI => ?_) (a.length) _ ?_
  · obtain ⟨e, H⟩ := s
    obtain ⟨j, hj, h0, h1, h12, h13, htk⟩ := hI
    simp only at h0 h1 h12 h13 htk
    repeat' (first | ((first | refine wSeqr (fun xx hx => ?_) | refine wIf (fun xx hx => ?_) | refine wReg (fun xx hx => ?_) | (refine wRet ?_; (try simp only [thenQ, blockQ]); refine ends_by (fun xx hx => ?_))); have hc := trivial; (repeat' (simp only [hc, go_sem, Nat.reduceAdd, Nat.reduceMul, Nat.reduceSub, Nat.reduceEqDiff, Nat.reduceLT, Nat.reduceLeDiff, Int.reduceEq, Int.reduceLT, Int.reduceLE, reduceIte, aresults, aresult, h12, h13, List.length_map] at hx; (try (rw [guardL_if] at hx; split at hx <;> rename_i hc)))); all_goals (subst hx; first | (refine ⟨_, rfl, fun ht => ?_, fun ht => ?_⟩ <;> (try simp only [Bool.not_eq_true', Bool.not_eq_false', Bool.and_eq_true, Bool.and_eq_false_iff, Bool.or_eq_true, Bool.or_eq_false_iff, decide_eq_true_eq, decide_eq_false_iff_not, beq_iff_eq, bne_iff_ne, Bool.not_true, Bool.not_false, Bool.true_eq_false, Bool.false_eq_true, ne_eq, Decidable.not_not, inB_t, inB_f] at ht)) | (refine ⟨_, rfl, ?_⟩; (try simp only [tupOf])))) | refine wSkip ?_ | (refine wExit ?_; simp only [thenQ, blockQ, reduceIte, Nat.reduceEqDiff]) | refine wSeq ?_ | refine wBlock ?_)
    · have hla : j < a.length := by omega
      have hlb : j < b.length := by omega
      obtain ⟨x, gx, -, mx⟩ := at_drop hla
      obtain ⟨y, gy, -, my⟩ := at_drop hlb
      have gx' := map_at (f := encClaim) gx
      have gy' := map_at (f := encClaim) gy
      repeat' (first | ((first | refine wSeqr (fun xx hx => ?_) | refine wIf (fun xx hx => ?_) | refine wReg (fun xx hx => ?_) | (refine wRet ?_; (try simp only [thenQ, blockQ]); refine ends_by (fun xx hx => ?_))); have hc := trivial; (repeat' (simp only [hc, go_sem, Nat.reduceAdd, Nat.reduceMul, Nat.reduceSub, Nat.reduceEqDiff, Nat.reduceLT, Nat.reduceLeDiff, Int.reduceEq, Int.reduceLT, Int.reduceLE, reduceIte, aresults, aresult, h0, h1, h13, gx', gy', hp0, List.length_map, List.cons_append, List.nil_append, wrap_succ (show j < 9223372036854775807 by omega)] at hx; (try (rw [guardL_if] at hx; split at hx <;> rename_i hc)))); all_goals (subst hx; first | (refine ⟨_, rfl, fun ht => ?_, fun ht => ?_⟩ <;> (try simp only [Bool.not_eq_true', Bool.not_eq_false', Bool.and_eq_true, Bool.and_eq_false_iff, Bool.or_eq_true, Bool.or_eq_false_iff, decide_eq_true_eq, decide_eq_false_iff_not, beq_iff_eq, bne_iff_ne, Bool.not_true, Bool.not_false, Bool.true_eq_false, Bool.false_eq_true, ne_eq, Decidable.not_not, inB_t, inB_f] at ht)) | (refine ⟨_, rfl, ?_⟩; (try simp only [tupOf])))) | refine wSkip ?_ | (refine wExit ?_; simp only [thenQ, blockQ, reduceIte, Nat.reduceEqDiff]) | refine wSeq ?_ | refine wBlock ?_)
      · refine gives_boolv ?_
        have hne : ¬ x = y := by first | exact ht | (rw [eq_Claim]; first | exact ht | omega)
        rw [decide_eq_false]
        intro h; rw [h] at gx; exact hne (Option.some.inj (gx.symm.trans gy))
      · refine ⟨_, Nat.sub_lt (by omega) Nat.one_pos, j + 1, by omega, by simp only [upd_eq, Nat.reduceEqDiff, if_false, if_true, h0, h1, h12, h13], by simp only [upd_eq, Nat.reduceEqDiff, if_false, if_true, h0, h1, h12, h13], by simp only [upd_eq, Nat.reduceEqDiff, if_false, if_true, h0, h1, h12, h13], by simp only [upd_eq, Nat.reduceEqDiff, if_false, if_true, h0, h1, h12, h13], ?_⟩
        have hxe : x = y := by first | exact ht | (rw [eq_Claim]; exact ht)
        rw [at_take gx, at_take gy, htk, hxe]
    · have hj' : j = a.length := by omega
      have hab : a = b := by
        rw [List.take_of_length_le (by omega), List.take_of_length_le (by omega)] at htk; exact htk
      refine gives_boolv ?_
      rw [decide_eq_true hab]
  · refine ⟨0, by omega, rfl, rfl, rfl, rfl, ?_⟩; simp
theorem c_EqualClaim (a b : List ClaimM) (ha : a.length ≤ 1048576 ∧ ∀ x ∈ a, x.ok 1048576) (hb : b.length ≤ 1048576 ∧ ∀ x ∈ b, x.ok 1048576) : ∀ H, call Try.prog cfg0 0 182 [.lst false (a.map encClaim), .lst false (b.map encClaim)] H = some (.v (.bool (decide (a = b))), H) :=
  call_fz Try.func182 rfl ok_EqualClaim rfl (by simp only [fz_cons, fz_nil, go_sem, and_self]) (p_EqualClaim a b ha hb)

theorem ok_iSameViews : fnOk Try.prog cfg0 108 Try.f108 = true := by kernel_rfl
theorem p_iSameViews (a b : List ClaimM) (ha : a.length ≤ 1048576 ∧ ∀ x ∈ a, x.ok 1048576) (hb : b.length ≤ 1048576 ∧ ∀ x ∈ b, x.ok 1048576) : pure Try.prog cfg0 108 Try.f108 [.lst false (a.map encClaim), .lst false (b.map encClaim)] = some (.v (.bool (decide (a = b))), true) := by
  refine pure_wp (rs := [.tmp 4]) rfl rfl ?_
  repeat' (first | ((first | refine wSeqr (fun xx hx => ?_) | refine wIf (fun xx hx => ?_) | refine wReg (fun xx hx => ?_) | (refine wRet ?_; (try simp only [thenQ, blockQ]); refine ends_by (fun xx hx => ?_))); have hc := trivial; (repeat' (simp only [hc, go_sem, Nat.reduceAdd, Nat.reduceMul, Nat.reduceSub, Nat.reduceEqDiff, Nat.reduceLT, Nat.reduceLeDiff, Int.reduceEq, Int.reduceLT, Int.reduceLE, reduceIte, aresults, aresult, hp0, c_EqualClaim a b ha hb] at hx; (try (rw [guardL_if] at hx; split at hx <;> rename_i hc)))); all_goals (subst hx; first | (refine ⟨_, rfl, fun ht => ?_, fun ht => ?_⟩ <;> (try simp only [Bool.not_eq_true', Bool.not_eq_false', Bool.and_eq_true, Bool.and_eq_false_iff, Bool.or_eq_true, Bool.or_eq_false_iff, decide_eq_true_eq, decide_eq_false_iff_not, beq_iff_eq, bne_iff_ne, Bool.not_true, Bool.not_false, Bool.true_eq_false, Bool.false_eq_true, ne_eq, Decidable.not_not, inB_t, inB_f] at ht)) | (refine ⟨_, rfl, ?_⟩; (try simp only [tupOf])))) | refine wSkip ?_ | (refine wExit ?_; simp only [thenQ, blockQ, reduceIte, Nat.reduceEqDiff]) | refine wSeq ?_ | refine wBlock ?_)
  exact ⟨rfl, rfl⟩
theorem c_iSameViews (a b : List ClaimM) (ha : a.length ≤ 1048576 ∧ ∀ x ∈ a, x.ok 1048576) (hb : b.length ≤ 1048576 ∧ ∀ x ∈ b, x.ok 1048576) : ∀ H, call Try.prog cfg0 0 108 [.lst false (a.map encClaim), .lst false (b.map encClaim)] H = some (.v (.bool (decide (a = b))), H) :=
  call_fz Try.func108 rfl ok_iSameViews rfl (by simp only [fz_cons, fz_nil, go_sem, and_self]) (p_iSameViews a b ha hb)

theorem ok_sSameWaits : fnOk Try.prog cfg0 162 Try.f162 = true := by kernel_rfl
theorem p_sSameWaits (a b : List WaitM) (ha : a.length ≤ 1048576 ∧ ∀ x ∈ a, x.ok 1048576) (hb : b.length ≤ 1048576 ∧ ∀ x ∈ b, x.ok 1048576) : pure Try.prog cfg0 162 Try.f162 [.lst false (a.map encWait), .lst false (b.map encWait)] = some (.v (.bool (decide (a = b))), true) := by
  refine pure_wp (rs := [.tmp 4]) rfl rfl ?_
  have hla0 := ha.1
  repeat' (first | ((first | refine wSeqr (fun xx hx => ?_) | refine wIf (fun xx hx => ?_) | refine wReg (fun xx hx => ?_) | (refine wRet ?_; (try simp only [thenQ, blockQ]); refine ends_by (fun xx hx => ?_))); have hc := trivial; (repeat' (simp only [hc, go_sem, Nat.reduceAdd, Nat.reduceMul, Nat.reduceSub, Nat.reduceEqDiff, Nat.reduceLT, Nat.reduceLeDiff, Int.reduceEq, Int.reduceLT, Int.reduceLE, reduceIte, aresults, aresult, List.length_map] at hx; (try (rw [guardL_if] at hx; split at hx <;> rename_i hc)))); all_goals (subst hx; first | (refine ⟨_, rfl, fun ht => ?_, fun ht => ?_⟩ <;> (try simp only [Bool.not_eq_true', Bool.not_eq_false', Bool.and_eq_true, Bool.and_eq_false_iff, Bool.or_eq_true, Bool.or_eq_false_iff, decide_eq_true_eq, decide_eq_false_iff_not, beq_iff_eq, bne_iff_ne, Bool.not_true, Bool.not_false, Bool.true_eq_false, Bool.false_eq_true, ne_eq, Decidable.not_not, inB_t, inB_f] at ht)) | (refine ⟨_, rfl, ?_⟩; (try simp only [tupOf])))) | refine wSkip ?_ | (refine wExit ?_; simp only [thenQ, blockQ, reduceIte, Nat.reduceEqDiff]) | refine wSeq ?_ | refine wBlock ?_)
  · refine gives_boolv ?_
    rw [decide_eq_false]
    intro h; rw [h] at ht; exact ht rfl
  have hlen : a.length = b.length := by (try simp only [Bool.not_eq_true', Bool.not_eq_false', Bool.and_eq_true, Bool.and_eq_false_iff, Bool.or_eq_true, Bool.or_eq_false_iff, decide_eq_true_eq, decide_eq_false_iff_not, beq_iff_eq, bne_iff_ne, Bool.not_true, Bool.not_false, Bool.true_eq_false, Bool.false_eq_true, ne_eq, Decidable.not_not, inB_t, inB_f] at *); omega
  refine wLoop (fun k s => ∃ (j : Nat), j + k = a.length ∧ s.1 0 = .lst false (a.map encWait) ∧ s.1 1 = .lst false (b.map encWait) ∧ s.1 5 = .v (.int .i64 (j : Nat)) ∧ (a.take j = b.take j)) (fun k s hI => ?_) (a.length) _ ?_
  · obtain ⟨e, H⟩ := s
    obtain ⟨j, hj, h0, h1, h5, htk⟩ := hI
    simp only at h0 h1 h5 htk
    repeat' (first | ((first | refine wSeqr (fun xx hx => ?_) | refine wIf (fun xx hx => ?_) | refine wReg (fun xx hx => ?_) | (refine wRet ?_; (try simp only [thenQ, blockQ]); refine ends_by (fun xx hx => ?_))); have hc := trivial; (repeat' (simp only [hc, go_sem, Nat.reduceAdd, Nat.reduceMul, Nat.reduceSub, Nat.reduceEqDiff, Nat.reduceLT, Nat.reduceLeDiff, Int.reduceEq, Int.reduceLT, Int.reduceLE, reduceIte, aresults, aresult, h0, h5, List.length_map] at hx; (try (rw [guardL_if] at hx; split at hx <;> rename_i hc)))); all_goals (subst hx; first | (refine ⟨_, rfl, fun ht => ?_, fun ht => ?_⟩ <;> (try simp only [Bool.not_eq_true', Bool.not_eq_false', Bool.and_eq_true, Bool.and_eq_false_iff, Bool.or_eq_true, Bool.or_eq_false_iff, decide_eq_true_eq, decide_eq_false_iff_not, beq_iff_eq, bne_iff_ne, Bool.not_true, Bool.not_false, Bool.true_eq_false, Bool.false_eq_true, ne_eq, Decidable.not_not, inB_t, inB_f] at ht)) | (refine ⟨_, rfl, ?_⟩; (try simp only [tupOf])))) | refine wSkip ?_ | (refine wExit ?_; simp only [thenQ, blockQ, reduceIte, Nat.reduceEqDiff]) | refine wSeq ?_ | refine wBlock ?_)
    · have hla : j < a.length := by omega
      have hlb : j < b.length := by omega
      obtain ⟨x, gx, -, mx⟩ := at_drop hla
      obtain ⟨y, gy, -, my⟩ := at_drop hlb
      have gx' := map_at (f := encWait) gx
      have gy' := map_at (f := encWait) gy
      repeat' (first | ((first | refine wSeqr (fun xx hx => ?_) | refine wIf (fun xx hx => ?_) | refine wReg (fun xx hx => ?_) | (refine wRet ?_; (try simp only [thenQ, blockQ]); refine ends_by (fun xx hx => ?_))); have hc := trivial; (repeat' (simp only [hc, go_sem, Nat.reduceAdd, Nat.reduceMul, Nat.reduceSub, Nat.reduceEqDiff, Nat.reduceLT, Nat.reduceLeDiff, Int.reduceEq, Int.reduceLT, Int.reduceLE, reduceIte, aresults, aresult, h0, h1, h5, gx', gy', hp0, List.length_map, List.cons_append, List.nil_append, wrap_succ (show j < 9223372036854775807 by omega)] at hx; (try (rw [guardL_if] at hx; split at hx <;> rename_i hc)))); all_goals (subst hx; first | (refine ⟨_, rfl, fun ht => ?_, fun ht => ?_⟩ <;> (try simp only [Bool.not_eq_true', Bool.not_eq_false', Bool.and_eq_true, Bool.and_eq_false_iff, Bool.or_eq_true, Bool.or_eq_false_iff, decide_eq_true_eq, decide_eq_false_iff_not, beq_iff_eq, bne_iff_ne, Bool.not_true, Bool.not_false, Bool.true_eq_false, Bool.false_eq_true, ne_eq, Decidable.not_not, inB_t, inB_f] at ht)) | (refine ⟨_, rfl, ?_⟩; (try simp only [tupOf])))) | refine wSkip ?_ | (refine wExit ?_; simp only [thenQ, blockQ, reduceIte, Nat.reduceEqDiff]) | refine wSeq ?_ | refine wBlock ?_)
      · refine gives_boolv ?_
        have hne : ¬ x = y := by first | exact ht | (rw [eq_Wait]; first | exact ht | omega)
        rw [decide_eq_false]
        intro h; rw [h] at gx; exact hne (Option.some.inj (gx.symm.trans gy))
      · refine ⟨_, Nat.sub_lt (by omega) Nat.one_pos, j + 1, by omega, by simp only [upd_eq, Nat.reduceEqDiff, if_false, if_true, h0, h1, h5], by simp only [upd_eq, Nat.reduceEqDiff, if_false, if_true, h0, h1, h5], by simp only [upd_eq, Nat.reduceEqDiff, if_false, if_true, h0, h1, h5], ?_⟩
        have hxe : x = y := by first | exact ht | (rw [eq_Wait]; exact ht)
        rw [at_take gx, at_take gy, htk, hxe]
    · have hj' : j = a.length := by omega
      have hab : a = b := by
        rw [List.take_of_length_le (by omega), List.take_of_length_le (by omega)] at htk; exact htk
      refine gives_boolv ?_
      rw [decide_eq_true hab]
  · refine ⟨0, by omega, rfl, rfl, rfl, ?_⟩; simp
theorem c_sSameWaits (a b : List WaitM) (ha : a.length ≤ 1048576 ∧ ∀ x ∈ a, x.ok 1048576) (hb : b.length ≤ 1048576 ∧ ∀ x ∈ b, x.ok 1048576) : ∀ H, call Try.prog cfg0 0 162 [.lst false (a.map encWait), .lst false (b.map encWait)] H = some (.v (.bool (decide (a = b))), H) :=
  call_fz Try.func162 rfl ok_sSameWaits rfl (by simp only [fz_cons, fz_nil, go_sem, and_self]) (p_sSameWaits a b ha hb)

theorem ok_EqualWait : fnOk Try.prog cfg0 212 Try.f212 = true := by kernel_rfl
theorem p_EqualWait (a b : List WaitM) (ha : a.length ≤ 1048576 ∧ ∀ x ∈ a, x.ok 1048576) (hb : b.length ≤ 1048576 ∧ ∀ x ∈ b, x.ok 1048576) : pure Try.prog cfg0 212 Try.f212 [.lst false (a.map encWait), .lst false (b.map encWait)] = some (.v (.bool (decide (a = b))), true) := by
  refine pure_wp (rs := [.tmp 4]) rfl rfl ?_
  have hla0 := ha.1
  repeat' (first | ((first | refine wSeqr (fun xx hx => ?_) | refine wIf (fun xx hx => ?_) | refine wReg (fun xx hx => ?_) | (refine wRet ?_; (try simp only [thenQ, blockQ]); refine ends_by (fun xx hx => ?_))); have hc := trivial; (repeat' (simp only [hc, go_sem, Nat.reduceAdd, Nat.reduceMul, Nat.reduceSub, Nat.reduceEqDiff, Nat.reduceLT, Nat.reduceLeDiff, Int.reduceEq, Int.reduceLT, Int.reduceLE, reduceIte, aresults, aresult, List.length_map] at hx; (try (rw [guardL_if] at hx; split at hx <;> rename_i hc)))); all_goals (subst hx; first | (refine ⟨_, rfl, fun ht => ?_, fun ht => ?_⟩ <;> (try simp only [Bool.not_eq_true', Bool.not_eq_false', Bool.and_eq_true, Bool.and_eq_false_iff, Bool.or_eq_true, Bool.or_eq_false_iff, decide_eq_true_eq, decide_eq_false_iff_not, beq_iff_eq, bne_iff_ne, Bool.not_true, Bool.not_false, Bool.true_eq_false, Bool.false_eq_true, ne_eq, Decidable.not_not, inB_t, inB_f] at ht)) | (refine ⟨_, rfl, ?_⟩; (try simp only [tupOf])))) | refine wSkip ?_ | (refine wExit ?_; simp only [thenQ, blockQ, reduceIte, Nat.reduceEqDiff]) | refine wSeq ?_ | refine wBlock ?_)
  · refine gives_boolv ?_
    rw [decide_eq_false]
    intro h; rw [h] at ht; exact ht rfl
  have hlen : a.length = b.length := by (try simp only [Bool.not_eq_true', Bool.not_eq_false', Bool.and_eq_true, Bool.and_eq_false_iff, Bool.or_eq_true, Bool.or_eq_false_iff, decide_eq_true_eq, decide_eq_false_iff_not, beq_iff_eq, bne_iff_ne, Bool.not_true, Bool.not_false, Bool.true_eq_false, Bool.false_eq_true, ne_eq, Decidable.not_not, inB_t, inB_f] at *); omega
  refine wLoop (fun k s => ∃ (j : Nat), j + k = a.length ∧ s.1 0 = .lst false (a.map encWait) ∧ s.1 1 = .lst false (b.map encWait) ∧ s.1 12 = .v (.int .i64 (a.length : Nat)) ∧ s.1 13 = .v (.int .i64 (j : Nat)) ∧ (a.take j = b.take j)) (fun k s hI => ?_) (a.length) _ ?_
  · obtain ⟨e, H⟩ := s
    obtain ⟨j, hj, h0, h1, h12, h13, htk⟩ := hI
    simp only at h0 h1 h12 h13 htk
    repeat' (first | ((first | refine wSeqr (fun xx hx => ?_) | refine wIf (fun xx hx => ?_) | refine wReg (fun xx hx => ?_) | (refine wRet ?_; (try simp only [thenQ, blockQ]); refine ends_by (fun xx hx => ?_))); have hc := trivial; (repeat' (simp only [hc, go_sem, Nat.reduceAdd, Nat.reduceMul, Nat.reduceSub, Nat.reduceEqDiff, Nat.reduceLT, Nat.reduceLeDiff, Int.reduceEq, Int.reduceLT, Int.reduceLE, reduceIte, aresults, aresult, h12, h13, List.length_map] at hx; (try (rw [guardL_if] at hx; split at hx <;> rename_i hc)))); all_goals (subst hx; first | (refine ⟨_, rfl, fun ht => ?_, fun ht => ?_⟩ <;> (try simp only [Bool.not_eq_true', Bool.not_eq_false', Bool.and_eq_true, Bool.and_eq_false_iff, Bool.or_eq_true, Bool.or_eq_false_iff, decide_eq_true_eq, decide_eq_false_iff_not, beq_iff_eq, bne_iff_ne, Bool.not_true, Bool.not_false, Bool.true_eq_false, Bool.false_eq_true, ne_eq, Decidable.not_not, inB_t, inB_f] at ht)) | (refine ⟨_, rfl, ?_⟩; (try simp only [tupOf])))) | refine wSkip ?_ | (refine wExit ?_; simp only [thenQ, blockQ, reduceIte, Nat.reduceEqDiff]) | refine wSeq ?_ | refine wBlock ?_)
    · have hla : j < a.length := by omega
      have hlb : j < b.length := by omega
      obtain ⟨x, gx, -, mx⟩ := at_drop hla
      obtain ⟨y, gy, -, my⟩ := at_drop hlb
      have gx' := map_at (f := encWait) gx
      have gy' := map_at (f := encWait) gy
      repeat' (first | ((first | refine wSeqr (fun xx hx => ?_) | refine wIf (fun xx hx => ?_) | refine wReg (fun xx hx => ?_) | (refine wRet ?_; (try simp only [thenQ, blockQ]); refine ends_by (fun xx hx => ?_))); have hc := trivial; (repeat' (simp only [hc, go_sem, Nat.reduceAdd, Nat.reduceMul, Nat.reduceSub, Nat.reduceEqDiff, Nat.reduceLT, Nat.reduceLeDiff, Int.reduceEq, Int.reduceLT, Int.reduceLE, reduceIte, aresults, aresult, h0, h1, h13, gx', gy', hp0, List.length_map, List.cons_append, List.nil_append, wrap_succ (show j < 9223372036854775807 by omega)] at hx; (try (rw [guardL_if] at hx; split at hx <;> rename_i hc)))); all_goals (subst hx; first | (refine ⟨_, rfl, fun ht => ?_, fun ht => ?_⟩ <;> (try simp only [Bool.not_eq_true', Bool.not_eq_false', Bool.and_eq_true, Bool.and_eq_false_iff, Bool.or_eq_true, Bool.or_eq_false_iff, decide_eq_true_eq, decide_eq_false_iff_not, beq_iff_eq, bne_iff_ne, Bool.not_true, Bool.not_false, Bool.true_eq_false, Bool.false_eq_true, ne_eq, Decidable.not_not, inB_t, inB_f] at ht)) | (refine ⟨_, rfl, ?_⟩; (try simp only [tupOf])))) | refine wSkip ?_ | (refine wExit ?_; simp only [thenQ, blockQ, reduceIte, Nat.reduceEqDiff]) | refine wSeq ?_ | refine wBlock ?_)
      · refine gives_boolv ?_
        have hne : ¬ x = y := by first | exact ht | (rw [eq_Wait]; first | exact ht | omega)
        rw [decide_eq_false]
        intro h; rw [h] at gx; exact hne (Option.some.inj (gx.symm.trans gy))
      · refine ⟨_, Nat.sub_lt (by omega) Nat.one_pos, j + 1, by omega, by simp only [upd_eq, Nat.reduceEqDiff, if_false, if_true, h0, h1, h12, h13], by simp only [upd_eq, Nat.reduceEqDiff, if_false, if_true, h0, h1, h12, h13], by simp only [upd_eq, Nat.reduceEqDiff, if_false, if_true, h0, h1, h12, h13], by simp only [upd_eq, Nat.reduceEqDiff, if_false, if_true, h0, h1, h12, h13], ?_⟩
        have hxe : x = y := by first | exact ht | (rw [eq_Wait]; exact ht)
        rw [at_take gx, at_take gy, htk, hxe]
    · have hj' : j = a.length := by omega
      have hab : a = b := by
        rw [List.take_of_length_le (by omega), List.take_of_length_le (by omega)] at htk; exact htk
      refine gives_boolv ?_
      rw [decide_eq_true hab]
  · refine ⟨0, by omega, rfl, rfl, rfl, rfl, ?_⟩; simp
theorem c_EqualWait (a b : List WaitM) (ha : a.length ≤ 1048576 ∧ ∀ x ∈ a, x.ok 1048576) (hb : b.length ≤ 1048576 ∧ ∀ x ∈ b, x.ok 1048576) : ∀ H, call Try.prog cfg0 0 212 [.lst false (a.map encWait), .lst false (b.map encWait)] H = some (.v (.bool (decide (a = b))), H) :=
  call_fz Try.func212 rfl ok_EqualWait rfl (by simp only [fz_cons, fz_nil, go_sem, and_self]) (p_EqualWait a b ha hb)

theorem ok_iSameWaits : fnOk Try.prog cfg0 170 Try.f170 = true := by kernel_rfl
theorem p_iSameWaits (a b : List WaitM) (ha : a.length ≤ 1048576 ∧ ∀ x ∈ a, x.ok 1048576) (hb : b.length ≤ 1048576 ∧ ∀ x ∈ b, x.ok 1048576) : pure Try.prog cfg0 170 Try.f170 [.lst false (a.map encWait), .lst false (b.map encWait)] = some (.v (.bool (decide (a = b))), true) := by
  refine pure_wp (rs := [.tmp 4]) rfl rfl ?_
  repeat' (first | ((first | refine wSeqr (fun xx hx => ?_) | refine wIf (fun xx hx => ?_) | refine wReg (fun xx hx => ?_) | (refine wRet ?_; (try simp only [thenQ, blockQ]); refine ends_by (fun xx hx => ?_))); have hc := trivial; (repeat' (simp only [hc, go_sem, Nat.reduceAdd, Nat.reduceMul, Nat.reduceSub, Nat.reduceEqDiff, Nat.reduceLT, Nat.reduceLeDiff, Int.reduceEq, Int.reduceLT, Int.reduceLE, reduceIte, aresults, aresult, hp0, c_EqualWait a b ha hb] at hx; (try (rw [guardL_if] at hx; split at hx <;> rename_i hc)))); all_goals (subst hx; first | (refine ⟨_, rfl, fun ht => ?_, fun ht => ?_⟩ <;> (try simp only [Bool.not_eq_true', Bool.not_eq_false', Bool.and_eq_true, Bool.and_eq_false_iff, Bool.or_eq_true, Bool.or_eq_false_iff, decide_eq_true_eq, decide_eq_false_iff_not, beq_iff_eq, bne_iff_ne, Bool.not_true, Bool.not_false, Bool.true_eq_false, Bool.false_eq_true, ne_eq, Decidable.not_not, inB_t, inB_f] at ht)) | (refine ⟨_, rfl, ?_⟩; (try simp only [tupOf])))) | refine wSkip ?_ | (refine wExit ?_; simp only [thenQ, blockQ, reduceIte, Nat.reduceEqDiff]) | refine wSeq ?_ | refine wBlock ?_)
  exact ⟨rfl, rfl⟩
theorem c_iSameWaits (a b : List WaitM) (ha : a.length ≤ 1048576 ∧ ∀ x ∈ a, x.ok 1048576) (hb : b.length ≤ 1048576 ∧ ∀ x ∈ b, x.ok 1048576) : ∀ H, call Try.prog cfg0 0 170 [.lst false (a.map encWait), .lst false (b.map encWait)] H = some (.v (.bool (decide (a = b))), H) :=
  call_fz Try.func170 rfl ok_iSameWaits rfl (by simp only [fz_cons, fz_nil, go_sem, and_self]) (p_iSameWaits a b ha hb)

theorem ok_sSameWindows : fnOk Try.prog cfg0 207 Try.f207 = true := by kernel_rfl
theorem p_sSameWindows (a b : WindowM) (ha : a.ok 1048576) (hb : b.ok 1048576) : pure Try.prog cfg0 207 Try.f207 [.agg [.v (.int .i64 a.Top), i64L a.Seen], .agg [.v (.int .i64 b.Top), i64L b.Seen]] = some (.v (.bool (decide (a = b))), true) := by
  refine pure_wp (rs := [.tmp 4]) rfl rfl ?_
  repeat' (first | ((first | refine wSeqr (fun xx hx => ?_) | refine wIf (fun xx hx => ?_) | refine wReg (fun xx hx => ?_) | (refine wRet ?_; (try simp only [thenQ, blockQ]); refine ends_by (fun xx hx => ?_))); have hc := trivial; (repeat' (simp only [hc, go_sem, Nat.reduceAdd, Nat.reduceMul, Nat.reduceSub, Nat.reduceEqDiff, Nat.reduceLT, Nat.reduceLeDiff, Int.reduceEq, Int.reduceLT, Int.reduceLE, reduceIte, aresults, aresult, hp0, List.append_eq, List.cons_append, List.nil_append, c_sl1Same a.Seen b.Seen ha.2.2 hb.2.2] at hx; (try (rw [guardL_if] at hx; split at hx <;> rename_i hc)))); all_goals (subst hx; first | (refine ⟨_, rfl, fun ht => ?_, fun ht => ?_⟩ <;> (try simp only [Bool.not_eq_true', Bool.not_eq_false', Bool.and_eq_true, Bool.and_eq_false_iff, Bool.or_eq_true, Bool.or_eq_false_iff, decide_eq_true_eq, decide_eq_false_iff_not, beq_iff_eq, bne_iff_ne, Bool.not_true, Bool.not_false, Bool.true_eq_false, Bool.false_eq_true, ne_eq, Decidable.not_not, inB_t, inB_f] at ht)) | (refine ⟨_, rfl, ?_⟩; (try simp only [tupOf])))) | refine wSkip ?_ | (refine wExit ?_; simp only [thenQ, blockQ, reduceIte, Nat.reduceEqDiff]) | refine wSeq ?_ | refine wBlock ?_)
  all_goals (refine gives_boolv ?_; (try simp only [Bool.not_eq_true', Bool.not_eq_false', Bool.and_eq_true, Bool.and_eq_false_iff, Bool.or_eq_true, Bool.or_eq_false_iff, decide_eq_true_eq, decide_eq_false_iff_not, beq_iff_eq, bne_iff_ne, Bool.not_true, Bool.not_false, Bool.true_eq_false, Bool.false_eq_true, ne_eq, Decidable.not_not, inB_t, inB_f] at *); simp_all [eq_Window, beqB])
theorem c_sSameWindows (a b : WindowM) (ha : a.ok 1048576) (hb : b.ok 1048576) : ∀ H, call Try.prog cfg0 0 207 [.agg [.v (.int .i64 a.Top), i64L a.Seen], .agg [.v (.int .i64 b.Top), i64L b.Seen]] H = some (.v (.bool (decide (a = b))), H) :=
  call_fz Try.func207 rfl ok_sSameWindows rfl (by simp only [fz_cons, fz_nil, go_sem, and_self]) (p_sSameWindows a b ha hb)

theorem ok_iSameWindows : fnOk Try.prog cfg0 172 Try.f172 = true := by kernel_rfl
theorem p_iSameWindows (a b : WindowM) (ha : a.ok 1048576) (hb : b.ok 1048576) : pure Try.prog cfg0 172 Try.f172 [.agg [.v (.int .i64 a.Top), i64L a.Seen], .agg [.v (.int .i64 b.Top), i64L b.Seen]] = some (.v (.bool (decide (a = b))), true) := by
  refine pure_wp (rs := [.tmp 4]) rfl rfl ?_
  repeat' (first | ((first | refine wSeqr (fun xx hx => ?_) | refine wIf (fun xx hx => ?_) | refine wReg (fun xx hx => ?_) | (refine wRet ?_; (try simp only [thenQ, blockQ]); refine ends_by (fun xx hx => ?_))); have hc := trivial; (repeat' (simp only [hc, go_sem, Nat.reduceAdd, Nat.reduceMul, Nat.reduceSub, Nat.reduceEqDiff, Nat.reduceLT, Nat.reduceLeDiff, Int.reduceEq, Int.reduceLT, Int.reduceLE, reduceIte, aresults, aresult, hp0, List.append_eq, List.cons_append, List.nil_append, c_EqualInt a.Seen b.Seen ha.2.2 hb.2.2] at hx; (try (rw [guardL_if] at hx; split at hx <;> rename_i hc)))); all_goals (subst hx; first | (refine ⟨_, rfl, fun ht => ?_, fun ht => ?_⟩ <;> (try simp only [Bool.not_eq_true', Bool.not_eq_false', Bool.and_eq_true, Bool.and_eq_false_iff, Bool.or_eq_true, Bool.or_eq_false_iff, decide_eq_true_eq, decide_eq_false_iff_not, beq_iff_eq, bne_iff_ne, Bool.not_true, Bool.not_false, Bool.true_eq_false, Bool.false_eq_true, ne_eq, Decidable.not_not, inB_t, inB_f] at ht)) | (refine ⟨_, rfl, ?_⟩; (try simp only [tupOf])))) | refine wSkip ?_ | (refine wExit ?_; simp only [thenQ, blockQ, reduceIte, Nat.reduceEqDiff]) | refine wSeq ?_ | refine wBlock ?_)
  all_goals (refine gives_boolv ?_; (try simp only [Bool.not_eq_true', Bool.not_eq_false', Bool.and_eq_true, Bool.and_eq_false_iff, Bool.or_eq_true, Bool.or_eq_false_iff, decide_eq_true_eq, decide_eq_false_iff_not, beq_iff_eq, bne_iff_ne, Bool.not_true, Bool.not_false, Bool.true_eq_false, Bool.false_eq_true, ne_eq, Decidable.not_not, inB_t, inB_f] at *); simp_all [eq_Window, beqB])
theorem c_iSameWindows (a b : WindowM) (ha : a.ok 1048576) (hb : b.ok 1048576) : ∀ H, call Try.prog cfg0 0 172 [.agg [.v (.int .i64 a.Top), i64L a.Seen], .agg [.v (.int .i64 b.Top), i64L b.Seen]] H = some (.v (.bool (decide (a = b))), H) :=
  call_fz Try.func172 rfl ok_iSameWindows rfl (by simp only [fz_cons, fz_nil, go_sem, and_self]) (p_iSameWindows a b ha hb)

theorem ok_sl11SameWindows : fnOk Try.prog cfg0 163 Try.f163 = true := by kernel_rfl
theorem p_sl11SameWindows (a b : List WindowM) (ha : a.length ≤ 1048576 ∧ ∀ x ∈ a, x.ok 1048576) (hb : b.length ≤ 1048576 ∧ ∀ x ∈ b, x.ok 1048576) : pure Try.prog cfg0 163 Try.f163 [.lst false (a.map encWindow), .lst false (b.map encWindow)] = some (.v (.bool (decide (a = b))), true) := by
  refine pure_wp (rs := [.tmp 4]) rfl rfl ?_
  have hla0 := ha.1
  repeat' (first | ((first | refine wSeqr (fun xx hx => ?_) | refine wIf (fun xx hx => ?_) | refine wReg (fun xx hx => ?_) | (refine wRet ?_; (try simp only [thenQ, blockQ]); refine ends_by (fun xx hx => ?_))); have hc := trivial; (repeat' (simp only [hc, go_sem, Nat.reduceAdd, Nat.reduceMul, Nat.reduceSub, Nat.reduceEqDiff, Nat.reduceLT, Nat.reduceLeDiff, Int.reduceEq, Int.reduceLT, Int.reduceLE, reduceIte, aresults, aresult, List.length_map] at hx; (try (rw [guardL_if] at hx; split at hx <;> rename_i hc)))); all_goals (subst hx; first | (refine ⟨_, rfl, fun ht => ?_, fun ht => ?_⟩ <;> (try simp only [Bool.not_eq_true', Bool.not_eq_false', Bool.and_eq_true, Bool.and_eq_false_iff, Bool.or_eq_true, Bool.or_eq_false_iff, decide_eq_true_eq, decide_eq_false_iff_not, beq_iff_eq, bne_iff_ne, Bool.not_true, Bool.not_false, Bool.true_eq_false, Bool.false_eq_true, ne_eq, Decidable.not_not, inB_t, inB_f] at ht)) | (refine ⟨_, rfl, ?_⟩; (try simp only [tupOf])))) | refine wSkip ?_ | (refine wExit ?_; simp only [thenQ, blockQ, reduceIte, Nat.reduceEqDiff]) | refine wSeq ?_ | refine wBlock ?_)
  · refine gives_boolv ?_
    rw [decide_eq_false]
    intro h; rw [h] at ht; exact ht rfl
  have hlen : a.length = b.length := by (try simp only [Bool.not_eq_true', Bool.not_eq_false', Bool.and_eq_true, Bool.and_eq_false_iff, Bool.or_eq_true, Bool.or_eq_false_iff, decide_eq_true_eq, decide_eq_false_iff_not, beq_iff_eq, bne_iff_ne, Bool.not_true, Bool.not_false, Bool.true_eq_false, Bool.false_eq_true, ne_eq, Decidable.not_not, inB_t, inB_f] at *); omega
  refine wLoop (fun k s => ∃ (j : Nat), j + k = a.length ∧ s.1 0 = .lst false (a.map encWindow) ∧ s.1 1 = .lst false (b.map encWindow) ∧ s.1 5 = .v (.int .i64 (j : Nat)) ∧ (a.take j = b.take j)) (fun k s hI => ?_) (a.length) _ ?_
  · obtain ⟨e, H⟩ := s
    obtain ⟨j, hj, h0, h1, h5, htk⟩ := hI
    simp only at h0 h1 h5 htk
    repeat' (first | ((first | refine wSeqr (fun xx hx => ?_) | refine wIf (fun xx hx => ?_) | refine wReg (fun xx hx => ?_) | (refine wRet ?_; (try simp only [thenQ, blockQ]); refine ends_by (fun xx hx => ?_))); have hc := trivial; (repeat' (simp only [hc, go_sem, Nat.reduceAdd, Nat.reduceMul, Nat.reduceSub, Nat.reduceEqDiff, Nat.reduceLT, Nat.reduceLeDiff, Int.reduceEq, Int.reduceLT, Int.reduceLE, reduceIte, aresults, aresult, h0, h5, List.length_map] at hx; (try (rw [guardL_if] at hx; split at hx <;> rename_i hc)))); all_goals (subst hx; first | (refine ⟨_, rfl, fun ht => ?_, fun ht => ?_⟩ <;> (try simp only [Bool.not_eq_true', Bool.not_eq_false', Bool.and_eq_true, Bool.and_eq_false_iff, Bool.or_eq_true, Bool.or_eq_false_iff, decide_eq_true_eq, decide_eq_false_iff_not, beq_iff_eq, bne_iff_ne, Bool.not_true, Bool.not_false, Bool.true_eq_false, Bool.false_eq_true, ne_eq, Decidable.not_not, inB_t, inB_f] at ht)) | (refine ⟨_, rfl, ?_⟩; (try simp only [tupOf])))) | refine wSkip ?_ | (refine wExit ?_; simp only [thenQ, blockQ, reduceIte, Nat.reduceEqDiff]) | refine wSeq ?_ | refine wBlock ?_)
    · have hla : j < a.length := by omega
      have hlb : j < b.length := by omega
      obtain ⟨x, gx, -, mx⟩ := at_drop hla
      obtain ⟨y, gy, -, my⟩ := at_drop hlb
      have gx' := map_at (f := encWindow) gx
      have gy' := map_at (f := encWindow) gy
      have hxy := c_sSameWindows x y (ha.2 x mx) (hb.2 y my)
      repeat' (first | ((first | refine wSeqr (fun xx hx => ?_) | refine wIf (fun xx hx => ?_) | refine wReg (fun xx hx => ?_) | (refine wRet ?_; (try simp only [thenQ, blockQ]); refine ends_by (fun xx hx => ?_))); have hc := trivial; (repeat' (simp only [hc, go_sem, Nat.reduceAdd, Nat.reduceMul, Nat.reduceSub, Nat.reduceEqDiff, Nat.reduceLT, Nat.reduceLeDiff, Int.reduceEq, Int.reduceLT, Int.reduceLE, reduceIte, aresults, aresult, h0, h1, h5, gx', gy', hp0, hxy, List.length_map, List.cons_append, List.nil_append, wrap_succ (show j < 9223372036854775807 by omega)] at hx; (try (rw [guardL_if] at hx; split at hx <;> rename_i hc)))); all_goals (subst hx; first | (refine ⟨_, rfl, fun ht => ?_, fun ht => ?_⟩ <;> (try simp only [Bool.not_eq_true', Bool.not_eq_false', Bool.and_eq_true, Bool.and_eq_false_iff, Bool.or_eq_true, Bool.or_eq_false_iff, decide_eq_true_eq, decide_eq_false_iff_not, beq_iff_eq, bne_iff_ne, Bool.not_true, Bool.not_false, Bool.true_eq_false, Bool.false_eq_true, ne_eq, Decidable.not_not, inB_t, inB_f] at ht)) | (refine ⟨_, rfl, ?_⟩; (try simp only [tupOf])))) | refine wSkip ?_ | (refine wExit ?_; simp only [thenQ, blockQ, reduceIte, Nat.reduceEqDiff]) | refine wSeq ?_ | refine wBlock ?_)
      · refine gives_boolv ?_
        have hne : ¬ x = y := by first | exact ht | (rw [eq_Window]; first | exact ht | omega)
        rw [decide_eq_false]
        intro h; rw [h] at gx; exact hne (Option.some.inj (gx.symm.trans gy))
      · refine ⟨_, Nat.sub_lt (by omega) Nat.one_pos, j + 1, by omega, by simp only [upd_eq, Nat.reduceEqDiff, if_false, if_true, h0, h1, h5], by simp only [upd_eq, Nat.reduceEqDiff, if_false, if_true, h0, h1, h5], by simp only [upd_eq, Nat.reduceEqDiff, if_false, if_true, h0, h1, h5], ?_⟩
        have hxe : x = y := by first | exact ht | (rw [eq_Window]; exact ht)
        rw [at_take gx, at_take gy, htk, hxe]
    · have hj' : j = a.length := by omega
      have hab : a = b := by
        rw [List.take_of_length_le (by omega), List.take_of_length_le (by omega)] at htk; exact htk
      refine gives_boolv ?_
      rw [decide_eq_true hab]
  · refine ⟨0, by omega, rfl, rfl, rfl, ?_⟩; simp
theorem c_sl11SameWindows (a b : List WindowM) (ha : a.length ≤ 1048576 ∧ ∀ x ∈ a, x.ok 1048576) (hb : b.length ≤ 1048576 ∧ ∀ x ∈ b, x.ok 1048576) : ∀ H, call Try.prog cfg0 0 163 [.lst false (a.map encWindow), .lst false (b.map encWindow)] H = some (.v (.bool (decide (a = b))), H) :=
  call_fz Try.func163 rfl ok_sl11SameWindows rfl (by simp only [fz_cons, fz_nil, go_sem, and_self]) (p_sl11SameWindows a b ha hb)

theorem ok_EqualFuncWindow : fnOk Try.prog cfg0 171 Try.f171 = true := by kernel_rfl
theorem p_EqualFuncWindow (a b : List WindowM) (ha : a.length ≤ 1048576 ∧ ∀ x ∈ a, x.ok 1048576) (hb : b.length ≤ 1048576 ∧ ∀ x ∈ b, x.ok 1048576) (fn : Nat) (hfn : ∀ x ∈ a, ∀ y ∈ b, ∀ H, call Try.prog cfg0 0 fn [.agg [.v (.int .i64 x.Top), i64L x.Seen], .agg [.v (.int .i64 y.Top), i64L y.Seen]] H = some (.v (.bool (decide (x = y))), H)) : pure Try.prog cfg0 171 Try.f171 [.lst false (a.map encWindow), .lst false (b.map encWindow), .fn fn []] = some (.v (.bool (decide (a = b))), true) := by
  refine pure_wp (rs := [.tmp 6]) rfl rfl ?_
  have hla0 := ha.1
  repeat' (first | ((first | refine wSeqr (fun xx hx => ?_) | refine wIf (fun xx hx => ?_) | refine wReg (fun xx hx => ?_) | (refine wRet ?_; (try simp only [thenQ, blockQ]); refine ends_by (fun xx hx => ?_))); have hc := trivial; (repeat' (simp only [hc, go_sem, Nat.reduceAdd, Nat.reduceMul, Nat.reduceSub, Nat.reduceEqDiff, Nat.reduceLT, Nat.reduceLeDiff, Int.reduceEq, Int.reduceLT, Int.reduceLE, reduceIte, aresults, aresult, List.length_map] at hx; (try (rw [guardL_if] at hx; split at hx <;> rename_i hc)))); all_goals (subst hx; first | (refine ⟨_, rfl, fun ht => ?_, fun ht => ?_⟩ <;> (try simp only [Bool.not_eq_true', Bool.not_eq_false', Bool.and_eq_true, Bool.and_eq_false_iff, Bool.or_eq_true, Bool.or_eq_false_iff, decide_eq_true_eq, decide_eq_false_iff_not, beq_iff_eq, bne_iff_ne, Bool.not_true, Bool.not_false, Bool.true_eq_false, Bool.false_eq_true, ne_eq, Decidable.not_not, inB_t, inB_f] at ht)) | (refine ⟨_, rfl, ?_⟩; (try simp only [tupOf])))) | refine wSkip ?_ | (refine wExit ?_; simp only [thenQ, blockQ, reduceIte, Nat.reduceEqDiff]) | refine wSeq ?_ | refine wBlock ?_)
  · refine gives_boolv ?_
    rw [decide_eq_false]
    intro h; rw [h] at ht; exact ht rfl
  have hlen : a.length = b.length := by (try simp only [Bool.not_eq_true', Bool.not_eq_false', Bool.and_eq_true, Bool.and_eq_false_iff, Bool.or_eq_true, Bool.or_eq_false_iff, decide_eq_true_eq, decide_eq_false_iff_not, beq_iff_eq, bne_iff_ne, Bool.not_true, Bool.not_false, Bool.true_eq_false, Bool.false_eq_true, ne_eq, Decidable.not_not, inB_t, inB_f] at *); omega
  refine wLoop (fun k s => ∃ (j : Nat), j + k = a.length ∧ s.1 1 = .lst false (b.map encWindow) ∧ s.1 2 = .fn fn [] ∧ s.1 15 = .lst false (a.map encWindow) ∧ s.1 16 = .v (.int .i64 (a.length : Nat)) ∧ s.1 17 = .v (.int .i64 (j : Nat)) ∧ (a.take j = b.take j)) (fun k s hI => ?_) (a.length) _ ?_
  · obtain ⟨e, H⟩ := s
    obtain ⟨j, hj, h1, h2, h15, h16, h17, htk⟩ := hI
    simp only at h1 h2 h15 h16 h17 htk
    repeat' (first | ((first | refine wSeqr (fun xx hx => ?_) | refine wIf (fun xx hx => ?_) | refine wReg (fun xx hx => ?_) | (refine wRet ?_; (try simp only [thenQ, blockQ]); refine ends_by (fun xx hx => ?_))); have hc := trivial; (repeat' (simp only [hc, go_sem, Nat.reduceAdd, Nat.reduceMul, Nat.reduceSub, Nat.reduceEqDiff, Nat.reduceLT, Nat.reduceLeDiff, Int.reduceEq, Int.reduceLT, Int.reduceLE, reduceIte, aresults, aresult, h16, h17, List.length_map] at hx; (try (rw [guardL_if] at hx; split at hx <;> rename_i hc)))); all_goals (subst hx; first | (refine ⟨_, rfl, fun ht => ?_, fun ht => ?_⟩ <;> (try simp only [Bool.not_eq_true', Bool.not_eq_false', Bool.and_eq_true, Bool.and_eq_false_iff, Bool.or_eq_true, Bool.or_eq_false_iff, decide_eq_true_eq, decide_eq_false_iff_not, beq_iff_eq, bne_iff_ne, Bool.not_true, Bool.not_false, Bool.true_eq_false, Bool.false_eq_true, ne_eq, Decidable.not_not, inB_t, inB_f] at ht)) | (refine ⟨_, rfl, ?_⟩; (try simp only [tupOf])))) | refine wSkip ?_ | (refine wExit ?_; simp only [thenQ, blockQ, reduceIte, Nat.reduceEqDiff]) | refine wSeq ?_ | refine wBlock ?_)
    · have hla : j < a.length := by omega
      have hlb : j < b.length := by omega
      obtain ⟨x, gx, -, mx⟩ := at_drop hla
      obtain ⟨y, gy, -, my⟩ := at_drop hlb
      have gx' := map_at (f := encWindow) gx
      have gy' := map_at (f := encWindow) gy
      have hxy := hfn x mx y my
      repeat' (first | ((first | refine wSeqr (fun xx hx => ?_) | refine wIf (fun xx hx => ?_) | refine wReg (fun xx hx => ?_) | (refine wRet ?_; (try simp only [thenQ, blockQ]); refine ends_by (fun xx hx => ?_))); have hc := trivial; (repeat' (simp only [hc, go_sem, Nat.reduceAdd, Nat.reduceMul, Nat.reduceSub, Nat.reduceEqDiff, Nat.reduceLT, Nat.reduceLeDiff, Int.reduceEq, Int.reduceLT, Int.reduceLE, reduceIte, aresults, aresult, h1, h2, h15, h17, gx', gy', hp0, hxy, List.length_map, List.cons_append, List.nil_append, wrap_succ (show j < 9223372036854775807 by omega)] at hx; (try (rw [guardL_if] at hx; split at hx <;> rename_i hc)))); all_goals (subst hx; first | (refine ⟨_, rfl, fun ht => ?_, fun ht => ?_⟩ <;> (try simp only [Bool.not_eq_true', Bool.not_eq_false', Bool.and_eq_true, Bool.and_eq_false_iff, Bool.or_eq_true, Bool.or_eq_false_iff, decide_eq_true_eq, decide_eq_false_iff_not, beq_iff_eq, bne_iff_ne, Bool.not_true, Bool.not_false, Bool.true_eq_false, Bool.false_eq_true, ne_eq, Decidable.not_not, inB_t, inB_f] at ht)) | (refine ⟨_, rfl, ?_⟩; (try simp only [tupOf])))) | refine wSkip ?_ | (refine wExit ?_; simp only [thenQ, blockQ, reduceIte, Nat.reduceEqDiff]) | refine wSeq ?_ | refine wBlock ?_)
      · refine gives_boolv ?_
        have hne : ¬ x = y := by first | exact ht | (rw [eq_Window]; first | exact ht | omega)
        rw [decide_eq_false]
        intro h; rw [h] at gx; exact hne (Option.some.inj (gx.symm.trans gy))
      · refine ⟨_, Nat.sub_lt (by omega) Nat.one_pos, j + 1, by omega, by simp only [upd_eq, Nat.reduceEqDiff, if_false, if_true, h1, h2, h15, h16, h17], by simp only [upd_eq, Nat.reduceEqDiff, if_false, if_true, h1, h2, h15, h16, h17], by simp only [upd_eq, Nat.reduceEqDiff, if_false, if_true, h1, h2, h15, h16, h17], by simp only [upd_eq, Nat.reduceEqDiff, if_false, if_true, h1, h2, h15, h16, h17], by simp only [upd_eq, Nat.reduceEqDiff, if_false, if_true, h1, h2, h15, h16, h17], ?_⟩
        have hxe : x = y := by first | exact ht | (rw [eq_Window]; exact ht)
        rw [at_take gx, at_take gy, htk, hxe]
    · have hj' : j = a.length := by omega
      have hab : a = b := by
        rw [List.take_of_length_le (by omega), List.take_of_length_le (by omega)] at htk; exact htk
      refine gives_boolv ?_
      rw [decide_eq_true hab]
  · refine ⟨0, by omega, rfl, rfl, rfl, rfl, rfl, ?_⟩; simp
theorem c_EqualFuncWindow (a b : List WindowM) (ha : a.length ≤ 1048576 ∧ ∀ x ∈ a, x.ok 1048576) (hb : b.length ≤ 1048576 ∧ ∀ x ∈ b, x.ok 1048576) (fn : Nat) (hfn : ∀ x ∈ a, ∀ y ∈ b, ∀ H, call Try.prog cfg0 0 fn [.agg [.v (.int .i64 x.Top), i64L x.Seen], .agg [.v (.int .i64 y.Top), i64L y.Seen]] H = some (.v (.bool (decide (x = y))), H)) : ∀ H, call Try.prog cfg0 0 171 [.lst false (a.map encWindow), .lst false (b.map encWindow), .fn fn []] H = some (.v (.bool (decide (a = b))), H) :=
  call_fz Try.func171 rfl ok_EqualFuncWindow rfl (by simp only [fz_cons, fz_nil, go_sem, and_self]) (p_EqualFuncWindow a b ha hb fn hfn)

theorem ok_sl4Same : fnOk Try.prog cfg0 142 Try.f142 = true := by kernel_rfl
theorem p_sl4Same (a b : KeyM) (ha : a.ok 1048576) (hb : b.ok 1048576) : pure Try.prog cfg0 142 Try.f142 [.fp [.v (.int .i64 a.Id), bytesL a.Bytes] 0, .fp [.v (.int .i64 b.Id), bytesL b.Bytes] 0] = some (.v (.bool (decide (a = b))), true) := by
  refine pure_wp (rs := [.tmp 4]) rfl rfl ?_
  repeat' (first | ((first | refine wSeqr (fun xx hx => ?_) | refine wIf (fun xx hx => ?_) | refine wReg (fun xx hx => ?_) | (refine wRet ?_; (try simp only [thenQ, blockQ]); refine ends_by (fun xx hx => ?_))); have hc := trivial; (repeat' (simp only [hc, go_sem, Nat.reduceAdd, Nat.reduceMul, Nat.reduceSub, Nat.reduceEqDiff, Nat.reduceLT, Nat.reduceLeDiff, Int.reduceEq, Int.reduceLT, Int.reduceLE, reduceIte, aresults, aresult, hp0, List.append_eq, List.cons_append, List.nil_append, conv_b, strOf_eq ha.2.1 hb.2.1] at hx; (try (rw [guardL_if] at hx; split at hx <;> rename_i hc)))); all_goals (subst hx; first | (refine ⟨_, rfl, fun ht => ?_, fun ht => ?_⟩ <;> (try simp only [Bool.not_eq_true', Bool.not_eq_false', Bool.and_eq_true, Bool.and_eq_false_iff, Bool.or_eq_true, Bool.or_eq_false_iff, decide_eq_true_eq, decide_eq_false_iff_not, beq_iff_eq, bne_iff_ne, Bool.not_true, Bool.not_false, Bool.true_eq_false, Bool.false_eq_true, ne_eq, Decidable.not_not, inB_t, inB_f] at ht)) | (refine ⟨_, rfl, ?_⟩; (try simp only [tupOf])))) | refine wSkip ?_ | (refine wExit ?_; simp only [thenQ, blockQ, reduceIte, Nat.reduceEqDiff]) | refine wSeq ?_ | refine wBlock ?_)
  all_goals (refine gives_boolv ?_; (try simp only [Bool.not_eq_true', Bool.not_eq_false', Bool.and_eq_true, Bool.and_eq_false_iff, Bool.or_eq_true, Bool.or_eq_false_iff, decide_eq_true_eq, decide_eq_false_iff_not, beq_iff_eq, bne_iff_ne, Bool.not_true, Bool.not_false, Bool.true_eq_false, Bool.false_eq_true, ne_eq, Decidable.not_not, inB_t, inB_f] at *); simp_all [eq_Key, beqB])
theorem c_sl4Same (a b : KeyM) (ha : a.ok 1048576) (hb : b.ok 1048576) : ∀ H, call Try.prog cfg0 0 142 [.fp [.v (.int .i64 a.Id), bytesL a.Bytes] 0, .fp [.v (.int .i64 b.Id), bytesL b.Bytes] 0] H = some (.v (.bool (decide (a = b))), H) :=
  call_fz Try.func142 rfl ok_sl4Same rfl (by simp only [fz_cons, fz_nil, go_sem, and_self]) (p_sl4Same a b ha hb)
open Classical in
theorem cp_sl4Same (a b : KeyM) (ha : a.ok 1048576) (hb : b.ok 1048576) : ∀ H ba bb, call Try.prog cfg0 0 142 [.ptr ba 0, .ptr bb 0] H = if H.h ba = some [.v (.int .i64 a.Id), bytesL a.Bytes] ∧ H.h bb = some [.v (.int .i64 b.Id), bytesL b.Bytes] then some (.v (.bool (decide (a = b))), H) else call' Try.prog cfg0 0 142 [.ptr ba 0, .ptr bb 0] H :=
  fun H ba bb => by
    exact call_if Try.func142 rfl ok_sl4Same rfl (fun hC => mapM_c (deep_ptr hC.1 (fzE_Key 9 a)) (mapM_c (deep_ptr hC.2 (fzE_Key 9 b)) (mapM_n))) (p_sl4Same a b ha hb)

theorem ok_isameKey : fnOk Try.prog cfg0 198 Try.f198 = true := by kernel_rfl
theorem p_isameKey (a b : KeyM) (ha : a.ok 1048576) (hb : b.ok 1048576) : pure Try.prog cfg0 198 Try.f198 [.agg [.v (.int .i64 a.Id), bytesL a.Bytes], .agg [.v (.int .i64 b.Id), bytesL b.Bytes]] = some (.v (.bool (decide (a = b))), true) := by
  refine pure_wp (rs := [.tmp 4]) rfl rfl ?_
  repeat' (first | ((first | refine wSeqr (fun xx hx => ?_) | refine wIf (fun xx hx => ?_) | refine wReg (fun xx hx => ?_) | (refine wRet ?_; (try simp only [thenQ, blockQ]); refine ends_by (fun xx hx => ?_))); have hc := trivial; (repeat' (simp only [hc, go_sem, Nat.reduceAdd, Nat.reduceMul, Nat.reduceSub, Nat.reduceEqDiff, Nat.reduceLT, Nat.reduceLeDiff, Int.reduceEq, Int.reduceLT, Int.reduceLE, reduceIte, aresults, aresult, hp0, List.append_eq, List.cons_append, List.nil_append, c_bEqual a.Bytes b.Bytes ha.2.1 hb.2.1] at hx; (try (rw [guardL_if] at hx; split at hx <;> rename_i hc)))); all_goals (subst hx; first | (refine ⟨_, rfl, fun ht => ?_, fun ht => ?_⟩ <;> (try simp only [Bool.not_eq_true', Bool.not_eq_false', Bool.and_eq_true, Bool.and_eq_false_iff, Bool.or_eq_true, Bool.or_eq_false_iff, decide_eq_true_eq, decide_eq_false_iff_not, beq_iff_eq, bne_iff_ne, Bool.not_true, Bool.not_false, Bool.true_eq_false, Bool.false_eq_true, ne_eq, Decidable.not_not, inB_t, inB_f] at ht)) | (refine ⟨_, rfl, ?_⟩; (try simp only [tupOf])))) | refine wSkip ?_ | (refine wExit ?_; simp only [thenQ, blockQ, reduceIte, Nat.reduceEqDiff]) | refine wSeq ?_ | refine wBlock ?_)
  all_goals (refine gives_boolv ?_; (try simp only [Bool.not_eq_true', Bool.not_eq_false', Bool.and_eq_true, Bool.and_eq_false_iff, Bool.or_eq_true, Bool.or_eq_false_iff, decide_eq_true_eq, decide_eq_false_iff_not, beq_iff_eq, bne_iff_ne, Bool.not_true, Bool.not_false, Bool.true_eq_false, Bool.false_eq_true, ne_eq, Decidable.not_not, inB_t, inB_f] at *); simp_all [eq_Key, beqB])
theorem c_isameKey (a b : KeyM) (ha : a.ok 1048576) (hb : b.ok 1048576) : ∀ H, call Try.prog cfg0 0 198 [.agg [.v (.int .i64 a.Id), bytesL a.Bytes], .agg [.v (.int .i64 b.Id), bytesL b.Bytes]] H = some (.v (.bool (decide (a = b))), H) :=
  call_fz Try.func198 rfl ok_isameKey rfl (by simp only [fz_cons, fz_nil, go_sem, and_self]) (p_isameKey a b ha hb)

theorem ok_EqualFuncKey : fnOk Try.prog cfg0 211 Try.f211 = true := by kernel_rfl
theorem p_EqualFuncKey (a b : List KeyM) (ha : a.length ≤ 1048576 ∧ ∀ x ∈ a, x.ok 1048576) (hb : b.length ≤ 1048576 ∧ ∀ x ∈ b, x.ok 1048576) (fn : Nat) (hfn : ∀ x ∈ a, ∀ y ∈ b, ∀ H, call Try.prog cfg0 0 fn [.agg [.v (.int .i64 x.Id), bytesL x.Bytes], .agg [.v (.int .i64 y.Id), bytesL y.Bytes]] H = some (.v (.bool (decide (x = y))), H)) : pure Try.prog cfg0 211 Try.f211 [.lst false (a.map encKey), .lst false (b.map encKey), .fn fn []] = some (.v (.bool (decide (a = b))), true) := by
  refine pure_wp (rs := [.tmp 6]) rfl rfl ?_
  have hla0 := ha.1
  repeat' (first | ((first | refine wSeqr (fun xx hx => ?_) | refine wIf (fun xx hx => ?_) | refine wReg (fun xx hx => ?_) | (refine wRet ?_; (try simp only [thenQ, blockQ]); refine ends_by (fun xx hx => ?_))); have hc := trivial; (repeat' (simp only [hc, go_sem, Nat.reduceAdd, Nat.reduceMul, Nat.reduceSub, Nat.reduceEqDiff, Nat.reduceLT, Nat.reduceLeDiff, Int.reduceEq, Int.reduceLT, Int.reduceLE, reduceIte, aresults, aresult, List.length_map] at hx; (try (rw [guardL_if] at hx; split at hx <;> rename_i hc)))); all_goals (subst hx; first | (refine ⟨_, rfl, fun ht => ?_, fun ht => ?_⟩ <;> (try simp only [Bool.not_eq_true', Bool.not_eq_false', Bool.and_eq_true, Bool.and_eq_false_iff, Bool.or_eq_true, Bool.or_eq_false_iff, decide_eq_true_eq, decide_eq_false_iff_not, beq_iff_eq, bne_iff_ne, Bool.not_true, Bool.not_false, Bool.true_eq_false, Bool.false_eq_true, ne_eq, Decidable.not_not, inB_t, inB_f] at ht)) | (refine ⟨_, rfl, ?_⟩; (try simp only [tupOf])))) | refine wSkip ?_ | (refine wExit ?_; simp only [thenQ, blockQ, reduceIte, Nat.reduceEqDiff]) | refine wSeq ?_ | refine wBlock ?_)
  · refine gives_boolv ?_
    rw [decide_eq_false]
    intro h; rw [h] at ht; exact ht rfl
  have hlen : a.length = b.length := by (try simp only [Bool.not_eq_true', Bool.not_eq_false', Bool.and_eq_true, Bool.and_eq_false_iff, Bool.or_eq_true, Bool.or_eq_false_iff, decide_eq_true_eq, decide_eq_false_iff_not, beq_iff_eq, bne_iff_ne, Bool.not_true, Bool.not_false, Bool.true_eq_false, Bool.false_eq_true, ne_eq, Decidable.not_not, inB_t, inB_f] at *); omega
  refine wLoop (fun k s => ∃ (j : Nat), j + k = a.length ∧ s.1 1 = .lst false (b.map encKey) ∧ s.1 2 = .fn fn [] ∧ s.1 15 = .lst false (a.map encKey) ∧ s.1 16 = .v (.int .i64 (a.length : Nat)) ∧ s.1 17 = .v (.int .i64 (j : Nat)) ∧ (a.take j = b.take j)) (fun k s hI => ?_) (a.length) _ ?_
  · obtain ⟨e, H⟩ := s
    obtain ⟨j, hj, h1, h2, h15, h16, h17, htk⟩ := hI
    simp only at h1 h2 h15 h16 h17 htk
    repeat' (first | ((first | refine wSeqr (fun xx hx => ?_) | refine wIf (fun xx hx => ?_) | refine wReg (fun xx hx => ?_) | (refine wRet ?_; (try simp only [thenQ, blockQ]); refine ends_by (fun xx hx => ?_))); have hc := trivial; (repeat' (simp only [hc, go_sem, Nat.reduceAdd, Nat.reduceMul, Nat.reduceSub, Nat.reduceEqDiff, Nat.reduceLT, Nat.reduceLeDiff, Int.reduceEq, Int.reduceLT, Int.reduceLE, reduceIte, aresults, aresult, h16, h17, List.length_map] at hx; (try (rw [guardL_if] at hx; split at hx <;> rename_i hc)))); all_goals (subst hx; first | (refine ⟨_, rfl, fun ht => ?_, fun ht => ?_⟩ <;> (try simp only [Bool.not_eq_true', Bool.not_eq_false', Bool.and_eq_true, Bool.and_eq_false_iff, Bool.or_eq_true, Bool.or_eq_false_iff, decide_eq_true_eq, decide_eq_false_iff_not, beq_iff_eq, bne_iff_ne, Bool.not_true, Bool.not_false, Bool.true_eq_false, Bool.false_eq_true, ne_eq, Decidable.not_not, inB_t, inB_f] at ht)) | (refine ⟨_, rfl, ?_⟩; (try simp only [tupOf])))) | refine wSkip ?_ | (refine wExit ?_; simp only [thenQ, blockQ, reduceIte, Nat.reduceEqDiff]) | refine wSeq ?_ | refine wBlock ?_)
    · have hla : j < a.length := by omega
      have hlb : j < b.length := by omega
      obtain ⟨x, gx, -, mx⟩ := at_drop hla
      obtain ⟨y, gy, -, my⟩ := at_drop hlb
      have gx' := map_at (f := encKey) gx
      have gy' := map_at (f := encKey) gy
      have hxy := hfn x mx y my
      repeat' (first | ((first | refine wSeqr (fun xx hx => ?_) | refine wIf (fun xx hx => ?_) | refine wReg (fun xx hx => ?_) | (refine wRet ?_; (try simp only [thenQ, blockQ]); refine ends_by (fun xx hx => ?_))); have hc := trivial; (repeat' (simp only [hc, go_sem, Nat.reduceAdd, Nat.reduceMul, Nat.reduceSub, Nat.reduceEqDiff, Nat.reduceLT, Nat.reduceLeDiff, Int.reduceEq, Int.reduceLT, Int.reduceLE, reduceIte, aresults, aresult, h1, h2, h15, h17, gx', gy', hp0, hxy, List.length_map, List.cons_append, List.nil_append, wrap_succ (show j < 9223372036854775807 by omega)] at hx; (try (rw [guardL_if] at hx; split at hx <;> rename_i hc)))); all_goals (subst hx; first | (refine ⟨_, rfl, fun ht => ?_, fun ht => ?_⟩ <;> (try simp only [Bool.not_eq_true', Bool.not_eq_false', Bool.and_eq_true, Bool.and_eq_false_iff, Bool.or_eq_true, Bool.or_eq_false_iff, decide_eq_true_eq, decide_eq_false_iff_not, beq_iff_eq, bne_iff_ne, Bool.not_true, Bool.not_false, Bool.true_eq_false, Bool.false_eq_true, ne_eq, Decidable.not_not, inB_t, inB_f] at ht)) | (refine ⟨_, rfl, ?_⟩; (try simp only [tupOf])))) | refine wSkip ?_ | (refine wExit ?_; simp only [thenQ, blockQ, reduceIte, Nat.reduceEqDiff]) | refine wSeq ?_ | refine wBlock ?_)
      · refine gives_boolv ?_
        have hne : ¬ x = y := by first | exact ht | (rw [eq_Key]; first | exact ht | omega)
        rw [decide_eq_false]
        intro h; rw [h] at gx; exact hne (Option.some.inj (gx.symm.trans gy))
      · refine ⟨_, Nat.sub_lt (by omega) Nat.one_pos, j + 1, by omega, by simp only [upd_eq, Nat.reduceEqDiff, if_false, if_true, h1, h2, h15, h16, h17], by simp only [upd_eq, Nat.reduceEqDiff, if_false, if_true, h1, h2, h15, h16, h17], by simp only [upd_eq, Nat.reduceEqDiff, if_false, if_true, h1, h2, h15, h16, h17], by simp only [upd_eq, Nat.reduceEqDiff, if_false, if_true, h1, h2, h15, h16, h17], by simp only [upd_eq, Nat.reduceEqDiff, if_false, if_true, h1, h2, h15, h16, h17], ?_⟩
        have hxe : x = y := by first | exact ht | (rw [eq_Key]; exact ht)
        rw [at_take gx, at_take gy, htk, hxe]
    · have hj' : j = a.length := by omega
      have hab : a = b := by
        rw [List.take_of_length_le (by omega), List.take_of_length_le (by omega)] at htk; exact htk
      refine gives_boolv ?_
      rw [decide_eq_true hab]
  · refine ⟨0, by omega, rfl, rfl, rfl, rfl, rfl, ?_⟩; simp
theorem c_EqualFuncKey (a b : List KeyM) (ha : a.length ≤ 1048576 ∧ ∀ x ∈ a, x.ok 1048576) (hb : b.length ≤ 1048576 ∧ ∀ x ∈ b, x.ok 1048576) (fn : Nat) (hfn : ∀ x ∈ a, ∀ y ∈ b, ∀ H, call Try.prog cfg0 0 fn [.agg [.v (.int .i64 x.Id), bytesL x.Bytes], .agg [.v (.int .i64 y.Id), bytesL y.Bytes]] H = some (.v (.bool (decide (x = y))), H)) : ∀ H, call Try.prog cfg0 0 211 [.lst false (a.map encKey), .lst false (b.map encKey), .fn fn []] H = some (.v (.bool (decide (a = b))), H) :=
  call_fz Try.func211 rfl ok_EqualFuncKey rfl (by simp only [fz_cons, fz_nil, go_sem, and_self]) (p_EqualFuncKey a b ha hb fn hfn)

theorem keysOk {r : RingM} (h : r.ok 1048576) : r.Keys.length ≤ 1048576 ∧ ∀ x ∈ r.Keys, x.ok 1048576 := h.2
theorem ok_sSameRings : fnOk Try.prog cfg0 161 Try.f161 = true := by kernel_rfl
theorem p_sSameRings (a b : RingM) (ha : a.ok 1048576) (hb : b.ok 1048576) : pure Try.prog cfg0 161 Try.f161 [.agg [.v (.int .i64 a.Primary), .lst false (a.Keys.map encKey)], .agg [.v (.int .i64 b.Primary), .lst false (b.Keys.map encKey)]] = some (.v (.bool (decide (a = b))), true) := by
  refine pure_wp (rs := [.tmp 4]) rfl rfl ?_
  repeat' (first | ((first | refine wSeqr (fun xx hx => ?_) | refine wIf (fun xx hx => ?_) | refine wReg (fun xx hx => ?_) | (refine wRet ?_; (try simp only [thenQ, blockQ]); refine ends_by (fun xx hx => ?_))); have hc := trivial; (repeat' (simp only [hc, go_sem, Nat.reduceAdd, Nat.reduceMul, Nat.reduceSub, Nat.reduceEqDiff, Nat.reduceLT, Nat.reduceLeDiff, Int.reduceEq, Int.reduceLT, Int.reduceLE, reduceIte, aresults, aresult, List.length_map] at hx; (try (rw [guardL_if] at hx; split at hx <;> rename_i hc)))); all_goals (subst hx; first | (refine ⟨_, rfl, fun ht => ?_, fun ht => ?_⟩ <;> (try simp only [Bool.not_eq_true', Bool.not_eq_false', Bool.and_eq_true, Bool.and_eq_false_iff, Bool.or_eq_true, Bool.or_eq_false_iff, decide_eq_true_eq, decide_eq_false_iff_not, beq_iff_eq, bne_iff_ne, Bool.not_true, Bool.not_false, Bool.true_eq_false, Bool.false_eq_true, ne_eq, Decidable.not_not, inB_t, inB_f] at ht)) | (refine ⟨_, rfl, ?_⟩; (try simp only [tupOf])))) | refine wSkip ?_ | (refine wExit ?_; simp only [thenQ, blockQ, reduceIte, Nat.reduceEqDiff]) | refine wSeq ?_ | refine wBlock ?_)
  any_goals (refine gives_boolv ?_; (try simp only [Bool.not_eq_true', Bool.not_eq_false', Bool.and_eq_true, Bool.and_eq_false_iff, Bool.or_eq_true, Bool.or_eq_false_iff, decide_eq_true_eq, decide_eq_false_iff_not, beq_iff_eq, bne_iff_ne, Bool.not_true, Bool.not_false, Bool.true_eq_false, Bool.false_eq_true, ne_eq, Decidable.not_not, inB_t, inB_f] at *); symm; rw [decide_eq_false]; rw [eq_Ring]; rintro ⟨h1, h2⟩; first | omega | (rw [h2] at ht; exact ht rfl))
  have hp1 : a.Primary = b.Primary := by (try simp only [Bool.not_eq_true', Bool.not_eq_false', Bool.and_eq_true, Bool.and_eq_false_iff, Bool.or_eq_true, Bool.or_eq_false_iff, decide_eq_true_eq, decide_eq_false_iff_not, beq_iff_eq, bne_iff_ne, Bool.not_true, Bool.not_false, Bool.true_eq_false, Bool.false_eq_true, ne_eq, Decidable.not_not, inB_t, inB_f] at *); assumption
  have hlen : a.Keys.length = b.Keys.length := by (try simp only [Bool.not_eq_true', Bool.not_eq_false', Bool.and_eq_true, Bool.and_eq_false_iff, Bool.or_eq_true, Bool.or_eq_false_iff, decide_eq_true_eq, decide_eq_false_iff_not, beq_iff_eq, bne_iff_ne, Bool.not_true, Bool.not_false, Bool.true_eq_false, Bool.false_eq_true, ne_eq, Decidable.not_not, inB_t, inB_f] at *); omega
  have hal := ha.2.1
  refine wLoop (fun k s => ∃ (j : Nat), j + k = a.Keys.length ∧ s.1 2 = .ptr 0 0 ∧ s.1 3 = .ptr 1 0 ∧ s.1 5 = .v (.int .i64 (j : Nat)) ∧ (a.Keys.take j = b.Keys.take j) ∧ (s.2.h 0 = some [.v (.int .i64 a.Primary), .lst false (a.Keys.map encKey)]) ∧ (s.2.h 1 = some [.v (.int .i64 b.Primary), .lst false (b.Keys.map encKey)])) (fun k s hI => ?_) (a.Keys.length) _ ?_
  · obtain ⟨e, H⟩ := s
    obtain ⟨j, hj, h2, h3, h5, htk, hb0, hb1⟩ := hI
    simp only at h2 h3 h5 htk hb0 hb1
    repeat' (first | ((first | refine wSeqr (fun xx hx => ?_) | refine wIf (fun xx hx => ?_) | refine wReg (fun xx hx => ?_) | (refine wRet ?_; (try simp only [thenQ, blockQ]); refine ends_by (fun xx hx => ?_))); have hc := trivial; (repeat' (simp only [hc, go_sem, Nat.reduceAdd, Nat.reduceMul, Nat.reduceSub, Nat.reduceEqDiff, Nat.reduceLT, Nat.reduceLeDiff, Int.reduceEq, Int.reduceLT, Int.reduceLE, reduceIte, aresults, aresult, h2, h3, h5, hb0, List.length_map] at hx; (try (rw [guardL_if] at hx; split at hx <;> rename_i hc)))); all_goals (subst hx; first | (refine ⟨_, rfl, fun ht => ?_, fun ht => ?_⟩ <;> (try simp only [Bool.not_eq_true', Bool.not_eq_false', Bool.and_eq_true, Bool.and_eq_false_iff, Bool.or_eq_true, Bool.or_eq_false_iff, decide_eq_true_eq, decide_eq_false_iff_not, beq_iff_eq, bne_iff_ne, Bool.not_true, Bool.not_false, Bool.true_eq_false, Bool.false_eq_true, ne_eq, Decidable.not_not, inB_t, inB_f] at ht)) | (refine ⟨_, rfl, ?_⟩; (try simp only [tupOf])))) | refine wSkip ?_ | (refine wExit ?_; simp only [thenQ, blockQ, reduceIte, Nat.reduceEqDiff]) | refine wSeq ?_ | refine wBlock ?_)
    · have hla : j < a.Keys.length := by omega
      have hlb : j < b.Keys.length := by omega
      obtain ⟨x, gx, -, mx⟩ := at_drop hla
      obtain ⟨y, gy, -, my⟩ := at_drop hlb
      have gx' := map_at (f := encKey) gx
      have gy' := map_at (f := encKey) gy
      repeat' (first | ((first | refine wSeqr (fun xx hx => ?_) | refine wIf (fun xx hx => ?_) | refine wReg (fun xx hx => ?_) | (refine wRet ?_; (try simp only [thenQ, blockQ]); refine ends_by (fun xx hx => ?_))); have hc := trivial; (repeat' (simp only [hc, go_sem, Nat.reduceAdd, Nat.reduceMul, Nat.reduceSub, Nat.reduceEqDiff, Nat.reduceLT, Nat.reduceLeDiff, Int.reduceEq, Int.reduceLT, Int.reduceLE, reduceIte, aresults, aresult, h2, h3, h5, hb0, hb1, gx', gy', hp0, c_sl4Same x y (ha.2.2 x mx) (hb.2.2 y my), wrap_succ (show j < 9223372036854775807 by omega)] at hx; (try (rw [guardL_if] at hx; split at hx <;> rename_i hc)))); all_goals (subst hx; first | (refine ⟨_, rfl, fun ht => ?_, fun ht => ?_⟩ <;> (try simp only [Bool.not_eq_true', Bool.not_eq_false', Bool.and_eq_true, Bool.and_eq_false_iff, Bool.or_eq_true, Bool.or_eq_false_iff, decide_eq_true_eq, decide_eq_false_iff_not, beq_iff_eq, bne_iff_ne, Bool.not_true, Bool.not_false, Bool.true_eq_false, Bool.false_eq_true, ne_eq, Decidable.not_not, inB_t, inB_f] at ht)) | (refine ⟨_, rfl, ?_⟩; (try simp only [tupOf])))) | refine wSkip ?_ | (refine wExit ?_; simp only [thenQ, blockQ, reduceIte, Nat.reduceEqDiff]) | refine wSeq ?_ | refine wBlock ?_)
      · refine gives_boolv ?_
        symm; rw [decide_eq_false]
        intro h; rw [h] at gx; exact ht (Option.some.inj (gx.symm.trans gy))
      · refine ⟨_, Nat.sub_lt (by omega) Nat.one_pos, j + 1, by omega, by simp only [upd_eq, Nat.reduceEqDiff, if_false, if_true, h2, h3, h5], by simp only [upd_eq, Nat.reduceEqDiff, if_false, if_true, h2, h3, h5], by simp only [upd_eq, Nat.reduceEqDiff, if_false, if_true, h2, h3, h5], ?_⟩
        exact ⟨by rw [at_take gx, at_take gy, htk, ht], hb0, hb1⟩
    · have hj' : j = a.Keys.length := by omega
      have hab : a.Keys = b.Keys := by
        rw [List.take_of_length_le (by omega), List.take_of_length_le (by omega)] at htk; exact htk
      refine gives_boolv ?_
      rw [decide_eq_true]; rw [eq_Ring]; exact ⟨hp1, hab⟩
  · refine ⟨0, by omega, rfl, rfl, rfl, ?_⟩; exact ⟨by simp, rfl, rfl⟩
theorem c_sSameRings (a b : RingM) (ha : a.ok 1048576) (hb : b.ok 1048576) : ∀ H, call Try.prog cfg0 0 161 [.agg [.v (.int .i64 a.Primary), .lst false (a.Keys.map encKey)], .agg [.v (.int .i64 b.Primary), .lst false (b.Keys.map encKey)]] H = some (.v (.bool (decide (a = b))), H) :=
  call_fz Try.func161 rfl ok_sSameRings rfl (by simp only [fz_cons, fz_nil, go_sem, and_self]) (p_sSameRings a b ha hb)

theorem ok_iSameRings : fnOk Try.prog cfg0 169 Try.f169 = true := by kernel_rfl
theorem p_iSameRings (a b : RingM) (ha : a.ok 1048576) (hb : b.ok 1048576) : pure Try.prog cfg0 169 Try.f169 [.agg [.v (.int .i64 a.Primary), .lst false (a.Keys.map encKey)], .agg [.v (.int .i64 b.Primary), .lst false (b.Keys.map encKey)]] = some (.v (.bool (decide (a = b))), true) := by
  refine pure_wp (rs := [.tmp 4]) rfl rfl ?_
  have hk := c_EqualFuncKey a.Keys b.Keys ha.2 hb.2 198 (fun x hx y hy => c_isameKey x y (ha.2.2 x hx) (hb.2.2 y hy))
  repeat' (first | ((first | refine wSeqr (fun xx hx => ?_) | refine wIf (fun xx hx => ?_) | refine wReg (fun xx hx => ?_) | (refine wRet ?_; (try simp only [thenQ, blockQ]); refine ends_by (fun xx hx => ?_))); have hc := trivial; (repeat' (simp only [hc, go_sem, Nat.reduceAdd, Nat.reduceMul, Nat.reduceSub, Nat.reduceEqDiff, Nat.reduceLT, Nat.reduceLeDiff, Int.reduceEq, Int.reduceLT, Int.reduceLE, reduceIte, aresults, aresult, hp0, hk] at hx; (try (rw [guardL_if] at hx; split at hx <;> rename_i hc)))); all_goals (subst hx; first | (refine ⟨_, rfl, fun ht => ?_, fun ht => ?_⟩ <;> (try simp only [Bool.not_eq_true', Bool.not_eq_false', Bool.and_eq_true, Bool.and_eq_false_iff, Bool.or_eq_true, Bool.or_eq_false_iff, decide_eq_true_eq, decide_eq_false_iff_not, beq_iff_eq, bne_iff_ne, Bool.not_true, Bool.not_false, Bool.true_eq_false, Bool.false_eq_true, ne_eq, Decidable.not_not, inB_t, inB_f] at ht)) | (refine ⟨_, rfl, ?_⟩; (try simp only [tupOf])))) | refine wSkip ?_ | (refine wExit ?_; simp only [thenQ, blockQ, reduceIte, Nat.reduceEqDiff]) | refine wSeq ?_ | refine wBlock ?_)
  all_goals (refine gives_boolv ?_; (try simp only [Bool.not_eq_true', Bool.not_eq_false', Bool.and_eq_true, Bool.and_eq_false_iff, Bool.or_eq_true, Bool.or_eq_false_iff, decide_eq_true_eq, decide_eq_false_iff_not, beq_iff_eq, bne_iff_ne, Bool.not_true, Bool.not_false, Bool.true_eq_false, Bool.false_eq_true, ne_eq, Decidable.not_not, inB_t, inB_f] at *); simp_all [eq_Ring])
theorem c_iSameRings (a b : RingM) (ha : a.ok 1048576) (hb : b.ok 1048576) : ∀ H, call Try.prog cfg0 0 169 [.agg [.v (.int .i64 a.Primary), .lst false (a.Keys.map encKey)], .agg [.v (.int .i64 b.Primary), .lst false (b.Keys.map encKey)]] H = some (.v (.bool (decide (a = b))), H) :=
  call_fz Try.func169 rfl ok_iSameRings rfl (by simp only [fz_cons, fz_nil, go_sem, and_self]) (p_iSameRings a b ha hb)

set_option maxHeartbeats 4000000
theorem ok_sl11SameNode : fnOk Try.prog cfg0 98 Try.f98 = true := by kernel_rfl
theorem p_sl11SameNode (a b : NodeStateM) (ha : a.ok 1048576) (hb : b.ok 1048576) : pure Try.prog cfg0 98 Try.f98 [.fp [.v (.int .i64 a.Own.Node), .v (.int .i64 a.Own.Inc), .v (.int .i64 a.Own.Status), .v (.int .i64 a.Own.Meta), .lst false (a.View.map encClaim), .v (.int .i64 a.Ring.Primary), .lst false (a.Ring.Keys.map encKey), .v (.int .i64 a.Counter), .v (.int .i64 a.Seq), .v (.int .i64 a.Last), .lst false (a.Waits.map encWait), .lst false (a.Windows.map encWindow), .v (.int .i64 a.Drops), .v (.bool a.Stopped)] 0, .fp [.v (.int .i64 b.Own.Node), .v (.int .i64 b.Own.Inc), .v (.int .i64 b.Own.Status), .v (.int .i64 b.Own.Meta), .lst false (b.View.map encClaim), .v (.int .i64 b.Ring.Primary), .lst false (b.Ring.Keys.map encKey), .v (.int .i64 b.Counter), .v (.int .i64 b.Seq), .v (.int .i64 b.Last), .lst false (b.Waits.map encWait), .lst false (b.Windows.map encWindow), .v (.int .i64 b.Drops), .v (.bool b.Stopped)] 0] = some (.v (.bool (decide (a = b))), true) := by
  refine pure_wp (rs := [.tmp 4]) rfl rfl ?_
  repeat' (first | ((first | refine wSeqr (fun xx hx => ?_) | refine wIf (fun xx hx => ?_) | refine wReg (fun xx hx => ?_) | (refine wRet ?_; (try simp only [thenQ, blockQ]); refine ends_by (fun xx hx => ?_))); have hc := trivial; (repeat' (simp only [hc, go_sem, Nat.reduceAdd, Nat.reduceMul, Nat.reduceSub, Nat.reduceEqDiff, Nat.reduceLT, Nat.reduceLeDiff, Int.reduceEq, Int.reduceLT, Int.reduceLE, reduceIte, aresults, aresult, hp0, List.append_eq, List.cons_append, List.nil_append, c_sSameViews a.View b.View ha.2.1 hb.2.1, c_sSameRings a.Ring b.Ring ha.2.2.1 hb.2.2.1, c_sSameWaits a.Waits b.Waits ha.2.2.2.2.2.2.1 hb.2.2.2.2.2.2.1, c_sl11SameWindows a.Windows b.Windows ha.2.2.2.2.2.2.2.1 hb.2.2.2.2.2.2.2.1] at hx; (try (rw [guardL_if] at hx; split at hx <;> rename_i hc)))); all_goals (subst hx; first | (refine ⟨_, rfl, fun ht => ?_, fun ht => ?_⟩ <;> (try simp only [Bool.not_eq_true', Bool.not_eq_false', Bool.and_eq_true, Bool.and_eq_false_iff, Bool.or_eq_true, Bool.or_eq_false_iff, decide_eq_true_eq, decide_eq_false_iff_not, beq_iff_eq, bne_iff_ne, Bool.not_true, Bool.not_false, Bool.true_eq_false, Bool.false_eq_true, ne_eq, Decidable.not_not, inB_t, inB_f] at ht)) | (refine ⟨_, rfl, ?_⟩; (try simp only [tupOf])))) | refine wSkip ?_ | (refine wExit ?_; simp only [thenQ, blockQ, reduceIte, Nat.reduceEqDiff]) | refine wSeq ?_ | refine wBlock ?_)
  all_goals (refine gives_boolv ?_; (try simp only [Bool.not_eq_true', Bool.not_eq_false', Bool.and_eq_true, Bool.and_eq_false_iff, Bool.or_eq_true, Bool.or_eq_false_iff, decide_eq_true_eq, decide_eq_false_iff_not, beq_iff_eq, bne_iff_ne, Bool.not_true, Bool.not_false, Bool.true_eq_false, Bool.false_eq_true, ne_eq, Decidable.not_not, inB_t, inB_f] at *); simp_all [eq_NodeState, beqB])
theorem c_sl11SameNode (a b : NodeStateM) (ha : a.ok 1048576) (hb : b.ok 1048576) : ∀ H, call Try.prog cfg0 0 98 [.fp [.v (.int .i64 a.Own.Node), .v (.int .i64 a.Own.Inc), .v (.int .i64 a.Own.Status), .v (.int .i64 a.Own.Meta), .lst false (a.View.map encClaim), .v (.int .i64 a.Ring.Primary), .lst false (a.Ring.Keys.map encKey), .v (.int .i64 a.Counter), .v (.int .i64 a.Seq), .v (.int .i64 a.Last), .lst false (a.Waits.map encWait), .lst false (a.Windows.map encWindow), .v (.int .i64 a.Drops), .v (.bool a.Stopped)] 0, .fp [.v (.int .i64 b.Own.Node), .v (.int .i64 b.Own.Inc), .v (.int .i64 b.Own.Status), .v (.int .i64 b.Own.Meta), .lst false (b.View.map encClaim), .v (.int .i64 b.Ring.Primary), .lst false (b.Ring.Keys.map encKey), .v (.int .i64 b.Counter), .v (.int .i64 b.Seq), .v (.int .i64 b.Last), .lst false (b.Waits.map encWait), .lst false (b.Windows.map encWindow), .v (.int .i64 b.Drops), .v (.bool b.Stopped)] 0] H = some (.v (.bool (decide (a = b))), H) :=
  call_fz Try.func98 rfl ok_sl11SameNode rfl (by simp only [fz_cons, fz_nil, go_sem, and_self]) (p_sl11SameNode a b ha hb)
open Classical in
theorem cp_sl11SameNode (a b : NodeStateM) (ha : a.ok 1048576) (hb : b.ok 1048576) : ∀ H ba bb, call Try.prog cfg0 0 98 [.ptr ba 0, .ptr bb 0] H = if H.h ba = some [.v (.int .i64 a.Own.Node), .v (.int .i64 a.Own.Inc), .v (.int .i64 a.Own.Status), .v (.int .i64 a.Own.Meta), .lst false (a.View.map encClaim), .v (.int .i64 a.Ring.Primary), .lst false (a.Ring.Keys.map encKey), .v (.int .i64 a.Counter), .v (.int .i64 a.Seq), .v (.int .i64 a.Last), .lst false (a.Waits.map encWait), .lst false (a.Windows.map encWindow), .v (.int .i64 a.Drops), .v (.bool a.Stopped)] ∧ H.h bb = some [.v (.int .i64 b.Own.Node), .v (.int .i64 b.Own.Inc), .v (.int .i64 b.Own.Status), .v (.int .i64 b.Own.Meta), .lst false (b.View.map encClaim), .v (.int .i64 b.Ring.Primary), .lst false (b.Ring.Keys.map encKey), .v (.int .i64 b.Counter), .v (.int .i64 b.Seq), .v (.int .i64 b.Last), .lst false (b.Waits.map encWait), .lst false (b.Windows.map encWindow), .v (.int .i64 b.Drops), .v (.bool b.Stopped)] then some (.v (.bool (decide (a = b))), H) else call' Try.prog cfg0 0 98 [.ptr ba 0, .ptr bb 0] H :=
  fun H ba bb => by
    exact call_if Try.func98 rfl ok_sl11SameNode rfl (fun hC => mapM_c (deep_ptr hC.1 (fzE_NodeState 8 a)) (mapM_c (deep_ptr hC.2 (fzE_NodeState 8 b)) (mapM_n))) (p_sl11SameNode a b ha hb)

set_option maxHeartbeats 4000000
theorem ok_isameNode : fnOk Try.prog cfg0 101 Try.f101 = true := by kernel_rfl
theorem p_isameNode (a b : NodeStateM) (ha : a.ok 1048576) (hb : b.ok 1048576) : pure Try.prog cfg0 101 Try.f101 [.agg [.v (.int .i64 a.Own.Node), .v (.int .i64 a.Own.Inc), .v (.int .i64 a.Own.Status), .v (.int .i64 a.Own.Meta), .lst false (a.View.map encClaim), .v (.int .i64 a.Ring.Primary), .lst false (a.Ring.Keys.map encKey), .v (.int .i64 a.Counter), .v (.int .i64 a.Seq), .v (.int .i64 a.Last), .lst false (a.Waits.map encWait), .lst false (a.Windows.map encWindow), .v (.int .i64 a.Drops), .v (.bool a.Stopped)], .agg [.v (.int .i64 b.Own.Node), .v (.int .i64 b.Own.Inc), .v (.int .i64 b.Own.Status), .v (.int .i64 b.Own.Meta), .lst false (b.View.map encClaim), .v (.int .i64 b.Ring.Primary), .lst false (b.Ring.Keys.map encKey), .v (.int .i64 b.Counter), .v (.int .i64 b.Seq), .v (.int .i64 b.Last), .lst false (b.Waits.map encWait), .lst false (b.Windows.map encWindow), .v (.int .i64 b.Drops), .v (.bool b.Stopped)]] = some (.v (.bool (decide (a = b))), true) := by
  refine pure_wp (rs := [.tmp 4]) rfl rfl ?_
  repeat' (first | ((first | refine wSeqr (fun xx hx => ?_) | refine wIf (fun xx hx => ?_) | refine wReg (fun xx hx => ?_) | (refine wRet ?_; (try simp only [thenQ, blockQ]); refine ends_by (fun xx hx => ?_))); have hc := trivial; (repeat' (simp only [hc, go_sem, Nat.reduceAdd, Nat.reduceMul, Nat.reduceSub, Nat.reduceEqDiff, Nat.reduceLT, Nat.reduceLeDiff, Int.reduceEq, Int.reduceLT, Int.reduceLE, reduceIte, aresults, aresult, hp0, List.append_eq, List.cons_append, List.nil_append, c_iSameViews a.View b.View ha.2.1 hb.2.1, c_iSameRings a.Ring b.Ring ha.2.2.1 hb.2.2.1, c_iSameWaits a.Waits b.Waits ha.2.2.2.2.2.2.1 hb.2.2.2.2.2.2.1, c_EqualFuncWindow a.Windows b.Windows ha.2.2.2.2.2.2.2.1 hb.2.2.2.2.2.2.2.1 172 (fun x hx y hy => c_iSameWindows x y (ha.2.2.2.2.2.2.2.1.2 x hx) (hb.2.2.2.2.2.2.2.1.2 y hy))] at hx; (try (rw [guardL_if] at hx; split at hx <;> rename_i hc)))); all_goals (subst hx; first | (refine ⟨_, rfl, fun ht => ?_, fun ht => ?_⟩ <;> (try simp only [Bool.not_eq_true', Bool.not_eq_false', Bool.and_eq_true, Bool.and_eq_false_iff, Bool.or_eq_true, Bool.or_eq_false_iff, decide_eq_true_eq, decide_eq_false_iff_not, beq_iff_eq, bne_iff_ne, Bool.not_true, Bool.not_false, Bool.true_eq_false, Bool.false_eq_true, ne_eq, Decidable.not_not, inB_t, inB_f] at ht)) | (refine ⟨_, rfl, ?_⟩; (try simp only [tupOf])))) | refine wSkip ?_ | (refine wExit ?_; simp only [thenQ, blockQ, reduceIte, Nat.reduceEqDiff]) | refine wSeq ?_ | refine wBlock ?_)
  all_goals (refine gives_boolv ?_; (try simp only [Bool.not_eq_true', Bool.not_eq_false', Bool.and_eq_true, Bool.and_eq_false_iff, Bool.or_eq_true, Bool.or_eq_false_iff, decide_eq_true_eq, decide_eq_false_iff_not, beq_iff_eq, bne_iff_ne, Bool.not_true, Bool.not_false, Bool.true_eq_false, Bool.false_eq_true, ne_eq, Decidable.not_not, inB_t, inB_f] at *); simp_all [eq_NodeState, beqB])
theorem c_isameNode (a b : NodeStateM) (ha : a.ok 1048576) (hb : b.ok 1048576) : ∀ H, call Try.prog cfg0 0 101 [.agg [.v (.int .i64 a.Own.Node), .v (.int .i64 a.Own.Inc), .v (.int .i64 a.Own.Status), .v (.int .i64 a.Own.Meta), .lst false (a.View.map encClaim), .v (.int .i64 a.Ring.Primary), .lst false (a.Ring.Keys.map encKey), .v (.int .i64 a.Counter), .v (.int .i64 a.Seq), .v (.int .i64 a.Last), .lst false (a.Waits.map encWait), .lst false (a.Windows.map encWindow), .v (.int .i64 a.Drops), .v (.bool a.Stopped)], .agg [.v (.int .i64 b.Own.Node), .v (.int .i64 b.Own.Inc), .v (.int .i64 b.Own.Status), .v (.int .i64 b.Own.Meta), .lst false (b.View.map encClaim), .v (.int .i64 b.Ring.Primary), .lst false (b.Ring.Keys.map encKey), .v (.int .i64 b.Counter), .v (.int .i64 b.Seq), .v (.int .i64 b.Last), .lst false (b.Waits.map encWait), .lst false (b.Windows.map encWindow), .v (.int .i64 b.Drops), .v (.bool b.Stopped)]] H = some (.v (.bool (decide (a = b))), H) :=
  call_fz Try.func101 rfl ok_isameNode rfl (by simp only [fz_cons, fz_nil, go_sem, and_self]) (p_isameNode a b ha hb)

theorem ok_sSameNodes : fnOk Try.prog cfg0 33 Try.f33 = true := by kernel_rfl
theorem p_sSameNodes (a b : List NodeStateM) (ha : a.length ≤ 1048576 ∧ ∀ x ∈ a, x.ok 1048576) (hb : b.length ≤ 1048576 ∧ ∀ x ∈ b, x.ok 1048576) : pure Try.prog cfg0 33 Try.f33 [.lst false (a.map encNodeState), .lst false (b.map encNodeState)] = some (.v (.bool (decide (a = b))), true) := by
  refine pure_wp (rs := [.tmp 4]) rfl rfl ?_
  have hla0 := ha.1
  repeat' (first | ((first | refine wSeqr (fun xx hx => ?_) | refine wIf (fun xx hx => ?_) | refine wReg (fun xx hx => ?_) | (refine wRet ?_; (try simp only [thenQ, blockQ]); refine ends_by (fun xx hx => ?_))); have hc := trivial; (repeat' (simp only [hc, go_sem, Nat.reduceAdd, Nat.reduceMul, Nat.reduceSub, Nat.reduceEqDiff, Nat.reduceLT, Nat.reduceLeDiff, Int.reduceEq, Int.reduceLT, Int.reduceLE, reduceIte, aresults, aresult, List.length_map] at hx; (try (rw [guardL_if] at hx; split at hx <;> rename_i hc)))); all_goals (subst hx; first | (refine ⟨_, rfl, fun ht => ?_, fun ht => ?_⟩ <;> (try simp only [Bool.not_eq_true', Bool.not_eq_false', Bool.and_eq_true, Bool.and_eq_false_iff, Bool.or_eq_true, Bool.or_eq_false_iff, decide_eq_true_eq, decide_eq_false_iff_not, beq_iff_eq, bne_iff_ne, Bool.not_true, Bool.not_false, Bool.true_eq_false, Bool.false_eq_true, ne_eq, Decidable.not_not, inB_t, inB_f] at ht)) | (refine ⟨_, rfl, ?_⟩; (try simp only [tupOf])))) | refine wSkip ?_ | (refine wExit ?_; simp only [thenQ, blockQ, reduceIte, Nat.reduceEqDiff]) | refine wSeq ?_ | refine wBlock ?_)
  · refine gives_boolv ?_
    rw [decide_eq_false]
    intro h; rw [h] at ht; exact ht rfl
  have hlen : a.length = b.length := by (try simp only [Bool.not_eq_true', Bool.not_eq_false', Bool.and_eq_true, Bool.and_eq_false_iff, Bool.or_eq_true, Bool.or_eq_false_iff, decide_eq_true_eq, decide_eq_false_iff_not, beq_iff_eq, bne_iff_ne, Bool.not_true, Bool.not_false, Bool.true_eq_false, Bool.false_eq_true, ne_eq, Decidable.not_not, inB_t, inB_f] at *); omega
  refine wLoop (fun k s => ∃ (j : Nat), j + k = a.length ∧ s.1 0 = .lst false (a.map encNodeState) ∧ s.1 1 = .lst false (b.map encNodeState) ∧ s.1 5 = .v (.int .i64 (j : Nat)) ∧ (a.take j = b.take j)) (fun k s hI => ?_) (a.length) _ ?_
  · obtain ⟨e, H⟩ := s
    obtain ⟨j, hj, h0, h1, h5, htk⟩ := hI
    simp only at h0 h1 h5 htk
    repeat' (first | ((first | refine wSeqr (fun xx hx => ?_) | refine wIf (fun xx hx => ?_) | refine wReg (fun xx hx => ?_) | (refine wRet ?_; (try simp only [thenQ, blockQ]); refine ends_by (fun xx hx => ?_))); have hc := trivial; (repeat' (simp only [hc, go_sem, Nat.reduceAdd, Nat.reduceMul, Nat.reduceSub, Nat.reduceEqDiff, Nat.reduceLT, Nat.reduceLeDiff, Int.reduceEq, Int.reduceLT, Int.reduceLE, reduceIte, aresults, aresult, h0, h5, List.length_map] at hx; (try (rw [guardL_if] at hx; split at hx <;> rename_i hc)))); all_goals (subst hx; first | (refine ⟨_, rfl, fun ht => ?_, fun ht => ?_⟩ <;> (try simp only [Bool.not_eq_true', Bool.not_eq_false', Bool.and_eq_true, Bool.and_eq_false_iff, Bool.or_eq_true, Bool.or_eq_false_iff, decide_eq_true_eq, decide_eq_false_iff_not, beq_iff_eq, bne_iff_ne, Bool.not_true, Bool.not_false, Bool.true_eq_false, Bool.false_eq_true, ne_eq, Decidable.not_not, inB_t, inB_f] at ht)) | (refine ⟨_, rfl, ?_⟩; (try simp only [tupOf])))) | refine wSkip ?_ | (refine wExit ?_; simp only [thenQ, blockQ, reduceIte, Nat.reduceEqDiff]) | refine wSeq ?_ | refine wBlock ?_)
    · have hla : j < a.length := by omega
      have hlb : j < b.length := by omega
      obtain ⟨x, gx, -, mx⟩ := at_drop hla
      obtain ⟨y, gy, -, my⟩ := at_drop hlb
      have gx' := map_at (f := encNodeState) gx
      have gy' := map_at (f := encNodeState) gy
      have hxy := c_sl11SameNode x y (ha.2 x mx) (hb.2 y my)
      repeat' (first | ((first | refine wSeqr (fun xx hx => ?_) | refine wIf (fun xx hx => ?_) | refine wReg (fun xx hx => ?_) | (refine wRet ?_; (try simp only [thenQ, blockQ]); refine ends_by (fun xx hx => ?_))); have hc := trivial; (repeat' (simp only [hc, go_sem, Nat.reduceAdd, Nat.reduceMul, Nat.reduceSub, Nat.reduceEqDiff, Nat.reduceLT, Nat.reduceLeDiff, Int.reduceEq, Int.reduceLT, Int.reduceLE, reduceIte, aresults, aresult, h0, h1, h5, gx', gy', hp0, hxy, List.length_map, List.cons_append, List.nil_append, wrap_succ (show j < 9223372036854775807 by omega)] at hx; (try (rw [guardL_if] at hx; split at hx <;> rename_i hc)))); all_goals (subst hx; first | (refine ⟨_, rfl, fun ht => ?_, fun ht => ?_⟩ <;> (try simp only [Bool.not_eq_true', Bool.not_eq_false', Bool.and_eq_true, Bool.and_eq_false_iff, Bool.or_eq_true, Bool.or_eq_false_iff, decide_eq_true_eq, decide_eq_false_iff_not, beq_iff_eq, bne_iff_ne, Bool.not_true, Bool.not_false, Bool.true_eq_false, Bool.false_eq_true, ne_eq, Decidable.not_not, inB_t, inB_f] at ht)) | (refine ⟨_, rfl, ?_⟩; (try simp only [tupOf])))) | refine wSkip ?_ | (refine wExit ?_; simp only [thenQ, blockQ, reduceIte, Nat.reduceEqDiff]) | refine wSeq ?_ | refine wBlock ?_)
      · refine gives_boolv ?_
        have hne : ¬ x = y := by first | exact ht | (rw [eq_NodeState]; first | exact ht | omega)
        rw [decide_eq_false]
        intro h; rw [h] at gx; exact hne (Option.some.inj (gx.symm.trans gy))
      · refine ⟨_, Nat.sub_lt (by omega) Nat.one_pos, j + 1, by omega, by simp only [upd_eq, Nat.reduceEqDiff, if_false, if_true, h0, h1, h5], by simp only [upd_eq, Nat.reduceEqDiff, if_false, if_true, h0, h1, h5], by simp only [upd_eq, Nat.reduceEqDiff, if_false, if_true, h0, h1, h5], ?_⟩
        have hxe : x = y := by first | exact ht | (rw [eq_NodeState]; exact ht)
        rw [at_take gx, at_take gy, htk, hxe]
    · have hj' : j = a.length := by omega
      have hab : a = b := by
        rw [List.take_of_length_le (by omega), List.take_of_length_le (by omega)] at htk; exact htk
      refine gives_boolv ?_
      rw [decide_eq_true hab]
  · refine ⟨0, by omega, rfl, rfl, rfl, ?_⟩; simp
theorem c_sSameNodes (a b : List NodeStateM) (ha : a.length ≤ 1048576 ∧ ∀ x ∈ a, x.ok 1048576) (hb : b.length ≤ 1048576 ∧ ∀ x ∈ b, x.ok 1048576) : ∀ H, call Try.prog cfg0 0 33 [.lst false (a.map encNodeState), .lst false (b.map encNodeState)] H = some (.v (.bool (decide (a = b))), H) :=
  call_fz Try.func33 rfl ok_sSameNodes rfl (by simp only [fz_cons, fz_nil, go_sem, and_self]) (p_sSameNodes a b ha hb)

theorem ok_EqualFuncNodeState : fnOk Try.prog cfg0 100 Try.f100 = true := by kernel_rfl
theorem p_EqualFuncNodeState (a b : List NodeStateM) (ha : a.length ≤ 1048576 ∧ ∀ x ∈ a, x.ok 1048576) (hb : b.length ≤ 1048576 ∧ ∀ x ∈ b, x.ok 1048576) (fn : Nat) (hfn : ∀ x ∈ a, ∀ y ∈ b, ∀ H, call Try.prog cfg0 0 fn [.agg [.v (.int .i64 x.Own.Node), .v (.int .i64 x.Own.Inc), .v (.int .i64 x.Own.Status), .v (.int .i64 x.Own.Meta), .lst false (x.View.map encClaim), .v (.int .i64 x.Ring.Primary), .lst false (x.Ring.Keys.map encKey), .v (.int .i64 x.Counter), .v (.int .i64 x.Seq), .v (.int .i64 x.Last), .lst false (x.Waits.map encWait), .lst false (x.Windows.map encWindow), .v (.int .i64 x.Drops), .v (.bool x.Stopped)], .agg [.v (.int .i64 y.Own.Node), .v (.int .i64 y.Own.Inc), .v (.int .i64 y.Own.Status), .v (.int .i64 y.Own.Meta), .lst false (y.View.map encClaim), .v (.int .i64 y.Ring.Primary), .lst false (y.Ring.Keys.map encKey), .v (.int .i64 y.Counter), .v (.int .i64 y.Seq), .v (.int .i64 y.Last), .lst false (y.Waits.map encWait), .lst false (y.Windows.map encWindow), .v (.int .i64 y.Drops), .v (.bool y.Stopped)]] H = some (.v (.bool (decide (x = y))), H)) : pure Try.prog cfg0 100 Try.f100 [.lst false (a.map encNodeState), .lst false (b.map encNodeState), .fn fn []] = some (.v (.bool (decide (a = b))), true) := by
  refine pure_wp (rs := [.tmp 6]) rfl rfl ?_
  have hla0 := ha.1
  repeat' (first | ((first | refine wSeqr (fun xx hx => ?_) | refine wIf (fun xx hx => ?_) | refine wReg (fun xx hx => ?_) | (refine wRet ?_; (try simp only [thenQ, blockQ]); refine ends_by (fun xx hx => ?_))); have hc := trivial; (repeat' (simp only [hc, go_sem, Nat.reduceAdd, Nat.reduceMul, Nat.reduceSub, Nat.reduceEqDiff, Nat.reduceLT, Nat.reduceLeDiff, Int.reduceEq, Int.reduceLT, Int.reduceLE, reduceIte, aresults, aresult, List.length_map] at hx; (try (rw [guardL_if] at hx; split at hx <;> rename_i hc)))); all_goals (subst hx; first | (refine ⟨_, rfl, fun ht => ?_, fun ht => ?_⟩ <;> (try simp only [Bool.not_eq_true', Bool.not_eq_false', Bool.and_eq_true, Bool.and_eq_false_iff, Bool.or_eq_true, Bool.or_eq_false_iff, decide_eq_true_eq, decide_eq_false_iff_not, beq_iff_eq, bne_iff_ne, Bool.not_true, Bool.not_false, Bool.true_eq_false, Bool.false_eq_true, ne_eq, Decidable.not_not, inB_t, inB_f] at ht)) | (refine ⟨_, rfl, ?_⟩; (try simp only [tupOf])))) | refine wSkip ?_ | (refine wExit ?_; simp only [thenQ, blockQ, reduceIte, Nat.reduceEqDiff]) | refine wSeq ?_ | refine wBlock ?_)
  · refine gives_boolv ?_
    rw [decide_eq_false]
    intro h; rw [h] at ht; exact ht rfl
  have hlen : a.length = b.length := by (try simp only [Bool.not_eq_true', Bool.not_eq_false', Bool.and_eq_true, Bool.and_eq_false_iff, Bool.or_eq_true, Bool.or_eq_false_iff, decide_eq_true_eq, decide_eq_false_iff_not, beq_iff_eq, bne_iff_ne, Bool.not_true, Bool.not_false, Bool.true_eq_false, Bool.false_eq_true, ne_eq, Decidable.not_not, inB_t, inB_f] at *); omega
  refine wLoop (fun k s => ∃ (j : Nat), j + k = a.length ∧ s.1 1 = .lst false (b.map encNodeState) ∧ s.1 2 = .fn fn [] ∧ s.1 15 = .lst false (a.map encNodeState) ∧ s.1 16 = .v (.int .i64 (a.length : Nat)) ∧ s.1 17 = .v (.int .i64 (j : Nat)) ∧ (a.take j = b.take j)) (fun k s hI => ?_) (a.length) _ ?_
  · obtain ⟨e, H⟩ := s
    obtain ⟨j, hj, h1, h2, h15, h16, h17, htk⟩ := hI
    simp only at h1 h2 h15 h16 h17 htk
    repeat' (first | ((first | refine wSeqr (fun xx hx => ?_) | refine wIf (fun xx hx => ?_) | refine wReg (fun xx hx => ?_) | (refine wRet ?_; (try simp only [thenQ, blockQ]); refine ends_by (fun xx hx => ?_))); have hc := trivial; (repeat' (simp only [hc, go_sem, Nat.reduceAdd, Nat.reduceMul, Nat.reduceSub, Nat.reduceEqDiff, Nat.reduceLT, Nat.reduceLeDiff, Int.reduceEq, Int.reduceLT, Int.reduceLE, reduceIte, aresults, aresult, h16, h17, List.length_map] at hx; (try (rw [guardL_if] at hx; split at hx <;> rename_i hc)))); all_goals (subst hx; first | (refine ⟨_, rfl, fun ht => ?_, fun ht => ?_⟩ <;> (try simp only [Bool.not_eq_true', Bool.not_eq_false', Bool.and_eq_true, Bool.and_eq_false_iff, Bool.or_eq_true, Bool.or_eq_false_iff, decide_eq_true_eq, decide_eq_false_iff_not, beq_iff_eq, bne_iff_ne, Bool.not_true, Bool.not_false, Bool.true_eq_false, Bool.false_eq_true, ne_eq, Decidable.not_not, inB_t, inB_f] at ht)) | (refine ⟨_, rfl, ?_⟩; (try simp only [tupOf])))) | refine wSkip ?_ | (refine wExit ?_; simp only [thenQ, blockQ, reduceIte, Nat.reduceEqDiff]) | refine wSeq ?_ | refine wBlock ?_)
    · have hla : j < a.length := by omega
      have hlb : j < b.length := by omega
      obtain ⟨x, gx, -, mx⟩ := at_drop hla
      obtain ⟨y, gy, -, my⟩ := at_drop hlb
      have gx' := map_at (f := encNodeState) gx
      have gy' := map_at (f := encNodeState) gy
      have hxy := hfn x mx y my
      repeat' (first | ((first | refine wSeqr (fun xx hx => ?_) | refine wIf (fun xx hx => ?_) | refine wReg (fun xx hx => ?_) | (refine wRet ?_; (try simp only [thenQ, blockQ]); refine ends_by (fun xx hx => ?_))); have hc := trivial; (repeat' (simp only [hc, go_sem, Nat.reduceAdd, Nat.reduceMul, Nat.reduceSub, Nat.reduceEqDiff, Nat.reduceLT, Nat.reduceLeDiff, Int.reduceEq, Int.reduceLT, Int.reduceLE, reduceIte, aresults, aresult, h1, h2, h15, h17, gx', gy', hp0, hxy, List.length_map, List.cons_append, List.nil_append, wrap_succ (show j < 9223372036854775807 by omega)] at hx; (try (rw [guardL_if] at hx; split at hx <;> rename_i hc)))); all_goals (subst hx; first | (refine ⟨_, rfl, fun ht => ?_, fun ht => ?_⟩ <;> (try simp only [Bool.not_eq_true', Bool.not_eq_false', Bool.and_eq_true, Bool.and_eq_false_iff, Bool.or_eq_true, Bool.or_eq_false_iff, decide_eq_true_eq, decide_eq_false_iff_not, beq_iff_eq, bne_iff_ne, Bool.not_true, Bool.not_false, Bool.true_eq_false, Bool.false_eq_true, ne_eq, Decidable.not_not, inB_t, inB_f] at ht)) | (refine ⟨_, rfl, ?_⟩; (try simp only [tupOf])))) | refine wSkip ?_ | (refine wExit ?_; simp only [thenQ, blockQ, reduceIte, Nat.reduceEqDiff]) | refine wSeq ?_ | refine wBlock ?_)
      · refine gives_boolv ?_
        have hne : ¬ x = y := by first | exact ht | (rw [eq_NodeState]; first | exact ht | omega)
        rw [decide_eq_false]
        intro h; rw [h] at gx; exact hne (Option.some.inj (gx.symm.trans gy))
      · refine ⟨_, Nat.sub_lt (by omega) Nat.one_pos, j + 1, by omega, by simp only [upd_eq, Nat.reduceEqDiff, if_false, if_true, h1, h2, h15, h16, h17], by simp only [upd_eq, Nat.reduceEqDiff, if_false, if_true, h1, h2, h15, h16, h17], by simp only [upd_eq, Nat.reduceEqDiff, if_false, if_true, h1, h2, h15, h16, h17], by simp only [upd_eq, Nat.reduceEqDiff, if_false, if_true, h1, h2, h15, h16, h17], by simp only [upd_eq, Nat.reduceEqDiff, if_false, if_true, h1, h2, h15, h16, h17], ?_⟩
        have hxe : x = y := by first | exact ht | (rw [eq_NodeState]; exact ht)
        rw [at_take gx, at_take gy, htk, hxe]
    · have hj' : j = a.length := by omega
      have hab : a = b := by
        rw [List.take_of_length_le (by omega), List.take_of_length_le (by omega)] at htk; exact htk
      refine gives_boolv ?_
      rw [decide_eq_true hab]
  · refine ⟨0, by omega, rfl, rfl, rfl, rfl, rfl, ?_⟩; simp
theorem c_EqualFuncNodeState (a b : List NodeStateM) (ha : a.length ≤ 1048576 ∧ ∀ x ∈ a, x.ok 1048576) (hb : b.length ≤ 1048576 ∧ ∀ x ∈ b, x.ok 1048576) (fn : Nat) (hfn : ∀ x ∈ a, ∀ y ∈ b, ∀ H, call Try.prog cfg0 0 fn [.agg [.v (.int .i64 x.Own.Node), .v (.int .i64 x.Own.Inc), .v (.int .i64 x.Own.Status), .v (.int .i64 x.Own.Meta), .lst false (x.View.map encClaim), .v (.int .i64 x.Ring.Primary), .lst false (x.Ring.Keys.map encKey), .v (.int .i64 x.Counter), .v (.int .i64 x.Seq), .v (.int .i64 x.Last), .lst false (x.Waits.map encWait), .lst false (x.Windows.map encWindow), .v (.int .i64 x.Drops), .v (.bool x.Stopped)], .agg [.v (.int .i64 y.Own.Node), .v (.int .i64 y.Own.Inc), .v (.int .i64 y.Own.Status), .v (.int .i64 y.Own.Meta), .lst false (y.View.map encClaim), .v (.int .i64 y.Ring.Primary), .lst false (y.Ring.Keys.map encKey), .v (.int .i64 y.Counter), .v (.int .i64 y.Seq), .v (.int .i64 y.Last), .lst false (y.Waits.map encWait), .lst false (y.Windows.map encWindow), .v (.int .i64 y.Drops), .v (.bool y.Stopped)]] H = some (.v (.bool (decide (x = y))), H)) : ∀ H, call Try.prog cfg0 0 100 [.lst false (a.map encNodeState), .lst false (b.map encNodeState), .fn fn []] H = some (.v (.bool (decide (a = b))), H) :=
  call_fz Try.func100 rfl ok_EqualFuncNodeState rfl (by simp only [fz_cons, fz_nil, go_sem, and_self]) (p_EqualFuncNodeState a b ha hb fn hfn)

theorem ok_iSameNodes : fnOk Try.prog cfg0 35 Try.f35 = true := by kernel_rfl
theorem p_iSameNodes (a b : List NodeStateM) (ha : a.length ≤ 1048576 ∧ ∀ x ∈ a, x.ok 1048576) (hb : b.length ≤ 1048576 ∧ ∀ x ∈ b, x.ok 1048576) : pure Try.prog cfg0 35 Try.f35 [.lst false (a.map encNodeState), .lst false (b.map encNodeState)] = some (.v (.bool (decide (a = b))), true) := by
  refine pure_wp (rs := [.tmp 4]) rfl rfl ?_
  have hk := c_EqualFuncNodeState a b ha hb 101 (fun x hx y hy => c_isameNode x y (ha.2 x hx) (hb.2 y hy))
  repeat' (first | ((first | refine wSeqr (fun xx hx => ?_) | refine wIf (fun xx hx => ?_) | refine wReg (fun xx hx => ?_) | (refine wRet ?_; (try simp only [thenQ, blockQ]); refine ends_by (fun xx hx => ?_))); have hc := trivial; (repeat' (simp only [hc, go_sem, Nat.reduceAdd, Nat.reduceMul, Nat.reduceSub, Nat.reduceEqDiff, Nat.reduceLT, Nat.reduceLeDiff, Int.reduceEq, Int.reduceLT, Int.reduceLE, reduceIte, aresults, aresult, hp0, hk] at hx; (try (rw [guardL_if] at hx; split at hx <;> rename_i hc)))); all_goals (subst hx; first | (refine ⟨_, rfl, fun ht => ?_, fun ht => ?_⟩ <;> (try simp only [Bool.not_eq_true', Bool.not_eq_false', Bool.and_eq_true, Bool.and_eq_false_iff, Bool.or_eq_true, Bool.or_eq_false_iff, decide_eq_true_eq, decide_eq_false_iff_not, beq_iff_eq, bne_iff_ne, Bool.not_true, Bool.not_false, Bool.true_eq_false, Bool.false_eq_true, ne_eq, Decidable.not_not, inB_t, inB_f] at ht)) | (refine ⟨_, rfl, ?_⟩; (try simp only [tupOf])))) | refine wSkip ?_ | (refine wExit ?_; simp only [thenQ, blockQ, reduceIte, Nat.reduceEqDiff]) | refine wSeq ?_ | refine wBlock ?_)
  exact ⟨rfl, rfl⟩
theorem c_iSameNodes (a b : List NodeStateM) (ha : a.length ≤ 1048576 ∧ ∀ x ∈ a, x.ok 1048576) (hb : b.length ≤ 1048576 ∧ ∀ x ∈ b, x.ok 1048576) : ∀ H, call Try.prog cfg0 0 35 [.lst false (a.map encNodeState), .lst false (b.map encNodeState)] H = some (.v (.bool (decide (a = b))), H) :=
  call_fz Try.func35 rfl ok_iSameNodes rfl (by simp only [fz_cons, fz_nil, go_sem, and_self]) (p_iSameNodes a b ha hb)

end
end Go.Proofs.Ytmobkpfalcfepaa
