/- Contracts: marks in bytes. -/
import Derived.Test.YtmncdkecpnoogaaN6
import Derived.Test.YtmncdkecpnoogaaER
namespace Go.Proofs.Ytmncdkecpnoogaa
open Go Go.RowKit Go.Proofs.Ytmncdkecpnoogaa.Eng
set_option linter.unusedSimpArgs false
set_option linter.unusedVariables false
set_option maxRecDepth 100000
noncomputable section
theorem ok_markByteS : fnOk Try.prog cfg0 18 Try.f18 = true := by kernel_rfl
theorem conv_ib8 (n : Int) (H : Hp) : aconv Try.prog H 3 5 (.v (.int .i64 n)) = some (.v (.int .u8 (IntKind.wrap .u8 n))) := by simp [aconv, u3, u5]
theorem cr_mark0 (q : Int) : ∀ H, call Try.prog cfg0 0 18 [.lst false [], .v (.int .i64 q)] H = some (.v (.int .i64 q), H) := by
  intro H
  have key : ∃ r, body Try.prog cfg0 18 Try.f18 [.lst false [], .v (.int .i64 q)] H = some r ∧ (r.1 = .v (.int .i64 q) ∧ r.2 = H) := by
    refine body_wp (rs := [.tmp 4]) rfl rfl (R := fun x H' => x = .v (.int .i64 q) ∧ H' = H) ?_
    have hp0 : ∀ b, cfg0.pol 18 b = 0 := fun b => rfl
    repeat' (first | ((first | refine wSeqr (fun xx hx => ?_) | refine wIf (fun xx hx => ?_) | refine wReg (fun xx hx => ?_) | (refine wRet ?_; (try simp only [thenQ, blockQ]); refine ends_by (fun xx hx => ?_))); have hc := trivial; (repeat' (simp only [hc, go_sem, Nat.reduceAdd, Nat.reduceMul, Nat.reduceSub, Nat.reduceEqDiff, Nat.reduceLT, Nat.reduceLeDiff, Int.reduceEq, Int.reduceLT, Int.reduceLE, reduceIte, aresults, aresult, hp0] at hx; (try (rw [guardL_if] at hx; split at hx <;> rename_i hc)))); all_goals (subst hx; first | (refine ⟨_, rfl, fun ht => ?_, fun ht => ?_⟩ <;> (try simp only [Bool.not_eq_true', Bool.not_eq_false', Bool.and_eq_true, Bool.and_eq_false_iff, Bool.or_eq_true, Bool.or_eq_false_iff, decide_eq_true_eq, decide_eq_false_iff_not, beq_iff_eq, bne_iff_ne, Bool.not_true, Bool.not_false, Bool.true_eq_false, Bool.false_eq_true, ne_eq, Decidable.not_not, inB_t, inB_f] at ht)) | (refine ⟨_, rfl, ?_⟩; (try simp only [tupOf])))) | refine wSkip ?_ | (refine wExit ?_; simp only [thenQ, blockQ, reduceIte, Nat.reduceEqDiff]) | refine wSeq ?_ | refine wBlock ?_)
    refine wLoop (fun n s => s.1 0 = .lst false [] ∧ s.1 1 = .v (.int .i64 q) ∧ s.1 5 = .v (.int .i64 0) ∧ s.2 = H) (fun n s hI => ?_) 0 _ ⟨rfl, rfl, rfl, rfl⟩
    obtain ⟨e, H1⟩ := s
    obtain ⟨h0, h1, h5, hH⟩ := hI
    simp only at h0 h1 h5 hH
    repeat' (first | ((first | refine wSeqr (fun xx hx => ?_) | refine wIf (fun xx hx => ?_) | refine wReg (fun xx hx => ?_) | (refine wRet ?_; (try simp only [thenQ, blockQ]); refine ends_by (fun xx hx => ?_))); have hc := trivial; (repeat' (simp only [hc, go_sem, Nat.reduceAdd, Nat.reduceMul, Nat.reduceSub, Nat.reduceEqDiff, Nat.reduceLT, Nat.reduceLeDiff, Int.reduceEq, Int.reduceLT, Int.reduceLE, reduceIte, aresults, aresult, hp0, h0, h1, h5, List.length_nil] at hx; (try (rw [guardL_if] at hx; split at hx <;> rename_i hc)))); all_goals (subst hx; first | (refine ⟨_, rfl, fun ht => ?_, fun ht => ?_⟩ <;> (try simp only [Bool.not_eq_true', Bool.not_eq_false', Bool.and_eq_true, Bool.and_eq_false_iff, Bool.or_eq_true, Bool.or_eq_false_iff, decide_eq_true_eq, decide_eq_false_iff_not, beq_iff_eq, bne_iff_ne, Bool.not_true, Bool.not_false, Bool.true_eq_false, Bool.false_eq_true, ne_eq, Decidable.not_not, inB_t, inB_f] at ht)) | (refine ⟨_, rfl, ?_⟩; (try simp only [tupOf])))) | refine wSkip ?_ | (refine wExit ?_; simp only [thenQ, blockQ, reduceIte, Nat.reduceEqDiff]) | refine wSeq ?_ | refine wBlock ?_)
    all_goals first
      | (exfalso; (try simp only [Bool.not_eq_true', Bool.not_eq_false', Bool.and_eq_true, Bool.and_eq_false_iff, Bool.or_eq_true, Bool.or_eq_false_iff, decide_eq_true_eq, decide_eq_false_iff_not, beq_iff_eq, bne_iff_ne, Bool.not_true, Bool.not_false, Bool.true_eq_false, Bool.false_eq_true, ne_eq, Decidable.not_not, inB_t, inB_f] at *); simp at *; done)
      | (subst hH; constructor <;> first | trivial | rfl)
  obtain ⟨⟨v, H'⟩, h1, rfl, rfl⟩ := key
  rw [call_raw Try.prog cfg0 Try.func18 rfl ok_markByteS rfl rfl, h1]
theorem cr_markE (l : List Int) (q : Int) (hl : l.length ≤ 281474976710656) (hk : 0 ≤ q ∧ q ≤ 4611686018427387904) (H : Hp) (b : Nat) (hb : H.h b = some (l.map cell)) :
    call Try.prog cfg0 0 18 [.sl b 1 0 l.length, .v (.int .i64 q)] H = some (.v (.int .i64 (q + l.length)), H.set b ((marksB q l.length).map cell)) := by
  have key : ∃ r, body Try.prog cfg0 18 Try.f18 [.sl b 1 0 l.length, .v (.int .i64 q)] H = some r ∧ (r.1 = .v (.int .i64 (q + l.length)) ∧ r.2 = H.set b ((marksB q l.length).map cell)) := by
    refine body_wp (rs := [.tmp 4]) rfl rfl (R := fun x H' => x = .v (.int .i64 (q + l.length)) ∧ H' = H.set b ((marksB q l.length).map cell)) ?_
    have hp0 : ∀ b, cfg0.pol 18 b = 0 := fun b => rfl
    have hH0 : H = H.set b ((marksB q 0 ++ l.drop 0).map cell) := by rw [show marksB q 0 ++ l.drop 0 = l from rfl]; exact (Hp.set_id hb).symm
    generalize hHg : H = K at hH0 hb ⊢
    repeat' (first | ((first | refine wSeqr (fun xx hx => ?_) | refine wIf (fun xx hx => ?_) | refine wReg (fun xx hx => ?_) | (refine wRet ?_; (try simp only [thenQ, blockQ]); refine ends_by (fun xx hx => ?_))); have hc := trivial; (repeat' (simp only [hc, go_sem, Nat.reduceAdd, Nat.reduceMul, Nat.reduceSub, Nat.reduceEqDiff, Nat.reduceLT, Nat.reduceLeDiff, Int.reduceEq, Int.reduceLT, Int.reduceLE, reduceIte, aresults, aresult, hp0] at hx; (try (rw [guardL_if] at hx; split at hx <;> rename_i hc)))); all_goals (subst hx; first | (refine ⟨_, rfl, fun ht => ?_, fun ht => ?_⟩ <;> (try simp only [Bool.not_eq_true', Bool.not_eq_false', Bool.and_eq_true, Bool.and_eq_false_iff, Bool.or_eq_true, Bool.or_eq_false_iff, decide_eq_true_eq, decide_eq_false_iff_not, beq_iff_eq, bne_iff_ne, Bool.not_true, Bool.not_false, Bool.true_eq_false, Bool.false_eq_true, ne_eq, Decidable.not_not, inB_t, inB_f] at ht)) | (refine ⟨_, rfl, ?_⟩; (try simp only [tupOf])))) | refine wSkip ?_ | (refine wExit ?_; simp only [thenQ, blockQ, reduceIte, Nat.reduceEqDiff]) | refine wSeq ?_ | refine wBlock ?_)
    refine wLoop (fun k s => ∃ (j : Nat), j + k = l.length ∧ s.1 0 = .sl b 1 0 l.length ∧ s.1 1 = .v (.int .i64 (q + (j : Nat))) ∧ s.1 5 = .v (.int .i64 (j : Nat)) ∧ (s.2 = K.set b ((marksB q j ++ l.drop j).map cell))) (fun k s hI => ?_) (l.length) _ ?_
    · obtain ⟨e, H⟩ := s
      obtain ⟨j, hj, h0, h1, h5, hh⟩ := hI
      simp only at h0 h1 h5 hh
      subst hh
      by_cases hlt : j < l.length
      · have hlen : ((marksB q j ++ l.drop j).map cell).length = l.length := by simp [marksB_length]; omega
        have w1 : IntKind.wrap .i64 (q + (j : Nat) + 1) = q + ((j + 1 : Nat) : Int) := by rw [wrap_i64 (by omega) (by omega)]; omega
        have hst : ((marksB q j ++ l.drop j).map cell).set j (cell (IntKind.wrap .u8 (q + (j : Nat)))) = (marksB q (j + 1) ++ l.drop (j + 1)).map cell := by
          rw [← List.map_set, mark_step (marksB_length q j) hlt, marksB_succ]
        repeat' (first | ((first | refine wSeqr (fun xx hx => ?_) | refine wIf (fun xx hx => ?_) | refine wReg (fun xx hx => ?_) | (refine wRet ?_; (try simp only [thenQ, blockQ]); refine ends_by (fun xx hx => ?_))); have hc := trivial; (repeat' (simp only [hc, go_sem, Nat.reduceAdd, Nat.reduceMul, Nat.reduceSub, Nat.reduceEqDiff, Nat.reduceLT, Nat.reduceLeDiff, Int.reduceEq, Int.reduceLT, Int.reduceLE, reduceIte, aresults, aresult, hp0, h0, h1, h5, conv_ib8, hlen, hlt, Option.isSome_some, show j + 1 ≤ l.length from hlt, w1, wrap_succ (show j < 9223372036854775807 by omega)] at hx; (try (rw [guardL_if] at hx; split at hx <;> rename_i hc)))); all_goals (subst hx; first | (refine ⟨_, rfl, fun ht => ?_, fun ht => ?_⟩ <;> (try simp only [Bool.not_eq_true', Bool.not_eq_false', Bool.and_eq_true, Bool.and_eq_false_iff, Bool.or_eq_true, Bool.or_eq_false_iff, decide_eq_true_eq, decide_eq_false_iff_not, beq_iff_eq, bne_iff_ne, Bool.not_true, Bool.not_false, Bool.true_eq_false, Bool.false_eq_true, ne_eq, Decidable.not_not, inB_t, inB_f] at ht)) | (refine ⟨_, rfl, ?_⟩; (try simp only [tupOf])))) | refine wSkip ?_ | (refine wExit ?_; simp only [thenQ, blockQ, reduceIte, Nat.reduceEqDiff]) | refine wSeq ?_ | refine wBlock ?_)
        all_goals first
          | (exfalso; (try simp only [Bool.not_eq_true', Bool.not_eq_false', Bool.and_eq_true, Bool.and_eq_false_iff, Bool.or_eq_true, Bool.or_eq_false_iff, decide_eq_true_eq, decide_eq_false_iff_not, beq_iff_eq, bne_iff_ne, Bool.not_true, Bool.not_false, Bool.true_eq_false, Bool.false_eq_true, ne_eq, Decidable.not_not, inB_t, inB_f] at *); omega)
          | skip
        refine ⟨_, Nat.sub_lt (by omega) Nat.one_pos, j + 1, by omega, by simp only [upd_eq, Nat.reduceEqDiff, if_false, if_true, h0, h1, h5], by simp only [upd_eq, Nat.reduceEqDiff, if_false, if_true, h0, h1, h5], by simp only [upd_eq, Nat.reduceEqDiff, if_false, if_true, h0, h1, h5], ?_⟩
        rw [Hp.set_set]
        exact congrArg (Hp.set K b) hst
      · have hj' : j = l.length := by omega
        repeat' (first | ((first | refine wSeqr (fun xx hx => ?_) | refine wIf (fun xx hx => ?_) | refine wReg (fun xx hx => ?_) | (refine wRet ?_; (try simp only [thenQ, blockQ]); refine ends_by (fun xx hx => ?_))); have hc := trivial; (repeat' (simp only [hc, go_sem, Nat.reduceAdd, Nat.reduceMul, Nat.reduceSub, Nat.reduceEqDiff, Nat.reduceLT, Nat.reduceLeDiff, Int.reduceEq, Int.reduceLT, Int.reduceLE, reduceIte, aresults, aresult, hp0, h0, h1, h5] at hx; (try (rw [guardL_if] at hx; split at hx <;> rename_i hc)))); all_goals (subst hx; first | (refine ⟨_, rfl, fun ht => ?_, fun ht => ?_⟩ <;> (try simp only [Bool.not_eq_true', Bool.not_eq_false', Bool.and_eq_true, Bool.and_eq_false_iff, Bool.or_eq_true, Bool.or_eq_false_iff, decide_eq_true_eq, decide_eq_false_iff_not, beq_iff_eq, bne_iff_ne, Bool.not_true, Bool.not_false, Bool.true_eq_false, Bool.false_eq_true, ne_eq, Decidable.not_not, inB_t, inB_f] at ht)) | (refine ⟨_, rfl, ?_⟩; (try simp only [tupOf])))) | refine wSkip ?_ | (refine wExit ?_; simp only [thenQ, blockQ, reduceIte, Nat.reduceEqDiff]) | refine wSeq ?_ | refine wBlock ?_)
        all_goals first
          | (exfalso; (try simp only [Bool.not_eq_true', Bool.not_eq_false', Bool.and_eq_true, Bool.and_eq_false_iff, Bool.or_eq_true, Bool.or_eq_false_iff, decide_eq_true_eq, decide_eq_false_iff_not, beq_iff_eq, bne_iff_ne, Bool.not_true, Bool.not_false, Bool.true_eq_false, Bool.false_eq_true, ne_eq, Decidable.not_not, inB_t, inB_f] at *); omega)
          | skip
        rw [hj', List.drop_length, List.append_nil]
        constructor <;> first | trivial | rfl
    · refine ⟨0, by omega, rfl, ?_, rfl, hH0⟩
      simp only [upd_eq, Nat.reduceEqDiff, if_false]
      show AV.v (.int .i64 q) = _
      simp
  obtain ⟨⟨v, H'⟩, h1, rfl, rfl⟩ := key
  rw [call_raw Try.prog cfg0 Try.func18 rfl ok_markByteS rfl rfl, h1]
open Classical in
theorem cr_markByteS (l : List Int) (q : Int) (hl : l.length ≤ 281474976710656) (hk : 0 ≤ q ∧ q ≤ 4611686018427387904) : ∀ H b, call Try.prog cfg0 0 18 [.sl b 1 0 l.length, .v (.int .i64 q)] H =
    if H.h b = some (l.map cell) then some (.v (.int .i64 (q + l.length)), H.set b ((marksB q l.length).map cell)) else call' Try.prog cfg0 0 18 [.sl b 1 0 l.length, .v (.int .i64 q)] H := by
  intro H b
  split
  · exact cr_markE l q hl hk H b (by assumption)
  · rfl
theorem ok_lheldByteS : fnOk Try.prog cfg0 109 Try.f109 = true := by kernel_rfl
theorem p_lheldByteS (q : Int) (n : Nat) (hn : n ≤ 281474976710656) (hk : 0 ≤ q ∧ q ≤ 4611686018427387904) : pure Try.prog cfg0 109 Try.f109 [bytesL (marksB q n), .v (.int .i64 q)] = some (.v (.int .i64 (q + n)), true) := by
  refine pure_wp (rs := [.tmp 4]) rfl rfl ?_
  have hp0 : ∀ b, cfg0.pol 109 b = 0 := fun b => rfl
  have hml := marksB_length q n
  repeat' (first | ((first | refine wSeqr (fun xx hx => ?_) | refine wIf (fun xx hx => ?_) | refine wReg (fun xx hx => ?_) | (refine wRet ?_; (try simp only [thenQ, blockQ]); refine ends_by (fun xx hx => ?_))); have hc := trivial; (repeat' (simp only [hc, go_sem, Nat.reduceAdd, Nat.reduceMul, Nat.reduceSub, Nat.reduceEqDiff, Nat.reduceLT, Nat.reduceLeDiff, Int.reduceEq, Int.reduceLT, Int.reduceLE, reduceIte, aresults, aresult, hp0] at hx; (try (rw [guardL_if] at hx; split at hx <;> rename_i hc)))); all_goals (subst hx; first | (refine ⟨_, rfl, fun ht => ?_, fun ht => ?_⟩ <;> (try simp only [Bool.not_eq_true', Bool.not_eq_false', Bool.and_eq_true, Bool.and_eq_false_iff, Bool.or_eq_true, Bool.or_eq_false_iff, decide_eq_true_eq, decide_eq_false_iff_not, beq_iff_eq, bne_iff_ne, Bool.not_true, Bool.not_false, Bool.true_eq_false, Bool.false_eq_true, ne_eq, Decidable.not_not, inB_t, inB_f] at ht)) | (refine ⟨_, rfl, ?_⟩; (try simp only [tupOf])))) | refine wSkip ?_ | (refine wExit ?_; simp only [thenQ, blockQ, reduceIte, Nat.reduceEqDiff]) | refine wSeq ?_ | refine wBlock ?_)
  refine wLoop (fun k s => ∃ (j : Nat), j + k = n ∧ s.1 0 = bytesL (marksB q n) ∧ s.1 1 = .v (.int .i64 (q + (j : Nat))) ∧ s.1 5 = .v (.int .i64 (j : Nat)) ∧ True) (fun k s hI => ?_) (n) _ ?_
  · obtain ⟨e, H⟩ := s
    obtain ⟨j, hj, h0, h1, h5, -⟩ := hI
    simp only at h0 h1 h5
    by_cases hlt : j < n
    · have hg : ((marksB q n).map fun z => [AV.v (.int .u8 z)])[j]? = some [.v (.int .u8 (IntKind.wrap .u8 (q + (j : Nat))))] := by rw [List.getElem?_map, marksB_at q n j hlt]; rfl
      have w1 : IntKind.wrap .i64 (q + (j : Nat) + 1) = q + ((j + 1 : Nat) : Int) := by rw [wrap_i64 (by omega) (by omega)]; omega
      repeat' (first | ((first | refine wSeqr (fun xx hx => ?_) | refine wIf (fun xx hx => ?_) | refine wReg (fun xx hx => ?_) | (refine wRet ?_; (try simp only [thenQ, blockQ]); refine ends_by (fun xx hx => ?_))); have hc := trivial; (repeat' (simp only [hc, go_sem, Nat.reduceAdd, Nat.reduceMul, Nat.reduceSub, Nat.reduceEqDiff, Nat.reduceLT, Nat.reduceLeDiff, Int.reduceEq, Int.reduceLT, Int.reduceLE, reduceIte, aresults, aresult, hp0, h0, h1, h5, conv_ib8, bytesL, cell, hg, hml, List.length_map, w1, wrap_succ (show j < 9223372036854775807 by omega)] at hx; (try (rw [guardL_if] at hx; split at hx <;> rename_i hc)))); all_goals (subst hx; first | (refine ⟨_, rfl, fun ht => ?_, fun ht => ?_⟩ <;> (try simp only [Bool.not_eq_true', Bool.not_eq_false', Bool.and_eq_true, Bool.and_eq_false_iff, Bool.or_eq_true, Bool.or_eq_false_iff, decide_eq_true_eq, decide_eq_false_iff_not, beq_iff_eq, bne_iff_ne, Bool.not_true, Bool.not_false, Bool.true_eq_false, Bool.false_eq_true, ne_eq, Decidable.not_not, inB_t, inB_f] at ht)) | (refine ⟨_, rfl, ?_⟩; (try simp only [tupOf])))) | refine wSkip ?_ | (refine wExit ?_; simp only [thenQ, blockQ, reduceIte, Nat.reduceEqDiff]) | refine wSeq ?_ | refine wBlock ?_)
      all_goals first
        | (exfalso; (try simp only [Bool.not_eq_true', Bool.not_eq_false', Bool.and_eq_true, Bool.and_eq_false_iff, Bool.or_eq_true, Bool.or_eq_false_iff, decide_eq_true_eq, decide_eq_false_iff_not, beq_iff_eq, bne_iff_ne, Bool.not_true, Bool.not_false, Bool.true_eq_false, Bool.false_eq_true, ne_eq, Decidable.not_not, inB_t, inB_f] at *); omega)
        | (exfalso; (try simp only [Bool.not_eq_true', Bool.not_eq_false', Bool.and_eq_true, Bool.and_eq_false_iff, Bool.or_eq_true, Bool.or_eq_false_iff, decide_eq_true_eq, decide_eq_false_iff_not, beq_iff_eq, bne_iff_ne, Bool.not_true, Bool.not_false, Bool.true_eq_false, Bool.false_eq_true, ne_eq, Decidable.not_not, inB_t, inB_f] at *); exact absurd trivial (by assumption))
        | skip
      refine ⟨_, Nat.sub_lt (by omega) Nat.one_pos, j + 1, by omega, by simp only [upd_eq, Nat.reduceEqDiff, if_false, if_true, h0, h1, h5], by simp only [upd_eq, Nat.reduceEqDiff, if_false, if_true, h0, h1, h5], by simp only [upd_eq, Nat.reduceEqDiff, if_false, if_true, h0, h1, h5], trivial⟩
    · have hj' : j = n := by omega
      repeat' (first | ((first | refine wSeqr (fun xx hx => ?_) | refine wIf (fun xx hx => ?_) | refine wReg (fun xx hx => ?_) | (refine wRet ?_; (try simp only [thenQ, blockQ]); refine ends_by (fun xx hx => ?_))); have hc := trivial; (repeat' (simp only [hc, go_sem, Nat.reduceAdd, Nat.reduceMul, Nat.reduceSub, Nat.reduceEqDiff, Nat.reduceLT, Nat.reduceLeDiff, Int.reduceEq, Int.reduceLT, Int.reduceLE, reduceIte, aresults, aresult, hp0, h0, h1, h5, bytesL, hml, List.length_map] at hx; (try (rw [guardL_if] at hx; split at hx <;> rename_i hc)))); all_goals (subst hx; first | (refine ⟨_, rfl, fun ht => ?_, fun ht => ?_⟩ <;> (try simp only [Bool.not_eq_true', Bool.not_eq_false', Bool.and_eq_true, Bool.and_eq_false_iff, Bool.or_eq_true, Bool.or_eq_false_iff, decide_eq_true_eq, decide_eq_false_iff_not, beq_iff_eq, bne_iff_ne, Bool.not_true, Bool.not_false, Bool.true_eq_false, Bool.false_eq_true, ne_eq, Decidable.not_not, inB_t, inB_f] at ht)) | (refine ⟨_, rfl, ?_⟩; (try simp only [tupOf])))) | refine wSkip ?_ | (refine wExit ?_; simp only [thenQ, blockQ, reduceIte, Nat.reduceEqDiff]) | refine wSeq ?_ | refine wBlock ?_)
      all_goals first
        | (exfalso; (try simp only [Bool.not_eq_true', Bool.not_eq_false', Bool.and_eq_true, Bool.and_eq_false_iff, Bool.or_eq_true, Bool.or_eq_false_iff, decide_eq_true_eq, decide_eq_false_iff_not, beq_iff_eq, bne_iff_ne, Bool.not_true, Bool.not_false, Bool.true_eq_false, Bool.false_eq_true, ne_eq, Decidable.not_not, inB_t, inB_f] at *); omega)
        | skip
      rw [hj']; exact ⟨rfl, rfl⟩
  · refine ⟨0, by omega, rfl, ?_, rfl, trivial⟩
    simp only [upd_eq, Nat.reduceEqDiff, if_false]
    show AV.v (.int .i64 q) = _
    simp
theorem c_lheldByteS (q : Int) (n : Nat) (hn : n ≤ 281474976710656) (hk : 0 ≤ q ∧ q ≤ 4611686018427387904) : ∀ H, call Try.prog cfg0 0 109 [bytesL (marksB q n), .v (.int .i64 q)] H = some (.v (.int .i64 (q + n)), H) :=
  call_fz Try.func109 rfl ok_lheldByteS rfl (by simp only [fz_cons, fz_nil, go_sem, and_self]) (p_lheldByteS q n hn hk)

end
end Go.Proofs.Ytmncdkecpnoogaa
