/- Contracts of the laws' marks, in laid values: printed by fam4.py. -/
import Derived.Test.YtmncdkecpnoogaaB2
import Derived.Test.YtmncdkecpnoogaaE33
namespace Go.Proofs.Ytmncdkecpnoogaa
open Go Go.RowKit Go.Proofs.Ytmncdkecpnoogaa.Eng
set_option linter.unusedSimpArgs false
set_option linter.unusedVariables false
set_option maxRecDepth 100000
set_option maxHeartbeats 4000000
noncomputable section
theorem conv_ib8 (n : Int) (H : Hp) : aconv Try.prog H 3 5 (.v (.int .i64 n)) = some (.v (.int .u8 (IntKind.wrap .u8 n))) := by simp [aconv, u3, u5]
theorem ok_markByteS : fnOk Try.prog cfg0 18 Try.f18 = true := by kernel_rfl
theorem m_ByteS (l : List Int) (hk : l.length ≤ 1048576) {q : Int} (hq0 : 0 ≤ q ∧ q ≤ 9223372036852678655) {lo hi : Nat} {z : AV} {K : Hp} {r : Option (AV × Hp)} (hr : call Try.prog cfg0 0 18 [z, .v (.int .i64 q)] K = r) (hL : Laid K lo hi [bytesL l] [z]) (hg : hi ≤ K.g) :
    ∃ q' H', r = some (.v (.int .i64 q'), H') ∧ q ≤ q' ∧ q' ≤ q + (l.length : Nat) * 1 ∧ OutOf lo hi K H' := by
  subst hr
  have hl : l.length ≤ 1048576 := hk
  have key : ∃ r, body Try.prog cfg0 18 Try.f18 [z, .v (.int .i64 q)] K = some r ∧ (∃ q', r.1 = .v (.int .i64 q') ∧ q ≤ q' ∧ q' ≤ q + (l.length : Nat) * 1 ∧ OutOf lo hi K r.2) := by
    refine body_wp (rs := [.tmp 4]) rfl rfl (R := fun x H' => ∃ q', x = .v (.int .i64 q') ∧ q ≤ q' ∧ q' ≤ q + (l.length : Nat) * 1 ∧ OutOf lo hi K H') ?_
    have hp0 : ∀ b, cfg0.pol 18 b = 0 := fun b => rfl
    rcases hL.inv1 with ⟨he, rfl⟩ | ⟨b, sz, cs0, hne, rfl, hsz, hs, hb1, hb2, hly, hb0⟩
    · repeat' (first | ((first | refine wSeqr (fun xx hx => ?_) | refine wIf (fun xx hx => ?_) | refine wReg (fun xx hx => ?_) | (refine wRet ?_; (try simp only [thenQ, blockQ]); refine ends_by (fun xx hx => ?_))); have hc := trivial; (repeat' (simp only [hc, go_sem, Nat.reduceAdd, Nat.reduceMul, Nat.reduceSub, Nat.reduceEqDiff, Nat.reduceLT, Nat.reduceLeDiff, Int.reduceEq, Int.reduceLT, Int.reduceLE, reduceIte, aresults, aresult, hp0] at hx; (try (rw [guardL_if] at hx; split at hx <;> rename_i hc)))); all_goals (subst hx; first | (refine ⟨_, rfl, fun ht => ?_, fun ht => ?_⟩ <;> (try simp only [Bool.not_eq_true', Bool.not_eq_false', Bool.and_eq_true, Bool.and_eq_false_iff, Bool.or_eq_true, Bool.or_eq_false_iff, decide_eq_true_eq, decide_eq_false_iff_not, beq_iff_eq, bne_iff_ne, Bool.not_true, Bool.not_false, Bool.true_eq_false, Bool.false_eq_true, ne_eq, Decidable.not_not, inB_t, inB_f] at ht)) | (refine ⟨_, rfl, ?_⟩; (try simp only [tupOf])))) | refine wSkip ?_ | (refine wExit ?_; simp only [thenQ, blockQ, reduceIte, Nat.reduceEqDiff]) | refine wSeq ?_ | refine wBlock ?_)
      refine wLoop (fun n s => s.1 0 = .lst false [] ∧ s.1 1 = .v (.int .i64 q) ∧ s.1 5 = .v (.int .i64 0) ∧ s.2 = K) (fun n s hI => ?_) 0 _ ⟨rfl, rfl, rfl, rfl⟩
      obtain ⟨e, H1⟩ := s
      obtain ⟨h0, h1, h5, hH⟩ := hI
      simp only at h0 h1 h5 hH
      repeat' (first | ((first | refine wSeqr (fun xx hx => ?_) | refine wIf (fun xx hx => ?_) | refine wReg (fun xx hx => ?_) | (refine wRet ?_; (try simp only [thenQ, blockQ]); refine ends_by (fun xx hx => ?_))); have hc := trivial; (repeat' (simp only [hc, go_sem, Nat.reduceAdd, Nat.reduceMul, Nat.reduceSub, Nat.reduceEqDiff, Nat.reduceLT, Nat.reduceLeDiff, Int.reduceEq, Int.reduceLT, Int.reduceLE, reduceIte, aresults, aresult, hp0, h0, h1, h5, List.length_nil] at hx; (try (rw [guardL_if] at hx; split at hx <;> rename_i hc)))); all_goals (subst hx; first | (refine ⟨_, rfl, fun ht => ?_, fun ht => ?_⟩ <;> (try simp only [Bool.not_eq_true', Bool.not_eq_false', Bool.and_eq_true, Bool.and_eq_false_iff, Bool.or_eq_true, Bool.or_eq_false_iff, decide_eq_true_eq, decide_eq_false_iff_not, beq_iff_eq, bne_iff_ne, Bool.not_true, Bool.not_false, Bool.true_eq_false, Bool.false_eq_true, ne_eq, Decidable.not_not, inB_t, inB_f] at ht)) | (refine ⟨_, rfl, ?_⟩; (try simp only [tupOf])))) | refine wSkip ?_ | (refine wExit ?_; simp only [thenQ, blockQ, reduceIte, Nat.reduceEqDiff]) | refine wSeq ?_ | refine wBlock ?_)
      all_goals first
        | (exfalso; (try simp only [Bool.not_eq_true', Bool.not_eq_false', Bool.and_eq_true, Bool.and_eq_false_iff, Bool.or_eq_true, Bool.or_eq_false_iff, decide_eq_true_eq, decide_eq_false_iff_not, beq_iff_eq, bne_iff_ne, Bool.not_true, Bool.not_false, Bool.true_eq_false, Bool.false_eq_true, ne_eq, Decidable.not_not, inB_t, inB_f] at *); simp at *; done)
        | (subst hH; exact ⟨q, rfl, by omega, by omega, OutOf.refl _ _ _⟩)
    · have hrl : (l.map fun z => [cell z]).length = l.length := List.length_map ..
      have hszv : sz = 1 := by
        cases l with
        | nil => exact absurd rfl hne
        | cons a l => exact (hs _ (List.mem_cons_self ..)).symm
      subst hszv
      rw [hrl]
      have hcl0 : cs0.length = l.length * 1 := by rw [hly.len, flat_len 1 _ hs, hrl]
      repeat' (first | ((first | refine wSeqr (fun xx hx => ?_) | refine wIf (fun xx hx => ?_) | refine wReg (fun xx hx => ?_) | (refine wRet ?_; (try simp only [thenQ, blockQ]); refine ends_by (fun xx hx => ?_))); have hc := trivial; (repeat' (simp only [hc, go_sem, Nat.reduceAdd, Nat.reduceMul, Nat.reduceSub, Nat.reduceEqDiff, Nat.reduceLT, Nat.reduceLeDiff, Int.reduceEq, Int.reduceLT, Int.reduceLE, reduceIte, aresults, aresult, hp0] at hx; (try (rw [guardL_if] at hx; split at hx <;> rename_i hc)))); all_goals (subst hx; first | (refine ⟨_, rfl, fun ht => ?_, fun ht => ?_⟩ <;> (try simp only [Bool.not_eq_true', Bool.not_eq_false', Bool.and_eq_true, Bool.and_eq_false_iff, Bool.or_eq_true, Bool.or_eq_false_iff, decide_eq_true_eq, decide_eq_false_iff_not, beq_iff_eq, bne_iff_ne, Bool.not_true, Bool.not_false, Bool.true_eq_false, Bool.false_eq_true, ne_eq, Decidable.not_not, inB_t, inB_f] at ht)) | (refine ⟨_, rfl, ?_⟩; (try simp only [tupOf])))) | refine wSkip ?_ | (refine wExit ?_; simp only [thenQ, blockQ, reduceIte, Nat.reduceEqDiff]) | refine wSeq ?_ | refine wBlock ?_)
      refine wLoop (fun k s => ∃ (j : Nat) (q1 : Int), j + k = l.length ∧ s.1 0 = .sl b 1 0 l.length ∧ s.1 1 = .v (.int .i64 q1) ∧ s.1 5 = .v (.int .i64 (j : Nat)) ∧ (∃ cs, s.2.h b = some cs ∧ cs.length = l.length * 1 ∧ (q ≤ q1 ∧ q1 ≤ q + (j : Nat) * 1) ∧ OutOf lo hi K s.2)) (fun k s hI => ?_) (l.length) _ ?_
      · obtain ⟨e, H⟩ := s
        obtain ⟨j, q1, hj, h0, h1, h5, hh⟩ := hI
        simp only at h0 h1 h5 hh
        obtain ⟨cs, hb, hcl, hq1, hout⟩ := hh
        by_cases hlt : j < l.length
        · have w1 : IntKind.wrap .i64 (q1 + 1) = q1 + 1 := wrap_i64 (by omega) (by omega)
          have hle0 : j + 1 ≤ l.length := by omega
          have hcl1 : cs.length = l.length := by omega
          repeat' (first | ((first | refine wSeqr (fun xx hx => ?_) | refine wIf (fun xx hx => ?_) | refine wReg (fun xx hx => ?_) | (refine wRet ?_; (try simp only [thenQ, blockQ]); refine ends_by (fun xx hx => ?_))); have hc := trivial; (repeat' (simp only [hc, go_sem, Nat.reduceAdd, Nat.reduceMul, Nat.reduceSub, Nat.reduceEqDiff, Nat.reduceLT, Nat.reduceLeDiff, Int.reduceEq, Int.reduceLT, Int.reduceLE, reduceIte, aresults, aresult, hp0, h0, h1, h5, conv_ib8, hb, hcl1, hlt, Option.isSome_some, hle0, w1, wrap_succ (show j < 9223372036854775807 by omega)] at hx; (try (rw [guardL_if] at hx; split at hx <;> rename_i hc)))); all_goals (subst hx; first | (refine ⟨_, rfl, fun ht => ?_, fun ht => ?_⟩ <;> (try simp only [Bool.not_eq_true', Bool.not_eq_false', Bool.and_eq_true, Bool.and_eq_false_iff, Bool.or_eq_true, Bool.or_eq_false_iff, decide_eq_true_eq, decide_eq_false_iff_not, beq_iff_eq, bne_iff_ne, Bool.not_true, Bool.not_false, Bool.true_eq_false, Bool.false_eq_true, ne_eq, Decidable.not_not, inB_t, inB_f] at ht)) | (refine ⟨_, rfl, ?_⟩; (try simp only [tupOf])))) | refine wSkip ?_ | (refine wExit ?_; simp only [thenQ, blockQ, reduceIte, Nat.reduceEqDiff]) | refine wSeq ?_ | refine wBlock ?_)
          all_goals first
            | (exfalso; (try simp only [Bool.not_eq_true', Bool.not_eq_false', Bool.and_eq_true, Bool.and_eq_false_iff, Bool.or_eq_true, Bool.or_eq_false_iff, decide_eq_true_eq, decide_eq_false_iff_not, beq_iff_eq, bne_iff_ne, Bool.not_true, Bool.not_false, Bool.true_eq_false, Bool.false_eq_true, ne_eq, Decidable.not_not, inB_t, inB_f] at *); omega)
            | skip
          refine ⟨_, Nat.sub_lt (by omega) Nat.one_pos, j + 1, q1 + 1, by omega, by simp only [upd_eq, Nat.reduceEqDiff, if_false, if_true, h0, h1, h5], by simp only [upd_eq, Nat.reduceEqDiff, if_false, if_true, h0, h1, h5], by simp only [upd_eq, Nat.reduceEqDiff, if_false, if_true, h0, h1, h5], ?_⟩
          refine ⟨_, by simp only [Hp.set_h, if_true]; rfl, by simp only [List.length_set]; exact hcl, ⟨by omega, by omega⟩, hout.set hb1 hb2⟩
        · repeat' (first | ((first | refine wSeqr (fun xx hx => ?_) | refine wIf (fun xx hx => ?_) | refine wReg (fun xx hx => ?_) | (refine wRet ?_; (try simp only [thenQ, blockQ]); refine ends_by (fun xx hx => ?_))); have hc := trivial; (repeat' (simp only [hc, go_sem, Nat.reduceAdd, Nat.reduceMul, Nat.reduceSub, Nat.reduceEqDiff, Nat.reduceLT, Nat.reduceLeDiff, Int.reduceEq, Int.reduceLT, Int.reduceLE, reduceIte, aresults, aresult, hp0, h0, h1, h5] at hx; (try (rw [guardL_if] at hx; split at hx <;> rename_i hc)))); all_goals (subst hx; first | (refine ⟨_, rfl, fun ht => ?_, fun ht => ?_⟩ <;> (try simp only [Bool.not_eq_true', Bool.not_eq_false', Bool.and_eq_true, Bool.and_eq_false_iff, Bool.or_eq_true, Bool.or_eq_false_iff, decide_eq_true_eq, decide_eq_false_iff_not, beq_iff_eq, bne_iff_ne, Bool.not_true, Bool.not_false, Bool.true_eq_false, Bool.false_eq_true, ne_eq, Decidable.not_not, inB_t, inB_f] at ht)) | (refine ⟨_, rfl, ?_⟩; (try simp only [tupOf])))) | refine wSkip ?_ | (refine wExit ?_; simp only [thenQ, blockQ, reduceIte, Nat.reduceEqDiff]) | refine wSeq ?_ | refine wBlock ?_)
          all_goals first
            | (exfalso; (try simp only [Bool.not_eq_true', Bool.not_eq_false', Bool.and_eq_true, Bool.and_eq_false_iff, Bool.or_eq_true, Bool.or_eq_false_iff, decide_eq_true_eq, decide_eq_false_iff_not, beq_iff_eq, bne_iff_ne, Bool.not_true, Bool.not_false, Bool.true_eq_false, Bool.false_eq_true, ne_eq, Decidable.not_not, inB_t, inB_f] at *); omega)
            | skip
          exact ⟨q1, rfl, by omega, by omega, hout⟩
      · refine ⟨0, q, by omega, rfl, rfl, rfl, ?_⟩
        exact ⟨cs0, hb0, hcl0, ⟨by omega, by omega⟩, OutOf.refl _ _ _⟩
  obtain ⟨⟨v, H'⟩, h1, q', rfl, h2, h3, h4⟩ := key
  exact ⟨q', H', by rw [call_raw Try.prog cfg0 Try.func18 rfl ok_markByteS rfl rfl, h1], h2, h3, h4⟩
theorem ok_markInt64S : fnOk Try.prog cfg0 99 Try.f99 = true := by kernel_rfl
theorem m_Int64S (l : List Int) (hk : l.length ≤ 1048576) {q : Int} (hq0 : 0 ≤ q ∧ q ≤ 9223372036852678655) {lo hi : Nat} {z : AV} {K : Hp} {r : Option (AV × Hp)} (hr : call Try.prog cfg0 0 99 [z, .v (.int .i64 q)] K = r) (hL : Laid K lo hi [i64L l] [z]) (hg : hi ≤ K.g) :
    ∃ q' H', r = some (.v (.int .i64 q'), H') ∧ q ≤ q' ∧ q' ≤ q + (l.length : Nat) * 1 ∧ OutOf lo hi K H' := by
  subst hr
  have hl : l.length ≤ 1048576 := hk
  have key : ∃ r, body Try.prog cfg0 99 Try.f99 [z, .v (.int .i64 q)] K = some r ∧ (∃ q', r.1 = .v (.int .i64 q') ∧ q ≤ q' ∧ q' ≤ q + (l.length : Nat) * 1 ∧ OutOf lo hi K r.2) := by
    refine body_wp (rs := [.tmp 4]) rfl rfl (R := fun x H' => ∃ q', x = .v (.int .i64 q') ∧ q ≤ q' ∧ q' ≤ q + (l.length : Nat) * 1 ∧ OutOf lo hi K H') ?_
    have hp0 : ∀ b, cfg0.pol 99 b = 0 := fun b => rfl
    rcases hL.inv1 with ⟨he, rfl⟩ | ⟨b, sz, cs0, hne, rfl, hsz, hs, hb1, hb2, hly, hb0⟩
    · repeat' (first | ((first | refine wSeqr (fun xx hx => ?_) | refine wIf (fun xx hx => ?_) | refine wReg (fun xx hx => ?_) | (refine wRet ?_; (try simp only [thenQ, blockQ]); refine ends_by (fun xx hx => ?_))); have hc := trivial; (repeat' (simp only [hc, go_sem, Nat.reduceAdd, Nat.reduceMul, Nat.reduceSub, Nat.reduceEqDiff, Nat.reduceLT, Nat.reduceLeDiff, Int.reduceEq, Int.reduceLT, Int.reduceLE, reduceIte, aresults, aresult, hp0] at hx; (try (rw [guardL_if] at hx; split at hx <;> rename_i hc)))); all_goals (subst hx; first | (refine ⟨_, rfl, fun ht => ?_, fun ht => ?_⟩ <;> (try simp only [Bool.not_eq_true', Bool.not_eq_false', Bool.and_eq_true, Bool.and_eq_false_iff, Bool.or_eq_true, Bool.or_eq_false_iff, decide_eq_true_eq, decide_eq_false_iff_not, beq_iff_eq, bne_iff_ne, Bool.not_true, Bool.not_false, Bool.true_eq_false, Bool.false_eq_true, ne_eq, Decidable.not_not, inB_t, inB_f] at ht)) | (refine ⟨_, rfl, ?_⟩; (try simp only [tupOf])))) | refine wSkip ?_ | (refine wExit ?_; simp only [thenQ, blockQ, reduceIte, Nat.reduceEqDiff]) | refine wSeq ?_ | refine wBlock ?_)
      refine wLoop (fun n s => s.1 0 = .lst false [] ∧ s.1 1 = .v (.int .i64 q) ∧ s.1 5 = .v (.int .i64 0) ∧ s.2 = K) (fun n s hI => ?_) 0 _ ⟨rfl, rfl, rfl, rfl⟩
      obtain ⟨e, H1⟩ := s
      obtain ⟨h0, h1, h5, hH⟩ := hI
      simp only at h0 h1 h5 hH
      repeat' (first | ((first | refine wSeqr (fun xx hx => ?_) | refine wIf (fun xx hx => ?_) | refine wReg (fun xx hx => ?_) | (refine wRet ?_; (try simp only [thenQ, blockQ]); refine ends_by (fun xx hx => ?_))); have hc := trivial; (repeat' (simp only [hc, go_sem, Nat.reduceAdd, Nat.reduceMul, Nat.reduceSub, Nat.reduceEqDiff, Nat.reduceLT, Nat.reduceLeDiff, Int.reduceEq, Int.reduceLT, Int.reduceLE, reduceIte, aresults, aresult, hp0, h0, h1, h5, List.length_nil] at hx; (try (rw [guardL_if] at hx; split at hx <;> rename_i hc)))); all_goals (subst hx; first | (refine ⟨_, rfl, fun ht => ?_, fun ht => ?_⟩ <;> (try simp only [Bool.not_eq_true', Bool.not_eq_false', Bool.and_eq_true, Bool.and_eq_false_iff, Bool.or_eq_true, Bool.or_eq_false_iff, decide_eq_true_eq, decide_eq_false_iff_not, beq_iff_eq, bne_iff_ne, Bool.not_true, Bool.not_false, Bool.true_eq_false, Bool.false_eq_true, ne_eq, Decidable.not_not, inB_t, inB_f] at ht)) | (refine ⟨_, rfl, ?_⟩; (try simp only [tupOf])))) | refine wSkip ?_ | (refine wExit ?_; simp only [thenQ, blockQ, reduceIte, Nat.reduceEqDiff]) | refine wSeq ?_ | refine wBlock ?_)
      all_goals first
        | (exfalso; (try simp only [Bool.not_eq_true', Bool.not_eq_false', Bool.and_eq_true, Bool.and_eq_false_iff, Bool.or_eq_true, Bool.or_eq_false_iff, decide_eq_true_eq, decide_eq_false_iff_not, beq_iff_eq, bne_iff_ne, Bool.not_true, Bool.not_false, Bool.true_eq_false, Bool.false_eq_true, ne_eq, Decidable.not_not, inB_t, inB_f] at *); simp at *; done)
        | (subst hH; exact ⟨q, rfl, by omega, by omega, OutOf.refl _ _ _⟩)
    · have hrl : (l.map fun z => [icell z]).length = l.length := List.length_map ..
      have hszv : sz = 1 := by
        cases l with
        | nil => exact absurd rfl hne
        | cons a l => exact (hs _ (List.mem_cons_self ..)).symm
      subst hszv
      rw [hrl]
      have hcl0 : cs0.length = l.length * 1 := by rw [hly.len, flat_len 1 _ hs, hrl]
      repeat' (first | ((first | refine wSeqr (fun xx hx => ?_) | refine wIf (fun xx hx => ?_) | refine wReg (fun xx hx => ?_) | (refine wRet ?_; (try simp only [thenQ, blockQ]); refine ends_by (fun xx hx => ?_))); have hc := trivial; (repeat' (simp only [hc, go_sem, Nat.reduceAdd, Nat.reduceMul, Nat.reduceSub, Nat.reduceEqDiff, Nat.reduceLT, Nat.reduceLeDiff, Int.reduceEq, Int.reduceLT, Int.reduceLE, reduceIte, aresults, aresult, hp0] at hx; (try (rw [guardL_if] at hx; split at hx <;> rename_i hc)))); all_goals (subst hx; first | (refine ⟨_, rfl, fun ht => ?_, fun ht => ?_⟩ <;> (try simp only [Bool.not_eq_true', Bool.not_eq_false', Bool.and_eq_true, Bool.and_eq_false_iff, Bool.or_eq_true, Bool.or_eq_false_iff, decide_eq_true_eq, decide_eq_false_iff_not, beq_iff_eq, bne_iff_ne, Bool.not_true, Bool.not_false, Bool.true_eq_false, Bool.false_eq_true, ne_eq, Decidable.not_not, inB_t, inB_f] at ht)) | (refine ⟨_, rfl, ?_⟩; (try simp only [tupOf])))) | refine wSkip ?_ | (refine wExit ?_; simp only [thenQ, blockQ, reduceIte, Nat.reduceEqDiff]) | refine wSeq ?_ | refine wBlock ?_)
      refine wLoop (fun k s => ∃ (j : Nat) (q1 : Int), j + k = l.length ∧ s.1 0 = .sl b 1 0 l.length ∧ s.1 1 = .v (.int .i64 q1) ∧ s.1 5 = .v (.int .i64 (j : Nat)) ∧ (∃ cs, s.2.h b = some cs ∧ cs.length = l.length * 1 ∧ (q ≤ q1 ∧ q1 ≤ q + (j : Nat) * 1) ∧ OutOf lo hi K s.2)) (fun k s hI => ?_) (l.length) _ ?_
      · obtain ⟨e, H⟩ := s
        obtain ⟨j, q1, hj, h0, h1, h5, hh⟩ := hI
        simp only at h0 h1 h5 hh
        obtain ⟨cs, hb, hcl, hq1, hout⟩ := hh
        by_cases hlt : j < l.length
        · have w1 : IntKind.wrap .i64 (q1 + 1) = q1 + 1 := wrap_i64 (by omega) (by omega)
          have hle0 : j + 1 ≤ l.length := by omega
          have hcl1 : cs.length = l.length := by omega
          repeat' (first | ((first | refine wSeqr (fun xx hx => ?_) | refine wIf (fun xx hx => ?_) | refine wReg (fun xx hx => ?_) | (refine wRet ?_; (try simp only [thenQ, blockQ]); refine ends_by (fun xx hx => ?_))); have hc := trivial; (repeat' (simp only [hc, go_sem, Nat.reduceAdd, Nat.reduceMul, Nat.reduceSub, Nat.reduceEqDiff, Nat.reduceLT, Nat.reduceLeDiff, Int.reduceEq, Int.reduceLT, Int.reduceLE, reduceIte, aresults, aresult, hp0, h0, h1, h5, hb, hcl1, hlt, Option.isSome_some, hle0, w1, wrap_succ (show j < 9223372036854775807 by omega)] at hx; (try (rw [guardL_if] at hx; split at hx <;> rename_i hc)))); all_goals (subst hx; first | (refine ⟨_, rfl, fun ht => ?_, fun ht => ?_⟩ <;> (try simp only [Bool.not_eq_true', Bool.not_eq_false', Bool.and_eq_true, Bool.and_eq_false_iff, Bool.or_eq_true, Bool.or_eq_false_iff, decide_eq_true_eq, decide_eq_false_iff_not, beq_iff_eq, bne_iff_ne, Bool.not_true, Bool.not_false, Bool.true_eq_false, Bool.false_eq_true, ne_eq, Decidable.not_not, inB_t, inB_f] at ht)) | (refine ⟨_, rfl, ?_⟩; (try simp only [tupOf])))) | refine wSkip ?_ | (refine wExit ?_; simp only [thenQ, blockQ, reduceIte, Nat.reduceEqDiff]) | refine wSeq ?_ | refine wBlock ?_)
          all_goals first
            | (exfalso; (try simp only [Bool.not_eq_true', Bool.not_eq_false', Bool.and_eq_true, Bool.and_eq_false_iff, Bool.or_eq_true, Bool.or_eq_false_iff, decide_eq_true_eq, decide_eq_false_iff_not, beq_iff_eq, bne_iff_ne, Bool.not_true, Bool.not_false, Bool.true_eq_false, Bool.false_eq_true, ne_eq, Decidable.not_not, inB_t, inB_f] at *); omega)
            | skip
          refine ⟨_, Nat.sub_lt (by omega) Nat.one_pos, j + 1, q1 + 1, by omega, by simp only [upd_eq, Nat.reduceEqDiff, if_false, if_true, h0, h1, h5], by simp only [upd_eq, Nat.reduceEqDiff, if_false, if_true, h0, h1, h5], by simp only [upd_eq, Nat.reduceEqDiff, if_false, if_true, h0, h1, h5], ?_⟩
          refine ⟨_, by simp only [Hp.set_h, if_true]; rfl, by simp only [List.length_set]; exact hcl, ⟨by omega, by omega⟩, hout.set hb1 hb2⟩
        · repeat' (first | ((first | refine wSeqr (fun xx hx => ?_) | refine wIf (fun xx hx => ?_) | refine wReg (fun xx hx => ?_) | (refine wRet ?_; (try simp only [thenQ, blockQ]); refine ends_by (fun xx hx => ?_))); have hc := trivial; (repeat' (simp only [hc, go_sem, Nat.reduceAdd, Nat.reduceMul, Nat.reduceSub, Nat.reduceEqDiff, Nat.reduceLT, Nat.reduceLeDiff, Int.reduceEq, Int.reduceLT, Int.reduceLE, reduceIte, aresults, aresult, hp0, h0, h1, h5] at hx; (try (rw [guardL_if] at hx; split at hx <;> rename_i hc)))); all_goals (subst hx; first | (refine ⟨_, rfl, fun ht => ?_, fun ht => ?_⟩ <;> (try simp only [Bool.not_eq_true', Bool.not_eq_false', Bool.and_eq_true, Bool.and_eq_false_iff, Bool.or_eq_true, Bool.or_eq_false_iff, decide_eq_true_eq, decide_eq_false_iff_not, beq_iff_eq, bne_iff_ne, Bool.not_true, Bool.not_false, Bool.true_eq_false, Bool.false_eq_true, ne_eq, Decidable.not_not, inB_t, inB_f] at ht)) | (refine ⟨_, rfl, ?_⟩; (try simp only [tupOf])))) | refine wSkip ?_ | (refine wExit ?_; simp only [thenQ, blockQ, reduceIte, Nat.reduceEqDiff]) | refine wSeq ?_ | refine wBlock ?_)
          all_goals first
            | (exfalso; (try simp only [Bool.not_eq_true', Bool.not_eq_false', Bool.and_eq_true, Bool.and_eq_false_iff, Bool.or_eq_true, Bool.or_eq_false_iff, decide_eq_true_eq, decide_eq_false_iff_not, beq_iff_eq, bne_iff_ne, Bool.not_true, Bool.not_false, Bool.true_eq_false, Bool.false_eq_true, ne_eq, Decidable.not_not, inB_t, inB_f] at *); omega)
            | skip
          exact ⟨q1, rfl, by omega, by omega, hout⟩
      · refine ⟨0, q, by omega, rfl, rfl, rfl, ?_⟩
        exact ⟨cs0, hb0, hcl0, ⟨by omega, by omega⟩, OutOf.refl _ _ _⟩
  obtain ⟨⟨v, H'⟩, h1, q', rfl, h2, h3, h4⟩ := key
  exact ⟨q', H', by rw [call_raw Try.prog cfg0 Try.func99 rfl ok_markInt64S rfl rfl, h1], h2, h3, h4⟩
theorem ok_markClaimS : fnOk Try.prog cfg0 125 Try.f125 = true := by kernel_rfl
theorem m_ClaimS (l : List ClaimM) (hk : l.length ≤ 1048576 ∧ ∀ x ∈ l, x.ok 1048576) {q : Int} (hq0 : 0 ≤ q ∧ q ≤ 9223372036849532927) {lo hi : Nat} {z : AV} {K : Hp} {r : Option (AV × Hp)} (hr : call Try.prog cfg0 0 125 [z, .v (.int .i64 q)] K = r) (hL : Laid K lo hi [.lst false (l.map encClaim)] [z]) (hg : hi ≤ K.g) :
    ∃ q' H', r = some (.v (.int .i64 q'), H') ∧ q ≤ q' ∧ q' ≤ q + (l.length : Nat) * 4 ∧ OutOf lo hi K H' := by
  subst hr
  have hl : l.length ≤ 1048576 := hk.1
  have key : ∃ r, body Try.prog cfg0 125 Try.f125 [z, .v (.int .i64 q)] K = some r ∧ (∃ q', r.1 = .v (.int .i64 q') ∧ q ≤ q' ∧ q' ≤ q + (l.length : Nat) * 4 ∧ OutOf lo hi K r.2) := by
    refine body_wp (rs := [.tmp 4]) rfl rfl (R := fun x H' => ∃ q', x = .v (.int .i64 q') ∧ q ≤ q' ∧ q' ≤ q + (l.length : Nat) * 4 ∧ OutOf lo hi K H') ?_
    have hp0 : ∀ b, cfg0.pol 125 b = 0 := fun b => rfl
    rcases hL.inv1 with ⟨he, rfl⟩ | ⟨b, sz, cs0, hne, rfl, hsz, hs, hb1, hb2, hly, hb0⟩
    · repeat' (first | ((first | refine wSeqr (fun xx hx => ?_) | refine wIf (fun xx hx => ?_) | refine wReg (fun xx hx => ?_) | (refine wRet ?_; (try simp only [thenQ, blockQ]); refine ends_by (fun xx hx => ?_))); have hc := trivial; (repeat' (simp only [hc, go_sem, Nat.reduceAdd, Nat.reduceMul, Nat.reduceSub, Nat.reduceEqDiff, Nat.reduceLT, Nat.reduceLeDiff, Int.reduceEq, Int.reduceLT, Int.reduceLE, reduceIte, aresults, aresult, hp0] at hx; (try (rw [guardL_if] at hx; split at hx <;> rename_i hc)))); all_goals (subst hx; first | (refine ⟨_, rfl, fun ht => ?_, fun ht => ?_⟩ <;> (try simp only [Bool.not_eq_true', Bool.not_eq_false', Bool.and_eq_true, Bool.and_eq_false_iff, Bool.or_eq_true, Bool.or_eq_false_iff, decide_eq_true_eq, decide_eq_false_iff_not, beq_iff_eq, bne_iff_ne, Bool.not_true, Bool.not_false, Bool.true_eq_false, Bool.false_eq_true, ne_eq, Decidable.not_not, inB_t, inB_f] at ht)) | (refine ⟨_, rfl, ?_⟩; (try simp only [tupOf])))) | refine wSkip ?_ | (refine wExit ?_; simp only [thenQ, blockQ, reduceIte, Nat.reduceEqDiff]) | refine wSeq ?_ | refine wBlock ?_)
      refine wLoop (fun n s => s.1 0 = .lst false [] ∧ s.1 1 = .v (.int .i64 q) ∧ s.1 5 = .v (.int .i64 0) ∧ s.2 = K) (fun n s hI => ?_) 0 _ ⟨rfl, rfl, rfl, rfl⟩
      obtain ⟨e, H1⟩ := s
      obtain ⟨h0, h1, h5, hH⟩ := hI
      simp only at h0 h1 h5 hH
      repeat' (first | ((first | refine wSeqr (fun xx hx => ?_) | refine wIf (fun xx hx => ?_) | refine wReg (fun xx hx => ?_) | (refine wRet ?_; (try simp only [thenQ, blockQ]); refine ends_by (fun xx hx => ?_))); have hc := trivial; (repeat' (simp only [hc, go_sem, Nat.reduceAdd, Nat.reduceMul, Nat.reduceSub, Nat.reduceEqDiff, Nat.reduceLT, Nat.reduceLeDiff, Int.reduceEq, Int.reduceLT, Int.reduceLE, reduceIte, aresults, aresult, hp0, h0, h1, h5, List.length_nil] at hx; (try (rw [guardL_if] at hx; split at hx <;> rename_i hc)))); all_goals (subst hx; first | (refine ⟨_, rfl, fun ht => ?_, fun ht => ?_⟩ <;> (try simp only [Bool.not_eq_true', Bool.not_eq_false', Bool.and_eq_true, Bool.and_eq_false_iff, Bool.or_eq_true, Bool.or_eq_false_iff, decide_eq_true_eq, decide_eq_false_iff_not, beq_iff_eq, bne_iff_ne, Bool.not_true, Bool.not_false, Bool.true_eq_false, Bool.false_eq_true, ne_eq, Decidable.not_not, inB_t, inB_f] at ht)) | (refine ⟨_, rfl, ?_⟩; (try simp only [tupOf])))) | refine wSkip ?_ | (refine wExit ?_; simp only [thenQ, blockQ, reduceIte, Nat.reduceEqDiff]) | refine wSeq ?_ | refine wBlock ?_)
      all_goals first
        | (exfalso; (try simp only [Bool.not_eq_true', Bool.not_eq_false', Bool.and_eq_true, Bool.and_eq_false_iff, Bool.or_eq_true, Bool.or_eq_false_iff, decide_eq_true_eq, decide_eq_false_iff_not, beq_iff_eq, bne_iff_ne, Bool.not_true, Bool.not_false, Bool.true_eq_false, Bool.false_eq_true, ne_eq, Decidable.not_not, inB_t, inB_f] at *); simp at *; done)
        | (subst hH; exact ⟨q, rfl, by omega, by omega, OutOf.refl _ _ _⟩)
    · have hrl : (l.map encClaim).length = l.length := List.length_map ..
      have hszv : sz = 4 := by
        cases l with
        | nil => exact absurd rfl hne
        | cons a l => exact (hs _ (List.mem_cons_self ..)).symm
      subst hszv
      rw [hrl]
      have hcl0 : cs0.length = l.length * 4 := by rw [hly.len, flat_len 4 _ hs, hrl]
      repeat' (first | ((first | refine wSeqr (fun xx hx => ?_) | refine wIf (fun xx hx => ?_) | refine wReg (fun xx hx => ?_) | (refine wRet ?_; (try simp only [thenQ, blockQ]); refine ends_by (fun xx hx => ?_))); have hc := trivial; (repeat' (simp only [hc, go_sem, Nat.reduceAdd, Nat.reduceMul, Nat.reduceSub, Nat.reduceEqDiff, Nat.reduceLT, Nat.reduceLeDiff, Int.reduceEq, Int.reduceLT, Int.reduceLE, reduceIte, aresults, aresult, hp0] at hx; (try (rw [guardL_if] at hx; split at hx <;> rename_i hc)))); all_goals (subst hx; first | (refine ⟨_, rfl, fun ht => ?_, fun ht => ?_⟩ <;> (try simp only [Bool.not_eq_true', Bool.not_eq_false', Bool.and_eq_true, Bool.and_eq_false_iff, Bool.or_eq_true, Bool.or_eq_false_iff, decide_eq_true_eq, decide_eq_false_iff_not, beq_iff_eq, bne_iff_ne, Bool.not_true, Bool.not_false, Bool.true_eq_false, Bool.false_eq_true, ne_eq, Decidable.not_not, inB_t, inB_f] at ht)) | (refine ⟨_, rfl, ?_⟩; (try simp only [tupOf])))) | refine wSkip ?_ | (refine wExit ?_; simp only [thenQ, blockQ, reduceIte, Nat.reduceEqDiff]) | refine wSeq ?_ | refine wBlock ?_)
      refine wLoop (fun k s => ∃ (j : Nat) (q1 : Int), j + k = l.length ∧ s.1 0 = .sl b 4 0 l.length ∧ s.1 1 = .v (.int .i64 q1) ∧ s.1 5 = .v (.int .i64 (j : Nat)) ∧ (∃ cs mid, s.2.h b = some cs ∧ cs.length = l.length * 4 ∧ (q ≤ q1 ∧ q1 ≤ q + (j : Nat) * 4) ∧ lo ≤ mid ∧ Laid s.2 mid b ((l.drop j).map encClaim).flatten (cs.drop (j * 4)) ∧ OutOf lo hi K s.2)) (fun k s hI => ?_) (l.length) _ ?_
      · obtain ⟨e, H⟩ := s
        obtain ⟨j, q1, hj, h0, h1, h5, hh⟩ := hI
        simp only at h0 h1 h5 hh
        obtain ⟨cs, mid, hb, hcl, hq1, hmid, hly, hout⟩ := hh
        by_cases hlt : j < l.length
        · obtain ⟨k, hgk, hd, hm⟩ := at_drop hlt
          have hkk := hk.2 k hm
          rw [hd, List.map_cons, List.flatten_cons] at hly
          obtain ⟨m2, r1, r2, hcs, hy1, hy2⟩ := Laid.split (encClaim k) hly
          have e1 := hy1.le
          have e2 := hy2.le
          have hG := hout.1
          have hr1 : r1.length = 4 := hy1.len
          have f0 := hy1
          simp only [encClaim] at f0
          obtain ⟨t0, rfl, f1⟩ := f0.invV
          obtain ⟨t1, rfl, f2⟩ := f1.invV
          obtain ⟨t2, rfl, f3⟩ := f2.invV
          obtain ⟨t3, rfl, f4⟩ := f3.invV
          obtain rfl := f4.invN
          have le0 : j * 4 + 1 ≤ l.length * 4 := by omega
          have le1 : j * 4 + 2 ≤ l.length * 4 := by omega
          have le2 : j * 4 + 3 ≤ l.length * 4 := by omega
          have le3 : j * 4 + 4 ≤ l.length * 4 := by omega
          have w1 : IntKind.wrap .i64 (q1 + 1) = q1 + 1 := wrap_i64 (by omega) (by omega)
          have w2 : IntKind.wrap .i64 ((q1 + 1) + 1) = (q1 + 1) + 1 := wrap_i64 (by omega) (by omega)
          have w3 : IntKind.wrap .i64 (((q1 + 1) + 1) + 1) = ((q1 + 1) + 1) + 1 := wrap_i64 (by omega) (by omega)
          have w4 : IntKind.wrap .i64 ((((q1 + 1) + 1) + 1) + 1) = (((q1 + 1) + 1) + 1) + 1 := wrap_i64 (by omega) (by omega)
          have hr2 : cs.drop ((j + 1) * 4) = r2 := by rw [show (j + 1) * 4 = j * 4 + 4 by omega]; exact row_rest hcs rfl
          repeat' (first | ((first | refine wSeqr (fun xx hx => ?_) | refine wIf (fun xx hx => ?_) | refine wReg (fun xx hx => ?_) | (refine wRet ?_; (try simp only [thenQ, blockQ]); refine ends_by (fun xx hx => ?_))); have hc := trivial; (repeat' (simp only [hc, go_sem, Nat.reduceAdd, Nat.reduceMul, Nat.reduceSub, Nat.reduceEqDiff, Nat.reduceLT, Nat.reduceLeDiff, Int.reduceEq, Int.reduceLT, Int.reduceLE, reduceIte, aresults, aresult, hp0, h0, h1, h5, hcl, hlt, Option.isSome_some, List.length_set, wrap_succ (show j < 9223372036854775807 by omega), le0, le1, le2, le3, hb, w1, w2, w3, w4] at hx; (try (rw [guardL_if] at hx; split at hx <;> rename_i hc)))); all_goals (subst hx; first | (refine ⟨_, rfl, fun ht => ?_, fun ht => ?_⟩ <;> (try simp only [Bool.not_eq_true', Bool.not_eq_false', Bool.and_eq_true, Bool.and_eq_false_iff, Bool.or_eq_true, Bool.or_eq_false_iff, decide_eq_true_eq, decide_eq_false_iff_not, beq_iff_eq, bne_iff_ne, Bool.not_true, Bool.not_false, Bool.true_eq_false, Bool.false_eq_true, ne_eq, Decidable.not_not, inB_t, inB_f] at ht)) | (refine ⟨_, rfl, ?_⟩; (try simp only [tupOf])))) | refine wSkip ?_ | (refine wExit ?_; simp only [thenQ, blockQ, reduceIte, Nat.reduceEqDiff]) | refine wSeq ?_ | refine wBlock ?_)
          all_goals first
            | (exfalso; (try simp only [Bool.not_eq_true', Bool.not_eq_false', Bool.and_eq_true, Bool.and_eq_false_iff, Bool.or_eq_true, Bool.or_eq_false_iff, decide_eq_true_eq, decide_eq_false_iff_not, beq_iff_eq, bne_iff_ne, Bool.not_true, Bool.not_false, Bool.true_eq_false, Bool.false_eq_true, ne_eq, Decidable.not_not, inB_t, inB_f] at *); omega)
            | skip
          refine ⟨_, Nat.sub_lt (by omega) Nat.one_pos, j + 1, ((((q1 + 1) + 1) + 1) + 1), by omega, by simp only [upd_eq, Nat.reduceEqDiff, if_false, if_true, h0, h1, h5], by simp only [upd_eq, Nat.reduceEqDiff, if_false, if_true, h0, h1, h5], by simp only [upd_eq, Nat.reduceEqDiff, if_false, if_true, h0, h1, h5], ?_⟩
          refine ⟨_, m2, by simp only [Hp.set_h, if_true, hb]; rfl, by simp only [List.length_set]; exact hcl, ⟨by omega, by omega⟩, by omega, ?_, ?_⟩
          · repeat rw [drop_set (by omega)]
            rw [hr2]
            exact hy2.reg (by repeat first | exact InReg.refl _ _ _ | refine InReg.set (by omega) ?_)
          · repeat first | exact hout | refine OutOf.set ?_ hb1 hb2
        · repeat' (first | ((first | refine wSeqr (fun xx hx => ?_) | refine wIf (fun xx hx => ?_) | refine wReg (fun xx hx => ?_) | (refine wRet ?_; (try simp only [thenQ, blockQ]); refine ends_by (fun xx hx => ?_))); have hc := trivial; (repeat' (simp only [hc, go_sem, Nat.reduceAdd, Nat.reduceMul, Nat.reduceSub, Nat.reduceEqDiff, Nat.reduceLT, Nat.reduceLeDiff, Int.reduceEq, Int.reduceLT, Int.reduceLE, reduceIte, aresults, aresult, hp0, h0, h1, h5] at hx; (try (rw [guardL_if] at hx; split at hx <;> rename_i hc)))); all_goals (subst hx; first | (refine ⟨_, rfl, fun ht => ?_, fun ht => ?_⟩ <;> (try simp only [Bool.not_eq_true', Bool.not_eq_false', Bool.and_eq_true, Bool.and_eq_false_iff, Bool.or_eq_true, Bool.or_eq_false_iff, decide_eq_true_eq, decide_eq_false_iff_not, beq_iff_eq, bne_iff_ne, Bool.not_true, Bool.not_false, Bool.true_eq_false, Bool.false_eq_true, ne_eq, Decidable.not_not, inB_t, inB_f] at ht)) | (refine ⟨_, rfl, ?_⟩; (try simp only [tupOf])))) | refine wSkip ?_ | (refine wExit ?_; simp only [thenQ, blockQ, reduceIte, Nat.reduceEqDiff]) | refine wSeq ?_ | refine wBlock ?_)
          all_goals first
            | (exfalso; (try simp only [Bool.not_eq_true', Bool.not_eq_false', Bool.and_eq_true, Bool.and_eq_false_iff, Bool.or_eq_true, Bool.or_eq_false_iff, decide_eq_true_eq, decide_eq_false_iff_not, beq_iff_eq, bne_iff_ne, Bool.not_true, Bool.not_false, Bool.true_eq_false, Bool.false_eq_true, ne_eq, Decidable.not_not, inB_t, inB_f] at *); omega)
            | skip
          exact ⟨q1, rfl, by omega, by omega, hout⟩
      · refine ⟨0, q, by omega, rfl, rfl, rfl, ?_⟩
        exact ⟨cs0, lo, hb0, hcl0, ⟨by omega, by omega⟩, by omega, hly, OutOf.refl _ _ _⟩
  obtain ⟨⟨v, H'⟩, h1, q', rfl, h2, h3, h4⟩ := key
  exact ⟨q', H', by rw [call_raw Try.prog cfg0 Try.func125 rfl ok_markClaimS rfl rfl, h1], h2, h3, h4⟩
theorem ok_markKeyS : fnOk Try.prog cfg0 126 Try.f126 = true := by kernel_rfl
theorem m_KeyS (l : List KeyM) (hk : l.length ≤ 1048576 ∧ ∀ x ∈ l, x.ok 1048576) {q : Int} (hq0 : 0 ≤ q ∧ q ≤ 9223370937341050879) {lo hi : Nat} {z : AV} {K : Hp} {r : Option (AV × Hp)} (hr : call Try.prog cfg0 0 126 [z, .v (.int .i64 q)] K = r) (hL : Laid K lo hi [.lst false (l.map encKey)] [z]) (hg : hi ≤ K.g) :
    ∃ q' H', r = some (.v (.int .i64 q'), H') ∧ q ≤ q' ∧ q' ≤ q + (l.length : Nat) * 1048577 ∧ OutOf lo hi K H' := by
  subst hr
  have hl : l.length ≤ 1048576 := hk.1
  have key : ∃ r, body Try.prog cfg0 126 Try.f126 [z, .v (.int .i64 q)] K = some r ∧ (∃ q', r.1 = .v (.int .i64 q') ∧ q ≤ q' ∧ q' ≤ q + (l.length : Nat) * 1048577 ∧ OutOf lo hi K r.2) := by
    refine body_wp (rs := [.tmp 4]) rfl rfl (R := fun x H' => ∃ q', x = .v (.int .i64 q') ∧ q ≤ q' ∧ q' ≤ q + (l.length : Nat) * 1048577 ∧ OutOf lo hi K H') ?_
    have hp0 : ∀ b, cfg0.pol 126 b = 0 := fun b => rfl
    rcases hL.inv1 with ⟨he, rfl⟩ | ⟨b, sz, cs0, hne, rfl, hsz, hs, hb1, hb2, hly, hb0⟩
    · repeat' (first | ((first | refine wSeqr (fun xx hx => ?_) | refine wIf (fun xx hx => ?_) | refine wReg (fun xx hx => ?_) | (refine wRet ?_; (try simp only [thenQ, blockQ]); refine ends_by (fun xx hx => ?_))); have hc := trivial; (repeat' (simp only [hc, go_sem, Nat.reduceAdd, Nat.reduceMul, Nat.reduceSub, Nat.reduceEqDiff, Nat.reduceLT, Nat.reduceLeDiff, Int.reduceEq, Int.reduceLT, Int.reduceLE, reduceIte, aresults, aresult, hp0] at hx; (try (rw [guardL_if] at hx; split at hx <;> rename_i hc)))); all_goals (subst hx; first | (refine ⟨_, rfl, fun ht => ?_, fun ht => ?_⟩ <;> (try simp only [Bool.not_eq_true', Bool.not_eq_false', Bool.and_eq_true, Bool.and_eq_false_iff, Bool.or_eq_true, Bool.or_eq_false_iff, decide_eq_true_eq, decide_eq_false_iff_not, beq_iff_eq, bne_iff_ne, Bool.not_true, Bool.not_false, Bool.true_eq_false, Bool.false_eq_true, ne_eq, Decidable.not_not, inB_t, inB_f] at ht)) | (refine ⟨_, rfl, ?_⟩; (try simp only [tupOf])))) | refine wSkip ?_ | (refine wExit ?_; simp only [thenQ, blockQ, reduceIte, Nat.reduceEqDiff]) | refine wSeq ?_ | refine wBlock ?_)
      refine wLoop (fun n s => s.1 0 = .lst false [] ∧ s.1 1 = .v (.int .i64 q) ∧ s.1 5 = .v (.int .i64 0) ∧ s.2 = K) (fun n s hI => ?_) 0 _ ⟨rfl, rfl, rfl, rfl⟩
      obtain ⟨e, H1⟩ := s
      obtain ⟨h0, h1, h5, hH⟩ := hI
      simp only at h0 h1 h5 hH
      repeat' (first | ((first | refine wSeqr (fun xx hx => ?_) | refine wIf (fun xx hx => ?_) | refine wReg (fun xx hx => ?_) | (refine wRet ?_; (try simp only [thenQ, blockQ]); refine ends_by (fun xx hx => ?_))); have hc := trivial; (repeat' (simp only [hc, go_sem, Nat.reduceAdd, Nat.reduceMul, Nat.reduceSub, Nat.reduceEqDiff, Nat.reduceLT, Nat.reduceLeDiff, Int.reduceEq, Int.reduceLT, Int.reduceLE, reduceIte, aresults, aresult, hp0, h0, h1, h5, List.length_nil] at hx; (try (rw [guardL_if] at hx; split at hx <;> rename_i hc)))); all_goals (subst hx; first | (refine ⟨_, rfl, fun ht => ?_, fun ht => ?_⟩ <;> (try simp only [Bool.not_eq_true', Bool.not_eq_false', Bool.and_eq_true, Bool.and_eq_false_iff, Bool.or_eq_true, Bool.or_eq_false_iff, decide_eq_true_eq, decide_eq_false_iff_not, beq_iff_eq, bne_iff_ne, Bool.not_true, Bool.not_false, Bool.true_eq_false, Bool.false_eq_true, ne_eq, Decidable.not_not, inB_t, inB_f] at ht)) | (refine ⟨_, rfl, ?_⟩; (try simp only [tupOf])))) | refine wSkip ?_ | (refine wExit ?_; simp only [thenQ, blockQ, reduceIte, Nat.reduceEqDiff]) | refine wSeq ?_ | refine wBlock ?_)
      all_goals first
        | (exfalso; (try simp only [Bool.not_eq_true', Bool.not_eq_false', Bool.and_eq_true, Bool.and_eq_false_iff, Bool.or_eq_true, Bool.or_eq_false_iff, decide_eq_true_eq, decide_eq_false_iff_not, beq_iff_eq, bne_iff_ne, Bool.not_true, Bool.not_false, Bool.true_eq_false, Bool.false_eq_true, ne_eq, Decidable.not_not, inB_t, inB_f] at *); simp at *; done)
        | (subst hH; exact ⟨q, rfl, by omega, by omega, OutOf.refl _ _ _⟩)
    · have hrl : (l.map encKey).length = l.length := List.length_map ..
      have hszv : sz = 2 := by
        cases l with
        | nil => exact absurd rfl hne
        | cons a l => exact (hs _ (List.mem_cons_self ..)).symm
      subst hszv
      rw [hrl]
      have hcl0 : cs0.length = l.length * 2 := by rw [hly.len, flat_len 2 _ hs, hrl]
      repeat' (first | ((first | refine wSeqr (fun xx hx => ?_) | refine wIf (fun xx hx => ?_) | refine wReg (fun xx hx => ?_) | (refine wRet ?_; (try simp only [thenQ, blockQ]); refine ends_by (fun xx hx => ?_))); have hc := trivial; (repeat' (simp only [hc, go_sem, Nat.reduceAdd, Nat.reduceMul, Nat.reduceSub, Nat.reduceEqDiff, Nat.reduceLT, Nat.reduceLeDiff, Int.reduceEq, Int.reduceLT, Int.reduceLE, reduceIte, aresults, aresult, hp0] at hx; (try (rw [guardL_if] at hx; split at hx <;> rename_i hc)))); all_goals (subst hx; first | (refine ⟨_, rfl, fun ht => ?_, fun ht => ?_⟩ <;> (try simp only [Bool.not_eq_true', Bool.not_eq_false', Bool.and_eq_true, Bool.and_eq_false_iff, Bool.or_eq_true, Bool.or_eq_false_iff, decide_eq_true_eq, decide_eq_false_iff_not, beq_iff_eq, bne_iff_ne, Bool.not_true, Bool.not_false, Bool.true_eq_false, Bool.false_eq_true, ne_eq, Decidable.not_not, inB_t, inB_f] at ht)) | (refine ⟨_, rfl, ?_⟩; (try simp only [tupOf])))) | refine wSkip ?_ | (refine wExit ?_; simp only [thenQ, blockQ, reduceIte, Nat.reduceEqDiff]) | refine wSeq ?_ | refine wBlock ?_)
      refine wLoop (fun k s => ∃ (j : Nat) (q1 : Int), j + k = l.length ∧ s.1 0 = .sl b 2 0 l.length ∧ s.1 1 = .v (.int .i64 q1) ∧ s.1 5 = .v (.int .i64 (j : Nat)) ∧ (∃ cs mid, s.2.h b = some cs ∧ cs.length = l.length * 2 ∧ (q ≤ q1 ∧ q1 ≤ q + (j : Nat) * 1048577) ∧ lo ≤ mid ∧ Laid s.2 mid b ((l.drop j).map encKey).flatten (cs.drop (j * 2)) ∧ OutOf lo hi K s.2)) (fun k s hI => ?_) (l.length) _ ?_
      · obtain ⟨e, H⟩ := s
        obtain ⟨j, q1, hj, h0, h1, h5, hh⟩ := hI
        simp only at h0 h1 h5 hh
        obtain ⟨cs, mid, hb, hcl, hq1, hmid, hly, hout⟩ := hh
        by_cases hlt : j < l.length
        · obtain ⟨k, hgk, hd, hm⟩ := at_drop hlt
          have hkk := hk.2 k hm
          rw [hd, List.map_cons, List.flatten_cons] at hly
          obtain ⟨m2, r1, r2, hcs, hy1, hy2⟩ := Laid.split (encKey k) hly
          have e1 := hy1.le
          have e2 := hy2.le
          have hG := hout.1
          have hr1 : r1.length = 2 := hy1.len
          have f0 := hy1
          simp only [encKey] at f0
          obtain ⟨t0, rfl, f1⟩ := f0.invV
          obtain ⟨z1, t1, m1x, rfl, a1, b1, y1, f2⟩ := f1.invL
          have hc1 : cs[j * 2 + 1]? = some z1 := (row_cell hcs 1 (by rw [hr1]; omega)).trans rfl
          have l1 : k.Bytes.length ≤ 1048576 := hkk.2.2
          have k1 := (okc_laid y1).1
          have j1 := (okc_laid y1).2
          obtain rfl := f2.invN
          have le0 : j * 2 + 1 ≤ l.length * 2 := by omega
          have le1 : j * 2 + 2 ≤ l.length * 2 := by omega
          have n0_1 : (j * 2 = j * 2 + 1) = False := eq_false (by omega)
          have w1 : IntKind.wrap .i64 (q1 + 1) = q1 + 1 := wrap_i64 (by omega) (by omega)
          repeat' (first | ((first | refine wSeqr (fun xx hx => ?_) | refine wIf (fun xx hx => ?_) | refine wReg (fun xx hx => ?_) | (refine wRet ?_; (try simp only [thenQ, blockQ]); refine ends_by (fun xx hx => ?_))); have hc := trivial; (repeat' (simp only [hc, go_sem, Nat.reduceAdd, Nat.reduceMul, Nat.reduceSub, Nat.reduceEqDiff, Nat.reduceLT, Nat.reduceLeDiff, Int.reduceEq, Int.reduceLT, Int.reduceLE, reduceIte, aresults, aresult, hp0, h0, h1, h5, hcl, hlt, Option.isSome_some, List.length_set, wrap_succ (show j < 9223372036854775807 by omega), le0, le1, n0_1, List.getElem?_set, hc1, k1, j1, hb, w1] at hx; (try (rw [guardL_if] at hx; split at hx <;> rename_i hc)))); all_goals (subst hx; first | (refine ⟨_, rfl, fun ht => ?_, fun ht => ?_⟩ <;> (try simp only [Bool.not_eq_true', Bool.not_eq_false', Bool.and_eq_true, Bool.and_eq_false_iff, Bool.or_eq_true, Bool.or_eq_false_iff, decide_eq_true_eq, decide_eq_false_iff_not, beq_iff_eq, bne_iff_ne, Bool.not_true, Bool.not_false, Bool.true_eq_false, Bool.false_eq_true, ne_eq, Decidable.not_not, inB_t, inB_f] at ht)) | (refine ⟨_, rfl, ?_⟩; (try simp only [tupOf])))) | refine wSkip ?_ | (refine wExit ?_; simp only [thenQ, blockQ, reduceIte, Nat.reduceEqDiff]) | refine wSeq ?_ | refine wBlock ?_)
          all_goals first
            | (exfalso; (try simp only [Bool.not_eq_true', Bool.not_eq_false', Bool.and_eq_true, Bool.and_eq_false_iff, Bool.or_eq_true, Bool.or_eq_false_iff, decide_eq_true_eq, decide_eq_false_iff_not, beq_iff_eq, bne_iff_ne, Bool.not_true, Bool.not_false, Bool.true_eq_false, Bool.false_eq_true, ne_eq, Decidable.not_not, inB_t, inB_f] at *); omega)
            | skip
          (first | refine wSeqr (fun xx hx => ?_) | refine wReg (fun xx hx => ?_)); have hc := trivial; (repeat' (simp only [hc, go_sem, Nat.reduceAdd, Nat.reduceMul, Nat.reduceSub, Nat.reduceEqDiff, Nat.reduceLT, Nat.reduceLeDiff, Int.reduceEq, Int.reduceLT, Int.reduceLE, reduceIte, aresults, aresult, hp0, h0, h1, h5, hcl, hlt, Option.isSome_some, List.length_set, wrap_succ (show j < 9223372036854775807 by omega), le0, le1, n0_1, List.getElem?_set, hc1, k1, j1, hb, w1] at hx; (try (rw [guardL_if] at hx; split at hx <;> rename_i hc)))); generalize hq : call Try.prog cfg0 0 _ _ _ = q at hx
          obtain ⟨p1, H1, rfl, u1, v1, o1⟩ := m_ByteS k.Bytes (hkk.2.2) ⟨by omega, by omega⟩ hq (y1.reg (by repeat first | exact InReg.refl _ _ _ | refine InReg.set (by omega) ?_)) (by (try simp only [Hp.set_g]); omega)
          have hc := trivial; (repeat' (simp only [hc, go_sem, Nat.reduceAdd, Nat.reduceMul, Nat.reduceSub, Nat.reduceEqDiff, Nat.reduceLT, Nat.reduceLeDiff, Int.reduceEq, Int.reduceLT, Int.reduceLE, reduceIte, aresults, aresult, hp0, h0, h1, h5, hcl, hlt, Option.isSome_some, List.length_set, wrap_succ (show j < 9223372036854775807 by omega), le0, le1, n0_1, List.getElem?_set, hc1, k1, j1, hb, w1] at hx; (try (rw [guardL_if] at hx; split at hx <;> rename_i hc)))); all_goals (subst hx; refine ⟨_, rfl, ?_⟩)
          have G1 : H.g ≤ H1.g := by have := o1.1; (try simp only [Hp.set_g] at this); omega
          have hB1 : H1.h b = _ := o1.2 b (by (try simp only [Hp.set_g]); omega) (Or.inr (by omega))
          simp only [Hp.set_h, if_true, hb] at hB1
          have hr2 : cs.drop ((j + 1) * 2) = r2 := by rw [show (j + 1) * 2 = j * 2 + 2 by omega]; exact row_rest hcs rfl
          repeat' (first | ((first | refine wSeqr (fun xx hx => ?_) | refine wIf (fun xx hx => ?_) | refine wReg (fun xx hx => ?_) | (refine wRet ?_; (try simp only [thenQ, blockQ]); refine ends_by (fun xx hx => ?_))); have hc := trivial; (repeat' (simp only [hc, go_sem, Nat.reduceAdd, Nat.reduceMul, Nat.reduceSub, Nat.reduceEqDiff, Nat.reduceLT, Nat.reduceLeDiff, Int.reduceEq, Int.reduceLT, Int.reduceLE, reduceIte, aresults, aresult, hp0, h0, h1, h5, hcl, hlt, Option.isSome_some, List.length_set, wrap_succ (show j < 9223372036854775807 by omega), le0, le1, n0_1, List.getElem?_set, hc1, k1, j1, hB1, w1] at hx; (try (rw [guardL_if] at hx; split at hx <;> rename_i hc)))); all_goals (subst hx; first | (refine ⟨_, rfl, fun ht => ?_, fun ht => ?_⟩ <;> (try simp only [Bool.not_eq_true', Bool.not_eq_false', Bool.and_eq_true, Bool.and_eq_false_iff, Bool.or_eq_true, Bool.or_eq_false_iff, decide_eq_true_eq, decide_eq_false_iff_not, beq_iff_eq, bne_iff_ne, Bool.not_true, Bool.not_false, Bool.true_eq_false, Bool.false_eq_true, ne_eq, Decidable.not_not, inB_t, inB_f] at ht)) | (refine ⟨_, rfl, ?_⟩; (try simp only [tupOf])))) | refine wSkip ?_ | (refine wExit ?_; simp only [thenQ, blockQ, reduceIte, Nat.reduceEqDiff]) | refine wSeq ?_ | refine wBlock ?_)
          all_goals first
            | (exfalso; (try simp only [Bool.not_eq_true', Bool.not_eq_false', Bool.and_eq_true, Bool.and_eq_false_iff, Bool.or_eq_true, Bool.or_eq_false_iff, decide_eq_true_eq, decide_eq_false_iff_not, beq_iff_eq, bne_iff_ne, Bool.not_true, Bool.not_false, Bool.true_eq_false, Bool.false_eq_true, ne_eq, Decidable.not_not, inB_t, inB_f] at *); omega)
            | skip
          refine ⟨_, Nat.sub_lt (by omega) Nat.one_pos, j + 1, p1, by omega, by simp only [upd_eq, Nat.reduceEqDiff, if_false, if_true, h0, h1, h5], by simp only [upd_eq, Nat.reduceEqDiff, if_false, if_true, h0, h1, h5], by simp only [upd_eq, Nat.reduceEqDiff, if_false, if_true, h0, h1, h5], ?_⟩
          refine ⟨_, m2, by simp only [Hp.set_h, if_true, hB1]; rfl, by simp only [List.length_set]; exact hcl, ⟨by omega, by omega⟩, by omega, ?_, ?_⟩
          · repeat rw [drop_set (by omega)]
            rw [hr2]
            exact hy2.reg (by repeat first | exact InReg.refl _ _ _ | refine InReg.set (by omega) ?_ | refine InReg.out o1 (by omega) (by omega) ?_)
          · repeat first | exact hout | refine OutOf.set ?_ hb1 hb2 | refine OutOf.out o1 (by omega) (by omega) ?_
        · repeat' (first | ((first | refine wSeqr (fun xx hx => ?_) | refine wIf (fun xx hx => ?_) | refine wReg (fun xx hx => ?_) | (refine wRet ?_; (try simp only [thenQ, blockQ]); refine ends_by (fun xx hx => ?_))); have hc := trivial; (repeat' (simp only [hc, go_sem, Nat.reduceAdd, Nat.reduceMul, Nat.reduceSub, Nat.reduceEqDiff, Nat.reduceLT, Nat.reduceLeDiff, Int.reduceEq, Int.reduceLT, Int.reduceLE, reduceIte, aresults, aresult, hp0, h0, h1, h5] at hx; (try (rw [guardL_if] at hx; split at hx <;> rename_i hc)))); all_goals (subst hx; first | (refine ⟨_, rfl, fun ht => ?_, fun ht => ?_⟩ <;> (try simp only [Bool.not_eq_true', Bool.not_eq_false', Bool.and_eq_true, Bool.and_eq_false_iff, Bool.or_eq_true, Bool.or_eq_false_iff, decide_eq_true_eq, decide_eq_false_iff_not, beq_iff_eq, bne_iff_ne, Bool.not_true, Bool.not_false, Bool.true_eq_false, Bool.false_eq_true, ne_eq, Decidable.not_not, inB_t, inB_f] at ht)) | (refine ⟨_, rfl, ?_⟩; (try simp only [tupOf])))) | refine wSkip ?_ | (refine wExit ?_; simp only [thenQ, blockQ, reduceIte, Nat.reduceEqDiff]) | refine wSeq ?_ | refine wBlock ?_)
          all_goals first
            | (exfalso; (try simp only [Bool.not_eq_true', Bool.not_eq_false', Bool.and_eq_true, Bool.and_eq_false_iff, Bool.or_eq_true, Bool.or_eq_false_iff, decide_eq_true_eq, decide_eq_false_iff_not, beq_iff_eq, bne_iff_ne, Bool.not_true, Bool.not_false, Bool.true_eq_false, Bool.false_eq_true, ne_eq, Decidable.not_not, inB_t, inB_f] at *); omega)
            | skip
          exact ⟨q1, rfl, by omega, by omega, hout⟩
      · refine ⟨0, q, by omega, rfl, rfl, rfl, ?_⟩
        exact ⟨cs0, lo, hb0, hcl0, ⟨by omega, by omega⟩, by omega, hly, OutOf.refl _ _ _⟩
  obtain ⟨⟨v, H'⟩, h1, q', rfl, h2, h3, h4⟩ := key
  exact ⟨q', H', by rw [call_raw Try.prog cfg0 Try.func126 rfl ok_markKeyS rfl rfl, h1], h2, h3, h4⟩
theorem ok_markWaitS : fnOk Try.prog cfg0 127 Try.f127 = true := by kernel_rfl
theorem m_WaitS (l : List WaitM) (hk : l.length ≤ 1048576 ∧ ∀ x ∈ l, x.ok 1048576) {q : Int} (hq0 : 0 ≤ q ∧ q ≤ 9223372036846387199) {lo hi : Nat} {z : AV} {K : Hp} {r : Option (AV × Hp)} (hr : call Try.prog cfg0 0 127 [z, .v (.int .i64 q)] K = r) (hL : Laid K lo hi [.lst false (l.map encWait)] [z]) (hg : hi ≤ K.g) :
    ∃ q' H', r = some (.v (.int .i64 q'), H') ∧ q ≤ q' ∧ q' ≤ q + (l.length : Nat) * 7 ∧ OutOf lo hi K H' := by
  subst hr
  have hl : l.length ≤ 1048576 := hk.1
  have key : ∃ r, body Try.prog cfg0 127 Try.f127 [z, .v (.int .i64 q)] K = some r ∧ (∃ q', r.1 = .v (.int .i64 q') ∧ q ≤ q' ∧ q' ≤ q + (l.length : Nat) * 7 ∧ OutOf lo hi K r.2) := by
    refine body_wp (rs := [.tmp 4]) rfl rfl (R := fun x H' => ∃ q', x = .v (.int .i64 q') ∧ q ≤ q' ∧ q' ≤ q + (l.length : Nat) * 7 ∧ OutOf lo hi K H') ?_
    have hp0 : ∀ b, cfg0.pol 127 b = 0 := fun b => rfl
    rcases hL.inv1 with ⟨he, rfl⟩ | ⟨b, sz, cs0, hne, rfl, hsz, hs, hb1, hb2, hly, hb0⟩
    · repeat' (first | ((first | refine wSeqr (fun xx hx => ?_) | refine wIf (fun xx hx => ?_) | refine wReg (fun xx hx => ?_) | (refine wRet ?_; (try simp only [thenQ, blockQ]); refine ends_by (fun xx hx => ?_))); have hc := trivial; (repeat' (simp only [hc, go_sem, Nat.reduceAdd, Nat.reduceMul, Nat.reduceSub, Nat.reduceEqDiff, Nat.reduceLT, Nat.reduceLeDiff, Int.reduceEq, Int.reduceLT, Int.reduceLE, reduceIte, aresults, aresult, hp0] at hx; (try (rw [guardL_if] at hx; split at hx <;> rename_i hc)))); all_goals (subst hx; first | (refine ⟨_, rfl, fun ht => ?_, fun ht => ?_⟩ <;> (try simp only [Bool.not_eq_true', Bool.not_eq_false', Bool.and_eq_true, Bool.and_eq_false_iff, Bool.or_eq_true, Bool.or_eq_false_iff, decide_eq_true_eq, decide_eq_false_iff_not, beq_iff_eq, bne_iff_ne, Bool.not_true, Bool.not_false, Bool.true_eq_false, Bool.false_eq_true, ne_eq, Decidable.not_not, inB_t, inB_f] at ht)) | (refine ⟨_, rfl, ?_⟩; (try simp only [tupOf])))) | refine wSkip ?_ | (refine wExit ?_; simp only [thenQ, blockQ, reduceIte, Nat.reduceEqDiff]) | refine wSeq ?_ | refine wBlock ?_)
      refine wLoop (fun n s => s.1 0 = .lst false [] ∧ s.1 1 = .v (.int .i64 q) ∧ s.1 5 = .v (.int .i64 0) ∧ s.2 = K) (fun n s hI => ?_) 0 _ ⟨rfl, rfl, rfl, rfl⟩
      obtain ⟨e, H1⟩ := s
      obtain ⟨h0, h1, h5, hH⟩ := hI
      simp only at h0 h1 h5 hH
      repeat' (first | ((first | refine wSeqr (fun xx hx => ?_) | refine wIf (fun xx hx => ?_) | refine wReg (fun xx hx => ?_) | (refine wRet ?_; (try simp only [thenQ, blockQ]); refine ends_by (fun xx hx => ?_))); have hc := trivial; (repeat' (simp only [hc, go_sem, Nat.reduceAdd, Nat.reduceMul, Nat.reduceSub, Nat.reduceEqDiff, Nat.reduceLT, Nat.reduceLeDiff, Int.reduceEq, Int.reduceLT, Int.reduceLE, reduceIte, aresults, aresult, hp0, h0, h1, h5, List.length_nil] at hx; (try (rw [guardL_if] at hx; split at hx <;> rename_i hc)))); all_goals (subst hx; first | (refine ⟨_, rfl, fun ht => ?_, fun ht => ?_⟩ <;> (try simp only [Bool.not_eq_true', Bool.not_eq_false', Bool.and_eq_true, Bool.and_eq_false_iff, Bool.or_eq_true, Bool.or_eq_false_iff, decide_eq_true_eq, decide_eq_false_iff_not, beq_iff_eq, bne_iff_ne, Bool.not_true, Bool.not_false, Bool.true_eq_false, Bool.false_eq_true, ne_eq, Decidable.not_not, inB_t, inB_f] at ht)) | (refine ⟨_, rfl, ?_⟩; (try simp only [tupOf])))) | refine wSkip ?_ | (refine wExit ?_; simp only [thenQ, blockQ, reduceIte, Nat.reduceEqDiff]) | refine wSeq ?_ | refine wBlock ?_)
      all_goals first
        | (exfalso; (try simp only [Bool.not_eq_true', Bool.not_eq_false', Bool.and_eq_true, Bool.and_eq_false_iff, Bool.or_eq_true, Bool.or_eq_false_iff, decide_eq_true_eq, decide_eq_false_iff_not, beq_iff_eq, bne_iff_ne, Bool.not_true, Bool.not_false, Bool.true_eq_false, Bool.false_eq_true, ne_eq, Decidable.not_not, inB_t, inB_f] at *); simp at *; done)
        | (subst hH; exact ⟨q, rfl, by omega, by omega, OutOf.refl _ _ _⟩)
    · have hrl : (l.map encWait).length = l.length := List.length_map ..
      have hszv : sz = 7 := by
        cases l with
        | nil => exact absurd rfl hne
        | cons a l => exact (hs _ (List.mem_cons_self ..)).symm
      subst hszv
      rw [hrl]
      have hcl0 : cs0.length = l.length * 7 := by rw [hly.len, flat_len 7 _ hs, hrl]
      repeat' (first | ((first | refine wSeqr (fun xx hx => ?_) | refine wIf (fun xx hx => ?_) | refine wReg (fun xx hx => ?_) | (refine wRet ?_; (try simp only [thenQ, blockQ]); refine ends_by (fun xx hx => ?_))); have hc := trivial; (repeat' (simp only [hc, go_sem, Nat.reduceAdd, Nat.reduceMul, Nat.reduceSub, Nat.reduceEqDiff, Nat.reduceLT, Nat.reduceLeDiff, Int.reduceEq, Int.reduceLT, Int.reduceLE, reduceIte, aresults, aresult, hp0] at hx; (try (rw [guardL_if] at hx; split at hx <;> rename_i hc)))); all_goals (subst hx; first | (refine ⟨_, rfl, fun ht => ?_, fun ht => ?_⟩ <;> (try simp only [Bool.not_eq_true', Bool.not_eq_false', Bool.and_eq_true, Bool.and_eq_false_iff, Bool.or_eq_true, Bool.or_eq_false_iff, decide_eq_true_eq, decide_eq_false_iff_not, beq_iff_eq, bne_iff_ne, Bool.not_true, Bool.not_false, Bool.true_eq_false, Bool.false_eq_true, ne_eq, Decidable.not_not, inB_t, inB_f] at ht)) | (refine ⟨_, rfl, ?_⟩; (try simp only [tupOf])))) | refine wSkip ?_ | (refine wExit ?_; simp only [thenQ, blockQ, reduceIte, Nat.reduceEqDiff]) | refine wSeq ?_ | refine wBlock ?_)
      refine wLoop (fun k s => ∃ (j : Nat) (q1 : Int), j + k = l.length ∧ s.1 0 = .sl b 7 0 l.length ∧ s.1 1 = .v (.int .i64 q1) ∧ s.1 5 = .v (.int .i64 (j : Nat)) ∧ (∃ cs mid, s.2.h b = some cs ∧ cs.length = l.length * 7 ∧ (q ≤ q1 ∧ q1 ≤ q + (j : Nat) * 7) ∧ lo ≤ mid ∧ Laid s.2 mid b ((l.drop j).map encWait).flatten (cs.drop (j * 7)) ∧ OutOf lo hi K s.2)) (fun k s hI => ?_) (l.length) _ ?_
      · obtain ⟨e, H⟩ := s
        obtain ⟨j, q1, hj, h0, h1, h5, hh⟩ := hI
        simp only at h0 h1 h5 hh
        obtain ⟨cs, mid, hb, hcl, hq1, hmid, hly, hout⟩ := hh
        by_cases hlt : j < l.length
        · obtain ⟨k, hgk, hd, hm⟩ := at_drop hlt
          have hkk := hk.2 k hm
          rw [hd, List.map_cons, List.flatten_cons] at hly
          obtain ⟨m2, r1, r2, hcs, hy1, hy2⟩ := Laid.split (encWait k) hly
          have e1 := hy1.le
          have e2 := hy2.le
          have hG := hout.1
          have hr1 : r1.length = 7 := hy1.len
          have f0 := hy1
          simp only [encWait] at f0
          obtain ⟨t0, rfl, f1⟩ := f0.invV
          obtain ⟨t1, rfl, f2⟩ := f1.invV
          obtain ⟨t2, rfl, f3⟩ := f2.invV
          obtain ⟨t3, rfl, f4⟩ := f3.invV
          obtain ⟨t4, rfl, f5⟩ := f4.invV
          obtain ⟨t5, rfl, f6⟩ := f5.invV
          obtain ⟨t6, rfl, f7⟩ := f6.invV
          obtain rfl := f7.invN
          have le0 : j * 7 + 1 ≤ l.length * 7 := by omega
          have le1 : j * 7 + 2 ≤ l.length * 7 := by omega
          have le2 : j * 7 + 3 ≤ l.length * 7 := by omega
          have le3 : j * 7 + 4 ≤ l.length * 7 := by omega
          have le4 : j * 7 + 5 ≤ l.length * 7 := by omega
          have le5 : j * 7 + 6 ≤ l.length * 7 := by omega
          have le6 : j * 7 + 7 ≤ l.length * 7 := by omega
          have w1 : IntKind.wrap .i64 (q1 + 1) = q1 + 1 := wrap_i64 (by omega) (by omega)
          have w2 : IntKind.wrap .i64 ((q1 + 1) + 1) = (q1 + 1) + 1 := wrap_i64 (by omega) (by omega)
          have w3 : IntKind.wrap .i64 (((q1 + 1) + 1) + 1) = ((q1 + 1) + 1) + 1 := wrap_i64 (by omega) (by omega)
          have w4 : IntKind.wrap .i64 ((((q1 + 1) + 1) + 1) + 1) = (((q1 + 1) + 1) + 1) + 1 := wrap_i64 (by omega) (by omega)
          have w5 : IntKind.wrap .i64 (((((q1 + 1) + 1) + 1) + 1) + 1) = ((((q1 + 1) + 1) + 1) + 1) + 1 := wrap_i64 (by omega) (by omega)
          have w6 : IntKind.wrap .i64 ((((((q1 + 1) + 1) + 1) + 1) + 1) + 1) = (((((q1 + 1) + 1) + 1) + 1) + 1) + 1 := wrap_i64 (by omega) (by omega)
          have w7 : IntKind.wrap .i64 (((((((q1 + 1) + 1) + 1) + 1) + 1) + 1) + 1) = ((((((q1 + 1) + 1) + 1) + 1) + 1) + 1) + 1 := wrap_i64 (by omega) (by omega)
          have hr2 : cs.drop ((j + 1) * 7) = r2 := by rw [show (j + 1) * 7 = j * 7 + 7 by omega]; exact row_rest hcs rfl
          repeat' (first | ((first | refine wSeqr (fun xx hx => ?_) | refine wIf (fun xx hx => ?_) | refine wReg (fun xx hx => ?_) | (refine wRet ?_; (try simp only [thenQ, blockQ]); refine ends_by (fun xx hx => ?_))); have hc := trivial; (repeat' (simp only [hc, go_sem, Nat.reduceAdd, Nat.reduceMul, Nat.reduceSub, Nat.reduceEqDiff, Nat.reduceLT, Nat.reduceLeDiff, Int.reduceEq, Int.reduceLT, Int.reduceLE, reduceIte, aresults, aresult, hp0, h0, h1, h5, hcl, hlt, Option.isSome_some, List.length_set, wrap_succ (show j < 9223372036854775807 by omega), le0, le1, le2, le3, le4, le5, le6, hb, w1, w2, w3, w4, w5, w6, w7] at hx; (try (rw [guardL_if] at hx; split at hx <;> rename_i hc)))); all_goals (subst hx; first | (refine ⟨_, rfl, fun ht => ?_, fun ht => ?_⟩ <;> (try simp only [Bool.not_eq_true', Bool.not_eq_false', Bool.and_eq_true, Bool.and_eq_false_iff, Bool.or_eq_true, Bool.or_eq_false_iff, decide_eq_true_eq, decide_eq_false_iff_not, beq_iff_eq, bne_iff_ne, Bool.not_true, Bool.not_false, Bool.true_eq_false, Bool.false_eq_true, ne_eq, Decidable.not_not, inB_t, inB_f] at ht)) | (refine ⟨_, rfl, ?_⟩; (try simp only [tupOf])))) | refine wSkip ?_ | (refine wExit ?_; simp only [thenQ, blockQ, reduceIte, Nat.reduceEqDiff]) | refine wSeq ?_ | refine wBlock ?_)
          all_goals first
            | (exfalso; (try simp only [Bool.not_eq_true', Bool.not_eq_false', Bool.and_eq_true, Bool.and_eq_false_iff, Bool.or_eq_true, Bool.or_eq_false_iff, decide_eq_true_eq, decide_eq_false_iff_not, beq_iff_eq, bne_iff_ne, Bool.not_true, Bool.not_false, Bool.true_eq_false, Bool.false_eq_true, ne_eq, Decidable.not_not, inB_t, inB_f] at *); omega)
            | skip
          refine ⟨_, Nat.sub_lt (by omega) Nat.one_pos, j + 1, (((((((q1 + 1) + 1) + 1) + 1) + 1) + 1) + 1), by omega, by simp only [upd_eq, Nat.reduceEqDiff, if_false, if_true, h0, h1, h5], by simp only [upd_eq, Nat.reduceEqDiff, if_false, if_true, h0, h1, h5], by simp only [upd_eq, Nat.reduceEqDiff, if_false, if_true, h0, h1, h5], ?_⟩
          refine ⟨_, m2, by simp only [Hp.set_h, if_true, hb]; rfl, by simp only [List.length_set]; exact hcl, ⟨by omega, by omega⟩, by omega, ?_, ?_⟩
          · repeat rw [drop_set (by omega)]
            rw [hr2]
            exact hy2.reg (by repeat first | exact InReg.refl _ _ _ | refine InReg.set (by omega) ?_)
          · repeat first | exact hout | refine OutOf.set ?_ hb1 hb2
        · repeat' (first | ((first | refine wSeqr (fun xx hx => ?_) | refine wIf (fun xx hx => ?_) | refine wReg (fun xx hx => ?_) | (refine wRet ?_; (try simp only [thenQ, blockQ]); refine ends_by (fun xx hx => ?_))); have hc := trivial; (repeat' (simp only [hc, go_sem, Nat.reduceAdd, Nat.reduceMul, Nat.reduceSub, Nat.reduceEqDiff, Nat.reduceLT, Nat.reduceLeDiff, Int.reduceEq, Int.reduceLT, Int.reduceLE, reduceIte, aresults, aresult, hp0, h0, h1, h5] at hx; (try (rw [guardL_if] at hx; split at hx <;> rename_i hc)))); all_goals (subst hx; first | (refine ⟨_, rfl, fun ht => ?_, fun ht => ?_⟩ <;> (try simp only [Bool.not_eq_true', Bool.not_eq_false', Bool.and_eq_true, Bool.and_eq_false_iff, Bool.or_eq_true, Bool.or_eq_false_iff, decide_eq_true_eq, decide_eq_false_iff_not, beq_iff_eq, bne_iff_ne, Bool.not_true, Bool.not_false, Bool.true_eq_false, Bool.false_eq_true, ne_eq, Decidable.not_not, inB_t, inB_f] at ht)) | (refine ⟨_, rfl, ?_⟩; (try simp only [tupOf])))) | refine wSkip ?_ | (refine wExit ?_; simp only [thenQ, blockQ, reduceIte, Nat.reduceEqDiff]) | refine wSeq ?_ | refine wBlock ?_)
          all_goals first
            | (exfalso; (try simp only [Bool.not_eq_true', Bool.not_eq_false', Bool.and_eq_true, Bool.and_eq_false_iff, Bool.or_eq_true, Bool.or_eq_false_iff, decide_eq_true_eq, decide_eq_false_iff_not, beq_iff_eq, bne_iff_ne, Bool.not_true, Bool.not_false, Bool.true_eq_false, Bool.false_eq_true, ne_eq, Decidable.not_not, inB_t, inB_f] at *); omega)
            | skip
          exact ⟨q1, rfl, by omega, by omega, hout⟩
      · refine ⟨0, q, by omega, rfl, rfl, rfl, ?_⟩
        exact ⟨cs0, lo, hb0, hcl0, ⟨by omega, by omega⟩, by omega, hly, OutOf.refl _ _ _⟩
  obtain ⟨⟨v, H'⟩, h1, q', rfl, h2, h3, h4⟩ := key
  exact ⟨q', H', by rw [call_raw Try.prog cfg0 Try.func127 rfl ok_markWaitS rfl rfl, h1], h2, h3, h4⟩
theorem ok_markWindowS : fnOk Try.prog cfg0 128 Try.f128 = true := by kernel_rfl
theorem m_WindowS (l : List WindowM) (hk : l.length ≤ 1048576 ∧ ∀ x ∈ l, x.ok 1048576) {q : Int} (hq0 : 0 ≤ q ∧ q ≤ 9223370937341050879) {lo hi : Nat} {z : AV} {K : Hp} {r : Option (AV × Hp)} (hr : call Try.prog cfg0 0 128 [z, .v (.int .i64 q)] K = r) (hL : Laid K lo hi [.lst false (l.map encWindow)] [z]) (hg : hi ≤ K.g) :
    ∃ q' H', r = some (.v (.int .i64 q'), H') ∧ q ≤ q' ∧ q' ≤ q + (l.length : Nat) * 1048577 ∧ OutOf lo hi K H' := by
  subst hr
  have hl : l.length ≤ 1048576 := hk.1
  have key : ∃ r, body Try.prog cfg0 128 Try.f128 [z, .v (.int .i64 q)] K = some r ∧ (∃ q', r.1 = .v (.int .i64 q') ∧ q ≤ q' ∧ q' ≤ q + (l.length : Nat) * 1048577 ∧ OutOf lo hi K r.2) := by
    refine body_wp (rs := [.tmp 4]) rfl rfl (R := fun x H' => ∃ q', x = .v (.int .i64 q') ∧ q ≤ q' ∧ q' ≤ q + (l.length : Nat) * 1048577 ∧ OutOf lo hi K H') ?_
    have hp0 : ∀ b, cfg0.pol 128 b = 0 := fun b => rfl
    rcases hL.inv1 with ⟨he, rfl⟩ | ⟨b, sz, cs0, hne, rfl, hsz, hs, hb1, hb2, hly, hb0⟩
    · repeat' (first | ((first | refine wSeqr (fun xx hx => ?_) | refine wIf (fun xx hx => ?_) | refine wReg (fun xx hx => ?_) | (refine wRet ?_; (try simp only [thenQ, blockQ]); refine ends_by (fun xx hx => ?_))); have hc := trivial; (repeat' (simp only [hc, go_sem, Nat.reduceAdd, Nat.reduceMul, Nat.reduceSub, Nat.reduceEqDiff, Nat.reduceLT, Nat.reduceLeDiff, Int.reduceEq, Int.reduceLT, Int.reduceLE, reduceIte, aresults, aresult, hp0] at hx; (try (rw [guardL_if] at hx; split at hx <;> rename_i hc)))); all_goals (subst hx; first | (refine ⟨_, rfl, fun ht => ?_, fun ht => ?_⟩ <;> (try simp only [Bool.not_eq_true', Bool.not_eq_false', Bool.and_eq_true, Bool.and_eq_false_iff, Bool.or_eq_true, Bool.or_eq_false_iff, decide_eq_true_eq, decide_eq_false_iff_not, beq_iff_eq, bne_iff_ne, Bool.not_true, Bool.not_false, Bool.true_eq_false, Bool.false_eq_true, ne_eq, Decidable.not_not, inB_t, inB_f] at ht)) | (refine ⟨_, rfl, ?_⟩; (try simp only [tupOf])))) | refine wSkip ?_ | (refine wExit ?_; simp only [thenQ, blockQ, reduceIte, Nat.reduceEqDiff]) | refine wSeq ?_ | refine wBlock ?_)
      refine wLoop (fun n s => s.1 0 = .lst false [] ∧ s.1 1 = .v (.int .i64 q) ∧ s.1 5 = .v (.int .i64 0) ∧ s.2 = K) (fun n s hI => ?_) 0 _ ⟨rfl, rfl, rfl, rfl⟩
      obtain ⟨e, H1⟩ := s
      obtain ⟨h0, h1, h5, hH⟩ := hI
      simp only at h0 h1 h5 hH
      repeat' (first | ((first | refine wSeqr (fun xx hx => ?_) | refine wIf (fun xx hx => ?_) | refine wReg (fun xx hx => ?_) | (refine wRet ?_; (try simp only [thenQ, blockQ]); refine ends_by (fun xx hx => ?_))); have hc := trivial; (repeat' (simp only [hc, go_sem, Nat.reduceAdd, Nat.reduceMul, Nat.reduceSub, Nat.reduceEqDiff, Nat.reduceLT, Nat.reduceLeDiff, Int.reduceEq, Int.reduceLT, Int.reduceLE, reduceIte, aresults, aresult, hp0, h0, h1, h5, List.length_nil] at hx; (try (rw [guardL_if] at hx; split at hx <;> rename_i hc)))); all_goals (subst hx; first | (refine ⟨_, rfl, fun ht => ?_, fun ht => ?_⟩ <;> (try simp only [Bool.not_eq_true', Bool.not_eq_false', Bool.and_eq_true, Bool.and_eq_false_iff, Bool.or_eq_true, Bool.or_eq_false_iff, decide_eq_true_eq, decide_eq_false_iff_not, beq_iff_eq, bne_iff_ne, Bool.not_true, Bool.not_false, Bool.true_eq_false, Bool.false_eq_true, ne_eq, Decidable.not_not, inB_t, inB_f] at ht)) | (refine ⟨_, rfl, ?_⟩; (try simp only [tupOf])))) | refine wSkip ?_ | (refine wExit ?_; simp only [thenQ, blockQ, reduceIte, Nat.reduceEqDiff]) | refine wSeq ?_ | refine wBlock ?_)
      all_goals first
        | (exfalso; (try simp only [Bool.not_eq_true', Bool.not_eq_false', Bool.and_eq_true, Bool.and_eq_false_iff, Bool.or_eq_true, Bool.or_eq_false_iff, decide_eq_true_eq, decide_eq_false_iff_not, beq_iff_eq, bne_iff_ne, Bool.not_true, Bool.not_false, Bool.true_eq_false, Bool.false_eq_true, ne_eq, Decidable.not_not, inB_t, inB_f] at *); simp at *; done)
        | (subst hH; exact ⟨q, rfl, by omega, by omega, OutOf.refl _ _ _⟩)
    · have hrl : (l.map encWindow).length = l.length := List.length_map ..
      have hszv : sz = 2 := by
        cases l with
        | nil => exact absurd rfl hne
        | cons a l => exact (hs _ (List.mem_cons_self ..)).symm
      subst hszv
      rw [hrl]
      have hcl0 : cs0.length = l.length * 2 := by rw [hly.len, flat_len 2 _ hs, hrl]
      repeat' (first | ((first | refine wSeqr (fun xx hx => ?_) | refine wIf (fun xx hx => ?_) | refine wReg (fun xx hx => ?_) | (refine wRet ?_; (try simp only [thenQ, blockQ]); refine ends_by (fun xx hx => ?_))); have hc := trivial; (repeat' (simp only [hc, go_sem, Nat.reduceAdd, Nat.reduceMul, Nat.reduceSub, Nat.reduceEqDiff, Nat.reduceLT, Nat.reduceLeDiff, Int.reduceEq, Int.reduceLT, Int.reduceLE, reduceIte, aresults, aresult, hp0] at hx; (try (rw [guardL_if] at hx; split at hx <;> rename_i hc)))); all_goals (subst hx; first | (refine ⟨_, rfl, fun ht => ?_, fun ht => ?_⟩ <;> (try simp only [Bool.not_eq_true', Bool.not_eq_false', Bool.and_eq_true, Bool.and_eq_false_iff, Bool.or_eq_true, Bool.or_eq_false_iff, decide_eq_true_eq, decide_eq_false_iff_not, beq_iff_eq, bne_iff_ne, Bool.not_true, Bool.not_false, Bool.true_eq_false, Bool.false_eq_true, ne_eq, Decidable.not_not, inB_t, inB_f] at ht)) | (refine ⟨_, rfl, ?_⟩; (try simp only [tupOf])))) | refine wSkip ?_ | (refine wExit ?_; simp only [thenQ, blockQ, reduceIte, Nat.reduceEqDiff]) | refine wSeq ?_ | refine wBlock ?_)
      refine wLoop (fun k s => ∃ (j : Nat) (q1 : Int), j + k = l.length ∧ s.1 0 = .sl b 2 0 l.length ∧ s.1 1 = .v (.int .i64 q1) ∧ s.1 5 = .v (.int .i64 (j : Nat)) ∧ (∃ cs mid, s.2.h b = some cs ∧ cs.length = l.length * 2 ∧ (q ≤ q1 ∧ q1 ≤ q + (j : Nat) * 1048577) ∧ lo ≤ mid ∧ Laid s.2 mid b ((l.drop j).map encWindow).flatten (cs.drop (j * 2)) ∧ OutOf lo hi K s.2)) (fun k s hI => ?_) (l.length) _ ?_
      · obtain ⟨e, H⟩ := s
        obtain ⟨j, q1, hj, h0, h1, h5, hh⟩ := hI
        simp only at h0 h1 h5 hh
        obtain ⟨cs, mid, hb, hcl, hq1, hmid, hly, hout⟩ := hh
        by_cases hlt : j < l.length
        · obtain ⟨k, hgk, hd, hm⟩ := at_drop hlt
          have hkk := hk.2 k hm
          rw [hd, List.map_cons, List.flatten_cons] at hly
          obtain ⟨m2, r1, r2, hcs, hy1, hy2⟩ := Laid.split (encWindow k) hly
          have e1 := hy1.le
          have e2 := hy2.le
          have hG := hout.1
          have hr1 : r1.length = 2 := hy1.len
          have f0 := hy1
          simp only [encWindow] at f0
          obtain ⟨t0, rfl, f1⟩ := f0.invV
          obtain ⟨z1, t1, m1x, rfl, a1, b1, y1, f2⟩ := f1.invL
          have hc1 : cs[j * 2 + 1]? = some z1 := (row_cell hcs 1 (by rw [hr1]; omega)).trans rfl
          have l1 : k.Seen.length ≤ 1048576 := hkk.2.2
          have k1 := (okc_laid y1).1
          have j1 := (okc_laid y1).2
          obtain rfl := f2.invN
          have le0 : j * 2 + 1 ≤ l.length * 2 := by omega
          have le1 : j * 2 + 2 ≤ l.length * 2 := by omega
          have n0_1 : (j * 2 = j * 2 + 1) = False := eq_false (by omega)
          have w1 : IntKind.wrap .i64 (q1 + 1) = q1 + 1 := wrap_i64 (by omega) (by omega)
          repeat' (first | ((first | refine wSeqr (fun xx hx => ?_) | refine wIf (fun xx hx => ?_) | refine wReg (fun xx hx => ?_) | (refine wRet ?_; (try simp only [thenQ, blockQ]); refine ends_by (fun xx hx => ?_))); have hc := trivial; (repeat' (simp only [hc, go_sem, Nat.reduceAdd, Nat.reduceMul, Nat.reduceSub, Nat.reduceEqDiff, Nat.reduceLT, Nat.reduceLeDiff, Int.reduceEq, Int.reduceLT, Int.reduceLE, reduceIte, aresults, aresult, hp0, h0, h1, h5, hcl, hlt, Option.isSome_some, List.length_set, wrap_succ (show j < 9223372036854775807 by omega), le0, le1, n0_1, List.getElem?_set, hc1, k1, j1, hb, w1] at hx; (try (rw [guardL_if] at hx; split at hx <;> rename_i hc)))); all_goals (subst hx; first | (refine ⟨_, rfl, fun ht => ?_, fun ht => ?_⟩ <;> (try simp only [Bool.not_eq_true', Bool.not_eq_false', Bool.and_eq_true, Bool.and_eq_false_iff, Bool.or_eq_true, Bool.or_eq_false_iff, decide_eq_true_eq, decide_eq_false_iff_not, beq_iff_eq, bne_iff_ne, Bool.not_true, Bool.not_false, Bool.true_eq_false, Bool.false_eq_true, ne_eq, Decidable.not_not, inB_t, inB_f] at ht)) | (refine ⟨_, rfl, ?_⟩; (try simp only [tupOf])))) | refine wSkip ?_ | (refine wExit ?_; simp only [thenQ, blockQ, reduceIte, Nat.reduceEqDiff]) | refine wSeq ?_ | refine wBlock ?_)
          all_goals first
            | (exfalso; (try simp only [Bool.not_eq_true', Bool.not_eq_false', Bool.and_eq_true, Bool.and_eq_false_iff, Bool.or_eq_true, Bool.or_eq_false_iff, decide_eq_true_eq, decide_eq_false_iff_not, beq_iff_eq, bne_iff_ne, Bool.not_true, Bool.not_false, Bool.true_eq_false, Bool.false_eq_true, ne_eq, Decidable.not_not, inB_t, inB_f] at *); omega)
            | skip
          (first | refine wSeqr (fun xx hx => ?_) | refine wReg (fun xx hx => ?_)); have hc := trivial; (repeat' (simp only [hc, go_sem, Nat.reduceAdd, Nat.reduceMul, Nat.reduceSub, Nat.reduceEqDiff, Nat.reduceLT, Nat.reduceLeDiff, Int.reduceEq, Int.reduceLT, Int.reduceLE, reduceIte, aresults, aresult, hp0, h0, h1, h5, hcl, hlt, Option.isSome_some, List.length_set, wrap_succ (show j < 9223372036854775807 by omega), le0, le1, n0_1, List.getElem?_set, hc1, k1, j1, hb, w1] at hx; (try (rw [guardL_if] at hx; split at hx <;> rename_i hc)))); generalize hq : call Try.prog cfg0 0 _ _ _ = q at hx
          obtain ⟨p1, H1, rfl, u1, v1, o1⟩ := m_Int64S k.Seen (hkk.2.2) ⟨by omega, by omega⟩ hq (y1.reg (by repeat first | exact InReg.refl _ _ _ | refine InReg.set (by omega) ?_)) (by (try simp only [Hp.set_g]); omega)
          have hc := trivial; (repeat' (simp only [hc, go_sem, Nat.reduceAdd, Nat.reduceMul, Nat.reduceSub, Nat.reduceEqDiff, Nat.reduceLT, Nat.reduceLeDiff, Int.reduceEq, Int.reduceLT, Int.reduceLE, reduceIte, aresults, aresult, hp0, h0, h1, h5, hcl, hlt, Option.isSome_some, List.length_set, wrap_succ (show j < 9223372036854775807 by omega), le0, le1, n0_1, List.getElem?_set, hc1, k1, j1, hb, w1] at hx; (try (rw [guardL_if] at hx; split at hx <;> rename_i hc)))); all_goals (subst hx; refine ⟨_, rfl, ?_⟩)
          have G1 : H.g ≤ H1.g := by have := o1.1; (try simp only [Hp.set_g] at this); omega
          have hB1 : H1.h b = _ := o1.2 b (by (try simp only [Hp.set_g]); omega) (Or.inr (by omega))
          simp only [Hp.set_h, if_true, hb] at hB1
          have hr2 : cs.drop ((j + 1) * 2) = r2 := by rw [show (j + 1) * 2 = j * 2 + 2 by omega]; exact row_rest hcs rfl
          repeat' (first | ((first | refine wSeqr (fun xx hx => ?_) | refine wIf (fun xx hx => ?_) | refine wReg (fun xx hx => ?_) | (refine wRet ?_; (try simp only [thenQ, blockQ]); refine ends_by (fun xx hx => ?_))); have hc := trivial; (repeat' (simp only [hc, go_sem, Nat.reduceAdd, Nat.reduceMul, Nat.reduceSub, Nat.reduceEqDiff, Nat.reduceLT, Nat.reduceLeDiff, Int.reduceEq, Int.reduceLT, Int.reduceLE, reduceIte, aresults, aresult, hp0, h0, h1, h5, hcl, hlt, Option.isSome_some, List.length_set, wrap_succ (show j < 9223372036854775807 by omega), le0, le1, n0_1, List.getElem?_set, hc1, k1, j1, hB1, w1] at hx; (try (rw [guardL_if] at hx; split at hx <;> rename_i hc)))); all_goals (subst hx; first | (refine ⟨_, rfl, fun ht => ?_, fun ht => ?_⟩ <;> (try simp only [Bool.not_eq_true', Bool.not_eq_false', Bool.and_eq_true, Bool.and_eq_false_iff, Bool.or_eq_true, Bool.or_eq_false_iff, decide_eq_true_eq, decide_eq_false_iff_not, beq_iff_eq, bne_iff_ne, Bool.not_true, Bool.not_false, Bool.true_eq_false, Bool.false_eq_true, ne_eq, Decidable.not_not, inB_t, inB_f] at ht)) | (refine ⟨_, rfl, ?_⟩; (try simp only [tupOf])))) | refine wSkip ?_ | (refine wExit ?_; simp only [thenQ, blockQ, reduceIte, Nat.reduceEqDiff]) | refine wSeq ?_ | refine wBlock ?_)
          all_goals first
            | (exfalso; (try simp only [Bool.not_eq_true', Bool.not_eq_false', Bool.and_eq_true, Bool.and_eq_false_iff, Bool.or_eq_true, Bool.or_eq_false_iff, decide_eq_true_eq, decide_eq_false_iff_not, beq_iff_eq, bne_iff_ne, Bool.not_true, Bool.not_false, Bool.true_eq_false, Bool.false_eq_true, ne_eq, Decidable.not_not, inB_t, inB_f] at *); omega)
            | skip
          refine ⟨_, Nat.sub_lt (by omega) Nat.one_pos, j + 1, p1, by omega, by simp only [upd_eq, Nat.reduceEqDiff, if_false, if_true, h0, h1, h5], by simp only [upd_eq, Nat.reduceEqDiff, if_false, if_true, h0, h1, h5], by simp only [upd_eq, Nat.reduceEqDiff, if_false, if_true, h0, h1, h5], ?_⟩
          refine ⟨_, m2, by simp only [Hp.set_h, if_true, hB1]; rfl, by simp only [List.length_set]; exact hcl, ⟨by omega, by omega⟩, by omega, ?_, ?_⟩
          · repeat rw [drop_set (by omega)]
            rw [hr2]
            exact hy2.reg (by repeat first | exact InReg.refl _ _ _ | refine InReg.set (by omega) ?_ | refine InReg.out o1 (by omega) (by omega) ?_)
          · repeat first | exact hout | refine OutOf.set ?_ hb1 hb2 | refine OutOf.out o1 (by omega) (by omega) ?_
        · repeat' (first | ((first | refine wSeqr (fun xx hx => ?_) | refine wIf (fun xx hx => ?_) | refine wReg (fun xx hx => ?_) | (refine wRet ?_; (try simp only [thenQ, blockQ]); refine ends_by (fun xx hx => ?_))); have hc := trivial; (repeat' (simp only [hc, go_sem, Nat.reduceAdd, Nat.reduceMul, Nat.reduceSub, Nat.reduceEqDiff, Nat.reduceLT, Nat.reduceLeDiff, Int.reduceEq, Int.reduceLT, Int.reduceLE, reduceIte, aresults, aresult, hp0, h0, h1, h5] at hx; (try (rw [guardL_if] at hx; split at hx <;> rename_i hc)))); all_goals (subst hx; first | (refine ⟨_, rfl, fun ht => ?_, fun ht => ?_⟩ <;> (try simp only [Bool.not_eq_true', Bool.not_eq_false', Bool.and_eq_true, Bool.and_eq_false_iff, Bool.or_eq_true, Bool.or_eq_false_iff, decide_eq_true_eq, decide_eq_false_iff_not, beq_iff_eq, bne_iff_ne, Bool.not_true, Bool.not_false, Bool.true_eq_false, Bool.false_eq_true, ne_eq, Decidable.not_not, inB_t, inB_f] at ht)) | (refine ⟨_, rfl, ?_⟩; (try simp only [tupOf])))) | refine wSkip ?_ | (refine wExit ?_; simp only [thenQ, blockQ, reduceIte, Nat.reduceEqDiff]) | refine wSeq ?_ | refine wBlock ?_)
          all_goals first
            | (exfalso; (try simp only [Bool.not_eq_true', Bool.not_eq_false', Bool.and_eq_true, Bool.and_eq_false_iff, Bool.or_eq_true, Bool.or_eq_false_iff, decide_eq_true_eq, decide_eq_false_iff_not, beq_iff_eq, bne_iff_ne, Bool.not_true, Bool.not_false, Bool.true_eq_false, Bool.false_eq_true, ne_eq, Decidable.not_not, inB_t, inB_f] at *); omega)
            | skip
          exact ⟨q1, rfl, by omega, by omega, hout⟩
      · refine ⟨0, q, by omega, rfl, rfl, rfl, ?_⟩
        exact ⟨cs0, lo, hb0, hcl0, ⟨by omega, by omega⟩, by omega, hly, OutOf.refl _ _ _⟩
  obtain ⟨⟨v, H'⟩, h1, q', rfl, h2, h3, h4⟩ := key
  exact ⟨q', H', by rw [call_raw Try.prog cfg0 Try.func128 rfl ok_markWindowS rfl rfl, h1], h2, h3, h4⟩
theorem ok_markFlightS : fnOk Try.prog cfg0 98 Try.f98 = true := by kernel_rfl
theorem m_FlightS (l : List FlightM) (hk : l.length ≤ 1048576 ∧ ∀ x ∈ l, x.ok 1048576) {q : Int} (hq0 : 0 ≤ q ∧ q ≤ 9223370937341050879) {lo hi : Nat} {z : AV} {K : Hp} {r : Option (AV × Hp)} (hr : call Try.prog cfg0 0 98 [z, .v (.int .i64 q)] K = r) (hL : Laid K lo hi [.lst false (l.map encFlight)] [z]) (hg : hi ≤ K.g) :
    ∃ q' H', r = some (.v (.int .i64 q'), H') ∧ q ≤ q' ∧ q' ≤ q + (l.length : Nat) * 1048577 ∧ OutOf lo hi K H' := by
  subst hr
  have hl : l.length ≤ 1048576 := hk.1
  have key : ∃ r, body Try.prog cfg0 98 Try.f98 [z, .v (.int .i64 q)] K = some r ∧ (∃ q', r.1 = .v (.int .i64 q') ∧ q ≤ q' ∧ q' ≤ q + (l.length : Nat) * 1048577 ∧ OutOf lo hi K r.2) := by
    refine body_wp (rs := [.tmp 4]) rfl rfl (R := fun x H' => ∃ q', x = .v (.int .i64 q') ∧ q ≤ q' ∧ q' ≤ q + (l.length : Nat) * 1048577 ∧ OutOf lo hi K H') ?_
    have hp0 : ∀ b, cfg0.pol 98 b = 0 := fun b => rfl
    rcases hL.inv1 with ⟨he, rfl⟩ | ⟨b, sz, cs0, hne, rfl, hsz, hs, hb1, hb2, hly, hb0⟩
    · repeat' (first | ((first | refine wSeqr (fun xx hx => ?_) | refine wIf (fun xx hx => ?_) | refine wReg (fun xx hx => ?_) | (refine wRet ?_; (try simp only [thenQ, blockQ]); refine ends_by (fun xx hx => ?_))); have hc := trivial; (repeat' (simp only [hc, go_sem, Nat.reduceAdd, Nat.reduceMul, Nat.reduceSub, Nat.reduceEqDiff, Nat.reduceLT, Nat.reduceLeDiff, Int.reduceEq, Int.reduceLT, Int.reduceLE, reduceIte, aresults, aresult, hp0] at hx; (try (rw [guardL_if] at hx; split at hx <;> rename_i hc)))); all_goals (subst hx; first | (refine ⟨_, rfl, fun ht => ?_, fun ht => ?_⟩ <;> (try simp only [Bool.not_eq_true', Bool.not_eq_false', Bool.and_eq_true, Bool.and_eq_false_iff, Bool.or_eq_true, Bool.or_eq_false_iff, decide_eq_true_eq, decide_eq_false_iff_not, beq_iff_eq, bne_iff_ne, Bool.not_true, Bool.not_false, Bool.true_eq_false, Bool.false_eq_true, ne_eq, Decidable.not_not, inB_t, inB_f] at ht)) | (refine ⟨_, rfl, ?_⟩; (try simp only [tupOf])))) | refine wSkip ?_ | (refine wExit ?_; simp only [thenQ, blockQ, reduceIte, Nat.reduceEqDiff]) | refine wSeq ?_ | refine wBlock ?_)
      refine wLoop (fun n s => s.1 0 = .lst false [] ∧ s.1 1 = .v (.int .i64 q) ∧ s.1 5 = .v (.int .i64 0) ∧ s.2 = K) (fun n s hI => ?_) 0 _ ⟨rfl, rfl, rfl, rfl⟩
      obtain ⟨e, H1⟩ := s
      obtain ⟨h0, h1, h5, hH⟩ := hI
      simp only at h0 h1 h5 hH
      repeat' (first | ((first | refine wSeqr (fun xx hx => ?_) | refine wIf (fun xx hx => ?_) | refine wReg (fun xx hx => ?_) | (refine wRet ?_; (try simp only [thenQ, blockQ]); refine ends_by (fun xx hx => ?_))); have hc := trivial; (repeat' (simp only [hc, go_sem, Nat.reduceAdd, Nat.reduceMul, Nat.reduceSub, Nat.reduceEqDiff, Nat.reduceLT, Nat.reduceLeDiff, Int.reduceEq, Int.reduceLT, Int.reduceLE, reduceIte, aresults, aresult, hp0, h0, h1, h5, List.length_nil] at hx; (try (rw [guardL_if] at hx; split at hx <;> rename_i hc)))); all_goals (subst hx; first | (refine ⟨_, rfl, fun ht => ?_, fun ht => ?_⟩ <;> (try simp only [Bool.not_eq_true', Bool.not_eq_false', Bool.and_eq_true, Bool.and_eq_false_iff, Bool.or_eq_true, Bool.or_eq_false_iff, decide_eq_true_eq, decide_eq_false_iff_not, beq_iff_eq, bne_iff_ne, Bool.not_true, Bool.not_false, Bool.true_eq_false, Bool.false_eq_true, ne_eq, Decidable.not_not, inB_t, inB_f] at ht)) | (refine ⟨_, rfl, ?_⟩; (try simp only [tupOf])))) | refine wSkip ?_ | (refine wExit ?_; simp only [thenQ, blockQ, reduceIte, Nat.reduceEqDiff]) | refine wSeq ?_ | refine wBlock ?_)
      all_goals first
        | (exfalso; (try simp only [Bool.not_eq_true', Bool.not_eq_false', Bool.and_eq_true, Bool.and_eq_false_iff, Bool.or_eq_true, Bool.or_eq_false_iff, decide_eq_true_eq, decide_eq_false_iff_not, beq_iff_eq, bne_iff_ne, Bool.not_true, Bool.not_false, Bool.true_eq_false, Bool.false_eq_true, ne_eq, Decidable.not_not, inB_t, inB_f] at *); simp at *; done)
        | (subst hH; exact ⟨q, rfl, by omega, by omega, OutOf.refl _ _ _⟩)
    · have hrl : (l.map encFlight).length = l.length := List.length_map ..
      have hszv : sz = 2 := by
        cases l with
        | nil => exact absurd rfl hne
        | cons a l => exact (hs _ (List.mem_cons_self ..)).symm
      subst hszv
      rw [hrl]
      have hcl0 : cs0.length = l.length * 2 := by rw [hly.len, flat_len 2 _ hs, hrl]
      repeat' (first | ((first | refine wSeqr (fun xx hx => ?_) | refine wIf (fun xx hx => ?_) | refine wReg (fun xx hx => ?_) | (refine wRet ?_; (try simp only [thenQ, blockQ]); refine ends_by (fun xx hx => ?_))); have hc := trivial; (repeat' (simp only [hc, go_sem, Nat.reduceAdd, Nat.reduceMul, Nat.reduceSub, Nat.reduceEqDiff, Nat.reduceLT, Nat.reduceLeDiff, Int.reduceEq, Int.reduceLT, Int.reduceLE, reduceIte, aresults, aresult, hp0] at hx; (try (rw [guardL_if] at hx; split at hx <;> rename_i hc)))); all_goals (subst hx; first | (refine ⟨_, rfl, fun ht => ?_, fun ht => ?_⟩ <;> (try simp only [Bool.not_eq_true', Bool.not_eq_false', Bool.and_eq_true, Bool.and_eq_false_iff, Bool.or_eq_true, Bool.or_eq_false_iff, decide_eq_true_eq, decide_eq_false_iff_not, beq_iff_eq, bne_iff_ne, Bool.not_true, Bool.not_false, Bool.true_eq_false, Bool.false_eq_true, ne_eq, Decidable.not_not, inB_t, inB_f] at ht)) | (refine ⟨_, rfl, ?_⟩; (try simp only [tupOf])))) | refine wSkip ?_ | (refine wExit ?_; simp only [thenQ, blockQ, reduceIte, Nat.reduceEqDiff]) | refine wSeq ?_ | refine wBlock ?_)
      refine wLoop (fun k s => ∃ (j : Nat) (q1 : Int), j + k = l.length ∧ s.1 0 = .sl b 2 0 l.length ∧ s.1 1 = .v (.int .i64 q1) ∧ s.1 5 = .v (.int .i64 (j : Nat)) ∧ (∃ cs mid, s.2.h b = some cs ∧ cs.length = l.length * 2 ∧ (q ≤ q1 ∧ q1 ≤ q + (j : Nat) * 1048577) ∧ lo ≤ mid ∧ Laid s.2 mid b ((l.drop j).map encFlight).flatten (cs.drop (j * 2)) ∧ OutOf lo hi K s.2)) (fun k s hI => ?_) (l.length) _ ?_
      · obtain ⟨e, H⟩ := s
        obtain ⟨j, q1, hj, h0, h1, h5, hh⟩ := hI
        simp only at h0 h1 h5 hh
        obtain ⟨cs, mid, hb, hcl, hq1, hmid, hly, hout⟩ := hh
        by_cases hlt : j < l.length
        · obtain ⟨k, hgk, hd, hm⟩ := at_drop hlt
          have hkk := hk.2 k hm
          rw [hd, List.map_cons, List.flatten_cons] at hly
          obtain ⟨m2, r1, r2, hcs, hy1, hy2⟩ := Laid.split (encFlight k) hly
          have e1 := hy1.le
          have e2 := hy2.le
          have hG := hout.1
          have hr1 : r1.length = 2 := hy1.len
          have f0 := hy1
          simp only [encFlight] at f0
          obtain ⟨t0, rfl, f1⟩ := f0.invV
          obtain ⟨z1, t1, m1x, rfl, a1, b1, y1, f2⟩ := f1.invL
          have hc1 : cs[j * 2 + 1]? = some z1 := (row_cell hcs 1 (by rw [hr1]; omega)).trans rfl
          have l1 : k.Data.length ≤ 1048576 := hkk.2.2
          have k1 := (okc_laid y1).1
          have j1 := (okc_laid y1).2
          obtain rfl := f2.invN
          have le0 : j * 2 + 1 ≤ l.length * 2 := by omega
          have le1 : j * 2 + 2 ≤ l.length * 2 := by omega
          have n0_1 : (j * 2 = j * 2 + 1) = False := eq_false (by omega)
          have w1 : IntKind.wrap .i64 (q1 + 1) = q1 + 1 := wrap_i64 (by omega) (by omega)
          repeat' (first | ((first | refine wSeqr (fun xx hx => ?_) | refine wIf (fun xx hx => ?_) | refine wReg (fun xx hx => ?_) | (refine wRet ?_; (try simp only [thenQ, blockQ]); refine ends_by (fun xx hx => ?_))); have hc := trivial; (repeat' (simp only [hc, go_sem, Nat.reduceAdd, Nat.reduceMul, Nat.reduceSub, Nat.reduceEqDiff, Nat.reduceLT, Nat.reduceLeDiff, Int.reduceEq, Int.reduceLT, Int.reduceLE, reduceIte, aresults, aresult, hp0, h0, h1, h5, hcl, hlt, Option.isSome_some, List.length_set, wrap_succ (show j < 9223372036854775807 by omega), le0, le1, n0_1, List.getElem?_set, hc1, k1, j1, hb, w1] at hx; (try (rw [guardL_if] at hx; split at hx <;> rename_i hc)))); all_goals (subst hx; first | (refine ⟨_, rfl, fun ht => ?_, fun ht => ?_⟩ <;> (try simp only [Bool.not_eq_true', Bool.not_eq_false', Bool.and_eq_true, Bool.and_eq_false_iff, Bool.or_eq_true, Bool.or_eq_false_iff, decide_eq_true_eq, decide_eq_false_iff_not, beq_iff_eq, bne_iff_ne, Bool.not_true, Bool.not_false, Bool.true_eq_false, Bool.false_eq_true, ne_eq, Decidable.not_not, inB_t, inB_f] at ht)) | (refine ⟨_, rfl, ?_⟩; (try simp only [tupOf])))) | refine wSkip ?_ | (refine wExit ?_; simp only [thenQ, blockQ, reduceIte, Nat.reduceEqDiff]) | refine wSeq ?_ | refine wBlock ?_)
          all_goals first
            | (exfalso; (try simp only [Bool.not_eq_true', Bool.not_eq_false', Bool.and_eq_true, Bool.and_eq_false_iff, Bool.or_eq_true, Bool.or_eq_false_iff, decide_eq_true_eq, decide_eq_false_iff_not, beq_iff_eq, bne_iff_ne, Bool.not_true, Bool.not_false, Bool.true_eq_false, Bool.false_eq_true, ne_eq, Decidable.not_not, inB_t, inB_f] at *); omega)
            | skip
          (first | refine wSeqr (fun xx hx => ?_) | refine wReg (fun xx hx => ?_)); have hc := trivial; (repeat' (simp only [hc, go_sem, Nat.reduceAdd, Nat.reduceMul, Nat.reduceSub, Nat.reduceEqDiff, Nat.reduceLT, Nat.reduceLeDiff, Int.reduceEq, Int.reduceLT, Int.reduceLE, reduceIte, aresults, aresult, hp0, h0, h1, h5, hcl, hlt, Option.isSome_some, List.length_set, wrap_succ (show j < 9223372036854775807 by omega), le0, le1, n0_1, List.getElem?_set, hc1, k1, j1, hb, w1] at hx; (try (rw [guardL_if] at hx; split at hx <;> rename_i hc)))); generalize hq : call Try.prog cfg0 0 _ _ _ = q at hx
          obtain ⟨p1, H1, rfl, u1, v1, o1⟩ := m_ByteS k.Data (hkk.2.2) ⟨by omega, by omega⟩ hq (y1.reg (by repeat first | exact InReg.refl _ _ _ | refine InReg.set (by omega) ?_)) (by (try simp only [Hp.set_g]); omega)
          have hc := trivial; (repeat' (simp only [hc, go_sem, Nat.reduceAdd, Nat.reduceMul, Nat.reduceSub, Nat.reduceEqDiff, Nat.reduceLT, Nat.reduceLeDiff, Int.reduceEq, Int.reduceLT, Int.reduceLE, reduceIte, aresults, aresult, hp0, h0, h1, h5, hcl, hlt, Option.isSome_some, List.length_set, wrap_succ (show j < 9223372036854775807 by omega), le0, le1, n0_1, List.getElem?_set, hc1, k1, j1, hb, w1] at hx; (try (rw [guardL_if] at hx; split at hx <;> rename_i hc)))); all_goals (subst hx; refine ⟨_, rfl, ?_⟩)
          have G1 : H.g ≤ H1.g := by have := o1.1; (try simp only [Hp.set_g] at this); omega
          have hB1 : H1.h b = _ := o1.2 b (by (try simp only [Hp.set_g]); omega) (Or.inr (by omega))
          simp only [Hp.set_h, if_true, hb] at hB1
          have hr2 : cs.drop ((j + 1) * 2) = r2 := by rw [show (j + 1) * 2 = j * 2 + 2 by omega]; exact row_rest hcs rfl
          repeat' (first | ((first | refine wSeqr (fun xx hx => ?_) | refine wIf (fun xx hx => ?_) | refine wReg (fun xx hx => ?_) | (refine wRet ?_; (try simp only [thenQ, blockQ]); refine ends_by (fun xx hx => ?_))); have hc := trivial; (repeat' (simp only [hc, go_sem, Nat.reduceAdd, Nat.reduceMul, Nat.reduceSub, Nat.reduceEqDiff, Nat.reduceLT, Nat.reduceLeDiff, Int.reduceEq, Int.reduceLT, Int.reduceLE, reduceIte, aresults, aresult, hp0, h0, h1, h5, hcl, hlt, Option.isSome_some, List.length_set, wrap_succ (show j < 9223372036854775807 by omega), le0, le1, n0_1, List.getElem?_set, hc1, k1, j1, hB1, w1] at hx; (try (rw [guardL_if] at hx; split at hx <;> rename_i hc)))); all_goals (subst hx; first | (refine ⟨_, rfl, fun ht => ?_, fun ht => ?_⟩ <;> (try simp only [Bool.not_eq_true', Bool.not_eq_false', Bool.and_eq_true, Bool.and_eq_false_iff, Bool.or_eq_true, Bool.or_eq_false_iff, decide_eq_true_eq, decide_eq_false_iff_not, beq_iff_eq, bne_iff_ne, Bool.not_true, Bool.not_false, Bool.true_eq_false, Bool.false_eq_true, ne_eq, Decidable.not_not, inB_t, inB_f] at ht)) | (refine ⟨_, rfl, ?_⟩; (try simp only [tupOf])))) | refine wSkip ?_ | (refine wExit ?_; simp only [thenQ, blockQ, reduceIte, Nat.reduceEqDiff]) | refine wSeq ?_ | refine wBlock ?_)
          all_goals first
            | (exfalso; (try simp only [Bool.not_eq_true', Bool.not_eq_false', Bool.and_eq_true, Bool.and_eq_false_iff, Bool.or_eq_true, Bool.or_eq_false_iff, decide_eq_true_eq, decide_eq_false_iff_not, beq_iff_eq, bne_iff_ne, Bool.not_true, Bool.not_false, Bool.true_eq_false, Bool.false_eq_true, ne_eq, Decidable.not_not, inB_t, inB_f] at *); omega)
            | skip
          refine ⟨_, Nat.sub_lt (by omega) Nat.one_pos, j + 1, p1, by omega, by simp only [upd_eq, Nat.reduceEqDiff, if_false, if_true, h0, h1, h5], by simp only [upd_eq, Nat.reduceEqDiff, if_false, if_true, h0, h1, h5], by simp only [upd_eq, Nat.reduceEqDiff, if_false, if_true, h0, h1, h5], ?_⟩
          refine ⟨_, m2, by simp only [Hp.set_h, if_true, hB1]; rfl, by simp only [List.length_set]; exact hcl, ⟨by omega, by omega⟩, by omega, ?_, ?_⟩
          · repeat rw [drop_set (by omega)]
            rw [hr2]
            exact hy2.reg (by repeat first | exact InReg.refl _ _ _ | refine InReg.set (by omega) ?_ | refine InReg.out o1 (by omega) (by omega) ?_)
          · repeat first | exact hout | refine OutOf.set ?_ hb1 hb2 | refine OutOf.out o1 (by omega) (by omega) ?_
        · repeat' (first | ((first | refine wSeqr (fun xx hx => ?_) | refine wIf (fun xx hx => ?_) | refine wReg (fun xx hx => ?_) | (refine wRet ?_; (try simp only [thenQ, blockQ]); refine ends_by (fun xx hx => ?_))); have hc := trivial; (repeat' (simp only [hc, go_sem, Nat.reduceAdd, Nat.reduceMul, Nat.reduceSub, Nat.reduceEqDiff, Nat.reduceLT, Nat.reduceLeDiff, Int.reduceEq, Int.reduceLT, Int.reduceLE, reduceIte, aresults, aresult, hp0, h0, h1, h5] at hx; (try (rw [guardL_if] at hx; split at hx <;> rename_i hc)))); all_goals (subst hx; first | (refine ⟨_, rfl, fun ht => ?_, fun ht => ?_⟩ <;> (try simp only [Bool.not_eq_true', Bool.not_eq_false', Bool.and_eq_true, Bool.and_eq_false_iff, Bool.or_eq_true, Bool.or_eq_false_iff, decide_eq_true_eq, decide_eq_false_iff_not, beq_iff_eq, bne_iff_ne, Bool.not_true, Bool.not_false, Bool.true_eq_false, Bool.false_eq_true, ne_eq, Decidable.not_not, inB_t, inB_f] at ht)) | (refine ⟨_, rfl, ?_⟩; (try simp only [tupOf])))) | refine wSkip ?_ | (refine wExit ?_; simp only [thenQ, blockQ, reduceIte, Nat.reduceEqDiff]) | refine wSeq ?_ | refine wBlock ?_)
          all_goals first
            | (exfalso; (try simp only [Bool.not_eq_true', Bool.not_eq_false', Bool.and_eq_true, Bool.and_eq_false_iff, Bool.or_eq_true, Bool.or_eq_false_iff, decide_eq_true_eq, decide_eq_false_iff_not, beq_iff_eq, bne_iff_ne, Bool.not_true, Bool.not_false, Bool.true_eq_false, Bool.false_eq_true, ne_eq, Decidable.not_not, inB_t, inB_f] at *); omega)
            | skip
          exact ⟨q1, rfl, by omega, by omega, hout⟩
      · refine ⟨0, q, by omega, rfl, rfl, rfl, ?_⟩
        exact ⟨cs0, lo, hb0, hcl0, ⟨by omega, by omega⟩, by omega, hly, OutOf.refl _ _ _⟩
  obtain ⟨⟨v, H'⟩, h1, q', rfl, h2, h3, h4⟩ := key
  exact ⟨q', H', by rw [call_raw Try.prog cfg0 Try.func98 rfl ok_markFlightS rfl rfl, h1], h2, h3, h4⟩
theorem ok_markNodeStateS : fnOk Try.prog cfg0 97 Try.f97 = true := by kernel_rfl
theorem m_NodeStateS (l : List NodeStateM) (hk : l.length ≤ 1048576 ∧ ∀ x ∈ l, x.ok 1048576) {q : Int} (hq0 : 0 ≤ q ∧ q ≤ 6917514733978386431) {lo hi : Nat} {z : AV} {K : Hp} {r : Option (AV × Hp)} (hr : call Try.prog cfg0 0 97 [z, .v (.int .i64 q)] K = r) (hL : Laid K lo hi [.lst false (l.map encNodeState)] [z]) (hg : hi ≤ K.g) :
    ∃ q' H', r = some (.v (.int .i64 q'), H') ∧ q ≤ q' ∧ q' ≤ q + (l.length : Nat) * 2199036887050 ∧ OutOf lo hi K H' := by
  subst hr
  have hl : l.length ≤ 1048576 := hk.1
  have key : ∃ r, body Try.prog cfg0 97 Try.f97 [z, .v (.int .i64 q)] K = some r ∧ (∃ q', r.1 = .v (.int .i64 q') ∧ q ≤ q' ∧ q' ≤ q + (l.length : Nat) * 2199036887050 ∧ OutOf lo hi K r.2) := by
    refine body_wp (rs := [.tmp 4]) rfl rfl (R := fun x H' => ∃ q', x = .v (.int .i64 q') ∧ q ≤ q' ∧ q' ≤ q + (l.length : Nat) * 2199036887050 ∧ OutOf lo hi K H') ?_
    have hp0 : ∀ b, cfg0.pol 97 b = 0 := fun b => rfl
    rcases hL.inv1 with ⟨he, rfl⟩ | ⟨b, sz, cs0, hne, rfl, hsz, hs, hb1, hb2, hly, hb0⟩
    · repeat' (first | ((first | refine wSeqr (fun xx hx => ?_) | refine wIf (fun xx hx => ?_) | refine wReg (fun xx hx => ?_) | (refine wRet ?_; (try simp only [thenQ, blockQ]); refine ends_by (fun xx hx => ?_))); have hc := trivial; (repeat' (simp only [hc, go_sem, Nat.reduceAdd, Nat.reduceMul, Nat.reduceSub, Nat.reduceEqDiff, Nat.reduceLT, Nat.reduceLeDiff, Int.reduceEq, Int.reduceLT, Int.reduceLE, reduceIte, aresults, aresult, hp0] at hx; (try (rw [guardL_if] at hx; split at hx <;> rename_i hc)))); all_goals (subst hx; first | (refine ⟨_, rfl, fun ht => ?_, fun ht => ?_⟩ <;> (try simp only [Bool.not_eq_true', Bool.not_eq_false', Bool.and_eq_true, Bool.and_eq_false_iff, Bool.or_eq_true, Bool.or_eq_false_iff, decide_eq_true_eq, decide_eq_false_iff_not, beq_iff_eq, bne_iff_ne, Bool.not_true, Bool.not_false, Bool.true_eq_false, Bool.false_eq_true, ne_eq, Decidable.not_not, inB_t, inB_f] at ht)) | (refine ⟨_, rfl, ?_⟩; (try simp only [tupOf])))) | refine wSkip ?_ | (refine wExit ?_; simp only [thenQ, blockQ, reduceIte, Nat.reduceEqDiff]) | refine wSeq ?_ | refine wBlock ?_)
      refine wLoop (fun n s => s.1 0 = .lst false [] ∧ s.1 1 = .v (.int .i64 q) ∧ s.1 5 = .v (.int .i64 0) ∧ s.2 = K) (fun n s hI => ?_) 0 _ ⟨rfl, rfl, rfl, rfl⟩
      obtain ⟨e, H1⟩ := s
      obtain ⟨h0, h1, h5, hH⟩ := hI
      simp only at h0 h1 h5 hH
      repeat' (first | ((first | refine wSeqr (fun xx hx => ?_) | refine wIf (fun xx hx => ?_) | refine wReg (fun xx hx => ?_) | (refine wRet ?_; (try simp only [thenQ, blockQ]); refine ends_by (fun xx hx => ?_))); have hc := trivial; (repeat' (simp only [hc, go_sem, Nat.reduceAdd, Nat.reduceMul, Nat.reduceSub, Nat.reduceEqDiff, Nat.reduceLT, Nat.reduceLeDiff, Int.reduceEq, Int.reduceLT, Int.reduceLE, reduceIte, aresults, aresult, hp0, h0, h1, h5, List.length_nil] at hx; (try (rw [guardL_if] at hx; split at hx <;> rename_i hc)))); all_goals (subst hx; first | (refine ⟨_, rfl, fun ht => ?_, fun ht => ?_⟩ <;> (try simp only [Bool.not_eq_true', Bool.not_eq_false', Bool.and_eq_true, Bool.and_eq_false_iff, Bool.or_eq_true, Bool.or_eq_false_iff, decide_eq_true_eq, decide_eq_false_iff_not, beq_iff_eq, bne_iff_ne, Bool.not_true, Bool.not_false, Bool.true_eq_false, Bool.false_eq_true, ne_eq, Decidable.not_not, inB_t, inB_f] at ht)) | (refine ⟨_, rfl, ?_⟩; (try simp only [tupOf])))) | refine wSkip ?_ | (refine wExit ?_; simp only [thenQ, blockQ, reduceIte, Nat.reduceEqDiff]) | refine wSeq ?_ | refine wBlock ?_)
      all_goals first
        | (exfalso; (try simp only [Bool.not_eq_true', Bool.not_eq_false', Bool.and_eq_true, Bool.and_eq_false_iff, Bool.or_eq_true, Bool.or_eq_false_iff, decide_eq_true_eq, decide_eq_false_iff_not, beq_iff_eq, bne_iff_ne, Bool.not_true, Bool.not_false, Bool.true_eq_false, Bool.false_eq_true, ne_eq, Decidable.not_not, inB_t, inB_f] at *); simp at *; done)
        | (subst hH; exact ⟨q, rfl, by omega, by omega, OutOf.refl _ _ _⟩)
    · have hrl : (l.map encNodeState).length = l.length := List.length_map ..
      have hszv : sz = 14 := by
        cases l with
        | nil => exact absurd rfl hne
        | cons a l => exact (hs _ (List.mem_cons_self ..)).symm
      subst hszv
      rw [hrl]
      have hcl0 : cs0.length = l.length * 14 := by rw [hly.len, flat_len 14 _ hs, hrl]
      repeat' (first | ((first | refine wSeqr (fun xx hx => ?_) | refine wIf (fun xx hx => ?_) | refine wReg (fun xx hx => ?_) | (refine wRet ?_; (try simp only [thenQ, blockQ]); refine ends_by (fun xx hx => ?_))); have hc := trivial; (repeat' (simp only [hc, go_sem, Nat.reduceAdd, Nat.reduceMul, Nat.reduceSub, Nat.reduceEqDiff, Nat.reduceLT, Nat.reduceLeDiff, Int.reduceEq, Int.reduceLT, Int.reduceLE, reduceIte, aresults, aresult, hp0] at hx; (try (rw [guardL_if] at hx; split at hx <;> rename_i hc)))); all_goals (subst hx; first | (refine ⟨_, rfl, fun ht => ?_, fun ht => ?_⟩ <;> (try simp only [Bool.not_eq_true', Bool.not_eq_false', Bool.and_eq_true, Bool.and_eq_false_iff, Bool.or_eq_true, Bool.or_eq_false_iff, decide_eq_true_eq, decide_eq_false_iff_not, beq_iff_eq, bne_iff_ne, Bool.not_true, Bool.not_false, Bool.true_eq_false, Bool.false_eq_true, ne_eq, Decidable.not_not, inB_t, inB_f] at ht)) | (refine ⟨_, rfl, ?_⟩; (try simp only [tupOf])))) | refine wSkip ?_ | (refine wExit ?_; simp only [thenQ, blockQ, reduceIte, Nat.reduceEqDiff]) | refine wSeq ?_ | refine wBlock ?_)
      refine wLoop (fun k s => ∃ (j : Nat) (q1 : Int), j + k = l.length ∧ s.1 0 = .sl b 14 0 l.length ∧ s.1 1 = .v (.int .i64 q1) ∧ s.1 5 = .v (.int .i64 (j : Nat)) ∧ (∃ cs mid, s.2.h b = some cs ∧ cs.length = l.length * 14 ∧ (q ≤ q1 ∧ q1 ≤ q + (j : Nat) * 2199036887050) ∧ lo ≤ mid ∧ Laid s.2 mid b ((l.drop j).map encNodeState).flatten (cs.drop (j * 14)) ∧ OutOf lo hi K s.2)) (fun k s hI => ?_) (l.length) _ ?_
      · obtain ⟨e, H⟩ := s
        obtain ⟨j, q1, hj, h0, h1, h5, hh⟩ := hI
        simp only at h0 h1 h5 hh
        obtain ⟨cs, mid, hb, hcl, hq1, hmid, hly, hout⟩ := hh
        by_cases hlt : j < l.length
        · obtain ⟨k, hgk, hd, hm⟩ := at_drop hlt
          have hkk := hk.2 k hm
          rw [hd, List.map_cons, List.flatten_cons] at hly
          obtain ⟨m2, r1, r2, hcs, hy1, hy2⟩ := Laid.split (encNodeState k) hly
          have e1 := hy1.le
          have e2 := hy2.le
          have hG := hout.1
          have hr1 : r1.length = 14 := hy1.len
          have f0 := hy1
          simp only [encNodeState] at f0
          obtain ⟨t0, rfl, f1⟩ := f0.invV
          obtain ⟨t1, rfl, f2⟩ := f1.invV
          obtain ⟨t2, rfl, f3⟩ := f2.invV
          obtain ⟨t3, rfl, f4⟩ := f3.invV
          obtain ⟨z4, t4, m4x, rfl, a4, b4, y4, f5⟩ := f4.invL
          have hc4 : cs[j * 14 + 4]? = some z4 := (row_cell hcs 4 (by rw [hr1]; omega)).trans rfl
          have l4 : k.View.length ≤ 1048576 := hkk.2.1.1
          have k4 := (okc_laid y4).1
          have j4 := (okc_laid y4).2
          obtain ⟨t5, rfl, f6⟩ := f5.invV
          obtain ⟨z6, t6, m6x, rfl, a6, b6, y6, f7⟩ := f6.invL
          have hc6 : cs[j * 14 + 6]? = some z6 := (row_cell hcs 6 (by rw [hr1]; omega)).trans rfl
          have l6 : k.Ring.Keys.length ≤ 1048576 := hkk.2.2.1.2.1
          have k6 := (okc_laid y6).1
          have j6 := (okc_laid y6).2
          obtain ⟨t7, rfl, f8⟩ := f7.invV
          obtain ⟨t8, rfl, f9⟩ := f8.invV
          obtain ⟨t9, rfl, f10⟩ := f9.invV
          obtain ⟨z10, t10, m10x, rfl, a10, b10, y10, f11⟩ := f10.invL
          have hc10 : cs[j * 14 + 10]? = some z10 := (row_cell hcs 10 (by rw [hr1]; omega)).trans rfl
          have l10 : k.Waits.length ≤ 1048576 := hkk.2.2.2.2.2.2.1.1
          have k10 := (okc_laid y10).1
          have j10 := (okc_laid y10).2
          obtain ⟨z11, t11, m11x, rfl, a11, b11, y11, f12⟩ := f11.invL
          have hc11 : cs[j * 14 + 11]? = some z11 := (row_cell hcs 11 (by rw [hr1]; omega)).trans rfl
          have l11 : k.Windows.length ≤ 1048576 := hkk.2.2.2.2.2.2.2.1.1
          have k11 := (okc_laid y11).1
          have j11 := (okc_laid y11).2
          obtain ⟨t12, rfl, f13⟩ := f12.invV
          obtain ⟨t13, rfl, f14⟩ := f13.invV
          obtain rfl := f14.invN
          have le0 : j * 14 + 1 ≤ l.length * 14 := by omega
          have le1 : j * 14 + 2 ≤ l.length * 14 := by omega
          have le2 : j * 14 + 3 ≤ l.length * 14 := by omega
          have le3 : j * 14 + 4 ≤ l.length * 14 := by omega
          have le4 : j * 14 + 5 ≤ l.length * 14 := by omega
          have le5 : j * 14 + 6 ≤ l.length * 14 := by omega
          have le6 : j * 14 + 7 ≤ l.length * 14 := by omega
          have le7 : j * 14 + 8 ≤ l.length * 14 := by omega
          have le8 : j * 14 + 9 ≤ l.length * 14 := by omega
          have le9 : j * 14 + 10 ≤ l.length * 14 := by omega
          have le10 : j * 14 + 11 ≤ l.length * 14 := by omega
          have le11 : j * 14 + 12 ≤ l.length * 14 := by omega
          have le12 : j * 14 + 13 ≤ l.length * 14 := by omega
          have le13 : j * 14 + 14 ≤ l.length * 14 := by omega
          have n0_4 : (j * 14 = j * 14 + 4) = False := eq_false (by omega)
          have n1_4 : (j * 14 + 1 = j * 14 + 4) = False := eq_false (by omega)
          have n2_4 : (j * 14 + 2 = j * 14 + 4) = False := eq_false (by omega)
          have n3_4 : (j * 14 + 3 = j * 14 + 4) = False := eq_false (by omega)
          have n0_6 : (j * 14 = j * 14 + 6) = False := eq_false (by omega)
          have n1_6 : (j * 14 + 1 = j * 14 + 6) = False := eq_false (by omega)
          have n2_6 : (j * 14 + 2 = j * 14 + 6) = False := eq_false (by omega)
          have n3_6 : (j * 14 + 3 = j * 14 + 6) = False := eq_false (by omega)
          have n5_6 : (j * 14 + 5 = j * 14 + 6) = False := eq_false (by omega)
          have n0_10 : (j * 14 = j * 14 + 10) = False := eq_false (by omega)
          have n1_10 : (j * 14 + 1 = j * 14 + 10) = False := eq_false (by omega)
          have n2_10 : (j * 14 + 2 = j * 14 + 10) = False := eq_false (by omega)
          have n3_10 : (j * 14 + 3 = j * 14 + 10) = False := eq_false (by omega)
          have n5_10 : (j * 14 + 5 = j * 14 + 10) = False := eq_false (by omega)
          have n7_10 : (j * 14 + 7 = j * 14 + 10) = False := eq_false (by omega)
          have n8_10 : (j * 14 + 8 = j * 14 + 10) = False := eq_false (by omega)
          have n9_10 : (j * 14 + 9 = j * 14 + 10) = False := eq_false (by omega)
          have n0_11 : (j * 14 = j * 14 + 11) = False := eq_false (by omega)
          have n1_11 : (j * 14 + 1 = j * 14 + 11) = False := eq_false (by omega)
          have n2_11 : (j * 14 + 2 = j * 14 + 11) = False := eq_false (by omega)
          have n3_11 : (j * 14 + 3 = j * 14 + 11) = False := eq_false (by omega)
          have n5_11 : (j * 14 + 5 = j * 14 + 11) = False := eq_false (by omega)
          have n7_11 : (j * 14 + 7 = j * 14 + 11) = False := eq_false (by omega)
          have n8_11 : (j * 14 + 8 = j * 14 + 11) = False := eq_false (by omega)
          have n9_11 : (j * 14 + 9 = j * 14 + 11) = False := eq_false (by omega)
          have w1 : IntKind.wrap .i64 (q1 + 1) = q1 + 1 := wrap_i64 (by omega) (by omega)
          have w2 : IntKind.wrap .i64 ((q1 + 1) + 1) = (q1 + 1) + 1 := wrap_i64 (by omega) (by omega)
          have w3 : IntKind.wrap .i64 (((q1 + 1) + 1) + 1) = ((q1 + 1) + 1) + 1 := wrap_i64 (by omega) (by omega)
          have w4 : IntKind.wrap .i64 ((((q1 + 1) + 1) + 1) + 1) = (((q1 + 1) + 1) + 1) + 1 := wrap_i64 (by omega) (by omega)
          repeat' (first | ((first | refine wSeqr (fun xx hx => ?_) | refine wIf (fun xx hx => ?_) | refine wReg (fun xx hx => ?_) | (refine wRet ?_; (try simp only [thenQ, blockQ]); refine ends_by (fun xx hx => ?_))); have hc := trivial; (repeat' (simp only [hc, go_sem, Nat.reduceAdd, Nat.reduceMul, Nat.reduceSub, Nat.reduceEqDiff, Nat.reduceLT, Nat.reduceLeDiff, Int.reduceEq, Int.reduceLT, Int.reduceLE, reduceIte, aresults, aresult, hp0, h0, h1, h5, hcl, hlt, Option.isSome_some, List.length_set, wrap_succ (show j < 9223372036854775807 by omega), le0, le1, le2, le3, le4, le5, le6, le7, le8, le9, le10, le11, le12, le13, n0_4, n1_4, n2_4, n3_4, n0_6, n1_6, n2_6, n3_6, n5_6, n0_10, n1_10, n2_10, n3_10, n5_10, n7_10, n8_10, n9_10, n0_11, n1_11, n2_11, n3_11, n5_11, n7_11, n8_11, n9_11, List.getElem?_set, hc4, hc6, hc10, hc11, k4, k6, k10, k11, j4, j6, j10, j11, hb, w1, w2, w3, w4] at hx; (try (rw [guardL_if] at hx; split at hx <;> rename_i hc)))); all_goals (subst hx; first | (refine ⟨_, rfl, fun ht => ?_, fun ht => ?_⟩ <;> (try simp only [Bool.not_eq_true', Bool.not_eq_false', Bool.and_eq_true, Bool.and_eq_false_iff, Bool.or_eq_true, Bool.or_eq_false_iff, decide_eq_true_eq, decide_eq_false_iff_not, beq_iff_eq, bne_iff_ne, Bool.not_true, Bool.not_false, Bool.true_eq_false, Bool.false_eq_true, ne_eq, Decidable.not_not, inB_t, inB_f] at ht)) | (refine ⟨_, rfl, ?_⟩; (try simp only [tupOf])))) | refine wSkip ?_ | (refine wExit ?_; simp only [thenQ, blockQ, reduceIte, Nat.reduceEqDiff]) | refine wSeq ?_ | refine wBlock ?_)
          all_goals first
            | (exfalso; (try simp only [Bool.not_eq_true', Bool.not_eq_false', Bool.and_eq_true, Bool.and_eq_false_iff, Bool.or_eq_true, Bool.or_eq_false_iff, decide_eq_true_eq, decide_eq_false_iff_not, beq_iff_eq, bne_iff_ne, Bool.not_true, Bool.not_false, Bool.true_eq_false, Bool.false_eq_true, ne_eq, Decidable.not_not, inB_t, inB_f] at *); omega)
            | skip
          (first | refine wSeqr (fun xx hx => ?_) | refine wReg (fun xx hx => ?_)); have hc := trivial; (repeat' (simp only [hc, go_sem, Nat.reduceAdd, Nat.reduceMul, Nat.reduceSub, Nat.reduceEqDiff, Nat.reduceLT, Nat.reduceLeDiff, Int.reduceEq, Int.reduceLT, Int.reduceLE, reduceIte, aresults, aresult, hp0, h0, h1, h5, hcl, hlt, Option.isSome_some, List.length_set, wrap_succ (show j < 9223372036854775807 by omega), le0, le1, le2, le3, le4, le5, le6, le7, le8, le9, le10, le11, le12, le13, n0_4, n1_4, n2_4, n3_4, n0_6, n1_6, n2_6, n3_6, n5_6, n0_10, n1_10, n2_10, n3_10, n5_10, n7_10, n8_10, n9_10, n0_11, n1_11, n2_11, n3_11, n5_11, n7_11, n8_11, n9_11, List.getElem?_set, hc4, hc6, hc10, hc11, k4, k6, k10, k11, j4, j6, j10, j11, hb, w1, w2, w3, w4] at hx; (try (rw [guardL_if] at hx; split at hx <;> rename_i hc)))); generalize hq : call Try.prog cfg0 0 _ _ _ = q at hx
          obtain ⟨p4, H4, rfl, u4, v4, o4⟩ := m_ClaimS k.View (hkk.2.1) ⟨by omega, by omega⟩ hq (y4.reg (by repeat first | exact InReg.refl _ _ _ | refine InReg.set (by omega) ?_)) (by (try simp only [Hp.set_g]); omega)
          have hc := trivial; (repeat' (simp only [hc, go_sem, Nat.reduceAdd, Nat.reduceMul, Nat.reduceSub, Nat.reduceEqDiff, Nat.reduceLT, Nat.reduceLeDiff, Int.reduceEq, Int.reduceLT, Int.reduceLE, reduceIte, aresults, aresult, hp0, h0, h1, h5, hcl, hlt, Option.isSome_some, List.length_set, wrap_succ (show j < 9223372036854775807 by omega), le0, le1, le2, le3, le4, le5, le6, le7, le8, le9, le10, le11, le12, le13, n0_4, n1_4, n2_4, n3_4, n0_6, n1_6, n2_6, n3_6, n5_6, n0_10, n1_10, n2_10, n3_10, n5_10, n7_10, n8_10, n9_10, n0_11, n1_11, n2_11, n3_11, n5_11, n7_11, n8_11, n9_11, List.getElem?_set, hc4, hc6, hc10, hc11, k4, k6, k10, k11, j4, j6, j10, j11, hb, w1, w2, w3, w4] at hx; (try (rw [guardL_if] at hx; split at hx <;> rename_i hc)))); all_goals (subst hx; refine ⟨_, rfl, ?_⟩)
          have G4 : H.g ≤ H4.g := by have := o4.1; (try simp only [Hp.set_g] at this); omega
          have hB4 : H4.h b = _ := o4.2 b (by (try simp only [Hp.set_g]); omega) (Or.inr (by omega))
          simp only [Hp.set_h, if_true, hb] at hB4
          have w5 : IntKind.wrap .i64 (p4 + 1) = p4 + 1 := wrap_i64 (by omega) (by omega)
          repeat' (first | ((first | refine wSeqr (fun xx hx => ?_) | refine wIf (fun xx hx => ?_) | refine wReg (fun xx hx => ?_) | (refine wRet ?_; (try simp only [thenQ, blockQ]); refine ends_by (fun xx hx => ?_))); have hc := trivial; (repeat' (simp only [hc, go_sem, Nat.reduceAdd, Nat.reduceMul, Nat.reduceSub, Nat.reduceEqDiff, Nat.reduceLT, Nat.reduceLeDiff, Int.reduceEq, Int.reduceLT, Int.reduceLE, reduceIte, aresults, aresult, hp0, h0, h1, h5, hcl, hlt, Option.isSome_some, List.length_set, wrap_succ (show j < 9223372036854775807 by omega), le0, le1, le2, le3, le4, le5, le6, le7, le8, le9, le10, le11, le12, le13, n0_4, n1_4, n2_4, n3_4, n0_6, n1_6, n2_6, n3_6, n5_6, n0_10, n1_10, n2_10, n3_10, n5_10, n7_10, n8_10, n9_10, n0_11, n1_11, n2_11, n3_11, n5_11, n7_11, n8_11, n9_11, List.getElem?_set, hc4, hc6, hc10, hc11, k4, k6, k10, k11, j4, j6, j10, j11, hB4, w1, w2, w3, w4, w5] at hx; (try (rw [guardL_if] at hx; split at hx <;> rename_i hc)))); all_goals (subst hx; first | (refine ⟨_, rfl, fun ht => ?_, fun ht => ?_⟩ <;> (try simp only [Bool.not_eq_true', Bool.not_eq_false', Bool.and_eq_true, Bool.and_eq_false_iff, Bool.or_eq_true, Bool.or_eq_false_iff, decide_eq_true_eq, decide_eq_false_iff_not, beq_iff_eq, bne_iff_ne, Bool.not_true, Bool.not_false, Bool.true_eq_false, Bool.false_eq_true, ne_eq, Decidable.not_not, inB_t, inB_f] at ht)) | (refine ⟨_, rfl, ?_⟩; (try simp only [tupOf])))) | refine wSkip ?_ | (refine wExit ?_; simp only [thenQ, blockQ, reduceIte, Nat.reduceEqDiff]) | refine wSeq ?_ | refine wBlock ?_)
          all_goals first
            | (exfalso; (try simp only [Bool.not_eq_true', Bool.not_eq_false', Bool.and_eq_true, Bool.and_eq_false_iff, Bool.or_eq_true, Bool.or_eq_false_iff, decide_eq_true_eq, decide_eq_false_iff_not, beq_iff_eq, bne_iff_ne, Bool.not_true, Bool.not_false, Bool.true_eq_false, Bool.false_eq_true, ne_eq, Decidable.not_not, inB_t, inB_f] at *); omega)
            | skip
          (first | refine wSeqr (fun xx hx => ?_) | refine wReg (fun xx hx => ?_)); have hc := trivial; (repeat' (simp only [hc, go_sem, Nat.reduceAdd, Nat.reduceMul, Nat.reduceSub, Nat.reduceEqDiff, Nat.reduceLT, Nat.reduceLeDiff, Int.reduceEq, Int.reduceLT, Int.reduceLE, reduceIte, aresults, aresult, hp0, h0, h1, h5, hcl, hlt, Option.isSome_some, List.length_set, wrap_succ (show j < 9223372036854775807 by omega), le0, le1, le2, le3, le4, le5, le6, le7, le8, le9, le10, le11, le12, le13, n0_4, n1_4, n2_4, n3_4, n0_6, n1_6, n2_6, n3_6, n5_6, n0_10, n1_10, n2_10, n3_10, n5_10, n7_10, n8_10, n9_10, n0_11, n1_11, n2_11, n3_11, n5_11, n7_11, n8_11, n9_11, List.getElem?_set, hc4, hc6, hc10, hc11, k4, k6, k10, k11, j4, j6, j10, j11, hB4, w1, w2, w3, w4, w5] at hx; (try (rw [guardL_if] at hx; split at hx <;> rename_i hc)))); generalize hq : call Try.prog cfg0 0 _ _ _ = q at hx
          obtain ⟨p6, H6, rfl, u6, v6, o6⟩ := m_KeyS k.Ring.Keys (hkk.2.2.1.2) ⟨by omega, by omega⟩ hq (y6.reg (by repeat first | exact InReg.refl _ _ _ | refine InReg.set (by omega) ?_ | refine InReg.out o4 (by omega) (by omega) ?_)) (by (try simp only [Hp.set_g]); omega)
          have hc := trivial; (repeat' (simp only [hc, go_sem, Nat.reduceAdd, Nat.reduceMul, Nat.reduceSub, Nat.reduceEqDiff, Nat.reduceLT, Nat.reduceLeDiff, Int.reduceEq, Int.reduceLT, Int.reduceLE, reduceIte, aresults, aresult, hp0, h0, h1, h5, hcl, hlt, Option.isSome_some, List.length_set, wrap_succ (show j < 9223372036854775807 by omega), le0, le1, le2, le3, le4, le5, le6, le7, le8, le9, le10, le11, le12, le13, n0_4, n1_4, n2_4, n3_4, n0_6, n1_6, n2_6, n3_6, n5_6, n0_10, n1_10, n2_10, n3_10, n5_10, n7_10, n8_10, n9_10, n0_11, n1_11, n2_11, n3_11, n5_11, n7_11, n8_11, n9_11, List.getElem?_set, hc4, hc6, hc10, hc11, k4, k6, k10, k11, j4, j6, j10, j11, hB4, w1, w2, w3, w4, w5] at hx; (try (rw [guardL_if] at hx; split at hx <;> rename_i hc)))); all_goals (subst hx; refine ⟨_, rfl, ?_⟩)
          have G6 : H4.g ≤ H6.g := by have := o6.1; (try simp only [Hp.set_g] at this); omega
          have hB6 : H6.h b = _ := o6.2 b (by (try simp only [Hp.set_g]); omega) (Or.inr (by omega))
          simp only [Hp.set_h, if_true, hB4] at hB6
          have w6 : IntKind.wrap .i64 (p6 + 1) = p6 + 1 := wrap_i64 (by omega) (by omega)
          have w7 : IntKind.wrap .i64 ((p6 + 1) + 1) = (p6 + 1) + 1 := wrap_i64 (by omega) (by omega)
          have w8 : IntKind.wrap .i64 (((p6 + 1) + 1) + 1) = ((p6 + 1) + 1) + 1 := wrap_i64 (by omega) (by omega)
          repeat' (first | ((first | refine wSeqr (fun xx hx => ?_) | refine wIf (fun xx hx => ?_) | refine wReg (fun xx hx => ?_) | (refine wRet ?_; (try simp only [thenQ, blockQ]); refine ends_by (fun xx hx => ?_))); have hc := trivial; (repeat' (simp only [hc, go_sem, Nat.reduceAdd, Nat.reduceMul, Nat.reduceSub, Nat.reduceEqDiff, Nat.reduceLT, Nat.reduceLeDiff, Int.reduceEq, Int.reduceLT, Int.reduceLE, reduceIte, aresults, aresult, hp0, h0, h1, h5, hcl, hlt, Option.isSome_some, List.length_set, wrap_succ (show j < 9223372036854775807 by omega), le0, le1, le2, le3, le4, le5, le6, le7, le8, le9, le10, le11, le12, le13, n0_4, n1_4, n2_4, n3_4, n0_6, n1_6, n2_6, n3_6, n5_6, n0_10, n1_10, n2_10, n3_10, n5_10, n7_10, n8_10, n9_10, n0_11, n1_11, n2_11, n3_11, n5_11, n7_11, n8_11, n9_11, List.getElem?_set, hc4, hc6, hc10, hc11, k4, k6, k10, k11, j4, j6, j10, j11, hB6, w1, w2, w3, w4, w5, w6, w7, w8] at hx; (try (rw [guardL_if] at hx; split at hx <;> rename_i hc)))); all_goals (subst hx; first | (refine ⟨_, rfl, fun ht => ?_, fun ht => ?_⟩ <;> (try simp only [Bool.not_eq_true', Bool.not_eq_false', Bool.and_eq_true, Bool.and_eq_false_iff, Bool.or_eq_true, Bool.or_eq_false_iff, decide_eq_true_eq, decide_eq_false_iff_not, beq_iff_eq, bne_iff_ne, Bool.not_true, Bool.not_false, Bool.true_eq_false, Bool.false_eq_true, ne_eq, Decidable.not_not, inB_t, inB_f] at ht)) | (refine ⟨_, rfl, ?_⟩; (try simp only [tupOf])))) | refine wSkip ?_ | (refine wExit ?_; simp only [thenQ, blockQ, reduceIte, Nat.reduceEqDiff]) | refine wSeq ?_ | refine wBlock ?_)
          all_goals first
            | (exfalso; (try simp only [Bool.not_eq_true', Bool.not_eq_false', Bool.and_eq_true, Bool.and_eq_false_iff, Bool.or_eq_true, Bool.or_eq_false_iff, decide_eq_true_eq, decide_eq_false_iff_not, beq_iff_eq, bne_iff_ne, Bool.not_true, Bool.not_false, Bool.true_eq_false, Bool.false_eq_true, ne_eq, Decidable.not_not, inB_t, inB_f] at *); omega)
            | skip
          (first | refine wSeqr (fun xx hx => ?_) | refine wReg (fun xx hx => ?_)); have hc := trivial; (repeat' (simp only [hc, go_sem, Nat.reduceAdd, Nat.reduceMul, Nat.reduceSub, Nat.reduceEqDiff, Nat.reduceLT, Nat.reduceLeDiff, Int.reduceEq, Int.reduceLT, Int.reduceLE, reduceIte, aresults, aresult, hp0, h0, h1, h5, hcl, hlt, Option.isSome_some, List.length_set, wrap_succ (show j < 9223372036854775807 by omega), le0, le1, le2, le3, le4, le5, le6, le7, le8, le9, le10, le11, le12, le13, n0_4, n1_4, n2_4, n3_4, n0_6, n1_6, n2_6, n3_6, n5_6, n0_10, n1_10, n2_10, n3_10, n5_10, n7_10, n8_10, n9_10, n0_11, n1_11, n2_11, n3_11, n5_11, n7_11, n8_11, n9_11, List.getElem?_set, hc4, hc6, hc10, hc11, k4, k6, k10, k11, j4, j6, j10, j11, hB6, w1, w2, w3, w4, w5, w6, w7, w8] at hx; (try (rw [guardL_if] at hx; split at hx <;> rename_i hc)))); generalize hq : call Try.prog cfg0 0 _ _ _ = q at hx
          obtain ⟨p10, H10, rfl, u10, v10, o10⟩ := m_WaitS k.Waits (hkk.2.2.2.2.2.2.1) ⟨by omega, by omega⟩ hq (y10.reg (by repeat first | exact InReg.refl _ _ _ | refine InReg.set (by omega) ?_ | refine InReg.out o4 (by omega) (by omega) ?_ | refine InReg.out o6 (by omega) (by omega) ?_)) (by (try simp only [Hp.set_g]); omega)
          have hc := trivial; (repeat' (simp only [hc, go_sem, Nat.reduceAdd, Nat.reduceMul, Nat.reduceSub, Nat.reduceEqDiff, Nat.reduceLT, Nat.reduceLeDiff, Int.reduceEq, Int.reduceLT, Int.reduceLE, reduceIte, aresults, aresult, hp0, h0, h1, h5, hcl, hlt, Option.isSome_some, List.length_set, wrap_succ (show j < 9223372036854775807 by omega), le0, le1, le2, le3, le4, le5, le6, le7, le8, le9, le10, le11, le12, le13, n0_4, n1_4, n2_4, n3_4, n0_6, n1_6, n2_6, n3_6, n5_6, n0_10, n1_10, n2_10, n3_10, n5_10, n7_10, n8_10, n9_10, n0_11, n1_11, n2_11, n3_11, n5_11, n7_11, n8_11, n9_11, List.getElem?_set, hc4, hc6, hc10, hc11, k4, k6, k10, k11, j4, j6, j10, j11, hB6, w1, w2, w3, w4, w5, w6, w7, w8] at hx; (try (rw [guardL_if] at hx; split at hx <;> rename_i hc)))); all_goals (subst hx; refine ⟨_, rfl, ?_⟩)
          have G10 : H6.g ≤ H10.g := by have := o10.1; (try simp only [Hp.set_g] at this); omega
          have hB10 : H10.h b = _ := o10.2 b (by (try simp only [Hp.set_g]); omega) (Or.inr (by omega))
          simp only [Hp.set_h, if_true, hB6] at hB10
          repeat' (first | ((first | refine wSeqr (fun xx hx => ?_) | refine wIf (fun xx hx => ?_) | refine wReg (fun xx hx => ?_) | (refine wRet ?_; (try simp only [thenQ, blockQ]); refine ends_by (fun xx hx => ?_))); have hc := trivial; (repeat' (simp only [hc, go_sem, Nat.reduceAdd, Nat.reduceMul, Nat.reduceSub, Nat.reduceEqDiff, Nat.reduceLT, Nat.reduceLeDiff, Int.reduceEq, Int.reduceLT, Int.reduceLE, reduceIte, aresults, aresult, hp0, h0, h1, h5, hcl, hlt, Option.isSome_some, List.length_set, wrap_succ (show j < 9223372036854775807 by omega), le0, le1, le2, le3, le4, le5, le6, le7, le8, le9, le10, le11, le12, le13, n0_4, n1_4, n2_4, n3_4, n0_6, n1_6, n2_6, n3_6, n5_6, n0_10, n1_10, n2_10, n3_10, n5_10, n7_10, n8_10, n9_10, n0_11, n1_11, n2_11, n3_11, n5_11, n7_11, n8_11, n9_11, List.getElem?_set, hc4, hc6, hc10, hc11, k4, k6, k10, k11, j4, j6, j10, j11, hB10, w1, w2, w3, w4, w5, w6, w7, w8] at hx; (try (rw [guardL_if] at hx; split at hx <;> rename_i hc)))); all_goals (subst hx; first | (refine ⟨_, rfl, fun ht => ?_, fun ht => ?_⟩ <;> (try simp only [Bool.not_eq_true', Bool.not_eq_false', Bool.and_eq_true, Bool.and_eq_false_iff, Bool.or_eq_true, Bool.or_eq_false_iff, decide_eq_true_eq, decide_eq_false_iff_not, beq_iff_eq, bne_iff_ne, Bool.not_true, Bool.not_false, Bool.true_eq_false, Bool.false_eq_true, ne_eq, Decidable.not_not, inB_t, inB_f] at ht)) | (refine ⟨_, rfl, ?_⟩; (try simp only [tupOf])))) | refine wSkip ?_ | (refine wExit ?_; simp only [thenQ, blockQ, reduceIte, Nat.reduceEqDiff]) | refine wSeq ?_ | refine wBlock ?_)
          all_goals first
            | (exfalso; (try simp only [Bool.not_eq_true', Bool.not_eq_false', Bool.and_eq_true, Bool.and_eq_false_iff, Bool.or_eq_true, Bool.or_eq_false_iff, decide_eq_true_eq, decide_eq_false_iff_not, beq_iff_eq, bne_iff_ne, Bool.not_true, Bool.not_false, Bool.true_eq_false, Bool.false_eq_true, ne_eq, Decidable.not_not, inB_t, inB_f] at *); omega)
            | skip
          (first | refine wSeqr (fun xx hx => ?_) | refine wReg (fun xx hx => ?_)); have hc := trivial; (repeat' (simp only [hc, go_sem, Nat.reduceAdd, Nat.reduceMul, Nat.reduceSub, Nat.reduceEqDiff, Nat.reduceLT, Nat.reduceLeDiff, Int.reduceEq, Int.reduceLT, Int.reduceLE, reduceIte, aresults, aresult, hp0, h0, h1, h5, hcl, hlt, Option.isSome_some, List.length_set, wrap_succ (show j < 9223372036854775807 by omega), le0, le1, le2, le3, le4, le5, le6, le7, le8, le9, le10, le11, le12, le13, n0_4, n1_4, n2_4, n3_4, n0_6, n1_6, n2_6, n3_6, n5_6, n0_10, n1_10, n2_10, n3_10, n5_10, n7_10, n8_10, n9_10, n0_11, n1_11, n2_11, n3_11, n5_11, n7_11, n8_11, n9_11, List.getElem?_set, hc4, hc6, hc10, hc11, k4, k6, k10, k11, j4, j6, j10, j11, hB10, w1, w2, w3, w4, w5, w6, w7, w8] at hx; (try (rw [guardL_if] at hx; split at hx <;> rename_i hc)))); generalize hq : call Try.prog cfg0 0 _ _ _ = q at hx
          obtain ⟨p11, H11, rfl, u11, v11, o11⟩ := m_WindowS k.Windows (hkk.2.2.2.2.2.2.2.1) ⟨by omega, by omega⟩ hq (y11.reg (by repeat first | exact InReg.refl _ _ _ | refine InReg.set (by omega) ?_ | refine InReg.out o4 (by omega) (by omega) ?_ | refine InReg.out o6 (by omega) (by omega) ?_ | refine InReg.out o10 (by omega) (by omega) ?_)) (by (try simp only [Hp.set_g]); omega)
          have hc := trivial; (repeat' (simp only [hc, go_sem, Nat.reduceAdd, Nat.reduceMul, Nat.reduceSub, Nat.reduceEqDiff, Nat.reduceLT, Nat.reduceLeDiff, Int.reduceEq, Int.reduceLT, Int.reduceLE, reduceIte, aresults, aresult, hp0, h0, h1, h5, hcl, hlt, Option.isSome_some, List.length_set, wrap_succ (show j < 9223372036854775807 by omega), le0, le1, le2, le3, le4, le5, le6, le7, le8, le9, le10, le11, le12, le13, n0_4, n1_4, n2_4, n3_4, n0_6, n1_6, n2_6, n3_6, n5_6, n0_10, n1_10, n2_10, n3_10, n5_10, n7_10, n8_10, n9_10, n0_11, n1_11, n2_11, n3_11, n5_11, n7_11, n8_11, n9_11, List.getElem?_set, hc4, hc6, hc10, hc11, k4, k6, k10, k11, j4, j6, j10, j11, hB10, w1, w2, w3, w4, w5, w6, w7, w8] at hx; (try (rw [guardL_if] at hx; split at hx <;> rename_i hc)))); all_goals (subst hx; refine ⟨_, rfl, ?_⟩)
          have G11 : H10.g ≤ H11.g := by have := o11.1; (try simp only [Hp.set_g] at this); omega
          have hB11 : H11.h b = _ := o11.2 b (by (try simp only [Hp.set_g]); omega) (Or.inr (by omega))
          simp only [Hp.set_h, if_true, hB10] at hB11
          have w9 : IntKind.wrap .i64 (p11 + 1) = p11 + 1 := wrap_i64 (by omega) (by omega)
          have w10 : IntKind.wrap .i64 ((p11 + 1) + 1) = (p11 + 1) + 1 := wrap_i64 (by omega) (by omega)
          have hr2 : cs.drop ((j + 1) * 14) = r2 := by rw [show (j + 1) * 14 = j * 14 + 14 by omega]; exact row_rest hcs rfl
          repeat' (first | ((first | refine wSeqr (fun xx hx => ?_) | refine wIf (fun xx hx => ?_) | refine wReg (fun xx hx => ?_) | (refine wRet ?_; (try simp only [thenQ, blockQ]); refine ends_by (fun xx hx => ?_))); have hc := trivial; (repeat' (simp only [hc, go_sem, Nat.reduceAdd, Nat.reduceMul, Nat.reduceSub, Nat.reduceEqDiff, Nat.reduceLT, Nat.reduceLeDiff, Int.reduceEq, Int.reduceLT, Int.reduceLE, reduceIte, aresults, aresult, hp0, h0, h1, h5, hcl, hlt, Option.isSome_some, List.length_set, wrap_succ (show j < 9223372036854775807 by omega), le0, le1, le2, le3, le4, le5, le6, le7, le8, le9, le10, le11, le12, le13, n0_4, n1_4, n2_4, n3_4, n0_6, n1_6, n2_6, n3_6, n5_6, n0_10, n1_10, n2_10, n3_10, n5_10, n7_10, n8_10, n9_10, n0_11, n1_11, n2_11, n3_11, n5_11, n7_11, n8_11, n9_11, List.getElem?_set, hc4, hc6, hc10, hc11, k4, k6, k10, k11, j4, j6, j10, j11, hB11, w1, w2, w3, w4, w5, w6, w7, w8, w9, w10] at hx; (try (rw [guardL_if] at hx; split at hx <;> rename_i hc)))); all_goals (subst hx; first | (refine ⟨_, rfl, fun ht => ?_, fun ht => ?_⟩ <;> (try simp only [Bool.not_eq_true', Bool.not_eq_false', Bool.and_eq_true, Bool.and_eq_false_iff, Bool.or_eq_true, Bool.or_eq_false_iff, decide_eq_true_eq, decide_eq_false_iff_not, beq_iff_eq, bne_iff_ne, Bool.not_true, Bool.not_false, Bool.true_eq_false, Bool.false_eq_true, ne_eq, Decidable.not_not, inB_t, inB_f] at ht)) | (refine ⟨_, rfl, ?_⟩; (try simp only [tupOf])))) | refine wSkip ?_ | (refine wExit ?_; simp only [thenQ, blockQ, reduceIte, Nat.reduceEqDiff]) | refine wSeq ?_ | refine wBlock ?_)
          all_goals first
            | (exfalso; (try simp only [Bool.not_eq_true', Bool.not_eq_false', Bool.and_eq_true, Bool.and_eq_false_iff, Bool.or_eq_true, Bool.or_eq_false_iff, decide_eq_true_eq, decide_eq_false_iff_not, beq_iff_eq, bne_iff_ne, Bool.not_true, Bool.not_false, Bool.true_eq_false, Bool.false_eq_true, ne_eq, Decidable.not_not, inB_t, inB_f] at *); omega)
            | skip
          refine ⟨_, Nat.sub_lt (by omega) Nat.one_pos, j + 1, ((p11 + 1) + 1), by omega, by simp only [upd_eq, Nat.reduceEqDiff, if_false, if_true, h0, h1, h5], by simp only [upd_eq, Nat.reduceEqDiff, if_false, if_true, h0, h1, h5], by simp only [upd_eq, Nat.reduceEqDiff, if_false, if_true, h0, h1, h5], ?_⟩
          refine ⟨_, m2, by simp only [Hp.set_h, if_true, hB11]; rfl, by simp only [List.length_set]; exact hcl, ⟨by omega, by omega⟩, by omega, ?_, ?_⟩
          · repeat rw [drop_set (by omega)]
            rw [hr2]
            exact hy2.reg (by repeat first | exact InReg.refl _ _ _ | refine InReg.set (by omega) ?_ | refine InReg.out o4 (by omega) (by omega) ?_ | refine InReg.out o6 (by omega) (by omega) ?_ | refine InReg.out o10 (by omega) (by omega) ?_ | refine InReg.out o11 (by omega) (by omega) ?_)
          · repeat first | exact hout | refine OutOf.set ?_ hb1 hb2 | refine OutOf.out o4 (by omega) (by omega) ?_ | refine OutOf.out o6 (by omega) (by omega) ?_ | refine OutOf.out o10 (by omega) (by omega) ?_ | refine OutOf.out o11 (by omega) (by omega) ?_
        · repeat' (first | ((first | refine wSeqr (fun xx hx => ?_) | refine wIf (fun xx hx => ?_) | refine wReg (fun xx hx => ?_) | (refine wRet ?_; (try simp only [thenQ, blockQ]); refine ends_by (fun xx hx => ?_))); have hc := trivial; (repeat' (simp only [hc, go_sem, Nat.reduceAdd, Nat.reduceMul, Nat.reduceSub, Nat.reduceEqDiff, Nat.reduceLT, Nat.reduceLeDiff, Int.reduceEq, Int.reduceLT, Int.reduceLE, reduceIte, aresults, aresult, hp0, h0, h1, h5] at hx; (try (rw [guardL_if] at hx; split at hx <;> rename_i hc)))); all_goals (subst hx; first | (refine ⟨_, rfl, fun ht => ?_, fun ht => ?_⟩ <;> (try simp only [Bool.not_eq_true', Bool.not_eq_false', Bool.and_eq_true, Bool.and_eq_false_iff, Bool.or_eq_true, Bool.or_eq_false_iff, decide_eq_true_eq, decide_eq_false_iff_not, beq_iff_eq, bne_iff_ne, Bool.not_true, Bool.not_false, Bool.true_eq_false, Bool.false_eq_true, ne_eq, Decidable.not_not, inB_t, inB_f] at ht)) | (refine ⟨_, rfl, ?_⟩; (try simp only [tupOf])))) | refine wSkip ?_ | (refine wExit ?_; simp only [thenQ, blockQ, reduceIte, Nat.reduceEqDiff]) | refine wSeq ?_ | refine wBlock ?_)
          all_goals first
            | (exfalso; (try simp only [Bool.not_eq_true', Bool.not_eq_false', Bool.and_eq_true, Bool.and_eq_false_iff, Bool.or_eq_true, Bool.or_eq_false_iff, decide_eq_true_eq, decide_eq_false_iff_not, beq_iff_eq, bne_iff_ne, Bool.not_true, Bool.not_false, Bool.true_eq_false, Bool.false_eq_true, ne_eq, Decidable.not_not, inB_t, inB_f] at *); omega)
            | skip
          exact ⟨q1, rfl, by omega, by omega, hout⟩
      · refine ⟨0, q, by omega, rfl, rfl, rfl, ?_⟩
        exact ⟨cs0, lo, hb0, hcl0, ⟨by omega, by omega⟩, by omega, hly, OutOf.refl _ _ _⟩
  obtain ⟨⟨v, H'⟩, h1, q', rfl, h2, h3, h4⟩ := key
  exact ⟨q', H', by rw [call_raw Try.prog cfg0 Try.func97 rfl ok_markNodeStateS rfl rfl, h1], h2, h3, h4⟩
end
end Go.Proofs.Ytmncdkecpnoogaa
