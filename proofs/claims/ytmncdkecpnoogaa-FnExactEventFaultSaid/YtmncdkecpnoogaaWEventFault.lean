/- The law FnExactEventFault in the engine. -/
import Derived.Test.YtmncdkecpnoogaaB1
import Derived.Test.YtmncdkecpnoogaaK19
namespace Go.Proofs.Ytmncdkecpnoogaa.fnExactEventFault
open Go Go.RowKit Go.Proofs.Ytmncdkecpnoogaa.Eng
set_option linter.unusedSimpArgs false
set_option linter.unusedVariables false
set_option maxRecDepth 100000
noncomputable section
theorem ok_law : fnOk Try.prog cfg0 3 Try.f3 = true := by kernel_rfl
theorem p_law (a0 : EventM) (h0 : a0.ok 140737488351232) : pure Try.prog cfg0 3 Try.f3 [.agg [.v (.int .i64 a0.Kind), .v (.int .i64 a0.Node), .v (.int .i64 a0.At), .v (.int .i64 a0.Mask), bytesL a0.Data, .v (.int .i64 a0.Op), .v (.int .i64 a0.Key.Id), bytesL a0.Key.Bytes]] = some (.v (.bool true), true) := by
  refine pure_wp (rs := [.tmp 2]) rfl rfl ?_
  have hp0 : ∀ b, cfg0.pol 3 b = 0 := fun b => rfl
  obtain ⟨m0, p0, q0, b0, hc0⟩ := s_lszEvent a0 1048576 h0 ⟨by omega, by omega⟩
  repeat' (first | ((first | refine wSeqr (fun xx hx => ?_) | refine wIf (fun xx hx => ?_) | refine wReg (fun xx hx => ?_) | (refine wRet ?_; (try simp only [thenQ, blockQ]); refine ends_by (fun xx hx => ?_))); have hc := trivial; (repeat' (simp only [hc, go_sem, Nat.reduceAdd, Nat.reduceMul, Nat.reduceSub, Nat.reduceEqDiff, Nat.reduceLT, Nat.reduceLeDiff, Int.reduceEq, Int.reduceLT, Int.reduceLE, reduceIte, aresults, aresult, hp0, hc0] at hx; (try (rw [guardL_if] at hx; split at hx <;> rename_i hc)))); all_goals (subst hx; first | (refine ⟨_, rfl, fun ht => ?_, fun ht => ?_⟩ <;> (try simp only [Bool.not_eq_true', Bool.not_eq_false', Bool.and_eq_true, Bool.and_eq_false_iff, Bool.or_eq_true, Bool.or_eq_false_iff, decide_eq_true_eq, decide_eq_false_iff_not, beq_iff_eq, bne_iff_ne, Bool.not_true, Bool.not_false, Bool.true_eq_false, Bool.false_eq_true, ne_eq, Decidable.not_not, inB_t, inB_f] at ht)) | (refine ⟨_, rfl, ?_⟩; (try simp only [tupOf])))) | refine wSkip ?_ | (refine wExit ?_; simp only [thenQ, blockQ, reduceIte, Nat.reduceEqDiff]) | refine wSeq ?_ | refine wBlock ?_)
  · exact ⟨rfl, rfl⟩
  have o0 := b0 (by omega)
  repeat' (first | ((first | refine wSeqr (fun xx hx => ?_) | refine wIf (fun xx hx => ?_) | refine wReg (fun xx hx => ?_) | (refine wRet ?_; (try simp only [thenQ, blockQ]); refine ends_by (fun xx hx => ?_))); have hc := trivial; (repeat' (simp only [hc, go_sem, Nat.reduceAdd, Nat.reduceMul, Nat.reduceSub, Nat.reduceEqDiff, Nat.reduceLT, Nat.reduceLeDiff, Int.reduceEq, Int.reduceLT, Int.reduceLE, reduceIte, aresults, aresult, hp0, decide_true, decide_false, not_true_eq_false, Bool.not_true, beq_self_eq_true, c_ltoEvent a0 o0, c_leqEvent a0 o0, c_sEventFault a0, c_iEventFault a0] at hx; (try (rw [guardL_if] at hx; split at hx <;> rename_i hc)))); all_goals (subst hx; first | (refine ⟨_, rfl, fun ht => ?_, fun ht => ?_⟩ <;> (try simp only [Bool.not_eq_true', Bool.not_eq_false', Bool.and_eq_true, Bool.and_eq_false_iff, Bool.or_eq_true, Bool.or_eq_false_iff, decide_eq_true_eq, decide_eq_false_iff_not, beq_iff_eq, bne_iff_ne, Bool.not_true, Bool.not_false, Bool.true_eq_false, Bool.false_eq_true, ne_eq, Decidable.not_not, inB_t, inB_f] at ht)) | (refine ⟨_, rfl, ?_⟩; (try simp only [tupOf])))) | refine wSkip ?_ | (refine wExit ?_; simp only [thenQ, blockQ, reduceIte, Nat.reduceEqDiff]) | refine wSeq ?_ | refine wBlock ?_)
  all_goals exact ⟨rfl, rfl⟩
theorem c_law (a0 : EventM) (h0 : a0.ok 140737488351232) : ∀ H, call Try.prog cfg0 0 3 [.agg [.v (.int .i64 a0.Kind), .v (.int .i64 a0.Node), .v (.int .i64 a0.At), .v (.int .i64 a0.Mask), bytesL a0.Data, .v (.int .i64 a0.Op), .v (.int .i64 a0.Key.Id), bytesL a0.Key.Bytes]] H = some (.v (.bool true), H) :=
  call_fz Try.func3 rfl ok_law rfl (by simp only [fz_cons, fz_nil, go_sem, and_self]) (p_law a0 h0)

theorem law (xs : List AV) (h : ArgsC Try.prog reach 4 [26] xs) : pure Try.prog cfg0 3 Try.f3 xs = some (.v (.bool true), true) := by
  obtain ⟨x0, r0, rfl, h0, rfl⟩ := h
  unfold ArgC at h0
  rw [agg26] at h0
  obtain ⟨c0, rfl, h0⟩ := h0
  obtain ⟨a0, rfl, k0⟩ := mirEvent h0
  exact p_law a0 k0
end
end Go.Proofs.Ytmncdkecpnoogaa.fnExactEventFault
