/- The law FnExactClaimText in the engine. -/
import Derived.Test.YtmncdkecpnoogaaDoorX2
namespace Go.Proofs.YtmncdkecpnoogaaDoor.fnExactClaimText
open Go Go.RowKit Go.Proofs.YtmncdkecpnoogaaDoor.Eng
set_option linter.unusedSimpArgs false
set_option linter.unusedVariables false
set_option maxRecDepth 100000
noncomputable section
theorem ok_law : fnOk Tryd.prog cfg0 3 Tryd.f3 = true := by kernel_rfl
theorem p_law (a0 : ClaimM) : pure Tryd.prog cfg0 3 Tryd.f3 [.agg [.v (.int .i64 a0.Node), .v (.int .i64 a0.Inc), .v (.int .i64 a0.Status), .v (.int .i64 a0.Meta)]] = some (.v (.bool true), true) := by
  refine pure_wp (rs := [.tmp 2]) rfl rfl ?_
  have hp0 : ∀ b, cfg0.pol 3 b = 0 := fun b => rfl
  repeat' (first | ((first | refine wSeqr (fun xx hx => ?_) | refine wIf (fun xx hx => ?_) | refine wReg (fun xx hx => ?_) | (refine wRet ?_; (try simp only [thenQ, blockQ]); refine ends_by (fun xx hx => ?_))); have hc := trivial; (repeat' (simp only [hc, go_sem, Nat.reduceAdd, Nat.reduceMul, Nat.reduceSub, Nat.reduceEqDiff, Nat.reduceLT, Nat.reduceLeDiff, Int.reduceEq, Int.reduceLT, Int.reduceLE, reduceIte, aresults, aresult, hp0, c_ltoClaim a0, c_sClaimText a0, c_iClaimText a0, c_leqTextResult, decide_true, Bool.and_self, Bool.not_true] at hx; (try (rw [guardL_if] at hx; split at hx <;> rename_i hc)))); all_goals (subst hx; first | (refine ⟨_, rfl, fun ht => ?_, fun ht => ?_⟩ <;> (try simp only [Bool.not_eq_true', Bool.not_eq_false', Bool.and_eq_true, Bool.and_eq_false_iff, Bool.or_eq_true, Bool.or_eq_false_iff, decide_eq_true_eq, decide_eq_false_iff_not, beq_iff_eq, bne_iff_ne, Bool.not_true, Bool.not_false, Bool.true_eq_false, Bool.false_eq_true, ne_eq, Decidable.not_not, inB_t, inB_f] at ht)) | (refine ⟨_, rfl, ?_⟩; (try simp only [tupOf])))) | refine wSkip ?_ | (refine wExit ?_; simp only [thenQ, blockQ, reduceIte, Nat.reduceEqDiff]) | refine wSeq ?_ | refine wBlock ?_)
  all_goals exact ⟨rfl, rfl⟩
theorem c_law (a0 : ClaimM) : ∀ H, call Tryd.prog cfg0 0 3 [.agg [.v (.int .i64 a0.Node), .v (.int .i64 a0.Inc), .v (.int .i64 a0.Status), .v (.int .i64 a0.Meta)]] H = some (.v (.bool true), H) :=
  call_fz Tryd.func3 rfl ok_law rfl (by simp only [fz_cons, fz_nil, go_sem, and_self]) (p_law a0)

theorem law (xs : List AV) (h : ArgsC Tryd.prog reach 2 [23] xs) : pure Tryd.prog cfg0 3 Tryd.f3 xs = some (.v (.bool true), true) := by
  obtain ⟨x0, r0, rfl, h0, rfl⟩ := h
  unfold ArgC at h0
  rw [agg23] at h0
  obtain ⟨c0, rfl, h0⟩ := h0
  obtain ⟨a0, rfl, k0⟩ := mirClaim h0
  exact p_law a0
end
end Go.Proofs.YtmncdkecpnoogaaDoor.fnExactClaimText
