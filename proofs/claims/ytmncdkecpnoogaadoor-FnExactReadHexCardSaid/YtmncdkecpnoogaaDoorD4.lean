/- Contracts: comparisons of results with numbers. -/
import Derived.Test.YtmncdkecpnoogaaDoorD3
namespace Go.Proofs.YtmncdkecpnoogaaDoor
open Go Go.RowKit Go.Proofs.YtmncdkecpnoogaaDoor.Eng
set_option linter.unusedSimpArgs false
set_option linter.unusedVariables false
set_option maxRecDepth 100000
noncomputable section
theorem fz_ii (a b : Int) : Fz depthD (.agg [.v (.int .i64 a), .v (.int .i64 b)]) := Fz.agg (n := 11) (by intro x hx; simp at hx; rcases hx with rfl | rfl <;> exact Fz.int _ _ _)
theorem ok_leqIntResult : fnOk Tryd.prog cfg0 20 Tryd.f20 = true := by kernel_rfl
theorem p_leqIntResult (a b c d : Int) : pure Tryd.prog cfg0 20 Tryd.f20 [.agg [.v (.int .i64 a), .v (.int .i64 b)], .agg [.v (.int .i64 c), .v (.int .i64 d)]] = some (.v (.bool (decide (a = c) && decide (b = d))), true) := by
  refine pure_wp (rs := [.tmp 4]) rfl rfl ?_
  have hp0 : ∀ b, cfg0.pol 20 b = 0 := fun b => rfl
  repeat' (first | ((first | refine wSeqr (fun xx hx => ?_) | refine wIf (fun xx hx => ?_) | refine wReg (fun xx hx => ?_) | (refine wRet ?_; (try simp only [thenQ, blockQ]); refine ends_by (fun xx hx => ?_))); have hc := trivial; (repeat' (simp only [hc, go_sem, Nat.reduceAdd, Nat.reduceMul, Nat.reduceSub, Nat.reduceEqDiff, Nat.reduceLT, Nat.reduceLeDiff, Int.reduceEq, Int.reduceLT, Int.reduceLE, reduceIte, aresults, aresult, hp0] at hx; (try (rw [guardL_if] at hx; split at hx <;> rename_i hc)))); all_goals (subst hx; first | (refine ⟨_, rfl, fun ht => ?_, fun ht => ?_⟩ <;> (try simp only [Bool.not_eq_true', Bool.not_eq_false', Bool.and_eq_true, Bool.and_eq_false_iff, Bool.or_eq_true, Bool.or_eq_false_iff, decide_eq_true_eq, decide_eq_false_iff_not, beq_iff_eq, bne_iff_ne, Bool.not_true, Bool.not_false, Bool.true_eq_false, Bool.false_eq_true, ne_eq, Decidable.not_not, inB_t, inB_f] at ht)) | (refine ⟨_, rfl, ?_⟩; (try simp only [tupOf])))) | refine wSkip ?_ | (refine wExit ?_; simp only [thenQ, blockQ, reduceIte, Nat.reduceEqDiff]) | refine wSeq ?_ | refine wBlock ?_)
  all_goals (refine gives_boolv ?_; simp_all)
theorem c_leqIntResult (a b c d : Int) : ∀ H, call Tryd.prog cfg0 0 20 [.agg [.v (.int .i64 a), .v (.int .i64 b)], .agg [.v (.int .i64 c), .v (.int .i64 d)]] H = some (.v (.bool (decide (a = c) && decide (b = d))), H) :=
  call_fz Tryd.func20 rfl ok_leqIntResult rfl (by simp only [fz_cons, fz_nil, go_sem, fz_ii, and_self]) (p_leqIntResult a b c d)

end
end Go.Proofs.YtmncdkecpnoogaaDoor
