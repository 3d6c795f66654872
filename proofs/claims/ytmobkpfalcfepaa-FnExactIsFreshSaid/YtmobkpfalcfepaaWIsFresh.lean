/- The law FnExactIsFresh in the engine. -/
import Derived.Test.YtmobkpfalcfepaaB1
import Derived.Test.YtmobkpfalcfepaaK12
namespace Go.Proofs.Ytmobkpfalcfepaa.fnExactIsFresh
open Go Go.RowKit Go.Proofs.Ytmobkpfalcfepaa.Eng
set_option linter.unusedSimpArgs false
set_option linter.unusedVariables false
set_option maxRecDepth 100000
noncomputable section
theorem ok_law : fnOk Try.prog cfg0 9 Try.f9 = true := by kernel_rfl
theorem p_law (a0 : StateM) (h0 : a0.ok 140737488351232) : pure Try.prog cfg0 9 Try.f9 [.agg [.lst false (a0.Nodes.map encNodeState), .lst false (a0.Flights.map encFlight), i64L a0.Codes]] = some (.v (.bool true), true) := by
  refine pure_wp (rs := [.tmp 2]) rfl rfl ?_
  obtain ⟨m0, p0, q0, b0, hc0⟩ := s_lszState a0 1048576 h0 ⟨by omega, by omega⟩
  repeat' (first | ((first | refine wSeqr (fun xx hx => ?_) | refine wIf (fun xx hx => ?_) | refine wReg (fun xx hx => ?_) | (refine wRet ?_; (try simp only [thenQ, blockQ]); refine ends_by (fun xx hx => ?_))); have hc := trivial; (repeat' (simp only [hc, go_sem, Nat.reduceAdd, Nat.reduceMul, Nat.reduceSub, Nat.reduceEqDiff, Nat.reduceLT, Nat.reduceLeDiff, Int.reduceEq, Int.reduceLT, Int.reduceLE, reduceIte, aresults, aresult, hp0, hc0] at hx; (try (rw [guardL_if] at hx; split at hx <;> rename_i hc)))); all_goals (subst hx; first | (refine ⟨_, rfl, fun ht => ?_, fun ht => ?_⟩ <;> (try simp only [Bool.not_eq_true', Bool.not_eq_false', Bool.and_eq_true, Bool.and_eq_false_iff, Bool.or_eq_true, Bool.or_eq_false_iff, decide_eq_true_eq, decide_eq_false_iff_not, beq_iff_eq, bne_iff_ne, Bool.not_true, Bool.not_false, Bool.true_eq_false, Bool.false_eq_true, ne_eq, Decidable.not_not, inB_t, inB_f] at ht)) | (refine ⟨_, rfl, ?_⟩; (try simp only [tupOf])))) | refine wSkip ?_ | (refine wExit ?_; simp only [thenQ, blockQ, reduceIte, Nat.reduceEqDiff]) | refine wSeq ?_ | refine wBlock ?_)
  · exact ⟨rfl, rfl⟩
  have o0 := b0 (by omega)
  repeat' (first | ((first | refine wSeqr (fun xx hx => ?_) | refine wIf (fun xx hx => ?_) | refine wReg (fun xx hx => ?_) | (refine wRet ?_; (try simp only [thenQ, blockQ]); refine ends_by (fun xx hx => ?_))); have hc := trivial; (repeat' (simp only [hc, go_sem, Nat.reduceAdd, Nat.reduceMul, Nat.reduceSub, Nat.reduceEqDiff, Nat.reduceLT, Nat.reduceLeDiff, Int.reduceEq, Int.reduceLT, Int.reduceLE, reduceIte, aresults, aresult, hp0, decide_true, decide_false, not_true_eq_false, Bool.not_true, beq_self_eq_true, c_ltoState a0 o0, c_leqState a0 o0, c_sIsFresh a0 o0, c_iIsFresh a0 o0] at hx; (try (rw [guardL_if] at hx; split at hx <;> rename_i hc)))); all_goals (subst hx; first | (refine ⟨_, rfl, fun ht => ?_, fun ht => ?_⟩ <;> (try simp only [Bool.not_eq_true', Bool.not_eq_false', Bool.and_eq_true, Bool.and_eq_false_iff, Bool.or_eq_true, Bool.or_eq_false_iff, decide_eq_true_eq, decide_eq_false_iff_not, beq_iff_eq, bne_iff_ne, Bool.not_true, Bool.not_false, Bool.true_eq_false, Bool.false_eq_true, ne_eq, Decidable.not_not, inB_t, inB_f] at ht)) | (refine ⟨_, rfl, ?_⟩; (try simp only [tupOf])))) | refine wSkip ?_ | (refine wExit ?_; simp only [thenQ, blockQ, reduceIte, Nat.reduceEqDiff]) | refine wSeq ?_ | refine wBlock ?_)
  all_goals exact ⟨rfl, rfl⟩
theorem c_law (a0 : StateM) (h0 : a0.ok 140737488351232) : ∀ H, call Try.prog cfg0 0 9 [.agg [.lst false (a0.Nodes.map encNodeState), .lst false (a0.Flights.map encFlight), i64L a0.Codes]] H = some (.v (.bool true), H) :=
  call_fz Try.func9 rfl ok_law rfl (by simp only [fz_cons, fz_nil, go_sem, and_self]) (p_law a0 h0)

theorem law (xs : List AV) (h : ArgsC Try.prog reach 8 [63] xs) : pure Try.prog cfg0 9 Try.f9 xs = some (.v (.bool true), true) := by
  obtain ⟨x0, r0, rfl, h0, rfl⟩ := h
  unfold ArgC at h0
  rw [agg63] at h0
  obtain ⟨c0, rfl, h0⟩ := h0
  obtain ⟨a0, rfl, k0⟩ := mirState h0
  exact p_law a0 k0
end
end Go.Proofs.Ytmobkpfalcfepaa.fnExactIsFresh
