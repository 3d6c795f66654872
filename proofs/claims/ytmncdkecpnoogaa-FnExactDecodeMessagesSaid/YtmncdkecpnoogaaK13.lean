/- Contracts: small functions of events. -/
import Derived.Test.YtmncdkecpnoogaaK1
namespace Go.Proofs.Ytmncdkecpnoogaa
open Go Go.RowKit Go.Proofs.Ytmncdkecpnoogaa.Eng
set_option linter.unusedSimpArgs false
set_option linter.unusedVariables false
set_option maxRecDepth 100000
noncomputable section
theorem ok_iisNode : fnOk Try.prog cfg0 60 Try.f60 = true := by kernel_rfl
theorem p_iisNode (a : Int) : pure Try.prog cfg0 60 Try.f60 [.v (.int .i64 a)] = some (.v (.bool (inB a 0 3)), true) := by
  refine pure_wp (rs := [.tmp 2]) rfl rfl ?_
  have hp0 : ∀ b, cfg0.pol 60 b = 0 := fun b => rfl
  repeat' (first | ((first | refine wSeqr (fun xx hx => ?_) | refine wIf (fun xx hx => ?_) | refine wReg (fun xx hx => ?_) | (refine wRet ?_; (try simp only [thenQ, blockQ]); refine ends_by (fun xx hx => ?_))); have hc := trivial; (repeat' (simp only [hc, go_sem, Nat.reduceAdd, Nat.reduceMul, Nat.reduceSub, Nat.reduceEqDiff, Nat.reduceLT, Nat.reduceLeDiff, Int.reduceEq, Int.reduceLT, Int.reduceLE, reduceIte, aresults, aresult, hp0, c_iin] at hx; (try (rw [guardL_if] at hx; split at hx <;> rename_i hc)))); all_goals (subst hx; first | (refine ⟨_, rfl, fun ht => ?_, fun ht => ?_⟩ <;> (try simp only [Bool.not_eq_true', Bool.not_eq_false', Bool.and_eq_true, Bool.and_eq_false_iff, Bool.or_eq_true, Bool.or_eq_false_iff, decide_eq_true_eq, decide_eq_false_iff_not, beq_iff_eq, bne_iff_ne, Bool.not_true, Bool.not_false, Bool.true_eq_false, Bool.false_eq_true, ne_eq, Decidable.not_not, inB_t, inB_f] at ht)) | (refine ⟨_, rfl, ?_⟩; (try simp only [tupOf])))) | refine wSkip ?_ | (refine wExit ?_; simp only [thenQ, blockQ, reduceIte, Nat.reduceEqDiff]) | refine wSeq ?_ | refine wBlock ?_)
  all_goals (refine gives_boolv ?_; simp_all [inB])
theorem c_iisNode (a : Int) : ∀ H, call Try.prog cfg0 0 60 [.v (.int .i64 a)] H = some (.v (.bool (inB a 0 3)), H) :=
  call_fz Try.func60 rfl ok_iisNode rfl (by simp only [fz_cons, fz_nil, go_sem, and_self]) (p_iisNode a)

def zeroKey (k : KeyM) : Bool := decide (k.Id = 0) && decide (k.Bytes.length = 0)
theorem ok_iisZeroKey : fnOk Try.prog cfg0 59 Try.f59 = true := by kernel_rfl
theorem p_iisZeroKey (k : KeyM) : pure Try.prog cfg0 59 Try.f59 [.agg [.v (.int .i64 k.Id), bytesL k.Bytes]] = some (.v (.bool (zeroKey k)), true) := by
  refine pure_wp (rs := [.tmp 2]) rfl rfl ?_
  have hp0 : ∀ b, cfg0.pol 59 b = 0 := fun b => rfl
  repeat' (first | ((first | refine wSeqr (fun xx hx => ?_) | refine wIf (fun xx hx => ?_) | refine wReg (fun xx hx => ?_) | (refine wRet ?_; (try simp only [thenQ, blockQ]); refine ends_by (fun xx hx => ?_))); have hc := trivial; (repeat' (simp only [hc, go_sem, Nat.reduceAdd, Nat.reduceMul, Nat.reduceSub, Nat.reduceEqDiff, Nat.reduceLT, Nat.reduceLeDiff, Int.reduceEq, Int.reduceLT, Int.reduceLE, reduceIte, aresults, aresult, hp0] at hx; (try (rw [guardL_if] at hx; split at hx <;> rename_i hc)))); all_goals (subst hx; first | (refine ⟨_, rfl, fun ht => ?_, fun ht => ?_⟩ <;> (try simp only [Bool.not_eq_true', Bool.not_eq_false', Bool.and_eq_true, Bool.and_eq_false_iff, Bool.or_eq_true, Bool.or_eq_false_iff, decide_eq_true_eq, decide_eq_false_iff_not, beq_iff_eq, bne_iff_ne, Bool.not_true, Bool.not_false, Bool.true_eq_false, Bool.false_eq_true, ne_eq, Decidable.not_not, inB_t, inB_f] at ht)) | (refine ⟨_, rfl, ?_⟩; (try simp only [tupOf])))) | refine wSkip ?_ | (refine wExit ?_; simp only [thenQ, blockQ, reduceIte, Nat.reduceEqDiff]) | refine wSeq ?_ | refine wBlock ?_)
  all_goals (refine gives_boolv ?_; unfold zeroKey; simp_all)
theorem c_iisZeroKey (k : KeyM) : ∀ H, call Try.prog cfg0 0 59 [.agg [.v (.int .i64 k.Id), bytesL k.Bytes]] H = some (.v (.bool (zeroKey k)), H) :=
  call_fz Try.func59 rfl ok_iisZeroKey rfl (by simp only [fz_cons, fz_nil, go_sem, and_self]) (p_iisZeroKey k)

def needsB (a : Int) : ByteArray := if a = 1 ∨ a = 8 then ⟨#[78]⟩ else if a = 2 ∨ a = 3 ∨ a = 4 then ⟨#[65]⟩ else if a = 5 then ⟨#[65, 68, 77]⟩ else if a = 6 then ⟨#[78, 68]⟩ else if a = 7 then ⟨#[78, 75]⟩ else ⟨#[]⟩
theorem ok_ineeds : fnOk Try.prog cfg0 56 Try.f56 = true := by kernel_rfl
theorem p_ineeds (a : Int) : pure Try.prog cfg0 56 Try.f56 [.v (.int .i64 a)] = some (.v (.string (needsB a)), true) := by
  refine pure_wp (rs := [.tmp 2]) rfl rfl ?_
  have hp0 : ∀ b, cfg0.pol 56 b = 0 := fun b => rfl
  repeat' (first | ((first | refine wSeqr (fun xx hx => ?_) | refine wIf (fun xx hx => ?_) | refine wReg (fun xx hx => ?_) | (refine wRet ?_; (try simp only [thenQ, blockQ]); refine ends_by (fun xx hx => ?_))); have hc := trivial; (repeat' (simp only [hc, go_sem, Nat.reduceAdd, Nat.reduceMul, Nat.reduceSub, Nat.reduceEqDiff, Nat.reduceLT, Nat.reduceLeDiff, Int.reduceEq, Int.reduceLT, Int.reduceLE, reduceIte, aresults, aresult, hp0] at hx; (try (rw [guardL_if] at hx; split at hx <;> rename_i hc)))); all_goals (subst hx; first | (refine ⟨_, rfl, fun ht => ?_, fun ht => ?_⟩ <;> (try simp only [Bool.not_eq_true', Bool.not_eq_false', Bool.and_eq_true, Bool.and_eq_false_iff, Bool.or_eq_true, Bool.or_eq_false_iff, decide_eq_true_eq, decide_eq_false_iff_not, beq_iff_eq, bne_iff_ne, Bool.not_true, Bool.not_false, Bool.true_eq_false, Bool.false_eq_true, ne_eq, Decidable.not_not, inB_t, inB_f] at ht)) | (refine ⟨_, rfl, ?_⟩; (try simp only [tupOf])))) | refine wSkip ?_ | (refine wExit ?_; simp only [thenQ, blockQ, reduceIte, Nat.reduceEqDiff]) | refine wSeq ?_ | refine wBlock ?_)
  all_goals (refine ⟨?_, rfl⟩; simp_all [needsB] <;> rfl)
theorem c_ineeds (a : Int) : ∀ H, call Try.prog cfg0 0 56 [.v (.int .i64 a)] H = some (.v (.string (needsB a)), H) :=
  call_fz Try.func56 rfl ok_ineeds rfl (by simp only [fz_cons, fz_nil, go_sem, and_self]) (p_ineeds a)

end
end Go.Proofs.Ytmncdkecpnoogaa
