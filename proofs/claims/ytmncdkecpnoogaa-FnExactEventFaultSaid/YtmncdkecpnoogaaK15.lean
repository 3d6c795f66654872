/- Contracts: the closure of EventFault. -/
import Derived.Test.YtmncdkecpnoogaaK14
namespace Go.Proofs.Ytmncdkecpnoogaa
open Go Go.RowKit Go.Proofs.Ytmncdkecpnoogaa.Eng
set_option linter.unusedSimpArgs false
set_option linter.unusedVariables false
set_option maxRecDepth 100000
set_option maxHeartbeats 2000000
noncomputable section
def hasB (l : List Int) (c : Int) : Bool := decide (0 ≤ Lib.indexByte (Lib.bytesOf l) c.toNat.toUInt8)
theorem fzfp (l : List Int) : Fz depthD (.fp [bytesL l] 0) := Fz.fp (n := 11) (by simp only [fz_cons, fz_nil, and_true]; exact bytesL_fz _ _)
theorem ok_iHas : fnOk Try.prog cfg0 57 Try.f57 = true := by kernel_rfl
theorem p_iHas (l : List Int) (hne : l ≠ []) (c : Int) : pure Try.prog cfg0 57 Try.f57 [.v (.int .u8 c), .fp [bytesL l] 0] = some (.v (.bool (hasB l c)), true) := by
  refine pure_wp (rs := [.tmp 3]) rfl rfl ?_
  have hp0 : ∀ b, cfg0.pol 57 b = 0 := fun b => rfl
  repeat' (first | ((first | refine wSeqr (fun xx hx => ?_) | refine wIf (fun xx hx => ?_) | refine wReg (fun xx hx => ?_) | (refine wRet ?_; (try simp only [thenQ, blockQ]); refine ends_by (fun xx hx => ?_))); have hc := trivial; (repeat' (simp only [hc, go_sem, Nat.reduceAdd, Nat.reduceMul, Nat.reduceSub, Nat.reduceEqDiff, Nat.reduceLT, Nat.reduceLeDiff, Int.reduceEq, Int.reduceLT, Int.reduceLE, reduceIte, aresults, aresult, hp0, c_IndexByte l hne] at hx; (try (rw [guardL_if] at hx; split at hx <;> rename_i hc)))); all_goals (subst hx; first | (refine ⟨_, rfl, fun ht => ?_, fun ht => ?_⟩ <;> (try simp only [Bool.not_eq_true', Bool.not_eq_false', Bool.and_eq_true, Bool.and_eq_false_iff, Bool.or_eq_true, Bool.or_eq_false_iff, decide_eq_true_eq, decide_eq_false_iff_not, beq_iff_eq, bne_iff_ne, Bool.not_true, Bool.not_false, Bool.true_eq_false, Bool.false_eq_true, ne_eq, Decidable.not_not, inB_t, inB_f] at ht)) | (refine ⟨_, rfl, ?_⟩; (try simp only [tupOf])))) | refine wSkip ?_ | (refine wExit ?_; simp only [thenQ, blockQ, reduceIte, Nat.reduceEqDiff]) | refine wSeq ?_ | refine wBlock ?_)
  all_goals (refine gives_boolv ?_; simp_all [hasB])
theorem c_iHas (l : List Int) (hne : l ≠ []) (c : Int) : ∀ H, call Try.prog cfg0 0 57 [.v (.int .u8 c), .fp [bytesL l] 0] H = some (.v (.bool (hasB l c)), H) :=
  call_fz Try.func57 rfl ok_iHas rfl (by simp only [fz_cons, fz_nil, go_sem, fzfp l, and_self]) (p_iHas l hne c)

open Classical in
theorem cp_has (l : List Int) (hne : l ≠ []) (c : Int) : ∀ H b, call Try.prog cfg0 0 57 [.v (.int .u8 c), .ptr b 0] H = if H.h b = some [bytesL l] then some (.v (.bool (hasB l c)), H) else call' Try.prog cfg0 0 57 [.v (.int .u8 c), .ptr b 0] H := by
  intro H b
  exact call_if Try.func57 rfl ok_iHas rfl (fun hC => mapM_c rfl (mapM_c (deep_ptrD (n := 11) hC (mapM_c ((bytesL_fz 9 l).1 H) mapM_n)) mapM_n)) (p_iHas l hne c)
end
end Go.Proofs.Ytmncdkecpnoogaa
