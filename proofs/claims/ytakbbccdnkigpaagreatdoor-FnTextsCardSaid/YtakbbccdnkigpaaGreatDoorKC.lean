/- Contracts: faults of claims, forms of messages and events. Contracts: faults of messages, both sides. Contracts: the closure of EventFault. Contracts: forms of events. Contracts: faults of events, spec side. Contracts: a message of an event. Contracts: faults of events, the program's side. -/
import Derived.Test.YtakbbccdnkigpaaGreatDoorKB
namespace Go.Proofs.YtakbbccdnkigpaaGreatDoor
open Go Go.RowKit Go.Proofs.YtakbbccdnkigpaaGreatDoor.Eng
set_option linter.unusedSimpArgs false
set_option linter.unusedVariables false
set_option maxRecDepth 100000
set_option maxHeartbeats 2000000
noncomputable section
theorem ok_iisSeq : fnOk Tryz.prog cfg0 91 Tryz.f91 = true := by kernel_rfl
theorem p_iisSeq (a : Int) : pure Tryz.prog cfg0 91 Tryz.f91 [.v (.int .i64 a)] = some (.v (.bool (inB a 0 1000000)), true) := by
  refine pure_wp (rs := [.tmp 2]) rfl rfl ?_
  have hp0 : ∀ b, cfg0.pol 91 b = 0 := fun b => rfl
  repeat' (first | ((first | refine wSeqr ?_ | refine wIf ?_ | refine wReg ?_ | (refine wRet ?_; (try simp only [thenQ, blockQ]); refine ends_by ?_)); intro xx hx; have hc := trivial; (repeat' (simp only [hc, Nat.reduceBEq, go_sem, Nat.reduceAdd, Nat.reduceMul, Nat.reduceSub, Nat.reduceEqDiff, Nat.reduceLT, Nat.reduceLeDiff, Int.reduceEq, Int.reduceLT, Int.reduceLE, reduceIte, aresults, aresult, hp0, c_iin] at hx; (try (rw [guardL_if] at hx; split at hx <;> rename_i hc)))); all_goals (subst hx; first | (refine ⟨_, rfl, fun ht => ?_, fun ht => ?_⟩ <;> (try simp only [bbs] at ht)) | (refine ⟨_, rfl, ?_⟩; (try simp only [tupOf])))) | refine wSkip ?_ | (refine wExit ?_; simp only [thenQ, blockQ, reduceIte, Nat.reduceEqDiff]) | refine wSeq ?_ | refine wBlock ?_)
  all_goals (refine gives_boolv ?_; simp_all [inB])
theorem c_iisSeq (a : Int) : ∀ H, call Tryz.prog cfg0 0 91 [.v (.int .i64 a)] H = some (.v (.bool (inB a 0 1000000)), H) :=
  call_fz Tryz.func91 rfl ok_iisSeq rfl (by simp only [fz_cons, fz_nil, go_sem, and_self]) (p_iisSeq a)

theorem ok_iisStatus : fnOk Tryz.prog cfg0 82 Tryz.f82 = true := by kernel_rfl
theorem p_iisStatus (a : Int) : pure Tryz.prog cfg0 82 Tryz.f82 [.v (.int .i64 a)] = some (.v (.bool (inB a 0 2)), true) := by
  refine pure_wp (rs := [.tmp 2]) rfl rfl ?_
  have hp0 : ∀ b, cfg0.pol 82 b = 0 := fun b => rfl
  repeat' (first | ((first | refine wSeqr ?_ | refine wIf ?_ | refine wReg ?_ | (refine wRet ?_; (try simp only [thenQ, blockQ]); refine ends_by ?_)); intro xx hx; have hc := trivial; (repeat' (simp only [hc, Nat.reduceBEq, go_sem, Nat.reduceAdd, Nat.reduceMul, Nat.reduceSub, Nat.reduceEqDiff, Nat.reduceLT, Nat.reduceLeDiff, Int.reduceEq, Int.reduceLT, Int.reduceLE, reduceIte, aresults, aresult, hp0, c_iin] at hx; (try (rw [guardL_if] at hx; split at hx <;> rename_i hc)))); all_goals (subst hx; first | (refine ⟨_, rfl, fun ht => ?_, fun ht => ?_⟩ <;> (try simp only [bbs] at ht)) | (refine ⟨_, rfl, ?_⟩; (try simp only [tupOf])))) | refine wSkip ?_ | (refine wExit ?_; simp only [thenQ, blockQ, reduceIte, Nat.reduceEqDiff]) | refine wSeq ?_ | refine wBlock ?_)
  all_goals (refine gives_boolv ?_; simp_all [inB])
theorem c_iisStatus (a : Int) : ∀ H, call Tryz.prog cfg0 0 82 [.v (.int .i64 a)] H = some (.v (.bool (inB a 0 2)), H) :=
  call_fz Tryz.func82 rfl ok_iisStatus rfl (by simp only [fz_cons, fz_nil, go_sem, and_self]) (p_iisStatus a)

theorem ok_sl9Node : fnOk Tryz.prog cfg0 69 Tryz.f69 = true := by kernel_rfl
theorem p_sl9Node (a : Int) : pure Tryz.prog cfg0 69 Tryz.f69 [.v (.int .i64 a)] = some (.v (.bool (inB a 0 3)), true) := by
  refine pure_wp (rs := [.tmp 2]) rfl rfl ?_
  have hp0 : ∀ b, cfg0.pol 69 b = 0 := fun b => rfl
  repeat' (first | ((first | refine wSeqr ?_ | refine wIf ?_ | refine wReg ?_ | (refine wRet ?_; (try simp only [thenQ, blockQ]); refine ends_by ?_)); intro xx hx; have hc := trivial; (repeat' (simp only [hc, Nat.reduceBEq, go_sem, Nat.reduceAdd, Nat.reduceMul, Nat.reduceSub, Nat.reduceEqDiff, Nat.reduceLT, Nat.reduceLeDiff, Int.reduceEq, Int.reduceLT, Int.reduceLE, reduceIte, aresults, aresult, hp0, c_sl1In] at hx; (try (rw [guardL_if] at hx; split at hx <;> rename_i hc)))); all_goals (subst hx; first | (refine ⟨_, rfl, fun ht => ?_, fun ht => ?_⟩ <;> (try simp only [bbs] at ht)) | (refine ⟨_, rfl, ?_⟩; (try simp only [tupOf])))) | refine wSkip ?_ | (refine wExit ?_; simp only [thenQ, blockQ, reduceIte, Nat.reduceEqDiff]) | refine wSeq ?_ | refine wBlock ?_)
  all_goals (refine gives_boolv ?_; simp_all [inB])
theorem c_sl9Node (a : Int) : ∀ H, call Tryz.prog cfg0 0 69 [.v (.int .i64 a)] H = some (.v (.bool (inB a 0 3)), H) :=
  call_fz Tryz.func69 rfl ok_sl9Node rfl (by simp only [fz_cons, fz_nil, go_sem, and_self]) (p_sl9Node a)

def claimOk (c : ClaimM) : Bool := inB c.Node 0 3 && inB c.Inc 0 1000000 && inB c.Status 0 2 && inB c.Meta 0 9999999
def claimFault (c : ClaimM) : Int := if claimOk c = true then 0 else 3
theorem ok_iClaimFault : fnOk Tryz.prog cfg0 47 Tryz.f47 = true := by kernel_rfl
theorem p_iClaimFault (c : ClaimM) : pure Tryz.prog cfg0 47 Tryz.f47 [.agg [.v (.int .i64 c.Node), .v (.int .i64 c.Inc), .v (.int .i64 c.Status), .v (.int .i64 c.Meta)]] = some (.v (.int .i64 (claimFault c)), true) := by
  refine pure_wp (rs := [.tmp 2]) rfl rfl ?_
  have hp0 : ∀ b, cfg0.pol 47 b = 0 := fun b => rfl
  repeat' (first | ((first | refine wSeqr ?_ | refine wIf ?_ | refine wReg ?_ | (refine wRet ?_; (try simp only [thenQ, blockQ]); refine ends_by ?_)); intro xx hx; have hc := trivial; (repeat' (simp only [hc, Nat.reduceBEq, go_sem, Nat.reduceAdd, Nat.reduceMul, Nat.reduceSub, Nat.reduceEqDiff, Nat.reduceLT, Nat.reduceLeDiff, Int.reduceEq, Int.reduceLT, Int.reduceLE, reduceIte, aresults, aresult, hp0, c_iisNode, c_iin, c_iisStatus] at hx; (try (rw [guardL_if] at hx; split at hx <;> rename_i hc)))); all_goals (subst hx; first | (refine ⟨_, rfl, fun ht => ?_, fun ht => ?_⟩ <;> (try simp only [bbs] at ht)) | (refine ⟨_, rfl, ?_⟩; (try simp only [tupOf])))) | refine wSkip ?_ | (refine wExit ?_; simp only [thenQ, blockQ, reduceIte, Nat.reduceEqDiff]) | refine wSeq ?_ | refine wBlock ?_)
  all_goals (refine gives_intv ?_; unfold claimFault claimOk; (try simp only [bbs] at *); (repeat' split) <;> (try simp only [bbs] at *) <;> omega)
theorem c_iClaimFault (c : ClaimM) : ∀ H, call Tryz.prog cfg0 0 47 [.agg [.v (.int .i64 c.Node), .v (.int .i64 c.Inc), .v (.int .i64 c.Status), .v (.int .i64 c.Meta)]] H = some (.v (.int .i64 (claimFault c)), H) :=
  call_fz Tryz.func47 rfl ok_iClaimFault rfl (by simp only [fz_cons, fz_nil, go_sem, and_self]) (p_iClaimFault c)

theorem ok_sClaimFault : fnOk Tryz.prog cfg0 56 Tryz.f56 = true := by kernel_rfl
theorem p_sClaimFault (c : ClaimM) : pure Tryz.prog cfg0 56 Tryz.f56 [.agg [.v (.int .i64 c.Node), .v (.int .i64 c.Inc), .v (.int .i64 c.Status), .v (.int .i64 c.Meta)]] = some (.v (.int .i64 (claimFault c)), true) := by
  refine pure_wp (rs := [.tmp 2]) rfl rfl ?_
  have hp0 : ∀ b, cfg0.pol 56 b = 0 := fun b => rfl
  repeat' (first | ((first | refine wSeqr ?_ | refine wIf ?_ | refine wReg ?_ | (refine wRet ?_; (try simp only [thenQ, blockQ]); refine ends_by ?_)); intro xx hx; have hc := trivial; (repeat' (simp only [hc, Nat.reduceBEq, go_sem, Nat.reduceAdd, Nat.reduceMul, Nat.reduceSub, Nat.reduceEqDiff, Nat.reduceLT, Nat.reduceLeDiff, Int.reduceEq, Int.reduceLT, Int.reduceLE, reduceIte, aresults, aresult, hp0, c_sl1In] at hx; (try (rw [guardL_if] at hx; split at hx <;> rename_i hc)))); all_goals (subst hx; first | (refine ⟨_, rfl, fun ht => ?_, fun ht => ?_⟩ <;> (try simp only [bbs] at ht)) | (refine ⟨_, rfl, ?_⟩; (try simp only [tupOf])))) | refine wSkip ?_ | (refine wExit ?_; simp only [thenQ, blockQ, reduceIte, Nat.reduceEqDiff]) | refine wSeq ?_ | refine wBlock ?_)
  all_goals (refine gives_intv ?_; unfold claimFault claimOk; (try simp only [bbs] at *); (repeat' split) <;> (try simp only [bbs] at *) <;> omega)
theorem c_sClaimFault (c : ClaimM) : ∀ H, call Tryz.prog cfg0 0 56 [.agg [.v (.int .i64 c.Node), .v (.int .i64 c.Inc), .v (.int .i64 c.Status), .v (.int .i64 c.Meta)]] H = some (.v (.int .i64 (claimFault c)), H) :=
  call_fz Tryz.func56 rfl ok_sClaimFault rfl (by simp only [fz_cons, fz_nil, go_sem, and_self]) (p_sClaimFault c)

def need7 (k : MessageM) (s n c y : Bool) : Bool := (s || decide (k.Seq = 0)) && (n || decide (k.Node = 0)) && (c || decide (k.Claim = ⟨0, 0, 0, 0⟩)) && (y || (decide (k.Op = 0) && decide (k.Key.Id = 0) && decide (k.Key.Bytes.length = 0)))
theorem ok_sl7N1 : fnOk Tryz.prog cfg0 104 Tryz.f104 = true := by kernel_rfl
theorem p_sl7N1 (k : MessageM) : pure Tryz.prog cfg0 104 Tryz.f104 [.fp [.v (.int .i64 k.Kind), .v (.int .i64 k.Seq), .v (.int .i64 k.Node), .v (.int .i64 k.Claim.Node), .v (.int .i64 k.Claim.Inc), .v (.int .i64 k.Claim.Status), .v (.int .i64 k.Claim.Meta), .v (.int .i64 k.Op), .v (.int .i64 k.Key.Id), bytesL k.Key.Bytes] 0, .v (.bool true), .v (.bool true), .v (.bool false), .v (.bool false)] = some (.v (.bool (need7 k true true false false)), true) := by
  refine pure_wp (rs := [.tmp 10]) rfl rfl ?_
  have hp0 : ∀ b, cfg0.pol 104 b = 0 := fun b => rfl
  repeat' (first | ((first | refine wSeqr ?_ | refine wIf ?_ | refine wReg ?_ | (refine wRet ?_; (try simp only [thenQ, blockQ]); refine ends_by ?_)); intro xx hx; have hc := trivial; (repeat' (simp only [hc, Nat.reduceBEq, go_sem, Nat.reduceAdd, Nat.reduceMul, Nat.reduceSub, Nat.reduceEqDiff, Nat.reduceLT, Nat.reduceLeDiff, Int.reduceEq, Int.reduceLT, Int.reduceLE, reduceIte, aresults, aresult, hp0, eqvz_Claim k.Claim] at hx; (try (rw [guardL_if] at hx; split at hx <;> rename_i hc)))); all_goals (subst hx; first | (refine ⟨_, rfl, fun ht => ?_, fun ht => ?_⟩ <;> (try simp only [bbs] at ht)) | (refine ⟨_, rfl, ?_⟩; (try simp only [tupOf])))) | refine wSkip ?_ | (refine wExit ?_; simp only [thenQ, blockQ, reduceIte, Nat.reduceEqDiff]) | refine wSeq ?_ | refine wBlock ?_)
  all_goals (refine gives_boolv ?_; simp_all [need7])
theorem c_sl7N1 (k : MessageM) : ∀ H, call Tryz.prog cfg0 0 104 [.fp [.v (.int .i64 k.Kind), .v (.int .i64 k.Seq), .v (.int .i64 k.Node), .v (.int .i64 k.Claim.Node), .v (.int .i64 k.Claim.Inc), .v (.int .i64 k.Claim.Status), .v (.int .i64 k.Claim.Meta), .v (.int .i64 k.Op), .v (.int .i64 k.Key.Id), bytesL k.Key.Bytes] 0, .v (.bool true), .v (.bool true), .v (.bool false), .v (.bool false)] H = some (.v (.bool (need7 k true true false false)), H) :=
  call_fz Tryz.func104 rfl ok_sl7N1 rfl (by simp only [fz_cons, fz_nil, go_sem, and_self]) (p_sl7N1 k)
theorem ok_sl7N2 : fnOk Tryz.prog cfg0 104 Tryz.f104 = true := by kernel_rfl
theorem p_sl7N2 (k : MessageM) : pure Tryz.prog cfg0 104 Tryz.f104 [.fp [.v (.int .i64 k.Kind), .v (.int .i64 k.Seq), .v (.int .i64 k.Node), .v (.int .i64 k.Claim.Node), .v (.int .i64 k.Claim.Inc), .v (.int .i64 k.Claim.Status), .v (.int .i64 k.Claim.Meta), .v (.int .i64 k.Op), .v (.int .i64 k.Key.Id), bytesL k.Key.Bytes] 0, .v (.bool true), .v (.bool false), .v (.bool false), .v (.bool false)] = some (.v (.bool (need7 k true false false false)), true) := by
  refine pure_wp (rs := [.tmp 10]) rfl rfl ?_
  have hp0 : ∀ b, cfg0.pol 104 b = 0 := fun b => rfl
  repeat' (first | ((first | refine wSeqr ?_ | refine wIf ?_ | refine wReg ?_ | (refine wRet ?_; (try simp only [thenQ, blockQ]); refine ends_by ?_)); intro xx hx; have hc := trivial; (repeat' (simp only [hc, Nat.reduceBEq, go_sem, Nat.reduceAdd, Nat.reduceMul, Nat.reduceSub, Nat.reduceEqDiff, Nat.reduceLT, Nat.reduceLeDiff, Int.reduceEq, Int.reduceLT, Int.reduceLE, reduceIte, aresults, aresult, hp0, eqvz_Claim k.Claim] at hx; (try (rw [guardL_if] at hx; split at hx <;> rename_i hc)))); all_goals (subst hx; first | (refine ⟨_, rfl, fun ht => ?_, fun ht => ?_⟩ <;> (try simp only [bbs] at ht)) | (refine ⟨_, rfl, ?_⟩; (try simp only [tupOf])))) | refine wSkip ?_ | (refine wExit ?_; simp only [thenQ, blockQ, reduceIte, Nat.reduceEqDiff]) | refine wSeq ?_ | refine wBlock ?_)
  all_goals (refine gives_boolv ?_; simp_all [need7])
theorem c_sl7N2 (k : MessageM) : ∀ H, call Tryz.prog cfg0 0 104 [.fp [.v (.int .i64 k.Kind), .v (.int .i64 k.Seq), .v (.int .i64 k.Node), .v (.int .i64 k.Claim.Node), .v (.int .i64 k.Claim.Inc), .v (.int .i64 k.Claim.Status), .v (.int .i64 k.Claim.Meta), .v (.int .i64 k.Op), .v (.int .i64 k.Key.Id), bytesL k.Key.Bytes] 0, .v (.bool true), .v (.bool false), .v (.bool false), .v (.bool false)] H = some (.v (.bool (need7 k true false false false)), H) :=
  call_fz Tryz.func104 rfl ok_sl7N2 rfl (by simp only [fz_cons, fz_nil, go_sem, and_self]) (p_sl7N2 k)
theorem ok_sl7N3 : fnOk Tryz.prog cfg0 104 Tryz.f104 = true := by kernel_rfl
theorem p_sl7N3 (k : MessageM) : pure Tryz.prog cfg0 104 Tryz.f104 [.fp [.v (.int .i64 k.Kind), .v (.int .i64 k.Seq), .v (.int .i64 k.Node), .v (.int .i64 k.Claim.Node), .v (.int .i64 k.Claim.Inc), .v (.int .i64 k.Claim.Status), .v (.int .i64 k.Claim.Meta), .v (.int .i64 k.Op), .v (.int .i64 k.Key.Id), bytesL k.Key.Bytes] 0, .v (.bool false), .v (.bool false), .v (.bool true), .v (.bool false)] = some (.v (.bool (need7 k false false true false)), true) := by
  refine pure_wp (rs := [.tmp 10]) rfl rfl ?_
  have hp0 : ∀ b, cfg0.pol 104 b = 0 := fun b => rfl
  repeat' (first | ((first | refine wSeqr ?_ | refine wIf ?_ | refine wReg ?_ | (refine wRet ?_; (try simp only [thenQ, blockQ]); refine ends_by ?_)); intro xx hx; have hc := trivial; (repeat' (simp only [hc, Nat.reduceBEq, go_sem, Nat.reduceAdd, Nat.reduceMul, Nat.reduceSub, Nat.reduceEqDiff, Nat.reduceLT, Nat.reduceLeDiff, Int.reduceEq, Int.reduceLT, Int.reduceLE, reduceIte, aresults, aresult, hp0, eqvz_Claim k.Claim] at hx; (try (rw [guardL_if] at hx; split at hx <;> rename_i hc)))); all_goals (subst hx; first | (refine ⟨_, rfl, fun ht => ?_, fun ht => ?_⟩ <;> (try simp only [bbs] at ht)) | (refine ⟨_, rfl, ?_⟩; (try simp only [tupOf])))) | refine wSkip ?_ | (refine wExit ?_; simp only [thenQ, blockQ, reduceIte, Nat.reduceEqDiff]) | refine wSeq ?_ | refine wBlock ?_)
  all_goals (refine gives_boolv ?_; simp_all [need7])
theorem c_sl7N3 (k : MessageM) : ∀ H, call Tryz.prog cfg0 0 104 [.fp [.v (.int .i64 k.Kind), .v (.int .i64 k.Seq), .v (.int .i64 k.Node), .v (.int .i64 k.Claim.Node), .v (.int .i64 k.Claim.Inc), .v (.int .i64 k.Claim.Status), .v (.int .i64 k.Claim.Meta), .v (.int .i64 k.Op), .v (.int .i64 k.Key.Id), bytesL k.Key.Bytes] 0, .v (.bool false), .v (.bool false), .v (.bool true), .v (.bool false)] H = some (.v (.bool (need7 k false false true false)), H) :=
  call_fz Tryz.func104 rfl ok_sl7N3 rfl (by simp only [fz_cons, fz_nil, go_sem, and_self]) (p_sl7N3 k)
theorem ok_sl7N4 : fnOk Tryz.prog cfg0 104 Tryz.f104 = true := by kernel_rfl
theorem p_sl7N4 (k : MessageM) : pure Tryz.prog cfg0 104 Tryz.f104 [.fp [.v (.int .i64 k.Kind), .v (.int .i64 k.Seq), .v (.int .i64 k.Node), .v (.int .i64 k.Claim.Node), .v (.int .i64 k.Claim.Inc), .v (.int .i64 k.Claim.Status), .v (.int .i64 k.Claim.Meta), .v (.int .i64 k.Op), .v (.int .i64 k.Key.Id), bytesL k.Key.Bytes] 0, .v (.bool false), .v (.bool false), .v (.bool false), .v (.bool true)] = some (.v (.bool (need7 k false false false true)), true) := by
  refine pure_wp (rs := [.tmp 10]) rfl rfl ?_
  have hp0 : ∀ b, cfg0.pol 104 b = 0 := fun b => rfl
  repeat' (first | ((first | refine wSeqr ?_ | refine wIf ?_ | refine wReg ?_ | (refine wRet ?_; (try simp only [thenQ, blockQ]); refine ends_by ?_)); intro xx hx; have hc := trivial; (repeat' (simp only [hc, Nat.reduceBEq, go_sem, Nat.reduceAdd, Nat.reduceMul, Nat.reduceSub, Nat.reduceEqDiff, Nat.reduceLT, Nat.reduceLeDiff, Int.reduceEq, Int.reduceLT, Int.reduceLE, reduceIte, aresults, aresult, hp0, eqvz_Claim k.Claim] at hx; (try (rw [guardL_if] at hx; split at hx <;> rename_i hc)))); all_goals (subst hx; first | (refine ⟨_, rfl, fun ht => ?_, fun ht => ?_⟩ <;> (try simp only [bbs] at ht)) | (refine ⟨_, rfl, ?_⟩; (try simp only [tupOf])))) | refine wSkip ?_ | (refine wExit ?_; simp only [thenQ, blockQ, reduceIte, Nat.reduceEqDiff]) | refine wSeq ?_ | refine wBlock ?_)
  all_goals (refine gives_boolv ?_; simp_all [need7])
theorem c_sl7N4 (k : MessageM) : ∀ H, call Tryz.prog cfg0 0 104 [.fp [.v (.int .i64 k.Kind), .v (.int .i64 k.Seq), .v (.int .i64 k.Node), .v (.int .i64 k.Claim.Node), .v (.int .i64 k.Claim.Inc), .v (.int .i64 k.Claim.Status), .v (.int .i64 k.Claim.Meta), .v (.int .i64 k.Op), .v (.int .i64 k.Key.Id), bytesL k.Key.Bytes] 0, .v (.bool false), .v (.bool false), .v (.bool false), .v (.bool true)] H = some (.v (.bool (need7 k false false false true)), H) :=
  call_fz Tryz.func104 rfl ok_sl7N4 rfl (by simp only [fz_cons, fz_nil, go_sem, and_self]) (p_sl7N4 k)
end
end Go.Proofs.YtakbbccdnkigpaaGreatDoor
namespace Go.Proofs.YtakbbccdnkigpaaGreatDoor
open Go Go.RowKit Go.Proofs.YtakbbccdnkigpaaGreatDoor.Eng
set_option linter.unusedSimpArgs false
set_option linter.unusedVariables false
set_option maxRecDepth 100000
set_option maxHeartbeats 4000000
noncomputable section
def msgForm (k : MessageM) : Bool :=
  if k.Kind = 1 ∨ k.Kind = 3 then need7 k true true false false else if k.Kind = 2 then need7 k true false false false
  else if k.Kind = 4 then need7 k false false true false else if k.Kind = 5 then need7 k false false false true else false
def msgFault (k : MessageM) : Int :=
  if msgForm k = false then 1 else if k.Kind = 4 then claimFault k.Claim
  else if k.Kind ≠ 5 then (if inB k.Seq 0 1000000 = true ∧ inB k.Node 0 3 = true then 0 else 3)
  else if inB k.Op 1 3 = false ∨ inB k.Key.Id 1 255 = false then 3
  else if (k.Key.Bytes.length : Int) ≠ (if k.Op = 1 then 16 else 0) then 2 else 0
theorem ok_sl7Form : fnOk Tryz.prog cfg0 94 Tryz.f94 = true := by kernel_rfl
theorem p_sl7Form (k : MessageM) : pure Tryz.prog cfg0 94 Tryz.f94 [.fp [.v (.int .i64 k.Kind), .v (.int .i64 k.Seq), .v (.int .i64 k.Node), .v (.int .i64 k.Claim.Node), .v (.int .i64 k.Claim.Inc), .v (.int .i64 k.Claim.Status), .v (.int .i64 k.Claim.Meta), .v (.int .i64 k.Op), .v (.int .i64 k.Key.Id), bytesL k.Key.Bytes] 0] = some (.v (.bool (msgForm k)), true) := by
  refine pure_wp (rs := [.tmp 2]) rfl rfl ?_
  have hp0 : ∀ b, cfg0.pol 94 b = 0 := fun b => rfl
  repeat' (first | ((first | refine wSeqr ?_ | refine wIf ?_ | refine wReg ?_ | (refine wRet ?_; (try simp only [thenQ, blockQ]); refine ends_by ?_)); intro xx hx; have hc := trivial; (repeat' (simp only [hc, Nat.reduceBEq, go_sem, Nat.reduceAdd, Nat.reduceMul, Nat.reduceSub, Nat.reduceEqDiff, Nat.reduceLT, Nat.reduceLeDiff, Int.reduceEq, Int.reduceLT, Int.reduceLE, reduceIte, aresults, aresult, hp0, c_sl7N1, c_sl7N2, c_sl7N3, c_sl7N4] at hx; (try (rw [guardL_if] at hx; split at hx <;> rename_i hc)))); all_goals (subst hx; first | (refine ⟨_, rfl, fun ht => ?_, fun ht => ?_⟩ <;> (try simp only [bbs] at ht)) | (refine ⟨_, rfl, ?_⟩; (try simp only [tupOf])))) | refine wSkip ?_ | (refine wExit ?_; simp only [thenQ, blockQ, reduceIte, Nat.reduceEqDiff]) | refine wSeq ?_ | refine wBlock ?_)
  all_goals (refine gives_boolv ?_; simp_all [msgForm])
open Classical in
theorem cp_sl7Form (k : MessageM) : ∀ H bk, call Tryz.prog cfg0 0 94 [.ptr bk 0] H = if H.h bk = some [.v (.int .i64 k.Kind), .v (.int .i64 k.Seq), .v (.int .i64 k.Node), .v (.int .i64 k.Claim.Node), .v (.int .i64 k.Claim.Inc), .v (.int .i64 k.Claim.Status), .v (.int .i64 k.Claim.Meta), .v (.int .i64 k.Op), .v (.int .i64 k.Key.Id), bytesL k.Key.Bytes] then some (.v (.bool (msgForm k)), H) else call' Tryz.prog cfg0 0 94 [.ptr bk 0] H :=
  fun H bk => by
    exact call_if Tryz.func94 rfl ok_sl7Form rfl (fun hC => mapM_c (deep_ptr hC (fzE_Message 9 k)) (mapM_n)) (p_sl7Form k)

theorem ok_sMessageFault : fnOk Tryz.prog cfg0 70 Tryz.f70 = true := by kernel_rfl
theorem p_sMessageFault (k : MessageM) : pure Tryz.prog cfg0 70 Tryz.f70 [.agg [.v (.int .i64 k.Kind), .v (.int .i64 k.Seq), .v (.int .i64 k.Node), .v (.int .i64 k.Claim.Node), .v (.int .i64 k.Claim.Inc), .v (.int .i64 k.Claim.Status), .v (.int .i64 k.Claim.Meta), .v (.int .i64 k.Op), .v (.int .i64 k.Key.Id), bytesL k.Key.Bytes]] = some (.v (.int .i64 (msgFault k)), true) := by
  refine pure_wp (rs := [.tmp 2]) rfl rfl ?_
  have hp0 : ∀ b, cfg0.pol 70 b = 0 := fun b => rfl
  repeat' (first | ((first | refine wSeqr ?_ | refine wIf ?_ | refine wReg ?_ | (refine wRet ?_; (try simp only [thenQ, blockQ]); refine ends_by ?_)); intro xx hx; have hc := trivial; (repeat' (simp only [hc, Nat.reduceBEq, go_sem, Nat.reduceAdd, Nat.reduceMul, Nat.reduceSub, Nat.reduceEqDiff, Nat.reduceLT, Nat.reduceLeDiff, Int.reduceEq, Int.reduceLT, Int.reduceLE, reduceIte, aresults, aresult, hp0, cp_sl7Form k, c_sClaimFault, c_sl1In] at hx; (try (rw [guardL_if] at hx; split at hx <;> rename_i hc)))); all_goals (subst hx; first | (refine ⟨_, rfl, fun ht => ?_, fun ht => ?_⟩ <;> (try simp only [bbs] at ht)) | (refine ⟨_, rfl, ?_⟩; (try simp only [tupOf])))) | refine wSkip ?_ | (refine wExit ?_; simp only [thenQ, blockQ, reduceIte, Nat.reduceEqDiff]) | refine wSeq ?_ | refine wBlock ?_)
  all_goals (refine gives_intv ?_; unfold msgFault; simp_all [inB]; try omega)
theorem c_sMessageFault (k : MessageM) : ∀ H, call Tryz.prog cfg0 0 70 [.agg [.v (.int .i64 k.Kind), .v (.int .i64 k.Seq), .v (.int .i64 k.Node), .v (.int .i64 k.Claim.Node), .v (.int .i64 k.Claim.Inc), .v (.int .i64 k.Claim.Status), .v (.int .i64 k.Claim.Meta), .v (.int .i64 k.Op), .v (.int .i64 k.Key.Id), bytesL k.Key.Bytes]] H = some (.v (.int .i64 (msgFault k)), H) :=
  call_fz Tryz.func70 rfl ok_sMessageFault rfl (by simp only [fz_cons, fz_nil, go_sem, and_self]) (p_sMessageFault k)

theorem cz_isZeroKey : ∀ H, call Tryz.prog cfg0 0 61 [.agg [.v (.int .i64 0), .v (.slice none 0 0)]] H = some (.v (.bool true), H) := fun H =>
  call_dz Tryz.func61 rfl ok_iisZeroKey rfl (Dzs.cons (Dz.agg (n := 11) (Dzs.cons (Fz.int _ _ _).dz (Dzs.cons dz_nil Dzs.nil))) Dzs.nil) (p_iisZeroKey ⟨0, []⟩) H
theorem nevzz : abinX Tryz.prog .neq 43 (.agg [.v (.int .i64 0), .v (.int .i64 0), .v (.int .i64 0), .v (.int .i64 0)]) (.agg [.v (.int .i64 0), .v (.int .i64 0), .v (.int .i64 0), .v (.int .i64 0)]) = some (.v (.bool false)) := nevz_Claim ⟨0, 0, 0, 0⟩
theorem ok_iMessageFault : fnOk Tryz.prog cfg0 64 Tryz.f64 = true := by kernel_rfl
theorem p_iMessageFault (k : MessageM) : pure Tryz.prog cfg0 64 Tryz.f64 [.agg [.v (.int .i64 k.Kind), .v (.int .i64 k.Seq), .v (.int .i64 k.Node), .v (.int .i64 k.Claim.Node), .v (.int .i64 k.Claim.Inc), .v (.int .i64 k.Claim.Status), .v (.int .i64 k.Claim.Meta), .v (.int .i64 k.Op), .v (.int .i64 k.Key.Id), bytesL k.Key.Bytes]] = some (.v (.int .i64 (msgFault k)), true) := by
  refine pure_wp (rs := [.tmp 2]) rfl rfl ?_
  have hp0 : ∀ b, cfg0.pol 64 b = 0 := fun b => rfl
  by_cases k1 : k.Kind = 1
  · repeat' (first | ((first | refine wSeqr ?_ | refine wIf ?_ | refine wReg ?_ | (refine wRet ?_; (try simp only [thenQ, blockQ]); refine ends_by ?_)); intro xx hx; have hc := trivial; (repeat' (simp only [hc, Nat.reduceBEq, go_sem, Nat.reduceAdd, Nat.reduceMul, Nat.reduceSub, Nat.reduceEqDiff, Nat.reduceLT, Nat.reduceLeDiff, Int.reduceEq, Int.reduceLT, Int.reduceLE, reduceIte, aresults, aresult, hp0, c_iisZeroKey k.Key, cz_isZeroKey, nevzz, nevz_Claim k.Claim, c_iClaimFault, c_iisSeq, c_iisNode, c_iin, c_iisKeyId, k1] at hx; (try (rw [guardL_if] at hx; split at hx <;> rename_i hc)))); all_goals (subst hx; first | (refine ⟨_, rfl, fun ht => ?_, fun ht => ?_⟩ <;> (try simp only [bbs] at ht)) | (refine ⟨_, rfl, ?_⟩; (try simp only [tupOf])))) | refine wSkip ?_ | (refine wExit ?_; simp only [thenQ, blockQ, reduceIte, Nat.reduceEqDiff]) | refine wSeq ?_ | refine wBlock ?_)
    all_goals (refine gives_intv ?_; unfold msgFault; simp_all [inB, msgForm, need7, zeroKey]; try omega)
  by_cases k2 : k.Kind = 2
  · repeat' (first | ((first | refine wSeqr ?_ | refine wIf ?_ | refine wReg ?_ | (refine wRet ?_; (try simp only [thenQ, blockQ]); refine ends_by ?_)); intro xx hx; have hc := trivial; (repeat' (simp only [hc, Nat.reduceBEq, go_sem, Nat.reduceAdd, Nat.reduceMul, Nat.reduceSub, Nat.reduceEqDiff, Nat.reduceLT, Nat.reduceLeDiff, Int.reduceEq, Int.reduceLT, Int.reduceLE, reduceIte, aresults, aresult, hp0, c_iisZeroKey k.Key, cz_isZeroKey, nevzz, nevz_Claim k.Claim, c_iClaimFault, c_iisSeq, c_iisNode, c_iin, c_iisKeyId, k2] at hx; (try (rw [guardL_if] at hx; split at hx <;> rename_i hc)))); all_goals (subst hx; first | (refine ⟨_, rfl, fun ht => ?_, fun ht => ?_⟩ <;> (try simp only [bbs] at ht)) | (refine ⟨_, rfl, ?_⟩; (try simp only [tupOf])))) | refine wSkip ?_ | (refine wExit ?_; simp only [thenQ, blockQ, reduceIte, Nat.reduceEqDiff]) | refine wSeq ?_ | refine wBlock ?_)
    all_goals (refine gives_intv ?_; unfold msgFault; simp_all [inB, msgForm, need7, zeroKey]; try omega)
  by_cases k3 : k.Kind = 3
  · repeat' (first | ((first | refine wSeqr ?_ | refine wIf ?_ | refine wReg ?_ | (refine wRet ?_; (try simp only [thenQ, blockQ]); refine ends_by ?_)); intro xx hx; have hc := trivial; (repeat' (simp only [hc, Nat.reduceBEq, go_sem, Nat.reduceAdd, Nat.reduceMul, Nat.reduceSub, Nat.reduceEqDiff, Nat.reduceLT, Nat.reduceLeDiff, Int.reduceEq, Int.reduceLT, Int.reduceLE, reduceIte, aresults, aresult, hp0, c_iisZeroKey k.Key, cz_isZeroKey, nevzz, nevz_Claim k.Claim, c_iClaimFault, c_iisSeq, c_iisNode, c_iin, c_iisKeyId, k3] at hx; (try (rw [guardL_if] at hx; split at hx <;> rename_i hc)))); all_goals (subst hx; first | (refine ⟨_, rfl, fun ht => ?_, fun ht => ?_⟩ <;> (try simp only [bbs] at ht)) | (refine ⟨_, rfl, ?_⟩; (try simp only [tupOf])))) | refine wSkip ?_ | (refine wExit ?_; simp only [thenQ, blockQ, reduceIte, Nat.reduceEqDiff]) | refine wSeq ?_ | refine wBlock ?_)
    all_goals (refine gives_intv ?_; unfold msgFault; simp_all [inB, msgForm, need7, zeroKey]; try omega)
  by_cases k4 : k.Kind = 4
  · repeat' (first | ((first | refine wSeqr ?_ | refine wIf ?_ | refine wReg ?_ | (refine wRet ?_; (try simp only [thenQ, blockQ]); refine ends_by ?_)); intro xx hx; have hc := trivial; (repeat' (simp only [hc, Nat.reduceBEq, go_sem, Nat.reduceAdd, Nat.reduceMul, Nat.reduceSub, Nat.reduceEqDiff, Nat.reduceLT, Nat.reduceLeDiff, Int.reduceEq, Int.reduceLT, Int.reduceLE, reduceIte, aresults, aresult, hp0, c_iisZeroKey k.Key, cz_isZeroKey, nevzz, nevz_Claim k.Claim, c_iClaimFault, c_iisSeq, c_iisNode, c_iin, c_iisKeyId, k4] at hx; (try (rw [guardL_if] at hx; split at hx <;> rename_i hc)))); all_goals (subst hx; first | (refine ⟨_, rfl, fun ht => ?_, fun ht => ?_⟩ <;> (try simp only [bbs] at ht)) | (refine ⟨_, rfl, ?_⟩; (try simp only [tupOf])))) | refine wSkip ?_ | (refine wExit ?_; simp only [thenQ, blockQ, reduceIte, Nat.reduceEqDiff]) | refine wSeq ?_ | refine wBlock ?_)
    all_goals (refine gives_intv ?_; unfold msgFault; simp_all [inB, msgForm, need7, zeroKey]; try omega)
  by_cases k5 : k.Kind = 5
  · repeat' (first | ((first | refine wSeqr ?_ | refine wIf ?_ | refine wReg ?_ | (refine wRet ?_; (try simp only [thenQ, blockQ]); refine ends_by ?_)); intro xx hx; have hc := trivial; (repeat' (simp only [hc, Nat.reduceBEq, go_sem, Nat.reduceAdd, Nat.reduceMul, Nat.reduceSub, Nat.reduceEqDiff, Nat.reduceLT, Nat.reduceLeDiff, Int.reduceEq, Int.reduceLT, Int.reduceLE, reduceIte, aresults, aresult, hp0, c_iisZeroKey k.Key, cz_isZeroKey, nevzz, nevz_Claim k.Claim, c_iClaimFault, c_iisSeq, c_iisNode, c_iin, c_iisKeyId, k5] at hx; (try (rw [guardL_if] at hx; split at hx <;> rename_i hc)))); all_goals (subst hx; first | (refine ⟨_, rfl, fun ht => ?_, fun ht => ?_⟩ <;> (try simp only [bbs] at ht)) | (refine ⟨_, rfl, ?_⟩; (try simp only [tupOf])))) | refine wSkip ?_ | (refine wExit ?_; simp only [thenQ, blockQ, reduceIte, Nat.reduceEqDiff]) | refine wSeq ?_ | refine wBlock ?_)
    all_goals (refine gives_intv ?_; unfold msgFault; simp_all [inB, msgForm, need7, zeroKey]; try omega)
  repeat' (first | ((first | refine wSeqr ?_ | refine wIf ?_ | refine wReg ?_ | (refine wRet ?_; (try simp only [thenQ, blockQ]); refine ends_by ?_)); intro xx hx; have hc := trivial; (repeat' (simp only [hc, Nat.reduceBEq, go_sem, Nat.reduceAdd, Nat.reduceMul, Nat.reduceSub, Nat.reduceEqDiff, Nat.reduceLT, Nat.reduceLeDiff, Int.reduceEq, Int.reduceLT, Int.reduceLE, reduceIte, aresults, aresult, hp0, k1, k2, k3, k4, k5] at hx; (try (rw [guardL_if] at hx; split at hx <;> rename_i hc)))); all_goals (subst hx; first | (refine ⟨_, rfl, fun ht => ?_, fun ht => ?_⟩ <;> (try simp only [bbs] at ht)) | (refine ⟨_, rfl, ?_⟩; (try simp only [tupOf])))) | refine wSkip ?_ | (refine wExit ?_; simp only [thenQ, blockQ, reduceIte, Nat.reduceEqDiff]) | refine wSeq ?_ | refine wBlock ?_)
  all_goals (refine gives_intv ?_; unfold msgFault; simp_all [msgForm])
theorem c_iMessageFault (k : MessageM) : ∀ H, call Tryz.prog cfg0 0 64 [.agg [.v (.int .i64 k.Kind), .v (.int .i64 k.Seq), .v (.int .i64 k.Node), .v (.int .i64 k.Claim.Node), .v (.int .i64 k.Claim.Inc), .v (.int .i64 k.Claim.Status), .v (.int .i64 k.Claim.Meta), .v (.int .i64 k.Op), .v (.int .i64 k.Key.Id), bytesL k.Key.Bytes]] H = some (.v (.int .i64 (msgFault k)), H) :=
  call_fz Tryz.func64 rfl ok_iMessageFault rfl (by simp only [fz_cons, fz_nil, go_sem, and_self]) (p_iMessageFault k)

end
end Go.Proofs.YtakbbccdnkigpaaGreatDoor
namespace Go.Proofs.YtakbbccdnkigpaaGreatDoor
open Go Go.RowKit Go.Proofs.YtakbbccdnkigpaaGreatDoor.Eng
set_option linter.unusedSimpArgs false
set_option linter.unusedVariables false
set_option maxRecDepth 100000
set_option maxHeartbeats 2000000
noncomputable section
def hasB (l : List Int) (c : Int) : Bool := decide (0 ≤ Lib.indexByte (Lib.bytesOf l) c.toNat.toUInt8)
theorem ok_iHas : fnOk Tryz.prog cfg0 59 Tryz.f59 = true := by kernel_rfl
theorem p_iHas (l : List Int) (hne : l ≠ []) (c : Int) : pure Tryz.prog cfg0 59 Tryz.f59 [.v (.int .u8 c), .fp [bytesL l] 0] = some (.v (.bool (hasB l c)), true) := by
  refine pure_wp (rs := [.tmp 3]) rfl rfl ?_
  have hp0 : ∀ b, cfg0.pol 59 b = 0 := fun b => rfl
  repeat' (first | ((first | refine wSeqr ?_ | refine wIf ?_ | refine wReg ?_ | (refine wRet ?_; (try simp only [thenQ, blockQ]); refine ends_by ?_)); intro xx hx; have hc := trivial; (repeat' (simp only [hc, Nat.reduceBEq, go_sem, Nat.reduceAdd, Nat.reduceMul, Nat.reduceSub, Nat.reduceEqDiff, Nat.reduceLT, Nat.reduceLeDiff, Int.reduceEq, Int.reduceLT, Int.reduceLE, reduceIte, aresults, aresult, hp0, c_IndexByte l hne] at hx; (try (rw [guardL_if] at hx; split at hx <;> rename_i hc)))); all_goals (subst hx; first | (refine ⟨_, rfl, fun ht => ?_, fun ht => ?_⟩ <;> (try simp only [bbs] at ht)) | (refine ⟨_, rfl, ?_⟩; (try simp only [tupOf])))) | refine wSkip ?_ | (refine wExit ?_; simp only [thenQ, blockQ, reduceIte, Nat.reduceEqDiff]) | refine wSeq ?_ | refine wBlock ?_)
  all_goals (refine gives_boolv ?_; simp_all [hasB])
open Classical in
theorem cp_has (l : List Int) (hne : l ≠ []) (c : Int) : ∀ H b, call Tryz.prog cfg0 0 59 [.v (.int .u8 c), .ptr b 0] H = if H.h b = some [bytesL l] then some (.v (.bool (hasB l c)), H) else call' Tryz.prog cfg0 0 59 [.v (.int .u8 c), .ptr b 0] H := by
  intro H b
  exact call_if Tryz.func59 rfl ok_iHas rfl (fun hC => mapM_c rfl (mapM_c (deep_ptrD (n := 11) hC (mapM_c ((bytesL_fz 9 l).1 H) mapM_n)) mapM_n)) (p_iHas l hne c)
end
end Go.Proofs.YtakbbccdnkigpaaGreatDoor
namespace Go.Proofs.YtakbbccdnkigpaaGreatDoor
open Go Go.RowKit Go.Proofs.YtakbbccdnkigpaaGreatDoor.Eng
set_option linter.unusedSimpArgs false
set_option linter.unusedVariables false
set_option maxRecDepth 100000
set_option maxHeartbeats 2000000
noncomputable section
def need11 (k : EventM) (n a m d y : Bool) : Bool := (n || decide (k.Node = 0)) && (a || decide (k.At = 0)) && (m || decide (k.Mask = 0)) && (d || decide (k.Data.length = 0)) && (y || (decide (k.Op = 0) && decide (k.Key.Id = 0) && decide (k.Key.Bytes.length = 0)))
theorem ok_sl11N1 : fnOk Tryz.prog cfg0 93 Tryz.f93 = true := by kernel_rfl
theorem p_sl11N1 (k : EventM) : pure Tryz.prog cfg0 93 Tryz.f93 [.fp [.v (.int .i64 k.Kind), .v (.int .i64 k.Node), .v (.int .i64 k.At), .v (.int .i64 k.Mask), bytesL k.Data, .v (.int .i64 k.Op), .v (.int .i64 k.Key.Id), bytesL k.Key.Bytes] 0, .v (.bool true), .v (.bool false), .v (.bool false), .v (.bool false), .v (.bool false)] = some (.v (.bool (need11 k true false false false false)), true) := by
  refine pure_wp (rs := [.tmp 12]) rfl rfl ?_
  have hp0 : ∀ b, cfg0.pol 93 b = 0 := fun b => rfl
  by_cases h2 : k.At = 0
  · skip
    by_cases h3 : k.Mask = 0
    · skip
      by_cases h4 : k.Data.length = 0
      · skip
        by_cases h5 : k.Op = 0
        · skip
          by_cases h6 : k.Key.Id = 0
          · skip
            by_cases h7 : k.Key.Bytes.length = 0
            · skip
              repeat' (first | ((first | refine wSeqr ?_ | refine wIf ?_ | refine wReg ?_ | (refine wRet ?_; (try simp only [thenQ, blockQ]); refine ends_by ?_)); intro xx hx; have hc := trivial; (repeat' (simp only [hc, Nat.reduceBEq, go_sem, Nat.reduceAdd, Nat.reduceMul, Nat.reduceSub, Nat.reduceEqDiff, Nat.reduceLT, Nat.reduceLeDiff, Int.reduceEq, Int.reduceLT, Int.reduceLE, reduceIte, aresults, aresult, hp0, Int.natCast_eq_zero, h2, h3, h4, h5, h6, h7] at hx; (try (rw [guardL_if] at hx; split at hx <;> rename_i hc)))); all_goals (subst hx; first | (refine ⟨_, rfl, fun ht => ?_, fun ht => ?_⟩ <;> (try simp only [bbs] at ht)) | (refine ⟨_, rfl, ?_⟩; (try simp only [tupOf])))) | refine wSkip ?_ | (refine wExit ?_; simp only [thenQ, blockQ, reduceIte, Nat.reduceEqDiff]) | refine wSeq ?_ | refine wBlock ?_)
              all_goals (refine gives_boolv ?_; simp_all [need11])
            · repeat' (first | ((first | refine wSeqr ?_ | refine wIf ?_ | refine wReg ?_ | (refine wRet ?_; (try simp only [thenQ, blockQ]); refine ends_by ?_)); intro xx hx; have hc := trivial; (repeat' (simp only [hc, Nat.reduceBEq, go_sem, Nat.reduceAdd, Nat.reduceMul, Nat.reduceSub, Nat.reduceEqDiff, Nat.reduceLT, Nat.reduceLeDiff, Int.reduceEq, Int.reduceLT, Int.reduceLE, reduceIte, aresults, aresult, hp0, Int.natCast_eq_zero, h2, h3, h4, h5, h6, h7] at hx; (try (rw [guardL_if] at hx; split at hx <;> rename_i hc)))); all_goals (subst hx; first | (refine ⟨_, rfl, fun ht => ?_, fun ht => ?_⟩ <;> (try simp only [bbs] at ht)) | (refine ⟨_, rfl, ?_⟩; (try simp only [tupOf])))) | refine wSkip ?_ | (refine wExit ?_; simp only [thenQ, blockQ, reduceIte, Nat.reduceEqDiff]) | refine wSeq ?_ | refine wBlock ?_)
              all_goals (refine gives_boolv ?_; simp_all [need11])
          · repeat' (first | ((first | refine wSeqr ?_ | refine wIf ?_ | refine wReg ?_ | (refine wRet ?_; (try simp only [thenQ, blockQ]); refine ends_by ?_)); intro xx hx; have hc := trivial; (repeat' (simp only [hc, Nat.reduceBEq, go_sem, Nat.reduceAdd, Nat.reduceMul, Nat.reduceSub, Nat.reduceEqDiff, Nat.reduceLT, Nat.reduceLeDiff, Int.reduceEq, Int.reduceLT, Int.reduceLE, reduceIte, aresults, aresult, hp0, Int.natCast_eq_zero, h2, h3, h4, h5, h6] at hx; (try (rw [guardL_if] at hx; split at hx <;> rename_i hc)))); all_goals (subst hx; first | (refine ⟨_, rfl, fun ht => ?_, fun ht => ?_⟩ <;> (try simp only [bbs] at ht)) | (refine ⟨_, rfl, ?_⟩; (try simp only [tupOf])))) | refine wSkip ?_ | (refine wExit ?_; simp only [thenQ, blockQ, reduceIte, Nat.reduceEqDiff]) | refine wSeq ?_ | refine wBlock ?_)
            all_goals (refine gives_boolv ?_; simp_all [need11])
        · repeat' (first | ((first | refine wSeqr ?_ | refine wIf ?_ | refine wReg ?_ | (refine wRet ?_; (try simp only [thenQ, blockQ]); refine ends_by ?_)); intro xx hx; have hc := trivial; (repeat' (simp only [hc, Nat.reduceBEq, go_sem, Nat.reduceAdd, Nat.reduceMul, Nat.reduceSub, Nat.reduceEqDiff, Nat.reduceLT, Nat.reduceLeDiff, Int.reduceEq, Int.reduceLT, Int.reduceLE, reduceIte, aresults, aresult, hp0, Int.natCast_eq_zero, h2, h3, h4, h5] at hx; (try (rw [guardL_if] at hx; split at hx <;> rename_i hc)))); all_goals (subst hx; first | (refine ⟨_, rfl, fun ht => ?_, fun ht => ?_⟩ <;> (try simp only [bbs] at ht)) | (refine ⟨_, rfl, ?_⟩; (try simp only [tupOf])))) | refine wSkip ?_ | (refine wExit ?_; simp only [thenQ, blockQ, reduceIte, Nat.reduceEqDiff]) | refine wSeq ?_ | refine wBlock ?_)
          all_goals (refine gives_boolv ?_; simp_all [need11])
      · repeat' (first | ((first | refine wSeqr ?_ | refine wIf ?_ | refine wReg ?_ | (refine wRet ?_; (try simp only [thenQ, blockQ]); refine ends_by ?_)); intro xx hx; have hc := trivial; (repeat' (simp only [hc, Nat.reduceBEq, go_sem, Nat.reduceAdd, Nat.reduceMul, Nat.reduceSub, Nat.reduceEqDiff, Nat.reduceLT, Nat.reduceLeDiff, Int.reduceEq, Int.reduceLT, Int.reduceLE, reduceIte, aresults, aresult, hp0, Int.natCast_eq_zero, h2, h3, h4] at hx; (try (rw [guardL_if] at hx; split at hx <;> rename_i hc)))); all_goals (subst hx; first | (refine ⟨_, rfl, fun ht => ?_, fun ht => ?_⟩ <;> (try simp only [bbs] at ht)) | (refine ⟨_, rfl, ?_⟩; (try simp only [tupOf])))) | refine wSkip ?_ | (refine wExit ?_; simp only [thenQ, blockQ, reduceIte, Nat.reduceEqDiff]) | refine wSeq ?_ | refine wBlock ?_)
        all_goals (refine gives_boolv ?_; simp_all [need11])
    · repeat' (first | ((first | refine wSeqr ?_ | refine wIf ?_ | refine wReg ?_ | (refine wRet ?_; (try simp only [thenQ, blockQ]); refine ends_by ?_)); intro xx hx; have hc := trivial; (repeat' (simp only [hc, Nat.reduceBEq, go_sem, Nat.reduceAdd, Nat.reduceMul, Nat.reduceSub, Nat.reduceEqDiff, Nat.reduceLT, Nat.reduceLeDiff, Int.reduceEq, Int.reduceLT, Int.reduceLE, reduceIte, aresults, aresult, hp0, Int.natCast_eq_zero, h2, h3] at hx; (try (rw [guardL_if] at hx; split at hx <;> rename_i hc)))); all_goals (subst hx; first | (refine ⟨_, rfl, fun ht => ?_, fun ht => ?_⟩ <;> (try simp only [bbs] at ht)) | (refine ⟨_, rfl, ?_⟩; (try simp only [tupOf])))) | refine wSkip ?_ | (refine wExit ?_; simp only [thenQ, blockQ, reduceIte, Nat.reduceEqDiff]) | refine wSeq ?_ | refine wBlock ?_)
      all_goals (refine gives_boolv ?_; simp_all [need11])
  · repeat' (first | ((first | refine wSeqr ?_ | refine wIf ?_ | refine wReg ?_ | (refine wRet ?_; (try simp only [thenQ, blockQ]); refine ends_by ?_)); intro xx hx; have hc := trivial; (repeat' (simp only [hc, Nat.reduceBEq, go_sem, Nat.reduceAdd, Nat.reduceMul, Nat.reduceSub, Nat.reduceEqDiff, Nat.reduceLT, Nat.reduceLeDiff, Int.reduceEq, Int.reduceLT, Int.reduceLE, reduceIte, aresults, aresult, hp0, Int.natCast_eq_zero, h2] at hx; (try (rw [guardL_if] at hx; split at hx <;> rename_i hc)))); all_goals (subst hx; first | (refine ⟨_, rfl, fun ht => ?_, fun ht => ?_⟩ <;> (try simp only [bbs] at ht)) | (refine ⟨_, rfl, ?_⟩; (try simp only [tupOf])))) | refine wSkip ?_ | (refine wExit ?_; simp only [thenQ, blockQ, reduceIte, Nat.reduceEqDiff]) | refine wSeq ?_ | refine wBlock ?_)
    all_goals (refine gives_boolv ?_; simp_all [need11])
theorem c_sl11N1 (k : EventM) : ∀ H, call Tryz.prog cfg0 0 93 [.fp [.v (.int .i64 k.Kind), .v (.int .i64 k.Node), .v (.int .i64 k.At), .v (.int .i64 k.Mask), bytesL k.Data, .v (.int .i64 k.Op), .v (.int .i64 k.Key.Id), bytesL k.Key.Bytes] 0, .v (.bool true), .v (.bool false), .v (.bool false), .v (.bool false), .v (.bool false)] H = some (.v (.bool (need11 k true false false false false)), H) :=
  call_fz Tryz.func93 rfl ok_sl11N1 rfl (by simp only [fz_cons, fz_nil, go_sem, and_self]) (p_sl11N1 k)
theorem ok_sl11N2 : fnOk Tryz.prog cfg0 93 Tryz.f93 = true := by kernel_rfl
theorem p_sl11N2 (k : EventM) : pure Tryz.prog cfg0 93 Tryz.f93 [.fp [.v (.int .i64 k.Kind), .v (.int .i64 k.Node), .v (.int .i64 k.At), .v (.int .i64 k.Mask), bytesL k.Data, .v (.int .i64 k.Op), .v (.int .i64 k.Key.Id), bytesL k.Key.Bytes] 0, .v (.bool false), .v (.bool true), .v (.bool false), .v (.bool false), .v (.bool false)] = some (.v (.bool (need11 k false true false false false)), true) := by
  refine pure_wp (rs := [.tmp 12]) rfl rfl ?_
  have hp0 : ∀ b, cfg0.pol 93 b = 0 := fun b => rfl
  by_cases h1 : k.Node = 0
  · skip
    by_cases h3 : k.Mask = 0
    · skip
      by_cases h4 : k.Data.length = 0
      · skip
        by_cases h5 : k.Op = 0
        · skip
          by_cases h6 : k.Key.Id = 0
          · skip
            by_cases h7 : k.Key.Bytes.length = 0
            · skip
              repeat' (first | ((first | refine wSeqr ?_ | refine wIf ?_ | refine wReg ?_ | (refine wRet ?_; (try simp only [thenQ, blockQ]); refine ends_by ?_)); intro xx hx; have hc := trivial; (repeat' (simp only [hc, Nat.reduceBEq, go_sem, Nat.reduceAdd, Nat.reduceMul, Nat.reduceSub, Nat.reduceEqDiff, Nat.reduceLT, Nat.reduceLeDiff, Int.reduceEq, Int.reduceLT, Int.reduceLE, reduceIte, aresults, aresult, hp0, Int.natCast_eq_zero, h1, h3, h4, h5, h6, h7] at hx; (try (rw [guardL_if] at hx; split at hx <;> rename_i hc)))); all_goals (subst hx; first | (refine ⟨_, rfl, fun ht => ?_, fun ht => ?_⟩ <;> (try simp only [bbs] at ht)) | (refine ⟨_, rfl, ?_⟩; (try simp only [tupOf])))) | refine wSkip ?_ | (refine wExit ?_; simp only [thenQ, blockQ, reduceIte, Nat.reduceEqDiff]) | refine wSeq ?_ | refine wBlock ?_)
              all_goals (refine gives_boolv ?_; simp_all [need11])
            · repeat' (first | ((first | refine wSeqr ?_ | refine wIf ?_ | refine wReg ?_ | (refine wRet ?_; (try simp only [thenQ, blockQ]); refine ends_by ?_)); intro xx hx; have hc := trivial; (repeat' (simp only [hc, Nat.reduceBEq, go_sem, Nat.reduceAdd, Nat.reduceMul, Nat.reduceSub, Nat.reduceEqDiff, Nat.reduceLT, Nat.reduceLeDiff, Int.reduceEq, Int.reduceLT, Int.reduceLE, reduceIte, aresults, aresult, hp0, Int.natCast_eq_zero, h1, h3, h4, h5, h6, h7] at hx; (try (rw [guardL_if] at hx; split at hx <;> rename_i hc)))); all_goals (subst hx; first | (refine ⟨_, rfl, fun ht => ?_, fun ht => ?_⟩ <;> (try simp only [bbs] at ht)) | (refine ⟨_, rfl, ?_⟩; (try simp only [tupOf])))) | refine wSkip ?_ | (refine wExit ?_; simp only [thenQ, blockQ, reduceIte, Nat.reduceEqDiff]) | refine wSeq ?_ | refine wBlock ?_)
              all_goals (refine gives_boolv ?_; simp_all [need11])
          · repeat' (first | ((first | refine wSeqr ?_ | refine wIf ?_ | refine wReg ?_ | (refine wRet ?_; (try simp only [thenQ, blockQ]); refine ends_by ?_)); intro xx hx; have hc := trivial; (repeat' (simp only [hc, Nat.reduceBEq, go_sem, Nat.reduceAdd, Nat.reduceMul, Nat.reduceSub, Nat.reduceEqDiff, Nat.reduceLT, Nat.reduceLeDiff, Int.reduceEq, Int.reduceLT, Int.reduceLE, reduceIte, aresults, aresult, hp0, Int.natCast_eq_zero, h1, h3, h4, h5, h6] at hx; (try (rw [guardL_if] at hx; split at hx <;> rename_i hc)))); all_goals (subst hx; first | (refine ⟨_, rfl, fun ht => ?_, fun ht => ?_⟩ <;> (try simp only [bbs] at ht)) | (refine ⟨_, rfl, ?_⟩; (try simp only [tupOf])))) | refine wSkip ?_ | (refine wExit ?_; simp only [thenQ, blockQ, reduceIte, Nat.reduceEqDiff]) | refine wSeq ?_ | refine wBlock ?_)
            all_goals (refine gives_boolv ?_; simp_all [need11])
        · repeat' (first | ((first | refine wSeqr ?_ | refine wIf ?_ | refine wReg ?_ | (refine wRet ?_; (try simp only [thenQ, blockQ]); refine ends_by ?_)); intro xx hx; have hc := trivial; (repeat' (simp only [hc, Nat.reduceBEq, go_sem, Nat.reduceAdd, Nat.reduceMul, Nat.reduceSub, Nat.reduceEqDiff, Nat.reduceLT, Nat.reduceLeDiff, Int.reduceEq, Int.reduceLT, Int.reduceLE, reduceIte, aresults, aresult, hp0, Int.natCast_eq_zero, h1, h3, h4, h5] at hx; (try (rw [guardL_if] at hx; split at hx <;> rename_i hc)))); all_goals (subst hx; first | (refine ⟨_, rfl, fun ht => ?_, fun ht => ?_⟩ <;> (try simp only [bbs] at ht)) | (refine ⟨_, rfl, ?_⟩; (try simp only [tupOf])))) | refine wSkip ?_ | (refine wExit ?_; simp only [thenQ, blockQ, reduceIte, Nat.reduceEqDiff]) | refine wSeq ?_ | refine wBlock ?_)
          all_goals (refine gives_boolv ?_; simp_all [need11])
      · repeat' (first | ((first | refine wSeqr ?_ | refine wIf ?_ | refine wReg ?_ | (refine wRet ?_; (try simp only [thenQ, blockQ]); refine ends_by ?_)); intro xx hx; have hc := trivial; (repeat' (simp only [hc, Nat.reduceBEq, go_sem, Nat.reduceAdd, Nat.reduceMul, Nat.reduceSub, Nat.reduceEqDiff, Nat.reduceLT, Nat.reduceLeDiff, Int.reduceEq, Int.reduceLT, Int.reduceLE, reduceIte, aresults, aresult, hp0, Int.natCast_eq_zero, h1, h3, h4] at hx; (try (rw [guardL_if] at hx; split at hx <;> rename_i hc)))); all_goals (subst hx; first | (refine ⟨_, rfl, fun ht => ?_, fun ht => ?_⟩ <;> (try simp only [bbs] at ht)) | (refine ⟨_, rfl, ?_⟩; (try simp only [tupOf])))) | refine wSkip ?_ | (refine wExit ?_; simp only [thenQ, blockQ, reduceIte, Nat.reduceEqDiff]) | refine wSeq ?_ | refine wBlock ?_)
        all_goals (refine gives_boolv ?_; simp_all [need11])
    · repeat' (first | ((first | refine wSeqr ?_ | refine wIf ?_ | refine wReg ?_ | (refine wRet ?_; (try simp only [thenQ, blockQ]); refine ends_by ?_)); intro xx hx; have hc := trivial; (repeat' (simp only [hc, Nat.reduceBEq, go_sem, Nat.reduceAdd, Nat.reduceMul, Nat.reduceSub, Nat.reduceEqDiff, Nat.reduceLT, Nat.reduceLeDiff, Int.reduceEq, Int.reduceLT, Int.reduceLE, reduceIte, aresults, aresult, hp0, Int.natCast_eq_zero, h1, h3] at hx; (try (rw [guardL_if] at hx; split at hx <;> rename_i hc)))); all_goals (subst hx; first | (refine ⟨_, rfl, fun ht => ?_, fun ht => ?_⟩ <;> (try simp only [bbs] at ht)) | (refine ⟨_, rfl, ?_⟩; (try simp only [tupOf])))) | refine wSkip ?_ | (refine wExit ?_; simp only [thenQ, blockQ, reduceIte, Nat.reduceEqDiff]) | refine wSeq ?_ | refine wBlock ?_)
      all_goals (refine gives_boolv ?_; simp_all [need11])
  · repeat' (first | ((first | refine wSeqr ?_ | refine wIf ?_ | refine wReg ?_ | (refine wRet ?_; (try simp only [thenQ, blockQ]); refine ends_by ?_)); intro xx hx; have hc := trivial; (repeat' (simp only [hc, Nat.reduceBEq, go_sem, Nat.reduceAdd, Nat.reduceMul, Nat.reduceSub, Nat.reduceEqDiff, Nat.reduceLT, Nat.reduceLeDiff, Int.reduceEq, Int.reduceLT, Int.reduceLE, reduceIte, aresults, aresult, hp0, Int.natCast_eq_zero, h1] at hx; (try (rw [guardL_if] at hx; split at hx <;> rename_i hc)))); all_goals (subst hx; first | (refine ⟨_, rfl, fun ht => ?_, fun ht => ?_⟩ <;> (try simp only [bbs] at ht)) | (refine ⟨_, rfl, ?_⟩; (try simp only [tupOf])))) | refine wSkip ?_ | (refine wExit ?_; simp only [thenQ, blockQ, reduceIte, Nat.reduceEqDiff]) | refine wSeq ?_ | refine wBlock ?_)
    all_goals (refine gives_boolv ?_; simp_all [need11])
theorem c_sl11N2 (k : EventM) : ∀ H, call Tryz.prog cfg0 0 93 [.fp [.v (.int .i64 k.Kind), .v (.int .i64 k.Node), .v (.int .i64 k.At), .v (.int .i64 k.Mask), bytesL k.Data, .v (.int .i64 k.Op), .v (.int .i64 k.Key.Id), bytesL k.Key.Bytes] 0, .v (.bool false), .v (.bool true), .v (.bool false), .v (.bool false), .v (.bool false)] H = some (.v (.bool (need11 k false true false false false)), H) :=
  call_fz Tryz.func93 rfl ok_sl11N2 rfl (by simp only [fz_cons, fz_nil, go_sem, and_self]) (p_sl11N2 k)
theorem ok_sl11N3 : fnOk Tryz.prog cfg0 93 Tryz.f93 = true := by kernel_rfl
theorem p_sl11N3 (k : EventM) : pure Tryz.prog cfg0 93 Tryz.f93 [.fp [.v (.int .i64 k.Kind), .v (.int .i64 k.Node), .v (.int .i64 k.At), .v (.int .i64 k.Mask), bytesL k.Data, .v (.int .i64 k.Op), .v (.int .i64 k.Key.Id), bytesL k.Key.Bytes] 0, .v (.bool false), .v (.bool true), .v (.bool true), .v (.bool true), .v (.bool false)] = some (.v (.bool (need11 k false true true true false)), true) := by
  refine pure_wp (rs := [.tmp 12]) rfl rfl ?_
  have hp0 : ∀ b, cfg0.pol 93 b = 0 := fun b => rfl
  by_cases h1 : k.Node = 0
  · skip
    by_cases h5 : k.Op = 0
    · skip
      by_cases h6 : k.Key.Id = 0
      · skip
        by_cases h7 : k.Key.Bytes.length = 0
        · skip
          repeat' (first | ((first | refine wSeqr ?_ | refine wIf ?_ | refine wReg ?_ | (refine wRet ?_; (try simp only [thenQ, blockQ]); refine ends_by ?_)); intro xx hx; have hc := trivial; (repeat' (simp only [hc, Nat.reduceBEq, go_sem, Nat.reduceAdd, Nat.reduceMul, Nat.reduceSub, Nat.reduceEqDiff, Nat.reduceLT, Nat.reduceLeDiff, Int.reduceEq, Int.reduceLT, Int.reduceLE, reduceIte, aresults, aresult, hp0, Int.natCast_eq_zero, h1, h5, h6, h7] at hx; (try (rw [guardL_if] at hx; split at hx <;> rename_i hc)))); all_goals (subst hx; first | (refine ⟨_, rfl, fun ht => ?_, fun ht => ?_⟩ <;> (try simp only [bbs] at ht)) | (refine ⟨_, rfl, ?_⟩; (try simp only [tupOf])))) | refine wSkip ?_ | (refine wExit ?_; simp only [thenQ, blockQ, reduceIte, Nat.reduceEqDiff]) | refine wSeq ?_ | refine wBlock ?_)
          all_goals (refine gives_boolv ?_; simp_all [need11])
        · repeat' (first | ((first | refine wSeqr ?_ | refine wIf ?_ | refine wReg ?_ | (refine wRet ?_; (try simp only [thenQ, blockQ]); refine ends_by ?_)); intro xx hx; have hc := trivial; (repeat' (simp only [hc, Nat.reduceBEq, go_sem, Nat.reduceAdd, Nat.reduceMul, Nat.reduceSub, Nat.reduceEqDiff, Nat.reduceLT, Nat.reduceLeDiff, Int.reduceEq, Int.reduceLT, Int.reduceLE, reduceIte, aresults, aresult, hp0, Int.natCast_eq_zero, h1, h5, h6, h7] at hx; (try (rw [guardL_if] at hx; split at hx <;> rename_i hc)))); all_goals (subst hx; first | (refine ⟨_, rfl, fun ht => ?_, fun ht => ?_⟩ <;> (try simp only [bbs] at ht)) | (refine ⟨_, rfl, ?_⟩; (try simp only [tupOf])))) | refine wSkip ?_ | (refine wExit ?_; simp only [thenQ, blockQ, reduceIte, Nat.reduceEqDiff]) | refine wSeq ?_ | refine wBlock ?_)
          all_goals (refine gives_boolv ?_; simp_all [need11])
      · repeat' (first | ((first | refine wSeqr ?_ | refine wIf ?_ | refine wReg ?_ | (refine wRet ?_; (try simp only [thenQ, blockQ]); refine ends_by ?_)); intro xx hx; have hc := trivial; (repeat' (simp only [hc, Nat.reduceBEq, go_sem, Nat.reduceAdd, Nat.reduceMul, Nat.reduceSub, Nat.reduceEqDiff, Nat.reduceLT, Nat.reduceLeDiff, Int.reduceEq, Int.reduceLT, Int.reduceLE, reduceIte, aresults, aresult, hp0, Int.natCast_eq_zero, h1, h5, h6] at hx; (try (rw [guardL_if] at hx; split at hx <;> rename_i hc)))); all_goals (subst hx; first | (refine ⟨_, rfl, fun ht => ?_, fun ht => ?_⟩ <;> (try simp only [bbs] at ht)) | (refine ⟨_, rfl, ?_⟩; (try simp only [tupOf])))) | refine wSkip ?_ | (refine wExit ?_; simp only [thenQ, blockQ, reduceIte, Nat.reduceEqDiff]) | refine wSeq ?_ | refine wBlock ?_)
        all_goals (refine gives_boolv ?_; simp_all [need11])
    · repeat' (first | ((first | refine wSeqr ?_ | refine wIf ?_ | refine wReg ?_ | (refine wRet ?_; (try simp only [thenQ, blockQ]); refine ends_by ?_)); intro xx hx; have hc := trivial; (repeat' (simp only [hc, Nat.reduceBEq, go_sem, Nat.reduceAdd, Nat.reduceMul, Nat.reduceSub, Nat.reduceEqDiff, Nat.reduceLT, Nat.reduceLeDiff, Int.reduceEq, Int.reduceLT, Int.reduceLE, reduceIte, aresults, aresult, hp0, Int.natCast_eq_zero, h1, h5] at hx; (try (rw [guardL_if] at hx; split at hx <;> rename_i hc)))); all_goals (subst hx; first | (refine ⟨_, rfl, fun ht => ?_, fun ht => ?_⟩ <;> (try simp only [bbs] at ht)) | (refine ⟨_, rfl, ?_⟩; (try simp only [tupOf])))) | refine wSkip ?_ | (refine wExit ?_; simp only [thenQ, blockQ, reduceIte, Nat.reduceEqDiff]) | refine wSeq ?_ | refine wBlock ?_)
      all_goals (refine gives_boolv ?_; simp_all [need11])
  · repeat' (first | ((first | refine wSeqr ?_ | refine wIf ?_ | refine wReg ?_ | (refine wRet ?_; (try simp only [thenQ, blockQ]); refine ends_by ?_)); intro xx hx; have hc := trivial; (repeat' (simp only [hc, Nat.reduceBEq, go_sem, Nat.reduceAdd, Nat.reduceMul, Nat.reduceSub, Nat.reduceEqDiff, Nat.reduceLT, Nat.reduceLeDiff, Int.reduceEq, Int.reduceLT, Int.reduceLE, reduceIte, aresults, aresult, hp0, Int.natCast_eq_zero, h1] at hx; (try (rw [guardL_if] at hx; split at hx <;> rename_i hc)))); all_goals (subst hx; first | (refine ⟨_, rfl, fun ht => ?_, fun ht => ?_⟩ <;> (try simp only [bbs] at ht)) | (refine ⟨_, rfl, ?_⟩; (try simp only [tupOf])))) | refine wSkip ?_ | (refine wExit ?_; simp only [thenQ, blockQ, reduceIte, Nat.reduceEqDiff]) | refine wSeq ?_ | refine wBlock ?_)
    all_goals (refine gives_boolv ?_; simp_all [need11])
theorem c_sl11N3 (k : EventM) : ∀ H, call Tryz.prog cfg0 0 93 [.fp [.v (.int .i64 k.Kind), .v (.int .i64 k.Node), .v (.int .i64 k.At), .v (.int .i64 k.Mask), bytesL k.Data, .v (.int .i64 k.Op), .v (.int .i64 k.Key.Id), bytesL k.Key.Bytes] 0, .v (.bool false), .v (.bool true), .v (.bool true), .v (.bool true), .v (.bool false)] H = some (.v (.bool (need11 k false true true true false)), H) :=
  call_fz Tryz.func93 rfl ok_sl11N3 rfl (by simp only [fz_cons, fz_nil, go_sem, and_self]) (p_sl11N3 k)
theorem ok_sl11N4 : fnOk Tryz.prog cfg0 93 Tryz.f93 = true := by kernel_rfl
theorem p_sl11N4 (k : EventM) : pure Tryz.prog cfg0 93 Tryz.f93 [.fp [.v (.int .i64 k.Kind), .v (.int .i64 k.Node), .v (.int .i64 k.At), .v (.int .i64 k.Mask), bytesL k.Data, .v (.int .i64 k.Op), .v (.int .i64 k.Key.Id), bytesL k.Key.Bytes] 0, .v (.bool true), .v (.bool false), .v (.bool false), .v (.bool true), .v (.bool false)] = some (.v (.bool (need11 k true false false true false)), true) := by
  refine pure_wp (rs := [.tmp 12]) rfl rfl ?_
  have hp0 : ∀ b, cfg0.pol 93 b = 0 := fun b => rfl
  by_cases h2 : k.At = 0
  · skip
    by_cases h3 : k.Mask = 0
    · skip
      by_cases h5 : k.Op = 0
      · skip
        by_cases h6 : k.Key.Id = 0
        · skip
          by_cases h7 : k.Key.Bytes.length = 0
          · skip
            repeat' (first | ((first | refine wSeqr ?_ | refine wIf ?_ | refine wReg ?_ | (refine wRet ?_; (try simp only [thenQ, blockQ]); refine ends_by ?_)); intro xx hx; have hc := trivial; (repeat' (simp only [hc, Nat.reduceBEq, go_sem, Nat.reduceAdd, Nat.reduceMul, Nat.reduceSub, Nat.reduceEqDiff, Nat.reduceLT, Nat.reduceLeDiff, Int.reduceEq, Int.reduceLT, Int.reduceLE, reduceIte, aresults, aresult, hp0, Int.natCast_eq_zero, h2, h3, h5, h6, h7] at hx; (try (rw [guardL_if] at hx; split at hx <;> rename_i hc)))); all_goals (subst hx; first | (refine ⟨_, rfl, fun ht => ?_, fun ht => ?_⟩ <;> (try simp only [bbs] at ht)) | (refine ⟨_, rfl, ?_⟩; (try simp only [tupOf])))) | refine wSkip ?_ | (refine wExit ?_; simp only [thenQ, blockQ, reduceIte, Nat.reduceEqDiff]) | refine wSeq ?_ | refine wBlock ?_)
            all_goals (refine gives_boolv ?_; simp_all [need11])
          · repeat' (first | ((first | refine wSeqr ?_ | refine wIf ?_ | refine wReg ?_ | (refine wRet ?_; (try simp only [thenQ, blockQ]); refine ends_by ?_)); intro xx hx; have hc := trivial; (repeat' (simp only [hc, Nat.reduceBEq, go_sem, Nat.reduceAdd, Nat.reduceMul, Nat.reduceSub, Nat.reduceEqDiff, Nat.reduceLT, Nat.reduceLeDiff, Int.reduceEq, Int.reduceLT, Int.reduceLE, reduceIte, aresults, aresult, hp0, Int.natCast_eq_zero, h2, h3, h5, h6, h7] at hx; (try (rw [guardL_if] at hx; split at hx <;> rename_i hc)))); all_goals (subst hx; first | (refine ⟨_, rfl, fun ht => ?_, fun ht => ?_⟩ <;> (try simp only [bbs] at ht)) | (refine ⟨_, rfl, ?_⟩; (try simp only [tupOf])))) | refine wSkip ?_ | (refine wExit ?_; simp only [thenQ, blockQ, reduceIte, Nat.reduceEqDiff]) | refine wSeq ?_ | refine wBlock ?_)
            all_goals (refine gives_boolv ?_; simp_all [need11])
        · repeat' (first | ((first | refine wSeqr ?_ | refine wIf ?_ | refine wReg ?_ | (refine wRet ?_; (try simp only [thenQ, blockQ]); refine ends_by ?_)); intro xx hx; have hc := trivial; (repeat' (simp only [hc, Nat.reduceBEq, go_sem, Nat.reduceAdd, Nat.reduceMul, Nat.reduceSub, Nat.reduceEqDiff, Nat.reduceLT, Nat.reduceLeDiff, Int.reduceEq, Int.reduceLT, Int.reduceLE, reduceIte, aresults, aresult, hp0, Int.natCast_eq_zero, h2, h3, h5, h6] at hx; (try (rw [guardL_if] at hx; split at hx <;> rename_i hc)))); all_goals (subst hx; first | (refine ⟨_, rfl, fun ht => ?_, fun ht => ?_⟩ <;> (try simp only [bbs] at ht)) | (refine ⟨_, rfl, ?_⟩; (try simp only [tupOf])))) | refine wSkip ?_ | (refine wExit ?_; simp only [thenQ, blockQ, reduceIte, Nat.reduceEqDiff]) | refine wSeq ?_ | refine wBlock ?_)
          all_goals (refine gives_boolv ?_; simp_all [need11])
      · repeat' (first | ((first | refine wSeqr ?_ | refine wIf ?_ | refine wReg ?_ | (refine wRet ?_; (try simp only [thenQ, blockQ]); refine ends_by ?_)); intro xx hx; have hc := trivial; (repeat' (simp only [hc, Nat.reduceBEq, go_sem, Nat.reduceAdd, Nat.reduceMul, Nat.reduceSub, Nat.reduceEqDiff, Nat.reduceLT, Nat.reduceLeDiff, Int.reduceEq, Int.reduceLT, Int.reduceLE, reduceIte, aresults, aresult, hp0, Int.natCast_eq_zero, h2, h3, h5] at hx; (try (rw [guardL_if] at hx; split at hx <;> rename_i hc)))); all_goals (subst hx; first | (refine ⟨_, rfl, fun ht => ?_, fun ht => ?_⟩ <;> (try simp only [bbs] at ht)) | (refine ⟨_, rfl, ?_⟩; (try simp only [tupOf])))) | refine wSkip ?_ | (refine wExit ?_; simp only [thenQ, blockQ, reduceIte, Nat.reduceEqDiff]) | refine wSeq ?_ | refine wBlock ?_)
        all_goals (refine gives_boolv ?_; simp_all [need11])
    · repeat' (first | ((first | refine wSeqr ?_ | refine wIf ?_ | refine wReg ?_ | (refine wRet ?_; (try simp only [thenQ, blockQ]); refine ends_by ?_)); intro xx hx; have hc := trivial; (repeat' (simp only [hc, Nat.reduceBEq, go_sem, Nat.reduceAdd, Nat.reduceMul, Nat.reduceSub, Nat.reduceEqDiff, Nat.reduceLT, Nat.reduceLeDiff, Int.reduceEq, Int.reduceLT, Int.reduceLE, reduceIte, aresults, aresult, hp0, Int.natCast_eq_zero, h2, h3] at hx; (try (rw [guardL_if] at hx; split at hx <;> rename_i hc)))); all_goals (subst hx; first | (refine ⟨_, rfl, fun ht => ?_, fun ht => ?_⟩ <;> (try simp only [bbs] at ht)) | (refine ⟨_, rfl, ?_⟩; (try simp only [tupOf])))) | refine wSkip ?_ | (refine wExit ?_; simp only [thenQ, blockQ, reduceIte, Nat.reduceEqDiff]) | refine wSeq ?_ | refine wBlock ?_)
      all_goals (refine gives_boolv ?_; simp_all [need11])
  · repeat' (first | ((first | refine wSeqr ?_ | refine wIf ?_ | refine wReg ?_ | (refine wRet ?_; (try simp only [thenQ, blockQ]); refine ends_by ?_)); intro xx hx; have hc := trivial; (repeat' (simp only [hc, Nat.reduceBEq, go_sem, Nat.reduceAdd, Nat.reduceMul, Nat.reduceSub, Nat.reduceEqDiff, Nat.reduceLT, Nat.reduceLeDiff, Int.reduceEq, Int.reduceLT, Int.reduceLE, reduceIte, aresults, aresult, hp0, Int.natCast_eq_zero, h2] at hx; (try (rw [guardL_if] at hx; split at hx <;> rename_i hc)))); all_goals (subst hx; first | (refine ⟨_, rfl, fun ht => ?_, fun ht => ?_⟩ <;> (try simp only [bbs] at ht)) | (refine ⟨_, rfl, ?_⟩; (try simp only [tupOf])))) | refine wSkip ?_ | (refine wExit ?_; simp only [thenQ, blockQ, reduceIte, Nat.reduceEqDiff]) | refine wSeq ?_ | refine wBlock ?_)
    all_goals (refine gives_boolv ?_; simp_all [need11])
theorem c_sl11N4 (k : EventM) : ∀ H, call Tryz.prog cfg0 0 93 [.fp [.v (.int .i64 k.Kind), .v (.int .i64 k.Node), .v (.int .i64 k.At), .v (.int .i64 k.Mask), bytesL k.Data, .v (.int .i64 k.Op), .v (.int .i64 k.Key.Id), bytesL k.Key.Bytes] 0, .v (.bool true), .v (.bool false), .v (.bool false), .v (.bool true), .v (.bool false)] H = some (.v (.bool (need11 k true false false true false)), H) :=
  call_fz Tryz.func93 rfl ok_sl11N4 rfl (by simp only [fz_cons, fz_nil, go_sem, and_self]) (p_sl11N4 k)
theorem ok_sl11N5 : fnOk Tryz.prog cfg0 93 Tryz.f93 = true := by kernel_rfl
theorem p_sl11N5 (k : EventM) : pure Tryz.prog cfg0 93 Tryz.f93 [.fp [.v (.int .i64 k.Kind), .v (.int .i64 k.Node), .v (.int .i64 k.At), .v (.int .i64 k.Mask), bytesL k.Data, .v (.int .i64 k.Op), .v (.int .i64 k.Key.Id), bytesL k.Key.Bytes] 0, .v (.bool true), .v (.bool false), .v (.bool false), .v (.bool false), .v (.bool true)] = some (.v (.bool (need11 k true false false false true)), true) := by
  refine pure_wp (rs := [.tmp 12]) rfl rfl ?_
  have hp0 : ∀ b, cfg0.pol 93 b = 0 := fun b => rfl
  by_cases h2 : k.At = 0
  · skip
    by_cases h3 : k.Mask = 0
    · skip
      by_cases h4 : k.Data.length = 0
      · skip
        repeat' (first | ((first | refine wSeqr ?_ | refine wIf ?_ | refine wReg ?_ | (refine wRet ?_; (try simp only [thenQ, blockQ]); refine ends_by ?_)); intro xx hx; have hc := trivial; (repeat' (simp only [hc, Nat.reduceBEq, go_sem, Nat.reduceAdd, Nat.reduceMul, Nat.reduceSub, Nat.reduceEqDiff, Nat.reduceLT, Nat.reduceLeDiff, Int.reduceEq, Int.reduceLT, Int.reduceLE, reduceIte, aresults, aresult, hp0, Int.natCast_eq_zero, h2, h3, h4] at hx; (try (rw [guardL_if] at hx; split at hx <;> rename_i hc)))); all_goals (subst hx; first | (refine ⟨_, rfl, fun ht => ?_, fun ht => ?_⟩ <;> (try simp only [bbs] at ht)) | (refine ⟨_, rfl, ?_⟩; (try simp only [tupOf])))) | refine wSkip ?_ | (refine wExit ?_; simp only [thenQ, blockQ, reduceIte, Nat.reduceEqDiff]) | refine wSeq ?_ | refine wBlock ?_)
        all_goals (refine gives_boolv ?_; simp_all [need11])
      · repeat' (first | ((first | refine wSeqr ?_ | refine wIf ?_ | refine wReg ?_ | (refine wRet ?_; (try simp only [thenQ, blockQ]); refine ends_by ?_)); intro xx hx; have hc := trivial; (repeat' (simp only [hc, Nat.reduceBEq, go_sem, Nat.reduceAdd, Nat.reduceMul, Nat.reduceSub, Nat.reduceEqDiff, Nat.reduceLT, Nat.reduceLeDiff, Int.reduceEq, Int.reduceLT, Int.reduceLE, reduceIte, aresults, aresult, hp0, Int.natCast_eq_zero, h2, h3, h4] at hx; (try (rw [guardL_if] at hx; split at hx <;> rename_i hc)))); all_goals (subst hx; first | (refine ⟨_, rfl, fun ht => ?_, fun ht => ?_⟩ <;> (try simp only [bbs] at ht)) | (refine ⟨_, rfl, ?_⟩; (try simp only [tupOf])))) | refine wSkip ?_ | (refine wExit ?_; simp only [thenQ, blockQ, reduceIte, Nat.reduceEqDiff]) | refine wSeq ?_ | refine wBlock ?_)
        all_goals (refine gives_boolv ?_; simp_all [need11])
    · repeat' (first | ((first | refine wSeqr ?_ | refine wIf ?_ | refine wReg ?_ | (refine wRet ?_; (try simp only [thenQ, blockQ]); refine ends_by ?_)); intro xx hx; have hc := trivial; (repeat' (simp only [hc, Nat.reduceBEq, go_sem, Nat.reduceAdd, Nat.reduceMul, Nat.reduceSub, Nat.reduceEqDiff, Nat.reduceLT, Nat.reduceLeDiff, Int.reduceEq, Int.reduceLT, Int.reduceLE, reduceIte, aresults, aresult, hp0, Int.natCast_eq_zero, h2, h3] at hx; (try (rw [guardL_if] at hx; split at hx <;> rename_i hc)))); all_goals (subst hx; first | (refine ⟨_, rfl, fun ht => ?_, fun ht => ?_⟩ <;> (try simp only [bbs] at ht)) | (refine ⟨_, rfl, ?_⟩; (try simp only [tupOf])))) | refine wSkip ?_ | (refine wExit ?_; simp only [thenQ, blockQ, reduceIte, Nat.reduceEqDiff]) | refine wSeq ?_ | refine wBlock ?_)
      all_goals (refine gives_boolv ?_; simp_all [need11])
  · repeat' (first | ((first | refine wSeqr ?_ | refine wIf ?_ | refine wReg ?_ | (refine wRet ?_; (try simp only [thenQ, blockQ]); refine ends_by ?_)); intro xx hx; have hc := trivial; (repeat' (simp only [hc, Nat.reduceBEq, go_sem, Nat.reduceAdd, Nat.reduceMul, Nat.reduceSub, Nat.reduceEqDiff, Nat.reduceLT, Nat.reduceLeDiff, Int.reduceEq, Int.reduceLT, Int.reduceLE, reduceIte, aresults, aresult, hp0, Int.natCast_eq_zero, h2] at hx; (try (rw [guardL_if] at hx; split at hx <;> rename_i hc)))); all_goals (subst hx; first | (refine ⟨_, rfl, fun ht => ?_, fun ht => ?_⟩ <;> (try simp only [bbs] at ht)) | (refine ⟨_, rfl, ?_⟩; (try simp only [tupOf])))) | refine wSkip ?_ | (refine wExit ?_; simp only [thenQ, blockQ, reduceIte, Nat.reduceEqDiff]) | refine wSeq ?_ | refine wBlock ?_)
    all_goals (refine gives_boolv ?_; simp_all [need11])
theorem c_sl11N5 (k : EventM) : ∀ H, call Tryz.prog cfg0 0 93 [.fp [.v (.int .i64 k.Kind), .v (.int .i64 k.Node), .v (.int .i64 k.At), .v (.int .i64 k.Mask), bytesL k.Data, .v (.int .i64 k.Op), .v (.int .i64 k.Key.Id), bytesL k.Key.Bytes] 0, .v (.bool true), .v (.bool false), .v (.bool false), .v (.bool false), .v (.bool true)] H = some (.v (.bool (need11 k true false false false true)), H) :=
  call_fz Tryz.func93 rfl ok_sl11N5 rfl (by simp only [fz_cons, fz_nil, go_sem, and_self]) (p_sl11N5 k)
end
end Go.Proofs.YtakbbccdnkigpaaGreatDoor
namespace Go.Proofs.YtakbbccdnkigpaaGreatDoor
open Go Go.RowKit Go.Proofs.YtakbbccdnkigpaaGreatDoor.Eng
set_option linter.unusedSimpArgs false
set_option linter.unusedVariables false
set_option maxRecDepth 100000
set_option maxHeartbeats 2000000
noncomputable section
def evForm (k : EventM) : Bool :=
  if k.Kind = 1 ∨ k.Kind = 8 then need11 k true false false false false
  else if k.Kind = 2 ∨ k.Kind = 3 ∨ k.Kind = 4 then need11 k false true false false false
  else if k.Kind = 5 then need11 k false true true true false
  else if k.Kind = 6 then need11 k true false false true false
  else if k.Kind = 7 then need11 k true false false false true else false
theorem ok_sl11Form : fnOk Tryz.prog cfg0 68 Tryz.f68 = true := by kernel_rfl
theorem p_sl11Form (k : EventM) : pure Tryz.prog cfg0 68 Tryz.f68 [.fp [.v (.int .i64 k.Kind), .v (.int .i64 k.Node), .v (.int .i64 k.At), .v (.int .i64 k.Mask), bytesL k.Data, .v (.int .i64 k.Op), .v (.int .i64 k.Key.Id), bytesL k.Key.Bytes] 0] = some (.v (.bool (evForm k)), true) := by
  refine pure_wp (rs := [.tmp 2]) rfl rfl ?_
  have hp0 : ∀ b, cfg0.pol 68 b = 0 := fun b => rfl
  repeat' (first | ((first | refine wSeqr ?_ | refine wIf ?_ | refine wReg ?_ | (refine wRet ?_; (try simp only [thenQ, blockQ]); refine ends_by ?_)); intro xx hx; have hc := trivial; (repeat' (simp only [hc, Nat.reduceBEq, go_sem, Nat.reduceAdd, Nat.reduceMul, Nat.reduceSub, Nat.reduceEqDiff, Nat.reduceLT, Nat.reduceLeDiff, Int.reduceEq, Int.reduceLT, Int.reduceLE, reduceIte, aresults, aresult, hp0, c_sl11N1, c_sl11N2, c_sl11N3, c_sl11N4, c_sl11N5] at hx; (try (rw [guardL_if] at hx; split at hx <;> rename_i hc)))); all_goals (subst hx; first | (refine ⟨_, rfl, fun ht => ?_, fun ht => ?_⟩ <;> (try simp only [bbs] at ht)) | (refine ⟨_, rfl, ?_⟩; (try simp only [tupOf])))) | refine wSkip ?_ | (refine wExit ?_; simp only [thenQ, blockQ, reduceIte, Nat.reduceEqDiff]) | refine wSeq ?_ | refine wBlock ?_)
  all_goals (refine gives_boolv ?_; simp_all [evForm])
open Classical in
theorem cp_sl11Form (k : EventM) : ∀ H bk, call Tryz.prog cfg0 0 68 [.ptr bk 0] H = if H.h bk = some [.v (.int .i64 k.Kind), .v (.int .i64 k.Node), .v (.int .i64 k.At), .v (.int .i64 k.Mask), bytesL k.Data, .v (.int .i64 k.Op), .v (.int .i64 k.Key.Id), bytesL k.Key.Bytes] then some (.v (.bool (evForm k)), H) else call' Tryz.prog cfg0 0 68 [.ptr bk 0] H :=
  fun H bk => by
    exact call_if Tryz.func68 rfl ok_sl11Form rfl (fun hC => mapM_c (deep_ptr hC (fzE_Event 9 k)) (mapM_n)) (p_sl11Form k)

def keyMsg (k : EventM) : MessageM := ⟨5, 0, 0, ⟨0, 0, 0, 0⟩, k.Op, k.Key⟩
def evFault (k : EventM) : Int :=
  if evForm k = false then 1
  else if inB k.Node 0 3 = false ∨ inB k.At 0 39 = false ∨ (k.Kind = 5 ∧ inB k.Mask 1 255 = false) then 3
  else if 327 < (k.Data.length : Int) ∨ (k.Kind = 5 ∧ (k.Data.length : Int) ≠ 1) then 2
  else if k.Kind = 7 then msgFault (keyMsg k) else 0
def msgZ : List AV := [.v (.int .i64 0), .v (.int .i64 0), .v (.int .i64 0), .v (.int .i64 0), .v (.int .i64 0), .v (.int .i64 0), .v (.int .i64 0), .v (.int .i64 0), .v (.int .i64 0), .v (.slice none 0 0)]
theorem ok_keyMsg : fnOk Tryz.prog cfg0 71 Tryz.f71 = true := by kernel_rfl
open Classical in
theorem cp_keyMsg (k : EventM) : ∀ H b, call Tryz.prog cfg0 0 71 [.ptr b 0] H = if H.h b = some [.v (.int .i64 k.Kind), .v (.int .i64 k.Node), .v (.int .i64 k.At), .v (.int .i64 k.Mask), bytesL k.Data, .v (.int .i64 k.Op), .v (.int .i64 k.Key.Id), bytesL k.Key.Bytes] ∧ b ≠ H.g then some (.agg [.v (.int .i64 (keyMsg k).Kind), .v (.int .i64 (keyMsg k).Seq), .v (.int .i64 (keyMsg k).Node), .v (.int .i64 (keyMsg k).Claim.Node), .v (.int .i64 (keyMsg k).Claim.Inc), .v (.int .i64 (keyMsg k).Claim.Status), .v (.int .i64 (keyMsg k).Claim.Meta), .v (.int .i64 (keyMsg k).Op), .v (.int .i64 (keyMsg k).Key.Id), bytesL (keyMsg k).Key.Bytes], (H.new msgZ).set H.g [.v (.int .i64 (keyMsg k).Kind), .v (.int .i64 (keyMsg k).Seq), .v (.int .i64 (keyMsg k).Node), .v (.int .i64 (keyMsg k).Claim.Node), .v (.int .i64 (keyMsg k).Claim.Inc), .v (.int .i64 (keyMsg k).Claim.Status), .v (.int .i64 (keyMsg k).Claim.Meta), .v (.int .i64 (keyMsg k).Op), .v (.int .i64 (keyMsg k).Key.Id), bytesL (keyMsg k).Key.Bytes]) else call' Tryz.prog cfg0 0 71 [.ptr b 0] H := by
  intro H b
  split
  rotate_left
  · rfl
  rename_i hC
  obtain ⟨hb, hn⟩ := hC
  have key : ∃ r, body Tryz.prog cfg0 71 Tryz.f71 [.ptr b 0] H = some r ∧ (r.1 = .agg [.v (.int .i64 (keyMsg k).Kind), .v (.int .i64 (keyMsg k).Seq), .v (.int .i64 (keyMsg k).Node), .v (.int .i64 (keyMsg k).Claim.Node), .v (.int .i64 (keyMsg k).Claim.Inc), .v (.int .i64 (keyMsg k).Claim.Status), .v (.int .i64 (keyMsg k).Claim.Meta), .v (.int .i64 (keyMsg k).Op), .v (.int .i64 (keyMsg k).Key.Id), bytesL (keyMsg k).Key.Bytes] ∧ r.2 = (H.new msgZ).set H.g [.v (.int .i64 (keyMsg k).Kind), .v (.int .i64 (keyMsg k).Seq), .v (.int .i64 (keyMsg k).Node), .v (.int .i64 (keyMsg k).Claim.Node), .v (.int .i64 (keyMsg k).Claim.Inc), .v (.int .i64 (keyMsg k).Claim.Status), .v (.int .i64 (keyMsg k).Claim.Meta), .v (.int .i64 (keyMsg k).Op), .v (.int .i64 (keyMsg k).Key.Id), bytesL (keyMsg k).Key.Bytes]) := by
    refine body_wp (rs := [.cell 2 90]) rfl rfl (R := fun x H' => x = .agg [.v (.int .i64 (keyMsg k).Kind), .v (.int .i64 (keyMsg k).Seq), .v (.int .i64 (keyMsg k).Node), .v (.int .i64 (keyMsg k).Claim.Node), .v (.int .i64 (keyMsg k).Claim.Inc), .v (.int .i64 (keyMsg k).Claim.Status), .v (.int .i64 (keyMsg k).Claim.Meta), .v (.int .i64 (keyMsg k).Op), .v (.int .i64 (keyMsg k).Key.Id), bytesL (keyMsg k).Key.Bytes] ∧ H' = (H.new msgZ).set H.g [.v (.int .i64 (keyMsg k).Kind), .v (.int .i64 (keyMsg k).Seq), .v (.int .i64 (keyMsg k).Node), .v (.int .i64 (keyMsg k).Claim.Node), .v (.int .i64 (keyMsg k).Claim.Inc), .v (.int .i64 (keyMsg k).Claim.Status), .v (.int .i64 (keyMsg k).Claim.Meta), .v (.int .i64 (keyMsg k).Op), .v (.int .i64 (keyMsg k).Key.Id), bytesL (keyMsg k).Key.Bytes]) ?_
    have hp0 : ∀ b, cfg0.pol 71 b = 0 := fun b => rfl
    repeat' (first | ((first | refine wSeqr ?_ | refine wIf ?_ | refine wReg ?_ | (refine wRet ?_; (try simp only [thenQ, blockQ]); refine ends_by ?_)); intro xx hx; have hc := trivial; (repeat' (simp only [hc, Nat.reduceBEq, go_sem, Nat.reduceAdd, Nat.reduceMul, Nat.reduceSub, Nat.reduceEqDiff, Nat.reduceLT, Nat.reduceLeDiff, Int.reduceEq, Int.reduceLT, Int.reduceLE, reduceIte, aresults, aresult, hp0, hb, hn] at hx; (try (rw [guardL_if] at hx; split at hx <;> rename_i hc)))); all_goals (subst hx; first | (refine ⟨_, rfl, fun ht => ?_, fun ht => ?_⟩ <;> (try simp only [bbs] at ht)) | (refine ⟨_, rfl, ?_⟩; (try simp only [tupOf])))) | refine wSkip ?_ | (refine wExit ?_; simp only [thenQ, blockQ, reduceIte, Nat.reduceEqDiff]) | refine wSeq ?_ | refine wBlock ?_)
    all_goals exact ⟨rfl, rfl⟩
  obtain ⟨⟨v, H'⟩, h1, rfl, rfl⟩ := key
  rw [call_raw Tryz.prog cfg0 Tryz.func71 rfl ok_keyMsg rfl rfl, h1]
theorem ok_sEventFault : fnOk Tryz.prog cfg0 31 Tryz.f31 = true := by kernel_rfl
theorem p_sEventFault (k : EventM) : pure Tryz.prog cfg0 31 Tryz.f31 [.agg [.v (.int .i64 k.Kind), .v (.int .i64 k.Node), .v (.int .i64 k.At), .v (.int .i64 k.Mask), bytesL k.Data, .v (.int .i64 k.Op), .v (.int .i64 k.Key.Id), bytesL k.Key.Bytes]] = some (.v (.int .i64 (evFault k)), true) := by
  refine pure_wp (rs := [.tmp 2]) rfl rfl ?_
  have hp0 : ∀ b, cfg0.pol 31 b = 0 := fun b => rfl
  repeat' (first | ((first | refine wSeqr ?_ | refine wIf ?_ | refine wReg ?_ | (refine wRet ?_; (try simp only [thenQ, blockQ]); refine ends_by ?_)); intro xx hx; have hc := trivial; (repeat' (simp only [hc, Nat.reduceBEq, go_sem, Nat.reduceAdd, Nat.reduceMul, Nat.reduceSub, Nat.reduceEqDiff, Nat.reduceLT, Nat.reduceLeDiff, Int.reduceEq, Int.reduceLT, Int.reduceLE, reduceIte, aresults, aresult, hp0, cp_sl11Form k, c_sl9Node, c_sl1In, cp_keyMsg k, c_sMessageFault] at hx; (try (rw [guardL_if] at hx; split at hx <;> rename_i hc)))); all_goals (subst hx; first | (refine ⟨_, rfl, fun ht => ?_, fun ht => ?_⟩ <;> (try simp only [bbs] at ht)) | (refine ⟨_, rfl, ?_⟩; (try simp only [tupOf])))) | refine wSkip ?_ | (refine wExit ?_; simp only [thenQ, blockQ, reduceIte, Nat.reduceEqDiff]) | refine wSeq ?_ | refine wBlock ?_)
  all_goals (refine gives_intv ?_; unfold evFault; simp_all [inB]; try omega)
theorem c_sEventFault (k : EventM) : ∀ H, call Tryz.prog cfg0 0 31 [.agg [.v (.int .i64 k.Kind), .v (.int .i64 k.Node), .v (.int .i64 k.At), .v (.int .i64 k.Mask), bytesL k.Data, .v (.int .i64 k.Op), .v (.int .i64 k.Key.Id), bytesL k.Key.Bytes]] H = some (.v (.int .i64 (evFault k)), H) :=
  call_fz Tryz.func31 rfl ok_sEventFault rfl (by simp only [fz_cons, fz_nil, go_sem, and_self]) (p_sEventFault k)

end
end Go.Proofs.YtakbbccdnkigpaaGreatDoor
namespace Go.Proofs.YtakbbccdnkigpaaGreatDoor
open Go Go.RowKit Go.Proofs.YtakbbccdnkigpaaGreatDoor.Eng
set_option linter.unusedSimpArgs false
set_option linter.unusedVariables false
set_option maxRecDepth 100000
set_option maxHeartbeats 4000000
noncomputable section
theorem c_iMF_key (k : EventM) : ∀ H, call Tryz.prog cfg0 0 64 [.agg [.v (.int .i64 5), .v (.int .i64 0), .v (.int .i64 0), .v (.int .i64 0), .v (.int .i64 0), .v (.int .i64 0), .v (.int .i64 0), .v (.int .i64 k.Op), .v (.int .i64 k.Key.Id), bytesL k.Key.Bytes]] H = some (.v (.int .i64 (msgFault (keyMsg k))), H) := c_iMessageFault (keyMsg k)
end
end Go.Proofs.YtakbbccdnkigpaaGreatDoor
namespace Go.Proofs.YtakbbccdnkigpaaGreatDoor
open Go Go.RowKit Go.Proofs.YtakbbccdnkigpaaGreatDoor.Eng
set_option linter.unusedSimpArgs false
set_option linter.unusedVariables false
set_option maxRecDepth 100000
set_option maxHeartbeats 4000000
noncomputable section
theorem nbe : byteCells ⟨#[]⟩ = [] := rfl
theorem bc_78 : AV.lst false (byteCells ⟨#[78]⟩) = bytesL [78] := rfl
theorem ln_78 : (([78] : List Int).length : Int) = 1 := rfl
theorem hb_78_78 : hasB [78] 78 = true := by decide
theorem hb_78_65 : hasB [78] 65 = false := by decide
theorem hb_78_77 : hasB [78] 77 = false := by decide
theorem hb_78_68 : hasB [78] 68 = false := by decide
theorem hb_78_75 : hasB [78] 75 = false := by decide
theorem bc_65 : AV.lst false (byteCells ⟨#[65]⟩) = bytesL [65] := rfl
theorem ln_65 : (([65] : List Int).length : Int) = 1 := rfl
theorem hb_65_78 : hasB [65] 78 = false := by decide
theorem hb_65_65 : hasB [65] 65 = true := by decide
theorem hb_65_77 : hasB [65] 77 = false := by decide
theorem hb_65_68 : hasB [65] 68 = false := by decide
theorem hb_65_75 : hasB [65] 75 = false := by decide
theorem bc_65_68_77 : AV.lst false (byteCells ⟨#[65, 68, 77]⟩) = bytesL [65, 68, 77] := rfl
theorem ln_65_68_77 : (([65, 68, 77] : List Int).length : Int) = 3 := rfl
theorem hb_65_68_77_78 : hasB [65, 68, 77] 78 = false := by decide
theorem hb_65_68_77_65 : hasB [65, 68, 77] 65 = true := by decide
theorem hb_65_68_77_77 : hasB [65, 68, 77] 77 = true := by decide
theorem hb_65_68_77_68 : hasB [65, 68, 77] 68 = true := by decide
theorem hb_65_68_77_75 : hasB [65, 68, 77] 75 = false := by decide
theorem bc_78_68 : AV.lst false (byteCells ⟨#[78, 68]⟩) = bytesL [78, 68] := rfl
theorem ln_78_68 : (([78, 68] : List Int).length : Int) = 2 := rfl
theorem hb_78_68_78 : hasB [78, 68] 78 = true := by decide
theorem hb_78_68_65 : hasB [78, 68] 65 = false := by decide
theorem hb_78_68_77 : hasB [78, 68] 77 = false := by decide
theorem hb_78_68_68 : hasB [78, 68] 68 = true := by decide
theorem hb_78_68_75 : hasB [78, 68] 75 = false := by decide
theorem bc_78_75 : AV.lst false (byteCells ⟨#[78, 75]⟩) = bytesL [78, 75] := rfl
theorem ln_78_75 : (([78, 75] : List Int).length : Int) = 2 := rfl
theorem hb_78_75_78 : hasB [78, 75] 78 = true := by decide
theorem hb_78_75_65 : hasB [78, 75] 65 = false := by decide
theorem hb_78_75_77 : hasB [78, 75] 77 = false := by decide
theorem hb_78_75_68 : hasB [78, 75] 68 = false := by decide
theorem hb_78_75_75 : hasB [78, 75] 75 = true := by decide
theorem nb1 : needsB 1 = ⟨#[78]⟩ := rfl
theorem nb8 : needsB 8 = ⟨#[78]⟩ := rfl
theorem nb2 : needsB 2 = ⟨#[65]⟩ := rfl
theorem nb3 : needsB 3 = ⟨#[65]⟩ := rfl
theorem nb4 : needsB 4 = ⟨#[65]⟩ := rfl
theorem nb5 : needsB 5 = ⟨#[65, 68, 77]⟩ := rfl
theorem nb6 : needsB 6 = ⟨#[78, 68]⟩ := rfl
theorem nb7 : needsB 7 = ⟨#[78, 75]⟩ := rfl
theorem ok_iEventFault : fnOk Tryz.prog cfg0 27 Tryz.f27 = true := by kernel_rfl
theorem p_iEventFault (k : EventM) : pure Tryz.prog cfg0 27 Tryz.f27 [.agg [.v (.int .i64 k.Kind), .v (.int .i64 k.Node), .v (.int .i64 k.At), .v (.int .i64 k.Mask), bytesL k.Data, .v (.int .i64 k.Op), .v (.int .i64 k.Key.Id), bytesL k.Key.Bytes]] = some (.v (.int .i64 (evFault k)), true) := by
  refine pure_wp (rs := [.tmp 2]) rfl rfl ?_
  have hp0 : ∀ b, cfg0.pol 27 b = 0 := fun b => rfl
  by_cases k1 : k.Kind = 1
  · repeat' (first | ((first | refine wSeqr ?_ | refine wIf ?_ | refine wReg ?_ | (refine wRet ?_; (try simp only [thenQ, blockQ]); refine ends_by ?_)); intro xx hx; have hc := trivial; (repeat' (simp only [hc, Nat.reduceBEq, go_sem, Nat.reduceAdd, Nat.reduceMul, Nat.reduceSub, Nat.reduceEqDiff, Nat.reduceLT, Nat.reduceLeDiff, Int.reduceEq, Int.reduceLT, Int.reduceLE, reduceIte, aresults, aresult, hp0, c_ineeds, List.cons_append, List.nil_append, List.size_toArray, List.length_nil, Int.natCast_eq_zero, Nat.reduceEqDiff, Nat.one_ne_zero, Nat.succ_ne_zero, k1, nb1, bc_78, ln_78, cp_has [78] (by simp) 78, hb_78_78, cp_has [78] (by simp) 65, hb_78_65, cp_has [78] (by simp) 77, hb_78_77, cp_has [78] (by simp) 68, hb_78_68, cp_has [78] (by simp) 75, hb_78_75, c_iisZeroKey k.Key, c_iisNode, c_iin, c_iMF_key k] at hx; (try (rw [guardL_if] at hx; split at hx <;> rename_i hc)))); all_goals (subst hx; first | (refine ⟨_, rfl, fun ht => ?_, fun ht => ?_⟩ <;> (try simp only [bbs] at ht)) | (refine ⟨_, rfl, ?_⟩; (try simp only [tupOf])))) | refine wSkip ?_ | (refine wExit ?_; simp only [thenQ, blockQ, reduceIte, Nat.reduceEqDiff]) | refine wSeq ?_ | refine wBlock ?_)
    all_goals (refine gives_intv ?_; unfold evFault; simp_all [inB, evForm, need11, zeroKey]; (try omega); try (intros; simp_all; done))
  by_cases k8 : k.Kind = 8
  · repeat' (first | ((first | refine wSeqr ?_ | refine wIf ?_ | refine wReg ?_ | (refine wRet ?_; (try simp only [thenQ, blockQ]); refine ends_by ?_)); intro xx hx; have hc := trivial; (repeat' (simp only [hc, Nat.reduceBEq, go_sem, Nat.reduceAdd, Nat.reduceMul, Nat.reduceSub, Nat.reduceEqDiff, Nat.reduceLT, Nat.reduceLeDiff, Int.reduceEq, Int.reduceLT, Int.reduceLE, reduceIte, aresults, aresult, hp0, c_ineeds, List.cons_append, List.nil_append, List.size_toArray, List.length_nil, Int.natCast_eq_zero, Nat.reduceEqDiff, Nat.one_ne_zero, Nat.succ_ne_zero, k8, nb8, bc_78, ln_78, cp_has [78] (by simp) 78, hb_78_78, cp_has [78] (by simp) 65, hb_78_65, cp_has [78] (by simp) 77, hb_78_77, cp_has [78] (by simp) 68, hb_78_68, cp_has [78] (by simp) 75, hb_78_75, c_iisZeroKey k.Key, c_iisNode, c_iin, c_iMF_key k] at hx; (try (rw [guardL_if] at hx; split at hx <;> rename_i hc)))); all_goals (subst hx; first | (refine ⟨_, rfl, fun ht => ?_, fun ht => ?_⟩ <;> (try simp only [bbs] at ht)) | (refine ⟨_, rfl, ?_⟩; (try simp only [tupOf])))) | refine wSkip ?_ | (refine wExit ?_; simp only [thenQ, blockQ, reduceIte, Nat.reduceEqDiff]) | refine wSeq ?_ | refine wBlock ?_)
    all_goals (refine gives_intv ?_; unfold evFault; simp_all [inB, evForm, need11, zeroKey]; (try omega); try (intros; simp_all; done))
  by_cases k2 : k.Kind = 2
  · repeat' (first | ((first | refine wSeqr ?_ | refine wIf ?_ | refine wReg ?_ | (refine wRet ?_; (try simp only [thenQ, blockQ]); refine ends_by ?_)); intro xx hx; have hc := trivial; (repeat' (simp only [hc, Nat.reduceBEq, go_sem, Nat.reduceAdd, Nat.reduceMul, Nat.reduceSub, Nat.reduceEqDiff, Nat.reduceLT, Nat.reduceLeDiff, Int.reduceEq, Int.reduceLT, Int.reduceLE, reduceIte, aresults, aresult, hp0, c_ineeds, List.cons_append, List.nil_append, List.size_toArray, List.length_nil, Int.natCast_eq_zero, Nat.reduceEqDiff, Nat.one_ne_zero, Nat.succ_ne_zero, k2, nb2, bc_65, ln_65, cp_has [65] (by simp) 78, hb_65_78, cp_has [65] (by simp) 65, hb_65_65, cp_has [65] (by simp) 77, hb_65_77, cp_has [65] (by simp) 68, hb_65_68, cp_has [65] (by simp) 75, hb_65_75, c_iisZeroKey k.Key, c_iisNode, c_iin, c_iMF_key k] at hx; (try (rw [guardL_if] at hx; split at hx <;> rename_i hc)))); all_goals (subst hx; first | (refine ⟨_, rfl, fun ht => ?_, fun ht => ?_⟩ <;> (try simp only [bbs] at ht)) | (refine ⟨_, rfl, ?_⟩; (try simp only [tupOf])))) | refine wSkip ?_ | (refine wExit ?_; simp only [thenQ, blockQ, reduceIte, Nat.reduceEqDiff]) | refine wSeq ?_ | refine wBlock ?_)
    all_goals (refine gives_intv ?_; unfold evFault; simp_all [inB, evForm, need11, zeroKey]; (try omega); try (intros; simp_all; done))
  by_cases k3 : k.Kind = 3
  · repeat' (first | ((first | refine wSeqr ?_ | refine wIf ?_ | refine wReg ?_ | (refine wRet ?_; (try simp only [thenQ, blockQ]); refine ends_by ?_)); intro xx hx; have hc := trivial; (repeat' (simp only [hc, Nat.reduceBEq, go_sem, Nat.reduceAdd, Nat.reduceMul, Nat.reduceSub, Nat.reduceEqDiff, Nat.reduceLT, Nat.reduceLeDiff, Int.reduceEq, Int.reduceLT, Int.reduceLE, reduceIte, aresults, aresult, hp0, c_ineeds, List.cons_append, List.nil_append, List.size_toArray, List.length_nil, Int.natCast_eq_zero, Nat.reduceEqDiff, Nat.one_ne_zero, Nat.succ_ne_zero, k3, nb3, bc_65, ln_65, cp_has [65] (by simp) 78, hb_65_78, cp_has [65] (by simp) 65, hb_65_65, cp_has [65] (by simp) 77, hb_65_77, cp_has [65] (by simp) 68, hb_65_68, cp_has [65] (by simp) 75, hb_65_75, c_iisZeroKey k.Key, c_iisNode, c_iin, c_iMF_key k] at hx; (try (rw [guardL_if] at hx; split at hx <;> rename_i hc)))); all_goals (subst hx; first | (refine ⟨_, rfl, fun ht => ?_, fun ht => ?_⟩ <;> (try simp only [bbs] at ht)) | (refine ⟨_, rfl, ?_⟩; (try simp only [tupOf])))) | refine wSkip ?_ | (refine wExit ?_; simp only [thenQ, blockQ, reduceIte, Nat.reduceEqDiff]) | refine wSeq ?_ | refine wBlock ?_)
    all_goals (refine gives_intv ?_; unfold evFault; simp_all [inB, evForm, need11, zeroKey]; (try omega); try (intros; simp_all; done))
  by_cases k4 : k.Kind = 4
  · repeat' (first | ((first | refine wSeqr ?_ | refine wIf ?_ | refine wReg ?_ | (refine wRet ?_; (try simp only [thenQ, blockQ]); refine ends_by ?_)); intro xx hx; have hc := trivial; (repeat' (simp only [hc, Nat.reduceBEq, go_sem, Nat.reduceAdd, Nat.reduceMul, Nat.reduceSub, Nat.reduceEqDiff, Nat.reduceLT, Nat.reduceLeDiff, Int.reduceEq, Int.reduceLT, Int.reduceLE, reduceIte, aresults, aresult, hp0, c_ineeds, List.cons_append, List.nil_append, List.size_toArray, List.length_nil, Int.natCast_eq_zero, Nat.reduceEqDiff, Nat.one_ne_zero, Nat.succ_ne_zero, k4, nb4, bc_65, ln_65, cp_has [65] (by simp) 78, hb_65_78, cp_has [65] (by simp) 65, hb_65_65, cp_has [65] (by simp) 77, hb_65_77, cp_has [65] (by simp) 68, hb_65_68, cp_has [65] (by simp) 75, hb_65_75, c_iisZeroKey k.Key, c_iisNode, c_iin, c_iMF_key k] at hx; (try (rw [guardL_if] at hx; split at hx <;> rename_i hc)))); all_goals (subst hx; first | (refine ⟨_, rfl, fun ht => ?_, fun ht => ?_⟩ <;> (try simp only [bbs] at ht)) | (refine ⟨_, rfl, ?_⟩; (try simp only [tupOf])))) | refine wSkip ?_ | (refine wExit ?_; simp only [thenQ, blockQ, reduceIte, Nat.reduceEqDiff]) | refine wSeq ?_ | refine wBlock ?_)
    all_goals (refine gives_intv ?_; unfold evFault; simp_all [inB, evForm, need11, zeroKey]; (try omega); try (intros; simp_all; done))
  by_cases k5 : k.Kind = 5
  · repeat' (first | ((first | refine wSeqr ?_ | refine wIf ?_ | refine wReg ?_ | (refine wRet ?_; (try simp only [thenQ, blockQ]); refine ends_by ?_)); intro xx hx; have hc := trivial; (repeat' (simp only [hc, Nat.reduceBEq, go_sem, Nat.reduceAdd, Nat.reduceMul, Nat.reduceSub, Nat.reduceEqDiff, Nat.reduceLT, Nat.reduceLeDiff, Int.reduceEq, Int.reduceLT, Int.reduceLE, reduceIte, aresults, aresult, hp0, c_ineeds, List.cons_append, List.nil_append, List.size_toArray, List.length_nil, Int.natCast_eq_zero, Nat.reduceEqDiff, Nat.one_ne_zero, Nat.succ_ne_zero, k5, nb5, bc_65_68_77, ln_65_68_77, cp_has [65, 68, 77] (by simp) 78, hb_65_68_77_78, cp_has [65, 68, 77] (by simp) 65, hb_65_68_77_65, cp_has [65, 68, 77] (by simp) 77, hb_65_68_77_77, cp_has [65, 68, 77] (by simp) 68, hb_65_68_77_68, cp_has [65, 68, 77] (by simp) 75, hb_65_68_77_75, c_iisZeroKey k.Key, c_iisNode, c_iin, c_iMF_key k] at hx; (try (rw [guardL_if] at hx; split at hx <;> rename_i hc)))); all_goals (subst hx; first | (refine ⟨_, rfl, fun ht => ?_, fun ht => ?_⟩ <;> (try simp only [bbs] at ht)) | (refine ⟨_, rfl, ?_⟩; (try simp only [tupOf])))) | refine wSkip ?_ | (refine wExit ?_; simp only [thenQ, blockQ, reduceIte, Nat.reduceEqDiff]) | refine wSeq ?_ | refine wBlock ?_)
    all_goals (refine gives_intv ?_; unfold evFault; simp_all [inB, evForm, need11, zeroKey]; (try omega); try (intros; simp_all; done))
  by_cases k6 : k.Kind = 6
  · repeat' (first | ((first | refine wSeqr ?_ | refine wIf ?_ | refine wReg ?_ | (refine wRet ?_; (try simp only [thenQ, blockQ]); refine ends_by ?_)); intro xx hx; have hc := trivial; (repeat' (simp only [hc, Nat.reduceBEq, go_sem, Nat.reduceAdd, Nat.reduceMul, Nat.reduceSub, Nat.reduceEqDiff, Nat.reduceLT, Nat.reduceLeDiff, Int.reduceEq, Int.reduceLT, Int.reduceLE, reduceIte, aresults, aresult, hp0, c_ineeds, List.cons_append, List.nil_append, List.size_toArray, List.length_nil, Int.natCast_eq_zero, Nat.reduceEqDiff, Nat.one_ne_zero, Nat.succ_ne_zero, k6, nb6, bc_78_68, ln_78_68, cp_has [78, 68] (by simp) 78, hb_78_68_78, cp_has [78, 68] (by simp) 65, hb_78_68_65, cp_has [78, 68] (by simp) 77, hb_78_68_77, cp_has [78, 68] (by simp) 68, hb_78_68_68, cp_has [78, 68] (by simp) 75, hb_78_68_75, c_iisZeroKey k.Key, c_iisNode, c_iin, c_iMF_key k] at hx; (try (rw [guardL_if] at hx; split at hx <;> rename_i hc)))); all_goals (subst hx; first | (refine ⟨_, rfl, fun ht => ?_, fun ht => ?_⟩ <;> (try simp only [bbs] at ht)) | (refine ⟨_, rfl, ?_⟩; (try simp only [tupOf])))) | refine wSkip ?_ | (refine wExit ?_; simp only [thenQ, blockQ, reduceIte, Nat.reduceEqDiff]) | refine wSeq ?_ | refine wBlock ?_)
    all_goals (refine gives_intv ?_; unfold evFault; simp_all [inB, evForm, need11, zeroKey]; (try omega); try (intros; simp_all; done))
  by_cases k7 : k.Kind = 7
  · repeat' (first | ((first | refine wSeqr ?_ | refine wIf ?_ | refine wReg ?_ | (refine wRet ?_; (try simp only [thenQ, blockQ]); refine ends_by ?_)); intro xx hx; have hc := trivial; (repeat' (simp only [hc, Nat.reduceBEq, go_sem, Nat.reduceAdd, Nat.reduceMul, Nat.reduceSub, Nat.reduceEqDiff, Nat.reduceLT, Nat.reduceLeDiff, Int.reduceEq, Int.reduceLT, Int.reduceLE, reduceIte, aresults, aresult, hp0, c_ineeds, List.cons_append, List.nil_append, List.size_toArray, List.length_nil, Int.natCast_eq_zero, Nat.reduceEqDiff, Nat.one_ne_zero, Nat.succ_ne_zero, k7, nb7, bc_78_75, ln_78_75, cp_has [78, 75] (by simp) 78, hb_78_75_78, cp_has [78, 75] (by simp) 65, hb_78_75_65, cp_has [78, 75] (by simp) 77, hb_78_75_77, cp_has [78, 75] (by simp) 68, hb_78_75_68, cp_has [78, 75] (by simp) 75, hb_78_75_75, c_iisZeroKey k.Key, c_iisNode, c_iin, c_iMF_key k] at hx; (try (rw [guardL_if] at hx; split at hx <;> rename_i hc)))); all_goals (subst hx; first | (refine ⟨_, rfl, fun ht => ?_, fun ht => ?_⟩ <;> (try simp only [bbs] at ht)) | (refine ⟨_, rfl, ?_⟩; (try simp only [tupOf])))) | refine wSkip ?_ | (refine wExit ?_; simp only [thenQ, blockQ, reduceIte, Nat.reduceEqDiff]) | refine wSeq ?_ | refine wBlock ?_)
    all_goals (refine gives_intv ?_; unfold evFault; simp_all [inB, evForm, need11, zeroKey]; (try omega); try (intros; simp_all; done))
  have nb0 : needsB k.Kind = ⟨#[]⟩ := by simp [needsB, k1, k8, k2, k3, k4, k5, k6, k7]
  repeat' (first | ((first | refine wSeqr ?_ | refine wIf ?_ | refine wReg ?_ | (refine wRet ?_; (try simp only [thenQ, blockQ]); refine ends_by ?_)); intro xx hx; have hc := trivial; (repeat' (simp only [hc, Nat.reduceBEq, go_sem, Nat.reduceAdd, Nat.reduceMul, Nat.reduceSub, Nat.reduceEqDiff, Nat.reduceLT, Nat.reduceLeDiff, Int.reduceEq, Int.reduceLT, Int.reduceLE, reduceIte, aresults, aresult, hp0, c_ineeds, List.cons_append, List.nil_append, List.size_toArray, List.length_nil, Int.natCast_eq_zero, Nat.reduceEqDiff, Nat.one_ne_zero, Nat.succ_ne_zero, nb0, nbe, List.length_nil, Int.natCast_eq_zero, Int.ofNat_zero] at hx; (try (rw [guardL_if] at hx; split at hx <;> rename_i hc)))); all_goals (subst hx; first | (refine ⟨_, rfl, fun ht => ?_, fun ht => ?_⟩ <;> (try simp only [bbs] at ht)) | (refine ⟨_, rfl, ?_⟩; (try simp only [tupOf])))) | refine wSkip ?_ | (refine wExit ?_; simp only [thenQ, blockQ, reduceIte, Nat.reduceEqDiff]) | refine wSeq ?_ | refine wBlock ?_)
  all_goals (refine gives_intv ?_; unfold evFault; simp_all [evForm])
theorem c_iEventFault (k : EventM) : ∀ H, call Tryz.prog cfg0 0 27 [.agg [.v (.int .i64 k.Kind), .v (.int .i64 k.Node), .v (.int .i64 k.At), .v (.int .i64 k.Mask), bytesL k.Data, .v (.int .i64 k.Op), .v (.int .i64 k.Key.Id), bytesL k.Key.Bytes]] H = some (.v (.int .i64 (evFault k)), H) :=
  call_fz Tryz.func27 rfl ok_iEventFault rfl (by simp only [fz_cons, fz_nil, go_sem, and_self]) (p_iEventFault k)

end
end Go.Proofs.YtakbbccdnkigpaaGreatDoor
