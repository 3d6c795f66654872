/- Contracts: faults of messages, both sides; faults of events, spec side. -/
import Derived.Test.YtmncdkecpnoogaaK16
namespace Go.Proofs.Ytmncdkecpnoogaa
open Go Go.RowKit Go.Proofs.Ytmncdkecpnoogaa.Eng
set_option linter.unusedSimpArgs false
set_option linter.unusedVariables false
set_option maxRecDepth 100000
set_option maxHeartbeats 2000000
noncomputable section
def msgForm (k : MessageM) : Bool :=
  if k.Kind = 1 ∨ k.Kind = 3 then need7 k true true false false else if k.Kind = 2 then need7 k true false false false
  else if k.Kind = 4 then need7 k false false true false else if k.Kind = 5 then need7 k false false false true else false
def msgFault (k : MessageM) : Int :=
  if msgForm k = false then 1 else if k.Kind = 4 then claimFault k.Claim
  else if k.Kind ≠ 5 then (if inB k.Seq 0 1000000 = true ∧ inB k.Node 0 3 = true then 0 else 3)
  else if inB k.Op 1 3 = false ∨ inB k.Key.Id 1 255 = false then 3
  else if (k.Key.Bytes.length : Int) ≠ (if k.Op = 1 then 16 else 0) then 2 else 0
theorem ok_sl7Form : fnOk Try.prog cfg0 102 Try.f102 = true := by kernel_rfl
theorem p_sl7Form (k : MessageM) : pure Try.prog cfg0 102 Try.f102 [.fp [.v (.int .i64 k.Kind), .v (.int .i64 k.Seq), .v (.int .i64 k.Node), .v (.int .i64 k.Claim.Node), .v (.int .i64 k.Claim.Inc), .v (.int .i64 k.Claim.Status), .v (.int .i64 k.Claim.Meta), .v (.int .i64 k.Op), .v (.int .i64 k.Key.Id), bytesL k.Key.Bytes] 0] = some (.v (.bool (msgForm k)), true) := by
  refine pure_wp (rs := [.tmp 2]) rfl rfl ?_
  have hp0 : ∀ b, cfg0.pol 102 b = 0 := fun b => rfl
  repeat' (first | ((first | refine wSeqr (fun xx hx => ?_) | refine wIf (fun xx hx => ?_) | refine wReg (fun xx hx => ?_) | (refine wRet ?_; (try simp only [thenQ, blockQ]); refine ends_by (fun xx hx => ?_))); have hc := trivial; (repeat' (simp only [hc, go_sem, Nat.reduceAdd, Nat.reduceMul, Nat.reduceSub, Nat.reduceEqDiff, Nat.reduceLT, Nat.reduceLeDiff, Int.reduceEq, Int.reduceLT, Int.reduceLE, reduceIte, aresults, aresult, hp0, c_sl7N1, c_sl7N2, c_sl7N3, c_sl7N4] at hx; (try (rw [guardL_if] at hx; split at hx <;> rename_i hc)))); all_goals (subst hx; first | (refine ⟨_, rfl, fun ht => ?_, fun ht => ?_⟩ <;> (try simp only [Bool.not_eq_true', Bool.not_eq_false', Bool.and_eq_true, Bool.and_eq_false_iff, Bool.or_eq_true, Bool.or_eq_false_iff, decide_eq_true_eq, decide_eq_false_iff_not, beq_iff_eq, bne_iff_ne, Bool.not_true, Bool.not_false, Bool.true_eq_false, Bool.false_eq_true, ne_eq, Decidable.not_not, inB_t, inB_f] at ht)) | (refine ⟨_, rfl, ?_⟩; (try simp only [tupOf])))) | refine wSkip ?_ | (refine wExit ?_; simp only [thenQ, blockQ, reduceIte, Nat.reduceEqDiff]) | refine wSeq ?_ | refine wBlock ?_)
  all_goals (refine gives_boolv ?_; simp_all [msgForm])
theorem c_sl7Form (k : MessageM) : ∀ H, call Try.prog cfg0 0 102 [.fp [.v (.int .i64 k.Kind), .v (.int .i64 k.Seq), .v (.int .i64 k.Node), .v (.int .i64 k.Claim.Node), .v (.int .i64 k.Claim.Inc), .v (.int .i64 k.Claim.Status), .v (.int .i64 k.Claim.Meta), .v (.int .i64 k.Op), .v (.int .i64 k.Key.Id), bytesL k.Key.Bytes] 0] H = some (.v (.bool (msgForm k)), H) :=
  call_fz Try.func102 rfl ok_sl7Form rfl (by simp only [fz_cons, fz_nil, go_sem, and_self]) (p_sl7Form k)
open Classical in
theorem cp_sl7Form (k : MessageM) : ∀ H bk, call Try.prog cfg0 0 102 [.ptr bk 0] H = if H.h bk = some [.v (.int .i64 k.Kind), .v (.int .i64 k.Seq), .v (.int .i64 k.Node), .v (.int .i64 k.Claim.Node), .v (.int .i64 k.Claim.Inc), .v (.int .i64 k.Claim.Status), .v (.int .i64 k.Claim.Meta), .v (.int .i64 k.Op), .v (.int .i64 k.Key.Id), bytesL k.Key.Bytes] then some (.v (.bool (msgForm k)), H) else call' Try.prog cfg0 0 102 [.ptr bk 0] H :=
  fun H bk => by
    exact call_if Try.func102 rfl ok_sl7Form rfl (fun hC => mapM_c (deep_ptr hC (fzE_Message 9 k)) (mapM_n)) (p_sl7Form k)

theorem ok_sMessageFault : fnOk Try.prog cfg0 53 Try.f53 = true := by kernel_rfl
theorem p_sMessageFault (k : MessageM) : pure Try.prog cfg0 53 Try.f53 [.agg [.v (.int .i64 k.Kind), .v (.int .i64 k.Seq), .v (.int .i64 k.Node), .v (.int .i64 k.Claim.Node), .v (.int .i64 k.Claim.Inc), .v (.int .i64 k.Claim.Status), .v (.int .i64 k.Claim.Meta), .v (.int .i64 k.Op), .v (.int .i64 k.Key.Id), bytesL k.Key.Bytes]] = some (.v (.int .i64 (msgFault k)), true) := by
  refine pure_wp (rs := [.tmp 2]) rfl rfl ?_
  have hp0 : ∀ b, cfg0.pol 53 b = 0 := fun b => rfl
  repeat' (first | ((first | refine wSeqr (fun xx hx => ?_) | refine wIf (fun xx hx => ?_) | refine wReg (fun xx hx => ?_) | (refine wRet ?_; (try simp only [thenQ, blockQ]); refine ends_by (fun xx hx => ?_))); have hc := trivial; (repeat' (simp only [hc, go_sem, Nat.reduceAdd, Nat.reduceMul, Nat.reduceSub, Nat.reduceEqDiff, Nat.reduceLT, Nat.reduceLeDiff, Int.reduceEq, Int.reduceLT, Int.reduceLE, reduceIte, aresults, aresult, hp0, cp_sl7Form k, c_sClaimFault, c_sl1In] at hx; (try (rw [guardL_if] at hx; split at hx <;> rename_i hc)))); all_goals (subst hx; first | (refine ⟨_, rfl, fun ht => ?_, fun ht => ?_⟩ <;> (try simp only [Bool.not_eq_true', Bool.not_eq_false', Bool.and_eq_true, Bool.and_eq_false_iff, Bool.or_eq_true, Bool.or_eq_false_iff, decide_eq_true_eq, decide_eq_false_iff_not, beq_iff_eq, bne_iff_ne, Bool.not_true, Bool.not_false, Bool.true_eq_false, Bool.false_eq_true, ne_eq, Decidable.not_not, inB_t, inB_f] at ht)) | (refine ⟨_, rfl, ?_⟩; (try simp only [tupOf])))) | refine wSkip ?_ | (refine wExit ?_; simp only [thenQ, blockQ, reduceIte, Nat.reduceEqDiff]) | refine wSeq ?_ | refine wBlock ?_)
  all_goals (refine gives_intv ?_; unfold msgFault; simp_all [inB]; try omega)
theorem c_sMessageFault (k : MessageM) : ∀ H, call Try.prog cfg0 0 53 [.agg [.v (.int .i64 k.Kind), .v (.int .i64 k.Seq), .v (.int .i64 k.Node), .v (.int .i64 k.Claim.Node), .v (.int .i64 k.Claim.Inc), .v (.int .i64 k.Claim.Status), .v (.int .i64 k.Claim.Meta), .v (.int .i64 k.Op), .v (.int .i64 k.Key.Id), bytesL k.Key.Bytes]] H = some (.v (.int .i64 (msgFault k)), H) :=
  call_fz Try.func53 rfl ok_sMessageFault rfl (by simp only [fz_cons, fz_nil, go_sem, and_self]) (p_sMessageFault k)

def evForm (k : EventM) : Bool :=
  if k.Kind = 1 ∨ k.Kind = 8 then need11 k true false false false false
  else if k.Kind = 2 ∨ k.Kind = 3 ∨ k.Kind = 4 then need11 k false true false false false
  else if k.Kind = 5 then need11 k false true true true false
  else if k.Kind = 6 then need11 k true false false true false
  else if k.Kind = 7 then need11 k true false false false true else false
theorem ok_sl11Form : fnOk Try.prog cfg0 50 Try.f50 = true := by kernel_rfl
theorem p_sl11Form (k : EventM) : pure Try.prog cfg0 50 Try.f50 [.fp [.v (.int .i64 k.Kind), .v (.int .i64 k.Node), .v (.int .i64 k.At), .v (.int .i64 k.Mask), bytesL k.Data, .v (.int .i64 k.Op), .v (.int .i64 k.Key.Id), bytesL k.Key.Bytes] 0] = some (.v (.bool (evForm k)), true) := by
  refine pure_wp (rs := [.tmp 2]) rfl rfl ?_
  have hp0 : ∀ b, cfg0.pol 50 b = 0 := fun b => rfl
  repeat' (first | ((first | refine wSeqr (fun xx hx => ?_) | refine wIf (fun xx hx => ?_) | refine wReg (fun xx hx => ?_) | (refine wRet ?_; (try simp only [thenQ, blockQ]); refine ends_by (fun xx hx => ?_))); have hc := trivial; (repeat' (simp only [hc, go_sem, Nat.reduceAdd, Nat.reduceMul, Nat.reduceSub, Nat.reduceEqDiff, Nat.reduceLT, Nat.reduceLeDiff, Int.reduceEq, Int.reduceLT, Int.reduceLE, reduceIte, aresults, aresult, hp0, c_sl11N1, c_sl11N2, c_sl11N3, c_sl11N4, c_sl11N5] at hx; (try (rw [guardL_if] at hx; split at hx <;> rename_i hc)))); all_goals (subst hx; first | (refine ⟨_, rfl, fun ht => ?_, fun ht => ?_⟩ <;> (try simp only [Bool.not_eq_true', Bool.not_eq_false', Bool.and_eq_true, Bool.and_eq_false_iff, Bool.or_eq_true, Bool.or_eq_false_iff, decide_eq_true_eq, decide_eq_false_iff_not, beq_iff_eq, bne_iff_ne, Bool.not_true, Bool.not_false, Bool.true_eq_false, Bool.false_eq_true, ne_eq, Decidable.not_not, inB_t, inB_f] at ht)) | (refine ⟨_, rfl, ?_⟩; (try simp only [tupOf])))) | refine wSkip ?_ | (refine wExit ?_; simp only [thenQ, blockQ, reduceIte, Nat.reduceEqDiff]) | refine wSeq ?_ | refine wBlock ?_)
  all_goals (refine gives_boolv ?_; simp_all [evForm])
theorem c_sl11Form (k : EventM) : ∀ H, call Try.prog cfg0 0 50 [.fp [.v (.int .i64 k.Kind), .v (.int .i64 k.Node), .v (.int .i64 k.At), .v (.int .i64 k.Mask), bytesL k.Data, .v (.int .i64 k.Op), .v (.int .i64 k.Key.Id), bytesL k.Key.Bytes] 0] H = some (.v (.bool (evForm k)), H) :=
  call_fz Try.func50 rfl ok_sl11Form rfl (by simp only [fz_cons, fz_nil, go_sem, and_self]) (p_sl11Form k)
open Classical in
theorem cp_sl11Form (k : EventM) : ∀ H bk, call Try.prog cfg0 0 50 [.ptr bk 0] H = if H.h bk = some [.v (.int .i64 k.Kind), .v (.int .i64 k.Node), .v (.int .i64 k.At), .v (.int .i64 k.Mask), bytesL k.Data, .v (.int .i64 k.Op), .v (.int .i64 k.Key.Id), bytesL k.Key.Bytes] then some (.v (.bool (evForm k)), H) else call' Try.prog cfg0 0 50 [.ptr bk 0] H :=
  fun H bk => by
    exact call_if Try.func50 rfl ok_sl11Form rfl (fun hC => mapM_c (deep_ptr hC (fzE_Event 9 k)) (mapM_n)) (p_sl11Form k)

def keyMsg (k : EventM) : MessageM := ⟨5, 0, 0, ⟨0, 0, 0, 0⟩, k.Op, k.Key⟩
def evFault (k : EventM) : Int :=
  if evForm k = false then 1
  else if inB k.Node 0 3 = false ∨ inB k.At 0 39 = false ∨ (k.Kind = 5 ∧ inB k.Mask 1 255 = false) then 3
  else if 327 < (k.Data.length : Int) ∨ (k.Kind = 5 ∧ (k.Data.length : Int) ≠ 1) then 2
  else if k.Kind = 7 then msgFault (keyMsg k) else 0
def msgZ : List AV := [.v (.int .i64 0), .v (.int .i64 0), .v (.int .i64 0), .v (.int .i64 0), .v (.int .i64 0), .v (.int .i64 0), .v (.int .i64 0), .v (.int .i64 0), .v (.int .i64 0), .v (.slice none 0 0)]
theorem ok_keyMsg : fnOk Try.prog cfg0 54 Try.f54 = true := by kernel_rfl
open Classical in
theorem cp_keyMsg (k : EventM) : ∀ H b, call Try.prog cfg0 0 54 [.ptr b 0] H = if H.h b = some [.v (.int .i64 k.Kind), .v (.int .i64 k.Node), .v (.int .i64 k.At), .v (.int .i64 k.Mask), bytesL k.Data, .v (.int .i64 k.Op), .v (.int .i64 k.Key.Id), bytesL k.Key.Bytes] ∧ b ≠ H.g then some (.agg [.v (.int .i64 (keyMsg k).Kind), .v (.int .i64 (keyMsg k).Seq), .v (.int .i64 (keyMsg k).Node), .v (.int .i64 (keyMsg k).Claim.Node), .v (.int .i64 (keyMsg k).Claim.Inc), .v (.int .i64 (keyMsg k).Claim.Status), .v (.int .i64 (keyMsg k).Claim.Meta), .v (.int .i64 (keyMsg k).Op), .v (.int .i64 (keyMsg k).Key.Id), bytesL (keyMsg k).Key.Bytes], (H.new msgZ).set H.g [.v (.int .i64 (keyMsg k).Kind), .v (.int .i64 (keyMsg k).Seq), .v (.int .i64 (keyMsg k).Node), .v (.int .i64 (keyMsg k).Claim.Node), .v (.int .i64 (keyMsg k).Claim.Inc), .v (.int .i64 (keyMsg k).Claim.Status), .v (.int .i64 (keyMsg k).Claim.Meta), .v (.int .i64 (keyMsg k).Op), .v (.int .i64 (keyMsg k).Key.Id), bytesL (keyMsg k).Key.Bytes]) else call' Try.prog cfg0 0 54 [.ptr b 0] H := by
  intro H b
  split
  rotate_left
  · rfl
  rename_i hC
  obtain ⟨hb, hn⟩ := hC
  have key : ∃ r, body Try.prog cfg0 54 Try.f54 [.ptr b 0] H = some r ∧ (r.1 = .agg [.v (.int .i64 (keyMsg k).Kind), .v (.int .i64 (keyMsg k).Seq), .v (.int .i64 (keyMsg k).Node), .v (.int .i64 (keyMsg k).Claim.Node), .v (.int .i64 (keyMsg k).Claim.Inc), .v (.int .i64 (keyMsg k).Claim.Status), .v (.int .i64 (keyMsg k).Claim.Meta), .v (.int .i64 (keyMsg k).Op), .v (.int .i64 (keyMsg k).Key.Id), bytesL (keyMsg k).Key.Bytes] ∧ r.2 = (H.new msgZ).set H.g [.v (.int .i64 (keyMsg k).Kind), .v (.int .i64 (keyMsg k).Seq), .v (.int .i64 (keyMsg k).Node), .v (.int .i64 (keyMsg k).Claim.Node), .v (.int .i64 (keyMsg k).Claim.Inc), .v (.int .i64 (keyMsg k).Claim.Status), .v (.int .i64 (keyMsg k).Claim.Meta), .v (.int .i64 (keyMsg k).Op), .v (.int .i64 (keyMsg k).Key.Id), bytesL (keyMsg k).Key.Bytes]) := by
    refine body_wp (rs := [.cell 2 48]) rfl rfl (R := fun x H' => x = .agg [.v (.int .i64 (keyMsg k).Kind), .v (.int .i64 (keyMsg k).Seq), .v (.int .i64 (keyMsg k).Node), .v (.int .i64 (keyMsg k).Claim.Node), .v (.int .i64 (keyMsg k).Claim.Inc), .v (.int .i64 (keyMsg k).Claim.Status), .v (.int .i64 (keyMsg k).Claim.Meta), .v (.int .i64 (keyMsg k).Op), .v (.int .i64 (keyMsg k).Key.Id), bytesL (keyMsg k).Key.Bytes] ∧ H' = (H.new msgZ).set H.g [.v (.int .i64 (keyMsg k).Kind), .v (.int .i64 (keyMsg k).Seq), .v (.int .i64 (keyMsg k).Node), .v (.int .i64 (keyMsg k).Claim.Node), .v (.int .i64 (keyMsg k).Claim.Inc), .v (.int .i64 (keyMsg k).Claim.Status), .v (.int .i64 (keyMsg k).Claim.Meta), .v (.int .i64 (keyMsg k).Op), .v (.int .i64 (keyMsg k).Key.Id), bytesL (keyMsg k).Key.Bytes]) ?_
    have hp0 : ∀ b, cfg0.pol 54 b = 0 := fun b => rfl
    repeat' (first | ((first | refine wSeqr (fun xx hx => ?_) | refine wIf (fun xx hx => ?_) | refine wReg (fun xx hx => ?_) | (refine wRet ?_; (try simp only [thenQ, blockQ]); refine ends_by (fun xx hx => ?_))); have hc := trivial; (repeat' (simp only [hc, go_sem, Nat.reduceAdd, Nat.reduceMul, Nat.reduceSub, Nat.reduceEqDiff, Nat.reduceLT, Nat.reduceLeDiff, Int.reduceEq, Int.reduceLT, Int.reduceLE, reduceIte, aresults, aresult, hp0, hb, hn] at hx; (try (rw [guardL_if] at hx; split at hx <;> rename_i hc)))); all_goals (subst hx; first | (refine ⟨_, rfl, fun ht => ?_, fun ht => ?_⟩ <;> (try simp only [Bool.not_eq_true', Bool.not_eq_false', Bool.and_eq_true, Bool.and_eq_false_iff, Bool.or_eq_true, Bool.or_eq_false_iff, decide_eq_true_eq, decide_eq_false_iff_not, beq_iff_eq, bne_iff_ne, Bool.not_true, Bool.not_false, Bool.true_eq_false, Bool.false_eq_true, ne_eq, Decidable.not_not, inB_t, inB_f] at ht)) | (refine ⟨_, rfl, ?_⟩; (try simp only [tupOf])))) | refine wSkip ?_ | (refine wExit ?_; simp only [thenQ, blockQ, reduceIte, Nat.reduceEqDiff]) | refine wSeq ?_ | refine wBlock ?_)
    all_goals exact ⟨rfl, rfl⟩
  obtain ⟨⟨v, H'⟩, h1, rfl, rfl⟩ := key
  rw [call_raw Try.prog cfg0 Try.func54 rfl ok_keyMsg rfl rfl, h1]
theorem ok_sEventFault : fnOk Try.prog cfg0 9 Try.f9 = true := by kernel_rfl
theorem p_sEventFault (k : EventM) : pure Try.prog cfg0 9 Try.f9 [.agg [.v (.int .i64 k.Kind), .v (.int .i64 k.Node), .v (.int .i64 k.At), .v (.int .i64 k.Mask), bytesL k.Data, .v (.int .i64 k.Op), .v (.int .i64 k.Key.Id), bytesL k.Key.Bytes]] = some (.v (.int .i64 (evFault k)), true) := by
  refine pure_wp (rs := [.tmp 2]) rfl rfl ?_
  have hp0 : ∀ b, cfg0.pol 9 b = 0 := fun b => rfl
  repeat' (first | ((first | refine wSeqr (fun xx hx => ?_) | refine wIf (fun xx hx => ?_) | refine wReg (fun xx hx => ?_) | (refine wRet ?_; (try simp only [thenQ, blockQ]); refine ends_by (fun xx hx => ?_))); have hc := trivial; (repeat' (simp only [hc, go_sem, Nat.reduceAdd, Nat.reduceMul, Nat.reduceSub, Nat.reduceEqDiff, Nat.reduceLT, Nat.reduceLeDiff, Int.reduceEq, Int.reduceLT, Int.reduceLE, reduceIte, aresults, aresult, hp0, cp_sl11Form k, c_sl9Node, c_sl1In, cp_keyMsg k, c_sMessageFault] at hx; (try (rw [guardL_if] at hx; split at hx <;> rename_i hc)))); all_goals (subst hx; first | (refine ⟨_, rfl, fun ht => ?_, fun ht => ?_⟩ <;> (try simp only [Bool.not_eq_true', Bool.not_eq_false', Bool.and_eq_true, Bool.and_eq_false_iff, Bool.or_eq_true, Bool.or_eq_false_iff, decide_eq_true_eq, decide_eq_false_iff_not, beq_iff_eq, bne_iff_ne, Bool.not_true, Bool.not_false, Bool.true_eq_false, Bool.false_eq_true, ne_eq, Decidable.not_not, inB_t, inB_f] at ht)) | (refine ⟨_, rfl, ?_⟩; (try simp only [tupOf])))) | refine wSkip ?_ | (refine wExit ?_; simp only [thenQ, blockQ, reduceIte, Nat.reduceEqDiff]) | refine wSeq ?_ | refine wBlock ?_)
  all_goals (refine gives_intv ?_; unfold evFault; simp_all [inB]; try omega)
theorem c_sEventFault (k : EventM) : ∀ H, call Try.prog cfg0 0 9 [.agg [.v (.int .i64 k.Kind), .v (.int .i64 k.Node), .v (.int .i64 k.At), .v (.int .i64 k.Mask), bytesL k.Data, .v (.int .i64 k.Op), .v (.int .i64 k.Key.Id), bytesL k.Key.Bytes]] H = some (.v (.int .i64 (evFault k)), H) :=
  call_fz Try.func9 rfl ok_sEventFault rfl (by simp only [fz_cons, fz_nil, go_sem, and_self]) (p_sEventFault k)

end
end Go.Proofs.Ytmncdkecpnoogaa
