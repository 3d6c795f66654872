/- Contracts: one message into bytes and out of bytes, both sides. -/
import Derived.Test.YtmpkcilehideiaaR9
namespace Go.Proofs.Ytmpkcilehideiaa
open Go Go.RowKit Go.Proofs.Ytmpkcilehideiaa.Eng
set_option linter.unusedSimpArgs false
set_option linter.unusedVariables false
set_option maxRecDepth 100000
set_option maxHeartbeats 4000000
noncomputable section
theorem fault_nn {k : MessageM} (h : msgFault k = 0) : msgNN k ∧ k.Key.Bytes.length ≤ 16 := by
  obtain ⟨kd, sq, nd, ⟨c1, c2, c3, c4⟩, op, ⟨id, bs⟩⟩ := k
  simp only [msgFault, msgForm, need7, claimFault, claimOk, inB, ClaimM.mk.injEq] at h
  simp only [msgNN]
  (repeat' split at h) <;> simp_all <;> omega
def emB (k : MessageM) : List Int := if msgFault k = 0 then msgB k else []
theorem d_one (H : Hp) (m : MessageM) : deep H depthD (.agg [.v (.int .i64 0), .lst true [encMessage m]]) = some (.agg [.v (.int .i64 0), .lst false ([m].map encMessage)]) := by
  have h : (encMessage m).mapM (deep H 10) = some (encMessage m) := mapM_self fun x hx => (fzE_Message 8 m x hx).1 H
  show ([AV.v (.int .i64 0), .lst true [encMessage m]].mapM (deep H 11)).map AV.agg = _
  have h2 : deep H 11 (.lst true [encMessage m]) = some (.lst false ([m].map encMessage)) := by
    show ([encMessage m].mapM fun (c : List AV) => c.mapM (deep H 10)).map _ = _
    simp only [List.mapM_cons, List.mapM_nil, h, Option.pure_def, Option.bind_eq_bind, Option.bind_some, Option.map_some, List.map]
  simp only [List.mapM_cons, List.mapM_nil, h2, Option.pure_def, Option.bind_eq_bind, Option.bind_some, Option.map_some]
  rfl
def dm1C (l : List Int) : Int := if l.length < 1 ∨ 100 < l.length then 2 else if decB l = true then 0 else 5
def dm1L (l : List Int) : List MessageM := if dm1C l = 0 then [decM l] else []
theorem fz_br (c : Int) (l : List Int) : Fz depthD (.agg [.v (.int .i64 c), bytesL l]) := Fz.agg (n := 11) fun x hx => by
  simp only [List.mem_cons, List.not_mem_nil, or_false] at hx
  rcases hx with rfl | rfl
  · exact Fz.int _ _ _
  · exact bytesL_fz 9 l
theorem dbr0 (H : Hp) (c : Int) : deep H depthD (.agg [.v (.int .i64 c), .v (.slice none 0 0)]) = some (.agg [.v (.int .i64 c), bytesL []]) := rfl
def emR (k : MessageM) : AV := .agg [.v (.int .i64 (msgFault k)), bytesL (emB k)]
theorem emR_0 {k : MessageM} (h : msgFault k = 0) : emR k = .agg [.v (.int .i64 0), bytesL (msgB k)] := by unfold emR emB; rw [h, if_pos rfl]
theorem emR_c {k : MessageM} (h : ¬ msgFault k = 0) : emR k = .agg [.v (.int .i64 (msgFault k)), bytesL []] := by unfold emR emB; rw [if_neg h]
theorem ok_iEncodeMessage : fnOk Try.prog cfg0 15 Try.f15 = true := by kernel_rfl
theorem p_iEncodeMessage (k : MessageM) : ∃ cl, pure Try.prog cfg0 15 Try.f15 [.agg [.v (.int .i64 k.Kind), .v (.int .i64 k.Seq), .v (.int .i64 k.Node), .v (.int .i64 k.Claim.Node), .v (.int .i64 k.Claim.Inc), .v (.int .i64 k.Claim.Status), .v (.int .i64 k.Claim.Meta), .v (.int .i64 k.Op), .v (.int .i64 k.Key.Id), bytesL k.Key.Bytes]] = some (emR k, cl) := by
  have key : ∃ v cl, v = (emR k : AV) ∧ pure Try.prog cfg0 15 Try.f15 [.agg [.v (.int .i64 k.Kind), .v (.int .i64 k.Seq), .v (.int .i64 k.Node), .v (.int .i64 k.Claim.Node), .v (.int .i64 k.Claim.Inc), .v (.int .i64 k.Claim.Status), .v (.int .i64 k.Claim.Meta), .v (.int .i64 k.Op), .v (.int .i64 k.Key.Id), bytesL k.Key.Bytes]] = some (v, cl) := by
    refine pure_ex (rs := [.cell 2 41]) rfl rfl ?_
    have hp0 : ∀ b, cfg0.pol 15 b = 0 := fun b => rfl
    by_cases hf : msgFault k = 0
    · have ce := c_iMessage_encoded k (fault_nn hf).1
      rw [emR_0 hf]
      repeat' (first | ((first | refine wSeqr (fun xx hx => ?_) | refine wSeqrF (fun xx hx => ?_) | refine wIf (fun xx hx => ?_) | refine wReg (fun xx hx => ?_) | refine wRegF (fun xx hx => ?_) | (refine wRet ?_; (try simp only [thenQ, blockQ]); (try (subst hQQ; (try simp only [thenQ, blockQ]))); refine ends_by (fun xx hx => ?_))); have hc := trivial; (repeat' (simp only [hc, Nat.reduceBEq, go_sem, Nat.reduceAdd, Nat.reduceMul, Nat.reduceSub, Nat.reduceEqDiff, Nat.reduceLT, Nat.reduceLeDiff, Int.reduceEq, Int.reduceLT, Int.reduceLE, reduceIte, aresults, aresult, hp0, c_iMessageFault, hf, ce] at hx; (try ((first | rw [guardL_if] at hx | rw [guardF_if] at hx); split at hx <;> rename_i hc)))); all_goals (subst hx; first | (refine ⟨_, rfl, fun ht => ?_, fun ht => ?_⟩ <;> (try simp only [Bool.not_eq_true', Bool.not_eq_false', Bool.and_eq_true, Bool.and_eq_false_iff, Bool.or_eq_true, Bool.or_eq_false_iff, decide_eq_true_eq, decide_eq_false_iff_not, beq_iff_eq, bne_iff_ne, Bool.not_true, Bool.not_false, Bool.true_eq_false, Bool.false_eq_true, ne_eq, Decidable.not_not, inB_t, inB_f] at ht)) | (refine ⟨_, rfl, ?_⟩; (try simp only [tupOf])))) | refine wSkip ?_ | (refine wExit ?_; simp only [thenQ, blockQ, reduceIte, Nat.reduceEqDiff]) | refine wSeq ?_ | refine wBlock ?_ | (subst hQQ; (try simp only [thenQ, blockQ, reduceIte, Nat.reduceEqDiff])))
      all_goals try (exfalso; (try simp only [Bool.not_eq_true', Bool.not_eq_false', Bool.and_eq_true, Bool.and_eq_false_iff, Bool.or_eq_true, Bool.or_eq_false_iff, decide_eq_true_eq, decide_eq_false_iff_not, beq_iff_eq, bne_iff_ne, Bool.not_true, Bool.not_false, Bool.true_eq_false, Bool.false_eq_true, ne_eq, Decidable.not_not, inB_t, inB_f] at *); first | omega | exact absurd trivial (by assumption))
      all_goals exact dirty (fz_deep (fz_br _ _) _)
    · rw [emR_c hf]
      repeat' (first | ((first | refine wSeqr (fun xx hx => ?_) | refine wSeqrF (fun xx hx => ?_) | refine wIf (fun xx hx => ?_) | refine wReg (fun xx hx => ?_) | refine wRegF (fun xx hx => ?_) | (refine wRet ?_; (try simp only [thenQ, blockQ]); (try (subst hQQ; (try simp only [thenQ, blockQ]))); refine ends_by (fun xx hx => ?_))); have hc := trivial; (repeat' (simp only [hc, Nat.reduceBEq, go_sem, Nat.reduceAdd, Nat.reduceMul, Nat.reduceSub, Nat.reduceEqDiff, Nat.reduceLT, Nat.reduceLeDiff, Int.reduceEq, Int.reduceLT, Int.reduceLE, reduceIte, aresults, aresult, hp0, c_iMessageFault, hf, c_inoBytes (msgFault k)] at hx; (try ((first | rw [guardL_if] at hx | rw [guardF_if] at hx); split at hx <;> rename_i hc)))); all_goals (subst hx; first | (refine ⟨_, rfl, fun ht => ?_, fun ht => ?_⟩ <;> (try simp only [Bool.not_eq_true', Bool.not_eq_false', Bool.and_eq_true, Bool.and_eq_false_iff, Bool.or_eq_true, Bool.or_eq_false_iff, decide_eq_true_eq, decide_eq_false_iff_not, beq_iff_eq, bne_iff_ne, Bool.not_true, Bool.not_false, Bool.true_eq_false, Bool.false_eq_true, ne_eq, Decidable.not_not, inB_t, inB_f] at ht)) | (refine ⟨_, rfl, ?_⟩; (try simp only [tupOf])))) | refine wSkip ?_ | (refine wExit ?_; simp only [thenQ, blockQ, reduceIte, Nat.reduceEqDiff]) | refine wSeq ?_ | refine wBlock ?_ | (subst hQQ; (try simp only [thenQ, blockQ, reduceIte, Nat.reduceEqDiff])))
      all_goals try (exfalso; (try simp only [Bool.not_eq_true', Bool.not_eq_false', Bool.and_eq_true, Bool.and_eq_false_iff, Bool.or_eq_true, Bool.or_eq_false_iff, decide_eq_true_eq, decide_eq_false_iff_not, beq_iff_eq, bne_iff_ne, Bool.not_true, Bool.not_false, Bool.true_eq_false, Bool.false_eq_true, ne_eq, Decidable.not_not, inB_t, inB_f] at *); first | omega | exact absurd trivial (by assumption))
      all_goals exact dirty rfl
  obtain ⟨v, cl, rfl, hp⟩ := key
  exact ⟨cl, hp⟩
theorem c_iEncodeMessage (k : MessageM) : ∀ H, call Try.prog cfg0 0 15 [.agg [.v (.int .i64 k.Kind), .v (.int .i64 k.Seq), .v (.int .i64 k.Node), .v (.int .i64 k.Claim.Node), .v (.int .i64 k.Claim.Inc), .v (.int .i64 k.Claim.Status), .v (.int .i64 k.Claim.Meta), .v (.int .i64 k.Op), .v (.int .i64 k.Key.Id), bytesL k.Key.Bytes]] H = some (emR k, H) := fun H => by
  obtain ⟨cl, hp⟩ := p_iEncodeMessage k
  exact call_fz Try.func15 rfl ok_iEncodeMessage rfl (by simp only [fz_cons, fz_nil, go_sem, and_self]) hp H

theorem ok_sEncodeMessage : fnOk Try.prog cfg0 22 Try.f22 = true := by kernel_rfl
theorem p_sEncodeMessage (k : MessageM) : ∃ cl, pure Try.prog cfg0 22 Try.f22 [.agg [.v (.int .i64 k.Kind), .v (.int .i64 k.Seq), .v (.int .i64 k.Node), .v (.int .i64 k.Claim.Node), .v (.int .i64 k.Claim.Inc), .v (.int .i64 k.Claim.Status), .v (.int .i64 k.Claim.Meta), .v (.int .i64 k.Op), .v (.int .i64 k.Key.Id), bytesL k.Key.Bytes]] = some (emR k, cl) := by
  have key : ∃ v cl, v = (emR k : AV) ∧ pure Try.prog cfg0 22 Try.f22 [.agg [.v (.int .i64 k.Kind), .v (.int .i64 k.Seq), .v (.int .i64 k.Node), .v (.int .i64 k.Claim.Node), .v (.int .i64 k.Claim.Inc), .v (.int .i64 k.Claim.Status), .v (.int .i64 k.Claim.Meta), .v (.int .i64 k.Op), .v (.int .i64 k.Key.Id), bytesL k.Key.Bytes]] = some (v, cl) := by
    refine pure_ex (rs := [.cell 2 41]) rfl rfl ?_
    have hp0 : ∀ b, cfg0.pol 22 b = 0 := fun b => rfl
    by_cases hf : msgFault k = 0
    · have ce := cp_sl7Encode k (fault_nn hf).1
      rw [emR_0 hf]
      repeat' (first | ((first | refine wSeqr (fun xx hx => ?_) | refine wSeqrF (fun xx hx => ?_) | refine wIf (fun xx hx => ?_) | refine wReg (fun xx hx => ?_) | refine wRegF (fun xx hx => ?_) | (refine wRet ?_; (try simp only [thenQ, blockQ]); (try (subst hQQ; (try simp only [thenQ, blockQ]))); refine ends_by (fun xx hx => ?_))); have hc := trivial; (repeat' (simp only [hc, Nat.reduceBEq, go_sem, Nat.reduceAdd, Nat.reduceMul, Nat.reduceSub, Nat.reduceEqDiff, Nat.reduceLT, Nat.reduceLeDiff, Int.reduceEq, Int.reduceLT, Int.reduceLE, reduceIte, aresults, aresult, hp0, c_sMessageFault, hf, ce] at hx; (try ((first | rw [guardL_if] at hx | rw [guardF_if] at hx); split at hx <;> rename_i hc)))); all_goals (subst hx; first | (refine ⟨_, rfl, fun ht => ?_, fun ht => ?_⟩ <;> (try simp only [Bool.not_eq_true', Bool.not_eq_false', Bool.and_eq_true, Bool.and_eq_false_iff, Bool.or_eq_true, Bool.or_eq_false_iff, decide_eq_true_eq, decide_eq_false_iff_not, beq_iff_eq, bne_iff_ne, Bool.not_true, Bool.not_false, Bool.true_eq_false, Bool.false_eq_true, ne_eq, Decidable.not_not, inB_t, inB_f] at ht)) | (refine ⟨_, rfl, ?_⟩; (try simp only [tupOf])))) | refine wSkip ?_ | (refine wExit ?_; simp only [thenQ, blockQ, reduceIte, Nat.reduceEqDiff]) | refine wSeq ?_ | refine wBlock ?_ | (subst hQQ; (try simp only [thenQ, blockQ, reduceIte, Nat.reduceEqDiff])))
      all_goals try (exfalso; (try simp only [Bool.not_eq_true', Bool.not_eq_false', Bool.and_eq_true, Bool.and_eq_false_iff, Bool.or_eq_true, Bool.or_eq_false_iff, decide_eq_true_eq, decide_eq_false_iff_not, beq_iff_eq, bne_iff_ne, Bool.not_true, Bool.not_false, Bool.true_eq_false, Bool.false_eq_true, ne_eq, Decidable.not_not, inB_t, inB_f] at *); first | omega | exact absurd trivial (by assumption))
      all_goals exact dirty (fz_deep (fz_br _ _) _)
    · rw [emR_c hf]
      repeat' (first | ((first | refine wSeqr (fun xx hx => ?_) | refine wSeqrF (fun xx hx => ?_) | refine wIf (fun xx hx => ?_) | refine wReg (fun xx hx => ?_) | refine wRegF (fun xx hx => ?_) | (refine wRet ?_; (try simp only [thenQ, blockQ]); (try (subst hQQ; (try simp only [thenQ, blockQ]))); refine ends_by (fun xx hx => ?_))); have hc := trivial; (repeat' (simp only [hc, Nat.reduceBEq, go_sem, Nat.reduceAdd, Nat.reduceMul, Nat.reduceSub, Nat.reduceEqDiff, Nat.reduceLT, Nat.reduceLeDiff, Int.reduceEq, Int.reduceLT, Int.reduceLE, reduceIte, aresults, aresult, hp0, c_sMessageFault, hf] at hx; (try ((first | rw [guardL_if] at hx | rw [guardF_if] at hx); split at hx <;> rename_i hc)))); all_goals (subst hx; first | (refine ⟨_, rfl, fun ht => ?_, fun ht => ?_⟩ <;> (try simp only [Bool.not_eq_true', Bool.not_eq_false', Bool.and_eq_true, Bool.and_eq_false_iff, Bool.or_eq_true, Bool.or_eq_false_iff, decide_eq_true_eq, decide_eq_false_iff_not, beq_iff_eq, bne_iff_ne, Bool.not_true, Bool.not_false, Bool.true_eq_false, Bool.false_eq_true, ne_eq, Decidable.not_not, inB_t, inB_f] at ht)) | (refine ⟨_, rfl, ?_⟩; (try simp only [tupOf])))) | refine wSkip ?_ | (refine wExit ?_; simp only [thenQ, blockQ, reduceIte, Nat.reduceEqDiff]) | refine wSeq ?_ | refine wBlock ?_ | (subst hQQ; (try simp only [thenQ, blockQ, reduceIte, Nat.reduceEqDiff])))
      all_goals try (exfalso; (try simp only [Bool.not_eq_true', Bool.not_eq_false', Bool.and_eq_true, Bool.and_eq_false_iff, Bool.or_eq_true, Bool.or_eq_false_iff, decide_eq_true_eq, decide_eq_false_iff_not, beq_iff_eq, bne_iff_ne, Bool.not_true, Bool.not_false, Bool.true_eq_false, Bool.false_eq_true, ne_eq, Decidable.not_not, inB_t, inB_f] at *); first | omega | exact absurd trivial (by assumption))
      all_goals exact dirty rfl
  obtain ⟨v, cl, rfl, hp⟩ := key
  exact ⟨cl, hp⟩
theorem c_sEncodeMessage (k : MessageM) : ∀ H, call Try.prog cfg0 0 22 [.agg [.v (.int .i64 k.Kind), .v (.int .i64 k.Seq), .v (.int .i64 k.Node), .v (.int .i64 k.Claim.Node), .v (.int .i64 k.Claim.Inc), .v (.int .i64 k.Claim.Status), .v (.int .i64 k.Claim.Meta), .v (.int .i64 k.Op), .v (.int .i64 k.Key.Id), bytesL k.Key.Bytes]] H = some (emR k, H) := fun H => by
  obtain ⟨cl, hp⟩ := p_sEncodeMessage k
  exact call_fz Try.func22 rfl ok_sEncodeMessage rfl (by simp only [fz_cons, fz_nil, go_sem, and_self]) hp H

theorem ok_iDecodeMessage : fnOk Try.prog cfg0 17 Try.f17 = true := by kernel_rfl
theorem p_iDecodeMessage (l : List Int) (hb : Eng.Bytes l) (hl : l.length ≤ 1048576) : ∃ cl, pure Try.prog cfg0 17 Try.f17 [bytesL l] = some (.agg [.v (.int .i64 (dm1C l)), .lst false ((dm1L l).map encMessage)], cl) := by
  have key : ∃ v cl, v = (.agg [.v (.int .i64 (dm1C l)), .lst false ((dm1L l).map encMessage)] : AV) ∧ pure Try.prog cfg0 17 Try.f17 [bytesL l] = some (v, cl) := by
    refine pure_ex (rs := [.cell 2 25]) rfl rfl ?_
    have hp0 : ∀ b, cfg0.pol 17 b = 0 := fun b => rfl
    by_cases hbig : l.length < 1 ∨ 100 < l.length
    · have h1 : dm1C l = 2 := if_pos hbig
      have h2 : dm1L l = [] := by unfold dm1L; rw [h1]; rfl
      rw [h1, h2]
      repeat' (first | ((first | refine wSeqr (fun xx hx => ?_) | refine wSeqrF (fun xx hx => ?_) | refine wIf (fun xx hx => ?_) | refine wReg (fun xx hx => ?_) | refine wRegF (fun xx hx => ?_) | (refine wRet ?_; (try simp only [thenQ, blockQ]); (try (subst hQQ; (try simp only [thenQ, blockQ]))); refine ends_by (fun xx hx => ?_))); have hc := trivial; (repeat' (simp only [hc, Nat.reduceBEq, go_sem, Nat.reduceAdd, Nat.reduceMul, Nat.reduceSub, Nat.reduceEqDiff, Nat.reduceLT, Nat.reduceLeDiff, Int.reduceEq, Int.reduceLT, Int.reduceLE, reduceIte, aresults, aresult, hp0, c_iin] at hx; (try ((first | rw [guardL_if] at hx | rw [guardF_if] at hx); split at hx <;> rename_i hc)))); all_goals (subst hx; first | (refine ⟨_, rfl, fun ht => ?_, fun ht => ?_⟩ <;> (try simp only [Bool.not_eq_true', Bool.not_eq_false', Bool.and_eq_true, Bool.and_eq_false_iff, Bool.or_eq_true, Bool.or_eq_false_iff, decide_eq_true_eq, decide_eq_false_iff_not, beq_iff_eq, bne_iff_ne, Bool.not_true, Bool.not_false, Bool.true_eq_false, Bool.false_eq_true, ne_eq, Decidable.not_not, inB_t, inB_f] at ht)) | (refine ⟨_, rfl, ?_⟩; (try simp only [tupOf])))) | refine wSkip ?_ | (refine wExit ?_; simp only [thenQ, blockQ, reduceIte, Nat.reduceEqDiff]) | refine wSeq ?_ | refine wBlock ?_ | (subst hQQ; (try simp only [thenQ, blockQ, reduceIte, Nat.reduceEqDiff])))
      all_goals try (exfalso; (try simp only [Bool.not_eq_true', Bool.not_eq_false', Bool.and_eq_true, Bool.and_eq_false_iff, Bool.or_eq_true, Bool.or_eq_false_iff, decide_eq_true_eq, decide_eq_false_iff_not, beq_iff_eq, bne_iff_ne, Bool.not_true, Bool.not_false, Bool.true_eq_false, Bool.false_eq_true, ne_eq, Decidable.not_not, inB_t, inB_f] at *); first | omega | exact absurd trivial (by assumption))
      all_goals exact dirty rfl
    have hne : l ≠ [] := fun e => hbig (by rw [e]; simp)
    have hm := c_idecoded l hb (by omega)
    cases hok : decB l with
    | false =>
      have h1 : dm1C l = 5 := by unfold dm1C; rw [if_neg hbig, hok]; rfl
      have h2 : dm1L l = [] := by unfold dm1L; rw [h1]; rfl
      rw [h1, h2]
      rw [hok] at hm
      repeat' (first | ((first | refine wSeqr (fun xx hx => ?_) | refine wSeqrF (fun xx hx => ?_) | refine wIf (fun xx hx => ?_) | refine wReg (fun xx hx => ?_) | refine wRegF (fun xx hx => ?_) | (refine wRet ?_; (try simp only [thenQ, blockQ]); (try (subst hQQ; (try simp only [thenQ, blockQ]))); refine ends_by (fun xx hx => ?_))); have hc := trivial; (repeat' (simp only [hc, Nat.reduceBEq, go_sem, Nat.reduceAdd, Nat.reduceMul, Nat.reduceSub, Nat.reduceEqDiff, Nat.reduceLT, Nat.reduceLeDiff, Int.reduceEq, Int.reduceLT, Int.reduceLE, reduceIte, aresults, aresult, hp0, hm, c_iin] at hx; (try ((first | rw [guardL_if] at hx | rw [guardF_if] at hx); split at hx <;> rename_i hc)))); all_goals (subst hx; first | (refine ⟨_, rfl, fun ht => ?_, fun ht => ?_⟩ <;> (try simp only [Bool.not_eq_true', Bool.not_eq_false', Bool.and_eq_true, Bool.and_eq_false_iff, Bool.or_eq_true, Bool.or_eq_false_iff, decide_eq_true_eq, decide_eq_false_iff_not, beq_iff_eq, bne_iff_ne, Bool.not_true, Bool.not_false, Bool.true_eq_false, Bool.false_eq_true, ne_eq, Decidable.not_not, inB_t, inB_f] at ht)) | (refine ⟨_, rfl, ?_⟩; (try simp only [tupOf])))) | refine wSkip ?_ | (refine wExit ?_; simp only [thenQ, blockQ, reduceIte, Nat.reduceEqDiff]) | refine wSeq ?_ | refine wBlock ?_ | (subst hQQ; (try simp only [thenQ, blockQ, reduceIte, Nat.reduceEqDiff])))
      all_goals try (exfalso; (try simp only [Bool.not_eq_true', Bool.not_eq_false', Bool.and_eq_true, Bool.and_eq_false_iff, Bool.or_eq_true, Bool.or_eq_false_iff, decide_eq_true_eq, decide_eq_false_iff_not, beq_iff_eq, bne_iff_ne, Bool.not_true, Bool.not_false, Bool.true_eq_false, Bool.false_eq_true, ne_eq, Decidable.not_not, inB_t, inB_f] at *); first | omega | exact absurd trivial (by assumption))
      all_goals exact dirty rfl
    | true =>
      have h1 : dm1C l = 0 := by unfold dm1C; rw [if_neg hbig, hok]; rfl
      have h2 : dm1L l = [decM l] := by unfold dm1L; rw [h1]; rfl
      rw [h1, h2]
      rw [hok] at hm
      repeat' (first | ((first | refine wSeqr (fun xx hx => ?_) | refine wSeqrF (fun xx hx => ?_) | refine wIf (fun xx hx => ?_) | refine wReg (fun xx hx => ?_) | refine wRegF (fun xx hx => ?_) | (refine wRet ?_; (try simp only [thenQ, blockQ]); (try (subst hQQ; (try simp only [thenQ, blockQ]))); refine ends_by (fun xx hx => ?_))); have hc := trivial; (repeat' (simp only [hc, Nat.reduceBEq, go_sem, Nat.reduceAdd, Nat.reduceMul, Nat.reduceSub, Nat.reduceEqDiff, Nat.reduceLT, Nat.reduceLeDiff, Int.reduceEq, Int.reduceLT, Int.reduceLE, reduceIte, aresults, aresult, hp0, hm, c_iin] at hx; (try ((first | rw [guardL_if] at hx | rw [guardF_if] at hx); split at hx <;> rename_i hc)))); all_goals (subst hx; first | (refine ⟨_, rfl, fun ht => ?_, fun ht => ?_⟩ <;> (try simp only [Bool.not_eq_true', Bool.not_eq_false', Bool.and_eq_true, Bool.and_eq_false_iff, Bool.or_eq_true, Bool.or_eq_false_iff, decide_eq_true_eq, decide_eq_false_iff_not, beq_iff_eq, bne_iff_ne, Bool.not_true, Bool.not_false, Bool.true_eq_false, Bool.false_eq_true, ne_eq, Decidable.not_not, inB_t, inB_f] at ht)) | (refine ⟨_, rfl, ?_⟩; (try simp only [tupOf])))) | refine wSkip ?_ | (refine wExit ?_; simp only [thenQ, blockQ, reduceIte, Nat.reduceEqDiff]) | refine wSeq ?_ | refine wBlock ?_ | (subst hQQ; (try simp only [thenQ, blockQ, reduceIte, Nat.reduceEqDiff])))
      all_goals try (exfalso; (try simp only [Bool.not_eq_true', Bool.not_eq_false', Bool.and_eq_true, Bool.and_eq_false_iff, Bool.or_eq_true, Bool.or_eq_false_iff, decide_eq_true_eq, decide_eq_false_iff_not, beq_iff_eq, bne_iff_ne, Bool.not_true, Bool.not_false, Bool.true_eq_false, Bool.false_eq_true, ne_eq, Decidable.not_not, inB_t, inB_f] at *); first | omega | exact absurd trivial (by assumption))
      all_goals exact dirty (d_one _ _)
  obtain ⟨v, cl, rfl, hp⟩ := key
  exact ⟨cl, hp⟩
theorem c_iDecodeMessage (l : List Int) (hb : Eng.Bytes l) (hl : l.length ≤ 1048576) : ∀ H, call Try.prog cfg0 0 17 [bytesL l] H = some (.agg [.v (.int .i64 (dm1C l)), .lst false ((dm1L l).map encMessage)], H) := fun H => by
  obtain ⟨cl, hp⟩ := p_iDecodeMessage l hb hl
  exact call_fz Try.func17 rfl ok_iDecodeMessage rfl (by simp only [fz_cons, fz_nil, go_sem, and_self]) hp H

theorem ok_sDecodeMessage : fnOk Try.prog cfg0 23 Try.f23 = true := by kernel_rfl
theorem p_sDecodeMessage (l : List Int) (hb : Eng.Bytes l) (hl : l.length ≤ 1048576) : ∃ cl, pure Try.prog cfg0 23 Try.f23 [bytesL l] = some (.agg [.v (.int .i64 (dm1C l)), .lst false ((dm1L l).map encMessage)], cl) := by
  have key : ∃ v cl, v = (.agg [.v (.int .i64 (dm1C l)), .lst false ((dm1L l).map encMessage)] : AV) ∧ pure Try.prog cfg0 23 Try.f23 [bytesL l] = some (v, cl) := by
    refine pure_ex (rs := [.cell 2 25]) rfl rfl ?_
    have hp0 : ∀ b, cfg0.pol 23 b = 0 := fun b => rfl
    by_cases hbig : l.length < 1 ∨ 100 < l.length
    · have h1 : dm1C l = 2 := if_pos hbig
      have h2 : dm1L l = [] := by unfold dm1L; rw [h1]; rfl
      rw [h1, h2]
      repeat' (first | ((first | refine wSeqr (fun xx hx => ?_) | refine wSeqrF (fun xx hx => ?_) | refine wIf (fun xx hx => ?_) | refine wReg (fun xx hx => ?_) | refine wRegF (fun xx hx => ?_) | (refine wRet ?_; (try simp only [thenQ, blockQ]); (try (subst hQQ; (try simp only [thenQ, blockQ]))); refine ends_by (fun xx hx => ?_))); have hc := trivial; (repeat' (simp only [hc, Nat.reduceBEq, go_sem, Nat.reduceAdd, Nat.reduceMul, Nat.reduceSub, Nat.reduceEqDiff, Nat.reduceLT, Nat.reduceLeDiff, Int.reduceEq, Int.reduceLT, Int.reduceLE, reduceIte, aresults, aresult, hp0, c_iin] at hx; (try ((first | rw [guardL_if] at hx | rw [guardF_if] at hx); split at hx <;> rename_i hc)))); all_goals (subst hx; first | (refine ⟨_, rfl, fun ht => ?_, fun ht => ?_⟩ <;> (try simp only [Bool.not_eq_true', Bool.not_eq_false', Bool.and_eq_true, Bool.and_eq_false_iff, Bool.or_eq_true, Bool.or_eq_false_iff, decide_eq_true_eq, decide_eq_false_iff_not, beq_iff_eq, bne_iff_ne, Bool.not_true, Bool.not_false, Bool.true_eq_false, Bool.false_eq_true, ne_eq, Decidable.not_not, inB_t, inB_f] at ht)) | (refine ⟨_, rfl, ?_⟩; (try simp only [tupOf])))) | refine wSkip ?_ | (refine wExit ?_; simp only [thenQ, blockQ, reduceIte, Nat.reduceEqDiff]) | refine wSeq ?_ | refine wBlock ?_ | (subst hQQ; (try simp only [thenQ, blockQ, reduceIte, Nat.reduceEqDiff])))
      all_goals try (exfalso; (try simp only [Bool.not_eq_true', Bool.not_eq_false', Bool.and_eq_true, Bool.and_eq_false_iff, Bool.or_eq_true, Bool.or_eq_false_iff, decide_eq_true_eq, decide_eq_false_iff_not, beq_iff_eq, bne_iff_ne, Bool.not_true, Bool.not_false, Bool.true_eq_false, Bool.false_eq_true, ne_eq, Decidable.not_not, inB_t, inB_f] at *); first | omega | exact absurd trivial (by assumption))
      all_goals exact dirty rfl
    have hne : l ≠ [] := fun e => hbig (by rw [e]; simp)
    have hm := c_sl7Decode l hb hne (by omega)
    cases hok : decB l with
    | false =>
      have h1 : dm1C l = 5 := by unfold dm1C; rw [if_neg hbig, hok]; rfl
      have h2 : dm1L l = [] := by unfold dm1L; rw [h1]; rfl
      rw [h1, h2]
      rw [← decB_eq hb, hok] at hm
      repeat' (first | ((first | refine wSeqr (fun xx hx => ?_) | refine wSeqrF (fun xx hx => ?_) | refine wIf (fun xx hx => ?_) | refine wReg (fun xx hx => ?_) | refine wRegF (fun xx hx => ?_) | (refine wRet ?_; (try simp only [thenQ, blockQ]); (try (subst hQQ; (try simp only [thenQ, blockQ]))); refine ends_by (fun xx hx => ?_))); have hc := trivial; (repeat' (simp only [hc, Nat.reduceBEq, go_sem, Nat.reduceAdd, Nat.reduceMul, Nat.reduceSub, Nat.reduceEqDiff, Nat.reduceLT, Nat.reduceLeDiff, Int.reduceEq, Int.reduceLT, Int.reduceLE, reduceIte, aresults, aresult, hp0, hm, c_iin] at hx; (try ((first | rw [guardL_if] at hx | rw [guardF_if] at hx); split at hx <;> rename_i hc)))); all_goals (subst hx; first | (refine ⟨_, rfl, fun ht => ?_, fun ht => ?_⟩ <;> (try simp only [Bool.not_eq_true', Bool.not_eq_false', Bool.and_eq_true, Bool.and_eq_false_iff, Bool.or_eq_true, Bool.or_eq_false_iff, decide_eq_true_eq, decide_eq_false_iff_not, beq_iff_eq, bne_iff_ne, Bool.not_true, Bool.not_false, Bool.true_eq_false, Bool.false_eq_true, ne_eq, Decidable.not_not, inB_t, inB_f] at ht)) | (refine ⟨_, rfl, ?_⟩; (try simp only [tupOf])))) | refine wSkip ?_ | (refine wExit ?_; simp only [thenQ, blockQ, reduceIte, Nat.reduceEqDiff]) | refine wSeq ?_ | refine wBlock ?_ | (subst hQQ; (try simp only [thenQ, blockQ, reduceIte, Nat.reduceEqDiff])))
      all_goals try (exfalso; (try simp only [Bool.not_eq_true', Bool.not_eq_false', Bool.and_eq_true, Bool.and_eq_false_iff, Bool.or_eq_true, Bool.or_eq_false_iff, decide_eq_true_eq, decide_eq_false_iff_not, beq_iff_eq, bne_iff_ne, Bool.not_true, Bool.not_false, Bool.true_eq_false, Bool.false_eq_true, ne_eq, Decidable.not_not, inB_t, inB_f] at *); first | omega | exact absurd trivial (by assumption))
      all_goals exact dirty rfl
    | true =>
      have h1 : dm1C l = 0 := by unfold dm1C; rw [if_neg hbig, hok]; rfl
      have h2 : dm1L l = [decM l] := by unfold dm1L; rw [h1]; rfl
      rw [h1, h2]
      rw [← decB_eq hb, decB_dec hb hok, hok] at hm
      repeat' (first | ((first | refine wSeqr (fun xx hx => ?_) | refine wSeqrF (fun xx hx => ?_) | refine wIf (fun xx hx => ?_) | refine wReg (fun xx hx => ?_) | refine wRegF (fun xx hx => ?_) | (refine wRet ?_; (try simp only [thenQ, blockQ]); (try (subst hQQ; (try simp only [thenQ, blockQ]))); refine ends_by (fun xx hx => ?_))); have hc := trivial; (repeat' (simp only [hc, Nat.reduceBEq, go_sem, Nat.reduceAdd, Nat.reduceMul, Nat.reduceSub, Nat.reduceEqDiff, Nat.reduceLT, Nat.reduceLeDiff, Int.reduceEq, Int.reduceLT, Int.reduceLE, reduceIte, aresults, aresult, hp0, hm, c_iin] at hx; (try ((first | rw [guardL_if] at hx | rw [guardF_if] at hx); split at hx <;> rename_i hc)))); all_goals (subst hx; first | (refine ⟨_, rfl, fun ht => ?_, fun ht => ?_⟩ <;> (try simp only [Bool.not_eq_true', Bool.not_eq_false', Bool.and_eq_true, Bool.and_eq_false_iff, Bool.or_eq_true, Bool.or_eq_false_iff, decide_eq_true_eq, decide_eq_false_iff_not, beq_iff_eq, bne_iff_ne, Bool.not_true, Bool.not_false, Bool.true_eq_false, Bool.false_eq_true, ne_eq, Decidable.not_not, inB_t, inB_f] at ht)) | (refine ⟨_, rfl, ?_⟩; (try simp only [tupOf])))) | refine wSkip ?_ | (refine wExit ?_; simp only [thenQ, blockQ, reduceIte, Nat.reduceEqDiff]) | refine wSeq ?_ | refine wBlock ?_ | (subst hQQ; (try simp only [thenQ, blockQ, reduceIte, Nat.reduceEqDiff])))
      all_goals try (exfalso; (try simp only [Bool.not_eq_true', Bool.not_eq_false', Bool.and_eq_true, Bool.and_eq_false_iff, Bool.or_eq_true, Bool.or_eq_false_iff, decide_eq_true_eq, decide_eq_false_iff_not, beq_iff_eq, bne_iff_ne, Bool.not_true, Bool.not_false, Bool.true_eq_false, Bool.false_eq_true, ne_eq, Decidable.not_not, inB_t, inB_f] at *); first | omega | exact absurd trivial (by assumption))
      all_goals exact dirty (d_one _ _)
  obtain ⟨v, cl, rfl, hp⟩ := key
  exact ⟨cl, hp⟩
theorem c_sDecodeMessage (l : List Int) (hb : Eng.Bytes l) (hl : l.length ≤ 1048576) : ∀ H, call Try.prog cfg0 0 23 [bytesL l] H = some (.agg [.v (.int .i64 (dm1C l)), .lst false ((dm1L l).map encMessage)], H) := fun H => by
  obtain ⟨cl, hp⟩ := p_sDecodeMessage l hb hl
  exact call_fz Try.func23 rfl ok_sDecodeMessage rfl (by simp only [fz_cons, fz_nil, go_sem, and_self]) hp H

end
end Go.Proofs.Ytmpkcilehideiaa
