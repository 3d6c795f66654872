/- The law FnExactDecodeMessages in the engine. -/
import Derived.Test.YtmncdkecpnoogaaN9
namespace Go.Proofs.Ytmncdkecpnoogaa.fnExactDecodeMessages
open Go Go.RowKit Go.Proofs.Ytmncdkecpnoogaa.Eng
set_option linter.unusedSimpArgs false
set_option linter.unusedVariables false
set_option maxRecDepth 100000
set_option maxHeartbeats 4000000
noncomputable section
theorem ok_law : fnOk Try.prog cfg0 4 Try.f4 = true := by kernel_rfl
theorem p_law (l : List Int) (hb : Eng.Bytes l) (hl0 : l.length ≤ 140737488351232) : pure Try.prog cfg0 4 Try.f4 [bytesL l] = some (.v (.bool true), true) := by
  refine pure_wp (rs := [.tmp 2]) rfl rfl ?_
  have hp0 : ∀ b, cfg0.pol 4 b = (if b = 17 then 1 else if b = 19 then 1 else 0) := fun b => rfl
  by_cases hbig : 1048576 < l.length
  · repeat' (first | ((first | refine wSeqr (fun xx hx => ?_) | refine wIf (fun xx hx => ?_) | refine wReg (fun xx hx => ?_) | (refine wRet ?_; (try simp only [thenQ, blockQ]); (try (subst hQQ; (try simp only [thenQ, blockQ]))); refine ends_by (fun xx hx => ?_))); have hc := trivial; (repeat' (simp only [hc, go_sem, Nat.reduceAdd, Nat.reduceMul, Nat.reduceSub, Nat.reduceEqDiff, Nat.reduceLT, Nat.reduceLeDiff, Int.reduceEq, Int.reduceLT, Int.reduceLE, reduceIte, aresults, aresult, hp0] at hx; (try (rw [guardL_if] at hx; split at hx <;> rename_i hc)))); all_goals (subst hx; first | (refine ⟨_, rfl, fun ht => ?_, fun ht => ?_⟩ <;> (try simp only [Bool.not_eq_true', Bool.not_eq_false', Bool.and_eq_true, Bool.and_eq_false_iff, Bool.or_eq_true, Bool.or_eq_false_iff, decide_eq_true_eq, decide_eq_false_iff_not, beq_iff_eq, bne_iff_ne, Bool.not_true, Bool.not_false, Bool.true_eq_false, Bool.false_eq_true, ne_eq, Decidable.not_not, inB_t, inB_f] at ht)) | (refine ⟨_, rfl, ?_⟩; (try simp only [tupOf])))) | refine wSkip ?_ | (refine wExit ?_; simp only [thenQ, blockQ, reduceIte, Nat.reduceEqDiff]) | refine wSeq ?_ | refine wBlock ?_ | (subst hQQ; (try simp only [thenQ, blockQ, reduceIte, Nat.reduceEqDiff])))
    all_goals try (exfalso; (try simp only [Bool.not_eq_true', Bool.not_eq_false', Bool.and_eq_true, Bool.and_eq_false_iff, Bool.or_eq_true, Bool.or_eq_false_iff, decide_eq_true_eq, decide_eq_false_iff_not, beq_iff_eq, bne_iff_ne, Bool.not_true, Bool.not_false, Bool.true_eq_false, Bool.false_eq_true, ne_eq, Decidable.not_not, inB_t, inB_f] at *); first | omega | exact absurd trivial (by assumption))
    all_goals exact ⟨rfl, rfl⟩
  have hl : l.length ≤ 1048576 := by omega
  have hto := c_ltoByteS l hl
  have hoo := o_ltoByteS l hl
  have hsp := c_sDecodeMessages l hb hl
  have hii := c_iDecodeMessages l hb hl
  have hoi := (pq_iDecodeMessages l hb hl).2
  have hok := dmL_ok hb
  have hq1 : (dmL l).length ≤ 1048576 ∧ ∀ x ∈ dmL l, x.ok 1048576 := ⟨by omega, fun x hx => (hok.2 x hx).1⟩
  have hq2 : (dmL l).length ≤ 1000 ∧ ∀ x ∈ dmL l, x.Key.Bytes.length ≤ 1000 := ⟨by omega, fun x hx => (hok.2 x hx).2⟩
  have hGE := gE_res (dmC l) (dmL l)
  have hGB : MatG 10 (bytesL l) := MatG.bytes 8 l
  have heq := fun H lo hi z h => @eqMR_laid (dmC l) (dmL l) hq1 H lo hi z h
  have heq2 := c_leqMessagesResult (dmC l) (dmL l) hq1
  have hbd := nxL_bound (dmL l) 1 hq2.2
  have hnx : ¬ nxL 1 (dmL l) < 0 := by omega
  refine wGen (fun Q hQQ => ?_)
  repeat' ((fail_if_success (first | refine wAt 4 ?_)); first | ((first | refine wSeqr (fun xx hx => ?_) | refine wIf (fun xx hx => ?_) | refine wReg (fun xx hx => ?_) | (refine wRet ?_; (try simp only [thenQ, blockQ]); (try (subst hQQ; (try simp only [thenQ, blockQ]))); refine ends_by (fun xx hx => ?_))); have hc := trivial; (repeat' (simp only [hc, go_sem, Nat.reduceAdd, Nat.reduceMul, Nat.reduceSub, Nat.reduceEqDiff, Nat.reduceLT, Nat.reduceLeDiff, Int.reduceEq, Int.reduceLT, Int.reduceLE, reduceIte, aresults, aresult, hp0, hto, hsp] at hx; (try (rw [guardL_if] at hx; split at hx <;> rename_i hc)))); all_goals (subst hx; first | (refine ⟨_, rfl, fun ht => ?_, fun ht => ?_⟩ <;> (try simp only [Bool.not_eq_true', Bool.not_eq_false', Bool.and_eq_true, Bool.and_eq_false_iff, Bool.or_eq_true, Bool.or_eq_false_iff, decide_eq_true_eq, decide_eq_false_iff_not, beq_iff_eq, bne_iff_ne, Bool.not_true, Bool.not_false, Bool.true_eq_false, Bool.false_eq_true, ne_eq, Decidable.not_not, inB_t, inB_f] at ht)) | (refine ⟨_, rfl, ?_⟩; (try simp only [tupOf])))) | refine wSkip ?_ | (refine wExit ?_; simp only [thenQ, blockQ, reduceIte, Nat.reduceEqDiff]) | refine wSeq ?_ | refine wBlock ?_ | (subst hQQ; (try simp only [thenQ, blockQ, reduceIte, Nat.reduceEqDiff])))
  all_goals try (exfalso; (try simp only [Bool.not_eq_true', Bool.not_eq_false', Bool.and_eq_true, Bool.and_eq_false_iff, Bool.or_eq_true, Bool.or_eq_false_iff, decide_eq_true_eq, decide_eq_false_iff_not, beq_iff_eq, bne_iff_ne, Bool.not_true, Bool.not_false, Bool.true_eq_false, Bool.false_eq_true, ne_eq, Decidable.not_not, inB_t, inB_f] at *); first | omega | exact absurd trivial (by assumption))
  (first | refine wSeqr (fun xx hx => ?_) | refine wReg (fun xx hx => ?_)); have hc := trivial; (repeat' (simp only [hc, go_sem, Nat.reduceAdd, Nat.reduceMul, Nat.reduceSub, Nat.reduceEqDiff, Nat.reduceLT, Nat.reduceLeDiff, Int.reduceEq, Int.reduceLT, Int.reduceLE, reduceIte, aresults, aresult, hp0, hoo] at hx; (try (rw [guardL_if] at hx; split at hx <;> rename_i hc)))); generalize hq : mat depthD _ _ = q at hx
  obtain ⟨xb, H1, rfl, hx1, hL1⟩ := mat_oneQ hq hGB (by omega)
  clear hq
  have g1 : 1 ≤ H1.g := hx1.1
  have r0 : H1.h 0 = some [.v (.int .i64 (dmC l)), .lst false ((dmL l).map encMessage)] := (hx1.2 0 (by show 0 < 1; omega)).trans rfl
  have hLb : Laid H1 1 H1.g [bytesL l] [xb] := hL1
  have hc := trivial; (repeat' (simp only [hc, go_sem, Nat.reduceAdd, Nat.reduceMul, Nat.reduceSub, Nat.reduceEqDiff, Nat.reduceLT, Nat.reduceLeDiff, Int.reduceEq, Int.reduceLT, Int.reduceLE, reduceIte, aresults, aresult, hp0] at hx; (try (rw [guardL_if] at hx; split at hx <;> rename_i hc)))); all_goals (subst hx; refine ⟨_, rfl, ?_⟩)
  repeat' ((fail_if_success (first | refine wAt 5 ?_)); first | ((first | refine wSeqr (fun xx hx => ?_) | refine wIf (fun xx hx => ?_) | refine wReg (fun xx hx => ?_) | (refine wRet ?_; (try simp only [thenQ, blockQ]); (try (subst hQQ; (try simp only [thenQ, blockQ]))); refine ends_by (fun xx hx => ?_))); have hc := trivial; (repeat' (simp only [hc, go_sem, Nat.reduceAdd, Nat.reduceMul, Nat.reduceSub, Nat.reduceEqDiff, Nat.reduceLT, Nat.reduceLeDiff, Int.reduceEq, Int.reduceLT, Int.reduceLE, reduceIte, aresults, aresult, hp0] at hx; (try (rw [guardL_if] at hx; split at hx <;> rename_i hc)))); all_goals (subst hx; first | (refine ⟨_, rfl, fun ht => ?_, fun ht => ?_⟩ <;> (try simp only [Bool.not_eq_true', Bool.not_eq_false', Bool.and_eq_true, Bool.and_eq_false_iff, Bool.or_eq_true, Bool.or_eq_false_iff, decide_eq_true_eq, decide_eq_false_iff_not, beq_iff_eq, bne_iff_ne, Bool.not_true, Bool.not_false, Bool.true_eq_false, Bool.false_eq_true, ne_eq, Decidable.not_not, inB_t, inB_f] at ht)) | (refine ⟨_, rfl, ?_⟩; (try simp only [tupOf])))) | refine wSkip ?_ | (refine wExit ?_; simp only [thenQ, blockQ, reduceIte, Nat.reduceEqDiff]) | refine wSeq ?_ | refine wBlock ?_ | (subst hQQ; (try simp only [thenQ, blockQ, reduceIte, Nat.reduceEqDiff])))
  (first | refine wSeqr (fun xx hx => ?_) | refine wReg (fun xx hx => ?_)); have hc := trivial; (repeat' (simp only [hc, go_sem, Nat.reduceAdd, Nat.reduceMul, Nat.reduceSub, Nat.reduceEqDiff, Nat.reduceLT, Nat.reduceLeDiff, Int.reduceEq, Int.reduceLT, Int.reduceLE, reduceIte, aresults, aresult, hp0] at hx; (try (rw [guardL_if] at hx; split at hx <;> rename_i hc)))); generalize hq : call Try.prog cfg0 1 _ _ _ = q at hx
  have e1 := hq.symm.trans (call_ofO Try.func15 rfl ok_iDecodeMessages rfl (mapM_c (deep_one hLb hGB (by omega)) mapM_n) hoi)
  clear hq
  obtain ⟨zs, H2, rfl, hx2, hL2⟩ := mat_rowQ e1.symm hGE (by omega)
  clear e1
  obtain ⟨zs', e, hL2'⟩ := hL2.invV
  subst e
  obtain ⟨z, t1, mx, rfl, a0, b0, y0, f1⟩ := hL2'.invL
  obtain rfl := f1.invN
  have k0 := (okc_laid y0).1
  have j0 := (okc_laid y0).2
  have g2 : H1.g ≤ H2.g := hx2.1
  have n0 : (0 = H2.g) = False := eq_false (by omega)
  have r0' := (hx2.2 0 (by omega)).trans r0
  have hLb2 : Laid H2 1 H1.g [bytesL l] [xb] := hLb.keep fun b h1 h2 => hx2.2 b h2
  have hc := trivial; (repeat' (simp only [hc, go_sem, Nat.reduceAdd, Nat.reduceMul, Nat.reduceSub, Nat.reduceEqDiff, Nat.reduceLT, Nat.reduceLeDiff, Int.reduceEq, Int.reduceLT, Int.reduceLE, reduceIte, aresults, aresult, hp0, k0, j0] at hx; (try (rw [guardL_if] at hx; split at hx <;> rename_i hc)))); all_goals (subst hx; refine ⟨_, rfl, ?_⟩)
  repeat' ((fail_if_success (first | refine wAt 6 ?_)); first | ((first | refine wSeqr (fun xx hx => ?_) | refine wIf (fun xx hx => ?_) | refine wReg (fun xx hx => ?_) | (refine wRet ?_; (try simp only [thenQ, blockQ]); (try (subst hQQ; (try simp only [thenQ, blockQ]))); refine ends_by (fun xx hx => ?_))); have hc := trivial; (repeat' (simp only [hc, go_sem, Nat.reduceAdd, Nat.reduceMul, Nat.reduceSub, Nat.reduceEqDiff, Nat.reduceLT, Nat.reduceLeDiff, Int.reduceEq, Int.reduceLT, Int.reduceLE, reduceIte, aresults, aresult, hp0] at hx; (try (rw [guardL_if] at hx; split at hx <;> rename_i hc)))); all_goals (subst hx; first | (refine ⟨_, rfl, fun ht => ?_, fun ht => ?_⟩ <;> (try simp only [Bool.not_eq_true', Bool.not_eq_false', Bool.and_eq_true, Bool.and_eq_false_iff, Bool.or_eq_true, Bool.or_eq_false_iff, decide_eq_true_eq, decide_eq_false_iff_not, beq_iff_eq, bne_iff_ne, Bool.not_true, Bool.not_false, Bool.true_eq_false, Bool.false_eq_true, ne_eq, Decidable.not_not, inB_t, inB_f] at ht)) | (refine ⟨_, rfl, ?_⟩; (try simp only [tupOf])))) | refine wSkip ?_ | (refine wExit ?_; simp only [thenQ, blockQ, reduceIte, Nat.reduceEqDiff]) | refine wSeq ?_ | refine wBlock ?_ | (subst hQQ; (try simp only [thenQ, blockQ, reduceIte, Nat.reduceEqDiff])))
  have eB : decide (l = l) = true := by simp
  refine wSt (fun e2 K => (e2 0 = bytesL l ∧ e2 3 = .ptr 0 0 ∧ e2 4 = xb ∧ e2 5 = .ptr H2.g 0) ∧ K.g = H2.g + 1 ∧ K.h 0 = some [.v (.int .i64 (dmC l)), .lst false ((dmL l).map encMessage)] ∧ K.h H2.g = some [.v (.int .i64 (dmC l)), z] ∧ Laid K 1 H1.g [bytesL l] [xb] ∧ Laid K H1.g H2.g [.v (.int .i64 (dmC l)), .lst false ((dmL l).map encMessage)] [.v (.int .i64 (dmC l)), z])
    ⟨⟨by first | rfl | (simp only [upd_eq, Nat.reduceEqDiff, if_false, if_true]), by first | rfl | (simp only [upd_eq, Nat.reduceEqDiff, if_false, if_true]), by first | rfl | (simp only [upd_eq, Nat.reduceEqDiff, if_false, if_true]), by first | rfl | (simp only [upd_eq, Nat.reduceEqDiff, if_false, if_true])⟩, rfl, by simp only [Hp.set_h, Hp.new_h, n0, if_false]; exact r0', by simp only [Hp.set_h, if_true], hLb2.keep fun b h1 h2 => by rw [Hp.set_h, Hp.new_h, if_neg (by omega), if_neg (by omega)], hL2.keep fun b h1 h2 => by rw [Hp.set_h, Hp.new_h, if_neg (by omega), if_neg (by omega)]⟩ (fun e K hR => ?_)
  obtain ⟨⟨s0, s3, s4, s5⟩, kg, kh0, kh1, kLb, kLz⟩ := hR
  have f1 := heq K _ _ z kLz
  have f2 : call Try.prog cfg0 0 17 [xb, bytesL l] K = some (.v (.bool true), K) := by
    have := call_of (p := 0) (H := K) Try.func17 rfl ok_leqByteS rfl (by omega) (mapM_c (deep_one kLb hGB (by omega)) (mapM_c ((fz_bytes l).1 K) mapM_n)) (p_leqByteS l l hl) (.inl rfl)
    rw [eB] at this; exact this
  repeat' ((fail_if_success (first | refine wAt 11 ?_)); first | ((first | refine wSeqr (fun xx hx => ?_) | refine wIf (fun xx hx => ?_) | refine wReg (fun xx hx => ?_) | (refine wRet ?_; (try simp only [thenQ, blockQ]); (try (subst hQQ; (try simp only [thenQ, blockQ]))); refine ends_by (fun xx hx => ?_))); have hc := trivial; (repeat' (simp only [hc, go_sem, Nat.reduceAdd, Nat.reduceMul, Nat.reduceSub, Nat.reduceEqDiff, Nat.reduceLT, Nat.reduceLeDiff, Int.reduceEq, Int.reduceLT, Int.reduceLE, reduceIte, aresults, aresult, hp0, s0, s3, s4, s5, kh0, kh1, f1, f2, hto, Bool.not_true] at hx; (try (rw [guardL_if] at hx; split at hx <;> rename_i hc)))); all_goals (subst hx; first | (refine ⟨_, rfl, fun ht => ?_, fun ht => ?_⟩ <;> (try simp only [Bool.not_eq_true', Bool.not_eq_false', Bool.and_eq_true, Bool.and_eq_false_iff, Bool.or_eq_true, Bool.or_eq_false_iff, decide_eq_true_eq, decide_eq_false_iff_not, beq_iff_eq, bne_iff_ne, Bool.not_true, Bool.not_false, Bool.true_eq_false, Bool.false_eq_true, ne_eq, Decidable.not_not, inB_t, inB_f] at ht)) | (refine ⟨_, rfl, ?_⟩; (try simp only [tupOf])))) | refine wSkip ?_ | (refine wExit ?_; simp only [thenQ, blockQ, reduceIte, Nat.reduceEqDiff]) | refine wSeq ?_ | refine wBlock ?_ | (subst hQQ; (try simp only [thenQ, blockQ, reduceIte, Nat.reduceEqDiff])))
  all_goals try (exfalso; (try simp only [Bool.not_eq_true', Bool.not_eq_false', Bool.and_eq_true, Bool.and_eq_false_iff, Bool.or_eq_true, Bool.or_eq_false_iff, decide_eq_true_eq, decide_eq_false_iff_not, beq_iff_eq, bne_iff_ne, Bool.not_true, Bool.not_false, Bool.true_eq_false, Bool.false_eq_true, ne_eq, Decidable.not_not, inB_t, inB_f] at *); first | omega | exact absurd trivial (by assumption))
  (first | refine wSeqr (fun xx hx => ?_) | refine wReg (fun xx hx => ?_)); have hc := trivial; (repeat' (simp only [hc, go_sem, Nat.reduceAdd, Nat.reduceMul, Nat.reduceSub, Nat.reduceEqDiff, Nat.reduceLT, Nat.reduceLeDiff, Int.reduceEq, Int.reduceLT, Int.reduceLE, reduceIte, aresults, aresult, hp0, s0, s3, s4, s5] at hx; (try (rw [guardL_if] at hx; split at hx <;> rename_i hc)))); generalize hq : call Try.prog cfg0 0 _ _ _ = q at hx
  obtain ⟨H3, q1, q2, q3⟩ := markB_laid l hl 1 (by omega) kLb
  have e3 := hq.symm.trans q1
  clear hq
  subst e3
  have hc := trivial; (repeat' (simp only [hc, go_sem, Nat.reduceAdd, Nat.reduceMul, Nat.reduceSub, Nat.reduceEqDiff, Nat.reduceLT, Nat.reduceLeDiff, Int.reduceEq, Int.reduceLT, Int.reduceLE, reduceIte, aresults, aresult, hp0] at hx; (try (rw [guardL_if] at hx; split at hx <;> rename_i hc)))); all_goals (subst hx; refine ⟨_, rfl, ?_⟩)
  have g3 := q3.1
  have u0 : H3.h 0 = _ := (q3.2 0 (by omega) (.inl (by omega))).trans kh0
  have u1 : H3.h H2.g = _ := (q3.2 H2.g (by omega) (.inr (by omega))).trans kh1
  have uLz : Laid H3 H1.g H2.g [.v (.int .i64 (dmC l)), .lst false ((dmL l).map encMessage)] [.v (.int .i64 (dmC l)), z] := kLz.keep fun b h1 h2 => q3.2 b (by omega) (.inr (by omega))
  have f3 := heq H3 _ _ z uLz
  have hl1 : ¬ (1 + (l.length : Int)) < 0 := by omega
  repeat' ((fail_if_success (first | refine wAt 15 ?_)); first | ((first | refine wSeqr (fun xx hx => ?_) | refine wIf (fun xx hx => ?_) | refine wReg (fun xx hx => ?_) | (refine wRet ?_; (try simp only [thenQ, blockQ]); (try (subst hQQ; (try simp only [thenQ, blockQ]))); refine ends_by (fun xx hx => ?_))); have hc := trivial; (repeat' (simp only [hc, go_sem, Nat.reduceAdd, Nat.reduceMul, Nat.reduceSub, Nat.reduceEqDiff, Nat.reduceLT, Nat.reduceLeDiff, Int.reduceEq, Int.reduceLT, Int.reduceLE, reduceIte, aresults, aresult, hp0, s0, s3, s4, s5, u0, u1, f3, hl1, Bool.not_true] at hx; (try (rw [guardL_if] at hx; split at hx <;> rename_i hc)))); all_goals (subst hx; first | (refine ⟨_, rfl, fun ht => ?_, fun ht => ?_⟩ <;> (try simp only [Bool.not_eq_true', Bool.not_eq_false', Bool.and_eq_true, Bool.and_eq_false_iff, Bool.or_eq_true, Bool.or_eq_false_iff, decide_eq_true_eq, decide_eq_false_iff_not, beq_iff_eq, bne_iff_ne, Bool.not_true, Bool.not_false, Bool.true_eq_false, Bool.false_eq_true, ne_eq, Decidable.not_not, inB_t, inB_f] at ht)) | (refine ⟨_, rfl, ?_⟩; (try simp only [tupOf])))) | refine wSkip ?_ | (refine wExit ?_; simp only [thenQ, blockQ, reduceIte, Nat.reduceEqDiff]) | refine wSeq ?_ | refine wBlock ?_ | (subst hQQ; (try simp only [thenQ, blockQ, reduceIte, Nat.reduceEqDiff])))
  all_goals try (exfalso; (try simp only [Bool.not_eq_true', Bool.not_eq_false', Bool.and_eq_true, Bool.and_eq_false_iff, Bool.or_eq_true, Bool.or_eq_false_iff, decide_eq_true_eq, decide_eq_false_iff_not, beq_iff_eq, bne_iff_ne, Bool.not_true, Bool.not_false, Bool.true_eq_false, Bool.false_eq_true, ne_eq, Decidable.not_not, inB_t, inB_f] at *); first | omega | exact absurd trivial (by assumption))
  (first | refine wSeqr (fun xx hx => ?_) | refine wReg (fun xx hx => ?_)); have hc := trivial; (repeat' (simp only [hc, go_sem, Nat.reduceAdd, Nat.reduceMul, Nat.reduceSub, Nat.reduceEqDiff, Nat.reduceLT, Nat.reduceLeDiff, Int.reduceEq, Int.reduceLT, Int.reduceLE, reduceIte, aresults, aresult, hp0, s0, s3, s4, s5, u0, u1] at hx; (try (rw [guardL_if] at hx; split at hx <;> rename_i hc)))); generalize hq : call Try.prog cfg0 0 _ _ _ = q at hx
  obtain ⟨H4, p1, p2, p3⟩ := markMR_laid (dmC l) (dmL l) hq2 1 (by omega) uLz (by omega)
  have e4 := hq.symm.trans p1
  clear hq
  subst e4
  have hc := trivial; (repeat' (simp only [hc, go_sem, Nat.reduceAdd, Nat.reduceMul, Nat.reduceSub, Nat.reduceEqDiff, Nat.reduceLT, Nat.reduceLeDiff, Int.reduceEq, Int.reduceLT, Int.reduceLE, reduceIte, aresults, aresult, hp0] at hx; (try (rw [guardL_if] at hx; split at hx <;> rename_i hc)))); all_goals (subst hx; refine ⟨_, rfl, ?_⟩)
  have g4 := p3.1
  have v0 : H4.h 0 = _ := (p3.2 0 (by omega) (.inl (by omega))).trans u0
  have v1 : H4.h H2.g = _ := (p3.2 H2.g (by omega) (.inr (by omega))).trans u1
  have f4 := heldMR_laid (dmC l) 1 (dmL l) hq2 (by omega) p2
  repeat' ((fail_if_success (first | refine wAt 22 ?_)); first | ((first | refine wSeqr (fun xx hx => ?_) | refine wIf (fun xx hx => ?_) | refine wReg (fun xx hx => ?_) | (refine wRet ?_; (try simp only [thenQ, blockQ]); (try (subst hQQ; (try simp only [thenQ, blockQ]))); refine ends_by (fun xx hx => ?_))); have hc := trivial; (repeat' (simp only [hc, go_sem, Nat.reduceAdd, Nat.reduceMul, Nat.reduceSub, Nat.reduceEqDiff, Nat.reduceLT, Nat.reduceLeDiff, Int.reduceEq, Int.reduceLT, Int.reduceLE, reduceIte, aresults, aresult, hp0, s0, s3, s4, s5, v0, v1, f4, hnx, not_true_eq_false] at hx; (try (rw [guardL_if] at hx; split at hx <;> rename_i hc)))); all_goals (subst hx; first | (refine ⟨_, rfl, fun ht => ?_, fun ht => ?_⟩ <;> (try simp only [Bool.not_eq_true', Bool.not_eq_false', Bool.and_eq_true, Bool.and_eq_false_iff, Bool.or_eq_true, Bool.or_eq_false_iff, decide_eq_true_eq, decide_eq_false_iff_not, beq_iff_eq, bne_iff_ne, Bool.not_true, Bool.not_false, Bool.true_eq_false, Bool.false_eq_true, ne_eq, Decidable.not_not, inB_t, inB_f] at ht)) | (refine ⟨_, rfl, ?_⟩; (try simp only [tupOf])))) | refine wSkip ?_ | (refine wExit ?_; simp only [thenQ, blockQ, reduceIte, Nat.reduceEqDiff]) | refine wSeq ?_ | refine wBlock ?_ | (subst hQQ; (try simp only [thenQ, blockQ, reduceIte, Nat.reduceEqDiff])))
  all_goals try (exfalso; (try simp only [Bool.not_eq_true', Bool.not_eq_false', Bool.and_eq_true, Bool.and_eq_false_iff, Bool.or_eq_true, Bool.or_eq_false_iff, decide_eq_true_eq, decide_eq_false_iff_not, beq_iff_eq, bne_iff_ne, Bool.not_true, Bool.not_false, Bool.true_eq_false, Bool.false_eq_true, ne_eq, Decidable.not_not, inB_t, inB_f] at *); first | omega | exact absurd trivial (by assumption))
  have n1 : (0 = H4.g) = False := eq_false (by omega)
  have n2 : (H2.g = H4.g) = False := eq_false (by omega)
  have n3 : (H4.g = 0) = False := eq_false (by omega)
  have f5 : ∀ cs, call Try.prog cfg0 0 20 [.agg [.v (.int .i64 (dmC l)), z], .v (.int .i64 1)] ((H4.new cs).set H4.g [.v (.int .i64 (dmC l)), .lst false ((dmL l).map encMessage)]) = some (.v (.int .i64 (nxL 1 (dmL l))), ((H4.new cs).set H4.g [.v (.int .i64 (dmC l)), .lst false ((dmL l).map encMessage)])) := fun cs =>
    heldMR_laid (dmC l) 1 (dmL l) hq2 (by omega) (p2.keep fun b h1 h2 => by rw [Hp.set_h, Hp.new_h, if_neg (by omega), if_neg (by omega)])
  repeat' (first | ((first | refine wSeqr (fun xx hx => ?_) | refine wIf (fun xx hx => ?_) | refine wReg (fun xx hx => ?_) | (refine wRet ?_; (try simp only [thenQ, blockQ]); (try (subst hQQ; (try simp only [thenQ, blockQ]))); refine ends_by (fun xx hx => ?_))); have hc := trivial; (repeat' (simp only [hc, go_sem, Nat.reduceAdd, Nat.reduceMul, Nat.reduceSub, Nat.reduceEqDiff, Nat.reduceLT, Nat.reduceLeDiff, Int.reduceEq, Int.reduceLT, Int.reduceLE, reduceIte, aresults, aresult, hp0, s0, s3, s4, s5, v0, v1, n1, n2, n3, hto, hii, heq2, f5, hnx, not_true_eq_false, Bool.not_true] at hx; (try (rw [guardL_if] at hx; split at hx <;> rename_i hc)))); all_goals (subst hx; first | (refine ⟨_, rfl, fun ht => ?_, fun ht => ?_⟩ <;> (try simp only [Bool.not_eq_true', Bool.not_eq_false', Bool.and_eq_true, Bool.and_eq_false_iff, Bool.or_eq_true, Bool.or_eq_false_iff, decide_eq_true_eq, decide_eq_false_iff_not, beq_iff_eq, bne_iff_ne, Bool.not_true, Bool.not_false, Bool.true_eq_false, Bool.false_eq_true, ne_eq, Decidable.not_not, inB_t, inB_f] at ht)) | (refine ⟨_, rfl, ?_⟩; (try simp only [tupOf])))) | refine wSkip ?_ | (refine wExit ?_; simp only [thenQ, blockQ, reduceIte, Nat.reduceEqDiff]) | refine wSeq ?_ | refine wBlock ?_ | (subst hQQ; (try simp only [thenQ, blockQ, reduceIte, Nat.reduceEqDiff])))
  all_goals try (exfalso; (try simp only [Bool.not_eq_true', Bool.not_eq_false', Bool.and_eq_true, Bool.and_eq_false_iff, Bool.or_eq_true, Bool.or_eq_false_iff, decide_eq_true_eq, decide_eq_false_iff_not, beq_iff_eq, bne_iff_ne, Bool.not_true, Bool.not_false, Bool.true_eq_false, Bool.false_eq_true, ne_eq, Decidable.not_not, inB_t, inB_f] at *); first | omega | exact absurd trivial (by assumption))
  all_goals exact ⟨rfl, rfl⟩
theorem c_law (l : List Int) (hb : Eng.Bytes l) (hl0 : l.length ≤ 140737488351232) : ∀ H, call Try.prog cfg0 0 4 [bytesL l] H = some (.v (.bool true), H) :=
  call_fz Try.func4 rfl ok_law rfl (by simp only [fz_cons, fz_nil, go_sem, and_self]) (p_law l hb hl0)

theorem law (xs : List AV) (h : ArgsC Try.prog reach 2 [22] xs) : pure Try.prog cfg0 4 Try.f4 xs = some (.v (.bool true), true) := by
  obtain ⟨x0, r0, rfl, h0, rfl⟩ := h
  unfold ArgC at h0
  rw [agg22] at h0
  obtain ⟨a0, e0, g0, w0⟩ := shC_bytes u22 u5 byn5 h0
  simp only [List.cons.injEq, and_true] at e0
  subst e0
  have k0 : a0.length ≤ 140737488351232 := by simp only [reach] at w0; omega
  exact p_law a0 g0 k0
end
end Go.Proofs.Ytmncdkecpnoogaa.fnExactDecodeMessages
