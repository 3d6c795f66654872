/- The law FnExactAnswerQuery in the engine. -/
import Derived.Test.YtnejoidfbgklbaaDoorNF
namespace Go.Proofs.YtnejoidfbgklbaaDoor.fnExactAnswerQuery
open Go Go.RowKit Go.Proofs.YtnejoidfbgklbaaDoor.Eng
set_option linter.unusedSimpArgs false
set_option linter.unusedVariables false
set_option maxRecDepth 100000
set_option maxHeartbeats 4000000
noncomputable section
theorem ok_law : fnOk Tryd.prog cfg0 4 Tryd.f4 = true := by kernel_rfl
theorem p_law (a0 : List ClaimM) (h0' : a0.length ≤ 140737488351232 ∧ ∀ x ∈ a0, x.ok 140737488351232) (a1 : List Int) (hb1 : Eng.Bytes a1) (h1' : a1.length ≤ 140737488351232) (a2 : Int) (h2' : -9223372036854775808 ≤ a2 ∧ a2 ≤ 9223372036854775807) : pure Tryd.prog cfg0 4 Tryd.f4 [.lst false (a0.map encClaim), bytesL a1, .v (.int .i64 a2)] = some (.v (.bool true), true) := by
  refine pure_wp (rs := [.tmp 6]) rfl rfl ?_
  have hp0 : ∀ b, cfg0.pol 4 b = (if b = 31 then 1 else if b = 33 then 1 else if b = 37 then 1 else 0) := fun b => rfl
  by_cases hbig : 1048576 < (a1.length : Int)
  · repeat' (first | ((first | refine wSeqr ?_ | refine wIf ?_ | refine wReg ?_ | (refine wRet ?_; (try simp only [thenQ, blockQ]); (try (subst hQQ; (try simp only [thenQ, blockQ]))); refine ends_by ?_)); intro xx hx; have hc := trivial; (repeat' (simp only [hc, Nat.reduceBEq, go_sem, Nat.reduceAdd, Nat.reduceMul, Nat.reduceSub, Nat.reduceEqDiff, Nat.reduceLT, Nat.reduceLeDiff, Int.reduceEq, Int.reduceLT, Int.reduceLE, reduceIte, aresults, aresult, hp0, hbig] at hx; (try (rw [guardL_if] at hx; split at hx <;> rename_i hc)))); all_goals (subst hx; first | (refine ⟨_, rfl, fun ht => ?_, fun ht => ?_⟩ <;> (try simp only [bbs] at ht)) | (refine ⟨_, rfl, ?_⟩; (try simp only [tupOf])))) | refine wSkip ?_ | (refine wExit ?_; simp only [thenQ, blockQ, reduceIte, Nat.reduceEqDiff]) | refine wSeq ?_ | refine wBlock ?_ | (subst hQQ; (try simp only [thenQ, blockQ, reduceIte, Nat.reduceEqDiff])))
    all_goals try (exfalso; (try simp only [bbs] at *); first | omega | exact absurd trivial (by assumption))
    all_goals exact ⟨rfl, rfl⟩
  have o1 : a1.length ≤ 1048576 := by omega
  obtain ⟨m0, p0, q0, b0, hc0⟩ := s_lszClaimS a0 1048576 h0' ⟨by omega, by omega⟩
  by_cases hm0 : m0 < 0
  · repeat' (first | ((first | refine wSeqr ?_ | refine wIf ?_ | refine wReg ?_ | (refine wRet ?_; (try simp only [thenQ, blockQ]); (try (subst hQQ; (try simp only [thenQ, blockQ]))); refine ends_by ?_)); intro xx hx; have hc := trivial; (repeat' (simp only [hc, Nat.reduceBEq, go_sem, Nat.reduceAdd, Nat.reduceMul, Nat.reduceSub, Nat.reduceEqDiff, Nat.reduceLT, Nat.reduceLeDiff, Int.reduceEq, Int.reduceLT, Int.reduceLE, reduceIte, aresults, aresult, hp0, hbig, hc0, hm0] at hx; (try (rw [guardL_if] at hx; split at hx <;> rename_i hc)))); all_goals (subst hx; first | (refine ⟨_, rfl, fun ht => ?_, fun ht => ?_⟩ <;> (try simp only [bbs] at ht)) | (refine ⟨_, rfl, ?_⟩; (try simp only [tupOf])))) | refine wSkip ?_ | (refine wExit ?_; simp only [thenQ, blockQ, reduceIte, Nat.reduceEqDiff]) | refine wSeq ?_ | refine wBlock ?_ | (subst hQQ; (try simp only [thenQ, blockQ, reduceIte, Nat.reduceEqDiff])))
    all_goals try (exfalso; (try simp only [bbs] at *); first | omega | exact absurd trivial (by assumption))
    all_goals exact ⟨rfl, rfl⟩
  have o0 := b0 (by omega)
  have hto := c_ltoByteS a1 o1
  have htC := c_ltoClaimS a0 o0
  have hooC := o_ltoClaimS a0 o0
  have hoo := o_ltoByteS a1 o1
  have hsp := c_sAnswerQuery a0 o0.1 a1 hb1 o1 a2
  have hii := c_iAnswerQuery a0 o0.1 a1 hb1 o1 a2
  have hoi := (pq_iAnswerQuery a0 o0.1 a1 hb1 o1 a2).2
  have hlen := aqB_len a0 a1 a2
  generalize aqC a0 a1 a2 = c at *
  generalize aqB a0 a1 a2 = B at *
  have bx := by_ok B
  refine wGen (fun Q hQQ => ?_)
  repeat' ((fail_if_success (first | refine wAt 8 ?_)); first | ((first | refine wSeqr ?_ | refine wIf ?_ | refine wReg ?_ | (refine wRet ?_; (try simp only [thenQ, blockQ]); (try (subst hQQ; (try simp only [thenQ, blockQ]))); refine ends_by ?_)); intro xx hx; have hc := trivial; (repeat' (simp only [hc, Nat.reduceBEq, go_sem, Nat.reduceAdd, Nat.reduceMul, Nat.reduceSub, Nat.reduceEqDiff, Nat.reduceLT, Nat.reduceLeDiff, Int.reduceEq, Int.reduceLT, Int.reduceLE, reduceIte, aresults, aresult, hp0, hbig, hc0, hm0, hto, htC, hsp, bx.1, bx.2] at hx; (try (rw [guardL_if] at hx; split at hx <;> rename_i hc)))); all_goals (subst hx; first | (refine ⟨_, rfl, fun ht => ?_, fun ht => ?_⟩ <;> (try simp only [bbs] at ht)) | (refine ⟨_, rfl, ?_⟩; (try simp only [tupOf])))) | refine wSkip ?_ | (refine wExit ?_; simp only [thenQ, blockQ, reduceIte, Nat.reduceEqDiff]) | refine wSeq ?_ | refine wBlock ?_ | (subst hQQ; (try simp only [thenQ, blockQ, reduceIte, Nat.reduceEqDiff])))
  all_goals try (exfalso; (try simp only [bbs] at *); first | omega | exact absurd trivial (by assumption))
  (first | refine wSeqr ?_ | refine wReg ?_); intro xx hx; have hc := trivial; (repeat' (simp only [hc, Nat.reduceBEq, go_sem, Nat.reduceAdd, Nat.reduceMul, Nat.reduceSub, Nat.reduceEqDiff, Nat.reduceLT, Nat.reduceLeDiff, Int.reduceEq, Int.reduceLT, Int.reduceLE, reduceIte, aresults, aresult, hp0, hooC] at hx; (try (rw [guardL_if] at hx; split at hx <;> rename_i hc)))); generalize hq : mat depthD _ _ = q at hx
  obtain ⟨xc, H1, rfl, hx1, hLc⟩ := mat_oneQ hq (gC 8 a0) (by omega)
  clear hq
  have hc := trivial; (repeat' (simp only [hc, Nat.reduceBEq, go_sem, Nat.reduceAdd, Nat.reduceMul, Nat.reduceSub, Nat.reduceEqDiff, Nat.reduceLT, Nat.reduceLeDiff, Int.reduceEq, Int.reduceLT, Int.reduceLE, reduceIte, aresults, aresult, hp0] at hx; (try (rw [guardL_if] at hx; split at hx <;> rename_i hc)))); all_goals (subst hx; refine ⟨_, rfl, ?_⟩)
  have g1 : 1 ≤ H1.g := hx1.1
  have r01 : H1.h 0 = some [.v (.int .i64 c), bytesL B] := (hx1.2 0 (by show 0 < 1; omega)).trans rfl
  have hLc1 : Laid H1 1 H1.g [.lst false (a0.map encClaim)] [xc] := hLc
  repeat' ((fail_if_success (first | refine wAt 9 ?_)); first | ((first | refine wSeqr ?_ | refine wIf ?_ | refine wReg ?_ | (refine wRet ?_; (try simp only [thenQ, blockQ]); (try (subst hQQ; (try simp only [thenQ, blockQ]))); refine ends_by ?_)); intro xx hx; have hc := trivial; (repeat' (simp only [hc, Nat.reduceBEq, go_sem, Nat.reduceAdd, Nat.reduceMul, Nat.reduceSub, Nat.reduceEqDiff, Nat.reduceLT, Nat.reduceLeDiff, Int.reduceEq, Int.reduceLT, Int.reduceLE, reduceIte, aresults, aresult, hp0] at hx; (try (rw [guardL_if] at hx; split at hx <;> rename_i hc)))); all_goals (subst hx; first | (refine ⟨_, rfl, fun ht => ?_, fun ht => ?_⟩ <;> (try simp only [bbs] at ht)) | (refine ⟨_, rfl, ?_⟩; (try simp only [tupOf])))) | refine wSkip ?_ | (refine wExit ?_; simp only [thenQ, blockQ, reduceIte, Nat.reduceEqDiff]) | refine wSeq ?_ | refine wBlock ?_ | (subst hQQ; (try simp only [thenQ, blockQ, reduceIte, Nat.reduceEqDiff])))
  (first | refine wSeqr ?_ | refine wReg ?_); intro xx hx; have hc := trivial; (repeat' (simp only [hc, Nat.reduceBEq, go_sem, Nat.reduceAdd, Nat.reduceMul, Nat.reduceSub, Nat.reduceEqDiff, Nat.reduceLT, Nat.reduceLeDiff, Int.reduceEq, Int.reduceLT, Int.reduceLE, reduceIte, aresults, aresult, hp0, hoo] at hx; (try (rw [guardL_if] at hx; split at hx <;> rename_i hc)))); generalize hq : mat depthD _ _ = q at hx
  obtain ⟨xb, H2, rfl, hx2, hLb⟩ := mat_oneQ hq (MatG.bytes 8 a1) (by omega)
  clear hq
  have hc := trivial; (repeat' (simp only [hc, Nat.reduceBEq, go_sem, Nat.reduceAdd, Nat.reduceMul, Nat.reduceSub, Nat.reduceEqDiff, Nat.reduceLT, Nat.reduceLeDiff, Int.reduceEq, Int.reduceLT, Int.reduceLE, reduceIte, aresults, aresult, hp0] at hx; (try (rw [guardL_if] at hx; split at hx <;> rename_i hc)))); all_goals (subst hx; refine ⟨_, rfl, ?_⟩)
  have g2 : H1.g ≤ H2.g := hx2.1
  have r0 : H2.h 0 = some [.v (.int .i64 c), bytesL B] := (hx2.2 0 (by omega)).trans r01
  have hLc2 : Laid H2 1 H1.g [.lst false (a0.map encClaim)] [xc] := hLc1.keep fun b h1 h2 => hx2.2 b h2
  repeat' ((fail_if_success (first | refine wAt 10 ?_)); first | ((first | refine wSeqr ?_ | refine wIf ?_ | refine wReg ?_ | (refine wRet ?_; (try simp only [thenQ, blockQ]); (try (subst hQQ; (try simp only [thenQ, blockQ]))); refine ends_by ?_)); intro xx hx; have hc := trivial; (repeat' (simp only [hc, Nat.reduceBEq, go_sem, Nat.reduceAdd, Nat.reduceMul, Nat.reduceSub, Nat.reduceEqDiff, Nat.reduceLT, Nat.reduceLeDiff, Int.reduceEq, Int.reduceLT, Int.reduceLE, reduceIte, aresults, aresult, hp0] at hx; (try (rw [guardL_if] at hx; split at hx <;> rename_i hc)))); all_goals (subst hx; first | (refine ⟨_, rfl, fun ht => ?_, fun ht => ?_⟩ <;> (try simp only [bbs] at ht)) | (refine ⟨_, rfl, ?_⟩; (try simp only [tupOf])))) | refine wSkip ?_ | (refine wExit ?_; simp only [thenQ, blockQ, reduceIte, Nat.reduceEqDiff]) | refine wSeq ?_ | refine wBlock ?_ | (subst hQQ; (try simp only [thenQ, blockQ, reduceIte, Nat.reduceEqDiff])))
  (first | refine wSeqr ?_ | refine wReg ?_); intro xx hx; have hc := trivial; (repeat' (simp only [hc, Nat.reduceBEq, go_sem, Nat.reduceAdd, Nat.reduceMul, Nat.reduceSub, Nat.reduceEqDiff, Nat.reduceLT, Nat.reduceLeDiff, Int.reduceEq, Int.reduceLT, Int.reduceLE, reduceIte, aresults, aresult, hp0] at hx; (try (rw [guardL_if] at hx; split at hx <;> rename_i hc)))); generalize hq : call Tryd.prog cfg0 1 _ _ _ = q at hx
  have e1 := hq.symm.trans (call_ofO Tryd.func16 rfl ok_iAnswerQuery rfl (mapM_c (deep_one hLc2 (gC 8 a0) (by omega)) (mapM_c (deep_one hLb (MatG.bytes 8 a1) (by omega)) (mapM_c rfl mapM_n))) hoi)
  clear hq
  have eC := p_leqClaimS a0 o0
  have eB := p_leqByteS a1 a1 o1
  rw [decide_eq_true rfl] at eB
  have heq := c_leqBytesResult c B c B (by omega)
  rw [decide_eq_true rfl, decide_eq_true rfl, Bool.and_self] at heq
  have hk1 : (0 : Int) ≤ 1 ∧ (1 : Int) ≤ 4611686018427387904 := by omega
  have hn0 : ¬ (1 + (B.length : Int)) < 0 := by omega
  by_cases hne : B = []
  · subst hne
    rw [mat_res0] at e1
    subst e1
    have n0 : (0 = H2.g) = False := eq_false (by omega)
    have n0b : (0 = H2.g + 1) = False := eq_false (by omega)
    have n1 : (H2.g = H2.g + 1) = False := eq_false (by omega)
    have n2 : (H2.g = 0) = False := eq_false (by omega)
    have n3 : (H2.g + 1 = 0) = False := eq_false (by omega)
    have n4 : (H2.g + 1 = H2.g) = False := eq_false (by omega)
    have hc := trivial; (repeat' (simp only [hc, Nat.reduceBEq, go_sem, Nat.reduceAdd, Nat.reduceMul, Nat.reduceSub, Nat.reduceEqDiff, Nat.reduceLT, Nat.reduceLeDiff, Int.reduceEq, Int.reduceLT, Int.reduceLE, reduceIte, aresults, aresult, hp0, n0, n0b, n1] at hx; (try (rw [guardL_if] at hx; split at hx <;> rename_i hc)))); all_goals (subst hx; refine ⟨_, rfl, ?_⟩)
    repeat' ((fail_if_success (first | refine wAt 11 ?_)); first | ((first | refine wSeqr ?_ | refine wIf ?_ | refine wReg ?_ | (refine wRet ?_; (try simp only [thenQ, blockQ]); (try (subst hQQ; (try simp only [thenQ, blockQ]))); refine ends_by ?_)); intro xx hx; have hc := trivial; (repeat' (simp only [hc, Nat.reduceBEq, go_sem, Nat.reduceAdd, Nat.reduceMul, Nat.reduceSub, Nat.reduceEqDiff, Nat.reduceLT, Nat.reduceLeDiff, Int.reduceEq, Int.reduceLT, Int.reduceLE, reduceIte, aresults, aresult, hp0, n0, n0b, n1] at hx; (try (rw [guardL_if] at hx; split at hx <;> rename_i hc)))); all_goals (subst hx; first | (refine ⟨_, rfl, fun ht => ?_, fun ht => ?_⟩ <;> (try simp only [bbs] at ht)) | (refine ⟨_, rfl, ?_⟩; (try simp only [tupOf])))) | refine wSkip ?_ | (refine wExit ?_; simp only [thenQ, blockQ, reduceIte, Nat.reduceEqDiff]) | refine wSeq ?_ | refine wBlock ?_ | (subst hQQ; (try simp only [thenQ, blockQ, reduceIte, Nat.reduceEqDiff])))
    refine wSt (fun e2 K => (e2 0 = .lst false (a0.map encClaim) ∧ e2 1 = bytesL a1 ∧ e2 2 = .v (.int .i64 a2) ∧ e2 8 = .ptr 0 0 ∧ e2 9 = xc ∧ e2 10 = xb ∧ e2 11 = .ptr H2.g 0) ∧ K.g = H2.g + 1 ∧ K.h 0 = some [.v (.int .i64 c), bytesL []] ∧ K.h H2.g = some [.v (.int .i64 c), .lst false []] ∧ Laid K 1 H1.g [.lst false (a0.map encClaim)] [xc] ∧ Laid K H1.g H2.g [bytesL a1] [xb])
      ⟨⟨by first | rfl | (simp only [upd_eq, Nat.reduceEqDiff, if_false, if_true]), by first | rfl | (simp only [upd_eq, Nat.reduceEqDiff, if_false, if_true]), by first | rfl | (simp only [upd_eq, Nat.reduceEqDiff, if_false, if_true]), by first | rfl | (simp only [upd_eq, Nat.reduceEqDiff, if_false, if_true]), by first | rfl | (simp only [upd_eq, Nat.reduceEqDiff, if_false, if_true]), by first | rfl | (simp only [upd_eq, Nat.reduceEqDiff, if_false, if_true]), by first | rfl | (simp only [upd_eq, Nat.reduceEqDiff, if_false, if_true])⟩, by first | rfl | (simp only [Hp.set_g, Hp.new_g]), (by simp only [Hp.set_h, Hp.new_h, Hp.new_g, n0, n0b, n1, if_false]; exact r0), (by simp only [Hp.set_h, Hp.new_h, Hp.new_g, if_true]), hLc2.keep fun b h1 h2 => (by have e1 : (b = H2.g) = False := eq_false (by omega); have e2 : (b = H2.g + 1) = False := eq_false (by omega); simp only [Hp.set_h, Hp.new_h, Hp.new_g, e1, e2, if_false]), hLb.keep fun b h1 h2 => (by have e1 : (b = H2.g) = False := eq_false (by omega); have e2 : (b = H2.g + 1) = False := eq_false (by omega); simp only [Hp.set_h, Hp.new_h, Hp.new_g, e1, e2, if_false])⟩ (fun e K hR => ?_)
    obtain ⟨⟨s0, s1, s2, s8, s9, s10, s11⟩, kg, kh0, kt, kLc, kLb⟩ := hR
    have kh0' : K.h 0 = some [.v (.int .i64 c), .lst false []] := kh0
    have heq' : ∀ H, call Tryd.prog cfg0 0 17 [.agg [.v (.int .i64 c), .lst false []], .agg [.v (.int .i64 c), .lst false []]] H = some (.v (.bool true), H) := heq
    have f2 : call Tryd.prog cfg0 0 18 [xc, .lst false (a0.map encClaim)] K = some (.v (.bool true), K) := call_of (p := 0) (H := K) Tryd.func18 rfl ok_leqClaimS rfl (by omega) (mapM_c (deep_one kLc (gC 8 a0) (by omega)) (mapM_c ((fz_rows (n := 11) (fun k => fzE_Claim 10 k) a0).1 K) mapM_n)) eC (.inl rfl)
    have f3 : call Tryd.prog cfg0 0 9 [xb, bytesL a1] K = some (.v (.bool true), K) := call_of (p := 0) (H := K) Tryd.func9 rfl ok_leqByteS rfl (by omega) (mapM_c (deep_one kLb (MatG.bytes 8 a1) (by omega)) (mapM_c ((bytesL_fz 10 a1).1 K) mapM_n)) eB (.inl rfl)
    repeat' ((fail_if_success (first | refine wAt 18 ?_)); first | ((first | refine wSeqr ?_ | refine wIf ?_ | refine wReg ?_ | (refine wRet ?_; (try simp only [thenQ, blockQ]); (try (subst hQQ; (try simp only [thenQ, blockQ]))); refine ends_by ?_)); intro xx hx; have hc := trivial; (repeat' (simp only [hc, Nat.reduceBEq, go_sem, Nat.reduceAdd, Nat.reduceMul, Nat.reduceSub, Nat.reduceEqDiff, Nat.reduceLT, Nat.reduceLeDiff, Int.reduceEq, Int.reduceLT, Int.reduceLE, reduceIte, aresults, aresult, hp0, s0, s1, s2, s8, s9, s10, s11, kh0', kt, heq', f2, f3, hto, htC, Bool.not_true] at hx; (try (rw [guardL_if] at hx; split at hx <;> rename_i hc)))); all_goals (subst hx; first | (refine ⟨_, rfl, fun ht => ?_, fun ht => ?_⟩ <;> (try simp only [bbs] at ht)) | (refine ⟨_, rfl, ?_⟩; (try simp only [tupOf])))) | refine wSkip ?_ | (refine wExit ?_; simp only [thenQ, blockQ, reduceIte, Nat.reduceEqDiff]) | refine wSeq ?_ | refine wBlock ?_ | (subst hQQ; (try simp only [thenQ, blockQ, reduceIte, Nat.reduceEqDiff])))
    all_goals try (exfalso; (try simp only [bbs] at *); first | omega | exact absurd trivial (by assumption))
    (first | refine wSeqr ?_ | refine wReg ?_); intro xx hx; have hc := trivial; (repeat' (simp only [hc, Nat.reduceBEq, go_sem, Nat.reduceAdd, Nat.reduceMul, Nat.reduceSub, Nat.reduceEqDiff, Nat.reduceLT, Nat.reduceLeDiff, Int.reduceEq, Int.reduceLT, Int.reduceLE, reduceIte, aresults, aresult, hp0, s0, s1, s2, s8, s9, s10, s11] at hx; (try (rw [guardL_if] at hx; split at hx <;> rename_i hc)))); generalize hq : call Tryd.prog cfg0 0 19 _ _ = q at hx
    obtain ⟨w1, H4, rfl, b1, b2, q3⟩ := m_ClaimS a0 o0 (q := 1) (by omega) hq kLc (by omega)
    clear hq
    have hc := trivial; (repeat' (simp only [hc, Nat.reduceBEq, go_sem, Nat.reduceAdd, Nat.reduceMul, Nat.reduceSub, Nat.reduceEqDiff, Nat.reduceLT, Nat.reduceLeDiff, Int.reduceEq, Int.reduceLT, Int.reduceLE, reduceIte, aresults, aresult, hp0] at hx; (try (rw [guardL_if] at hx; split at hx <;> rename_i hc)))); all_goals (subst hx; refine ⟨_, rfl, ?_⟩)
    repeat' ((fail_if_success (first | refine wAt 19 ?_)); first | ((first | refine wSeqr ?_ | refine wIf ?_ | refine wReg ?_ | (refine wRet ?_; (try simp only [thenQ, blockQ]); (try (subst hQQ; (try simp only [thenQ, blockQ]))); refine ends_by ?_)); intro xx hx; have hc := trivial; (repeat' (simp only [hc, Nat.reduceBEq, go_sem, Nat.reduceAdd, Nat.reduceMul, Nat.reduceSub, Nat.reduceEqDiff, Nat.reduceLT, Nat.reduceLeDiff, Int.reduceEq, Int.reduceLT, Int.reduceLE, reduceIte, aresults, aresult, hp0, s10] at hx; (try (rw [guardL_if] at hx; split at hx <;> rename_i hc)))); all_goals (subst hx; first | (refine ⟨_, rfl, fun ht => ?_, fun ht => ?_⟩ <;> (try simp only [bbs] at ht)) | (refine ⟨_, rfl, ?_⟩; (try simp only [tupOf])))) | refine wSkip ?_ | (refine wExit ?_; simp only [thenQ, blockQ, reduceIte, Nat.reduceEqDiff]) | refine wSeq ?_ | refine wBlock ?_ | (subst hQQ; (try simp only [thenQ, blockQ, reduceIte, Nat.reduceEqDiff])))
    have q3g := q3.1
    have kLb4 : Laid H4 H1.g H2.g [bytesL a1] [xb] := kLb.keep fun b h1 h2 => q3.2 b (by omega) (.inr (by omega))
    (first | refine wSeqr ?_ | refine wReg ?_); intro xx hx; have hc := trivial; (repeat' (simp only [hc, Nat.reduceBEq, go_sem, Nat.reduceAdd, Nat.reduceMul, Nat.reduceSub, Nat.reduceEqDiff, Nat.reduceLT, Nat.reduceLeDiff, Int.reduceEq, Int.reduceLT, Int.reduceLE, reduceIte, aresults, aresult, hp0, s0, s1, s2, s8, s9, s10, s11] at hx; (try (rw [guardL_if] at hx; split at hx <;> rename_i hc)))); generalize hq : call Tryd.prog cfg0 0 10 _ _ = q at hx
    have o01 := o0.1
    obtain ⟨w2, H5, rfl, b3, b4, q5⟩ := m_ByteS a1 o1 (q := w1) (by omega) hq kLb4 (by omega)
    clear hq
    have hc := trivial; (repeat' (simp only [hc, Nat.reduceBEq, go_sem, Nat.reduceAdd, Nat.reduceMul, Nat.reduceSub, Nat.reduceEqDiff, Nat.reduceLT, Nat.reduceLeDiff, Int.reduceEq, Int.reduceLT, Int.reduceLE, reduceIte, aresults, aresult, hp0] at hx; (try (rw [guardL_if] at hx; split at hx <;> rename_i hc)))); all_goals (subst hx; refine ⟨_, rfl, ?_⟩)
    have q5g := q5.1
    have u0 : H5.h 0 = _ := (q5.2 0 (by omega) (.inl (by omega))).trans ((q3.2 0 (by omega) (.inl (by omega))).trans kh0)
    have ut : H5.h H2.g = _ := (q5.2 H2.g (by omega) (.inr (by omega))).trans ((q3.2 H2.g (by omega) (.inr (by omega))).trans kt)
    have hw2 : ¬ w2 < 0 := by omega
    have z1 : (0 = H5.g) = False := eq_false (by omega)
    have z2 : (H5.g = 0) = False := eq_false (by omega)
    have z3 : (H2.g = H5.g) = False := eq_false (by omega)
    have z4 : (H5.g = H2.g) = False := eq_false (by omega)
    have z7 : (0 = H5.g + 1) = False := eq_false (by omega)
    have z8 : (H2.g = H5.g + 1) = False := eq_false (by omega)
    have za : (H5.g = H5.g + 1) = False := eq_false (by omega)
    have zb : (H5.g + 1 = H5.g) = False := eq_false (by omega)
    have hq2 := c_lheldBytesResult c 1 0 (by omega) (by omega)
    have hq2' : ∀ H, call Tryd.prog cfg0 0 21 [.agg [.v (.int .i64 c), .lst false []], .v (.int .i64 1)] H = some (.v (.int .i64 1), H) := hq2
    have hii' : ∀ H, call Tryd.prog cfg0 0 16 [.lst false (a0.map encClaim), bytesL a1, .v (.int .i64 a2)] H = some (.agg [.v (.int .i64 c), .lst false []], H) := hii
    have u0' : H5.h 0 = some [.v (.int .i64 c), .lst false []] := u0
    repeat' (first | ((first | refine wSeqr ?_ | refine wIf ?_ | refine wReg ?_ | (refine wRet ?_; (try simp only [thenQ, blockQ]); (try (subst hQQ; (try simp only [thenQ, blockQ]))); refine ends_by ?_)); intro xx hx; have hc := trivial; (repeat' (simp only [hc, Nat.reduceBEq, go_sem, Nat.reduceAdd, Nat.reduceMul, Nat.reduceSub, Nat.reduceEqDiff, Nat.reduceLT, Nat.reduceLeDiff, Int.reduceEq, Int.reduceLT, Int.reduceLE, reduceIte, aresults, aresult, hp0, s0, s1, s2, s8, s9, s10, s11, u0', ut, hw2, heq', hq2', hii', hto, htC, cr_markBR0, z1, z2, z3, z4, z7, z8, za, zb, n0, n1, n2, not_true_eq_false, Bool.not_true] at hx; (try (rw [guardL_if] at hx; split at hx <;> rename_i hc)))); all_goals (subst hx; first | (refine ⟨_, rfl, fun ht => ?_, fun ht => ?_⟩ <;> (try simp only [bbs] at ht)) | (refine ⟨_, rfl, ?_⟩; (try simp only [tupOf])))) | refine wSkip ?_ | (refine wExit ?_; simp only [thenQ, blockQ, reduceIte, Nat.reduceEqDiff]) | refine wSeq ?_ | refine wBlock ?_ | (subst hQQ; (try simp only [thenQ, blockQ, reduceIte, Nat.reduceEqDiff])))
    all_goals try (exfalso; (try simp only [bbs] at *); first | omega | exact absurd trivial (by assumption))
    all_goals exact ⟨rfl, rfl⟩
  · rw [mat_res c B hne] at e1
    subst e1
    have n0 : (0 = H2.g) = False := eq_false (by omega)
    have n0b : (0 = H2.g + 1) = False := eq_false (by omega)
    have n1 : (H2.g = H2.g + 1) = False := eq_false (by omega)
    have n2 : (H2.g = 0) = False := eq_false (by omega)
    have n3 : (H2.g + 1 = 0) = False := eq_false (by omega)
    have n4 : (H2.g + 1 = H2.g) = False := eq_false (by omega)
    have hc := trivial; (repeat' (simp only [hc, Nat.reduceBEq, go_sem, Nat.reduceAdd, Nat.reduceMul, Nat.reduceSub, Nat.reduceEqDiff, Nat.reduceLT, Nat.reduceLeDiff, Int.reduceEq, Int.reduceLT, Int.reduceLE, reduceIte, aresults, aresult, hp0, n0, n0b, n1] at hx; (try (rw [guardL_if] at hx; split at hx <;> rename_i hc)))); all_goals (subst hx; refine ⟨_, rfl, ?_⟩)
    repeat' ((fail_if_success (first | refine wAt 11 ?_)); first | ((first | refine wSeqr ?_ | refine wIf ?_ | refine wReg ?_ | (refine wRet ?_; (try simp only [thenQ, blockQ]); (try (subst hQQ; (try simp only [thenQ, blockQ]))); refine ends_by ?_)); intro xx hx; have hc := trivial; (repeat' (simp only [hc, Nat.reduceBEq, go_sem, Nat.reduceAdd, Nat.reduceMul, Nat.reduceSub, Nat.reduceEqDiff, Nat.reduceLT, Nat.reduceLeDiff, Int.reduceEq, Int.reduceLT, Int.reduceLE, reduceIte, aresults, aresult, hp0, n0, n0b, n1] at hx; (try (rw [guardL_if] at hx; split at hx <;> rename_i hc)))); all_goals (subst hx; first | (refine ⟨_, rfl, fun ht => ?_, fun ht => ?_⟩ <;> (try simp only [bbs] at ht)) | (refine ⟨_, rfl, ?_⟩; (try simp only [tupOf])))) | refine wSkip ?_ | (refine wExit ?_; simp only [thenQ, blockQ, reduceIte, Nat.reduceEqDiff]) | refine wSeq ?_ | refine wBlock ?_ | (subst hQQ; (try simp only [thenQ, blockQ, reduceIte, Nat.reduceEqDiff])))
    refine wSt (fun e2 K => (e2 0 = .lst false (a0.map encClaim) ∧ e2 1 = bytesL a1 ∧ e2 2 = .v (.int .i64 a2) ∧ e2 8 = .ptr 0 0 ∧ e2 9 = xc ∧ e2 10 = xb ∧ e2 11 = .ptr (H2.g + 1) 0) ∧ K.g = H2.g + 2 ∧ K.h 0 = some [.v (.int .i64 c), bytesL B] ∧ K.h (H2.g + 1) = some [.v (.int .i64 c), .sl H2.g 1 0 B.length] ∧ K.h H2.g = some (B.map cell) ∧ Laid K 1 H1.g [.lst false (a0.map encClaim)] [xc] ∧ Laid K H1.g H2.g [bytesL a1] [xb])
      ⟨⟨by first | rfl | (simp only [upd_eq, Nat.reduceEqDiff, if_false, if_true]), by first | rfl | (simp only [upd_eq, Nat.reduceEqDiff, if_false, if_true]), by first | rfl | (simp only [upd_eq, Nat.reduceEqDiff, if_false, if_true]), by first | rfl | (simp only [upd_eq, Nat.reduceEqDiff, if_false, if_true]), by first | rfl | (simp only [upd_eq, Nat.reduceEqDiff, if_false, if_true]), by first | rfl | (simp only [upd_eq, Nat.reduceEqDiff, if_false, if_true]), by first | rfl | (simp only [upd_eq, Nat.reduceEqDiff, if_false, if_true])⟩, by first | rfl | (simp only [Hp.set_g, Hp.new_g]), (by simp only [Hp.set_h, Hp.new_h, Hp.new_g, n0, n0b, n1, if_false]; exact r0), (by simp only [Hp.set_h, Hp.new_h, Hp.new_g, if_true]), by simp only [Hp.set_h, Hp.new_h, Hp.new_g, n0, n0b, n1, n4, if_false, if_true], hLc2.keep fun b h1 h2 => (by have e1 : (b = H2.g) = False := eq_false (by omega); have e2 : (b = H2.g + 1) = False := eq_false (by omega); simp only [Hp.set_h, Hp.new_h, Hp.new_g, e1, e2, if_false]), hLb.keep fun b h1 h2 => (by have e1 : (b = H2.g) = False := eq_false (by omega); have e2 : (b = H2.g + 1) = False := eq_false (by omega); simp only [Hp.set_h, Hp.new_h, Hp.new_g, e1, e2, if_false])⟩ (fun e K hR => ?_)
    obtain ⟨⟨s0, s1, s2, s8, s9, s10, s11⟩, kg, kh0, kt, kp, kLc, kLb⟩ := hR
    have f2 : call Tryd.prog cfg0 0 18 [xc, .lst false (a0.map encClaim)] K = some (.v (.bool true), K) := call_of (p := 0) (H := K) Tryd.func18 rfl ok_leqClaimS rfl (by omega) (mapM_c (deep_one kLc (gC 8 a0) (by omega)) (mapM_c ((fz_rows (n := 11) (fun k => fzE_Claim 10 k) a0).1 K) mapM_n)) eC (.inl rfl)
    have f3 : call Tryd.prog cfg0 0 9 [xb, bytesL a1] K = some (.v (.bool true), K) := call_of (p := 0) (H := K) Tryd.func9 rfl ok_leqByteS rfl (by omega) (mapM_c (deep_one kLb (MatG.bytes 8 a1) (by omega)) (mapM_c ((bytesL_fz 10 a1).1 K) mapM_n)) eB (.inl rfl)
    have hce := cq_eqBR c B c B (by omega)
    repeat' ((fail_if_success (first | refine wAt 18 ?_)); first | ((first | refine wSeqr ?_ | refine wIf ?_ | refine wReg ?_ | (refine wRet ?_; (try simp only [thenQ, blockQ]); (try (subst hQQ; (try simp only [thenQ, blockQ]))); refine ends_by ?_)); intro xx hx; have hc := trivial; (repeat' (simp only [hc, Nat.reduceBEq, go_sem, Nat.reduceAdd, Nat.reduceMul, Nat.reduceSub, Nat.reduceEqDiff, Nat.reduceLT, Nat.reduceLeDiff, Int.reduceEq, Int.reduceLT, Int.reduceLE, reduceIte, aresults, aresult, hp0, s0, s1, s2, s8, s9, s10, s11, kh0, kt, hce, kp, decide_true, Bool.and_self, f2, f3, hto, htC, Bool.not_true] at hx; (try (rw [guardL_if] at hx; split at hx <;> rename_i hc)))); all_goals (subst hx; first | (refine ⟨_, rfl, fun ht => ?_, fun ht => ?_⟩ <;> (try simp only [bbs] at ht)) | (refine ⟨_, rfl, ?_⟩; (try simp only [tupOf])))) | refine wSkip ?_ | (refine wExit ?_; simp only [thenQ, blockQ, reduceIte, Nat.reduceEqDiff]) | refine wSeq ?_ | refine wBlock ?_ | (subst hQQ; (try simp only [thenQ, blockQ, reduceIte, Nat.reduceEqDiff])))
    all_goals try (exfalso; (try simp only [bbs] at *); first | omega | exact absurd trivial (by assumption))
    (first | refine wSeqr ?_ | refine wReg ?_); intro xx hx; have hc := trivial; (repeat' (simp only [hc, Nat.reduceBEq, go_sem, Nat.reduceAdd, Nat.reduceMul, Nat.reduceSub, Nat.reduceEqDiff, Nat.reduceLT, Nat.reduceLeDiff, Int.reduceEq, Int.reduceLT, Int.reduceLE, reduceIte, aresults, aresult, hp0, s0, s1, s2, s8, s9, s10, s11] at hx; (try (rw [guardL_if] at hx; split at hx <;> rename_i hc)))); generalize hq : call Tryd.prog cfg0 0 19 _ _ = q at hx
    obtain ⟨w1, H4, rfl, b1, b2, q3⟩ := m_ClaimS a0 o0 (q := 1) (by omega) hq kLc (by omega)
    clear hq
    have hc := trivial; (repeat' (simp only [hc, Nat.reduceBEq, go_sem, Nat.reduceAdd, Nat.reduceMul, Nat.reduceSub, Nat.reduceEqDiff, Nat.reduceLT, Nat.reduceLeDiff, Int.reduceEq, Int.reduceLT, Int.reduceLE, reduceIte, aresults, aresult, hp0] at hx; (try (rw [guardL_if] at hx; split at hx <;> rename_i hc)))); all_goals (subst hx; refine ⟨_, rfl, ?_⟩)
    repeat' ((fail_if_success (first | refine wAt 19 ?_)); first | ((first | refine wSeqr ?_ | refine wIf ?_ | refine wReg ?_ | (refine wRet ?_; (try simp only [thenQ, blockQ]); (try (subst hQQ; (try simp only [thenQ, blockQ]))); refine ends_by ?_)); intro xx hx; have hc := trivial; (repeat' (simp only [hc, Nat.reduceBEq, go_sem, Nat.reduceAdd, Nat.reduceMul, Nat.reduceSub, Nat.reduceEqDiff, Nat.reduceLT, Nat.reduceLeDiff, Int.reduceEq, Int.reduceLT, Int.reduceLE, reduceIte, aresults, aresult, hp0, s10] at hx; (try (rw [guardL_if] at hx; split at hx <;> rename_i hc)))); all_goals (subst hx; first | (refine ⟨_, rfl, fun ht => ?_, fun ht => ?_⟩ <;> (try simp only [bbs] at ht)) | (refine ⟨_, rfl, ?_⟩; (try simp only [tupOf])))) | refine wSkip ?_ | (refine wExit ?_; simp only [thenQ, blockQ, reduceIte, Nat.reduceEqDiff]) | refine wSeq ?_ | refine wBlock ?_ | (subst hQQ; (try simp only [thenQ, blockQ, reduceIte, Nat.reduceEqDiff])))
    have q3g := q3.1
    have kLb4 : Laid H4 H1.g H2.g [bytesL a1] [xb] := kLb.keep fun b h1 h2 => q3.2 b (by omega) (.inr (by omega))
    (first | refine wSeqr ?_ | refine wReg ?_); intro xx hx; have hc := trivial; (repeat' (simp only [hc, Nat.reduceBEq, go_sem, Nat.reduceAdd, Nat.reduceMul, Nat.reduceSub, Nat.reduceEqDiff, Nat.reduceLT, Nat.reduceLeDiff, Int.reduceEq, Int.reduceLT, Int.reduceLE, reduceIte, aresults, aresult, hp0, s0, s1, s2, s8, s9, s10, s11] at hx; (try (rw [guardL_if] at hx; split at hx <;> rename_i hc)))); generalize hq : call Tryd.prog cfg0 0 10 _ _ = q at hx
    have o01 := o0.1
    obtain ⟨w2, H5, rfl, b3, b4, q5⟩ := m_ByteS a1 o1 (q := w1) (by omega) hq kLb4 (by omega)
    clear hq
    have hc := trivial; (repeat' (simp only [hc, Nat.reduceBEq, go_sem, Nat.reduceAdd, Nat.reduceMul, Nat.reduceSub, Nat.reduceEqDiff, Nat.reduceLT, Nat.reduceLeDiff, Int.reduceEq, Int.reduceLT, Int.reduceLE, reduceIte, aresults, aresult, hp0] at hx; (try (rw [guardL_if] at hx; split at hx <;> rename_i hc)))); all_goals (subst hx; refine ⟨_, rfl, ?_⟩)
    have q5g := q5.1
    have u0 : H5.h 0 = _ := (q5.2 0 (by omega) (.inl (by omega))).trans ((q3.2 0 (by omega) (.inl (by omega))).trans kh0)
    have ut : H5.h (H2.g + 1) = _ := (q5.2 (H2.g + 1) (by omega) (.inr (by omega))).trans ((q3.2 (H2.g + 1) (by omega) (.inr (by omega))).trans kt)
    have up : H5.h H2.g = _ := (q5.2 H2.g (by omega) (.inr (by omega))).trans ((q3.2 H2.g (by omega) (.inr (by omega))).trans kp)
    have hw2 : ¬ w2 < 0 := by omega
    have z1 : (0 = H5.g) = False := eq_false (by omega)
    have z2 : (H5.g = 0) = False := eq_false (by omega)
    have z3 : (H2.g = H5.g) = False := eq_false (by omega)
    have z4 : (H5.g = H2.g) = False := eq_false (by omega)
    have z5 : (H2.g + 1 = H5.g) = False := eq_false (by omega)
    have z6 : (H5.g = H2.g + 1) = False := eq_false (by omega)
    have z7 : (0 = H5.g + 1) = False := eq_false (by omega)
    have z8 : (H2.g = H5.g + 1) = False := eq_false (by omega)
    have z9 : (H2.g + 1 = H5.g + 1) = False := eq_false (by omega)
    have za : (H5.g = H5.g + 1) = False := eq_false (by omega)
    have zb : (H5.g + 1 = H5.g) = False := eq_false (by omega)
    repeat' (first | ((first | refine wSeqr ?_ | refine wIf ?_ | refine wReg ?_ | (refine wRet ?_; (try simp only [thenQ, blockQ]); (try (subst hQQ; (try simp only [thenQ, blockQ]))); refine ends_by ?_)); intro xx hx; have hc := trivial; (repeat' (simp only [hc, Nat.reduceBEq, go_sem, Nat.reduceAdd, Nat.reduceMul, Nat.reduceSub, Nat.reduceEqDiff, Nat.reduceLT, Nat.reduceLeDiff, Int.reduceEq, Int.reduceLT, Int.reduceLE, reduceIte, aresults, aresult, hp0, s0, s1, s2, s8, s9, s10, s11, u0, ut, up, hw2, hce, heq, hii, hto, htC, decide_true, Bool.and_self, cr_markBR c 1 B (by omega) hk1, cq_heldBR c 1 B.length (by omega) hk1, hn0, bx.1, bx.2, z1, z2, z3, z4, z5, z6, z7, z8, z9, za, zb, n0, n0b, n1, n2, n3, n4, not_true_eq_false, Bool.not_true, ne_eq, not_false_eq_true, and_self] at hx; (try (rw [guardL_if] at hx; split at hx <;> rename_i hc)))); all_goals (subst hx; first | (refine ⟨_, rfl, fun ht => ?_, fun ht => ?_⟩ <;> (try simp only [bbs] at ht)) | (refine ⟨_, rfl, ?_⟩; (try simp only [tupOf])))) | refine wSkip ?_ | (refine wExit ?_; simp only [thenQ, blockQ, reduceIte, Nat.reduceEqDiff]) | refine wSeq ?_ | refine wBlock ?_ | (subst hQQ; (try simp only [thenQ, blockQ, reduceIte, Nat.reduceEqDiff])))
    all_goals try (exfalso; (try simp only [bbs] at *); first | omega | exact absurd trivial (by assumption))
    all_goals exact ⟨rfl, rfl⟩
theorem c_law (a0 : List ClaimM) (h0' : a0.length ≤ 140737488351232 ∧ ∀ x ∈ a0, x.ok 140737488351232) (a1 : List Int) (hb1 : Eng.Bytes a1) (h1' : a1.length ≤ 140737488351232) (a2 : Int) (h2' : -9223372036854775808 ≤ a2 ∧ a2 ≤ 9223372036854775807) : ∀ H, call Tryd.prog cfg0 0 4 [.lst false (a0.map encClaim), bytesL a1, .v (.int .i64 a2)] H = some (.v (.bool true), H) :=
  call_fz Tryd.func4 rfl ok_law rfl (by simp only [fz_cons, fz_nil, go_sem, and_self]) (p_law a0 h0' a1 hb1 h1' a2 h2')

theorem law (xs : List AV) (h : ArgsC Tryd.prog reach 3 [33, 22, 2] xs) : pure Tryd.prog cfg0 4 Tryd.f4 xs = some (.v (.bool true), true) := by
  obtain ⟨x0, r0, rfl, h0, h⟩ := h
  unfold ArgC at h0
  rw [agg33] at h0
  obtain ⟨y0, e0, w0, q0, -, s0⟩ := shC_rows u33 h0
  simp only [List.cons.injEq, and_true] at e0
  subst e0
  obtain ⟨a0, rfl, p0⟩ := mir_rows (fun c hc => mirClaim hc) y0 s0
  have k0 : a0.length ≤ 140737488351232 ∧ ∀ x ∈ a0, x.ok 140737488351232 := ⟨by simp only [reach, byn84, List.length_map] at w0; omega, p0⟩
  obtain ⟨x1, r1, rfl, h1, h⟩ := h
  unfold ArgC at h1
  rw [agg22] at h1
  obtain ⟨a1, e1, g1, w1⟩ := shC_bytes u22 u5 byn5 h1
  simp only [List.cons.injEq, and_true] at e1
  subst e1
  have k1 : a1.length ≤ 140737488351232 := by simp only [reach] at w1; omega
  obtain ⟨x2, r2, rfl, h2, rfl⟩ := h
  unfold ArgC at h2
  rw [agg2] at h2
  obtain ⟨a2, e2, k2⟩ := shC_i64 u2 h2
  simp only [List.cons.injEq, and_true] at e2
  subst e2
  exact p_law a0 k0 a1 g1 k1 a2 k2
end
end Go.Proofs.YtnejoidfbgklbaaDoor.fnExactAnswerQuery
