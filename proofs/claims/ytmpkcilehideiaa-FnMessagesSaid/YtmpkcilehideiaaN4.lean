/- Contracts: messages of bytes, the reference's side. -/
import Derived.Test.YtmpkcilehideiaaN3
namespace Go.Proofs.Ytmpkcilehideiaa
open Go Go.RowKit Go.Proofs.Ytmpkcilehideiaa.Eng
set_option linter.unusedSimpArgs false
set_option linter.unusedVariables false
set_option maxRecDepth 100000
set_option maxHeartbeats 4000000
noncomputable section
theorem ms_ls (a b c d e f g h i : Int) : ∀ H, call Try.prog cfg0 0 48 [.agg [.v (.int .i64 a), .v (.int .i64 b), .v (.int .i64 c), .v (.int .i64 d), .v (.int .i64 e), .v (.int .i64 f), .v (.int .i64 g), .v (.int .i64 h), .v (.int .i64 i), .lst false []]] H = some (.v (.int .i64 (msgFault ⟨a, b, c, ⟨d, e, f, g⟩, h, ⟨i, []⟩⟩)), H) := c_sMessageFault ⟨a, b, c, ⟨d, e, f, g⟩, h, ⟨i, []⟩⟩
theorem dm_msg (a b c d e f g h i : Int) {t x : AV} {H : Hp} (hx : deep H 10 x = some t) {y y' : Bool} (hy : y' = y) : deep H depthD (.tup [.agg [.v (.int .i64 a), .v (.int .i64 b), .v (.int .i64 c), .v (.int .i64 d), .v (.int .i64 e), .v (.int .i64 f), .v (.int .i64 g), .v (.int .i64 h), .v (.int .i64 i), x], .v (.bool y')]) = some (.tup [.agg [.v (.int .i64 a), .v (.int .i64 b), .v (.int .i64 c), .v (.int .i64 d), .v (.int .i64 e), .v (.int .i64 f), .v (.int .i64 g), .v (.int .i64 h), .v (.int .i64 i), t], .v (.bool y)]) := by
  subst hy
  have key : ∀ n, deep H (n + 1) x = some t → ([AV.v (.int .i64 a), .v (.int .i64 b), .v (.int .i64 c), .v (.int .i64 d), .v (.int .i64 e), .v (.int .i64 f), .v (.int .i64 g), .v (.int .i64 h), .v (.int .i64 i), x] : List AV).mapM (deep H (n + 1)) = some [AV.v (.int .i64 a), .v (.int .i64 b), .v (.int .i64 c), .v (.int .i64 d), .v (.int .i64 e), .v (.int .i64 f), .v (.int .i64 g), .v (.int .i64 h), .v (.int .i64 i), t] := fun n hx =>
    mapM_c rfl (mapM_c rfl (mapM_c rfl (mapM_c rfl (mapM_c rfl (mapM_c rfl (mapM_c rfl (mapM_c rfl (mapM_c rfl (mapM_c hx mapM_n)))))))))
  show (([AV.agg [.v (.int .i64 a), .v (.int .i64 b), .v (.int .i64 c), .v (.int .i64 d), .v (.int .i64 e), .v (.int .i64 f), .v (.int .i64 g), .v (.int .i64 h), .v (.int .i64 i), x], .v (.bool y')] : List AV).mapM (deep H 11)).map AV.tup = _
  rw [mapM_c (deep_aggL (key 9 hx)) (mapM_c (show deep H 11 (.v (.bool y')) = some (.v (.bool y')) from rfl) mapM_n)]; rfl
theorem ms_by (a b c d e f g h i : Int) (l : List Int) : ∀ H, call Try.prog cfg0 0 48 [.agg [.v (.int .i64 a), .v (.int .i64 b), .v (.int .i64 c), .v (.int .i64 d), .v (.int .i64 e), .v (.int .i64 f), .v (.int .i64 g), .v (.int .i64 h), .v (.int .i64 i), bytesL l]] H = some (.v (.int .i64 (msgFault ⟨a, b, c, ⟨d, e, f, g⟩, h, ⟨i, l⟩⟩)), H) := c_sMessageFault ⟨a, b, c, ⟨d, e, f, g⟩, h, ⟨i, l⟩⟩
theorem ok_sl7Decode : fnOk Try.prog cfg0 49 Try.f49 = true := by kernel_rfl
theorem pq_sl7Decode (l : List Int) (hb : Eng.Bytes l) (hne : l ≠ []) (hl : l.length ≤ 1000) : pure Try.prog cfg0 49 Try.f49 [bytesL l] = some (.tup [.agg [.v (.int .i64 (decS l).Kind), .v (.int .i64 (decS l).Seq), .v (.int .i64 (decS l).Node), .v (.int .i64 (decS l).Claim.Node), .v (.int .i64 (decS l).Claim.Inc), .v (.int .i64 (decS l).Claim.Status), .v (.int .i64 (decS l).Claim.Meta), .v (.int .i64 (decS l).Op), .v (.int .i64 (decS l).Key.Id), bytesL (decS l).Key.Bytes], .v (.bool (decSB l))], true) ∧ owned Try.prog cfg0 49 Try.f49 [bytesL l] = some (.tup [.agg [.v (.int .i64 (decS l).Kind), .v (.int .i64 (decS l).Seq), .v (.int .i64 (decS l).Node), .v (.int .i64 (decS l).Claim.Node), .v (.int .i64 (decS l).Claim.Inc), .v (.int .i64 (decS l).Claim.Status), .v (.int .i64 (decS l).Claim.Meta), .v (.int .i64 (decS l).Op), .v (.int .i64 (decS l).Key.Id), bytesL (decS l).Key.Bytes], .v (.bool (decSB l))]) := by
  refine both_wp (rs := [.cell 2 38, .tmp 3]) rfl rfl ?_
  have hp0 : ∀ b, cfg0.pol 49 b = (if b = 87 then 1 else 0) := fun b => rfl
  obtain ⟨k, r, rfl⟩ : ∃ k r, l = k :: r := by
    cases l with
    | nil => exact absurd rfl hne
    | cons k r => exact ⟨k, r, rfl⟩
  have hk8 := hb k (by simp)
  have wk : IntKind.wrap .i64 k = k := wrap_i64 (by omega) (by omega)
  have hlr : r.length + 1 ≤ 1000 := hl
  by_cases hok : lenOk (k :: r) = true
  rotate_left
  · have eS : decS (k :: r) = ⟨0, 0, 0, ⟨0, 0, 0, 0⟩, 0, ⟨0, []⟩⟩ := if_neg hok
    have eB : decSB (k :: r) = false := by unfold decSB; rw [Bool.not_eq_true] at hok; rw [hok]; rfl
    rw [eS, eB]
    simp only [lenOk, Bool.or_eq_true, Bool.and_eq_true, decide_eq_true_eq, not_or, not_and] at hok
    obtain ⟨⟨⟨o1, o2⟩, o3⟩, o4⟩ := hok
    repeat' (first | ((first | refine wSeqr (fun xx hx => ?_) | refine wSeqrF (fun xx hx => ?_) | refine wIf (fun xx hx => ?_) | refine wReg (fun xx hx => ?_) | refine wRegF (fun xx hx => ?_) | (refine wRet ?_; (try simp only [thenQ, blockQ]); (try (subst hQQ; (try simp only [thenQ, blockQ]))); refine ends_by (fun xx hx => ?_))); have hc := trivial; (repeat' (simp only [hc, Nat.reduceBEq, go_sem, Nat.reduceAdd, Nat.reduceMul, Nat.reduceSub, Nat.reduceEqDiff, Nat.reduceLT, Nat.reduceLeDiff, Int.reduceEq, Int.reduceLT, Int.reduceLE, reduceIte, aresults, aresult, hp0, aconv_int u5 u2, List.length_cons, List.length_nil, Int.natCast_eq_zero, ms_nil, wk] at hx; (try ((first | rw [guardL_if] at hx | rw [guardF_if] at hx); split at hx <;> rename_i hc)))); all_goals (subst hx; first | (refine ⟨_, rfl, fun ht => ?_, fun ht => ?_⟩ <;> (try simp only [Bool.not_eq_true', Bool.not_eq_false', Bool.and_eq_true, Bool.and_eq_false_iff, Bool.or_eq_true, Bool.or_eq_false_iff, decide_eq_true_eq, decide_eq_false_iff_not, beq_iff_eq, bne_iff_ne, Bool.not_true, Bool.not_false, Bool.true_eq_false, Bool.false_eq_true, ne_eq, Decidable.not_not, inB_t, inB_f] at ht)) | (refine ⟨_, rfl, ?_⟩; (try simp only [tupOf])))) | refine wSkip ?_ | (refine wExit ?_; simp only [thenQ, blockQ, reduceIte, Nat.reduceEqDiff]) | refine wSeq ?_ | refine wBlock ?_ | (subst hQQ; (try simp only [thenQ, blockQ, reduceIte, Nat.reduceEqDiff])))
    all_goals first
      | (exfalso; (try simp only [Bool.not_eq_true', Bool.not_eq_false', Bool.and_eq_true, Bool.and_eq_false_iff, Bool.or_eq_true, Bool.or_eq_false_iff, decide_eq_true_eq, decide_eq_false_iff_not, beq_iff_eq, bne_iff_ne, Bool.not_true, Bool.not_false, Bool.true_eq_false, Bool.false_eq_true, ne_eq, Decidable.not_not, inB_t, inB_f] at *); omega)
      | skip
    all_goals exact gO_msg _ _ _ _ _ _ _ _ _ (gF_nil 9 _) rfl
  · simp only [lenOk, Bool.or_eq_true, Bool.and_eq_true, decide_eq_true_eq] at hok
    rcases hok with ((⟨k1 | k1, h5⟩ | ⟨k2, h4⟩) | ⟨k4, h10⟩) | ⟨k5, h2⟩
    · subst k1
      obtain ⟨a, b, c, d, f, rfl⟩ := list5 h5
      have ba := hb a (by simp)
      have wa : IntKind.wrap .i64 a = a := wrap_i64 (by omega) (by omega)
      have bb := hb b (by simp)
      have wb : IntKind.wrap .i64 b = b := wrap_i64 (by omega) (by omega)
      have bc := hb c (by simp)
      have wc : IntKind.wrap .i64 c = c := wrap_i64 (by omega) (by omega)
      have bd := hb d (by simp)
      have wd : IntKind.wrap .i64 d = d := wrap_i64 (by omega) (by omega)
      have bf := hb f (by simp)
      have wf : IntKind.wrap .i64 f = f := wrap_i64 (by omega) (by omega)
      have e : decM [1, a, b, c, d, f] = ⟨1, rdN [a, b, c, d], f, ⟨0, 0, 0, 0⟩, 0, ⟨0, []⟩⟩ := by
        show decK [1, a, b, c, d, f] 1 = _
        simp only [decK, Int.reduceEq, or_true, true_or, or_self, if_true, if_false, num4 (n := 0) (l := [1, a, b, c, d, f]) (p := 1) (a := a) (b := b) (c := c) (d := d) rfl ba bb bc bd, num1 (l := [1, a, b, c, d, f]) (p := 5) (a := f) rfl bf]
      have eS : decS [1, a, b, c, d, f] = ⟨1, rdN [a, b, c, d], f, ⟨0, 0, 0, 0⟩, 0, ⟨0, []⟩⟩ := by rw [← e]; exact if_pos (by simp [lenOk])
      have eB : decSB [1, a, b, c, d, f] = decide (msgFault ⟨1, rdN [a, b, c, d], f, ⟨0, 0, 0, 0⟩, 0, ⟨0, []⟩⟩ = 0) := by unfold decSB; rw [e]; simp [lenOk]
      rw [eS, eB]
      repeat' (first | ((first | refine wSeqr (fun xx hx => ?_) | refine wSeqrF (fun xx hx => ?_) | refine wIf (fun xx hx => ?_) | refine wReg (fun xx hx => ?_) | refine wRegF (fun xx hx => ?_) | (refine wRet ?_; (try simp only [thenQ, blockQ]); (try (subst hQQ; (try simp only [thenQ, blockQ]))); refine ends_by (fun xx hx => ?_))); have hc := trivial; (repeat' (simp only [hc, Nat.reduceBEq, go_sem, Nat.reduceAdd, Nat.reduceMul, Nat.reduceSub, Nat.reduceEqDiff, Nat.reduceLT, Nat.reduceLeDiff, Int.reduceEq, Int.reduceLT, Int.reduceLE, reduceIte, aresults, aresult, hp0, aconv_int u5 u2, List.length_cons, List.length_nil, Int.natCast_eq_zero, ms_nil, wk, wa, wb, wc, wd, wf, (c_sl1Read [1, a, b, c, d, f] 1 4 1 4 rfl rfl hb (by simp) (by simp) (by have := rd4 ba bb bc bd; show rdN [a, b, c, d] < _; omega))] at hx; (try ((first | rw [guardL_if] at hx | rw [guardF_if] at hx); split at hx <;> rename_i hc)))); all_goals (subst hx; first | (refine ⟨_, rfl, fun ht => ?_, fun ht => ?_⟩ <;> (try simp only [Bool.not_eq_true', Bool.not_eq_false', Bool.and_eq_true, Bool.and_eq_false_iff, Bool.or_eq_true, Bool.or_eq_false_iff, decide_eq_true_eq, decide_eq_false_iff_not, beq_iff_eq, bne_iff_ne, Bool.not_true, Bool.not_false, Bool.true_eq_false, Bool.false_eq_true, ne_eq, Decidable.not_not, inB_t, inB_f] at ht)) | (refine ⟨_, rfl, ?_⟩; (try simp only [tupOf])))) | refine wSkip ?_ | (refine wExit ?_; simp only [thenQ, blockQ, reduceIte, Nat.reduceEqDiff]) | refine wSeq ?_ | refine wBlock ?_ | (subst hQQ; (try simp only [thenQ, blockQ, reduceIte, Nat.reduceEqDiff])))
      all_goals first
        | (exfalso; (try simp only [Bool.not_eq_true', Bool.not_eq_false', Bool.and_eq_true, Bool.and_eq_false_iff, Bool.or_eq_true, Bool.or_eq_false_iff, decide_eq_true_eq, decide_eq_false_iff_not, beq_iff_eq, bne_iff_ne, Bool.not_true, Bool.not_false, Bool.true_eq_false, Bool.false_eq_true, ne_eq, Decidable.not_not, inB_t, inB_f] at *); omega)
        | skip
      all_goals exact gO_msg _ _ _ _ _ _ _ _ _ (gF_nil 9 _) (by simp_all)
    · subst k1
      obtain ⟨a, b, c, d, f, rfl⟩ := list5 h5
      have ba := hb a (by simp)
      have wa : IntKind.wrap .i64 a = a := wrap_i64 (by omega) (by omega)
      have bb := hb b (by simp)
      have wb : IntKind.wrap .i64 b = b := wrap_i64 (by omega) (by omega)
      have bc := hb c (by simp)
      have wc : IntKind.wrap .i64 c = c := wrap_i64 (by omega) (by omega)
      have bd := hb d (by simp)
      have wd : IntKind.wrap .i64 d = d := wrap_i64 (by omega) (by omega)
      have bf := hb f (by simp)
      have wf : IntKind.wrap .i64 f = f := wrap_i64 (by omega) (by omega)
      have e : decM [3, a, b, c, d, f] = ⟨3, rdN [a, b, c, d], f, ⟨0, 0, 0, 0⟩, 0, ⟨0, []⟩⟩ := by
        show decK [3, a, b, c, d, f] 3 = _
        simp only [decK, Int.reduceEq, or_true, true_or, or_self, if_true, if_false, num4 (n := 0) (l := [3, a, b, c, d, f]) (p := 1) (a := a) (b := b) (c := c) (d := d) rfl ba bb bc bd, num1 (l := [3, a, b, c, d, f]) (p := 5) (a := f) rfl bf]
      have eS : decS [3, a, b, c, d, f] = ⟨3, rdN [a, b, c, d], f, ⟨0, 0, 0, 0⟩, 0, ⟨0, []⟩⟩ := by rw [← e]; exact if_pos (by simp [lenOk])
      have eB : decSB [3, a, b, c, d, f] = decide (msgFault ⟨3, rdN [a, b, c, d], f, ⟨0, 0, 0, 0⟩, 0, ⟨0, []⟩⟩ = 0) := by unfold decSB; rw [e]; simp [lenOk]
      rw [eS, eB]
      repeat' (first | ((first | refine wSeqr (fun xx hx => ?_) | refine wSeqrF (fun xx hx => ?_) | refine wIf (fun xx hx => ?_) | refine wReg (fun xx hx => ?_) | refine wRegF (fun xx hx => ?_) | (refine wRet ?_; (try simp only [thenQ, blockQ]); (try (subst hQQ; (try simp only [thenQ, blockQ]))); refine ends_by (fun xx hx => ?_))); have hc := trivial; (repeat' (simp only [hc, Nat.reduceBEq, go_sem, Nat.reduceAdd, Nat.reduceMul, Nat.reduceSub, Nat.reduceEqDiff, Nat.reduceLT, Nat.reduceLeDiff, Int.reduceEq, Int.reduceLT, Int.reduceLE, reduceIte, aresults, aresult, hp0, aconv_int u5 u2, List.length_cons, List.length_nil, Int.natCast_eq_zero, ms_nil, wk, wa, wb, wc, wd, wf, (c_sl1Read [3, a, b, c, d, f] 1 4 1 4 rfl rfl hb (by simp) (by simp) (by have := rd4 ba bb bc bd; show rdN [a, b, c, d] < _; omega))] at hx; (try ((first | rw [guardL_if] at hx | rw [guardF_if] at hx); split at hx <;> rename_i hc)))); all_goals (subst hx; first | (refine ⟨_, rfl, fun ht => ?_, fun ht => ?_⟩ <;> (try simp only [Bool.not_eq_true', Bool.not_eq_false', Bool.and_eq_true, Bool.and_eq_false_iff, Bool.or_eq_true, Bool.or_eq_false_iff, decide_eq_true_eq, decide_eq_false_iff_not, beq_iff_eq, bne_iff_ne, Bool.not_true, Bool.not_false, Bool.true_eq_false, Bool.false_eq_true, ne_eq, Decidable.not_not, inB_t, inB_f] at ht)) | (refine ⟨_, rfl, ?_⟩; (try simp only [tupOf])))) | refine wSkip ?_ | (refine wExit ?_; simp only [thenQ, blockQ, reduceIte, Nat.reduceEqDiff]) | refine wSeq ?_ | refine wBlock ?_ | (subst hQQ; (try simp only [thenQ, blockQ, reduceIte, Nat.reduceEqDiff])))
      all_goals first
        | (exfalso; (try simp only [Bool.not_eq_true', Bool.not_eq_false', Bool.and_eq_true, Bool.and_eq_false_iff, Bool.or_eq_true, Bool.or_eq_false_iff, decide_eq_true_eq, decide_eq_false_iff_not, beq_iff_eq, bne_iff_ne, Bool.not_true, Bool.not_false, Bool.true_eq_false, Bool.false_eq_true, ne_eq, Decidable.not_not, inB_t, inB_f] at *); omega)
        | skip
      all_goals exact gO_msg _ _ _ _ _ _ _ _ _ (gF_nil 9 _) (by simp_all)
    · subst k2
      obtain ⟨a, b, c, d, rfl⟩ := list4 h4
      have ba := hb a (by simp)
      have wa : IntKind.wrap .i64 a = a := wrap_i64 (by omega) (by omega)
      have bb := hb b (by simp)
      have wb : IntKind.wrap .i64 b = b := wrap_i64 (by omega) (by omega)
      have bc := hb c (by simp)
      have wc : IntKind.wrap .i64 c = c := wrap_i64 (by omega) (by omega)
      have bd := hb d (by simp)
      have wd : IntKind.wrap .i64 d = d := wrap_i64 (by omega) (by omega)
      have e : decM [2, a, b, c, d] = ⟨2, rdN [a, b, c, d], 0, ⟨0, 0, 0, 0⟩, 0, ⟨0, []⟩⟩ := by
        show decK [2, a, b, c, d] 2 = _
        simp only [decK, Int.reduceEq, or_true, true_or, or_self, if_true, if_false, num4 (n := 0) (l := [2, a, b, c, d]) (p := 1) (a := a) (b := b) (c := c) (d := d) rfl ba bb bc bd]
      have eS : decS [2, a, b, c, d] = ⟨2, rdN [a, b, c, d], 0, ⟨0, 0, 0, 0⟩, 0, ⟨0, []⟩⟩ := by rw [← e]; exact if_pos (by simp [lenOk])
      have eB : decSB [2, a, b, c, d] = decide (msgFault ⟨2, rdN [a, b, c, d], 0, ⟨0, 0, 0, 0⟩, 0, ⟨0, []⟩⟩ = 0) := by unfold decSB; rw [e]; simp [lenOk]
      rw [eS, eB]
      repeat' (first | ((first | refine wSeqr (fun xx hx => ?_) | refine wSeqrF (fun xx hx => ?_) | refine wIf (fun xx hx => ?_) | refine wReg (fun xx hx => ?_) | refine wRegF (fun xx hx => ?_) | (refine wRet ?_; (try simp only [thenQ, blockQ]); (try (subst hQQ; (try simp only [thenQ, blockQ]))); refine ends_by (fun xx hx => ?_))); have hc := trivial; (repeat' (simp only [hc, Nat.reduceBEq, go_sem, Nat.reduceAdd, Nat.reduceMul, Nat.reduceSub, Nat.reduceEqDiff, Nat.reduceLT, Nat.reduceLeDiff, Int.reduceEq, Int.reduceLT, Int.reduceLE, reduceIte, aresults, aresult, hp0, aconv_int u5 u2, List.length_cons, List.length_nil, Int.natCast_eq_zero, ms_nil, wk, wa, wb, wc, wd, (c_sl1Read [2, a, b, c, d] 1 4 1 4 rfl rfl hb (by simp) (by simp) (by have := rd4 ba bb bc bd; show rdN [a, b, c, d] < _; omega))] at hx; (try ((first | rw [guardL_if] at hx | rw [guardF_if] at hx); split at hx <;> rename_i hc)))); all_goals (subst hx; first | (refine ⟨_, rfl, fun ht => ?_, fun ht => ?_⟩ <;> (try simp only [Bool.not_eq_true', Bool.not_eq_false', Bool.and_eq_true, Bool.and_eq_false_iff, Bool.or_eq_true, Bool.or_eq_false_iff, decide_eq_true_eq, decide_eq_false_iff_not, beq_iff_eq, bne_iff_ne, Bool.not_true, Bool.not_false, Bool.true_eq_false, Bool.false_eq_true, ne_eq, Decidable.not_not, inB_t, inB_f] at ht)) | (refine ⟨_, rfl, ?_⟩; (try simp only [tupOf])))) | refine wSkip ?_ | (refine wExit ?_; simp only [thenQ, blockQ, reduceIte, Nat.reduceEqDiff]) | refine wSeq ?_ | refine wBlock ?_ | (subst hQQ; (try simp only [thenQ, blockQ, reduceIte, Nat.reduceEqDiff])))
      all_goals first
        | (exfalso; (try simp only [Bool.not_eq_true', Bool.not_eq_false', Bool.and_eq_true, Bool.and_eq_false_iff, Bool.or_eq_true, Bool.or_eq_false_iff, decide_eq_true_eq, decide_eq_false_iff_not, beq_iff_eq, bne_iff_ne, Bool.not_true, Bool.not_false, Bool.true_eq_false, Bool.false_eq_true, ne_eq, Decidable.not_not, inB_t, inB_f] at *); omega)
        | skip
      all_goals exact gO_msg _ _ _ _ _ _ _ _ _ (gF_nil 9 _) (by simp_all)
    · subst k4
      obtain ⟨a, b, c, d, f, g, i, j, m, n, rfl⟩ := list10 h10
      have ba := hb a (by simp)
      have wa : IntKind.wrap .i64 a = a := wrap_i64 (by omega) (by omega)
      have bb := hb b (by simp)
      have wb : IntKind.wrap .i64 b = b := wrap_i64 (by omega) (by omega)
      have bc := hb c (by simp)
      have wc : IntKind.wrap .i64 c = c := wrap_i64 (by omega) (by omega)
      have bd := hb d (by simp)
      have wd : IntKind.wrap .i64 d = d := wrap_i64 (by omega) (by omega)
      have bf := hb f (by simp)
      have wf : IntKind.wrap .i64 f = f := wrap_i64 (by omega) (by omega)
      have bg := hb g (by simp)
      have wg : IntKind.wrap .i64 g = g := wrap_i64 (by omega) (by omega)
      have bi := hb i (by simp)
      have wi : IntKind.wrap .i64 i = i := wrap_i64 (by omega) (by omega)
      have bj := hb j (by simp)
      have wj : IntKind.wrap .i64 j = j := wrap_i64 (by omega) (by omega)
      have bm := hb m (by simp)
      have wm : IntKind.wrap .i64 m = m := wrap_i64 (by omega) (by omega)
      have bn := hb n (by simp)
      have wn : IntKind.wrap .i64 n = n := wrap_i64 (by omega) (by omega)
      have e : decM [4, a, b, c, d, f, g, i, j, m, n] = ⟨4, 0, 0, ⟨a, rdN [b, c, d, f], g, rdN [i, j, m, n]⟩, 0, ⟨0, []⟩⟩ := by
        show decK [4, a, b, c, d, f, g, i, j, m, n] 4 = _
        simp only [decK, Int.reduceEq, or_true, true_or, or_self, if_true, if_false, num1 (l := [4, a, b, c, d, f, g, i, j, m, n]) (p := 1) (a := a) rfl ba, num4 (n := 0) (l := [4, a, b, c, d, f, g, i, j, m, n]) (p := 2) (a := b) (b := c) (c := d) (d := f) rfl bb bc bd bf, num1 (l := [4, a, b, c, d, f, g, i, j, m, n]) (p := 6) (a := g) rfl bg, num4 (n := 0) (l := [4, a, b, c, d, f, g, i, j, m, n]) (p := 7) (a := i) (b := j) (c := m) (d := n) rfl bi bj bm bn]
      have eS : decS [4, a, b, c, d, f, g, i, j, m, n] = ⟨4, 0, 0, ⟨a, rdN [b, c, d, f], g, rdN [i, j, m, n]⟩, 0, ⟨0, []⟩⟩ := by rw [← e]; exact if_pos (by simp [lenOk])
      have eB : decSB [4, a, b, c, d, f, g, i, j, m, n] = decide (msgFault ⟨4, 0, 0, ⟨a, rdN [b, c, d, f], g, rdN [i, j, m, n]⟩, 0, ⟨0, []⟩⟩ = 0) := by unfold decSB; rw [e]; simp [lenOk]
      rw [eS, eB]
      repeat' (first | ((first | refine wSeqr (fun xx hx => ?_) | refine wSeqrF (fun xx hx => ?_) | refine wIf (fun xx hx => ?_) | refine wReg (fun xx hx => ?_) | refine wRegF (fun xx hx => ?_) | (refine wRet ?_; (try simp only [thenQ, blockQ]); (try (subst hQQ; (try simp only [thenQ, blockQ]))); refine ends_by (fun xx hx => ?_))); have hc := trivial; (repeat' (simp only [hc, Nat.reduceBEq, go_sem, Nat.reduceAdd, Nat.reduceMul, Nat.reduceSub, Nat.reduceEqDiff, Nat.reduceLT, Nat.reduceLeDiff, Int.reduceEq, Int.reduceLT, Int.reduceLE, reduceIte, aresults, aresult, hp0, aconv_int u5 u2, List.length_cons, List.length_nil, Int.natCast_eq_zero, ms_nil, wk, wa, wb, wc, wd, wf, wg, wi, wj, wm, wn, (c_sl1Read [4, a, b, c, d, f, g, i, j, m, n] 2 4 2 4 rfl rfl hb (by simp) (by simp) (by have := rd4 bb bc bd bf; show rdN [b, c, d, f] < _; omega)), (c_sl1Read [4, a, b, c, d, f, g, i, j, m, n] 7 4 7 4 rfl rfl hb (by simp) (by simp) (by have := rd4 bi bj bm bn; show rdN [i, j, m, n] < _; omega))] at hx; (try ((first | rw [guardL_if] at hx | rw [guardF_if] at hx); split at hx <;> rename_i hc)))); all_goals (subst hx; first | (refine ⟨_, rfl, fun ht => ?_, fun ht => ?_⟩ <;> (try simp only [Bool.not_eq_true', Bool.not_eq_false', Bool.and_eq_true, Bool.and_eq_false_iff, Bool.or_eq_true, Bool.or_eq_false_iff, decide_eq_true_eq, decide_eq_false_iff_not, beq_iff_eq, bne_iff_ne, Bool.not_true, Bool.not_false, Bool.true_eq_false, Bool.false_eq_true, ne_eq, Decidable.not_not, inB_t, inB_f] at ht)) | (refine ⟨_, rfl, ?_⟩; (try simp only [tupOf])))) | refine wSkip ?_ | (refine wExit ?_; simp only [thenQ, blockQ, reduceIte, Nat.reduceEqDiff]) | refine wSeq ?_ | refine wBlock ?_ | (subst hQQ; (try simp only [thenQ, blockQ, reduceIte, Nat.reduceEqDiff])))
      all_goals first
        | (exfalso; (try simp only [Bool.not_eq_true', Bool.not_eq_false', Bool.and_eq_true, Bool.and_eq_false_iff, Bool.or_eq_true, Bool.or_eq_false_iff, decide_eq_true_eq, decide_eq_false_iff_not, beq_iff_eq, bne_iff_ne, Bool.not_true, Bool.not_false, Bool.true_eq_false, Bool.false_eq_true, ne_eq, Decidable.not_not, inB_t, inB_f] at *); omega)
        | skip
      all_goals exact gO_msg _ _ _ _ _ _ _ _ _ (gF_nil 9 _) (by simp_all)
    · subst k5
      obtain ⟨a, b, t, rfl⟩ := list2 h2
      have ba := hb a (by simp)
      have wa : IntKind.wrap .i64 a = a := wrap_i64 (by omega) (by omega)
      have bb := hb b (by simp)
      have wb : IntKind.wrap .i64 b = b := wrap_i64 (by omega) (by omega)
      have htl : t.length ≤ 1000 := by simp only [List.length_cons] at hlr; omega
      have e : decM (5 :: a :: b :: t) = ⟨5, 0, 0, ⟨0, 0, 0, 0⟩, a, ⟨b, t⟩⟩ := by
        show decK (5 :: a :: b :: t) 5 = _
        simp only [decK, Int.reduceEq, or_true, true_or, or_self, if_true, if_false, num1 (p := 1) (l := 5 :: a :: b :: t) (a := a) rfl ba, num1 (p := 2) (l := 5 :: a :: b :: t) (a := b) rfl bb, List.drop_succ_cons, List.drop_zero]
      have eS : decS (5 :: a :: b :: t) = ⟨5, 0, 0, ⟨0, 0, 0, 0⟩, a, ⟨b, t⟩⟩ := by rw [← e]; exact if_pos (by simp [lenOk])
      have eB : decSB (5 :: a :: b :: t) = decide (msgFault ⟨5, 0, 0, ⟨0, 0, 0, 0⟩, a, ⟨b, t⟩⟩ = 0) := by unfold decSB; rw [e]; simp [lenOk]
      rw [eS, eB]
      have h3 : (3 : Int) ≤ ((t.length + 1 + 1 + 1 : Nat) : Int) := by omega
      have h3n : 3 ≤ t.length + 1 + 1 + 1 := by omega
      by_cases hte : t = []
      · subst hte
        have ocp : ∀ H, call Try.prog cfg0 1 72 [bytesL []] H = some (.lst false [], H) := fun H => o_sl1Copy [] (by simp) H
        repeat' (first | ((first | refine wSeqr (fun xx hx => ?_) | refine wSeqrF (fun xx hx => ?_) | refine wIf (fun xx hx => ?_) | refine wReg (fun xx hx => ?_) | refine wRegF (fun xx hx => ?_) | (refine wRet ?_; (try simp only [thenQ, blockQ]); (try (subst hQQ; (try simp only [thenQ, blockQ]))); refine ends_by (fun xx hx => ?_))); have hc := trivial; (repeat' (simp only [hc, Nat.reduceBEq, go_sem, Nat.reduceAdd, Nat.reduceMul, Nat.reduceSub, Nat.reduceEqDiff, Nat.reduceLT, Nat.reduceLeDiff, Int.reduceEq, Int.reduceLT, Int.reduceLE, reduceIte, aresults, aresult, hp0, aconv_int u5 u2, List.length_cons, List.length_nil, Int.natCast_eq_zero, wk, wa, wb, ocp, h3, h3n, ms_ls 5 0 0 0 0 0 0 a b] at hx; (try ((first | rw [guardL_if] at hx | rw [guardF_if] at hx); split at hx <;> rename_i hc)))); all_goals (subst hx; first | (refine ⟨_, rfl, fun ht => ?_, fun ht => ?_⟩ <;> (try simp only [Bool.not_eq_true', Bool.not_eq_false', Bool.and_eq_true, Bool.and_eq_false_iff, Bool.or_eq_true, Bool.or_eq_false_iff, decide_eq_true_eq, decide_eq_false_iff_not, beq_iff_eq, bne_iff_ne, Bool.not_true, Bool.not_false, Bool.true_eq_false, Bool.false_eq_true, ne_eq, Decidable.not_not, inB_t, inB_f] at ht)) | (refine ⟨_, rfl, ?_⟩; (try simp only [tupOf])))) | refine wSkip ?_ | (refine wExit ?_; simp only [thenQ, blockQ, reduceIte, Nat.reduceEqDiff]) | refine wSeq ?_ | refine wBlock ?_ | (subst hQQ; (try simp only [thenQ, blockQ, reduceIte, Nat.reduceEqDiff])))
        all_goals first
          | (exfalso; (try simp only [Bool.not_eq_true', Bool.not_eq_false', Bool.and_eq_true, Bool.and_eq_false_iff, Bool.or_eq_true, Bool.or_eq_false_iff, decide_eq_true_eq, decide_eq_false_iff_not, beq_iff_eq, bne_iff_ne, Bool.not_true, Bool.not_false, Bool.true_eq_false, Bool.false_eq_true, ne_eq, Decidable.not_not, inB_t, inB_f] at *); omega)
          | skip
        all_goals exact gO_msg _ _ _ _ _ _ _ _ _ (gF_lst0 9 _) (by simp_all)
      · have ocp : ∀ H, call Try.prog cfg0 1 72 [bytesL t] H = some (.sl H.g 1 0 t.length, H.new (t.map cell)) := fun H => (o_sl1Copy t (by omega) H).trans (mat_bytes 10 _ hte H)
        repeat' (first | ((first | refine wSeqr (fun xx hx => ?_) | refine wSeqrF (fun xx hx => ?_) | refine wIf (fun xx hx => ?_) | refine wReg (fun xx hx => ?_) | refine wRegF (fun xx hx => ?_) | (refine wRet ?_; (try simp only [thenQ, blockQ]); (try (subst hQQ; (try simp only [thenQ, blockQ]))); refine ends_by (fun xx hx => ?_))); have hc := trivial; (repeat' (simp only [hc, Nat.reduceBEq, go_sem, Nat.reduceAdd, Nat.reduceMul, Nat.reduceSub, Nat.reduceEqDiff, Nat.reduceLT, Nat.reduceLeDiff, Int.reduceEq, Int.reduceLT, Int.reduceLE, reduceIte, aresults, aresult, hp0, aconv_int u5 u2, List.length_cons, List.length_nil, Int.natCast_eq_zero, wk, wa, wb, ocp, h3, h3n, ms_sl 5 0 0 0 0 0 0 a b t] at hx; (try ((first | rw [guardL_if] at hx | rw [guardF_if] at hx); split at hx <;> rename_i hc)))); all_goals (subst hx; first | (refine ⟨_, rfl, fun ht => ?_, fun ht => ?_⟩ <;> (try simp only [Bool.not_eq_true', Bool.not_eq_false', Bool.and_eq_true, Bool.and_eq_false_iff, Bool.or_eq_true, Bool.or_eq_false_iff, decide_eq_true_eq, decide_eq_false_iff_not, beq_iff_eq, bne_iff_ne, Bool.not_true, Bool.not_false, Bool.true_eq_false, Bool.false_eq_true, ne_eq, Decidable.not_not, inB_t, inB_f] at ht)) | (refine ⟨_, rfl, ?_⟩; (try simp only [tupOf])))) | refine wSkip ?_ | (refine wExit ?_; simp only [thenQ, blockQ, reduceIte, Nat.reduceEqDiff]) | refine wSeq ?_ | refine wBlock ?_ | (subst hQQ; (try simp only [thenQ, blockQ, reduceIte, Nat.reduceEqDiff])))
        all_goals first
          | (exfalso; (try simp only [Bool.not_eq_true', Bool.not_eq_false', Bool.and_eq_true, Bool.and_eq_false_iff, Bool.or_eq_true, Bool.or_eq_false_iff, decide_eq_true_eq, decide_eq_false_iff_not, beq_iff_eq, bne_iff_ne, Bool.not_true, Bool.not_false, Bool.true_eq_false, Bool.false_eq_true, ne_eq, Decidable.not_not, inB_t, inB_f] at *); omega)
          | skip
        all_goals exact gO_msg _ _ _ _ _ _ _ _ _ (gF_bytes (n := 8) (l := t) (by simp [Hp.set_h, Hp.new_h, nil_g]) rfl) (by simp_all)
theorem p_sl7Decode (l : List Int) (hb : Eng.Bytes l) (hne : l ≠ []) (hl : l.length ≤ 1000) : pure Try.prog cfg0 49 Try.f49 [bytesL l] = some (.tup [.agg [.v (.int .i64 (decS l).Kind), .v (.int .i64 (decS l).Seq), .v (.int .i64 (decS l).Node), .v (.int .i64 (decS l).Claim.Node), .v (.int .i64 (decS l).Claim.Inc), .v (.int .i64 (decS l).Claim.Status), .v (.int .i64 (decS l).Claim.Meta), .v (.int .i64 (decS l).Op), .v (.int .i64 (decS l).Key.Id), bytesL (decS l).Key.Bytes], .v (.bool (decSB l))], true) := (pq_sl7Decode l hb hne hl).1
theorem c_sl7Decode (l : List Int) (hb : Eng.Bytes l) (hne : l ≠ []) (hl : l.length ≤ 1000) : ∀ H, call Try.prog cfg0 0 49 [bytesL l] H = some (.tup [.agg [.v (.int .i64 (decS l).Kind), .v (.int .i64 (decS l).Seq), .v (.int .i64 (decS l).Node), .v (.int .i64 (decS l).Claim.Node), .v (.int .i64 (decS l).Claim.Inc), .v (.int .i64 (decS l).Claim.Status), .v (.int .i64 (decS l).Claim.Meta), .v (.int .i64 (decS l).Op), .v (.int .i64 (decS l).Key.Id), bytesL (decS l).Key.Bytes], .v (.bool (decSB l))], H) :=
  call_fz Try.func49 rfl ok_sl7Decode rfl (by simp only [fz_cons, fz_nil, go_sem, and_self]) (pq_sl7Decode l hb hne hl).1
theorem o_sl7Decode (l : List Int) (hb : Eng.Bytes l) (hne : l ≠ []) (hl : l.length ≤ 1000) : ∀ H, call Try.prog cfg0 1 49 [bytesL l] H = mat depthD (.tup [.agg [.v (.int .i64 (decS l).Kind), .v (.int .i64 (decS l).Seq), .v (.int .i64 (decS l).Node), .v (.int .i64 (decS l).Claim.Node), .v (.int .i64 (decS l).Claim.Inc), .v (.int .i64 (decS l).Claim.Status), .v (.int .i64 (decS l).Claim.Meta), .v (.int .i64 (decS l).Op), .v (.int .i64 (decS l).Key.Id), bytesL (decS l).Key.Bytes], .v (.bool (decSB l))]) H := fun H =>
  call_ofO Try.func49 rfl ok_sl7Decode rfl (mapM_self fun x hx => ((show ∀ x ∈ ([bytesL l] : List AV), Fz depthD x by simp only [fz_cons, fz_nil, go_sem, and_self]) x hx).1 H) (pq_sl7Decode l hb hne hl).2

end
end Go.Proofs.Ytmpkcilehideiaa
