/- Contracts: results with messages, compared and marked. -/
import Derived.Test.YtmncdkecpnoogaaB1
namespace Go.Proofs.Ytmncdkecpnoogaa
open Go Go.RowKit Go.Proofs.Ytmncdkecpnoogaa.Eng
set_option linter.unusedSimpArgs false
set_option linter.unusedVariables false
set_option maxRecDepth 100000
set_option maxHeartbeats 4000000
noncomputable section
theorem wSt {P : Program} {cfg : Cfg} {fid : Nat} {c : Code} {e : Env} {H : Hp} {Q : AX → St → Prop} (R : Env → Hp → Prop) (hR : R e H) (h : ∀ e2 H2, R e2 H2 → Wp P cfg fid c (e2, H2) Q) : Wp P cfg fid c (e, H) Q := h e H hR
theorem mat_oneQ {n : Nat} {t : AV} {H : Hp} {q : Option (AV × Hp)} (hq : mat depthD t H = q) (hg : MatG n t) (hn : n ≤ 12) : ∃ z H', q = some (z, H') ∧ Ext H H' ∧ Laid H' H.g H'.g [t] [z] := by
  obtain ⟨z, H', h1, h2, h3⟩ := mat_one (d := depthD) hn hg H
  exact ⟨z, H', hq.symm.trans h1, h2, h3⟩
theorem mat_rowQ {n : Nat} {ts : List AV} {H : Hp} {q : Option (AV × Hp)} (hq : mat depthD (.agg ts) H = q) (hg : ∀ t ∈ ts, MatG n t) (hn : n ≤ 11) : ∃ zs H', q = some (.agg zs, H') ∧ Ext H H' ∧ Laid H' H.g H'.g ts zs := by
  obtain ⟨zs, H', h1, h2, h3⟩ := mat_row hg hn H
  exact ⟨zs, H', hq.symm.trans h1, h2, h3⟩
theorem deep_laid {n lo hi : Nat} {H : Hp} {ts zs : List AV} (hL : Laid H lo hi ts zs) (hg : ∀ t ∈ ts, MatG n t) (hn : n ≤ 11) : deep H depthD (.agg zs) = some (.agg ts) := (hL.givesO hn hg).1.1
theorem deep_one {n lo hi : Nat} {H : Hp} {t z : AV} (hL : Laid H lo hi [t] [z]) (hg : MatG n t) (hn : n ≤ 12) : deep H depthD z = some t := by
  have h := (hL.deep n depthD (by simpa using hg) hn).1
  simp only [List.mapM_cons, List.mapM_nil, Option.bind_eq_bind, Option.bind_eq_some_iff, Option.pure_def, Option.some.injEq] at h
  obtain ⟨y, h1, _, rfl, h2⟩ := h
  rw [h1]
  simp at h2
  rw [h2]
theorem gE_res (c : Int) (ms : List MessageM) : ∀ t ∈ [AV.v (.int .i64 c), .lst false (ms.map encMessage)], MatG 10 t := by
  intro t ht
  simp only [List.mem_cons, List.not_mem_nil, or_false] at ht
  rcases ht with rfl | rfl
  · exact MatG.int _ _ _
  · exact gR_Message 7 ms
theorem ok_leqMessagesResult : fnOk Try.prog cfg0 16 Try.f16 = true := by kernel_rfl
theorem p_leqMessagesResult (c : Int) (ms : List MessageM) (hk : ms.length ≤ 1048576 ∧ ∀ x ∈ ms, x.ok 1048576) : pure Try.prog cfg0 16 Try.f16 [.agg [.v (.int .i64 c), .lst false (ms.map encMessage)], .agg [.v (.int .i64 c), .lst false (ms.map encMessage)]] = some (.v (.bool true), true) := by
  refine pure_wp (rs := [.tmp 4]) rfl rfl ?_
  have hp0 : ∀ b, cfg0.pol 16 b = 0 := fun b => rfl
  have he := c_leqMessageS ms hk
  repeat' (first | ((first | refine wSeqr (fun xx hx => ?_) | refine wIf (fun xx hx => ?_) | refine wReg (fun xx hx => ?_) | (refine wRet ?_; (try simp only [thenQ, blockQ]); (try (subst hQQ; (try simp only [thenQ, blockQ]))); refine ends_by (fun xx hx => ?_))); have hc := trivial; (repeat' (simp only [hc, go_sem, Nat.reduceAdd, Nat.reduceMul, Nat.reduceSub, Nat.reduceEqDiff, Nat.reduceLT, Nat.reduceLeDiff, Int.reduceEq, Int.reduceLT, Int.reduceLE, reduceIte, aresults, aresult, hp0, he, Bool.not_true, not_true_eq_false] at hx; (try (rw [guardL_if] at hx; split at hx <;> rename_i hc)))); all_goals (subst hx; first | (refine ⟨_, rfl, fun ht => ?_, fun ht => ?_⟩ <;> (try simp only [Bool.not_eq_true', Bool.not_eq_false', Bool.and_eq_true, Bool.and_eq_false_iff, Bool.or_eq_true, Bool.or_eq_false_iff, decide_eq_true_eq, decide_eq_false_iff_not, beq_iff_eq, bne_iff_ne, Bool.not_true, Bool.not_false, Bool.true_eq_false, Bool.false_eq_true, ne_eq, Decidable.not_not, inB_t, inB_f] at ht)) | (refine ⟨_, rfl, ?_⟩; (try simp only [tupOf])))) | refine wSkip ?_ | (refine wExit ?_; simp only [thenQ, blockQ, reduceIte, Nat.reduceEqDiff]) | refine wSeq ?_ | refine wBlock ?_ | (subst hQQ; (try simp only [thenQ, blockQ, reduceIte, Nat.reduceEqDiff])))
  all_goals try (exfalso; (try simp only [Bool.not_eq_true', Bool.not_eq_false', Bool.and_eq_true, Bool.and_eq_false_iff, Bool.or_eq_true, Bool.or_eq_false_iff, decide_eq_true_eq, decide_eq_false_iff_not, beq_iff_eq, bne_iff_ne, Bool.not_true, Bool.not_false, Bool.true_eq_false, Bool.false_eq_true, ne_eq, Decidable.not_not, inB_t, inB_f] at *); first | omega | exact absurd trivial (by assumption))
  all_goals exact ⟨rfl, rfl⟩
theorem c_leqMessagesResult (c : Int) (ms : List MessageM) (hk : ms.length ≤ 1048576 ∧ ∀ x ∈ ms, x.ok 1048576) : ∀ H, call Try.prog cfg0 0 16 [.agg [.v (.int .i64 c), .lst false (ms.map encMessage)], .agg [.v (.int .i64 c), .lst false (ms.map encMessage)]] H = some (.v (.bool true), H) :=
  call_fz Try.func16 rfl ok_leqMessagesResult rfl (by simp only [fz_cons, fz_nil, go_sem, fz_res, and_self]) (p_leqMessagesResult c ms hk)

theorem eqMR_laid (c : Int) (ms : List MessageM) (hk : ms.length ≤ 1048576 ∧ ∀ x ∈ ms, x.ok 1048576) {H : Hp} {lo hi : Nat} {z : AV} (hL : Laid H lo hi [.v (.int .i64 c), .lst false (ms.map encMessage)] [.v (.int .i64 c), z]) :
    call Try.prog cfg0 0 16 [.agg [.v (.int .i64 c), z], .agg [.v (.int .i64 c), .lst false (ms.map encMessage)]] H = some (.v (.bool true), H) :=
  call_of Try.func16 rfl ok_leqMessagesResult rfl (by omega) (mapM_c (deep_laid hL (gE_res c ms) (by omega)) (mapM_c ((fz_res c ms).1 _) mapM_n)) (p_leqMessagesResult c ms hk) (.inl rfl)
theorem heldMR_laid (c q : Int) (ms : List MessageM) (hms : ms.length ≤ 1000 ∧ ∀ x ∈ ms, x.Key.Bytes.length ≤ 1000) (hq0 : 0 ≤ q ∧ q ≤ 1000000000) {H : Hp} {lo hi : Nat} {z : AV} (hL : Laid H lo hi [.v (.int .i64 c), .lst false ((mkL q ms).map encMessage)] [.v (.int .i64 c), z]) :
    call Try.prog cfg0 0 20 [.agg [.v (.int .i64 c), z], .v (.int .i64 q)] H = some (.v (.int .i64 (nxL q ms)), H) :=
  call_of Try.func20 rfl ok_lheldMessagesResult rfl (by omega) (mapM_c (deep_laid hL (gE_res c _) (by omega)) (mapM_c rfl mapM_n)) (p_lheldMessagesResult c q ms hms hq0) (.inl rfl)
theorem markMS_nil (q : Int) (K : Hp) : call Try.prog cfg0 0 66 [.lst false [], .v (.int .i64 q)] K = some (.v (.int .i64 q), K) := by
  have key : ∃ r, body Try.prog cfg0 66 Try.f66 [.lst false [], .v (.int .i64 q)] K = some r ∧ (r.1 = .v (.int .i64 q) ∧ r.2 = K) := by
    refine body_wp (rs := [.tmp 4]) rfl rfl (R := fun x H' => x = .v (.int .i64 q) ∧ H' = K) ?_
    have hp0 : ∀ b, cfg0.pol 66 b = 0 := fun b => rfl
    repeat' (first | ((first | refine wSeqr (fun xx hx => ?_) | refine wIf (fun xx hx => ?_) | refine wReg (fun xx hx => ?_) | (refine wRet ?_; (try simp only [thenQ, blockQ]); (try (subst hQQ; (try simp only [thenQ, blockQ]))); refine ends_by (fun xx hx => ?_))); have hc := trivial; (repeat' (simp only [hc, go_sem, Nat.reduceAdd, Nat.reduceMul, Nat.reduceSub, Nat.reduceEqDiff, Nat.reduceLT, Nat.reduceLeDiff, Int.reduceEq, Int.reduceLT, Int.reduceLE, reduceIte, aresults, aresult, hp0] at hx; (try (rw [guardL_if] at hx; split at hx <;> rename_i hc)))); all_goals (subst hx; first | (refine ⟨_, rfl, fun ht => ?_, fun ht => ?_⟩ <;> (try simp only [Bool.not_eq_true', Bool.not_eq_false', Bool.and_eq_true, Bool.and_eq_false_iff, Bool.or_eq_true, Bool.or_eq_false_iff, decide_eq_true_eq, decide_eq_false_iff_not, beq_iff_eq, bne_iff_ne, Bool.not_true, Bool.not_false, Bool.true_eq_false, Bool.false_eq_true, ne_eq, Decidable.not_not, inB_t, inB_f] at ht)) | (refine ⟨_, rfl, ?_⟩; (try simp only [tupOf])))) | refine wSkip ?_ | (refine wExit ?_; simp only [thenQ, blockQ, reduceIte, Nat.reduceEqDiff]) | refine wSeq ?_ | refine wBlock ?_ | (subst hQQ; (try simp only [thenQ, blockQ, reduceIte, Nat.reduceEqDiff])))
    refine wLoop (fun n s => s.1 0 = .lst false [] ∧ s.1 1 = .v (.int .i64 q) ∧ s.1 5 = .v (.int .i64 0) ∧ s.2 = K) (fun n s hI => ?_) 0 _ ⟨rfl, rfl, rfl, rfl⟩
    obtain ⟨e, H1⟩ := s
    obtain ⟨h0, h1, h5, hH⟩ := hI
    simp only at h0 h1 h5 hH
    repeat' (first | ((first | refine wSeqr (fun xx hx => ?_) | refine wIf (fun xx hx => ?_) | refine wReg (fun xx hx => ?_) | (refine wRet ?_; (try simp only [thenQ, blockQ]); (try (subst hQQ; (try simp only [thenQ, blockQ]))); refine ends_by (fun xx hx => ?_))); have hc := trivial; (repeat' (simp only [hc, go_sem, Nat.reduceAdd, Nat.reduceMul, Nat.reduceSub, Nat.reduceEqDiff, Nat.reduceLT, Nat.reduceLeDiff, Int.reduceEq, Int.reduceLT, Int.reduceLE, reduceIte, aresults, aresult, hp0, h0, h1, h5, List.length_nil] at hx; (try (rw [guardL_if] at hx; split at hx <;> rename_i hc)))); all_goals (subst hx; first | (refine ⟨_, rfl, fun ht => ?_, fun ht => ?_⟩ <;> (try simp only [Bool.not_eq_true', Bool.not_eq_false', Bool.and_eq_true, Bool.and_eq_false_iff, Bool.or_eq_true, Bool.or_eq_false_iff, decide_eq_true_eq, decide_eq_false_iff_not, beq_iff_eq, bne_iff_ne, Bool.not_true, Bool.not_false, Bool.true_eq_false, Bool.false_eq_true, ne_eq, Decidable.not_not, inB_t, inB_f] at ht)) | (refine ⟨_, rfl, ?_⟩; (try simp only [tupOf])))) | refine wSkip ?_ | (refine wExit ?_; simp only [thenQ, blockQ, reduceIte, Nat.reduceEqDiff]) | refine wSeq ?_ | refine wBlock ?_ | (subst hQQ; (try simp only [thenQ, blockQ, reduceIte, Nat.reduceEqDiff])))
    all_goals first
      | (exfalso; (try simp only [Bool.not_eq_true', Bool.not_eq_false', Bool.and_eq_true, Bool.and_eq_false_iff, Bool.or_eq_true, Bool.or_eq_false_iff, decide_eq_true_eq, decide_eq_false_iff_not, beq_iff_eq, bne_iff_ne, Bool.not_true, Bool.not_false, Bool.true_eq_false, Bool.false_eq_true, ne_eq, Decidable.not_not, inB_t, inB_f] at *); simp at *; done)
      | (subst hH; constructor <;> first | trivial | rfl)
  obtain ⟨⟨v, H'⟩, h1, rfl, rfl⟩ := key
  rw [call_raw Try.prog cfg0 Try.func66 rfl ok_markMS rfl rfl, h1]
/-- Marks in a laid list of messages. -/
theorem markMS_laid (ms : List MessageM) (hms : ms.length ≤ 1000 ∧ ∀ x ∈ ms, x.Key.Bytes.length ≤ 1000) (q : Int) (hq0 : 0 ≤ q ∧ q ≤ 1000000000) {lo hi : Nat} {z : AV} {K : Hp} (hL : Laid K lo hi [.lst false (ms.map encMessage)] [z]) (hg : hi ≤ K.g) :
    ∃ H', call Try.prog cfg0 0 66 [z, .v (.int .i64 q)] K = some (.v (.int .i64 (nxL q ms)), H') ∧ Laid H' lo hi [.lst false ((mkL q ms).map encMessage)] [z] ∧ OutOf lo hi K H' := by
  rcases hL.inv1 with ⟨h1, rfl⟩ | ⟨b, sz, cs, hne, rfl, hsz, hs, hb1, hb2, hi1, hb⟩
  · have e : ms = [] := by simpa using h1
    subst e
    exact ⟨K, markMS_nil q K, hL, OutOf.refl _ _ _⟩
  · have hl0 : ms ≠ [] := fun e => hne (by rw [e]; rfl)
    have hls : (ms.map encMessage).length = ms.length := by simp
    have hs1 : sz = 10 := by
      cases ms with
      | nil => exact absurd rfl hl0
      | cons a l => exact (hs _ (List.mem_cons_self ..)).symm
    subst hs1
    rw [hls]
    obtain ⟨H', cs', g1, g2, g3, g4⟩ := markMS ms hms q hq0 hb (by omega) hi1
    refine ⟨H', g1, ?_, ⟨g4.1, fun b' h1 h2 => g4.2 b' h1 (by omega)⟩⟩
    refine .lst ?_ (by simp [mkL_len]) (by omega) (fun c hc => by obtain ⟨k, -, rfl⟩ := List.mem_map.1 hc; rfl) g3 g2 (.nil (by omega))
    intro e
    have := congrArg List.length e
    rw [List.length_map, mkL_len, List.length_nil] at this
    exact hl0 (List.length_eq_zero_iff.1 this)
theorem ok_markMR : fnOk Try.prog cfg0 19 Try.f19 = true := by kernel_rfl
theorem markMR_laid (c : Int) (ms : List MessageM) (hms : ms.length ≤ 1000 ∧ ∀ x ∈ ms, x.Key.Bytes.length ≤ 1000) (w : Int) (hq0 : 0 ≤ w ∧ w ≤ 1000000000) {lo hi : Nat} {z : AV} {K : Hp} (hL : Laid K lo hi [.v (.int .i64 c), .lst false (ms.map encMessage)] [.v (.int .i64 c), z]) (hg : hi ≤ K.g) :
    ∃ H', call Try.prog cfg0 0 19 [.agg [.v (.int .i64 c), z], .v (.int .i64 w)] K = some (.v (.int .i64 (nxL w ms)), H') ∧ Laid H' lo hi [.v (.int .i64 c), .lst false ((mkL w ms).map encMessage)] [.v (.int .i64 c), z] ∧ OutOf lo hi K H' := by
  have key : ∃ r, body Try.prog cfg0 19 Try.f19 [.agg [.v (.int .i64 c), z], .v (.int .i64 w)] K = some r ∧ (r.1 = .v (.int .i64 (nxL w ms)) ∧ Laid r.2 lo hi [.v (.int .i64 c), .lst false ((mkL w ms).map encMessage)] [.v (.int .i64 c), z] ∧ OutOf lo hi K r.2) := by
    refine body_wp (rs := [.tmp 4]) rfl rfl (R := fun x H' => x = .v (.int .i64 (nxL w ms)) ∧ Laid H' lo hi [.v (.int .i64 c), .lst false ((mkL w ms).map encMessage)] [.v (.int .i64 c), z] ∧ OutOf lo hi K H') ?_
    have hp0 : ∀ b, cfg0.pol 19 b = 0 := fun b => rfl
    obtain ⟨zs, e, hL1⟩ := hL.invV
    obtain rfl : zs = [z] := by simpa using e.symm
    have k0 := (okc_laid hL1).1
    have j0 := (okc_laid hL1).2
    repeat' ((fail_if_success (first | refine wAt 1 ?_)); first | ((first | refine wSeqr (fun xx hx => ?_) | refine wIf (fun xx hx => ?_) | refine wReg (fun xx hx => ?_) | (refine wRet ?_; (try simp only [thenQ, blockQ]); (try (subst hQQ; (try simp only [thenQ, blockQ]))); refine ends_by (fun xx hx => ?_))); have hc := trivial; (repeat' (simp only [hc, go_sem, Nat.reduceAdd, Nat.reduceMul, Nat.reduceSub, Nat.reduceEqDiff, Nat.reduceLT, Nat.reduceLeDiff, Int.reduceEq, Int.reduceLT, Int.reduceLE, reduceIte, aresults, aresult, hp0, k0, j0] at hx; (try (rw [guardL_if] at hx; split at hx <;> rename_i hc)))); all_goals (subst hx; first | (refine ⟨_, rfl, fun ht => ?_, fun ht => ?_⟩ <;> (try simp only [Bool.not_eq_true', Bool.not_eq_false', Bool.and_eq_true, Bool.and_eq_false_iff, Bool.or_eq_true, Bool.or_eq_false_iff, decide_eq_true_eq, decide_eq_false_iff_not, beq_iff_eq, bne_iff_ne, Bool.not_true, Bool.not_false, Bool.true_eq_false, Bool.false_eq_true, ne_eq, Decidable.not_not, inB_t, inB_f] at ht)) | (refine ⟨_, rfl, ?_⟩; (try simp only [tupOf])))) | refine wSkip ?_ | (refine wExit ?_; simp only [thenQ, blockQ, reduceIte, Nat.reduceEqDiff]) | refine wSeq ?_ | refine wBlock ?_ | (subst hQQ; (try simp only [thenQ, blockQ, reduceIte, Nat.reduceEqDiff])))
    (first | refine wSeqr (fun xx hx => ?_) | refine wReg (fun xx hx => ?_)); have hc := trivial; (repeat' (simp only [hc, go_sem, Nat.reduceAdd, Nat.reduceMul, Nat.reduceSub, Nat.reduceEqDiff, Nat.reduceLT, Nat.reduceLeDiff, Int.reduceEq, Int.reduceLT, Int.reduceLE, reduceIte, aresults, aresult, hp0, k0, j0] at hx; (try (rw [guardL_if] at hx; split at hx <;> rename_i hc)))); generalize hq : call Try.prog cfg0 0 _ _ _ = q at hx
    obtain ⟨H', g1, g2, g3⟩ := markMS_laid ms hms w hq0 (hL1.keep (H' := K.new [.v (.int .i64 c), z]) fun b' h1 h2 => by rw [Hp.new_h, if_neg (by omega)]) (by simp; omega)
    have e1 := hq.symm.trans g1
    clear hq
    subst e1
    have hc := trivial; (repeat' (simp only [hc, go_sem, Nat.reduceAdd, Nat.reduceMul, Nat.reduceSub, Nat.reduceEqDiff, Nat.reduceLT, Nat.reduceLeDiff, Int.reduceEq, Int.reduceLT, Int.reduceLE, reduceIte, aresults, aresult, hp0] at hx; (try (rw [guardL_if] at hx; split at hx <;> rename_i hc)))); all_goals (subst hx; refine ⟨_, rfl, ?_⟩)
    repeat' (first | ((first | refine wSeqr (fun xx hx => ?_) | refine wIf (fun xx hx => ?_) | refine wReg (fun xx hx => ?_) | (refine wRet ?_; (try simp only [thenQ, blockQ]); (try (subst hQQ; (try simp only [thenQ, blockQ]))); refine ends_by (fun xx hx => ?_))); have hc := trivial; (repeat' (simp only [hc, go_sem, Nat.reduceAdd, Nat.reduceMul, Nat.reduceSub, Nat.reduceEqDiff, Nat.reduceLT, Nat.reduceLeDiff, Int.reduceEq, Int.reduceLT, Int.reduceLE, reduceIte, aresults, aresult, hp0] at hx; (try (rw [guardL_if] at hx; split at hx <;> rename_i hc)))); all_goals (subst hx; first | (refine ⟨_, rfl, fun ht => ?_, fun ht => ?_⟩ <;> (try simp only [Bool.not_eq_true', Bool.not_eq_false', Bool.and_eq_true, Bool.and_eq_false_iff, Bool.or_eq_true, Bool.or_eq_false_iff, decide_eq_true_eq, decide_eq_false_iff_not, beq_iff_eq, bne_iff_ne, Bool.not_true, Bool.not_false, Bool.true_eq_false, Bool.false_eq_true, ne_eq, Decidable.not_not, inB_t, inB_f] at ht)) | (refine ⟨_, rfl, ?_⟩; (try simp only [tupOf])))) | refine wSkip ?_ | (refine wExit ?_; simp only [thenQ, blockQ, reduceIte, Nat.reduceEqDiff]) | refine wSeq ?_ | refine wBlock ?_ | (subst hQQ; (try simp only [thenQ, blockQ, reduceIte, Nat.reduceEqDiff])))
    exact ⟨trivial, .v _ g2, OutOf.out g3 (Nat.le_refl _) (Nat.le_refl _) (OutOf.new hg (OutOf.refl _ _ _))⟩
  obtain ⟨⟨v, H'⟩, h1, rfl, h2, h3⟩ := key
  exact ⟨H', by rw [call_raw Try.prog cfg0 Try.func19 rfl ok_markMR rfl rfl, h1], h2, h3⟩
/-- What is decoded is within its bounds. -/
theorem decM_ok {l : List Int} (hb : Eng.Bytes l) (hl : l.length ≤ 1000) : (decM l).ok 1048576 ∧ (decM l).Key.Bytes.length ≤ 1000 := by
  cases l with
  | nil => exact ⟨by simp [decM, MessageM.ok, ClaimM.ok, KeyM.ok, Eng.Bytes], by simp [decM]⟩
  | cons k r =>
    have hk := hb k (by simp)
    have h1 := numA_ok hb 1 4 (by omega)
    have h2 := numA_ok hb 5 1 (by omega)
    have h3 := numA_ok hb 1 1 (by omega)
    have h4 := numA_ok hb 2 4 (by omega)
    have h5 := numA_ok hb 6 1 (by omega)
    have h6 := numA_ok hb 7 4 (by omega)
    have h7 := numA_ok hb 2 1 (by omega)
    have h8 : Eng.Bytes ((k :: r).drop 3) := byt_drop hb 3
    have h9 : Eng.Bytes [] := fun z hz => by simp at hz
    show (decK (k :: r) k).ok 1048576 ∧ (decK (k :: r) k).Key.Bytes.length ≤ 1000
    unfold decK
    (repeat' split) <;> simp only [MessageM.ok, ClaimM.ok, KeyM.ok, List.length_nil, List.length_drop, h8, h9, true_and] <;> omega
theorem stepD_ok {r : List Int} (hb : Eng.Bytes r) (hl : r.length ≤ 1000) {m : MessageM} {t : List Int} (h : stepD r = some (m, t)) : (m.ok 1048576 ∧ m.Key.Bytes.length ≤ 1000) ∧ Eng.Bytes t ∧ t.length ≤ 1000 := by
  cases r with
  | nil => simp [stepD] at h
  | cons a t' =>
    simp only [stepD] at h
    split at h
    · simp at h
    · split at h
      · simp only [Option.some.injEq, Prod.mk.injEq] at h
        obtain ⟨rfl, rfl⟩ := h
        have ht : Eng.Bytes t' := fun z hz => hb z (by simp [hz])
        simp only [List.length_cons] at hl
        exact ⟨decM_ok (byt_take ht _) (by rw [List.length_take]; omega), byt_drop ht _, by rw [List.length_drop]; omega⟩
      · simp at h
theorem decN_ok {r : List Int} (hb : Eng.Bytes r) (hl : r.length ≤ 1000) : ∀ (j : Nat) (p : List MessageM × List Int), decN j r = some p → p.1.length = j ∧ (∀ x ∈ p.1, x.ok 1048576 ∧ x.Key.Bytes.length ≤ 1000) ∧ Eng.Bytes p.2 ∧ p.2.length ≤ 1000 := by
  intro j
  induction j with
  | zero => intro p h; simp [decN] at h; subst h; exact ⟨rfl, by simp, hb, hl⟩
  | succ j ih =>
    intro p h
    obtain ⟨p', h1, h2⟩ := Option.bind_eq_some_iff.1 h
    obtain ⟨⟨m, t⟩, h3, rfl⟩ := Option.map_eq_some_iff.1 h2
    obtain ⟨i1, i2, i3, i4⟩ := ih p' h1
    obtain ⟨s1, s2, s3⟩ := stepD_ok i3 i4 h3
    refine ⟨by simp [i1], fun x hx => ?_, s2, s3⟩
    rcases List.mem_append.1 hx with hx | hx
    · exact i2 x hx
    · simp only [List.mem_singleton] at hx; subst hx; exact s1
theorem dmL_ok {l : List Int} (hb : Eng.Bytes l) : (dmL l).length ≤ 1000 ∧ ∀ x ∈ dmL l, x.ok 1048576 ∧ x.Key.Bytes.length ≤ 1000 := by
  unfold dmL
  split
  · exact ⟨by simp, by simp⟩
  split
  rotate_left
  · exact ⟨by simp, by simp⟩
  unfold allM
  cases l with
  | nil => exact ⟨by simp, by simp⟩
  | cons c r =>
    simp only
    split
    · exact ⟨by simp, by simp⟩
    rename_i h300 _ h12
    simp only [List.length_cons] at h300
    split
    · exact ⟨by simp, by simp⟩
    · rename_i ms rest hd
      obtain ⟨i1, i2, -, -⟩ := decN_ok (r := r) (fun z hz => hb z (by simp [hz])) (by omega) _ _ hd
      have := hb c (by simp)
      exact ⟨by simp only at i1; show ms.length ≤ 1000; omega, i2⟩
end
end Go.Proofs.Ytmncdkecpnoogaa
