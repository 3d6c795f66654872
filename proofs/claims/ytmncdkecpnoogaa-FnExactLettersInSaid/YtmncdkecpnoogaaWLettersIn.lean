/- The law FnExactLettersIn in the engine. -/
import Derived.Test.YtmncdkecpnoogaaK24
namespace Go.Proofs.Ytmncdkecpnoogaa.fnExactLettersIn
open Go Go.RowKit Go.Proofs.Ytmncdkecpnoogaa.Eng
set_option linter.unusedSimpArgs false
set_option linter.unusedVariables false
set_option maxRecDepth 100000
set_option maxHeartbeats 4000000
noncomputable section
theorem mat_rowQ {n : Nat} {ts : List AV} {H : Hp} {q : Option (AV × Hp)} (hq : mat depthD (.agg ts) H = q) (hg : ∀ t ∈ ts, MatG n t) (hn : n ≤ 11) : ∃ zs H', q = some (.agg zs, H') ∧ Ext H H' ∧ Laid H' H.g H'.g ts zs := by
  obtain ⟨zs, H', h1, h2, h3⟩ := mat_row hg hn H
  exact ⟨zs, H', hq.symm.trans h1, h2, h3⟩
theorem deep_laid {n lo hi : Nat} {H : Hp} {ts zs : List AV} (hL : Laid H lo hi ts zs) (hg : ∀ t ∈ ts, MatG n t) (hn : n ≤ 11) : deep H depthD (.agg zs) = some (.agg ts) := (hL.givesO hn hg).1.1
theorem ok_law : fnOk Try.prog cfg0 6 Try.f6 = true := by kernel_rfl
theorem p_law (k : StateM) (hok : k.ok 140737488351232) (a1 : Int) (h1 : -9223372036854775808 ≤ a1 ∧ a1 ≤ 9223372036854775807) : pure Try.prog cfg0 6 Try.f6 [.agg [.lst false (k.Nodes.map encNodeState), .lst false (k.Flights.map encFlight), i64L k.Codes], .v (.int .i64 a1)] = some (.v (.bool true), true) := by
  refine pure_wp (rs := [.tmp 4]) rfl rfl ?_
  have hp0 : ∀ b, cfg0.pol 6 b = (if b = 23 then 1 else if b = 26 then 1 else 0) := fun b => rfl
  obtain ⟨m, hm1, hm2, hm3, hsz⟩ := s_lszState k 1048576 hok ⟨by omega, by omega⟩
  by_cases hneg : m < 0
  · repeat' (first | ((first | refine wSeqr (fun xx hx => ?_) | refine wIf (fun xx hx => ?_) | refine wReg (fun xx hx => ?_) | (refine wRet ?_; (try simp only [thenQ, blockQ]); refine ends_by (fun xx hx => ?_))); have hc := trivial; (repeat' (simp only [hc, go_sem, Nat.reduceAdd, Nat.reduceMul, Nat.reduceSub, Nat.reduceEqDiff, Nat.reduceLT, Nat.reduceLeDiff, Int.reduceEq, Int.reduceLT, Int.reduceLE, reduceIte, aresults, aresult, hp0, hsz, hneg] at hx; (try (rw [guardL_if] at hx; split at hx <;> rename_i hc)))); all_goals (subst hx; first | (refine ⟨_, rfl, fun ht => ?_, fun ht => ?_⟩ <;> (try simp only [Bool.not_eq_true', Bool.not_eq_false', Bool.and_eq_true, Bool.and_eq_false_iff, Bool.or_eq_true, Bool.or_eq_false_iff, decide_eq_true_eq, decide_eq_false_iff_not, beq_iff_eq, bne_iff_ne, Bool.not_true, Bool.not_false, Bool.true_eq_false, Bool.false_eq_true, ne_eq, Decidable.not_not, inB_t, inB_f] at ht)) | (refine ⟨_, rfl, ?_⟩; (try simp only [tupOf])))) | refine wSkip ?_ | (refine wExit ?_; simp only [thenQ, blockQ, reduceIte, Nat.reduceEqDiff]) | refine wSeq ?_ | refine wBlock ?_)
    all_goals try (exfalso; (try simp only [Bool.not_eq_true', Bool.not_eq_false', Bool.and_eq_true, Bool.and_eq_false_iff, Bool.or_eq_true, Bool.or_eq_false_iff, decide_eq_true_eq, decide_eq_false_iff_not, beq_iff_eq, bne_iff_ne, Bool.not_true, Bool.not_false, Bool.true_eq_false, Bool.false_eq_true, ne_eq, Decidable.not_not, inB_t, inB_f] at *); first | omega | exact absurd trivial (by assumption))
    all_goals exact ⟨rfl, rfl⟩
  have hk : k.ok 1048576 := hm3 (by omega)
  have hto := c_ltoState k hk
  have hoo := o_ltoState k hk
  have hsp := c_sLettersIn k a1 hk
  have hii := c_iLettersIn k a1 hk
  have hrl := resL_len (toNode a1) k.Flights 40
  have hoi := (pq_iLettersIn k a1 hk).2
  have hGE := gE_State 7 k
  generalize resC k.Flights.length 40 = c at *
  generalize resL (toNode a1) k.Flights 40 = l at *
  repeat' (first | ((first | refine wSeqr (fun xx hx => ?_) | refine wIf (fun xx hx => ?_) | refine wReg (fun xx hx => ?_) | (refine wRet ?_; (try simp only [thenQ, blockQ]); refine ends_by (fun xx hx => ?_))); have hc := trivial; (repeat' (simp only [hc, go_sem, Nat.reduceAdd, Nat.reduceMul, Nat.reduceSub, Nat.reduceEqDiff, Nat.reduceLT, Nat.reduceLeDiff, Int.reduceEq, Int.reduceLT, Int.reduceLE, reduceIte, aresults, aresult, hp0, hsz, hneg, hto, hsp] at hx; (try (rw [guardL_if] at hx; split at hx <;> rename_i hc)))); all_goals (subst hx; first | (refine ⟨_, rfl, fun ht => ?_, fun ht => ?_⟩ <;> (try simp only [Bool.not_eq_true', Bool.not_eq_false', Bool.and_eq_true, Bool.and_eq_false_iff, Bool.or_eq_true, Bool.or_eq_false_iff, decide_eq_true_eq, decide_eq_false_iff_not, beq_iff_eq, bne_iff_ne, Bool.not_true, Bool.not_false, Bool.true_eq_false, Bool.false_eq_true, ne_eq, Decidable.not_not, inB_t, inB_f] at ht)) | (refine ⟨_, rfl, ?_⟩; (try simp only [tupOf])))) | refine wSkip ?_ | (refine wExit ?_; simp only [thenQ, blockQ, reduceIte, Nat.reduceEqDiff]) | refine wSeq ?_ | refine wBlock ?_)
  all_goals try (exfalso; (try simp only [Bool.not_eq_true', Bool.not_eq_false', Bool.and_eq_true, Bool.and_eq_false_iff, Bool.or_eq_true, Bool.or_eq_false_iff, decide_eq_true_eq, decide_eq_false_iff_not, beq_iff_eq, bne_iff_ne, Bool.not_true, Bool.not_false, Bool.true_eq_false, Bool.false_eq_true, ne_eq, Decidable.not_not, inB_t, inB_f] at *); first | omega | exact absurd trivial (by assumption))
  (first | refine wSeqr (fun xx hx => ?_) | refine wReg (fun xx hx => ?_)); have hc := trivial; (repeat' (simp only [hc, go_sem, Nat.reduceAdd, Nat.reduceMul, Nat.reduceSub, Nat.reduceEqDiff, Nat.reduceLT, Nat.reduceLeDiff, Int.reduceEq, Int.reduceLT, Int.reduceLE, reduceIte, aresults, aresult, hp0, hsz, hneg, hto, hoo] at hx; (try (rw [guardL_if] at hx; split at hx <;> rename_i hc)))); generalize hq : mat depthD _ _ = q at hx
  obtain ⟨zs, H1, rfl, hx1, hL⟩ := mat_rowQ hq (gE_State 7 k) (by omega)
  have g1 : 2 ≤ H1.g := hx1.1
  have r0 : H1.h 0 = some [.lst false (k.Nodes.map encNodeState), .lst false (k.Flights.map encFlight), i64L k.Codes] := (hx1.2 0 (by show 0 < 2; omega)).trans rfl
  have r1 : H1.h 1 = some [.v (.int .i64 c), i64L l] := (hx1.2 1 (by show 1 < 2; omega)).trans rfl
  have hL0 : Laid H1 2 H1.g (encState k) zs := hL
  obtain ⟨z0, t0, m0x, rfl, a0, b0, y0, f1⟩ := hL.invL
  obtain ⟨z1, t1, m1x, rfl, a1, b1, y1, f2⟩ := f1.invL
  obtain ⟨z2, t2, m2x, rfl, a2, b2, y2, f3⟩ := f2.invL
  obtain rfl := f3.invN
  have k0 := (okc_laid y0).1
  have k1 := (okc_laid y1).1
  have k2 := (okc_laid y2).1
  clear hq
  have hc := trivial; (repeat' (simp only [hc, go_sem, Nat.reduceAdd, Nat.reduceMul, Nat.reduceSub, Nat.reduceEqDiff, Nat.reduceLT, Nat.reduceLeDiff, Int.reduceEq, Int.reduceLT, Int.reduceLE, reduceIte, aresults, aresult, hp0, k0, k1, k2] at hx; (try (rw [guardL_if] at hx; split at hx <;> rename_i hc)))); all_goals (subst hx; refine ⟨_, rfl, ?_⟩)
  (first | refine wSeqr (fun xx hx => ?_) | refine wReg (fun xx hx => ?_)); have hc := trivial; (repeat' (simp only [hc, go_sem, Nat.reduceAdd, Nat.reduceMul, Nat.reduceSub, Nat.reduceEqDiff, Nat.reduceLT, Nat.reduceLeDiff, Int.reduceEq, Int.reduceLT, Int.reduceLE, reduceIte, aresults, aresult, hp0, k0, k1, k2, r0, r1] at hx; (try (rw [guardL_if] at hx; split at hx <;> rename_i hc)))); generalize hq : call Try.prog cfg0 1 _ _ _ = q at hx
  have e1 := hq.symm.trans (call_ofO Try.func40 rfl ok_iLettersIn rfl (mapM_c (deep_laid (hL0.reg (by repeat first | exact InReg.refl _ _ _ | refine InReg.set (by omega) ?_ | refine InReg_new (by omega) ?_)) hGE (by omega)) (mapM_c rfl mapM_n)) hoi)
  clear hq
  have ne0 : (0 = H1.g) = False := eq_false (by omega)
  have ne1 : (1 = H1.g) = False := eq_false (by omega)
  have nf0 : ∀ i, (0 = H1.g + i) = False := fun i => eq_false (by omega)
  have nf1 : ∀ i, (1 = H1.g + i) = False := fun i => eq_false (by omega)
  have nh0 : ∀ i, (0 = H1.g + 1 + i) = False := fun i => eq_false (by omega)
  have nh1 : ∀ i, (1 = H1.g + 1 + i) = False := fun i => eq_false (by omega)
  have hl1 : l.length ≤ 1048576 := by omega
  have hkk : (0 : Int) ≤ 1 ∧ (1 : Int) ≤ 4611686018427387904 := by omega
  have hn0 : ¬ (1 + (l.length : Int)) < 0 := by omega
  by_cases hne : l = []
  · subst hne
    have hqA : ∀ H, call Try.prog cfg0 0 41 [.agg [.v (.int .i64 c), .lst false []], .agg [.v (.int .i64 c), i64L []]] H = some (.v (.bool true), H) := fun H => by
      have := c_leqIntsResult c [] c [] (by simp) H
      simp only [decide_true, Bool.and_self] at this
      exact this
    have hqB : ∀ H, call Try.prog cfg0 0 45 [.agg [.v (.int .i64 c), .lst false []], .v (.int .i64 1)] H = some (.v (.int .i64 1), H) := c_lheldIntsResult c 1 0 (by omega) (by omega)
    have e2 := e1.trans (mat_two (d := 10) (y := .int .i64 c) (mat_i64s0 10 _))
    clear e1
    subst e2
    (try simp only [Hp.set_g, Hp.new_g] at hx)
    have hc := trivial; (repeat' (simp only [hc, go_sem, Nat.reduceAdd, Nat.reduceMul, Nat.reduceSub, Nat.reduceEqDiff, Nat.reduceLT, Nat.reduceLeDiff, Int.reduceEq, Int.reduceLT, Int.reduceLE, reduceIte, aresults, aresult, hp0, ne0, ne1, nf0, nf1, nh0, nh1] at hx; (try (rw [guardL_if] at hx; split at hx <;> rename_i hc)))); all_goals (subst hx; refine ⟨_, rfl, ?_⟩)
    repeat' (first | ((first | refine wSeqr (fun xx hx => ?_) | refine wIf (fun xx hx => ?_) | refine wReg (fun xx hx => ?_) | (refine wRet ?_; (try simp only [thenQ, blockQ]); refine ends_by (fun xx hx => ?_))); have hc := trivial; (repeat' (simp only [hc, go_sem, Nat.reduceAdd, Nat.reduceMul, Nat.reduceSub, Nat.reduceEqDiff, Nat.reduceLT, Nat.reduceLeDiff, Int.reduceEq, Int.reduceLT, Int.reduceLE, reduceIte, aresults, aresult, hp0, r0, r1, ne0, ne1, nf0, nf1, nh0, nh1, hto, hqA, decide_true, Bool.and_self, Bool.not_true] at hx; (try (rw [guardL_if] at hx; split at hx <;> rename_i hc)))); all_goals (subst hx; first | (refine ⟨_, rfl, fun ht => ?_, fun ht => ?_⟩ <;> (try simp only [Bool.not_eq_true', Bool.not_eq_false', Bool.and_eq_true, Bool.and_eq_false_iff, Bool.or_eq_true, Bool.or_eq_false_iff, decide_eq_true_eq, decide_eq_false_iff_not, beq_iff_eq, bne_iff_ne, Bool.not_true, Bool.not_false, Bool.true_eq_false, Bool.false_eq_true, ne_eq, Decidable.not_not, inB_t, inB_f] at ht)) | (refine ⟨_, rfl, ?_⟩; (try simp only [tupOf])))) | refine wSkip ?_ | (refine wExit ?_; simp only [thenQ, blockQ, reduceIte, Nat.reduceEqDiff]) | refine wSeq ?_ | refine wBlock ?_)
    all_goals try (exfalso; (try simp only [Bool.not_eq_true', Bool.not_eq_false', Bool.and_eq_true, Bool.and_eq_false_iff, Bool.or_eq_true, Bool.or_eq_false_iff, decide_eq_true_eq, decide_eq_false_iff_not, beq_iff_eq, bne_iff_ne, Bool.not_true, Bool.not_false, Bool.true_eq_false, Bool.false_eq_true, ne_eq, Decidable.not_not, inB_t, inB_f] at *); first | omega | exact absurd trivial (by assumption))
    (first | refine wSeqr (fun xx hx => ?_) | refine wReg (fun xx hx => ?_)); have hc := trivial; (repeat' (simp only [hc, go_sem, Nat.reduceAdd, Nat.reduceMul, Nat.reduceSub, Nat.reduceEqDiff, Nat.reduceLT, Nat.reduceLeDiff, Int.reduceEq, Int.reduceLT, Int.reduceLE, reduceIte, aresults, aresult, hp0, r0, r1, ne0, ne1, nf0, nf1, nh0, nh1, hto] at hx; (try (rw [guardL_if] at hx; split at hx <;> rename_i hc)))); generalize hq : call Try.prog cfg0 0 _ _ _ = q at hx
    have e3 := hq.symm.trans (call_of Try.func42 rfl ok_leqState rfl (by omega) (mapM_c (deep_laid (hL0.reg (by repeat first | exact InReg.refl _ _ _ | refine InReg.set (by omega) ?_ | refine InReg_new (by omega) ?_)) hGE (by omega)) (mapM_c ((fzA_State k).1 _) mapM_n)) (p_leqState k hk) (.inl rfl))
    clear hq
    subst e3
    have hc := trivial; (repeat' (simp only [hc, go_sem, Nat.reduceAdd, Nat.reduceMul, Nat.reduceSub, Nat.reduceEqDiff, Nat.reduceLT, Nat.reduceLeDiff, Int.reduceEq, Int.reduceLT, Int.reduceLE, reduceIte, aresults, aresult, hp0, Bool.not_true] at hx; (try (rw [guardL_if] at hx; split at hx <;> rename_i hc)))); all_goals (subst hx; refine ⟨_, rfl, ?_⟩)
    repeat' (first | ((first | refine wSeqr (fun xx hx => ?_) | refine wIf (fun xx hx => ?_) | refine wReg (fun xx hx => ?_) | (refine wRet ?_; (try simp only [thenQ, blockQ]); refine ends_by (fun xx hx => ?_))); have hc := trivial; (repeat' (simp only [hc, go_sem, Nat.reduceAdd, Nat.reduceMul, Nat.reduceSub, Nat.reduceEqDiff, Nat.reduceLT, Nat.reduceLeDiff, Int.reduceEq, Int.reduceLT, Int.reduceLE, reduceIte, aresults, aresult, hp0, r0, r1, ne0, ne1, nf0, nf1, nh0, nh1, hto] at hx; (try (rw [guardL_if] at hx; split at hx <;> rename_i hc)))); all_goals (subst hx; first | (refine ⟨_, rfl, fun ht => ?_, fun ht => ?_⟩ <;> (try simp only [Bool.not_eq_true', Bool.not_eq_false', Bool.and_eq_true, Bool.and_eq_false_iff, Bool.or_eq_true, Bool.or_eq_false_iff, decide_eq_true_eq, decide_eq_false_iff_not, beq_iff_eq, bne_iff_ne, Bool.not_true, Bool.not_false, Bool.true_eq_false, Bool.false_eq_true, ne_eq, Decidable.not_not, inB_t, inB_f] at ht)) | (refine ⟨_, rfl, ?_⟩; (try simp only [tupOf])))) | refine wSkip ?_ | (refine wExit ?_; simp only [thenQ, blockQ, reduceIte, Nat.reduceEqDiff]) | refine wSeq ?_ | refine wBlock ?_)
    all_goals try (exfalso; (try simp only [Bool.not_eq_true', Bool.not_eq_false', Bool.and_eq_true, Bool.and_eq_false_iff, Bool.or_eq_true, Bool.or_eq_false_iff, decide_eq_true_eq, decide_eq_false_iff_not, beq_iff_eq, bne_iff_ne, Bool.not_true, Bool.not_false, Bool.true_eq_false, Bool.false_eq_true, ne_eq, Decidable.not_not, inB_t, inB_f] at *); first | omega | exact absurd trivial (by assumption))
    (first | refine wSeqr (fun xx hx => ?_) | refine wReg (fun xx hx => ?_)); have hc := trivial; (repeat' (simp only [hc, go_sem, Nat.reduceAdd, Nat.reduceMul, Nat.reduceSub, Nat.reduceEqDiff, Nat.reduceLT, Nat.reduceLeDiff, Int.reduceEq, Int.reduceLT, Int.reduceLE, reduceIte, aresults, aresult, hp0, r0, r1, ne0, ne1, nf0, nf1, nh0, nh1, hto] at hx; (try (rw [guardL_if] at hx; split at hx <;> rename_i hc)))); generalize hq : call Try.prog cfg0 0 _ _ _ = q at hx
    obtain ⟨p5, H5, rfl, u5, o5⟩ := m_State k hk ⟨by omega, by omega⟩ hq (hL0.reg (by repeat first | exact InReg.refl _ _ _ | refine InReg.set (by omega) ?_ | refine InReg_new (by omega) ?_)) (by simp only [Hp.set_g, Hp.new_g]; omega)
    have G5 : H1.g + 2 ≤ H5.g := o5.1
    have s0 := (o5.2 0 (by simp only [Hp.set_g, Hp.new_g]; omega) (.inl (by omega)))
    have s1 := (o5.2 1 (by simp only [Hp.set_g, Hp.new_g]; omega) (.inl (by omega)))
    have s2 := (o5.2 (H1.g + 1) (by simp only [Hp.set_g, Hp.new_g]; omega) (.inr (by omega)))
    simp only [Hp.set_g, Hp.new_g, Hp.set_h, Hp.new_h, ne0, ne1, nf0, nf1, nh0, nh1, if_false, r0, r1, if_true, g_ne1, g_ne2, g_ne3, g_ne4] at s0 s1 s2
    clear hq o5
    have hp5 : ¬ p5 < 0 := by omega
    have m0 : (0 = H5.g) = False := eq_false (by omega)
    have m1 : (1 = H5.g) = False := eq_false (by omega)
    have mf0 : ∀ i, (0 = H5.g + i) = False := fun i => eq_false (by omega)
    have mf1 : ∀ i, (1 = H5.g + i) = False := fun i => eq_false (by omega)
    have m2 : (H1.g + 1 = H5.g) = False := eq_false (by omega)
    have mf2 : ∀ i, (H1.g + 1 = H5.g + i) = False := fun i => eq_false (by omega)
    have m4 : (H5.g = H1.g + 1) = False := eq_false (by omega)
    have mh0 : ∀ i, (0 = H5.g + 1 + i) = False := fun i => eq_false (by omega)
    have mh1 : ∀ i, (1 = H5.g + 1 + i) = False := fun i => eq_false (by omega)
    have mh2 : ∀ i, (H1.g + 1 = H5.g + 1 + i) = False := fun i => eq_false (by omega)
    have mh4 : ∀ i, (H5.g + 1 + i = H1.g + 1) = False := fun i => eq_false (by omega)
    have m6 : (H5.g = H1.g) = False := eq_false (by omega)
    have m7 : (H1.g = H5.g) = False := eq_false (by omega)
    have m8 : (H5.g = 0) = False := eq_false (by omega)
    have m9 : (H1.g = 0) = False := eq_false (by omega)
    have mf4 : ∀ i, (H5.g + i = H1.g + 1) = False := fun i => eq_false (by omega)
    have hc := trivial; (repeat' (simp only [hc, go_sem, Nat.reduceAdd, Nat.reduceMul, Nat.reduceSub, Nat.reduceEqDiff, Nat.reduceLT, Nat.reduceLeDiff, Int.reduceEq, Int.reduceLT, Int.reduceLE, reduceIte, aresults, aresult, hp0] at hx; (try (rw [guardL_if] at hx; split at hx <;> rename_i hc)))); all_goals (subst hx; refine ⟨_, rfl, ?_⟩)
    repeat' (first | ((first | refine wSeqr (fun xx hx => ?_) | refine wIf (fun xx hx => ?_) | refine wReg (fun xx hx => ?_) | (refine wRet ?_; (try simp only [thenQ, blockQ]); refine ends_by (fun xx hx => ?_))); have hc := trivial; (repeat' (simp only [hc, go_sem, Nat.reduceAdd, Nat.reduceMul, Nat.reduceSub, Nat.reduceEqDiff, Nat.reduceLT, Nat.reduceLeDiff, Int.reduceEq, Int.reduceLT, Int.reduceLE, reduceIte, aresults, aresult, hp0, s0, s1, s2, m0, m1, mf0, mf1, m2, mf2, m4, mf4, m6, m7, m8, m9, mh0, mh1, mh2, mh4, ne_eq, not_false_eq_true, not_true_eq_false, and_self, and_true, hto, hii, hp5, hqA, c_leqIntsResult c [] c [] (by simp), decide_true, Bool.and_self, Bool.not_true, cr_markIR0, hqB] at hx; (try (rw [guardL_if] at hx; split at hx <;> rename_i hc)))); all_goals (subst hx; first | (refine ⟨_, rfl, fun ht => ?_, fun ht => ?_⟩ <;> (try simp only [Bool.not_eq_true', Bool.not_eq_false', Bool.and_eq_true, Bool.and_eq_false_iff, Bool.or_eq_true, Bool.or_eq_false_iff, decide_eq_true_eq, decide_eq_false_iff_not, beq_iff_eq, bne_iff_ne, Bool.not_true, Bool.not_false, Bool.true_eq_false, Bool.false_eq_true, ne_eq, Decidable.not_not, inB_t, inB_f] at ht)) | (refine ⟨_, rfl, ?_⟩; (try simp only [tupOf])))) | refine wSkip ?_ | (refine wExit ?_; simp only [thenQ, blockQ, reduceIte, Nat.reduceEqDiff]) | refine wSeq ?_ | refine wBlock ?_)
    all_goals try (exfalso; (try simp only [Bool.not_eq_true', Bool.not_eq_false', Bool.and_eq_true, Bool.and_eq_false_iff, Bool.or_eq_true, Bool.or_eq_false_iff, decide_eq_true_eq, decide_eq_false_iff_not, beq_iff_eq, bne_iff_ne, Bool.not_true, Bool.not_false, Bool.true_eq_false, Bool.false_eq_true, ne_eq, Decidable.not_not, inB_t, inB_f] at *); first | omega | exact absurd trivial (by assumption))
    all_goals try exact ⟨rfl, rfl⟩
  · have e2 := e1.trans (mat_two (d := 10) (y := .int .i64 c) (mat_i64s 9 l hne _))
    clear e1
    subst e2
    (try simp only [Hp.set_g, Hp.new_g] at hx)
    have hc := trivial; (repeat' (simp only [hc, go_sem, Nat.reduceAdd, Nat.reduceMul, Nat.reduceSub, Nat.reduceEqDiff, Nat.reduceLT, Nat.reduceLeDiff, Int.reduceEq, Int.reduceLT, Int.reduceLE, reduceIte, aresults, aresult, hp0, ne0, ne1, nf0, nf1, nh0, nh1] at hx; (try (rw [guardL_if] at hx; split at hx <;> rename_i hc)))); all_goals (subst hx; refine ⟨_, rfl, ?_⟩)
    repeat' (first | ((first | refine wSeqr (fun xx hx => ?_) | refine wIf (fun xx hx => ?_) | refine wReg (fun xx hx => ?_) | (refine wRet ?_; (try simp only [thenQ, blockQ]); refine ends_by (fun xx hx => ?_))); have hc := trivial; (repeat' (simp only [hc, go_sem, Nat.reduceAdd, Nat.reduceMul, Nat.reduceSub, Nat.reduceEqDiff, Nat.reduceLT, Nat.reduceLeDiff, Int.reduceEq, Int.reduceLT, Int.reduceLE, reduceIte, aresults, aresult, hp0, r0, r1, ne0, ne1, nf0, nf1, nh0, nh1, hto, cq_eqIR c l c l hl1, decide_true, Bool.and_self, Bool.not_true] at hx; (try (rw [guardL_if] at hx; split at hx <;> rename_i hc)))); all_goals (subst hx; first | (refine ⟨_, rfl, fun ht => ?_, fun ht => ?_⟩ <;> (try simp only [Bool.not_eq_true', Bool.not_eq_false', Bool.and_eq_true, Bool.and_eq_false_iff, Bool.or_eq_true, Bool.or_eq_false_iff, decide_eq_true_eq, decide_eq_false_iff_not, beq_iff_eq, bne_iff_ne, Bool.not_true, Bool.not_false, Bool.true_eq_false, Bool.false_eq_true, ne_eq, Decidable.not_not, inB_t, inB_f] at ht)) | (refine ⟨_, rfl, ?_⟩; (try simp only [tupOf])))) | refine wSkip ?_ | (refine wExit ?_; simp only [thenQ, blockQ, reduceIte, Nat.reduceEqDiff]) | refine wSeq ?_ | refine wBlock ?_)
    all_goals try (exfalso; (try simp only [Bool.not_eq_true', Bool.not_eq_false', Bool.and_eq_true, Bool.and_eq_false_iff, Bool.or_eq_true, Bool.or_eq_false_iff, decide_eq_true_eq, decide_eq_false_iff_not, beq_iff_eq, bne_iff_ne, Bool.not_true, Bool.not_false, Bool.true_eq_false, Bool.false_eq_true, ne_eq, Decidable.not_not, inB_t, inB_f] at *); first | omega | exact absurd trivial (by assumption))
    (first | refine wSeqr (fun xx hx => ?_) | refine wReg (fun xx hx => ?_)); have hc := trivial; (repeat' (simp only [hc, go_sem, Nat.reduceAdd, Nat.reduceMul, Nat.reduceSub, Nat.reduceEqDiff, Nat.reduceLT, Nat.reduceLeDiff, Int.reduceEq, Int.reduceLT, Int.reduceLE, reduceIte, aresults, aresult, hp0, r0, r1, ne0, ne1, nf0, nf1, nh0, nh1, hto] at hx; (try (rw [guardL_if] at hx; split at hx <;> rename_i hc)))); generalize hq : call Try.prog cfg0 0 _ _ _ = q at hx
    have e3 := hq.symm.trans (call_of Try.func42 rfl ok_leqState rfl (by omega) (mapM_c (deep_laid (hL0.reg (by repeat first | exact InReg.refl _ _ _ | refine InReg.set (by omega) ?_ | refine InReg_new (by omega) ?_)) hGE (by omega)) (mapM_c ((fzA_State k).1 _) mapM_n)) (p_leqState k hk) (.inl rfl))
    clear hq
    subst e3
    have hc := trivial; (repeat' (simp only [hc, go_sem, Nat.reduceAdd, Nat.reduceMul, Nat.reduceSub, Nat.reduceEqDiff, Nat.reduceLT, Nat.reduceLeDiff, Int.reduceEq, Int.reduceLT, Int.reduceLE, reduceIte, aresults, aresult, hp0, Bool.not_true] at hx; (try (rw [guardL_if] at hx; split at hx <;> rename_i hc)))); all_goals (subst hx; refine ⟨_, rfl, ?_⟩)
    repeat' (first | ((first | refine wSeqr (fun xx hx => ?_) | refine wIf (fun xx hx => ?_) | refine wReg (fun xx hx => ?_) | (refine wRet ?_; (try simp only [thenQ, blockQ]); refine ends_by (fun xx hx => ?_))); have hc := trivial; (repeat' (simp only [hc, go_sem, Nat.reduceAdd, Nat.reduceMul, Nat.reduceSub, Nat.reduceEqDiff, Nat.reduceLT, Nat.reduceLeDiff, Int.reduceEq, Int.reduceLT, Int.reduceLE, reduceIte, aresults, aresult, hp0, r0, r1, ne0, ne1, nf0, nf1, nh0, nh1, hto] at hx; (try (rw [guardL_if] at hx; split at hx <;> rename_i hc)))); all_goals (subst hx; first | (refine ⟨_, rfl, fun ht => ?_, fun ht => ?_⟩ <;> (try simp only [Bool.not_eq_true', Bool.not_eq_false', Bool.and_eq_true, Bool.and_eq_false_iff, Bool.or_eq_true, Bool.or_eq_false_iff, decide_eq_true_eq, decide_eq_false_iff_not, beq_iff_eq, bne_iff_ne, Bool.not_true, Bool.not_false, Bool.true_eq_false, Bool.false_eq_true, ne_eq, Decidable.not_not, inB_t, inB_f] at ht)) | (refine ⟨_, rfl, ?_⟩; (try simp only [tupOf])))) | refine wSkip ?_ | (refine wExit ?_; simp only [thenQ, blockQ, reduceIte, Nat.reduceEqDiff]) | refine wSeq ?_ | refine wBlock ?_)
    all_goals try (exfalso; (try simp only [Bool.not_eq_true', Bool.not_eq_false', Bool.and_eq_true, Bool.and_eq_false_iff, Bool.or_eq_true, Bool.or_eq_false_iff, decide_eq_true_eq, decide_eq_false_iff_not, beq_iff_eq, bne_iff_ne, Bool.not_true, Bool.not_false, Bool.true_eq_false, Bool.false_eq_true, ne_eq, Decidable.not_not, inB_t, inB_f] at *); first | omega | exact absurd trivial (by assumption))
    (first | refine wSeqr (fun xx hx => ?_) | refine wReg (fun xx hx => ?_)); have hc := trivial; (repeat' (simp only [hc, go_sem, Nat.reduceAdd, Nat.reduceMul, Nat.reduceSub, Nat.reduceEqDiff, Nat.reduceLT, Nat.reduceLeDiff, Int.reduceEq, Int.reduceLT, Int.reduceLE, reduceIte, aresults, aresult, hp0, r0, r1, ne0, ne1, nf0, nf1, nh0, nh1, hto] at hx; (try (rw [guardL_if] at hx; split at hx <;> rename_i hc)))); generalize hq : call Try.prog cfg0 0 _ _ _ = q at hx
    obtain ⟨p5, H5, rfl, u5, o5⟩ := m_State k hk ⟨by omega, by omega⟩ hq (hL0.reg (by repeat first | exact InReg.refl _ _ _ | refine InReg.set (by omega) ?_ | refine InReg_new (by omega) ?_)) (by simp only [Hp.set_g, Hp.new_g]; omega)
    have G5 : H1.g + 3 ≤ H5.g := o5.1
    have s0 := (o5.2 0 (by simp only [Hp.set_g, Hp.new_g]; omega) (.inl (by omega)))
    have s1 := (o5.2 1 (by simp only [Hp.set_g, Hp.new_g]; omega) (.inl (by omega)))
    have s2 := (o5.2 (H1.g + 1) (by simp only [Hp.set_g, Hp.new_g]; omega) (.inr (by omega)))
    have s3 := (o5.2 (H1.g + 1 + 1) (by simp only [Hp.set_g, Hp.new_g]; omega) (.inr (by omega)))
    simp only [Hp.set_g, Hp.new_g, Hp.set_h, Hp.new_h, ne0, ne1, nf0, nf1, nh0, nh1, if_false, r0, r1, if_true, g_ne1, g_ne2, g_ne3, g_ne4] at s0 s1 s2 s3
    clear hq o5
    have hp5 : ¬ p5 < 0 := by omega
    have m0 : (0 = H5.g) = False := eq_false (by omega)
    have m1 : (1 = H5.g) = False := eq_false (by omega)
    have mf0 : ∀ i, (0 = H5.g + i) = False := fun i => eq_false (by omega)
    have mf1 : ∀ i, (1 = H5.g + i) = False := fun i => eq_false (by omega)
    have m2 : (H1.g + 1 = H5.g) = False := eq_false (by omega)
    have m3 : (H1.g + 1 + 1 = H5.g) = False := eq_false (by omega)
    have mf2 : ∀ i, (H1.g + 1 = H5.g + i) = False := fun i => eq_false (by omega)
    have mf3 : ∀ i, (H1.g + 1 + 1 = H5.g + i) = False := fun i => eq_false (by omega)
    have m4 : (H5.g = H1.g + 1) = False := eq_false (by omega)
    have m5 : (H5.g = H1.g + 1 + 1) = False := eq_false (by omega)
    have mh0 : ∀ i, (0 = H5.g + 1 + i) = False := fun i => eq_false (by omega)
    have mh1 : ∀ i, (1 = H5.g + 1 + i) = False := fun i => eq_false (by omega)
    have mh2 : ∀ i, (H1.g + 1 = H5.g + 1 + i) = False := fun i => eq_false (by omega)
    have mh3 : ∀ i, (H1.g + 1 + 1 = H5.g + 1 + i) = False := fun i => eq_false (by omega)
    have mh4 : ∀ i, (H5.g + 1 + i = H1.g + 1) = False := fun i => eq_false (by omega)
    have mh5 : ∀ i, (H5.g + 1 + i = H1.g + 1 + 1) = False := fun i => eq_false (by omega)
    have m6 : (H5.g = H1.g) = False := eq_false (by omega)
    have m7 : (H1.g = H5.g) = False := eq_false (by omega)
    have m8 : (H5.g = 0) = False := eq_false (by omega)
    have m9 : (H1.g = 0) = False := eq_false (by omega)
    have mf4 : ∀ i, (H5.g + i = H1.g + 1) = False := fun i => eq_false (by omega)
    have mf5 : ∀ i, (H5.g + i = H1.g + 1 + 1) = False := fun i => eq_false (by omega)
    have hc := trivial; (repeat' (simp only [hc, go_sem, Nat.reduceAdd, Nat.reduceMul, Nat.reduceSub, Nat.reduceEqDiff, Nat.reduceLT, Nat.reduceLeDiff, Int.reduceEq, Int.reduceLT, Int.reduceLE, reduceIte, aresults, aresult, hp0] at hx; (try (rw [guardL_if] at hx; split at hx <;> rename_i hc)))); all_goals (subst hx; refine ⟨_, rfl, ?_⟩)
    repeat' (first | ((first | refine wSeqr (fun xx hx => ?_) | refine wIf (fun xx hx => ?_) | refine wReg (fun xx hx => ?_) | (refine wRet ?_; (try simp only [thenQ, blockQ]); refine ends_by (fun xx hx => ?_))); have hc := trivial; (repeat' (simp only [hc, go_sem, Nat.reduceAdd, Nat.reduceMul, Nat.reduceSub, Nat.reduceEqDiff, Nat.reduceLT, Nat.reduceLeDiff, Int.reduceEq, Int.reduceLT, Int.reduceLE, reduceIte, aresults, aresult, hp0, s0, s1, s2, s3, m0, m1, mf0, mf1, m2, m3, mf2, mf3, m4, m5, mf4, mf5, m6, m7, m8, m9, mh0, mh1, mh2, mh3, mh4, mh5, ne_eq, not_false_eq_true, not_true_eq_false, and_self, and_true, hto, hii, hp5, cq_eqIR c l c l hl1, c_leqIntsResult c l c l hl1, decide_true, Bool.and_self, Bool.not_true, cr_markIR c 1 l (by omega) hkk, cq_heldIR c 1 l.length (by omega) hkk, hn0] at hx; (try (rw [guardL_if] at hx; split at hx <;> rename_i hc)))); all_goals (subst hx; first | (refine ⟨_, rfl, fun ht => ?_, fun ht => ?_⟩ <;> (try simp only [Bool.not_eq_true', Bool.not_eq_false', Bool.and_eq_true, Bool.and_eq_false_iff, Bool.or_eq_true, Bool.or_eq_false_iff, decide_eq_true_eq, decide_eq_false_iff_not, beq_iff_eq, bne_iff_ne, Bool.not_true, Bool.not_false, Bool.true_eq_false, Bool.false_eq_true, ne_eq, Decidable.not_not, inB_t, inB_f] at ht)) | (refine ⟨_, rfl, ?_⟩; (try simp only [tupOf])))) | refine wSkip ?_ | (refine wExit ?_; simp only [thenQ, blockQ, reduceIte, Nat.reduceEqDiff]) | refine wSeq ?_ | refine wBlock ?_)
    all_goals try (exfalso; (try simp only [Bool.not_eq_true', Bool.not_eq_false', Bool.and_eq_true, Bool.and_eq_false_iff, Bool.or_eq_true, Bool.or_eq_false_iff, decide_eq_true_eq, decide_eq_false_iff_not, beq_iff_eq, bne_iff_ne, Bool.not_true, Bool.not_false, Bool.true_eq_false, Bool.false_eq_true, ne_eq, Decidable.not_not, inB_t, inB_f] at *); first | omega | exact absurd trivial (by assumption))
    all_goals try exact ⟨rfl, rfl⟩
theorem c_law (k : StateM) (hok : k.ok 140737488351232) (a1 : Int) (h1 : -9223372036854775808 ≤ a1 ∧ a1 ≤ 9223372036854775807) : ∀ H, call Try.prog cfg0 0 6 [.agg [.lst false (k.Nodes.map encNodeState), .lst false (k.Flights.map encFlight), i64L k.Codes], .v (.int .i64 a1)] H = some (.v (.bool true), H) :=
  call_fz Try.func6 rfl ok_law rfl (by simp only [fz_cons, fz_nil, go_sem, and_self]) (p_law k hok a1 h1)

theorem law (xs : List AV) (h : ArgsC Try.prog reach 8 [63, 2] xs) : pure Try.prog cfg0 6 Try.f6 xs = some (.v (.bool true), true) := by
  obtain ⟨x0, r0, rfl, h0, h⟩ := h
  unfold ArgC at h0
  rw [agg63] at h0
  obtain ⟨c0, rfl, h0⟩ := h0
  obtain ⟨a0, rfl, k0⟩ := mirState h0
  obtain ⟨x1, r1, rfl, h1, rfl⟩ := h
  unfold ArgC at h1
  rw [agg2] at h1
  obtain ⟨a1, e1, k1⟩ := shC_i64 u2 h1
  simp only [List.cons.injEq, and_true] at e1
  subst e1
  exact p_law a0 k0 a1 k1
end
end Go.Proofs.Ytmncdkecpnoogaa.fnExactLettersIn
