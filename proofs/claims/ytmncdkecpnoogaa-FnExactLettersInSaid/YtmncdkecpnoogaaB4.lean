/- Contracts: marks in a laid State. -/
import Derived.Test.YtmncdkecpnoogaaB3
namespace Go.Proofs.Ytmncdkecpnoogaa
open Go Go.RowKit Go.Proofs.Ytmncdkecpnoogaa.Eng
set_option linter.unusedSimpArgs false
set_option linter.unusedVariables false
set_option maxRecDepth 100000
set_option maxHeartbeats 4000000
noncomputable section
theorem InReg_new {lo hi : Nat} {H K : Hp} {x : List AV} (hg : hi ≤ H.g) (h : InReg lo hi H K) : InReg lo hi H (K.new x) := ⟨Nat.le_trans h.1 (by simp), fun b h1 h2 => by
  rw [Hp.new_h, if_neg (by have := h.1; omega)]; exact h.2 b h1 h2⟩
theorem ok_markState : fnOk Try.prog cfg0 43 Try.f43 = true := by kernel_rfl
theorem m_State (k : StateM) (hk : k.ok 1048576) {q : Int} (hq0 : 0 ≤ q ∧ q ≤ 4611686018427387904) {lo hi : Nat} {zs : List AV} {K : Hp} {r : Option (AV × Hp)} (hr : call Try.prog cfg0 0 43 [.agg zs, .v (.int .i64 q)] K = r) (hL : Laid K lo hi (encState k) zs) (hg : hi ≤ K.g) :
    ∃ q' H', r = some (.v (.int .i64 q'), H') ∧ q ≤ q' ∧ OutOf lo hi K H' := by
  subst hr
  have key : ∃ r, body Try.prog cfg0 43 Try.f43 [.agg zs, .v (.int .i64 q)] K = some r ∧ (∃ q', r.1 = .v (.int .i64 q') ∧ q ≤ q' ∧ OutOf lo hi K r.2) := by
    refine body_wp (rs := [.tmp 4]) rfl rfl (R := fun x H' => ∃ q', x = .v (.int .i64 q') ∧ q ≤ q' ∧ OutOf lo hi K H') ?_
    have hp0 : ∀ b, cfg0.pol 43 b = 0 := fun b => rfl
    have f0 := hL
    simp only [encState] at f0
    obtain ⟨z0, t0, m0x, rfl, a0, b0, y0, f1⟩ := f0.invL
    obtain ⟨z1, t1, m1x, rfl, a1, b1, y1, f2⟩ := f1.invL
    obtain ⟨z2, t2, m2x, rfl, a2, b2, y2, f3⟩ := f2.invL
    obtain rfl := f3.invN
    have k0 := (okc_laid y0).1
    have k1 := (okc_laid y1).1
    have k2 := (okc_laid y2).1
    have j0 := (okc_laid y0).2
    have j1 := (okc_laid y1).2
    have j2 := (okc_laid y2).2
    have l0 : k.Nodes.length ≤ 1048576 := hk.1.1
    have l1 : k.Flights.length ≤ 1048576 := hk.2.1.1
    have l2 : k.Codes.length ≤ 1048576 := hk.2.2.2
    repeat' (first | ((first | refine wSeqr (fun xx hx => ?_) | refine wIf (fun xx hx => ?_) | refine wReg (fun xx hx => ?_) | (refine wRet ?_; (try simp only [thenQ, blockQ]); refine ends_by (fun xx hx => ?_))); have hc := trivial; (repeat' (simp only [hc, go_sem, Nat.reduceAdd, Nat.reduceMul, Nat.reduceSub, Nat.reduceEqDiff, Nat.reduceLT, Nat.reduceLeDiff, Int.reduceEq, Int.reduceLT, Int.reduceLE, reduceIte, aresults, aresult, hp0, k0, k1, k2, j0, j1, j2] at hx; (try (rw [guardL_if] at hx; split at hx <;> rename_i hc)))); all_goals (subst hx; first | (refine ⟨_, rfl, fun ht => ?_, fun ht => ?_⟩ <;> (try simp only [Bool.not_eq_true', Bool.not_eq_false', Bool.and_eq_true, Bool.and_eq_false_iff, Bool.or_eq_true, Bool.or_eq_false_iff, decide_eq_true_eq, decide_eq_false_iff_not, beq_iff_eq, bne_iff_ne, Bool.not_true, Bool.not_false, Bool.true_eq_false, Bool.false_eq_true, ne_eq, Decidable.not_not, inB_t, inB_f] at ht)) | (refine ⟨_, rfl, ?_⟩; (try simp only [tupOf])))) | refine wSkip ?_ | (refine wExit ?_; simp only [thenQ, blockQ, reduceIte, Nat.reduceEqDiff]) | refine wSeq ?_ | refine wBlock ?_)
    (first | refine wSeqr (fun xx hx => ?_) | refine wReg (fun xx hx => ?_)); have hc := trivial; (repeat' (simp only [hc, go_sem, Nat.reduceAdd, Nat.reduceMul, Nat.reduceSub, Nat.reduceEqDiff, Nat.reduceLT, Nat.reduceLeDiff, Int.reduceEq, Int.reduceLT, Int.reduceLE, reduceIte, aresults, aresult, hp0, k0, k1, k2, j0, j1, j2] at hx; (try (rw [guardL_if] at hx; split at hx <;> rename_i hc)))); generalize hq : call Try.prog cfg0 0 _ _ _ = q at hx
    obtain ⟨p0, H0, rfl, u0, v0, o0⟩ := m_NodeStateS k.Nodes hk.1 ⟨by omega, by omega⟩ hq (y0.reg (InReg_new (by omega) (InReg.refl _ _ _))) (by simp; omega)
    have hc := trivial; (repeat' (simp only [hc, go_sem, Nat.reduceAdd, Nat.reduceMul, Nat.reduceSub, Nat.reduceEqDiff, Nat.reduceLT, Nat.reduceLeDiff, Int.reduceEq, Int.reduceLT, Int.reduceLE, reduceIte, aresults, aresult, hp0] at hx; (try (rw [guardL_if] at hx; split at hx <;> rename_i hc)))); all_goals (subst hx; refine ⟨_, rfl, ?_⟩)
    have G0 : K.g + 1 ≤ H0.g := o0.1
    have hB0 : H0.h K.g = some [z0, z1, z2] := (o0.2 K.g (by simp) (Or.inr (by omega))).trans (by simp [Hp.new_h])
    repeat' (first | ((first | refine wSeqr (fun xx hx => ?_) | refine wIf (fun xx hx => ?_) | refine wReg (fun xx hx => ?_) | (refine wRet ?_; (try simp only [thenQ, blockQ]); refine ends_by (fun xx hx => ?_))); have hc := trivial; (repeat' (simp only [hc, go_sem, Nat.reduceAdd, Nat.reduceMul, Nat.reduceSub, Nat.reduceEqDiff, Nat.reduceLT, Nat.reduceLeDiff, Int.reduceEq, Int.reduceLT, Int.reduceLE, reduceIte, aresults, aresult, hp0, hB0, k1, k2, j1, j2] at hx; (try (rw [guardL_if] at hx; split at hx <;> rename_i hc)))); all_goals (subst hx; first | (refine ⟨_, rfl, fun ht => ?_, fun ht => ?_⟩ <;> (try simp only [Bool.not_eq_true', Bool.not_eq_false', Bool.and_eq_true, Bool.and_eq_false_iff, Bool.or_eq_true, Bool.or_eq_false_iff, decide_eq_true_eq, decide_eq_false_iff_not, beq_iff_eq, bne_iff_ne, Bool.not_true, Bool.not_false, Bool.true_eq_false, Bool.false_eq_true, ne_eq, Decidable.not_not, inB_t, inB_f] at ht)) | (refine ⟨_, rfl, ?_⟩; (try simp only [tupOf])))) | refine wSkip ?_ | (refine wExit ?_; simp only [thenQ, blockQ, reduceIte, Nat.reduceEqDiff]) | refine wSeq ?_ | refine wBlock ?_)
    (first | refine wSeqr (fun xx hx => ?_) | refine wReg (fun xx hx => ?_)); have hc := trivial; (repeat' (simp only [hc, go_sem, Nat.reduceAdd, Nat.reduceMul, Nat.reduceSub, Nat.reduceEqDiff, Nat.reduceLT, Nat.reduceLeDiff, Int.reduceEq, Int.reduceLT, Int.reduceLE, reduceIte, aresults, aresult, hp0, hB0, k1, k2, j1, j2] at hx; (try (rw [guardL_if] at hx; split at hx <;> rename_i hc)))); generalize hq : call Try.prog cfg0 0 _ _ _ = q at hx
    obtain ⟨p1, H1, rfl, u1, v1, o1⟩ := m_FlightS k.Flights hk.2.1 ⟨by omega, by omega⟩ hq (y1.reg (InReg.out o0 (by omega) (by omega) (InReg_new (by omega) (InReg.refl _ _ _)))) (by omega)
    have hc := trivial; (repeat' (simp only [hc, go_sem, Nat.reduceAdd, Nat.reduceMul, Nat.reduceSub, Nat.reduceEqDiff, Nat.reduceLT, Nat.reduceLeDiff, Int.reduceEq, Int.reduceLT, Int.reduceLE, reduceIte, aresults, aresult, hp0] at hx; (try (rw [guardL_if] at hx; split at hx <;> rename_i hc)))); all_goals (subst hx; refine ⟨_, rfl, ?_⟩)
    have G1 : H0.g ≤ H1.g := o1.1
    have hB1 : H1.h K.g = some [z0, z1, z2] := (o1.2 K.g (by omega) (Or.inr (by omega))).trans hB0
    repeat' (first | ((first | refine wSeqr (fun xx hx => ?_) | refine wIf (fun xx hx => ?_) | refine wReg (fun xx hx => ?_) | (refine wRet ?_; (try simp only [thenQ, blockQ]); refine ends_by (fun xx hx => ?_))); have hc := trivial; (repeat' (simp only [hc, go_sem, Nat.reduceAdd, Nat.reduceMul, Nat.reduceSub, Nat.reduceEqDiff, Nat.reduceLT, Nat.reduceLeDiff, Int.reduceEq, Int.reduceLT, Int.reduceLE, reduceIte, aresults, aresult, hp0, hB1, k1, k2, j1, j2] at hx; (try (rw [guardL_if] at hx; split at hx <;> rename_i hc)))); all_goals (subst hx; first | (refine ⟨_, rfl, fun ht => ?_, fun ht => ?_⟩ <;> (try simp only [Bool.not_eq_true', Bool.not_eq_false', Bool.and_eq_true, Bool.and_eq_false_iff, Bool.or_eq_true, Bool.or_eq_false_iff, decide_eq_true_eq, decide_eq_false_iff_not, beq_iff_eq, bne_iff_ne, Bool.not_true, Bool.not_false, Bool.true_eq_false, Bool.false_eq_true, ne_eq, Decidable.not_not, inB_t, inB_f] at ht)) | (refine ⟨_, rfl, ?_⟩; (try simp only [tupOf])))) | refine wSkip ?_ | (refine wExit ?_; simp only [thenQ, blockQ, reduceIte, Nat.reduceEqDiff]) | refine wSeq ?_ | refine wBlock ?_)
    (first | refine wSeqr (fun xx hx => ?_) | refine wReg (fun xx hx => ?_)); have hc := trivial; (repeat' (simp only [hc, go_sem, Nat.reduceAdd, Nat.reduceMul, Nat.reduceSub, Nat.reduceEqDiff, Nat.reduceLT, Nat.reduceLeDiff, Int.reduceEq, Int.reduceLT, Int.reduceLE, reduceIte, aresults, aresult, hp0, hB1, k1, k2, j1, j2] at hx; (try (rw [guardL_if] at hx; split at hx <;> rename_i hc)))); generalize hq : call Try.prog cfg0 0 _ _ _ = q at hx
    obtain ⟨p2, H2, rfl, u2, v2, o2⟩ := m_Int64S k.Codes hk.2.2.2 ⟨by omega, by omega⟩ hq (y2.reg (InReg.out o1 (by omega) (by omega) (InReg.out o0 (by omega) (by omega) (InReg_new (by omega) (InReg.refl _ _ _))))) (by omega)
    have hc := trivial; (repeat' (simp only [hc, go_sem, Nat.reduceAdd, Nat.reduceMul, Nat.reduceSub, Nat.reduceEqDiff, Nat.reduceLT, Nat.reduceLeDiff, Int.reduceEq, Int.reduceLT, Int.reduceLE, reduceIte, aresults, aresult, hp0] at hx; (try (rw [guardL_if] at hx; split at hx <;> rename_i hc)))); all_goals (subst hx; refine ⟨_, rfl, ?_⟩)
    repeat' (first | ((first | refine wSeqr (fun xx hx => ?_) | refine wIf (fun xx hx => ?_) | refine wReg (fun xx hx => ?_) | (refine wRet ?_; (try simp only [thenQ, blockQ]); refine ends_by (fun xx hx => ?_))); have hc := trivial; (repeat' (simp only [hc, go_sem, Nat.reduceAdd, Nat.reduceMul, Nat.reduceSub, Nat.reduceEqDiff, Nat.reduceLT, Nat.reduceLeDiff, Int.reduceEq, Int.reduceLT, Int.reduceLE, reduceIte, aresults, aresult, hp0] at hx; (try (rw [guardL_if] at hx; split at hx <;> rename_i hc)))); all_goals (subst hx; first | (refine ⟨_, rfl, fun ht => ?_, fun ht => ?_⟩ <;> (try simp only [Bool.not_eq_true', Bool.not_eq_false', Bool.and_eq_true, Bool.and_eq_false_iff, Bool.or_eq_true, Bool.or_eq_false_iff, decide_eq_true_eq, decide_eq_false_iff_not, beq_iff_eq, bne_iff_ne, Bool.not_true, Bool.not_false, Bool.true_eq_false, Bool.false_eq_true, ne_eq, Decidable.not_not, inB_t, inB_f] at ht)) | (refine ⟨_, rfl, ?_⟩; (try simp only [tupOf])))) | refine wSkip ?_ | (refine wExit ?_; simp only [thenQ, blockQ, reduceIte, Nat.reduceEqDiff]) | refine wSeq ?_ | refine wBlock ?_)
    exact ⟨p2, rfl, by omega, OutOf.out o2 (by omega) (by omega) (OutOf.out o1 (by omega) (by omega) (OutOf.out o0 (by omega) (by omega) (OutOf.new hg (OutOf.refl _ _ _))))⟩
  obtain ⟨⟨v, H'⟩, h1, q', rfl, h2, h3⟩ := key
  exact ⟨q', H', by rw [call_raw Try.prog cfg0 Try.func43 rfl ok_markState rfl rfl, h1], h2, h3⟩
end
end Go.Proofs.Ytmncdkecpnoogaa
