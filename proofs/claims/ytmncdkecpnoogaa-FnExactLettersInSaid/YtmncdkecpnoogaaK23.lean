/- Contracts: which letters fly to a node, by the reference. -/
import Derived.Test.YtmncdkecpnoogaaK22
namespace Go.Proofs.Ytmncdkecpnoogaa
open Go Go.RowKit Go.Proofs.Ytmncdkecpnoogaa.Eng
set_option linter.unusedSimpArgs false
set_option linter.unusedVariables false
set_option maxRecDepth 100000
set_option maxHeartbeats 4000000
noncomputable section
theorem ok_sLettersIn : fnOk Try.prog cfg0 38 Try.f38 = true := by kernel_rfl
theorem pq_sLettersIn (t : StateM) (c : Int) (hk : t.ok 1048576) : pure Try.prog cfg0 38 Try.f38 [.agg [.lst false (t.Nodes.map encNodeState), .lst false (t.Flights.map encFlight), i64L t.Codes], .v (.int .i64 c)] = some (.agg [.v (.int .i64 (resC t.Flights.length 40)), i64L (resL (toNode c) t.Flights 40)], true) ∧ owned Try.prog cfg0 38 Try.f38 [.agg [.lst false (t.Nodes.map encNodeState), .lst false (t.Flights.map encFlight), i64L t.Codes], .v (.int .i64 c)] = some (.agg [.v (.int .i64 (resC t.Flights.length 40)), i64L (resL (toNode c) t.Flights 40)]) := by
  refine both_wp (rs := [.cell 4 66]) rfl rfl ?_
  have hp0 : ∀ b, cfg0.pol 38 b = 0 := fun b => rfl
  have hl0 := hk.2.1.1
  by_cases hbig : 40 < t.Flights.length
  · have hcc : resC t.Flights.length 40 = 2 := if_pos hbig
    have hll : resL (toNode c) t.Flights 40 = [] := if_pos hbig
    repeat' (first | ((first | refine wSeqr (fun xx hx => ?_) | refine wIf (fun xx hx => ?_) | refine wReg (fun xx hx => ?_) | (refine wRet ?_; (try simp only [thenQ, blockQ]); refine ends_by (fun xx hx => ?_))); have hc := trivial; (repeat' (simp only [hc, go_sem, Nat.reduceAdd, Nat.reduceMul, Nat.reduceSub, Nat.reduceEqDiff, Nat.reduceLT, Nat.reduceLeDiff, Int.reduceEq, Int.reduceLT, Int.reduceLE, reduceIte, aresults, aresult, List.length_map, hp0] at hx; (try (rw [guardL_if] at hx; split at hx <;> rename_i hc)))); all_goals (subst hx; first | (refine ⟨_, rfl, fun ht => ?_, fun ht => ?_⟩ <;> (try simp only [Bool.not_eq_true', Bool.not_eq_false', Bool.and_eq_true, Bool.and_eq_false_iff, Bool.or_eq_true, Bool.or_eq_false_iff, decide_eq_true_eq, decide_eq_false_iff_not, beq_iff_eq, bne_iff_ne, Bool.not_true, Bool.not_false, Bool.true_eq_false, Bool.false_eq_true, ne_eq, Decidable.not_not, inB_t, inB_f] at ht)) | (refine ⟨_, rfl, ?_⟩; (try simp only [tupOf])))) | refine wSkip ?_ | (refine wExit ?_; simp only [thenQ, blockQ, reduceIte, Nat.reduceEqDiff]) | refine wSeq ?_ | refine wBlock ?_)
    all_goals try (exfalso; (try simp only [Bool.not_eq_true', Bool.not_eq_false', Bool.and_eq_true, Bool.and_eq_false_iff, Bool.or_eq_true, Bool.or_eq_false_iff, decide_eq_true_eq, decide_eq_false_iff_not, beq_iff_eq, bne_iff_ne, Bool.not_true, Bool.not_false, Bool.true_eq_false, Bool.false_eq_true, ne_eq, Decidable.not_not, inB_t, inB_f] at *); first | omega | exact absurd trivial (by assumption))
    rw [hcc, hll]
    exact gives_ints (n := 0) RAcc.nil rfl
  have hcc : resC t.Flights.length 40 = 0 := if_neg hbig
  have hll : resL (toNode c) t.Flights 40 = idxTo (toNode c) t.Flights t.Flights.length := if_neg hbig
  repeat' (first | ((first | refine wSeqr (fun xx hx => ?_) | refine wIf (fun xx hx => ?_) | refine wReg (fun xx hx => ?_) | (refine wRet ?_; (try simp only [thenQ, blockQ]); refine ends_by (fun xx hx => ?_))); have hc := trivial; (repeat' (simp only [hc, go_sem, Nat.reduceAdd, Nat.reduceMul, Nat.reduceSub, Nat.reduceEqDiff, Nat.reduceLT, Nat.reduceLeDiff, Int.reduceEq, Int.reduceLT, Int.reduceLE, reduceIte, aresults, aresult, List.length_map, hp0] at hx; (try (rw [guardL_if] at hx; split at hx <;> rename_i hc)))); all_goals (subst hx; first | (refine ⟨_, rfl, fun ht => ?_, fun ht => ?_⟩ <;> (try simp only [Bool.not_eq_true', Bool.not_eq_false', Bool.and_eq_true, Bool.and_eq_false_iff, Bool.or_eq_true, Bool.or_eq_false_iff, decide_eq_true_eq, decide_eq_false_iff_not, beq_iff_eq, bne_iff_ne, Bool.not_true, Bool.not_false, Bool.true_eq_false, Bool.false_eq_true, ne_eq, Decidable.not_not, inB_t, inB_f] at ht)) | (refine ⟨_, rfl, ?_⟩; (try simp only [tupOf])))) | refine wSkip ?_ | (refine wExit ?_; simp only [thenQ, blockQ, reduceIte, Nat.reduceEqDiff]) | refine wSeq ?_ | refine wBlock ?_)
  all_goals try (exfalso; (try simp only [Bool.not_eq_true', Bool.not_eq_false', Bool.and_eq_true, Bool.and_eq_false_iff, Bool.or_eq_true, Bool.or_eq_false_iff, decide_eq_true_eq, decide_eq_false_iff_not, beq_iff_eq, bne_iff_ne, Bool.not_true, Bool.not_false, Bool.true_eq_false, Bool.false_eq_true, ne_eq, Decidable.not_not, inB_t, inB_f] at *); first | omega | exact absurd trivial (by assumption))
  refine wLoop (fun k s => ∃ (j : Nat) (x : AV), j + k = t.Flights.length ∧ s.1 1 = .v (.int .i64 c) ∧ s.1 2 = .ptr 0 0 ∧ s.1 4 = .ptr 1 0 ∧ s.1 5 = .ptr 2 0 ∧ s.1 6 = .v (.int .i64 (j : Nat)) ∧ (s.2.h 0 = some [.lst false (t.Nodes.map encNodeState), .lst false (t.Flights.map encFlight), i64L t.Codes]) ∧ (s.2.h 1 = some [.v (.int .i64 0), .v (.slice none 0 0)]) ∧ (s.2.h 2 = some [.v (.int .i64 0), x]) ∧ (2 < s.2.g) ∧ (RAcc s.2 x 1 ((idxTo (toNode c) t.Flights j).map icell) (idxTo (toNode c) t.Flights j).length) ∧ (Off 0 x ∧ Off 1 x ∧ Off 2 x)) (fun k s hI => ?_) (t.Flights.length) _ ?_
  · obtain ⟨e, H⟩ := s
    obtain ⟨j, x, hj, h1, h2, h4, h5, h6, hb0, hb1, hb2, hg0, hacc, hoff⟩ := hI
    simp only at h1 h2 h4 h5 h6 hb0 hb1 hb2 hg0 hacc hoff
    have hne1 : ¬ 1 = H.g := by omega
    have hne2 : ¬ 2 = H.g := by omega
    have hil := idxTo_len (toNode c) t.Flights j
    by_cases hlt : j < t.Flights.length
    · obtain ⟨n, hg, hd, hm⟩ := at_drop hlt
      have hg' := map_at (f := encFlight) hg
      cases hst : decide (n.To = c) with
      | false =>
        have hst' : ¬ n.To = c := of_decide_eq_false hst
        repeat' (first | ((first | refine wSeqr (fun xx hx => ?_) | refine wIf (fun xx hx => ?_) | refine wReg (fun xx hx => ?_) | (refine wRet ?_; (try simp only [thenQ, blockQ]); refine ends_by (fun xx hx => ?_))); have hc := trivial; (repeat' (simp only [hc, go_sem, Nat.reduceAdd, Nat.reduceMul, Nat.reduceSub, Nat.reduceEqDiff, Nat.reduceLT, Nat.reduceLeDiff, Int.reduceEq, Int.reduceLT, Int.reduceLE, reduceIte, aresults, aresult, h1, h2, h6, hb0, List.length_map, hg', hne1, hne2, hst', wrap_succ (show j < 9223372036854775807 by omega)] at hx; (try (rw [guardL_if] at hx; split at hx <;> rename_i hc)))); all_goals (subst hx; first | (refine ⟨_, rfl, fun ht => ?_, fun ht => ?_⟩ <;> (try simp only [Bool.not_eq_true', Bool.not_eq_false', Bool.and_eq_true, Bool.and_eq_false_iff, Bool.or_eq_true, Bool.or_eq_false_iff, decide_eq_true_eq, decide_eq_false_iff_not, beq_iff_eq, bne_iff_ne, Bool.not_true, Bool.not_false, Bool.true_eq_false, Bool.false_eq_true, ne_eq, Decidable.not_not, inB_t, inB_f] at ht)) | (refine ⟨_, rfl, ?_⟩; (try simp only [tupOf])))) | refine wSkip ?_ | (refine wExit ?_; simp only [thenQ, blockQ, reduceIte, Nat.reduceEqDiff]) | refine wSeq ?_ | refine wBlock ?_)
        all_goals try (exfalso; (try simp only [Bool.not_eq_true', Bool.not_eq_false', Bool.and_eq_true, Bool.and_eq_false_iff, Bool.or_eq_true, Bool.or_eq_false_iff, decide_eq_true_eq, decide_eq_false_iff_not, beq_iff_eq, bne_iff_ne, Bool.not_true, Bool.not_false, Bool.true_eq_false, Bool.false_eq_true, ne_eq, Decidable.not_not, inB_t, inB_f] at *); first | omega | exact absurd trivial (by assumption))
        refine ⟨_, Nat.sub_lt (by omega) Nat.one_pos, j + 1, x, by omega, by simp only [upd_eq, Nat.reduceEqDiff, if_false, if_true, h1, h2, h4, h5, h6], by simp only [upd_eq, Nat.reduceEqDiff, if_false, if_true, h1, h2, h4, h5, h6], by simp only [upd_eq, Nat.reduceEqDiff, if_false, if_true, h1, h2, h4, h5, h6], by simp only [upd_eq, Nat.reduceEqDiff, if_false, if_true, h1, h2, h4, h5, h6], by simp only [upd_eq, Nat.reduceEqDiff, if_false, if_true, h1, h2, h4, h5, h6], ?_⟩
        rw [idxTo_f (p := toNode c) hg hst]
        exact ⟨hb0, hb1, hb2, hg0, hacc, hoff⟩
      | true =>
        have hst' : n.To = c := of_decide_eq_true hst
        repeat' (first | ((first | refine wSeqr (fun xx hx => ?_) | refine wIf (fun xx hx => ?_) | refine wReg (fun xx hx => ?_) | (refine wRet ?_; (try simp only [thenQ, blockQ]); refine ends_by (fun xx hx => ?_))); have hc := trivial; (repeat' (simp only [hc, go_sem, Nat.reduceAdd, Nat.reduceMul, Nat.reduceSub, Nat.reduceEqDiff, Nat.reduceLT, Nat.reduceLeDiff, Int.reduceEq, Int.reduceLT, Int.reduceLE, reduceIte, aresults, aresult, h1, h2, h6, hb0, List.length_map, hg', hne1, hne2, hst', wrap_succ (show j < 9223372036854775807 by omega)] at hx; (try (rw [guardL_if] at hx; split at hx <;> rename_i hc)))); all_goals (subst hx; first | (refine ⟨_, rfl, fun ht => ?_, fun ht => ?_⟩ <;> (try simp only [Bool.not_eq_true', Bool.not_eq_false', Bool.and_eq_true, Bool.and_eq_false_iff, Bool.or_eq_true, Bool.or_eq_false_iff, decide_eq_true_eq, decide_eq_false_iff_not, beq_iff_eq, bne_iff_ne, Bool.not_true, Bool.not_false, Bool.true_eq_false, Bool.false_eq_true, ne_eq, Decidable.not_not, inB_t, inB_f] at ht)) | (refine ⟨_, rfl, ?_⟩; (try simp only [tupOf])))) | refine wSkip ?_ | (refine wExit ?_; simp only [thenQ, blockQ, reduceIte, Nat.reduceEqDiff]) | refine wSeq ?_ | refine wBlock ?_)
        all_goals try (exfalso; (try simp only [Bool.not_eq_true', Bool.not_eq_false', Bool.and_eq_true, Bool.and_eq_false_iff, Bool.or_eq_true, Bool.or_eq_false_iff, decide_eq_true_eq, decide_eq_false_iff_not, beq_iff_eq, bne_iff_ne, Bool.not_true, Bool.not_false, Bool.true_eq_false, Bool.false_eq_true, ne_eq, Decidable.not_not, inB_t, inB_f] at *); first | omega | exact absurd trivial (by assumption))
        refine wReg (fun xx hx => ?_); have hc := trivial; (repeat' (simp only [hc, go_sem, Nat.reduceAdd, Nat.reduceMul, Nat.reduceSub, Nat.reduceEqDiff, Nat.reduceLT, Nat.reduceLeDiff, Int.reduceEq, Int.reduceLT, Int.reduceLE, reduceIte, aresults, aresult, h5, h6, hb2, hp0] at hx; (try (rw [guardL_if] at hx; split at hx <;> rename_i hc)))); generalize hq : aappend Try.prog _ _ _ _ = q at hx
        obtain ⟨x', H', rfl, hacc', hg1, hk2, ho2⟩ := app_rows hq el61 zero2 by2 int61 (sz := 1) rfl (by omega) hacc (m := 1) rfl (afirst_one _ _ [icell (j : Nat)]) rfl (by omega) (by omega)
        have q0 := hk2 0 (by omega) hoff.1
        have q1 := hk2 1 (by omega) hoff.2.1
        have q2 := hk2 2 (by omega) hoff.2.2
        rw [hb0] at q0
        rw [hb1] at q1
        rw [hb2] at q2
        have hx' := RAcc.one hacc'
        have hc := trivial; (repeat' (simp only [hc, go_sem, Nat.reduceAdd, Nat.reduceMul, Nat.reduceSub, Nat.reduceEqDiff, Nat.reduceLT, Nat.reduceLeDiff, Int.reduceEq, Int.reduceLT, Int.reduceLE, reduceIte, aresults, aresult, h5, q2, hx'.1, hx'.2] at hx; (try (rw [guardL_if] at hx; split at hx <;> rename_i hc)))); all_goals (subst hx; refine ⟨_, rfl, ?_⟩)
        repeat' (first | ((first | refine wSeqr (fun xx hx => ?_) | refine wIf (fun xx hx => ?_) | refine wReg (fun xx hx => ?_) | (refine wRet ?_; (try simp only [thenQ, blockQ]); refine ends_by (fun xx hx => ?_))); have hc := trivial; (repeat' (simp only [hc, go_sem, Nat.reduceAdd, Nat.reduceMul, Nat.reduceSub, Nat.reduceEqDiff, Nat.reduceLT, Nat.reduceLeDiff, Int.reduceEq, Int.reduceLT, Int.reduceLE, reduceIte, aresults, aresult, h6, wrap_succ (show j < 9223372036854775807 by omega)] at hx; (try (rw [guardL_if] at hx; split at hx <;> rename_i hc)))); all_goals (subst hx; first | (refine ⟨_, rfl, fun ht => ?_, fun ht => ?_⟩ <;> (try simp only [Bool.not_eq_true', Bool.not_eq_false', Bool.and_eq_true, Bool.and_eq_false_iff, Bool.or_eq_true, Bool.or_eq_false_iff, decide_eq_true_eq, decide_eq_false_iff_not, beq_iff_eq, bne_iff_ne, Bool.not_true, Bool.not_false, Bool.true_eq_false, Bool.false_eq_true, ne_eq, Decidable.not_not, inB_t, inB_f] at ht)) | (refine ⟨_, rfl, ?_⟩; (try simp only [tupOf])))) | refine wSkip ?_ | (refine wExit ?_; simp only [thenQ, blockQ, reduceIte, Nat.reduceEqDiff]) | refine wSeq ?_ | refine wBlock ?_)
        refine ⟨_, Nat.sub_lt (by omega) Nat.one_pos, j + 1, x', by omega, by simp only [upd_eq, Nat.reduceEqDiff, if_false, if_true, h1, h2, h4, h5, h6], by simp only [upd_eq, Nat.reduceEqDiff, if_false, if_true, h1, h2, h4, h5, h6], by simp only [upd_eq, Nat.reduceEqDiff, if_false, if_true, h1, h2, h4, h5, h6], by simp only [upd_eq, Nat.reduceEqDiff, if_false, if_true, h1, h2, h4, h5, h6], by simp only [upd_eq, Nat.reduceEqDiff, if_false, if_true, h1, h2, h4, h5, h6], ?_⟩
        have hgg : 2 < H'.g := by omega
        have o0 : Off 0 x' := ho2 0 (by omega) hoff.1
        have o1 : Off 1 x' := ho2 1 (by omega) hoff.2.1
        have o2 : Off 2 x' := ho2 2 (by omega) hoff.2.2
        rw [idxTo_t (p := toNode c) hg hst]
        refine ⟨by simp only [Hp.set_h]; exact q0, by simp only [Hp.set_h]; exact q1, by simp only [Hp.set_h, if_true], hgg, ?_, o0, o1, o2⟩
        rw [List.map_append, List.length_append]
        exact (hacc'.setOff o2 _)
    · have hxx := RAcc.one hacc
      repeat' (first | ((first | refine wSeqr (fun xx hx => ?_) | refine wIf (fun xx hx => ?_) | refine wReg (fun xx hx => ?_) | (refine wRet ?_; (try simp only [thenQ, blockQ]); refine ends_by (fun xx hx => ?_))); have hc := trivial; (repeat' (simp only [hc, go_sem, Nat.reduceAdd, Nat.reduceMul, Nat.reduceSub, Nat.reduceEqDiff, Nat.reduceLT, Nat.reduceLeDiff, Int.reduceEq, Int.reduceLT, Int.reduceLE, reduceIte, aresults, aresult, h6, hb0, List.length_map, h2, h4, h5, hb1, hb2, hxx.1, hxx.2] at hx; (try (rw [guardL_if] at hx; split at hx <;> rename_i hc)))); all_goals (subst hx; first | (refine ⟨_, rfl, fun ht => ?_, fun ht => ?_⟩ <;> (try simp only [Bool.not_eq_true', Bool.not_eq_false', Bool.and_eq_true, Bool.and_eq_false_iff, Bool.or_eq_true, Bool.or_eq_false_iff, decide_eq_true_eq, decide_eq_false_iff_not, beq_iff_eq, bne_iff_ne, Bool.not_true, Bool.not_false, Bool.true_eq_false, Bool.false_eq_true, ne_eq, Decidable.not_not, inB_t, inB_f] at ht)) | (refine ⟨_, rfl, ?_⟩; (try simp only [tupOf])))) | refine wSkip ?_ | (refine wExit ?_; simp only [thenQ, blockQ, reduceIte, Nat.reduceEqDiff]) | refine wSeq ?_ | refine wBlock ?_)
      all_goals try (exfalso; (try simp only [Bool.not_eq_true', Bool.not_eq_false', Bool.and_eq_true, Bool.and_eq_false_iff, Bool.or_eq_true, Bool.or_eq_false_iff, decide_eq_true_eq, decide_eq_false_iff_not, beq_iff_eq, bne_iff_ne, Bool.not_true, Bool.not_false, Bool.true_eq_false, Bool.false_eq_true, ne_eq, Decidable.not_not, inB_t, inB_f] at *); first | omega | exact absurd trivial (by assumption))
      rw [hcc, hll]
      have hj' : j = t.Flights.length := by omega
      rw [← hj']
      refine gives_ints ((hacc.setOff hoff.2.1 _).keep (Nat.le_refl _) fun _ _ _ => rfl) rfl
  · refine ⟨0, .v (.slice none 0 0), by omega, rfl, rfl, rfl, rfl, rfl, ?_⟩
    exact ⟨rfl, rfl, rfl, by simp, RAcc.nil, off_nil, off_nil, off_nil⟩
theorem p_sLettersIn (t : StateM) (c : Int) (hk : t.ok 1048576) : pure Try.prog cfg0 38 Try.f38 [.agg [.lst false (t.Nodes.map encNodeState), .lst false (t.Flights.map encFlight), i64L t.Codes], .v (.int .i64 c)] = some (.agg [.v (.int .i64 (resC t.Flights.length 40)), i64L (resL (toNode c) t.Flights 40)], true) := (pq_sLettersIn t c hk).1
theorem c_sLettersIn (t : StateM) (c : Int) (hk : t.ok 1048576) : ∀ H, call Try.prog cfg0 0 38 [.agg [.lst false (t.Nodes.map encNodeState), .lst false (t.Flights.map encFlight), i64L t.Codes], .v (.int .i64 c)] H = some (.agg [.v (.int .i64 (resC t.Flights.length 40)), i64L (resL (toNode c) t.Flights 40)], H) :=
  call_fz Try.func38 rfl ok_sLettersIn rfl (by simp only [fz_cons, fz_nil, go_sem, and_self]) (pq_sLettersIn t c hk).1
theorem o_sLettersIn (t : StateM) (c : Int) (hk : t.ok 1048576) : ∀ H, call Try.prog cfg0 1 38 [.agg [.lst false (t.Nodes.map encNodeState), .lst false (t.Flights.map encFlight), i64L t.Codes], .v (.int .i64 c)] H = mat depthD (.agg [.v (.int .i64 (resC t.Flights.length 40)), i64L (resL (toNode c) t.Flights 40)]) H := fun H =>
  call_ofO Try.func38 rfl ok_sLettersIn rfl (mapM_self fun x hx => ((show ∀ x ∈ ([.agg [.lst false (t.Nodes.map encNodeState), .lst false (t.Flights.map encFlight), i64L t.Codes], .v (.int .i64 c)] : List AV), Fz depthD x by simp only [fz_cons, fz_nil, go_sem, and_self]) x hx).1 H) (pq_sLettersIn t c hk).2

end
end Go.Proofs.Ytmncdkecpnoogaa
