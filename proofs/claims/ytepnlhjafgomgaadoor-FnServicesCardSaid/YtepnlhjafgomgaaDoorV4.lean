/- Contracts: SameRecords, both sides. -/
import Derived.Test.YtepnlhjafgomgaaDoorV3
namespace Go.Proofs.YtepnlhjafgomgaaDoor
open Go Go.RowKit Go.Proofs.YtepnlhjafgomgaaDoor.Eng
set_option linter.unusedSimpArgs false
set_option linter.unusedVariables false
set_option maxRecDepth 100000
set_option maxHeartbeats 1000000
noncomputable section
theorem ok_EqRec : fnOk Tryd.prog cfg0 30 Tryd.f30 = true := by kernel_rfl
theorem p_EqRec (a b : List RecordM) (hl : a.length ≤ 1048576) : pure Tryd.prog cfg0 30 Tryd.f30 [.lst false (a.map encRecord), .lst false (b.map encRecord)] = some (.v (.bool (decide (a = b))), true) := by
  refine pure_wp (rs := [.tmp 4]) rfl rfl ?_
  have hp0 : ∀ b, cfg0.pol 30 b = 0 := fun b => rfl
  by_cases hlen : a.length = b.length
  rotate_left
  · have hlI : ¬ ((a.length : Nat) : Int) = (b.length : Int) := by omega
    rw [decide_eq_false (fun h => hlen (by rw [h]))]
    repeat' (first | ((first | refine wSeqr (fun xx hx => ?_) | refine wIf (fun xx hx => ?_) | refine wReg (fun xx hx => ?_) | (refine wRet ?_; (try simp only [thenQ, blockQ]); refine ends_by (fun xx hx => ?_))); have hc := trivial; (repeat' (simp only [hc, Nat.reduceBEq, go_sem, Nat.reduceAdd, Nat.reduceMul, Nat.reduceSub, Nat.reduceEqDiff, Nat.reduceLT, Nat.reduceLeDiff, Int.reduceEq, Int.reduceLT, Int.reduceLE, reduceIte, aresults, aresult, hp0, hlI, List.length_map] at hx; (try (rw [guardL_if] at hx; split at hx <;> rename_i hc)))); all_goals (subst hx; first | (refine ⟨_, rfl, fun ht => ?_, fun ht => ?_⟩ <;> (try simp only [bbs, beq_iff_eq, bne_iff_ne, ne_eq] at ht)) | (refine ⟨_, rfl, ?_⟩; (try simp only [tupOf])))) | refine wSkip ?_ | (refine wExit ?_; simp only [thenQ, blockQ, reduceIte, Nat.reduceEqDiff]) | refine wSeq ?_ | refine wBlock ?_)
    all_goals try (exfalso; (try simp only [bbs, beq_iff_eq, bne_iff_ne, ne_eq] at *); first | omega | exact absurd trivial (by assumption))
    all_goals exact gives_boolv rfl
  have hlI : (((a.length : Nat) : Int) = (b.length : Int)) = True := eq_true (by omega)
  repeat' ((fail_if_success (first | refine wAt 4 ?_ | refine wAt 9 ?_)); first | ((first | refine wSeqr (fun xx hx => ?_) | refine wIf (fun xx hx => ?_) | refine wReg (fun xx hx => ?_) | (refine wRet ?_; (try simp only [thenQ, blockQ]); refine ends_by (fun xx hx => ?_))); have hc := trivial; (repeat' (simp only [hc, Nat.reduceBEq, go_sem, Nat.reduceAdd, Nat.reduceMul, Nat.reduceSub, Nat.reduceEqDiff, Nat.reduceLT, Nat.reduceLeDiff, Int.reduceEq, Int.reduceLT, Int.reduceLE, reduceIte, aresults, aresult, hp0, hlI, not_true_eq_false, decide_false, List.length_map] at hx; (try (rw [guardL_if] at hx; split at hx <;> rename_i hc)))); all_goals (subst hx; first | (refine ⟨_, rfl, fun ht => ?_, fun ht => ?_⟩ <;> (try simp only [bbs, beq_iff_eq, bne_iff_ne, ne_eq] at ht)) | (refine ⟨_, rfl, ?_⟩; (try simp only [tupOf])))) | refine wSkip ?_ | (refine wExit ?_; simp only [thenQ, blockQ, reduceIte, Nat.reduceEqDiff]) | refine wSeq ?_ | refine wBlock ?_)
  all_goals try (exfalso; (try simp only [bbs, beq_iff_eq, bne_iff_ne, ne_eq] at *); first | omega | exact absurd trivial (by assumption))
  refine wLoop (fun k s => ∃ (j : Nat), j + k = a.length ∧ s.1 0 = .lst false (a.map encRecord) ∧ s.1 1 = .lst false (b.map encRecord) ∧ s.1 12 = .v (.int .i64 (a.length : Nat)) ∧ s.1 13 = .v (.int .i64 (j : Nat)) ∧ (a.take j = b.take j)) (fun k s hI => ?_) (a.length) _ ?_
  · obtain ⟨e, H⟩ := s
    obtain ⟨j, hj, h0, h1, h12, h13, htk⟩ := hI
    simp only at h0 h1 h12 h13 htk
    by_cases hlt : j < a.length
    · obtain ⟨x, gx, -, -⟩ := at_drop hlt
      obtain ⟨y, gy, -, -⟩ := at_drop (show j < b.length by omega)
      have gx' := map_at (f := encRecord) gx
      have gy' := map_at (f := encRecord) gy
      have hltI : ((j : Nat) : Int) < (a.length : Int) := by omega
      have w4 : IntKind.wrap .i64 ((j : Nat) + 1 : Int) = ((j + 1 : Nat) : Int) := wrap_succ (by omega)
      repeat' (first | ((first | refine wSeqr (fun xx hx => ?_) | refine wIf (fun xx hx => ?_) | refine wReg (fun xx hx => ?_) | (refine wRet ?_; (try simp only [thenQ, blockQ]); refine ends_by (fun xx hx => ?_))); have hc := trivial; (repeat' (simp only [hc, Nat.reduceBEq, go_sem, Nat.reduceAdd, Nat.reduceMul, Nat.reduceSub, Nat.reduceEqDiff, Nat.reduceLT, Nat.reduceLeDiff, Int.reduceEq, Int.reduceLT, Int.reduceLE, reduceIte, aresults, aresult, hp0, h0, h1, h12, h13, hltI, gx', gy', encRecord, w4, List.length_map] at hx; (try (rw [guardL_if] at hx; split at hx <;> rename_i hc)))); all_goals (subst hx; first | (refine ⟨_, rfl, fun ht => ?_, fun ht => ?_⟩ <;> (try simp only [bbs, beq_iff_eq, bne_iff_ne, ne_eq] at ht)) | (refine ⟨_, rfl, ?_⟩; (try simp only [tupOf])))) | refine wSkip ?_ | (refine wExit ?_; simp only [thenQ, blockQ, reduceIte, Nat.reduceEqDiff]) | refine wSeq ?_ | refine wBlock ?_)
      all_goals try (exfalso; (try simp only [bbs, beq_iff_eq, bne_iff_ne, ne_eq] at *); first | omega | exact absurd trivial (by assumption))
      all_goals first
        | (refine gives_boolv ?_
           have hne : ¬ x = y := by first | exact ht | ((try simp only [bbs, beq_iff_eq, bne_iff_ne, ne_eq] at *); rw [eq_Record]; simp_all)
           rw [decide_eq_false]
           intro h; rw [h] at gx; exact hne (Option.some.inj (gx.symm.trans gy)))
        | skip
      refine ⟨_, Nat.sub_lt (by omega) Nat.one_pos, j + 1, by omega, by simp only [upd_eq, Nat.reduceEqDiff, if_false, if_true, h0, h1, h12, h13], by simp only [upd_eq, Nat.reduceEqDiff, if_false, if_true, h0, h1, h12, h13], by simp only [upd_eq, Nat.reduceEqDiff, if_false, if_true, h0, h1, h12, h13], by simp only [upd_eq, Nat.reduceEqDiff, if_false, if_true, h0, h1, h12, h13], ?_⟩
      have hxe : x = y := by first | exact ht | ((try simp only [bbs, beq_iff_eq, bne_iff_ne, ne_eq] at *); rw [eq_Record]; simp_all)
      rw [at_take gx, at_take gy, htk, hxe]
    · have hltI : ¬ ((j : Nat) : Int) < (a.length : Int) := by omega
      have hab : a = b := by
        rw [List.take_of_length_le (by omega), List.take_of_length_le (by omega)] at htk; exact htk
      repeat' (first | ((first | refine wSeqr (fun xx hx => ?_) | refine wIf (fun xx hx => ?_) | refine wReg (fun xx hx => ?_) | (refine wRet ?_; (try simp only [thenQ, blockQ]); refine ends_by (fun xx hx => ?_))); have hc := trivial; (repeat' (simp only [hc, Nat.reduceBEq, go_sem, Nat.reduceAdd, Nat.reduceMul, Nat.reduceSub, Nat.reduceEqDiff, Nat.reduceLT, Nat.reduceLeDiff, Int.reduceEq, Int.reduceLT, Int.reduceLE, reduceIte, aresults, aresult, hp0, h0, h1, h12, h13, hltI, List.length_map] at hx; (try (rw [guardL_if] at hx; split at hx <;> rename_i hc)))); all_goals (subst hx; first | (refine ⟨_, rfl, fun ht => ?_, fun ht => ?_⟩ <;> (try simp only [bbs, beq_iff_eq, bne_iff_ne, ne_eq] at ht)) | (refine ⟨_, rfl, ?_⟩; (try simp only [tupOf])))) | refine wSkip ?_ | (refine wExit ?_; simp only [thenQ, blockQ, reduceIte, Nat.reduceEqDiff]) | refine wSeq ?_ | refine wBlock ?_)
      all_goals try (exfalso; (try simp only [bbs, beq_iff_eq, bne_iff_ne, ne_eq] at *); first | omega | exact absurd trivial (by assumption))
      refine gives_boolv ?_
      rw [decide_eq_true hab]
  · refine ⟨0, by omega, rfl, rfl, rfl, rfl, ?_⟩
    simp
theorem c_EqRec (a b : List RecordM) (hl : a.length ≤ 1048576) : ∀ H, call Tryd.prog cfg0 0 30 [.lst false (a.map encRecord), .lst false (b.map encRecord)] H = some (.v (.bool (decide (a = b))), H) :=
  call_fz Tryd.func30 rfl ok_EqRec rfl (by simp only [fz_cons, fz_nil, go_sem, and_self]) (p_EqRec a b hl)

theorem ok_sSameRecords : fnOk Tryd.prog cfg0 13 Tryd.f13 = true := by kernel_rfl
theorem p_sSameRecords (a b : List RecordM) (hl : a.length ≤ 1048576) : pure Tryd.prog cfg0 13 Tryd.f13 [.lst false (a.map encRecord), .lst false (b.map encRecord)] = some (.v (.bool (decide (a = b))), true) := by
  refine pure_wp (rs := [.tmp 4]) rfl rfl ?_
  have hp0 : ∀ b, cfg0.pol 13 b = 0 := fun b => rfl
  by_cases hlen : a.length = b.length
  rotate_left
  · have hlI : ¬ ((a.length : Nat) : Int) = (b.length : Int) := by omega
    rw [decide_eq_false (fun h => hlen (by rw [h]))]
    repeat' (first | ((first | refine wSeqr (fun xx hx => ?_) | refine wIf (fun xx hx => ?_) | refine wReg (fun xx hx => ?_) | (refine wRet ?_; (try simp only [thenQ, blockQ]); refine ends_by (fun xx hx => ?_))); have hc := trivial; (repeat' (simp only [hc, Nat.reduceBEq, go_sem, Nat.reduceAdd, Nat.reduceMul, Nat.reduceSub, Nat.reduceEqDiff, Nat.reduceLT, Nat.reduceLeDiff, Int.reduceEq, Int.reduceLT, Int.reduceLE, reduceIte, aresults, aresult, hp0, hlI, List.length_map] at hx; (try (rw [guardL_if] at hx; split at hx <;> rename_i hc)))); all_goals (subst hx; first | (refine ⟨_, rfl, fun ht => ?_, fun ht => ?_⟩ <;> (try simp only [bbs, beq_iff_eq, bne_iff_ne, ne_eq] at ht)) | (refine ⟨_, rfl, ?_⟩; (try simp only [tupOf])))) | refine wSkip ?_ | (refine wExit ?_; simp only [thenQ, blockQ, reduceIte, Nat.reduceEqDiff]) | refine wSeq ?_ | refine wBlock ?_)
    all_goals try (exfalso; (try simp only [bbs, beq_iff_eq, bne_iff_ne, ne_eq] at *); first | omega | exact absurd trivial (by assumption))
    all_goals exact gives_boolv rfl
  have hlI : (((a.length : Nat) : Int) = (b.length : Int)) = True := eq_true (by omega)
  repeat' ((fail_if_success (first | refine wAt 4 ?_ | refine wAt 8 ?_)); first | ((first | refine wSeqr (fun xx hx => ?_) | refine wIf (fun xx hx => ?_) | refine wReg (fun xx hx => ?_) | (refine wRet ?_; (try simp only [thenQ, blockQ]); refine ends_by (fun xx hx => ?_))); have hc := trivial; (repeat' (simp only [hc, Nat.reduceBEq, go_sem, Nat.reduceAdd, Nat.reduceMul, Nat.reduceSub, Nat.reduceEqDiff, Nat.reduceLT, Nat.reduceLeDiff, Int.reduceEq, Int.reduceLT, Int.reduceLE, reduceIte, aresults, aresult, hp0, hlI, not_true_eq_false, decide_false, List.length_map] at hx; (try (rw [guardL_if] at hx; split at hx <;> rename_i hc)))); all_goals (subst hx; first | (refine ⟨_, rfl, fun ht => ?_, fun ht => ?_⟩ <;> (try simp only [bbs, beq_iff_eq, bne_iff_ne, ne_eq] at ht)) | (refine ⟨_, rfl, ?_⟩; (try simp only [tupOf])))) | refine wSkip ?_ | (refine wExit ?_; simp only [thenQ, blockQ, reduceIte, Nat.reduceEqDiff]) | refine wSeq ?_ | refine wBlock ?_)
  all_goals try (exfalso; (try simp only [bbs, beq_iff_eq, bne_iff_ne, ne_eq] at *); first | omega | exact absurd trivial (by assumption))
  refine wLoop (fun k s => ∃ (j : Nat), j + k = a.length ∧ s.1 0 = .lst false (a.map encRecord) ∧ s.1 1 = .lst false (b.map encRecord) ∧ s.1 5 = .v (.int .i64 (j : Nat)) ∧ (a.take j = b.take j)) (fun k s hI => ?_) (a.length) _ ?_
  · obtain ⟨e, H⟩ := s
    obtain ⟨j, hj, h0, h1, h5, htk⟩ := hI
    simp only at h0 h1 h5 htk
    by_cases hlt : j < a.length
    · obtain ⟨x, gx, -, -⟩ := at_drop hlt
      obtain ⟨y, gy, -, -⟩ := at_drop (show j < b.length by omega)
      have gx' := map_at (f := encRecord) gx
      have gy' := map_at (f := encRecord) gy
      have hltI : ((j : Nat) : Int) < (a.length : Int) := by omega
      have w4 : IntKind.wrap .i64 ((j : Nat) + 1 : Int) = ((j + 1 : Nat) : Int) := wrap_succ (by omega)
      repeat' (first | ((first | refine wSeqr (fun xx hx => ?_) | refine wIf (fun xx hx => ?_) | refine wReg (fun xx hx => ?_) | (refine wRet ?_; (try simp only [thenQ, blockQ]); refine ends_by (fun xx hx => ?_))); have hc := trivial; (repeat' (simp only [hc, Nat.reduceBEq, go_sem, Nat.reduceAdd, Nat.reduceMul, Nat.reduceSub, Nat.reduceEqDiff, Nat.reduceLT, Nat.reduceLeDiff, Int.reduceEq, Int.reduceLT, Int.reduceLE, reduceIte, aresults, aresult, hp0, h0, h1, h5, hltI, gx', gy', encRecord, w4, List.length_map] at hx; (try (rw [guardL_if] at hx; split at hx <;> rename_i hc)))); all_goals (subst hx; first | (refine ⟨_, rfl, fun ht => ?_, fun ht => ?_⟩ <;> (try simp only [bbs, beq_iff_eq, bne_iff_ne, ne_eq] at ht)) | (refine ⟨_, rfl, ?_⟩; (try simp only [tupOf])))) | refine wSkip ?_ | (refine wExit ?_; simp only [thenQ, blockQ, reduceIte, Nat.reduceEqDiff]) | refine wSeq ?_ | refine wBlock ?_)
      all_goals try (exfalso; (try simp only [bbs, beq_iff_eq, bne_iff_ne, ne_eq] at *); first | omega | exact absurd trivial (by assumption))
      all_goals first
        | (refine gives_boolv ?_
           have hne : ¬ x = y := by first | exact ht | ((try simp only [bbs, beq_iff_eq, bne_iff_ne, ne_eq] at *); rw [eq_Record]; simp_all)
           rw [decide_eq_false]
           intro h; rw [h] at gx; exact hne (Option.some.inj (gx.symm.trans gy)))
        | skip
      refine ⟨_, Nat.sub_lt (by omega) Nat.one_pos, j + 1, by omega, by simp only [upd_eq, Nat.reduceEqDiff, if_false, if_true, h0, h1, h5], by simp only [upd_eq, Nat.reduceEqDiff, if_false, if_true, h0, h1, h5], by simp only [upd_eq, Nat.reduceEqDiff, if_false, if_true, h0, h1, h5], ?_⟩
      have hxe : x = y := by first | exact ht | ((try simp only [bbs, beq_iff_eq, bne_iff_ne, ne_eq] at *); rw [eq_Record]; simp_all)
      rw [at_take gx, at_take gy, htk, hxe]
    · have hltI : ¬ ((j : Nat) : Int) < (a.length : Int) := by omega
      have hab : a = b := by
        rw [List.take_of_length_le (by omega), List.take_of_length_le (by omega)] at htk; exact htk
      repeat' (first | ((first | refine wSeqr (fun xx hx => ?_) | refine wIf (fun xx hx => ?_) | refine wReg (fun xx hx => ?_) | (refine wRet ?_; (try simp only [thenQ, blockQ]); refine ends_by (fun xx hx => ?_))); have hc := trivial; (repeat' (simp only [hc, Nat.reduceBEq, go_sem, Nat.reduceAdd, Nat.reduceMul, Nat.reduceSub, Nat.reduceEqDiff, Nat.reduceLT, Nat.reduceLeDiff, Int.reduceEq, Int.reduceLT, Int.reduceLE, reduceIte, aresults, aresult, hp0, h0, h1, h5, hltI, List.length_map] at hx; (try (rw [guardL_if] at hx; split at hx <;> rename_i hc)))); all_goals (subst hx; first | (refine ⟨_, rfl, fun ht => ?_, fun ht => ?_⟩ <;> (try simp only [bbs, beq_iff_eq, bne_iff_ne, ne_eq] at ht)) | (refine ⟨_, rfl, ?_⟩; (try simp only [tupOf])))) | refine wSkip ?_ | (refine wExit ?_; simp only [thenQ, blockQ, reduceIte, Nat.reduceEqDiff]) | refine wSeq ?_ | refine wBlock ?_)
      all_goals try (exfalso; (try simp only [bbs, beq_iff_eq, bne_iff_ne, ne_eq] at *); first | omega | exact absurd trivial (by assumption))
      refine gives_boolv ?_
      rw [decide_eq_true hab]
  · refine ⟨0, by omega, rfl, rfl, rfl, ?_⟩
    simp
theorem c_sSameRecords (a b : List RecordM) (hl : a.length ≤ 1048576) : ∀ H, call Tryd.prog cfg0 0 13 [.lst false (a.map encRecord), .lst false (b.map encRecord)] H = some (.v (.bool (decide (a = b))), H) :=
  call_fz Tryd.func13 rfl ok_sSameRecords rfl (by simp only [fz_cons, fz_nil, go_sem, and_self]) (p_sSameRecords a b hl)

theorem ok_iSameRecords : fnOk Tryd.prog cfg0 12 Tryd.f12 = true := by kernel_rfl
theorem p_iSameRecords (a b : List RecordM) (hl : a.length ≤ 1048576) : pure Tryd.prog cfg0 12 Tryd.f12 [.lst false (a.map encRecord), .lst false (b.map encRecord)] = some (.v (.bool (decide (a = b))), true) := by
  refine pure_wp (rs := [.tmp 4]) rfl rfl ?_
  have hp0 : ∀ b, cfg0.pol 12 b = 0 := fun b => rfl
  repeat' (first | ((first | refine wSeqr (fun xx hx => ?_) | refine wIf (fun xx hx => ?_) | refine wReg (fun xx hx => ?_) | (refine wRet ?_; (try simp only [thenQ, blockQ]); refine ends_by (fun xx hx => ?_))); have hc := trivial; (repeat' (simp only [hc, Nat.reduceBEq, go_sem, Nat.reduceAdd, Nat.reduceMul, Nat.reduceSub, Nat.reduceEqDiff, Nat.reduceLT, Nat.reduceLeDiff, Int.reduceEq, Int.reduceLT, Int.reduceLE, reduceIte, aresults, aresult, hp0, c_EqRec a b hl] at hx; (try (rw [guardL_if] at hx; split at hx <;> rename_i hc)))); all_goals (subst hx; first | (refine ⟨_, rfl, fun ht => ?_, fun ht => ?_⟩ <;> (try simp only [bbs, beq_iff_eq, bne_iff_ne, ne_eq] at ht)) | (refine ⟨_, rfl, ?_⟩; (try simp only [tupOf])))) | refine wSkip ?_ | (refine wExit ?_; simp only [thenQ, blockQ, reduceIte, Nat.reduceEqDiff]) | refine wSeq ?_ | refine wBlock ?_)
  all_goals try (exfalso; (try simp only [bbs, beq_iff_eq, bne_iff_ne, ne_eq] at *); first | omega | exact absurd trivial (by assumption))
  all_goals exact ⟨rfl, rfl⟩
theorem c_iSameRecords (a b : List RecordM) (hl : a.length ≤ 1048576) : ∀ H, call Tryd.prog cfg0 0 12 [.lst false (a.map encRecord), .lst false (b.map encRecord)] H = some (.v (.bool (decide (a = b))), H) :=
  call_fz Tryd.func12 rfl ok_iSameRecords rfl (by simp only [fz_cons, fz_nil, go_sem, and_self]) (p_iSameRecords a b hl)

end
end Go.Proofs.YtepnlhjafgomgaaDoor
