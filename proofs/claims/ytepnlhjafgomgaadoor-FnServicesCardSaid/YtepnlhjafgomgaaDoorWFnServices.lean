/- The law FnServices in the engine. -/
import Derived.Test.YtepnlhjafgomgaaDoorV7
namespace Go.Proofs.YtepnlhjafgomgaaDoor.fnServices
open Go Go.RowKit Go.Proofs.YtepnlhjafgomgaaDoor.Eng
set_option linter.unusedSimpArgs false
set_option linter.unusedVariables false
set_option maxRecDepth 100000
set_option maxHeartbeats 4000000
noncomputable section
theorem ok_llwBig : fnOk Tryd.prog cfg0 4 Tryd.f4 = true := by kernel_rfl
theorem p_llwBig (l : List Int) : pure Tryd.prog cfg0 4 Tryd.f4 [bytesL l] = some (.v (.bool (decide (1048576 < (l.length : Int)))), true) := by
  refine pure_wp (rs := [.tmp 2]) rfl rfl ?_
  have hp0 : ∀ b, cfg0.pol 4 b = 0 := fun b => rfl
  repeat' (first | ((first | refine wSeqr (fun xx hx => ?_) | refine wIf (fun xx hx => ?_) | refine wReg (fun xx hx => ?_) | (refine wRet ?_; (try simp only [thenQ, blockQ]); refine ends_by (fun xx hx => ?_))); have hc := trivial; (repeat' (simp only [hc, Nat.reduceBEq, go_sem, Nat.reduceAdd, Nat.reduceMul, Nat.reduceSub, Nat.reduceEqDiff, Nat.reduceLT, Nat.reduceLeDiff, Int.reduceEq, Int.reduceLT, Int.reduceLE, reduceIte, aresults, aresult, hp0] at hx; (try (rw [guardL_if] at hx; split at hx <;> rename_i hc)))); all_goals (subst hx; first | (refine ⟨_, rfl, fun ht => ?_, fun ht => ?_⟩ <;> (try simp only [bbs, beq_iff_eq, bne_iff_ne, ne_eq] at ht)) | (refine ⟨_, rfl, ?_⟩; (try simp only [tupOf])))) | refine wSkip ?_ | (refine wExit ?_; simp only [thenQ, blockQ, reduceIte, Nat.reduceEqDiff]) | refine wSeq ?_ | refine wBlock ?_)
  exact gives_boolv rfl
theorem c_llwBig (l : List Int) : ∀ H, call Tryd.prog cfg0 0 4 [bytesL l] H = some (.v (.bool (decide (1048576 < (l.length : Int)))), H) :=
  call_fz Tryd.func4 rfl ok_llwBig rfl (by simp only [fz_cons, fz_nil, go_sem, and_self]) (p_llwBig l)

theorem recs_at {l : List ClaimM} {j : Nat} {c : ClaimM} {sv kind : Int} (h : l[j]? = some c) (ho : offB sv c = true) : (recsL l sv kind)[(recsL (l.take j) sv kind).length]? = some (recOf kind c) := by
  have h1 : recsL l sv kind = recsL (l.take (j + 1)) sv kind ++ recsL (l.drop (j + 1)) sv kind := by
    unfold recsL; rw [← List.map_append, ← List.filter_append, List.take_append_drop]
  rw [h1, recsL_take sv kind h, if_pos ho, List.append_assoc, List.getElem?_append_right (Nat.le_refl _), Nat.sub_self]; rfl
theorem ne_ir (c v : Int) : abinX Tryd.prog .neq 36 (.agg [.v (.int .i64 c), .v (.int .i64 v)]) (.agg [.v (.int .i64 c), .v (.int .i64 v)]) = some (.v (.bool false)) := by
  simp [abinX, nil36, nilCmp, abin, exactAll, plan36, eqBy, eqK]
theorem ok_law : fnOk Tryd.prog cfg0 3 Tryd.f3 = true := by kernel_rfl
theorem p_law (code : List Int) (hb : Eng.Bytes code) (hl0 : code.length ≤ 140737488351232) : pure Tryd.prog cfg0 3 Tryd.f3 [bytesL code] = some (.v (.bool true), true) := by
  refine pure_wp (rs := [.tmp 2]) rfl rfl ?_
  have hp0 : ∀ b, cfg0.pol 3 b = 0 := fun b => rfl
  by_cases hbig : 1048576 < code.length
  · have hbI : 1048576 < (code.length : Int) := by omega
    repeat' (first | ((first | refine wSeqr (fun xx hx => ?_) | refine wIf (fun xx hx => ?_) | refine wReg (fun xx hx => ?_) | (refine wRet ?_; (try simp only [thenQ, blockQ]); refine ends_by (fun xx hx => ?_))); have hc := trivial; (repeat' (simp only [hc, Nat.reduceBEq, go_sem, Nat.reduceAdd, Nat.reduceMul, Nat.reduceSub, Nat.reduceEqDiff, Nat.reduceLT, Nat.reduceLeDiff, Int.reduceEq, Int.reduceLT, Int.reduceLE, reduceIte, aresults, aresult, hp0, c_llwBig code, hbI] at hx; (try (rw [guardL_if] at hx; split at hx <;> rename_i hc)))); all_goals (subst hx; first | (refine ⟨_, rfl, fun ht => ?_, fun ht => ?_⟩ <;> (try simp only [bbs, beq_iff_eq, bne_iff_ne, ne_eq] at ht)) | (refine ⟨_, rfl, ?_⟩; (try simp only [tupOf])))) | refine wSkip ?_ | (refine wExit ?_; simp only [thenQ, blockQ, reduceIte, Nat.reduceEqDiff]) | refine wSeq ?_ | refine wBlock ?_)
    all_goals try (exfalso; (try simp only [bbs, beq_iff_eq, bne_iff_ne, ne_eq] at *); first | omega | exact absurd trivial (by assumption))
    all_goals exact ⟨rfl, rfl⟩
  have hbI : ¬ 1048576 < (code.length : Int) := by omega
  have hco : CodeOk code := ⟨hb, by omega⟩
  obtain ⟨ms, sv, kind, hlen, cRF⟩ := c_DrawRF hco
  obtain ⟨tx, htx, cSv⟩ := c_DrawSv hco
  obtain ⟨A, B, ⟨hA, hB⟩, cSR⟩ := c_DrawSR hco
  have htk : ∀ z ∈ tx, z.size ≤ 1048576 := by
    intro z hz
    simp only [someTab, List.mem_cons, List.not_mem_nil, or_false] at htx
    rcases htx with rfl | rfl | rfl | rfl | rfl | rfl | rfl | rfl | rfl | rfl <;> simp only [List.mem_cons, List.not_mem_nil, or_false] at hz <;> (try rcases hz with rfl | rfl | rfl) <;> (try subst hz) <;> first | decide | (exact absurd hz (by simp))
  have i1 := c_iRecordsFor ms (by omega) sv kind
  have j1 := c_sRecordsFor ms (by omega) sv kind
  have i2 := c_iServiceOf tx htk
  have j2 := c_sServiceOf tx
  have i3 := c_iSameRecords A B (by omega)
  have j3 := c_sSameRecords A B (by omega)
  have bg := c_llwBig code
  unfold rfR at i1 j1
  repeat' ((fail_if_success (first | refine wAt 7 ?_)); first | ((first | refine wSeqr (fun xx hx => ?_) | refine wIf (fun xx hx => ?_) | refine wReg (fun xx hx => ?_) | (refine wRet ?_; (try simp only [thenQ, blockQ]); refine ends_by (fun xx hx => ?_))); have hc := trivial; (repeat' (simp only [hc, Nat.reduceBEq, go_sem, Nat.reduceAdd, Nat.reduceMul, Nat.reduceSub, Nat.reduceEqDiff, Nat.reduceLT, Nat.reduceLeDiff, Int.reduceEq, Int.reduceLT, Int.reduceLE, reduceIte, aresults, aresult, hp0, bg, hbI, cRF, cSv, cSR, i1] at hx; (try (rw [guardL_if] at hx; split at hx <;> rename_i hc)))); all_goals (subst hx; first | (refine ⟨_, rfl, fun ht => ?_, fun ht => ?_⟩ <;> (try simp only [bbs, beq_iff_eq, bne_iff_ne, ne_eq] at ht)) | (refine ⟨_, rfl, ?_⟩; (try simp only [tupOf])))) | refine wSkip ?_ | (refine wExit ?_; simp only [thenQ, blockQ, reduceIte, Nat.reduceEqDiff]) | refine wSeq ?_ | refine wBlock ?_)
  all_goals try (exfalso; (try simp only [bbs, beq_iff_eq, bne_iff_ne, ne_eq] at *); first | omega | exact absurd trivial (by assumption))
  repeat' ((fail_if_success (first | refine wAt 9 ?_)); first | ((first | refine wSeqr (fun xx hx => ?_) | refine wIf (fun xx hx => ?_) | refine wReg (fun xx hx => ?_) | (refine wRet ?_; (try simp only [thenQ, blockQ]); refine ends_by (fun xx hx => ?_))); have hc := trivial; (repeat' (simp only [hc, Nat.reduceBEq, go_sem, Nat.reduceAdd, Nat.reduceMul, Nat.reduceSub, Nat.reduceEqDiff, Nat.reduceLT, Nat.reduceLeDiff, Int.reduceEq, Int.reduceLT, Int.reduceLE, reduceIte, aresults, aresult, hp0, i1, j1, i2, j2, i3, j3, ne_ir, ne_eq, not_true_eq_false, decide_false, bne_self_eq_false, beq_self_eq_true, Bool.not_true] at hx; (try (rw [guardL_if] at hx; split at hx <;> rename_i hc)))); all_goals (subst hx; first | (refine ⟨_, rfl, fun ht => ?_, fun ht => ?_⟩ <;> (try simp only [bbs, beq_iff_eq, bne_iff_ne, ne_eq] at ht)) | (refine ⟨_, rfl, ?_⟩; (try simp only [tupOf])))) | refine wSkip ?_ | (refine wExit ?_; simp only [thenQ, blockQ, reduceIte, Nat.reduceEqDiff]) | refine wSeq ?_ | refine wBlock ?_)
  all_goals try (exfalso; (try simp only [bbs, beq_iff_eq, bne_iff_ne, ne_eq] at *); first | omega | exact absurd trivial (by assumption))
  by_cases hrf : rfC ms sv kind = 0
  rotate_left
  · repeat' (first | ((first | refine wSeqr (fun xx hx => ?_) | refine wIf (fun xx hx => ?_) | refine wReg (fun xx hx => ?_) | (refine wRet ?_; (try simp only [thenQ, blockQ]); refine ends_by (fun xx hx => ?_))); have hc := trivial; (repeat' (simp only [hc, Nat.reduceBEq, go_sem, Nat.reduceAdd, Nat.reduceMul, Nat.reduceSub, Nat.reduceEqDiff, Nat.reduceLT, Nat.reduceLeDiff, Int.reduceEq, Int.reduceLT, Int.reduceLE, reduceIte, aresults, aresult, hp0, hrf, ne_eq, not_true_eq_false, not_false_eq_true, decide_true, decide_false] at hx; (try (rw [guardL_if] at hx; split at hx <;> rename_i hc)))); all_goals (subst hx; first | (refine ⟨_, rfl, fun ht => ?_, fun ht => ?_⟩ <;> (try simp only [bbs, beq_iff_eq, bne_iff_ne, ne_eq] at ht)) | (refine ⟨_, rfl, ?_⟩; (try simp only [tupOf])))) | refine wSkip ?_ | (refine wExit ?_; simp only [thenQ, blockQ, reduceIte, Nat.reduceEqDiff]) | refine wSeq ?_ | refine wBlock ?_)
    all_goals try (exfalso; (try simp only [bbs, beq_iff_eq, bne_iff_ne, ne_eq] at *); first | omega | exact absurd trivial (by assumption))
    all_goals exact ⟨rfl, rfl⟩
  have hme := viewF_meta (l := ms) (by unfold rfC at hrf; split at hrf <;> omega)
  have hL : rfL ms sv kind = recsL ms sv kind := if_pos hrf
  rw [hL, hrf]
  have z0 : ((0 : Int) = 0) = True := by simp
  have hrl : (recsL ms sv kind).length ≤ 8 := Nat.le_trans (recsL_len _ _ _) hlen
  repeat' ((fail_if_success (first | refine wAt 12 ?_)); first | ((first | refine wSeqr (fun xx hx => ?_) | refine wIf (fun xx hx => ?_) | refine wReg (fun xx hx => ?_) | (refine wRet ?_; (try simp only [thenQ, blockQ]); refine ends_by (fun xx hx => ?_))); have hc := trivial; (repeat' (simp only [hc, Nat.reduceBEq, go_sem, Nat.reduceAdd, Nat.reduceMul, Nat.reduceSub, Nat.reduceEqDiff, Nat.reduceLT, Nat.reduceLeDiff, Int.reduceEq, Int.reduceLT, Int.reduceLE, reduceIte, aresults, aresult, hp0, z0, ne_eq, not_true_eq_false, decide_false] at hx; (try (rw [guardL_if] at hx; split at hx <;> rename_i hc)))); all_goals (subst hx; first | (refine ⟨_, rfl, fun ht => ?_, fun ht => ?_⟩ <;> (try simp only [bbs, beq_iff_eq, bne_iff_ne, ne_eq] at ht)) | (refine ⟨_, rfl, ?_⟩; (try simp only [tupOf])))) | refine wSkip ?_ | (refine wExit ?_; simp only [thenQ, blockQ, reduceIte, Nat.reduceEqDiff]) | refine wSeq ?_ | refine wBlock ?_)
  all_goals try (exfalso; (try simp only [bbs, beq_iff_eq, bne_iff_ne, ne_eq] at *); first | omega | exact absurd trivial (by assumption))
  repeat' (first | ((first | refine wSeqr (fun xx hx => ?_) | refine wIf (fun xx hx => ?_) | refine wReg (fun xx hx => ?_) | (refine wRet ?_; (try simp only [thenQ, blockQ]); refine ends_by (fun xx hx => ?_))); have hc := trivial; (repeat' (simp only [hc, Nat.reduceBEq, go_sem, Nat.reduceAdd, Nat.reduceMul, Nat.reduceSub, Nat.reduceEqDiff, Nat.reduceLT, Nat.reduceLeDiff, Int.reduceEq, Int.reduceLT, Int.reduceLE, reduceIte, aresults, aresult, hp0] at hx; (try (rw [guardL_if] at hx; split at hx <;> rename_i hc)))); all_goals (subst hx; first | (refine ⟨_, rfl, fun ht => ?_, fun ht => ?_⟩ <;> (try simp only [bbs, beq_iff_eq, bne_iff_ne, ne_eq] at ht)) | (refine ⟨_, rfl, ?_⟩; (try simp only [tupOf])))) | refine wSkip ?_ | (refine wExit ?_; simp only [thenQ, blockQ, reduceIte, Nat.reduceEqDiff]) | refine wSeq ?_ | refine wBlock ?_)
  refine wLoop (fun k s => ∃ (j : Nat), j + k = ms.length ∧ s.1 3 = .lst false (ms.map encClaim) ∧ s.1 4 = .v (.int .i64 sv) ∧ s.1 5 = .v (.int .i64 kind) ∧ s.1 6 = .ptr 0 0 ∧ s.1 10 = .v (.int .i64 ((recsL (ms.take j) sv kind).length : Nat)) ∧ s.1 11 = .v (.int .i64 (j : Nat)) ∧ (s.2.h 0 = some [.v (.int .i64 0), .lst false ((recsL ms sv kind).map encRecord)])) (fun k s hI => ?_) (ms.length) _ ?_
  · obtain ⟨e, H⟩ := s
    obtain ⟨j, hj, h3, h4, h5, h6, h10, h11, hh⟩ := hI
    simp only at h3 h4 h5 h6 h10 h11 hh
    by_cases hlt : j < ms.length
    · obtain ⟨c, hg, hd, hc⟩ := at_drop hlt
      have hg' := map_at (f := encClaim) hg
      have hm0 := hme c hc
      have hrt := recsL_take sv kind hg
      have hcl : (recsL (ms.take j) sv kind).length ≤ 8 := by have := recsL_len (ms.take j) sv kind; rw [List.length_take] at this; omega
      have hltI : ((j : Nat) : Int) < (ms.length : Int) := by omega
      have w4 : IntKind.wrap .i64 ((j : Nat) + 1 : Int) = ((j + 1 : Nat) : Int) := wrap_succ (by omega)
      have w5 : IntKind.wrap .i64 (((recsL (ms.take j) sv kind).length : Nat) + 1 : Int) = (((recsL (ms.take j) sv kind).length + 1 : Nat) : Int) := wrap_succ (by omega)
      have t1 : IntKind.wrap .i64 (c.Meta.tdiv 65536) = c.Meta / 65536 := by rw [Int.tdiv_eq_ediv_of_nonneg (by omega)]; exact wrap_i64 (by omega) (by omega)
      have t2 : c.Meta.tmod 65536 = c.Meta % 65536 := Int.tmod_eq_emod_of_nonneg (by omega)
      by_cases ho : c.Status = 0 ∧ c.Meta / 65536 = sv
      · have ho' := off_yes ho.1 ho.2
        have hra := recs_at (kind := kind) hg ho'
        have hrg := map_at (f := encRecord) hra
        have hge : ¬ (((recsL ms sv kind).length : Nat) : Int) ≤ ((recsL (ms.take j) sv kind).length : Nat) := by
          have := (List.getElem?_eq_some_iff.1 hra).1; omega
        rw [if_pos ho'] at hrt
        have hcnt : (recsL (ms.take (j + 1)) sv kind).length = (recsL (ms.take j) sv kind).length + 1 := by rw [hrt]; simp
        have o1 := ho.1
        have o2 := ho.2
        rw [← hcnt] at w5
        generalize (recsL (ms.take j) sv kind).length = n at *
        by_cases hk : kind = 33
        · have hrec : recOf kind c = ⟨33, c.Node, c.Meta % 65536⟩ := by unfold recOf; rw [if_pos hk, hk]
          rw [hrec] at hrg
          subst hk
          have hmm : (c.Meta % 65536 = c.Meta % 65536) = True := by simp
          repeat' (first | ((first | refine wSeqr (fun xx hx => ?_) | refine wIf (fun xx hx => ?_) | refine wReg (fun xx hx => ?_) | (refine wRet ?_; (try simp only [thenQ, blockQ]); refine ends_by (fun xx hx => ?_))); have hc := trivial; (repeat' (simp only [hc, Nat.reduceBEq, go_sem, Nat.reduceAdd, Nat.reduceMul, Nat.reduceSub, Nat.reduceEqDiff, Nat.reduceLT, Nat.reduceLeDiff, Int.reduceEq, Int.reduceLT, Int.reduceLE, reduceIte, aresults, aresult, hp0, h3, h4, h5, h6, h10, h11, hh, hltI, hg', encClaim, encRecord, hrg, hge, t1, t2, o1, o2, w4, w5, List.length_map, ne_eq, not_true_eq_false, decide_false, decide_true] at hx; (try (rw [guardL_if] at hx; split at hx <;> rename_i hc)))); all_goals (subst hx; first | (refine ⟨_, rfl, fun ht => ?_, fun ht => ?_⟩ <;> (try simp only [bbs, beq_iff_eq, bne_iff_ne, ne_eq] at ht)) | (refine ⟨_, rfl, ?_⟩; (try simp only [tupOf])))) | refine wSkip ?_ | (refine wExit ?_; simp only [thenQ, blockQ, reduceIte, Nat.reduceEqDiff]) | refine wSeq ?_ | refine wBlock ?_)
          all_goals try (exfalso; (try simp only [bbs, beq_iff_eq, bne_iff_ne, ne_eq] at *); first | omega | exact absurd trivial (by assumption))
          refine ⟨_, Nat.sub_lt (by omega) Nat.one_pos, j + 1, by omega, by simp only [upd_eq, Nat.reduceEqDiff, if_false, if_true, h3, h4, h5, h6, h10, h11], by simp only [upd_eq, Nat.reduceEqDiff, if_false, if_true, h3, h4, h5, h6, h10, h11], by simp only [upd_eq, Nat.reduceEqDiff, if_false, if_true, h3, h4, h5, h6, h10, h11], by simp only [upd_eq, Nat.reduceEqDiff, if_false, if_true, h3, h4, h5, h6, h10, h11], by simp only [upd_eq, Nat.reduceEqDiff, if_false, if_true, h3, h4, h5, h6, h10, h11], by simp only [upd_eq, Nat.reduceEqDiff, if_false, if_true, h3, h4, h5, h6, h10, h11], ?_⟩
          exact hh
        · have hrec : recOf kind c = ⟨kind, c.Node, 0⟩ := by unfold recOf; rw [if_neg hk]
          rw [hrec] at hrg
          repeat' (first | ((first | refine wSeqr (fun xx hx => ?_) | refine wIf (fun xx hx => ?_) | refine wReg (fun xx hx => ?_) | (refine wRet ?_; (try simp only [thenQ, blockQ]); refine ends_by (fun xx hx => ?_))); have hc := trivial; (repeat' (simp only [hc, Nat.reduceBEq, go_sem, Nat.reduceAdd, Nat.reduceMul, Nat.reduceSub, Nat.reduceEqDiff, Nat.reduceLT, Nat.reduceLeDiff, Int.reduceEq, Int.reduceLT, Int.reduceLE, reduceIte, aresults, aresult, hp0, h3, h4, h5, h6, h10, h11, hh, hltI, hg', encClaim, encRecord, hrg, hge, t1, t2, o1, o2, hk, w4, w5, List.length_map, ne_eq, not_true_eq_false, decide_false, decide_true] at hx; (try (rw [guardL_if] at hx; split at hx <;> rename_i hc)))); all_goals (subst hx; first | (refine ⟨_, rfl, fun ht => ?_, fun ht => ?_⟩ <;> (try simp only [bbs, beq_iff_eq, bne_iff_ne, ne_eq] at ht)) | (refine ⟨_, rfl, ?_⟩; (try simp only [tupOf])))) | refine wSkip ?_ | (refine wExit ?_; simp only [thenQ, blockQ, reduceIte, Nat.reduceEqDiff]) | refine wSeq ?_ | refine wBlock ?_)
          all_goals try (exfalso; (try simp only [bbs, beq_iff_eq, bne_iff_ne, ne_eq] at *); first | omega | exact absurd trivial (by assumption))
          refine ⟨_, Nat.sub_lt (by omega) Nat.one_pos, j + 1, by omega, by simp only [upd_eq, Nat.reduceEqDiff, if_false, if_true, h3, h4, h5, h6, h10, h11], by simp only [upd_eq, Nat.reduceEqDiff, if_false, if_true, h3, h4, h5, h6, h10, h11], by simp only [upd_eq, Nat.reduceEqDiff, if_false, if_true, h3, h4, h5, h6, h10, h11], by simp only [upd_eq, Nat.reduceEqDiff, if_false, if_true, h3, h4, h5, h6, h10, h11], by simp only [upd_eq, Nat.reduceEqDiff, if_false, if_true, h3, h4, h5, h6, h10, h11], by simp only [upd_eq, Nat.reduceEqDiff, if_false, if_true, h3, h4, h5, h6, h10, h11], ?_⟩
          exact hh
      · rw [if_neg (by rw [off_no ho]; simp), List.append_nil] at hrt
        rw [← hrt] at h10
        repeat' (first | ((first | refine wSeqr (fun xx hx => ?_) | refine wIf (fun xx hx => ?_) | refine wReg (fun xx hx => ?_) | (refine wRet ?_; (try simp only [thenQ, blockQ]); refine ends_by (fun xx hx => ?_))); have hc := trivial; (repeat' (simp only [hc, Nat.reduceBEq, go_sem, Nat.reduceAdd, Nat.reduceMul, Nat.reduceSub, Nat.reduceEqDiff, Nat.reduceLT, Nat.reduceLeDiff, Int.reduceEq, Int.reduceLT, Int.reduceLE, reduceIte, aresults, aresult, hp0, h3, h4, h5, h6, h10, h11, hh, hltI, hg', encClaim, t1, t2, w4, List.length_map] at hx; (try (rw [guardL_if] at hx; split at hx <;> rename_i hc)))); all_goals (subst hx; first | (refine ⟨_, rfl, fun ht => ?_, fun ht => ?_⟩ <;> (try simp only [bbs, beq_iff_eq, bne_iff_ne, ne_eq] at ht)) | (refine ⟨_, rfl, ?_⟩; (try simp only [tupOf])))) | refine wSkip ?_ | (refine wExit ?_; simp only [thenQ, blockQ, reduceIte, Nat.reduceEqDiff]) | refine wSeq ?_ | refine wBlock ?_)
        all_goals try (exfalso; (try simp only [bbs, beq_iff_eq, bne_iff_ne, ne_eq] at *); first | omega | exact absurd trivial (by assumption))
        all_goals first
          | (exfalso; apply ho; (try simp only [bbs, beq_iff_eq, bne_iff_ne, ne_eq] at *); constructor <;> first | assumption | omega | (simp_all; done))
          | skip
        all_goals (refine ⟨_, Nat.sub_lt (by omega) Nat.one_pos, j + 1, by omega, by simp only [upd_eq, Nat.reduceEqDiff, if_false, if_true, h3, h4, h5, h6, h10, h11], by simp only [upd_eq, Nat.reduceEqDiff, if_false, if_true, h3, h4, h5, h6, h10, h11], by simp only [upd_eq, Nat.reduceEqDiff, if_false, if_true, h3, h4, h5, h6, h10, h11], by simp only [upd_eq, Nat.reduceEqDiff, if_false, if_true, h3, h4, h5, h6, h10, h11], by simp only [upd_eq, Nat.reduceEqDiff, if_false, if_true, h3, h4, h5, h6, h10, h11], by simp only [upd_eq, Nat.reduceEqDiff, if_false, if_true, h3, h4, h5, h6, h10, h11], ?_⟩; exact hh)
    · have hj' : j = ms.length := by omega
      have hltI : ¬ ((j : Nat) : Int) < (ms.length : Int) := by omega
      rw [hj', List.take_length] at h10
      repeat' (first | ((first | refine wSeqr (fun xx hx => ?_) | refine wIf (fun xx hx => ?_) | refine wReg (fun xx hx => ?_) | (refine wRet ?_; (try simp only [thenQ, blockQ]); refine ends_by (fun xx hx => ?_))); have hc := trivial; (repeat' (simp only [hc, Nat.reduceBEq, go_sem, Nat.reduceAdd, Nat.reduceMul, Nat.reduceSub, Nat.reduceEqDiff, Nat.reduceLT, Nat.reduceLeDiff, Int.reduceEq, Int.reduceLT, Int.reduceLE, reduceIte, aresults, aresult, hp0, h3, h6, h10, h11, hh, hltI, List.length_map] at hx; (try (rw [guardL_if] at hx; split at hx <;> rename_i hc)))); all_goals (subst hx; first | (refine ⟨_, rfl, fun ht => ?_, fun ht => ?_⟩ <;> (try simp only [bbs, beq_iff_eq, bne_iff_ne, ne_eq] at ht)) | (refine ⟨_, rfl, ?_⟩; (try simp only [tupOf])))) | refine wSkip ?_ | (refine wExit ?_; simp only [thenQ, blockQ, reduceIte, Nat.reduceEqDiff]) | refine wSeq ?_ | refine wBlock ?_)
      all_goals try (exfalso; (try simp only [bbs, beq_iff_eq, bne_iff_ne, ne_eq] at *); first | omega | exact absurd trivial (by assumption))
      exact ⟨rfl, rfl⟩
  · refine ⟨0, by omega, rfl, rfl, rfl, rfl, rfl, rfl, ?_⟩
    rfl
theorem c_law (code : List Int) (hb : Eng.Bytes code) (hl0 : code.length ≤ 140737488351232) : ∀ H, call Tryd.prog cfg0 0 3 [bytesL code] H = some (.v (.bool true), H) :=
  call_fz Tryd.func3 rfl ok_law rfl (by simp only [fz_cons, fz_nil, go_sem, and_self]) (p_law code hb hl0)

theorem law (xs : List AV) (h : ArgsC Tryd.prog reach 2 [22] xs) : pure Tryd.prog cfg0 3 Tryd.f3 xs = some (.v (.bool true), true) := by
  obtain ⟨x0, r0, rfl, h0, rfl⟩ := h
  unfold ArgC at h0
  rw [agg22] at h0
  obtain ⟨a0, e0, g0, w0⟩ := shC_bytes u22 u5 byn5 h0
  simp only [List.cons.injEq, and_true] at e0
  subst e0
  have k0 : a0.length ≤ 140737488351232 := by simp only [reach] at w0; omega
  exact p_law a0 g0 k0
end
end Go.Proofs.YtepnlhjafgomgaaDoor.fnServices
