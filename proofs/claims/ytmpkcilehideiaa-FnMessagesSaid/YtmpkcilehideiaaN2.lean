/- Contracts: joins of bytes; messages into bytes. -/
import Derived.Test.YtmpkcilehideiaaN1
namespace Go.Proofs.Ytmpkcilehideiaa
open Go Go.RowKit Go.Proofs.Ytmpkcilehideiaa.Eng
set_option linter.unusedSimpArgs false
set_option linter.unusedVariables false
set_option maxRecDepth 100000
set_option maxHeartbeats 4000000
noncomputable section
def encB (l : List Int) : List AV := [bytesL l]
theorem flat_take_len (ls : List (List Int)) (j : Nat) : ((ls.take j).flatten).length ≤ ls.flatten.length := by
  have e : ls.flatten = (ls.take j).flatten ++ (ls.drop j).flatten := by rw [← List.flatten_append, List.take_append_drop]
  rw [e, List.length_append]; omega
theorem flat_take_succ {ls : List (List Int)} {j : Nat} {l : List Int} (h : ls[j]? = some l) : (ls.take (j + 1)).flatten = (ls.take j).flatten ++ l := by
  rw [at_take h, List.flatten_append]; simp
theorem fz_bytess (ls : List (List Int)) : Fz depthD (.lst false (ls.map encB)) := fz_rows (n := 11) (fun k x hx => by simp only [encB, List.mem_singleton] at hx; subst hx; exact bytesL_fz 9 k) ls
def catRoom (ls : List (List Int)) (j : Nat) : AV := if ls.flatten.length = 0 then .v (.slice none 0 0) else .sl 0 1 0 ((ls.take j).flatten).length
theorem ok_iConcat : fnOk Try.prog cfg0 63 Try.f63 = true := by kernel_rfl
theorem pq_iConcat (ls : List (List Int)) (hn : ls.length ≤ 64) (hl : ls.flatten.length ≤ 1048576) : pure Try.prog cfg0 63 Try.f63 [.lst false (ls.map encB)] = some (bytesL ls.flatten, true) ∧ owned Try.prog cfg0 63 Try.f63 [.lst false (ls.map encB)] = some (bytesL ls.flatten) := by
  refine both_wp (rs := [.tmp 2]) rfl rfl ?_
  have hp0 : ∀ b, cfg0.pol 63 b = 0 := fun b => rfl
  repeat' (first | ((first | refine wSeqr (fun xx hx => ?_) | refine wSeqrF (fun xx hx => ?_) | refine wIf (fun xx hx => ?_) | refine wReg (fun xx hx => ?_) | refine wRegF (fun xx hx => ?_) | (refine wRet ?_; (try simp only [thenQ, blockQ]); (try (subst hQQ; (try simp only [thenQ, blockQ]))); refine ends_by (fun xx hx => ?_))); have hc := trivial; (repeat' (simp only [hc, Nat.reduceBEq, go_sem, Nat.reduceAdd, Nat.reduceMul, Nat.reduceSub, Nat.reduceEqDiff, Nat.reduceLT, Nat.reduceLeDiff, Int.reduceEq, Int.reduceLT, Int.reduceLE, reduceIte, aresults, aresult, hp0, List.length_map] at hx; (try ((first | rw [guardL_if] at hx | rw [guardF_if] at hx); split at hx <;> rename_i hc)))); all_goals (subst hx; first | (refine ⟨_, rfl, fun ht => ?_, fun ht => ?_⟩ <;> (try simp only [Bool.not_eq_true', Bool.not_eq_false', Bool.and_eq_true, Bool.and_eq_false_iff, Bool.or_eq_true, Bool.or_eq_false_iff, decide_eq_true_eq, decide_eq_false_iff_not, beq_iff_eq, bne_iff_ne, Bool.not_true, Bool.not_false, Bool.true_eq_false, Bool.false_eq_true, ne_eq, Decidable.not_not, inB_t, inB_f] at ht)) | (refine ⟨_, rfl, ?_⟩; (try simp only [tupOf])))) | refine wSkip ?_ | (refine wExit ?_; simp only [thenQ, blockQ, reduceIte, Nat.reduceEqDiff]) | refine wSeq ?_ | refine wBlock ?_ | (subst hQQ; (try simp only [thenQ, blockQ, reduceIte, Nat.reduceEqDiff])))
  refine wLoop (fun k s => ∃ (j : Nat), j + k = ls.length ∧ s.1 0 = .lst false (ls.map encB) ∧ s.1 3 = .v (.int .i64 ((ls.take j).flatten.length : Nat)) ∧ s.1 9 = .lst false (ls.map encB) ∧ s.1 10 = .v (.int .i64 (ls.length : Nat)) ∧ s.1 11 = .v (.int .i64 (j : Nat)) ∧ (s.2 = Hp.nil)) (fun k s hI => ?_) (ls.length) _ ?_
  · obtain ⟨e, H⟩ := s
    obtain ⟨j, hj, h0, h3, h9, h10, h11, hh⟩ := hI
    simp only at h0 h3 h9 h10 h11 hh
    subst hh
    by_cases hlt : j < ls.length
    · obtain ⟨l, hg, hd, hm⟩ := at_drop hlt
      have hg' := map_at (f := encB) hg
      have hs := flat_take_succ hg
      have hle := flat_take_len ls (j + 1)
      have w1 : IntKind.wrap .i64 (((ls.take j).flatten.length : Nat) + (l.length : Nat) : Int) = ((ls.take (j + 1)).flatten.length : Nat) := by
        rw [hs, List.length_append] at *
        rw [wrap_i64 (by omega) (by omega)]; omega
      repeat' (first | ((first | refine wSeqr (fun xx hx => ?_) | refine wSeqrF (fun xx hx => ?_) | refine wIf (fun xx hx => ?_) | refine wReg (fun xx hx => ?_) | refine wRegF (fun xx hx => ?_) | (refine wRet ?_; (try simp only [thenQ, blockQ]); (try (subst hQQ; (try simp only [thenQ, blockQ]))); refine ends_by (fun xx hx => ?_))); have hc := trivial; (repeat' (simp only [hc, Nat.reduceBEq, go_sem, Nat.reduceAdd, Nat.reduceMul, Nat.reduceSub, Nat.reduceEqDiff, Nat.reduceLT, Nat.reduceLeDiff, Int.reduceEq, Int.reduceLT, Int.reduceLE, reduceIte, aresults, aresult, hp0, h0, h3, h9, h10, h11, hg', encB, w1, wrap_succ (show j < 9223372036854775807 by omega)] at hx; (try ((first | rw [guardL_if] at hx | rw [guardF_if] at hx); split at hx <;> rename_i hc)))); all_goals (subst hx; first | (refine ⟨_, rfl, fun ht => ?_, fun ht => ?_⟩ <;> (try simp only [Bool.not_eq_true', Bool.not_eq_false', Bool.and_eq_true, Bool.and_eq_false_iff, Bool.or_eq_true, Bool.or_eq_false_iff, decide_eq_true_eq, decide_eq_false_iff_not, beq_iff_eq, bne_iff_ne, Bool.not_true, Bool.not_false, Bool.true_eq_false, Bool.false_eq_true, ne_eq, Decidable.not_not, inB_t, inB_f] at ht)) | (refine ⟨_, rfl, ?_⟩; (try simp only [tupOf])))) | refine wSkip ?_ | (refine wExit ?_; simp only [thenQ, blockQ, reduceIte, Nat.reduceEqDiff]) | refine wSeq ?_ | refine wBlock ?_ | (subst hQQ; (try simp only [thenQ, blockQ, reduceIte, Nat.reduceEqDiff])))
      all_goals first
        | (exfalso; (try simp only [Bool.not_eq_true', Bool.not_eq_false', Bool.and_eq_true, Bool.and_eq_false_iff, Bool.or_eq_true, Bool.or_eq_false_iff, decide_eq_true_eq, decide_eq_false_iff_not, beq_iff_eq, bne_iff_ne, Bool.not_true, Bool.not_false, Bool.true_eq_false, Bool.false_eq_true, ne_eq, Decidable.not_not, inB_t, inB_f] at *); omega)
        | skip
      refine ⟨_, Nat.sub_lt (by omega) Nat.one_pos, j + 1, by omega, by simp only [upd_eq, Nat.reduceEqDiff, if_false, if_true, h0, h3, h9, h10, h11], by simp only [upd_eq, Nat.reduceEqDiff, if_false, if_true, h0, h3, h9, h10, h11], by simp only [upd_eq, Nat.reduceEqDiff, if_false, if_true, h0, h3, h9, h10, h11], by simp only [upd_eq, Nat.reduceEqDiff, if_false, if_true, h0, h3, h9, h10, h11], by simp only [upd_eq, Nat.reduceEqDiff, if_false, if_true, h0, h3, h9, h10, h11], ?_⟩
      rfl
    · have hj' : j = ls.length := by omega
      rw [hj', List.take_length] at h3
      repeat' (first | ((first | refine wSeqr (fun xx hx => ?_) | refine wSeqrF (fun xx hx => ?_) | refine wIf (fun xx hx => ?_) | refine wReg (fun xx hx => ?_) | refine wRegF (fun xx hx => ?_) | (refine wRet ?_; (try simp only [thenQ, blockQ]); (try (subst hQQ; (try simp only [thenQ, blockQ]))); refine ends_by (fun xx hx => ?_))); have hc := trivial; (repeat' (simp only [hc, Nat.reduceBEq, go_sem, Nat.reduceAdd, Nat.reduceMul, Nat.reduceSub, Nat.reduceEqDiff, Nat.reduceLT, Nat.reduceLeDiff, Int.reduceEq, Int.reduceLT, Int.reduceLE, reduceIte, aresults, aresult, hp0, h0, h3, h9, h10, h11] at hx; (try ((first | rw [guardL_if] at hx | rw [guardF_if] at hx); split at hx <;> rename_i hc)))); all_goals (subst hx; first | (refine ⟨_, rfl, fun ht => ?_, fun ht => ?_⟩ <;> (try simp only [Bool.not_eq_true', Bool.not_eq_false', Bool.and_eq_true, Bool.and_eq_false_iff, Bool.or_eq_true, Bool.or_eq_false_iff, decide_eq_true_eq, decide_eq_false_iff_not, beq_iff_eq, bne_iff_ne, Bool.not_true, Bool.not_false, Bool.true_eq_false, Bool.false_eq_true, ne_eq, Decidable.not_not, inB_t, inB_f] at ht)) | (refine ⟨_, rfl, ?_⟩; (try simp only [tupOf])))) | refine wSkip ?_ | (refine wExit ?_; simp only [thenQ, blockQ, reduceIte, Nat.reduceEqDiff]) | refine wSeq ?_ | refine wBlock ?_ | (subst hQQ; (try simp only [thenQ, blockQ, reduceIte, Nat.reduceEqDiff])))
      all_goals first
        | (exfalso; (try simp only [Bool.not_eq_true', Bool.not_eq_false', Bool.and_eq_true, Bool.and_eq_false_iff, Bool.or_eq_true, Bool.or_eq_false_iff, decide_eq_true_eq, decide_eq_false_iff_not, beq_iff_eq, bne_iff_ne, Bool.not_true, Bool.not_false, Bool.true_eq_false, Bool.false_eq_true, ne_eq, Decidable.not_not, inB_t, inB_f] at *); omega)
        | skip
      by_cases hz : ls.flatten.length = 0
      · have h3' := h3
        rw [hz] at h3'
        have h3z : e 3 = .v (.int .i64 0) := h3'
        repeat' (first | ((first | refine wSeqr (fun xx hx => ?_) | refine wSeqrF (fun xx hx => ?_) | refine wIf (fun xx hx => ?_) | refine wReg (fun xx hx => ?_) | refine wRegF (fun xx hx => ?_) | (refine wRet ?_; (try simp only [thenQ, blockQ]); (try (subst hQQ; (try simp only [thenQ, blockQ]))); refine ends_by (fun xx hx => ?_))); have hc := trivial; (repeat' (simp only [hc, Nat.reduceBEq, go_sem, Nat.reduceAdd, Nat.reduceMul, Nat.reduceSub, Nat.reduceEqDiff, Nat.reduceLT, Nat.reduceLeDiff, Int.reduceEq, Int.reduceLT, Int.reduceLE, reduceIte, aresults, aresult, hp0, h0, h3z, cr_Grow0, List.length_map] at hx; (try ((first | rw [guardL_if] at hx | rw [guardF_if] at hx); split at hx <;> rename_i hc)))); all_goals (subst hx; first | (refine ⟨_, rfl, fun ht => ?_, fun ht => ?_⟩ <;> (try simp only [Bool.not_eq_true', Bool.not_eq_false', Bool.and_eq_true, Bool.and_eq_false_iff, Bool.or_eq_true, Bool.or_eq_false_iff, decide_eq_true_eq, decide_eq_false_iff_not, beq_iff_eq, bne_iff_ne, Bool.not_true, Bool.not_false, Bool.true_eq_false, Bool.false_eq_true, ne_eq, Decidable.not_not, inB_t, inB_f] at ht)) | (refine ⟨_, rfl, ?_⟩; (try simp only [tupOf])))) | refine wSkip ?_ | (refine wExit ?_; simp only [thenQ, blockQ, reduceIte, Nat.reduceEqDiff]) | refine wSeq ?_ | refine wBlock ?_ | (subst hQQ; (try simp only [thenQ, blockQ, reduceIte, Nat.reduceEqDiff])))
        refine wLoop (fun k s => ∃ (j : Nat), j + k = ls.length ∧ s.1 6 = .v (.slice none 0 0) ∧ s.1 25 = .lst false (ls.map encB) ∧ s.1 26 = .v (.int .i64 (ls.length : Nat)) ∧ s.1 27 = .v (.int .i64 (j : Nat)) ∧ (s.2 = Hp.nil)) (fun k s hI => ?_) (ls.length) _ ?_
        · obtain ⟨e, H⟩ := s
          obtain ⟨j, hj, h6, h25, h26, h27, hh⟩ := hI
          simp only at h6 h25 h26 h27 hh
          subst hh
          by_cases hlt : j < ls.length
          · obtain ⟨l, hg, hd, hm⟩ := at_drop hlt
            have hg' := map_at (f := encB) hg
            have hl0 : l = [] := by
              have h1 := flat_take_succ hg
              have h2 := flat_take_len ls (j + 1)
              rw [h1, List.length_append] at h2
              exact List.length_eq_zero_iff.1 (by omega)
            subst hl0
            have hap : aappend Try.prog Hp.nil [22, 22] (.v (.slice none 0 0)) (bytesL []) = some (.v (.slice none 0 0), Hp.nil) := by
              have hzz : zeroOf Try.prog 5 = some [cell 0] := zero5
              simp only [aappend, el22, hzz, by5, Option.bind_some, happ_b (isB_l []) int22, List.length_nil, if_true]
            repeat' (first | ((first | refine wSeqr (fun xx hx => ?_) | refine wSeqrF (fun xx hx => ?_) | refine wIf (fun xx hx => ?_) | refine wReg (fun xx hx => ?_) | refine wRegF (fun xx hx => ?_) | (refine wRet ?_; (try simp only [thenQ, blockQ]); (try (subst hQQ; (try simp only [thenQ, blockQ]))); refine ends_by (fun xx hx => ?_))); have hc := trivial; (repeat' (simp only [hc, Nat.reduceBEq, go_sem, Nat.reduceAdd, Nat.reduceMul, Nat.reduceSub, Nat.reduceEqDiff, Nat.reduceLT, Nat.reduceLeDiff, Int.reduceEq, Int.reduceLT, Int.reduceLE, reduceIte, aresults, aresult, hp0, h6, h25, h26, h27, hg', encB, hap, wrap_succ (show j < 9223372036854775807 by omega)] at hx; (try ((first | rw [guardL_if] at hx | rw [guardF_if] at hx); split at hx <;> rename_i hc)))); all_goals (subst hx; first | (refine ⟨_, rfl, fun ht => ?_, fun ht => ?_⟩ <;> (try simp only [Bool.not_eq_true', Bool.not_eq_false', Bool.and_eq_true, Bool.and_eq_false_iff, Bool.or_eq_true, Bool.or_eq_false_iff, decide_eq_true_eq, decide_eq_false_iff_not, beq_iff_eq, bne_iff_ne, Bool.not_true, Bool.not_false, Bool.true_eq_false, Bool.false_eq_true, ne_eq, Decidable.not_not, inB_t, inB_f] at ht)) | (refine ⟨_, rfl, ?_⟩; (try simp only [tupOf])))) | refine wSkip ?_ | (refine wExit ?_; simp only [thenQ, blockQ, reduceIte, Nat.reduceEqDiff]) | refine wSeq ?_ | refine wBlock ?_ | (subst hQQ; (try simp only [thenQ, blockQ, reduceIte, Nat.reduceEqDiff])))
            all_goals first
              | (exfalso; (try simp only [Bool.not_eq_true', Bool.not_eq_false', Bool.and_eq_true, Bool.and_eq_false_iff, Bool.or_eq_true, Bool.or_eq_false_iff, decide_eq_true_eq, decide_eq_false_iff_not, beq_iff_eq, bne_iff_ne, Bool.not_true, Bool.not_false, Bool.true_eq_false, Bool.false_eq_true, ne_eq, Decidable.not_not, inB_t, inB_f] at *); omega)
              | skip
            refine ⟨_, Nat.sub_lt (by omega) Nat.one_pos, j + 1, by omega, by simp only [upd_eq, Nat.reduceEqDiff, if_false, if_true, h6, h25, h26, h27], by simp only [upd_eq, Nat.reduceEqDiff, if_false, if_true, h6, h25, h26, h27], by simp only [upd_eq, Nat.reduceEqDiff, if_false, if_true, h6, h25, h26, h27], by simp only [upd_eq, Nat.reduceEqDiff, if_false, if_true, h6, h25, h26, h27], ?_⟩
            rfl
          · repeat' (first | ((first | refine wSeqr (fun xx hx => ?_) | refine wSeqrF (fun xx hx => ?_) | refine wIf (fun xx hx => ?_) | refine wReg (fun xx hx => ?_) | refine wRegF (fun xx hx => ?_) | (refine wRet ?_; (try simp only [thenQ, blockQ]); (try (subst hQQ; (try simp only [thenQ, blockQ]))); refine ends_by (fun xx hx => ?_))); have hc := trivial; (repeat' (simp only [hc, Nat.reduceBEq, go_sem, Nat.reduceAdd, Nat.reduceMul, Nat.reduceSub, Nat.reduceEqDiff, Nat.reduceLT, Nat.reduceLeDiff, Int.reduceEq, Int.reduceLT, Int.reduceLE, reduceIte, aresults, aresult, hp0, h6, h25, h26, h27] at hx; (try ((first | rw [guardL_if] at hx | rw [guardF_if] at hx); split at hx <;> rename_i hc)))); all_goals (subst hx; first | (refine ⟨_, rfl, fun ht => ?_, fun ht => ?_⟩ <;> (try simp only [Bool.not_eq_true', Bool.not_eq_false', Bool.and_eq_true, Bool.and_eq_false_iff, Bool.or_eq_true, Bool.or_eq_false_iff, decide_eq_true_eq, decide_eq_false_iff_not, beq_iff_eq, bne_iff_ne, Bool.not_true, Bool.not_false, Bool.true_eq_false, Bool.false_eq_true, ne_eq, Decidable.not_not, inB_t, inB_f] at ht)) | (refine ⟨_, rfl, ?_⟩; (try simp only [tupOf])))) | refine wSkip ?_ | (refine wExit ?_; simp only [thenQ, blockQ, reduceIte, Nat.reduceEqDiff]) | refine wSeq ?_ | refine wBlock ?_ | (subst hQQ; (try simp only [thenQ, blockQ, reduceIte, Nat.reduceEqDiff])))
            all_goals first
              | (exfalso; (try simp only [Bool.not_eq_true', Bool.not_eq_false', Bool.and_eq_true, Bool.and_eq_false_iff, Bool.or_eq_true, Bool.or_eq_false_iff, decide_eq_true_eq, decide_eq_false_iff_not, beq_iff_eq, bne_iff_ne, Bool.not_true, Bool.not_false, Bool.true_eq_false, Bool.false_eq_true, ne_eq, Decidable.not_not, inB_t, inB_f] at *); omega)
              | skip
            have e0 : ls.flatten = [] := List.length_eq_zero_iff.1 hz
            rw [e0]
            exact gF_O (gF_nil 11 _)
        · refine ⟨0, by omega, rfl, rfl, rfl, rfl, ?_⟩
          rfl
      · repeat' (first | ((first | refine wSeqr (fun xx hx => ?_) | refine wSeqrF (fun xx hx => ?_) | refine wIf (fun xx hx => ?_) | refine wReg (fun xx hx => ?_) | refine wRegF (fun xx hx => ?_) | (refine wRet ?_; (try simp only [thenQ, blockQ]); (try (subst hQQ; (try simp only [thenQ, blockQ]))); refine ends_by (fun xx hx => ?_))); have hc := trivial; (repeat' (simp only [hc, Nat.reduceBEq, go_sem, Nat.reduceAdd, Nat.reduceMul, Nat.reduceSub, Nat.reduceEqDiff, Nat.reduceLT, Nat.reduceLeDiff, Int.reduceEq, Int.reduceLT, Int.reduceLE, reduceIte, aresults, aresult, hp0, h0, h3, cr_Grow ls.flatten.length (by omega) hl, List.length_map] at hx; (try ((first | rw [guardL_if] at hx | rw [guardF_if] at hx); split at hx <;> rename_i hc)))); all_goals (subst hx; first | (refine ⟨_, rfl, fun ht => ?_, fun ht => ?_⟩ <;> (try simp only [Bool.not_eq_true', Bool.not_eq_false', Bool.and_eq_true, Bool.and_eq_false_iff, Bool.or_eq_true, Bool.or_eq_false_iff, decide_eq_true_eq, decide_eq_false_iff_not, beq_iff_eq, bne_iff_ne, Bool.not_true, Bool.not_false, Bool.true_eq_false, Bool.false_eq_true, ne_eq, Decidable.not_not, inB_t, inB_f] at ht)) | (refine ⟨_, rfl, ?_⟩; (try simp only [tupOf])))) | refine wSkip ?_ | (refine wExit ?_; simp only [thenQ, blockQ, reduceIte, Nat.reduceEqDiff]) | refine wSeq ?_ | refine wBlock ?_ | (subst hQQ; (try simp only [thenQ, blockQ, reduceIte, Nat.reduceEqDiff])))
        refine wLoop (fun k s => ∃ (j : Nat), j + k = ls.length ∧ s.1 6 = .sl 0 1 0 ((ls.take j).flatten).length ∧ s.1 25 = .lst false (ls.map encB) ∧ s.1 26 = .v (.int .i64 (ls.length : Nat)) ∧ s.1 27 = .v (.int .i64 (j : Nat)) ∧ (s.2.h 0 = some (((ls.take j).flatten ++ List.replicate (ls.flatten.length - ((ls.take j).flatten).length) 0).map cell))) (fun k s hI => ?_) (ls.length) _ ?_
        · obtain ⟨e, H⟩ := s
          obtain ⟨j, hj, h6, h25, h26, h27, hh⟩ := hI
          simp only at h6 h25 h26 h27 hh
          by_cases hlt : j < ls.length
          · obtain ⟨l, hg, hd, hm⟩ := at_drop hlt
            have hg' := map_at (f := encB) hg
            have hs := flat_take_succ hg
            have hle := flat_take_len ls (j + 1)
            have hle0 := flat_take_len ls j
            have hsl : ((ls.take (j + 1)).flatten).length = ((ls.take j).flatten).length + l.length := by rw [hs, List.length_append]
            have hap := app_room (P := Try.prog) el22 zero5 by5 int22 (isB_l l) ((ls.take j).flatten) (List.replicate (ls.flatten.length - ((ls.take j).flatten).length) 0) (by rw [List.length_replicate]; omega) (by rw [List.length_replicate]; omega) hh rfl
            rw [← hs] at hap
            repeat' (first | ((first | refine wSeqr (fun xx hx => ?_) | refine wSeqrF (fun xx hx => ?_) | refine wIf (fun xx hx => ?_) | refine wReg (fun xx hx => ?_) | refine wRegF (fun xx hx => ?_) | (refine wRet ?_; (try simp only [thenQ, blockQ]); (try (subst hQQ; (try simp only [thenQ, blockQ]))); refine ends_by (fun xx hx => ?_))); have hc := trivial; (repeat' (simp only [hc, Nat.reduceBEq, go_sem, Nat.reduceAdd, Nat.reduceMul, Nat.reduceSub, Nat.reduceEqDiff, Nat.reduceLT, Nat.reduceLeDiff, Int.reduceEq, Int.reduceLT, Int.reduceLE, reduceIte, aresults, aresult, hp0, h6, h25, h26, h27, hg', encB, hap, wrap_succ (show j < 9223372036854775807 by omega)] at hx; (try ((first | rw [guardL_if] at hx | rw [guardF_if] at hx); split at hx <;> rename_i hc)))); all_goals (subst hx; first | (refine ⟨_, rfl, fun ht => ?_, fun ht => ?_⟩ <;> (try simp only [Bool.not_eq_true', Bool.not_eq_false', Bool.and_eq_true, Bool.and_eq_false_iff, Bool.or_eq_true, Bool.or_eq_false_iff, decide_eq_true_eq, decide_eq_false_iff_not, beq_iff_eq, bne_iff_ne, Bool.not_true, Bool.not_false, Bool.true_eq_false, Bool.false_eq_true, ne_eq, Decidable.not_not, inB_t, inB_f] at ht)) | (refine ⟨_, rfl, ?_⟩; (try simp only [tupOf])))) | refine wSkip ?_ | (refine wExit ?_; simp only [thenQ, blockQ, reduceIte, Nat.reduceEqDiff]) | refine wSeq ?_ | refine wBlock ?_ | (subst hQQ; (try simp only [thenQ, blockQ, reduceIte, Nat.reduceEqDiff])))
            all_goals first
              | (exfalso; (try simp only [Bool.not_eq_true', Bool.not_eq_false', Bool.and_eq_true, Bool.and_eq_false_iff, Bool.or_eq_true, Bool.or_eq_false_iff, decide_eq_true_eq, decide_eq_false_iff_not, beq_iff_eq, bne_iff_ne, Bool.not_true, Bool.not_false, Bool.true_eq_false, Bool.false_eq_true, ne_eq, Decidable.not_not, inB_t, inB_f] at *); omega)
              | skip
            refine ⟨_, Nat.sub_lt (by omega) Nat.one_pos, j + 1, by omega, by simp only [upd_eq, Nat.reduceEqDiff, if_false, if_true, h6, h25, h26, h27], by simp only [upd_eq, Nat.reduceEqDiff, if_false, if_true, h6, h25, h26, h27], by simp only [upd_eq, Nat.reduceEqDiff, if_false, if_true, h6, h25, h26, h27], by simp only [upd_eq, Nat.reduceEqDiff, if_false, if_true, h6, h25, h26, h27], ?_⟩
            simp only [Hp.set_h, if_true, List.drop_replicate, hsl, Nat.sub_sub]
          · have hj' : j = ls.length := by omega
            rw [hj', List.take_length] at h6 hh
            rw [Nat.sub_self, List.replicate_zero, List.append_nil] at hh
            repeat' (first | ((first | refine wSeqr (fun xx hx => ?_) | refine wSeqrF (fun xx hx => ?_) | refine wIf (fun xx hx => ?_) | refine wReg (fun xx hx => ?_) | refine wRegF (fun xx hx => ?_) | (refine wRet ?_; (try simp only [thenQ, blockQ]); (try (subst hQQ; (try simp only [thenQ, blockQ]))); refine ends_by (fun xx hx => ?_))); have hc := trivial; (repeat' (simp only [hc, Nat.reduceBEq, go_sem, Nat.reduceAdd, Nat.reduceMul, Nat.reduceSub, Nat.reduceEqDiff, Nat.reduceLT, Nat.reduceLeDiff, Int.reduceEq, Int.reduceLT, Int.reduceLE, reduceIte, aresults, aresult, hp0, h6, h25, h26, h27] at hx; (try ((first | rw [guardL_if] at hx | rw [guardF_if] at hx); split at hx <;> rename_i hc)))); all_goals (subst hx; first | (refine ⟨_, rfl, fun ht => ?_, fun ht => ?_⟩ <;> (try simp only [Bool.not_eq_true', Bool.not_eq_false', Bool.and_eq_true, Bool.and_eq_false_iff, Bool.or_eq_true, Bool.or_eq_false_iff, decide_eq_true_eq, decide_eq_false_iff_not, beq_iff_eq, bne_iff_ne, Bool.not_true, Bool.not_false, Bool.true_eq_false, Bool.false_eq_true, ne_eq, Decidable.not_not, inB_t, inB_f] at ht)) | (refine ⟨_, rfl, ?_⟩; (try simp only [tupOf])))) | refine wSkip ?_ | (refine wExit ?_; simp only [thenQ, blockQ, reduceIte, Nat.reduceEqDiff]) | refine wSeq ?_ | refine wBlock ?_ | (subst hQQ; (try simp only [thenQ, blockQ, reduceIte, Nat.reduceEqDiff])))
            all_goals first
              | (exfalso; (try simp only [Bool.not_eq_true', Bool.not_eq_false', Bool.and_eq_true, Bool.and_eq_false_iff, Bool.or_eq_true, Bool.or_eq_false_iff, decide_eq_true_eq, decide_eq_false_iff_not, beq_iff_eq, bne_iff_ne, Bool.not_true, Bool.not_false, Bool.true_eq_false, Bool.false_eq_true, ne_eq, Decidable.not_not, inB_t, inB_f] at *); omega)
              | skip
            exact gO_bytes hh
        · refine ⟨0, by omega, rfl, rfl, rfl, rfl, ?_⟩
          simp only [List.take_zero, List.flatten_nil, List.length_nil, Nat.sub_zero, List.nil_append, Hp.new_h, nil_g, if_true]
  · refine ⟨0, by omega, rfl, rfl, rfl, rfl, rfl, ?_⟩
    rfl
theorem p_iConcat (ls : List (List Int)) (hn : ls.length ≤ 64) (hl : ls.flatten.length ≤ 1048576) : pure Try.prog cfg0 63 Try.f63 [.lst false (ls.map encB)] = some (bytesL ls.flatten, true) := (pq_iConcat ls hn hl).1
theorem c_iConcat (ls : List (List Int)) (hn : ls.length ≤ 64) (hl : ls.flatten.length ≤ 1048576) : ∀ H, call Try.prog cfg0 0 63 [.lst false (ls.map encB)] H = some (bytesL ls.flatten, H) :=
  call_fz Try.func63 rfl ok_iConcat rfl (by simp only [fz_cons, fz_nil, go_sem, fz_bytess, and_self]) (pq_iConcat ls hn hl).1
theorem o_iConcat (ls : List (List Int)) (hn : ls.length ≤ 64) (hl : ls.flatten.length ≤ 1048576) : ∀ H, call Try.prog cfg0 1 63 [.lst false (ls.map encB)] H = mat depthD (bytesL ls.flatten) H := fun H =>
  call_ofO Try.func63 rfl ok_iConcat rfl (mapM_self fun x hx => ((show ∀ x ∈ ([.lst false (ls.map encB)] : List AV), Fz depthD x by simp only [fz_cons, fz_nil, go_sem, fz_bytess, and_self]) x hx).1 H) (pq_iConcat ls hn hl).2

/-- A join whose first part is a literal byte. -/
theorem dz_cat (z : Int) (ls : List (List Int)) : Dzs depthD [.lst true ([.lst true [[.v (.int .u8 z)]]] :: ls.map encB)] [.lst false (([z] :: ls).map encB)] := by
  have hf : ∀ c ∈ ls.map encB, ∀ x ∈ c, Fz 11 x := fun c hc x hx => by
    obtain ⟨l, -, rfl⟩ := List.mem_map.1 hc
    simp only [encB, List.mem_singleton] at hx
    subst hx; exact bytesL_fz 9 l
  have key : ∀ n, Dz n (.lst true [[.v (.int .u8 z)]]) (bytesL [z]) → (∀ c ∈ ls.map encB, ∀ x ∈ c, Fz n x) → Dz (n + 1) (.lst true ([.lst true [[.v (.int .u8 z)]]] :: ls.map encB)) (.lst false (([z] :: ls).map encB)) := by
    intro n h1 h2
    refine ⟨fun H => ?_, ?_⟩
    · simp only [deep]
      have e1 : (ls.map encB).mapM (fun (c : List AV) => c.mapM (deep H n)) = some (ls.map encB) := mapM_self2 fun c hc => mapM_self fun x hx => (h2 c hc x hx).1 H
      have e2 : ([AV.lst true [[AV.v (.int .u8 z)]]] : List AV).mapM (deep H n) = some [bytesL [z]] := mapM_c (h1.1 H) mapM_n
      simp only [List.mapM_cons, e1, e2, Option.bind_eq_bind, Option.bind_some, Option.pure_def, Option.map_some]
      rfl
    · simp only [hasRefs, List.any_cons, h1.2, List.any_nil, Bool.or_false, Bool.false_or]
      rw [List.any_eq_false]; intro c hc
      simp only [Bool.not_eq_true]
      rw [List.any_eq_false]; intro x hx
      simp [(h2 c hc x hx).2]
  exact Dzs.cons (key 11 ⟨fun H => rfl, rfl⟩ hf) Dzs.nil
theorem oz_cat (z : Int) (ls : List (List Int)) (hn : ls.length < 64) (hl : ls.flatten.length ≤ 1048000) (H : Hp) : call Try.prog cfg0 1 63 [.lst true ([.lst true [[.v (.int .u8 z)]]] :: ls.map encB)] H = some (.sl H.g 1 0 ([z] :: ls).flatten.length, H.new (([z] :: ls).flatten.map cell)) := by
  have hp := (pq_iConcat ([z] :: ls) (by simp; omega) (by simp only [List.flatten_cons, List.length_append, List.length_cons, List.length_nil]; omega)).2
  rw [call_ofO Try.func63 rfl ok_iConcat rfl ((dz_cat z ls).1 H) hp]
  exact mat_bytes 10 _ (by simp) H
theorem oz_cat1 (z : Int) (a : List Int) (h : a.length ≤ 1000) : ∀ H, call Try.prog cfg0 1 63 [.lst true [[.lst true [[.v (.int .u8 z)]]], [bytesL a]]] H = some (.sl H.g 1 0 [[z], a].flatten.length, H.new ([[z], a].flatten.map cell)) := oz_cat z [a] (by simp) (by simp; omega)
theorem oz_cat2 (z : Int) (a b : List Int) (h : a.length ≤ 1000 ∧ b.length ≤ 1000) : ∀ H, call Try.prog cfg0 1 63 [.lst true [[.lst true [[.v (.int .u8 z)]]], [bytesL a], [bytesL b]]] H = some (.sl H.g 1 0 [[z], a, b].flatten.length, H.new ([[z], a, b].flatten.map cell)) := oz_cat z [a, b] (by simp) (by simp; omega)
theorem oz_cat3 (z : Int) (a b c : List Int) (h : a.length ≤ 1000 ∧ b.length ≤ 1000 ∧ c.length ≤ 1000000) : ∀ H, call Try.prog cfg0 1 63 [.lst true [[.lst true [[.v (.int .u8 z)]]], [bytesL a], [bytesL b], [bytesL c]]] H = some (.sl H.g 1 0 [[z], a, b, c].flatten.length, H.new ([[z], a, b, c].flatten.map cell)) := oz_cat z [a, b, c] (by simp) (by simp; omega)
theorem oz_cat4 (z : Int) (a b c d : List Int) (h : a.length ≤ 1000 ∧ b.length ≤ 1000 ∧ c.length ≤ 1000 ∧ d.length ≤ 1000) : ∀ H, call Try.prog cfg0 1 63 [.lst true [[.lst true [[.v (.int .u8 z)]]], [bytesL a], [bytesL b], [bytesL c], [bytesL d]]] H = some (.sl H.g 1 0 [[z], a, b, c, d].flatten.length, H.new ([[z], a, b, c, d].flatten.map cell)) := oz_cat z [a, b, c, d] (by simp) (by simp; omega)
theorem wrap8 (z : Int) : IntKind.wrap .u8 z = z % 256 := by simp [IntKind.wrap, IntKind.bits, IntKind.signed]
theorem wordL_1 (n : Int) : wordL n 1 = [n % 256] := by simp [wordL_succ, wordL_zero]
/-- A message's parts in bytes. -/
def msgP (k : MessageM) : List (List Int) :=
  if k.Kind = 1 ∨ k.Kind = 3 then [[k.Kind % 256], wordL k.Seq 4, wordL k.Node 1]
  else if k.Kind = 2 then [[k.Kind % 256], wordL k.Seq 4]
  else if k.Kind = 4 then [[k.Kind % 256], wordL k.Claim.Node 1, wordL k.Claim.Inc 4, wordL k.Claim.Status 1, wordL k.Claim.Meta 4]
  else [[k.Kind % 256], wordL k.Op 1, wordL k.Key.Id 1, k.Key.Bytes]
def msgB (k : MessageM) : List Int := (msgP k).flatten
/-- Its numbers are none below 0. -/
def msgNN (k : MessageM) : Prop := (0 ≤ k.Seq ∧ k.Seq ≤ 9223372036854775807) ∧ (0 ≤ k.Node ∧ k.Node ≤ 9223372036854775807) ∧ (0 ≤ k.Claim.Node ∧ k.Claim.Node ≤ 9223372036854775807) ∧ (0 ≤ k.Claim.Inc ∧ k.Claim.Inc ≤ 9223372036854775807) ∧ (0 ≤ k.Claim.Status ∧ k.Claim.Status ≤ 9223372036854775807) ∧ (0 ≤ k.Claim.Meta ∧ k.Claim.Meta ≤ 9223372036854775807) ∧ (0 ≤ k.Op ∧ k.Op ≤ 9223372036854775807) ∧ (0 ≤ k.Key.Id ∧ k.Key.Id ≤ 9223372036854775807) ∧ k.Key.Bytes.length ≤ 1000000
theorem msgB_len {k : MessageM} : (msgB k).length ≤ 11 + k.Key.Bytes.length := by
  unfold msgB msgP
  (repeat' split) <;> simp [wordL_len] <;> omega
theorem ok_iMessage_encoded : fnOk Try.prog cfg0 37 Try.f37 = true := by kernel_rfl
theorem pq_iMessage_encoded (k : MessageM) (hk : msgNN k) : pure Try.prog cfg0 37 Try.f37 [.agg [.v (.int .i64 k.Kind), .v (.int .i64 k.Seq), .v (.int .i64 k.Node), .v (.int .i64 k.Claim.Node), .v (.int .i64 k.Claim.Inc), .v (.int .i64 k.Claim.Status), .v (.int .i64 k.Claim.Meta), .v (.int .i64 k.Op), .v (.int .i64 k.Key.Id), bytesL k.Key.Bytes]] = some (bytesL (msgB k), true) ∧ owned Try.prog cfg0 37 Try.f37 [.agg [.v (.int .i64 k.Kind), .v (.int .i64 k.Seq), .v (.int .i64 k.Node), .v (.int .i64 k.Claim.Node), .v (.int .i64 k.Claim.Inc), .v (.int .i64 k.Claim.Status), .v (.int .i64 k.Claim.Meta), .v (.int .i64 k.Op), .v (.int .i64 k.Key.Id), bytesL k.Key.Bytes]] = some (bytesL (msgB k)) := by
  refine both_wp (rs := [.tmp 2]) rfl rfl ?_
  have hp0 : ∀ b, cfg0.pol 37 b = (if b = 22 then 1 else if b = 30 then 1 else if b = 49 then 1 else if b = 62 then 1 else 0) := fun b => rfl
  obtain ⟨n1, n2, n3, n4, n5, n6, n7, n8, n9⟩ := hk
  have l1 := wordL_len k.Seq 4
  have l2 := wordL_len k.Node 1
  have l3 := wordL_len k.Claim.Node 1
  have l4 := wordL_len k.Claim.Inc 4
  have l5 := wordL_len k.Claim.Status 1
  have l6 := wordL_len k.Claim.Meta 4
  have l7 := wordL_len k.Op 1
  have l8 := wordL_len k.Key.Id 1
  unfold msgB msgP
  repeat' (first | ((first | refine wSeqr (fun xx hx => ?_) | refine wSeqrF (fun xx hx => ?_) | refine wIf (fun xx hx => ?_) | refine wReg (fun xx hx => ?_) | refine wRegF (fun xx hx => ?_) | (refine wRet ?_; (try simp only [thenQ, blockQ]); (try (subst hQQ; (try simp only [thenQ, blockQ]))); refine ends_by (fun xx hx => ?_))); have hc := trivial; (repeat' (simp only [hc, Nat.reduceBEq, go_sem, Nat.reduceAdd, Nat.reduceMul, Nat.reduceSub, Nat.reduceEqDiff, Nat.reduceLT, Nat.reduceLeDiff, Int.reduceEq, Int.reduceLT, Int.reduceLE, reduceIte, aresults, aresult, hp0, wrap8, aconv_int u2 u5, c_iword k.Seq 4 4 rfl n1 (by omega), c_iword k.Node 1 1 rfl n2 (by omega), c_iword k.Claim.Node 1 1 rfl n3 (by omega), c_iword k.Claim.Inc 4 4 rfl n4 (by omega), c_iword k.Claim.Status 1 1 rfl n5 (by omega), c_iword k.Claim.Meta 4 4 rfl n6 (by omega), c_iword k.Op 1 1 rfl n7 (by omega), c_iword k.Key.Id 1 1 rfl n8 (by omega), oz_cat1 _ _ (show (wordL k.Seq 4).length ≤ 1000 by omega), oz_cat2 _ _ _ (show (wordL k.Seq 4).length ≤ 1000 ∧ (wordL k.Node 1).length ≤ 1000 by omega), oz_cat3 _ _ _ _ (show (wordL k.Op 1).length ≤ 1000 ∧ (wordL k.Key.Id 1).length ≤ 1000 ∧ k.Key.Bytes.length ≤ 1000000 by omega), oz_cat4 _ _ _ _ _ (show (wordL k.Claim.Node 1).length ≤ 1000 ∧ (wordL k.Claim.Inc 4).length ≤ 1000 ∧ (wordL k.Claim.Status 1).length ≤ 1000 ∧ (wordL k.Claim.Meta 4).length ≤ 1000 by omega)] at hx; (try ((first | rw [guardL_if] at hx | rw [guardF_if] at hx); split at hx <;> rename_i hc)))); all_goals (subst hx; first | (refine ⟨_, rfl, fun ht => ?_, fun ht => ?_⟩ <;> (try simp only [Bool.not_eq_true', Bool.not_eq_false', Bool.and_eq_true, Bool.and_eq_false_iff, Bool.or_eq_true, Bool.or_eq_false_iff, decide_eq_true_eq, decide_eq_false_iff_not, beq_iff_eq, bne_iff_ne, Bool.not_true, Bool.not_false, Bool.true_eq_false, Bool.false_eq_true, ne_eq, Decidable.not_not, inB_t, inB_f] at ht)) | (refine ⟨_, rfl, ?_⟩; (try simp only [tupOf])))) | refine wSkip ?_ | (refine wExit ?_; simp only [thenQ, blockQ, reduceIte, Nat.reduceEqDiff]) | refine wSeq ?_ | refine wBlock ?_ | (subst hQQ; (try simp only [thenQ, blockQ, reduceIte, Nat.reduceEqDiff])))
  all_goals first
    | (rw [if_pos (by (try simp only [Bool.not_eq_true', Bool.not_eq_false', Bool.and_eq_true, Bool.and_eq_false_iff, Bool.or_eq_true, Bool.or_eq_false_iff, decide_eq_true_eq, decide_eq_false_iff_not, beq_iff_eq, bne_iff_ne, Bool.not_true, Bool.not_false, Bool.true_eq_false, Bool.false_eq_true, ne_eq, Decidable.not_not, inB_t, inB_f] at *); omega)]; exact gO_bytes (new_same _ _))
    | (rw [if_neg (by (try simp only [Bool.not_eq_true', Bool.not_eq_false', Bool.and_eq_true, Bool.and_eq_false_iff, Bool.or_eq_true, Bool.or_eq_false_iff, decide_eq_true_eq, decide_eq_false_iff_not, beq_iff_eq, bne_iff_ne, Bool.not_true, Bool.not_false, Bool.true_eq_false, Bool.false_eq_true, ne_eq, Decidable.not_not, inB_t, inB_f] at *); omega), if_pos (by (try simp only [Bool.not_eq_true', Bool.not_eq_false', Bool.and_eq_true, Bool.and_eq_false_iff, Bool.or_eq_true, Bool.or_eq_false_iff, decide_eq_true_eq, decide_eq_false_iff_not, beq_iff_eq, bne_iff_ne, Bool.not_true, Bool.not_false, Bool.true_eq_false, Bool.false_eq_true, ne_eq, Decidable.not_not, inB_t, inB_f] at *); omega)]; exact gO_bytes (new_same _ _))
    | (rw [if_neg (by (try simp only [Bool.not_eq_true', Bool.not_eq_false', Bool.and_eq_true, Bool.and_eq_false_iff, Bool.or_eq_true, Bool.or_eq_false_iff, decide_eq_true_eq, decide_eq_false_iff_not, beq_iff_eq, bne_iff_ne, Bool.not_true, Bool.not_false, Bool.true_eq_false, Bool.false_eq_true, ne_eq, Decidable.not_not, inB_t, inB_f] at *); omega), if_neg (by (try simp only [Bool.not_eq_true', Bool.not_eq_false', Bool.and_eq_true, Bool.and_eq_false_iff, Bool.or_eq_true, Bool.or_eq_false_iff, decide_eq_true_eq, decide_eq_false_iff_not, beq_iff_eq, bne_iff_ne, Bool.not_true, Bool.not_false, Bool.true_eq_false, Bool.false_eq_true, ne_eq, Decidable.not_not, inB_t, inB_f] at *); omega), if_pos (by (try simp only [Bool.not_eq_true', Bool.not_eq_false', Bool.and_eq_true, Bool.and_eq_false_iff, Bool.or_eq_true, Bool.or_eq_false_iff, decide_eq_true_eq, decide_eq_false_iff_not, beq_iff_eq, bne_iff_ne, Bool.not_true, Bool.not_false, Bool.true_eq_false, Bool.false_eq_true, ne_eq, Decidable.not_not, inB_t, inB_f] at *); omega)]; exact gO_bytes (new_same _ _))
    | (rw [if_neg (by (try simp only [Bool.not_eq_true', Bool.not_eq_false', Bool.and_eq_true, Bool.and_eq_false_iff, Bool.or_eq_true, Bool.or_eq_false_iff, decide_eq_true_eq, decide_eq_false_iff_not, beq_iff_eq, bne_iff_ne, Bool.not_true, Bool.not_false, Bool.true_eq_false, Bool.false_eq_true, ne_eq, Decidable.not_not, inB_t, inB_f] at *); omega), if_neg (by (try simp only [Bool.not_eq_true', Bool.not_eq_false', Bool.and_eq_true, Bool.and_eq_false_iff, Bool.or_eq_true, Bool.or_eq_false_iff, decide_eq_true_eq, decide_eq_false_iff_not, beq_iff_eq, bne_iff_ne, Bool.not_true, Bool.not_false, Bool.true_eq_false, Bool.false_eq_true, ne_eq, Decidable.not_not, inB_t, inB_f] at *); omega), if_neg (by (try simp only [Bool.not_eq_true', Bool.not_eq_false', Bool.and_eq_true, Bool.and_eq_false_iff, Bool.or_eq_true, Bool.or_eq_false_iff, decide_eq_true_eq, decide_eq_false_iff_not, beq_iff_eq, bne_iff_ne, Bool.not_true, Bool.not_false, Bool.true_eq_false, Bool.false_eq_true, ne_eq, Decidable.not_not, inB_t, inB_f] at *); omega)]; exact gO_bytes (new_same _ _))
    | (exfalso; (try simp only [Bool.not_eq_true', Bool.not_eq_false', Bool.and_eq_true, Bool.and_eq_false_iff, Bool.or_eq_true, Bool.or_eq_false_iff, decide_eq_true_eq, decide_eq_false_iff_not, beq_iff_eq, bne_iff_ne, Bool.not_true, Bool.not_false, Bool.true_eq_false, Bool.false_eq_true, ne_eq, Decidable.not_not, inB_t, inB_f] at *); omega)
theorem p_iMessage_encoded (k : MessageM) (hk : msgNN k) : pure Try.prog cfg0 37 Try.f37 [.agg [.v (.int .i64 k.Kind), .v (.int .i64 k.Seq), .v (.int .i64 k.Node), .v (.int .i64 k.Claim.Node), .v (.int .i64 k.Claim.Inc), .v (.int .i64 k.Claim.Status), .v (.int .i64 k.Claim.Meta), .v (.int .i64 k.Op), .v (.int .i64 k.Key.Id), bytesL k.Key.Bytes]] = some (bytesL (msgB k), true) := (pq_iMessage_encoded k hk).1
theorem c_iMessage_encoded (k : MessageM) (hk : msgNN k) : ∀ H, call Try.prog cfg0 0 37 [.agg [.v (.int .i64 k.Kind), .v (.int .i64 k.Seq), .v (.int .i64 k.Node), .v (.int .i64 k.Claim.Node), .v (.int .i64 k.Claim.Inc), .v (.int .i64 k.Claim.Status), .v (.int .i64 k.Claim.Meta), .v (.int .i64 k.Op), .v (.int .i64 k.Key.Id), bytesL k.Key.Bytes]] H = some (bytesL (msgB k), H) :=
  call_fz Try.func37 rfl ok_iMessage_encoded rfl (by simp only [fz_cons, fz_nil, go_sem, and_self]) (pq_iMessage_encoded k hk).1
theorem o_iMessage_encoded (k : MessageM) (hk : msgNN k) : ∀ H, call Try.prog cfg0 1 37 [.agg [.v (.int .i64 k.Kind), .v (.int .i64 k.Seq), .v (.int .i64 k.Node), .v (.int .i64 k.Claim.Node), .v (.int .i64 k.Claim.Inc), .v (.int .i64 k.Claim.Status), .v (.int .i64 k.Claim.Meta), .v (.int .i64 k.Op), .v (.int .i64 k.Key.Id), bytesL k.Key.Bytes]] H = mat depthD (bytesL (msgB k)) H := fun H =>
  call_ofO Try.func37 rfl ok_iMessage_encoded rfl (mapM_self fun x hx => ((show ∀ x ∈ ([.agg [.v (.int .i64 k.Kind), .v (.int .i64 k.Seq), .v (.int .i64 k.Node), .v (.int .i64 k.Claim.Node), .v (.int .i64 k.Claim.Inc), .v (.int .i64 k.Claim.Status), .v (.int .i64 k.Claim.Meta), .v (.int .i64 k.Op), .v (.int .i64 k.Key.Id), bytesL k.Key.Bytes]] : List AV), Fz depthD x by simp only [fz_cons, fz_nil, go_sem, and_self]) x hx).1 H) (pq_iMessage_encoded k hk).2

end
end Go.Proofs.Ytmpkcilehideiaa
