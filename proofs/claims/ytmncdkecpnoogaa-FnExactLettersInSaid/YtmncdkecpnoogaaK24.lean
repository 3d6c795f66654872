/- Contracts: comparisons and marks of results with numbers. -/
import Derived.Test.YtmncdkecpnoogaaK23
namespace Go.Proofs.Ytmncdkecpnoogaa
open Go Go.RowKit Go.Proofs.Ytmncdkecpnoogaa.Eng
set_option linter.unusedSimpArgs false
set_option linter.unusedVariables false
set_option maxRecDepth 100000
noncomputable section
/-- The marks from k on, in numbers. -/
def marksJ (k : Int) (n : Nat) : List Int := (List.range n).map fun (i : Nat) => k + (i : Int)
theorem marksJ_length (k : Int) (n : Nat) : (marksJ k n).length = n := by simp [marksJ]
theorem marksJ_at (k : Int) (n j : Nat) (h : j < n) : (marksJ k n)[j]? = some (k + j) := by simp [marksJ, h]
theorem marksJ_succ (k : Int) (n : Nat) : marksJ k (n + 1) = marksJ k n ++ [k + n] := by simp [marksJ, List.range_succ]
theorem fz_ii (c : Int) (l : List Int) : Fz depthD (.agg [.v (.int .i64 c), i64L l]) := Fz.agg (n := 11) fun x hx => by
  simp only [List.mem_cons, List.not_mem_nil, or_false] at hx
  rcases hx with rfl | rfl
  · exact Fz.int _ _ _
  · exact i64L_fz 9 l
theorem gives_isl {H : Hp} {c : Int} {l : List Int} {b : Nat} (hb : H.h b = some (l.map icell)) : GivesO (.agg [.v (.int .i64 c), i64L l]) (.agg [.v (.int .i64 c), .sl b 1 0 l.length]) H := by
  have h : RAcc ⟨H.h, b + 1⟩ (.sl b 1 0 l.length) 1 (l.map icell) l.length := ⟨by simp, .inr ⟨b, by simp, rfl, hb⟩⟩
  exact (gives_ints (c := c) h rfl : GivesO _ _ ⟨H.h, b + 1⟩)
theorem cr_mark0 (q : Int) : ∀ H, call Try.prog cfg0 0 99 [.lst false [], .v (.int .i64 q)] H = some (.v (.int .i64 q), H) := by
  intro H
  have key : ∃ r, body Try.prog cfg0 99 Try.f99 [.lst false [], .v (.int .i64 q)] H = some r ∧ (r.1 = .v (.int .i64 q) ∧ r.2 = H) := by
    refine body_wp (rs := [.tmp 4]) rfl rfl (R := fun x H' => x = .v (.int .i64 q) ∧ H' = H) ?_
    have hp0 : ∀ b, cfg0.pol 99 b = 0 := fun b => rfl
    repeat' (first | ((first | refine wSeqr (fun xx hx => ?_) | refine wIf (fun xx hx => ?_) | refine wReg (fun xx hx => ?_) | (refine wRet ?_; (try simp only [thenQ, blockQ]); refine ends_by (fun xx hx => ?_))); have hc := trivial; (repeat' (simp only [hc, go_sem, Nat.reduceAdd, Nat.reduceMul, Nat.reduceSub, Nat.reduceEqDiff, Nat.reduceLT, Nat.reduceLeDiff, Int.reduceEq, Int.reduceLT, Int.reduceLE, reduceIte, aresults, aresult, hp0] at hx; (try (rw [guardL_if] at hx; split at hx <;> rename_i hc)))); all_goals (subst hx; first | (refine ⟨_, rfl, fun ht => ?_, fun ht => ?_⟩ <;> (try simp only [Bool.not_eq_true', Bool.not_eq_false', Bool.and_eq_true, Bool.and_eq_false_iff, Bool.or_eq_true, Bool.or_eq_false_iff, decide_eq_true_eq, decide_eq_false_iff_not, beq_iff_eq, bne_iff_ne, Bool.not_true, Bool.not_false, Bool.true_eq_false, Bool.false_eq_true, ne_eq, Decidable.not_not, inB_t, inB_f] at ht)) | (refine ⟨_, rfl, ?_⟩; (try simp only [tupOf])))) | refine wSkip ?_ | (refine wExit ?_; simp only [thenQ, blockQ, reduceIte, Nat.reduceEqDiff]) | refine wSeq ?_ | refine wBlock ?_)
    refine wLoop (fun n s => s.1 0 = .lst false [] ∧ s.1 1 = .v (.int .i64 q) ∧ s.1 5 = .v (.int .i64 0) ∧ s.2 = H) (fun n s hI => ?_) 0 _ ⟨rfl, rfl, rfl, rfl⟩
    obtain ⟨e, H1⟩ := s
    obtain ⟨h0, h1, h5, hH⟩ := hI
    simp only at h0 h1 h5 hH
    repeat' (first | ((first | refine wSeqr (fun xx hx => ?_) | refine wIf (fun xx hx => ?_) | refine wReg (fun xx hx => ?_) | (refine wRet ?_; (try simp only [thenQ, blockQ]); refine ends_by (fun xx hx => ?_))); have hc := trivial; (repeat' (simp only [hc, go_sem, Nat.reduceAdd, Nat.reduceMul, Nat.reduceSub, Nat.reduceEqDiff, Nat.reduceLT, Nat.reduceLeDiff, Int.reduceEq, Int.reduceLT, Int.reduceLE, reduceIte, aresults, aresult, hp0, h0, h1, h5, List.length_nil] at hx; (try (rw [guardL_if] at hx; split at hx <;> rename_i hc)))); all_goals (subst hx; first | (refine ⟨_, rfl, fun ht => ?_, fun ht => ?_⟩ <;> (try simp only [Bool.not_eq_true', Bool.not_eq_false', Bool.and_eq_true, Bool.and_eq_false_iff, Bool.or_eq_true, Bool.or_eq_false_iff, decide_eq_true_eq, decide_eq_false_iff_not, beq_iff_eq, bne_iff_ne, Bool.not_true, Bool.not_false, Bool.true_eq_false, Bool.false_eq_true, ne_eq, Decidable.not_not, inB_t, inB_f] at ht)) | (refine ⟨_, rfl, ?_⟩; (try simp only [tupOf])))) | refine wSkip ?_ | (refine wExit ?_; simp only [thenQ, blockQ, reduceIte, Nat.reduceEqDiff]) | refine wSeq ?_ | refine wBlock ?_)
    all_goals first
      | (exfalso; (try simp only [Bool.not_eq_true', Bool.not_eq_false', Bool.and_eq_true, Bool.and_eq_false_iff, Bool.or_eq_true, Bool.or_eq_false_iff, decide_eq_true_eq, decide_eq_false_iff_not, beq_iff_eq, bne_iff_ne, Bool.not_true, Bool.not_false, Bool.true_eq_false, Bool.false_eq_true, ne_eq, Decidable.not_not, inB_t, inB_f] at *); simp at *; done)
      | (subst hH; constructor <;> first | trivial | rfl)
  obtain ⟨⟨v, H'⟩, h1, rfl, rfl⟩ := key
  rw [call_raw Try.prog cfg0 Try.func99 rfl ok_markInt64S rfl rfl, h1]
theorem cr_markE (l : List Int) (q : Int) (hl : l.length ≤ 281474976710656) (hk : 0 ≤ q ∧ q ≤ 4611686018427387904) (H : Hp) (b : Nat) (hb : H.h b = some (l.map icell)) :
    call Try.prog cfg0 0 99 [.sl b 1 0 l.length, .v (.int .i64 q)] H = some (.v (.int .i64 (q + l.length)), H.set b ((marksJ q l.length).map icell)) := by
  have key : ∃ r, body Try.prog cfg0 99 Try.f99 [.sl b 1 0 l.length, .v (.int .i64 q)] H = some r ∧ (r.1 = .v (.int .i64 (q + l.length)) ∧ r.2 = H.set b ((marksJ q l.length).map icell)) := by
    refine body_wp (rs := [.tmp 4]) rfl rfl (R := fun x H' => x = .v (.int .i64 (q + l.length)) ∧ H' = H.set b ((marksJ q l.length).map icell)) ?_
    have hp0 : ∀ b, cfg0.pol 99 b = 0 := fun b => rfl
    have hH0 : H = H.set b ((marksJ q 0 ++ l.drop 0).map icell) := by rw [show marksJ q 0 ++ l.drop 0 = l from rfl]; exact (Hp.set_id hb).symm
    generalize hHg : H = K at hH0 hb ⊢
    repeat' (first | ((first | refine wSeqr (fun xx hx => ?_) | refine wIf (fun xx hx => ?_) | refine wReg (fun xx hx => ?_) | (refine wRet ?_; (try simp only [thenQ, blockQ]); refine ends_by (fun xx hx => ?_))); have hc := trivial; (repeat' (simp only [hc, go_sem, Nat.reduceAdd, Nat.reduceMul, Nat.reduceSub, Nat.reduceEqDiff, Nat.reduceLT, Nat.reduceLeDiff, Int.reduceEq, Int.reduceLT, Int.reduceLE, reduceIte, aresults, aresult, hp0] at hx; (try (rw [guardL_if] at hx; split at hx <;> rename_i hc)))); all_goals (subst hx; first | (refine ⟨_, rfl, fun ht => ?_, fun ht => ?_⟩ <;> (try simp only [Bool.not_eq_true', Bool.not_eq_false', Bool.and_eq_true, Bool.and_eq_false_iff, Bool.or_eq_true, Bool.or_eq_false_iff, decide_eq_true_eq, decide_eq_false_iff_not, beq_iff_eq, bne_iff_ne, Bool.not_true, Bool.not_false, Bool.true_eq_false, Bool.false_eq_true, ne_eq, Decidable.not_not, inB_t, inB_f] at ht)) | (refine ⟨_, rfl, ?_⟩; (try simp only [tupOf])))) | refine wSkip ?_ | (refine wExit ?_; simp only [thenQ, blockQ, reduceIte, Nat.reduceEqDiff]) | refine wSeq ?_ | refine wBlock ?_)
    refine wLoop (fun k s => ∃ (j : Nat), j + k = l.length ∧ s.1 0 = .sl b 1 0 l.length ∧ s.1 1 = .v (.int .i64 (q + (j : Nat))) ∧ s.1 5 = .v (.int .i64 (j : Nat)) ∧ (s.2 = K.set b ((marksJ q j ++ l.drop j).map icell))) (fun k s hI => ?_) (l.length) _ ?_
    · obtain ⟨e, H⟩ := s
      obtain ⟨j, hj, h0, h1, h5, hh⟩ := hI
      simp only at h0 h1 h5 hh
      subst hh
      by_cases hlt : j < l.length
      · have hlen : ((marksJ q j ++ l.drop j).map icell).length = l.length := by simp [marksJ_length]; omega
        have w1 : IntKind.wrap .i64 (q + (j : Nat) + 1) = q + ((j + 1 : Nat) : Int) := by rw [wrap_i64 (by omega) (by omega)]; omega
        have hst : ((marksJ q j ++ l.drop j).map icell).set j (icell ((q + (j : Nat)))) = (marksJ q (j + 1) ++ l.drop (j + 1)).map icell := by
          rw [← List.map_set, mark_step (marksJ_length q j) hlt, marksJ_succ]
        repeat' (first | ((first | refine wSeqr (fun xx hx => ?_) | refine wIf (fun xx hx => ?_) | refine wReg (fun xx hx => ?_) | (refine wRet ?_; (try simp only [thenQ, blockQ]); refine ends_by (fun xx hx => ?_))); have hc := trivial; (repeat' (simp only [hc, go_sem, Nat.reduceAdd, Nat.reduceMul, Nat.reduceSub, Nat.reduceEqDiff, Nat.reduceLT, Nat.reduceLeDiff, Int.reduceEq, Int.reduceLT, Int.reduceLE, reduceIte, aresults, aresult, hp0, h0, h1, h5, hlen, hlt, Option.isSome_some, show j + 1 ≤ l.length from hlt, w1, wrap_succ (show j < 9223372036854775807 by omega)] at hx; (try (rw [guardL_if] at hx; split at hx <;> rename_i hc)))); all_goals (subst hx; first | (refine ⟨_, rfl, fun ht => ?_, fun ht => ?_⟩ <;> (try simp only [Bool.not_eq_true', Bool.not_eq_false', Bool.and_eq_true, Bool.and_eq_false_iff, Bool.or_eq_true, Bool.or_eq_false_iff, decide_eq_true_eq, decide_eq_false_iff_not, beq_iff_eq, bne_iff_ne, Bool.not_true, Bool.not_false, Bool.true_eq_false, Bool.false_eq_true, ne_eq, Decidable.not_not, inB_t, inB_f] at ht)) | (refine ⟨_, rfl, ?_⟩; (try simp only [tupOf])))) | refine wSkip ?_ | (refine wExit ?_; simp only [thenQ, blockQ, reduceIte, Nat.reduceEqDiff]) | refine wSeq ?_ | refine wBlock ?_)
        all_goals first
          | (exfalso; (try simp only [Bool.not_eq_true', Bool.not_eq_false', Bool.and_eq_true, Bool.and_eq_false_iff, Bool.or_eq_true, Bool.or_eq_false_iff, decide_eq_true_eq, decide_eq_false_iff_not, beq_iff_eq, bne_iff_ne, Bool.not_true, Bool.not_false, Bool.true_eq_false, Bool.false_eq_true, ne_eq, Decidable.not_not, inB_t, inB_f] at *); omega)
          | skip
        refine ⟨_, Nat.sub_lt (by omega) Nat.one_pos, j + 1, by omega, by simp only [upd_eq, Nat.reduceEqDiff, if_false, if_true, h0, h1, h5], by simp only [upd_eq, Nat.reduceEqDiff, if_false, if_true, h0, h1, h5], by simp only [upd_eq, Nat.reduceEqDiff, if_false, if_true, h0, h1, h5], ?_⟩
        rw [Hp.set_set]
        exact congrArg (Hp.set K b) hst
      · have hj' : j = l.length := by omega
        repeat' (first | ((first | refine wSeqr (fun xx hx => ?_) | refine wIf (fun xx hx => ?_) | refine wReg (fun xx hx => ?_) | (refine wRet ?_; (try simp only [thenQ, blockQ]); refine ends_by (fun xx hx => ?_))); have hc := trivial; (repeat' (simp only [hc, go_sem, Nat.reduceAdd, Nat.reduceMul, Nat.reduceSub, Nat.reduceEqDiff, Nat.reduceLT, Nat.reduceLeDiff, Int.reduceEq, Int.reduceLT, Int.reduceLE, reduceIte, aresults, aresult, hp0, h0, h1, h5] at hx; (try (rw [guardL_if] at hx; split at hx <;> rename_i hc)))); all_goals (subst hx; first | (refine ⟨_, rfl, fun ht => ?_, fun ht => ?_⟩ <;> (try simp only [Bool.not_eq_true', Bool.not_eq_false', Bool.and_eq_true, Bool.and_eq_false_iff, Bool.or_eq_true, Bool.or_eq_false_iff, decide_eq_true_eq, decide_eq_false_iff_not, beq_iff_eq, bne_iff_ne, Bool.not_true, Bool.not_false, Bool.true_eq_false, Bool.false_eq_true, ne_eq, Decidable.not_not, inB_t, inB_f] at ht)) | (refine ⟨_, rfl, ?_⟩; (try simp only [tupOf])))) | refine wSkip ?_ | (refine wExit ?_; simp only [thenQ, blockQ, reduceIte, Nat.reduceEqDiff]) | refine wSeq ?_ | refine wBlock ?_)
        all_goals first
          | (exfalso; (try simp only [Bool.not_eq_true', Bool.not_eq_false', Bool.and_eq_true, Bool.and_eq_false_iff, Bool.or_eq_true, Bool.or_eq_false_iff, decide_eq_true_eq, decide_eq_false_iff_not, beq_iff_eq, bne_iff_ne, Bool.not_true, Bool.not_false, Bool.true_eq_false, Bool.false_eq_true, ne_eq, Decidable.not_not, inB_t, inB_f] at *); omega)
          | skip
        rw [hj', List.drop_length, List.append_nil]
        constructor <;> first | trivial | rfl
    · refine ⟨0, by omega, rfl, ?_, rfl, hH0⟩
      simp only [upd_eq, Nat.reduceEqDiff, if_false]
      show AV.v (.int .i64 q) = _
      simp
  obtain ⟨⟨v, H'⟩, h1, rfl, rfl⟩ := key
  rw [call_raw Try.prog cfg0 Try.func99 rfl ok_markInt64S rfl rfl, h1]
open Classical in
theorem cr_markInt64S (l : List Int) (q : Int) (hl : l.length ≤ 281474976710656) (hk : 0 ≤ q ∧ q ≤ 4611686018427387904) : ∀ H b, call Try.prog cfg0 0 99 [.sl b 1 0 l.length, .v (.int .i64 q)] H =
    if H.h b = some (l.map icell) then some (.v (.int .i64 (q + l.length)), H.set b ((marksJ q l.length).map icell)) else call' Try.prog cfg0 0 99 [.sl b 1 0 l.length, .v (.int .i64 q)] H := by
  intro H b
  split
  · exact cr_markE l q hl hk H b (by assumption)
  · rfl
theorem ok_lheldInt64S : fnOk Try.prog cfg0 100 Try.f100 = true := by kernel_rfl
theorem p_lheldInt64S (q : Int) (n : Nat) (hn : n ≤ 281474976710656) (hk : 0 ≤ q ∧ q ≤ 4611686018427387904) : pure Try.prog cfg0 100 Try.f100 [i64L (marksJ q n), .v (.int .i64 q)] = some (.v (.int .i64 (q + n)), true) := by
  refine pure_wp (rs := [.tmp 4]) rfl rfl ?_
  have hp0 : ∀ b, cfg0.pol 100 b = 0 := fun b => rfl
  have hml := marksJ_length q n
  repeat' (first | ((first | refine wSeqr (fun xx hx => ?_) | refine wIf (fun xx hx => ?_) | refine wReg (fun xx hx => ?_) | (refine wRet ?_; (try simp only [thenQ, blockQ]); refine ends_by (fun xx hx => ?_))); have hc := trivial; (repeat' (simp only [hc, go_sem, Nat.reduceAdd, Nat.reduceMul, Nat.reduceSub, Nat.reduceEqDiff, Nat.reduceLT, Nat.reduceLeDiff, Int.reduceEq, Int.reduceLT, Int.reduceLE, reduceIte, aresults, aresult, hp0] at hx; (try (rw [guardL_if] at hx; split at hx <;> rename_i hc)))); all_goals (subst hx; first | (refine ⟨_, rfl, fun ht => ?_, fun ht => ?_⟩ <;> (try simp only [Bool.not_eq_true', Bool.not_eq_false', Bool.and_eq_true, Bool.and_eq_false_iff, Bool.or_eq_true, Bool.or_eq_false_iff, decide_eq_true_eq, decide_eq_false_iff_not, beq_iff_eq, bne_iff_ne, Bool.not_true, Bool.not_false, Bool.true_eq_false, Bool.false_eq_true, ne_eq, Decidable.not_not, inB_t, inB_f] at ht)) | (refine ⟨_, rfl, ?_⟩; (try simp only [tupOf])))) | refine wSkip ?_ | (refine wExit ?_; simp only [thenQ, blockQ, reduceIte, Nat.reduceEqDiff]) | refine wSeq ?_ | refine wBlock ?_)
  refine wLoop (fun k s => ∃ (j : Nat), j + k = n ∧ s.1 0 = i64L (marksJ q n) ∧ s.1 1 = .v (.int .i64 (q + (j : Nat))) ∧ s.1 5 = .v (.int .i64 (j : Nat)) ∧ True) (fun k s hI => ?_) (n) _ ?_
  · obtain ⟨e, H⟩ := s
    obtain ⟨j, hj, h0, h1, h5, -⟩ := hI
    simp only at h0 h1 h5
    by_cases hlt : j < n
    · have hg : ((marksJ q n).map fun z => [AV.v (.int .i64 z)])[j]? = some [.v (.int .i64 ((q + (j : Nat))))] := by rw [List.getElem?_map, marksJ_at q n j hlt]; rfl
      have w1 : IntKind.wrap .i64 (q + (j : Nat) + 1) = q + ((j + 1 : Nat) : Int) := by rw [wrap_i64 (by omega) (by omega)]; omega
      repeat' (first | ((first | refine wSeqr (fun xx hx => ?_) | refine wIf (fun xx hx => ?_) | refine wReg (fun xx hx => ?_) | (refine wRet ?_; (try simp only [thenQ, blockQ]); refine ends_by (fun xx hx => ?_))); have hc := trivial; (repeat' (simp only [hc, go_sem, Nat.reduceAdd, Nat.reduceMul, Nat.reduceSub, Nat.reduceEqDiff, Nat.reduceLT, Nat.reduceLeDiff, Int.reduceEq, Int.reduceLT, Int.reduceLE, reduceIte, aresults, aresult, hp0, h0, h1, h5, i64L, icell, hg, hml, List.length_map, w1, wrap_succ (show j < 9223372036854775807 by omega)] at hx; (try (rw [guardL_if] at hx; split at hx <;> rename_i hc)))); all_goals (subst hx; first | (refine ⟨_, rfl, fun ht => ?_, fun ht => ?_⟩ <;> (try simp only [Bool.not_eq_true', Bool.not_eq_false', Bool.and_eq_true, Bool.and_eq_false_iff, Bool.or_eq_true, Bool.or_eq_false_iff, decide_eq_true_eq, decide_eq_false_iff_not, beq_iff_eq, bne_iff_ne, Bool.not_true, Bool.not_false, Bool.true_eq_false, Bool.false_eq_true, ne_eq, Decidable.not_not, inB_t, inB_f] at ht)) | (refine ⟨_, rfl, ?_⟩; (try simp only [tupOf])))) | refine wSkip ?_ | (refine wExit ?_; simp only [thenQ, blockQ, reduceIte, Nat.reduceEqDiff]) | refine wSeq ?_ | refine wBlock ?_)
      all_goals first
        | (exfalso; (try simp only [Bool.not_eq_true', Bool.not_eq_false', Bool.and_eq_true, Bool.and_eq_false_iff, Bool.or_eq_true, Bool.or_eq_false_iff, decide_eq_true_eq, decide_eq_false_iff_not, beq_iff_eq, bne_iff_ne, Bool.not_true, Bool.not_false, Bool.true_eq_false, Bool.false_eq_true, ne_eq, Decidable.not_not, inB_t, inB_f] at *); omega)
        | (exfalso; (try simp only [Bool.not_eq_true', Bool.not_eq_false', Bool.and_eq_true, Bool.and_eq_false_iff, Bool.or_eq_true, Bool.or_eq_false_iff, decide_eq_true_eq, decide_eq_false_iff_not, beq_iff_eq, bne_iff_ne, Bool.not_true, Bool.not_false, Bool.true_eq_false, Bool.false_eq_true, ne_eq, Decidable.not_not, inB_t, inB_f] at *); exact absurd trivial (by assumption))
        | skip
      refine ⟨_, Nat.sub_lt (by omega) Nat.one_pos, j + 1, by omega, by simp only [upd_eq, Nat.reduceEqDiff, if_false, if_true, h0, h1, h5], by simp only [upd_eq, Nat.reduceEqDiff, if_false, if_true, h0, h1, h5], by simp only [upd_eq, Nat.reduceEqDiff, if_false, if_true, h0, h1, h5], trivial⟩
    · have hj' : j = n := by omega
      repeat' (first | ((first | refine wSeqr (fun xx hx => ?_) | refine wIf (fun xx hx => ?_) | refine wReg (fun xx hx => ?_) | (refine wRet ?_; (try simp only [thenQ, blockQ]); refine ends_by (fun xx hx => ?_))); have hc := trivial; (repeat' (simp only [hc, go_sem, Nat.reduceAdd, Nat.reduceMul, Nat.reduceSub, Nat.reduceEqDiff, Nat.reduceLT, Nat.reduceLeDiff, Int.reduceEq, Int.reduceLT, Int.reduceLE, reduceIte, aresults, aresult, hp0, h0, h1, h5, i64L, hml, List.length_map] at hx; (try (rw [guardL_if] at hx; split at hx <;> rename_i hc)))); all_goals (subst hx; first | (refine ⟨_, rfl, fun ht => ?_, fun ht => ?_⟩ <;> (try simp only [Bool.not_eq_true', Bool.not_eq_false', Bool.and_eq_true, Bool.and_eq_false_iff, Bool.or_eq_true, Bool.or_eq_false_iff, decide_eq_true_eq, decide_eq_false_iff_not, beq_iff_eq, bne_iff_ne, Bool.not_true, Bool.not_false, Bool.true_eq_false, Bool.false_eq_true, ne_eq, Decidable.not_not, inB_t, inB_f] at ht)) | (refine ⟨_, rfl, ?_⟩; (try simp only [tupOf])))) | refine wSkip ?_ | (refine wExit ?_; simp only [thenQ, blockQ, reduceIte, Nat.reduceEqDiff]) | refine wSeq ?_ | refine wBlock ?_)
      all_goals first
        | (exfalso; (try simp only [Bool.not_eq_true', Bool.not_eq_false', Bool.and_eq_true, Bool.and_eq_false_iff, Bool.or_eq_true, Bool.or_eq_false_iff, decide_eq_true_eq, decide_eq_false_iff_not, beq_iff_eq, bne_iff_ne, Bool.not_true, Bool.not_false, Bool.true_eq_false, Bool.false_eq_true, ne_eq, Decidable.not_not, inB_t, inB_f] at *); omega)
        | skip
      rw [hj']; exact ⟨rfl, rfl⟩
  · refine ⟨0, by omega, rfl, ?_, rfl, trivial⟩
    simp only [upd_eq, Nat.reduceEqDiff, if_false]
    show AV.v (.int .i64 q) = _
    simp
theorem c_lheldInt64S (q : Int) (n : Nat) (hn : n ≤ 281474976710656) (hk : 0 ≤ q ∧ q ≤ 4611686018427387904) : ∀ H, call Try.prog cfg0 0 100 [i64L (marksJ q n), .v (.int .i64 q)] H = some (.v (.int .i64 (q + n)), H) :=
  call_fz Try.func100 rfl ok_lheldInt64S rfl (by simp only [fz_cons, fz_nil, go_sem, and_self]) (p_lheldInt64S q n hn hk)

theorem ok_leqIntsResult : fnOk Try.prog cfg0 41 Try.f41 = true := by kernel_rfl
theorem p_leqIntsResult (c : Int) (a : List Int) (d : Int) (b : List Int) (hl : a.length ≤ 1048576) : pure Try.prog cfg0 41 Try.f41 [.agg [.v (.int .i64 c), i64L a], .agg [.v (.int .i64 d), i64L b]] = some (.v (.bool (decide (c = d) && decide (a = b))), true) := by
  refine pure_wp (rs := [.tmp 4]) rfl rfl ?_
  have hp0 : ∀ b, cfg0.pol 41 b = 0 := fun b => rfl
  repeat' (first | ((first | refine wSeqr (fun xx hx => ?_) | refine wIf (fun xx hx => ?_) | refine wReg (fun xx hx => ?_) | (refine wRet ?_; (try simp only [thenQ, blockQ]); refine ends_by (fun xx hx => ?_))); have hc := trivial; (repeat' (simp only [hc, go_sem, Nat.reduceAdd, Nat.reduceMul, Nat.reduceSub, Nat.reduceEqDiff, Nat.reduceLT, Nat.reduceLeDiff, Int.reduceEq, Int.reduceLT, Int.reduceLE, reduceIte, aresults, aresult, hp0, c_leqInt64S a b hl] at hx; (try (rw [guardL_if] at hx; split at hx <;> rename_i hc)))); all_goals (subst hx; first | (refine ⟨_, rfl, fun ht => ?_, fun ht => ?_⟩ <;> (try simp only [Bool.not_eq_true', Bool.not_eq_false', Bool.and_eq_true, Bool.and_eq_false_iff, Bool.or_eq_true, Bool.or_eq_false_iff, decide_eq_true_eq, decide_eq_false_iff_not, beq_iff_eq, bne_iff_ne, Bool.not_true, Bool.not_false, Bool.true_eq_false, Bool.false_eq_true, ne_eq, Decidable.not_not, inB_t, inB_f] at ht)) | (refine ⟨_, rfl, ?_⟩; (try simp only [tupOf])))) | refine wSkip ?_ | (refine wExit ?_; simp only [thenQ, blockQ, reduceIte, Nat.reduceEqDiff]) | refine wSeq ?_ | refine wBlock ?_)
  all_goals (refine gives_boolv ?_; simp_all)
theorem c_leqIntsResult (c : Int) (a : List Int) (d : Int) (b : List Int) (hl : a.length ≤ 1048576) : ∀ H, call Try.prog cfg0 0 41 [.agg [.v (.int .i64 c), i64L a], .agg [.v (.int .i64 d), i64L b]] H = some (.v (.bool (decide (c = d) && decide (a = b))), H) :=
  call_fz Try.func41 rfl ok_leqIntsResult rfl (by simp only [fz_cons, fz_nil, go_sem, fz_ii, and_self]) (p_leqIntsResult c a d b hl)

theorem ok_lheldIntsResult : fnOk Try.prog cfg0 45 Try.f45 = true := by kernel_rfl
theorem p_lheldIntsResult (c q : Int) (n : Nat) (hn : n ≤ 281474976710656) (hk : 0 ≤ q ∧ q ≤ 4611686018427387904) : pure Try.prog cfg0 45 Try.f45 [.agg [.v (.int .i64 c), i64L (marksJ q n)], .v (.int .i64 q)] = some (.v (.int .i64 (q + n)), true) := by
  refine pure_wp (rs := [.tmp 4]) rfl rfl ?_
  have hp0 : ∀ b, cfg0.pol 45 b = 0 := fun b => rfl
  repeat' (first | ((first | refine wSeqr (fun xx hx => ?_) | refine wIf (fun xx hx => ?_) | refine wReg (fun xx hx => ?_) | (refine wRet ?_; (try simp only [thenQ, blockQ]); refine ends_by (fun xx hx => ?_))); have hc := trivial; (repeat' (simp only [hc, go_sem, Nat.reduceAdd, Nat.reduceMul, Nat.reduceSub, Nat.reduceEqDiff, Nat.reduceLT, Nat.reduceLeDiff, Int.reduceEq, Int.reduceLT, Int.reduceLE, reduceIte, aresults, aresult, hp0, c_lheldInt64S q n hn hk] at hx; (try (rw [guardL_if] at hx; split at hx <;> rename_i hc)))); all_goals (subst hx; first | (refine ⟨_, rfl, fun ht => ?_, fun ht => ?_⟩ <;> (try simp only [Bool.not_eq_true', Bool.not_eq_false', Bool.and_eq_true, Bool.and_eq_false_iff, Bool.or_eq_true, Bool.or_eq_false_iff, decide_eq_true_eq, decide_eq_false_iff_not, beq_iff_eq, bne_iff_ne, Bool.not_true, Bool.not_false, Bool.true_eq_false, Bool.false_eq_true, ne_eq, Decidable.not_not, inB_t, inB_f] at ht)) | (refine ⟨_, rfl, ?_⟩; (try simp only [tupOf])))) | refine wSkip ?_ | (refine wExit ?_; simp only [thenQ, blockQ, reduceIte, Nat.reduceEqDiff]) | refine wSeq ?_ | refine wBlock ?_)
  all_goals try (exfalso; (try simp only [Bool.not_eq_true', Bool.not_eq_false', Bool.and_eq_true, Bool.and_eq_false_iff, Bool.or_eq_true, Bool.or_eq_false_iff, decide_eq_true_eq, decide_eq_false_iff_not, beq_iff_eq, bne_iff_ne, Bool.not_true, Bool.not_false, Bool.true_eq_false, Bool.false_eq_true, ne_eq, Decidable.not_not, inB_t, inB_f] at *); first | omega | exact absurd trivial (by assumption))
  all_goals exact ⟨rfl, rfl⟩
theorem c_lheldIntsResult (c q : Int) (n : Nat) (hn : n ≤ 281474976710656) (hk : 0 ≤ q ∧ q ≤ 4611686018427387904) : ∀ H, call Try.prog cfg0 0 45 [.agg [.v (.int .i64 c), i64L (marksJ q n)], .v (.int .i64 q)] H = some (.v (.int .i64 (q + n)), H) :=
  call_fz Try.func45 rfl ok_lheldIntsResult rfl (by simp only [fz_cons, fz_nil, go_sem, fz_ii, and_self]) (p_lheldIntsResult c q n hn hk)

theorem ok_markIR : fnOk Try.prog cfg0 44 Try.f44 = true := by kernel_rfl
theorem cr_markIR0 (c q : Int) : ∀ H, call Try.prog cfg0 0 44 [.agg [.v (.int .i64 c), .lst false []], .v (.int .i64 q)] H = some (.v (.int .i64 q), H.new [.v (.int .i64 c), .lst false []]) := by
  intro H
  have key : ∃ r, body Try.prog cfg0 44 Try.f44 [.agg [.v (.int .i64 c), .lst false []], .v (.int .i64 q)] H = some r ∧ (r.1 = .v (.int .i64 q) ∧ r.2 = H.new [.v (.int .i64 c), .lst false []]) := by
    refine body_wp (rs := [.tmp 4]) rfl rfl (R := fun x H' => x = .v (.int .i64 q) ∧ H' = H.new [.v (.int .i64 c), .lst false []]) ?_
    have hp0 : ∀ b, cfg0.pol 44 b = 0 := fun b => rfl
    repeat' (first | ((first | refine wSeqr (fun xx hx => ?_) | refine wIf (fun xx hx => ?_) | refine wReg (fun xx hx => ?_) | (refine wRet ?_; (try simp only [thenQ, blockQ]); refine ends_by (fun xx hx => ?_))); have hc := trivial; (repeat' (simp only [hc, go_sem, Nat.reduceAdd, Nat.reduceMul, Nat.reduceSub, Nat.reduceEqDiff, Nat.reduceLT, Nat.reduceLeDiff, Int.reduceEq, Int.reduceLT, Int.reduceLE, reduceIte, aresults, aresult, hp0, cr_mark0] at hx; (try (rw [guardL_if] at hx; split at hx <;> rename_i hc)))); all_goals (subst hx; first | (refine ⟨_, rfl, fun ht => ?_, fun ht => ?_⟩ <;> (try simp only [Bool.not_eq_true', Bool.not_eq_false', Bool.and_eq_true, Bool.and_eq_false_iff, Bool.or_eq_true, Bool.or_eq_false_iff, decide_eq_true_eq, decide_eq_false_iff_not, beq_iff_eq, bne_iff_ne, Bool.not_true, Bool.not_false, Bool.true_eq_false, Bool.false_eq_true, ne_eq, Decidable.not_not, inB_t, inB_f] at ht)) | (refine ⟨_, rfl, ?_⟩; (try simp only [tupOf])))) | refine wSkip ?_ | (refine wExit ?_; simp only [thenQ, blockQ, reduceIte, Nat.reduceEqDiff]) | refine wSeq ?_ | refine wBlock ?_)
    all_goals (constructor <;> first | trivial | rfl)
  obtain ⟨⟨v, H'⟩, h1, rfl, rfl⟩ := key
  rw [call_raw Try.prog cfg0 Try.func44 rfl ok_markIR rfl rfl, h1]
open Classical in
theorem cr_markIR (c q : Int) (l : List Int) (hl : l.length ≤ 281474976710656) (hk : 0 ≤ q ∧ q ≤ 4611686018427387904) : ∀ H b, call Try.prog cfg0 0 44 [.agg [.v (.int .i64 c), .sl b 1 0 l.length], .v (.int .i64 q)] H =
    if H.h b = some (l.map icell) ∧ b ≠ H.g then some (.v (.int .i64 (q + l.length)), (H.new [.v (.int .i64 c), .sl b 1 0 l.length]).set b ((marksJ q l.length).map icell)) else call' Try.prog cfg0 0 44 [.agg [.v (.int .i64 c), .sl b 1 0 l.length], .v (.int .i64 q)] H := by
  intro H b
  split
  rotate_left
  · rfl
  rename_i hC
  obtain ⟨hb, hn⟩ := hC
  have key : ∃ r, body Try.prog cfg0 44 Try.f44 [.agg [.v (.int .i64 c), .sl b 1 0 l.length], .v (.int .i64 q)] H = some r ∧ (r.1 = .v (.int .i64 (q + l.length)) ∧ r.2 = (H.new [.v (.int .i64 c), .sl b 1 0 l.length]).set b ((marksJ q l.length).map icell)) := by
    refine body_wp (rs := [.tmp 4]) rfl rfl (R := fun x H' => x = .v (.int .i64 (q + l.length)) ∧ H' = (H.new [.v (.int .i64 c), .sl b 1 0 l.length]).set b ((marksJ q l.length).map icell)) ?_
    have hp0 : ∀ b, cfg0.pol 44 b = 0 := fun b => rfl
    repeat' (first | ((first | refine wSeqr (fun xx hx => ?_) | refine wIf (fun xx hx => ?_) | refine wReg (fun xx hx => ?_) | (refine wRet ?_; (try simp only [thenQ, blockQ]); refine ends_by (fun xx hx => ?_))); have hc := trivial; (repeat' (simp only [hc, go_sem, Nat.reduceAdd, Nat.reduceMul, Nat.reduceSub, Nat.reduceEqDiff, Nat.reduceLT, Nat.reduceLeDiff, Int.reduceEq, Int.reduceLT, Int.reduceLE, reduceIte, aresults, aresult, hp0, cr_markInt64S l q hl hk, hb, hn] at hx; (try (rw [guardL_if] at hx; split at hx <;> rename_i hc)))); all_goals (subst hx; first | (refine ⟨_, rfl, fun ht => ?_, fun ht => ?_⟩ <;> (try simp only [Bool.not_eq_true', Bool.not_eq_false', Bool.and_eq_true, Bool.and_eq_false_iff, Bool.or_eq_true, Bool.or_eq_false_iff, decide_eq_true_eq, decide_eq_false_iff_not, beq_iff_eq, bne_iff_ne, Bool.not_true, Bool.not_false, Bool.true_eq_false, Bool.false_eq_true, ne_eq, Decidable.not_not, inB_t, inB_f] at ht)) | (refine ⟨_, rfl, ?_⟩; (try simp only [tupOf])))) | refine wSkip ?_ | (refine wExit ?_; simp only [thenQ, blockQ, reduceIte, Nat.reduceEqDiff]) | refine wSeq ?_ | refine wBlock ?_)
    all_goals (constructor <;> first | trivial | rfl)
  obtain ⟨⟨v, H'⟩, h1, rfl, rfl⟩ := key
  rw [call_raw Try.prog cfg0 Try.func44 rfl ok_markIR rfl rfl, h1]
/-- The same two, on a result in own blocks. -/
theorem deep_res {H : Hp} {b : Nat} {c : Int} {l : List Int} (hb : H.h b = some (l.map icell)) : deep H depthD (.agg [.v (.int .i64 c), .sl b 1 0 l.length]) = some (.agg [.v (.int .i64 c), i64L l]) := (gives_isl hb).1.1
open Classical in
theorem cq_eqIR (c : Int) (a : List Int) (d : Int) (b : List Int) (hl : a.length ≤ 1048576) : ∀ H q, call Try.prog cfg0 0 41 [.agg [.v (.int .i64 c), .sl q 1 0 a.length], .agg [.v (.int .i64 d), i64L b]] H =
    if H.h q = some (a.map icell) then some (.v (.bool (decide (c = d) && decide (a = b))), H) else call' Try.prog cfg0 0 41 [.agg [.v (.int .i64 c), .sl q 1 0 a.length], .agg [.v (.int .i64 d), i64L b]] H := fun H q =>
  call_if Try.func41 rfl ok_leqIntsResult rfl (fun hC => mapM_c (deep_res hC) (mapM_c ((fz_ii d b).1 H) mapM_n)) (p_leqIntsResult c a d b hl)
open Classical in
theorem cq_heldIR (c q : Int) (n : Nat) (hn : n ≤ 281474976710656) (hk : 0 ≤ q ∧ q ≤ 4611686018427387904) : ∀ H b, call Try.prog cfg0 0 45 [.agg [.v (.int .i64 c), .sl b 1 0 n], .v (.int .i64 q)] H =
    if H.h b = some ((marksJ q n).map icell) then some (.v (.int .i64 (q + n)), H) else call' Try.prog cfg0 0 45 [.agg [.v (.int .i64 c), .sl b 1 0 n], .v (.int .i64 q)] H := fun H b =>
  call_if Try.func45 rfl ok_lheldIntsResult rfl (fun hC => mapM_c (by have := deep_res (c := c) hC; rw [marksJ_length] at this; exact this) (mapM_c rfl mapM_n)) (p_lheldIntsResult c q n hn hk)
end
end Go.Proofs.Ytmncdkecpnoogaa
