/- Contracts: copies of bytes as own results. -/
import Derived.Test.YtmncdkecpnoogaaB0
namespace Go.Proofs.Ytmncdkecpnoogaa
open Go Go.RowKit Go.Proofs.Ytmncdkecpnoogaa.Eng
set_option linter.unusedSimpArgs false
set_option linter.unusedVariables false
set_option maxRecDepth 100000
noncomputable section
theorem gO_bytes {H : Hp} {b : Nat} {l : List Int} (hb : H.h b = some (l.map cell)) : GivesO (bytesL l) (.sl b 1 0 l.length) H := gF_O (gF_bytes (n := 10) hb rfl)
theorem gO_bytesR {H : Hp} {x : AV} {n : Nat} {l : List Int} (h : RAcc H x 1 (l.map cell) n) : GivesO (bytesL l) x H := by
  have hn : n = l.length := by have := h.1; simpa using this.symm
  subst hn
  rcases h.2 with ⟨h0, e⟩ | ⟨b, -, rfl, hb⟩
  · have e0 : l = [] := List.length_eq_zero_iff.1 h0
    subst e0
    rcases e with rfl | rfl
    · exact gF_O (gF_lstT 11 H)
    · exact gF_O (gF_nil 11 H)
  · exact gO_bytes hb
theorem ok_ltoByteS : fnOk Try.prog cfg0 14 Try.f14 = true := by kernel_rfl
theorem pq_ltoByteS (l : List Int) (hl : l.length ≤ 1048576) : pure Try.prog cfg0 14 Try.f14 [bytesL l] = some (bytesL l, true) ∧ owned Try.prog cfg0 14 Try.f14 [bytesL l] = some (bytesL l) := by
  refine both_wp (rs := [.tmp 2]) rfl rfl ?_
  have hp0 : ∀ b, cfg0.pol 14 b = 0 := fun b => rfl
  have hr := roomy_1 (n := l.length) (by omega)
  repeat' (first | ((first | refine wSeqr (fun xx hx => ?_) | refine wIf (fun xx hx => ?_) | refine wReg (fun xx hx => ?_) | (refine wRet ?_; (try simp only [thenQ, blockQ]); refine ends_by (fun xx hx => ?_))); have hc := trivial; (repeat' (simp only [hc, go_sem, Nat.reduceAdd, Nat.reduceMul, Nat.reduceSub, Nat.reduceEqDiff, Nat.reduceLT, Nat.reduceLeDiff, Int.reduceEq, Int.reduceLT, Int.reduceLE, reduceIte, aresults, aresult, hr] at hx; (try (rw [guardL_if] at hx; split at hx <;> rename_i hc)))); all_goals (subst hx; first | (refine ⟨_, rfl, fun ht => ?_, fun ht => ?_⟩ <;> (try simp only [Bool.not_eq_true', Bool.not_eq_false', Bool.and_eq_true, Bool.and_eq_false_iff, Bool.or_eq_true, Bool.or_eq_false_iff, decide_eq_true_eq, decide_eq_false_iff_not, beq_iff_eq, bne_iff_ne, Bool.not_true, Bool.not_false, Bool.true_eq_false, Bool.false_eq_true, ne_eq, Decidable.not_not, inB_t, inB_f] at ht)) | (refine ⟨_, rfl, ?_⟩; (try simp only [tupOf])))) | refine wSkip ?_ | (refine wExit ?_; simp only [thenQ, blockQ, reduceIte, Nat.reduceEqDiff]) | refine wSeq ?_ | refine wBlock ?_)
  refine wLoop (fun k s => ∃ (j : Nat), j + k = l.length ∧ s.1 0 = bytesL l ∧ s.1 4 = .v (.int .i64 (j : Nat)) ∧ s.1 3 = .sl 0 1 0 l.length ∧ (s.2.h 0 = some ((l.take j ++ List.replicate (l.length - j) 0).map cell))) (fun k s hI => ?_) (l.length) _ ?_
  · obtain ⟨e, H⟩ := s
    obtain ⟨j, hj, h0, h4, h3, hh⟩ := hI
    simp only at h0 h4 h3 hh
    repeat' (first | ((first | refine wSeqr (fun xx hx => ?_) | refine wIf (fun xx hx => ?_) | refine wReg (fun xx hx => ?_) | (refine wRet ?_; (try simp only [thenQ, blockQ]); refine ends_by (fun xx hx => ?_))); have hc := trivial; (repeat' (simp only [hc, go_sem, Nat.reduceAdd, Nat.reduceMul, Nat.reduceSub, Nat.reduceEqDiff, Nat.reduceLT, Nat.reduceLeDiff, Int.reduceEq, Int.reduceLT, Int.reduceLE, reduceIte, aresults, aresult, h0, h4] at hx; (try (rw [guardL_if] at hx; split at hx <;> rename_i hc)))); all_goals (subst hx; first | (refine ⟨_, rfl, fun ht => ?_, fun ht => ?_⟩ <;> (try simp only [Bool.not_eq_true', Bool.not_eq_false', Bool.and_eq_true, Bool.and_eq_false_iff, Bool.or_eq_true, Bool.or_eq_false_iff, decide_eq_true_eq, decide_eq_false_iff_not, beq_iff_eq, bne_iff_ne, Bool.not_true, Bool.not_false, Bool.true_eq_false, Bool.false_eq_true, ne_eq, Decidable.not_not, inB_t, inB_f] at ht)) | (refine ⟨_, rfl, ?_⟩; (try simp only [tupOf])))) | refine wSkip ?_ | (refine wExit ?_; simp only [thenQ, blockQ, reduceIte, Nat.reduceEqDiff]) | refine wSeq ?_ | refine wBlock ?_)
    · have hlt : j < l.length := by omega
      have hg := get_byte hlt
      have hlen : (List.map cell (l.take j ++ List.replicate (l.length - j) 0)).length = l.length := by simp; omega
      repeat' (first | ((first | refine wSeqr (fun xx hx => ?_) | refine wIf (fun xx hx => ?_) | refine wReg (fun xx hx => ?_) | (refine wRet ?_; (try simp only [thenQ, blockQ]); refine ends_by (fun xx hx => ?_))); have hc := trivial; (repeat' (simp only [hc, go_sem, Nat.reduceAdd, Nat.reduceMul, Nat.reduceSub, Nat.reduceEqDiff, Nat.reduceLT, Nat.reduceLeDiff, Int.reduceEq, Int.reduceLT, Int.reduceLE, reduceIte, aresults, aresult, h0, h3, h4, hg, hh, hlt, hlen, Option.isSome_some, bytesL, cell, show j + 1 ≤ l.length from hlt, wrap_succ (show j < 9223372036854775807 by omega)] at hx; (try (rw [guardL_if] at hx; split at hx <;> rename_i hc)))); all_goals (subst hx; first | (refine ⟨_, rfl, fun ht => ?_, fun ht => ?_⟩ <;> (try simp only [Bool.not_eq_true', Bool.not_eq_false', Bool.and_eq_true, Bool.and_eq_false_iff, Bool.or_eq_true, Bool.or_eq_false_iff, decide_eq_true_eq, decide_eq_false_iff_not, beq_iff_eq, bne_iff_ne, Bool.not_true, Bool.not_false, Bool.true_eq_false, Bool.false_eq_true, ne_eq, Decidable.not_not, inB_t, inB_f] at ht)) | (refine ⟨_, rfl, ?_⟩; (try simp only [tupOf])))) | refine wSkip ?_ | (refine wExit ?_; simp only [thenQ, blockQ, reduceIte, Nat.reduceEqDiff]) | refine wSeq ?_ | refine wBlock ?_)
      refine ⟨_, Nat.sub_lt (by omega) Nat.one_pos, j + 1, by omega, by simp only [upd_eq, Nat.reduceEqDiff, if_false, if_true, h0, h4, h3], by simp only [upd_eq, Nat.reduceEqDiff, if_false, if_true, h0, h4, h3], by simp only [upd_eq, Nat.reduceEqDiff, if_false, if_true, h0, h4, h3], ?_⟩
      simp only [Hp.set_h, if_true, ← take_set hlt]
      exact congrArg some (map_set_cell _ _ _)
    · have hj' : j = l.length := by omega
      subst hj'
      rw [h3]
      have hh' : H.h 0 = some (l.map cell) := by rw [hh]; simp
      exact gO_bytes hh'
  · refine ⟨0, by omega, rfl, rfl, rfl, ?_⟩
    simp only [Hp.new_h, nil_g, if_true, Nat.sub_zero, List.take_zero, List.nil_append]
    exact congrArg some (zeros_cell _)
theorem p_ltoByteS (l : List Int) (hl : l.length ≤ 1048576) : pure Try.prog cfg0 14 Try.f14 [bytesL l] = some (bytesL l, true) := (pq_ltoByteS l hl).1
theorem c_ltoByteS (l : List Int) (hl : l.length ≤ 1048576) : ∀ H, call Try.prog cfg0 0 14 [bytesL l] H = some (bytesL l, H) :=
  call_fz Try.func14 rfl ok_ltoByteS rfl (by simp only [fz_cons, fz_nil, go_sem, and_self]) (pq_ltoByteS l hl).1
theorem o_ltoByteS (l : List Int) (hl : l.length ≤ 1048576) : ∀ H, call Try.prog cfg0 1 14 [bytesL l] H = mat depthD (bytesL l) H := fun H =>
  call_ofO Try.func14 rfl ok_ltoByteS rfl (mapM_self fun x hx => ((show ∀ x ∈ ([bytesL l] : List AV), Fz depthD x by simp only [fz_cons, fz_nil, go_sem, and_self]) x hx).1 H) (pq_ltoByteS l hl).2

end
end Go.Proofs.Ytmncdkecpnoogaa
