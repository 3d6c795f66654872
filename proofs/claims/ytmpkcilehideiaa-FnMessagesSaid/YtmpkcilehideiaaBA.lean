/- Contracts: copies and comparisons of bytes. Contracts: copies of bytes as own results. Contracts: ranges, keys. -/
import Derived.Test.YtmpkcilehideiaaK0
namespace Go.Proofs.Ytmpkcilehideiaa
open Go Go.RowKit Go.Proofs.Ytmpkcilehideiaa.Eng
set_option linter.unusedSimpArgs false
set_option linter.unusedVariables false
set_option maxRecDepth 100000
noncomputable section
theorem mapM_two {f : AV → Option AV} {x y a b : AV} (hx : f x = some a) (hy : f y = some b) : [x, y].mapM f = some [a, b] := by simp [List.mapM_cons, hx, hy]
theorem zeros_cell (n : Nat) : zeros n [cell 0] = (List.replicate n 0).map cell := by
  unfold zeros
  induction n with
  | zero => rfl
  | succ n ih => simp [List.replicate_succ, ih]
theorem take_set {l : List Int} {j : Nat} (h : j < l.length) : ((l.take j ++ List.replicate (l.length - j) 0).set j l[j]) = l.take (j + 1) ++ List.replicate (l.length - (j + 1)) 0 := by
  rw [List.set_append_right _ _ (by simp; omega)]
  obtain ⟨d, hd⟩ : ∃ d, l.length - j = d + 1 := ⟨l.length - j - 1, by omega⟩
  rw [hd, List.replicate_succ]
  simp only [List.length_take, Nat.min_eq_left (Nat.le_of_lt h), Nat.sub_self, List.set_cons_zero]
  rw [List.take_succ_eq_append_getElem h, List.append_assoc, show l.length - (j + 1) = d by omega]; rfl
theorem map_set_cell (l : List Int) (j : Nat) (z : Int) : (l.map cell).set j (cell z) = (l.set j z).map cell := by rw [List.map_set]
theorem get_byte {l : List Int} {j : Nat} (h : j < l.length) : (l.map fun z => [AV.v (.int .u8 z)])[j]? = some [.v (.int .u8 l[j])] := by simp [h]
theorem ok_leqByteS : fnOk Try.prog cfg0 9 Try.f9 = true := by kernel_rfl
theorem p_leqByteS (a b : List Int) (hl : a.length ≤ 1048576) : pure Try.prog cfg0 9 Try.f9 [bytesL a, bytesL b] = some (.v (.bool (decide (a = b))), true) := by
  refine pure_wp (rs := [.tmp 4]) rfl rfl ?_
  have hp0 : ∀ b, cfg0.pol 9 b = 0 := fun b => rfl
  repeat' (first | ((first | refine wSeqr (fun xx hx => ?_) | refine wSeqrF (fun xx hx => ?_) | refine wIf (fun xx hx => ?_) | refine wReg (fun xx hx => ?_) | refine wRegF (fun xx hx => ?_) | (refine wRet ?_; (try simp only [thenQ, blockQ]); (try (subst hQQ; (try simp only [thenQ, blockQ]))); refine ends_by (fun xx hx => ?_))); have hc := trivial; (repeat' (simp only [hc, Nat.reduceBEq, go_sem, Nat.reduceAdd, Nat.reduceMul, Nat.reduceSub, Nat.reduceEqDiff, Nat.reduceLT, Nat.reduceLeDiff, Int.reduceEq, Int.reduceLT, Int.reduceLE, reduceIte, aresults, aresult] at hx; (try ((first | rw [guardL_if] at hx | rw [guardF_if] at hx); split at hx <;> rename_i hc)))); all_goals (subst hx; first | (refine ⟨_, rfl, fun ht => ?_, fun ht => ?_⟩ <;> (try simp only [Bool.not_eq_true', Bool.not_eq_false', Bool.and_eq_true, Bool.and_eq_false_iff, Bool.or_eq_true, Bool.or_eq_false_iff, decide_eq_true_eq, decide_eq_false_iff_not, beq_iff_eq, bne_iff_ne, Bool.not_true, Bool.not_false, Bool.true_eq_false, Bool.false_eq_true, ne_eq, Decidable.not_not, inB_t, inB_f] at ht)) | (refine ⟨_, rfl, ?_⟩; (try simp only [tupOf])))) | refine wSkip ?_ | (refine wExit ?_; simp only [thenQ, blockQ, reduceIte, Nat.reduceEqDiff]) | refine wSeq ?_ | refine wBlock ?_ | (subst hQQ; (try simp only [thenQ, blockQ, reduceIte, Nat.reduceEqDiff])))
  · refine gives_boolv ?_
    rw [decide_eq_false]
    intro h; rw [h] at ht; exact ht rfl
  have hlen : a.length = b.length := by (try simp only [Bool.not_eq_true', Bool.not_eq_false', Bool.and_eq_true, Bool.and_eq_false_iff, Bool.or_eq_true, Bool.or_eq_false_iff, decide_eq_true_eq, decide_eq_false_iff_not, beq_iff_eq, bne_iff_ne, Bool.not_true, Bool.not_false, Bool.true_eq_false, Bool.false_eq_true, ne_eq, Decidable.not_not, inB_t, inB_f] at *); omega
  refine wLoop (fun k s => ∃ (j : Nat), j + k = a.length ∧ s.1 0 = bytesL a ∧ s.1 1 = bytesL b ∧ s.1 5 = .v (.int .i64 (j : Nat)) ∧ (a.take j = b.take j)) (fun k s hI => ?_) (a.length) _ ?_
  · obtain ⟨e, H⟩ := s
    obtain ⟨j, hj, h0, h1, h5, htk⟩ := hI
    simp only at h0 h1 h5 htk
    repeat' (first | ((first | refine wSeqr (fun xx hx => ?_) | refine wSeqrF (fun xx hx => ?_) | refine wIf (fun xx hx => ?_) | refine wReg (fun xx hx => ?_) | refine wRegF (fun xx hx => ?_) | (refine wRet ?_; (try simp only [thenQ, blockQ]); (try (subst hQQ; (try simp only [thenQ, blockQ]))); refine ends_by (fun xx hx => ?_))); have hc := trivial; (repeat' (simp only [hc, Nat.reduceBEq, go_sem, Nat.reduceAdd, Nat.reduceMul, Nat.reduceSub, Nat.reduceEqDiff, Nat.reduceLT, Nat.reduceLeDiff, Int.reduceEq, Int.reduceLT, Int.reduceLE, reduceIte, aresults, aresult, h0, h5] at hx; (try ((first | rw [guardL_if] at hx | rw [guardF_if] at hx); split at hx <;> rename_i hc)))); all_goals (subst hx; first | (refine ⟨_, rfl, fun ht => ?_, fun ht => ?_⟩ <;> (try simp only [Bool.not_eq_true', Bool.not_eq_false', Bool.and_eq_true, Bool.and_eq_false_iff, Bool.or_eq_true, Bool.or_eq_false_iff, decide_eq_true_eq, decide_eq_false_iff_not, beq_iff_eq, bne_iff_ne, Bool.not_true, Bool.not_false, Bool.true_eq_false, Bool.false_eq_true, ne_eq, Decidable.not_not, inB_t, inB_f] at ht)) | (refine ⟨_, rfl, ?_⟩; (try simp only [tupOf])))) | refine wSkip ?_ | (refine wExit ?_; simp only [thenQ, blockQ, reduceIte, Nat.reduceEqDiff]) | refine wSeq ?_ | refine wBlock ?_ | (subst hQQ; (try simp only [thenQ, blockQ, reduceIte, Nat.reduceEqDiff])))
    · have hla : j < a.length := by omega
      have hlb : j < b.length := by omega
      have ga := get_byte hla
      have gb := get_byte hlb
      repeat' (first | ((first | refine wSeqr (fun xx hx => ?_) | refine wSeqrF (fun xx hx => ?_) | refine wIf (fun xx hx => ?_) | refine wReg (fun xx hx => ?_) | refine wRegF (fun xx hx => ?_) | (refine wRet ?_; (try simp only [thenQ, blockQ]); (try (subst hQQ; (try simp only [thenQ, blockQ]))); refine ends_by (fun xx hx => ?_))); have hc := trivial; (repeat' (simp only [hc, Nat.reduceBEq, go_sem, Nat.reduceAdd, Nat.reduceMul, Nat.reduceSub, Nat.reduceEqDiff, Nat.reduceLT, Nat.reduceLeDiff, Int.reduceEq, Int.reduceLT, Int.reduceLE, reduceIte, aresults, aresult, h0, h1, h5, ga, gb, bytesL, cell, wrap_succ (show j < 9223372036854775807 by omega)] at hx; (try ((first | rw [guardL_if] at hx | rw [guardF_if] at hx); split at hx <;> rename_i hc)))); all_goals (subst hx; first | (refine ⟨_, rfl, fun ht => ?_, fun ht => ?_⟩ <;> (try simp only [Bool.not_eq_true', Bool.not_eq_false', Bool.and_eq_true, Bool.and_eq_false_iff, Bool.or_eq_true, Bool.or_eq_false_iff, decide_eq_true_eq, decide_eq_false_iff_not, beq_iff_eq, bne_iff_ne, Bool.not_true, Bool.not_false, Bool.true_eq_false, Bool.false_eq_true, ne_eq, Decidable.not_not, inB_t, inB_f] at ht)) | (refine ⟨_, rfl, ?_⟩; (try simp only [tupOf])))) | refine wSkip ?_ | (refine wExit ?_; simp only [thenQ, blockQ, reduceIte, Nat.reduceEqDiff]) | refine wSeq ?_ | refine wBlock ?_ | (subst hQQ; (try simp only [thenQ, blockQ, reduceIte, Nat.reduceEqDiff])))
      · refine gives_boolv ?_
        rw [decide_eq_false]
        intro h; subst h; exact ht rfl
      · refine ⟨_, Nat.sub_lt (by omega) Nat.one_pos, j + 1, by omega, by simp only [upd_eq, Nat.reduceEqDiff, if_false, if_true, h0, h1, h5], by simp only [upd_eq, Nat.reduceEqDiff, if_false, if_true, h0, h1, h5], by simp only [upd_eq, Nat.reduceEqDiff, if_false, if_true, h0, h1, h5], ?_⟩
        rw [List.take_succ_eq_append_getElem hla, List.take_succ_eq_append_getElem hlb, htk, ht]
    · have hj' : j = a.length := by omega
      have hab : a = b := by
        rw [List.take_of_length_le (by omega), List.take_of_length_le (by omega)] at htk; exact htk
      repeat' (first | ((first | refine wSeqr (fun xx hx => ?_) | refine wSeqrF (fun xx hx => ?_) | refine wIf (fun xx hx => ?_) | refine wReg (fun xx hx => ?_) | refine wRegF (fun xx hx => ?_) | (refine wRet ?_; (try simp only [thenQ, blockQ]); (try (subst hQQ; (try simp only [thenQ, blockQ]))); refine ends_by (fun xx hx => ?_))); have hc := trivial; (repeat' (simp only [hc, Nat.reduceBEq, go_sem, Nat.reduceAdd, Nat.reduceMul, Nat.reduceSub, Nat.reduceEqDiff, Nat.reduceLT, Nat.reduceLeDiff, Int.reduceEq, Int.reduceLT, Int.reduceLE, reduceIte, aresults, aresult] at hx; (try ((first | rw [guardL_if] at hx | rw [guardF_if] at hx); split at hx <;> rename_i hc)))); all_goals (subst hx; first | (refine ⟨_, rfl, fun ht => ?_, fun ht => ?_⟩ <;> (try simp only [Bool.not_eq_true', Bool.not_eq_false', Bool.and_eq_true, Bool.and_eq_false_iff, Bool.or_eq_true, Bool.or_eq_false_iff, decide_eq_true_eq, decide_eq_false_iff_not, beq_iff_eq, bne_iff_ne, Bool.not_true, Bool.not_false, Bool.true_eq_false, Bool.false_eq_true, ne_eq, Decidable.not_not, inB_t, inB_f] at ht)) | (refine ⟨_, rfl, ?_⟩; (try simp only [tupOf])))) | refine wSkip ?_ | (refine wExit ?_; simp only [thenQ, blockQ, reduceIte, Nat.reduceEqDiff]) | refine wSeq ?_ | refine wBlock ?_ | (subst hQQ; (try simp only [thenQ, blockQ, reduceIte, Nat.reduceEqDiff])))
      refine gives_boolv ?_
      rw [decide_eq_true hab]
  · refine ⟨0, by omega, rfl, rfl, rfl, ?_⟩; simp
theorem c_leqByteS (a b : List Int) (hl : a.length ≤ 1048576) : ∀ H, call Try.prog cfg0 0 9 [bytesL a, bytesL b] H = some (.v (.bool (decide (a = b))), H) :=
  call_fz Try.func9 rfl ok_leqByteS rfl (by simp only [fz_cons, fz_nil, go_sem, and_self]) (p_leqByteS a b hl)

end
end Go.Proofs.Ytmpkcilehideiaa
namespace Go.Proofs.Ytmpkcilehideiaa
open Go Go.RowKit Go.Proofs.Ytmpkcilehideiaa.Eng
set_option linter.unusedSimpArgs false
set_option linter.unusedVariables false
set_option maxRecDepth 100000
noncomputable section
theorem gO_bytes {H : Hp} {b : Nat} {l : List Int} (hb : H.h b = some (l.map cell)) : GivesO (bytesL l) (.sl b 1 0 l.length) H := gF_O (gF_bytes (n := 10) hb rfl)
theorem gO_bytesR {H : Hp} {x : AV} {n : Nat} {l : List Int} (h : RAcc H x 1 (l.map cell) n) : GivesO (bytesL l) x H := by
  have hn : n = l.length := by have := h.1; simpa using this.symm
  subst hn
  rcases h.2 with ⟨h0, e⟩ | ⟨b, -, rfl, hb⟩
  · have e0 : l = [] := List.length_eq_zero_iff.1 h0
    subst e0
    rcases e with rfl | rfl
    · exact gF_O (gF_lstT 11 H)
    · exact gF_O (gF_nil 11 H)
  · exact gO_bytes hb
theorem ok_ltoByteS : fnOk Try.prog cfg0 6 Try.f6 = true := by kernel_rfl
theorem pq_ltoByteS (l : List Int) (hl : l.length ≤ 1048576) : pure Try.prog cfg0 6 Try.f6 [bytesL l] = some (bytesL l, true) ∧ owned Try.prog cfg0 6 Try.f6 [bytesL l] = some (bytesL l) := by
  refine both_wp (rs := [.tmp 2]) rfl rfl ?_
  have hp0 : ∀ b, cfg0.pol 6 b = 0 := fun b => rfl
  have hr := roomy_1 (n := l.length) (by omega)
  repeat' (first | ((first | refine wSeqr (fun xx hx => ?_) | refine wSeqrF (fun xx hx => ?_) | refine wIf (fun xx hx => ?_) | refine wReg (fun xx hx => ?_) | refine wRegF (fun xx hx => ?_) | (refine wRet ?_; (try simp only [thenQ, blockQ]); (try (subst hQQ; (try simp only [thenQ, blockQ]))); refine ends_by (fun xx hx => ?_))); have hc := trivial; (repeat' (simp only [hc, Nat.reduceBEq, go_sem, Nat.reduceAdd, Nat.reduceMul, Nat.reduceSub, Nat.reduceEqDiff, Nat.reduceLT, Nat.reduceLeDiff, Int.reduceEq, Int.reduceLT, Int.reduceLE, reduceIte, aresults, aresult, hr] at hx; (try ((first | rw [guardL_if] at hx | rw [guardF_if] at hx); split at hx <;> rename_i hc)))); all_goals (subst hx; first | (refine ⟨_, rfl, fun ht => ?_, fun ht => ?_⟩ <;> (try simp only [Bool.not_eq_true', Bool.not_eq_false', Bool.and_eq_true, Bool.and_eq_false_iff, Bool.or_eq_true, Bool.or_eq_false_iff, decide_eq_true_eq, decide_eq_false_iff_not, beq_iff_eq, bne_iff_ne, Bool.not_true, Bool.not_false, Bool.true_eq_false, Bool.false_eq_true, ne_eq, Decidable.not_not, inB_t, inB_f] at ht)) | (refine ⟨_, rfl, ?_⟩; (try simp only [tupOf])))) | refine wSkip ?_ | (refine wExit ?_; simp only [thenQ, blockQ, reduceIte, Nat.reduceEqDiff]) | refine wSeq ?_ | refine wBlock ?_ | (subst hQQ; (try simp only [thenQ, blockQ, reduceIte, Nat.reduceEqDiff])))
  refine wLoop (fun k s => ∃ (j : Nat), j + k = l.length ∧ s.1 0 = bytesL l ∧ s.1 4 = .v (.int .i64 (j : Nat)) ∧ s.1 3 = .sl 0 1 0 l.length ∧ (s.2.h 0 = some ((l.take j ++ List.replicate (l.length - j) 0).map cell))) (fun k s hI => ?_) (l.length) _ ?_
  · obtain ⟨e, H⟩ := s
    obtain ⟨j, hj, h0, h4, h3, hh⟩ := hI
    simp only at h0 h4 h3 hh
    repeat' (first | ((first | refine wSeqr (fun xx hx => ?_) | refine wSeqrF (fun xx hx => ?_) | refine wIf (fun xx hx => ?_) | refine wReg (fun xx hx => ?_) | refine wRegF (fun xx hx => ?_) | (refine wRet ?_; (try simp only [thenQ, blockQ]); (try (subst hQQ; (try simp only [thenQ, blockQ]))); refine ends_by (fun xx hx => ?_))); have hc := trivial; (repeat' (simp only [hc, Nat.reduceBEq, go_sem, Nat.reduceAdd, Nat.reduceMul, Nat.reduceSub, Nat.reduceEqDiff, Nat.reduceLT, Nat.reduceLeDiff, Int.reduceEq, Int.reduceLT, Int.reduceLE, reduceIte, aresults, aresult, h0, h4] at hx; (try ((first | rw [guardL_if] at hx | rw [guardF_if] at hx); split at hx <;> rename_i hc)))); all_goals (subst hx; first | (refine ⟨_, rfl, fun ht => ?_, fun ht => ?_⟩ <;> (try simp only [Bool.not_eq_true', Bool.not_eq_false', Bool.and_eq_true, Bool.and_eq_false_iff, Bool.or_eq_true, Bool.or_eq_false_iff, decide_eq_true_eq, decide_eq_false_iff_not, beq_iff_eq, bne_iff_ne, Bool.not_true, Bool.not_false, Bool.true_eq_false, Bool.false_eq_true, ne_eq, Decidable.not_not, inB_t, inB_f] at ht)) | (refine ⟨_, rfl, ?_⟩; (try simp only [tupOf])))) | refine wSkip ?_ | (refine wExit ?_; simp only [thenQ, blockQ, reduceIte, Nat.reduceEqDiff]) | refine wSeq ?_ | refine wBlock ?_ | (subst hQQ; (try simp only [thenQ, blockQ, reduceIte, Nat.reduceEqDiff])))
    · have hlt : j < l.length := by omega
      have hg := get_byte hlt
      have hlen : (List.map cell (l.take j ++ List.replicate (l.length - j) 0)).length = l.length := by simp; omega
      repeat' (first | ((first | refine wSeqr (fun xx hx => ?_) | refine wSeqrF (fun xx hx => ?_) | refine wIf (fun xx hx => ?_) | refine wReg (fun xx hx => ?_) | refine wRegF (fun xx hx => ?_) | (refine wRet ?_; (try simp only [thenQ, blockQ]); (try (subst hQQ; (try simp only [thenQ, blockQ]))); refine ends_by (fun xx hx => ?_))); have hc := trivial; (repeat' (simp only [hc, Nat.reduceBEq, go_sem, Nat.reduceAdd, Nat.reduceMul, Nat.reduceSub, Nat.reduceEqDiff, Nat.reduceLT, Nat.reduceLeDiff, Int.reduceEq, Int.reduceLT, Int.reduceLE, reduceIte, aresults, aresult, h0, h3, h4, hg, hh, hlt, hlen, Option.isSome_some, bytesL, cell, show j + 1 ≤ l.length from hlt, wrap_succ (show j < 9223372036854775807 by omega)] at hx; (try ((first | rw [guardL_if] at hx | rw [guardF_if] at hx); split at hx <;> rename_i hc)))); all_goals (subst hx; first | (refine ⟨_, rfl, fun ht => ?_, fun ht => ?_⟩ <;> (try simp only [Bool.not_eq_true', Bool.not_eq_false', Bool.and_eq_true, Bool.and_eq_false_iff, Bool.or_eq_true, Bool.or_eq_false_iff, decide_eq_true_eq, decide_eq_false_iff_not, beq_iff_eq, bne_iff_ne, Bool.not_true, Bool.not_false, Bool.true_eq_false, Bool.false_eq_true, ne_eq, Decidable.not_not, inB_t, inB_f] at ht)) | (refine ⟨_, rfl, ?_⟩; (try simp only [tupOf])))) | refine wSkip ?_ | (refine wExit ?_; simp only [thenQ, blockQ, reduceIte, Nat.reduceEqDiff]) | refine wSeq ?_ | refine wBlock ?_ | (subst hQQ; (try simp only [thenQ, blockQ, reduceIte, Nat.reduceEqDiff])))
      refine ⟨_, Nat.sub_lt (by omega) Nat.one_pos, j + 1, by omega, by simp only [upd_eq, Nat.reduceEqDiff, if_false, if_true, h0, h4, h3], by simp only [upd_eq, Nat.reduceEqDiff, if_false, if_true, h0, h4, h3], by simp only [upd_eq, Nat.reduceEqDiff, if_false, if_true, h0, h4, h3], ?_⟩
      simp only [Hp.set_h, if_true, ← take_set hlt]
      exact congrArg some (map_set_cell _ _ _)
    · have hj' : j = l.length := by omega
      subst hj'
      rw [h3]
      have hh' : H.h 0 = some (l.map cell) := by rw [hh]; simp
      exact gO_bytes hh'
  · refine ⟨0, by omega, rfl, rfl, rfl, ?_⟩
    simp only [Hp.new_h, nil_g, if_true, Nat.sub_zero, List.take_zero, List.nil_append]
    exact congrArg some (zeros_cell _)
theorem p_ltoByteS (l : List Int) (hl : l.length ≤ 1048576) : pure Try.prog cfg0 6 Try.f6 [bytesL l] = some (bytesL l, true) := (pq_ltoByteS l hl).1
theorem c_ltoByteS (l : List Int) (hl : l.length ≤ 1048576) : ∀ H, call Try.prog cfg0 0 6 [bytesL l] H = some (bytesL l, H) :=
  call_fz Try.func6 rfl ok_ltoByteS rfl (by simp only [fz_cons, fz_nil, go_sem, and_self]) (pq_ltoByteS l hl).1
theorem o_ltoByteS (l : List Int) (hl : l.length ≤ 1048576) : ∀ H, call Try.prog cfg0 1 6 [bytesL l] H = mat depthD (bytesL l) H := fun H =>
  call_ofO Try.func6 rfl ok_ltoByteS rfl (mapM_self fun x hx => ((show ∀ x ∈ ([bytesL l] : List AV), Fz depthD x by simp only [fz_cons, fz_nil, go_sem, and_self]) x hx).1 H) (pq_ltoByteS l hl).2

end
end Go.Proofs.Ytmpkcilehideiaa
namespace Go.Proofs.Ytmpkcilehideiaa
open Go Go.RowKit Go.Proofs.Ytmpkcilehideiaa.Eng
set_option linter.unusedSimpArgs false
set_option linter.unusedVariables false
set_option maxRecDepth 100000
noncomputable section
theorem ok_sl1In : fnOk Try.prog cfg0 70 Try.f70 = true := by kernel_rfl
theorem p_sl1In (a lo hi : Int) : pure Try.prog cfg0 70 Try.f70 [.v (.int .i64 a), .v (.int .i64 lo), .v (.int .i64 hi)] = some (.v (.bool (inB a lo hi)), true) := by
  refine pure_wp (rs := [.tmp 6]) rfl rfl ?_
  have hp0 : ∀ b, cfg0.pol 70 b = 0 := fun b => rfl
  repeat' (first | ((first | refine wSeqr (fun xx hx => ?_) | refine wSeqrF (fun xx hx => ?_) | refine wIf (fun xx hx => ?_) | refine wReg (fun xx hx => ?_) | refine wRegF (fun xx hx => ?_) | (refine wRet ?_; (try simp only [thenQ, blockQ]); (try (subst hQQ; (try simp only [thenQ, blockQ]))); refine ends_by (fun xx hx => ?_))); have hc := trivial; (repeat' (simp only [hc, Nat.reduceBEq, go_sem, Nat.reduceAdd, Nat.reduceMul, Nat.reduceSub, Nat.reduceEqDiff, Nat.reduceLT, Nat.reduceLeDiff, Int.reduceEq, Int.reduceLT, Int.reduceLE, reduceIte, aresults, aresult] at hx; (try ((first | rw [guardL_if] at hx | rw [guardF_if] at hx); split at hx <;> rename_i hc)))); all_goals (subst hx; first | (refine ⟨_, rfl, fun ht => ?_, fun ht => ?_⟩ <;> (try simp only [Bool.not_eq_true', Bool.not_eq_false', Bool.and_eq_true, Bool.and_eq_false_iff, Bool.or_eq_true, Bool.or_eq_false_iff, decide_eq_true_eq, decide_eq_false_iff_not, beq_iff_eq, bne_iff_ne, Bool.not_true, Bool.not_false, Bool.true_eq_false, Bool.false_eq_true, ne_eq, Decidable.not_not, inB_t, inB_f] at ht)) | (refine ⟨_, rfl, ?_⟩; (try simp only [tupOf])))) | refine wSkip ?_ | (refine wExit ?_; simp only [thenQ, blockQ, reduceIte, Nat.reduceEqDiff]) | refine wSeq ?_ | refine wBlock ?_ | (subst hQQ; (try simp only [thenQ, blockQ, reduceIte, Nat.reduceEqDiff])))
  all_goals (refine gives_boolv ?_; simp [inB, *])
theorem c_sl1In (a lo hi : Int) : ∀ H, call Try.prog cfg0 0 70 [.v (.int .i64 a), .v (.int .i64 lo), .v (.int .i64 hi)] H = some (.v (.bool (inB a lo hi)), H) :=
  call_fz Try.func70 rfl ok_sl1In rfl (by simp only [fz_cons, fz_nil, go_sem, and_self]) (p_sl1In a lo hi)

theorem ok_iin : fnOk Try.prog cfg0 44 Try.f44 = true := by kernel_rfl
theorem p_iin (a lo hi : Int) : pure Try.prog cfg0 44 Try.f44 [.v (.int .i64 a), .v (.int .i64 lo), .v (.int .i64 hi)] = some (.v (.bool (inB a lo hi)), true) := by
  refine pure_wp (rs := [.tmp 6]) rfl rfl ?_
  have hp0 : ∀ b, cfg0.pol 44 b = 0 := fun b => rfl
  repeat' (first | ((first | refine wSeqr (fun xx hx => ?_) | refine wSeqrF (fun xx hx => ?_) | refine wIf (fun xx hx => ?_) | refine wReg (fun xx hx => ?_) | refine wRegF (fun xx hx => ?_) | (refine wRet ?_; (try simp only [thenQ, blockQ]); (try (subst hQQ; (try simp only [thenQ, blockQ]))); refine ends_by (fun xx hx => ?_))); have hc := trivial; (repeat' (simp only [hc, Nat.reduceBEq, go_sem, Nat.reduceAdd, Nat.reduceMul, Nat.reduceSub, Nat.reduceEqDiff, Nat.reduceLT, Nat.reduceLeDiff, Int.reduceEq, Int.reduceLT, Int.reduceLE, reduceIte, aresults, aresult] at hx; (try ((first | rw [guardL_if] at hx | rw [guardF_if] at hx); split at hx <;> rename_i hc)))); all_goals (subst hx; first | (refine ⟨_, rfl, fun ht => ?_, fun ht => ?_⟩ <;> (try simp only [Bool.not_eq_true', Bool.not_eq_false', Bool.and_eq_true, Bool.and_eq_false_iff, Bool.or_eq_true, Bool.or_eq_false_iff, decide_eq_true_eq, decide_eq_false_iff_not, beq_iff_eq, bne_iff_ne, Bool.not_true, Bool.not_false, Bool.true_eq_false, Bool.false_eq_true, ne_eq, Decidable.not_not, inB_t, inB_f] at ht)) | (refine ⟨_, rfl, ?_⟩; (try simp only [tupOf])))) | refine wSkip ?_ | (refine wExit ?_; simp only [thenQ, blockQ, reduceIte, Nat.reduceEqDiff]) | refine wSeq ?_ | refine wBlock ?_ | (subst hQQ; (try simp only [thenQ, blockQ, reduceIte, Nat.reduceEqDiff])))
  all_goals (refine gives_boolv ?_; simp [inB, *])
theorem c_iin (a lo hi : Int) : ∀ H, call Try.prog cfg0 0 44 [.v (.int .i64 a), .v (.int .i64 lo), .v (.int .i64 hi)] H = some (.v (.bool (inB a lo hi)), H) :=
  call_fz Try.func44 rfl ok_iin rfl (by simp only [fz_cons, fz_nil, go_sem, and_self]) (p_iin a lo hi)

theorem ok_iisKeyId : fnOk Try.prog cfg0 54 Try.f54 = true := by kernel_rfl
theorem p_iisKeyId (a : Int) : pure Try.prog cfg0 54 Try.f54 [.v (.int .i64 a)] = some (.v (.bool (inB a 1 255)), true) := by
  refine pure_wp (rs := [.tmp 2]) rfl rfl ?_
  have hp0 : ∀ b, cfg0.pol 54 b = 0 := fun b => rfl
  repeat' (first | ((first | refine wSeqr (fun xx hx => ?_) | refine wSeqrF (fun xx hx => ?_) | refine wIf (fun xx hx => ?_) | refine wReg (fun xx hx => ?_) | refine wRegF (fun xx hx => ?_) | (refine wRet ?_; (try simp only [thenQ, blockQ]); (try (subst hQQ; (try simp only [thenQ, blockQ]))); refine ends_by (fun xx hx => ?_))); have hc := trivial; (repeat' (simp only [hc, Nat.reduceBEq, go_sem, Nat.reduceAdd, Nat.reduceMul, Nat.reduceSub, Nat.reduceEqDiff, Nat.reduceLT, Nat.reduceLeDiff, Int.reduceEq, Int.reduceLT, Int.reduceLE, reduceIte, aresults, aresult, hp0, c_iin] at hx; (try ((first | rw [guardL_if] at hx | rw [guardF_if] at hx); split at hx <;> rename_i hc)))); all_goals (subst hx; first | (refine ⟨_, rfl, fun ht => ?_, fun ht => ?_⟩ <;> (try simp only [Bool.not_eq_true', Bool.not_eq_false', Bool.and_eq_true, Bool.and_eq_false_iff, Bool.or_eq_true, Bool.or_eq_false_iff, decide_eq_true_eq, decide_eq_false_iff_not, beq_iff_eq, bne_iff_ne, Bool.not_true, Bool.not_false, Bool.true_eq_false, Bool.false_eq_true, ne_eq, Decidable.not_not, inB_t, inB_f] at ht)) | (refine ⟨_, rfl, ?_⟩; (try simp only [tupOf])))) | refine wSkip ?_ | (refine wExit ?_; simp only [thenQ, blockQ, reduceIte, Nat.reduceEqDiff]) | refine wSeq ?_ | refine wBlock ?_ | (subst hQQ; (try simp only [thenQ, blockQ, reduceIte, Nat.reduceEqDiff])))
  exact ⟨rfl, rfl⟩
theorem c_iisKeyId (a : Int) : ∀ H, call Try.prog cfg0 0 54 [.v (.int .i64 a)] H = some (.v (.bool (inB a 1 255)), H) :=
  call_fz Try.func54 rfl ok_iisKeyId rfl (by simp only [fz_cons, fz_nil, go_sem, and_self]) (p_iisKeyId a)

def keyFault (k : KeyM) : Int := if ¬ (1 ≤ k.Id ∧ k.Id ≤ 255) then 3 else if k.Bytes.length ≠ 16 then 2 else 0
-- not here: _impl_Key_fault
-- not here: spec_l4Key
def firstFault : List KeyM → Int
  | [] => 0
  | k :: r => if keyFault k = 0 then firstFault r else keyFault k
def rising : List KeyM → Bool
  | [] => true
  | [_] => true
  | a :: b :: r => decide (a.Id < b.Id) && rising (b :: r)
def findFrom : List KeyM → Int → Nat → Int
  | [], _, _ => -1
  | k :: r, id, j => if k.Id = id then j else findFrom r id (j + 1)
def findId (l : List KeyM) (id : Int) : Int := findFrom l id 0
theorem findFrom_bound : ∀ (l : List KeyM) (id : Int) (j : Nat), findFrom l id j = -1 ∨ ∃ i k, findFrom l id j = (j + i : Nat) ∧ l[i]? = some k ∧ k.Id = id := by
  intro l
  induction l with
  | nil => intro id j; exact .inl rfl
  | cons k r ih =>
    intro id j
    unfold findFrom
    split
    · exact .inr ⟨0, k, by simp, rfl, by assumption⟩
    · rcases ih id (j + 1) with h | ⟨i, k', h1, h2, h3⟩
      · exact .inl h
      · exact .inr ⟨i + 1, k', by rw [h1]; congr 1; omega, by simpa using h2, h3⟩
-- not here: spec_l4Find
end
end Go.Proofs.Ytmpkcilehideiaa
