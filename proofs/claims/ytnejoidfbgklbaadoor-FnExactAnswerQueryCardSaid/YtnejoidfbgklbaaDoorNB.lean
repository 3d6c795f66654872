/- Contracts: names into bytes, both sides. Contracts: names into bytes, the reference. Contracts: a name is read, the program's side. -/
import Derived.Test.YtnejoidfbgklbaaDoorNA
namespace Go.Proofs.YtnejoidfbgklbaaDoor
open Go Go.RowKit Go.Proofs.YtnejoidfbgklbaaDoor.Eng
set_option linter.unusedSimpArgs false
set_option linter.unusedVariables false
set_option maxRecDepth 100000
set_option maxHeartbeats 2000000
noncomputable section
theorem byteCells_nums (s : ByteArray) : AV.lst false (byteCells s) = bytesL (nums s) := by simp [byteCells, bytesL, nums, cell, List.map_map, Function.comp_def]
theorem conv_sb (s : ByteArray) (H : Hp) : aconv Tryd.prog H 9 22 (.v (.string s)) = some (bytesL (nums s)) := by
  simp only [aconv, u9, u22, u5, byteCells_nums]
theorem afirst_str (H : Hp) (s : ByteArray) : afirst H 1 s.size (.v (.string s)) = some ((nums s).map cell) := by
  have hsz : s.data.toList.length = s.size := by simp [ByteArray.size_data]
  simp only [afirst, Nat.le_refl, and_self, if_true]
  rw [List.take_of_length_le (by omega)]
  simp [nums, cell, List.map_map, Function.comp_def]
def labsL (ls : List ByteArray) (j : Nat) : List Int := ((ls.take j).map lab1).flatten
theorem labsL_succ {ls : List ByteArray} {j : Nat} {s : ByteArray} (h : ls[j]? = some s) : labsL ls (j + 1) = labsL ls j ++ ([(s.size : Int) % 256] ++ nums s) := by
  unfold labsL
  rw [List.take_add_one, h]
  simp [lab1]
theorem labsL_len {ls : List ByteArray} (h : labsOk ls) (j : Nat) : (labsL ls j).length ≤ 126 := by
  have h1 := labs_len (ls := ls.take j) fun s hs => h.2 s (List.mem_of_mem_take hs)
  have h2 := h.1
  have h3 : (ls.take j).length ≤ ls.length := by rw [List.length_take]; omega
  unfold labsL; omega
theorem labsL_all (ls : List ByteArray) : labsL ls ls.length ++ [0] = encN ls := by unfold labsL encN; rw [List.take_length]
theorem conv_si (n : Int) (H : Hp) : aconv Tryd.prog H 3 5 (.v (.int .i64 n)) = some (.v (.int .u8 (n % 256))) := by simp only [aconv, u3, u5, wrap8]
theorem gO_res {H : Hp} {x : AV} {n : Nat} {c : Int} {l : List Int} (h : RAcc H x 1 (l.map cell) n) : GivesO (.agg [.v (.int .i64 c), bytesL l]) (.agg [.v (.int .i64 c), x]) H := by
  have hF : GivesF 11 (bytesL l) x H := by
    have hn : n = l.length := by have := h.1; simpa using this.symm
    subst hn
    rcases h.2 with ⟨h0, e⟩ | ⟨b, -, rfl, hb⟩
    · have e0 : l = [] := List.length_eq_zero_iff.1 h0
      subst e0
      rcases e with rfl | rfl
      · exact gF_lstT 10 H
      · exact gF_nil 10 H
    · exact gF_bytes (n := 9) hb rfl
  refine gF_O (gF_agg (n := 10) hF [.v (.int .i64 c)] ?_)
  intro z hz
  simp only [List.mem_cons, List.not_mem_nil, or_false] at hz
  rcases hz with rfl; exact ⟨_, rfl, plain_int _ _⟩
theorem ok_iEncodeName : fnOk Tryd.prog cfg0 66 Tryd.f66 = true := by kernel_rfl
theorem pq_iEncodeName (ls : List ByteArray) (hk : labsOk ls) : pure Tryd.prog cfg0 66 Tryd.f66 [textsL ls] = some (.agg [.v (.int .i64 0), bytesL (encN ls)], true) ∧ owned Tryd.prog cfg0 66 Tryd.f66 [textsL ls] = some (.agg [.v (.int .i64 0), bytesL (encN ls)]) := by
  refine both_wp (rs := [.cell 2 36]) rfl rfl ?_
  have hp0 : ∀ b, cfg0.pol 66 b = 0 := fun b => rfl
  have h6 : ¬ 6 < ((ls.length : Nat) : Int) := by have := hk.1; omega
  repeat' (first | ((first | refine wSeqr ?_ | refine wIf ?_ | refine wReg ?_ | (refine wRet ?_; (try simp only [thenQ, blockQ]); refine ends_by ?_)); intro xx hx; have hc := trivial; (repeat' (simp only [hc, Nat.reduceBEq, go_sem, Nat.reduceAdd, Nat.reduceMul, Nat.reduceSub, Nat.reduceEqDiff, Nat.reduceLT, Nat.reduceLeDiff, Int.reduceEq, Int.reduceLT, Int.reduceLE, reduceIte, aresults, aresult, hp0, textsL, List.length_map, h6] at hx; (try (rw [guardL_if] at hx; split at hx <;> rename_i hc)))); all_goals (subst hx; first | (refine ⟨_, rfl, fun ht => ?_, fun ht => ?_⟩ <;> (try simp only [bbs] at ht)) | (refine ⟨_, rfl, ?_⟩; (try simp only [tupOf])))) | refine wSkip ?_ | (refine wExit ?_; simp only [thenQ, blockQ, reduceIte, Nat.reduceEqDiff]) | refine wSeq ?_ | refine wBlock ?_)
  all_goals try (exfalso; (try simp only [bbs] at *); first | omega | exact absurd trivial (by assumption))
  refine wLoop (fun k s => ∃ (j : Nat) (x : AV), j + k = ls.length ∧ s.1 2 = .ptr 0 0 ∧ s.1 3 = x ∧ s.1 10 = textsL ls ∧ s.1 11 = .v (.int .i64 (ls.length : Nat)) ∧ s.1 12 = .v (.int .i64 (j : Nat)) ∧ (RAcc s.2 x 1 ((labsL ls j).map cell) (labsL ls j).length) ∧ (s.2.h 0 = some [.v (.int .i64 0), .v (.slice none 0 0)] ∧ 0 < s.2.g) ∧ (Off 0 x)) (fun k s hI => ?_) (ls.length) _ ?_
  · obtain ⟨e, H⟩ := s
    obtain ⟨j, x, hj, h2, h3, h10, h11, h12, hr, hb, hoff⟩ := hI
    simp only at h2 h3 h10 h11 h12 hr hb hoff
    obtain ⟨hb0, hgg⟩ := hb
    have hll := labsL_len hk j
    have h6l := hk.1
    by_cases hlt : j < ls.length
    · have hltI : ((j : Nat) : Int) < (ls.length : Int) := by omega
      obtain ⟨s, hg, -, hm⟩ := at_drop hlt
      have hg' := get_text hg
      have hlab := hk.2 s hm
      have hs := lab_size hlab
      have w1 : IntKind.wrap .i64 (((j : Nat) : Int) + 1) = ((j + 1 : Nat) : Int) := wrap_succ (by omega)
      have hnl := nums_len s
      have cl := c_iisLabel s (by omega)
      repeat' ((fail_if_success (first | refine wAt 9 ?_)); first | ((first | refine wSeqr ?_ | refine wIf ?_ | refine wReg ?_ | (refine wRet ?_; (try simp only [thenQ, blockQ]); refine ends_by ?_)); intro xx hx; have hc := trivial; (repeat' (simp only [hc, Nat.reduceBEq, go_sem, Nat.reduceAdd, Nat.reduceMul, Nat.reduceSub, Nat.reduceEqDiff, Nat.reduceLT, Nat.reduceLeDiff, Int.reduceEq, Int.reduceLT, Int.reduceLE, reduceIte, aresults, aresult, hp0, h10, h11, h12, hltI, textsL, List.length_map, hg', cl, hlab, Bool.not_true] at hx; (try (rw [guardL_if] at hx; split at hx <;> rename_i hc)))); all_goals (subst hx; first | (refine ⟨_, rfl, fun ht => ?_, fun ht => ?_⟩ <;> (try simp only [bbs] at ht)) | (refine ⟨_, rfl, ?_⟩; (try simp only [tupOf])))) | refine wSkip ?_ | (refine wExit ?_; simp only [thenQ, blockQ, reduceIte, Nat.reduceEqDiff]) | refine wSeq ?_ | refine wBlock ?_)
      all_goals try (exfalso; (try simp only [bbs] at *); first | omega | exact absurd trivial (by assumption))
      (first | refine wSeqr ?_ | refine wReg ?_); intro xx hx; have hc := trivial; (repeat' (simp only [hc, Nat.reduceBEq, go_sem, Nat.reduceAdd, Nat.reduceMul, Nat.reduceSub, Nat.reduceEqDiff, Nat.reduceLT, Nat.reduceLeDiff, Int.reduceEq, Int.reduceLT, Int.reduceLE, reduceIte, aresults, aresult, hp0, h3, conv_si] at hx; (try (rw [guardL_if] at hx; split at hx <;> rename_i hc)))); generalize hq : aappend Tryd.prog _ _ _ _ = q at hx
      obtain ⟨x1, K1, rfl, hac1, hg1, hk1, ho1⟩ := app_rows hq el22 zero5 by5 int22 (sz := 1) rfl (by omega) hr (m := 1) rfl (afirst_one _ _ [cell ((s.size : Int) % 256)]) rfl (by omega) (by omega)
      clear hq
      have k0 := (hk1 0 hgg hoff).trans hb0
      have o0 := ho1 0 hgg hoff
      have hc := trivial; (repeat' (simp only [hc, Nat.reduceBEq, go_sem, Nat.reduceAdd, Nat.reduceMul, Nat.reduceSub, Nat.reduceEqDiff, Nat.reduceLT, Nat.reduceLeDiff, Int.reduceEq, Int.reduceLT, Int.reduceLE, reduceIte, aresults, aresult, hp0, conv_sb] at hx; (try (rw [guardL_if] at hx; split at hx <;> rename_i hc)))); generalize hq : aappend Tryd.prog _ _ _ _ = q at hx
      obtain ⟨x2, K2, rfl, hac2, hg2, hk2, ho2⟩ := app_rows hq el22 zero5 by5 int9 (sz := 1) rfl (by omega) hac1 (show alen (.v (.string s)) = some s.size from rfl) (afirst_str _ s) (by simp [hnl]) (by omega) (by omega)
      clear hq
      have k1 := (hk2 0 (by omega) o0).trans k0
      have o1 := ho2 0 (by omega) o0
      have hc := trivial; (repeat' (simp only [hc, Nat.reduceBEq, go_sem, Nat.reduceAdd, Nat.reduceMul, Nat.reduceSub, Nat.reduceEqDiff, Nat.reduceLT, Nat.reduceLeDiff, Int.reduceEq, Int.reduceLT, Int.reduceLE, reduceIte, aresults, aresult, hp0] at hx; (try (rw [guardL_if] at hx; split at hx <;> rename_i hc)))); all_goals (subst hx; refine ⟨_, rfl, ?_⟩)
      repeat' (first | ((first | refine wSeqr ?_ | refine wIf ?_ | refine wReg ?_ | (refine wRet ?_; (try simp only [thenQ, blockQ]); refine ends_by ?_)); intro xx hx; have hc := trivial; (repeat' (simp only [hc, Nat.reduceBEq, go_sem, Nat.reduceAdd, Nat.reduceMul, Nat.reduceSub, Nat.reduceEqDiff, Nat.reduceLT, Nat.reduceLeDiff, Int.reduceEq, Int.reduceLT, Int.reduceLE, reduceIte, aresults, aresult, hp0, h12, w1] at hx; (try (rw [guardL_if] at hx; split at hx <;> rename_i hc)))); all_goals (subst hx; first | (refine ⟨_, rfl, fun ht => ?_, fun ht => ?_⟩ <;> (try simp only [bbs] at ht)) | (refine ⟨_, rfl, ?_⟩; (try simp only [tupOf])))) | refine wSkip ?_ | (refine wExit ?_; simp only [thenQ, blockQ, reduceIte, Nat.reduceEqDiff]) | refine wSeq ?_ | refine wBlock ?_)
      all_goals try (exfalso; (try simp only [bbs] at *); first | omega | exact absurd trivial (by assumption))
      refine ⟨_, Nat.sub_lt (by omega) Nat.one_pos, j + 1, x2, by omega, by simp only [upd_eq, Nat.reduceEqDiff, if_false, if_true, h2, h3, h10, h11, h12], by simp only [upd_eq, Nat.reduceEqDiff, if_false, if_true, h2, h3, h10, h11, h12], by simp only [upd_eq, Nat.reduceEqDiff, if_false, if_true, h2, h3, h10, h11, h12], by simp only [upd_eq, Nat.reduceEqDiff, if_false, if_true, h2, h3, h10, h11, h12], by simp only [upd_eq, Nat.reduceEqDiff, if_false, if_true, h2, h3, h10, h11, h12], ?_⟩
      refine ⟨?_, ⟨k1, show 0 < K2.g by omega⟩, o1⟩
      rw [labsL_succ hg]
      simpa [Nat.add_assoc, Nat.add_comm, Nat.add_left_comm, hnl] using hac2
    · have hltI : ¬ ((j : Nat) : Int) < (ls.length : Int) := by omega
      have hj : j = ls.length := by omega
      subst hj
      repeat' ((fail_if_success (first | refine wAt 11 ?_)); first | ((first | refine wSeqr ?_ | refine wIf ?_ | refine wReg ?_ | (refine wRet ?_; (try simp only [thenQ, blockQ]); refine ends_by ?_)); intro xx hx; have hc := trivial; (repeat' (simp only [hc, Nat.reduceBEq, go_sem, Nat.reduceAdd, Nat.reduceMul, Nat.reduceSub, Nat.reduceEqDiff, Nat.reduceLT, Nat.reduceLeDiff, Int.reduceEq, Int.reduceLT, Int.reduceLE, reduceIte, aresults, aresult, hp0, h10, h11, h12, hltI, textsL, List.length_map] at hx; (try (rw [guardL_if] at hx; split at hx <;> rename_i hc)))); all_goals (subst hx; first | (refine ⟨_, rfl, fun ht => ?_, fun ht => ?_⟩ <;> (try simp only [bbs] at ht)) | (refine ⟨_, rfl, ?_⟩; (try simp only [tupOf])))) | refine wSkip ?_ | (refine wExit ?_; simp only [thenQ, blockQ, reduceIte, Nat.reduceEqDiff]) | refine wSeq ?_ | refine wBlock ?_)
      all_goals try (exfalso; (try simp only [bbs] at *); first | omega | exact absurd trivial (by assumption))
      (first | refine wSeqr ?_ | refine wReg ?_); intro xx hx; have hc := trivial; (repeat' (simp only [hc, Nat.reduceBEq, go_sem, Nat.reduceAdd, Nat.reduceMul, Nat.reduceSub, Nat.reduceEqDiff, Nat.reduceLT, Nat.reduceLeDiff, Int.reduceEq, Int.reduceLT, Int.reduceLE, reduceIte, aresults, aresult, hp0, h3] at hx; (try (rw [guardL_if] at hx; split at hx <;> rename_i hc)))); generalize hq : aappend Tryd.prog _ _ _ _ = q at hx
      obtain ⟨x1, K1, rfl, hac1, hg1, hk1, ho1⟩ := app_rows hq el22 zero5 by5 int22 (sz := 1) rfl (by omega) hr (m := 1) rfl (afirst_one _ _ [cell 0]) rfl (by omega) (by omega)
      clear hq
      have k0 := (hk1 0 hgg hoff).trans hb0
      have o0 := ho1 0 hgg hoff
      have xok := hac1.one
      have hc := trivial; (repeat' (simp only [hc, Nat.reduceBEq, go_sem, Nat.reduceAdd, Nat.reduceMul, Nat.reduceSub, Nat.reduceEqDiff, Nat.reduceLT, Nat.reduceLeDiff, Int.reduceEq, Int.reduceLT, Int.reduceLE, reduceIte, aresults, aresult, hp0, h2, k0, xok.1, xok.2] at hx; (try (rw [guardL_if] at hx; split at hx <;> rename_i hc)))); all_goals (subst hx; refine ⟨_, rfl, ?_⟩)
      repeat' (first | ((first | refine wSeqr ?_ | refine wIf ?_ | refine wReg ?_ | (refine wRet ?_; (try simp only [thenQ, blockQ]); refine ends_by ?_)); intro xx hx; have hc := trivial; (repeat' (simp only [hc, Nat.reduceBEq, go_sem, Nat.reduceAdd, Nat.reduceMul, Nat.reduceSub, Nat.reduceEqDiff, Nat.reduceLT, Nat.reduceLeDiff, Int.reduceEq, Int.reduceLT, Int.reduceLE, reduceIte, aresults, aresult, hp0, h2] at hx; (try (rw [guardL_if] at hx; split at hx <;> rename_i hc)))); all_goals (subst hx; first | (refine ⟨_, rfl, fun ht => ?_, fun ht => ?_⟩ <;> (try simp only [bbs] at ht)) | (refine ⟨_, rfl, ?_⟩; (try simp only [tupOf])))) | refine wSkip ?_ | (refine wExit ?_; simp only [thenQ, blockQ, reduceIte, Nat.reduceEqDiff]) | refine wSeq ?_ | refine wBlock ?_)
      all_goals try (exfalso; (try simp only [bbs] at *); first | omega | exact absurd trivial (by assumption))
      rw [← labsL_all]
      have := hac1.setOff o0 [.v (.int .i64 0), x1]
      exact gO_res (l := labsL ls ls.length ++ [0]) (by rw [List.map_append]; exact this)
  · refine ⟨0, .v (.slice none 0 0), by omega, rfl, rfl, rfl, rfl, rfl, ?_⟩
    exact ⟨RAcc.nil, ⟨rfl, by simp⟩, off_nil⟩
theorem p_iEncodeName (ls : List ByteArray) (hk : labsOk ls) : pure Tryd.prog cfg0 66 Tryd.f66 [textsL ls] = some (.agg [.v (.int .i64 0), bytesL (encN ls)], true) := (pq_iEncodeName ls hk).1
theorem c_iEncodeName (ls : List ByteArray) (hk : labsOk ls) : ∀ H, call Tryd.prog cfg0 0 66 [textsL ls] H = some (.agg [.v (.int .i64 0), bytesL (encN ls)], H) :=
  call_fz Tryd.func66 rfl ok_iEncodeName rfl (by simp only [fz_cons, fz_nil, go_sem, and_self]) (pq_iEncodeName ls hk).1
theorem o_iEncodeName (ls : List ByteArray) (hk : labsOk ls) : ∀ H, call Tryd.prog cfg0 1 66 [textsL ls] H = mat depthD (.agg [.v (.int .i64 0), bytesL (encN ls)]) H := fun H =>
  call_ofO Tryd.func66 rfl ok_iEncodeName rfl (mapM_self fun x hx => ((show ∀ x ∈ ([textsL ls] : List AV), Fz depthD x by simp only [fz_cons, fz_nil, go_sem, and_self]) x hx).1 H) (pq_iEncodeName ls hk).2

end
end Go.Proofs.YtnejoidfbgklbaaDoor
namespace Go.Proofs.YtnejoidfbgklbaaDoor
open Go Go.RowKit Go.Proofs.YtnejoidfbgklbaaDoor.Eng
set_option linter.unusedSimpArgs false
set_option linter.unusedVariables false
set_option maxRecDepth 100000
set_option maxHeartbeats 2000000
noncomputable section
theorem ok_sl10Name : fnOk Tryd.prog cfg0 76 Tryd.f76 = true := by kernel_rfl
theorem pq_sl10Name (ls : List ByteArray) (hk : labsOk ls) : pure Tryd.prog cfg0 76 Tryd.f76 [textsL ls] = some (bytesL (encN ls), true) ∧ owned Tryd.prog cfg0 76 Tryd.f76 [textsL ls] = some (bytesL (encN ls)) := by
  refine both_wp (rs := [.tmp 2]) rfl rfl ?_
  have hp0 : ∀ b, cfg0.pol 76 b = (if b = 23 then 3 else if b = 24 then 3 else if b = 25 then 3 else if b = 1000000 then 2 else 0) := fun b => rfl
  repeat' (first | ((first | refine wSeqr ?_ | refine wSeqrF ?_ | refine wIf ?_ | refine wReg ?_ | refine wRegF ?_ | (refine wRet ?_; (try simp only [thenQ, blockQ]); refine ends_by ?_)); intro xx hx; have hc := trivial; (repeat' (simp only [hc, Nat.reduceBEq, go_sem, Nat.reduceAdd, Nat.reduceMul, Nat.reduceSub, Nat.reduceEqDiff, Nat.reduceLT, Nat.reduceLeDiff, Int.reduceEq, Int.reduceLT, Int.reduceLE, reduceIte, aresults, aresult, hp0] at hx; (try ((first | rw [guardL_if] at hx | rw [guardF_if] at hx); split at hx <;> rename_i hc)))); all_goals (subst hx; first | (refine ⟨_, rfl, fun ht => ?_, fun ht => ?_⟩ <;> (try simp only [bbs] at ht)) | (refine ⟨_, rfl, ?_⟩; (try simp only [tupOf])))) | refine wSkip ?_ | (refine wExit ?_; simp only [thenQ, blockQ, reduceIte, Nat.reduceEqDiff]) | refine wSeq ?_ | refine wBlock ?_)
  refine wLoop (fun k s => ∃ (j : Nat) (x : AV), j + k = ls.length ∧ s.1 0 = textsL ls ∧ s.1 3 = x ∧ s.1 4 = .v (.int .i64 (j : Nat)) ∧ (RAcc s.2 x 1 ((labsL ls j).map cell) (labsL ls j).length)) (fun k s hI => ?_) (ls.length) _ ?_
  · obtain ⟨e, H⟩ := s
    obtain ⟨j, x, hj, h0, h3, h4, hr⟩ := hI
    simp only at h0 h3 h4 hr
    have hll := labsL_len hk j
    have h6l := hk.1
    by_cases hlt : j < ls.length
    · have hltI : ((j : Nat) : Int) < (ls.length : Int) := by omega
      obtain ⟨s, hg, -, hm⟩ := at_drop hlt
      have hg' := get_text hg
      have hs := lab_size (hk.2 s hm)
      have w1 : IntKind.wrap .i64 (((j : Nat) : Int) + 1) = ((j + 1 : Nat) : Int) := wrap_succ (by omega)
      have hnl := nums_len s
      repeat' ((fail_if_success (first | refine wAt 5 ?_)); first | ((first | refine wSeqr ?_ | refine wSeqrF ?_ | refine wIf ?_ | refine wReg ?_ | refine wRegF ?_ | (refine wRet ?_; (try simp only [thenQ, blockQ]); refine ends_by ?_)); intro xx hx; have hc := trivial; (repeat' (simp only [hc, Nat.reduceBEq, go_sem, Nat.reduceAdd, Nat.reduceMul, Nat.reduceSub, Nat.reduceEqDiff, Nat.reduceLT, Nat.reduceLeDiff, Int.reduceEq, Int.reduceLT, Int.reduceLE, reduceIte, aresults, aresult, hp0, h0, h4, hltI, textsL, List.length_map] at hx; (try ((first | rw [guardL_if] at hx | rw [guardF_if] at hx); split at hx <;> rename_i hc)))); all_goals (subst hx; first | (refine ⟨_, rfl, fun ht => ?_, fun ht => ?_⟩ <;> (try simp only [bbs] at ht)) | (refine ⟨_, rfl, ?_⟩; (try simp only [tupOf])))) | refine wSkip ?_ | (refine wExit ?_; simp only [thenQ, blockQ, reduceIte, Nat.reduceEqDiff]) | refine wSeq ?_ | refine wBlock ?_)
      all_goals try (exfalso; (try simp only [bbs] at *); first | omega | exact absurd trivial (by assumption))
      (first | refine wSeqr ?_ | refine wSeqrF ?_ | refine wReg ?_ | refine wRegF ?_); intro xx hx; have hc := trivial; (repeat' (simp only [hc, Nat.reduceBEq, go_sem, Nat.reduceAdd, Nat.reduceMul, Nat.reduceSub, Nat.reduceEqDiff, Nat.reduceLT, Nat.reduceLeDiff, Int.reduceEq, Int.reduceLT, Int.reduceLE, reduceIte, aresults, aresult, hp0, h0, h3, h4, textsL, hg', conv_si] at hx; (try ((first | rw [guardL_if] at hx | rw [guardF_if] at hx); split at hx <;> rename_i hc)))); generalize hq : aappend Tryd.prog _ _ _ _ = q at hx
      obtain ⟨x1, K1, rfl, hac1, hg1, hk1, ho1⟩ := app_rows hq el22 zero5 by5 int22 (sz := 1) rfl (by omega) hr (m := 1) rfl (afirst_one _ _ [cell ((s.size : Int) % 256)]) rfl (by omega) (by omega)
      clear hq
      have hc := trivial; (repeat' (simp only [hc, Nat.reduceBEq, go_sem, Nat.reduceAdd, Nat.reduceMul, Nat.reduceSub, Nat.reduceEqDiff, Nat.reduceLT, Nat.reduceLeDiff, Int.reduceEq, Int.reduceLT, Int.reduceLE, reduceIte, aresults, aresult, hp0, h0, h3, h4, textsL, hg', conv_sb] at hx; (try ((first | rw [guardL_if] at hx | rw [guardF_if] at hx); split at hx <;> rename_i hc)))); generalize hq : aappend Tryd.prog _ _ _ _ = q at hx
      obtain ⟨x2, K2, rfl, hac2, hg2, hk2, ho2⟩ := app_rows hq el22 zero5 by5 int22 (sz := 1) rfl (by omega) hac1 (alen_bytes _) (afirst_bytes _ _) (by simp) (by omega) (by omega)
      clear hq
      have hc := trivial; (repeat' (simp only [hc, Nat.reduceBEq, go_sem, Nat.reduceAdd, Nat.reduceMul, Nat.reduceSub, Nat.reduceEqDiff, Nat.reduceLT, Nat.reduceLeDiff, Int.reduceEq, Int.reduceLT, Int.reduceLE, reduceIte, aresults, aresult, hp0] at hx; (try ((first | rw [guardL_if] at hx | rw [guardF_if] at hx); split at hx <;> rename_i hc)))); all_goals (subst hx; refine ⟨_, rfl, ?_⟩)
      repeat' (first | ((first | refine wSeqr ?_ | refine wSeqrF ?_ | refine wIf ?_ | refine wReg ?_ | refine wRegF ?_ | (refine wRet ?_; (try simp only [thenQ, blockQ]); refine ends_by ?_)); intro xx hx; have hc := trivial; (repeat' (simp only [hc, Nat.reduceBEq, go_sem, Nat.reduceAdd, Nat.reduceMul, Nat.reduceSub, Nat.reduceEqDiff, Nat.reduceLT, Nat.reduceLeDiff, Int.reduceEq, Int.reduceLT, Int.reduceLE, reduceIte, aresults, aresult, hp0, h4, w1] at hx; (try ((first | rw [guardL_if] at hx | rw [guardF_if] at hx); split at hx <;> rename_i hc)))); all_goals (subst hx; first | (refine ⟨_, rfl, fun ht => ?_, fun ht => ?_⟩ <;> (try simp only [bbs] at ht)) | (refine ⟨_, rfl, ?_⟩; (try simp only [tupOf])))) | refine wSkip ?_ | (refine wExit ?_; simp only [thenQ, blockQ, reduceIte, Nat.reduceEqDiff]) | refine wSeq ?_ | refine wBlock ?_)
      all_goals try (exfalso; (try simp only [bbs] at *); first | omega | exact absurd trivial (by assumption))
      refine ⟨_, Nat.sub_lt (by omega) Nat.one_pos, j + 1, x2, by omega, by simp only [upd_eq, Nat.reduceEqDiff, if_false, if_true, h0, h3, h4], by simp only [upd_eq, Nat.reduceEqDiff, if_false, if_true, h0, h3, h4], by simp only [upd_eq, Nat.reduceEqDiff, if_false, if_true, h0, h3, h4], ?_⟩
      rw [labsL_succ hg]
      simpa [Nat.add_assoc, Nat.add_comm, Nat.add_left_comm] using hac2
    · have hltI : ¬ ((j : Nat) : Int) < (ls.length : Int) := by omega
      have hj : j = ls.length := by omega
      subst hj
      repeat' ((fail_if_success (first | refine wAt 6 ?_)); first | ((first | refine wSeqr ?_ | refine wSeqrF ?_ | refine wIf ?_ | refine wReg ?_ | refine wRegF ?_ | (refine wRet ?_; (try simp only [thenQ, blockQ]); refine ends_by ?_)); intro xx hx; have hc := trivial; (repeat' (simp only [hc, Nat.reduceBEq, go_sem, Nat.reduceAdd, Nat.reduceMul, Nat.reduceSub, Nat.reduceEqDiff, Nat.reduceLT, Nat.reduceLeDiff, Int.reduceEq, Int.reduceLT, Int.reduceLE, reduceIte, aresults, aresult, hp0, h0, h4, hltI, textsL, List.length_map] at hx; (try ((first | rw [guardL_if] at hx | rw [guardF_if] at hx); split at hx <;> rename_i hc)))); all_goals (subst hx; first | (refine ⟨_, rfl, fun ht => ?_, fun ht => ?_⟩ <;> (try simp only [bbs] at ht)) | (refine ⟨_, rfl, ?_⟩; (try simp only [tupOf])))) | refine wSkip ?_ | (refine wExit ?_; simp only [thenQ, blockQ, reduceIte, Nat.reduceEqDiff]) | refine wSeq ?_ | refine wBlock ?_)
      all_goals try (exfalso; (try simp only [bbs] at *); first | omega | exact absurd trivial (by assumption))
      (first | refine wSeqr ?_ | refine wSeqrF ?_ | refine wReg ?_ | refine wRegF ?_); intro xx hx; have hc := trivial; (repeat' (simp only [hc, Nat.reduceBEq, go_sem, Nat.reduceAdd, Nat.reduceMul, Nat.reduceSub, Nat.reduceEqDiff, Nat.reduceLT, Nat.reduceLeDiff, Int.reduceEq, Int.reduceLT, Int.reduceLE, reduceIte, aresults, aresult, hp0, h3] at hx; (try ((first | rw [guardL_if] at hx | rw [guardF_if] at hx); split at hx <;> rename_i hc)))); generalize hq : aappend Tryd.prog _ _ _ _ = q at hx
      obtain ⟨x1, K1, rfl, hac1, hg1, hk1, ho1⟩ := app_rows hq el22 zero5 by5 int22 (sz := 1) rfl (by omega) hr (m := 1) rfl (afirst_one _ _ [cell 0]) rfl (by omega) (by omega)
      clear hq
      have hc := trivial; (repeat' (simp only [hc, Nat.reduceBEq, go_sem, Nat.reduceAdd, Nat.reduceMul, Nat.reduceSub, Nat.reduceEqDiff, Nat.reduceLT, Nat.reduceLeDiff, Int.reduceEq, Int.reduceLT, Int.reduceLE, reduceIte, aresults, aresult, hp0] at hx; (try ((first | rw [guardL_if] at hx | rw [guardF_if] at hx); split at hx <;> rename_i hc)))); all_goals (subst hx; refine ⟨_, rfl, ?_⟩)
      repeat' (first | ((first | refine wSeqr ?_ | refine wSeqrF ?_ | refine wIf ?_ | refine wReg ?_ | refine wRegF ?_ | (refine wRet ?_; (try simp only [thenQ, blockQ]); refine ends_by ?_)); intro xx hx; have hc := trivial; (repeat' (simp only [hc, Nat.reduceBEq, go_sem, Nat.reduceAdd, Nat.reduceMul, Nat.reduceSub, Nat.reduceEqDiff, Nat.reduceLT, Nat.reduceLeDiff, Int.reduceEq, Int.reduceLT, Int.reduceLE, reduceIte, aresults, aresult, hp0] at hx; (try ((first | rw [guardL_if] at hx | rw [guardF_if] at hx); split at hx <;> rename_i hc)))); all_goals (subst hx; first | (refine ⟨_, rfl, fun ht => ?_, fun ht => ?_⟩ <;> (try simp only [bbs] at ht)) | (refine ⟨_, rfl, ?_⟩; (try simp only [tupOf])))) | refine wSkip ?_ | (refine wExit ?_; simp only [thenQ, blockQ, reduceIte, Nat.reduceEqDiff]) | refine wSeq ?_ | refine wBlock ?_)
      rw [← labsL_all]
      exact gO_bytesR (l := labsL ls ls.length ++ [0]) (by rw [List.map_append]; exact hac1)
  · refine ⟨0, .lst true [], by omega, rfl, rfl, rfl, ?_⟩
    exact RAcc.lst
theorem p_sl10Name (ls : List ByteArray) (hk : labsOk ls) : pure Tryd.prog cfg0 76 Tryd.f76 [textsL ls] = some (bytesL (encN ls), true) := (pq_sl10Name ls hk).1
theorem c_sl10Name (ls : List ByteArray) (hk : labsOk ls) : ∀ H, call Tryd.prog cfg0 0 76 [textsL ls] H = some (bytesL (encN ls), H) :=
  call_fz Tryd.func76 rfl ok_sl10Name rfl (by simp only [fz_cons, fz_nil, go_sem, and_self]) (pq_sl10Name ls hk).1
theorem o_sl10Name (ls : List ByteArray) (hk : labsOk ls) : ∀ H, call Tryd.prog cfg0 1 76 [textsL ls] H = mat depthD (bytesL (encN ls)) H := fun H =>
  call_ofO Tryd.func76 rfl ok_sl10Name rfl (mapM_self fun x hx => ((show ∀ x ∈ ([textsL ls] : List AV), Fz depthD x by simp only [fz_cons, fz_nil, go_sem, and_self]) x hx).1 H) (pq_sl10Name ls hk).2

end
end Go.Proofs.YtnejoidfbgklbaaDoor
namespace Go.Proofs.YtnejoidfbgklbaaDoor
open Go Go.RowKit Go.Proofs.YtnejoidfbgklbaaDoor.Eng
set_option linter.unusedSimpArgs false
set_option linter.unusedVariables false
set_option maxRecDepth 100000
set_option maxHeartbeats 4000000
noncomputable section
theorem deep_labs {H : Hp} {x : AV} {n : Nat} {ls : List ByteArray} (h : RAcc H x 1 (ls.map txcell) n) (d : Nat) : deep H (d + 2) x = some (textsL ls) := by
  have hn : n = ls.length := by have := h.1; simpa using this.symm
  subst hn
  rcases h.2 with ⟨h0, e⟩ | ⟨b, hb, rfl, hh⟩
  · have e0 : ls = [] := List.length_eq_zero_iff.1 h0
    subst e0
    rcases e with rfl | rfl <;> rfl
  · exact deep_txts hh rfl hb d
theorem d_nm {H : Hp} {x : AV} {n : Nat} {ls : List ByteArray} (h : RAcc H x 1 (ls.map txcell) n) (c nx : Int) : deep H depthD (.agg [.v (.int .i64 c), x, .v (.int .i64 nx)]) = some (.agg [.v (.int .i64 c), textsL ls, .v (.int .i64 nx)]) := by
  show ([AV.v (.int .i64 c), x, .v (.int .i64 nx)].mapM (deep H 11)).map AV.agg = _
  rw [mapM_c (show deep H 11 (.v (.int .i64 c)) = some (.v (.int .i64 c)) from rfl) (mapM_c (deep_labs h 9) (mapM_c (show deep H 11 (.v (.int .i64 nx)) = some (.v (.int .i64 nx)) from rfl) mapM_n))]
  rfl
/-- What the program reads. -/
def rnR (l : List Int) : AV := if 12 < l.length then (if (nmR l 12 12 0 [] 0).1 = 0 then .agg [.v (.int .i64 0), textsL (nmR l 12 12 0 [] 0).2.1, .v (.int .i64 (nmR l 12 12 0 [] 0).2.2)] else .agg [.v (.int .i64 (nmR l 12 12 0 [] 0).1), .lst false [], .v (.int .i64 0)]) else .agg [.v (.int .i64 3), .lst false [], .v (.int .i64 0)]
theorem rn_bad {l : List Int} {c : Int} {ls : List ByteArray} {nx : Int} (h12 : 12 < l.length) (h : (c, ls, nx) = nmR l 12 12 0 [] 0) (hc : ¬ c = 0) : rnR l = .agg [.v (.int .i64 c), .lst false [], .v (.int .i64 0)] := by
  unfold rnR; rw [if_pos h12, ← h]; simp only; rw [if_neg hc]
theorem rn_ok {l : List Int} {ls : List ByteArray} {nx : Int} (h12 : 12 < l.length) (h : (0, ls, nx) = nmR l 12 12 0 [] 0) : rnR l = .agg [.v (.int .i64 0), textsL ls, .v (.int .i64 nx)] := by
  unfold rnR; rw [if_pos h12, ← h]; simp only; rw [if_pos trivial]
theorem nm_none {l : List Int} {f p j : Nat} {ls : List ByteArray} {nx : Int} (h : l[p]? = none) : nmR l (f + 1) p j ls nx = (5, ls, nx) := by rw [nmR, h]
theorem nm_zero {l : List Int} {f p j : Nat} {ls : List ByteArray} {nx : Int} {c : Int} (h : l[p]? = some c) (h0 : c = 0) : nmR l (f + 1) p j ls nx = (0, ls, if j = 0 then (p : Int) + 1 else nx) := by rw [nmR, h]; simp only; rw [if_pos h0]
theorem nm_lab {l : List Int} {f p j : Nat} {ls : List ByteArray} {nx : Int} {c : Int} (h : l[p]? = some c) (h0 : ¬ c = 0) (h20 : c ≤ 20) : nmR l (f + 1) p j ls nx = if p + 1 + c.toNat ≤ l.length ∧ labelOk (strOf ((l.drop (p + 1)).take c.toNat)) = true then (if ls.length = 6 then (2, ls, nx) else nmR l f (p + 1 + c.toNat) j (ls ++ [strOf ((l.drop (p + 1)).take c.toNat)]) nx) else (5, ls, nx) := by rw [nmR, h]; simp only; rw [if_neg h0, if_pos h20]
theorem nm_mid {l : List Int} {f p j : Nat} {ls : List ByteArray} {nx : Int} {c : Int} (h : l[p]? = some c) (h20 : ¬ c ≤ 20) (h192 : ¬ 192 ≤ c) : nmR l (f + 1) p j ls nx = (5, ls, nx) := by rw [nmR, h]; simp only; rw [if_neg (by omega), if_neg h20, if_neg h192]
theorem nm_end {l : List Int} {f p j : Nat} {ls : List ByteArray} {nx : Int} {c : Int} (h : l[p]? = some c) (h192 : 192 ≤ c) (h1 : l[p + 1]? = none) : nmR l (f + 1) p j ls nx = (5, ls, nx) := by rw [nmR, h]; simp only; rw [if_neg (by omega), if_neg (by omega), if_pos h192, h1]
theorem nm_jump {l : List Int} {f p j : Nat} {ls : List ByteArray} {nx : Int} {c d : Int} (h : l[p]? = some c) (h192 : 192 ≤ c) (h1 : l[p + 1]? = some d) : nmR l (f + 1) p j ls nx = if (p : Int) ≤ (c - 192) * 256 + d ∨ 5 < j + 1 then (5, ls, nx) else nmR l f ((c - 192) * 256 + d).toNat (j + 1) ls (if j = 0 then (p : Int) + 2 else nx) := by rw [nmR, h]; simp only; rw [if_neg (by omega), if_neg (by omega), if_pos h192, h1]
theorem strOf_size2 (l : List Int) : (strOf l).size = l.length := by show (List.toArray _).size = _; simp
theorem ok_iReadName : fnOk Tryd.prog cfg0 34 Tryd.f34 = true := by kernel_rfl
theorem p_iReadName (l : List Int) (hb : Eng.Bytes l) (hl : l.length ≤ 1048576) : ∃ cl, pure Tryd.prog cfg0 34 Tryd.f34 [bytesL l, .v (.int .i64 12)] = some (rnR l, cl) := by
  have key : ∃ v cl, v = (rnR l : AV) ∧ pure Tryd.prog cfg0 34 Tryd.f34 [bytesL l, .v (.int .i64 12)] = some (v, cl) := by
    refine pure_ex (rs := [.cell 4 67]) rfl rfl ?_
    have hp0 : ∀ b, cfg0.pol 34 b = 0 := fun b => rfl
    have hsub : IntKind.wrap .i64 ((l.length : Int) - 1) = (l.length : Int) - 1 := wrap_i64 (by omega) (by omega)
    by_cases h12 : 12 < l.length
    rotate_left
    · have hin : inB 12 0 ((l.length : Int) - 1) = false := inB_f.2 (by omega)
      rw [show rnR l = .agg [.v (.int .i64 3), .lst false [], .v (.int .i64 0)] from if_neg h12]
      repeat' (first | ((first | refine wSeqr ?_ | refine wIf ?_ | refine wReg ?_ | (refine wRet ?_; (try simp only [thenQ, blockQ]); refine ends_by ?_)); intro xx hx; have hc := trivial; (repeat' (simp only [hc, Nat.reduceBEq, go_sem, Nat.reduceAdd, Nat.reduceMul, Nat.reduceSub, Nat.reduceEqDiff, Nat.reduceLT, Nat.reduceLeDiff, Int.reduceEq, Int.reduceLT, Int.reduceLE, reduceIte, aresults, aresult, hp0, hsub, c_iin, hin, Bool.not_false] at hx; (try (rw [guardL_if] at hx; split at hx <;> rename_i hc)))); all_goals (subst hx; first | (refine ⟨_, rfl, fun ht => ?_, fun ht => ?_⟩ <;> (try simp only [bbs] at ht)) | (refine ⟨_, rfl, ?_⟩; (try simp only [tupOf])))) | refine wSkip ?_ | (refine wExit ?_; simp only [thenQ, blockQ, reduceIte, Nat.reduceEqDiff]) | refine wSeq ?_ | refine wBlock ?_)
      all_goals try (exfalso; (try simp only [bbs] at *); first | omega | exact absurd trivial (by assumption))
      all_goals exact dirty rfl
    have hin : inB 12 0 ((l.length : Int) - 1) = true := inB_t.2 (by omega)
    repeat' (first | ((first | refine wSeqr ?_ | refine wIf ?_ | refine wReg ?_ | (refine wRet ?_; (try simp only [thenQ, blockQ]); refine ends_by ?_)); intro xx hx; have hc := trivial; (repeat' (simp only [hc, Nat.reduceBEq, go_sem, Nat.reduceAdd, Nat.reduceMul, Nat.reduceSub, Nat.reduceEqDiff, Nat.reduceLT, Nat.reduceLeDiff, Int.reduceEq, Int.reduceLT, Int.reduceLE, reduceIte, aresults, aresult, hp0, hsub, c_iin, hin, Bool.not_true] at hx; (try (rw [guardL_if] at hx; split at hx <;> rename_i hc)))); all_goals (subst hx; first | (refine ⟨_, rfl, fun ht => ?_, fun ht => ?_⟩ <;> (try simp only [bbs] at ht)) | (refine ⟨_, rfl, ?_⟩; (try simp only [tupOf])))) | refine wSkip ?_ | (refine wExit ?_; simp only [thenQ, blockQ, reduceIte, Nat.reduceEqDiff]) | refine wSeq ?_ | refine wBlock ?_)
    all_goals try (exfalso; (try simp only [bbs] at *); first | omega | exact absurd trivial (by assumption))
    refine wLoop (fun k s => ∃ (i : Nat) (p : Nat) (jm : Nat) (ls : List ByteArray) (x : AV) (nx : Int), i + k = 12 ∧ s.1 0 = bytesL l ∧ s.1 4 = .ptr 0 0 ∧ s.1 5 = .ptr 1 0 ∧ s.1 6 = .v (.int .i64 (p : Nat)) ∧ s.1 7 = .v (.int .i64 (jm : Nat)) ∧ (nmR l (12 - i) p jm ls nx = nmR l 12 12 0 [] 0 ∧ i = jm + ls.length ∧ jm ≤ 5 ∧ ls.length ≤ 6 ∧ p ≤ l.length) ∧ (RAcc s.2 x 1 (ls.map txcell) ls.length) ∧ (s.2.h 0 = some [.v (.int .i64 0), .v (.slice none 0 0), .v (.int .i64 0)] ∧ s.2.h 1 = some [.v (.int .i64 0), x, .v (.int .i64 nx)] ∧ 1 < s.2.g) ∧ (Off 0 x ∧ Off 1 x)) (fun k s hI => ?_) (12) _ ?_
    · obtain ⟨e, H⟩ := s
      obtain ⟨i, p, jm, ls, x, nx, hi, h0, h4, h5, h6, h7, hst, hr, hbb, hoff⟩ := hI
      simp only at h0 h4 h5 h6 h7 hst hr hbb hoff
      obtain ⟨hst, hij, hj5, hl6, hpl⟩ := hst
      obtain ⟨hb0, hb1, hgg⟩ := hbb
      obtain ⟨f, hf⟩ : ∃ f, 12 - i = f + 1 := ⟨11 - i, by omega⟩
      have hf2 : 12 - (i + 1) = f := by omega
      rw [hf] at hst
      have xok := hr.one
      by_cases hlt : p < l.length
      rotate_left
      · have hltI : ¬ ((p : Nat) : Int) < (l.length : Int) := by omega
        have hN : l[p]? = none := List.getElem?_eq_none (by omega)
        rw [nm_none hN] at hst
        rw [rn_bad h12 hst (by omega)]
        repeat' (first | ((first | refine wSeqr ?_ | refine wIf ?_ | refine wReg ?_ | (refine wRet ?_; (try simp only [thenQ, blockQ]); refine ends_by ?_)); intro xx hx; have hc := trivial; (repeat' (simp only [hc, Nat.reduceBEq, go_sem, Nat.reduceAdd, Nat.reduceMul, Nat.reduceSub, Nat.reduceEqDiff, Nat.reduceLT, Nat.reduceLeDiff, Int.reduceEq, Int.reduceLT, Int.reduceLE, reduceIte, aresults, aresult, hp0, h0, h4, h6, hltI, hb0] at hx; (try (rw [guardL_if] at hx; split at hx <;> rename_i hc)))); all_goals (subst hx; first | (refine ⟨_, rfl, fun ht => ?_, fun ht => ?_⟩ <;> (try simp only [bbs] at ht)) | (refine ⟨_, rfl, ?_⟩; (try simp only [tupOf])))) | refine wSkip ?_ | (refine wExit ?_; simp only [thenQ, blockQ, reduceIte, Nat.reduceEqDiff]) | refine wSeq ?_ | refine wBlock ?_)
        all_goals try (exfalso; (try simp only [bbs] at *); first | omega | exact absurd trivial (by assumption))
        all_goals exact dirty rfl
      have hltI : ((p : Nat) : Int) < (l.length : Int) := by omega
      obtain ⟨c, hg, -, hm⟩ := at_drop hlt
      have hcb := hb c hm
      have wc : IntKind.wrap .i64 c = c := wrap_i64 (by omega) (by omega)
      have wp1 : IntKind.wrap .i64 (((p : Nat) : Int) + 1) = ((p + 1 : Nat) : Int) := wrap_succ (by omega)
      have wp2 : IntKind.wrap .i64 (((p : Nat) : Int) + 2) = ((p : Nat) : Int) + 2 := wrap_i64 (by omega) (by omega)
      by_cases c0 : c = 0
      · have c0T : (c = 0) = True := eq_true c0
        rw [nm_zero hg c0] at hst
        by_cases hj : jm = 0
        · have hjI : (((jm : Nat) : Int) = 0) = True := eq_true (by omega)
          rw [if_pos hj, show ((p : Nat) : Int) + 1 = ((p + 1 : Nat) : Int) by omega] at hst
          rw [rn_ok h12 hst]
          repeat' (first | ((first | refine wSeqr ?_ | refine wIf ?_ | refine wReg ?_ | (refine wRet ?_; (try simp only [thenQ, blockQ]); refine ends_by ?_)); intro xx hx; have hc := trivial; (repeat' (simp only [hc, Nat.reduceBEq, go_sem, Nat.reduceAdd, Nat.reduceMul, Nat.reduceSub, Nat.reduceEqDiff, Nat.reduceLT, Nat.reduceLeDiff, Int.reduceEq, Int.reduceLT, Int.reduceLE, reduceIte, aresults, aresult, hp0, h0, h4, h5, h6, h7, hltI, hg, wc, c0T, hjI, wp1, hb0, hb1, xok.1, xok.2, aconv_int u5 u3] at hx; (try (rw [guardL_if] at hx; split at hx <;> rename_i hc)))); all_goals (subst hx; first | (refine ⟨_, rfl, fun ht => ?_, fun ht => ?_⟩ <;> (try simp only [bbs] at ht)) | (refine ⟨_, rfl, ?_⟩; (try simp only [tupOf])))) | refine wSkip ?_ | (refine wExit ?_; simp only [thenQ, blockQ, reduceIte, Nat.reduceEqDiff]) | refine wSeq ?_ | refine wBlock ?_)
          all_goals try (exfalso; (try simp only [bbs] at *); first | omega | exact absurd trivial (by assumption))
          all_goals exact dirty (d_nm ((hr.setOff hoff.2 _).setOff hoff.1 _) _ _)
        · have hjI : ¬ ((jm : Nat) : Int) = 0 := by omega
          rw [if_neg hj] at hst
          rw [rn_ok h12 hst]
          repeat' (first | ((first | refine wSeqr ?_ | refine wIf ?_ | refine wReg ?_ | (refine wRet ?_; (try simp only [thenQ, blockQ]); refine ends_by ?_)); intro xx hx; have hc := trivial; (repeat' (simp only [hc, Nat.reduceBEq, go_sem, Nat.reduceAdd, Nat.reduceMul, Nat.reduceSub, Nat.reduceEqDiff, Nat.reduceLT, Nat.reduceLeDiff, Int.reduceEq, Int.reduceLT, Int.reduceLE, reduceIte, aresults, aresult, hp0, h0, h4, h5, h6, h7, hltI, hg, wc, c0T, hjI, wp1, hb0, hb1, xok.1, xok.2, aconv_int u5 u3] at hx; (try (rw [guardL_if] at hx; split at hx <;> rename_i hc)))); all_goals (subst hx; first | (refine ⟨_, rfl, fun ht => ?_, fun ht => ?_⟩ <;> (try simp only [bbs] at ht)) | (refine ⟨_, rfl, ?_⟩; (try simp only [tupOf])))) | refine wSkip ?_ | (refine wExit ?_; simp only [thenQ, blockQ, reduceIte, Nat.reduceEqDiff]) | refine wSeq ?_ | refine wBlock ?_)
          all_goals try (exfalso; (try simp only [bbs] at *); first | omega | exact absurd trivial (by assumption))
          all_goals exact dirty (d_nm (hr.setOff hoff.1 _) _ _)
      by_cases c20 : c ≤ 20
      · obtain ⟨n, hn⟩ : ∃ n : Nat, c = (n : Int) := ⟨c.toNat, by omega⟩
        subst hn
        rw [nm_lab hg c0 c20, Int.toNat_natCast] at hst
        have we : IntKind.wrap .i64 (((p + 1 : Nat) : Int) + (n : Int)) = ((p + 1 + n : Nat) : Int) := by rw [wrap_i64 (by omega) (by omega)]; omega
        by_cases hend : p + 1 + n ≤ l.length
        rotate_left
        · have hE : (l.length : Int) < ((p + 1 + n : Nat) : Int) := by omega
          rw [if_neg (fun h => hend h.1)] at hst
          rw [rn_bad h12 hst (by omega)]
          repeat' (first | ((first | refine wSeqr ?_ | refine wIf ?_ | refine wReg ?_ | (refine wRet ?_; (try simp only [thenQ, blockQ]); refine ends_by ?_)); intro xx hx; have hc := trivial; (repeat' (simp only [hc, Nat.reduceBEq, go_sem, Nat.reduceAdd, Nat.reduceMul, Nat.reduceSub, Nat.reduceEqDiff, Nat.reduceLT, Nat.reduceLeDiff, Int.reduceEq, Int.reduceLT, Int.reduceLE, reduceIte, aresults, aresult, hp0, h0, h4, h6, hltI, hg, wc, wp1, we, c0, c20, hE, hb0, aconv_int u5 u3] at hx; (try (rw [guardL_if] at hx; split at hx <;> rename_i hc)))); all_goals (subst hx; first | (refine ⟨_, rfl, fun ht => ?_, fun ht => ?_⟩ <;> (try simp only [bbs] at ht)) | (refine ⟨_, rfl, ?_⟩; (try simp only [tupOf])))) | refine wSkip ?_ | (refine wExit ?_; simp only [thenQ, blockQ, reduceIte, Nat.reduceEqDiff]) | refine wSeq ?_ | refine wBlock ?_)
          all_goals try (exfalso; (try simp only [bbs] at *); first | omega | exact absurd trivial (by assumption))
          all_goals exact dirty rfl
        have hE : ¬ (l.length : Int) < ((p + 1 + n : Nat) : Int) := by omega
        have hsl : (p + 1 ≤ p + 1 + n ∧ p + 1 + n ≤ l.length) = True := eq_true ⟨by omega, hend⟩
        have hsb : p + 1 + n - (p + 1) = n := by omega
        have cvb := conv_bytesL u22 u9 u5
        have hcl := c_iisLabel (strOf ((l.drop (p + 1)).take n)) (by rw [strOf_size2]; simp; omega)
        generalize hlb : strOf ((l.drop (p + 1)).take n) = lab at *
        cases hlab : labelOk lab with
        | false =>
          rw [if_neg (by simp [hlab])] at hst
          rw [rn_bad h12 hst (by omega)]
          repeat' (first | ((first | refine wSeqr ?_ | refine wIf ?_ | refine wReg ?_ | (refine wRet ?_; (try simp only [thenQ, blockQ]); refine ends_by ?_)); intro xx hx; have hc := trivial; (repeat' (simp only [hc, Nat.reduceBEq, go_sem, Nat.reduceAdd, Nat.reduceMul, Nat.reduceSub, Nat.reduceEqDiff, Nat.reduceLT, Nat.reduceLeDiff, Int.reduceEq, Int.reduceLT, Int.reduceLE, reduceIte, aresults, aresult, hp0, h0, h4, h6, hltI, hg, wc, wp1, we, c0, c20, hE, hsl, hsb, cvb, hlb, hcl, hlab, hb0, aconv_int u5 u3] at hx; (try (rw [guardL_if] at hx; split at hx <;> rename_i hc)))); all_goals (subst hx; first | (refine ⟨_, rfl, fun ht => ?_, fun ht => ?_⟩ <;> (try simp only [bbs] at ht)) | (refine ⟨_, rfl, ?_⟩; (try simp only [tupOf])))) | refine wSkip ?_ | (refine wExit ?_; simp only [thenQ, blockQ, reduceIte, Nat.reduceEqDiff]) | refine wSeq ?_ | refine wBlock ?_)
          all_goals try (exfalso; (try simp only [bbs] at *); first | omega | exact absurd trivial (by assumption))
          all_goals exact dirty rfl
        | true =>
          rw [if_pos ⟨hend, hlab⟩] at hst
          have hlen := hr.len 9
          by_cases l6 : ls.length = 6
          · have l6I : ((ls.length : Nat) : Int) = 6 := by omega
            rw [if_pos l6] at hst
            rw [rn_bad h12 hst (by omega)]
            repeat' (first | ((first | refine wSeqr ?_ | refine wIf ?_ | refine wReg ?_ | (refine wRet ?_; (try simp only [thenQ, blockQ]); refine ends_by ?_)); intro xx hx; have hc := trivial; (repeat' (simp only [hc, Nat.reduceBEq, go_sem, Nat.reduceAdd, Nat.reduceMul, Nat.reduceSub, Nat.reduceEqDiff, Nat.reduceLT, Nat.reduceLeDiff, Int.reduceEq, Int.reduceLT, Int.reduceLE, reduceIte, aresults, aresult, hp0, h0, h4, h5, h6, hltI, hg, wc, wp1, we, c0, c20, hE, hsl, hsb, cvb, hlb, hcl, hlab, hb0, hb1, hlen, l6I, aconv_int u5 u3] at hx; (try (rw [guardL_if] at hx; split at hx <;> rename_i hc)))); all_goals (subst hx; first | (refine ⟨_, rfl, fun ht => ?_, fun ht => ?_⟩ <;> (try simp only [bbs] at ht)) | (refine ⟨_, rfl, ?_⟩; (try simp only [tupOf])))) | refine wSkip ?_ | (refine wExit ?_; simp only [thenQ, blockQ, reduceIte, Nat.reduceEqDiff]) | refine wSeq ?_ | refine wBlock ?_)
            all_goals try (exfalso; (try simp only [bbs] at *); first | omega | exact absurd trivial (by assumption))
            all_goals exact dirty rfl
          · have l6I : ¬ ((ls.length : Nat) : Int) = 6 := by omega
            rw [if_neg l6] at hst
            repeat' ((fail_if_success (first | refine wAt 18 ?_)); first | ((first | refine wSeqr ?_ | refine wIf ?_ | refine wReg ?_ | (refine wRet ?_; (try simp only [thenQ, blockQ]); refine ends_by ?_)); intro xx hx; have hc := trivial; (repeat' (simp only [hc, Nat.reduceBEq, go_sem, Nat.reduceAdd, Nat.reduceMul, Nat.reduceSub, Nat.reduceEqDiff, Nat.reduceLT, Nat.reduceLeDiff, Int.reduceEq, Int.reduceLT, Int.reduceLE, reduceIte, aresults, aresult, hp0, h0, h4, h5, h6, hltI, hg, wc, wp1, we, c0, c20, hE, hsl, hsb, cvb, hlb, hcl, hlab, hb0, hb1, hlen, l6I, aconv_int u5 u3] at hx; (try (rw [guardL_if] at hx; split at hx <;> rename_i hc)))); all_goals (subst hx; first | (refine ⟨_, rfl, fun ht => ?_, fun ht => ?_⟩ <;> (try simp only [bbs] at ht)) | (refine ⟨_, rfl, ?_⟩; (try simp only [tupOf])))) | refine wSkip ?_ | (refine wExit ?_; simp only [thenQ, blockQ, reduceIte, Nat.reduceEqDiff]) | refine wSeq ?_ | refine wBlock ?_)
            all_goals try (exfalso; (try simp only [bbs] at *); first | omega | exact absurd trivial (by assumption))
            (first | refine wSeqr ?_ | refine wReg ?_); intro xx hx; have hc := trivial; (repeat' (simp only [hc, Nat.reduceBEq, go_sem, Nat.reduceAdd, Nat.reduceMul, Nat.reduceSub, Nat.reduceEqDiff, Nat.reduceLT, Nat.reduceLeDiff, Int.reduceEq, Int.reduceLT, Int.reduceLE, reduceIte, aresults, aresult, hp0, h0, h5, h6, hb1, wp1, hsl, hsb, cvb, hlb] at hx; (try (rw [guardL_if] at hx; split at hx <;> rename_i hc)))); generalize hq : aappend Tryd.prog _ _ _ _ = q at hx
            obtain ⟨x', K2, rfl, hacc, hg2, hk2, ho2⟩ := app_rows hq el46 zero9 by9 int46 (sz := 1) rfl (by omega) hr (m := 1) rfl (afirst_one _ _ [txcell lab]) rfl (by omega) (by omega)
            clear hq
            have k0 := (hk2 0 (by omega) hoff.1).trans hb0
            have k1 := (hk2 1 hgg hoff.2).trans hb1
            have o0 := ho2 0 (by omega) hoff.1
            have o1 := ho2 1 hgg hoff.2
            have xok' := hacc.one
            have gg : 1 < K2.g := by omega
            have hc := trivial; (repeat' (simp only [hc, Nat.reduceBEq, go_sem, Nat.reduceAdd, Nat.reduceMul, Nat.reduceSub, Nat.reduceEqDiff, Nat.reduceLT, Nat.reduceLeDiff, Int.reduceEq, Int.reduceLT, Int.reduceLE, reduceIte, aresults, aresult, hp0, h5, k1, xok'.1, xok'.2] at hx; (try (rw [guardL_if] at hx; split at hx <;> rename_i hc)))); all_goals (subst hx; refine ⟨_, rfl, ?_⟩)
            repeat' (first | ((first | refine wSeqr ?_ | refine wIf ?_ | refine wReg ?_ | (refine wRet ?_; (try simp only [thenQ, blockQ]); refine ends_by ?_)); intro xx hx; have hc := trivial; (repeat' (simp only [hc, Nat.reduceBEq, go_sem, Nat.reduceAdd, Nat.reduceMul, Nat.reduceSub, Nat.reduceEqDiff, Nat.reduceLT, Nat.reduceLeDiff, Int.reduceEq, Int.reduceLT, Int.reduceLE, reduceIte, aresults, aresult, hp0] at hx; (try (rw [guardL_if] at hx; split at hx <;> rename_i hc)))); all_goals (subst hx; first | (refine ⟨_, rfl, fun ht => ?_, fun ht => ?_⟩ <;> (try simp only [bbs] at ht)) | (refine ⟨_, rfl, ?_⟩; (try simp only [tupOf])))) | refine wSkip ?_ | (refine wExit ?_; simp only [thenQ, blockQ, reduceIte, Nat.reduceEqDiff]) | refine wSeq ?_ | refine wBlock ?_)
            all_goals try (exfalso; (try simp only [bbs] at *); first | omega | exact absurd trivial (by assumption))
            refine ⟨_, Nat.sub_lt (by omega) Nat.one_pos, i + 1, p + 1 + n, jm, ls ++ [lab], x', nx, by omega, by simp only [upd_eq, Nat.reduceEqDiff, if_false, if_true, h0, h4, h5, h6, h7], by simp only [upd_eq, Nat.reduceEqDiff, if_false, if_true, h0, h4, h5, h6, h7], by simp only [upd_eq, Nat.reduceEqDiff, if_false, if_true, h0, h4, h5, h6, h7], by simp only [upd_eq, Nat.reduceEqDiff, if_false, if_true, h0, h4, h5, h6, h7], by simp only [upd_eq, Nat.reduceEqDiff, if_false, if_true, h0, h4, h5, h6, h7], ?_⟩
            refine ⟨⟨?_, ?_, hj5, ?_, hend⟩, ?_, ⟨?_, ?_, gg⟩, o0, o1⟩
            · rw [hf2]; exact hst
            · simp only [List.length_append, List.length_singleton]; omega
            · simp only [List.length_append, List.length_singleton]; omega
            · rw [List.map_append, List.length_append]
              exact hacc.setOff o1 _
            · rw [Hp.set_h, if_neg (by omega)]; exact k0
            · rw [Hp.set_h, if_pos rfl]
      by_cases c192 : 192 ≤ c
      rotate_left
      · rw [nm_mid hg c20 c192] at hst
        rw [rn_bad h12 hst (by omega)]
        repeat' (first | ((first | refine wSeqr ?_ | refine wIf ?_ | refine wReg ?_ | (refine wRet ?_; (try simp only [thenQ, blockQ]); refine ends_by ?_)); intro xx hx; have hc := trivial; (repeat' (simp only [hc, Nat.reduceBEq, go_sem, Nat.reduceAdd, Nat.reduceMul, Nat.reduceSub, Nat.reduceEqDiff, Nat.reduceLT, Nat.reduceLeDiff, Int.reduceEq, Int.reduceLT, Int.reduceLE, reduceIte, aresults, aresult, hp0, h0, h4, h6, hltI, hg, wc, c0, c20, c192, hb0, aconv_int u5 u3] at hx; (try (rw [guardL_if] at hx; split at hx <;> rename_i hc)))); all_goals (subst hx; first | (refine ⟨_, rfl, fun ht => ?_, fun ht => ?_⟩ <;> (try simp only [bbs] at ht)) | (refine ⟨_, rfl, ?_⟩; (try simp only [tupOf])))) | refine wSkip ?_ | (refine wExit ?_; simp only [thenQ, blockQ, reduceIte, Nat.reduceEqDiff]) | refine wSeq ?_ | refine wBlock ?_)
        all_goals try (exfalso; (try simp only [bbs] at *); first | omega | exact absurd trivial (by assumption))
        all_goals exact dirty rfl
      by_cases hp1 : p + 1 < l.length
      rotate_left
      · have hp1I : ¬ ((p + 1 : Nat) : Int) < (l.length : Int) := by omega
        have hN : l[p + 1]? = none := List.getElem?_eq_none (by omega)
        rw [nm_end hg c192 hN] at hst
        rw [rn_bad h12 hst (by omega)]
        repeat' (first | ((first | refine wSeqr ?_ | refine wIf ?_ | refine wReg ?_ | (refine wRet ?_; (try simp only [thenQ, blockQ]); refine ends_by ?_)); intro xx hx; have hc := trivial; (repeat' (simp only [hc, Nat.reduceBEq, go_sem, Nat.reduceAdd, Nat.reduceMul, Nat.reduceSub, Nat.reduceEqDiff, Nat.reduceLT, Nat.reduceLeDiff, Int.reduceEq, Int.reduceLT, Int.reduceLE, reduceIte, aresults, aresult, hp0, h0, h4, h6, hltI, hg, wc, wp1, c0, c20, c192, hp1I, hb0, aconv_int u5 u3] at hx; (try (rw [guardL_if] at hx; split at hx <;> rename_i hc)))); all_goals (subst hx; first | (refine ⟨_, rfl, fun ht => ?_, fun ht => ?_⟩ <;> (try simp only [bbs] at ht)) | (refine ⟨_, rfl, ?_⟩; (try simp only [tupOf])))) | refine wSkip ?_ | (refine wExit ?_; simp only [thenQ, blockQ, reduceIte, Nat.reduceEqDiff]) | refine wSeq ?_ | refine wBlock ?_)
        all_goals try (exfalso; (try simp only [bbs] at *); first | omega | exact absurd trivial (by assumption))
        all_goals exact dirty rfl
      have hp1I : ((p + 1 : Nat) : Int) < (l.length : Int) := by omega
      obtain ⟨d, hg1, -, hm1⟩ := at_drop hp1
      have hdb := hb d hm1
      obtain ⟨t, ett⟩ : ∃ t : Nat, (c - 192) * 256 + d = (t : Int) := ⟨((c - 192) * 256 + d).toNat, by omega⟩
      have wd : IntKind.wrap .i64 d = d := wrap_i64 (by omega) (by omega)
      have wq1 : IntKind.wrap .i64 (c - 192) = c - 192 := wrap_i64 (by omega) (by omega)
      have wq2 : IntKind.wrap .i64 ((c - 192) * 256) = (c - 192) * 256 := wrap_i64 (by omega) (by omega)
      have wq3 : IntKind.wrap .i64 ((c - 192) * 256 + d) = (t : Int) := by rw [wrap_i64 (by omega) (by omega)]; exact ett
      have wj : IntKind.wrap .i64 (((jm : Nat) : Int) + 1) = ((jm + 1 : Nat) : Int) := wrap_succ (by omega)
      rw [nm_jump hg c192 hg1, ett, Int.toNat_natCast] at hst
      by_cases hj : jm = 0
      · have hjI : (((jm : Nat) : Int) = 0) = True := eq_true (by omega)
        have h5I : ¬ 5 < ((jm + 1 : Nat) : Int) := by omega
        rw [if_pos hj] at hst
        by_cases hpt : ((p : Nat) : Int) ≤ (t : Int)
        · rw [if_pos (.inl hpt)] at hst
          rw [rn_bad h12 hst (by omega)]
          repeat' (first | ((first | refine wSeqr ?_ | refine wIf ?_ | refine wReg ?_ | (refine wRet ?_; (try simp only [thenQ, blockQ]); refine ends_by ?_)); intro xx hx; have hc := trivial; (repeat' (simp only [hc, Nat.reduceBEq, go_sem, Nat.reduceAdd, Nat.reduceMul, Nat.reduceSub, Nat.reduceEqDiff, Nat.reduceLT, Nat.reduceLeDiff, Int.reduceEq, Int.reduceLT, Int.reduceLE, reduceIte, aresults, aresult, hp0, h0, h4, h5, h6, h7, hltI, hg, hg1, wc, wd, wp1, wp2, wq1, wq2, wq3, wj, c0, c20, c192, hp1I, hjI, h5I, hpt, hb0, hb1, xok.1, xok.2, aconv_int u5 u3] at hx; (try (rw [guardL_if] at hx; split at hx <;> rename_i hc)))); all_goals (subst hx; first | (refine ⟨_, rfl, fun ht => ?_, fun ht => ?_⟩ <;> (try simp only [bbs] at ht)) | (refine ⟨_, rfl, ?_⟩; (try simp only [tupOf])))) | refine wSkip ?_ | (refine wExit ?_; simp only [thenQ, blockQ, reduceIte, Nat.reduceEqDiff]) | refine wSeq ?_ | refine wBlock ?_)
          all_goals try (exfalso; (try simp only [bbs] at *); first | omega | exact absurd trivial (by assumption))
          all_goals exact dirty rfl
        · rw [if_neg (by omega)] at hst
          repeat' (first | ((first | refine wSeqr ?_ | refine wIf ?_ | refine wReg ?_ | (refine wRet ?_; (try simp only [thenQ, blockQ]); refine ends_by ?_)); intro xx hx; have hc := trivial; (repeat' (simp only [hc, Nat.reduceBEq, go_sem, Nat.reduceAdd, Nat.reduceMul, Nat.reduceSub, Nat.reduceEqDiff, Nat.reduceLT, Nat.reduceLeDiff, Int.reduceEq, Int.reduceLT, Int.reduceLE, reduceIte, aresults, aresult, hp0, h0, h4, h5, h6, h7, hltI, hg, hg1, wc, wd, wp1, wp2, wq1, wq2, wq3, wj, c0, c20, c192, hp1I, hjI, h5I, hpt, hb0, hb1, xok.1, xok.2, aconv_int u5 u3] at hx; (try (rw [guardL_if] at hx; split at hx <;> rename_i hc)))); all_goals (subst hx; first | (refine ⟨_, rfl, fun ht => ?_, fun ht => ?_⟩ <;> (try simp only [bbs] at ht)) | (refine ⟨_, rfl, ?_⟩; (try simp only [tupOf])))) | refine wSkip ?_ | (refine wExit ?_; simp only [thenQ, blockQ, reduceIte, Nat.reduceEqDiff]) | refine wSeq ?_ | refine wBlock ?_)
          all_goals try (exfalso; (try simp only [bbs] at *); first | omega | exact absurd trivial (by assumption))
          refine ⟨_, Nat.sub_lt (by omega) Nat.one_pos, i + 1, t, jm + 1, ls, x, (p : Int) + 2, by omega, by simp only [upd_eq, Nat.reduceEqDiff, if_false, if_true, h0, h4, h5, h6, h7], by simp only [upd_eq, Nat.reduceEqDiff, if_false, if_true, h0, h4, h5, h6, h7], by simp only [upd_eq, Nat.reduceEqDiff, if_false, if_true, h0, h4, h5, h6, h7], by simp only [upd_eq, Nat.reduceEqDiff, if_false, if_true, h0, h4, h5, h6, h7], by simp only [upd_eq, Nat.reduceEqDiff, if_false, if_true, h0, h4, h5, h6, h7], ?_⟩
          refine ⟨⟨?_, by omega, by omega, hl6, by omega⟩, hr.setOff hoff.2 _, ⟨?_, ?_, hgg⟩, hoff⟩
          · rw [hf2]; exact hst
          · rw [Hp.set_h, if_neg (by omega)]; exact hb0
          · rw [Hp.set_h, if_pos rfl]
      · have hjI : ¬ ((jm : Nat) : Int) = 0 := by omega
        rw [if_neg hj] at hst
        by_cases hpt : ((p : Nat) : Int) ≤ (t : Int)
        · rw [if_pos (.inl hpt)] at hst
          rw [rn_bad h12 hst (by omega)]
          repeat' (first | ((first | refine wSeqr ?_ | refine wIf ?_ | refine wReg ?_ | (refine wRet ?_; (try simp only [thenQ, blockQ]); refine ends_by ?_)); intro xx hx; have hc := trivial; (repeat' (simp only [hc, Nat.reduceBEq, go_sem, Nat.reduceAdd, Nat.reduceMul, Nat.reduceSub, Nat.reduceEqDiff, Nat.reduceLT, Nat.reduceLeDiff, Int.reduceEq, Int.reduceLT, Int.reduceLE, reduceIte, aresults, aresult, hp0, h0, h4, h5, h6, h7, hltI, hg, hg1, wc, wd, wp1, wp2, wq1, wq2, wq3, wj, c0, c20, c192, hp1I, hjI, hpt, hb0, hb1, xok.1, xok.2, aconv_int u5 u3] at hx; (try (rw [guardL_if] at hx; split at hx <;> rename_i hc)))); all_goals (subst hx; first | (refine ⟨_, rfl, fun ht => ?_, fun ht => ?_⟩ <;> (try simp only [bbs] at ht)) | (refine ⟨_, rfl, ?_⟩; (try simp only [tupOf])))) | refine wSkip ?_ | (refine wExit ?_; simp only [thenQ, blockQ, reduceIte, Nat.reduceEqDiff]) | refine wSeq ?_ | refine wBlock ?_)
          all_goals try (exfalso; (try simp only [bbs] at *); first | omega | exact absurd trivial (by assumption))
          all_goals exact dirty rfl
        · by_cases h5I : 5 < ((jm + 1 : Nat) : Int)
          · rw [if_pos (.inr (by omega))] at hst
            rw [rn_bad h12 hst (by omega)]
            repeat' (first | ((first | refine wSeqr ?_ | refine wIf ?_ | refine wReg ?_ | (refine wRet ?_; (try simp only [thenQ, blockQ]); refine ends_by ?_)); intro xx hx; have hc := trivial; (repeat' (simp only [hc, Nat.reduceBEq, go_sem, Nat.reduceAdd, Nat.reduceMul, Nat.reduceSub, Nat.reduceEqDiff, Nat.reduceLT, Nat.reduceLeDiff, Int.reduceEq, Int.reduceLT, Int.reduceLE, reduceIte, aresults, aresult, hp0, h0, h4, h5, h6, h7, hltI, hg, hg1, wc, wd, wp1, wp2, wq1, wq2, wq3, wj, c0, c20, c192, hp1I, hjI, hpt, h5I, hb0, hb1, xok.1, xok.2, aconv_int u5 u3] at hx; (try (rw [guardL_if] at hx; split at hx <;> rename_i hc)))); all_goals (subst hx; first | (refine ⟨_, rfl, fun ht => ?_, fun ht => ?_⟩ <;> (try simp only [bbs] at ht)) | (refine ⟨_, rfl, ?_⟩; (try simp only [tupOf])))) | refine wSkip ?_ | (refine wExit ?_; simp only [thenQ, blockQ, reduceIte, Nat.reduceEqDiff]) | refine wSeq ?_ | refine wBlock ?_)
            all_goals try (exfalso; (try simp only [bbs] at *); first | omega | exact absurd trivial (by assumption))
            all_goals exact dirty rfl
          · rw [if_neg (by omega)] at hst
            repeat' (first | ((first | refine wSeqr ?_ | refine wIf ?_ | refine wReg ?_ | (refine wRet ?_; (try simp only [thenQ, blockQ]); refine ends_by ?_)); intro xx hx; have hc := trivial; (repeat' (simp only [hc, Nat.reduceBEq, go_sem, Nat.reduceAdd, Nat.reduceMul, Nat.reduceSub, Nat.reduceEqDiff, Nat.reduceLT, Nat.reduceLeDiff, Int.reduceEq, Int.reduceLT, Int.reduceLE, reduceIte, aresults, aresult, hp0, h0, h4, h5, h6, h7, hltI, hg, hg1, wc, wd, wp1, wp2, wq1, wq2, wq3, wj, c0, c20, c192, hp1I, hjI, hpt, h5I, hb0, hb1, xok.1, xok.2, aconv_int u5 u3] at hx; (try (rw [guardL_if] at hx; split at hx <;> rename_i hc)))); all_goals (subst hx; first | (refine ⟨_, rfl, fun ht => ?_, fun ht => ?_⟩ <;> (try simp only [bbs] at ht)) | (refine ⟨_, rfl, ?_⟩; (try simp only [tupOf])))) | refine wSkip ?_ | (refine wExit ?_; simp only [thenQ, blockQ, reduceIte, Nat.reduceEqDiff]) | refine wSeq ?_ | refine wBlock ?_)
            all_goals try (exfalso; (try simp only [bbs] at *); first | omega | exact absurd trivial (by assumption))
            refine ⟨_, Nat.sub_lt (by omega) Nat.one_pos, i + 1, t, jm + 1, ls, x, nx, by omega, by simp only [upd_eq, Nat.reduceEqDiff, if_false, if_true, h0, h4, h5, h6, h7], by simp only [upd_eq, Nat.reduceEqDiff, if_false, if_true, h0, h4, h5, h6, h7], by simp only [upd_eq, Nat.reduceEqDiff, if_false, if_true, h0, h4, h5, h6, h7], by simp only [upd_eq, Nat.reduceEqDiff, if_false, if_true, h0, h4, h5, h6, h7], by simp only [upd_eq, Nat.reduceEqDiff, if_false, if_true, h0, h4, h5, h6, h7], ?_⟩
            exact ⟨⟨by rw [hf2]; exact hst, by omega, by omega, hl6, by omega⟩, hr, ⟨hb0, hb1, hgg⟩, hoff⟩
    · refine ⟨0, 12, 0, [], .v (.slice none 0 0), 0, by omega, rfl, rfl, rfl, rfl, rfl, ?_⟩
      exact ⟨⟨rfl, rfl, by omega, by simp, by omega⟩, RAcc.nil, ⟨rfl, rfl, by simp⟩, off_nil, off_nil⟩
  obtain ⟨v, cl, rfl, hp⟩ := key
  exact ⟨cl, hp⟩
theorem c_iReadName (l : List Int) (hb : Eng.Bytes l) (hl : l.length ≤ 1048576) : ∀ H, call Tryd.prog cfg0 0 34 [bytesL l, .v (.int .i64 12)] H = some (rnR l, H) := fun H => by
  obtain ⟨cl, hp⟩ := p_iReadName l hb hl
  exact call_fz Tryd.func34 rfl ok_iReadName rfl (by simp only [fz_cons, fz_nil, go_sem, and_self]) hp H

end
end Go.Proofs.YtnejoidfbgklbaaDoor
