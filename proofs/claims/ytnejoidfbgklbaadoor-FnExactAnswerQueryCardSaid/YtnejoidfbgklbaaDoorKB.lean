/- Contracts: copies and comparisons of bytes. Contracts: copies of bytes as own results. Contracts: views without a fault, records of a service, both sides. Contracts: the records of a service, both sides. Contracts: RecordsFor and SameRecords, both sides. -/
import Derived.Test.YtnejoidfbgklbaaDoorDA
namespace Go.Proofs.YtnejoidfbgklbaaDoor
open Go Go.RowKit Go.Proofs.YtnejoidfbgklbaaDoor.Eng
set_option linter.unusedSimpArgs false
set_option linter.unusedVariables false
set_option maxRecDepth 100000
noncomputable section
theorem mapM_two {f : AV → Option AV} {x y a b : AV} (hx : f x = some a) (hy : f y = some b) : [x, y].mapM f = some [a, b] := by simp [List.mapM_cons, hx, hy]
theorem zeros_cell (n : Nat) : zeros n [cell 0] = (List.replicate n 0).map cell := by
  unfold zeros
  induction n with
  | zero => rfl
  | succ n ih => simp [List.replicate_succ, ih]
theorem take_set {l : List Int} {j : Nat} (h : j < l.length) : ((l.take j ++ List.replicate (l.length - j) 0).set j l[j]) = l.take (j + 1) ++ List.replicate (l.length - (j + 1)) 0 := by
  rw [List.set_append_right _ _ (by simp; omega)]
  obtain ⟨d, hd⟩ : ∃ d, l.length - j = d + 1 := ⟨l.length - j - 1, by omega⟩
  rw [hd, List.replicate_succ]
  simp only [List.length_take, Nat.min_eq_left (Nat.le_of_lt h), Nat.sub_self, List.set_cons_zero]
  rw [List.take_succ_eq_append_getElem h, List.append_assoc, show l.length - (j + 1) = d by omega]; rfl
theorem map_set_cell (l : List Int) (j : Nat) (z : Int) : (l.map cell).set j (cell z) = (l.set j z).map cell := by rw [List.map_set]
theorem get_byte {l : List Int} {j : Nat} (h : j < l.length) : (l.map fun z => [AV.v (.int .u8 z)])[j]? = some [.v (.int .u8 l[j])] := by simp [h]
theorem ok_leqByteS : fnOk Tryd.prog cfg0 9 Tryd.f9 = true := by kernel_rfl
theorem p_leqByteS (a b : List Int) (hl : a.length ≤ 1048576) : pure Tryd.prog cfg0 9 Tryd.f9 [bytesL a, bytesL b] = some (.v (.bool (decide (a = b))), true) := by
  refine pure_wp (rs := [.tmp 4]) rfl rfl ?_
  have hp0 : ∀ b, cfg0.pol 9 b = 0 := fun b => rfl
  repeat' (first | ((first | refine wSeqr ?_ | refine wIf ?_ | refine wReg ?_ | (refine wRet ?_; (try simp only [thenQ, blockQ]); refine ends_by ?_)); intro xx hx; have hc := trivial; (repeat' (simp only [hc, Nat.reduceBEq, go_sem, Nat.reduceAdd, Nat.reduceMul, Nat.reduceSub, Nat.reduceEqDiff, Nat.reduceLT, Nat.reduceLeDiff, Int.reduceEq, Int.reduceLT, Int.reduceLE, reduceIte, aresults, aresult] at hx; (try (rw [guardL_if] at hx; split at hx <;> rename_i hc)))); all_goals (subst hx; first | (refine ⟨_, rfl, fun ht => ?_, fun ht => ?_⟩ <;> (try simp only [bbs] at ht)) | (refine ⟨_, rfl, ?_⟩; (try simp only [tupOf])))) | refine wSkip ?_ | (refine wExit ?_; simp only [thenQ, blockQ, reduceIte, Nat.reduceEqDiff]) | refine wSeq ?_ | refine wBlock ?_)
  · refine gives_boolv ?_
    rw [decide_eq_false]
    intro h; rw [h] at ht; exact ht rfl
  have hlen : a.length = b.length := by (try simp only [bbs] at *); omega
  refine wLoop (fun k s => ∃ (j : Nat), j + k = a.length ∧ s.1 0 = bytesL a ∧ s.1 1 = bytesL b ∧ s.1 5 = .v (.int .i64 (j : Nat)) ∧ (a.take j = b.take j)) (fun k s hI => ?_) (a.length) _ ?_
  · obtain ⟨e, H⟩ := s
    obtain ⟨j, hj, h0, h1, h5, htk⟩ := hI
    simp only at h0 h1 h5 htk
    repeat' (first | ((first | refine wSeqr ?_ | refine wIf ?_ | refine wReg ?_ | (refine wRet ?_; (try simp only [thenQ, blockQ]); refine ends_by ?_)); intro xx hx; have hc := trivial; (repeat' (simp only [hc, Nat.reduceBEq, go_sem, Nat.reduceAdd, Nat.reduceMul, Nat.reduceSub, Nat.reduceEqDiff, Nat.reduceLT, Nat.reduceLeDiff, Int.reduceEq, Int.reduceLT, Int.reduceLE, reduceIte, aresults, aresult, h0, h5] at hx; (try (rw [guardL_if] at hx; split at hx <;> rename_i hc)))); all_goals (subst hx; first | (refine ⟨_, rfl, fun ht => ?_, fun ht => ?_⟩ <;> (try simp only [bbs] at ht)) | (refine ⟨_, rfl, ?_⟩; (try simp only [tupOf])))) | refine wSkip ?_ | (refine wExit ?_; simp only [thenQ, blockQ, reduceIte, Nat.reduceEqDiff]) | refine wSeq ?_ | refine wBlock ?_)
    · have hla : j < a.length := by omega
      have hlb : j < b.length := by omega
      have ga := get_byte hla
      have gb := get_byte hlb
      repeat' (first | ((first | refine wSeqr ?_ | refine wIf ?_ | refine wReg ?_ | (refine wRet ?_; (try simp only [thenQ, blockQ]); refine ends_by ?_)); intro xx hx; have hc := trivial; (repeat' (simp only [hc, Nat.reduceBEq, go_sem, Nat.reduceAdd, Nat.reduceMul, Nat.reduceSub, Nat.reduceEqDiff, Nat.reduceLT, Nat.reduceLeDiff, Int.reduceEq, Int.reduceLT, Int.reduceLE, reduceIte, aresults, aresult, h0, h1, h5, ga, gb, bytesL, cell, wrap_succ (show j < 9223372036854775807 by omega)] at hx; (try (rw [guardL_if] at hx; split at hx <;> rename_i hc)))); all_goals (subst hx; first | (refine ⟨_, rfl, fun ht => ?_, fun ht => ?_⟩ <;> (try simp only [bbs] at ht)) | (refine ⟨_, rfl, ?_⟩; (try simp only [tupOf])))) | refine wSkip ?_ | (refine wExit ?_; simp only [thenQ, blockQ, reduceIte, Nat.reduceEqDiff]) | refine wSeq ?_ | refine wBlock ?_)
      · refine gives_boolv ?_
        rw [decide_eq_false]
        intro h; subst h; exact ht rfl
      · refine ⟨_, Nat.sub_lt (by omega) Nat.one_pos, j + 1, by omega, by simp only [upd_eq, Nat.reduceEqDiff, if_false, if_true, h0, h1, h5], by simp only [upd_eq, Nat.reduceEqDiff, if_false, if_true, h0, h1, h5], by simp only [upd_eq, Nat.reduceEqDiff, if_false, if_true, h0, h1, h5], ?_⟩
        rw [List.take_succ_eq_append_getElem hla, List.take_succ_eq_append_getElem hlb, htk, ht]
    · have hj' : j = a.length := by omega
      have hab : a = b := by
        rw [List.take_of_length_le (by omega), List.take_of_length_le (by omega)] at htk; exact htk
      repeat' (first | ((first | refine wSeqr ?_ | refine wIf ?_ | refine wReg ?_ | (refine wRet ?_; (try simp only [thenQ, blockQ]); refine ends_by ?_)); intro xx hx; have hc := trivial; (repeat' (simp only [hc, Nat.reduceBEq, go_sem, Nat.reduceAdd, Nat.reduceMul, Nat.reduceSub, Nat.reduceEqDiff, Nat.reduceLT, Nat.reduceLeDiff, Int.reduceEq, Int.reduceLT, Int.reduceLE, reduceIte, aresults, aresult] at hx; (try (rw [guardL_if] at hx; split at hx <;> rename_i hc)))); all_goals (subst hx; first | (refine ⟨_, rfl, fun ht => ?_, fun ht => ?_⟩ <;> (try simp only [bbs] at ht)) | (refine ⟨_, rfl, ?_⟩; (try simp only [tupOf])))) | refine wSkip ?_ | (refine wExit ?_; simp only [thenQ, blockQ, reduceIte, Nat.reduceEqDiff]) | refine wSeq ?_ | refine wBlock ?_)
      refine gives_boolv ?_
      rw [decide_eq_true hab]
  · refine ⟨0, by omega, rfl, rfl, rfl, ?_⟩; simp
theorem c_leqByteS (a b : List Int) (hl : a.length ≤ 1048576) : ∀ H, call Tryd.prog cfg0 0 9 [bytesL a, bytesL b] H = some (.v (.bool (decide (a = b))), H) :=
  call_fz Tryd.func9 rfl ok_leqByteS rfl (by simp only [fz_cons, fz_nil, go_sem, and_self]) (p_leqByteS a b hl)

end
end Go.Proofs.YtnejoidfbgklbaaDoor
namespace Go.Proofs.YtnejoidfbgklbaaDoor
open Go Go.RowKit Go.Proofs.YtnejoidfbgklbaaDoor.Eng
set_option linter.unusedSimpArgs false
set_option linter.unusedVariables false
set_option maxRecDepth 100000
noncomputable section
theorem gO_bytes {H : Hp} {b : Nat} {l : List Int} (hb : H.h b = some (l.map cell)) : GivesO (bytesL l) (.sl b 1 0 l.length) H := gF_O (gF_bytes (n := 10) hb rfl)
theorem gO_bytesR {H : Hp} {x : AV} {n : Nat} {l : List Int} (h : RAcc H x 1 (l.map cell) n) : GivesO (bytesL l) x H := by
  have hn : n = l.length := by have := h.1; simpa using this.symm
  subst hn
  rcases h.2 with ⟨h0, e⟩ | ⟨b, -, rfl, hb⟩
  · have e0 : l = [] := List.length_eq_zero_iff.1 h0
    subst e0
    rcases e with rfl | rfl
    · exact gF_O (gF_lstT 11 H)
    · exact gF_O (gF_nil 11 H)
  · exact gO_bytes hb
theorem ok_ltoByteS : fnOk Tryd.prog cfg0 6 Tryd.f6 = true := by kernel_rfl
theorem pq_ltoByteS (l : List Int) (hl : l.length ≤ 1048576) : pure Tryd.prog cfg0 6 Tryd.f6 [bytesL l] = some (bytesL l, true) ∧ owned Tryd.prog cfg0 6 Tryd.f6 [bytesL l] = some (bytesL l) := by
  refine both_wp (rs := [.tmp 2]) rfl rfl ?_
  have hp0 : ∀ b, cfg0.pol 6 b = 0 := fun b => rfl
  have hr := roomy_1 (n := l.length) (by omega)
  repeat' (first | ((first | refine wSeqr ?_ | refine wIf ?_ | refine wReg ?_ | (refine wRet ?_; (try simp only [thenQ, blockQ]); refine ends_by ?_)); intro xx hx; have hc := trivial; (repeat' (simp only [hc, Nat.reduceBEq, go_sem, Nat.reduceAdd, Nat.reduceMul, Nat.reduceSub, Nat.reduceEqDiff, Nat.reduceLT, Nat.reduceLeDiff, Int.reduceEq, Int.reduceLT, Int.reduceLE, reduceIte, aresults, aresult, hr] at hx; (try (rw [guardL_if] at hx; split at hx <;> rename_i hc)))); all_goals (subst hx; first | (refine ⟨_, rfl, fun ht => ?_, fun ht => ?_⟩ <;> (try simp only [bbs] at ht)) | (refine ⟨_, rfl, ?_⟩; (try simp only [tupOf])))) | refine wSkip ?_ | (refine wExit ?_; simp only [thenQ, blockQ, reduceIte, Nat.reduceEqDiff]) | refine wSeq ?_ | refine wBlock ?_)
  refine wLoop (fun k s => ∃ (j : Nat), j + k = l.length ∧ s.1 0 = bytesL l ∧ s.1 4 = .v (.int .i64 (j : Nat)) ∧ s.1 3 = .sl 0 1 0 l.length ∧ (s.2.h 0 = some ((l.take j ++ List.replicate (l.length - j) 0).map cell))) (fun k s hI => ?_) (l.length) _ ?_
  · obtain ⟨e, H⟩ := s
    obtain ⟨j, hj, h0, h4, h3, hh⟩ := hI
    simp only at h0 h4 h3 hh
    repeat' (first | ((first | refine wSeqr ?_ | refine wIf ?_ | refine wReg ?_ | (refine wRet ?_; (try simp only [thenQ, blockQ]); refine ends_by ?_)); intro xx hx; have hc := trivial; (repeat' (simp only [hc, Nat.reduceBEq, go_sem, Nat.reduceAdd, Nat.reduceMul, Nat.reduceSub, Nat.reduceEqDiff, Nat.reduceLT, Nat.reduceLeDiff, Int.reduceEq, Int.reduceLT, Int.reduceLE, reduceIte, aresults, aresult, h0, h4] at hx; (try (rw [guardL_if] at hx; split at hx <;> rename_i hc)))); all_goals (subst hx; first | (refine ⟨_, rfl, fun ht => ?_, fun ht => ?_⟩ <;> (try simp only [bbs] at ht)) | (refine ⟨_, rfl, ?_⟩; (try simp only [tupOf])))) | refine wSkip ?_ | (refine wExit ?_; simp only [thenQ, blockQ, reduceIte, Nat.reduceEqDiff]) | refine wSeq ?_ | refine wBlock ?_)
    · have hlt : j < l.length := by omega
      have hg := get_byte hlt
      have hlen : (List.map cell (l.take j ++ List.replicate (l.length - j) 0)).length = l.length := by simp; omega
      repeat' (first | ((first | refine wSeqr ?_ | refine wIf ?_ | refine wReg ?_ | (refine wRet ?_; (try simp only [thenQ, blockQ]); refine ends_by ?_)); intro xx hx; have hc := trivial; (repeat' (simp only [hc, Nat.reduceBEq, go_sem, Nat.reduceAdd, Nat.reduceMul, Nat.reduceSub, Nat.reduceEqDiff, Nat.reduceLT, Nat.reduceLeDiff, Int.reduceEq, Int.reduceLT, Int.reduceLE, reduceIte, aresults, aresult, h0, h3, h4, hg, hh, hlt, hlen, Option.isSome_some, bytesL, cell, show j + 1 ≤ l.length from hlt, wrap_succ (show j < 9223372036854775807 by omega)] at hx; (try (rw [guardL_if] at hx; split at hx <;> rename_i hc)))); all_goals (subst hx; first | (refine ⟨_, rfl, fun ht => ?_, fun ht => ?_⟩ <;> (try simp only [bbs] at ht)) | (refine ⟨_, rfl, ?_⟩; (try simp only [tupOf])))) | refine wSkip ?_ | (refine wExit ?_; simp only [thenQ, blockQ, reduceIte, Nat.reduceEqDiff]) | refine wSeq ?_ | refine wBlock ?_)
      refine ⟨_, Nat.sub_lt (by omega) Nat.one_pos, j + 1, by omega, by simp only [upd_eq, Nat.reduceEqDiff, if_false, if_true, h0, h4, h3], by simp only [upd_eq, Nat.reduceEqDiff, if_false, if_true, h0, h4, h3], by simp only [upd_eq, Nat.reduceEqDiff, if_false, if_true, h0, h4, h3], ?_⟩
      simp only [Hp.set_h, if_true, ← take_set hlt]
      exact congrArg some (map_set_cell _ _ _)
    · have hj' : j = l.length := by omega
      subst hj'
      rw [h3]
      have hh' : H.h 0 = some (l.map cell) := by rw [hh]; simp
      exact gO_bytes hh'
  · refine ⟨0, by omega, rfl, rfl, rfl, ?_⟩
    simp only [Hp.new_h, nil_g, if_true, Nat.sub_zero, List.take_zero, List.nil_append]
    exact congrArg some (zeros_cell _)
theorem p_ltoByteS (l : List Int) (hl : l.length ≤ 1048576) : pure Tryd.prog cfg0 6 Tryd.f6 [bytesL l] = some (bytesL l, true) := (pq_ltoByteS l hl).1
theorem c_ltoByteS (l : List Int) (hl : l.length ≤ 1048576) : ∀ H, call Tryd.prog cfg0 0 6 [bytesL l] H = some (bytesL l, H) :=
  call_fz Tryd.func6 rfl ok_ltoByteS rfl (by simp only [fz_cons, fz_nil, go_sem, and_self]) (pq_ltoByteS l hl).1
theorem o_ltoByteS (l : List Int) (hl : l.length ≤ 1048576) : ∀ H, call Tryd.prog cfg0 1 6 [bytesL l] H = mat depthD (bytesL l) H := fun H =>
  call_ofO Tryd.func6 rfl ok_ltoByteS rfl (mapM_self fun x hx => ((show ∀ x ∈ ([bytesL l] : List AV), Fz depthD x by simp only [fz_cons, fz_nil, go_sem, and_self]) x hx).1 H) (pq_ltoByteS l hl).2

end
end Go.Proofs.YtnejoidfbgklbaaDoor
namespace Go.Proofs.YtnejoidfbgklbaaDoor
open Go Go.RowKit Go.Proofs.YtnejoidfbgklbaaDoor.Eng
set_option linter.unusedSimpArgs false
set_option linter.unusedVariables false
set_option maxRecDepth 100000
set_option maxHeartbeats 1000000
noncomputable section
theorem ok_sl1In : fnOk Tryd.prog cfg0 46 Tryd.f46 = true := by kernel_rfl
theorem p_sl1In (a lo hi : Int) : pure Tryd.prog cfg0 46 Tryd.f46 [.v (.int .i64 a), .v (.int .i64 lo), .v (.int .i64 hi)] = some (.v (.bool (inB a lo hi)), true) := by
  refine pure_wp (rs := [.tmp 6]) rfl rfl ?_
  have hp0 : ∀ b, cfg0.pol 46 b = 0 := fun b => rfl
  repeat' (first | ((first | refine wSeqr ?_ | refine wIf ?_ | refine wReg ?_ | (refine wRet ?_; (try simp only [thenQ, blockQ]); refine ends_by ?_)); intro xx hx; have hc := trivial; (repeat' (simp only [hc, Nat.reduceBEq, go_sem, Nat.reduceAdd, Nat.reduceMul, Nat.reduceSub, Nat.reduceEqDiff, Nat.reduceLT, Nat.reduceLeDiff, Int.reduceEq, Int.reduceLT, Int.reduceLE, reduceIte, aresults, aresult] at hx; (try (rw [guardL_if] at hx; split at hx <;> rename_i hc)))); all_goals (subst hx; first | (refine ⟨_, rfl, fun ht => ?_, fun ht => ?_⟩ <;> (try simp only [bbs] at ht)) | (refine ⟨_, rfl, ?_⟩; (try simp only [tupOf])))) | refine wSkip ?_ | (refine wExit ?_; simp only [thenQ, blockQ, reduceIte, Nat.reduceEqDiff]) | refine wSeq ?_ | refine wBlock ?_)
  all_goals (refine gives_boolv ?_; simp [inB, *])
theorem c_sl1In (a lo hi : Int) : ∀ H, call Tryd.prog cfg0 0 46 [.v (.int .i64 a), .v (.int .i64 lo), .v (.int .i64 hi)] H = some (.v (.bool (inB a lo hi)), H) :=
  call_fz Tryd.func46 rfl ok_sl1In rfl (by simp only [fz_cons, fz_nil, go_sem, and_self]) (p_sl1In a lo hi)

theorem ok_iisNode : fnOk Tryd.prog cfg0 38 Tryd.f38 = true := by kernel_rfl
theorem p_iisNode (a : Int) : pure Tryd.prog cfg0 38 Tryd.f38 [.v (.int .i64 a)] = some (.v (.bool (inB a 0 3)), true) := by
  refine pure_wp (rs := [.tmp 2]) rfl rfl ?_
  have hp0 : ∀ b, cfg0.pol 38 b = 0 := fun b => rfl
  repeat' (first | ((first | refine wSeqr ?_ | refine wIf ?_ | refine wReg ?_ | (refine wRet ?_; (try simp only [thenQ, blockQ]); refine ends_by ?_)); intro xx hx; have hc := trivial; (repeat' (simp only [hc, Nat.reduceBEq, go_sem, Nat.reduceAdd, Nat.reduceMul, Nat.reduceSub, Nat.reduceEqDiff, Nat.reduceLT, Nat.reduceLeDiff, Int.reduceEq, Int.reduceLT, Int.reduceLE, reduceIte, aresults, aresult, hp0, c_iin] at hx; (try (rw [guardL_if] at hx; split at hx <;> rename_i hc)))); all_goals (subst hx; first | (refine ⟨_, rfl, fun ht => ?_, fun ht => ?_⟩ <;> (try simp only [bbs] at ht)) | (refine ⟨_, rfl, ?_⟩; (try simp only [tupOf])))) | refine wSkip ?_ | (refine wExit ?_; simp only [thenQ, blockQ, reduceIte, Nat.reduceEqDiff]) | refine wSeq ?_ | refine wBlock ?_)
  all_goals (refine gives_boolv ?_; simp_all [inB])
theorem c_iisNode (a : Int) : ∀ H, call Tryd.prog cfg0 0 38 [.v (.int .i64 a)] H = some (.v (.bool (inB a 0 3)), H) :=
  call_fz Tryd.func38 rfl ok_iisNode rfl (by simp only [fz_cons, fz_nil, go_sem, and_self]) (p_iisNode a)

theorem ok_iisStatus : fnOk Tryd.prog cfg0 81 Tryd.f81 = true := by kernel_rfl
theorem p_iisStatus (a : Int) : pure Tryd.prog cfg0 81 Tryd.f81 [.v (.int .i64 a)] = some (.v (.bool (inB a 0 2)), true) := by
  refine pure_wp (rs := [.tmp 2]) rfl rfl ?_
  have hp0 : ∀ b, cfg0.pol 81 b = 0 := fun b => rfl
  repeat' (first | ((first | refine wSeqr ?_ | refine wIf ?_ | refine wReg ?_ | (refine wRet ?_; (try simp only [thenQ, blockQ]); refine ends_by ?_)); intro xx hx; have hc := trivial; (repeat' (simp only [hc, Nat.reduceBEq, go_sem, Nat.reduceAdd, Nat.reduceMul, Nat.reduceSub, Nat.reduceEqDiff, Nat.reduceLT, Nat.reduceLeDiff, Int.reduceEq, Int.reduceLT, Int.reduceLE, reduceIte, aresults, aresult, hp0, c_iin] at hx; (try (rw [guardL_if] at hx; split at hx <;> rename_i hc)))); all_goals (subst hx; first | (refine ⟨_, rfl, fun ht => ?_, fun ht => ?_⟩ <;> (try simp only [bbs] at ht)) | (refine ⟨_, rfl, ?_⟩; (try simp only [tupOf])))) | refine wSkip ?_ | (refine wExit ?_; simp only [thenQ, blockQ, reduceIte, Nat.reduceEqDiff]) | refine wSeq ?_ | refine wBlock ?_)
  all_goals (refine gives_boolv ?_; simp_all [inB])
theorem c_iisStatus (a : Int) : ∀ H, call Tryd.prog cfg0 0 81 [.v (.int .i64 a)] H = some (.v (.bool (inB a 0 2)), H) :=
  call_fz Tryd.func81 rfl ok_iisStatus rfl (by simp only [fz_cons, fz_nil, go_sem, and_self]) (p_iisStatus a)

def claimOk (c : ClaimM) : Bool := inB c.Node 0 3 && inB c.Inc 0 1000000 && inB c.Status 0 2 && inB c.Meta 0 9999999
def claimFault (c : ClaimM) : Int := if claimOk c = true then 0 else 3
theorem ok_iClaimFault : fnOk Tryd.prog cfg0 72 Tryd.f72 = true := by kernel_rfl
theorem p_iClaimFault (c : ClaimM) : pure Tryd.prog cfg0 72 Tryd.f72 [.agg [.v (.int .i64 c.Node), .v (.int .i64 c.Inc), .v (.int .i64 c.Status), .v (.int .i64 c.Meta)]] = some (.v (.int .i64 (claimFault c)), true) := by
  refine pure_wp (rs := [.tmp 2]) rfl rfl ?_
  have hp0 : ∀ b, cfg0.pol 72 b = 0 := fun b => rfl
  repeat' (first | ((first | refine wSeqr ?_ | refine wIf ?_ | refine wReg ?_ | (refine wRet ?_; (try simp only [thenQ, blockQ]); refine ends_by ?_)); intro xx hx; have hc := trivial; (repeat' (simp only [hc, Nat.reduceBEq, go_sem, Nat.reduceAdd, Nat.reduceMul, Nat.reduceSub, Nat.reduceEqDiff, Nat.reduceLT, Nat.reduceLeDiff, Int.reduceEq, Int.reduceLT, Int.reduceLE, reduceIte, aresults, aresult, hp0, c_iisNode, c_iin, c_iisStatus] at hx; (try (rw [guardL_if] at hx; split at hx <;> rename_i hc)))); all_goals (subst hx; first | (refine ⟨_, rfl, fun ht => ?_, fun ht => ?_⟩ <;> (try simp only [bbs] at ht)) | (refine ⟨_, rfl, ?_⟩; (try simp only [tupOf])))) | refine wSkip ?_ | (refine wExit ?_; simp only [thenQ, blockQ, reduceIte, Nat.reduceEqDiff]) | refine wSeq ?_ | refine wBlock ?_)
  all_goals (refine gives_intv ?_; unfold claimFault claimOk; (try simp only [bbs] at *); (repeat' split) <;> (try simp only [bbs] at *) <;> omega)
theorem c_iClaimFault (c : ClaimM) : ∀ H, call Tryd.prog cfg0 0 72 [.agg [.v (.int .i64 c.Node), .v (.int .i64 c.Inc), .v (.int .i64 c.Status), .v (.int .i64 c.Meta)]] H = some (.v (.int .i64 (claimFault c)), H) :=
  call_fz Tryd.func72 rfl ok_iClaimFault rfl (by simp only [fz_cons, fz_nil, go_sem, and_self]) (p_iClaimFault c)

theorem ok_sClaimFault : fnOk Tryd.prog cfg0 69 Tryd.f69 = true := by kernel_rfl
theorem p_sClaimFault (c : ClaimM) : pure Tryd.prog cfg0 69 Tryd.f69 [.agg [.v (.int .i64 c.Node), .v (.int .i64 c.Inc), .v (.int .i64 c.Status), .v (.int .i64 c.Meta)]] = some (.v (.int .i64 (claimFault c)), true) := by
  refine pure_wp (rs := [.tmp 2]) rfl rfl ?_
  have hp0 : ∀ b, cfg0.pol 69 b = 0 := fun b => rfl
  repeat' (first | ((first | refine wSeqr ?_ | refine wIf ?_ | refine wReg ?_ | (refine wRet ?_; (try simp only [thenQ, blockQ]); refine ends_by ?_)); intro xx hx; have hc := trivial; (repeat' (simp only [hc, Nat.reduceBEq, go_sem, Nat.reduceAdd, Nat.reduceMul, Nat.reduceSub, Nat.reduceEqDiff, Nat.reduceLT, Nat.reduceLeDiff, Int.reduceEq, Int.reduceLT, Int.reduceLE, reduceIte, aresults, aresult, hp0, c_sl1In] at hx; (try (rw [guardL_if] at hx; split at hx <;> rename_i hc)))); all_goals (subst hx; first | (refine ⟨_, rfl, fun ht => ?_, fun ht => ?_⟩ <;> (try simp only [bbs] at ht)) | (refine ⟨_, rfl, ?_⟩; (try simp only [tupOf])))) | refine wSkip ?_ | (refine wExit ?_; simp only [thenQ, blockQ, reduceIte, Nat.reduceEqDiff]) | refine wSeq ?_ | refine wBlock ?_)
  all_goals (refine gives_intv ?_; unfold claimFault claimOk; (try simp only [bbs] at *); (repeat' split) <;> (try simp only [bbs] at *) <;> omega)
theorem c_sClaimFault (c : ClaimM) : ∀ H, call Tryd.prog cfg0 0 69 [.agg [.v (.int .i64 c.Node), .v (.int .i64 c.Inc), .v (.int .i64 c.Status), .v (.int .i64 c.Meta)]] H = some (.v (.int .i64 (claimFault c)), H) :=
  call_fz Tryd.func69 rfl ok_sClaimFault rfl (by simp only [fz_cons, fz_nil, go_sem, and_self]) (p_sClaimFault c)

/-- The first claim's fault. -/
def fstC : List ClaimM → Int
  | [] => 0
  | c :: r => if claimFault c = 0 then fstC r else claimFault c
/-- Nodes rise. -/
def ascC (l : List ClaimM) : Prop := ∀ (i : Nat) x y, l[i]? = some x → l[i + 1]? = some y → x.Node < y.Node
open Classical in
def viewF (l : List ClaimM) : Int := if 4 < l.length then 2 else if fstC l = 0 then if ascC l then 0 else 1 else fstC l
theorem fstC_none {xs : List ClaimM} (h : ∀ m ∈ xs, claimFault m = 0) : fstC xs = 0 := by
  induction xs with
  | nil => rfl
  | cons m r ih => simp only [fstC, h m (by simp), if_true]; exact ih fun x hx => h x (by simp [hx])
theorem fstC_at {xs : List ClaimM} {j : Nat} {m : ClaimM} (h : ∀ m ∈ xs.take j, claimFault m = 0) (hg : xs[j]? = some m) (hm : ¬ claimFault m = 0) : fstC xs = claimFault m := by
  induction xs generalizing j with
  | nil => simp at hg
  | cons y r ih =>
    cases j with
    | zero => simp only [List.getElem?_cons_zero, Option.some.injEq] at hg; subst hg; simp only [fstC, if_neg hm]
    | succ j =>
      simp only [List.take_succ_cons, List.mem_cons, forall_eq_or_imp] at h
      simp only [fstC, h.1, if_true]
      exact ih h.2 (by simpa using hg)
theorem fstC_zero {xs : List ClaimM} (h : fstC xs = 0) : ∀ m ∈ xs, claimFault m = 0 := by
  induction xs with
  | nil => simp
  | cons y r ih =>
    unfold fstC at h
    split at h
    · rename_i hy
      intro m hm
      rcases List.mem_cons.1 hm with rfl | hm
      · exact hy
      · exact ih h m hm
    · rename_i hy; exact absurd h hy
theorem take_nextC {xs : List ClaimM} {j : Nat} {m : ClaimM} (h : ∀ m ∈ xs.take j, claimFault m = 0) (hg : xs[j]? = some m) (hm : claimFault m = 0) : ∀ m ∈ xs.take (j + 1), claimFault m = 0 := by
  intro y hy
  rw [List.take_add_one, hg] at hy
  rcases List.mem_append.1 hy with hy | hy
  · exact h y hy
  · simp at hy; subst hy; exact hm
theorem viewF_ok {l : List ClaimM} (h : viewF l = 0) : l.length ≤ 4 ∧ ∀ c ∈ l, claimFault c = 0 := by
  unfold viewF at h
  split at h
  · omega
  split at h
  · rename_i h1 h2; exact ⟨by omega, fstC_zero h2⟩
  · rename_i h1 h2; exact absurd h h2
theorem ok_iViewFault : fnOk Tryd.prog cfg0 49 Tryd.f49 = true := by kernel_rfl
theorem p_iViewFault (l : List ClaimM) (hl : l.length ≤ 1048576) : pure Tryd.prog cfg0 49 Tryd.f49 [.lst false (l.map encClaim)] = some (.v (.int .i64 (viewF l)), true) := by
  refine pure_wp (rs := [.tmp 2]) rfl rfl ?_
  have hp0 : ∀ b, cfg0.pol 49 b = 0 := fun b => rfl
  by_cases hbig : 4 < l.length
  · rw [show viewF l = 2 from if_pos hbig]
    repeat' (first | ((first | refine wSeqr ?_ | refine wIf ?_ | refine wReg ?_ | (refine wRet ?_; (try simp only [thenQ, blockQ]); refine ends_by ?_)); intro xx hx; have hc := trivial; (repeat' (simp only [hc, Nat.reduceBEq, go_sem, Nat.reduceAdd, Nat.reduceMul, Nat.reduceSub, Nat.reduceEqDiff, Nat.reduceLT, Nat.reduceLeDiff, Int.reduceEq, Int.reduceLT, Int.reduceLE, reduceIte, aresults, aresult, hp0, List.length_map] at hx; (try (rw [guardL_if] at hx; split at hx <;> rename_i hc)))); all_goals (subst hx; first | (refine ⟨_, rfl, fun ht => ?_, fun ht => ?_⟩ <;> (try simp only [bbs] at ht)) | (refine ⟨_, rfl, ?_⟩; (try simp only [tupOf])))) | refine wSkip ?_ | (refine wExit ?_; simp only [thenQ, blockQ, reduceIte, Nat.reduceEqDiff]) | refine wSeq ?_ | refine wBlock ?_)
    all_goals try (exfalso; (try simp only [bbs] at *); first | omega | exact absurd trivial (by assumption))
    all_goals exact gives_intv rfl
  repeat' ((fail_if_success (first | refine wAt 4 ?_ | refine wAt 10 ?_)); first | ((first | refine wSeqr ?_ | refine wIf ?_ | refine wReg ?_ | (refine wRet ?_; (try simp only [thenQ, blockQ]); refine ends_by ?_)); intro xx hx; have hc := trivial; (repeat' (simp only [hc, Nat.reduceBEq, go_sem, Nat.reduceAdd, Nat.reduceMul, Nat.reduceSub, Nat.reduceEqDiff, Nat.reduceLT, Nat.reduceLeDiff, Int.reduceEq, Int.reduceLT, Int.reduceLE, reduceIte, aresults, aresult, hp0, List.length_map] at hx; (try (rw [guardL_if] at hx; split at hx <;> rename_i hc)))); all_goals (subst hx; first | (refine ⟨_, rfl, fun ht => ?_, fun ht => ?_⟩ <;> (try simp only [bbs] at ht)) | (refine ⟨_, rfl, ?_⟩; (try simp only [tupOf])))) | refine wSkip ?_ | (refine wExit ?_; simp only [thenQ, blockQ, reduceIte, Nat.reduceEqDiff]) | refine wSeq ?_ | refine wBlock ?_)
  all_goals try (exfalso; (try simp only [bbs] at *); first | omega | exact absurd trivial (by assumption))
  refine wLoop (fun k s => ∃ (j : Nat), j + k = l.length ∧ s.1 0 = .lst false (l.map encClaim) ∧ s.1 10 = .lst false (l.map encClaim) ∧ s.1 11 = .v (.int .i64 (l.length : Nat)) ∧ s.1 12 = .v (.int .i64 (j : Nat)) ∧ (∀ m ∈ l.take j, claimFault m = 0)) (fun k s hI => ?_) (l.length) _ ?_
  · obtain ⟨e, H⟩ := s
    obtain ⟨j, hj, h0, h10, h11, h12, hz⟩ := hI
    simp only at h0 h10 h11 h12 hz
    by_cases hlt : j < l.length
    · obtain ⟨m, hg, hd, hm⟩ := at_drop hlt
      have hg' := map_at (f := encClaim) hg
      have hltI : ((j : Nat) : Int) < (l.length : Int) := by omega
      have w4 : IntKind.wrap .i64 ((j : Nat) + 1 : Int) = ((j + 1 : Nat) : Int) := wrap_succ (by omega)
      by_cases hf : claimFault m = 0
      · repeat' (first | ((first | refine wSeqr ?_ | refine wIf ?_ | refine wReg ?_ | (refine wRet ?_; (try simp only [thenQ, blockQ]); refine ends_by ?_)); intro xx hx; have hc := trivial; (repeat' (simp only [hc, Nat.reduceBEq, go_sem, Nat.reduceAdd, Nat.reduceMul, Nat.reduceSub, Nat.reduceEqDiff, Nat.reduceLT, Nat.reduceLeDiff, Int.reduceEq, Int.reduceLT, Int.reduceLE, reduceIte, aresults, aresult, hp0, h0, h10, h11, h12, hltI, hg', encClaim, c_iClaimFault, hf, w4, List.length_map] at hx; (try (rw [guardL_if] at hx; split at hx <;> rename_i hc)))); all_goals (subst hx; first | (refine ⟨_, rfl, fun ht => ?_, fun ht => ?_⟩ <;> (try simp only [bbs] at ht)) | (refine ⟨_, rfl, ?_⟩; (try simp only [tupOf])))) | refine wSkip ?_ | (refine wExit ?_; simp only [thenQ, blockQ, reduceIte, Nat.reduceEqDiff]) | refine wSeq ?_ | refine wBlock ?_)
        all_goals try (exfalso; (try simp only [bbs] at *); first | omega | exact absurd trivial (by assumption))
        refine ⟨_, Nat.sub_lt (by omega) Nat.one_pos, j + 1, by omega, by simp only [upd_eq, Nat.reduceEqDiff, if_false, if_true, h0, h10, h11, h12], by simp only [upd_eq, Nat.reduceEqDiff, if_false, if_true, h0, h10, h11, h12], by simp only [upd_eq, Nat.reduceEqDiff, if_false, if_true, h0, h10, h11, h12], by simp only [upd_eq, Nat.reduceEqDiff, if_false, if_true, h0, h10, h11, h12], ?_⟩
        exact take_nextC hz hg hf
      · rw [show viewF l = claimFault m by unfold viewF; rw [if_neg hbig, fstC_at hz hg hf, if_neg hf]]
        repeat' (first | ((first | refine wSeqr ?_ | refine wIf ?_ | refine wReg ?_ | (refine wRet ?_; (try simp only [thenQ, blockQ]); refine ends_by ?_)); intro xx hx; have hc := trivial; (repeat' (simp only [hc, Nat.reduceBEq, go_sem, Nat.reduceAdd, Nat.reduceMul, Nat.reduceSub, Nat.reduceEqDiff, Nat.reduceLT, Nat.reduceLeDiff, Int.reduceEq, Int.reduceLT, Int.reduceLE, reduceIte, aresults, aresult, hp0, h0, h10, h11, h12, hltI, hg', encClaim, c_iClaimFault, hf, w4, List.length_map] at hx; (try (rw [guardL_if] at hx; split at hx <;> rename_i hc)))); all_goals (subst hx; first | (refine ⟨_, rfl, fun ht => ?_, fun ht => ?_⟩ <;> (try simp only [bbs] at ht)) | (refine ⟨_, rfl, ?_⟩; (try simp only [tupOf])))) | refine wSkip ?_ | (refine wExit ?_; simp only [thenQ, blockQ, reduceIte, Nat.reduceEqDiff]) | refine wSeq ?_ | refine wBlock ?_)
        all_goals try (exfalso; (try simp only [bbs] at *); first | omega | exact absurd trivial (by assumption))
        all_goals exact gives_intv rfl
    · have hj' : j = l.length := by omega
      have hltI : ¬ ((j : Nat) : Int) < (l.length : Int) := by omega
      rw [hj', List.take_length] at hz
      have hf := fstC_none hz
      repeat' ((fail_if_success (first | refine wAt 11 ?_)); first | ((first | refine wSeqr ?_ | refine wIf ?_ | refine wReg ?_ | (refine wRet ?_; (try simp only [thenQ, blockQ]); refine ends_by ?_)); intro xx hx; have hc := trivial; (repeat' (simp only [hc, Nat.reduceBEq, go_sem, Nat.reduceAdd, Nat.reduceMul, Nat.reduceSub, Nat.reduceEqDiff, Nat.reduceLT, Nat.reduceLeDiff, Int.reduceEq, Int.reduceLT, Int.reduceLE, reduceIte, aresults, aresult, hp0, h0, h10, h11, h12, hltI, List.length_map] at hx; (try (rw [guardL_if] at hx; split at hx <;> rename_i hc)))); all_goals (subst hx; first | (refine ⟨_, rfl, fun ht => ?_, fun ht => ?_⟩ <;> (try simp only [bbs] at ht)) | (refine ⟨_, rfl, ?_⟩; (try simp only [tupOf])))) | refine wSkip ?_ | (refine wExit ?_; simp only [thenQ, blockQ, reduceIte, Nat.reduceEqDiff]) | refine wSeq ?_ | refine wBlock ?_)
      all_goals try (exfalso; (try simp only [bbs] at *); first | omega | exact absurd trivial (by assumption))
      refine wLoop (fun k s => ∃ (j : Nat), j + k = l.length - 1 ∧ s.1 0 = .lst false (l.map encClaim) ∧ s.1 6 = .v (.int .i64 ((j + 1 : Nat) : Int)) ∧ (∀ (i : Nat) x y, i < j → l[i]? = some x → l[i + 1]? = some y → x.Node < y.Node)) (fun k s hI => ?_) (l.length - 1) _ ?_
      · obtain ⟨e, H⟩ := s
        obtain ⟨j, hj, h0, h6, hasc⟩ := hI
        simp only at h0 h6 hasc
        by_cases hp : j + 1 < l.length
        · obtain ⟨x, gx, -, -⟩ := at_drop (show j < l.length by omega)
          obtain ⟨y, gy, -, -⟩ := at_drop hp
          have gx' := map_at (f := encClaim) gx
          have gy' := map_at (f := encClaim) gy
          have hpI : ((j + 1 : Nat) : Int) < (l.length : Int) := by omega
          have w5 : IntKind.wrap .i64 (((j + 1 : Nat) : Int) - 1) = ((j : Nat) : Int) := by rw [wrap_i64 (by omega) (by omega)]; omega
          have w6 : IntKind.wrap .i64 (((j + 1 : Nat) : Int) + 1) = ((j + 1 + 1 : Nat) : Int) := wrap_succ (by omega)
          by_cases hxy : x.Node < y.Node
          · have n1 : ¬ y.Node ≤ x.Node := by omega
            repeat' (first | ((first | refine wSeqr ?_ | refine wIf ?_ | refine wReg ?_ | (refine wRet ?_; (try simp only [thenQ, blockQ]); refine ends_by ?_)); intro xx hx; have hc := trivial; (repeat' (simp only [hc, Nat.reduceBEq, go_sem, Nat.reduceAdd, Nat.reduceMul, Nat.reduceSub, Nat.reduceEqDiff, Nat.reduceLT, Nat.reduceLeDiff, Int.reduceEq, Int.reduceLT, Int.reduceLE, reduceIte, aresults, aresult, hp0, h0, h6, hpI, gx', gy', encClaim, w5, w6, n1, List.length_map] at hx; (try (rw [guardL_if] at hx; split at hx <;> rename_i hc)))); all_goals (subst hx; first | (refine ⟨_, rfl, fun ht => ?_, fun ht => ?_⟩ <;> (try simp only [bbs] at ht)) | (refine ⟨_, rfl, ?_⟩; (try simp only [tupOf])))) | refine wSkip ?_ | (refine wExit ?_; simp only [thenQ, blockQ, reduceIte, Nat.reduceEqDiff]) | refine wSeq ?_ | refine wBlock ?_)
            all_goals try (exfalso; (try simp only [bbs] at *); first | omega | exact absurd trivial (by assumption))
            refine ⟨_, Nat.sub_lt (by omega) Nat.one_pos, j + 1, by omega, by simp only [upd_eq, Nat.reduceEqDiff, if_false, if_true, h0, h6], by simp only [upd_eq, Nat.reduceEqDiff, if_false, if_true, h0, h6], ?_⟩
            intro i a b hi ga gb
            by_cases hij : i = j
            · subst hij; rw [gx] at ga; rw [gy] at gb
              obtain rfl := Option.some.inj ga; obtain rfl := Option.some.inj gb; exact hxy
            · exact hasc i a b (by omega) ga gb
          · have n1 : y.Node ≤ x.Node := by omega
            rw [show viewF l = 1 by unfold viewF; rw [if_neg hbig, if_pos hf, if_neg (fun h => hxy (h j x y gx gy))]]
            repeat' (first | ((first | refine wSeqr ?_ | refine wIf ?_ | refine wReg ?_ | (refine wRet ?_; (try simp only [thenQ, blockQ]); refine ends_by ?_)); intro xx hx; have hc := trivial; (repeat' (simp only [hc, Nat.reduceBEq, go_sem, Nat.reduceAdd, Nat.reduceMul, Nat.reduceSub, Nat.reduceEqDiff, Nat.reduceLT, Nat.reduceLeDiff, Int.reduceEq, Int.reduceLT, Int.reduceLE, reduceIte, aresults, aresult, hp0, h0, h6, hpI, gx', gy', encClaim, w5, w6, n1, List.length_map] at hx; (try (rw [guardL_if] at hx; split at hx <;> rename_i hc)))); all_goals (subst hx; first | (refine ⟨_, rfl, fun ht => ?_, fun ht => ?_⟩ <;> (try simp only [bbs] at ht)) | (refine ⟨_, rfl, ?_⟩; (try simp only [tupOf])))) | refine wSkip ?_ | (refine wExit ?_; simp only [thenQ, blockQ, reduceIte, Nat.reduceEqDiff]) | refine wSeq ?_ | refine wBlock ?_)
            all_goals try (exfalso; (try simp only [bbs] at *); first | omega | exact absurd trivial (by assumption))
            all_goals exact gives_intv rfl
        · have hpI : ¬ ((j + 1 : Nat) : Int) < (l.length : Int) := by omega
          rw [show viewF l = 0 by unfold viewF; rw [if_neg hbig, if_pos hf, if_pos (show ascC l from fun i x y gx gy => hasc i x y (by have := (List.getElem?_eq_some_iff.1 gy).1; omega) gx gy)]]
          repeat' (first | ((first | refine wSeqr ?_ | refine wIf ?_ | refine wReg ?_ | (refine wRet ?_; (try simp only [thenQ, blockQ]); refine ends_by ?_)); intro xx hx; have hc := trivial; (repeat' (simp only [hc, Nat.reduceBEq, go_sem, Nat.reduceAdd, Nat.reduceMul, Nat.reduceSub, Nat.reduceEqDiff, Nat.reduceLT, Nat.reduceLeDiff, Int.reduceEq, Int.reduceLT, Int.reduceLE, reduceIte, aresults, aresult, hp0, h0, h6, hpI, List.length_map] at hx; (try (rw [guardL_if] at hx; split at hx <;> rename_i hc)))); all_goals (subst hx; first | (refine ⟨_, rfl, fun ht => ?_, fun ht => ?_⟩ <;> (try simp only [bbs] at ht)) | (refine ⟨_, rfl, ?_⟩; (try simp only [tupOf])))) | refine wSkip ?_ | (refine wExit ?_; simp only [thenQ, blockQ, reduceIte, Nat.reduceEqDiff]) | refine wSeq ?_ | refine wBlock ?_)
          all_goals try (exfalso; (try simp only [bbs] at *); first | omega | exact absurd trivial (by assumption))
          all_goals exact gives_intv rfl
      · 
        refine ⟨0, by omega, by simp only [upd_eq, Nat.reduceEqDiff, if_false, h0], rfl, fun i x y hi => by omega⟩
  · refine ⟨0, by omega, rfl, rfl, rfl, rfl, ?_⟩
    simp
theorem c_iViewFault (l : List ClaimM) (hl : l.length ≤ 1048576) : ∀ H, call Tryd.prog cfg0 0 49 [.lst false (l.map encClaim)] H = some (.v (.int .i64 (viewF l)), H) :=
  call_fz Tryd.func49 rfl ok_iViewFault rfl (by simp only [fz_cons, fz_nil, go_sem, and_self]) (p_iViewFault l hl)

theorem ok_sViewFault : fnOk Tryd.prog cfg0 45 Tryd.f45 = true := by kernel_rfl
theorem p_sViewFault (l : List ClaimM) (hl : l.length ≤ 1048576) : pure Tryd.prog cfg0 45 Tryd.f45 [.lst false (l.map encClaim)] = some (.v (.int .i64 (viewF l)), true) := by
  refine pure_wp (rs := [.tmp 2]) rfl rfl ?_
  have hp0 : ∀ b, cfg0.pol 45 b = 0 := fun b => rfl
  by_cases hbig : 4 < l.length
  · rw [show viewF l = 2 from if_pos hbig]
    repeat' (first | ((first | refine wSeqr ?_ | refine wIf ?_ | refine wReg ?_ | (refine wRet ?_; (try simp only [thenQ, blockQ]); refine ends_by ?_)); intro xx hx; have hc := trivial; (repeat' (simp only [hc, Nat.reduceBEq, go_sem, Nat.reduceAdd, Nat.reduceMul, Nat.reduceSub, Nat.reduceEqDiff, Nat.reduceLT, Nat.reduceLeDiff, Int.reduceEq, Int.reduceLT, Int.reduceLE, reduceIte, aresults, aresult, hp0, List.length_map] at hx; (try (rw [guardL_if] at hx; split at hx <;> rename_i hc)))); all_goals (subst hx; first | (refine ⟨_, rfl, fun ht => ?_, fun ht => ?_⟩ <;> (try simp only [bbs] at ht)) | (refine ⟨_, rfl, ?_⟩; (try simp only [tupOf])))) | refine wSkip ?_ | (refine wExit ?_; simp only [thenQ, blockQ, reduceIte, Nat.reduceEqDiff]) | refine wSeq ?_ | refine wBlock ?_)
    all_goals try (exfalso; (try simp only [bbs] at *); first | omega | exact absurd trivial (by assumption))
    all_goals exact gives_intv rfl
  repeat' ((fail_if_success (first | refine wAt 4 ?_ | refine wAt 9 ?_)); first | ((first | refine wSeqr ?_ | refine wIf ?_ | refine wReg ?_ | (refine wRet ?_; (try simp only [thenQ, blockQ]); refine ends_by ?_)); intro xx hx; have hc := trivial; (repeat' (simp only [hc, Nat.reduceBEq, go_sem, Nat.reduceAdd, Nat.reduceMul, Nat.reduceSub, Nat.reduceEqDiff, Nat.reduceLT, Nat.reduceLeDiff, Int.reduceEq, Int.reduceLT, Int.reduceLE, reduceIte, aresults, aresult, hp0, List.length_map] at hx; (try (rw [guardL_if] at hx; split at hx <;> rename_i hc)))); all_goals (subst hx; first | (refine ⟨_, rfl, fun ht => ?_, fun ht => ?_⟩ <;> (try simp only [bbs] at ht)) | (refine ⟨_, rfl, ?_⟩; (try simp only [tupOf])))) | refine wSkip ?_ | (refine wExit ?_; simp only [thenQ, blockQ, reduceIte, Nat.reduceEqDiff]) | refine wSeq ?_ | refine wBlock ?_)
  all_goals try (exfalso; (try simp only [bbs] at *); first | omega | exact absurd trivial (by assumption))
  refine wLoop (fun k s => ∃ (j : Nat), j + k = l.length ∧ s.1 0 = .lst false (l.map encClaim) ∧ s.1 3 = .v (.int .i64 (j : Nat)) ∧ (∀ m ∈ l.take j, claimFault m = 0)) (fun k s hI => ?_) (l.length) _ ?_
  · obtain ⟨e, H⟩ := s
    obtain ⟨j, hj, h0, h3, hz⟩ := hI
    simp only at h0 h3 hz
    by_cases hlt : j < l.length
    · obtain ⟨m, hg, hd, hm⟩ := at_drop hlt
      have hg' := map_at (f := encClaim) hg
      have hltI : ((j : Nat) : Int) < (l.length : Int) := by omega
      have w4 : IntKind.wrap .i64 ((j : Nat) + 1 : Int) = ((j + 1 : Nat) : Int) := wrap_succ (by omega)
      by_cases hf : claimFault m = 0
      · repeat' (first | ((first | refine wSeqr ?_ | refine wIf ?_ | refine wReg ?_ | (refine wRet ?_; (try simp only [thenQ, blockQ]); refine ends_by ?_)); intro xx hx; have hc := trivial; (repeat' (simp only [hc, Nat.reduceBEq, go_sem, Nat.reduceAdd, Nat.reduceMul, Nat.reduceSub, Nat.reduceEqDiff, Nat.reduceLT, Nat.reduceLeDiff, Int.reduceEq, Int.reduceLT, Int.reduceLE, reduceIte, aresults, aresult, hp0, h0, h3, hltI, hg', encClaim, c_sClaimFault, hf, w4, List.length_map] at hx; (try (rw [guardL_if] at hx; split at hx <;> rename_i hc)))); all_goals (subst hx; first | (refine ⟨_, rfl, fun ht => ?_, fun ht => ?_⟩ <;> (try simp only [bbs] at ht)) | (refine ⟨_, rfl, ?_⟩; (try simp only [tupOf])))) | refine wSkip ?_ | (refine wExit ?_; simp only [thenQ, blockQ, reduceIte, Nat.reduceEqDiff]) | refine wSeq ?_ | refine wBlock ?_)
        all_goals try (exfalso; (try simp only [bbs] at *); first | omega | exact absurd trivial (by assumption))
        refine ⟨_, Nat.sub_lt (by omega) Nat.one_pos, j + 1, by omega, by simp only [upd_eq, Nat.reduceEqDiff, if_false, if_true, h0, h3], by simp only [upd_eq, Nat.reduceEqDiff, if_false, if_true, h0, h3], ?_⟩
        exact take_nextC hz hg hf
      · rw [show viewF l = claimFault m by unfold viewF; rw [if_neg hbig, fstC_at hz hg hf, if_neg hf]]
        repeat' (first | ((first | refine wSeqr ?_ | refine wIf ?_ | refine wReg ?_ | (refine wRet ?_; (try simp only [thenQ, blockQ]); refine ends_by ?_)); intro xx hx; have hc := trivial; (repeat' (simp only [hc, Nat.reduceBEq, go_sem, Nat.reduceAdd, Nat.reduceMul, Nat.reduceSub, Nat.reduceEqDiff, Nat.reduceLT, Nat.reduceLeDiff, Int.reduceEq, Int.reduceLT, Int.reduceLE, reduceIte, aresults, aresult, hp0, h0, h3, hltI, hg', encClaim, c_sClaimFault, hf, w4, List.length_map] at hx; (try (rw [guardL_if] at hx; split at hx <;> rename_i hc)))); all_goals (subst hx; first | (refine ⟨_, rfl, fun ht => ?_, fun ht => ?_⟩ <;> (try simp only [bbs] at ht)) | (refine ⟨_, rfl, ?_⟩; (try simp only [tupOf])))) | refine wSkip ?_ | (refine wExit ?_; simp only [thenQ, blockQ, reduceIte, Nat.reduceEqDiff]) | refine wSeq ?_ | refine wBlock ?_)
        all_goals try (exfalso; (try simp only [bbs] at *); first | omega | exact absurd trivial (by assumption))
        all_goals exact gives_intv rfl
    · have hj' : j = l.length := by omega
      have hltI : ¬ ((j : Nat) : Int) < (l.length : Int) := by omega
      rw [hj', List.take_length] at hz
      have hf := fstC_none hz
      repeat' ((fail_if_success (first | refine wAt 10 ?_)); first | ((first | refine wSeqr ?_ | refine wIf ?_ | refine wReg ?_ | (refine wRet ?_; (try simp only [thenQ, blockQ]); refine ends_by ?_)); intro xx hx; have hc := trivial; (repeat' (simp only [hc, Nat.reduceBEq, go_sem, Nat.reduceAdd, Nat.reduceMul, Nat.reduceSub, Nat.reduceEqDiff, Nat.reduceLT, Nat.reduceLeDiff, Int.reduceEq, Int.reduceLT, Int.reduceLE, reduceIte, aresults, aresult, hp0, h0, h3, hltI, List.length_map] at hx; (try (rw [guardL_if] at hx; split at hx <;> rename_i hc)))); all_goals (subst hx; first | (refine ⟨_, rfl, fun ht => ?_, fun ht => ?_⟩ <;> (try simp only [bbs] at ht)) | (refine ⟨_, rfl, ?_⟩; (try simp only [tupOf])))) | refine wSkip ?_ | (refine wExit ?_; simp only [thenQ, blockQ, reduceIte, Nat.reduceEqDiff]) | refine wSeq ?_ | refine wBlock ?_)
      all_goals try (exfalso; (try simp only [bbs] at *); first | omega | exact absurd trivial (by assumption))
      refine wLoop (fun k s => ∃ (j : Nat), j + k = l.length - 1 ∧ s.1 0 = .lst false (l.map encClaim) ∧ s.1 5 = .v (.int .i64 ((j + 1 : Nat) : Int)) ∧ (∀ (i : Nat) x y, i < j → l[i]? = some x → l[i + 1]? = some y → x.Node < y.Node)) (fun k s hI => ?_) (l.length - 1) _ ?_
      · obtain ⟨e, H⟩ := s
        obtain ⟨j, hj, h0, h5, hasc⟩ := hI
        simp only at h0 h5 hasc
        by_cases hp : j + 1 < l.length
        · obtain ⟨x, gx, -, -⟩ := at_drop (show j < l.length by omega)
          obtain ⟨y, gy, -, -⟩ := at_drop hp
          have gx' := map_at (f := encClaim) gx
          have gy' := map_at (f := encClaim) gy
          have hpI : ((j + 1 : Nat) : Int) < (l.length : Int) := by omega
          have w5 : IntKind.wrap .i64 (((j + 1 : Nat) : Int) - 1) = ((j : Nat) : Int) := by rw [wrap_i64 (by omega) (by omega)]; omega
          have w6 : IntKind.wrap .i64 (((j + 1 : Nat) : Int) + 1) = ((j + 1 + 1 : Nat) : Int) := wrap_succ (by omega)
          by_cases hxy : x.Node < y.Node
          · have n1 : ¬ y.Node ≤ x.Node := by omega
            repeat' (first | ((first | refine wSeqr ?_ | refine wIf ?_ | refine wReg ?_ | (refine wRet ?_; (try simp only [thenQ, blockQ]); refine ends_by ?_)); intro xx hx; have hc := trivial; (repeat' (simp only [hc, Nat.reduceBEq, go_sem, Nat.reduceAdd, Nat.reduceMul, Nat.reduceSub, Nat.reduceEqDiff, Nat.reduceLT, Nat.reduceLeDiff, Int.reduceEq, Int.reduceLT, Int.reduceLE, reduceIte, aresults, aresult, hp0, h0, h5, hpI, gx', gy', encClaim, w5, w6, n1, List.length_map] at hx; (try (rw [guardL_if] at hx; split at hx <;> rename_i hc)))); all_goals (subst hx; first | (refine ⟨_, rfl, fun ht => ?_, fun ht => ?_⟩ <;> (try simp only [bbs] at ht)) | (refine ⟨_, rfl, ?_⟩; (try simp only [tupOf])))) | refine wSkip ?_ | (refine wExit ?_; simp only [thenQ, blockQ, reduceIte, Nat.reduceEqDiff]) | refine wSeq ?_ | refine wBlock ?_)
            all_goals try (exfalso; (try simp only [bbs] at *); first | omega | exact absurd trivial (by assumption))
            refine ⟨_, Nat.sub_lt (by omega) Nat.one_pos, j + 1, by omega, by simp only [upd_eq, Nat.reduceEqDiff, if_false, if_true, h0, h5], by simp only [upd_eq, Nat.reduceEqDiff, if_false, if_true, h0, h5], ?_⟩
            intro i a b hi ga gb
            by_cases hij : i = j
            · subst hij; rw [gx] at ga; rw [gy] at gb
              obtain rfl := Option.some.inj ga; obtain rfl := Option.some.inj gb; exact hxy
            · exact hasc i a b (by omega) ga gb
          · have n1 : y.Node ≤ x.Node := by omega
            rw [show viewF l = 1 by unfold viewF; rw [if_neg hbig, if_pos hf, if_neg (fun h => hxy (h j x y gx gy))]]
            repeat' (first | ((first | refine wSeqr ?_ | refine wIf ?_ | refine wReg ?_ | (refine wRet ?_; (try simp only [thenQ, blockQ]); refine ends_by ?_)); intro xx hx; have hc := trivial; (repeat' (simp only [hc, Nat.reduceBEq, go_sem, Nat.reduceAdd, Nat.reduceMul, Nat.reduceSub, Nat.reduceEqDiff, Nat.reduceLT, Nat.reduceLeDiff, Int.reduceEq, Int.reduceLT, Int.reduceLE, reduceIte, aresults, aresult, hp0, h0, h5, hpI, gx', gy', encClaim, w5, w6, n1, List.length_map] at hx; (try (rw [guardL_if] at hx; split at hx <;> rename_i hc)))); all_goals (subst hx; first | (refine ⟨_, rfl, fun ht => ?_, fun ht => ?_⟩ <;> (try simp only [bbs] at ht)) | (refine ⟨_, rfl, ?_⟩; (try simp only [tupOf])))) | refine wSkip ?_ | (refine wExit ?_; simp only [thenQ, blockQ, reduceIte, Nat.reduceEqDiff]) | refine wSeq ?_ | refine wBlock ?_)
            all_goals try (exfalso; (try simp only [bbs] at *); first | omega | exact absurd trivial (by assumption))
            all_goals exact gives_intv rfl
        · have hpI : ¬ ((j + 1 : Nat) : Int) < (l.length : Int) := by omega
          rw [show viewF l = 0 by unfold viewF; rw [if_neg hbig, if_pos hf, if_pos (show ascC l from fun i x y gx gy => hasc i x y (by have := (List.getElem?_eq_some_iff.1 gy).1; omega) gx gy)]]
          repeat' (first | ((first | refine wSeqr ?_ | refine wIf ?_ | refine wReg ?_ | (refine wRet ?_; (try simp only [thenQ, blockQ]); refine ends_by ?_)); intro xx hx; have hc := trivial; (repeat' (simp only [hc, Nat.reduceBEq, go_sem, Nat.reduceAdd, Nat.reduceMul, Nat.reduceSub, Nat.reduceEqDiff, Nat.reduceLT, Nat.reduceLeDiff, Int.reduceEq, Int.reduceLT, Int.reduceLE, reduceIte, aresults, aresult, hp0, h0, h5, hpI, List.length_map] at hx; (try (rw [guardL_if] at hx; split at hx <;> rename_i hc)))); all_goals (subst hx; first | (refine ⟨_, rfl, fun ht => ?_, fun ht => ?_⟩ <;> (try simp only [bbs] at ht)) | (refine ⟨_, rfl, ?_⟩; (try simp only [tupOf])))) | refine wSkip ?_ | (refine wExit ?_; simp only [thenQ, blockQ, reduceIte, Nat.reduceEqDiff]) | refine wSeq ?_ | refine wBlock ?_)
          all_goals try (exfalso; (try simp only [bbs] at *); first | omega | exact absurd trivial (by assumption))
          all_goals exact gives_intv rfl
      · 
        refine ⟨0, by omega, by simp only [upd_eq, Nat.reduceEqDiff, if_false, h0], rfl, fun i x y hi => by omega⟩
  · refine ⟨0, by omega, rfl, rfl, ?_⟩
    simp
theorem c_sViewFault (l : List ClaimM) (hl : l.length ≤ 1048576) : ∀ H, call Tryd.prog cfg0 0 45 [.lst false (l.map encClaim)] H = some (.v (.int .i64 (viewF l)), H) :=
  call_fz Tryd.func45 rfl ok_sViewFault rfl (by simp only [fz_cons, fz_nil, go_sem, and_self]) (p_sViewFault l hl)

end
end Go.Proofs.YtnejoidfbgklbaaDoor
namespace Go.Proofs.YtnejoidfbgklbaaDoor
open Go Go.RowKit Go.Proofs.YtnejoidfbgklbaaDoor.Eng
set_option linter.unusedSimpArgs false
set_option linter.unusedVariables false
set_option maxRecDepth 100000
set_option maxHeartbeats 1000000
noncomputable section
/-- Is a claim alive, and does it offer the service? -/
def offB (sv : Int) (c : ClaimM) : Bool := decide (c.Status = 0) && decide (c.Meta / 65536 = sv)
def recOf (kind : Int) (c : ClaimM) : RecordM := ⟨kind, c.Node, if kind = 33 then c.Meta % 65536 else 0⟩
def recsL (l : List ClaimM) (sv kind : Int) : List RecordM := (l.filter (offB sv)).map (recOf kind)
theorem recsL_take {l : List ClaimM} {j : Nat} {c : ClaimM} (sv kind : Int) (h : l[j]? = some c) : recsL (l.take (j + 1)) sv kind = recsL (l.take j) sv kind ++ if offB sv c = true then [recOf kind c] else [] := by
  unfold recsL
  rw [List.take_add_one, h, List.filter_append, List.map_append]
  congr 1
  by_cases hx : offB sv c = true
  · rw [if_pos hx]; simp [hx]
  · rw [if_neg hx]; simp [hx]
theorem recsL_len (l : List ClaimM) (sv kind : Int) : (recsL l sv kind).length ≤ l.length := by
  unfold recsL; rw [List.length_map]; exact List.length_filter_le _ _
/-- What is told of the claims. -/
def CMeta (l : List ClaimM) : Prop := ∀ c ∈ l, 0 ≤ c.Meta ∧ c.Meta ≤ 9223372036854775807
theorem off_no {sv : Int} {c : ClaimM} (h : ¬ (c.Status = 0 ∧ c.Meta / 65536 = sv)) : offB sv c = false := by
  unfold offB
  cases hh : decide (c.Status = 0) with
  | false => rfl
  | true =>
    simp only [decide_eq_true_eq] at hh
    simp only [Bool.true_and, decide_eq_false_iff_not]
    exact fun e => h ⟨hh, e⟩
theorem off_yes {sv : Int} {c : ClaimM} (h1 : c.Status = 0) (h2 : c.Meta / 65536 = sv) : offB sv c = true := by simp [offB, h1, h2]
theorem clean_recs {H : Hp} {x : AV} {l : List RecordM} {n : Nat} (h : RAcc H x 3 ((l.map encRecord).flatten) n) : clean H depthD x = true := by
  rcases h.2 with ⟨-, e⟩ | ⟨p, -, rfl, hh⟩
  · rcases e with rfl | rfl <;> rfl
  · show ((((H.h p).getD []).drop 0).take (n * 3)).all (clean H 11) = true
    rw [hh, List.all_eq_true]
    intro y hy
    have hy := List.mem_of_mem_drop (List.mem_of_mem_take hy)
    simp only [Option.getD_some, List.mem_flatten, List.mem_map] at hy
    obtain ⟨c, ⟨r, -, rfl⟩, hy⟩ := hy
    simp only [encRecord, List.mem_cons, List.not_mem_nil, or_false] at hy
    rcases hy with rfl | rfl | rfl <;> rfl
theorem ok_sl10Records : fnOk Tryd.prog cfg0 71 Tryd.f71 = true := by kernel_rfl
theorem p_sl10Records (l : List ClaimM) (hl : l.length ≤ 1048576) (hm : CMeta l) (sv kind : Int) : pure Tryd.prog cfg0 71 Tryd.f71 [.lst false (l.map encClaim), .v (.int .i64 sv), .v (.int .i64 kind)] = some (.lst false ((recsL l sv kind).map encRecord), true) := by
  refine pure_wp (rs := [.tmp 6]) rfl rfl ?_
  have hp0 : ∀ b, cfg0.pol 71 b = 0 := fun b => rfl
  repeat' (first | ((first | refine wSeqr ?_ | refine wIf ?_ | refine wReg ?_ | (refine wRet ?_; (try simp only [thenQ, blockQ]); refine ends_by ?_)); intro xx hx; have hc := trivial; (repeat' (simp only [hc, Nat.reduceBEq, go_sem, Nat.reduceAdd, Nat.reduceMul, Nat.reduceSub, Nat.reduceEqDiff, Nat.reduceLT, Nat.reduceLeDiff, Int.reduceEq, Int.reduceLT, Int.reduceLE, reduceIte, aresults, aresult, hp0] at hx; (try (rw [guardL_if] at hx; split at hx <;> rename_i hc)))); all_goals (subst hx; first | (refine ⟨_, rfl, fun ht => ?_, fun ht => ?_⟩ <;> (try simp only [bbs] at ht)) | (refine ⟨_, rfl, ?_⟩; (try simp only [tupOf])))) | refine wSkip ?_ | (refine wExit ?_; simp only [thenQ, blockQ, reduceIte, Nat.reduceEqDiff]) | refine wSeq ?_ | refine wBlock ?_)
  refine wLoop (fun k s => ∃ (j : Nat) (x : AV), j + k = l.length ∧ s.1 0 = .lst false (l.map encClaim) ∧ s.1 1 = .v (.int .i64 sv) ∧ s.1 2 = .v (.int .i64 kind) ∧ s.1 7 = x ∧ s.1 8 = .v (.int .i64 (j : Nat)) ∧ (RAcc s.2 x 3 (((recsL (l.take j) sv kind).map encRecord).flatten) (recsL (l.take j) sv kind).length)) (fun k s hI => ?_) (l.length) _ ?_
  · obtain ⟨e, H⟩ := s
    obtain ⟨j, x, hj, h0, h1, h2, h7, h8, hr⟩ := hI
    simp only at h0 h1 h2 h7 h8 hr
    have hlen := recsL_len (l.take j) sv kind
    rw [List.length_take] at hlen
    by_cases hlt : j < l.length
    · obtain ⟨c, hg, hd, hc⟩ := at_drop hlt
      have hg' := map_at (f := encClaim) hg
      have hm0 := hm c hc
      have hrt := recsL_take sv kind hg
      have hltI : ((j : Nat) : Int) < (l.length : Int) := by omega
      have w4 : IntKind.wrap .i64 ((j : Nat) + 1 : Int) = ((j + 1 : Nat) : Int) := wrap_succ (by omega)
      have t1 : IntKind.wrap .i64 (c.Meta.tdiv 65536) = c.Meta / 65536 := by rw [Int.tdiv_eq_ediv_of_nonneg (by omega)]; exact wrap_i64 (by omega) (by omega)
      have t2 : c.Meta.tmod 65536 = c.Meta % 65536 := Int.tmod_eq_emod_of_nonneg (by omega)
      by_cases ho : c.Status = 0 ∧ c.Meta / 65536 = sv
      · rw [if_pos (off_yes ho.1 ho.2)] at hrt
        have o1 := ho.1
        have o2 := ho.2
        by_cases hk : kind = 33
        · have hrec : recOf kind c = ⟨33, c.Node, c.Meta % 65536⟩ := by unfold recOf; rw [if_pos hk, hk]
          repeat' ((fail_if_success (first | refine wAt 9 ?_)); first | ((first | refine wSeqr ?_ | refine wIf ?_ | refine wReg ?_ | (refine wRet ?_; (try simp only [thenQ, blockQ]); refine ends_by ?_)); intro xx hx; have hc := trivial; (repeat' (simp only [hc, Nat.reduceBEq, go_sem, Nat.reduceAdd, Nat.reduceMul, Nat.reduceSub, Nat.reduceEqDiff, Nat.reduceLT, Nat.reduceLeDiff, Int.reduceEq, Int.reduceLT, Int.reduceLE, reduceIte, aresults, aresult, hp0, h0, h1, h2, h7, h8, hltI, hg', encClaim, t1, t2, o1, o2, hk, List.length_map] at hx; (try (rw [guardL_if] at hx; split at hx <;> rename_i hc)))); all_goals (subst hx; first | (refine ⟨_, rfl, fun ht => ?_, fun ht => ?_⟩ <;> (try simp only [bbs] at ht)) | (refine ⟨_, rfl, ?_⟩; (try simp only [tupOf])))) | refine wSkip ?_ | (refine wExit ?_; simp only [thenQ, blockQ, reduceIte, Nat.reduceEqDiff]) | refine wSeq ?_ | refine wBlock ?_)
          all_goals try (exfalso; (try simp only [bbs] at *); first | omega | exact absurd trivial (by assumption))
          (first | refine wSeqr ?_ | refine wReg ?_); intro xx hx; have hc := trivial; (repeat' (simp only [hc, Nat.reduceBEq, go_sem, Nat.reduceAdd, Nat.reduceMul, Nat.reduceSub, Nat.reduceEqDiff, Nat.reduceLT, Nat.reduceLeDiff, Int.reduceEq, Int.reduceLT, Int.reduceLE, reduceIte, aresults, aresult, hp0, h7] at hx; (try (rw [guardL_if] at hx; split at hx <;> rename_i hc)))); generalize hq : aappend Tryd.prog _ _ _ _ = q at hx
          obtain ⟨x', K2, rfl, hacc, hg2, hk2, ho2⟩ := app_rows hq el23 zero57 by57 int23 (sz := 3) rfl (by omega) (hr.ext ⟨by simp only [Hp.set_g, Hp.new_g]; omega, fun b hb => by simp only [Hp.set_h, Hp.new_h]; (repeat' split) <;> first | omega | rfl⟩) (m := 1) rfl (afirst_one _ _ (encRecord ⟨33, c.Node, c.Meta % 65536⟩)) rfl (by omega) (by omega)
          clear hq
          have hc := trivial; (repeat' (simp only [hc, Nat.reduceBEq, go_sem, Nat.reduceAdd, Nat.reduceMul, Nat.reduceSub, Nat.reduceEqDiff, Nat.reduceLT, Nat.reduceLeDiff, Int.reduceEq, Int.reduceLT, Int.reduceLE, reduceIte, aresults, aresult, hp0] at hx; (try (rw [guardL_if] at hx; split at hx <;> rename_i hc)))); all_goals (subst hx; refine ⟨_, rfl, ?_⟩)
          repeat' (first | ((first | refine wSeqr ?_ | refine wIf ?_ | refine wReg ?_ | (refine wRet ?_; (try simp only [thenQ, blockQ]); refine ends_by ?_)); intro xx hx; have hc := trivial; (repeat' (simp only [hc, Nat.reduceBEq, go_sem, Nat.reduceAdd, Nat.reduceMul, Nat.reduceSub, Nat.reduceEqDiff, Nat.reduceLT, Nat.reduceLeDiff, Int.reduceEq, Int.reduceLT, Int.reduceLE, reduceIte, aresults, aresult, hp0, h8, w4] at hx; (try (rw [guardL_if] at hx; split at hx <;> rename_i hc)))); all_goals (subst hx; first | (refine ⟨_, rfl, fun ht => ?_, fun ht => ?_⟩ <;> (try simp only [bbs] at ht)) | (refine ⟨_, rfl, ?_⟩; (try simp only [tupOf])))) | refine wSkip ?_ | (refine wExit ?_; simp only [thenQ, blockQ, reduceIte, Nat.reduceEqDiff]) | refine wSeq ?_ | refine wBlock ?_)
          all_goals try (exfalso; (try simp only [bbs] at *); first | omega | exact absurd trivial (by assumption))
          refine ⟨_, Nat.sub_lt (by omega) Nat.one_pos, j + 1, x', by omega, by simp only [upd_eq, Nat.reduceEqDiff, if_false, if_true, h0, h1, h2, h7, h8], by simp only [upd_eq, Nat.reduceEqDiff, if_false, if_true, h0, h1, h2, h7, h8], by simp only [upd_eq, Nat.reduceEqDiff, if_false, if_true, h0, h1, h2, h7, h8], by simp only [upd_eq, Nat.reduceEqDiff, if_false, if_true, h0, h1, h2, h7, h8], by simp only [upd_eq, Nat.reduceEqDiff, if_false, if_true, h0, h1, h2, h7, h8], ?_⟩
          rw [hrt, List.map_append, List.flatten_append, List.length_append, hrec]
          simpa using hacc
        · have hrec : recOf kind c = ⟨kind, c.Node, 0⟩ := by unfold recOf; rw [if_neg hk]
          repeat' ((fail_if_success (first | refine wAt 9 ?_)); first | ((first | refine wSeqr ?_ | refine wIf ?_ | refine wReg ?_ | (refine wRet ?_; (try simp only [thenQ, blockQ]); refine ends_by ?_)); intro xx hx; have hc := trivial; (repeat' (simp only [hc, Nat.reduceBEq, go_sem, Nat.reduceAdd, Nat.reduceMul, Nat.reduceSub, Nat.reduceEqDiff, Nat.reduceLT, Nat.reduceLeDiff, Int.reduceEq, Int.reduceLT, Int.reduceLE, reduceIte, aresults, aresult, hp0, h0, h1, h2, h7, h8, hltI, hg', encClaim, t1, t2, o1, o2, hk, List.length_map] at hx; (try (rw [guardL_if] at hx; split at hx <;> rename_i hc)))); all_goals (subst hx; first | (refine ⟨_, rfl, fun ht => ?_, fun ht => ?_⟩ <;> (try simp only [bbs] at ht)) | (refine ⟨_, rfl, ?_⟩; (try simp only [tupOf])))) | refine wSkip ?_ | (refine wExit ?_; simp only [thenQ, blockQ, reduceIte, Nat.reduceEqDiff]) | refine wSeq ?_ | refine wBlock ?_)
          all_goals try (exfalso; (try simp only [bbs] at *); first | omega | exact absurd trivial (by assumption))
          (first | refine wSeqr ?_ | refine wReg ?_); intro xx hx; have hc := trivial; (repeat' (simp only [hc, Nat.reduceBEq, go_sem, Nat.reduceAdd, Nat.reduceMul, Nat.reduceSub, Nat.reduceEqDiff, Nat.reduceLT, Nat.reduceLeDiff, Int.reduceEq, Int.reduceLT, Int.reduceLE, reduceIte, aresults, aresult, hp0, h7] at hx; (try (rw [guardL_if] at hx; split at hx <;> rename_i hc)))); generalize hq : aappend Tryd.prog _ _ _ _ = q at hx
          obtain ⟨x', K2, rfl, hacc, hg2, hk2, ho2⟩ := app_rows hq el23 zero57 by57 int23 (sz := 3) rfl (by omega) (hr.ext ⟨by simp only [Hp.set_g, Hp.new_g]; omega, fun b hb => by simp only [Hp.set_h, Hp.new_h]; (repeat' split) <;> first | omega | rfl⟩) (m := 1) rfl (afirst_one _ _ (encRecord ⟨kind, c.Node, 0⟩)) rfl (by omega) (by omega)
          clear hq
          have hc := trivial; (repeat' (simp only [hc, Nat.reduceBEq, go_sem, Nat.reduceAdd, Nat.reduceMul, Nat.reduceSub, Nat.reduceEqDiff, Nat.reduceLT, Nat.reduceLeDiff, Int.reduceEq, Int.reduceLT, Int.reduceLE, reduceIte, aresults, aresult, hp0] at hx; (try (rw [guardL_if] at hx; split at hx <;> rename_i hc)))); all_goals (subst hx; refine ⟨_, rfl, ?_⟩)
          repeat' (first | ((first | refine wSeqr ?_ | refine wIf ?_ | refine wReg ?_ | (refine wRet ?_; (try simp only [thenQ, blockQ]); refine ends_by ?_)); intro xx hx; have hc := trivial; (repeat' (simp only [hc, Nat.reduceBEq, go_sem, Nat.reduceAdd, Nat.reduceMul, Nat.reduceSub, Nat.reduceEqDiff, Nat.reduceLT, Nat.reduceLeDiff, Int.reduceEq, Int.reduceLT, Int.reduceLE, reduceIte, aresults, aresult, hp0, h8, w4] at hx; (try (rw [guardL_if] at hx; split at hx <;> rename_i hc)))); all_goals (subst hx; first | (refine ⟨_, rfl, fun ht => ?_, fun ht => ?_⟩ <;> (try simp only [bbs] at ht)) | (refine ⟨_, rfl, ?_⟩; (try simp only [tupOf])))) | refine wSkip ?_ | (refine wExit ?_; simp only [thenQ, blockQ, reduceIte, Nat.reduceEqDiff]) | refine wSeq ?_ | refine wBlock ?_)
          all_goals try (exfalso; (try simp only [bbs] at *); first | omega | exact absurd trivial (by assumption))
          refine ⟨_, Nat.sub_lt (by omega) Nat.one_pos, j + 1, x', by omega, by simp only [upd_eq, Nat.reduceEqDiff, if_false, if_true, h0, h1, h2, h7, h8], by simp only [upd_eq, Nat.reduceEqDiff, if_false, if_true, h0, h1, h2, h7, h8], by simp only [upd_eq, Nat.reduceEqDiff, if_false, if_true, h0, h1, h2, h7, h8], by simp only [upd_eq, Nat.reduceEqDiff, if_false, if_true, h0, h1, h2, h7, h8], by simp only [upd_eq, Nat.reduceEqDiff, if_false, if_true, h0, h1, h2, h7, h8], ?_⟩
          rw [hrt, List.map_append, List.flatten_append, List.length_append, hrec]
          simpa using hacc
      · rw [if_neg (by rw [off_no ho]; simp), List.append_nil] at hrt
        repeat' (first | ((first | refine wSeqr ?_ | refine wIf ?_ | refine wReg ?_ | (refine wRet ?_; (try simp only [thenQ, blockQ]); refine ends_by ?_)); intro xx hx; have hc := trivial; (repeat' (simp only [hc, Nat.reduceBEq, go_sem, Nat.reduceAdd, Nat.reduceMul, Nat.reduceSub, Nat.reduceEqDiff, Nat.reduceLT, Nat.reduceLeDiff, Int.reduceEq, Int.reduceLT, Int.reduceLE, reduceIte, aresults, aresult, hp0, h0, h1, h2, h7, h8, hltI, hg', encClaim, t1, t2, w4, List.length_map] at hx; (try (rw [guardL_if] at hx; split at hx <;> rename_i hc)))); all_goals (subst hx; first | (refine ⟨_, rfl, fun ht => ?_, fun ht => ?_⟩ <;> (try simp only [bbs] at ht)) | (refine ⟨_, rfl, ?_⟩; (try simp only [tupOf])))) | refine wSkip ?_ | (refine wExit ?_; simp only [thenQ, blockQ, reduceIte, Nat.reduceEqDiff]) | refine wSeq ?_ | refine wBlock ?_)
        all_goals try (exfalso; (try simp only [bbs] at *); first | omega | exact absurd trivial (by assumption))
        all_goals first
          | (exfalso; apply ho; (try simp only [bbs] at *); constructor <;> first | assumption | omega | (simp_all; done))
          | skip
        all_goals (refine ⟨_, Nat.sub_lt (by omega) Nat.one_pos, j + 1, x, by omega, by simp only [upd_eq, Nat.reduceEqDiff, if_false, if_true, h0, h1, h2, h7, h8], by simp only [upd_eq, Nat.reduceEqDiff, if_false, if_true, h0, h1, h2, h7, h8], by simp only [upd_eq, Nat.reduceEqDiff, if_false, if_true, h0, h1, h2, h7, h8], by simp only [upd_eq, Nat.reduceEqDiff, if_false, if_true, h0, h1, h2, h7, h8], by simp only [upd_eq, Nat.reduceEqDiff, if_false, if_true, h0, h1, h2, h7, h8], ?_⟩; rw [hrt]; exact hr)
    · have hj' : j = l.length := by omega
      have hltI : ¬ ((j : Nat) : Int) < (l.length : Int) := by omega
      repeat' (first | ((first | refine wSeqr ?_ | refine wIf ?_ | refine wReg ?_ | (refine wRet ?_; (try simp only [thenQ, blockQ]); refine ends_by ?_)); intro xx hx; have hc := trivial; (repeat' (simp only [hc, Nat.reduceBEq, go_sem, Nat.reduceAdd, Nat.reduceMul, Nat.reduceSub, Nat.reduceEqDiff, Nat.reduceLT, Nat.reduceLeDiff, Int.reduceEq, Int.reduceLT, Int.reduceLE, reduceIte, aresults, aresult, hp0, h0, h7, h8, hltI, List.length_map] at hx; (try (rw [guardL_if] at hx; split at hx <;> rename_i hc)))); all_goals (subst hx; first | (refine ⟨_, rfl, fun ht => ?_, fun ht => ?_⟩ <;> (try simp only [bbs] at ht)) | (refine ⟨_, rfl, ?_⟩; (try simp only [tupOf])))) | refine wSkip ?_ | (refine wExit ?_; simp only [thenQ, blockQ, reduceIte, Nat.reduceEqDiff]) | refine wSeq ?_ | refine wBlock ?_)
      all_goals try (exfalso; (try simp only [bbs] at *); first | omega | exact absurd trivial (by assumption))
      rw [hj', List.take_length] at hr
      exact ⟨deep_racc (d := 11) hr rfl (by omega) (fun _ => rfl) (fun k x hx => fzE_Record 10 k x hx), clean_recs hr⟩
  · exact ⟨0, .lst true [], by omega, rfl, rfl, rfl, rfl, rfl, RAcc.lst⟩
theorem c_sl10Records (l : List ClaimM) (hl : l.length ≤ 1048576) (hm : CMeta l) (sv kind : Int) : ∀ H, call Tryd.prog cfg0 0 71 [.lst false (l.map encClaim), .v (.int .i64 sv), .v (.int .i64 kind)] H = some (.lst false ((recsL l sv kind).map encRecord), H) :=
  call_fz Tryd.func71 rfl ok_sl10Records rfl (by simp only [fz_cons, fz_nil, go_sem, and_self]) (p_sl10Records l hl hm sv kind)

end
end Go.Proofs.YtnejoidfbgklbaaDoor
namespace Go.Proofs.YtnejoidfbgklbaaDoor
open Go Go.RowKit Go.Proofs.YtnejoidfbgklbaaDoor.Eng
set_option linter.unusedSimpArgs false
set_option linter.unusedVariables false
set_option maxRecDepth 100000
set_option maxHeartbeats 1000000
noncomputable section
def typB (k : Int) : Bool := decide (k = 1) || decide (k = 33)
theorem ok_iisType : fnOk Tryd.prog cfg0 65 Tryd.f65 = true := by kernel_rfl
theorem p_iisType (k : Int) : pure Tryd.prog cfg0 65 Tryd.f65 [.v (.int .i64 k)] = some (.v (.bool (typB k)), true) := by
  refine pure_wp (rs := [.tmp 2]) rfl rfl ?_
  have hp0 : ∀ b, cfg0.pol 65 b = 0 := fun b => rfl
  repeat' (first | ((first | refine wSeqr ?_ | refine wIf ?_ | refine wReg ?_ | (refine wRet ?_; (try simp only [thenQ, blockQ]); refine ends_by ?_)); intro xx hx; have hc := trivial; (repeat' (simp only [hc, Nat.reduceBEq, go_sem, Nat.reduceAdd, Nat.reduceMul, Nat.reduceSub, Nat.reduceEqDiff, Nat.reduceLT, Nat.reduceLeDiff, Int.reduceEq, Int.reduceLT, Int.reduceLE, reduceIte, aresults, aresult, hp0] at hx; (try (rw [guardL_if] at hx; split at hx <;> rename_i hc)))); all_goals (subst hx; first | (refine ⟨_, rfl, fun ht => ?_, fun ht => ?_⟩ <;> (try simp only [bbs] at ht)) | (refine ⟨_, rfl, ?_⟩; (try simp only [tupOf])))) | refine wSkip ?_ | (refine wExit ?_; simp only [thenQ, blockQ, reduceIte, Nat.reduceEqDiff]) | refine wSeq ?_ | refine wBlock ?_)
  all_goals (refine gives_boolv ?_; simp_all [typB])
theorem c_iisType (k : Int) : ∀ H, call Tryd.prog cfg0 0 65 [.v (.int .i64 k)] H = some (.v (.bool (typB k)), H) :=
  call_fz Tryd.func65 rfl ok_iisType rfl (by simp only [fz_cons, fz_nil, go_sem, and_self]) (p_iisType k)

def rfC (l : List ClaimM) (sv kind : Int) : Int := if viewF l = 0 then if inB sv 0 99 = true ∧ typB kind = true then 0 else 3 else viewF l
def rfL (l : List ClaimM) (sv kind : Int) : List RecordM := if rfC l sv kind = 0 then recsL l sv kind else []
theorem viewF_meta {l : List ClaimM} (h : viewF l = 0) : CMeta l := fun c hc => by
  have := (viewF_ok h).2 c hc
  unfold claimFault claimOk at this
  split at this
  · rename_i h; simp only [Bool.and_eq_true, inB_t] at h; omega
  · omega
def rfR (l : List ClaimM) (sv kind : Int) : AV := .agg [.v (.int .i64 (rfC l sv kind)), .lst false ((rfL l sv kind).map encRecord)]
theorem rfR_c {l : List ClaimM} {sv kind c : Int} (h : rfC l sv kind = c) (hc : ¬ c = 0) : rfR l sv kind = .agg [.v (.int .i64 c), .lst false []] := by unfold rfR rfL; rw [h, if_neg hc]; rfl
theorem rfR_0 {l : List ClaimM} {sv kind : Int} (h : rfC l sv kind = 0) : rfR l sv kind = .agg [.v (.int .i64 0), .lst false ((recsL l sv kind).map encRecord)] := by unfold rfR rfL; rw [h, if_pos rfl]
theorem fz_rr (c : Int) (l : List RecordM) : Fz depthD (.agg [.v (.int .i64 c), .lst false (l.map encRecord)]) := Fz.agg (n := 11) fun x hx => by
  simp only [List.mem_cons, List.not_mem_nil, or_false] at hx
  rcases hx with rfl | rfl
  · exact Fz.int _ _ _
  · exact fz_rows (n := 10) (fun k => fzE_Record 9 k) l
theorem d_rr {c : Int} {H : Hp} {x : AV} {l : List RecordM} {n : Nat} (h : RAcc H x 3 ((l.map encRecord).flatten) n) (hn : n = l.length) : deep H depthD (.agg [.v (.int .i64 c), x]) = some (.agg [.v (.int .i64 c), .lst false (l.map encRecord)]) := by
  show ([AV.v (.int .i64 c), x].mapM (deep H 11)).map AV.agg = _
  have h2 : deep H 11 x = some (.lst false (l.map encRecord)) := deep_racc (d := 10) h hn (by omega) (fun _ => rfl) (fun k x hx => fzE_Record 9 k x hx)
  simp only [List.mapM_cons, List.mapM_nil, h2, Option.pure_def, Option.bind_eq_bind, Option.bind_some, Option.map_some]
  rfl
-- not here: spec_RecordsFor
theorem ok_iRecordsFor : fnOk Tryd.prog cfg0 51 Tryd.f51 = true := by kernel_rfl
theorem p_iRecordsFor (l : List ClaimM) (hl : l.length ≤ 1048576) (sv kind : Int) : ∃ cl, pure Tryd.prog cfg0 51 Tryd.f51 [.lst false (l.map encClaim), .v (.int .i64 sv), .v (.int .i64 kind)] = some (rfR l sv kind, cl) := by
  have key : ∃ v cl, v = (rfR l sv kind : AV) ∧ pure Tryd.prog cfg0 51 Tryd.f51 [.lst false (l.map encClaim), .v (.int .i64 sv), .v (.int .i64 kind)] = some (v, cl) := by
    refine pure_ex (rs := [.cell 6 87]) rfl rfl ?_
    have hp0 : ∀ b, cfg0.pol 51 b = 0 := fun b => rfl
    have hv := c_iViewFault l hl
    by_cases hf : viewF l = 0
    · by_cases hs : inB sv 0 99 = true
      · by_cases hk : typB kind = true
        · have hm := viewF_meta hf
          rw [rfR_0 (by unfold rfC; rw [if_pos hf, if_pos ⟨hs, hk⟩])]
          repeat' ((fail_if_success (first | refine wAt 8 ?_ | refine wAt 16 ?_)); first | ((first | refine wSeqr ?_ | refine wIf ?_ | refine wReg ?_ | (refine wRet ?_; (try simp only [thenQ, blockQ]); refine ends_by ?_)); intro xx hx; have hc := trivial; (repeat' (simp only [hc, Nat.reduceBEq, go_sem, Nat.reduceAdd, Nat.reduceMul, Nat.reduceSub, Nat.reduceEqDiff, Nat.reduceLT, Nat.reduceLeDiff, Int.reduceEq, Int.reduceLT, Int.reduceLE, reduceIte, aresults, aresult, hp0, hv, hf, c_iin, c_iisType, hs, hk, Bool.not_true, List.length_map] at hx; (try (rw [guardL_if] at hx; split at hx <;> rename_i hc)))); all_goals (subst hx; first | (refine ⟨_, rfl, fun ht => ?_, fun ht => ?_⟩ <;> (try simp only [bbs] at ht)) | (refine ⟨_, rfl, ?_⟩; (try simp only [tupOf])))) | refine wSkip ?_ | (refine wExit ?_; simp only [thenQ, blockQ, reduceIte, Nat.reduceEqDiff]) | refine wSeq ?_ | refine wBlock ?_)
          all_goals try (exfalso; (try simp only [bbs] at *); first | omega | exact absurd trivial (by assumption))
          refine wLoop (fun k s => ∃ (j : Nat) (x : AV), j + k = l.length ∧ s.1 1 = .v (.int .i64 sv) ∧ s.1 2 = .v (.int .i64 kind) ∧ s.1 6 = .ptr 0 0 ∧ s.1 8 = .ptr 1 0 ∧ s.1 28 = .lst false (l.map encClaim) ∧ s.1 29 = .v (.int .i64 (l.length : Nat)) ∧ s.1 30 = .v (.int .i64 (j : Nat)) ∧ (RAcc s.2 x 3 (((recsL (l.take j) sv kind).map encRecord).flatten) (recsL (l.take j) sv kind).length) ∧ (s.2.h 0 = some [.v (.int .i64 0), .v (.slice none 0 0)] ∧ s.2.h 1 = some [.v (.int .i64 0), x] ∧ 1 < s.2.g) ∧ (Off 0 x ∧ Off 1 x)) (fun k s hI => ?_) (l.length) _ ?_
          · obtain ⟨e, H⟩ := s
            obtain ⟨j, x, hj, h1, h2, h6, h8, h28, h29, h30, hr, hb, hoff⟩ := hI
            simp only at h1 h2 h6 h8 h28 h29 h30 hr hb hoff
            obtain ⟨hb0, hb1, hgg⟩ := hb
            have n1 : (1 = H.g) = False := eq_false (by omega)
            have n2 : (1 = H.g + 1) = False := eq_false (by omega)
            have m1 : (0 = H.g) = False := eq_false (by omega)
            have m2 : (0 = H.g + 1) = False := eq_false (by omega)
            have e1 : (H.g = H.g + 1) = False := eq_false (by omega)
            have hlen := recsL_len (l.take j) sv kind
            rw [List.length_take] at hlen
            by_cases hlt : j < l.length
            · obtain ⟨c, hg, hd, hc⟩ := at_drop hlt
              have hg' := map_at (f := encClaim) hg
              have hm0 := hm c hc
              have hrt := recsL_take sv kind hg
              have hltI : ((j : Nat) : Int) < (l.length : Int) := by omega
              have w4 : IntKind.wrap .i64 ((j : Nat) + 1 : Int) = ((j + 1 : Nat) : Int) := wrap_succ (by omega)
              have t1 : IntKind.wrap .i64 (c.Meta.tdiv 65536) = c.Meta / 65536 := by rw [Int.tdiv_eq_ediv_of_nonneg (by omega)]; exact wrap_i64 (by omega) (by omega)
              have t2 : c.Meta.tmod 65536 = c.Meta % 65536 := Int.tmod_eq_emod_of_nonneg (by omega)
              by_cases ho : c.Status = 0 ∧ c.Meta / 65536 = sv
              · rw [if_pos (off_yes ho.1 ho.2)] at hrt
                have o1 : (c.Status = 0) = True := eq_true ho.1
                have o2 : (c.Meta / 65536 = sv) = True := eq_true ho.2
                by_cases hk3 : kind = 33
                · have hrec : recOf kind c = ⟨kind, c.Node, c.Meta % 65536⟩ := by unfold recOf; rw [if_pos hk3]
                  have k3 : (kind = 33) = True := eq_true hk3
                  repeat' ((fail_if_success (first | refine wAt 14 ?_)); first | ((first | refine wSeqr ?_ | refine wIf ?_ | refine wReg ?_ | (refine wRet ?_; (try simp only [thenQ, blockQ]); refine ends_by ?_)); intro xx hx; have hc := trivial; (repeat' (simp only [hc, Nat.reduceBEq, go_sem, Nat.reduceAdd, Nat.reduceMul, Nat.reduceSub, Nat.reduceEqDiff, Nat.reduceLT, Nat.reduceLeDiff, Int.reduceEq, Int.reduceLT, Int.reduceLE, reduceIte, aresults, aresult, hp0, h1, h2, h6, h8, h28, h29, h30, hltI, hg', encClaim, t1, t2, o1, o2, k3, e1, not_true_eq_false, decide_false, List.length_map] at hx; (try (rw [guardL_if] at hx; split at hx <;> rename_i hc)))); all_goals (subst hx; first | (refine ⟨_, rfl, fun ht => ?_, fun ht => ?_⟩ <;> (try simp only [bbs] at ht)) | (refine ⟨_, rfl, ?_⟩; (try simp only [tupOf])))) | refine wSkip ?_ | (refine wExit ?_; simp only [thenQ, blockQ, reduceIte, Nat.reduceEqDiff]) | refine wSeq ?_ | refine wBlock ?_)
                  all_goals try (exfalso; (try simp only [bbs] at *); first | omega | exact absurd trivial (by assumption))
                  (first | refine wSeqr ?_ | refine wReg ?_); intro xx hx; have hc := trivial; (repeat' (simp only [hc, Nat.reduceBEq, go_sem, Nat.reduceAdd, Nat.reduceMul, Nat.reduceSub, Nat.reduceEqDiff, Nat.reduceLT, Nat.reduceLeDiff, Int.reduceEq, Int.reduceLT, Int.reduceLE, reduceIte, aresults, aresult, hp0, h8, hb1, n1, n2] at hx; (try (rw [guardL_if] at hx; split at hx <;> rename_i hc)))); generalize hq : aappend Tryd.prog _ _ _ _ = q at hx
                  obtain ⟨x', K2, rfl, hacc, hg2, hk2, ho2⟩ := app_rows hq el23 zero57 by57 int23 (sz := 3) rfl (by omega) (hr.ext ⟨by simp only [Hp.set_g, Hp.new_g]; omega, fun b hb => by simp only [Hp.set_h, Hp.new_h]; (repeat' split) <;> first | rfl | (exfalso; rename_i hb1 hb2; simp only [Hp.set_g, Hp.new_g] at hb1 hb2; omega) | (exfalso; rename_i hb1; simp only [Hp.set_g, Hp.new_g] at hb1; omega) | omega⟩) (m := 1) rfl (afirst_one _ _ (encRecord ⟨kind, c.Node, c.Meta % 65536⟩)) rfl (by omega) (by omega)
                  clear hq
                  have gg : 1 < K2.g := by simp only [Hp.set_g, Hp.new_g] at hg2; omega
                  have k0 : K2.h 0 = some [.v (.int .i64 0), .v (.slice none 0 0)] := (hk2 0 (by simp only [Hp.set_g, Hp.new_g]; omega) hoff.1).trans (by simp only [Hp.set_h, Hp.new_h, Hp.set_g, Hp.new_g, n1, n2, m1, m2, if_false]; exact hb0)
                  have k1 : K2.h 1 = some [.v (.int .i64 0), x] := (hk2 1 (by simp only [Hp.set_g, Hp.new_g]; omega) hoff.2).trans (by simp only [Hp.set_h, Hp.new_h, Hp.set_g, Hp.new_g, n1, n2, m1, m2, if_false]; exact hb1)
                  have o0 : Off 0 x' := ho2 0 (by simp only [Hp.set_g, Hp.new_g]; omega) hoff.1
                  have o1' : Off 1 x' := ho2 1 (by simp only [Hp.set_g, Hp.new_g]; omega) hoff.2
                  have xok := hacc.one
                  have hc := trivial; (repeat' (simp only [hc, Nat.reduceBEq, go_sem, Nat.reduceAdd, Nat.reduceMul, Nat.reduceSub, Nat.reduceEqDiff, Nat.reduceLT, Nat.reduceLeDiff, Int.reduceEq, Int.reduceLT, Int.reduceLE, reduceIte, aresults, aresult, hp0, h8, k1, xok.1, xok.2] at hx; (try (rw [guardL_if] at hx; split at hx <;> rename_i hc)))); all_goals (subst hx; refine ⟨_, rfl, ?_⟩)
                  repeat' (first | ((first | refine wSeqr ?_ | refine wIf ?_ | refine wReg ?_ | (refine wRet ?_; (try simp only [thenQ, blockQ]); refine ends_by ?_)); intro xx hx; have hc := trivial; (repeat' (simp only [hc, Nat.reduceBEq, go_sem, Nat.reduceAdd, Nat.reduceMul, Nat.reduceSub, Nat.reduceEqDiff, Nat.reduceLT, Nat.reduceLeDiff, Int.reduceEq, Int.reduceLT, Int.reduceLE, reduceIte, aresults, aresult, hp0, h30, w4] at hx; (try (rw [guardL_if] at hx; split at hx <;> rename_i hc)))); all_goals (subst hx; first | (refine ⟨_, rfl, fun ht => ?_, fun ht => ?_⟩ <;> (try simp only [bbs] at ht)) | (refine ⟨_, rfl, ?_⟩; (try simp only [tupOf])))) | refine wSkip ?_ | (refine wExit ?_; simp only [thenQ, blockQ, reduceIte, Nat.reduceEqDiff]) | refine wSeq ?_ | refine wBlock ?_)
                  all_goals try (exfalso; (try simp only [bbs] at *); first | omega | exact absurd trivial (by assumption))
                  refine ⟨_, Nat.sub_lt (by omega) Nat.one_pos, j + 1, x', by omega, by simp only [upd_eq, Nat.reduceEqDiff, if_false, if_true, h1, h2, h6, h8, h28, h29, h30], by simp only [upd_eq, Nat.reduceEqDiff, if_false, if_true, h1, h2, h6, h8, h28, h29, h30], by simp only [upd_eq, Nat.reduceEqDiff, if_false, if_true, h1, h2, h6, h8, h28, h29, h30], by simp only [upd_eq, Nat.reduceEqDiff, if_false, if_true, h1, h2, h6, h8, h28, h29, h30], by simp only [upd_eq, Nat.reduceEqDiff, if_false, if_true, h1, h2, h6, h8, h28, h29, h30], by simp only [upd_eq, Nat.reduceEqDiff, if_false, if_true, h1, h2, h6, h8, h28, h29, h30], by simp only [upd_eq, Nat.reduceEqDiff, if_false, if_true, h1, h2, h6, h8, h28, h29, h30], ?_⟩
                  refine ⟨?_, ⟨by rw [Hp.set_h, if_neg (by omega)]; exact k0, by rw [Hp.set_h, if_pos rfl], gg⟩, o0, o1'⟩
                  rw [hrt, List.map_append, List.flatten_append, List.length_append, hrec]
                  simpa using hacc.setOff o1' _
                · have hrec : recOf kind c = ⟨kind, c.Node, 0⟩ := by unfold recOf; rw [if_neg hk3]
                  repeat' ((fail_if_success (first | refine wAt 14 ?_)); first | ((first | refine wSeqr ?_ | refine wIf ?_ | refine wReg ?_ | (refine wRet ?_; (try simp only [thenQ, blockQ]); refine ends_by ?_)); intro xx hx; have hc := trivial; (repeat' (simp only [hc, Nat.reduceBEq, go_sem, Nat.reduceAdd, Nat.reduceMul, Nat.reduceSub, Nat.reduceEqDiff, Nat.reduceLT, Nat.reduceLeDiff, Int.reduceEq, Int.reduceLT, Int.reduceLE, reduceIte, aresults, aresult, hp0, h1, h2, h6, h8, h28, h29, h30, hltI, hg', encClaim, t1, t2, o1, o2, hk3, e1, not_true_eq_false, decide_false, List.length_map] at hx; (try (rw [guardL_if] at hx; split at hx <;> rename_i hc)))); all_goals (subst hx; first | (refine ⟨_, rfl, fun ht => ?_, fun ht => ?_⟩ <;> (try simp only [bbs] at ht)) | (refine ⟨_, rfl, ?_⟩; (try simp only [tupOf])))) | refine wSkip ?_ | (refine wExit ?_; simp only [thenQ, blockQ, reduceIte, Nat.reduceEqDiff]) | refine wSeq ?_ | refine wBlock ?_)
                  all_goals try (exfalso; (try simp only [bbs] at *); first | omega | exact absurd trivial (by assumption))
                  (first | refine wSeqr ?_ | refine wReg ?_); intro xx hx; have hc := trivial; (repeat' (simp only [hc, Nat.reduceBEq, go_sem, Nat.reduceAdd, Nat.reduceMul, Nat.reduceSub, Nat.reduceEqDiff, Nat.reduceLT, Nat.reduceLeDiff, Int.reduceEq, Int.reduceLT, Int.reduceLE, reduceIte, aresults, aresult, hp0, h8, hb1, n1, n2] at hx; (try (rw [guardL_if] at hx; split at hx <;> rename_i hc)))); generalize hq : aappend Tryd.prog _ _ _ _ = q at hx
                  obtain ⟨x', K2, rfl, hacc, hg2, hk2, ho2⟩ := app_rows hq el23 zero57 by57 int23 (sz := 3) rfl (by omega) (hr.ext ⟨by simp only [Hp.set_g, Hp.new_g]; omega, fun b hb => by simp only [Hp.set_h, Hp.new_h]; (repeat' split) <;> first | rfl | (exfalso; rename_i hb1 hb2; simp only [Hp.set_g, Hp.new_g] at hb1 hb2; omega) | (exfalso; rename_i hb1; simp only [Hp.set_g, Hp.new_g] at hb1; omega) | omega⟩) (m := 1) rfl (afirst_one _ _ (encRecord ⟨kind, c.Node, 0⟩)) rfl (by omega) (by omega)
                  clear hq
                  have gg : 1 < K2.g := by simp only [Hp.set_g, Hp.new_g] at hg2; omega
                  have k0 : K2.h 0 = some [.v (.int .i64 0), .v (.slice none 0 0)] := (hk2 0 (by simp only [Hp.set_g, Hp.new_g]; omega) hoff.1).trans (by simp only [Hp.set_h, Hp.new_h, Hp.set_g, Hp.new_g, n1, n2, m1, m2, if_false]; exact hb0)
                  have k1 : K2.h 1 = some [.v (.int .i64 0), x] := (hk2 1 (by simp only [Hp.set_g, Hp.new_g]; omega) hoff.2).trans (by simp only [Hp.set_h, Hp.new_h, Hp.set_g, Hp.new_g, n1, n2, m1, m2, if_false]; exact hb1)
                  have o0 : Off 0 x' := ho2 0 (by simp only [Hp.set_g, Hp.new_g]; omega) hoff.1
                  have o1' : Off 1 x' := ho2 1 (by simp only [Hp.set_g, Hp.new_g]; omega) hoff.2
                  have xok := hacc.one
                  have hc := trivial; (repeat' (simp only [hc, Nat.reduceBEq, go_sem, Nat.reduceAdd, Nat.reduceMul, Nat.reduceSub, Nat.reduceEqDiff, Nat.reduceLT, Nat.reduceLeDiff, Int.reduceEq, Int.reduceLT, Int.reduceLE, reduceIte, aresults, aresult, hp0, h8, k1, xok.1, xok.2] at hx; (try (rw [guardL_if] at hx; split at hx <;> rename_i hc)))); all_goals (subst hx; refine ⟨_, rfl, ?_⟩)
                  repeat' (first | ((first | refine wSeqr ?_ | refine wIf ?_ | refine wReg ?_ | (refine wRet ?_; (try simp only [thenQ, blockQ]); refine ends_by ?_)); intro xx hx; have hc := trivial; (repeat' (simp only [hc, Nat.reduceBEq, go_sem, Nat.reduceAdd, Nat.reduceMul, Nat.reduceSub, Nat.reduceEqDiff, Nat.reduceLT, Nat.reduceLeDiff, Int.reduceEq, Int.reduceLT, Int.reduceLE, reduceIte, aresults, aresult, hp0, h30, w4] at hx; (try (rw [guardL_if] at hx; split at hx <;> rename_i hc)))); all_goals (subst hx; first | (refine ⟨_, rfl, fun ht => ?_, fun ht => ?_⟩ <;> (try simp only [bbs] at ht)) | (refine ⟨_, rfl, ?_⟩; (try simp only [tupOf])))) | refine wSkip ?_ | (refine wExit ?_; simp only [thenQ, blockQ, reduceIte, Nat.reduceEqDiff]) | refine wSeq ?_ | refine wBlock ?_)
                  all_goals try (exfalso; (try simp only [bbs] at *); first | omega | exact absurd trivial (by assumption))
                  refine ⟨_, Nat.sub_lt (by omega) Nat.one_pos, j + 1, x', by omega, by simp only [upd_eq, Nat.reduceEqDiff, if_false, if_true, h1, h2, h6, h8, h28, h29, h30], by simp only [upd_eq, Nat.reduceEqDiff, if_false, if_true, h1, h2, h6, h8, h28, h29, h30], by simp only [upd_eq, Nat.reduceEqDiff, if_false, if_true, h1, h2, h6, h8, h28, h29, h30], by simp only [upd_eq, Nat.reduceEqDiff, if_false, if_true, h1, h2, h6, h8, h28, h29, h30], by simp only [upd_eq, Nat.reduceEqDiff, if_false, if_true, h1, h2, h6, h8, h28, h29, h30], by simp only [upd_eq, Nat.reduceEqDiff, if_false, if_true, h1, h2, h6, h8, h28, h29, h30], by simp only [upd_eq, Nat.reduceEqDiff, if_false, if_true, h1, h2, h6, h8, h28, h29, h30], ?_⟩
                  refine ⟨?_, ⟨by rw [Hp.set_h, if_neg (by omega)]; exact k0, by rw [Hp.set_h, if_pos rfl], gg⟩, o0, o1'⟩
                  rw [hrt, List.map_append, List.flatten_append, List.length_append, hrec]
                  simpa using hacc.setOff o1' _
              · rw [if_neg (by rw [off_no ho]; simp), List.append_nil] at hrt
                have hr' := hr.ext (H' := (H.new [.v (.int .i64 0), .v (.int .i64 0), .v (.int .i64 0), .v (.int .i64 0)]).set H.g (encClaim c)) ⟨by simp only [Hp.set_g, Hp.new_g]; omega, fun b hb => by simp only [Hp.set_h, Hp.new_h]; (repeat' split) <;> first | rfl | (exfalso; rename_i hb1 hb2; simp only [Hp.set_g, Hp.new_g] at hb1 hb2; omega) | (exfalso; rename_i hb1; simp only [Hp.set_g, Hp.new_g] at hb1; omega) | omega⟩
                repeat' (first | ((first | refine wSeqr ?_ | refine wIf ?_ | refine wReg ?_ | (refine wRet ?_; (try simp only [thenQ, blockQ]); refine ends_by ?_)); intro xx hx; have hc := trivial; (repeat' (simp only [hc, Nat.reduceBEq, go_sem, Nat.reduceAdd, Nat.reduceMul, Nat.reduceSub, Nat.reduceEqDiff, Nat.reduceLT, Nat.reduceLeDiff, Int.reduceEq, Int.reduceLT, Int.reduceLE, reduceIte, aresults, aresult, hp0, h1, h2, h6, h8, h28, h29, h30, hltI, hg', encClaim, t1, t2, w4, List.length_map] at hx; (try (rw [guardL_if] at hx; split at hx <;> rename_i hc)))); all_goals (subst hx; first | (refine ⟨_, rfl, fun ht => ?_, fun ht => ?_⟩ <;> (try simp only [bbs] at ht)) | (refine ⟨_, rfl, ?_⟩; (try simp only [tupOf])))) | refine wSkip ?_ | (refine wExit ?_; simp only [thenQ, blockQ, reduceIte, Nat.reduceEqDiff]) | refine wSeq ?_ | refine wBlock ?_)
                all_goals try (exfalso; (try simp only [bbs] at *); first | omega | exact absurd trivial (by assumption))
                all_goals first
                  | (exfalso; apply ho; (try simp only [bbs] at *); constructor <;> first | assumption | omega | (simp_all; done))
                  | skip
                all_goals (refine ⟨_, Nat.sub_lt (by omega) Nat.one_pos, j + 1, x, by omega, by simp only [upd_eq, Nat.reduceEqDiff, if_false, if_true, h1, h2, h6, h8, h28, h29, h30], by simp only [upd_eq, Nat.reduceEqDiff, if_false, if_true, h1, h2, h6, h8, h28, h29, h30], by simp only [upd_eq, Nat.reduceEqDiff, if_false, if_true, h1, h2, h6, h8, h28, h29, h30], by simp only [upd_eq, Nat.reduceEqDiff, if_false, if_true, h1, h2, h6, h8, h28, h29, h30], by simp only [upd_eq, Nat.reduceEqDiff, if_false, if_true, h1, h2, h6, h8, h28, h29, h30], by simp only [upd_eq, Nat.reduceEqDiff, if_false, if_true, h1, h2, h6, h8, h28, h29, h30], by simp only [upd_eq, Nat.reduceEqDiff, if_false, if_true, h1, h2, h6, h8, h28, h29, h30], ?_⟩; rw [hrt]; exact ⟨hr', ⟨by rw [Hp.set_h, Hp.new_h, if_neg (by omega), if_neg (by omega)]; exact hb0, by rw [Hp.set_h, Hp.new_h, if_neg (by omega), if_neg (by omega)]; exact hb1, by simp only [Hp.set_g, Hp.new_g]; omega⟩, hoff⟩)
            · have hj' : j = l.length := by omega
              have hltI : ¬ ((j : Nat) : Int) < (l.length : Int) := by omega
              have xok := hr.one
              repeat' (first | ((first | refine wSeqr ?_ | refine wIf ?_ | refine wReg ?_ | (refine wRet ?_; (try simp only [thenQ, blockQ]); refine ends_by ?_)); intro xx hx; have hc := trivial; (repeat' (simp only [hc, Nat.reduceBEq, go_sem, Nat.reduceAdd, Nat.reduceMul, Nat.reduceSub, Nat.reduceEqDiff, Nat.reduceLT, Nat.reduceLeDiff, Int.reduceEq, Int.reduceLT, Int.reduceLE, reduceIte, aresults, aresult, hp0, h6, h8, h29, h30, hltI, hb0, hb1, xok.1, xok.2, List.length_map] at hx; (try (rw [guardL_if] at hx; split at hx <;> rename_i hc)))); all_goals (subst hx; first | (refine ⟨_, rfl, fun ht => ?_, fun ht => ?_⟩ <;> (try simp only [bbs] at ht)) | (refine ⟨_, rfl, ?_⟩; (try simp only [tupOf])))) | refine wSkip ?_ | (refine wExit ?_; simp only [thenQ, blockQ, reduceIte, Nat.reduceEqDiff]) | refine wSeq ?_ | refine wBlock ?_)
              all_goals try (exfalso; (try simp only [bbs] at *); first | omega | exact absurd trivial (by assumption))
              rw [hj', List.take_length] at hr
              exact dirty (d_rr (hr.setOff hoff.1 _) rfl)
          · exact ⟨0, .v (.slice none 0 0), by omega, rfl, rfl, rfl, rfl, rfl, rfl, rfl, RAcc.nil, ⟨rfl, rfl, by show 1 < 2; omega⟩, off_nil, off_nil⟩
        · have hk' : typB kind = false := by simpa using hk
          rw [rfR_c (c := 3) (by unfold rfC; rw [if_pos hf, if_neg (by simp [hk'])]) (by omega)]
          repeat' (first | ((first | refine wSeqr ?_ | refine wIf ?_ | refine wReg ?_ | (refine wRet ?_; (try simp only [thenQ, blockQ]); refine ends_by ?_)); intro xx hx; have hc := trivial; (repeat' (simp only [hc, Nat.reduceBEq, go_sem, Nat.reduceAdd, Nat.reduceMul, Nat.reduceSub, Nat.reduceEqDiff, Nat.reduceLT, Nat.reduceLeDiff, Int.reduceEq, Int.reduceLT, Int.reduceLE, reduceIte, aresults, aresult, hp0, hv, hf, c_iin, c_iisType, hs, hk', Bool.not_true, Bool.not_false] at hx; (try (rw [guardL_if] at hx; split at hx <;> rename_i hc)))); all_goals (subst hx; first | (refine ⟨_, rfl, fun ht => ?_, fun ht => ?_⟩ <;> (try simp only [bbs] at ht)) | (refine ⟨_, rfl, ?_⟩; (try simp only [tupOf])))) | refine wSkip ?_ | (refine wExit ?_; simp only [thenQ, blockQ, reduceIte, Nat.reduceEqDiff]) | refine wSeq ?_ | refine wBlock ?_)
          all_goals try (exfalso; (try simp only [bbs] at *); first | omega | exact absurd trivial (by assumption))
          all_goals exact dirty rfl
      · have hs' : inB sv 0 99 = false := by simpa using hs
        rw [rfR_c (c := 3) (by unfold rfC; rw [if_pos hf, if_neg (by simp [hs'])]) (by omega)]
        repeat' (first | ((first | refine wSeqr ?_ | refine wIf ?_ | refine wReg ?_ | (refine wRet ?_; (try simp only [thenQ, blockQ]); refine ends_by ?_)); intro xx hx; have hc := trivial; (repeat' (simp only [hc, Nat.reduceBEq, go_sem, Nat.reduceAdd, Nat.reduceMul, Nat.reduceSub, Nat.reduceEqDiff, Nat.reduceLT, Nat.reduceLeDiff, Int.reduceEq, Int.reduceLT, Int.reduceLE, reduceIte, aresults, aresult, hp0, hv, hf, c_iin, hs', Bool.not_false] at hx; (try (rw [guardL_if] at hx; split at hx <;> rename_i hc)))); all_goals (subst hx; first | (refine ⟨_, rfl, fun ht => ?_, fun ht => ?_⟩ <;> (try simp only [bbs] at ht)) | (refine ⟨_, rfl, ?_⟩; (try simp only [tupOf])))) | refine wSkip ?_ | (refine wExit ?_; simp only [thenQ, blockQ, reduceIte, Nat.reduceEqDiff]) | refine wSeq ?_ | refine wBlock ?_)
        all_goals try (exfalso; (try simp only [bbs] at *); first | omega | exact absurd trivial (by assumption))
        all_goals exact dirty rfl
    · rw [rfR_c (c := viewF l) (by unfold rfC; rw [if_neg hf]) hf]
      repeat' (first | ((first | refine wSeqr ?_ | refine wIf ?_ | refine wReg ?_ | (refine wRet ?_; (try simp only [thenQ, blockQ]); refine ends_by ?_)); intro xx hx; have hc := trivial; (repeat' (simp only [hc, Nat.reduceBEq, go_sem, Nat.reduceAdd, Nat.reduceMul, Nat.reduceSub, Nat.reduceEqDiff, Nat.reduceLT, Nat.reduceLeDiff, Int.reduceEq, Int.reduceLT, Int.reduceLE, reduceIte, aresults, aresult, hp0, hv, hf] at hx; (try (rw [guardL_if] at hx; split at hx <;> rename_i hc)))); all_goals (subst hx; first | (refine ⟨_, rfl, fun ht => ?_, fun ht => ?_⟩ <;> (try simp only [bbs] at ht)) | (refine ⟨_, rfl, ?_⟩; (try simp only [tupOf])))) | refine wSkip ?_ | (refine wExit ?_; simp only [thenQ, blockQ, reduceIte, Nat.reduceEqDiff]) | refine wSeq ?_ | refine wBlock ?_)
      all_goals try (exfalso; (try simp only [bbs] at *); first | omega | exact absurd trivial (by assumption))
      all_goals exact dirty rfl
  obtain ⟨v, cl, rfl, hp⟩ := key
  exact ⟨cl, hp⟩
theorem c_iRecordsFor (l : List ClaimM) (hl : l.length ≤ 1048576) (sv kind : Int) : ∀ H, call Tryd.prog cfg0 0 51 [.lst false (l.map encClaim), .v (.int .i64 sv), .v (.int .i64 kind)] H = some (rfR l sv kind, H) := fun H => by
  obtain ⟨cl, hp⟩ := p_iRecordsFor l hl sv kind
  exact call_fz Tryd.func51 rfl ok_iRecordsFor rfl (by simp only [fz_cons, fz_nil, go_sem, and_self]) hp H

end
end Go.Proofs.YtnejoidfbgklbaaDoor
