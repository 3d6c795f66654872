/- Contracts: marks in bytes. Contracts: comparisons and marks of results with bytes. Contracts: comparisons and marks of results with records. What the law of ReadAnswer wants of what is read. -/
import Derived.Test.YtnejoidfbgklbaaDoorRA6
namespace Go.Proofs.YtnejoidfbgklbaaDoor
open Go Go.RowKit Go.Proofs.YtnejoidfbgklbaaDoor.Eng
set_option linter.unusedSimpArgs false
set_option linter.unusedVariables false
set_option maxRecDepth 100000
noncomputable section
theorem ok_markByteS : fnOk Tryd.prog cfg0 10 Tryd.f10 = true := by kernel_rfl
theorem conv_ib8 (n : Int) (H : Hp) : aconv Tryd.prog H 3 5 (.v (.int .i64 n)) = some (.v (.int .u8 (IntKind.wrap .u8 n))) := by simp [aconv, u3, u5]
theorem cr_mark0 (q : Int) : ∀ H, call Tryd.prog cfg0 0 10 [.lst false [], .v (.int .i64 q)] H = some (.v (.int .i64 q), H) := by
  intro H
  have key : ∃ r, body Tryd.prog cfg0 10 Tryd.f10 [.lst false [], .v (.int .i64 q)] H = some r ∧ (r.1 = .v (.int .i64 q) ∧ r.2 = H) := by
    refine body_wp (rs := [.tmp 4]) rfl rfl (R := fun x H' => x = .v (.int .i64 q) ∧ H' = H) ?_
    have hp0 : ∀ b, cfg0.pol 10 b = 0 := fun b => rfl
    repeat' (first | ((first | refine wSeqr ?_ | refine wIf ?_ | refine wReg ?_ | (refine wRet ?_; (try simp only [thenQ, blockQ]); refine ends_by ?_)); intro xx hx; have hc := trivial; (repeat' (simp only [hc, Nat.reduceBEq, go_sem, Nat.reduceAdd, Nat.reduceMul, Nat.reduceSub, Nat.reduceEqDiff, Nat.reduceLT, Nat.reduceLeDiff, Int.reduceEq, Int.reduceLT, Int.reduceLE, reduceIte, aresults, aresult, hp0] at hx; (try (rw [guardL_if] at hx; split at hx <;> rename_i hc)))); all_goals (subst hx; first | (refine ⟨_, rfl, fun ht => ?_, fun ht => ?_⟩ <;> (try simp only [bbs] at ht)) | (refine ⟨_, rfl, ?_⟩; (try simp only [tupOf])))) | refine wSkip ?_ | (refine wExit ?_; simp only [thenQ, blockQ, reduceIte, Nat.reduceEqDiff]) | refine wSeq ?_ | refine wBlock ?_)
    refine wLoop (fun n s => s.1 0 = .lst false [] ∧ s.1 1 = .v (.int .i64 q) ∧ s.1 5 = .v (.int .i64 0) ∧ s.2 = H) (fun n s hI => ?_) 0 _ ⟨rfl, rfl, rfl, rfl⟩
    obtain ⟨e, H1⟩ := s
    obtain ⟨h0, h1, h5, hH⟩ := hI
    simp only at h0 h1 h5 hH
    repeat' (first | ((first | refine wSeqr ?_ | refine wIf ?_ | refine wReg ?_ | (refine wRet ?_; (try simp only [thenQ, blockQ]); refine ends_by ?_)); intro xx hx; have hc := trivial; (repeat' (simp only [hc, Nat.reduceBEq, go_sem, Nat.reduceAdd, Nat.reduceMul, Nat.reduceSub, Nat.reduceEqDiff, Nat.reduceLT, Nat.reduceLeDiff, Int.reduceEq, Int.reduceLT, Int.reduceLE, reduceIte, aresults, aresult, hp0, h0, h1, h5, List.length_nil] at hx; (try (rw [guardL_if] at hx; split at hx <;> rename_i hc)))); all_goals (subst hx; first | (refine ⟨_, rfl, fun ht => ?_, fun ht => ?_⟩ <;> (try simp only [bbs] at ht)) | (refine ⟨_, rfl, ?_⟩; (try simp only [tupOf])))) | refine wSkip ?_ | (refine wExit ?_; simp only [thenQ, blockQ, reduceIte, Nat.reduceEqDiff]) | refine wSeq ?_ | refine wBlock ?_)
    all_goals first
      | (exfalso; (try simp only [bbs] at *); simp at *; done)
      | (subst hH; constructor <;> first | trivial | rfl)
  obtain ⟨⟨v, H'⟩, h1, rfl, rfl⟩ := key
  rw [call_raw Tryd.prog cfg0 Tryd.func10 rfl ok_markByteS rfl rfl, h1]
theorem cr_markE (l : List Int) (q : Int) (hl : l.length ≤ 281474976710656) (hk : 0 ≤ q ∧ q ≤ 4611686018427387904) (H : Hp) (b : Nat) (hb : H.h b = some (l.map cell)) :
    call Tryd.prog cfg0 0 10 [.sl b 1 0 l.length, .v (.int .i64 q)] H = some (.v (.int .i64 (q + l.length)), H.set b ((marksB q l.length).map cell)) := by
  have key : ∃ r, body Tryd.prog cfg0 10 Tryd.f10 [.sl b 1 0 l.length, .v (.int .i64 q)] H = some r ∧ (r.1 = .v (.int .i64 (q + l.length)) ∧ r.2 = H.set b ((marksB q l.length).map cell)) := by
    refine body_wp (rs := [.tmp 4]) rfl rfl (R := fun x H' => x = .v (.int .i64 (q + l.length)) ∧ H' = H.set b ((marksB q l.length).map cell)) ?_
    have hp0 : ∀ b, cfg0.pol 10 b = 0 := fun b => rfl
    have hH0 : H = H.set b ((marksB q 0 ++ l.drop 0).map cell) := by rw [show marksB q 0 ++ l.drop 0 = l from rfl]; exact (Hp.set_id hb).symm
    generalize hHg : H = K at hH0 hb ⊢
    repeat' (first | ((first | refine wSeqr ?_ | refine wIf ?_ | refine wReg ?_ | (refine wRet ?_; (try simp only [thenQ, blockQ]); refine ends_by ?_)); intro xx hx; have hc := trivial; (repeat' (simp only [hc, Nat.reduceBEq, go_sem, Nat.reduceAdd, Nat.reduceMul, Nat.reduceSub, Nat.reduceEqDiff, Nat.reduceLT, Nat.reduceLeDiff, Int.reduceEq, Int.reduceLT, Int.reduceLE, reduceIte, aresults, aresult, hp0] at hx; (try (rw [guardL_if] at hx; split at hx <;> rename_i hc)))); all_goals (subst hx; first | (refine ⟨_, rfl, fun ht => ?_, fun ht => ?_⟩ <;> (try simp only [bbs] at ht)) | (refine ⟨_, rfl, ?_⟩; (try simp only [tupOf])))) | refine wSkip ?_ | (refine wExit ?_; simp only [thenQ, blockQ, reduceIte, Nat.reduceEqDiff]) | refine wSeq ?_ | refine wBlock ?_)
    refine wLoop (fun k s => ∃ (j : Nat), j + k = l.length ∧ s.1 0 = .sl b 1 0 l.length ∧ s.1 1 = .v (.int .i64 (q + (j : Nat))) ∧ s.1 5 = .v (.int .i64 (j : Nat)) ∧ (s.2 = K.set b ((marksB q j ++ l.drop j).map cell))) (fun k s hI => ?_) (l.length) _ ?_
    · obtain ⟨e, H⟩ := s
      obtain ⟨j, hj, h0, h1, h5, hh⟩ := hI
      simp only at h0 h1 h5 hh
      subst hh
      by_cases hlt : j < l.length
      · have hlen : ((marksB q j ++ l.drop j).map cell).length = l.length := by simp [marksB_length]; omega
        have w1 : IntKind.wrap .i64 (q + (j : Nat) + 1) = q + ((j + 1 : Nat) : Int) := by rw [wrap_i64 (by omega) (by omega)]; omega
        have hst : ((marksB q j ++ l.drop j).map cell).set j (cell (IntKind.wrap .u8 (q + (j : Nat)))) = (marksB q (j + 1) ++ l.drop (j + 1)).map cell := by
          rw [← List.map_set, mark_step (marksB_length q j) hlt, marksB_succ]
        repeat' (first | ((first | refine wSeqr ?_ | refine wIf ?_ | refine wReg ?_ | (refine wRet ?_; (try simp only [thenQ, blockQ]); refine ends_by ?_)); intro xx hx; have hc := trivial; (repeat' (simp only [hc, Nat.reduceBEq, go_sem, Nat.reduceAdd, Nat.reduceMul, Nat.reduceSub, Nat.reduceEqDiff, Nat.reduceLT, Nat.reduceLeDiff, Int.reduceEq, Int.reduceLT, Int.reduceLE, reduceIte, aresults, aresult, hp0, h0, h1, h5, conv_ib8, hlen, hlt, Option.isSome_some, show j + 1 ≤ l.length from hlt, w1, wrap_succ (show j < 9223372036854775807 by omega)] at hx; (try (rw [guardL_if] at hx; split at hx <;> rename_i hc)))); all_goals (subst hx; first | (refine ⟨_, rfl, fun ht => ?_, fun ht => ?_⟩ <;> (try simp only [bbs] at ht)) | (refine ⟨_, rfl, ?_⟩; (try simp only [tupOf])))) | refine wSkip ?_ | (refine wExit ?_; simp only [thenQ, blockQ, reduceIte, Nat.reduceEqDiff]) | refine wSeq ?_ | refine wBlock ?_)
        all_goals first
          | (exfalso; (try simp only [bbs] at *); omega)
          | skip
        refine ⟨_, Nat.sub_lt (by omega) Nat.one_pos, j + 1, by omega, by simp only [upd_eq, Nat.reduceEqDiff, if_false, if_true, h0, h1, h5], by simp only [upd_eq, Nat.reduceEqDiff, if_false, if_true, h0, h1, h5], by simp only [upd_eq, Nat.reduceEqDiff, if_false, if_true, h0, h1, h5], ?_⟩
        rw [Hp.set_set]
        exact congrArg (Hp.set K b) hst
      · have hj' : j = l.length := by omega
        repeat' (first | ((first | refine wSeqr ?_ | refine wIf ?_ | refine wReg ?_ | (refine wRet ?_; (try simp only [thenQ, blockQ]); refine ends_by ?_)); intro xx hx; have hc := trivial; (repeat' (simp only [hc, Nat.reduceBEq, go_sem, Nat.reduceAdd, Nat.reduceMul, Nat.reduceSub, Nat.reduceEqDiff, Nat.reduceLT, Nat.reduceLeDiff, Int.reduceEq, Int.reduceLT, Int.reduceLE, reduceIte, aresults, aresult, hp0, h0, h1, h5] at hx; (try (rw [guardL_if] at hx; split at hx <;> rename_i hc)))); all_goals (subst hx; first | (refine ⟨_, rfl, fun ht => ?_, fun ht => ?_⟩ <;> (try simp only [bbs] at ht)) | (refine ⟨_, rfl, ?_⟩; (try simp only [tupOf])))) | refine wSkip ?_ | (refine wExit ?_; simp only [thenQ, blockQ, reduceIte, Nat.reduceEqDiff]) | refine wSeq ?_ | refine wBlock ?_)
        all_goals first
          | (exfalso; (try simp only [bbs] at *); omega)
          | skip
        rw [hj', List.drop_length, List.append_nil]
        constructor <;> first | trivial | rfl
    · refine ⟨0, by omega, rfl, ?_, rfl, hH0⟩
      simp only [upd_eq, Nat.reduceEqDiff, if_false]
      show AV.v (.int .i64 q) = _
      simp
  obtain ⟨⟨v, H'⟩, h1, rfl, rfl⟩ := key
  rw [call_raw Tryd.prog cfg0 Tryd.func10 rfl ok_markByteS rfl rfl, h1]
open Classical in
theorem cr_markByteS (l : List Int) (q : Int) (hl : l.length ≤ 281474976710656) (hk : 0 ≤ q ∧ q ≤ 4611686018427387904) : ∀ H b, call Tryd.prog cfg0 0 10 [.sl b 1 0 l.length, .v (.int .i64 q)] H =
    if H.h b = some (l.map cell) then some (.v (.int .i64 (q + l.length)), H.set b ((marksB q l.length).map cell)) else call' Tryd.prog cfg0 0 10 [.sl b 1 0 l.length, .v (.int .i64 q)] H := by
  intro H b
  split
  · exact cr_markE l q hl hk H b (by assumption)
  · rfl
end
end Go.Proofs.YtnejoidfbgklbaaDoor
namespace Go.Proofs.YtnejoidfbgklbaaDoor
open Go Go.RowKit Go.Proofs.YtnejoidfbgklbaaDoor.Eng
set_option linter.unusedSimpArgs false
set_option linter.unusedVariables false
set_option maxRecDepth 100000
noncomputable section
theorem ok_leqB : fnOk Tryd.prog cfg0 9 Tryd.f9 = true := by kernel_rfl
theorem p_leqB (a b : List Int) (hl : a.length ≤ 1048576) : pure Tryd.prog cfg0 9 Tryd.f9 [bytesL a, bytesL b] = some (.v (.bool (decide (a = b))), true) := by
  refine pure_wp (rs := [.tmp 4]) rfl rfl ?_
  have hp0 : ∀ b, cfg0.pol 9 b = 0 := fun b => rfl
  repeat' (first | ((first | refine wSeqr ?_ | refine wIf ?_ | refine wReg ?_ | (refine wRet ?_; (try simp only [thenQ, blockQ]); refine ends_by ?_)); intro xx hx; have hc := trivial; (repeat' (simp only [hc, Nat.reduceBEq, go_sem, Nat.reduceAdd, Nat.reduceMul, Nat.reduceSub, Nat.reduceEqDiff, Nat.reduceLT, Nat.reduceLeDiff, Int.reduceEq, Int.reduceLT, Int.reduceLE, reduceIte, aresults, aresult, hp0] at hx; (try (rw [guardL_if] at hx; split at hx <;> rename_i hc)))); all_goals (subst hx; first | (refine ⟨_, rfl, fun ht => ?_, fun ht => ?_⟩ <;> (try simp only [bbs] at ht)) | (refine ⟨_, rfl, ?_⟩; (try simp only [tupOf])))) | refine wSkip ?_ | (refine wExit ?_; simp only [thenQ, blockQ, reduceIte, Nat.reduceEqDiff]) | refine wSeq ?_ | refine wBlock ?_)
  · refine gives_boolv ?_
    rw [decide_eq_false]
    intro h; rw [h] at ht; exact ht rfl
  have hlen : a.length = b.length := by (try simp only [bbs] at *); omega
  refine wLoop (fun k s => ∃ (j : Nat), j + k = a.length ∧ s.1 0 = bytesL a ∧ s.1 1 = bytesL b ∧ s.1 5 = .v (.int .i64 (j : Nat)) ∧ (a.take j = b.take j)) (fun k s hI => ?_) (a.length) _ ?_
  · obtain ⟨e, H⟩ := s
    obtain ⟨j, hj, h0, h1, h5, htk⟩ := hI
    simp only at h0 h1 h5 htk
    by_cases hlt : j < a.length
    · obtain ⟨x, gx, -, -⟩ := at_drop hlt
      obtain ⟨y, gy, -, -⟩ := at_drop (show j < b.length by omega)
      have gx' : (a.map fun z => [AV.v (.int .u8 z)])[j]? = some [.v (.int .u8 x)] := by rw [List.getElem?_map, gx]; rfl
      have gy' : (b.map fun z => [AV.v (.int .u8 z)])[j]? = some [.v (.int .u8 y)] := by rw [List.getElem?_map, gy]; rfl
      by_cases he : x = y
      · repeat' (first | ((first | refine wSeqr ?_ | refine wIf ?_ | refine wReg ?_ | (refine wRet ?_; (try simp only [thenQ, blockQ]); refine ends_by ?_)); intro xx hx; have hc := trivial; (repeat' (simp only [hc, Nat.reduceBEq, go_sem, Nat.reduceAdd, Nat.reduceMul, Nat.reduceSub, Nat.reduceEqDiff, Nat.reduceLT, Nat.reduceLeDiff, Int.reduceEq, Int.reduceLT, Int.reduceLE, reduceIte, aresults, aresult, hp0, h0, h1, h5, bytesL, cell, List.length_map, gx', gy', he, wrap_succ (show j < 9223372036854775807 by omega)] at hx; (try (rw [guardL_if] at hx; split at hx <;> rename_i hc)))); all_goals (subst hx; first | (refine ⟨_, rfl, fun ht => ?_, fun ht => ?_⟩ <;> (try simp only [bbs] at ht)) | (refine ⟨_, rfl, ?_⟩; (try simp only [tupOf])))) | refine wSkip ?_ | (refine wExit ?_; simp only [thenQ, blockQ, reduceIte, Nat.reduceEqDiff]) | refine wSeq ?_ | refine wBlock ?_)
        all_goals try (exfalso; (try simp only [bbs] at *); first | omega | exact absurd trivial (by assumption))
        refine ⟨_, Nat.sub_lt (by omega) Nat.one_pos, j + 1, by omega, by simp only [upd_eq, Nat.reduceEqDiff, if_false, if_true, h0, h1, h5], by simp only [upd_eq, Nat.reduceEqDiff, if_false, if_true, h0, h1, h5], by simp only [upd_eq, Nat.reduceEqDiff, if_false, if_true, h0, h1, h5], ?_⟩
        rw [List.take_add_one, List.take_add_one, gx, gy, htk, he]
      · repeat' (first | ((first | refine wSeqr ?_ | refine wIf ?_ | refine wReg ?_ | (refine wRet ?_; (try simp only [thenQ, blockQ]); refine ends_by ?_)); intro xx hx; have hc := trivial; (repeat' (simp only [hc, Nat.reduceBEq, go_sem, Nat.reduceAdd, Nat.reduceMul, Nat.reduceSub, Nat.reduceEqDiff, Nat.reduceLT, Nat.reduceLeDiff, Int.reduceEq, Int.reduceLT, Int.reduceLE, reduceIte, aresults, aresult, hp0, h0, h1, h5, bytesL, cell, List.length_map, gx', gy', he] at hx; (try (rw [guardL_if] at hx; split at hx <;> rename_i hc)))); all_goals (subst hx; first | (refine ⟨_, rfl, fun ht => ?_, fun ht => ?_⟩ <;> (try simp only [bbs] at ht)) | (refine ⟨_, rfl, ?_⟩; (try simp only [tupOf])))) | refine wSkip ?_ | (refine wExit ?_; simp only [thenQ, blockQ, reduceIte, Nat.reduceEqDiff]) | refine wSeq ?_ | refine wBlock ?_)
        all_goals try (exfalso; (try simp only [bbs] at *); first | omega | exact absurd trivial (by assumption))
        refine gives_boolv ?_
        rw [decide_eq_false]
        intro h; rw [h] at gx; rw [gx] at gy
        exact he (Option.some.inj gy)
    · have hj' : j = a.length := by omega
      repeat' (first | ((first | refine wSeqr ?_ | refine wIf ?_ | refine wReg ?_ | (refine wRet ?_; (try simp only [thenQ, blockQ]); refine ends_by ?_)); intro xx hx; have hc := trivial; (repeat' (simp only [hc, Nat.reduceBEq, go_sem, Nat.reduceAdd, Nat.reduceMul, Nat.reduceSub, Nat.reduceEqDiff, Nat.reduceLT, Nat.reduceLeDiff, Int.reduceEq, Int.reduceLT, Int.reduceLE, reduceIte, aresults, aresult, hp0, h0, h1, h5, bytesL, List.length_map] at hx; (try (rw [guardL_if] at hx; split at hx <;> rename_i hc)))); all_goals (subst hx; first | (refine ⟨_, rfl, fun ht => ?_, fun ht => ?_⟩ <;> (try simp only [bbs] at ht)) | (refine ⟨_, rfl, ?_⟩; (try simp only [tupOf])))) | refine wSkip ?_ | (refine wExit ?_; simp only [thenQ, blockQ, reduceIte, Nat.reduceEqDiff]) | refine wSeq ?_ | refine wBlock ?_)
      all_goals try (exfalso; (try simp only [bbs] at *); first | omega | exact absurd trivial (by assumption))
      refine gives_boolv ?_
      rw [hj', List.take_length, hlen, List.take_length] at htk
      rw [htk, decide_eq_true rfl]
  · refine ⟨0, by omega, rfl, rfl, rfl, ?_⟩
    rfl
theorem c_leqB (a b : List Int) (hl : a.length ≤ 1048576) : ∀ H, call Tryd.prog cfg0 0 9 [bytesL a, bytesL b] H = some (.v (.bool (decide (a = b))), H) :=
  call_fz Tryd.func9 rfl ok_leqB rfl (by simp only [fz_cons, fz_nil, go_sem, and_self]) (p_leqB a b hl)

end
end Go.Proofs.YtnejoidfbgklbaaDoor
namespace Go.Proofs.YtnejoidfbgklbaaDoor
open Go Go.RowKit Go.Proofs.YtnejoidfbgklbaaDoor.Eng
set_option linter.unusedSimpArgs false
set_option linter.unusedVariables false
set_option maxRecDepth 100000
set_option maxHeartbeats 2000000
noncomputable section
/-- The marks: record j of those that begin with q. -/
def mkR (q : Int) (j : Nat) : RecordM := ⟨q + (j : Nat) * 3, q + (j : Nat) * 3 + 1, q + (j : Nat) * 3 + 2⟩
def mksR (q : Int) (n : Nat) : List RecordM := (List.range n).map (mkR q)
theorem mksR_len (q : Int) (n : Nat) : (mksR q n).length = n := by simp [mksR]
theorem mksR_succ (q : Int) (n : Nat) : mksR q (n + 1) = mksR q n ++ [mkR q n] := by simp [mksR, List.range_succ]
theorem mksR_at (q : Int) (n j : Nat) (h : j < n) : (mksR q n)[j]? = some (mkR q j) := by simp [mksR, h]
theorem recs_flat (a : List RecordM) : (a.map encRecord).flatten.length = a.length * 3 := by
  induction a with
  | nil => rfl
  | cons r a ih => simp only [List.map_cons, List.flatten_cons, List.length_append, ih, List.length_cons]; have : (encRecord r).length = 3 := rfl; omega
theorem set3 {A B : List AV} {x y z a b c : AV} {k : Nat} (h : A.length = k) : (((A ++ x :: y :: z :: B).set k a).set (k + 1) b).set (k + 2) c = A ++ a :: b :: c :: B := by
  subst h
  induction A with
  | nil => rfl
  | cons w A ih => simp only [List.cons_append, List.length_cons, List.set_cons_succ, show A.length + 1 + 1 = (A.length + 1) + 1 from rfl, show A.length + 1 + 2 = (A.length + 2) + 1 from rfl]; rw [ih]
theorem ok_markRS : fnOk Tryd.prog cfg0 43 Tryd.f43 = true := by kernel_rfl
theorem cr_markRS0 (q : Int) : ∀ H, call Tryd.prog cfg0 0 43 [.lst false [], .v (.int .i64 q)] H = some (.v (.int .i64 q), H) := by
  intro H
  have key : ∃ r, body Tryd.prog cfg0 43 Tryd.f43 [.lst false [], .v (.int .i64 q)] H = some r ∧ (r.1 = .v (.int .i64 q) ∧ r.2 = H) := by
    refine body_wp (rs := [.tmp 4]) rfl rfl (R := fun x H' => x = .v (.int .i64 q) ∧ H' = H) ?_
    have hp0 : ∀ b, cfg0.pol 43 b = 0 := fun b => rfl
    repeat' (first | ((first | refine wSeqr ?_ | refine wIf ?_ | refine wReg ?_ | (refine wRet ?_; (try simp only [thenQ, blockQ]); refine ends_by ?_)); intro xx hx; have hc := trivial; (repeat' (simp only [hc, Nat.reduceBEq, go_sem, Nat.reduceAdd, Nat.reduceMul, Nat.reduceSub, Nat.reduceEqDiff, Nat.reduceLT, Nat.reduceLeDiff, Int.reduceEq, Int.reduceLT, Int.reduceLE, reduceIte, aresults, aresult, hp0] at hx; (try (rw [guardL_if] at hx; split at hx <;> rename_i hc)))); all_goals (subst hx; first | (refine ⟨_, rfl, fun ht => ?_, fun ht => ?_⟩ <;> (try simp only [bbs] at ht)) | (refine ⟨_, rfl, ?_⟩; (try simp only [tupOf])))) | refine wSkip ?_ | (refine wExit ?_; simp only [thenQ, blockQ, reduceIte, Nat.reduceEqDiff]) | refine wSeq ?_ | refine wBlock ?_)
    refine wLoop (fun n s => s.1 0 = .lst false [] ∧ s.1 1 = .v (.int .i64 q) ∧ s.1 5 = .v (.int .i64 0) ∧ s.2 = H) (fun n s hI => ?_) 0 _ ⟨rfl, rfl, rfl, rfl⟩
    obtain ⟨e, H1⟩ := s
    obtain ⟨h0, h1, h5, hH⟩ := hI
    simp only at h0 h1 h5 hH
    repeat' (first | ((first | refine wSeqr ?_ | refine wIf ?_ | refine wReg ?_ | (refine wRet ?_; (try simp only [thenQ, blockQ]); refine ends_by ?_)); intro xx hx; have hc := trivial; (repeat' (simp only [hc, Nat.reduceBEq, go_sem, Nat.reduceAdd, Nat.reduceMul, Nat.reduceSub, Nat.reduceEqDiff, Nat.reduceLT, Nat.reduceLeDiff, Int.reduceEq, Int.reduceLT, Int.reduceLE, reduceIte, aresults, aresult, hp0, h0, h1, h5, List.length_nil] at hx; (try (rw [guardL_if] at hx; split at hx <;> rename_i hc)))); all_goals (subst hx; first | (refine ⟨_, rfl, fun ht => ?_, fun ht => ?_⟩ <;> (try simp only [bbs] at ht)) | (refine ⟨_, rfl, ?_⟩; (try simp only [tupOf])))) | refine wSkip ?_ | (refine wExit ?_; simp only [thenQ, blockQ, reduceIte, Nat.reduceEqDiff]) | refine wSeq ?_ | refine wBlock ?_)
    all_goals first
      | (exfalso; (try simp only [bbs] at *); simp at *; done)
      | (subst hH; constructor <;> first | trivial | rfl)
  obtain ⟨⟨v, H'⟩, h1, rfl, rfl⟩ := key
  rw [call_raw Tryd.prog cfg0 Tryd.func43 rfl ok_markRS rfl rfl, h1]
theorem cr_markRSE (l : List RecordM) (q : Int) (hl : l.length ≤ 1000) (hk : 0 ≤ q ∧ q ≤ 4611686018427387904) (H : Hp) (b : Nat) (hb : H.h b = some (l.map encRecord).flatten) :
    call Tryd.prog cfg0 0 43 [.sl b 3 0 l.length, .v (.int .i64 q)] H = some (.v (.int .i64 (q + (l.length : Nat) * 3)), H.set b ((mksR q l.length).map encRecord).flatten) := by
  have key : ∃ r, body Tryd.prog cfg0 43 Tryd.f43 [.sl b 3 0 l.length, .v (.int .i64 q)] H = some r ∧ (r.1 = .v (.int .i64 (q + (l.length : Nat) * 3)) ∧ r.2 = H.set b ((mksR q l.length).map encRecord).flatten) := by
    refine body_wp (rs := [.tmp 4]) rfl rfl (R := fun x H' => x = .v (.int .i64 (q + (l.length : Nat) * 3)) ∧ H' = H.set b ((mksR q l.length).map encRecord).flatten) ?_
    have hp0 : ∀ b, cfg0.pol 43 b = 0 := fun b => rfl
    have hH0 : H = H.set b (((mksR q 0).map encRecord).flatten ++ ((l.drop 0).map encRecord).flatten) := by rw [show ((mksR q 0).map encRecord).flatten ++ ((l.drop 0).map encRecord).flatten = (l.map encRecord).flatten from rfl]; exact (Hp.set_id hb).symm
    generalize hHg : H = K at hH0 hb ⊢
    repeat' (first | ((first | refine wSeqr ?_ | refine wIf ?_ | refine wReg ?_ | (refine wRet ?_; (try simp only [thenQ, blockQ]); refine ends_by ?_)); intro xx hx; have hc := trivial; (repeat' (simp only [hc, Nat.reduceBEq, go_sem, Nat.reduceAdd, Nat.reduceMul, Nat.reduceSub, Nat.reduceEqDiff, Nat.reduceLT, Nat.reduceLeDiff, Int.reduceEq, Int.reduceLT, Int.reduceLE, reduceIte, aresults, aresult, hp0] at hx; (try (rw [guardL_if] at hx; split at hx <;> rename_i hc)))); all_goals (subst hx; first | (refine ⟨_, rfl, fun ht => ?_, fun ht => ?_⟩ <;> (try simp only [bbs] at ht)) | (refine ⟨_, rfl, ?_⟩; (try simp only [tupOf])))) | refine wSkip ?_ | (refine wExit ?_; simp only [thenQ, blockQ, reduceIte, Nat.reduceEqDiff]) | refine wSeq ?_ | refine wBlock ?_)
    refine wLoop (fun k s => ∃ (j : Nat), j + k = l.length ∧ s.1 0 = .sl b 3 0 l.length ∧ s.1 1 = .v (.int .i64 (q + (j : Nat) * 3)) ∧ s.1 5 = .v (.int .i64 (j : Nat)) ∧ (s.2 = K.set b (((mksR q j).map encRecord).flatten ++ ((l.drop j).map encRecord).flatten))) (fun k s hI => ?_) (l.length) _ ?_
    · obtain ⟨e, H⟩ := s
      obtain ⟨j, hj, h0, h1, h5, hh⟩ := hI
      simp only at h0 h1 h5 hh
      subst hh
      by_cases hlt : j < l.length
      · obtain ⟨k, hgk, hd, hm⟩ := at_drop hlt
        have hA : ((mksR q j).map encRecord).flatten.length = j * 3 := by rw [recs_flat, mksR_len]
        have hC : ((mksR q j).map encRecord).flatten ++ ((l.drop j).map encRecord).flatten = ((mksR q j).map encRecord).flatten ++ .v (.int .i64 k.Type_) :: .v (.int .i64 k.Node) :: .v (.int .i64 k.Port) :: ((l.drop (j + 1)).map encRecord).flatten := by
          rw [hd, List.map_cons, List.flatten_cons]; rfl
        have hcl : (((mksR q j).map encRecord).flatten ++ ((l.drop j).map encRecord).flatten).length = l.length * 3 := by
          rw [List.length_append, hA, recs_flat, List.length_drop]; omega
        have le0 : j * 3 + 1 ≤ l.length * 3 := by omega
        have le1 : j * 3 + 2 ≤ l.length * 3 := by omega
        have le2 : j * 3 + 3 ≤ l.length * 3 := by omega
        have w1 : IntKind.wrap .i64 (q + (j : Nat) * 3 + 1) = q + (j : Nat) * 3 + 1 := wrap_i64 (by omega) (by omega)
        have w2 : IntKind.wrap .i64 (q + (j : Nat) * 3 + 1 + 1) = q + (j : Nat) * 3 + 2 := by rw [wrap_i64 (by omega) (by omega)]; omega
        have w3 : IntKind.wrap .i64 (q + (j : Nat) * 3 + 2 + 1) = q + ((j + 1 : Nat) : Int) * 3 := by rw [wrap_i64 (by omega) (by omega)]; omega
        have hst := set3 (B := ((l.drop (j + 1)).map encRecord).flatten) (x := .v (.int .i64 k.Type_)) (y := .v (.int .i64 k.Node)) (z := .v (.int .i64 k.Port)) (a := .v (.int .i64 (q + (j : Nat) * 3))) (b := .v (.int .i64 (q + (j : Nat) * 3 + 1))) (c := .v (.int .i64 (q + (j : Nat) * 3 + 2))) hA
        rw [← hC] at hst
        generalize ((mksR q j).map encRecord).flatten ++ ((l.drop j).map encRecord).flatten = C at *
        repeat' (first | ((first | refine wSeqr ?_ | refine wIf ?_ | refine wReg ?_ | (refine wRet ?_; (try simp only [thenQ, blockQ]); refine ends_by ?_)); intro xx hx; have hc := trivial; (repeat' (simp only [hc, Nat.reduceBEq, go_sem, Nat.reduceAdd, Nat.reduceMul, Nat.reduceSub, Nat.reduceEqDiff, Nat.reduceLT, Nat.reduceLeDiff, Int.reduceEq, Int.reduceLT, Int.reduceLE, reduceIte, aresults, aresult, hp0, h0, h1, h5, hcl, hlt, Option.isSome_some, List.length_set, wrap_succ (show j < 9223372036854775807 by omega), le0, le1, le2, w1, w2, w3] at hx; (try (rw [guardL_if] at hx; split at hx <;> rename_i hc)))); all_goals (subst hx; first | (refine ⟨_, rfl, fun ht => ?_, fun ht => ?_⟩ <;> (try simp only [bbs] at ht)) | (refine ⟨_, rfl, ?_⟩; (try simp only [tupOf])))) | refine wSkip ?_ | (refine wExit ?_; simp only [thenQ, blockQ, reduceIte, Nat.reduceEqDiff]) | refine wSeq ?_ | refine wBlock ?_)
        all_goals first
          | (exfalso; (try simp only [bbs] at *); omega)
          | skip
        refine ⟨_, Nat.sub_lt (by omega) Nat.one_pos, j + 1, by omega, by simp only [upd_eq, Nat.reduceEqDiff, if_false, if_true, h0, h1, h5], by simp only [upd_eq, Nat.reduceEqDiff, if_false, if_true, h0, h1, h5], by simp only [upd_eq, Nat.reduceEqDiff, if_false, if_true, h0, h1, h5], ?_⟩
        rw [Hp.set_set, Hp.set_set, Hp.set_set]
        refine congrArg (Hp.set K b) (hst.trans ?_)
        rw [mksR_succ, flat_snoc, List.append_assoc]; rfl
      · have hj' : j = l.length := by omega
        repeat' (first | ((first | refine wSeqr ?_ | refine wIf ?_ | refine wReg ?_ | (refine wRet ?_; (try simp only [thenQ, blockQ]); refine ends_by ?_)); intro xx hx; have hc := trivial; (repeat' (simp only [hc, Nat.reduceBEq, go_sem, Nat.reduceAdd, Nat.reduceMul, Nat.reduceSub, Nat.reduceEqDiff, Nat.reduceLT, Nat.reduceLeDiff, Int.reduceEq, Int.reduceLT, Int.reduceLE, reduceIte, aresults, aresult, hp0, h0, h1, h5] at hx; (try (rw [guardL_if] at hx; split at hx <;> rename_i hc)))); all_goals (subst hx; first | (refine ⟨_, rfl, fun ht => ?_, fun ht => ?_⟩ <;> (try simp only [bbs] at ht)) | (refine ⟨_, rfl, ?_⟩; (try simp only [tupOf])))) | refine wSkip ?_ | (refine wExit ?_; simp only [thenQ, blockQ, reduceIte, Nat.reduceEqDiff]) | refine wSeq ?_ | refine wBlock ?_)
        all_goals first
          | (exfalso; (try simp only [bbs] at *); omega)
          | skip
        rw [hj', List.drop_length, List.map_nil, List.flatten_nil, List.append_nil]
        constructor <;> first | trivial | rfl
    · refine ⟨0, by omega, rfl, ?_, rfl, hH0⟩
      simp only [upd_eq, Nat.reduceEqDiff, if_false]
      show AV.v (.int .i64 q) = _
      simp
  obtain ⟨⟨v, H'⟩, h1, rfl, rfl⟩ := key
  rw [call_raw Tryd.prog cfg0 Tryd.func43 rfl ok_markRS rfl rfl, h1]
open Classical in
theorem cr_markRS (l : List RecordM) (q : Int) (hl : l.length ≤ 1000) (hk : 0 ≤ q ∧ q ≤ 4611686018427387904) : ∀ H b, call Tryd.prog cfg0 0 43 [.sl b 3 0 l.length, .v (.int .i64 q)] H =
    if H.h b = some (l.map encRecord).flatten then some (.v (.int .i64 (q + (l.length : Nat) * 3)), H.set b ((mksR q l.length).map encRecord).flatten) else call' Tryd.prog cfg0 0 43 [.sl b 3 0 l.length, .v (.int .i64 q)] H := by
  intro H b
  split
  · exact cr_markRSE l q hl hk H b (by assumption)
  · rfl
theorem fz_rsG (rs : List RecordM) : Fz depthD (.lst false (rs.map encRecord)) := fz_rows (n := 11) (fun k => fzE_Record 10 k) rs
theorem ok_lheldRecordS : fnOk Tryd.prog cfg0 44 Tryd.f44 = true := by kernel_rfl
theorem p_lheldRecordS (q : Int) (n : Nat) (hn : n ≤ 1000) (hk : 0 ≤ q ∧ q ≤ 4611686018427387904) : pure Tryd.prog cfg0 44 Tryd.f44 [.lst false ((mksR q n).map encRecord), .v (.int .i64 q)] = some (.v (.int .i64 (q + (n : Nat) * 3)), true) := by
  refine pure_wp (rs := [.tmp 4]) rfl rfl ?_
  have hp0 : ∀ b, cfg0.pol 44 b = 0 := fun b => rfl
  have hml := mksR_len q n
  repeat' (first | ((first | refine wSeqr ?_ | refine wIf ?_ | refine wReg ?_ | (refine wRet ?_; (try simp only [thenQ, blockQ]); refine ends_by ?_)); intro xx hx; have hc := trivial; (repeat' (simp only [hc, Nat.reduceBEq, go_sem, Nat.reduceAdd, Nat.reduceMul, Nat.reduceSub, Nat.reduceEqDiff, Nat.reduceLT, Nat.reduceLeDiff, Int.reduceEq, Int.reduceLT, Int.reduceLE, reduceIte, aresults, aresult, hp0] at hx; (try (rw [guardL_if] at hx; split at hx <;> rename_i hc)))); all_goals (subst hx; first | (refine ⟨_, rfl, fun ht => ?_, fun ht => ?_⟩ <;> (try simp only [bbs] at ht)) | (refine ⟨_, rfl, ?_⟩; (try simp only [tupOf])))) | refine wSkip ?_ | (refine wExit ?_; simp only [thenQ, blockQ, reduceIte, Nat.reduceEqDiff]) | refine wSeq ?_ | refine wBlock ?_)
  refine wLoop (fun k s => ∃ (j : Nat), j + k = n ∧ s.1 0 = .lst false ((mksR q n).map encRecord) ∧ s.1 1 = .v (.int .i64 (q + (j : Nat) * 3)) ∧ s.1 5 = .v (.int .i64 (j : Nat)) ∧ True) (fun k s hI => ?_) (n) _ ?_
  · obtain ⟨e, H⟩ := s
    obtain ⟨j, hj, h0, h1, h5, -⟩ := hI
    simp only at h0 h1 h5
    by_cases hlt : j < n
    · have hg' := map_at (f := encRecord) (mksR_at q n j hlt)
      have w1 : IntKind.wrap .i64 (q + (j : Nat) * 3 + 1) = q + (j : Nat) * 3 + 1 := wrap_i64 (by omega) (by omega)
      have w2 : IntKind.wrap .i64 (q + (j : Nat) * 3 + 1 + 1) = q + (j : Nat) * 3 + 2 := by rw [wrap_i64 (by omega) (by omega)]; omega
      have w3 : IntKind.wrap .i64 (q + (j : Nat) * 3 + 2 + 1) = q + ((j + 1 : Nat) : Int) * 3 := by rw [wrap_i64 (by omega) (by omega)]; omega
      repeat' (first | ((first | refine wSeqr ?_ | refine wIf ?_ | refine wReg ?_ | (refine wRet ?_; (try simp only [thenQ, blockQ]); refine ends_by ?_)); intro xx hx; have hc := trivial; (repeat' (simp only [hc, Nat.reduceBEq, go_sem, Nat.reduceAdd, Nat.reduceMul, Nat.reduceSub, Nat.reduceEqDiff, Nat.reduceLT, Nat.reduceLeDiff, Int.reduceEq, Int.reduceLT, Int.reduceLE, reduceIte, aresults, aresult, hp0, h0, h1, h5, hg', encRecord, mkR, hml, List.length_map, w1, w2, w3, wrap_succ (show j < 9223372036854775807 by omega)] at hx; (try (rw [guardL_if] at hx; split at hx <;> rename_i hc)))); all_goals (subst hx; first | (refine ⟨_, rfl, fun ht => ?_, fun ht => ?_⟩ <;> (try simp only [bbs] at ht)) | (refine ⟨_, rfl, ?_⟩; (try simp only [tupOf])))) | refine wSkip ?_ | (refine wExit ?_; simp only [thenQ, blockQ, reduceIte, Nat.reduceEqDiff]) | refine wSeq ?_ | refine wBlock ?_)
      all_goals first
        | (exfalso; (try simp only [bbs] at *); omega)
        | (exfalso; (try simp only [bbs] at *); exact absurd trivial (by assumption))
        | skip
      refine ⟨_, Nat.sub_lt (by omega) Nat.one_pos, j + 1, by omega, by simp only [upd_eq, Nat.reduceEqDiff, if_false, if_true, h0, h1, h5], by simp only [upd_eq, Nat.reduceEqDiff, if_false, if_true, h0, h1, h5], by simp only [upd_eq, Nat.reduceEqDiff, if_false, if_true, h0, h1, h5], trivial⟩
    · have hj' : j = n := by omega
      repeat' (first | ((first | refine wSeqr ?_ | refine wIf ?_ | refine wReg ?_ | (refine wRet ?_; (try simp only [thenQ, blockQ]); refine ends_by ?_)); intro xx hx; have hc := trivial; (repeat' (simp only [hc, Nat.reduceBEq, go_sem, Nat.reduceAdd, Nat.reduceMul, Nat.reduceSub, Nat.reduceEqDiff, Nat.reduceLT, Nat.reduceLeDiff, Int.reduceEq, Int.reduceLT, Int.reduceLE, reduceIte, aresults, aresult, hp0, h0, h1, h5, hml, List.length_map] at hx; (try (rw [guardL_if] at hx; split at hx <;> rename_i hc)))); all_goals (subst hx; first | (refine ⟨_, rfl, fun ht => ?_, fun ht => ?_⟩ <;> (try simp only [bbs] at ht)) | (refine ⟨_, rfl, ?_⟩; (try simp only [tupOf])))) | refine wSkip ?_ | (refine wExit ?_; simp only [thenQ, blockQ, reduceIte, Nat.reduceEqDiff]) | refine wSeq ?_ | refine wBlock ?_)
      all_goals first
        | (exfalso; (try simp only [bbs] at *); omega)
        | skip
      rw [hj']; exact ⟨rfl, rfl⟩
  · refine ⟨0, by omega, rfl, ?_, rfl, trivial⟩
    simp only [upd_eq, Nat.reduceEqDiff, if_false]
    show AV.v (.int .i64 q) = _
    simp
theorem c_lheldRecordS (q : Int) (n : Nat) (hn : n ≤ 1000) (hk : 0 ≤ q ∧ q ≤ 4611686018427387904) : ∀ H, call Tryd.prog cfg0 0 44 [.lst false ((mksR q n).map encRecord), .v (.int .i64 q)] H = some (.v (.int .i64 (q + (n : Nat) * 3)), H) :=
  call_fz Tryd.func44 rfl ok_lheldRecordS rfl (by simp only [fz_cons, fz_nil, go_sem, fz_rsG, and_self]) (p_lheldRecordS q n hn hk)

theorem ok_leqRecord : fnOk Tryd.prog cfg0 68 Tryd.f68 = true := by kernel_rfl
theorem p_leqRecord (k : RecordM) : pure Tryd.prog cfg0 68 Tryd.f68 [.agg [.v (.int .i64 k.Type_), .v (.int .i64 k.Node), .v (.int .i64 k.Port)], .agg [.v (.int .i64 k.Type_), .v (.int .i64 k.Node), .v (.int .i64 k.Port)]] = some (.v (.bool true), true) := by
  refine pure_wp (rs := [.tmp 4]) rfl rfl ?_
  have hp0 : ∀ b, cfg0.pol 68 b = 0 := fun b => rfl
  repeat' (first | ((first | refine wSeqr ?_ | refine wIf ?_ | refine wReg ?_ | (refine wRet ?_; (try simp only [thenQ, blockQ]); refine ends_by ?_)); intro xx hx; have hc := trivial; (repeat' (simp only [hc, Nat.reduceBEq, go_sem, Nat.reduceAdd, Nat.reduceMul, Nat.reduceSub, Nat.reduceEqDiff, Nat.reduceLT, Nat.reduceLeDiff, Int.reduceEq, Int.reduceLT, Int.reduceLE, reduceIte, aresults, aresult, hp0, decide_true, decide_false, not_true_eq_false, beq_self_eq_true, Bool.not_true] at hx; (try (rw [guardL_if] at hx; split at hx <;> rename_i hc)))); all_goals (subst hx; first | (refine ⟨_, rfl, fun ht => ?_, fun ht => ?_⟩ <;> (try simp only [bbs] at ht)) | (refine ⟨_, rfl, ?_⟩; (try simp only [tupOf])))) | refine wSkip ?_ | (refine wExit ?_; simp only [thenQ, blockQ, reduceIte, Nat.reduceEqDiff]) | refine wSeq ?_ | refine wBlock ?_)
  exact ⟨rfl, rfl⟩
theorem c_leqRecord (k : RecordM) : ∀ H, call Tryd.prog cfg0 0 68 [.agg [.v (.int .i64 k.Type_), .v (.int .i64 k.Node), .v (.int .i64 k.Port)], .agg [.v (.int .i64 k.Type_), .v (.int .i64 k.Node), .v (.int .i64 k.Port)]] H = some (.v (.bool true), H) :=
  call_fz Tryd.func68 rfl ok_leqRecord rfl (by simp only [fz_cons, fz_nil, go_sem, and_self]) (p_leqRecord k)

theorem ok_leqRecordS : fnOk Tryd.prog cfg0 42 Tryd.f42 = true := by kernel_rfl
theorem p_leqRecordS (l : List RecordM) (hl : l.length ≤ 1048576) : pure Tryd.prog cfg0 42 Tryd.f42 [.lst false (l.map encRecord), .lst false (l.map encRecord)] = some (.v (.bool true), true) := by
  refine pure_wp (rs := [.tmp 4]) rfl rfl ?_
  have hp0 : ∀ b, cfg0.pol 42 b = 0 := fun b => rfl
  repeat' (first | ((first | refine wSeqr ?_ | refine wIf ?_ | refine wReg ?_ | (refine wRet ?_; (try simp only [thenQ, blockQ]); refine ends_by ?_)); intro xx hx; have hc := trivial; (repeat' (simp only [hc, Nat.reduceBEq, go_sem, Nat.reduceAdd, Nat.reduceMul, Nat.reduceSub, Nat.reduceEqDiff, Nat.reduceLT, Nat.reduceLeDiff, Int.reduceEq, Int.reduceLT, Int.reduceLE, reduceIte, aresults, aresult, hp0, List.length_map, decide_true, decide_false, not_true_eq_false] at hx; (try (rw [guardL_if] at hx; split at hx <;> rename_i hc)))); all_goals (subst hx; first | (refine ⟨_, rfl, fun ht => ?_, fun ht => ?_⟩ <;> (try simp only [bbs] at ht)) | (refine ⟨_, rfl, ?_⟩; (try simp only [tupOf])))) | refine wSkip ?_ | (refine wExit ?_; simp only [thenQ, blockQ, reduceIte, Nat.reduceEqDiff]) | refine wSeq ?_ | refine wBlock ?_)
  refine wLoop (fun k s => ∃ (j : Nat), j + k = l.length ∧ s.1 0 = .lst false (l.map encRecord) ∧ s.1 1 = .lst false (l.map encRecord) ∧ s.1 5 = .v (.int .i64 (j : Nat)) ∧ True) (fun k s hI => ?_) (l.length) _ ?_
  · obtain ⟨e, H⟩ := s
    obtain ⟨j, hj, h0, h1, h5, -⟩ := hI
    simp only at h0 h1 h5
    repeat' (first | ((first | refine wSeqr ?_ | refine wIf ?_ | refine wReg ?_ | (refine wRet ?_; (try simp only [thenQ, blockQ]); refine ends_by ?_)); intro xx hx; have hc := trivial; (repeat' (simp only [hc, Nat.reduceBEq, go_sem, Nat.reduceAdd, Nat.reduceMul, Nat.reduceSub, Nat.reduceEqDiff, Nat.reduceLT, Nat.reduceLeDiff, Int.reduceEq, Int.reduceLT, Int.reduceLE, reduceIte, aresults, aresult, hp0, h0, h5, List.length_map] at hx; (try (rw [guardL_if] at hx; split at hx <;> rename_i hc)))); all_goals (subst hx; first | (refine ⟨_, rfl, fun ht => ?_, fun ht => ?_⟩ <;> (try simp only [bbs] at ht)) | (refine ⟨_, rfl, ?_⟩; (try simp only [tupOf])))) | refine wSkip ?_ | (refine wExit ?_; simp only [thenQ, blockQ, reduceIte, Nat.reduceEqDiff]) | refine wSeq ?_ | refine wBlock ?_)
    · have hlt : j < l.length := by omega
      obtain ⟨k, hg, hd, hm⟩ := at_drop hlt
      have hg' := map_at (f := encRecord) hg
      repeat' (first | ((first | refine wSeqr ?_ | refine wIf ?_ | refine wReg ?_ | (refine wRet ?_; (try simp only [thenQ, blockQ]); refine ends_by ?_)); intro xx hx; have hc := trivial; (repeat' (simp only [hc, Nat.reduceBEq, go_sem, Nat.reduceAdd, Nat.reduceMul, Nat.reduceSub, Nat.reduceEqDiff, Nat.reduceLT, Nat.reduceLeDiff, Int.reduceEq, Int.reduceLT, Int.reduceLE, reduceIte, aresults, aresult, h0, h1, h5, hg', hp0, c_leqRecord k, Bool.not_true, wrap_succ (show j < 9223372036854775807 by omega)] at hx; (try (rw [guardL_if] at hx; split at hx <;> rename_i hc)))); all_goals (subst hx; first | (refine ⟨_, rfl, fun ht => ?_, fun ht => ?_⟩ <;> (try simp only [bbs] at ht)) | (refine ⟨_, rfl, ?_⟩; (try simp only [tupOf])))) | refine wSkip ?_ | (refine wExit ?_; simp only [thenQ, blockQ, reduceIte, Nat.reduceEqDiff]) | refine wSeq ?_ | refine wBlock ?_)
      refine ⟨_, Nat.sub_lt (by omega) Nat.one_pos, j + 1, by omega, by simp only [upd_eq, Nat.reduceEqDiff, if_false, if_true, h0, h1, h5], by simp only [upd_eq, Nat.reduceEqDiff, if_false, if_true, h0, h1, h5], by simp only [upd_eq, Nat.reduceEqDiff, if_false, if_true, h0, h1, h5], trivial⟩
    · repeat' (first | ((first | refine wSeqr ?_ | refine wIf ?_ | refine wReg ?_ | (refine wRet ?_; (try simp only [thenQ, blockQ]); refine ends_by ?_)); intro xx hx; have hc := trivial; (repeat' (simp only [hc, Nat.reduceBEq, go_sem, Nat.reduceAdd, Nat.reduceMul, Nat.reduceSub, Nat.reduceEqDiff, Nat.reduceLT, Nat.reduceLeDiff, Int.reduceEq, Int.reduceLT, Int.reduceLE, reduceIte, aresults, aresult] at hx; (try (rw [guardL_if] at hx; split at hx <;> rename_i hc)))); all_goals (subst hx; first | (refine ⟨_, rfl, fun ht => ?_, fun ht => ?_⟩ <;> (try simp only [bbs] at ht)) | (refine ⟨_, rfl, ?_⟩; (try simp only [tupOf])))) | refine wSkip ?_ | (refine wExit ?_; simp only [thenQ, blockQ, reduceIte, Nat.reduceEqDiff]) | refine wSeq ?_ | refine wBlock ?_)
      exact ⟨rfl, rfl⟩
  · refine ⟨0, by omega, rfl, rfl, rfl, trivial⟩
theorem c_leqRecordS (l : List RecordM) (hl : l.length ≤ 1048576) : ∀ H, call Tryd.prog cfg0 0 42 [.lst false (l.map encRecord), .lst false (l.map encRecord)] H = some (.v (.bool true), H) :=
  call_fz Tryd.func42 rfl ok_leqRecordS rfl (by simp only [fz_cons, fz_nil, go_sem, fz_rsG, and_self]) (p_leqRecordS l hl)

theorem fz_ar (c i s : Int) (b : Bool) (rs : List RecordM) : Fz depthD (arA c i s b rs) := Fz.agg (n := 11) fun x hx => by
  simp only [List.mem_cons, List.not_mem_nil, or_false] at hx
  rcases hx with rfl | rfl | rfl | rfl | rfl
  · exact Fz.int _ _ _
  · exact Fz.int _ _ _
  · exact Fz.int _ _ _
  · exact Fz.bool _ _
  · exact fz_rows (n := 10) (fun k => fzE_Record 9 k) rs
theorem ok_leqAnswerResult : fnOk Tryd.prog cfg0 8 Tryd.f8 = true := by kernel_rfl
theorem p_leqAnswerResult (c i s : Int) (b : Bool) (rs : List RecordM) (hl : rs.length ≤ 1048576) : pure Tryd.prog cfg0 8 Tryd.f8 [arA c i s b rs, arA c i s b rs] = some (.v (.bool true), true) := by
  refine pure_wp (rs := [.tmp 4]) rfl rfl ?_
  have hp0 : ∀ b, cfg0.pol 8 b = 0 := fun b => rfl
  unfold arA
  repeat' (first | ((first | refine wSeqr ?_ | refine wIf ?_ | refine wReg ?_ | (refine wRet ?_; (try simp only [thenQ, blockQ]); refine ends_by ?_)); intro xx hx; have hc := trivial; (repeat' (simp only [hc, Nat.reduceBEq, go_sem, Nat.reduceAdd, Nat.reduceMul, Nat.reduceSub, Nat.reduceEqDiff, Nat.reduceLT, Nat.reduceLeDiff, Int.reduceEq, Int.reduceLT, Int.reduceLE, reduceIte, aresults, aresult, hp0, c_leqRecordS rs hl, decide_true, decide_false, not_true_eq_false, beq_self_eq_true, Bool.not_true] at hx; (try (rw [guardL_if] at hx; split at hx <;> rename_i hc)))); all_goals (subst hx; first | (refine ⟨_, rfl, fun ht => ?_, fun ht => ?_⟩ <;> (try simp only [bbs] at ht)) | (refine ⟨_, rfl, ?_⟩; (try simp only [tupOf])))) | refine wSkip ?_ | (refine wExit ?_; simp only [thenQ, blockQ, reduceIte, Nat.reduceEqDiff]) | refine wSeq ?_ | refine wBlock ?_)
  all_goals exact ⟨rfl, rfl⟩
theorem c_leqAnswerResult (c i s : Int) (b : Bool) (rs : List RecordM) (hl : rs.length ≤ 1048576) : ∀ H, call Tryd.prog cfg0 0 8 [arA c i s b rs, arA c i s b rs] H = some (.v (.bool true), H) :=
  call_fz Tryd.func8 rfl ok_leqAnswerResult rfl (by simp only [fz_cons, fz_nil, go_sem, fz_ar, and_self]) (p_leqAnswerResult c i s b rs hl)

theorem ok_lheldAnswerResult : fnOk Tryd.prog cfg0 12 Tryd.f12 = true := by kernel_rfl
theorem p_lheldAnswerResult (c i s : Int) (b : Bool) (q : Int) (n : Nat) (hn : n ≤ 1000) (hk : 0 ≤ q ∧ q ≤ 4611686018427387904) : pure Tryd.prog cfg0 12 Tryd.f12 [arA c i s b (mksR q n), .v (.int .i64 q)] = some (.v (.int .i64 (q + (n : Nat) * 3)), true) := by
  refine pure_wp (rs := [.tmp 4]) rfl rfl ?_
  have hp0 : ∀ b, cfg0.pol 12 b = 0 := fun b => rfl
  have hnn : ¬ q + (n : Nat) * 3 < 0 := by omega
  unfold arA
  repeat' (first | ((first | refine wSeqr ?_ | refine wIf ?_ | refine wReg ?_ | (refine wRet ?_; (try simp only [thenQ, blockQ]); refine ends_by ?_)); intro xx hx; have hc := trivial; (repeat' (simp only [hc, Nat.reduceBEq, go_sem, Nat.reduceAdd, Nat.reduceMul, Nat.reduceSub, Nat.reduceEqDiff, Nat.reduceLT, Nat.reduceLeDiff, Int.reduceEq, Int.reduceLT, Int.reduceLE, reduceIte, aresults, aresult, hp0, c_lheldRecordS q n hn hk, hnn] at hx; (try (rw [guardL_if] at hx; split at hx <;> rename_i hc)))); all_goals (subst hx; first | (refine ⟨_, rfl, fun ht => ?_, fun ht => ?_⟩ <;> (try simp only [bbs] at ht)) | (refine ⟨_, rfl, ?_⟩; (try simp only [tupOf])))) | refine wSkip ?_ | (refine wExit ?_; simp only [thenQ, blockQ, reduceIte, Nat.reduceEqDiff]) | refine wSeq ?_ | refine wBlock ?_)
  all_goals try (exfalso; (try simp only [bbs] at *); first | omega | exact absurd trivial (by assumption))
  all_goals exact ⟨rfl, rfl⟩
theorem c_lheldAnswerResult (c i s : Int) (b : Bool) (q : Int) (n : Nat) (hn : n ≤ 1000) (hk : 0 ≤ q ∧ q ≤ 4611686018427387904) : ∀ H, call Tryd.prog cfg0 0 12 [arA c i s b (mksR q n), .v (.int .i64 q)] H = some (.v (.int .i64 (q + (n : Nat) * 3)), H) :=
  call_fz Tryd.func12 rfl ok_lheldAnswerResult rfl (by simp only [fz_cons, fz_nil, go_sem, fz_ar, and_self]) (p_lheldAnswerResult c i s b q n hn hk)

theorem ok_markAR : fnOk Tryd.prog cfg0 11 Tryd.f11 = true := by kernel_rfl
theorem cr_markAR0 (c i s : Int) (b : Bool) (q : Int) : ∀ H, call Tryd.prog cfg0 0 11 [.agg [.v (.int .i64 c), .v (.int .i64 i), .v (.int .i64 s), .v (.bool b), .lst false []], .v (.int .i64 q)] H = some (.v (.int .i64 q), H.new [.v (.int .i64 c), .v (.int .i64 i), .v (.int .i64 s), .v (.bool b), .lst false []]) := by
  intro H
  have key : ∃ r, body Tryd.prog cfg0 11 Tryd.f11 [.agg [.v (.int .i64 c), .v (.int .i64 i), .v (.int .i64 s), .v (.bool b), .lst false []], .v (.int .i64 q)] H = some r ∧ (r.1 = .v (.int .i64 q) ∧ r.2 = H.new [.v (.int .i64 c), .v (.int .i64 i), .v (.int .i64 s), .v (.bool b), .lst false []]) := by
    refine body_wp (rs := [.tmp 4]) rfl rfl (R := fun x H' => x = .v (.int .i64 q) ∧ H' = H.new [.v (.int .i64 c), .v (.int .i64 i), .v (.int .i64 s), .v (.bool b), .lst false []]) ?_
    have hp0 : ∀ b, cfg0.pol 11 b = 0 := fun b => rfl
    repeat' (first | ((first | refine wSeqr ?_ | refine wIf ?_ | refine wReg ?_ | (refine wRet ?_; (try simp only [thenQ, blockQ]); refine ends_by ?_)); intro xx hx; have hc := trivial; (repeat' (simp only [hc, Nat.reduceBEq, go_sem, Nat.reduceAdd, Nat.reduceMul, Nat.reduceSub, Nat.reduceEqDiff, Nat.reduceLT, Nat.reduceLeDiff, Int.reduceEq, Int.reduceLT, Int.reduceLE, reduceIte, aresults, aresult, hp0, cr_markRS0] at hx; (try (rw [guardL_if] at hx; split at hx <;> rename_i hc)))); all_goals (subst hx; first | (refine ⟨_, rfl, fun ht => ?_, fun ht => ?_⟩ <;> (try simp only [bbs] at ht)) | (refine ⟨_, rfl, ?_⟩; (try simp only [tupOf])))) | refine wSkip ?_ | (refine wExit ?_; simp only [thenQ, blockQ, reduceIte, Nat.reduceEqDiff]) | refine wSeq ?_ | refine wBlock ?_)
    all_goals (constructor <;> first | trivial | rfl)
  obtain ⟨⟨v, H'⟩, h1, rfl, rfl⟩ := key
  rw [call_raw Tryd.prog cfg0 Tryd.func11 rfl ok_markAR rfl rfl, h1]
open Classical in
theorem cr_markAR (c i s : Int) (d : Bool) (q : Int) (l : List RecordM) (hl : l.length ≤ 1000) (hk : 0 ≤ q ∧ q ≤ 4611686018427387904) : ∀ H b, call Tryd.prog cfg0 0 11 [.agg [.v (.int .i64 c), .v (.int .i64 i), .v (.int .i64 s), .v (.bool d), .sl b 3 0 l.length], .v (.int .i64 q)] H =
    if H.h b = some (l.map encRecord).flatten ∧ b ≠ H.g then some (.v (.int .i64 (q + (l.length : Nat) * 3)), (H.new [.v (.int .i64 c), .v (.int .i64 i), .v (.int .i64 s), .v (.bool d), .sl b 3 0 l.length]).set b ((mksR q l.length).map encRecord).flatten) else call' Tryd.prog cfg0 0 11 [.agg [.v (.int .i64 c), .v (.int .i64 i), .v (.int .i64 s), .v (.bool d), .sl b 3 0 l.length], .v (.int .i64 q)] H := by
  intro H b
  split
  rotate_left
  · rfl
  rename_i hC
  obtain ⟨hb, hn⟩ := hC
  have key : ∃ r, body Tryd.prog cfg0 11 Tryd.f11 [.agg [.v (.int .i64 c), .v (.int .i64 i), .v (.int .i64 s), .v (.bool d), .sl b 3 0 l.length], .v (.int .i64 q)] H = some r ∧ (r.1 = .v (.int .i64 (q + (l.length : Nat) * 3)) ∧ r.2 = (H.new [.v (.int .i64 c), .v (.int .i64 i), .v (.int .i64 s), .v (.bool d), .sl b 3 0 l.length]).set b ((mksR q l.length).map encRecord).flatten) := by
    refine body_wp (rs := [.tmp 4]) rfl rfl (R := fun x H' => x = .v (.int .i64 (q + (l.length : Nat) * 3)) ∧ H' = (H.new [.v (.int .i64 c), .v (.int .i64 i), .v (.int .i64 s), .v (.bool d), .sl b 3 0 l.length]).set b ((mksR q l.length).map encRecord).flatten) ?_
    have hp0 : ∀ b, cfg0.pol 11 b = 0 := fun b => rfl
    repeat' (first | ((first | refine wSeqr ?_ | refine wIf ?_ | refine wReg ?_ | (refine wRet ?_; (try simp only [thenQ, blockQ]); refine ends_by ?_)); intro xx hx; have hc := trivial; (repeat' (simp only [hc, Nat.reduceBEq, go_sem, Nat.reduceAdd, Nat.reduceMul, Nat.reduceSub, Nat.reduceEqDiff, Nat.reduceLT, Nat.reduceLeDiff, Int.reduceEq, Int.reduceLT, Int.reduceLE, reduceIte, aresults, aresult, hp0, cr_markRS l q hl hk, hb, hn] at hx; (try (rw [guardL_if] at hx; split at hx <;> rename_i hc)))); all_goals (subst hx; first | (refine ⟨_, rfl, fun ht => ?_, fun ht => ?_⟩ <;> (try simp only [bbs] at ht)) | (refine ⟨_, rfl, ?_⟩; (try simp only [tupOf])))) | refine wSkip ?_ | (refine wExit ?_; simp only [thenQ, blockQ, reduceIte, Nat.reduceEqDiff]) | refine wSeq ?_ | refine wBlock ?_)
    all_goals (constructor <;> first | trivial | rfl)
  obtain ⟨⟨v, H'⟩, h1, rfl, rfl⟩ := key
  rw [call_raw Tryd.prog cfg0 Tryd.func11 rfl ok_markAR rfl rfl, h1]
/-- A result in own blocks. -/
theorem deep_ar {H : Hp} {b : Nat} {c i s : Int} {d : Bool} {l : List RecordM} (hb : H.h b = some (l.map encRecord).flatten) : deep H depthD (.agg [.v (.int .i64 c), .v (.int .i64 i), .v (.int .i64 s), .v (.bool d), .sl b 3 0 l.length]) = some (arA c i s d l) := by
  have hd : deep H 11 (.sl b 3 0 l.length) = some (.lst false (l.map encRecord)) := deep_sl hb (by omega) (fun c hc => by obtain ⟨r, -, rfl⟩ := List.mem_map.1 hc; rfl) (by simp) (fun c hc x hx => by
    obtain ⟨r, -, rfl⟩ := List.mem_map.1 hc
    exact (fzE_Record 9 r x hx).1 H)
  exact deep_aggL (n := 11) (mapM_c rfl (mapM_c rfl (mapM_c rfl (mapM_c rfl (mapM_c hd mapM_n)))))
open Classical in
theorem cq_eqAR (c i s : Int) (d : Bool) (l : List RecordM) (hl : l.length ≤ 1048576) : ∀ H q, call Tryd.prog cfg0 0 8 [.agg [.v (.int .i64 c), .v (.int .i64 i), .v (.int .i64 s), .v (.bool d), .sl q 3 0 l.length], arA c i s d l] H =
    if H.h q = some (l.map encRecord).flatten then some (.v (.bool true), H) else call' Tryd.prog cfg0 0 8 [.agg [.v (.int .i64 c), .v (.int .i64 i), .v (.int .i64 s), .v (.bool d), .sl q 3 0 l.length], arA c i s d l] H := fun H q =>
  call_if Tryd.func8 rfl ok_leqAnswerResult rfl (fun hC => mapM_c (deep_ar hC) (mapM_c ((fz_ar c i s d l).1 H) mapM_n)) (p_leqAnswerResult c i s d l hl)
open Classical in
theorem cq_heldAR (c i s : Int) (d : Bool) (q : Int) (n : Nat) (hn : n ≤ 1000) (hk : 0 ≤ q ∧ q ≤ 4611686018427387904) : ∀ H b, call Tryd.prog cfg0 0 12 [.agg [.v (.int .i64 c), .v (.int .i64 i), .v (.int .i64 s), .v (.bool d), .sl b 3 0 n], .v (.int .i64 q)] H =
    if H.h b = some ((mksR q n).map encRecord).flatten then some (.v (.int .i64 (q + (n : Nat) * 3)), H) else call' Tryd.prog cfg0 0 12 [.agg [.v (.int .i64 c), .v (.int .i64 i), .v (.int .i64 s), .v (.bool d), .sl b 3 0 n], .v (.int .i64 q)] H := fun H b =>
  call_if Tryd.func12 rfl ok_lheldAnswerResult rfl (fun hC => mapM_c (by have := deep_ar (c := c) (i := i) (s := s) (d := d) hC; rw [mksR_len] at this; exact this) (mapM_c rfl mapM_n)) (p_lheldAnswerResult c i s d q n hn hk)
end
end Go.Proofs.YtnejoidfbgklbaaDoor
namespace Go.Proofs.YtnejoidfbgklbaaDoor
open Go Go.RowKit Go.Proofs.YtnejoidfbgklbaaDoor.Eng
set_option linter.unusedSimpArgs false
set_option linter.unusedVariables false
noncomputable section
theorem rdR_len {l : List Int} {k : Int} : ∀ (f p : Nat) (acc rs : List RecordM), rdR l k f p acc = some rs → rs.length ≤ acc.length + f := by
  intro f
  induction f with
  | zero => intro p acc rs h; simp [rdR] at h
  | succ f ih =>
    intro p acc rs h
    rw [rdR] at h
    split at h
    · obtain rfl := Option.some.inj h; omega
    · split at h
      · have := ih _ _ _ h; simp at this; omega
      · simp at h
theorem chk_is {l : List Int} {st : Int} {cut : Bool} {w : List Int} {rs rs' : List RecordM} (h : chk l st cut w rs = some rs') : rs = rs' := by
  unfold chk at h
  split at h
  · exact Option.some.inj h
  · simp at h
theorem aR_len {l : List Int} {rs : List RecordM} (h : aR l = some rs) : rs.length ≤ 5 := by
  unfold aR at h
  split at h
  · have := chk_is h; subst this; simp
  · split at h
    · split at h
      · simp at h
      · split at h
        · split at h
          · simp at h
          · rename_i rs0 hrd
            have h5 : rs0.length ≤ 5 := by
              split at hrd
              · have := rdR_len _ _ _ _ hrd; simpa using this
              · obtain rfl := Option.some.inj hrd; simp
            unfold arE at h
            split at h
            · split at h
              · have := chk_is h; subst this; exact h5
              · simp at h
            · have := chk_is h; subst this; exact h5
        · simp at h
    · simp at h
theorem raX_is (l : List Int) : ∃ c i s d rs, raX l = arA c i s d rs ∧ rs.length ≤ 5 ∧ (l = [] → rs = []) := by
  unfold raX
  by_cases hsz : 12 ≤ l.length ∧ l.length ≤ 300
  · rw [if_pos hsz]
    cases h : aR l with
    | none => exact ⟨_, _, _, _, [], rfl, by simp, fun _ => rfl⟩
    | some rs => exact ⟨_, _, _, _, rs, rfl, aR_len h, fun e => by subst e; simp at hsz⟩
  · rw [if_neg hsz]; exact ⟨_, _, _, _, [], rfl, by simp, fun _ => rfl⟩
theorem mat_ar0 (c i s : Int) (d : Bool) (H : Hp) : mat depthD (arA c i s d []) H = some (.agg [.v (.int .i64 c), .v (.int .i64 i), .v (.int .i64 s), .v (.bool d), .lst false []], H) := rfl
theorem mat_ar (c i s : Int) (d : Bool) (rs : List RecordM) (hne : rs ≠ []) (H : Hp) : mat depthD (arA c i s d rs) H = some (.agg [.v (.int .i64 c), .v (.int .i64 i), .v (.int .i64 s), .v (.bool d), .sl H.g 3 0 rs.length], H.new (rs.map encRecord).flatten) := by
  have hv : ∀ (cs : List AV) (K : Hp), (∀ x ∈ cs, ∃ y, x = .v y) → matL (mat 10) cs K = some (cs, K) := by
    intro cs
    induction cs with
    | nil => intro K _; rfl
    | cons a cs ih =>
      intro K h
      obtain ⟨y, rfl⟩ := h a (by simp)
      simp only [matL, show mat 10 (.v y) K = some (.v y, K) from rfl, Option.bind_some, ih K fun x hx => h x (by simp [hx]), Option.map_some]
  have hpl : ∀ x ∈ (rs.map encRecord).flatten, ∃ y, x = AV.v y := by
    intro x hx
    obtain ⟨cc, hc, hx⟩ := List.mem_flatten.1 hx
    obtain ⟨r, -, rfl⟩ := List.mem_map.1 hc
    simp only [encRecord, List.mem_cons, List.not_mem_nil, or_false] at hx
    rcases hx with rfl | rfl | rfl <;> exact ⟨_, rfl⟩
  have e : mat 11 (.lst false (rs.map encRecord)) H = some (.sl H.g 3 0 rs.length, H.new (rs.map encRecord).flatten) := by
    cases rs with
    | nil => exact absurd rfl hne
    | cons r rest =>
      have h2 : (rest.map encRecord).all (fun cc => decide (cc.length = (encRecord r).length)) = true := by
        rw [List.all_eq_true]; intro cc hcc
        obtain ⟨r2, -, rfl⟩ := List.mem_map.1 hcc; rfl
      rw [List.map_cons, mat_lst, if_pos ⟨show 0 < (encRecord r).length by show 0 < 3; omega, h2⟩, ← List.map_cons, hv _ H hpl]
      simp only [Option.map_some, List.length_map, List.length_cons]; rfl
  have e0 : ∀ (z : Int) (K : Hp), mat 11 (.v (.int .i64 z)) K = some (.v (.int .i64 z), K) := fun _ _ => rfl
  have e2 : ∀ (z : Bool) (K : Hp), mat 11 (.v (.bool z)) K = some (.v (.bool z), K) := fun _ _ => rfl
  show (matL (mat 11) [AV.v (.int .i64 c), .v (.int .i64 i), .v (.int .i64 s), .v (.bool d), .lst false (rs.map encRecord)] H).map _ = _
  simp only [matL, e, e0, e2, Option.bind_some, Option.map_some]
end
end Go.Proofs.YtnejoidfbgklbaaDoor
