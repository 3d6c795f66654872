/- Contracts: a name is read, the reference's side. Contracts: queries into bytes, the program's side. Contracts: queries read, the program's side. -/
import Derived.Test.YtnejoidfbgklbaaDoorNB
namespace Go.Proofs.YtnejoidfbgklbaaDoor
open Go Go.RowKit Go.Proofs.YtnejoidfbgklbaaDoor.Eng
set_option linter.unusedSimpArgs false
set_option linter.unusedVariables false
set_option maxRecDepth 100000
set_option maxHeartbeats 4000000
noncomputable section
/-- What the reference reads. -/
def srR (l : List Int) : AV := .tup [.agg [textsL (nmR l 12 12 0 [] (-1)).2.1, .v (.int .i64 (nmR l 12 12 0 [] (-1)).2.2)], .v (.int .i64 (nmR l 12 12 0 [] (-1)).1)]
theorem sr_is {l : List Int} {c : Int} {ls : List ByteArray} {nx : Int} (h : (c, ls, nx) = nmR l 12 12 0 [] (-1)) : srR l = .tup [.agg [textsL ls, .v (.int .i64 nx)], .v (.int .i64 c)] := by unfold srR; rw [← h]
theorem d_sr {H : Hp} {x : AV} {n : Nat} {ls : List ByteArray} (h : RAcc H x 1 (ls.map txcell) n) (c nx : Int) : deep H depthD (.tup [.agg [x, .v (.int .i64 nx)], .v (.int .i64 c)]) = some (.tup [.agg [textsL ls, .v (.int .i64 nx)], .v (.int .i64 c)]) := by
  have e : deep H 11 (.agg [x, .v (.int .i64 nx)]) = some (.agg [textsL ls, .v (.int .i64 nx)]) := by
    show ([x, .v (.int .i64 nx)].mapM (deep H 10)).map AV.agg = _
    rw [mapM_c (deep_labs h 8) (mapM_c (show deep H 10 (.v (.int .i64 nx)) = some (.v (.int .i64 nx)) from rfl) mapM_n)]
    rfl
  show ([AV.agg [x, .v (.int .i64 nx)], .v (.int .i64 c)].mapM (deep H 11)).map AV.tup = _
  rw [mapM_c e (mapM_c (show deep H 11 (.v (.int .i64 c)) = some (.v (.int .i64 c)) from rfl) mapM_n)]
  rfl
theorem ok_sl10Read : fnOk Tryd.prog cfg0 23 Tryd.f23 = true := by kernel_rfl
theorem p_sl10Read (l : List Int) (hb : Eng.Bytes l) (hl : l.length ≤ 1048576) (h12 : 12 ≤ l.length) : ∃ cl, pure Tryd.prog cfg0 23 Tryd.f23 [bytesL l, .v (.int .i64 12)] = some (srR l, cl) := by
  have key : ∃ v cl, v = (srR l : AV) ∧ pure Tryd.prog cfg0 23 Tryd.f23 [bytesL l, .v (.int .i64 12)] = some (v, cl) := by
    refine pure_ex (rs := [.cell 4 48, .tmp 5]) rfl rfl ?_
    have hp0 : ∀ b, cfg0.pol 23 b = 0 := fun b => rfl
    repeat' (first | ((first | refine wSeqr ?_ | refine wIf ?_ | refine wReg ?_ | (refine wRet ?_; (try simp only [thenQ, blockQ]); refine ends_by ?_)); intro xx hx; have hc := trivial; (repeat' (simp only [hc, Nat.reduceBEq, go_sem, Nat.reduceAdd, Nat.reduceMul, Nat.reduceSub, Nat.reduceEqDiff, Nat.reduceLT, Nat.reduceLeDiff, Int.reduceEq, Int.reduceLT, Int.reduceLE, reduceIte, aresults, aresult, hp0] at hx; (try (rw [guardL_if] at hx; split at hx <;> rename_i hc)))); all_goals (subst hx; first | (refine ⟨_, rfl, fun ht => ?_, fun ht => ?_⟩ <;> (try simp only [bbs] at ht)) | (refine ⟨_, rfl, ?_⟩; (try simp only [tupOf])))) | refine wSkip ?_ | (refine wExit ?_; simp only [thenQ, blockQ, reduceIte, Nat.reduceEqDiff]) | refine wSeq ?_ | refine wBlock ?_)
    all_goals try (exfalso; (try simp only [bbs] at *); first | omega | exact absurd trivial (by assumption))
    refine wLoop (fun k s => ∃ (i : Nat) (p : Nat) (jm : Nat) (ls : List ByteArray) (x : AV) (nx : Int), i + k = 12 ∧ s.1 0 = bytesL l ∧ s.1 1 = .v (.int .i64 (p : Nat)) ∧ s.1 4 = .ptr 0 0 ∧ s.1 6 = .ptr 1 0 ∧ s.1 7 = .v (.int .i64 (l.length : Nat)) ∧ s.1 8 = .v (.int .i64 (jm : Nat)) ∧ (nmR l (12 - i) p jm ls nx = nmR l 12 12 0 [] (-1) ∧ i = jm + ls.length ∧ jm ≤ 5 ∧ ls.length ≤ 6 ∧ p ≤ l.length) ∧ (RAcc s.2 x 1 (ls.map txcell) ls.length) ∧ (s.2.h 0 = some [.v (.slice none 0 0), .v (.int .i64 0)] ∧ s.2.h 1 = some [x, .v (.int .i64 nx)] ∧ 1 < s.2.g) ∧ (Off 0 x ∧ Off 1 x)) (fun k s hI => ?_) (12) _ ?_
    · obtain ⟨e, H⟩ := s
      obtain ⟨i, p, jm, ls, x, nx, hi, h0, h1, h4, h6, h7, h8, hst, hr, hbb, hoff⟩ := hI
      simp only at h0 h1 h4 h6 h7 h8 hst hr hbb hoff
      obtain ⟨hst, hij, hj5, hl6, hpl⟩ := hst
      obtain ⟨hb0, hb1, hgg⟩ := hbb
      obtain ⟨f, hf⟩ : ∃ f, 12 - i = f + 1 := ⟨11 - i, by omega⟩
      have hf2 : 12 - (i + 1) = f := by omega
      rw [hf] at hst
      have xok := hr.one
      have hr0 := fun ds => hr.setOff hoff.1 ds
      by_cases hlt : p < l.length
      rotate_left
      · have hltI : ¬ ((p : Nat) : Int) < (l.length : Int) := by omega
        have hN : l[p]? = none := List.getElem?_eq_none (by omega)
        rw [nm_none hN] at hst
        rw [sr_is hst]
        repeat' (first | ((first | refine wSeqr ?_ | refine wIf ?_ | refine wReg ?_ | (refine wRet ?_; (try simp only [thenQ, blockQ]); refine ends_by ?_)); intro xx hx; have hc := trivial; (repeat' (simp only [hc, Nat.reduceBEq, go_sem, Nat.reduceAdd, Nat.reduceMul, Nat.reduceSub, Nat.reduceEqDiff, Nat.reduceLT, Nat.reduceLeDiff, Int.reduceEq, Int.reduceLT, Int.reduceLE, reduceIte, aresults, aresult, hp0, h0, h1, h4, h6, h7, hltI, hb0, hb1, xok.1, xok.2] at hx; (try (rw [guardL_if] at hx; split at hx <;> rename_i hc)))); all_goals (subst hx; first | (refine ⟨_, rfl, fun ht => ?_, fun ht => ?_⟩ <;> (try simp only [bbs] at ht)) | (refine ⟨_, rfl, ?_⟩; (try simp only [tupOf])))) | refine wSkip ?_ | (refine wExit ?_; simp only [thenQ, blockQ, reduceIte, Nat.reduceEqDiff]) | refine wSeq ?_ | refine wBlock ?_)
        all_goals try (exfalso; (try simp only [bbs] at *); first | omega | exact absurd trivial (by assumption))
        all_goals exact dirty (d_sr (hr0 _) _ _)
      have hltI : ((p : Nat) : Int) < (l.length : Int) := by omega
      obtain ⟨c, hg, -, hm⟩ := at_drop hlt
      have hcb := hb c hm
      have wc : IntKind.wrap .i64 c = c := wrap_i64 (by omega) (by omega)
      have wp1 : IntKind.wrap .i64 (((p : Nat) : Int) + 1) = ((p + 1 : Nat) : Int) := wrap_succ (by omega)
      have wp2 : IntKind.wrap .i64 (((p : Nat) : Int) + 2) = ((p : Nat) : Int) + 2 := wrap_i64 (by omega) (by omega)
      by_cases c0 : c = 0
      · have c0T : (c = 0) = True := eq_true c0
        rw [nm_zero hg c0] at hst
        by_cases hj : jm = 0
        · have hjI : (((jm : Nat) : Int) = 0) = True := eq_true (by omega)
          rw [if_pos hj, show ((p : Nat) : Int) + 1 = ((p + 1 : Nat) : Int) by omega] at hst
          rw [sr_is hst]
          repeat' (first | ((first | refine wSeqr ?_ | refine wIf ?_ | refine wReg ?_ | (refine wRet ?_; (try simp only [thenQ, blockQ]); refine ends_by ?_)); intro xx hx; have hc := trivial; (repeat' (simp only [hc, Nat.reduceBEq, go_sem, Nat.reduceAdd, Nat.reduceMul, Nat.reduceSub, Nat.reduceEqDiff, Nat.reduceLT, Nat.reduceLeDiff, Int.reduceEq, Int.reduceLT, Int.reduceLE, reduceIte, aresults, aresult, hp0, h0, h1, h4, h6, h7, h8, hltI, hg, wc, c0T, hjI, wp1, hb0, hb1, xok.1, xok.2, aconv_int u5 u2] at hx; (try (rw [guardL_if] at hx; split at hx <;> rename_i hc)))); all_goals (subst hx; first | (refine ⟨_, rfl, fun ht => ?_, fun ht => ?_⟩ <;> (try simp only [bbs] at ht)) | (refine ⟨_, rfl, ?_⟩; (try simp only [tupOf])))) | refine wSkip ?_ | (refine wExit ?_; simp only [thenQ, blockQ, reduceIte, Nat.reduceEqDiff]) | refine wSeq ?_ | refine wBlock ?_)
          all_goals try (exfalso; (try simp only [bbs] at *); first | omega | exact absurd trivial (by assumption))
          all_goals exact dirty (d_sr ((hr.setOff hoff.2 _).setOff hoff.1 _) _ _)
        · have hjI : ¬ ((jm : Nat) : Int) = 0 := by omega
          rw [if_neg hj] at hst
          rw [sr_is hst]
          repeat' (first | ((first | refine wSeqr ?_ | refine wIf ?_ | refine wReg ?_ | (refine wRet ?_; (try simp only [thenQ, blockQ]); refine ends_by ?_)); intro xx hx; have hc := trivial; (repeat' (simp only [hc, Nat.reduceBEq, go_sem, Nat.reduceAdd, Nat.reduceMul, Nat.reduceSub, Nat.reduceEqDiff, Nat.reduceLT, Nat.reduceLeDiff, Int.reduceEq, Int.reduceLT, Int.reduceLE, reduceIte, aresults, aresult, hp0, h0, h1, h4, h6, h7, h8, hltI, hg, wc, c0T, hjI, wp1, hb0, hb1, xok.1, xok.2, aconv_int u5 u2] at hx; (try (rw [guardL_if] at hx; split at hx <;> rename_i hc)))); all_goals (subst hx; first | (refine ⟨_, rfl, fun ht => ?_, fun ht => ?_⟩ <;> (try simp only [bbs] at ht)) | (refine ⟨_, rfl, ?_⟩; (try simp only [tupOf])))) | refine wSkip ?_ | (refine wExit ?_; simp only [thenQ, blockQ, reduceIte, Nat.reduceEqDiff]) | refine wSeq ?_ | refine wBlock ?_)
          all_goals try (exfalso; (try simp only [bbs] at *); first | omega | exact absurd trivial (by assumption))
          all_goals exact dirty (d_sr (hr0 _) _ _)
      by_cases c192 : 192 ≤ c
      · by_cases hp1 : p + 1 < l.length
        rotate_left
        · have hp1I : (l.length : Int) ≤ ((p + 1 : Nat) : Int) := by omega
          have hN : l[p + 1]? = none := List.getElem?_eq_none (by omega)
          rw [nm_end hg c192 hN] at hst
          rw [sr_is hst]
          repeat' (first | ((first | refine wSeqr ?_ | refine wIf ?_ | refine wReg ?_ | (refine wRet ?_; (try simp only [thenQ, blockQ]); refine ends_by ?_)); intro xx hx; have hc := trivial; (repeat' (simp only [hc, Nat.reduceBEq, go_sem, Nat.reduceAdd, Nat.reduceMul, Nat.reduceSub, Nat.reduceEqDiff, Nat.reduceLT, Nat.reduceLeDiff, Int.reduceEq, Int.reduceLT, Int.reduceLE, reduceIte, aresults, aresult, hp0, h0, h1, h4, h6, h7, hltI, hg, wc, wp1, c0, c192, hp1I, hb0, hb1, xok.1, xok.2, aconv_int u5 u2] at hx; (try (rw [guardL_if] at hx; split at hx <;> rename_i hc)))); all_goals (subst hx; first | (refine ⟨_, rfl, fun ht => ?_, fun ht => ?_⟩ <;> (try simp only [bbs] at ht)) | (refine ⟨_, rfl, ?_⟩; (try simp only [tupOf])))) | refine wSkip ?_ | (refine wExit ?_; simp only [thenQ, blockQ, reduceIte, Nat.reduceEqDiff]) | refine wSeq ?_ | refine wBlock ?_)
          all_goals try (exfalso; (try simp only [bbs] at *); first | omega | exact absurd trivial (by assumption))
          all_goals exact dirty (d_sr (hr0 _) _ _)
        have hp1I : ¬ (l.length : Int) ≤ ((p + 1 : Nat) : Int) := by omega
        obtain ⟨d, hg1, -, hm1⟩ := at_drop hp1
        have hdb := hb d hm1
        obtain ⟨t, ett⟩ : ∃ t : Nat, (c - 192) * 256 + d = (t : Int) := ⟨((c - 192) * 256 + d).toNat, by omega⟩
        have wd : IntKind.wrap .i64 d = d := wrap_i64 (by omega) (by omega)
        have wq1 : IntKind.wrap .i64 (c - 192) = c - 192 := wrap_i64 (by omega) (by omega)
        have wq2 : IntKind.wrap .i64 ((c - 192) * 256) = (c - 192) * 256 := wrap_i64 (by omega) (by omega)
        have wq3 : IntKind.wrap .i64 ((c - 192) * 256 + d) = (t : Int) := by rw [wrap_i64 (by omega) (by omega)]; exact ett
        have wj : IntKind.wrap .i64 (((jm : Nat) : Int) + 1) = ((jm + 1 : Nat) : Int) := wrap_succ (by omega)
        rw [nm_jump hg c192 hg1, ett, Int.toNat_natCast] at hst
        by_cases hpt : ((p : Nat) : Int) ≤ (t : Int)
        · rw [if_pos (.inl hpt)] at hst
          rw [sr_is hst]
          repeat' (first | ((first | refine wSeqr ?_ | refine wIf ?_ | refine wReg ?_ | (refine wRet ?_; (try simp only [thenQ, blockQ]); refine ends_by ?_)); intro xx hx; have hc := trivial; (repeat' (simp only [hc, Nat.reduceBEq, go_sem, Nat.reduceAdd, Nat.reduceMul, Nat.reduceSub, Nat.reduceEqDiff, Nat.reduceLT, Nat.reduceLeDiff, Int.reduceEq, Int.reduceLT, Int.reduceLE, reduceIte, aresults, aresult, hp0, h0, h1, h4, h6, h7, h8, hltI, hg, hg1, wc, wd, wp1, wq1, wq2, wq3, wj, c0, c192, hp1I, hpt, hb0, hb1, xok.1, xok.2, aconv_int u5 u2] at hx; (try (rw [guardL_if] at hx; split at hx <;> rename_i hc)))); all_goals (subst hx; first | (refine ⟨_, rfl, fun ht => ?_, fun ht => ?_⟩ <;> (try simp only [bbs] at ht)) | (refine ⟨_, rfl, ?_⟩; (try simp only [tupOf])))) | refine wSkip ?_ | (refine wExit ?_; simp only [thenQ, blockQ, reduceIte, Nat.reduceEqDiff]) | refine wSeq ?_ | refine wBlock ?_)
          all_goals try (exfalso; (try simp only [bbs] at *); first | omega | exact absurd trivial (by assumption))
          all_goals exact dirty (d_sr (hr0 _) _ _)
        by_cases h5I : 5 < ((jm + 1 : Nat) : Int)
        · rw [if_pos (.inr (by omega))] at hst
          rw [sr_is hst]
          repeat' (first | ((first | refine wSeqr ?_ | refine wIf ?_ | refine wReg ?_ | (refine wRet ?_; (try simp only [thenQ, blockQ]); refine ends_by ?_)); intro xx hx; have hc := trivial; (repeat' (simp only [hc, Nat.reduceBEq, go_sem, Nat.reduceAdd, Nat.reduceMul, Nat.reduceSub, Nat.reduceEqDiff, Nat.reduceLT, Nat.reduceLeDiff, Int.reduceEq, Int.reduceLT, Int.reduceLE, reduceIte, aresults, aresult, hp0, h0, h1, h4, h6, h7, h8, hltI, hg, hg1, wc, wd, wp1, wq1, wq2, wq3, wj, c0, c192, hp1I, hpt, h5I, hb0, hb1, xok.1, xok.2, aconv_int u5 u2] at hx; (try (rw [guardL_if] at hx; split at hx <;> rename_i hc)))); all_goals (subst hx; first | (refine ⟨_, rfl, fun ht => ?_, fun ht => ?_⟩ <;> (try simp only [bbs] at ht)) | (refine ⟨_, rfl, ?_⟩; (try simp only [tupOf])))) | refine wSkip ?_ | (refine wExit ?_; simp only [thenQ, blockQ, reduceIte, Nat.reduceEqDiff]) | refine wSeq ?_ | refine wBlock ?_)
          all_goals try (exfalso; (try simp only [bbs] at *); first | omega | exact absurd trivial (by assumption))
          all_goals exact dirty (d_sr (hr0 _) _ _)
        rw [if_neg (by omega)] at hst
        by_cases hj : jm = 0
        · have hjI : ((jm + 1 : Nat) : Int) = 1 := by omega
          have hjT : (((jm + 1 : Nat) : Int) = 1) = True := eq_true hjI
          rw [if_pos hj] at hst
          repeat' (first | ((first | refine wSeqr ?_ | refine wIf ?_ | refine wReg ?_ | (refine wRet ?_; (try simp only [thenQ, blockQ]); refine ends_by ?_)); intro xx hx; have hc := trivial; (repeat' (simp only [hc, Nat.reduceBEq, go_sem, Nat.reduceAdd, Nat.reduceMul, Nat.reduceSub, Nat.reduceEqDiff, Nat.reduceLT, Nat.reduceLeDiff, Int.reduceEq, Int.reduceLT, Int.reduceLE, reduceIte, aresults, aresult, hp0, h0, h1, h4, h6, h7, h8, hltI, hg, hg1, wc, wd, wp1, wp2, wq1, wq2, wq3, wj, c0, c192, hp1I, hjT, h5I, hpt, hb0, hb1, xok.1, xok.2, aconv_int u5 u2] at hx; (try (rw [guardL_if] at hx; split at hx <;> rename_i hc)))); all_goals (subst hx; first | (refine ⟨_, rfl, fun ht => ?_, fun ht => ?_⟩ <;> (try simp only [bbs] at ht)) | (refine ⟨_, rfl, ?_⟩; (try simp only [tupOf])))) | refine wSkip ?_ | (refine wExit ?_; simp only [thenQ, blockQ, reduceIte, Nat.reduceEqDiff]) | refine wSeq ?_ | refine wBlock ?_)
          all_goals try (exfalso; (try simp only [bbs] at *); first | omega | exact absurd trivial (by assumption))
          refine ⟨_, Nat.sub_lt (by omega) Nat.one_pos, i + 1, t, jm + 1, ls, x, (p : Int) + 2, by omega, by simp only [upd_eq, Nat.reduceEqDiff, if_false, if_true, h0, h1, h4, h6, h7, h8], by simp only [upd_eq, Nat.reduceEqDiff, if_false, if_true, h0, h1, h4, h6, h7, h8], by simp only [upd_eq, Nat.reduceEqDiff, if_false, if_true, h0, h1, h4, h6, h7, h8], by simp only [upd_eq, Nat.reduceEqDiff, if_false, if_true, h0, h1, h4, h6, h7, h8], by simp only [upd_eq, Nat.reduceEqDiff, if_false, if_true, h0, h1, h4, h6, h7, h8], by simp only [upd_eq, Nat.reduceEqDiff, if_false, if_true, h0, h1, h4, h6, h7, h8], ?_⟩
          refine ⟨⟨?_, by omega, by omega, hl6, by omega⟩, hr.setOff hoff.2 _, ⟨?_, ?_, hgg⟩, hoff⟩
          · rw [hf2]; exact hst
          · rw [Hp.set_h, if_neg (by omega)]; exact hb0
          · rw [Hp.set_h, if_pos rfl]
        · have hjI : ¬ ((jm + 1 : Nat) : Int) = 1 := by omega
          rw [if_neg hj] at hst
          repeat' (first | ((first | refine wSeqr ?_ | refine wIf ?_ | refine wReg ?_ | (refine wRet ?_; (try simp only [thenQ, blockQ]); refine ends_by ?_)); intro xx hx; have hc := trivial; (repeat' (simp only [hc, Nat.reduceBEq, go_sem, Nat.reduceAdd, Nat.reduceMul, Nat.reduceSub, Nat.reduceEqDiff, Nat.reduceLT, Nat.reduceLeDiff, Int.reduceEq, Int.reduceLT, Int.reduceLE, reduceIte, aresults, aresult, hp0, h0, h1, h4, h6, h7, h8, hltI, hg, hg1, wc, wd, wp1, wp2, wq1, wq2, wq3, wj, c0, c192, hp1I, hjI, hpt, h5I, hb0, hb1, xok.1, xok.2, aconv_int u5 u2] at hx; (try (rw [guardL_if] at hx; split at hx <;> rename_i hc)))); all_goals (subst hx; first | (refine ⟨_, rfl, fun ht => ?_, fun ht => ?_⟩ <;> (try simp only [bbs] at ht)) | (refine ⟨_, rfl, ?_⟩; (try simp only [tupOf])))) | refine wSkip ?_ | (refine wExit ?_; simp only [thenQ, blockQ, reduceIte, Nat.reduceEqDiff]) | refine wSeq ?_ | refine wBlock ?_)
          all_goals try (exfalso; (try simp only [bbs] at *); first | omega | exact absurd trivial (by assumption))
          refine ⟨_, Nat.sub_lt (by omega) Nat.one_pos, i + 1, t, jm + 1, ls, x, nx, by omega, by simp only [upd_eq, Nat.reduceEqDiff, if_false, if_true, h0, h1, h4, h6, h7, h8], by simp only [upd_eq, Nat.reduceEqDiff, if_false, if_true, h0, h1, h4, h6, h7, h8], by simp only [upd_eq, Nat.reduceEqDiff, if_false, if_true, h0, h1, h4, h6, h7, h8], by simp only [upd_eq, Nat.reduceEqDiff, if_false, if_true, h0, h1, h4, h6, h7, h8], by simp only [upd_eq, Nat.reduceEqDiff, if_false, if_true, h0, h1, h4, h6, h7, h8], by simp only [upd_eq, Nat.reduceEqDiff, if_false, if_true, h0, h1, h4, h6, h7, h8], ?_⟩
          exact ⟨⟨by rw [hf2]; exact hst, by omega, by omega, hl6, by omega⟩, hr, ⟨hb0, hb1, hgg⟩, hoff⟩
      by_cases c20 : c ≤ 20
      rotate_left
      · rw [nm_mid hg c20 c192] at hst
        rw [sr_is hst]
        repeat' (first | ((first | refine wSeqr ?_ | refine wIf ?_ | refine wReg ?_ | (refine wRet ?_; (try simp only [thenQ, blockQ]); refine ends_by ?_)); intro xx hx; have hc := trivial; (repeat' (simp only [hc, Nat.reduceBEq, go_sem, Nat.reduceAdd, Nat.reduceMul, Nat.reduceSub, Nat.reduceEqDiff, Nat.reduceLT, Nat.reduceLeDiff, Int.reduceEq, Int.reduceLT, Int.reduceLE, reduceIte, aresults, aresult, hp0, h0, h1, h4, h6, h7, hltI, hg, wc, c0, c20, c192, hb0, hb1, xok.1, xok.2, aconv_int u5 u2] at hx; (try (rw [guardL_if] at hx; split at hx <;> rename_i hc)))); all_goals (subst hx; first | (refine ⟨_, rfl, fun ht => ?_, fun ht => ?_⟩ <;> (try simp only [bbs] at ht)) | (refine ⟨_, rfl, ?_⟩; (try simp only [tupOf])))) | refine wSkip ?_ | (refine wExit ?_; simp only [thenQ, blockQ, reduceIte, Nat.reduceEqDiff]) | refine wSeq ?_ | refine wBlock ?_)
        all_goals try (exfalso; (try simp only [bbs] at *); first | omega | exact absurd trivial (by assumption))
        all_goals exact dirty (d_sr (hr0 _) _ _)
      obtain ⟨n, hn⟩ : ∃ n : Nat, c = (n : Int) := ⟨c.toNat, by omega⟩
      subst hn
      rw [nm_lab hg c0 c20, Int.toNat_natCast] at hst
      have we : IntKind.wrap .i64 (((p + 1 : Nat) : Int) + (n : Int)) = ((p + 1 + n : Nat) : Int) := by rw [wrap_i64 (by omega) (by omega)]; omega
      by_cases hend : p + 1 + n ≤ l.length
      rotate_left
      · have hE : ¬ ((p + 1 + n : Nat) : Int) ≤ (l.length : Int) := by omega
        rw [if_neg (fun h => hend h.1)] at hst
        rw [sr_is hst]
        repeat' (first | ((first | refine wSeqr ?_ | refine wIf ?_ | refine wReg ?_ | (refine wRet ?_; (try simp only [thenQ, blockQ]); refine ends_by ?_)); intro xx hx; have hc := trivial; (repeat' (simp only [hc, Nat.reduceBEq, go_sem, Nat.reduceAdd, Nat.reduceMul, Nat.reduceSub, Nat.reduceEqDiff, Nat.reduceLT, Nat.reduceLeDiff, Int.reduceEq, Int.reduceLT, Int.reduceLE, reduceIte, aresults, aresult, hp0, h0, h1, h4, h6, h7, hltI, hg, wc, wp1, we, c0, c20, c192, hE, hb0, hb1, xok.1, xok.2, aconv_int u5 u2] at hx; (try (rw [guardL_if] at hx; split at hx <;> rename_i hc)))); all_goals (subst hx; first | (refine ⟨_, rfl, fun ht => ?_, fun ht => ?_⟩ <;> (try simp only [bbs] at ht)) | (refine ⟨_, rfl, ?_⟩; (try simp only [tupOf])))) | refine wSkip ?_ | (refine wExit ?_; simp only [thenQ, blockQ, reduceIte, Nat.reduceEqDiff]) | refine wSeq ?_ | refine wBlock ?_)
        all_goals try (exfalso; (try simp only [bbs] at *); first | omega | exact absurd trivial (by assumption))
        all_goals exact dirty (d_sr (hr0 _) _ _)
      have hE : ((p + 1 + n : Nat) : Int) ≤ (l.length : Int) := by omega
      have hsl : (p + 1 ≤ p + 1 + n ∧ p + 1 + n ≤ l.length) = True := eq_true ⟨by omega, hend⟩
      have hsb : p + 1 + n - (p + 1) = n := by omega
      have cvb := conv_bytesL u22 u9 u5
      have hcl := c_sl10Label (strOf ((l.drop (p + 1)).take n)) (by rw [strOf_size2]; simp; omega)
      generalize hlb : strOf ((l.drop (p + 1)).take n) = lab at *
      cases hlab : labelOk lab with
      | false =>
        rw [if_neg (by simp [hlab])] at hst
        rw [sr_is hst]
        repeat' (first | ((first | refine wSeqr ?_ | refine wIf ?_ | refine wReg ?_ | (refine wRet ?_; (try simp only [thenQ, blockQ]); refine ends_by ?_)); intro xx hx; have hc := trivial; (repeat' (simp only [hc, Nat.reduceBEq, go_sem, Nat.reduceAdd, Nat.reduceMul, Nat.reduceSub, Nat.reduceEqDiff, Nat.reduceLT, Nat.reduceLeDiff, Int.reduceEq, Int.reduceLT, Int.reduceLE, reduceIte, aresults, aresult, hp0, h0, h1, h4, h6, h7, hltI, hg, wc, wp1, we, c0, c20, c192, hE, hsl, hsb, cvb, hlb, hcl, hlab, hb0, hb1, xok.1, xok.2, aconv_int u5 u2] at hx; (try (rw [guardL_if] at hx; split at hx <;> rename_i hc)))); all_goals (subst hx; first | (refine ⟨_, rfl, fun ht => ?_, fun ht => ?_⟩ <;> (try simp only [bbs] at ht)) | (refine ⟨_, rfl, ?_⟩; (try simp only [tupOf])))) | refine wSkip ?_ | (refine wExit ?_; simp only [thenQ, blockQ, reduceIte, Nat.reduceEqDiff]) | refine wSeq ?_ | refine wBlock ?_)
        all_goals try (exfalso; (try simp only [bbs] at *); first | omega | exact absurd trivial (by assumption))
        all_goals exact dirty (d_sr (hr0 _) _ _)
      | true =>
        rw [if_pos ⟨hend, hlab⟩] at hst
        have hlen := hr.len 9
        by_cases l6 : ls.length = 6
        · have l6I : 6 ≤ ((ls.length : Nat) : Int) := by omega
          rw [if_pos l6] at hst
          rw [sr_is hst]
          repeat' (first | ((first | refine wSeqr ?_ | refine wIf ?_ | refine wReg ?_ | (refine wRet ?_; (try simp only [thenQ, blockQ]); refine ends_by ?_)); intro xx hx; have hc := trivial; (repeat' (simp only [hc, Nat.reduceBEq, go_sem, Nat.reduceAdd, Nat.reduceMul, Nat.reduceSub, Nat.reduceEqDiff, Nat.reduceLT, Nat.reduceLeDiff, Int.reduceEq, Int.reduceLT, Int.reduceLE, reduceIte, aresults, aresult, hp0, h0, h1, h4, h6, h7, hltI, hg, wc, wp1, we, c0, c20, c192, hE, hsl, hsb, cvb, hlb, hcl, hlab, hb0, hb1, hlen, l6I, xok.1, xok.2, aconv_int u5 u2] at hx; (try (rw [guardL_if] at hx; split at hx <;> rename_i hc)))); all_goals (subst hx; first | (refine ⟨_, rfl, fun ht => ?_, fun ht => ?_⟩ <;> (try simp only [bbs] at ht)) | (refine ⟨_, rfl, ?_⟩; (try simp only [tupOf])))) | refine wSkip ?_ | (refine wExit ?_; simp only [thenQ, blockQ, reduceIte, Nat.reduceEqDiff]) | refine wSeq ?_ | refine wBlock ?_)
          all_goals try (exfalso; (try simp only [bbs] at *); first | omega | exact absurd trivial (by assumption))
          all_goals exact dirty (d_sr (hr0 _) _ _)
        · have l6I : ¬ 6 ≤ ((ls.length : Nat) : Int) := by omega
          rw [if_neg l6] at hst
          repeat' ((fail_if_success (first | refine wAt 24 ?_)); first | ((first | refine wSeqr ?_ | refine wIf ?_ | refine wReg ?_ | (refine wRet ?_; (try simp only [thenQ, blockQ]); refine ends_by ?_)); intro xx hx; have hc := trivial; (repeat' (simp only [hc, Nat.reduceBEq, go_sem, Nat.reduceAdd, Nat.reduceMul, Nat.reduceSub, Nat.reduceEqDiff, Nat.reduceLT, Nat.reduceLeDiff, Int.reduceEq, Int.reduceLT, Int.reduceLE, reduceIte, aresults, aresult, hp0, h0, h1, h4, h6, h7, hltI, hg, wc, wp1, we, c0, c20, c192, hE, hsl, hsb, cvb, hlb, hcl, hlab, hb0, hb1, hlen, l6I, aconv_int u5 u2] at hx; (try (rw [guardL_if] at hx; split at hx <;> rename_i hc)))); all_goals (subst hx; first | (refine ⟨_, rfl, fun ht => ?_, fun ht => ?_⟩ <;> (try simp only [bbs] at ht)) | (refine ⟨_, rfl, ?_⟩; (try simp only [tupOf])))) | refine wSkip ?_ | (refine wExit ?_; simp only [thenQ, blockQ, reduceIte, Nat.reduceEqDiff]) | refine wSeq ?_ | refine wBlock ?_)
          all_goals try (exfalso; (try simp only [bbs] at *); first | omega | exact absurd trivial (by assumption))
          (first | refine wSeqr ?_ | refine wReg ?_); intro xx hx; have hc := trivial; (repeat' (simp only [hc, Nat.reduceBEq, go_sem, Nat.reduceAdd, Nat.reduceMul, Nat.reduceSub, Nat.reduceEqDiff, Nat.reduceLT, Nat.reduceLeDiff, Int.reduceEq, Int.reduceLT, Int.reduceLE, reduceIte, aresults, aresult, hp0, h0, h1, h6, hb1, wp1, we, hsl, hsb, cvb, hlb] at hx; (try (rw [guardL_if] at hx; split at hx <;> rename_i hc)))); generalize hq : aappend Tryd.prog _ _ _ _ = q at hx
          obtain ⟨x', K2, rfl, hacc, hg2, hk2, ho2⟩ := app_rows hq el46 zero9 by9 int46 (sz := 1) rfl (by omega) hr (m := 1) rfl (afirst_one _ _ [txcell lab]) rfl (by omega) (by omega)
          clear hq
          have k0 := (hk2 0 (by omega) hoff.1).trans hb0
          have k1 := (hk2 1 hgg hoff.2).trans hb1
          have o0 := ho2 0 (by omega) hoff.1
          have o1 := ho2 1 hgg hoff.2
          have xok' := hacc.one
          have gg : 1 < K2.g := by omega
          have hc := trivial; (repeat' (simp only [hc, Nat.reduceBEq, go_sem, Nat.reduceAdd, Nat.reduceMul, Nat.reduceSub, Nat.reduceEqDiff, Nat.reduceLT, Nat.reduceLeDiff, Int.reduceEq, Int.reduceLT, Int.reduceLE, reduceIte, aresults, aresult, hp0, h6, k1, xok'.1, xok'.2] at hx; (try (rw [guardL_if] at hx; split at hx <;> rename_i hc)))); all_goals (subst hx; refine ⟨_, rfl, ?_⟩)
          repeat' (first | ((first | refine wSeqr ?_ | refine wIf ?_ | refine wReg ?_ | (refine wRet ?_; (try simp only [thenQ, blockQ]); refine ends_by ?_)); intro xx hx; have hc := trivial; (repeat' (simp only [hc, Nat.reduceBEq, go_sem, Nat.reduceAdd, Nat.reduceMul, Nat.reduceSub, Nat.reduceEqDiff, Nat.reduceLT, Nat.reduceLeDiff, Int.reduceEq, Int.reduceLT, Int.reduceLE, reduceIte, aresults, aresult, hp0, h1, wp1, we] at hx; (try (rw [guardL_if] at hx; split at hx <;> rename_i hc)))); all_goals (subst hx; first | (refine ⟨_, rfl, fun ht => ?_, fun ht => ?_⟩ <;> (try simp only [bbs] at ht)) | (refine ⟨_, rfl, ?_⟩; (try simp only [tupOf])))) | refine wSkip ?_ | (refine wExit ?_; simp only [thenQ, blockQ, reduceIte, Nat.reduceEqDiff]) | refine wSeq ?_ | refine wBlock ?_)
          all_goals try (exfalso; (try simp only [bbs] at *); first | omega | exact absurd trivial (by assumption))
          refine ⟨_, Nat.sub_lt (by omega) Nat.one_pos, i + 1, p + 1 + n, jm, ls ++ [lab], x', nx, by omega, by simp only [upd_eq, Nat.reduceEqDiff, if_false, if_true, h0, h1, h4, h6, h7, h8], by simp only [upd_eq, Nat.reduceEqDiff, if_false, if_true, h0, h1, h4, h6, h7, h8], by simp only [upd_eq, Nat.reduceEqDiff, if_false, if_true, h0, h1, h4, h6, h7, h8], by simp only [upd_eq, Nat.reduceEqDiff, if_false, if_true, h0, h1, h4, h6, h7, h8], by simp only [upd_eq, Nat.reduceEqDiff, if_false, if_true, h0, h1, h4, h6, h7, h8], by simp only [upd_eq, Nat.reduceEqDiff, if_false, if_true, h0, h1, h4, h6, h7, h8], ?_⟩
          refine ⟨⟨?_, ?_, hj5, ?_, hend⟩, ?_, ⟨?_, ?_, gg⟩, o0, o1⟩
          · rw [hf2]; exact hst
          · simp only [List.length_append, List.length_singleton]; omega
          · simp only [List.length_append, List.length_singleton]; omega
          · rw [List.map_append, List.length_append]
            exact hacc.setOff o1 _
          · rw [Hp.set_h, if_neg (by omega)]; exact k0
          · rw [Hp.set_h, if_pos rfl]
    · refine ⟨0, 12, 0, [], .v (.slice none 0 0), -1, by omega, rfl, rfl, rfl, rfl, rfl, rfl, ?_⟩
      exact ⟨⟨rfl, rfl, by omega, by simp, h12⟩, RAcc.nil, ⟨rfl, rfl, by simp⟩, off_nil, off_nil⟩
  obtain ⟨v, cl, rfl, hp⟩ := key
  exact ⟨cl, hp⟩
theorem c_sl10Read (l : List Int) (hb : Eng.Bytes l) (hl : l.length ≤ 1048576) (h12 : 12 ≤ l.length) : ∀ H, call Tryd.prog cfg0 0 23 [bytesL l, .v (.int .i64 12)] H = some (srR l, H) := fun H => by
  obtain ⟨cl, hp⟩ := p_sl10Read l hb hl h12
  exact call_fz Tryd.func23 rfl ok_sl10Read rfl (by simp only [fz_cons, fz_nil, go_sem, and_self]) hp H

end
end Go.Proofs.YtnejoidfbgklbaaDoor
namespace Go.Proofs.YtnejoidfbgklbaaDoor
open Go Go.RowKit Go.Proofs.YtnejoidfbgklbaaDoor.Eng
set_option linter.unusedSimpArgs false
set_option linter.unusedVariables false
set_option maxRecDepth 100000
set_option maxHeartbeats 2000000
noncomputable section
def shB (ns : List Int) (j : Nat) : List Int := ((ns.take j).map fun n => wordL n 2).flatten
theorem shB_succ {ns : List Int} {j : Nat} {n : Int} (h : ns[j]? = some n) : shB ns (j + 1) = shB ns j ++ wordL n 2 := by
  unfold shB
  rw [List.take_add_one, h]
  simp
theorem shB_len (ns : List Int) (j : Nat) : (shB ns j).length ≤ 2 * ns.length := by
  have key : ∀ l : List Int, ((l.map fun n => wordL n 2).flatten).length = 2 * l.length := by
    intro l
    induction l with
    | nil => rfl
    | cons a r ih => simp only [List.map_cons, List.flatten_cons, List.length_append, wordL_len, ih, List.length_cons]; omega
  unfold shB
  rw [key, List.length_take]; omega
theorem ok_ishorts : fnOk Tryd.prog cfg0 36 Tryd.f36 = true := by kernel_rfl
theorem pq_ishorts (ns : List Int) (hk : ns.length ≤ 100 ∧ ∀ n ∈ ns, 0 ≤ n ∧ n ≤ 9223372036854775807) : pure Tryd.prog cfg0 36 Tryd.f36 [i64L ns] = some (bytesL (shB ns ns.length), true) ∧ owned Tryd.prog cfg0 36 Tryd.f36 [i64L ns] = some (bytesL (shB ns ns.length)) := by
  refine both_wp (rs := [.tmp 2]) rfl rfl ?_
  have hp0 : ∀ b, cfg0.pol 36 b = 0 := fun b => rfl
  repeat' (first | ((first | refine wSeqr ?_ | refine wIf ?_ | refine wReg ?_ | (refine wRet ?_; (try simp only [thenQ, blockQ]); refine ends_by ?_)); intro xx hx; have hc := trivial; (repeat' (simp only [hc, Nat.reduceBEq, go_sem, Nat.reduceAdd, Nat.reduceMul, Nat.reduceSub, Nat.reduceEqDiff, Nat.reduceLT, Nat.reduceLeDiff, Int.reduceEq, Int.reduceLT, Int.reduceLE, reduceIte, aresults, aresult, hp0] at hx; (try (rw [guardL_if] at hx; split at hx <;> rename_i hc)))); all_goals (subst hx; first | (refine ⟨_, rfl, fun ht => ?_, fun ht => ?_⟩ <;> (try simp only [bbs] at ht)) | (refine ⟨_, rfl, ?_⟩; (try simp only [tupOf])))) | refine wSkip ?_ | (refine wExit ?_; simp only [thenQ, blockQ, reduceIte, Nat.reduceEqDiff]) | refine wSeq ?_ | refine wBlock ?_)
  all_goals try (exfalso; (try simp only [bbs] at *); first | omega | exact absurd trivial (by assumption))
  refine wLoop (fun k s => ∃ (j : Nat) (x : AV), j + k = ns.length ∧ s.1 3 = x ∧ s.1 6 = i64L ns ∧ s.1 7 = .v (.int .i64 (ns.length : Nat)) ∧ s.1 8 = .v (.int .i64 (j : Nat)) ∧ (RAcc s.2 x 1 ((shB ns j).map cell) (shB ns j).length)) (fun k s hI => ?_) (ns.length) _ ?_
  · obtain ⟨e, H⟩ := s
    obtain ⟨j, x, hj, h3, h6, h7, h8, hr⟩ := hI
    simp only at h3 h6 h7 h8 hr
    have hk1 := hk.1
    have hll := shB_len ns j
    by_cases hlt : j < ns.length
    · have hltI : ((j : Nat) : Int) < (ns.length : Int) := by omega
      obtain ⟨n, hg, -, hm⟩ := at_drop hlt
      have hg' : (ns.map fun z => [icell z])[j]? = some [icell n] := by rw [List.getElem?_map, hg]; rfl
      have hw := c_iword n 2 2 rfl (hk.2 n hm) (by omega)
      have w1 : IntKind.wrap .i64 (((j : Nat) : Int) + 1) = ((j + 1 : Nat) : Int) := wrap_succ (by omega)
      have hwl := wordL_len n 2
      repeat' ((fail_if_success (first | refine wAt 5 ?_)); first | ((first | refine wSeqr ?_ | refine wIf ?_ | refine wReg ?_ | (refine wRet ?_; (try simp only [thenQ, blockQ]); refine ends_by ?_)); intro xx hx; have hc := trivial; (repeat' (simp only [hc, Nat.reduceBEq, go_sem, Nat.reduceAdd, Nat.reduceMul, Nat.reduceSub, Nat.reduceEqDiff, Nat.reduceLT, Nat.reduceLeDiff, Int.reduceEq, Int.reduceLT, Int.reduceLE, reduceIte, aresults, aresult, hp0, h6, h7, h8, hltI, hg] at hx; (try (rw [guardL_if] at hx; split at hx <;> rename_i hc)))); all_goals (subst hx; first | (refine ⟨_, rfl, fun ht => ?_, fun ht => ?_⟩ <;> (try simp only [bbs] at ht)) | (refine ⟨_, rfl, ?_⟩; (try simp only [tupOf])))) | refine wSkip ?_ | (refine wExit ?_; simp only [thenQ, blockQ, reduceIte, Nat.reduceEqDiff]) | refine wSeq ?_ | refine wBlock ?_)
      all_goals try (exfalso; (try simp only [bbs] at *); first | omega | exact absurd trivial (by assumption))
      (first | refine wSeqr ?_ | refine wReg ?_); intro xx hx; have hc := trivial; (repeat' (simp only [hc, Nat.reduceBEq, go_sem, Nat.reduceAdd, Nat.reduceMul, Nat.reduceSub, Nat.reduceEqDiff, Nat.reduceLT, Nat.reduceLeDiff, Int.reduceEq, Int.reduceLT, Int.reduceLE, reduceIte, aresults, aresult, hp0, h3, hw] at hx; (try (rw [guardL_if] at hx; split at hx <;> rename_i hc)))); generalize hq : aappend Tryd.prog _ _ _ _ = q at hx
      obtain ⟨x1, K1, rfl, hac1, hg1, hk1', ho1⟩ := app_rows hq el22 zero5 by5 int22 (sz := 1) rfl (by omega) hr (alen_bytes _) (afirst_bytes _ _) (by simp) (by omega) (by omega)
      clear hq
      have hc := trivial; (repeat' (simp only [hc, Nat.reduceBEq, go_sem, Nat.reduceAdd, Nat.reduceMul, Nat.reduceSub, Nat.reduceEqDiff, Nat.reduceLT, Nat.reduceLeDiff, Int.reduceEq, Int.reduceLT, Int.reduceLE, reduceIte, aresults, aresult, hp0] at hx; (try (rw [guardL_if] at hx; split at hx <;> rename_i hc)))); all_goals (subst hx; refine ⟨_, rfl, ?_⟩)
      repeat' (first | ((first | refine wSeqr ?_ | refine wIf ?_ | refine wReg ?_ | (refine wRet ?_; (try simp only [thenQ, blockQ]); refine ends_by ?_)); intro xx hx; have hc := trivial; (repeat' (simp only [hc, Nat.reduceBEq, go_sem, Nat.reduceAdd, Nat.reduceMul, Nat.reduceSub, Nat.reduceEqDiff, Nat.reduceLT, Nat.reduceLeDiff, Int.reduceEq, Int.reduceLT, Int.reduceLE, reduceIte, aresults, aresult, hp0, h8, w1] at hx; (try (rw [guardL_if] at hx; split at hx <;> rename_i hc)))); all_goals (subst hx; first | (refine ⟨_, rfl, fun ht => ?_, fun ht => ?_⟩ <;> (try simp only [bbs] at ht)) | (refine ⟨_, rfl, ?_⟩; (try simp only [tupOf])))) | refine wSkip ?_ | (refine wExit ?_; simp only [thenQ, blockQ, reduceIte, Nat.reduceEqDiff]) | refine wSeq ?_ | refine wBlock ?_)
      all_goals try (exfalso; (try simp only [bbs] at *); first | omega | exact absurd trivial (by assumption))
      refine ⟨_, Nat.sub_lt (by omega) Nat.one_pos, j + 1, x1, by omega, by simp only [upd_eq, Nat.reduceEqDiff, if_false, if_true, h3, h6, h7, h8], by simp only [upd_eq, Nat.reduceEqDiff, if_false, if_true, h3, h6, h7, h8], by simp only [upd_eq, Nat.reduceEqDiff, if_false, if_true, h3, h6, h7, h8], by simp only [upd_eq, Nat.reduceEqDiff, if_false, if_true, h3, h6, h7, h8], ?_⟩
      rw [shB_succ hg, List.map_append, List.length_append]
      exact hac1
    · have hltI : ¬ ((j : Nat) : Int) < (ns.length : Int) := by omega
      have hj : j = ns.length := by omega
      subst hj
      repeat' (first | ((first | refine wSeqr ?_ | refine wIf ?_ | refine wReg ?_ | (refine wRet ?_; (try simp only [thenQ, blockQ]); refine ends_by ?_)); intro xx hx; have hc := trivial; (repeat' (simp only [hc, Nat.reduceBEq, go_sem, Nat.reduceAdd, Nat.reduceMul, Nat.reduceSub, Nat.reduceEqDiff, Nat.reduceLT, Nat.reduceLeDiff, Int.reduceEq, Int.reduceLT, Int.reduceLE, reduceIte, aresults, aresult, hp0, h3, h6, h7, h8, hltI] at hx; (try (rw [guardL_if] at hx; split at hx <;> rename_i hc)))); all_goals (subst hx; first | (refine ⟨_, rfl, fun ht => ?_, fun ht => ?_⟩ <;> (try simp only [bbs] at ht)) | (refine ⟨_, rfl, ?_⟩; (try simp only [tupOf])))) | refine wSkip ?_ | (refine wExit ?_; simp only [thenQ, blockQ, reduceIte, Nat.reduceEqDiff]) | refine wSeq ?_ | refine wBlock ?_)
      all_goals try (exfalso; (try simp only [bbs] at *); first | omega | exact absurd trivial (by assumption))
      exact gO_bytesR hr
  · refine ⟨0, .v (.slice none 0 0), by omega, rfl, rfl, rfl, rfl, ?_⟩
    exact RAcc.nil
theorem p_ishorts (ns : List Int) (hk : ns.length ≤ 100 ∧ ∀ n ∈ ns, 0 ≤ n ∧ n ≤ 9223372036854775807) : pure Tryd.prog cfg0 36 Tryd.f36 [i64L ns] = some (bytesL (shB ns ns.length), true) := (pq_ishorts ns hk).1
theorem c_ishorts (ns : List Int) (hk : ns.length ≤ 100 ∧ ∀ n ∈ ns, 0 ≤ n ∧ n ≤ 9223372036854775807) : ∀ H, call Tryd.prog cfg0 0 36 [i64L ns] H = some (bytesL (shB ns ns.length), H) :=
  call_fz Tryd.func36 rfl ok_ishorts rfl (by simp only [fz_cons, fz_nil, go_sem, and_self]) (pq_ishorts ns hk).1
theorem o_ishorts (ns : List Int) (hk : ns.length ≤ 100 ∧ ∀ n ∈ ns, 0 ≤ n ∧ n ≤ 9223372036854775807) : ∀ H, call Tryd.prog cfg0 1 36 [i64L ns] H = mat depthD (bytesL (shB ns ns.length)) H := fun H =>
  call_ofO Tryd.func36 rfl ok_ishorts rfl (mapM_self fun x hx => ((show ∀ x ∈ ([i64L ns] : List AV), Fz depthD x by simp only [fz_cons, fz_nil, go_sem, and_self]) x hx).1 H) (pq_ishorts ns hk).2

theorem sh_dz {xs : List (List AV)} {ns : List Int} (e : xs = ns.map fun z => [icell z]) (hk : ns.length ≤ 100 ∧ ∀ n ∈ ns, 0 ≤ n ∧ n ≤ 9223372036854775807) (H : Hp) : call Tryd.prog cfg0 0 36 [.lst true xs] H = some (bytesL (shB ns ns.length), H) := by
  subst e
  have hz : Dzs depthD [.lst true (ns.map fun z => [icell z])] [i64L ns] := Dzs.cons (Dz.lst (n := 11) fun c hc x hx => by
    obtain ⟨z, -, rfl⟩ := List.mem_map.1 hc
    simp only [List.mem_singleton] at hx; subst hx; exact Fz.int _ _ _) Dzs.nil
  exact call_dz Tryd.func36 rfl ok_ishorts rfl hz (p_ishorts ns hk) H
theorem sh1 (n : Int) (hn : 0 ≤ n ∧ n ≤ 9223372036854775807) : ∀ H, call Tryd.prog cfg0 0 36 [.lst true [[.v (.int .i64 n)]]] H = some (bytesL (wordL n 2), H) := fun H => by
  refine (sh_dz (ns := [n]) (xs := [[.v (.int .i64 n)]]) rfl ⟨by simp, by simpa using hn⟩ H).trans ?_
  simp [shB]
theorem sh2 (n m : Int) (hn : 0 ≤ n ∧ n ≤ 9223372036854775807) (hm : 0 ≤ m ∧ m ≤ 9223372036854775807) : ∀ H, call Tryd.prog cfg0 0 36 [.lst true [[.v (.int .i64 n)], [.v (.int .i64 m)]]] H = some (bytesL (wordL n 2 ++ wordL m 2), H) := fun H => by
  refine (sh_dz (ns := [n, m]) (xs := [[.v (.int .i64 n)], [.v (.int .i64 m)]]) rfl ⟨by simp, by simp [hn, hm]⟩ H).trans ?_
  simp [shB]
theorem sh4 (a b c d : Int) (ha : 0 ≤ a ∧ a ≤ 9223372036854775807) (hb : 0 ≤ b ∧ b ≤ 9223372036854775807) (hc1 : 0 ≤ c ∧ c ≤ 9223372036854775807) (hd : 0 ≤ d ∧ d ≤ 9223372036854775807) : ∀ H, call Tryd.prog cfg0 0 36 [.lst true [[.v (.int .i64 a)], [.v (.int .i64 b)], [.v (.int .i64 c)], [.v (.int .i64 d)]]] H = some (bytesL (wordL a 2 ++ (wordL b 2 ++ (wordL c 2 ++ wordL d 2))), H) := fun H => by
  refine (sh_dz (ns := [a, b, c, d]) (xs := [[.v (.int .i64 a)], [.v (.int .i64 b)], [.v (.int .i64 c)], [.v (.int .i64 d)]]) rfl ⟨by simp, by simp [ha, hb, hc1, hd]⟩ H).trans ?_
  simp [shB]
theorem tx_ok (ls : List ByteArray) : okc (textsL ls) = true ∧ asCells (textsL ls) = some [textsL ls] := ⟨rfl, rfl⟩
theorem by_ok (l : List Int) : okc (bytesL l) = true ∧ asCells (bytesL l) = some [bytesL l] := ⟨rfl, rfl⟩
theorem fz_q (i : Int) (ls : List ByteArray) (t : Int) : Fz depthD (.agg [.v (.int .i64 i), textsL ls, .v (.int .i64 t)]) := Fz.agg (n := 11) fun x hx => by
  simp only [List.mem_cons, List.not_mem_nil, or_false] at hx
  rcases hx with rfl | rfl | rfl
  · exact Fz.int _ _ _
  · exact fz_rows (n := 10) (fun s x hx => by simp only [List.mem_singleton] at hx; subst hx; exact Fz.string _ _) ls
  · exact Fz.int _ _ _
theorem fz_b (c : Int) (l : List Int) : Fz depthD (.agg [.v (.int .i64 c), bytesL l]) := Fz.agg (n := 11) fun x hx => by
  simp only [List.mem_cons, List.not_mem_nil, or_false] at hx
  rcases hx with rfl | rfl
  · exact Fz.int _ _ _
  · exact bytesL_fz 9 l
theorem pack_eq (i t : Int) (ls : List ByteArray) : wordL i 2 ++ ([1, 0] ++ ((wordL 1 2 ++ (wordL 0 2 ++ (wordL 0 2 ++ wordL 0 2))) ++ (encN ls ++ (wordL t 2 ++ wordL 1 2)))) = packB i ls t := by
  have e1 : wordL 1 2 = [0, 1] := by decide
  have e0 : wordL 0 2 = [0, 0] := by decide
  rw [e1, e0]
  simp [packB, List.append_assoc]
theorem ok_iPackQuery : fnOk Tryd.prog cfg0 79 Tryd.f79 = true := by kernel_rfl
theorem p_iPackQuery (i t : Int) (ls : List ByteArray) (hi : 0 ≤ i ∧ i ≤ 65535) (htt : 0 ≤ t ∧ t ≤ 65535) (hk : labsOk ls) : ∃ cl, pure Tryd.prog cfg0 79 Tryd.f79 [.agg [.v (.int .i64 i), textsL ls, .v (.int .i64 t)]] = some (.agg [.v (.int .i64 0), bytesL (packB i ls t)], cl) := by
  have key : ∃ v cl, v = (.agg [.v (.int .i64 0), bytesL (packB i ls t)] : AV) ∧ pure Tryd.prog cfg0 79 Tryd.f79 [.agg [.v (.int .i64 i), textsL ls, .v (.int .i64 t)]] = some (v, cl) := by
    refine pure_ex (rs := [.cell 2 36]) rfl rfl ?_
    have hp0 : ∀ b, cfg0.pol 79 b = 0 := fun b => rfl
    have i1 : inB i 0 65535 = true := inB_t.2 (by omega)
    have i2 : inB t 0 65535 = true := inB_t.2 (by omega)
    have hen := c_iEncodeName ls hk
    have s1 := sh1 i (by omega)
    have s2 := sh2 t 1 (by omega) (by omega)
    have s4 := sh4 1 0 0 0 (by omega) (by omega) (by omega) (by omega)
    have hel := encN_len hk
    have tx := tx_ok ls
    have bx := by_ok (encN ls)
    have by2 := by_ok (packB i ls t)
    have hc5 := cat5 (x := bytesL (wordL i 2)) (y := .lst true [[.v (.int .u8 1)], [.v (.int .u8 0)]]) (z := bytesL (wordL 1 2 ++ (wordL 0 2 ++ (wordL 0 2 ++ wordL 0 2)))) (w := bytesL (encN ls)) (v := bytesL (wordL t 2 ++ wordL 1 2)) dzB dz2 dzB dzB dzB (by simp [wordL_len]; omega)
    rw [pack_eq] at hc5
    repeat' (first | ((first | refine wSeqr ?_ | refine wIf ?_ | refine wReg ?_ | (refine wRet ?_; (try simp only [thenQ, blockQ]); refine ends_by ?_)); intro xx hx; have hc := trivial; (repeat' (simp only [hc, Nat.reduceBEq, go_sem, Nat.reduceAdd, Nat.reduceMul, Nat.reduceSub, Nat.reduceEqDiff, Nat.reduceLT, Nat.reduceLeDiff, Int.reduceEq, Int.reduceLT, Int.reduceLE, reduceIte, aresults, aresult, hp0, c_iin, i1, i2, Bool.not_true, hen, s1, s2, s4, tx.1, tx.2, bx.1, bx.2, by2.1, by2.2, hc5] at hx; (try (rw [guardL_if] at hx; split at hx <;> rename_i hc)))); all_goals (subst hx; first | (refine ⟨_, rfl, fun ht => ?_, fun ht => ?_⟩ <;> (try simp only [bbs] at ht)) | (refine ⟨_, rfl, ?_⟩; (try simp only [tupOf])))) | refine wSkip ?_ | (refine wExit ?_; simp only [thenQ, blockQ, reduceIte, Nat.reduceEqDiff]) | refine wSeq ?_ | refine wBlock ?_)
    all_goals try (exfalso; (try simp only [bbs] at *); first | omega | exact absurd trivial (by assumption))
    all_goals exact dirty (fz_deep (fz_b _ _) _)
  obtain ⟨v, cl, rfl, hp⟩ := key
  exact ⟨cl, hp⟩
theorem c_iPackQuery (i t : Int) (ls : List ByteArray) (hi : 0 ≤ i ∧ i ≤ 65535) (htt : 0 ≤ t ∧ t ≤ 65535) (hk : labsOk ls) : ∀ H, call Tryd.prog cfg0 0 79 [.agg [.v (.int .i64 i), textsL ls, .v (.int .i64 t)]] H = some (.agg [.v (.int .i64 0), bytesL (packB i ls t)], H) := fun H => by
  obtain ⟨cl, hp⟩ := p_iPackQuery i t ls hi htt hk
  exact call_fz Tryd.func79 rfl ok_iPackQuery rfl (by simp only [fz_cons, fz_nil, go_sem, fz_q, and_self]) hp H

theorem str_eqB {a b : List Int} (ha : Eng.Bytes a) (hb : Eng.Bytes b) : ((strOf a).toList == (strOf b).toList) = decide (a = b) := strOf_eq ha hb
theorem ok_bEqual : fnOk Tryd.prog cfg0 32 Tryd.f32 = true := by kernel_rfl
theorem p_bEqual (a b : List Int) (ha : Eng.Bytes a) (hb : Eng.Bytes b) : pure Tryd.prog cfg0 32 Tryd.f32 [bytesL a, bytesL b] = some (.v (.bool (decide (a = b))), true) := by
  refine pure_wp (rs := [.tmp 4]) rfl rfl ?_
  have hp0 : ∀ b, cfg0.pol 32 b = 0 := fun b => rfl
  have e := strOf_eq ha hb
  repeat' (first | ((first | refine wSeqr ?_ | refine wIf ?_ | refine wReg ?_ | (refine wRet ?_; (try simp only [thenQ, blockQ]); refine ends_by ?_)); intro xx hx; have hc := trivial; (repeat' (simp only [hc, Nat.reduceBEq, go_sem, Nat.reduceAdd, Nat.reduceMul, Nat.reduceSub, Nat.reduceEqDiff, Nat.reduceLT, Nat.reduceLeDiff, Int.reduceEq, Int.reduceLT, Int.reduceLE, reduceIte, aresults, aresult, hp0, conv_bytesL u22 u9 u5, e] at hx; (try (rw [guardL_if] at hx; split at hx <;> rename_i hc)))); all_goals (subst hx; first | (refine ⟨_, rfl, fun ht => ?_, fun ht => ?_⟩ <;> (try simp only [bbs] at ht)) | (refine ⟨_, rfl, ?_⟩; (try simp only [tupOf])))) | refine wSkip ?_ | (refine wExit ?_; simp only [thenQ, blockQ, reduceIte, Nat.reduceEqDiff]) | refine wSeq ?_ | refine wBlock ?_)
  all_goals try (exfalso; (try simp only [bbs] at *); first | omega | exact absurd trivial (by assumption))
  all_goals exact gives_boolv rfl
theorem c_bEqual (a b : List Int) (ha : Eng.Bytes a) (hb : Eng.Bytes b) : ∀ H, call Tryd.prog cfg0 0 32 [bytesL a, bytesL b] H = some (.v (.bool (decide (a = b))), H) :=
  call_fz Tryd.func32 rfl ok_bEqual rfl (by simp only [fz_cons, fz_nil, go_sem, and_self]) (p_bEqual a b ha hb)

end
end Go.Proofs.YtnejoidfbgklbaaDoor
namespace Go.Proofs.YtnejoidfbgklbaaDoor
open Go Go.RowKit Go.Proofs.YtnejoidfbgklbaaDoor.Eng
set_option linter.unusedSimpArgs false
set_option linter.unusedVariables false
set_option maxRecDepth 100000
set_option maxHeartbeats 2000000
noncomputable section
theorem num2_b {l : List Int} (hb : Eng.Bytes l) (p : Int) : 0 ≤ num2 l p ∧ num2 l p ≤ 65535 := by
  unfold num2 readWord
  split
  · rename_i h
    have hw := bytes_sub hb p.toNat 2
    have hlen : ((l.drop p.toNat).take 2).length = 2 := by simp; omega
    have := rd_bound hw 2 (by omega)
    rw [List.take_of_length_le (by omega)] at this
    split
    · exact ⟨this.1, by have := this.2; omega⟩
    · exact ⟨by omega, by omega⟩
  · exact ⟨by omega, by omega⟩
/-- What a read query is. -/
def qrR (c i : Int) (ls : List ByteArray) (t : Int) : AV := .agg [.v (.int .i64 c), .v (.int .i64 i), textsL ls, .v (.int .i64 t)]
def rqR (l : List Int) : AV := if 12 ≤ l.length ∧ l.length ≤ 300 then (match askF l with
  | some (i, ls, t) => qrR 0 i ls t
  | none => qrR 1 0 [] 0) else qrR 2 0 [] 0
theorem fz_qr (c i : Int) (ls : List ByteArray) (t : Int) : Fz depthD (qrR c i ls t) := Fz.agg (n := 11) fun x hx => by
  simp only [List.mem_cons, List.not_mem_nil, or_false] at hx
  rcases hx with rfl | rfl | rfl | rfl
  · exact Fz.int _ _ _
  · exact Fz.int _ _ _
  · exact fz_rows (n := 10) (fun s x hx => by simp only [List.mem_singleton] at hx; subst hx; exact Fz.string _ _) ls
  · exact Fz.int _ _ _
theorem tn : (AV.lst false [] : AV) = textsL [] := rfl
theorem ok_iReadQuery : fnOk Tryd.prog cfg0 64 Tryd.f64 = true := by kernel_rfl
theorem p_iReadQuery (l : List Int) (hb : Eng.Bytes l) (hl : l.length ≤ 1048576) : ∃ cl, pure Tryd.prog cfg0 64 Tryd.f64 [bytesL l] = some (rqR l, cl) := by
  have key : ∃ v cl, v = (rqR l : AV) ∧ pure Tryd.prog cfg0 64 Tryd.f64 [bytesL l] = some (v, cl) := by
    refine pure_ex (rs := [.cell 2 105]) rfl rfl ?_
    have hp0 : ∀ b, cfg0.pol 64 b = 0 := fun b => rfl
    by_cases h12 : 12 ≤ l.length ∧ l.length ≤ 300
    rotate_left
    · have hin : inB (l.length : Int) 12 300 = false := inB_f.2 (by omega)
      rw [show rqR l = qrR 2 0 [] 0 from if_neg h12]
      unfold qrR
      repeat' (first | ((first | refine wSeqr ?_ | refine wIf ?_ | refine wReg ?_ | (refine wRet ?_; (try simp only [thenQ, blockQ]); refine ends_by ?_)); intro xx hx; have hc := trivial; (repeat' (simp only [hc, Nat.reduceBEq, go_sem, Nat.reduceAdd, Nat.reduceMul, Nat.reduceSub, Nat.reduceEqDiff, Nat.reduceLT, Nat.reduceLeDiff, Int.reduceEq, Int.reduceLT, Int.reduceLE, reduceIte, aresults, aresult, hp0, c_iin, hin, Bool.not_false] at hx; (try (rw [guardL_if] at hx; split at hx <;> rename_i hc)))); all_goals (subst hx; first | (refine ⟨_, rfl, fun ht => ?_, fun ht => ?_⟩ <;> (try simp only [bbs] at ht)) | (refine ⟨_, rfl, ?_⟩; (try simp only [tupOf])))) | refine wSkip ?_ | (refine wExit ?_; simp only [thenQ, blockQ, reduceIte, Nat.reduceEqDiff]) | refine wSeq ?_ | refine wBlock ?_)
      all_goals try (exfalso; (try simp only [bbs] at *); first | omega | exact absurd trivial (by assumption))
      all_goals exact dirty rfl
    have hin : inB (l.length : Int) 12 300 = true := inB_t.2 (by omega)
    rw [show rqR l = (match askF l with
      | some (i, ls, t) => qrR 0 i ls t
      | none => qrR 1 0 [] 0) from if_pos h12]
    have hn0 := c_inumber l 0 2 0 2 rfl rfl hb (by omega) (by omega) hl (by omega)
    have b0 := num2_b hb 0
    have hrn := c_iReadName l hb hl
    by_cases hnm : 12 < l.length ∧ (nmR l 12 12 0 [] 0).1 = 0
    · obtain ⟨hlt, hz⟩ := hnm
      have hrr : rnR l = .agg [.v (.int .i64 0), textsL (nmR l 12 12 0 [] 0).2.1, .v (.int .i64 (nmR l 12 12 0 [] 0).2.2)] := by unfold rnR; rw [if_pos hlt, if_pos hz]
      rw [hrr] at hrn
      obtain ⟨hk, hx0, hx1⟩ := nm_ok l 12 12 0 [] 0 ⟨by simp, by simp⟩ (by simp) hz
      have hn1 := c_inumber l (nmR l 12 12 0 [] 0).2.2.toNat 2 (nmR l 12 12 0 [] 0).2.2 2 (by omega) rfl hb (by omega) (by omega) hl (by omega)
      have b1 := num2_b hb (nmR l 12 12 0 [] 0).2.2
      have hask : askF l = if packB (num2 l 0) (nmR l 12 12 0 [] 0).2.1 (num2 l (nmR l 12 12 0 [] 0).2.2) = l then some (num2 l 0, (nmR l 12 12 0 [] 0).2.1, num2 l (nmR l 12 12 0 [] 0).2.2) else none := by
        unfold askF; simp only [hz, true_and]
      have hn0' : ∀ H, call Tryd.prog cfg0 0 31 [bytesL l, .v (.int .i64 0), .v (.int .i64 2)] H = some (.tup [.v (.int .i64 (num2 l 0)), .v (.bool (decide ((readWord l 0 2).1 = 0)))], H) := hn0
      have hn1' : ∀ H, call Tryd.prog cfg0 0 31 [bytesL l, .v (.int .i64 (nmR l 12 12 0 [] 0).2.2), .v (.int .i64 2)] H = some (.tup [.v (.int .i64 (num2 l (nmR l 12 12 0 [] 0).2.2)), .v (.bool (decide ((readWord l (nmR l 12 12 0 [] 0).2.2.toNat 2).1 = 0)))], H) := hn1
      have hpk := c_iPackQuery (num2 l 0) (num2 l (nmR l 12 12 0 [] 0).2.2) (nmR l 12 12 0 [] 0).2.1 b0 b1 hk
      have hpb : Eng.Bytes (packB (num2 l 0) (nmR l 12 12 0 [] 0).2.1 (num2 l (nmR l 12 12 0 [] 0).2.2)) := by
        unfold packB
        refine bytes_app (bytes_app (bytes_app (bytes_app (wordL_bytes _ _) ?_) (encN_bytes _)) (wordL_bytes _ _)) ?_ <;> (intro z hz; simp only [List.mem_cons, List.not_mem_nil, or_false] at hz; omega)
      have heq := c_bEqual _ l hpb hb
      rw [hask]
      generalize num2 l 0 = i at *
      generalize num2 l (nmR l 12 12 0 [] 0).2.2 = t at *
      generalize (nmR l 12 12 0 [] 0).2.2 = nx at *
      generalize (nmR l 12 12 0 [] 0).2.1 = ls at *
      have tx := tx_ok ls
      by_cases he : packB i ls t = l
      · rw [if_pos he]
        simp only
        unfold qrR
        have heT : decide (packB i ls t = l) = true := decide_eq_true he
        rw [heT] at heq
        repeat' (first | ((first | refine wSeqr ?_ | refine wIf ?_ | refine wReg ?_ | (refine wRet ?_; (try simp only [thenQ, blockQ]); refine ends_by ?_)); intro xx hx; have hc := trivial; (repeat' (simp only [hc, Nat.reduceBEq, go_sem, Nat.reduceAdd, Nat.reduceMul, Nat.reduceSub, Nat.reduceEqDiff, Nat.reduceLT, Nat.reduceLeDiff, Int.reduceEq, Int.reduceLT, Int.reduceLE, reduceIte, aresults, aresult, hp0, c_iin, hin, Bool.not_true, hn0', hn1', hrn, hpk, heq, tx.1, tx.2] at hx; (try (rw [guardL_if] at hx; split at hx <;> rename_i hc)))); all_goals (subst hx; first | (refine ⟨_, rfl, fun ht => ?_, fun ht => ?_⟩ <;> (try simp only [bbs] at ht)) | (refine ⟨_, rfl, ?_⟩; (try simp only [tupOf])))) | refine wSkip ?_ | (refine wExit ?_; simp only [thenQ, blockQ, reduceIte, Nat.reduceEqDiff]) | refine wSeq ?_ | refine wBlock ?_)
        all_goals try (exfalso; (try simp only [bbs] at *); first | omega | exact absurd trivial (by assumption))
        all_goals exact dirty (fz_deep (fz_qr _ _ _ _) _)
      · rw [if_neg he]
        simp only
        unfold qrR
        have heF : decide (packB i ls t = l) = false := decide_eq_false he
        rw [heF] at heq
        repeat' (first | ((first | refine wSeqr ?_ | refine wIf ?_ | refine wReg ?_ | (refine wRet ?_; (try simp only [thenQ, blockQ]); refine ends_by ?_)); intro xx hx; have hc := trivial; (repeat' (simp only [hc, Nat.reduceBEq, go_sem, Nat.reduceAdd, Nat.reduceMul, Nat.reduceSub, Nat.reduceEqDiff, Nat.reduceLT, Nat.reduceLeDiff, Int.reduceEq, Int.reduceLT, Int.reduceLE, reduceIte, aresults, aresult, hp0, c_iin, hin, Bool.not_true, hn0', hn1', hrn, hpk, heq, tx.1, tx.2] at hx; (try (rw [guardL_if] at hx; split at hx <;> rename_i hc)))); all_goals (subst hx; first | (refine ⟨_, rfl, fun ht => ?_, fun ht => ?_⟩ <;> (try simp only [bbs] at ht)) | (refine ⟨_, rfl, ?_⟩; (try simp only [tupOf])))) | refine wSkip ?_ | (refine wExit ?_; simp only [thenQ, blockQ, reduceIte, Nat.reduceEqDiff]) | refine wSeq ?_ | refine wBlock ?_)
        all_goals try (exfalso; (try simp only [bbs] at *); first | omega | exact absurd trivial (by assumption))
        all_goals exact dirty rfl
    · have hrr : ∃ c : Int, ¬ c = 0 ∧ rnR l = .agg [.v (.int .i64 c), textsL [], .v (.int .i64 0)] := by
        unfold rnR
        split
        · rename_i h
          have hz : ¬ (nmR l 12 12 0 [] 0).1 = 0 := fun e => hnm ⟨h, e⟩
          exact ⟨_, hz, by rw [if_neg hz]; rfl⟩
        · exact ⟨3, by omega, rfl⟩
      obtain ⟨c, hc0, hrr⟩ := hrr
      rw [hrr] at hrn
      have hask : askF l = none := by
        unfold askF
        by_cases hz : (nmR l 12 12 0 [] 0).1 = 0
        · have h13 : ¬ 12 < l.length := fun h => hnm ⟨h, hz⟩
          rw [if_neg]
          rintro ⟨-, hp⟩
          have := ask_end hz hp
          obtain ⟨hk, hx0, hx1⟩ := nm_ok l 12 12 0 [] 0 ⟨by simp, by simp⟩ (by simp) hz
          have h2 := (pack_read (i := num2 l 0) (t := num2 l (nmR l 12 12 0 [] 0).2.2) hk).2
          rw [hp] at h2
          omega
        · rw [if_neg (fun h => hz h.1)]
      rw [hask]
      simp only
      unfold qrR
      have tx := tx_ok []
      have hn0' : ∀ H, call Tryd.prog cfg0 0 31 [bytesL l, .v (.int .i64 0), .v (.int .i64 2)] H = some (.tup [.v (.int .i64 (num2 l 0)), .v (.bool (decide ((readWord l 0 2).1 = 0)))], H) := hn0
      repeat' (first | ((first | refine wSeqr ?_ | refine wIf ?_ | refine wReg ?_ | (refine wRet ?_; (try simp only [thenQ, blockQ]); refine ends_by ?_)); intro xx hx; have hc := trivial; (repeat' (simp only [hc, Nat.reduceBEq, go_sem, Nat.reduceAdd, Nat.reduceMul, Nat.reduceSub, Nat.reduceEqDiff, Nat.reduceLT, Nat.reduceLeDiff, Int.reduceEq, Int.reduceLT, Int.reduceLE, reduceIte, aresults, aresult, hp0, c_iin, hin, Bool.not_true, hn0', hrn, hc0, tx.1, tx.2] at hx; (try (rw [guardL_if] at hx; split at hx <;> rename_i hc)))); all_goals (subst hx; first | (refine ⟨_, rfl, fun ht => ?_, fun ht => ?_⟩ <;> (try simp only [bbs] at ht)) | (refine ⟨_, rfl, ?_⟩; (try simp only [tupOf])))) | refine wSkip ?_ | (refine wExit ?_; simp only [thenQ, blockQ, reduceIte, Nat.reduceEqDiff]) | refine wSeq ?_ | refine wBlock ?_)
      all_goals try (exfalso; (try simp only [bbs] at *); first | omega | exact absurd trivial (by assumption))
      all_goals exact dirty rfl
  obtain ⟨v, cl, rfl, hp⟩ := key
  exact ⟨cl, hp⟩
theorem c_iReadQuery (l : List Int) (hb : Eng.Bytes l) (hl : l.length ≤ 1048576) : ∀ H, call Tryd.prog cfg0 0 64 [bytesL l] H = some (rqR l, H) := fun H => by
  obtain ⟨cl, hp⟩ := p_iReadQuery l hb hl
  exact call_fz Tryd.func64 rfl ok_iReadQuery rfl (by simp only [fz_cons, fz_nil, go_sem, and_self]) hp H

end
end Go.Proofs.YtnejoidfbgklbaaDoor
