/- The law FnExactReadAnswer in the engine. -/
import Derived.Test.YtnejoidfbgklbaaDoorRY
namespace Go.Proofs.YtnejoidfbgklbaaDoor.fnExactReadAnswer
open Go Go.RowKit Go.Proofs.YtnejoidfbgklbaaDoor.Eng
set_option linter.unusedSimpArgs false
set_option linter.unusedVariables false
set_option maxRecDepth 100000
set_option maxHeartbeats 4000000
noncomputable section
open Classical in
theorem cq_eqB (a b : List Int) (hl : a.length ≤ 1048576) : ∀ H q, call Tryd.prog cfg0 0 9 [.sl q 1 0 a.length, bytesL b] H = if H.h q = some (a.map cell) then some (.v (.bool (decide (a = b))), H) else call' Tryd.prog cfg0 0 9 [.sl q 1 0 a.length, bytesL b] H := fun H q =>
  call_if Tryd.func9 rfl ok_leqB rfl (fun hC => mapM_c (gF_bytes (n := 10) hC rfl).1 (mapM_c ((bytesL_fz 10 b).1 H) mapM_n)) (p_leqB a b hl)
open Classical in
theorem oq_RA (l : List Int) (hb : Eng.Bytes l) (hl : l.length ≤ 1048576) : ∀ H b n, call Tryd.prog cfg0 1 7 [.sl b 1 0 n] H = if H.h b = some (l.map cell) ∧ n = l.length then mat depthD (raX l) H else call' Tryd.prog cfg0 1 7 [.sl b 1 0 n] H := fun H b n => by
  split
  · rename_i h
    obtain ⟨h1, rfl⟩ := h
    exact call_ofO Tryd.func7 rfl ok_iReadAnswer rfl (mapM_c (gF_bytes (n := 10) h1 rfl).1 mapM_n) (pq_iReadAnswer l hb hl).2
  · rfl
theorem ok_law : fnOk Tryd.prog cfg0 3 Tryd.f3 = true := by kernel_rfl
theorem p_law (a0 : List Int) (hb0 : Eng.Bytes a0) (h0' : a0.length ≤ 140737488351232) : pure Tryd.prog cfg0 3 Tryd.f3 [bytesL a0] = some (.v (.bool true), true) := by
  refine pure_wp (rs := [.tmp 2]) rfl rfl ?_
  have hp0 : ∀ b, cfg0.pol 3 b = (if b = 17 then 1 else if b = 19 then 1 else 0) := fun b => rfl
  by_cases hbig : 1048576 < (a0.length : Int)
  · repeat' (first | ((first | refine wSeqr ?_ | refine wIf ?_ | refine wReg ?_ | (refine wRet ?_; (try simp only [thenQ, blockQ]); refine ends_by ?_)); intro xx hx; have hc := trivial; (repeat' (simp only [hc, Nat.reduceBEq, go_sem, Nat.reduceAdd, Nat.reduceMul, Nat.reduceSub, Nat.reduceEqDiff, Nat.reduceLT, Nat.reduceLeDiff, Int.reduceEq, Int.reduceLT, Int.reduceLE, reduceIte, aresults, aresult, hp0, hbig] at hx; (try (rw [guardL_if] at hx; split at hx <;> rename_i hc)))); all_goals (subst hx; first | (refine ⟨_, rfl, fun ht => ?_, fun ht => ?_⟩ <;> (try simp only [bbs] at ht)) | (refine ⟨_, rfl, ?_⟩; (try simp only [tupOf])))) | refine wSkip ?_ | (refine wExit ?_; simp only [thenQ, blockQ, reduceIte, Nat.reduceEqDiff]) | refine wSeq ?_ | refine wBlock ?_)
    all_goals try (exfalso; (try simp only [bbs] at *); first | omega | exact absurd trivial (by assumption))
    all_goals exact ⟨rfl, rfl⟩
  have o0 : a0.length ≤ 1048576 := by omega
  have hto := c_ltoByteS a0 o0
  have hoo := o_ltoByteS a0 o0
  have hsp := c_sReadAnswer a0 hb0 o0
  have hii := c_iReadAnswer a0 hb0 o0
  have hoq := oq_RA a0 hb0 o0
  have hoi := o_iReadAnswer a0 hb0 o0
  obtain ⟨c, i, s, d, rs, hra, hrl, hr0⟩ := raX_is a0
  rw [hra] at hsp hii hoi
  simp only [hra] at hoq
  have heq := c_leqAnswerResult c i s d rs (by omega)
  have eB := c_leqB a0 a0 o0
  rw [decide_eq_true rfl] at eB
  by_cases hne : rs = []
  · subst hne
    simp only [mat_ar0] at hoq hoi
    unfold arA at hsp hii heq
    simp only [List.map_nil] at hsp hii heq
    have hheld := c_lheldAnswerResult c i s d 1 0 (by omega) (by omega)
    have hheld' : ∀ H, call Tryd.prog cfg0 0 12 [.agg [.v (.int .i64 c), .v (.int .i64 i), .v (.int .i64 s), .v (.bool d), .lst false []], .v (.int .i64 1)] H = some (.v (.int .i64 1), H) := hheld
    by_cases hae : a0 = []
    · subst hae
      have hoo' : ∀ H, call Tryd.prog cfg0 1 6 [bytesL []] H = some (bytesL [], H) := fun H => (hoo H).trans rfl
      have cm0 : ∀ H, call Tryd.prog cfg0 0 10 [bytesL [], .v (.int .i64 1)] H = some (.v (.int .i64 1), H) := cr_mark0 1
      repeat' (first | ((first | refine wSeqr ?_ | refine wIf ?_ | refine wReg ?_ | (refine wRet ?_; (try simp only [thenQ, blockQ]); refine ends_by ?_)); intro xx hx; have hc := trivial; (repeat' (simp only [hc, Nat.reduceBEq, go_sem, Nat.reduceAdd, Nat.reduceMul, Nat.reduceSub, Nat.reduceEqDiff, Nat.reduceLT, Nat.reduceLeDiff, Int.reduceEq, Int.reduceLT, Int.reduceLE, reduceIte, aresults, aresult, hp0, hbig, hto, hsp, hoo', hoi, heq, eB, cm0, cr_markAR0, hheld', hii, not_true_eq_false, Bool.not_true] at hx; (try (rw [guardL_if] at hx; split at hx <;> rename_i hc)))); all_goals (subst hx; first | (refine ⟨_, rfl, fun ht => ?_, fun ht => ?_⟩ <;> (try simp only [bbs] at ht)) | (refine ⟨_, rfl, ?_⟩; (try simp only [tupOf])))) | refine wSkip ?_ | (refine wExit ?_; simp only [thenQ, blockQ, reduceIte, Nat.reduceEqDiff]) | refine wSeq ?_ | refine wBlock ?_)
      all_goals try (exfalso; (try simp only [bbs] at *); first | omega | exact absurd trivial (by assumption))
      all_goals exact ⟨rfl, rfl⟩
    · have hooB : ∀ H, call Tryd.prog cfg0 1 6 [bytesL a0] H = some (.sl H.g 1 0 a0.length, H.new (a0.map cell)) := fun H => by rw [hoo H]; exact mat_bytes 10 a0 hae H
      have hn0 : ¬ (1 + (a0.length : Int)) < 0 := by omega
      have hmk := cr_markByteS a0 1 (by omega) (by omega)
      repeat' (first | ((first | refine wSeqr ?_ | refine wIf ?_ | refine wReg ?_ | (refine wRet ?_; (try simp only [thenQ, blockQ]); refine ends_by ?_)); intro xx hx; have hc := trivial; (repeat' (simp only [hc, Nat.reduceBEq, go_sem, Nat.reduceAdd, Nat.reduceMul, Nat.reduceSub, Nat.reduceEqDiff, Nat.reduceLT, Nat.reduceLeDiff, Int.reduceEq, Int.reduceLT, Int.reduceLE, reduceIte, aresults, aresult, hp0, hbig, hto, hsp, hooB, hoq, heq, cq_eqB a0 a0 o0, hmk, hn0, cr_markAR0, hheld', hii, decide_true, not_true_eq_false, Bool.not_true] at hx; (try (rw [guardL_if] at hx; split at hx <;> rename_i hc)))); all_goals (subst hx; first | (refine ⟨_, rfl, fun ht => ?_, fun ht => ?_⟩ <;> (try simp only [bbs] at ht)) | (refine ⟨_, rfl, ?_⟩; (try simp only [tupOf])))) | refine wSkip ?_ | (refine wExit ?_; simp only [thenQ, blockQ, reduceIte, Nat.reduceEqDiff]) | refine wSeq ?_ | refine wBlock ?_)
      all_goals try (exfalso; (try simp only [bbs] at *); first | omega | exact absurd trivial (by assumption))
      all_goals exact ⟨rfl, rfl⟩
  · have hae : a0 ≠ [] := fun e => hne (hr0 e)
    simp only [mat_ar c i s d rs hne] at hoq
    have heqq := cq_eqAR c i s d rs (by omega)
    unfold arA at hsp hii heq heqq
    have hooB : ∀ H, call Tryd.prog cfg0 1 6 [bytesL a0] H = some (.sl H.g 1 0 a0.length, H.new (a0.map cell)) := fun H => by rw [hoo H]; exact mat_bytes 10 a0 hae H
    have hn0 : ¬ (1 + (a0.length : Int)) < 0 := by omega
    have hn1 : ¬ (1 + (rs.length : Int) * 3) < 0 := by omega
    have hmk := cr_markByteS a0 1 (by omega) (by omega)
    have hmr := cr_markAR c i s d 1 rs (by omega) (by omega)
    have hhd := cq_heldAR c i s d 1 rs.length (by omega) (by omega)
    repeat' (first | ((first | refine wSeqr ?_ | refine wIf ?_ | refine wReg ?_ | (refine wRet ?_; (try simp only [thenQ, blockQ]); refine ends_by ?_)); intro xx hx; have hc := trivial; (repeat' (simp only [hc, Nat.reduceBEq, go_sem, Nat.reduceAdd, Nat.reduceMul, Nat.reduceSub, Nat.reduceEqDiff, Nat.reduceLT, Nat.reduceLeDiff, Int.reduceEq, Int.reduceLT, Int.reduceLE, reduceIte, aresults, aresult, hp0, hbig, hto, hsp, hooB, hoq, heq, heqq, cq_eqB a0 a0 o0, hmk, hn0, hn1, hmr, hhd, hii, decide_true, not_true_eq_false, Bool.not_true, ne_eq, not_false_eq_true, and_self] at hx; (try (rw [guardL_if] at hx; split at hx <;> rename_i hc)))); all_goals (subst hx; first | (refine ⟨_, rfl, fun ht => ?_, fun ht => ?_⟩ <;> (try simp only [bbs] at ht)) | (refine ⟨_, rfl, ?_⟩; (try simp only [tupOf])))) | refine wSkip ?_ | (refine wExit ?_; simp only [thenQ, blockQ, reduceIte, Nat.reduceEqDiff]) | refine wSeq ?_ | refine wBlock ?_)
    all_goals try (exfalso; (try simp only [bbs] at *); first | omega | exact absurd trivial (by assumption))
    all_goals exact ⟨rfl, rfl⟩
theorem law (xs : List AV) (h : ArgsC Tryd.prog reach 2 [22] xs) : pure Tryd.prog cfg0 3 Tryd.f3 xs = some (.v (.bool true), true) := by
  obtain ⟨x1, r1, rfl, h1, rfl⟩ := h
  unfold ArgC at h1
  rw [agg22] at h1
  obtain ⟨a1, e1, g1, w1⟩ := shC_bytes u22 u5 byn5 h1
  simp only [List.cons.injEq, and_true] at e1
  subst e1
  have k1 : a1.length ≤ 140737488351232 := by simp only [reach] at w1; omega
  exact p_law a1 g1 k1
end
end Go.Proofs.YtnejoidfbgklbaaDoor.fnExactReadAnswer
