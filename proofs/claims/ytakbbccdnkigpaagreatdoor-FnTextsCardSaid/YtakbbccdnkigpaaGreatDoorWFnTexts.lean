/- The law FnTexts in the engine. -/
import Derived.Test.YtakbbccdnkigpaaGreatDoorTR
namespace Go.Proofs.YtakbbccdnkigpaaGreatDoor.fnTexts
open Go Go.RowKit Go.Proofs.YtakbbccdnkigpaaGreatDoor.Eng
set_option linter.unusedSimpArgs false
set_option linter.unusedVariables false
set_option maxRecDepth 100000
set_option maxHeartbeats 4000000
noncomputable section
theorem ok_llwBig : fnOk Tryz.prog cfg0 10 Tryz.f10 = true := by kernel_rfl
theorem p_llwBig (l : List Int) : pure Tryz.prog cfg0 10 Tryz.f10 [bytesL l] = some (.v (.bool (decide (1048576 < (l.length : Int)))), true) := by
  refine pure_wp (rs := [.tmp 2]) rfl rfl ?_
  have hp0 : ∀ b, cfg0.pol 10 b = 0 := fun b => rfl
  repeat' (first | ((first | refine wSeqr ?_ | refine wIf ?_ | refine wReg ?_ | (refine wRet ?_; (try simp only [thenQ, blockQ]); refine ends_by ?_)); intro xx hx; have hc := trivial; (repeat' (simp only [hc, Nat.reduceBEq, go_sem, Nat.reduceAdd, Nat.reduceMul, Nat.reduceSub, Nat.reduceEqDiff, Nat.reduceLT, Nat.reduceLeDiff, Int.reduceEq, Int.reduceLT, Int.reduceLE, reduceIte, aresults, aresult, hp0] at hx; (try (rw [guardL_if] at hx; split at hx <;> rename_i hc)))); all_goals (subst hx; first | (refine ⟨_, rfl, fun ht => ?_, fun ht => ?_⟩ <;> (try simp only [bbs] at ht)) | (refine ⟨_, rfl, ?_⟩; (try simp only [tupOf])))) | refine wSkip ?_ | (refine wExit ?_; simp only [thenQ, blockQ, reduceIte, Nat.reduceEqDiff]) | refine wSeq ?_ | refine wBlock ?_)
  exact gives_boolv rfl
theorem c_llwBig (l : List Int) : ∀ H, call Tryz.prog cfg0 0 10 [bytesL l] H = some (.v (.bool (decide (1048576 < (l.length : Int)))), H) :=
  call_fz Tryz.func10 rfl ok_llwBig rfl (by simp only [fz_cons, fz_nil, go_sem, and_self]) (p_llwBig l)

theorem conv_b (H : Hp) (l : List Int) : aconv Tryz.prog H 22 9 (bytesL l) = some (.v (.string (strOf l))) := conv_bytesL u22 u9 u5 H l
theorem ok_llwSame : fnOk Tryz.prog cfg0 28 Tryz.f28 = true := by kernel_rfl
theorem p_llwSame (a b : List Int) (ha : Eng.Bytes a) (hb : Eng.Bytes b) : pure Tryz.prog cfg0 28 Tryz.f28 [bytesL a, bytesL b] = some (.v (.bool (decide (a = b))), true) := by
  refine pure_wp (rs := [.tmp 4]) rfl rfl ?_
  have hp0 : ∀ b, cfg0.pol 28 b = 0 := fun b => rfl
  repeat' (first | ((first | refine wSeqr ?_ | refine wIf ?_ | refine wReg ?_ | (refine wRet ?_; (try simp only [thenQ, blockQ]); refine ends_by ?_)); intro xx hx; have hc := trivial; (repeat' (simp only [hc, Nat.reduceBEq, go_sem, Nat.reduceAdd, Nat.reduceMul, Nat.reduceSub, Nat.reduceEqDiff, Nat.reduceLT, Nat.reduceLeDiff, Int.reduceEq, Int.reduceLT, Int.reduceLE, reduceIte, aresults, aresult, hp0, conv_b] at hx; (try (rw [guardL_if] at hx; split at hx <;> rename_i hc)))); all_goals (subst hx; first | (refine ⟨_, rfl, fun ht => ?_, fun ht => ?_⟩ <;> (try simp only [bbs] at ht)) | (refine ⟨_, rfl, ?_⟩; (try simp only [tupOf])))) | refine wSkip ?_ | (refine wExit ?_; simp only [thenQ, blockQ, reduceIte, Nat.reduceEqDiff]) | refine wSeq ?_ | refine wBlock ?_)
  exact gives_boolv (strOf_eq ha hb)
theorem c_llwSame (a b : List Int) (ha : Eng.Bytes a) (hb : Eng.Bytes b) : ∀ H, call Tryz.prog cfg0 0 28 [bytesL a, bytesL b] H = some (.v (.bool (decide (a = b))), H) :=
  call_fz Tryz.func28 rfl ok_llwSame rfl (by simp only [fz_cons, fz_nil, go_sem, and_self]) (p_llwSame a b ha hb)

theorem ne_tr (c : Int) (t : ByteArray) : abinX Tryz.prog .neq 36 (.agg [.v (.int .i64 c), .v (.string t)]) (.agg [.v (.int .i64 c), .v (.string t)]) = some (.v (.bool false)) := by
  simp [abinX, nil36, nilCmp, abin, exactAll, plan36, eqBy, eqK]
theorem ne_ir (c v : Int) : abinX Tryz.prog .neq 51 (.agg [.v (.int .i64 c), .v (.int .i64 v)]) (.agg [.v (.int .i64 c), .v (.int .i64 v)]) = some (.v (.bool false)) := by
  simp [abinX, nil51, nilCmp, abin, exactAll, plan51, eqBy, eqK]
theorem rx_ok {w : List UInt8} (h : rxC w = 0) : ¬ 1600 < w.length ∧ ofs (hxL (rxB w)) = w ∧ Eng.Bytes (rxB w) ∧ w.length = 2 * (rxB w).length ∧ (rxB w).length ≤ 800 := by
  by_cases hb : 1600 < w.length
  · rw [(rx_big hb).1] at h; omega
  · cases hr : hexRd w with
    | none => rw [(rx_none hb hr).1] at h; omega
    | some l =>
      obtain ⟨h1, h2, h3⟩ := rt_text w.length w l (Nat.le_refl _) hr
      rw [(rx_some hb hr).2]
      exact ⟨hb, h1, h2, h3, by omega⟩
theorem ok_law : fnOk Tryz.prog cfg0 4 Tryz.f4 = true := by kernel_rfl
theorem p_law (code : List Int) (hb : Eng.Bytes code) (hl0 : code.length ≤ 140737488351232) : pure Tryz.prog cfg0 4 Tryz.f4 [bytesL code] = some (.v (.bool true), true) := by
  refine pure_wp (rs := [.tmp 2]) rfl rfl ?_
  have hp0 : ∀ b, cfg0.pol 4 b = 0 := fun b => rfl
  by_cases hbig : 1048576 < code.length
  · have hbI : 1048576 < (code.length : Int) := by omega
    repeat' (first | ((first | refine wSeqr ?_ | refine wIf ?_ | refine wReg ?_ | (refine wRet ?_; (try simp only [thenQ, blockQ]); refine ends_by ?_)); intro xx hx; have hc := trivial; (repeat' (simp only [hc, Nat.reduceBEq, go_sem, Nat.reduceAdd, Nat.reduceMul, Nat.reduceSub, Nat.reduceEqDiff, Nat.reduceLT, Nat.reduceLeDiff, Int.reduceEq, Int.reduceLT, Int.reduceLE, reduceIte, aresults, aresult, hp0, c_llwBig code, hbI] at hx; (try (rw [guardL_if] at hx; split at hx <;> rename_i hc)))); all_goals (subst hx; first | (refine ⟨_, rfl, fun ht => ?_, fun ht => ?_⟩ <;> (try simp only [bbs] at ht)) | (refine ⟨_, rfl, ?_⟩; (try simp only [tupOf])))) | refine wSkip ?_ | (refine wExit ?_; simp only [thenQ, blockQ, reduceIte, Nat.reduceEqDiff]) | refine wSeq ?_ | refine wBlock ?_)
    all_goals try (exfalso; (try simp only [bbs] at *); first | omega | exact absurd trivial (by assumption))
    all_goals exact ⟨rfl, rfl⟩
  have hbI : ¬ 1048576 < (code.length : Int) := by omega
  have hco : CodeOk code := ⟨hb, by omega⟩
  have bg := c_llwBig code
  obtain ⟨l, ⟨hlb, hll⟩, cHT⟩ := c_DrawHT hco
  obtain ⟨zr, hzr, cRH⟩ := c_DrawRH hco
  obtain ⟨ze, hze, cEO⟩ := c_DrawEO hco
  obtain ⟨zn, hzn, cNu⟩ := c_DrawNum hco
  obtain ⟨cl, cCT⟩ := c_DrawCT hco
  obtain ⟨zw, hzw, cWO⟩ := c_DrawWO hco
  have i1 := c_iHexText l hlb (by omega)
  have j1 := c_sHexText l hlb (by omega)
  have i2 := c_iReadHex zr (by omega)
  have j2 := c_sReadHex zr (by omega)
  have i3 := c_iEventOf ze (by omega)
  have j3 := c_sEventOf ze (by omega)
  have i4 := c_iNumberOf zn (by omega)
  have j4 := c_sNumberOf zn
  have i5 := c_iClaimText cl
  have j5 := c_sClaimText cl
  have i6 := c_iWordsOf zw (by omega)
  have j6 := c_sWordsOf zw (by omega)
  unfold eoR at i3 j3
  repeat' ((fail_if_success (first | refine wAt 14 ?_)); first | ((first | refine wSeqr ?_ | refine wIf ?_ | refine wReg ?_ | (refine wRet ?_; (try simp only [thenQ, blockQ]); refine ends_by ?_)); intro xx hx; have hc := trivial; (repeat' (simp only [hc, Nat.reduceBEq, go_sem, Nat.reduceAdd, Nat.reduceMul, Nat.reduceSub, Nat.reduceEqDiff, Nat.reduceLT, Nat.reduceLeDiff, Int.reduceEq, Int.reduceLT, Int.reduceLE, reduceIte, aresults, aresult, hp0, bg, hbI, cHT, cRH, cEO, cNu, cCT, cWO, i1, i2, i3, i5, i6] at hx; (try (rw [guardL_if] at hx; split at hx <;> rename_i hc)))); all_goals (subst hx; first | (refine ⟨_, rfl, fun ht => ?_, fun ht => ?_⟩ <;> (try simp only [bbs] at ht)) | (refine ⟨_, rfl, ?_⟩; (try simp only [tupOf])))) | refine wSkip ?_ | (refine wExit ?_; simp only [thenQ, blockQ, reduceIte, Nat.reduceEqDiff]) | refine wSeq ?_ | refine wBlock ?_)
  all_goals try (exfalso; (try simp only [bbs] at *); first | omega | exact absurd trivial (by assumption))
  repeat' ((fail_if_success (first | refine wAt 16 ?_)); first | ((first | refine wSeqr ?_ | refine wIf ?_ | refine wReg ?_ | (refine wRet ?_; (try simp only [thenQ, blockQ]); refine ends_by ?_)); intro xx hx; have hc := trivial; (repeat' (simp only [hc, Nat.reduceBEq, go_sem, Nat.reduceAdd, Nat.reduceMul, Nat.reduceSub, Nat.reduceEqDiff, Nat.reduceLT, Nat.reduceLeDiff, Int.reduceEq, Int.reduceLT, Int.reduceLE, reduceIte, aresults, aresult, hp0, i1, j1, i2, j2, i3, j3, i4, j4, i5, j5, i6, j6, ne_tr, ne_ir, ne_eq, not_true_eq_false, decide_false, bne_self_eq_false, beq_self_eq_true, Bool.not_true] at hx; (try (rw [guardL_if] at hx; split at hx <;> rename_i hc)))); all_goals (subst hx; first | (refine ⟨_, rfl, fun ht => ?_, fun ht => ?_⟩ <;> (try simp only [bbs] at ht)) | (refine ⟨_, rfl, ?_⟩; (try simp only [tupOf])))) | refine wSkip ?_ | (refine wExit ?_; simp only [thenQ, blockQ, reduceIte, Nat.reduceEqDiff]) | refine wSeq ?_ | refine wBlock ?_)
  all_goals try (exfalso; (try simp only [bbs] at *); first | omega | exact absurd trivial (by assumption))
  -- bytes of a text give the text again
  have cH2 : rxC zr.data.toList = 0 → ∀ H, call Tryz.prog cfg0 0 12 [bytesL (rxB zr.data.toList)] H = some (.agg [.v (.int .i64 0), .v (.string zr)], H) := fun h => by
    obtain ⟨h1, h2, h3, h4, h5⟩ := rx_ok h
    have := c_iHexText (rxB zr.data.toList) h3 (by omega)
    rw [show hxC (rxB zr.data.toList) = 0 from if_neg (by omega), show hxT (rxB zr.data.toList) = zr by unfold hxT; rw [if_neg (by omega)]; exact ba_ext (by rw [strOf_data]; exact h2)] at this
    exact this
  have cEF := c_iEventFault (eoE ze.data.toList)
  have hE0 : eoC ze.data.toList = 0 → evFault (eoE ze.data.toList) = 0 := fun h => by
    unfold eoC at h; unfold eoE
    by_cases hn : 3000 < ze.data.toList.length
    · rw [if_pos hn] at h; omega
    · rw [if_neg hn] at h ⊢
      generalize evS ((wordsL ze.data.toList).map ba) = o at h ⊢
      cases o with
      | none => exact absurd h (by decide)
      | some x =>
        have h' : evFault x = 0 := h
        show evFault (if evFault x = 0 then x else evZ) = 0
        rw [if_pos h']; exact h'
  have cR2 : hxC l = 0 → ∀ H, call Tryz.prog cfg0 0 14 [.v (.string (hxT l))] H = some (.agg [.v (.int .i64 0), bytesL l], H) := fun h => by
    have h8 : ¬ 800 < l.length := fun h9 => by unfold hxC at h; rw [if_pos h9] at h; omega
    have hT : hxT l = strOf (hxL l) := if_neg h8
    have hsz : (strOf (hxL l)).size = 2 * l.length := by rw [strOf_size, hxL_len]
    have h1 := rt_read l hlb
    rw [← strOf_data] at h1
    have hlen : ¬ 1600 < (strOf (hxL l)).data.toList.length := by have : (strOf (hxL l)).data.toList.length = (strOf (hxL l)).size := rfl; omega
    have := c_iReadHex (hxT l) (by rw [hT]; omega)
    rw [hT, (rx_some hlen h1).1, (rx_some hlen h1).2] at this
    rw [hT]; exact this
  have hsz : hxC l = 0 → ((hxT l).size : Int) = 2 * (l.length : Int) := fun h => by
    have h8 : ¬ 800 < l.length := fun h9 => by unfold hxC at h; rw [if_pos h9] at h; omega
    rw [show hxT l = strOf (hxL l) from if_neg h8, strOf_size, hxL_len]; omega
  have cS : ∀ H, call Tryz.prog cfg0 0 28 [bytesL l, bytesL l] H = some (.v (.bool true), H) := by simpa using c_llwSame l l hlb hlb
  have hw2 : IntKind.wrap .i64 (2 * (l.length : Int)) = 2 * (l.length : Int) := wrap_i64 (by omega) (by omega)
  have z0 : ((0 : Int) = 0) = True := by simp
  by_cases hr : rxC zr.data.toList = 0
  · have c2 := cH2 hr
    by_cases he : eoC ze.data.toList = 0
    · have e2 := hE0 he
      rw [e2] at cEF
      by_cases hx8 : hxC l = 0
      · have c3 := cR2 hx8
        have s3 := hsz hx8
        repeat' (first | ((first | refine wSeqr ?_ | refine wIf ?_ | refine wReg ?_ | (refine wRet ?_; (try simp only [thenQ, blockQ]); refine ends_by ?_)); intro xx hx; have hc := trivial; (repeat' (simp only [hc, Nat.reduceBEq, go_sem, Nat.reduceAdd, Nat.reduceMul, Nat.reduceSub, Nat.reduceEqDiff, Nat.reduceLT, Nat.reduceLeDiff, Int.reduceEq, Int.reduceLT, Int.reduceLE, reduceIte, aresults, aresult, hp0, hr, he, hx8, c2, c3, s3, cEF, cS, hw2, z0, j3, ne_tr, lenD_bytes, ne_eq, not_true_eq_false, not_false_eq_true, decide_false, decide_true, bne_self_eq_false, beq_self_eq_true, Bool.not_true] at hx; (try (rw [guardL_if] at hx; split at hx <;> rename_i hc)))); all_goals (subst hx; first | (refine ⟨_, rfl, fun ht => ?_, fun ht => ?_⟩ <;> (try simp only [bbs] at ht)) | (refine ⟨_, rfl, ?_⟩; (try simp only [tupOf])))) | refine wSkip ?_ | (refine wExit ?_; simp only [thenQ, blockQ, reduceIte, Nat.reduceEqDiff]) | refine wSeq ?_ | refine wBlock ?_)
        all_goals try (exfalso; (try simp only [bbs] at *); first | omega | exact absurd trivial (by assumption))
        all_goals exact ⟨rfl, rfl⟩
      · repeat' (first | ((first | refine wSeqr ?_ | refine wIf ?_ | refine wReg ?_ | (refine wRet ?_; (try simp only [thenQ, blockQ]); refine ends_by ?_)); intro xx hx; have hc := trivial; (repeat' (simp only [hc, Nat.reduceBEq, go_sem, Nat.reduceAdd, Nat.reduceMul, Nat.reduceSub, Nat.reduceEqDiff, Nat.reduceLT, Nat.reduceLeDiff, Int.reduceEq, Int.reduceLT, Int.reduceLE, reduceIte, aresults, aresult, hp0, hr, he, hx8, c2, cEF, z0, j3, ne_tr, ne_eq, not_true_eq_false, not_false_eq_true, decide_false, decide_true, bne_self_eq_false, beq_self_eq_true, Bool.not_true] at hx; (try (rw [guardL_if] at hx; split at hx <;> rename_i hc)))); all_goals (subst hx; first | (refine ⟨_, rfl, fun ht => ?_, fun ht => ?_⟩ <;> (try simp only [bbs] at ht)) | (refine ⟨_, rfl, ?_⟩; (try simp only [tupOf])))) | refine wSkip ?_ | (refine wExit ?_; simp only [thenQ, blockQ, reduceIte, Nat.reduceEqDiff]) | refine wSeq ?_ | refine wBlock ?_)
        all_goals try (exfalso; (try simp only [bbs] at *); first | omega | exact absurd trivial (by assumption))
        all_goals exact ⟨rfl, rfl⟩
    · by_cases hx8 : hxC l = 0
      · have c3 := cR2 hx8
        have s3 := hsz hx8
        repeat' (first | ((first | refine wSeqr ?_ | refine wIf ?_ | refine wReg ?_ | (refine wRet ?_; (try simp only [thenQ, blockQ]); refine ends_by ?_)); intro xx hx; have hc := trivial; (repeat' (simp only [hc, Nat.reduceBEq, go_sem, Nat.reduceAdd, Nat.reduceMul, Nat.reduceSub, Nat.reduceEqDiff, Nat.reduceLT, Nat.reduceLeDiff, Int.reduceEq, Int.reduceLT, Int.reduceLE, reduceIte, aresults, aresult, hp0, hr, he, hx8, c2, c3, s3, cS, hw2, z0, ne_tr, lenD_bytes, ne_eq, not_true_eq_false, not_false_eq_true, decide_false, decide_true, bne_self_eq_false, beq_self_eq_true, Bool.not_true] at hx; (try (rw [guardL_if] at hx; split at hx <;> rename_i hc)))); all_goals (subst hx; first | (refine ⟨_, rfl, fun ht => ?_, fun ht => ?_⟩ <;> (try simp only [bbs] at ht)) | (refine ⟨_, rfl, ?_⟩; (try simp only [tupOf])))) | refine wSkip ?_ | (refine wExit ?_; simp only [thenQ, blockQ, reduceIte, Nat.reduceEqDiff]) | refine wSeq ?_ | refine wBlock ?_)
        all_goals try (exfalso; (try simp only [bbs] at *); first | omega | exact absurd trivial (by assumption))
        all_goals exact ⟨rfl, rfl⟩
      · repeat' (first | ((first | refine wSeqr ?_ | refine wIf ?_ | refine wReg ?_ | (refine wRet ?_; (try simp only [thenQ, blockQ]); refine ends_by ?_)); intro xx hx; have hc := trivial; (repeat' (simp only [hc, Nat.reduceBEq, go_sem, Nat.reduceAdd, Nat.reduceMul, Nat.reduceSub, Nat.reduceEqDiff, Nat.reduceLT, Nat.reduceLeDiff, Int.reduceEq, Int.reduceLT, Int.reduceLE, reduceIte, aresults, aresult, hp0, hr, he, hx8, c2, z0, ne_tr, ne_eq, not_true_eq_false, not_false_eq_true, decide_false, decide_true, bne_self_eq_false, beq_self_eq_true, Bool.not_true] at hx; (try (rw [guardL_if] at hx; split at hx <;> rename_i hc)))); all_goals (subst hx; first | (refine ⟨_, rfl, fun ht => ?_, fun ht => ?_⟩ <;> (try simp only [bbs] at ht)) | (refine ⟨_, rfl, ?_⟩; (try simp only [tupOf])))) | refine wSkip ?_ | (refine wExit ?_; simp only [thenQ, blockQ, reduceIte, Nat.reduceEqDiff]) | refine wSeq ?_ | refine wBlock ?_)
        all_goals try (exfalso; (try simp only [bbs] at *); first | omega | exact absurd trivial (by assumption))
        all_goals exact ⟨rfl, rfl⟩
  · by_cases he : eoC ze.data.toList = 0
    · have e2 := hE0 he
      rw [e2] at cEF
      by_cases hx8 : hxC l = 0
      · have c3 := cR2 hx8
        have s3 := hsz hx8
        repeat' (first | ((first | refine wSeqr ?_ | refine wIf ?_ | refine wReg ?_ | (refine wRet ?_; (try simp only [thenQ, blockQ]); refine ends_by ?_)); intro xx hx; have hc := trivial; (repeat' (simp only [hc, Nat.reduceBEq, go_sem, Nat.reduceAdd, Nat.reduceMul, Nat.reduceSub, Nat.reduceEqDiff, Nat.reduceLT, Nat.reduceLeDiff, Int.reduceEq, Int.reduceLT, Int.reduceLE, reduceIte, aresults, aresult, hp0, hr, he, hx8, c3, s3, cEF, cS, hw2, z0, j3, ne_tr, lenD_bytes, ne_eq, not_true_eq_false, not_false_eq_true, decide_false, decide_true, bne_self_eq_false, beq_self_eq_true, Bool.not_true] at hx; (try (rw [guardL_if] at hx; split at hx <;> rename_i hc)))); all_goals (subst hx; first | (refine ⟨_, rfl, fun ht => ?_, fun ht => ?_⟩ <;> (try simp only [bbs] at ht)) | (refine ⟨_, rfl, ?_⟩; (try simp only [tupOf])))) | refine wSkip ?_ | (refine wExit ?_; simp only [thenQ, blockQ, reduceIte, Nat.reduceEqDiff]) | refine wSeq ?_ | refine wBlock ?_)
        all_goals try (exfalso; (try simp only [bbs] at *); first | omega | exact absurd trivial (by assumption))
        all_goals exact ⟨rfl, rfl⟩
      · repeat' (first | ((first | refine wSeqr ?_ | refine wIf ?_ | refine wReg ?_ | (refine wRet ?_; (try simp only [thenQ, blockQ]); refine ends_by ?_)); intro xx hx; have hc := trivial; (repeat' (simp only [hc, Nat.reduceBEq, go_sem, Nat.reduceAdd, Nat.reduceMul, Nat.reduceSub, Nat.reduceEqDiff, Nat.reduceLT, Nat.reduceLeDiff, Int.reduceEq, Int.reduceLT, Int.reduceLE, reduceIte, aresults, aresult, hp0, hr, he, hx8, cEF, z0, j3, ne_tr, ne_eq, not_true_eq_false, not_false_eq_true, decide_false, decide_true, bne_self_eq_false, beq_self_eq_true, Bool.not_true] at hx; (try (rw [guardL_if] at hx; split at hx <;> rename_i hc)))); all_goals (subst hx; first | (refine ⟨_, rfl, fun ht => ?_, fun ht => ?_⟩ <;> (try simp only [bbs] at ht)) | (refine ⟨_, rfl, ?_⟩; (try simp only [tupOf])))) | refine wSkip ?_ | (refine wExit ?_; simp only [thenQ, blockQ, reduceIte, Nat.reduceEqDiff]) | refine wSeq ?_ | refine wBlock ?_)
        all_goals try (exfalso; (try simp only [bbs] at *); first | omega | exact absurd trivial (by assumption))
        all_goals exact ⟨rfl, rfl⟩
    · by_cases hx8 : hxC l = 0
      · have c3 := cR2 hx8
        have s3 := hsz hx8
        repeat' (first | ((first | refine wSeqr ?_ | refine wIf ?_ | refine wReg ?_ | (refine wRet ?_; (try simp only [thenQ, blockQ]); refine ends_by ?_)); intro xx hx; have hc := trivial; (repeat' (simp only [hc, Nat.reduceBEq, go_sem, Nat.reduceAdd, Nat.reduceMul, Nat.reduceSub, Nat.reduceEqDiff, Nat.reduceLT, Nat.reduceLeDiff, Int.reduceEq, Int.reduceLT, Int.reduceLE, reduceIte, aresults, aresult, hp0, hr, he, hx8, c3, s3, cS, hw2, z0, ne_tr, lenD_bytes, ne_eq, not_true_eq_false, not_false_eq_true, decide_false, decide_true, bne_self_eq_false, beq_self_eq_true, Bool.not_true] at hx; (try (rw [guardL_if] at hx; split at hx <;> rename_i hc)))); all_goals (subst hx; first | (refine ⟨_, rfl, fun ht => ?_, fun ht => ?_⟩ <;> (try simp only [bbs] at ht)) | (refine ⟨_, rfl, ?_⟩; (try simp only [tupOf])))) | refine wSkip ?_ | (refine wExit ?_; simp only [thenQ, blockQ, reduceIte, Nat.reduceEqDiff]) | refine wSeq ?_ | refine wBlock ?_)
        all_goals try (exfalso; (try simp only [bbs] at *); first | omega | exact absurd trivial (by assumption))
        all_goals exact ⟨rfl, rfl⟩
      · repeat' (first | ((first | refine wSeqr ?_ | refine wIf ?_ | refine wReg ?_ | (refine wRet ?_; (try simp only [thenQ, blockQ]); refine ends_by ?_)); intro xx hx; have hc := trivial; (repeat' (simp only [hc, Nat.reduceBEq, go_sem, Nat.reduceAdd, Nat.reduceMul, Nat.reduceSub, Nat.reduceEqDiff, Nat.reduceLT, Nat.reduceLeDiff, Int.reduceEq, Int.reduceLT, Int.reduceLE, reduceIte, aresults, aresult, hp0, hr, he, hx8, z0, ne_tr, ne_eq, not_true_eq_false, not_false_eq_true, decide_false, decide_true, bne_self_eq_false, beq_self_eq_true, Bool.not_true] at hx; (try (rw [guardL_if] at hx; split at hx <;> rename_i hc)))); all_goals (subst hx; first | (refine ⟨_, rfl, fun ht => ?_, fun ht => ?_⟩ <;> (try simp only [bbs] at ht)) | (refine ⟨_, rfl, ?_⟩; (try simp only [tupOf])))) | refine wSkip ?_ | (refine wExit ?_; simp only [thenQ, blockQ, reduceIte, Nat.reduceEqDiff]) | refine wSeq ?_ | refine wBlock ?_)
        all_goals try (exfalso; (try simp only [bbs] at *); first | omega | exact absurd trivial (by assumption))
        all_goals exact ⟨rfl, rfl⟩
theorem law (xs : List AV) (h : ArgsC Tryz.prog reach 2 [22] xs) : pure Tryz.prog cfg0 4 Tryz.f4 xs = some (.v (.bool true), true) := by
  obtain ⟨x0, r0, rfl, h0, rfl⟩ := h
  unfold ArgC at h0
  rw [agg22] at h0
  obtain ⟨a0, e0, g0, w0⟩ := shC_bytes u22 u5 byn5 h0
  simp only [List.cons.injEq, and_true] at e0
  subst e0
  have k0 : a0.length ≤ 140737488351232 := by simp only [reach] at w0; omega
  exact p_law a0 g0 k0
end
end Go.Proofs.YtakbbccdnkigpaaGreatDoor.fnTexts
