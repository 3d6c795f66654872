/- Contracts: queries answered, the program's side. Contracts: queries answered, the reference's side. Contracts of the laws' copies, as own results: printed by fam3.py. Contracts: marks in bytes. Contracts of the laws' marks, in laid values: printed by fam4.py. Contracts of the laws' generated helpers, over the typed mirrors: printed by fam2.py. Contracts: comparisons and marks of results with bytes. What the law of AnswerQuery wants of laid arguments and of the answer's size. -/
import Derived.Test.YtnejoidfbgklbaaDoorNE
namespace Go.Proofs.YtnejoidfbgklbaaDoor
open Go Go.RowKit Go.Proofs.YtnejoidfbgklbaaDoor.Eng
set_option linter.unusedSimpArgs false
set_option linter.unusedVariables false
set_option maxRecDepth 100000
set_option maxHeartbeats 2000000
noncomputable section
/-- The answer with so many records. -/
def ansN (l : List Int) (st : Int) (w : List Int) (rs : List RecordM) (n : Nat) : List Int := ansB (l.take 2) st (decide (n < rs.length)) w (rs.take n)
/-- The longest one that has room. -/
def findB (f : Nat → List Int) (mo : Int) : Nat → Option (List Int)
  | 0 => none
  | n + 1 => if ((f n).length : Int) ≤ mo then some (f n) else findB f mo n
def aqO (vw : List ClaimM) (l : List Int) (mo : Int) : Option (List Int) := findB (ansN l (stQ l) (quQ l) (rsQ vw l)) mo ((rsQ vw l).length + 1)
def aqC (vw : List ClaimM) (l : List Int) (mo : Int) : Int := if viewF vw = 0 then (if inB mo 60 300 = true then (if 12 ≤ l.length then (match aqO vw l mo with
  | some _ => 0
  | none => 2) else 2) else 3) else viewF vw
def aqB (vw : List ClaimM) (l : List Int) (mo : Int) : List Int := if viewF vw = 0 ∧ inB mo 60 300 = true ∧ 12 ≤ l.length then (aqO vw l mo).getD [] else []
theorem aq_view {vw : List ClaimM} {l : List Int} {mo : Int} (h : ¬ viewF vw = 0) : aqC vw l mo = viewF vw ∧ aqB vw l mo = [] := ⟨if_neg h, if_neg fun x => h x.1⟩
theorem aq_most {vw : List ClaimM} {l : List Int} {mo : Int} (h : viewF vw = 0) (h2 : inB mo 60 300 = false) : aqC vw l mo = 3 ∧ aqB vw l mo = [] := by
  constructor
  · unfold aqC; rw [if_pos h, if_neg (by simp [h2])]
  · unfold aqB; rw [if_neg (fun x => by simp [h2] at x)]
theorem aq_few {vw : List ClaimM} {l : List Int} {mo : Int} (h : viewF vw = 0) (h2 : inB mo 60 300 = true) (h3 : ¬ 12 ≤ l.length) : aqC vw l mo = 2 ∧ aqB vw l mo = [] := by
  constructor
  · unfold aqC; rw [if_pos h, if_pos h2, if_neg h3]
  · unfold aqB; rw [if_neg (fun x => h3 x.2.2)]
theorem aq_some {vw : List ClaimM} {l : List Int} {mo : Int} (h : viewF vw = 0) (h2 : inB mo 60 300 = true) (h3 : 12 ≤ l.length) {o : List Int} (ho : aqO vw l mo = some o) : aqC vw l mo = 0 ∧ aqB vw l mo = o := by
  constructor
  · unfold aqC; rw [if_pos h, if_pos h2, if_pos h3, ho]
  · unfold aqB; rw [if_pos ⟨h, h2, h3⟩, ho]; rfl
theorem aq_none {vw : List ClaimM} {l : List Int} {mo : Int} (h : viewF vw = 0) (h2 : inB mo 60 300 = true) (h3 : 12 ≤ l.length) (ho : aqO vw l mo = none) : aqC vw l mo = 2 ∧ aqB vw l mo = [] := by
  constructor
  · unfold aqC; rw [if_pos h, if_pos h2, if_pos h3, ho]
  · unfold aqB; rw [if_pos ⟨h, h2, h3⟩, ho]; rfl
theorem recs_ok {vw : List ClaimM} (h : viewF vw = 0) {sv t : Int} (htt : t = 1 ∨ t = 33) : ∀ r ∈ recsL vw sv t, recOk r := by
  intro r hr
  obtain ⟨c, hc1, rfl⟩ := List.mem_map.1 hr
  have hcf := (viewF_ok h).2 c (List.mem_filter.1 hc1).1
  unfold claimFault claimOk at hcf
  split at hcf
  · rename_i h1
    simp only [Bool.and_eq_true, inB_t] at h1
    refine ⟨htt, by simp only [recOf]; omega, ?_⟩
    simp only [recOf]; split <;> omega
  · omega
theorem typ_or {t : Int} (h : typB t = true) : t = 1 ∨ t = 33 := by simpa [typB] using h
theorem so_is {vw : List ClaimM} {l : List Int} (hb : Eng.Bytes l) : ∃ (i t : Int) (ls : List ByteArray), soR l = .tup [.v (.int .i64 (stQ l)), bytesL (quQ l), .agg [.v (.int .i64 i), textsL ls, .v (.int .i64 t)]] ∧ labsOk ls ∧ (stQ l = 0 → 0 ≤ svOf ls ∧ typB t = true ∧ rsQ vw l = recsL vw (svOf ls) t) ∧ (¬ stQ l = 0 → rsQ vw l = []) := by
  unfold soR stQ quQ rsQ
  cases hqf : qF l with
  | none => exact ⟨0, 0, [], rfl, ⟨by simp, by simp⟩, by simp, fun _ => rfl⟩
  | some z =>
    obtain ⟨i, ls, t⟩ := z
    simp only
    refine ⟨i, t, ls, rfl, (qF_ok hb hqf).1, fun h => ?_, fun h => if_neg h⟩
    rw [if_pos h]
    unfold stF at h
    split at h
    · omega
    · split at h
      · rename_i h1 h2; exact ⟨by omega, h2, rfl⟩
      · omega
theorem rsQ_ok {vw : List ClaimM} {l : List Int} (hb : Eng.Bytes l) (h : viewF vw = 0) : (rsQ vw l).length ≤ 4 ∧ ∀ r ∈ rsQ vw l, recOk r := by
  obtain ⟨i, t, ls, -, -, h0, h1⟩ := so_is (vw := vw) hb
  by_cases hs : stQ l = 0
  · obtain ⟨-, h2, h3⟩ := h0 hs
    rw [h3]
    exact ⟨Nat.le_trans (recsL_len _ _ _) (viewF_ok h).1, recs_ok h (typ_or h2)⟩
  · rw [h1 hs]; exact ⟨by simp, by simp⟩
theorem quQ_len {l : List Int} (hb : Eng.Bytes l) : (quQ l).length ≤ 300 := by
  unfold quQ
  cases hqf : qF l with
  | none => simp
  | some z =>
    obtain ⟨i, ls, t⟩ := z
    have := (qF_ok hb hqf).2.2.2
    simp; omega
theorem stQ_b (l : List Int) : 0 ≤ stQ l ∧ stQ l ≤ 255 := by
  unfold stQ
  split
  · unfold stF; split <;> (try split) <;> omega
  · omega
theorem ansN_ne (l : List Int) (st : Int) (w : List Int) (rs : List RecordM) (n : Nat) : ansN l st w rs n ≠ [] := by unfold ansN ansB; simp
theorem om_made {x : AV} {l w : List Int} {st : Int} {rs : List RecordM} (hX : Dz 12 x (.lst false (rs.map encRecord))) (hwl : w.length ≤ 1000) (hrl : rs.length ≤ 100) (hst : 0 ≤ st ∧ st ≤ 255) (hro : ∀ r ∈ rs, recOk r) (n : Nat) (hn : n ≤ rs.length) (H : Hp) :
    call Tryd.prog cfg0 1 33 [bytesL (l.take 2), .v (.int .i64 st), bytesL w, x, .v (.int .i64 (n : Nat))] H = some (.sl H.g 1 0 (ansN l st w rs n).length, H.new ((ansN l st w rs n).map cell)) := by
  have hp := (pq_imade (l.take 2) w st rs n (by rw [List.length_take]; omega) hwl hrl hn hst hro).2
  have hd : [bytesL (l.take 2), AV.v (.int .i64 st), bytesL w, x, .v (.int .i64 (n : Nat))].mapM (deep H depthD) = some [bytesL (l.take 2), AV.v (.int .i64 st), bytesL w, .lst false (rs.map encRecord), .v (.int .i64 (n : Nat))] :=
    mapM_c ((bytesL_fz 10 _).1 H) (mapM_c rfl (mapM_c ((bytesL_fz 10 _).1 H) (mapM_c (hX.1 H) (mapM_c rfl mapM_n))))
  rw [call_ofO Tryd.func33 rfl ok_imade rfl hd hp]
  exact mat_bytes 10 _ (ansN_ne l st w rs n) H
theorem dz_nilR : Dz 12 (.v (.slice none 0 0)) (.lst false (([] : List RecordM).map encRecord)) := ⟨fun H => rfl, rfl⟩
theorem gO_no {H : Hp} (c : Int) : GivesO (.agg [.v (.int .i64 c), bytesL []]) (.agg [.v (.int .i64 c), .lst false []]) H := ⟨⟨rfl, rfl⟩, own_agg2 ⟨[], rfl, List.nodup_nil⟩⟩
theorem ok_iAnswerQuery : fnOk Tryd.prog cfg0 16 Tryd.f16 = true := by kernel_rfl
theorem pq_iAnswerQuery (vw : List ClaimM) (hv : vw.length ≤ 1048576) (l : List Int) (hb : Eng.Bytes l) (hl : l.length ≤ 1048576) (mo : Int) : pure Tryd.prog cfg0 16 Tryd.f16 [.lst false (vw.map encClaim), bytesL l, .v (.int .i64 mo)] = some (.agg [.v (.int .i64 (aqC vw l mo)), bytesL (aqB vw l mo)], true) ∧ owned Tryd.prog cfg0 16 Tryd.f16 [.lst false (vw.map encClaim), bytesL l, .v (.int .i64 mo)] = some (.agg [.v (.int .i64 (aqC vw l mo)), bytesL (aqB vw l mo)]) := by
  refine both_wp (rs := [.cell 6 36]) rfl rfl ?_
  have hp0 : ∀ b, cfg0.pol 16 b = (if b = 60 then 1 else 0) := fun b => rfl
  have hvf := c_iViewFault vw hv
  by_cases hv0 : viewF vw = 0
  rotate_left
  · obtain ⟨e1, e2⟩ := aq_view (l := l) (mo := mo) hv0
    rw [e1, e2]
    repeat' (first | ((first | refine wSeqr ?_ | refine wIf ?_ | refine wReg ?_ | (refine wRet ?_; (try simp only [thenQ, blockQ]); refine ends_by ?_)); intro xx hx; have hc := trivial; (repeat' (simp only [hc, Nat.reduceBEq, go_sem, Nat.reduceAdd, Nat.reduceMul, Nat.reduceSub, Nat.reduceEqDiff, Nat.reduceLT, Nat.reduceLeDiff, Int.reduceEq, Int.reduceLT, Int.reduceLE, reduceIte, aresults, aresult, hp0, hvf, hv0, c_inoBytes] at hx; (try (rw [guardL_if] at hx; split at hx <;> rename_i hc)))); all_goals (subst hx; first | (refine ⟨_, rfl, fun ht => ?_, fun ht => ?_⟩ <;> (try simp only [bbs] at ht)) | (refine ⟨_, rfl, ?_⟩; (try simp only [tupOf])))) | refine wSkip ?_ | (refine wExit ?_; simp only [thenQ, blockQ, reduceIte, Nat.reduceEqDiff]) | refine wSeq ?_ | refine wBlock ?_)
    all_goals try (exfalso; (try simp only [bbs] at *); first | omega | exact absurd trivial (by assumption))
    all_goals exact gO_no _
  cases hmo : inB mo 60 300 with
  | false =>
    obtain ⟨e1, e2⟩ := aq_most (l := l) hv0 hmo
    rw [e1, e2]
    repeat' (first | ((first | refine wSeqr ?_ | refine wIf ?_ | refine wReg ?_ | (refine wRet ?_; (try simp only [thenQ, blockQ]); refine ends_by ?_)); intro xx hx; have hc := trivial; (repeat' (simp only [hc, Nat.reduceBEq, go_sem, Nat.reduceAdd, Nat.reduceMul, Nat.reduceSub, Nat.reduceEqDiff, Nat.reduceLT, Nat.reduceLeDiff, Int.reduceEq, Int.reduceLT, Int.reduceLE, reduceIte, aresults, aresult, hp0, hvf, hv0, c_iin, hmo, Bool.not_false, c_inoBytes] at hx; (try (rw [guardL_if] at hx; split at hx <;> rename_i hc)))); all_goals (subst hx; first | (refine ⟨_, rfl, fun ht => ?_, fun ht => ?_⟩ <;> (try simp only [bbs] at ht)) | (refine ⟨_, rfl, ?_⟩; (try simp only [tupOf])))) | refine wSkip ?_ | (refine wExit ?_; simp only [thenQ, blockQ, reduceIte, Nat.reduceEqDiff]) | refine wSeq ?_ | refine wBlock ?_)
    all_goals try (exfalso; (try simp only [bbs] at *); first | omega | exact absurd trivial (by assumption))
    all_goals exact gO_no _
  | true =>
  by_cases hl12 : 12 ≤ l.length
  rotate_left
  · obtain ⟨e1, e2⟩ := aq_few hv0 hmo hl12
    have h12I : ((l.length : Nat) : Int) < 12 := by omega
    rw [e1, e2]
    repeat' (first | ((first | refine wSeqr ?_ | refine wIf ?_ | refine wReg ?_ | (refine wRet ?_; (try simp only [thenQ, blockQ]); refine ends_by ?_)); intro xx hx; have hc := trivial; (repeat' (simp only [hc, Nat.reduceBEq, go_sem, Nat.reduceAdd, Nat.reduceMul, Nat.reduceSub, Nat.reduceEqDiff, Nat.reduceLT, Nat.reduceLeDiff, Int.reduceEq, Int.reduceLT, Int.reduceLE, reduceIte, aresults, aresult, hp0, hvf, hv0, c_iin, hmo, h12I, Bool.not_true, c_inoBytes] at hx; (try (rw [guardL_if] at hx; split at hx <;> rename_i hc)))); all_goals (subst hx; first | (refine ⟨_, rfl, fun ht => ?_, fun ht => ?_⟩ <;> (try simp only [bbs] at ht)) | (refine ⟨_, rfl, ?_⟩; (try simp only [tupOf])))) | refine wSkip ?_ | (refine wExit ?_; simp only [thenQ, blockQ, reduceIte, Nat.reduceEqDiff]) | refine wSeq ?_ | refine wBlock ?_)
    all_goals try (exfalso; (try simp only [bbs] at *); first | omega | exact absurd trivial (by assumption))
    all_goals exact gO_no _
  have h12I : ¬ ((l.length : Nat) : Int) < 12 := by omega
  have hso := c_istatusOf l hb hl
  obtain ⟨i, t, ls, hse, hk, hz0, hz1⟩ := so_is (vw := vw) hb
  rw [hse] at hso
  have tx := tx_ok ls
  have bx := by_ok (quQ l)
  obtain ⟨hrl, hro⟩ := rsQ_ok hb hv0
  have hwl := quQ_len hb
  have hst := stQ_b l
  have hO : aqO vw l mo = findB (ansN l (stQ l) (quQ l) (rsQ vw l)) mo ((rsQ vw l).length + 1) := rfl
  repeat' ((fail_if_success (first | refine wAt 10 ?_)); first | ((first | refine wSeqr ?_ | refine wIf ?_ | refine wReg ?_ | (refine wRet ?_; (try simp only [thenQ, blockQ]); refine ends_by ?_)); intro xx hx; have hc := trivial; (repeat' (simp only [hc, Nat.reduceBEq, go_sem, Nat.reduceAdd, Nat.reduceMul, Nat.reduceSub, Nat.reduceEqDiff, Nat.reduceLT, Nat.reduceLeDiff, Int.reduceEq, Int.reduceLT, Int.reduceLE, reduceIte, aresults, aresult, hp0, hvf, hv0, c_iin, hmo, h12I, Bool.not_true, hso, tx.1, tx.2, bx.1, bx.2] at hx; (try (rw [guardL_if] at hx; split at hx <;> rename_i hc)))); all_goals (subst hx; first | (refine ⟨_, rfl, fun ht => ?_, fun ht => ?_⟩ <;> (try simp only [bbs] at ht)) | (refine ⟨_, rfl, ?_⟩; (try simp only [tupOf])))) | refine wSkip ?_ | (refine wExit ?_; simp only [thenQ, blockQ, reduceIte, Nat.reduceEqDiff]) | refine wSeq ?_ | refine wBlock ?_)
  all_goals try (exfalso; (try simp only [bbs] at *); first | omega | exact absurd trivial (by assumption))
  refine wMid (fun s => s.1 1 = bytesL l ∧ s.1 2 = .v (.int .i64 mo) ∧ s.1 6 = .ptr 0 0 ∧ s.1 8 = .v (.int .i64 (stQ l)) ∧ s.1 9 = bytesL (quQ l) ∧ lenD (some (.slice 57)) (s.1 11) = some (.v (.int .i64 (rsQ vw l).length)) ∧ Dz 12 (s.1 11) (.lst false ((rsQ vw l).map encRecord)) ∧ s.2.h 0 = some [.v (.int .i64 0), .v (.slice none 0 0)] ∧ 0 < s.2.g) ?_ ?_
  · by_cases hs0 : stQ l = 0
    · obtain ⟨s1, s2, s3⟩ := hz0 hs0
      have hsT : (stQ l = 0) = True := eq_true hs0
      have hsv := c_iServiceOf ls (labs_sizes hk)
      have hsvv : svV ls = svOf ls := by unfold svV; rw [if_neg (by omega)]
      rw [hsvv] at hsv
      have hrf := c_iRecordsFor vw hv (svOf ls) t
      rw [rfR_0 (by unfold rfC; rw [if_pos hv0, if_pos ⟨inB_t.2 ⟨s1, sv_le ls⟩, s2⟩])] at hrf
      rw [s3]
      repeat' (first | ((first | refine wSeqr ?_ | refine wIf ?_ | refine wReg ?_ | (refine wRet ?_; (try simp only [thenQ, blockQ]); refine ends_by ?_)); intro xx hx; have hc := trivial; (repeat' (simp only [hc, Nat.reduceBEq, go_sem, Nat.reduceAdd, Nat.reduceMul, Nat.reduceSub, Nat.reduceEqDiff, Nat.reduceLT, Nat.reduceLeDiff, Int.reduceEq, Int.reduceLT, Int.reduceLE, reduceIte, aresults, aresult, hp0, hsT, hsv, hrf, tx.1, tx.2] at hx; (try (rw [guardL_if] at hx; split at hx <;> rename_i hc)))); all_goals (subst hx; first | (refine ⟨_, rfl, fun ht => ?_, fun ht => ?_⟩ <;> (try simp only [bbs] at ht)) | (refine ⟨_, rfl, ?_⟩; (try simp only [tupOf])))) | refine wSkip ?_ | (refine wExit ?_; simp only [thenQ, blockQ, reduceIte, Nat.reduceEqDiff]) | refine wSeq ?_ | refine wBlock ?_)
      all_goals try (exfalso; (try simp only [bbs] at *); first | omega | exact absurd trivial (by assumption))
      show (_ = _) ∧ (_ = _) ∧ (_ = _) ∧ (_ = _) ∧ (_ = _) ∧ (_ = _) ∧ Dz _ _ _ ∧ (_ = _) ∧ (_ < _)
      refine ⟨rfl, rfl, rfl, rfl, rfl, ?_, ?_, rfl, Nat.succ_pos _⟩
      · show some (AV.v (.int .i64 (((recsL vw (svOf ls) t).map encRecord).length : Nat))) = _
        rw [List.length_map]
      · exact Fz.dz (fz_rows (n := 11) (fun k => fzE_Record 10 k) _)
    · have hsT : (stQ l = 0) = False := eq_false hs0
      rw [hz1 hs0]
      repeat' (first | ((first | refine wSeqr ?_ | refine wIf ?_ | refine wReg ?_ | (refine wRet ?_; (try simp only [thenQ, blockQ]); refine ends_by ?_)); intro xx hx; have hc := trivial; (repeat' (simp only [hc, Nat.reduceBEq, go_sem, Nat.reduceAdd, Nat.reduceMul, Nat.reduceSub, Nat.reduceEqDiff, Nat.reduceLT, Nat.reduceLeDiff, Int.reduceEq, Int.reduceLT, Int.reduceLE, reduceIte, aresults, aresult, hp0, hsT] at hx; (try (rw [guardL_if] at hx; split at hx <;> rename_i hc)))); all_goals (subst hx; first | (refine ⟨_, rfl, fun ht => ?_, fun ht => ?_⟩ <;> (try simp only [bbs] at ht)) | (refine ⟨_, rfl, ?_⟩; (try simp only [tupOf])))) | refine wSkip ?_ | (refine wExit ?_; simp only [thenQ, blockQ, reduceIte, Nat.reduceEqDiff]) | refine wSeq ?_ | refine wBlock ?_)
      all_goals try (exfalso; (try simp only [bbs] at *); first | omega | exact absurd trivial (by assumption))
      show (_ = _) ∧ (_ = _) ∧ (_ = _) ∧ (_ = _) ∧ (_ = _) ∧ (_ = _) ∧ Dz _ _ _ ∧ (_ = _) ∧ (_ < _)
      exact ⟨rfl, rfl, rfl, rfl, rfl, rfl, dz_nilR, rfl, Nat.succ_pos _⟩
  rintro ⟨e, H⟩ ⟨h1, h2, h6, h8, h9, h11, hX, hb0, hgg⟩
  simp only at h1 h2 h6 h8 h9 h11 hX hb0 hgg
  show Wp _ _ _ _ _ _
  generalize hXe : e 11 = X at *
  have hmd := om_made (l := l) hX (w := quQ l) (by omega) (by omega) hst hro
  have hone : ((rsQ vw l).length : Int) = (((rsQ vw l).length + 1 : Nat) : Int) - 1 := by omega
  have hsl2 : (2 ≤ l.length) = True := eq_true (by omega)
  generalize hN : (rsQ vw l).length = N at *
  repeat' (first | ((first | refine wSeqr ?_ | refine wIf ?_ | refine wReg ?_ | (refine wRet ?_; (try simp only [thenQ, blockQ]); refine ends_by ?_)); intro xx hx; have hc := trivial; (repeat' (simp only [hc, Nat.reduceBEq, go_sem, Nat.reduceAdd, Nat.reduceMul, Nat.reduceSub, Nat.reduceEqDiff, Nat.reduceLT, Nat.reduceLeDiff, Int.reduceEq, Int.reduceLT, Int.reduceLE, reduceIte, aresults, aresult, hp0, hXe, h11, u23] at hx; (try (rw [guardL_if] at hx; split at hx <;> rename_i hc)))); all_goals (subst hx; first | (refine ⟨_, rfl, fun ht => ?_, fun ht => ?_⟩ <;> (try simp only [bbs] at ht)) | (refine ⟨_, rfl, ?_⟩; (try simp only [tupOf])))) | refine wSkip ?_ | (refine wExit ?_; simp only [thenQ, blockQ, reduceIte, Nat.reduceEqDiff]) | refine wSeq ?_ | refine wBlock ?_)
  all_goals try (exfalso; (try simp only [bbs] at *); first | omega | exact absurd trivial (by assumption))
  refine wLoop (fun k s => ∃ (j : Nat) (rem : Nat), j + k = N + 1 ∧ s.1 1 = bytesL l ∧ s.1 2 = .v (.int .i64 mo) ∧ s.1 6 = .ptr 0 0 ∧ s.1 8 = .v (.int .i64 (stQ l)) ∧ s.1 9 = bytesL (quQ l) ∧ s.1 11 = X ∧ s.1 12 = .v (.int .i64 ((rem : Int) - 1)) ∧ (j + rem = N + 1) ∧ (findB (ansN l (stQ l) (quQ l) (rsQ vw l)) mo (N + 1) = findB (ansN l (stQ l) (quQ l) (rsQ vw l)) mo rem) ∧ (s.2.h 0 = some [.v (.int .i64 0), .v (.slice none 0 0)] ∧ 0 < s.2.g)) (fun k s hI => ?_) (N + 1) _ ?_
  · obtain ⟨e, H⟩ := s
    obtain ⟨j, rem, hj, h1, h2, h6, h8, h9, h11, h12, hrem, hfb, hbb⟩ := hI
    simp only at h1 h2 h6 h8 h9 h11 h12 hrem hfb hbb
    obtain ⟨hc0, hg0⟩ := hbb
    cases rem with
    | zero =>
      have hneg : ¬ (0 : Int) ≤ ((0 : Nat) : Int) - 1 := by omega
      rw [hfb] at hO
      obtain ⟨e1, e2⟩ := aq_none hv0 hmo hl12 hO
      rw [e1, e2]
      repeat' (first | ((first | refine wSeqr ?_ | refine wIf ?_ | refine wReg ?_ | (refine wRet ?_; (try simp only [thenQ, blockQ]); refine ends_by ?_)); intro xx hx; have hc := trivial; (repeat' (simp only [hc, Nat.reduceBEq, go_sem, Nat.reduceAdd, Nat.reduceMul, Nat.reduceSub, Nat.reduceEqDiff, Nat.reduceLT, Nat.reduceLeDiff, Int.reduceEq, Int.reduceLT, Int.reduceLE, reduceIte, aresults, aresult, hp0, h6, h12, hneg, hc0, c_inoBytes] at hx; (try (rw [guardL_if] at hx; split at hx <;> rename_i hc)))); all_goals (subst hx; first | (refine ⟨_, rfl, fun ht => ?_, fun ht => ?_⟩ <;> (try simp only [bbs] at ht)) | (refine ⟨_, rfl, ?_⟩; (try simp only [tupOf])))) | refine wSkip ?_ | (refine wExit ?_; simp only [thenQ, blockQ, reduceIte, Nat.reduceEqDiff]) | refine wSeq ?_ | refine wBlock ?_)
      all_goals try (exfalso; (try simp only [bbs] at *); first | omega | exact absurd trivial (by assumption))
      all_goals exact gO_no _
    | succ n =>
      have h12' : e 12 = .v (.int .i64 (n : Int)) := by rw [h12]; congr 2; omega
      have hpos : (0 : Int) ≤ (n : Int) := by omega
      have hm1 := hmd n (by omega)
      have wm : IntKind.wrap .i64 ((n : Int) - 1) = (n : Int) - 1 := wrap_i64 (by omega) (by omega)
      have hfs : findB (ansN l (stQ l) (quQ l) (rsQ vw l)) mo (n + 1) = if ((ansN l (stQ l) (quQ l) (rsQ vw l) n).length : Int) ≤ mo then some (ansN l (stQ l) (quQ l) (rsQ vw l) n) else findB (ansN l (stQ l) (quQ l) (rsQ vw l)) mo n := rfl
      rw [hfs] at hfb
      generalize ansN l (stQ l) (quQ l) (rsQ vw l) n = A at *
      have g0 : (0 = H.g) = False := eq_false (by omega)
      by_cases hle : (A.length : Int) ≤ mo
      · rw [if_pos hle] at hfb
        rw [hfb] at hO
        obtain ⟨e1, e2⟩ := aq_some hv0 hmo hl12 hO
        rw [e1, e2]
        repeat' (first | ((first | refine wSeqr ?_ | refine wIf ?_ | refine wReg ?_ | (refine wRet ?_; (try simp only [thenQ, blockQ]); refine ends_by ?_)); intro xx hx; have hc := trivial; (repeat' (simp only [hc, Nat.reduceBEq, go_sem, Nat.reduceAdd, Nat.reduceMul, Nat.reduceSub, Nat.reduceEqDiff, Nat.reduceLT, Nat.reduceLeDiff, Int.reduceEq, Int.reduceLT, Int.reduceLE, reduceIte, aresults, aresult, hp0, h1, h2, h6, h8, h9, h11, h12', hpos, hsl2, Nat.zero_le, and_self, true_and, List.drop_zero, Nat.sub_zero, hm1, hle, hc0, g0] at hx; (try (rw [guardL_if] at hx; split at hx <;> rename_i hc)))); all_goals (subst hx; first | (refine ⟨_, rfl, fun ht => ?_, fun ht => ?_⟩ <;> (try simp only [bbs] at ht)) | (refine ⟨_, rfl, ?_⟩; (try simp only [tupOf])))) | refine wSkip ?_ | (refine wExit ?_; simp only [thenQ, blockQ, reduceIte, Nat.reduceEqDiff]) | refine wSeq ?_ | refine wBlock ?_)
        all_goals try (exfalso; (try simp only [bbs] at *); first | omega | exact absurd trivial (by assumption))
        all_goals exact gO_res (RAcc.setOff (racc_new (l := A) H) (fun b' o' n' he => by injection he with e1; omega) _)
      · rw [if_neg hle] at hfb
        repeat' (first | ((first | refine wSeqr ?_ | refine wIf ?_ | refine wReg ?_ | (refine wRet ?_; (try simp only [thenQ, blockQ]); refine ends_by ?_)); intro xx hx; have hc := trivial; (repeat' (simp only [hc, Nat.reduceBEq, go_sem, Nat.reduceAdd, Nat.reduceMul, Nat.reduceSub, Nat.reduceEqDiff, Nat.reduceLT, Nat.reduceLeDiff, Int.reduceEq, Int.reduceLT, Int.reduceLE, reduceIte, aresults, aresult, hp0, h1, h2, h6, h8, h9, h11, h12', hpos, hsl2, Nat.zero_le, and_self, true_and, List.drop_zero, Nat.sub_zero, hm1, hle, hc0, g0, wm] at hx; (try (rw [guardL_if] at hx; split at hx <;> rename_i hc)))); all_goals (subst hx; first | (refine ⟨_, rfl, fun ht => ?_, fun ht => ?_⟩ <;> (try simp only [bbs] at ht)) | (refine ⟨_, rfl, ?_⟩; (try simp only [tupOf])))) | refine wSkip ?_ | (refine wExit ?_; simp only [thenQ, blockQ, reduceIte, Nat.reduceEqDiff]) | refine wSeq ?_ | refine wBlock ?_)
        all_goals try (exfalso; (try simp only [bbs] at *); first | omega | exact absurd trivial (by assumption))
        refine ⟨_, Nat.sub_lt (by omega) Nat.one_pos, j + 1, n, by omega, by simp only [upd_eq, Nat.reduceEqDiff, if_false, if_true, h1, h2, h6, h8, h9, h11, h12], by simp only [upd_eq, Nat.reduceEqDiff, if_false, if_true, h1, h2, h6, h8, h9, h11, h12], by simp only [upd_eq, Nat.reduceEqDiff, if_false, if_true, h1, h2, h6, h8, h9, h11, h12], by simp only [upd_eq, Nat.reduceEqDiff, if_false, if_true, h1, h2, h6, h8, h9, h11, h12], by simp only [upd_eq, Nat.reduceEqDiff, if_false, if_true, h1, h2, h6, h8, h9, h11, h12], by simp only [upd_eq, Nat.reduceEqDiff, if_false, if_true, h1, h2, h6, h8, h9, h11, h12], by simp only [upd_eq, Nat.reduceEqDiff, if_false, if_true, h1, h2, h6, h8, h9, h11, h12], ?_⟩
        exact ⟨by omega, hfb, by rw [Hp.new_h, if_neg (by omega)]; exact hc0, by rw [Hp.new_g]; omega⟩
  · refine ⟨0, N + 1, by omega, ?_, ?_, ?_, ?_, ?_, ?_, ?_, by omega, rfl, hb0, hgg⟩
    · simp only [upd_eq, put, Nat.reduceEqDiff, if_false, if_true]; exact h1
    · simp only [upd_eq, put, Nat.reduceEqDiff, if_false, if_true]; exact h2
    · simp only [upd_eq, put, Nat.reduceEqDiff, if_false, if_true]; exact h6
    · simp only [upd_eq, put, Nat.reduceEqDiff, if_false, if_true]; exact h8
    · simp only [upd_eq, put, Nat.reduceEqDiff, if_false, if_true]; exact h9
    · simp only [upd_eq, put, Nat.reduceEqDiff, if_false, if_true]; exact hXe
    · simp only [upd_eq, put, Nat.reduceEqDiff, if_false, if_true]; rw [← hone]
theorem p_iAnswerQuery (vw : List ClaimM) (hv : vw.length ≤ 1048576) (l : List Int) (hb : Eng.Bytes l) (hl : l.length ≤ 1048576) (mo : Int) : pure Tryd.prog cfg0 16 Tryd.f16 [.lst false (vw.map encClaim), bytesL l, .v (.int .i64 mo)] = some (.agg [.v (.int .i64 (aqC vw l mo)), bytesL (aqB vw l mo)], true) := (pq_iAnswerQuery vw hv l hb hl mo).1
theorem c_iAnswerQuery (vw : List ClaimM) (hv : vw.length ≤ 1048576) (l : List Int) (hb : Eng.Bytes l) (hl : l.length ≤ 1048576) (mo : Int) : ∀ H, call Tryd.prog cfg0 0 16 [.lst false (vw.map encClaim), bytesL l, .v (.int .i64 mo)] H = some (.agg [.v (.int .i64 (aqC vw l mo)), bytesL (aqB vw l mo)], H) :=
  call_fz Tryd.func16 rfl ok_iAnswerQuery rfl (by simp only [fz_cons, fz_nil, go_sem, and_self]) (pq_iAnswerQuery vw hv l hb hl mo).1
theorem o_iAnswerQuery (vw : List ClaimM) (hv : vw.length ≤ 1048576) (l : List Int) (hb : Eng.Bytes l) (hl : l.length ≤ 1048576) (mo : Int) : ∀ H, call Tryd.prog cfg0 1 16 [.lst false (vw.map encClaim), bytesL l, .v (.int .i64 mo)] H = mat depthD (.agg [.v (.int .i64 (aqC vw l mo)), bytesL (aqB vw l mo)]) H := fun H =>
  call_ofO Tryd.func16 rfl ok_iAnswerQuery rfl (mapM_self fun x hx => ((show ∀ x ∈ ([.lst false (vw.map encClaim), bytesL l, .v (.int .i64 mo)] : List AV), Fz depthD x by simp only [fz_cons, fz_nil, go_sem, and_self]) x hx).1 H) (pq_iAnswerQuery vw hv l hb hl mo).2

end
end Go.Proofs.YtnejoidfbgklbaaDoor
namespace Go.Proofs.YtnejoidfbgklbaaDoor
open Go Go.RowKit Go.Proofs.YtnejoidfbgklbaaDoor.Eng
set_option linter.unusedSimpArgs false
set_option linter.unusedVariables false
set_option maxRecDepth 100000
set_option maxHeartbeats 2000000
noncomputable section
theorem qu_is (l : List Int) : quQ l = if stQ l = 1 then [] else l.drop 12 := by
  unfold quQ stQ
  cases qF l with
  | none => simp
  | some z =>
    obtain ⟨i, ls, t⟩ := z
    simp only
    rw [if_neg]
    unfold stF
    split <;> (try split) <;> omega
theorem take_two {l : List Int} (h : 2 ≤ l.length) : ∃ a b, l.take 2 = [a, b] := by
  match l, h with
  | a :: b :: r, _ => exact ⟨a, b, rfl⟩
theorem cm_ans {y : AV} {l w : List Int} {st a b : Int} {rs : List RecordM} (hy : Dz 12 y (bytesL w)) (h2 : l.take 2 = [a, b]) (hwl : w.length ≤ 1000) (hrl : rs.length ≤ 100) (hst : 0 ≤ st ∧ st ≤ 255) (hro : ∀ r ∈ rs, recOk r) (n : Nat) (hn : n ≤ rs.length) (H : Hp) :
    call Tryd.prog cfg0 0 29 [bytesL [a, b], .v (.int .i64 st), .v (.bool (decide (n < rs.length))), y, .lst false ((rs.take n).map encRecord)] H = some (bytesL (ansN l st w rs n), H) := by
  have hp := p_sl10Answer a b w st (decide (n < rs.length)) (rs.take n) hwl (by rw [List.length_take]; omega) hst (fun r hr => hro r (List.mem_of_mem_take hr))
  have hz : Dzs depthD [bytesL [a, b], .v (.int .i64 st), .v (.bool (decide (n < rs.length))), y, .lst false ((rs.take n).map encRecord)] [bytesL [a, b], .v (.int .i64 st), .v (.bool (decide (n < rs.length))), bytesL w, .lst false ((rs.take n).map encRecord)] :=
    Dzs.cons (Fz.dz (bytesL_fz 10 _)) (Dzs.cons (Fz.dz (Fz.int _ _ _)) (Dzs.cons (Fz.dz (Fz.bool _ _)) (Dzs.cons hy (Dzs.cons (Fz.dz (fz_rs _)) Dzs.nil))))
  unfold ansN
  rw [h2]
  exact call_dz Tryd.func29 rfl ok_sl10Answer rfl hz hp H
theorem dz_nilB : Dz 12 (.lst true []) (bytesL []) := ⟨fun H => rfl, rfl⟩
theorem ok_sAnswerQuery : fnOk Tryd.prog cfg0 14 Tryd.f14 = true := by kernel_rfl
theorem p_sAnswerQuery (vw : List ClaimM) (hv : vw.length ≤ 1048576) (l : List Int) (hb : Eng.Bytes l) (hl : l.length ≤ 1048576) (mo : Int) : ∃ cl, pure Tryd.prog cfg0 14 Tryd.f14 [.lst false (vw.map encClaim), bytesL l, .v (.int .i64 mo)] = some (.agg [.v (.int .i64 (aqC vw l mo)), bytesL (aqB vw l mo)], cl) := by
  have key : ∃ v cl, v = (.agg [.v (.int .i64 (aqC vw l mo)), bytesL (aqB vw l mo)] : AV) ∧ pure Tryd.prog cfg0 14 Tryd.f14 [.lst false (vw.map encClaim), bytesL l, .v (.int .i64 mo)] = some (v, cl) := by
    refine pure_ex (rs := [.cell 6 36]) rfl rfl ?_
    have hp0 : ∀ b, cfg0.pol 14 b = 0 := fun b => rfl
    have hvf := c_sViewFault vw hv
    by_cases hv0 : viewF vw = 0
    rotate_left
    · obtain ⟨e1, e2⟩ := aq_view (l := l) (mo := mo) hv0
      rw [e1, e2]
      repeat' (first | ((first | refine wSeqr ?_ | refine wIf ?_ | refine wReg ?_ | (refine wRet ?_; (try simp only [thenQ, blockQ]); refine ends_by ?_)); intro xx hx; have hc := trivial; (repeat' (simp only [hc, Nat.reduceBEq, go_sem, Nat.reduceAdd, Nat.reduceMul, Nat.reduceSub, Nat.reduceEqDiff, Nat.reduceLT, Nat.reduceLeDiff, Int.reduceEq, Int.reduceLT, Int.reduceLE, reduceIte, aresults, aresult, hp0, hvf, hv0] at hx; (try (rw [guardL_if] at hx; split at hx <;> rename_i hc)))); all_goals (subst hx; first | (refine ⟨_, rfl, fun ht => ?_, fun ht => ?_⟩ <;> (try simp only [bbs] at ht)) | (refine ⟨_, rfl, ?_⟩; (try simp only [tupOf])))) | refine wSkip ?_ | (refine wExit ?_; simp only [thenQ, blockQ, reduceIte, Nat.reduceEqDiff]) | refine wSeq ?_ | refine wBlock ?_)
      all_goals try (exfalso; (try simp only [bbs] at *); first | omega | exact absurd trivial (by assumption))
      all_goals exact dirty rfl
    cases hmo : inB mo 60 300 with
    | false =>
      obtain ⟨e1, e2⟩ := aq_most (l := l) hv0 hmo
      rw [e1, e2]
      repeat' (first | ((first | refine wSeqr ?_ | refine wIf ?_ | refine wReg ?_ | (refine wRet ?_; (try simp only [thenQ, blockQ]); refine ends_by ?_)); intro xx hx; have hc := trivial; (repeat' (simp only [hc, Nat.reduceBEq, go_sem, Nat.reduceAdd, Nat.reduceMul, Nat.reduceSub, Nat.reduceEqDiff, Nat.reduceLT, Nat.reduceLeDiff, Int.reduceEq, Int.reduceLT, Int.reduceLE, reduceIte, aresults, aresult, hp0, hvf, hv0, c_sl1In, hmo, Bool.not_false] at hx; (try (rw [guardL_if] at hx; split at hx <;> rename_i hc)))); all_goals (subst hx; first | (refine ⟨_, rfl, fun ht => ?_, fun ht => ?_⟩ <;> (try simp only [bbs] at ht)) | (refine ⟨_, rfl, ?_⟩; (try simp only [tupOf])))) | refine wSkip ?_ | (refine wExit ?_; simp only [thenQ, blockQ, reduceIte, Nat.reduceEqDiff]) | refine wSeq ?_ | refine wBlock ?_)
      all_goals try (exfalso; (try simp only [bbs] at *); first | omega | exact absurd trivial (by assumption))
      all_goals exact dirty rfl
    | true =>
    by_cases hl12 : 12 ≤ l.length
    rotate_left
    · obtain ⟨e1, e2⟩ := aq_few hv0 hmo hl12
      have h12I : ((l.length : Nat) : Int) < 12 := by omega
      rw [e1, e2]
      repeat' (first | ((first | refine wSeqr ?_ | refine wIf ?_ | refine wReg ?_ | (refine wRet ?_; (try simp only [thenQ, blockQ]); refine ends_by ?_)); intro xx hx; have hc := trivial; (repeat' (simp only [hc, Nat.reduceBEq, go_sem, Nat.reduceAdd, Nat.reduceMul, Nat.reduceSub, Nat.reduceEqDiff, Nat.reduceLT, Nat.reduceLeDiff, Int.reduceEq, Int.reduceLT, Int.reduceLE, reduceIte, aresults, aresult, hp0, hvf, hv0, c_sl1In, hmo, h12I, Bool.not_true] at hx; (try (rw [guardL_if] at hx; split at hx <;> rename_i hc)))); all_goals (subst hx; first | (refine ⟨_, rfl, fun ht => ?_, fun ht => ?_⟩ <;> (try simp only [bbs] at ht)) | (refine ⟨_, rfl, ?_⟩; (try simp only [tupOf])))) | refine wSkip ?_ | (refine wExit ?_; simp only [thenQ, blockQ, reduceIte, Nat.reduceEqDiff]) | refine wSeq ?_ | refine wBlock ?_)
      all_goals try (exfalso; (try simp only [bbs] at *); first | omega | exact absurd trivial (by assumption))
      all_goals exact dirty rfl
    have h12I : ¬ ((l.length : Nat) : Int) < 12 := by omega
    have hso := c_sl10Status vw hv (viewF_meta hv0) l hb hl
    obtain ⟨hrl, hro⟩ := rsQ_ok hb hv0
    have hwl := quQ_len hb
    have hst := stQ_b l
    have hO : aqO vw l mo = findB (ansN l (stQ l) (quQ l) (rsQ vw l)) mo ((rsQ vw l).length + 1) := rfl
    obtain ⟨a, b, h2t⟩ := take_two (l := l) (by omega)
    have hqu := qu_is l
    repeat' ((fail_if_success (first | refine wAt 10 ?_)); first | ((first | refine wSeqr ?_ | refine wIf ?_ | refine wReg ?_ | (refine wRet ?_; (try simp only [thenQ, blockQ]); refine ends_by ?_)); intro xx hx; have hc := trivial; (repeat' (simp only [hc, Nat.reduceBEq, go_sem, Nat.reduceAdd, Nat.reduceMul, Nat.reduceSub, Nat.reduceEqDiff, Nat.reduceLT, Nat.reduceLeDiff, Int.reduceEq, Int.reduceLT, Int.reduceLE, reduceIte, aresults, aresult, hp0, hvf, hv0, c_sl1In, hmo, h12I, Bool.not_true, hso] at hx; (try (rw [guardL_if] at hx; split at hx <;> rename_i hc)))); all_goals (subst hx; first | (refine ⟨_, rfl, fun ht => ?_, fun ht => ?_⟩ <;> (try simp only [bbs] at ht)) | (refine ⟨_, rfl, ?_⟩; (try simp only [tupOf])))) | refine wSkip ?_ | (refine wExit ?_; simp only [thenQ, blockQ, reduceIte, Nat.reduceEqDiff]) | refine wSeq ?_ | refine wBlock ?_)
    all_goals try (exfalso; (try simp only [bbs] at *); first | omega | exact absurd trivial (by assumption))
    refine wMid (fun s => s.1 1 = bytesL l ∧ s.1 2 = .v (.int .i64 mo) ∧ s.1 6 = .ptr 0 0 ∧ s.1 8 = .v (.int .i64 (stQ l)) ∧ s.1 9 = .lst false ((rsQ vw l).map encRecord) ∧ Dz 12 (s.1 10) (bytesL (quQ l)) ∧ s.2.h 0 = some [.v (.int .i64 0), .v (.slice none 0 0)] ∧ 0 < s.2.g) ?_ ?_
    · by_cases hs0 : stQ l = 1
      · have hsT : (stQ l = 1) = True := eq_true hs0
        rw [hqu, if_pos hs0]
        repeat' (first | ((first | refine wSeqr ?_ | refine wIf ?_ | refine wReg ?_ | (refine wRet ?_; (try simp only [thenQ, blockQ]); refine ends_by ?_)); intro xx hx; have hc := trivial; (repeat' (simp only [hc, Nat.reduceBEq, go_sem, Nat.reduceAdd, Nat.reduceMul, Nat.reduceSub, Nat.reduceEqDiff, Nat.reduceLT, Nat.reduceLeDiff, Int.reduceEq, Int.reduceLT, Int.reduceLE, reduceIte, aresults, aresult, hp0, hsT, not_true_eq_false, decide_false] at hx; (try (rw [guardL_if] at hx; split at hx <;> rename_i hc)))); all_goals (subst hx; first | (refine ⟨_, rfl, fun ht => ?_, fun ht => ?_⟩ <;> (try simp only [bbs] at ht)) | (refine ⟨_, rfl, ?_⟩; (try simp only [tupOf])))) | refine wSkip ?_ | (refine wExit ?_; simp only [thenQ, blockQ, reduceIte, Nat.reduceEqDiff]) | refine wSeq ?_ | refine wBlock ?_)
        all_goals try (exfalso; (try simp only [bbs] at *); first | omega | exact absurd trivial (by assumption))
        show (_ = _) ∧ (_ = _) ∧ (_ = _) ∧ (_ = _) ∧ (_ = _) ∧ Dz _ _ _ ∧ (_ = _) ∧ (_ < _)
        exact ⟨rfl, rfl, rfl, rfl, rfl, dz_nilB, rfl, Nat.succ_pos _⟩
      · have hsT : (stQ l = 1) = False := eq_false hs0
        have hsl : (12 ≤ l.length) = True := eq_true hl12
        rw [hqu, if_neg hs0]
        repeat' (first | ((first | refine wSeqr ?_ | refine wIf ?_ | refine wReg ?_ | (refine wRet ?_; (try simp only [thenQ, blockQ]); refine ends_by ?_)); intro xx hx; have hc := trivial; (repeat' (simp only [hc, Nat.reduceBEq, go_sem, Nat.reduceAdd, Nat.reduceMul, Nat.reduceSub, Nat.reduceEqDiff, Nat.reduceLT, Nat.reduceLeDiff, Int.reduceEq, Int.reduceLT, Int.reduceLE, reduceIte, aresults, aresult, hp0, hsT, not_false_eq_true, decide_true, hsl] at hx; (try (rw [guardL_if] at hx; split at hx <;> rename_i hc)))); all_goals (subst hx; first | (refine ⟨_, rfl, fun ht => ?_, fun ht => ?_⟩ <;> (try simp only [bbs] at ht)) | (refine ⟨_, rfl, ?_⟩; (try simp only [tupOf])))) | refine wSkip ?_ | (refine wExit ?_; simp only [thenQ, blockQ, reduceIte, Nat.reduceEqDiff]) | refine wSeq ?_ | refine wBlock ?_)
        all_goals try (exfalso; (try simp only [bbs] at *); first | omega | exact absurd trivial (by assumption))
        show (_ = _) ∧ (_ = _) ∧ (_ = _) ∧ (_ = _) ∧ (_ = _) ∧ Dz _ _ _ ∧ (_ = _) ∧ (_ < _)
        exact ⟨rfl, rfl, rfl, rfl, rfl, Fz.dz (bytesL_fz 10 _), rfl, Nat.succ_pos _⟩
    rintro ⟨e, H⟩ ⟨h1, h2, h6, h8, h9, hY, hb0, hgg⟩
    simp only at h1 h2 h6 h8 h9 hY hb0 hgg
    show Wp _ _ _ _ _ _
    generalize hYe : e 10 = Y at *
    have hmd := cm_ans (l := l) hY h2t (w := quQ l) (by omega) (by omega) hst hro
    have hone : ((rsQ vw l).length : Int) = (((rsQ vw l).length + 1 : Nat) : Int) - 1 := by omega
    have hsl2 : (2 ≤ l.length) = True := eq_true (by omega)
    generalize hN : (rsQ vw l).length = N at *
    repeat' (first | ((first | refine wSeqr ?_ | refine wIf ?_ | refine wReg ?_ | (refine wRet ?_; (try simp only [thenQ, blockQ]); refine ends_by ?_)); intro xx hx; have hc := trivial; (repeat' (simp only [hc, Nat.reduceBEq, go_sem, Nat.reduceAdd, Nat.reduceMul, Nat.reduceSub, Nat.reduceEqDiff, Nat.reduceLT, Nat.reduceLeDiff, Int.reduceEq, Int.reduceLT, Int.reduceLE, reduceIte, aresults, aresult, hp0, h9, List.length_map, hN] at hx; (try (rw [guardL_if] at hx; split at hx <;> rename_i hc)))); all_goals (subst hx; first | (refine ⟨_, rfl, fun ht => ?_, fun ht => ?_⟩ <;> (try simp only [bbs] at ht)) | (refine ⟨_, rfl, ?_⟩; (try simp only [tupOf])))) | refine wSkip ?_ | (refine wExit ?_; simp only [thenQ, blockQ, reduceIte, Nat.reduceEqDiff]) | refine wSeq ?_ | refine wBlock ?_)
    all_goals try (exfalso; (try simp only [bbs] at *); first | omega | exact absurd trivial (by assumption))
    refine wLoop (fun k s => ∃ (j : Nat) (rem : Nat), j + k = N + 1 ∧ s.1 1 = bytesL l ∧ s.1 2 = .v (.int .i64 mo) ∧ s.1 6 = .ptr 0 0 ∧ s.1 8 = .v (.int .i64 (stQ l)) ∧ s.1 9 = .lst false ((rsQ vw l).map encRecord) ∧ s.1 10 = Y ∧ s.1 11 = .v (.int .i64 ((rem : Int) - 1)) ∧ (j + rem = N + 1) ∧ (findB (ansN l (stQ l) (quQ l) (rsQ vw l)) mo (N + 1) = findB (ansN l (stQ l) (quQ l) (rsQ vw l)) mo rem) ∧ (s.2.h 0 = some [.v (.int .i64 0), .v (.slice none 0 0)] ∧ 0 < s.2.g)) (fun k s hI => ?_) (N + 1) _ ?_
    · obtain ⟨e, H⟩ := s
      obtain ⟨j, rem, hj, h1, h2, h6, h8, h9, h10, h11, hrem, hfb, hbb⟩ := hI
      simp only at h1 h2 h6 h8 h9 h10 h11 hrem hfb hbb
      obtain ⟨hc0, hg0⟩ := hbb
      cases rem with
      | zero =>
        have hneg : ¬ (0 : Int) ≤ ((0 : Nat) : Int) - 1 := by omega
        rw [hfb] at hO
        obtain ⟨e1, e2⟩ := aq_none hv0 hmo hl12 hO
        rw [e1, e2]
        repeat' (first | ((first | refine wSeqr ?_ | refine wIf ?_ | refine wReg ?_ | (refine wRet ?_; (try simp only [thenQ, blockQ]); refine ends_by ?_)); intro xx hx; have hc := trivial; (repeat' (simp only [hc, Nat.reduceBEq, go_sem, Nat.reduceAdd, Nat.reduceMul, Nat.reduceSub, Nat.reduceEqDiff, Nat.reduceLT, Nat.reduceLeDiff, Int.reduceEq, Int.reduceLT, Int.reduceLE, reduceIte, aresults, aresult, hp0, h6, h11, hneg, hc0] at hx; (try (rw [guardL_if] at hx; split at hx <;> rename_i hc)))); all_goals (subst hx; first | (refine ⟨_, rfl, fun ht => ?_, fun ht => ?_⟩ <;> (try simp only [bbs] at ht)) | (refine ⟨_, rfl, ?_⟩; (try simp only [tupOf])))) | refine wSkip ?_ | (refine wExit ?_; simp only [thenQ, blockQ, reduceIte, Nat.reduceEqDiff]) | refine wSeq ?_ | refine wBlock ?_)
        all_goals try (exfalso; (try simp only [bbs] at *); first | omega | exact absurd trivial (by assumption))
        all_goals exact dirty rfl
      | succ n =>
        have h11' : e 11 = .v (.int .i64 (n : Int)) := by rw [h11]; congr 2; omega
        have hpos : (0 : Int) ≤ (n : Int) := by omega
        have hm1 := hmd n (by omega)
        have hnN : (n ≤ N) = True := eq_true (by omega)
        have hdec : decide ((n : Int) < (N : Int)) = decide (n < N) := decide_eq_decide.2 (by omega)
        have wm : IntKind.wrap .i64 ((n : Int) - 1) = (n : Int) - 1 := wrap_i64 (by omega) (by omega)
        have hfs : findB (ansN l (stQ l) (quQ l) (rsQ vw l)) mo (n + 1) = if ((ansN l (stQ l) (quQ l) (rsQ vw l) n).length : Int) ≤ mo then some (ansN l (stQ l) (quQ l) (rsQ vw l) n) else findB (ansN l (stQ l) (quQ l) (rsQ vw l)) mo n := rfl
        rw [hfs] at hfb
        generalize ansN l (stQ l) (quQ l) (rsQ vw l) n = A at *
        by_cases hle : (A.length : Int) ≤ mo
        · rw [if_pos hle] at hfb
          rw [hfb] at hO
          obtain ⟨e1, e2⟩ := aq_some hv0 hmo hl12 hO
          rw [e1, e2]
          have bx := by_ok A
          repeat' (first | ((first | refine wSeqr ?_ | refine wIf ?_ | refine wReg ?_ | (refine wRet ?_; (try simp only [thenQ, blockQ]); refine ends_by ?_)); intro xx hx; have hc := trivial; (repeat' (simp only [hc, Nat.reduceBEq, go_sem, Nat.reduceAdd, Nat.reduceMul, Nat.reduceSub, Nat.reduceEqDiff, Nat.reduceLT, Nat.reduceLeDiff, Int.reduceEq, Int.reduceLT, Int.reduceLE, reduceIte, aresults, aresult, hp0, h1, h2, h6, h8, h9, h10, h11', hpos, hsl2, h2t, hnN, hN, hdec, Nat.zero_le, and_self, true_and, List.drop_zero, Nat.sub_zero, List.length_map, hm1, hle, hc0, bx.1, bx.2] at hx; (try (rw [guardL_if] at hx; split at hx <;> rename_i hc)))); all_goals (subst hx; first | (refine ⟨_, rfl, fun ht => ?_, fun ht => ?_⟩ <;> (try simp only [bbs] at ht)) | (refine ⟨_, rfl, ?_⟩; (try simp only [tupOf])))) | refine wSkip ?_ | (refine wExit ?_; simp only [thenQ, blockQ, reduceIte, Nat.reduceEqDiff]) | refine wSeq ?_ | refine wBlock ?_)
          all_goals try (exfalso; (try simp only [bbs] at *); first | omega | exact absurd trivial (by assumption))
          all_goals exact dirty (fz_deep (fz_b _ _) _)
        · rw [if_neg hle] at hfb
          repeat' (first | ((first | refine wSeqr ?_ | refine wIf ?_ | refine wReg ?_ | (refine wRet ?_; (try simp only [thenQ, blockQ]); refine ends_by ?_)); intro xx hx; have hc := trivial; (repeat' (simp only [hc, Nat.reduceBEq, go_sem, Nat.reduceAdd, Nat.reduceMul, Nat.reduceSub, Nat.reduceEqDiff, Nat.reduceLT, Nat.reduceLeDiff, Int.reduceEq, Int.reduceLT, Int.reduceLE, reduceIte, aresults, aresult, hp0, h1, h2, h6, h8, h9, h10, h11', hpos, hsl2, h2t, hnN, hN, hdec, Nat.zero_le, and_self, true_and, List.drop_zero, Nat.sub_zero, List.length_map, hm1, hle, hc0, wm] at hx; (try (rw [guardL_if] at hx; split at hx <;> rename_i hc)))); all_goals (subst hx; first | (refine ⟨_, rfl, fun ht => ?_, fun ht => ?_⟩ <;> (try simp only [bbs] at ht)) | (refine ⟨_, rfl, ?_⟩; (try simp only [tupOf])))) | refine wSkip ?_ | (refine wExit ?_; simp only [thenQ, blockQ, reduceIte, Nat.reduceEqDiff]) | refine wSeq ?_ | refine wBlock ?_)
          all_goals try (exfalso; (try simp only [bbs] at *); first | omega | exact absurd trivial (by assumption))
          refine ⟨_, Nat.sub_lt (by omega) Nat.one_pos, j + 1, n, by omega, by simp only [upd_eq, Nat.reduceEqDiff, if_false, if_true, h1, h2, h6, h8, h9, h10, h11], by simp only [upd_eq, Nat.reduceEqDiff, if_false, if_true, h1, h2, h6, h8, h9, h10, h11], by simp only [upd_eq, Nat.reduceEqDiff, if_false, if_true, h1, h2, h6, h8, h9, h10, h11], by simp only [upd_eq, Nat.reduceEqDiff, if_false, if_true, h1, h2, h6, h8, h9, h10, h11], by simp only [upd_eq, Nat.reduceEqDiff, if_false, if_true, h1, h2, h6, h8, h9, h10, h11], by simp only [upd_eq, Nat.reduceEqDiff, if_false, if_true, h1, h2, h6, h8, h9, h10, h11], by simp only [upd_eq, Nat.reduceEqDiff, if_false, if_true, h1, h2, h6, h8, h9, h10, h11], ?_⟩
          exact ⟨by omega, hfb, hc0, hg0⟩
    · refine ⟨0, N + 1, by omega, ?_, ?_, ?_, ?_, ?_, ?_, ?_, by omega, rfl, hb0, hgg⟩
      · simp only [upd_eq, put, Nat.reduceEqDiff, if_false, if_true]; exact h1
      · simp only [upd_eq, put, Nat.reduceEqDiff, if_false, if_true]; exact h2
      · simp only [upd_eq, put, Nat.reduceEqDiff, if_false, if_true]; exact h6
      · simp only [upd_eq, put, Nat.reduceEqDiff, if_false, if_true]; exact h8
      · simp only [upd_eq, put, Nat.reduceEqDiff, if_false, if_true]; exact h9
      · simp only [upd_eq, put, Nat.reduceEqDiff, if_false, if_true]; exact hYe
      · simp only [upd_eq, put, Nat.reduceEqDiff, if_false, if_true]; rw [← hone]
  obtain ⟨v, cl, rfl, hp⟩ := key
  exact ⟨cl, hp⟩
theorem c_sAnswerQuery (vw : List ClaimM) (hv : vw.length ≤ 1048576) (l : List Int) (hb : Eng.Bytes l) (hl : l.length ≤ 1048576) (mo : Int) : ∀ H, call Tryd.prog cfg0 0 14 [.lst false (vw.map encClaim), bytesL l, .v (.int .i64 mo)] H = some (.agg [.v (.int .i64 (aqC vw l mo)), bytesL (aqB vw l mo)], H) := fun H => by
  obtain ⟨cl, hp⟩ := p_sAnswerQuery vw hv l hb hl mo
  exact call_fz Tryd.func14 rfl ok_sAnswerQuery rfl (by simp only [fz_cons, fz_nil, go_sem, and_self]) hp H

end
end Go.Proofs.YtnejoidfbgklbaaDoor
namespace Go.Proofs.YtnejoidfbgklbaaDoor
open Go Go.RowKit Go.Proofs.YtnejoidfbgklbaaDoor.Eng
set_option linter.unusedSimpArgs false
set_option linter.unusedVariables false
set_option maxRecDepth 100000
noncomputable section
theorem ok_ltoClaim : fnOk Tryd.prog cfg0 48 Tryd.f48 = true := by kernel_rfl
theorem p_ltoClaim (k : ClaimM) (hk : k.ok 1048576) : ∃ cl, pure Tryd.prog cfg0 48 Tryd.f48 [.agg [.v (.int .i64 k.Node), .v (.int .i64 k.Inc), .v (.int .i64 k.Status), .v (.int .i64 k.Meta)]] = some (.agg [.v (.int .i64 k.Node), .v (.int .i64 k.Inc), .v (.int .i64 k.Status), .v (.int .i64 k.Meta)], cl) := by
  have key : ∃ v cl, v = (.agg [.v (.int .i64 k.Node), .v (.int .i64 k.Inc), .v (.int .i64 k.Status), .v (.int .i64 k.Meta)] : AV) ∧ pure Tryd.prog cfg0 48 Tryd.f48 [.agg [.v (.int .i64 k.Node), .v (.int .i64 k.Inc), .v (.int .i64 k.Status), .v (.int .i64 k.Meta)]] = some (v, cl) := by
    refine pure_ex (rs := [.cell 2 82]) rfl rfl ?_
    have hp0 : ∀ b, cfg0.pol 48 b = 0 := fun b => rfl
    repeat' (first | ((first | refine wSeqr ?_ | refine wIf ?_ | refine wReg ?_ | (refine wRet ?_; (try simp only [thenQ, blockQ]); refine ends_by ?_)); intro xx hx; have hc := trivial; (repeat' (simp only [hc, Nat.reduceBEq, go_sem, Nat.reduceAdd, Nat.reduceMul, Nat.reduceSub, Nat.reduceEqDiff, Nat.reduceLT, Nat.reduceLeDiff, Int.reduceEq, Int.reduceLT, Int.reduceLE, reduceIte, aresults, aresult, hp0] at hx; (try (rw [guardL_if] at hx; split at hx <;> rename_i hc)))); all_goals (subst hx; first | (refine ⟨_, rfl, fun ht => ?_, fun ht => ?_⟩ <;> (try simp only [bbs] at ht)) | (refine ⟨_, rfl, ?_⟩; (try simp only [tupOf])))) | refine wSkip ?_ | (refine wExit ?_; simp only [thenQ, blockQ, reduceIte, Nat.reduceEqDiff]) | refine wSeq ?_ | refine wBlock ?_)
    exact dirty (fz_deep (fzA_Claim k) _)
  obtain ⟨v, cl, rfl, hp⟩ := key
  exact ⟨cl, hp⟩
theorem c_ltoClaim (k : ClaimM) (hk : k.ok 1048576) : ∀ H, call Tryd.prog cfg0 0 48 [.agg [.v (.int .i64 k.Node), .v (.int .i64 k.Inc), .v (.int .i64 k.Status), .v (.int .i64 k.Meta)]] H = some (.agg [.v (.int .i64 k.Node), .v (.int .i64 k.Inc), .v (.int .i64 k.Status), .v (.int .i64 k.Meta)], H) := fun H => by
  obtain ⟨cl, hp⟩ := p_ltoClaim k hk
  exact call_fz Tryd.func48 rfl ok_ltoClaim rfl (by simp only [fz_cons, fz_nil, go_sem, and_self]) hp H

theorem ok_ltoClaimS : fnOk Tryd.prog cfg0 15 Tryd.f15 = true := by kernel_rfl
theorem pq_ltoClaimS (l : List ClaimM) (hk : l.length ≤ 1048576 ∧ ∀ x ∈ l, x.ok 1048576) : pure Tryd.prog cfg0 15 Tryd.f15 [.lst false (l.map encClaim)] = some (.lst false (l.map encClaim), true) ∧ owned Tryd.prog cfg0 15 Tryd.f15 [.lst false (l.map encClaim)] = some (.lst false (l.map encClaim)) := by
  refine both_wp (rs := [.tmp 2]) rfl rfl ?_
  have hp0 : ∀ b, cfg0.pol 15 b = 0 := fun b => rfl
  have hl := hk.1
  have hr := roomy_of (n := l.length) (b := 32) (by omega) (by omega)
  have hls : ∀ c ∈ l.map encClaim, c.length = 4 := fun c hc => by obtain ⟨k, -, rfl⟩ := List.mem_map.1 hc; rfl
  repeat' (first | ((first | refine wSeqr ?_ | refine wIf ?_ | refine wReg ?_ | (refine wRet ?_; (try simp only [thenQ, blockQ]); refine ends_by ?_)); intro xx hx; have hc := trivial; (repeat' (simp only [hc, Nat.reduceBEq, go_sem, Nat.reduceAdd, Nat.reduceMul, Nat.reduceSub, Nat.reduceEqDiff, Nat.reduceLT, Nat.reduceLeDiff, Int.reduceEq, Int.reduceLT, Int.reduceLE, reduceIte, aresults, aresult, hr, List.length_map] at hx; (try (rw [guardL_if] at hx; split at hx <;> rename_i hc)))); all_goals (subst hx; first | (refine ⟨_, rfl, fun ht => ?_, fun ht => ?_⟩ <;> (try simp only [bbs] at ht)) | (refine ⟨_, rfl, ?_⟩; (try simp only [tupOf])))) | refine wSkip ?_ | (refine wExit ?_; simp only [thenQ, blockQ, reduceIte, Nat.reduceEqDiff]) | refine wSeq ?_ | refine wBlock ?_)
  refine wLoop (fun k s => ∃ (j : Nat), j + k = l.length ∧ s.1 0 = .lst false (l.map encClaim) ∧ s.1 4 = .v (.int .i64 (j : Nat)) ∧ s.1 3 = .sl 0 4 0 l.length ∧ (s.2.h 0 = some (((l.map encClaim).take j).flatten ++ zeros (l.length - j) [.v (.int .i64 0), .v (.int .i64 0), .v (.int .i64 0), .v (.int .i64 0)]))) (fun k s hI => ?_) (l.length) _ ?_
  · obtain ⟨e, H⟩ := s
    obtain ⟨j, hj, h0, h4, h3, hh⟩ := hI
    simp only at h0 h4 h3 hh
    repeat' (first | ((first | refine wSeqr ?_ | refine wIf ?_ | refine wReg ?_ | (refine wRet ?_; (try simp only [thenQ, blockQ]); refine ends_by ?_)); intro xx hx; have hc := trivial; (repeat' (simp only [hc, Nat.reduceBEq, go_sem, Nat.reduceAdd, Nat.reduceMul, Nat.reduceSub, Nat.reduceEqDiff, Nat.reduceLT, Nat.reduceLeDiff, Int.reduceEq, Int.reduceLT, Int.reduceLE, reduceIte, aresults, aresult, h0, h4, List.length_map] at hx; (try (rw [guardL_if] at hx; split at hx <;> rename_i hc)))); all_goals (subst hx; first | (refine ⟨_, rfl, fun ht => ?_, fun ht => ?_⟩ <;> (try simp only [bbs] at ht)) | (refine ⟨_, rfl, ?_⟩; (try simp only [tupOf])))) | refine wSkip ?_ | (refine wExit ?_; simp only [thenQ, blockQ, reduceIte, Nat.reduceEqDiff]) | refine wSeq ?_ | refine wBlock ?_)
    · have hlt : j < l.length := by omega
      obtain ⟨k, hg, hd, hm⟩ := at_drop hlt
      have hg' := map_at (f := encClaim) hg
      have hlen := rows_len hls (z := [.v (.int .i64 0), .v (.int .i64 0), .v (.int .i64 0), .v (.int .i64 0)]) rfl (j := j) (by simp; omega)
      have hle : j * 4 + 4 ≤ l.length * 4 := by omega
      have hfill := fill_rows hls (z := [.v (.int .i64 0), .v (.int .i64 0), .v (.int .i64 0), .v (.int .i64 0)]) rfl hg'
      simp only [List.length_map] at hlen hfill
      simp only [encClaim] at hfill
      repeat' (first | ((first | refine wSeqr ?_ | refine wIf ?_ | refine wReg ?_ | (refine wRet ?_; (try simp only [thenQ, blockQ]); refine ends_by ?_)); intro xx hx; have hc := trivial; (repeat' (simp only [hc, Nat.reduceBEq, go_sem, Nat.reduceAdd, Nat.reduceMul, Nat.reduceSub, Nat.reduceEqDiff, Nat.reduceLT, Nat.reduceLeDiff, Int.reduceEq, Int.reduceLT, Int.reduceLE, reduceIte, aresults, aresult, h0, h3, h4, hg', hp0, c_ltoClaim k (hk.2 k hm), hh, hlt, hlen, Option.isSome_some, hle, hfill, wrap_succ (show j < 9223372036854775807 by omega)] at hx; (try (rw [guardL_if] at hx; split at hx <;> rename_i hc)))); all_goals (subst hx; first | (refine ⟨_, rfl, fun ht => ?_, fun ht => ?_⟩ <;> (try simp only [bbs] at ht)) | (refine ⟨_, rfl, ?_⟩; (try simp only [tupOf])))) | refine wSkip ?_ | (refine wExit ?_; simp only [thenQ, blockQ, reduceIte, Nat.reduceEqDiff]) | refine wSeq ?_ | refine wBlock ?_)
      refine ⟨_, Nat.sub_lt (by omega) Nat.one_pos, j + 1, by omega, by simp only [upd_eq, Nat.reduceEqDiff, if_false, if_true, h0, h4, h3], by simp only [upd_eq, Nat.reduceEqDiff, if_false, if_true, h0, h4, h3], by simp only [upd_eq, Nat.reduceEqDiff, if_false, if_true, h0, h4, h3], ?_⟩
      simp only [setAll, Nat.add_assoc, Nat.reduceAdd] at hfill
      simp only [Hp.set_h, if_true, Nat.add_assoc, Nat.reduceAdd]
      exact congrArg some hfill
    · have hj' : j = l.length := by omega
      subst hj'
      rw [h3]
      have hh' : H.h 0 = some (l.map encClaim).flatten := by rw [hh, List.take_of_length_le (by simp)]; simp [zeros]
      refine givesL_flat (n := 11) hh' (by omega) (by simp) (by omega) hls (fun c hc' x hx => ?_) (fun c hc' x hx => ?_)
      · obtain ⟨k, -, rfl⟩ := List.mem_map.1 hc'; exact gE_Claim 10 k x hx
      · obtain ⟨k, -, rfl⟩ := List.mem_map.1 hc'
        simp only [encClaim, List.mem_cons, List.not_mem_nil, or_false] at hx
        rcases hx with rfl | rfl | rfl | rfl <;> exact ⟨_, rfl⟩
  · refine ⟨0, by omega, rfl, rfl, rfl, ?_⟩
    simp only [Hp.new_h, nil_g, if_true, Nat.sub_zero, List.take_zero, List.flatten_nil, List.nil_append]
theorem p_ltoClaimS (l : List ClaimM) (hk : l.length ≤ 1048576 ∧ ∀ x ∈ l, x.ok 1048576) : pure Tryd.prog cfg0 15 Tryd.f15 [.lst false (l.map encClaim)] = some (.lst false (l.map encClaim), true) := (pq_ltoClaimS l hk).1
theorem c_ltoClaimS (l : List ClaimM) (hk : l.length ≤ 1048576 ∧ ∀ x ∈ l, x.ok 1048576) : ∀ H, call Tryd.prog cfg0 0 15 [.lst false (l.map encClaim)] H = some (.lst false (l.map encClaim), H) :=
  call_fz Tryd.func15 rfl ok_ltoClaimS rfl (by simp only [fz_cons, fz_nil, go_sem, and_self]) (pq_ltoClaimS l hk).1
theorem o_ltoClaimS (l : List ClaimM) (hk : l.length ≤ 1048576 ∧ ∀ x ∈ l, x.ok 1048576) : ∀ H, call Tryd.prog cfg0 1 15 [.lst false (l.map encClaim)] H = mat depthD (.lst false (l.map encClaim)) H := fun H =>
  call_ofO Tryd.func15 rfl ok_ltoClaimS rfl (mapM_self fun x hx => ((show ∀ x ∈ ([.lst false (l.map encClaim)] : List AV), Fz depthD x by simp only [fz_cons, fz_nil, go_sem, and_self]) x hx).1 H) (pq_ltoClaimS l hk).2

end
end Go.Proofs.YtnejoidfbgklbaaDoor
namespace Go.Proofs.YtnejoidfbgklbaaDoor
open Go Go.RowKit Go.Proofs.YtnejoidfbgklbaaDoor.Eng
set_option linter.unusedSimpArgs false
set_option linter.unusedVariables false
set_option maxRecDepth 100000
noncomputable section
theorem ok_markByteS : fnOk Tryd.prog cfg0 10 Tryd.f10 = true := by kernel_rfl
theorem conv_ib8 (n : Int) (H : Hp) : aconv Tryd.prog H 3 5 (.v (.int .i64 n)) = some (.v (.int .u8 (IntKind.wrap .u8 n))) := by simp [aconv, u3, u5]
theorem cr_mark0 (q : Int) : ∀ H, call Tryd.prog cfg0 0 10 [.lst false [], .v (.int .i64 q)] H = some (.v (.int .i64 q), H) := by
  intro H
  have key : ∃ r, body Tryd.prog cfg0 10 Tryd.f10 [.lst false [], .v (.int .i64 q)] H = some r ∧ (r.1 = .v (.int .i64 q) ∧ r.2 = H) := by
    refine body_wp (rs := [.tmp 4]) rfl rfl (R := fun x H' => x = .v (.int .i64 q) ∧ H' = H) ?_
    have hp0 : ∀ b, cfg0.pol 10 b = 0 := fun b => rfl
    repeat' (first | ((first | refine wSeqr ?_ | refine wIf ?_ | refine wReg ?_ | (refine wRet ?_; (try simp only [thenQ, blockQ]); refine ends_by ?_)); intro xx hx; have hc := trivial; (repeat' (simp only [hc, Nat.reduceBEq, go_sem, Nat.reduceAdd, Nat.reduceMul, Nat.reduceSub, Nat.reduceEqDiff, Nat.reduceLT, Nat.reduceLeDiff, Int.reduceEq, Int.reduceLT, Int.reduceLE, reduceIte, aresults, aresult, hp0] at hx; (try (rw [guardL_if] at hx; split at hx <;> rename_i hc)))); all_goals (subst hx; first | (refine ⟨_, rfl, fun ht => ?_, fun ht => ?_⟩ <;> (try simp only [bbs] at ht)) | (refine ⟨_, rfl, ?_⟩; (try simp only [tupOf])))) | refine wSkip ?_ | (refine wExit ?_; simp only [thenQ, blockQ, reduceIte, Nat.reduceEqDiff]) | refine wSeq ?_ | refine wBlock ?_)
    refine wLoop (fun n s => s.1 0 = .lst false [] ∧ s.1 1 = .v (.int .i64 q) ∧ s.1 5 = .v (.int .i64 0) ∧ s.2 = H) (fun n s hI => ?_) 0 _ ⟨rfl, rfl, rfl, rfl⟩
    obtain ⟨e, H1⟩ := s
    obtain ⟨h0, h1, h5, hH⟩ := hI
    simp only at h0 h1 h5 hH
    repeat' (first | ((first | refine wSeqr ?_ | refine wIf ?_ | refine wReg ?_ | (refine wRet ?_; (try simp only [thenQ, blockQ]); refine ends_by ?_)); intro xx hx; have hc := trivial; (repeat' (simp only [hc, Nat.reduceBEq, go_sem, Nat.reduceAdd, Nat.reduceMul, Nat.reduceSub, Nat.reduceEqDiff, Nat.reduceLT, Nat.reduceLeDiff, Int.reduceEq, Int.reduceLT, Int.reduceLE, reduceIte, aresults, aresult, hp0, h0, h1, h5, List.length_nil] at hx; (try (rw [guardL_if] at hx; split at hx <;> rename_i hc)))); all_goals (subst hx; first | (refine ⟨_, rfl, fun ht => ?_, fun ht => ?_⟩ <;> (try simp only [bbs] at ht)) | (refine ⟨_, rfl, ?_⟩; (try simp only [tupOf])))) | refine wSkip ?_ | (refine wExit ?_; simp only [thenQ, blockQ, reduceIte, Nat.reduceEqDiff]) | refine wSeq ?_ | refine wBlock ?_)
    all_goals first
      | (exfalso; (try simp only [bbs] at *); simp at *; done)
      | (subst hH; constructor <;> first | trivial | rfl)
  obtain ⟨⟨v, H'⟩, h1, rfl, rfl⟩ := key
  rw [call_raw Tryd.prog cfg0 Tryd.func10 rfl ok_markByteS rfl rfl, h1]
theorem cr_markE (l : List Int) (q : Int) (hl : l.length ≤ 281474976710656) (hk : 0 ≤ q ∧ q ≤ 4611686018427387904) (H : Hp) (b : Nat) (hb : H.h b = some (l.map cell)) :
    call Tryd.prog cfg0 0 10 [.sl b 1 0 l.length, .v (.int .i64 q)] H = some (.v (.int .i64 (q + l.length)), H.set b ((marksB q l.length).map cell)) := by
  have key : ∃ r, body Tryd.prog cfg0 10 Tryd.f10 [.sl b 1 0 l.length, .v (.int .i64 q)] H = some r ∧ (r.1 = .v (.int .i64 (q + l.length)) ∧ r.2 = H.set b ((marksB q l.length).map cell)) := by
    refine body_wp (rs := [.tmp 4]) rfl rfl (R := fun x H' => x = .v (.int .i64 (q + l.length)) ∧ H' = H.set b ((marksB q l.length).map cell)) ?_
    have hp0 : ∀ b, cfg0.pol 10 b = 0 := fun b => rfl
    have hH0 : H = H.set b ((marksB q 0 ++ l.drop 0).map cell) := by rw [show marksB q 0 ++ l.drop 0 = l from rfl]; exact (Hp.set_id hb).symm
    generalize hHg : H = K at hH0 hb ⊢
    repeat' (first | ((first | refine wSeqr ?_ | refine wIf ?_ | refine wReg ?_ | (refine wRet ?_; (try simp only [thenQ, blockQ]); refine ends_by ?_)); intro xx hx; have hc := trivial; (repeat' (simp only [hc, Nat.reduceBEq, go_sem, Nat.reduceAdd, Nat.reduceMul, Nat.reduceSub, Nat.reduceEqDiff, Nat.reduceLT, Nat.reduceLeDiff, Int.reduceEq, Int.reduceLT, Int.reduceLE, reduceIte, aresults, aresult, hp0] at hx; (try (rw [guardL_if] at hx; split at hx <;> rename_i hc)))); all_goals (subst hx; first | (refine ⟨_, rfl, fun ht => ?_, fun ht => ?_⟩ <;> (try simp only [bbs] at ht)) | (refine ⟨_, rfl, ?_⟩; (try simp only [tupOf])))) | refine wSkip ?_ | (refine wExit ?_; simp only [thenQ, blockQ, reduceIte, Nat.reduceEqDiff]) | refine wSeq ?_ | refine wBlock ?_)
    refine wLoop (fun k s => ∃ (j : Nat), j + k = l.length ∧ s.1 0 = .sl b 1 0 l.length ∧ s.1 1 = .v (.int .i64 (q + (j : Nat))) ∧ s.1 5 = .v (.int .i64 (j : Nat)) ∧ (s.2 = K.set b ((marksB q j ++ l.drop j).map cell))) (fun k s hI => ?_) (l.length) _ ?_
    · obtain ⟨e, H⟩ := s
      obtain ⟨j, hj, h0, h1, h5, hh⟩ := hI
      simp only at h0 h1 h5 hh
      subst hh
      by_cases hlt : j < l.length
      · have hlen : ((marksB q j ++ l.drop j).map cell).length = l.length := by simp [marksB_length]; omega
        have w1 : IntKind.wrap .i64 (q + (j : Nat) + 1) = q + ((j + 1 : Nat) : Int) := by rw [wrap_i64 (by omega) (by omega)]; omega
        have hst : ((marksB q j ++ l.drop j).map cell).set j (cell (IntKind.wrap .u8 (q + (j : Nat)))) = (marksB q (j + 1) ++ l.drop (j + 1)).map cell := by
          rw [← List.map_set, mark_step (marksB_length q j) hlt, marksB_succ]
        repeat' (first | ((first | refine wSeqr ?_ | refine wIf ?_ | refine wReg ?_ | (refine wRet ?_; (try simp only [thenQ, blockQ]); refine ends_by ?_)); intro xx hx; have hc := trivial; (repeat' (simp only [hc, Nat.reduceBEq, go_sem, Nat.reduceAdd, Nat.reduceMul, Nat.reduceSub, Nat.reduceEqDiff, Nat.reduceLT, Nat.reduceLeDiff, Int.reduceEq, Int.reduceLT, Int.reduceLE, reduceIte, aresults, aresult, hp0, h0, h1, h5, conv_ib8, hlen, hlt, Option.isSome_some, show j + 1 ≤ l.length from hlt, w1, wrap_succ (show j < 9223372036854775807 by omega)] at hx; (try (rw [guardL_if] at hx; split at hx <;> rename_i hc)))); all_goals (subst hx; first | (refine ⟨_, rfl, fun ht => ?_, fun ht => ?_⟩ <;> (try simp only [bbs] at ht)) | (refine ⟨_, rfl, ?_⟩; (try simp only [tupOf])))) | refine wSkip ?_ | (refine wExit ?_; simp only [thenQ, blockQ, reduceIte, Nat.reduceEqDiff]) | refine wSeq ?_ | refine wBlock ?_)
        all_goals first
          | (exfalso; (try simp only [bbs] at *); omega)
          | skip
        refine ⟨_, Nat.sub_lt (by omega) Nat.one_pos, j + 1, by omega, by simp only [upd_eq, Nat.reduceEqDiff, if_false, if_true, h0, h1, h5], by simp only [upd_eq, Nat.reduceEqDiff, if_false, if_true, h0, h1, h5], by simp only [upd_eq, Nat.reduceEqDiff, if_false, if_true, h0, h1, h5], ?_⟩
        rw [Hp.set_set]
        exact congrArg (Hp.set K b) hst
      · have hj' : j = l.length := by omega
        repeat' (first | ((first | refine wSeqr ?_ | refine wIf ?_ | refine wReg ?_ | (refine wRet ?_; (try simp only [thenQ, blockQ]); refine ends_by ?_)); intro xx hx; have hc := trivial; (repeat' (simp only [hc, Nat.reduceBEq, go_sem, Nat.reduceAdd, Nat.reduceMul, Nat.reduceSub, Nat.reduceEqDiff, Nat.reduceLT, Nat.reduceLeDiff, Int.reduceEq, Int.reduceLT, Int.reduceLE, reduceIte, aresults, aresult, hp0, h0, h1, h5] at hx; (try (rw [guardL_if] at hx; split at hx <;> rename_i hc)))); all_goals (subst hx; first | (refine ⟨_, rfl, fun ht => ?_, fun ht => ?_⟩ <;> (try simp only [bbs] at ht)) | (refine ⟨_, rfl, ?_⟩; (try simp only [tupOf])))) | refine wSkip ?_ | (refine wExit ?_; simp only [thenQ, blockQ, reduceIte, Nat.reduceEqDiff]) | refine wSeq ?_ | refine wBlock ?_)
        all_goals first
          | (exfalso; (try simp only [bbs] at *); omega)
          | skip
        rw [hj', List.drop_length, List.append_nil]
        constructor <;> first | trivial | rfl
    · refine ⟨0, by omega, rfl, ?_, rfl, hH0⟩
      simp only [upd_eq, Nat.reduceEqDiff, if_false]
      show AV.v (.int .i64 q) = _
      simp
  obtain ⟨⟨v, H'⟩, h1, rfl, rfl⟩ := key
  rw [call_raw Tryd.prog cfg0 Tryd.func10 rfl ok_markByteS rfl rfl, h1]
open Classical in
theorem cr_markByteS (l : List Int) (q : Int) (hl : l.length ≤ 281474976710656) (hk : 0 ≤ q ∧ q ≤ 4611686018427387904) : ∀ H b, call Tryd.prog cfg0 0 10 [.sl b 1 0 l.length, .v (.int .i64 q)] H =
    if H.h b = some (l.map cell) then some (.v (.int .i64 (q + l.length)), H.set b ((marksB q l.length).map cell)) else call' Tryd.prog cfg0 0 10 [.sl b 1 0 l.length, .v (.int .i64 q)] H := by
  intro H b
  split
  · exact cr_markE l q hl hk H b (by assumption)
  · rfl
theorem ok_lheldByteS : fnOk Tryd.prog cfg0 54 Tryd.f54 = true := by kernel_rfl
theorem p_lheldByteS (q : Int) (n : Nat) (hn : n ≤ 281474976710656) (hk : 0 ≤ q ∧ q ≤ 4611686018427387904) : pure Tryd.prog cfg0 54 Tryd.f54 [bytesL (marksB q n), .v (.int .i64 q)] = some (.v (.int .i64 (q + n)), true) := by
  refine pure_wp (rs := [.tmp 4]) rfl rfl ?_
  have hp0 : ∀ b, cfg0.pol 54 b = 0 := fun b => rfl
  have hml := marksB_length q n
  repeat' (first | ((first | refine wSeqr ?_ | refine wIf ?_ | refine wReg ?_ | (refine wRet ?_; (try simp only [thenQ, blockQ]); refine ends_by ?_)); intro xx hx; have hc := trivial; (repeat' (simp only [hc, Nat.reduceBEq, go_sem, Nat.reduceAdd, Nat.reduceMul, Nat.reduceSub, Nat.reduceEqDiff, Nat.reduceLT, Nat.reduceLeDiff, Int.reduceEq, Int.reduceLT, Int.reduceLE, reduceIte, aresults, aresult, hp0] at hx; (try (rw [guardL_if] at hx; split at hx <;> rename_i hc)))); all_goals (subst hx; first | (refine ⟨_, rfl, fun ht => ?_, fun ht => ?_⟩ <;> (try simp only [bbs] at ht)) | (refine ⟨_, rfl, ?_⟩; (try simp only [tupOf])))) | refine wSkip ?_ | (refine wExit ?_; simp only [thenQ, blockQ, reduceIte, Nat.reduceEqDiff]) | refine wSeq ?_ | refine wBlock ?_)
  refine wLoop (fun k s => ∃ (j : Nat), j + k = n ∧ s.1 0 = bytesL (marksB q n) ∧ s.1 1 = .v (.int .i64 (q + (j : Nat))) ∧ s.1 5 = .v (.int .i64 (j : Nat)) ∧ True) (fun k s hI => ?_) (n) _ ?_
  · obtain ⟨e, H⟩ := s
    obtain ⟨j, hj, h0, h1, h5, -⟩ := hI
    simp only at h0 h1 h5
    by_cases hlt : j < n
    · have hg : ((marksB q n).map fun z => [AV.v (.int .u8 z)])[j]? = some [.v (.int .u8 (IntKind.wrap .u8 (q + (j : Nat))))] := by rw [List.getElem?_map, marksB_at q n j hlt]; rfl
      have w1 : IntKind.wrap .i64 (q + (j : Nat) + 1) = q + ((j + 1 : Nat) : Int) := by rw [wrap_i64 (by omega) (by omega)]; omega
      repeat' (first | ((first | refine wSeqr ?_ | refine wIf ?_ | refine wReg ?_ | (refine wRet ?_; (try simp only [thenQ, blockQ]); refine ends_by ?_)); intro xx hx; have hc := trivial; (repeat' (simp only [hc, Nat.reduceBEq, go_sem, Nat.reduceAdd, Nat.reduceMul, Nat.reduceSub, Nat.reduceEqDiff, Nat.reduceLT, Nat.reduceLeDiff, Int.reduceEq, Int.reduceLT, Int.reduceLE, reduceIte, aresults, aresult, hp0, h0, h1, h5, conv_ib8, bytesL, cell, hg, hml, List.length_map, w1, wrap_succ (show j < 9223372036854775807 by omega)] at hx; (try (rw [guardL_if] at hx; split at hx <;> rename_i hc)))); all_goals (subst hx; first | (refine ⟨_, rfl, fun ht => ?_, fun ht => ?_⟩ <;> (try simp only [bbs] at ht)) | (refine ⟨_, rfl, ?_⟩; (try simp only [tupOf])))) | refine wSkip ?_ | (refine wExit ?_; simp only [thenQ, blockQ, reduceIte, Nat.reduceEqDiff]) | refine wSeq ?_ | refine wBlock ?_)
      all_goals first
        | (exfalso; (try simp only [bbs] at *); omega)
        | (exfalso; (try simp only [bbs] at *); exact absurd trivial (by assumption))
        | skip
      refine ⟨_, Nat.sub_lt (by omega) Nat.one_pos, j + 1, by omega, by simp only [upd_eq, Nat.reduceEqDiff, if_false, if_true, h0, h1, h5], by simp only [upd_eq, Nat.reduceEqDiff, if_false, if_true, h0, h1, h5], by simp only [upd_eq, Nat.reduceEqDiff, if_false, if_true, h0, h1, h5], trivial⟩
    · have hj' : j = n := by omega
      repeat' (first | ((first | refine wSeqr ?_ | refine wIf ?_ | refine wReg ?_ | (refine wRet ?_; (try simp only [thenQ, blockQ]); refine ends_by ?_)); intro xx hx; have hc := trivial; (repeat' (simp only [hc, Nat.reduceBEq, go_sem, Nat.reduceAdd, Nat.reduceMul, Nat.reduceSub, Nat.reduceEqDiff, Nat.reduceLT, Nat.reduceLeDiff, Int.reduceEq, Int.reduceLT, Int.reduceLE, reduceIte, aresults, aresult, hp0, h0, h1, h5, bytesL, hml, List.length_map] at hx; (try (rw [guardL_if] at hx; split at hx <;> rename_i hc)))); all_goals (subst hx; first | (refine ⟨_, rfl, fun ht => ?_, fun ht => ?_⟩ <;> (try simp only [bbs] at ht)) | (refine ⟨_, rfl, ?_⟩; (try simp only [tupOf])))) | refine wSkip ?_ | (refine wExit ?_; simp only [thenQ, blockQ, reduceIte, Nat.reduceEqDiff]) | refine wSeq ?_ | refine wBlock ?_)
      all_goals first
        | (exfalso; (try simp only [bbs] at *); omega)
        | skip
      rw [hj']; exact ⟨rfl, rfl⟩
  · refine ⟨0, by omega, rfl, ?_, rfl, trivial⟩
    simp only [upd_eq, Nat.reduceEqDiff, if_false]
    show AV.v (.int .i64 q) = _
    simp
theorem c_lheldByteS (q : Int) (n : Nat) (hn : n ≤ 281474976710656) (hk : 0 ≤ q ∧ q ≤ 4611686018427387904) : ∀ H, call Tryd.prog cfg0 0 54 [bytesL (marksB q n), .v (.int .i64 q)] H = some (.v (.int .i64 (q + n)), H) :=
  call_fz Tryd.func54 rfl ok_lheldByteS rfl (by simp only [fz_cons, fz_nil, go_sem, and_self]) (p_lheldByteS q n hn hk)

end
end Go.Proofs.YtnejoidfbgklbaaDoor
namespace Go.Proofs.YtnejoidfbgklbaaDoor
open Go Go.RowKit Go.Proofs.YtnejoidfbgklbaaDoor.Eng
set_option linter.unusedSimpArgs false
set_option linter.unusedVariables false
set_option maxRecDepth 100000
set_option maxHeartbeats 4000000
noncomputable section
theorem m_ByteS (l : List Int) (hk : l.length ≤ 1048576) {q : Int} (hq0 : 0 ≤ q ∧ q ≤ 9223372036852678655) {lo hi : Nat} {z : AV} {K : Hp} {r : Option (AV × Hp)} (hr : call Tryd.prog cfg0 0 10 [z, .v (.int .i64 q)] K = r) (hL : Laid K lo hi [bytesL l] [z]) (hg : hi ≤ K.g) :
    ∃ q' H', r = some (.v (.int .i64 q'), H') ∧ q ≤ q' ∧ q' ≤ q + (l.length : Nat) * 1 ∧ OutOf lo hi K H' := by
  subst hr
  have hl : l.length ≤ 1048576 := hk
  have key : ∃ r, body Tryd.prog cfg0 10 Tryd.f10 [z, .v (.int .i64 q)] K = some r ∧ (∃ q', r.1 = .v (.int .i64 q') ∧ q ≤ q' ∧ q' ≤ q + (l.length : Nat) * 1 ∧ OutOf lo hi K r.2) := by
    refine body_wp (rs := [.tmp 4]) rfl rfl (R := fun x H' => ∃ q', x = .v (.int .i64 q') ∧ q ≤ q' ∧ q' ≤ q + (l.length : Nat) * 1 ∧ OutOf lo hi K H') ?_
    have hp0 : ∀ b, cfg0.pol 10 b = 0 := fun b => rfl
    rcases hL.inv1 with ⟨he, rfl⟩ | ⟨b, sz, cs0, hne, rfl, hsz, hs, hb1, hb2, hly, hb0⟩
    · repeat' (first | ((first | refine wSeqr ?_ | refine wIf ?_ | refine wReg ?_ | (refine wRet ?_; (try simp only [thenQ, blockQ]); refine ends_by ?_)); intro xx hx; have hc := trivial; (repeat' (simp only [hc, Nat.reduceBEq, go_sem, Nat.reduceAdd, Nat.reduceMul, Nat.reduceSub, Nat.reduceEqDiff, Nat.reduceLT, Nat.reduceLeDiff, Int.reduceEq, Int.reduceLT, Int.reduceLE, reduceIte, aresults, aresult, hp0] at hx; (try (rw [guardL_if] at hx; split at hx <;> rename_i hc)))); all_goals (subst hx; first | (refine ⟨_, rfl, fun ht => ?_, fun ht => ?_⟩ <;> (try simp only [bbs] at ht)) | (refine ⟨_, rfl, ?_⟩; (try simp only [tupOf])))) | refine wSkip ?_ | (refine wExit ?_; simp only [thenQ, blockQ, reduceIte, Nat.reduceEqDiff]) | refine wSeq ?_ | refine wBlock ?_)
      refine wLoop (fun n s => s.1 0 = .lst false [] ∧ s.1 1 = .v (.int .i64 q) ∧ s.1 5 = .v (.int .i64 0) ∧ s.2 = K) (fun n s hI => ?_) 0 _ ⟨rfl, rfl, rfl, rfl⟩
      obtain ⟨e, H1⟩ := s
      obtain ⟨h0, h1, h5, hH⟩ := hI
      simp only at h0 h1 h5 hH
      repeat' (first | ((first | refine wSeqr ?_ | refine wIf ?_ | refine wReg ?_ | (refine wRet ?_; (try simp only [thenQ, blockQ]); refine ends_by ?_)); intro xx hx; have hc := trivial; (repeat' (simp only [hc, Nat.reduceBEq, go_sem, Nat.reduceAdd, Nat.reduceMul, Nat.reduceSub, Nat.reduceEqDiff, Nat.reduceLT, Nat.reduceLeDiff, Int.reduceEq, Int.reduceLT, Int.reduceLE, reduceIte, aresults, aresult, hp0, h0, h1, h5, List.length_nil] at hx; (try (rw [guardL_if] at hx; split at hx <;> rename_i hc)))); all_goals (subst hx; first | (refine ⟨_, rfl, fun ht => ?_, fun ht => ?_⟩ <;> (try simp only [bbs] at ht)) | (refine ⟨_, rfl, ?_⟩; (try simp only [tupOf])))) | refine wSkip ?_ | (refine wExit ?_; simp only [thenQ, blockQ, reduceIte, Nat.reduceEqDiff]) | refine wSeq ?_ | refine wBlock ?_)
      all_goals first
        | (exfalso; (try simp only [bbs] at *); simp at *; done)
        | (subst hH; exact ⟨q, rfl, by omega, by omega, OutOf.refl _ _ _⟩)
    · have hrl : (l.map fun z => [cell z]).length = l.length := List.length_map ..
      have hszv : sz = 1 := by
        cases l with
        | nil => exact absurd rfl hne
        | cons a l => exact (hs _ (List.mem_cons_self ..)).symm
      subst hszv
      rw [hrl]
      have hcl0 : cs0.length = l.length * 1 := by rw [hly.len, flat_len 1 _ hs, hrl]
      repeat' (first | ((first | refine wSeqr ?_ | refine wIf ?_ | refine wReg ?_ | (refine wRet ?_; (try simp only [thenQ, blockQ]); refine ends_by ?_)); intro xx hx; have hc := trivial; (repeat' (simp only [hc, Nat.reduceBEq, go_sem, Nat.reduceAdd, Nat.reduceMul, Nat.reduceSub, Nat.reduceEqDiff, Nat.reduceLT, Nat.reduceLeDiff, Int.reduceEq, Int.reduceLT, Int.reduceLE, reduceIte, aresults, aresult, hp0] at hx; (try (rw [guardL_if] at hx; split at hx <;> rename_i hc)))); all_goals (subst hx; first | (refine ⟨_, rfl, fun ht => ?_, fun ht => ?_⟩ <;> (try simp only [bbs] at ht)) | (refine ⟨_, rfl, ?_⟩; (try simp only [tupOf])))) | refine wSkip ?_ | (refine wExit ?_; simp only [thenQ, blockQ, reduceIte, Nat.reduceEqDiff]) | refine wSeq ?_ | refine wBlock ?_)
      refine wLoop (fun k s => ∃ (j : Nat) (q1 : Int), j + k = l.length ∧ s.1 0 = .sl b 1 0 l.length ∧ s.1 1 = .v (.int .i64 q1) ∧ s.1 5 = .v (.int .i64 (j : Nat)) ∧ (∃ cs, s.2.h b = some cs ∧ cs.length = l.length * 1 ∧ (q ≤ q1 ∧ q1 ≤ q + (j : Nat) * 1) ∧ OutOf lo hi K s.2)) (fun k s hI => ?_) (l.length) _ ?_
      · obtain ⟨e, H⟩ := s
        obtain ⟨j, q1, hj, h0, h1, h5, hh⟩ := hI
        simp only at h0 h1 h5 hh
        obtain ⟨cs, hb, hcl, hq1, hout⟩ := hh
        by_cases hlt : j < l.length
        · have w1 : IntKind.wrap .i64 (q1 + 1) = q1 + 1 := wrap_i64 (by omega) (by omega)
          have hle0 : j + 1 ≤ l.length := by omega
          have hcl1 : cs.length = l.length := by omega
          repeat' (first | ((first | refine wSeqr ?_ | refine wIf ?_ | refine wReg ?_ | (refine wRet ?_; (try simp only [thenQ, blockQ]); refine ends_by ?_)); intro xx hx; have hc := trivial; (repeat' (simp only [hc, Nat.reduceBEq, go_sem, Nat.reduceAdd, Nat.reduceMul, Nat.reduceSub, Nat.reduceEqDiff, Nat.reduceLT, Nat.reduceLeDiff, Int.reduceEq, Int.reduceLT, Int.reduceLE, reduceIte, aresults, aresult, hp0, h0, h1, h5, conv_ib8, hb, hcl1, hlt, Option.isSome_some, hle0, w1, wrap_succ (show j < 9223372036854775807 by omega)] at hx; (try (rw [guardL_if] at hx; split at hx <;> rename_i hc)))); all_goals (subst hx; first | (refine ⟨_, rfl, fun ht => ?_, fun ht => ?_⟩ <;> (try simp only [bbs] at ht)) | (refine ⟨_, rfl, ?_⟩; (try simp only [tupOf])))) | refine wSkip ?_ | (refine wExit ?_; simp only [thenQ, blockQ, reduceIte, Nat.reduceEqDiff]) | refine wSeq ?_ | refine wBlock ?_)
          all_goals first
            | (exfalso; (try simp only [bbs] at *); omega)
            | skip
          refine ⟨_, Nat.sub_lt (by omega) Nat.one_pos, j + 1, q1 + 1, by omega, by simp only [upd_eq, Nat.reduceEqDiff, if_false, if_true, h0, h1, h5], by simp only [upd_eq, Nat.reduceEqDiff, if_false, if_true, h0, h1, h5], by simp only [upd_eq, Nat.reduceEqDiff, if_false, if_true, h0, h1, h5], ?_⟩
          refine ⟨_, by simp only [Hp.set_h, if_true]; rfl, by simp only [List.length_set]; exact hcl, ⟨by omega, by omega⟩, hout.set hb1 hb2⟩
        · repeat' (first | ((first | refine wSeqr ?_ | refine wIf ?_ | refine wReg ?_ | (refine wRet ?_; (try simp only [thenQ, blockQ]); refine ends_by ?_)); intro xx hx; have hc := trivial; (repeat' (simp only [hc, Nat.reduceBEq, go_sem, Nat.reduceAdd, Nat.reduceMul, Nat.reduceSub, Nat.reduceEqDiff, Nat.reduceLT, Nat.reduceLeDiff, Int.reduceEq, Int.reduceLT, Int.reduceLE, reduceIte, aresults, aresult, hp0, h0, h1, h5] at hx; (try (rw [guardL_if] at hx; split at hx <;> rename_i hc)))); all_goals (subst hx; first | (refine ⟨_, rfl, fun ht => ?_, fun ht => ?_⟩ <;> (try simp only [bbs] at ht)) | (refine ⟨_, rfl, ?_⟩; (try simp only [tupOf])))) | refine wSkip ?_ | (refine wExit ?_; simp only [thenQ, blockQ, reduceIte, Nat.reduceEqDiff]) | refine wSeq ?_ | refine wBlock ?_)
          all_goals first
            | (exfalso; (try simp only [bbs] at *); omega)
            | skip
          exact ⟨q1, rfl, by omega, by omega, hout⟩
      · refine ⟨0, q, by omega, rfl, rfl, rfl, ?_⟩
        exact ⟨cs0, hb0, hcl0, ⟨by omega, by omega⟩, OutOf.refl _ _ _⟩
  obtain ⟨⟨v, H'⟩, h1, q', rfl, h2, h3, h4⟩ := key
  exact ⟨q', H', by rw [call_raw Tryd.prog cfg0 Tryd.func10 rfl ok_markByteS rfl rfl, h1], h2, h3, h4⟩
theorem ok_markClaimS : fnOk Tryd.prog cfg0 19 Tryd.f19 = true := by kernel_rfl
theorem m_ClaimS (l : List ClaimM) (hk : l.length ≤ 1048576 ∧ ∀ x ∈ l, x.ok 1048576) {q : Int} (hq0 : 0 ≤ q ∧ q ≤ 9223372036849532927) {lo hi : Nat} {z : AV} {K : Hp} {r : Option (AV × Hp)} (hr : call Tryd.prog cfg0 0 19 [z, .v (.int .i64 q)] K = r) (hL : Laid K lo hi [.lst false (l.map encClaim)] [z]) (hg : hi ≤ K.g) :
    ∃ q' H', r = some (.v (.int .i64 q'), H') ∧ q ≤ q' ∧ q' ≤ q + (l.length : Nat) * 4 ∧ OutOf lo hi K H' := by
  subst hr
  have hl : l.length ≤ 1048576 := hk.1
  have key : ∃ r, body Tryd.prog cfg0 19 Tryd.f19 [z, .v (.int .i64 q)] K = some r ∧ (∃ q', r.1 = .v (.int .i64 q') ∧ q ≤ q' ∧ q' ≤ q + (l.length : Nat) * 4 ∧ OutOf lo hi K r.2) := by
    refine body_wp (rs := [.tmp 4]) rfl rfl (R := fun x H' => ∃ q', x = .v (.int .i64 q') ∧ q ≤ q' ∧ q' ≤ q + (l.length : Nat) * 4 ∧ OutOf lo hi K H') ?_
    have hp0 : ∀ b, cfg0.pol 19 b = 0 := fun b => rfl
    rcases hL.inv1 with ⟨he, rfl⟩ | ⟨b, sz, cs0, hne, rfl, hsz, hs, hb1, hb2, hly, hb0⟩
    · repeat' (first | ((first | refine wSeqr ?_ | refine wIf ?_ | refine wReg ?_ | (refine wRet ?_; (try simp only [thenQ, blockQ]); refine ends_by ?_)); intro xx hx; have hc := trivial; (repeat' (simp only [hc, Nat.reduceBEq, go_sem, Nat.reduceAdd, Nat.reduceMul, Nat.reduceSub, Nat.reduceEqDiff, Nat.reduceLT, Nat.reduceLeDiff, Int.reduceEq, Int.reduceLT, Int.reduceLE, reduceIte, aresults, aresult, hp0] at hx; (try (rw [guardL_if] at hx; split at hx <;> rename_i hc)))); all_goals (subst hx; first | (refine ⟨_, rfl, fun ht => ?_, fun ht => ?_⟩ <;> (try simp only [bbs] at ht)) | (refine ⟨_, rfl, ?_⟩; (try simp only [tupOf])))) | refine wSkip ?_ | (refine wExit ?_; simp only [thenQ, blockQ, reduceIte, Nat.reduceEqDiff]) | refine wSeq ?_ | refine wBlock ?_)
      refine wLoop (fun n s => s.1 0 = .lst false [] ∧ s.1 1 = .v (.int .i64 q) ∧ s.1 5 = .v (.int .i64 0) ∧ s.2 = K) (fun n s hI => ?_) 0 _ ⟨rfl, rfl, rfl, rfl⟩
      obtain ⟨e, H1⟩ := s
      obtain ⟨h0, h1, h5, hH⟩ := hI
      simp only at h0 h1 h5 hH
      repeat' (first | ((first | refine wSeqr ?_ | refine wIf ?_ | refine wReg ?_ | (refine wRet ?_; (try simp only [thenQ, blockQ]); refine ends_by ?_)); intro xx hx; have hc := trivial; (repeat' (simp only [hc, Nat.reduceBEq, go_sem, Nat.reduceAdd, Nat.reduceMul, Nat.reduceSub, Nat.reduceEqDiff, Nat.reduceLT, Nat.reduceLeDiff, Int.reduceEq, Int.reduceLT, Int.reduceLE, reduceIte, aresults, aresult, hp0, h0, h1, h5, List.length_nil] at hx; (try (rw [guardL_if] at hx; split at hx <;> rename_i hc)))); all_goals (subst hx; first | (refine ⟨_, rfl, fun ht => ?_, fun ht => ?_⟩ <;> (try simp only [bbs] at ht)) | (refine ⟨_, rfl, ?_⟩; (try simp only [tupOf])))) | refine wSkip ?_ | (refine wExit ?_; simp only [thenQ, blockQ, reduceIte, Nat.reduceEqDiff]) | refine wSeq ?_ | refine wBlock ?_)
      all_goals first
        | (exfalso; (try simp only [bbs] at *); simp at *; done)
        | (subst hH; exact ⟨q, rfl, by omega, by omega, OutOf.refl _ _ _⟩)
    · have hrl : (l.map encClaim).length = l.length := List.length_map ..
      have hszv : sz = 4 := by
        cases l with
        | nil => exact absurd rfl hne
        | cons a l => exact (hs _ (List.mem_cons_self ..)).symm
      subst hszv
      rw [hrl]
      have hcl0 : cs0.length = l.length * 4 := by rw [hly.len, flat_len 4 _ hs, hrl]
      repeat' (first | ((first | refine wSeqr ?_ | refine wIf ?_ | refine wReg ?_ | (refine wRet ?_; (try simp only [thenQ, blockQ]); refine ends_by ?_)); intro xx hx; have hc := trivial; (repeat' (simp only [hc, Nat.reduceBEq, go_sem, Nat.reduceAdd, Nat.reduceMul, Nat.reduceSub, Nat.reduceEqDiff, Nat.reduceLT, Nat.reduceLeDiff, Int.reduceEq, Int.reduceLT, Int.reduceLE, reduceIte, aresults, aresult, hp0] at hx; (try (rw [guardL_if] at hx; split at hx <;> rename_i hc)))); all_goals (subst hx; first | (refine ⟨_, rfl, fun ht => ?_, fun ht => ?_⟩ <;> (try simp only [bbs] at ht)) | (refine ⟨_, rfl, ?_⟩; (try simp only [tupOf])))) | refine wSkip ?_ | (refine wExit ?_; simp only [thenQ, blockQ, reduceIte, Nat.reduceEqDiff]) | refine wSeq ?_ | refine wBlock ?_)
      refine wLoop (fun k s => ∃ (j : Nat) (q1 : Int), j + k = l.length ∧ s.1 0 = .sl b 4 0 l.length ∧ s.1 1 = .v (.int .i64 q1) ∧ s.1 5 = .v (.int .i64 (j : Nat)) ∧ (∃ cs mid, s.2.h b = some cs ∧ cs.length = l.length * 4 ∧ (q ≤ q1 ∧ q1 ≤ q + (j : Nat) * 4) ∧ lo ≤ mid ∧ Laid s.2 mid b ((l.drop j).map encClaim).flatten (cs.drop (j * 4)) ∧ OutOf lo hi K s.2)) (fun k s hI => ?_) (l.length) _ ?_
      · obtain ⟨e, H⟩ := s
        obtain ⟨j, q1, hj, h0, h1, h5, hh⟩ := hI
        simp only at h0 h1 h5 hh
        obtain ⟨cs, mid, hb, hcl, hq1, hmid, hly, hout⟩ := hh
        by_cases hlt : j < l.length
        · obtain ⟨k, hgk, hd, hm⟩ := at_drop hlt
          have hkk := hk.2 k hm
          rw [hd, List.map_cons, List.flatten_cons] at hly
          obtain ⟨m2, r1, r2, hcs, hy1, hy2⟩ := Laid.split (encClaim k) hly
          have e1 := hy1.le
          have e2 := hy2.le
          have hG := hout.1
          have hr1 : r1.length = 4 := hy1.len
          have f0 := hy1
          simp only [encClaim] at f0
          obtain ⟨t0, rfl, f1⟩ := f0.invV
          obtain ⟨t1, rfl, f2⟩ := f1.invV
          obtain ⟨t2, rfl, f3⟩ := f2.invV
          obtain ⟨t3, rfl, f4⟩ := f3.invV
          obtain rfl := f4.invN
          have le0 : j * 4 + 1 ≤ l.length * 4 := by omega
          have le1 : j * 4 + 2 ≤ l.length * 4 := by omega
          have le2 : j * 4 + 3 ≤ l.length * 4 := by omega
          have le3 : j * 4 + 4 ≤ l.length * 4 := by omega
          have w1 : IntKind.wrap .i64 (q1 + 1) = q1 + 1 := wrap_i64 (by omega) (by omega)
          have w2 : IntKind.wrap .i64 ((q1 + 1) + 1) = (q1 + 1) + 1 := wrap_i64 (by omega) (by omega)
          have w3 : IntKind.wrap .i64 (((q1 + 1) + 1) + 1) = ((q1 + 1) + 1) + 1 := wrap_i64 (by omega) (by omega)
          have w4 : IntKind.wrap .i64 ((((q1 + 1) + 1) + 1) + 1) = (((q1 + 1) + 1) + 1) + 1 := wrap_i64 (by omega) (by omega)
          have hr2 : cs.drop ((j + 1) * 4) = r2 := by rw [show (j + 1) * 4 = j * 4 + 4 by omega]; exact row_rest hcs rfl
          repeat' (first | ((first | refine wSeqr ?_ | refine wIf ?_ | refine wReg ?_ | (refine wRet ?_; (try simp only [thenQ, blockQ]); refine ends_by ?_)); intro xx hx; have hc := trivial; (repeat' (simp only [hc, Nat.reduceBEq, go_sem, Nat.reduceAdd, Nat.reduceMul, Nat.reduceSub, Nat.reduceEqDiff, Nat.reduceLT, Nat.reduceLeDiff, Int.reduceEq, Int.reduceLT, Int.reduceLE, reduceIte, aresults, aresult, hp0, h0, h1, h5, hcl, hlt, Option.isSome_some, List.length_set, wrap_succ (show j < 9223372036854775807 by omega), le0, le1, le2, le3, hb, w1, w2, w3, w4] at hx; (try (rw [guardL_if] at hx; split at hx <;> rename_i hc)))); all_goals (subst hx; first | (refine ⟨_, rfl, fun ht => ?_, fun ht => ?_⟩ <;> (try simp only [bbs] at ht)) | (refine ⟨_, rfl, ?_⟩; (try simp only [tupOf])))) | refine wSkip ?_ | (refine wExit ?_; simp only [thenQ, blockQ, reduceIte, Nat.reduceEqDiff]) | refine wSeq ?_ | refine wBlock ?_)
          all_goals first
            | (exfalso; (try simp only [bbs] at *); omega)
            | skip
          refine ⟨_, Nat.sub_lt (by omega) Nat.one_pos, j + 1, ((((q1 + 1) + 1) + 1) + 1), by omega, by simp only [upd_eq, Nat.reduceEqDiff, if_false, if_true, h0, h1, h5], by simp only [upd_eq, Nat.reduceEqDiff, if_false, if_true, h0, h1, h5], by simp only [upd_eq, Nat.reduceEqDiff, if_false, if_true, h0, h1, h5], ?_⟩
          refine ⟨_, m2, by simp only [Hp.set_h, if_true, hb]; rfl, by simp only [List.length_set]; exact hcl, ⟨by omega, by omega⟩, by omega, ?_, ?_⟩
          · repeat rw [drop_set (by omega)]
            rw [hr2]
            exact hy2.reg (by repeat first | exact InReg.refl _ _ _ | refine InReg.set (by omega) ?_)
          · repeat first | exact hout | refine OutOf.set ?_ hb1 hb2
        · repeat' (first | ((first | refine wSeqr ?_ | refine wIf ?_ | refine wReg ?_ | (refine wRet ?_; (try simp only [thenQ, blockQ]); refine ends_by ?_)); intro xx hx; have hc := trivial; (repeat' (simp only [hc, Nat.reduceBEq, go_sem, Nat.reduceAdd, Nat.reduceMul, Nat.reduceSub, Nat.reduceEqDiff, Nat.reduceLT, Nat.reduceLeDiff, Int.reduceEq, Int.reduceLT, Int.reduceLE, reduceIte, aresults, aresult, hp0, h0, h1, h5] at hx; (try (rw [guardL_if] at hx; split at hx <;> rename_i hc)))); all_goals (subst hx; first | (refine ⟨_, rfl, fun ht => ?_, fun ht => ?_⟩ <;> (try simp only [bbs] at ht)) | (refine ⟨_, rfl, ?_⟩; (try simp only [tupOf])))) | refine wSkip ?_ | (refine wExit ?_; simp only [thenQ, blockQ, reduceIte, Nat.reduceEqDiff]) | refine wSeq ?_ | refine wBlock ?_)
          all_goals first
            | (exfalso; (try simp only [bbs] at *); omega)
            | skip
          exact ⟨q1, rfl, by omega, by omega, hout⟩
      · refine ⟨0, q, by omega, rfl, rfl, rfl, ?_⟩
        exact ⟨cs0, lo, hb0, hcl0, ⟨by omega, by omega⟩, by omega, hly, OutOf.refl _ _ _⟩
  obtain ⟨⟨v, H'⟩, h1, q', rfl, h2, h3, h4⟩ := key
  exact ⟨q', H', by rw [call_raw Tryd.prog cfg0 Tryd.func19 rfl ok_markClaimS rfl rfl, h1], h2, h3, h4⟩
end
end Go.Proofs.YtnejoidfbgklbaaDoor
namespace Go.Proofs.YtnejoidfbgklbaaDoor
open Go Go.RowKit Go.Proofs.YtnejoidfbgklbaaDoor.Eng
set_option linter.unusedSimpArgs false
set_option linter.unusedVariables false
set_option maxRecDepth 100000
noncomputable section
theorem ClaimM.okS {N M : Nat} {k : ClaimM} (h : k.ok N) : k.ok M := h
theorem ok_lszClaimS : fnOk Tryd.prog cfg0 13 Tryd.f13 = true := by kernel_rfl
theorem s_lszClaimS (l : List ClaimM) (n : Int) (hk : l.length ≤ 140737488351232 ∧ ∀ x ∈ l, x.ok 140737488351232) (hn : 0 ≤ n ∧ n ≤ 1048576) : ∃ m : Int, -1 ≤ m ∧ m ≤ n ∧ (0 ≤ m → l.length ≤ 1048576 ∧ ∀ x ∈ l, x.ok 1048576) ∧ ∀ H, call Tryd.prog cfg0 0 13 [.lst false (l.map encClaim), .v (.int .i64 n)] H = some (.v (.int .i64 m), H) := by
  have hl := hk.1
  have hw : IntKind.wrap .i64 (n - l.length) = n - l.length := wrap_i64 (by omega) (by omega)
  have key : ∃ v cl, (∃ m : Int, v = .v (.int .i64 m) ∧ -1 ≤ m ∧ m ≤ n ∧ (0 ≤ m → l.length ≤ 1048576 ∧ ∀ x ∈ l, x.ok 1048576)) ∧ pure Tryd.prog cfg0 13 Tryd.f13 [.lst false (l.map encClaim), .v (.int .i64 n)] = some (v, cl) := by
    refine pure_ex (rs := [.tmp 4]) rfl rfl ?_
    have hp0 : ∀ b, cfg0.pol 13 b = 0 := fun b => rfl
    repeat' (first | ((first | refine wSeqr ?_ | refine wIf ?_ | refine wReg ?_ | (refine wRet ?_; (try simp only [thenQ, blockQ]); refine ends_by ?_)); intro xx hx; have hc := trivial; (repeat' (simp only [hc, Nat.reduceBEq, go_sem, Nat.reduceAdd, Nat.reduceMul, Nat.reduceSub, Nat.reduceEqDiff, Nat.reduceLT, Nat.reduceLeDiff, Int.reduceEq, Int.reduceLT, Int.reduceLE, reduceIte, aresults, aresult, hw, List.length_map] at hx; (try (rw [guardL_if] at hx; split at hx <;> rename_i hc)))); all_goals (subst hx; first | (refine ⟨_, rfl, fun ht => ?_, fun ht => ?_⟩ <;> (try simp only [bbs] at ht)) | (refine ⟨_, rfl, ?_⟩; (try simp only [tupOf])))) | refine wSkip ?_ | (refine wExit ?_; simp only [thenQ, blockQ, reduceIte, Nat.reduceEqDiff]) | refine wSeq ?_ | refine wBlock ?_)
    · exact ⟨_, _, ⟨-1, rfl, by omega, by omega, by omega⟩, rfl, rfl⟩
    exact ⟨_, _, ⟨n - l.length, rfl, by omega, by omega, fun _ => ⟨by omega, fun x hx => ClaimM.okS (hk.2 x hx)⟩⟩, rfl, rfl⟩
  obtain ⟨v, cl, ⟨m, rfl, h1, h2, h3⟩, hp⟩ := key
  exact ⟨m, h1, h2, h3, fun H => call_fz Tryd.func13 rfl ok_lszClaimS rfl (by simp only [fz_cons, fz_nil, go_sem, and_self]) hp H⟩
theorem ok_leqClaim : fnOk Tryd.prog cfg0 53 Tryd.f53 = true := by kernel_rfl
theorem p_leqClaim (k : ClaimM) (hk : k.ok 1048576) : pure Tryd.prog cfg0 53 Tryd.f53 [.agg [.v (.int .i64 k.Node), .v (.int .i64 k.Inc), .v (.int .i64 k.Status), .v (.int .i64 k.Meta)], .agg [.v (.int .i64 k.Node), .v (.int .i64 k.Inc), .v (.int .i64 k.Status), .v (.int .i64 k.Meta)]] = some (.v (.bool true), true) := by
  refine pure_wp (rs := [.tmp 4]) rfl rfl ?_
  have hp0 : ∀ b, cfg0.pol 53 b = 0 := fun b => rfl
  repeat' (first | ((first | refine wSeqr ?_ | refine wIf ?_ | refine wReg ?_ | (refine wRet ?_; (try simp only [thenQ, blockQ]); refine ends_by ?_)); intro xx hx; have hc := trivial; (repeat' (simp only [hc, Nat.reduceBEq, go_sem, Nat.reduceAdd, Nat.reduceMul, Nat.reduceSub, Nat.reduceEqDiff, Nat.reduceLT, Nat.reduceLeDiff, Int.reduceEq, Int.reduceLT, Int.reduceLE, reduceIte, aresults, aresult, hp0, decide_true, decide_false, not_true_eq_false, beq_self_eq_true, Bool.not_true] at hx; (try (rw [guardL_if] at hx; split at hx <;> rename_i hc)))); all_goals (subst hx; first | (refine ⟨_, rfl, fun ht => ?_, fun ht => ?_⟩ <;> (try simp only [bbs] at ht)) | (refine ⟨_, rfl, ?_⟩; (try simp only [tupOf])))) | refine wSkip ?_ | (refine wExit ?_; simp only [thenQ, blockQ, reduceIte, Nat.reduceEqDiff]) | refine wSeq ?_ | refine wBlock ?_)
  exact ⟨rfl, rfl⟩
theorem c_leqClaim (k : ClaimM) (hk : k.ok 1048576) : ∀ H, call Tryd.prog cfg0 0 53 [.agg [.v (.int .i64 k.Node), .v (.int .i64 k.Inc), .v (.int .i64 k.Status), .v (.int .i64 k.Meta)], .agg [.v (.int .i64 k.Node), .v (.int .i64 k.Inc), .v (.int .i64 k.Status), .v (.int .i64 k.Meta)]] H = some (.v (.bool true), H) :=
  call_fz Tryd.func53 rfl ok_leqClaim rfl (by simp only [fz_cons, fz_nil, go_sem, and_self]) (p_leqClaim k hk)

theorem ok_leqClaimS : fnOk Tryd.prog cfg0 18 Tryd.f18 = true := by kernel_rfl
theorem p_leqClaimS (l : List ClaimM) (hk : l.length ≤ 1048576 ∧ ∀ x ∈ l, x.ok 1048576) : pure Tryd.prog cfg0 18 Tryd.f18 [.lst false (l.map encClaim), .lst false (l.map encClaim)] = some (.v (.bool true), true) := by
  refine pure_wp (rs := [.tmp 4]) rfl rfl ?_
  have hp0 : ∀ b, cfg0.pol 18 b = 0 := fun b => rfl
  have hl := hk.1
  repeat' (first | ((first | refine wSeqr ?_ | refine wIf ?_ | refine wReg ?_ | (refine wRet ?_; (try simp only [thenQ, blockQ]); refine ends_by ?_)); intro xx hx; have hc := trivial; (repeat' (simp only [hc, Nat.reduceBEq, go_sem, Nat.reduceAdd, Nat.reduceMul, Nat.reduceSub, Nat.reduceEqDiff, Nat.reduceLT, Nat.reduceLeDiff, Int.reduceEq, Int.reduceLT, Int.reduceLE, reduceIte, aresults, aresult, List.length_map, decide_true, decide_false, not_true_eq_false] at hx; (try (rw [guardL_if] at hx; split at hx <;> rename_i hc)))); all_goals (subst hx; first | (refine ⟨_, rfl, fun ht => ?_, fun ht => ?_⟩ <;> (try simp only [bbs] at ht)) | (refine ⟨_, rfl, ?_⟩; (try simp only [tupOf])))) | refine wSkip ?_ | (refine wExit ?_; simp only [thenQ, blockQ, reduceIte, Nat.reduceEqDiff]) | refine wSeq ?_ | refine wBlock ?_)
  refine wLoop (fun k s => ∃ (j : Nat), j + k = l.length ∧ s.1 0 = .lst false (l.map encClaim) ∧ s.1 1 = .lst false (l.map encClaim) ∧ s.1 5 = .v (.int .i64 (j : Nat)) ∧ True) (fun k s hI => ?_) (l.length) _ ?_
  · obtain ⟨e, H⟩ := s
    obtain ⟨j, hj, h0, h1, h5, -⟩ := hI
    simp only at h0 h1 h5
    repeat' (first | ((first | refine wSeqr ?_ | refine wIf ?_ | refine wReg ?_ | (refine wRet ?_; (try simp only [thenQ, blockQ]); refine ends_by ?_)); intro xx hx; have hc := trivial; (repeat' (simp only [hc, Nat.reduceBEq, go_sem, Nat.reduceAdd, Nat.reduceMul, Nat.reduceSub, Nat.reduceEqDiff, Nat.reduceLT, Nat.reduceLeDiff, Int.reduceEq, Int.reduceLT, Int.reduceLE, reduceIte, aresults, aresult, h0, h5, List.length_map] at hx; (try (rw [guardL_if] at hx; split at hx <;> rename_i hc)))); all_goals (subst hx; first | (refine ⟨_, rfl, fun ht => ?_, fun ht => ?_⟩ <;> (try simp only [bbs] at ht)) | (refine ⟨_, rfl, ?_⟩; (try simp only [tupOf])))) | refine wSkip ?_ | (refine wExit ?_; simp only [thenQ, blockQ, reduceIte, Nat.reduceEqDiff]) | refine wSeq ?_ | refine wBlock ?_)
    · have hlt : j < l.length := by omega
      obtain ⟨k, hg, hd, hm⟩ := at_drop hlt
      have hg' := map_at (f := encClaim) hg
      repeat' (first | ((first | refine wSeqr ?_ | refine wIf ?_ | refine wReg ?_ | (refine wRet ?_; (try simp only [thenQ, blockQ]); refine ends_by ?_)); intro xx hx; have hc := trivial; (repeat' (simp only [hc, Nat.reduceBEq, go_sem, Nat.reduceAdd, Nat.reduceMul, Nat.reduceSub, Nat.reduceEqDiff, Nat.reduceLT, Nat.reduceLeDiff, Int.reduceEq, Int.reduceLT, Int.reduceLE, reduceIte, aresults, aresult, h0, h1, h5, hg', hp0, c_leqClaim k (hk.2 k hm), Bool.not_true, wrap_succ (show j < 9223372036854775807 by omega)] at hx; (try (rw [guardL_if] at hx; split at hx <;> rename_i hc)))); all_goals (subst hx; first | (refine ⟨_, rfl, fun ht => ?_, fun ht => ?_⟩ <;> (try simp only [bbs] at ht)) | (refine ⟨_, rfl, ?_⟩; (try simp only [tupOf])))) | refine wSkip ?_ | (refine wExit ?_; simp only [thenQ, blockQ, reduceIte, Nat.reduceEqDiff]) | refine wSeq ?_ | refine wBlock ?_)
      refine ⟨_, Nat.sub_lt (by omega) Nat.one_pos, j + 1, by omega, by simp only [upd_eq, Nat.reduceEqDiff, if_false, if_true, h0, h1, h5], by simp only [upd_eq, Nat.reduceEqDiff, if_false, if_true, h0, h1, h5], by simp only [upd_eq, Nat.reduceEqDiff, if_false, if_true, h0, h1, h5], trivial⟩
    · repeat' (first | ((first | refine wSeqr ?_ | refine wIf ?_ | refine wReg ?_ | (refine wRet ?_; (try simp only [thenQ, blockQ]); refine ends_by ?_)); intro xx hx; have hc := trivial; (repeat' (simp only [hc, Nat.reduceBEq, go_sem, Nat.reduceAdd, Nat.reduceMul, Nat.reduceSub, Nat.reduceEqDiff, Nat.reduceLT, Nat.reduceLeDiff, Int.reduceEq, Int.reduceLT, Int.reduceLE, reduceIte, aresults, aresult] at hx; (try (rw [guardL_if] at hx; split at hx <;> rename_i hc)))); all_goals (subst hx; first | (refine ⟨_, rfl, fun ht => ?_, fun ht => ?_⟩ <;> (try simp only [bbs] at ht)) | (refine ⟨_, rfl, ?_⟩; (try simp only [tupOf])))) | refine wSkip ?_ | (refine wExit ?_; simp only [thenQ, blockQ, reduceIte, Nat.reduceEqDiff]) | refine wSeq ?_ | refine wBlock ?_)
      exact ⟨rfl, rfl⟩
  · refine ⟨0, by omega, rfl, rfl, rfl, trivial⟩
theorem c_leqClaimS (l : List ClaimM) (hk : l.length ≤ 1048576 ∧ ∀ x ∈ l, x.ok 1048576) : ∀ H, call Tryd.prog cfg0 0 18 [.lst false (l.map encClaim), .lst false (l.map encClaim)] H = some (.v (.bool true), H) :=
  call_fz Tryd.func18 rfl ok_leqClaimS rfl (by simp only [fz_cons, fz_nil, go_sem, and_self]) (p_leqClaimS l hk)

end
end Go.Proofs.YtnejoidfbgklbaaDoor
namespace Go.Proofs.YtnejoidfbgklbaaDoor
open Go Go.RowKit Go.Proofs.YtnejoidfbgklbaaDoor.Eng
set_option linter.unusedSimpArgs false
set_option linter.unusedVariables false
set_option maxRecDepth 100000
noncomputable section
theorem fz_ib (c : Int) (l : List Int) : Fz depthD (.agg [.v (.int .i64 c), bytesL l]) := fz_b c l
theorem gives_sl {H : Hp} {c : Int} {l : List Int} {b : Nat} (hb : H.h b = some (l.map cell)) : GivesO (.agg [.v (.int .i64 c), bytesL l]) (.agg [.v (.int .i64 c), .sl b 1 0 l.length]) H := by
  refine gF_O (gF_agg (n := 10) (gF_bytes (n := 9) hb rfl) [.v (.int .i64 c)] ?_)
  intro z hz
  simp only [List.mem_cons, List.not_mem_nil, or_false] at hz
  rcases hz with rfl; exact ⟨_, rfl, plain_int _ _⟩
theorem ok_leqB : fnOk Tryd.prog cfg0 9 Tryd.f9 = true := by kernel_rfl
theorem p_leqB (a b : List Int) (hl : a.length ≤ 1048576) : pure Tryd.prog cfg0 9 Tryd.f9 [bytesL a, bytesL b] = some (.v (.bool (decide (a = b))), true) := by
  refine pure_wp (rs := [.tmp 4]) rfl rfl ?_
  have hp0 : ∀ b, cfg0.pol 9 b = 0 := fun b => rfl
  repeat' (first | ((first | refine wSeqr ?_ | refine wIf ?_ | refine wReg ?_ | (refine wRet ?_; (try simp only [thenQ, blockQ]); refine ends_by ?_)); intro xx hx; have hc := trivial; (repeat' (simp only [hc, Nat.reduceBEq, go_sem, Nat.reduceAdd, Nat.reduceMul, Nat.reduceSub, Nat.reduceEqDiff, Nat.reduceLT, Nat.reduceLeDiff, Int.reduceEq, Int.reduceLT, Int.reduceLE, reduceIte, aresults, aresult, hp0] at hx; (try (rw [guardL_if] at hx; split at hx <;> rename_i hc)))); all_goals (subst hx; first | (refine ⟨_, rfl, fun ht => ?_, fun ht => ?_⟩ <;> (try simp only [bbs] at ht)) | (refine ⟨_, rfl, ?_⟩; (try simp only [tupOf])))) | refine wSkip ?_ | (refine wExit ?_; simp only [thenQ, blockQ, reduceIte, Nat.reduceEqDiff]) | refine wSeq ?_ | refine wBlock ?_)
  · refine gives_boolv ?_
    rw [decide_eq_false]
    intro h; rw [h] at ht; exact ht rfl
  have hlen : a.length = b.length := by (try simp only [bbs] at *); omega
  refine wLoop (fun k s => ∃ (j : Nat), j + k = a.length ∧ s.1 0 = bytesL a ∧ s.1 1 = bytesL b ∧ s.1 5 = .v (.int .i64 (j : Nat)) ∧ (a.take j = b.take j)) (fun k s hI => ?_) (a.length) _ ?_
  · obtain ⟨e, H⟩ := s
    obtain ⟨j, hj, h0, h1, h5, htk⟩ := hI
    simp only at h0 h1 h5 htk
    by_cases hlt : j < a.length
    · obtain ⟨x, gx, -, -⟩ := at_drop hlt
      obtain ⟨y, gy, -, -⟩ := at_drop (show j < b.length by omega)
      have gx' : (a.map fun z => [AV.v (.int .u8 z)])[j]? = some [.v (.int .u8 x)] := by rw [List.getElem?_map, gx]; rfl
      have gy' : (b.map fun z => [AV.v (.int .u8 z)])[j]? = some [.v (.int .u8 y)] := by rw [List.getElem?_map, gy]; rfl
      by_cases he : x = y
      · repeat' (first | ((first | refine wSeqr ?_ | refine wIf ?_ | refine wReg ?_ | (refine wRet ?_; (try simp only [thenQ, blockQ]); refine ends_by ?_)); intro xx hx; have hc := trivial; (repeat' (simp only [hc, Nat.reduceBEq, go_sem, Nat.reduceAdd, Nat.reduceMul, Nat.reduceSub, Nat.reduceEqDiff, Nat.reduceLT, Nat.reduceLeDiff, Int.reduceEq, Int.reduceLT, Int.reduceLE, reduceIte, aresults, aresult, hp0, h0, h1, h5, bytesL, cell, List.length_map, gx', gy', he, wrap_succ (show j < 9223372036854775807 by omega)] at hx; (try (rw [guardL_if] at hx; split at hx <;> rename_i hc)))); all_goals (subst hx; first | (refine ⟨_, rfl, fun ht => ?_, fun ht => ?_⟩ <;> (try simp only [bbs] at ht)) | (refine ⟨_, rfl, ?_⟩; (try simp only [tupOf])))) | refine wSkip ?_ | (refine wExit ?_; simp only [thenQ, blockQ, reduceIte, Nat.reduceEqDiff]) | refine wSeq ?_ | refine wBlock ?_)
        all_goals try (exfalso; (try simp only [bbs] at *); first | omega | exact absurd trivial (by assumption))
        refine ⟨_, Nat.sub_lt (by omega) Nat.one_pos, j + 1, by omega, by simp only [upd_eq, Nat.reduceEqDiff, if_false, if_true, h0, h1, h5], by simp only [upd_eq, Nat.reduceEqDiff, if_false, if_true, h0, h1, h5], by simp only [upd_eq, Nat.reduceEqDiff, if_false, if_true, h0, h1, h5], ?_⟩
        rw [List.take_add_one, List.take_add_one, gx, gy, htk, he]
      · repeat' (first | ((first | refine wSeqr ?_ | refine wIf ?_ | refine wReg ?_ | (refine wRet ?_; (try simp only [thenQ, blockQ]); refine ends_by ?_)); intro xx hx; have hc := trivial; (repeat' (simp only [hc, Nat.reduceBEq, go_sem, Nat.reduceAdd, Nat.reduceMul, Nat.reduceSub, Nat.reduceEqDiff, Nat.reduceLT, Nat.reduceLeDiff, Int.reduceEq, Int.reduceLT, Int.reduceLE, reduceIte, aresults, aresult, hp0, h0, h1, h5, bytesL, cell, List.length_map, gx', gy', he] at hx; (try (rw [guardL_if] at hx; split at hx <;> rename_i hc)))); all_goals (subst hx; first | (refine ⟨_, rfl, fun ht => ?_, fun ht => ?_⟩ <;> (try simp only [bbs] at ht)) | (refine ⟨_, rfl, ?_⟩; (try simp only [tupOf])))) | refine wSkip ?_ | (refine wExit ?_; simp only [thenQ, blockQ, reduceIte, Nat.reduceEqDiff]) | refine wSeq ?_ | refine wBlock ?_)
        all_goals try (exfalso; (try simp only [bbs] at *); first | omega | exact absurd trivial (by assumption))
        refine gives_boolv ?_
        rw [decide_eq_false]
        intro h; rw [h] at gx; rw [gx] at gy
        exact he (Option.some.inj gy)
    · have hj' : j = a.length := by omega
      repeat' (first | ((first | refine wSeqr ?_ | refine wIf ?_ | refine wReg ?_ | (refine wRet ?_; (try simp only [thenQ, blockQ]); refine ends_by ?_)); intro xx hx; have hc := trivial; (repeat' (simp only [hc, Nat.reduceBEq, go_sem, Nat.reduceAdd, Nat.reduceMul, Nat.reduceSub, Nat.reduceEqDiff, Nat.reduceLT, Nat.reduceLeDiff, Int.reduceEq, Int.reduceLT, Int.reduceLE, reduceIte, aresults, aresult, hp0, h0, h1, h5, bytesL, List.length_map] at hx; (try (rw [guardL_if] at hx; split at hx <;> rename_i hc)))); all_goals (subst hx; first | (refine ⟨_, rfl, fun ht => ?_, fun ht => ?_⟩ <;> (try simp only [bbs] at ht)) | (refine ⟨_, rfl, ?_⟩; (try simp only [tupOf])))) | refine wSkip ?_ | (refine wExit ?_; simp only [thenQ, blockQ, reduceIte, Nat.reduceEqDiff]) | refine wSeq ?_ | refine wBlock ?_)
      all_goals try (exfalso; (try simp only [bbs] at *); first | omega | exact absurd trivial (by assumption))
      refine gives_boolv ?_
      rw [hj', List.take_length, hlen, List.take_length] at htk
      rw [htk, decide_eq_true rfl]
  · refine ⟨0, by omega, rfl, rfl, rfl, ?_⟩
    rfl
theorem c_leqB (a b : List Int) (hl : a.length ≤ 1048576) : ∀ H, call Tryd.prog cfg0 0 9 [bytesL a, bytesL b] H = some (.v (.bool (decide (a = b))), H) :=
  call_fz Tryd.func9 rfl ok_leqB rfl (by simp only [fz_cons, fz_nil, go_sem, and_self]) (p_leqB a b hl)

theorem ok_leqBytesResult : fnOk Tryd.prog cfg0 17 Tryd.f17 = true := by kernel_rfl
theorem p_leqBytesResult (c : Int) (a : List Int) (d : Int) (b : List Int) (hl : a.length ≤ 1048576) : pure Tryd.prog cfg0 17 Tryd.f17 [.agg [.v (.int .i64 c), bytesL a], .agg [.v (.int .i64 d), bytesL b]] = some (.v (.bool (decide (c = d) && decide (a = b))), true) := by
  refine pure_wp (rs := [.tmp 4]) rfl rfl ?_
  have hp0 : ∀ b, cfg0.pol 17 b = 0 := fun b => rfl
  repeat' (first | ((first | refine wSeqr ?_ | refine wIf ?_ | refine wReg ?_ | (refine wRet ?_; (try simp only [thenQ, blockQ]); refine ends_by ?_)); intro xx hx; have hc := trivial; (repeat' (simp only [hc, Nat.reduceBEq, go_sem, Nat.reduceAdd, Nat.reduceMul, Nat.reduceSub, Nat.reduceEqDiff, Nat.reduceLT, Nat.reduceLeDiff, Int.reduceEq, Int.reduceLT, Int.reduceLE, reduceIte, aresults, aresult, hp0, c_leqB a b hl] at hx; (try (rw [guardL_if] at hx; split at hx <;> rename_i hc)))); all_goals (subst hx; first | (refine ⟨_, rfl, fun ht => ?_, fun ht => ?_⟩ <;> (try simp only [bbs] at ht)) | (refine ⟨_, rfl, ?_⟩; (try simp only [tupOf])))) | refine wSkip ?_ | (refine wExit ?_; simp only [thenQ, blockQ, reduceIte, Nat.reduceEqDiff]) | refine wSeq ?_ | refine wBlock ?_)
  all_goals (refine gives_boolv ?_; simp_all)
theorem c_leqBytesResult (c : Int) (a : List Int) (d : Int) (b : List Int) (hl : a.length ≤ 1048576) : ∀ H, call Tryd.prog cfg0 0 17 [.agg [.v (.int .i64 c), bytesL a], .agg [.v (.int .i64 d), bytesL b]] H = some (.v (.bool (decide (c = d) && decide (a = b))), H) :=
  call_fz Tryd.func17 rfl ok_leqBytesResult rfl (by simp only [fz_cons, fz_nil, go_sem, fz_ib, and_self]) (p_leqBytesResult c a d b hl)

theorem ok_lheldBytesResult : fnOk Tryd.prog cfg0 21 Tryd.f21 = true := by kernel_rfl
theorem p_lheldBytesResult (c q : Int) (n : Nat) (hn : n ≤ 281474976710656) (hk : 0 ≤ q ∧ q ≤ 4611686018427387904) : pure Tryd.prog cfg0 21 Tryd.f21 [.agg [.v (.int .i64 c), bytesL (marksB q n)], .v (.int .i64 q)] = some (.v (.int .i64 (q + n)), true) := by
  refine pure_wp (rs := [.tmp 4]) rfl rfl ?_
  have hp0 : ∀ b, cfg0.pol 21 b = 0 := fun b => rfl
  repeat' (first | ((first | refine wSeqr ?_ | refine wIf ?_ | refine wReg ?_ | (refine wRet ?_; (try simp only [thenQ, blockQ]); refine ends_by ?_)); intro xx hx; have hc := trivial; (repeat' (simp only [hc, Nat.reduceBEq, go_sem, Nat.reduceAdd, Nat.reduceMul, Nat.reduceSub, Nat.reduceEqDiff, Nat.reduceLT, Nat.reduceLeDiff, Int.reduceEq, Int.reduceLT, Int.reduceLE, reduceIte, aresults, aresult, hp0, c_lheldByteS q n hn hk] at hx; (try (rw [guardL_if] at hx; split at hx <;> rename_i hc)))); all_goals (subst hx; first | (refine ⟨_, rfl, fun ht => ?_, fun ht => ?_⟩ <;> (try simp only [bbs] at ht)) | (refine ⟨_, rfl, ?_⟩; (try simp only [tupOf])))) | refine wSkip ?_ | (refine wExit ?_; simp only [thenQ, blockQ, reduceIte, Nat.reduceEqDiff]) | refine wSeq ?_ | refine wBlock ?_)
  all_goals try (exfalso; (try simp only [bbs] at *); first | omega | exact absurd trivial (by assumption))
  all_goals exact ⟨rfl, rfl⟩
theorem c_lheldBytesResult (c q : Int) (n : Nat) (hn : n ≤ 281474976710656) (hk : 0 ≤ q ∧ q ≤ 4611686018427387904) : ∀ H, call Tryd.prog cfg0 0 21 [.agg [.v (.int .i64 c), bytesL (marksB q n)], .v (.int .i64 q)] H = some (.v (.int .i64 (q + n)), H) :=
  call_fz Tryd.func21 rfl ok_lheldBytesResult rfl (by simp only [fz_cons, fz_nil, go_sem, fz_ib, and_self]) (p_lheldBytesResult c q n hn hk)

theorem ok_markBR : fnOk Tryd.prog cfg0 20 Tryd.f20 = true := by kernel_rfl
theorem cr_markBR0 (c q : Int) : ∀ H, call Tryd.prog cfg0 0 20 [.agg [.v (.int .i64 c), .lst false []], .v (.int .i64 q)] H = some (.v (.int .i64 q), H.new [.v (.int .i64 c), .lst false []]) := by
  intro H
  have key : ∃ r, body Tryd.prog cfg0 20 Tryd.f20 [.agg [.v (.int .i64 c), .lst false []], .v (.int .i64 q)] H = some r ∧ (r.1 = .v (.int .i64 q) ∧ r.2 = H.new [.v (.int .i64 c), .lst false []]) := by
    refine body_wp (rs := [.tmp 4]) rfl rfl (R := fun x H' => x = .v (.int .i64 q) ∧ H' = H.new [.v (.int .i64 c), .lst false []]) ?_
    have hp0 : ∀ b, cfg0.pol 20 b = 0 := fun b => rfl
    repeat' (first | ((first | refine wSeqr ?_ | refine wIf ?_ | refine wReg ?_ | (refine wRet ?_; (try simp only [thenQ, blockQ]); refine ends_by ?_)); intro xx hx; have hc := trivial; (repeat' (simp only [hc, Nat.reduceBEq, go_sem, Nat.reduceAdd, Nat.reduceMul, Nat.reduceSub, Nat.reduceEqDiff, Nat.reduceLT, Nat.reduceLeDiff, Int.reduceEq, Int.reduceLT, Int.reduceLE, reduceIte, aresults, aresult, hp0, cr_mark0] at hx; (try (rw [guardL_if] at hx; split at hx <;> rename_i hc)))); all_goals (subst hx; first | (refine ⟨_, rfl, fun ht => ?_, fun ht => ?_⟩ <;> (try simp only [bbs] at ht)) | (refine ⟨_, rfl, ?_⟩; (try simp only [tupOf])))) | refine wSkip ?_ | (refine wExit ?_; simp only [thenQ, blockQ, reduceIte, Nat.reduceEqDiff]) | refine wSeq ?_ | refine wBlock ?_)
    all_goals (constructor <;> first | trivial | rfl)
  obtain ⟨⟨v, H'⟩, h1, rfl, rfl⟩ := key
  rw [call_raw Tryd.prog cfg0 Tryd.func20 rfl ok_markBR rfl rfl, h1]
open Classical in
theorem cr_markBR (c q : Int) (l : List Int) (hl : l.length ≤ 281474976710656) (hk : 0 ≤ q ∧ q ≤ 4611686018427387904) : ∀ H b, call Tryd.prog cfg0 0 20 [.agg [.v (.int .i64 c), .sl b 1 0 l.length], .v (.int .i64 q)] H =
    if H.h b = some (l.map cell) ∧ b ≠ H.g then some (.v (.int .i64 (q + l.length)), (H.new [.v (.int .i64 c), .sl b 1 0 l.length]).set b ((marksB q l.length).map cell)) else call' Tryd.prog cfg0 0 20 [.agg [.v (.int .i64 c), .sl b 1 0 l.length], .v (.int .i64 q)] H := by
  intro H b
  split
  rotate_left
  · rfl
  rename_i hC
  obtain ⟨hb, hn⟩ := hC
  have key : ∃ r, body Tryd.prog cfg0 20 Tryd.f20 [.agg [.v (.int .i64 c), .sl b 1 0 l.length], .v (.int .i64 q)] H = some r ∧ (r.1 = .v (.int .i64 (q + l.length)) ∧ r.2 = (H.new [.v (.int .i64 c), .sl b 1 0 l.length]).set b ((marksB q l.length).map cell)) := by
    refine body_wp (rs := [.tmp 4]) rfl rfl (R := fun x H' => x = .v (.int .i64 (q + l.length)) ∧ H' = (H.new [.v (.int .i64 c), .sl b 1 0 l.length]).set b ((marksB q l.length).map cell)) ?_
    have hp0 : ∀ b, cfg0.pol 20 b = 0 := fun b => rfl
    repeat' (first | ((first | refine wSeqr ?_ | refine wIf ?_ | refine wReg ?_ | (refine wRet ?_; (try simp only [thenQ, blockQ]); refine ends_by ?_)); intro xx hx; have hc := trivial; (repeat' (simp only [hc, Nat.reduceBEq, go_sem, Nat.reduceAdd, Nat.reduceMul, Nat.reduceSub, Nat.reduceEqDiff, Nat.reduceLT, Nat.reduceLeDiff, Int.reduceEq, Int.reduceLT, Int.reduceLE, reduceIte, aresults, aresult, hp0, cr_markByteS l q hl hk, hb, hn] at hx; (try (rw [guardL_if] at hx; split at hx <;> rename_i hc)))); all_goals (subst hx; first | (refine ⟨_, rfl, fun ht => ?_, fun ht => ?_⟩ <;> (try simp only [bbs] at ht)) | (refine ⟨_, rfl, ?_⟩; (try simp only [tupOf])))) | refine wSkip ?_ | (refine wExit ?_; simp only [thenQ, blockQ, reduceIte, Nat.reduceEqDiff]) | refine wSeq ?_ | refine wBlock ?_)
    all_goals (constructor <;> first | trivial | rfl)
  obtain ⟨⟨v, H'⟩, h1, rfl, rfl⟩ := key
  rw [call_raw Tryd.prog cfg0 Tryd.func20 rfl ok_markBR rfl rfl, h1]
/-- The same two, on a result in own blocks. -/
theorem deep_res {H : Hp} {b : Nat} {c : Int} {l : List Int} (hb : H.h b = some (l.map cell)) : deep H depthD (.agg [.v (.int .i64 c), .sl b 1 0 l.length]) = some (.agg [.v (.int .i64 c), bytesL l]) := (gives_sl hb).1.1
open Classical in
theorem cq_eqBR (c : Int) (a : List Int) (d : Int) (b : List Int) (hl : a.length ≤ 1048576) : ∀ H q, call Tryd.prog cfg0 0 17 [.agg [.v (.int .i64 c), .sl q 1 0 a.length], .agg [.v (.int .i64 d), bytesL b]] H =
    if H.h q = some (a.map cell) then some (.v (.bool (decide (c = d) && decide (a = b))), H) else call' Tryd.prog cfg0 0 17 [.agg [.v (.int .i64 c), .sl q 1 0 a.length], .agg [.v (.int .i64 d), bytesL b]] H := fun H q =>
  call_if Tryd.func17 rfl ok_leqBytesResult rfl (fun hC => mapM_c (deep_res hC) (mapM_c ((fz_ib d b).1 H) mapM_n)) (p_leqBytesResult c a d b hl)
open Classical in
theorem cq_heldBR (c q : Int) (n : Nat) (hn : n ≤ 281474976710656) (hk : 0 ≤ q ∧ q ≤ 4611686018427387904) : ∀ H b, call Tryd.prog cfg0 0 21 [.agg [.v (.int .i64 c), .sl b 1 0 n], .v (.int .i64 q)] H =
    if H.h b = some ((marksB q n).map cell) then some (.v (.int .i64 (q + n)), H) else call' Tryd.prog cfg0 0 21 [.agg [.v (.int .i64 c), .sl b 1 0 n], .v (.int .i64 q)] H := fun H b =>
  call_if Tryd.func21 rfl ok_lheldBytesResult rfl (fun hC => mapM_c (by have := deep_res (c := c) hC; rw [marksB_length] at this; exact this) (mapM_c rfl mapM_n)) (p_lheldBytesResult c q n hn hk)
end
end Go.Proofs.YtnejoidfbgklbaaDoor
namespace Go.Proofs.YtnejoidfbgklbaaDoor
open Go Go.RowKit Go.Proofs.YtnejoidfbgklbaaDoor.Eng
set_option linter.unusedSimpArgs false
set_option linter.unusedVariables false
noncomputable section
theorem mat_oneQ {n : Nat} {t : AV} {H : Hp} {q : Option (AV × Hp)} (hq : mat depthD t H = q) (hg : MatG n t) (hn : n ≤ 12) : ∃ z H', q = some (z, H') ∧ Ext H H' ∧ Laid H' H.g H'.g [t] [z] := by
  obtain ⟨z, H', h1, h2, h3⟩ := mat_one (d := depthD) hn hg H
  exact ⟨z, H', hq.symm.trans h1, h2, h3⟩
theorem mat_rowQ {n : Nat} {ts : List AV} {H : Hp} {q : Option (AV × Hp)} (hq : mat depthD (.agg ts) H = q) (hg : ∀ t ∈ ts, MatG n t) (hn : n ≤ 11) : ∃ zs H', q = some (.agg zs, H') ∧ Ext H H' ∧ Laid H' H.g H'.g ts zs := by
  obtain ⟨zs, H', h1, h2, h3⟩ := mat_row hg hn H
  exact ⟨zs, H', hq.symm.trans h1, h2, h3⟩
theorem deep_laid {n lo hi : Nat} {H : Hp} {ts zs : List AV} (hL : Laid H lo hi ts zs) (hg : ∀ t ∈ ts, MatG n t) (hn : n ≤ 11) : deep H depthD (.agg zs) = some (.agg ts) := (hL.givesO hn hg).1.1
theorem deep_one {n lo hi : Nat} {H : Hp} {t z : AV} (hL : Laid H lo hi [t] [z]) (hg : MatG n t) (hn : n ≤ 12) : deep H depthD z = some t := by
  have h := (hL.deep n depthD (by simpa using hg) hn).1
  simp only [List.mapM_cons, List.mapM_nil, Option.bind_eq_bind, Option.bind_eq_some_iff, Option.pure_def, Option.some.injEq] at h
  obtain ⟨y, h1, _, rfl, h2⟩ := h
  rw [h1]
  simp at h2
  rw [h2]
theorem findB_len {f : Nat → List Int} {mo : Int} : ∀ (n : Nat) (o : List Int), findB f mo n = some o → (o.length : Int) ≤ mo := by
  intro n
  induction n with
  | zero => intro o h; simp [findB] at h
  | succ n ih =>
    intro o h
    simp only [findB] at h
    split at h
    · rename_i hle; obtain rfl := Option.some.inj h; exact hle
    · exact ih o h
theorem aqB_len (vw : List ClaimM) (l : List Int) (mo : Int) : (aqB vw l mo).length ≤ 300 := by
  unfold aqB
  split
  · rename_i h
    have hm := inB_t.1 h.2.1
    cases ho : aqO vw l mo with
    | none => simp
    | some o =>
      have := findB_len _ _ ho
      simp only [Option.getD_some]; omega
  · simp
theorem mat_res (c : Int) (l : List Int) (hne : l ≠ []) (H : Hp) : mat depthD (.agg [.v (.int .i64 c), bytesL l]) H = some (.agg [.v (.int .i64 c), .sl H.g 1 0 l.length], H.new (l.map cell)) := mat_two (d := 10) (mat_bytes 9 l hne H)
theorem mat_res0 (c : Int) (H : Hp) : mat depthD (.agg [.v (.int .i64 c), bytesL []]) H = some (.agg [.v (.int .i64 c), .lst false []], H) := rfl
theorem gC (n : Nat) (l : List ClaimM) : MatG (n + 2) (.lst false (l.map encClaim)) := MatG.rows (sz := 4) (by omega) (fun _ => rfl) (fun k => gE_Claim n k) l
end
end Go.Proofs.YtnejoidfbgklbaaDoor
