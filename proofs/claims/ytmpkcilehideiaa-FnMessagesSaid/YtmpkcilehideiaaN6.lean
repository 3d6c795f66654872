/- Contracts: lists of messages out of bytes, the reference's side. -/
import Derived.Test.YtmpkcilehideiaaN5
namespace Go.Proofs.Ytmpkcilehideiaa
open Go Go.RowKit Go.Proofs.Ytmpkcilehideiaa.Eng
set_option linter.unusedSimpArgs false
set_option linter.unusedVariables false
set_option maxRecDepth 100000
set_option maxHeartbeats 4000000
noncomputable section
theorem i01 : (((0 : Nat) : Int) < 1) = True := by simp
theorem dp_two {H : Hp} {t x : AV} (hx : deep H 11 x = some t) {y y' : Bool} (hy : y' = y) : deep H depthD (.tup [x, .v (.bool y')]) = some (.tup [t, .v (.bool y)]) := by
  subst hy
  show (([x, .v (.bool y')] : List AV).mapM (deep H 11)).map AV.tup = _
  rw [mapM_c hx (mapM_c (show deep H 11 (.v (.bool y')) = some (.v (.bool y')) from rfl) mapM_n)]; rfl
theorem drop_cons {l : List Int} {n : Nat} {a : Int} {t : List Int} (h : l.drop n = a :: t) : l[n]? = some a ∧ l.drop (n + 1) = t ∧ n + 1 + t.length = l.length := by
  refine ⟨?_, ?_, ?_⟩
  · have := congrArg (fun x => x[0]?) h
    simpa using this
  · rw [← List.drop_drop, h]; rfl
  · have h1 := congrArg List.length h
    simp only [List.length_drop, List.length_cons] at h1
    omega
theorem ok_sl7Messages : fnOk Try.prog cfg0 29 Try.f29 = true := by kernel_rfl
theorem pq_sl7Messages (l : List Int) (hb : Eng.Bytes l) (hl : l.length ≤ 1000) : pure Try.prog cfg0 29 Try.f29 [bytesL l] = some (.tup [.lst false ((allM l).1.map encMessage), .v (.bool (allM l).2)], true) ∧ owned Try.prog cfg0 29 Try.f29 [bytesL l] = some (.tup [.lst false ((allM l).1.map encMessage), .v (.bool (allM l).2)]) := by
  refine both_wp (rs := [.tmp 2, .tmp 3]) rfl rfl ?_
  have hp0 : ∀ b, cfg0.pol 29 b = (if b = 65 then 1 else 0) := fun b => rfl
  cases l with
  | nil =>
    repeat' (first | ((first | refine wSeqr (fun xx hx => ?_) | refine wSeqrF (fun xx hx => ?_) | refine wIf (fun xx hx => ?_) | refine wReg (fun xx hx => ?_) | refine wRegF (fun xx hx => ?_) | (refine wRet ?_; (try simp only [thenQ, blockQ]); (try (subst hQQ; (try simp only [thenQ, blockQ]))); refine ends_by (fun xx hx => ?_))); have hc := trivial; (repeat' (simp only [hc, Nat.reduceBEq, go_sem, Nat.reduceAdd, Nat.reduceMul, Nat.reduceSub, Nat.reduceEqDiff, Nat.reduceLT, Nat.reduceLeDiff, Int.reduceEq, Int.reduceLT, Int.reduceLE, reduceIte, aresults, aresult, hp0, List.length_nil, i00, i01] at hx; (try ((first | rw [guardL_if] at hx | rw [guardF_if] at hx); split at hx <;> rename_i hc)))); all_goals (subst hx; first | (refine ⟨_, rfl, fun ht => ?_, fun ht => ?_⟩ <;> (try simp only [Bool.not_eq_true', Bool.not_eq_false', Bool.and_eq_true, Bool.and_eq_false_iff, Bool.or_eq_true, Bool.or_eq_false_iff, decide_eq_true_eq, decide_eq_false_iff_not, beq_iff_eq, bne_iff_ne, Bool.not_true, Bool.not_false, Bool.true_eq_false, Bool.false_eq_true, ne_eq, Decidable.not_not, inB_t, inB_f] at ht)) | (refine ⟨_, rfl, ?_⟩; (try simp only [tupOf])))) | refine wSkip ?_ | (refine wExit ?_; simp only [thenQ, blockQ, reduceIte, Nat.reduceEqDiff]) | refine wSeq ?_ | refine wBlock ?_ | (subst hQQ; (try simp only [thenQ, blockQ, reduceIte, Nat.reduceEqDiff])))
    all_goals first
      | (exfalso; (try simp only [Bool.not_eq_true', Bool.not_eq_false', Bool.and_eq_true, Bool.and_eq_false_iff, Bool.or_eq_true, Bool.or_eq_false_iff, decide_eq_true_eq, decide_eq_false_iff_not, beq_iff_eq, bne_iff_ne, Bool.not_true, Bool.not_false, Bool.true_eq_false, Bool.false_eq_true, ne_eq, Decidable.not_not, inB_t, inB_f] at *); simp at *; done)
      | skip
    all_goals exact gF_O (gF_tup (n := 10) (gF_nil 10 _) (plain_bool _))
  | cons c r =>
    have hc8 := hb c (by simp)
    have hrb : Eng.Bytes r := fun z hz => hb z (by simp [hz])
    have hrl : r.length + 1 ≤ 1000 := hl
    have hlc : (c :: r).length = r.length + 1 := rfl
    have wc : IntKind.wrap .i64 c = c := wrap_i64 (by omega) (by omega)
    by_cases hc12 : 12 < c
    · have ha : allM (c :: r) = ([], false) := by simp only [allM, if_pos hc12]
      rw [ha]
      repeat' (first | ((first | refine wSeqr (fun xx hx => ?_) | refine wSeqrF (fun xx hx => ?_) | refine wIf (fun xx hx => ?_) | refine wReg (fun xx hx => ?_) | refine wRegF (fun xx hx => ?_) | (refine wRet ?_; (try simp only [thenQ, blockQ]); (try (subst hQQ; (try simp only [thenQ, blockQ]))); refine ends_by (fun xx hx => ?_))); have hc := trivial; (repeat' (simp only [hc, Nat.reduceBEq, go_sem, Nat.reduceAdd, Nat.reduceMul, Nat.reduceSub, Nat.reduceEqDiff, Nat.reduceLT, Nat.reduceLeDiff, Int.reduceEq, Int.reduceLT, Int.reduceLE, reduceIte, aresults, aresult, hp0, hlc, wc, aconv_int u5 u2] at hx; (try ((first | rw [guardL_if] at hx | rw [guardF_if] at hx); split at hx <;> rename_i hc)))); all_goals (subst hx; first | (refine ⟨_, rfl, fun ht => ?_, fun ht => ?_⟩ <;> (try simp only [Bool.not_eq_true', Bool.not_eq_false', Bool.and_eq_true, Bool.and_eq_false_iff, Bool.or_eq_true, Bool.or_eq_false_iff, decide_eq_true_eq, decide_eq_false_iff_not, beq_iff_eq, bne_iff_ne, Bool.not_true, Bool.not_false, Bool.true_eq_false, Bool.false_eq_true, ne_eq, Decidable.not_not, inB_t, inB_f] at ht)) | (refine ⟨_, rfl, ?_⟩; (try simp only [tupOf])))) | refine wSkip ?_ | (refine wExit ?_; simp only [thenQ, blockQ, reduceIte, Nat.reduceEqDiff]) | refine wSeq ?_ | refine wBlock ?_ | (subst hQQ; (try simp only [thenQ, blockQ, reduceIte, Nat.reduceEqDiff])))
      all_goals first
        | (exfalso; (try simp only [Bool.not_eq_true', Bool.not_eq_false', Bool.and_eq_true, Bool.and_eq_false_iff, Bool.or_eq_true, Bool.or_eq_false_iff, decide_eq_true_eq, decide_eq_false_iff_not, beq_iff_eq, bne_iff_ne, Bool.not_true, Bool.not_false, Bool.true_eq_false, Bool.false_eq_true, ne_eq, Decidable.not_not, inB_t, inB_f] at *); omega)
        | skip
      all_goals exact gF_O (gF_tup (n := 10) (gF_nil 10 _) (plain_bool _))
    repeat' (first | ((first | refine wSeqr (fun xx hx => ?_) | refine wSeqrF (fun xx hx => ?_) | refine wIf (fun xx hx => ?_) | refine wReg (fun xx hx => ?_) | refine wRegF (fun xx hx => ?_) | (refine wRet ?_; (try simp only [thenQ, blockQ]); (try (subst hQQ; (try simp only [thenQ, blockQ]))); refine ends_by (fun xx hx => ?_))); have hc := trivial; (repeat' (simp only [hc, Nat.reduceBEq, go_sem, Nat.reduceAdd, Nat.reduceMul, Nat.reduceSub, Nat.reduceEqDiff, Nat.reduceLT, Nat.reduceLeDiff, Int.reduceEq, Int.reduceLT, Int.reduceLE, reduceIte, aresults, aresult, hp0, hlc, wc, aconv_int u5 u2, aconv_int u5 u3] at hx; (try ((first | rw [guardL_if] at hx | rw [guardF_if] at hx); split at hx <;> rename_i hc)))); all_goals (subst hx; first | (refine ⟨_, rfl, fun ht => ?_, fun ht => ?_⟩ <;> (try simp only [Bool.not_eq_true', Bool.not_eq_false', Bool.and_eq_true, Bool.and_eq_false_iff, Bool.or_eq_true, Bool.or_eq_false_iff, decide_eq_true_eq, decide_eq_false_iff_not, beq_iff_eq, bne_iff_ne, Bool.not_true, Bool.not_false, Bool.true_eq_false, Bool.false_eq_true, ne_eq, Decidable.not_not, inB_t, inB_f] at ht)) | (refine ⟨_, rfl, ?_⟩; (try simp only [tupOf])))) | refine wSkip ?_ | (refine wExit ?_; simp only [thenQ, blockQ, reduceIte, Nat.reduceEqDiff]) | refine wSeq ?_ | refine wBlock ?_ | (subst hQQ; (try simp only [thenQ, blockQ, reduceIte, Nat.reduceEqDiff])))
    all_goals first
      | (exfalso; (try simp only [Bool.not_eq_true', Bool.not_eq_false', Bool.and_eq_true, Bool.and_eq_false_iff, Bool.or_eq_true, Bool.or_eq_false_iff, decide_eq_true_eq, decide_eq_false_iff_not, beq_iff_eq, bne_iff_ne, Bool.not_true, Bool.not_false, Bool.true_eq_false, Bool.false_eq_true, ne_eq, Decidable.not_not, inB_t, inB_f] at *); omega)
      | skip
    refine wLoop (fun k s => ∃ (j : Nat) (x : AV) (ms : List MessageM) (rest : List Int) (q : Nat) (hi : Nat) (gg : Nat), j + k = c.toNat ∧ s.1 0 = bytesL (c :: r) ∧ s.1 4 = x ∧ s.1 5 = .v (.int .i64 (q : Nat)) ∧ s.1 6 = .v (.int .i64 (c - (j : Nat))) ∧ (decN j r = some (ms, rest)) ∧ (LAcc s.2 x 10 0 hi gg ((ms.map encMessage).flatten) ms.length) ∧ ((c :: r).drop q = rest ∧ q ≤ r.length + 1 ∧ ms.length = j)) (fun k s hI => ?_) (c.toNat) _ ?_
    · obtain ⟨e, H⟩ := s
      obtain ⟨j, x, ms, rest, q, hi, gg, hj, h0, h4, h5, h6, hdec, hacc, hrest⟩ := hI
      simp only at h0 h4 h5 h6 hdec hacc hrest
      obtain ⟨hdr, hq1, hml⟩ := hrest
      have hone := hacc.one
      have hgg := hacc.gle
      by_cases hlt : j < c.toNat
      · have hltI : 0 < c - ((j : Nat) : Int) := by omega
        cases rest with
        | nil =>
          have hqe : q = r.length + 1 := by have := congrArg List.length hdr; simp at this; omega
          rw [allM_none hc12 (decN_none hdec rfl hlt)]
          have hqq : ((r.length + 1 : Nat) : Int) ≤ (q : Int) := by omega
          repeat' (first | ((first | refine wSeqr (fun xx hx => ?_) | refine wSeqrF (fun xx hx => ?_) | refine wIf (fun xx hx => ?_) | refine wReg (fun xx hx => ?_) | refine wRegF (fun xx hx => ?_) | (refine wRet ?_; (try simp only [thenQ, blockQ]); (try (subst hQQ; (try simp only [thenQ, blockQ]))); refine ends_by (fun xx hx => ?_))); have hc := trivial; (repeat' (simp only [hc, Nat.reduceBEq, go_sem, Nat.reduceAdd, Nat.reduceMul, Nat.reduceSub, Nat.reduceEqDiff, Nat.reduceLT, Nat.reduceLeDiff, Int.reduceEq, Int.reduceLT, Int.reduceLE, reduceIte, aresults, aresult, hp0, h0, h5, h6, hltI, hlc, hqq] at hx; (try ((first | rw [guardL_if] at hx | rw [guardF_if] at hx); split at hx <;> rename_i hc)))); all_goals (subst hx; first | (refine ⟨_, rfl, fun ht => ?_, fun ht => ?_⟩ <;> (try simp only [Bool.not_eq_true', Bool.not_eq_false', Bool.and_eq_true, Bool.and_eq_false_iff, Bool.or_eq_true, Bool.or_eq_false_iff, decide_eq_true_eq, decide_eq_false_iff_not, beq_iff_eq, bne_iff_ne, Bool.not_true, Bool.not_false, Bool.true_eq_false, Bool.false_eq_true, ne_eq, Decidable.not_not, inB_t, inB_f] at ht)) | (refine ⟨_, rfl, ?_⟩; (try simp only [tupOf])))) | refine wSkip ?_ | (refine wExit ?_; simp only [thenQ, blockQ, reduceIte, Nat.reduceEqDiff]) | refine wSeq ?_ | refine wBlock ?_ | (subst hQQ; (try simp only [thenQ, blockQ, reduceIte, Nat.reduceEqDiff])))
          all_goals first
            | (exfalso; (try simp only [Bool.not_eq_true', Bool.not_eq_false', Bool.and_eq_true, Bool.and_eq_false_iff, Bool.or_eq_true, Bool.or_eq_false_iff, decide_eq_true_eq, decide_eq_false_iff_not, beq_iff_eq, bne_iff_ne, Bool.not_true, Bool.not_false, Bool.true_eq_false, Bool.false_eq_true, ne_eq, Decidable.not_not, inB_t, inB_f] at *); omega)
            | skip
          all_goals exact gF_O (gF_tup (n := 10) (gF_nil 10 _) (plain_bool _))
        | cons a t =>
          obtain ⟨hg, hd1, hd2⟩ := drop_cons hdr
          rw [hlc] at hd2
          have ha8 := hb a (List.mem_of_getElem? hg)
          have hqq : ¬ ((r.length + 1 : Nat) : Int) ≤ (q : Int) := by omega
          have wa : IntKind.wrap .i64 a = a := wrap_i64 (by omega) (by omega)
          have wq : IntKind.wrap .i64 ((q : Int) + 1) = ((q + 1 : Nat) : Int) := by rw [wrap_i64 (by omega) (by omega)]; omega
          have wqa : IntKind.wrap .i64 (((q + 1 : Nat) : Int) + a) = ((q + 1 + a.toNat : Nat) : Int) := by rw [wrap_i64 (by omega) (by omega)]; omega
          by_cases hta : (t.length : Int) < a
          · rw [allM_none hc12 (decN_none hdec (by simp only [stepD, if_pos hta]) hlt)]
            have hbig : ((r.length + 1 : Nat) : Int) < ((q + 1 + a.toNat : Nat) : Int) := by omega
            repeat' (first | ((first | refine wSeqr (fun xx hx => ?_) | refine wSeqrF (fun xx hx => ?_) | refine wIf (fun xx hx => ?_) | refine wReg (fun xx hx => ?_) | refine wRegF (fun xx hx => ?_) | (refine wRet ?_; (try simp only [thenQ, blockQ]); (try (subst hQQ; (try simp only [thenQ, blockQ]))); refine ends_by (fun xx hx => ?_))); have hc := trivial; (repeat' (simp only [hc, Nat.reduceBEq, go_sem, Nat.reduceAdd, Nat.reduceMul, Nat.reduceSub, Nat.reduceEqDiff, Nat.reduceLT, Nat.reduceLeDiff, Int.reduceEq, Int.reduceLT, Int.reduceLE, reduceIte, aresults, aresult, hp0, h0, h5, h6, hltI, hlc, hqq, hg, wa, wq, wqa, hbig, aconv_int u5 u3] at hx; (try ((first | rw [guardL_if] at hx | rw [guardF_if] at hx); split at hx <;> rename_i hc)))); all_goals (subst hx; first | (refine ⟨_, rfl, fun ht => ?_, fun ht => ?_⟩ <;> (try simp only [Bool.not_eq_true', Bool.not_eq_false', Bool.and_eq_true, Bool.and_eq_false_iff, Bool.or_eq_true, Bool.or_eq_false_iff, decide_eq_true_eq, decide_eq_false_iff_not, beq_iff_eq, bne_iff_ne, Bool.not_true, Bool.not_false, Bool.true_eq_false, Bool.false_eq_true, ne_eq, Decidable.not_not, inB_t, inB_f] at ht)) | (refine ⟨_, rfl, ?_⟩; (try simp only [tupOf])))) | refine wSkip ?_ | (refine wExit ?_; simp only [thenQ, blockQ, reduceIte, Nat.reduceEqDiff]) | refine wSeq ?_ | refine wBlock ?_ | (subst hQQ; (try simp only [thenQ, blockQ, reduceIte, Nat.reduceEqDiff])))
            all_goals first
              | (exfalso; (try simp only [Bool.not_eq_true', Bool.not_eq_false', Bool.and_eq_true, Bool.and_eq_false_iff, Bool.or_eq_true, Bool.or_eq_false_iff, decide_eq_true_eq, decide_eq_false_iff_not, beq_iff_eq, bne_iff_ne, Bool.not_true, Bool.not_false, Bool.true_eq_false, Bool.false_eq_true, ne_eq, Decidable.not_not, inB_t, inB_f] at *); omega)
              | skip
            all_goals exact gF_O (gF_tup (n := 10) (gF_nil 10 _) (plain_bool _))
          have hbig : ¬ ((r.length + 1 : Nat) : Int) < ((q + 1 + a.toNat : Nat) : Int) := by omega
          by_cases ha0 : a = 0
          · have hn : stepD (a :: t) = none := by
              simp only [stepD, if_neg hta]
              rw [if_neg]
              rw [ha0]; simp [decB, decM, msgFault, msgForm]
            rw [allM_none hc12 (decN_none hdec hn hlt)]
            repeat' (first | ((first | refine wSeqr (fun xx hx => ?_) | refine wSeqrF (fun xx hx => ?_) | refine wIf (fun xx hx => ?_) | refine wReg (fun xx hx => ?_) | refine wRegF (fun xx hx => ?_) | (refine wRet ?_; (try simp only [thenQ, blockQ]); (try (subst hQQ; (try simp only [thenQ, blockQ]))); refine ends_by (fun xx hx => ?_))); have hc := trivial; (repeat' (simp only [hc, Nat.reduceBEq, go_sem, Nat.reduceAdd, Nat.reduceMul, Nat.reduceSub, Nat.reduceEqDiff, Nat.reduceLT, Nat.reduceLeDiff, Int.reduceEq, Int.reduceLT, Int.reduceLE, reduceIte, aresults, aresult, hp0, h0, h5, h6, hltI, hlc, hqq, hg, wa, wq, wqa, hbig, ha0, aconv_int u5 u3] at hx; (try ((first | rw [guardL_if] at hx | rw [guardF_if] at hx); split at hx <;> rename_i hc)))); all_goals (subst hx; first | (refine ⟨_, rfl, fun ht => ?_, fun ht => ?_⟩ <;> (try simp only [Bool.not_eq_true', Bool.not_eq_false', Bool.and_eq_true, Bool.and_eq_false_iff, Bool.or_eq_true, Bool.or_eq_false_iff, decide_eq_true_eq, decide_eq_false_iff_not, beq_iff_eq, bne_iff_ne, Bool.not_true, Bool.not_false, Bool.true_eq_false, Bool.false_eq_true, ne_eq, Decidable.not_not, inB_t, inB_f] at ht)) | (refine ⟨_, rfl, ?_⟩; (try simp only [tupOf])))) | refine wSkip ?_ | (refine wExit ?_; simp only [thenQ, blockQ, reduceIte, Nat.reduceEqDiff]) | refine wSeq ?_ | refine wBlock ?_ | (subst hQQ; (try simp only [thenQ, blockQ, reduceIte, Nat.reduceEqDiff])))
            all_goals first
              | (exfalso; (try simp only [Bool.not_eq_true', Bool.not_eq_false', Bool.and_eq_true, Bool.and_eq_false_iff, Bool.or_eq_true, Bool.or_eq_false_iff, decide_eq_true_eq, decide_eq_false_iff_not, beq_iff_eq, bne_iff_ne, Bool.not_true, Bool.not_false, Bool.true_eq_false, Bool.false_eq_true, ne_eq, Decidable.not_not, inB_t, inB_f] at *); omega)
              | skip
            all_goals exact gF_O (gF_tup (n := 10) (gF_nil 10 _) (plain_bool _))
          have hne : t.take a.toNat ≠ [] := fun e => by have := congrArg List.length e; rw [List.length_take, List.length_nil] at this; omega
          have htb : Eng.Bytes (t.take a.toNat) := byt_take (by rw [← hd1]; exact byt_drop hb _) _
          have hcd := o_sl7Decode (t.take a.toNat) htb hne (by rw [List.length_take]; omega)
          have hsub : q + 1 + a.toNat - (q + 1) = a.toNat := by omega
          have hds : List.drop (q + 1) (c :: r) = t := hd1
          rw [← decB_eq htb] at hcd
          repeat' ((fail_if_success (first | refine wAt 10 ?_)); first | ((first | refine wSeqr (fun xx hx => ?_) | refine wSeqrF (fun xx hx => ?_) | refine wIf (fun xx hx => ?_) | refine wReg (fun xx hx => ?_) | refine wRegF (fun xx hx => ?_) | (refine wRet ?_; (try simp only [thenQ, blockQ]); (try (subst hQQ; (try simp only [thenQ, blockQ]))); refine ends_by (fun xx hx => ?_))); have hc := trivial; (repeat' (simp only [hc, Nat.reduceBEq, go_sem, Nat.reduceAdd, Nat.reduceMul, Nat.reduceSub, Nat.reduceEqDiff, Nat.reduceLT, Nat.reduceLeDiff, Int.reduceEq, Int.reduceLT, Int.reduceLE, reduceIte, aresults, aresult, hp0, h0, h5, h6, hltI, hlc, hqq, hg, wa, wq, wqa, hbig, ha0, aconv_int u5 u3] at hx; (try ((first | rw [guardL_if] at hx | rw [guardF_if] at hx); split at hx <;> rename_i hc)))); all_goals (subst hx; first | (refine ⟨_, rfl, fun ht => ?_, fun ht => ?_⟩ <;> (try simp only [Bool.not_eq_true', Bool.not_eq_false', Bool.and_eq_true, Bool.and_eq_false_iff, Bool.or_eq_true, Bool.or_eq_false_iff, decide_eq_true_eq, decide_eq_false_iff_not, beq_iff_eq, bne_iff_ne, Bool.not_true, Bool.not_false, Bool.true_eq_false, Bool.false_eq_true, ne_eq, Decidable.not_not, inB_t, inB_f] at ht)) | (refine ⟨_, rfl, ?_⟩; (try simp only [tupOf])))) | refine wSkip ?_ | (refine wExit ?_; simp only [thenQ, blockQ, reduceIte, Nat.reduceEqDiff]) | refine wSeq ?_ | refine wBlock ?_ | (subst hQQ; (try simp only [thenQ, blockQ, reduceIte, Nat.reduceEqDiff])))
          all_goals first
            | (exfalso; (try simp only [Bool.not_eq_true', Bool.not_eq_false', Bool.and_eq_true, Bool.and_eq_false_iff, Bool.or_eq_true, Bool.or_eq_false_iff, decide_eq_true_eq, decide_eq_false_iff_not, beq_iff_eq, bne_iff_ne, Bool.not_true, Bool.not_false, Bool.true_eq_false, Bool.false_eq_true, ne_eq, Decidable.not_not, inB_t, inB_f] at *); omega)
            | skip
          have h01 : q + 1 ≤ q + 1 + a.toNat := by omega
          have h02 : q + 1 + a.toNat ≤ r.length + 1 := by omega
          (first | refine wSeqr (fun xx hx => ?_) | refine wSeqrF (fun xx hx => ?_) | refine wReg (fun xx hx => ?_) | refine wRegF (fun xx hx => ?_)); have hc := trivial; (repeat' (simp only [hc, Nat.reduceBEq, go_sem, Nat.reduceAdd, Nat.reduceMul, Nat.reduceSub, Nat.reduceEqDiff, Nat.reduceLT, Nat.reduceLeDiff, Int.reduceEq, Int.reduceLT, Int.reduceLE, reduceIte, aresults, aresult, hp0, h0, h5, h6, hlc, hg, wa, wq, wqa, hsub, hds, h01, h02, hcd, aconv_int u5 u3] at hx; (try ((first | rw [guardL_if] at hx | rw [guardF_if] at hx); split at hx <;> rename_i hc)))); generalize hq : mat depthD _ _ = q at hx
          obtain ⟨zm, H1, rfl, hx1, hL⟩ := mat_tupQ hq (gE_Message 7 (decS (t.take a.toNat))) (by omega)
          clear hq
          have f0 := hL
          (try simp only [encMessage] at f0)
          obtain ⟨t1, rfl, f1⟩ := f0.invV
          obtain ⟨t2, rfl, f2⟩ := f1.invV
          obtain ⟨t3, rfl, f3⟩ := f2.invV
          obtain ⟨t4, rfl, f4⟩ := f3.invV
          obtain ⟨t5, rfl, f5⟩ := f4.invV
          obtain ⟨t6, rfl, f6⟩ := f5.invV
          obtain ⟨t7, rfl, f7⟩ := f6.invV
          obtain ⟨t8, rfl, f8⟩ := f7.invV
          obtain ⟨t9, rfl, f9⟩ := f8.invV
          obtain ⟨z, t10, mx, rfl, a0, b0, y0, f10⟩ := f9.invL
          obtain rfl := f10.invN
          have k0 := (okc_laid y0).1
          have j0 := (okc_laid y0).2
          have G1 : H.g ≤ H1.g := hx1.1
          by_cases hd : decB (t.take a.toNat) = true
          rotate_left
          · have hd' : decB (t.take a.toNat) = false := by simpa using hd
            rw [allM_none hc12 (decN_none hdec (by simp only [stepD, if_neg hta, if_neg hd]) hlt)]
            have hc := trivial; (repeat' (simp only [hc, Nat.reduceBEq, go_sem, Nat.reduceAdd, Nat.reduceMul, Nat.reduceSub, Nat.reduceEqDiff, Nat.reduceLT, Nat.reduceLeDiff, Int.reduceEq, Int.reduceLT, Int.reduceLE, reduceIte, aresults, aresult, hp0, k0, j0, hd'] at hx; (try ((first | rw [guardL_if] at hx | rw [guardF_if] at hx); split at hx <;> rename_i hc)))); all_goals (subst hx; refine ⟨_, rfl, ?_⟩)
            repeat' (first | ((first | refine wSeqr (fun xx hx => ?_) | refine wSeqrF (fun xx hx => ?_) | refine wIf (fun xx hx => ?_) | refine wReg (fun xx hx => ?_) | refine wRegF (fun xx hx => ?_) | (refine wRet ?_; (try simp only [thenQ, blockQ]); (try (subst hQQ; (try simp only [thenQ, blockQ]))); refine ends_by (fun xx hx => ?_))); have hc := trivial; (repeat' (simp only [hc, Nat.reduceBEq, go_sem, Nat.reduceAdd, Nat.reduceMul, Nat.reduceSub, Nat.reduceEqDiff, Nat.reduceLT, Nat.reduceLeDiff, Int.reduceEq, Int.reduceLT, Int.reduceLE, reduceIte, aresults, aresult, hp0] at hx; (try ((first | rw [guardL_if] at hx | rw [guardF_if] at hx); split at hx <;> rename_i hc)))); all_goals (subst hx; first | (refine ⟨_, rfl, fun ht => ?_, fun ht => ?_⟩ <;> (try simp only [Bool.not_eq_true', Bool.not_eq_false', Bool.and_eq_true, Bool.and_eq_false_iff, Bool.or_eq_true, Bool.or_eq_false_iff, decide_eq_true_eq, decide_eq_false_iff_not, beq_iff_eq, bne_iff_ne, Bool.not_true, Bool.not_false, Bool.true_eq_false, Bool.false_eq_true, ne_eq, Decidable.not_not, inB_t, inB_f] at ht)) | (refine ⟨_, rfl, ?_⟩; (try simp only [tupOf])))) | refine wSkip ?_ | (refine wExit ?_; simp only [thenQ, blockQ, reduceIte, Nat.reduceEqDiff]) | refine wSeq ?_ | refine wBlock ?_ | (subst hQQ; (try simp only [thenQ, blockQ, reduceIte, Nat.reduceEqDiff])))
            all_goals first
              | (exfalso; (try simp only [Bool.not_eq_true', Bool.not_eq_false', Bool.and_eq_true, Bool.and_eq_false_iff, Bool.or_eq_true, Bool.or_eq_false_iff, decide_eq_true_eq, decide_eq_false_iff_not, beq_iff_eq, bne_iff_ne, Bool.not_true, Bool.not_false, Bool.true_eq_false, Bool.false_eq_true, ne_eq, Decidable.not_not, inB_t, inB_f] at *); omega)
              | skip
            all_goals exact gF_O (gF_tup (n := 10) (gF_nil 10 _) (plain_bool _))
          have hs1 : stepD (a :: t) = some (decM (t.take a.toNat), t.drop a.toNat) := by simp only [stepD, if_neg hta, if_pos hd]
          have hdec1 := decN_some hdec hs1
          have hc := trivial; (repeat' (simp only [hc, Nat.reduceBEq, go_sem, Nat.reduceAdd, Nat.reduceMul, Nat.reduceSub, Nat.reduceEqDiff, Nat.reduceLT, Nat.reduceLeDiff, Int.reduceEq, Int.reduceLT, Int.reduceLE, reduceIte, aresults, aresult, hp0, k0, j0, hd] at hx; (try ((first | rw [guardL_if] at hx | rw [guardF_if] at hx); split at hx <;> rename_i hc)))); all_goals (subst hx; refine ⟨_, rfl, ?_⟩)
          repeat' ((fail_if_success (first | refine wAt 13 ?_)); first | ((first | refine wSeqr (fun xx hx => ?_) | refine wSeqrF (fun xx hx => ?_) | refine wIf (fun xx hx => ?_) | refine wReg (fun xx hx => ?_) | refine wRegF (fun xx hx => ?_) | (refine wRet ?_; (try simp only [thenQ, blockQ]); (try (subst hQQ; (try simp only [thenQ, blockQ]))); refine ends_by (fun xx hx => ?_))); have hc := trivial; (repeat' (simp only [hc, Nat.reduceBEq, go_sem, Nat.reduceAdd, Nat.reduceMul, Nat.reduceSub, Nat.reduceEqDiff, Nat.reduceLT, Nat.reduceLeDiff, Int.reduceEq, Int.reduceLT, Int.reduceLE, reduceIte, aresults, aresult, hp0] at hx; (try ((first | rw [guardL_if] at hx | rw [guardF_if] at hx); split at hx <;> rename_i hc)))); all_goals (subst hx; first | (refine ⟨_, rfl, fun ht => ?_, fun ht => ?_⟩ <;> (try simp only [Bool.not_eq_true', Bool.not_eq_false', Bool.and_eq_true, Bool.and_eq_false_iff, Bool.or_eq_true, Bool.or_eq_false_iff, decide_eq_true_eq, decide_eq_false_iff_not, beq_iff_eq, bne_iff_ne, Bool.not_true, Bool.not_false, Bool.true_eq_false, Bool.false_eq_true, ne_eq, Decidable.not_not, inB_t, inB_f] at ht)) | (refine ⟨_, rfl, ?_⟩; (try simp only [tupOf])))) | refine wSkip ?_ | (refine wExit ?_; simp only [thenQ, blockQ, reduceIte, Nat.reduceEqDiff]) | refine wSeq ?_ | refine wBlock ?_ | (subst hQQ; (try simp only [thenQ, blockQ, reduceIte, Nat.reduceEqDiff])))
          all_goals first
            | (exfalso; (try simp only [Bool.not_eq_true', Bool.not_eq_false', Bool.and_eq_true, Bool.and_eq_false_iff, Bool.or_eq_true, Bool.or_eq_false_iff, decide_eq_true_eq, decide_eq_false_iff_not, beq_iff_eq, bne_iff_ne, Bool.not_true, Bool.not_false, Bool.true_eq_false, Bool.false_eq_true, ne_eq, Decidable.not_not, inB_t, inB_f] at *); omega)
            | skip
          (first | refine wSeqr (fun xx hx => ?_) | refine wSeqrF (fun xx hx => ?_) | refine wReg (fun xx hx => ?_) | refine wRegF (fun xx hx => ?_)); have hc := trivial; (repeat' (simp only [hc, Nat.reduceBEq, go_sem, Nat.reduceAdd, Nat.reduceMul, Nat.reduceSub, Nat.reduceEqDiff, Nat.reduceLT, Nat.reduceLeDiff, Int.reduceEq, Int.reduceLT, Int.reduceLE, reduceIte, aresults, aresult, hp0, h4, k0, j0] at hx; (try ((first | rw [guardL_if] at hx | rw [guardF_if] at hx); split at hx <;> rename_i hc)))); generalize hq : aappend Try.prog _ _ _ _ = q at hx
          have hrow := LAcc.row (P := Try.prog) (K := (H1.new [.v (.int .i64 0), .v (.int .i64 0), .v (.int .i64 0), .v (.int .i64 0), .v (.int .i64 0), .v (.int .i64 0), .v (.int .i64 0), .v (.int .i64 0), .v (.int .i64 0), .v (.slice none 0 0)]).set H1.g (encMessage (decS (t.take a.toNat)) |>.dropLast |> (· ++ [z]))) el23 zero38 by38 int23 (sz := 10) rfl (by omega) (hacc.keep (by simp; omega) fun b _ hb => by rw [Hp.set_h, Hp.new_h, if_neg (by omega), if_neg (by omega)]; exact hx1.2 b (by omega)) (hL.keep fun b _ hb => by rw [Hp.set_h, Hp.new_h, if_neg (by omega), if_neg (by omega)]) rfl (by omega) (by simp) (by omega) (by omega) true
          obtain ⟨K', e', g', hacc', -, -⟩ := hrow
          have e2 := hq.symm.trans e'
          clear hq
          subst e2
          have hc := trivial; (repeat' (simp only [hc, Nat.reduceBEq, go_sem, Nat.reduceAdd, Nat.reduceMul, Nat.reduceSub, Nat.reduceEqDiff, Nat.reduceLT, Nat.reduceLeDiff, Int.reduceEq, Int.reduceLT, Int.reduceLE, reduceIte, aresults, aresult, hp0] at hx; (try ((first | rw [guardL_if] at hx | rw [guardF_if] at hx); split at hx <;> rename_i hc)))); all_goals (subst hx; refine ⟨_, rfl, ?_⟩)
          have w6 : IntKind.wrap .i64 (c - ((j : Nat) : Int) - 1) = c - ((j + 1 : Nat) : Int) := by rw [wrap_i64 (by omega) (by omega)]; omega
          repeat' (first | ((first | refine wSeqr (fun xx hx => ?_) | refine wSeqrF (fun xx hx => ?_) | refine wIf (fun xx hx => ?_) | refine wReg (fun xx hx => ?_) | refine wRegF (fun xx hx => ?_) | (refine wRet ?_; (try simp only [thenQ, blockQ]); (try (subst hQQ; (try simp only [thenQ, blockQ]))); refine ends_by (fun xx hx => ?_))); have hc := trivial; (repeat' (simp only [hc, Nat.reduceBEq, go_sem, Nat.reduceAdd, Nat.reduceMul, Nat.reduceSub, Nat.reduceEqDiff, Nat.reduceLT, Nat.reduceLeDiff, Int.reduceEq, Int.reduceLT, Int.reduceLE, reduceIte, aresults, aresult, hp0, h0, h5, h6, hg, wa, wq, wqa, w6, aconv_int u5 u3] at hx; (try ((first | rw [guardL_if] at hx | rw [guardF_if] at hx); split at hx <;> rename_i hc)))); all_goals (subst hx; first | (refine ⟨_, rfl, fun ht => ?_, fun ht => ?_⟩ <;> (try simp only [Bool.not_eq_true', Bool.not_eq_false', Bool.and_eq_true, Bool.and_eq_false_iff, Bool.or_eq_true, Bool.or_eq_false_iff, decide_eq_true_eq, decide_eq_false_iff_not, beq_iff_eq, bne_iff_ne, Bool.not_true, Bool.not_false, Bool.true_eq_false, Bool.false_eq_true, ne_eq, Decidable.not_not, inB_t, inB_f] at ht)) | (refine ⟨_, rfl, ?_⟩; (try simp only [tupOf])))) | refine wSkip ?_ | (refine wExit ?_; simp only [thenQ, blockQ, reduceIte, Nat.reduceEqDiff]) | refine wSeq ?_ | refine wBlock ?_ | (subst hQQ; (try simp only [thenQ, blockQ, reduceIte, Nat.reduceEqDiff])))
          refine ⟨_, Nat.sub_lt (by omega) Nat.one_pos, j + 1, .sl (H1.g + 1) 10 0 (ms.length + 1), ms ++ [decM (t.take a.toNat)], t.drop a.toNat, q + 1 + a.toNat, H1.g, H1.g + 1 + 1, by omega, by simp only [upd_eq, Nat.reduceEqDiff, if_false, if_true, h0, h4, h5, h6], by simp only [upd_eq, Nat.reduceEqDiff, if_false, if_true, h0, h4, h5, h6], by simp only [upd_eq, Nat.reduceEqDiff, if_false, if_true, h0, h4, h5, h6], by simp only [upd_eq, Nat.reduceEqDiff, if_false, if_true, h0, h4, h5, h6], ?_⟩
          refine ⟨hdec1, ?_, by rw [← List.drop_drop, hds], by omega, by simp; omega⟩
          rw [show (ms ++ [decM (t.take a.toNat)]).length = ms.length + 1 by simp, ← flat_msgs, ← decB_dec htb hd]
          exact hacc'
      · have hj' : j = c.toNat := by omega
        have hltI : ¬ 0 < c - ((j : Nat) : Int) := by omega
        have ha := allM_some hc12 (hj' ▸ hdec)
        rw [ha]
        have hql := congrArg List.length hdr
        rw [List.length_drop, hlc] at hql
        repeat' (first | ((first | refine wSeqr (fun xx hx => ?_) | refine wSeqrF (fun xx hx => ?_) | refine wIf (fun xx hx => ?_) | refine wReg (fun xx hx => ?_) | refine wRegF (fun xx hx => ?_) | (refine wRet ?_; (try simp only [thenQ, blockQ]); (try (subst hQQ; (try simp only [thenQ, blockQ]))); refine ends_by (fun xx hx => ?_))); have hc := trivial; (repeat' (simp only [hc, Nat.reduceBEq, go_sem, Nat.reduceAdd, Nat.reduceMul, Nat.reduceSub, Nat.reduceEqDiff, Nat.reduceLT, Nat.reduceLeDiff, Int.reduceEq, Int.reduceLT, Int.reduceLE, reduceIte, aresults, aresult, hp0, h0, h4, h5, h6, hltI, hlc] at hx; (try ((first | rw [guardL_if] at hx | rw [guardF_if] at hx); split at hx <;> rename_i hc)))); all_goals (subst hx; first | (refine ⟨_, rfl, fun ht => ?_, fun ht => ?_⟩ <;> (try simp only [Bool.not_eq_true', Bool.not_eq_false', Bool.and_eq_true, Bool.and_eq_false_iff, Bool.or_eq_true, Bool.or_eq_false_iff, decide_eq_true_eq, decide_eq_false_iff_not, beq_iff_eq, bne_iff_ne, Bool.not_true, Bool.not_false, Bool.true_eq_false, Bool.false_eq_true, ne_eq, Decidable.not_not, inB_t, inB_f] at ht)) | (refine ⟨_, rfl, ?_⟩; (try simp only [tupOf])))) | refine wSkip ?_ | (refine wExit ?_; simp only [thenQ, blockQ, reduceIte, Nat.reduceEqDiff]) | refine wSeq ?_ | refine wBlock ?_ | (subst hQQ; (try simp only [thenQ, blockQ, reduceIte, Nat.reduceEqDiff])))
        all_goals first
          | (exfalso; (try simp only [Bool.not_eq_true', Bool.not_eq_false', Bool.and_eq_true, Bool.and_eq_false_iff, Bool.or_eq_true, Bool.or_eq_false_iff, decide_eq_true_eq, decide_eq_false_iff_not, beq_iff_eq, bne_iff_ne, Bool.not_true, Bool.not_false, Bool.true_eq_false, Bool.false_eq_true, ne_eq, Decidable.not_not, inB_t, inB_f] at *); omega)
          | skip
        have hbe : decide ((q : Int) = ((r.length + 1 : Nat) : Int)) = decide (rest.length = 0) := ?_
        · rw [hbe]
          refine gF_O (gF_tup (n := 10) (hacc.gives (rows := ms.map encMessage) rfl (k := 9) (by omega) (by simp) (by omega) (fun c hc => ?_) (fun c hc => ?_)) (plain_bool _))
          · obtain ⟨k, -, rfl⟩ := List.mem_map.1 hc; rfl
          · obtain ⟨k, -, rfl⟩ := List.mem_map.1 hc; exact gE_Message 7 k
        apply bool_eq
        simp only [decide_eq_true_eq]
        omega
    · refine ⟨0, .lst true [], [], r, 1, 0, 0, by omega, rfl, rfl, rfl, ?_, rfl, LAcc.lst (by simp), rfl, by omega, rfl⟩
      simp only [upd_eq, Nat.reduceEqDiff, if_true]
      simp
theorem p_sl7Messages (l : List Int) (hb : Eng.Bytes l) (hl : l.length ≤ 1000) : pure Try.prog cfg0 29 Try.f29 [bytesL l] = some (.tup [.lst false ((allM l).1.map encMessage), .v (.bool (allM l).2)], true) := (pq_sl7Messages l hb hl).1
theorem c_sl7Messages (l : List Int) (hb : Eng.Bytes l) (hl : l.length ≤ 1000) : ∀ H, call Try.prog cfg0 0 29 [bytesL l] H = some (.tup [.lst false ((allM l).1.map encMessage), .v (.bool (allM l).2)], H) :=
  call_fz Try.func29 rfl ok_sl7Messages rfl (by simp only [fz_cons, fz_nil, go_sem, and_self]) (pq_sl7Messages l hb hl).1
theorem o_sl7Messages (l : List Int) (hb : Eng.Bytes l) (hl : l.length ≤ 1000) : ∀ H, call Try.prog cfg0 1 29 [bytesL l] H = mat depthD (.tup [.lst false ((allM l).1.map encMessage), .v (.bool (allM l).2)]) H := fun H =>
  call_ofO Try.func29 rfl ok_sl7Messages rfl (mapM_self fun x hx => ((show ∀ x ∈ ([bytesL l] : List AV), Fz depthD x by simp only [fz_cons, fz_nil, go_sem, and_self]) x hx).1 H) (pq_sl7Messages l hb hl).2

theorem allM_nil_of {l : List Int} (h : ¬ 300 < l.length) (ha : (allM l).2 = false) : dmC l = 5 ∧ dmL l = [] := by
  unfold dmC dmL
  rw [if_neg h, if_neg h, ha]
  exact ⟨rfl, rfl⟩
theorem fz_res (c : Int) (ms : List MessageM) : Fz depthD (.agg [.v (.int .i64 c), .lst false (ms.map encMessage)]) := Fz.agg (n := 11) fun x hx => by
  simp only [List.mem_cons, List.not_mem_nil, or_false] at hx
  rcases hx with rfl | rfl
  · exact Fz.int _ _ _
  · exact fz_rows (n := 10) (fun k => fzE_Message 8 k) ms
theorem ok_sDecodeMessages : fnOk Try.prog cfg0 5 Try.f5 = true := by kernel_rfl
theorem p_sDecodeMessages (l : List Int) (hb : Eng.Bytes l) (hl : l.length ≤ 1048576) : ∃ cl, pure Try.prog cfg0 5 Try.f5 [bytesL l] = some (.agg [.v (.int .i64 (dmC l)), .lst false ((dmL l).map encMessage)], cl) := by
  have key : ∃ v cl, v = (.agg [.v (.int .i64 (dmC l)), .lst false ((dmL l).map encMessage)] : AV) ∧ pure Try.prog cfg0 5 Try.f5 [bytesL l] = some (v, cl) := by
    refine pure_ex (rs := [.cell 2 25]) rfl rfl ?_
    have hp0 : ∀ b, cfg0.pol 5 b = 0 := fun b => rfl
    by_cases hbig : 300 < l.length
    · have h1 : dmC l = 2 := if_pos hbig
      have h2 : dmL l = [] := if_pos hbig
      rw [h1, h2]
      repeat' (first | ((first | refine wSeqr (fun xx hx => ?_) | refine wSeqrF (fun xx hx => ?_) | refine wIf (fun xx hx => ?_) | refine wReg (fun xx hx => ?_) | refine wRegF (fun xx hx => ?_) | (refine wRet ?_; (try simp only [thenQ, blockQ]); (try (subst hQQ; (try simp only [thenQ, blockQ]))); refine ends_by (fun xx hx => ?_))); have hc := trivial; (repeat' (simp only [hc, Nat.reduceBEq, go_sem, Nat.reduceAdd, Nat.reduceMul, Nat.reduceSub, Nat.reduceEqDiff, Nat.reduceLT, Nat.reduceLeDiff, Int.reduceEq, Int.reduceLT, Int.reduceLE, reduceIte, aresults, aresult, hp0] at hx; (try ((first | rw [guardL_if] at hx | rw [guardF_if] at hx); split at hx <;> rename_i hc)))); all_goals (subst hx; first | (refine ⟨_, rfl, fun ht => ?_, fun ht => ?_⟩ <;> (try simp only [Bool.not_eq_true', Bool.not_eq_false', Bool.and_eq_true, Bool.and_eq_false_iff, Bool.or_eq_true, Bool.or_eq_false_iff, decide_eq_true_eq, decide_eq_false_iff_not, beq_iff_eq, bne_iff_ne, Bool.not_true, Bool.not_false, Bool.true_eq_false, Bool.false_eq_true, ne_eq, Decidable.not_not, inB_t, inB_f] at ht)) | (refine ⟨_, rfl, ?_⟩; (try simp only [tupOf])))) | refine wSkip ?_ | (refine wExit ?_; simp only [thenQ, blockQ, reduceIte, Nat.reduceEqDiff]) | refine wSeq ?_ | refine wBlock ?_ | (subst hQQ; (try simp only [thenQ, blockQ, reduceIte, Nat.reduceEqDiff])))
      all_goals first
        | (exfalso; (try simp only [Bool.not_eq_true', Bool.not_eq_false', Bool.and_eq_true, Bool.and_eq_false_iff, Bool.or_eq_true, Bool.or_eq_false_iff, decide_eq_true_eq, decide_eq_false_iff_not, beq_iff_eq, bne_iff_ne, Bool.not_true, Bool.not_false, Bool.true_eq_false, Bool.false_eq_true, ne_eq, Decidable.not_not, inB_t, inB_f] at *); omega)
        | skip
      all_goals exact dirty rfl
    have hm := c_sl7Messages l hb (by omega)
    cases hok : (allM l).2 with
    | false =>
      obtain ⟨h1, h2⟩ := allM_nil_of hbig hok
      rw [h1, h2]
      rw [hok] at hm
      repeat' (first | ((first | refine wSeqr (fun xx hx => ?_) | refine wSeqrF (fun xx hx => ?_) | refine wIf (fun xx hx => ?_) | refine wReg (fun xx hx => ?_) | refine wRegF (fun xx hx => ?_) | (refine wRet ?_; (try simp only [thenQ, blockQ]); (try (subst hQQ; (try simp only [thenQ, blockQ]))); refine ends_by (fun xx hx => ?_))); have hc := trivial; (repeat' (simp only [hc, Nat.reduceBEq, go_sem, Nat.reduceAdd, Nat.reduceMul, Nat.reduceSub, Nat.reduceEqDiff, Nat.reduceLT, Nat.reduceLeDiff, Int.reduceEq, Int.reduceLT, Int.reduceLE, reduceIte, aresults, aresult, hp0, hm] at hx; (try ((first | rw [guardL_if] at hx | rw [guardF_if] at hx); split at hx <;> rename_i hc)))); all_goals (subst hx; first | (refine ⟨_, rfl, fun ht => ?_, fun ht => ?_⟩ <;> (try simp only [Bool.not_eq_true', Bool.not_eq_false', Bool.and_eq_true, Bool.and_eq_false_iff, Bool.or_eq_true, Bool.or_eq_false_iff, decide_eq_true_eq, decide_eq_false_iff_not, beq_iff_eq, bne_iff_ne, Bool.not_true, Bool.not_false, Bool.true_eq_false, Bool.false_eq_true, ne_eq, Decidable.not_not, inB_t, inB_f] at ht)) | (refine ⟨_, rfl, ?_⟩; (try simp only [tupOf])))) | refine wSkip ?_ | (refine wExit ?_; simp only [thenQ, blockQ, reduceIte, Nat.reduceEqDiff]) | refine wSeq ?_ | refine wBlock ?_ | (subst hQQ; (try simp only [thenQ, blockQ, reduceIte, Nat.reduceEqDiff])))
      all_goals first
        | (exfalso; (try simp only [Bool.not_eq_true', Bool.not_eq_false', Bool.and_eq_true, Bool.and_eq_false_iff, Bool.or_eq_true, Bool.or_eq_false_iff, decide_eq_true_eq, decide_eq_false_iff_not, beq_iff_eq, bne_iff_ne, Bool.not_true, Bool.not_false, Bool.true_eq_false, Bool.false_eq_true, ne_eq, Decidable.not_not, inB_t, inB_f] at *); omega)
        | skip
      all_goals exact dirty rfl
    | true =>
      have h1 : dmC l = 0 := by unfold dmC; rw [if_neg hbig, if_pos hok]
      have h2 : dmL l = (allM l).1 := by unfold dmL; rw [if_neg hbig, if_pos hok]
      rw [h1, h2]
      rw [hok] at hm
      repeat' (first | ((first | refine wSeqr (fun xx hx => ?_) | refine wSeqrF (fun xx hx => ?_) | refine wIf (fun xx hx => ?_) | refine wReg (fun xx hx => ?_) | refine wRegF (fun xx hx => ?_) | (refine wRet ?_; (try simp only [thenQ, blockQ]); (try (subst hQQ; (try simp only [thenQ, blockQ]))); refine ends_by (fun xx hx => ?_))); have hc := trivial; (repeat' (simp only [hc, Nat.reduceBEq, go_sem, Nat.reduceAdd, Nat.reduceMul, Nat.reduceSub, Nat.reduceEqDiff, Nat.reduceLT, Nat.reduceLeDiff, Int.reduceEq, Int.reduceLT, Int.reduceLE, reduceIte, aresults, aresult, hp0, hm] at hx; (try ((first | rw [guardL_if] at hx | rw [guardF_if] at hx); split at hx <;> rename_i hc)))); all_goals (subst hx; first | (refine ⟨_, rfl, fun ht => ?_, fun ht => ?_⟩ <;> (try simp only [Bool.not_eq_true', Bool.not_eq_false', Bool.and_eq_true, Bool.and_eq_false_iff, Bool.or_eq_true, Bool.or_eq_false_iff, decide_eq_true_eq, decide_eq_false_iff_not, beq_iff_eq, bne_iff_ne, Bool.not_true, Bool.not_false, Bool.true_eq_false, Bool.false_eq_true, ne_eq, Decidable.not_not, inB_t, inB_f] at ht)) | (refine ⟨_, rfl, ?_⟩; (try simp only [tupOf])))) | refine wSkip ?_ | (refine wExit ?_; simp only [thenQ, blockQ, reduceIte, Nat.reduceEqDiff]) | refine wSeq ?_ | refine wBlock ?_ | (subst hQQ; (try simp only [thenQ, blockQ, reduceIte, Nat.reduceEqDiff])))
      all_goals first
        | (exfalso; (try simp only [Bool.not_eq_true', Bool.not_eq_false', Bool.and_eq_true, Bool.and_eq_false_iff, Bool.or_eq_true, Bool.or_eq_false_iff, decide_eq_true_eq, decide_eq_false_iff_not, beq_iff_eq, bne_iff_ne, Bool.not_true, Bool.not_false, Bool.true_eq_false, Bool.false_eq_true, ne_eq, Decidable.not_not, inB_t, inB_f] at *); omega)
        | skip
      all_goals exact dirty (fz_deep (fz_res _ _) _)
  obtain ⟨v, cl, rfl, hp⟩ := key
  exact ⟨cl, hp⟩
theorem c_sDecodeMessages (l : List Int) (hb : Eng.Bytes l) (hl : l.length ≤ 1048576) : ∀ H, call Try.prog cfg0 0 5 [bytesL l] H = some (.agg [.v (.int .i64 (dmC l)), .lst false ((dmL l).map encMessage)], H) := fun H => by
  obtain ⟨cl, hp⟩ := p_sDecodeMessages l hb hl
  exact call_fz Try.func5 rfl ok_sDecodeMessages rfl (by simp only [fz_cons, fz_nil, go_sem, and_self]) hp H

end
end Go.Proofs.Ytmpkcilehideiaa
