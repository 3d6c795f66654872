/- Contracts: fresh letters, the program's side. -/
import Derived.Test.YtmobkpfalcfepaaK11
namespace Go.Proofs.Ytmobkpfalcfepaa
open Go Go.RowKit Go.Proofs.Ytmobkpfalcfepaa.Eng
set_option linter.unusedSimpArgs false
set_option linter.unusedVariables false
set_option maxRecDepth 100000
set_option maxHeartbeats 2000000
noncomputable section
theorem aslice_rows {P : Program} {H : Hp} {e : Env} {t el sz : TypeId} {xs : List (List AV)} {hi : Operand} {b : Nat} (hu : P.underlying t = some (.slice el)) (hz : szOf P el = some sz) (hs : ∀ c ∈ xs, c.length = sz) (hb : natOf (opd e hi) = some b) (h2 : b ≤ xs.length) :
    aslice P H e t (.lst false xs) none (some hi) none = some (.lst false (xs.take b)) := by
  have h3 : xs.all (fun c => decide (c.length = sz)) = true := by simpa using hs
  simp only [aslice, hu, hz, Option.bind_some, bound, hb, h3, h2, Nat.zero_le, and_self, if_true, Bool.false_and, List.drop_zero, Nat.sub_zero]
theorem ok_iIsFresh : fnOk Try.prog cfg0 45 Try.f45 = true := by kernel_rfl
theorem p_iIsFresh (t : StateM) (hok : t.ok 1048576) : pure Try.prog cfg0 45 Try.f45 [.agg [.lst false (t.Nodes.map encNodeState), .lst false (t.Flights.map encFlight), i64L t.Codes]] = some (.v (.bool (freshFrom t t.Flights 0)), true) := by
  refine pure_wp (rs := [.tmp 2]) rfl rfl ?_
  have hl0 := hok.1.1
  have hl1 := hok.2.1.1
  repeat' (first | ((first | refine wSeqr (fun xx hx => ?_) | refine wIf (fun xx hx => ?_) | refine wReg (fun xx hx => ?_) | (refine wRet ?_; (try simp only [thenQ, blockQ]); refine ends_by (fun xx hx => ?_))); have hc := trivial; (repeat' (simp only [hc, go_sem, Nat.reduceAdd, Nat.reduceMul, Nat.reduceSub, Nat.reduceEqDiff, Nat.reduceLT, Nat.reduceLeDiff, Int.reduceEq, Int.reduceLT, Int.reduceLE, reduceIte, aresults, aresult, List.length_map] at hx; (try (rw [guardL_if] at hx; split at hx <;> rename_i hc)))); all_goals (subst hx; first | (refine ⟨_, rfl, fun ht => ?_, fun ht => ?_⟩ <;> (try simp only [Bool.not_eq_true', Bool.not_eq_false', Bool.and_eq_true, Bool.and_eq_false_iff, Bool.or_eq_true, Bool.or_eq_false_iff, decide_eq_true_eq, decide_eq_false_iff_not, beq_iff_eq, bne_iff_ne, Bool.not_true, Bool.not_false, Bool.true_eq_false, Bool.false_eq_true, ne_eq, Decidable.not_not, inB_t, inB_f] at ht)) | (refine ⟨_, rfl, ?_⟩; (try simp only [tupOf])))) | refine wSkip ?_ | (refine wExit ?_; simp only [thenQ, blockQ, reduceIte, Nat.reduceEqDiff]) | refine wSeq ?_ | refine wBlock ?_)
  refine wLoop (fun k s => ∃ (j : Nat), j + k = t.Flights.length ∧ s.1 1 = .ptr 0 0 ∧ s.1 10 = .lst false (t.Flights.map encFlight) ∧ s.1 11 = .v (.int .i64 (t.Flights.length : Nat)) ∧ s.1 12 = .v (.int .i64 (j : Nat)) ∧ (freshFrom t (t.Flights.drop j) j = freshFrom t t.Flights 0) ∧ (s.2.h 0 = some [.lst false (t.Nodes.map encNodeState), .lst false (t.Flights.map encFlight), i64L t.Codes]) ∧ (0 < s.2.g)) (fun k s hI => ?_) (t.Flights.length) _ ?_
  · obtain ⟨e, H⟩ := s
    obtain ⟨j, hj, h1, h10, h11, h12, hk, hb, hg0⟩ := hI
    simp only at h1 h10 h11 h12 hk hb hg0
    have hne : ¬ 0 = H.g := by omega
    repeat' (first | ((first | refine wSeqr (fun xx hx => ?_) | refine wIf (fun xx hx => ?_) | refine wReg (fun xx hx => ?_) | (refine wRet ?_; (try simp only [thenQ, blockQ]); refine ends_by (fun xx hx => ?_))); have hc := trivial; (repeat' (simp only [hc, go_sem, Nat.reduceAdd, Nat.reduceMul, Nat.reduceSub, Nat.reduceEqDiff, Nat.reduceLT, Nat.reduceLeDiff, Int.reduceEq, Int.reduceLT, Int.reduceLE, reduceIte, aresults, aresult, h10, h11, h12] at hx; (try (rw [guardL_if] at hx; split at hx <;> rename_i hc)))); all_goals (subst hx; first | (refine ⟨_, rfl, fun ht => ?_, fun ht => ?_⟩ <;> (try simp only [Bool.not_eq_true', Bool.not_eq_false', Bool.and_eq_true, Bool.and_eq_false_iff, Bool.or_eq_true, Bool.or_eq_false_iff, decide_eq_true_eq, decide_eq_false_iff_not, beq_iff_eq, bne_iff_ne, Bool.not_true, Bool.not_false, Bool.true_eq_false, Bool.false_eq_true, ne_eq, Decidable.not_not, inB_t, inB_f] at ht)) | (refine ⟨_, rfl, ?_⟩; (try simp only [tupOf])))) | refine wSkip ?_ | (refine wExit ?_; simp only [thenQ, blockQ, reduceIte, Nat.reduceEqDiff]) | refine wSeq ?_ | refine wBlock ?_)
    · have hlt : j < t.Flights.length := by omega
      obtain ⟨f, hg, hd, hm⟩ := at_drop hlt
      have hg' := map_at (f := encFlight) hg
      have hfd := (hok.2.1.2 f hm).2
      have hrh := c_iReadHead f.Data hfd.1 hfd.2
      unfold letRes at hrh
      rw [hd, freshFrom] at hk
      by_cases hz : (readHead f.Data).1 = 0
      rotate_left
      · repeat' (first | ((first | refine wSeqr (fun xx hx => ?_) | refine wIf (fun xx hx => ?_) | refine wReg (fun xx hx => ?_) | (refine wRet ?_; (try simp only [thenQ, blockQ]); refine ends_by (fun xx hx => ?_))); have hc := trivial; (repeat' (simp only [hc, go_sem, Nat.reduceAdd, Nat.reduceMul, Nat.reduceSub, Nat.reduceEqDiff, Nat.reduceLT, Nat.reduceLeDiff, Int.reduceEq, Int.reduceLT, Int.reduceLE, reduceIte, aresults, aresult, h10, h12, hg', hp0, hrh, hne, wrap_succ (show j < 9223372036854775807 by omega)] at hx; (try (rw [guardL_if] at hx; split at hx <;> rename_i hc)))); all_goals (subst hx; first | (refine ⟨_, rfl, fun ht => ?_, fun ht => ?_⟩ <;> (try simp only [Bool.not_eq_true', Bool.not_eq_false', Bool.and_eq_true, Bool.and_eq_false_iff, Bool.or_eq_true, Bool.or_eq_false_iff, decide_eq_true_eq, decide_eq_false_iff_not, beq_iff_eq, bne_iff_ne, Bool.not_true, Bool.not_false, Bool.true_eq_false, Bool.false_eq_true, ne_eq, Decidable.not_not, inB_t, inB_f] at ht) <;> (try (exfalso; omega))) | (refine ⟨_, rfl, ?_⟩; (try simp only [tupOf])))) | refine wSkip ?_ | (refine wExit ?_; simp only [thenQ, blockQ, reduceIte, Nat.reduceEqDiff]) | refine wSeq ?_ | refine wBlock ?_)
        have hfa : freshAt t j f = true := by unfold freshAt; rw [if_neg hz]
        rw [hfa, Bool.true_and] at hk
        refine ⟨_, Nat.sub_lt (by omega) Nat.one_pos, j + 1, by omega, by simp only [upd_eq, Nat.reduceEqDiff, if_false, if_true, h1, h10, h11, h12], by simp only [upd_eq, Nat.reduceEqDiff, if_false, if_true, h1, h10, h11, h12], by simp only [upd_eq, Nat.reduceEqDiff, if_false, if_true, h1, h10, h11, h12], by simp only [upd_eq, Nat.reduceEqDiff, if_false, if_true, h1, h10, h11, h12], ?_⟩; exact ⟨hk, by simp only [Hp.set_h, Hp.new_h, Hp.set_g, Hp.new_g, hne, g_ne5, if_false]; exact hb, by simp⟩
      · have hsd := readHead_ok hz
        have hfa : freshAt t j f = (counterOk t (readHead f.Data).2 && (t.Flights.take j).all (pairOk f)) := by unfold freshAt; rw [if_pos hz]
        rw [hfa] at hk
        obtain ⟨g4, hg4⟩ : ∃ g4, g4 = H.g := ⟨_, rfl⟩
        have hne4 : ¬ 0 = g4 := by omega
        have hnat : natOf (.v (.int .i64 (readHead f.Data).2.Sender)) = some (readHead f.Data).2.Sender.toNat := by simp [natOf, hsd.1]
        have his := cp_iState_is t (readHead f.Data).2.Sender hl0
        by_cases hin : (readHead f.Data).2.Sender < t.Nodes.length
        · have hi2 : (readHead f.Data).2.Sender.toNat < t.Nodes.length := by omega
          obtain ⟨n, hgn, -, -⟩ := at_drop hi2
          have hgn' := map_at (f := encNodeState) hgn
          have hco : counterOk t (readHead f.Data).2 = decide ((readHead f.Data).2.Counter < n.Counter) := by unfold counterOk; rw [hgn]
          have hib : inB (readHead f.Data).2.Sender 0 ((t.Nodes.length : Int) - 1) = true := inB_t.2 (by omega)
          repeat' (first | ((first | refine wSeqr (fun xx hx => ?_) | refine wIf (fun xx hx => ?_) | refine wReg (fun xx hx => ?_) | (refine wRet ?_; (try simp only [thenQ, blockQ]); refine ends_by (fun xx hx => ?_))); have hc := trivial; (repeat' (simp only [hc, go_sem, Nat.reduceAdd, Nat.reduceMul, Nat.reduceSub, Nat.reduceEqDiff, Nat.reduceLT, Nat.reduceLeDiff, Int.reduceEq, Int.reduceLT, Int.reduceLE, reduceIte, aresults, aresult, h1, h10, h12, hb, hg', hp0, hrh, hne, hne4, hz, his, hib, hnat, hgn', not_true_eq_false, decide_false, ← hg4] at hx; (try (rw [guardL_if] at hx; split at hx <;> rename_i hc)))); all_goals (subst hx; first | (refine ⟨_, rfl, fun ht => ?_, fun ht => ?_⟩ <;> (try simp only [Bool.not_eq_true', Bool.not_eq_false', Bool.and_eq_true, Bool.and_eq_false_iff, Bool.or_eq_true, Bool.or_eq_false_iff, decide_eq_true_eq, decide_eq_false_iff_not, beq_iff_eq, bne_iff_ne, Bool.not_true, Bool.not_false, Bool.true_eq_false, Bool.false_eq_true, ne_eq, Decidable.not_not, inB_t, inB_f] at ht) <;> (try (exfalso; omega))) | (refine ⟨_, rfl, ?_⟩; (try simp only [tupOf])))) | refine wSkip ?_ | (refine wExit ?_; simp only [thenQ, blockQ, reduceIte, Nat.reduceEqDiff]) | refine wSeq ?_ | refine wBlock ?_)
          · refine gives_boolv ?_
            rw [← hk, hco, decide_eq_false (by omega)]; simp
          have hct : counterOk t (readHead f.Data).2 = true := by rw [hco]; exact decide_eq_true (by omega)
          rw [hct, Bool.true_and] at hk
          refine wReg (fun xx hx => ?_); have hc := trivial; (repeat' (simp only [hc, go_sem, Nat.reduceAdd, Nat.reduceMul, Nat.reduceSub, Nat.reduceEqDiff, Nat.reduceLT, Nat.reduceLeDiff, Int.reduceEq, Int.reduceLT, Int.reduceLE, reduceIte, aresults, aresult, hp0, h1, hb, hne, hne4, ← hg4] at hx; (try (rw [guardL_if] at hx; split at hx <;> rename_i hc)))); generalize hq : aslice Try.prog _ _ _ _ _ _ _ = q at hx
          have hq2 := hq.symm.trans (aslice_rows (b := j) (sz := 2) u66 sz156 (fun c hc => by obtain ⟨x, -, rfl⟩ := List.mem_map.1 hc; rfl) (by simp only [go_sem, Nat.reduceAdd, Nat.reduceMul, Nat.reduceSub, Nat.reduceEqDiff, Nat.reduceLT, Nat.reduceLeDiff, Int.reduceEq, Int.reduceLT, Int.reduceLE, reduceIte, aresults, aresult]) (by simp; omega))
          rw [← List.map_take] at hq2
          subst hq2
          have hc := trivial; (repeat' (simp only [hc, go_sem, Nat.reduceAdd, Nat.reduceMul, Nat.reduceSub, Nat.reduceEqDiff, Nat.reduceLT, Nat.reduceLeDiff, Int.reduceEq, Int.reduceLT, Int.reduceLE, reduceIte, aresults, aresult] at hx; (try (rw [guardL_if] at hx; split at hx <;> rename_i hc)))); all_goals (subst hx; refine ⟨_, rfl, ?_⟩)
          repeat' (first | ((first | refine wSeqr (fun xx hx => ?_) | refine wIf (fun xx hx => ?_) | refine wReg (fun xx hx => ?_) | (refine wRet ?_; (try simp only [thenQ, blockQ]); refine ends_by (fun xx hx => ?_))); have hc := trivial; (repeat' (simp only [hc, go_sem, Nat.reduceAdd, Nat.reduceMul, Nat.reduceSub, Nat.reduceEqDiff, Nat.reduceLT, Nat.reduceLeDiff, Int.reduceEq, Int.reduceLT, Int.reduceLE, reduceIte, aresults, aresult, List.length_map] at hx; (try (rw [guardL_if] at hx; split at hx <;> rename_i hc)))); all_goals (subst hx; first | (refine ⟨_, rfl, fun ht => ?_, fun ht => ?_⟩ <;> (try simp only [Bool.not_eq_true', Bool.not_eq_false', Bool.and_eq_true, Bool.and_eq_false_iff, Bool.or_eq_true, Bool.or_eq_false_iff, decide_eq_true_eq, decide_eq_false_iff_not, beq_iff_eq, bne_iff_ne, Bool.not_true, Bool.not_false, Bool.true_eq_false, Bool.false_eq_true, ne_eq, Decidable.not_not, inB_t, inB_f] at ht)) | (refine ⟨_, rfl, ?_⟩; (try simp only [tupOf])))) | refine wSkip ?_ | (refine wExit ?_; simp only [thenQ, blockQ, reduceIte, Nat.reduceEqDiff]) | refine wSeq ?_ | refine wBlock ?_)
          refine wLoop (fun k s => ∃ (i : Nat), i + k = j ∧ s.1 1 = .ptr 0 0 ∧ s.1 4 = .ptr g4 0 ∧ s.1 5 = .ptr (g4 + 1) 0 ∧ s.1 10 = .lst false (t.Flights.map encFlight) ∧ s.1 11 = .v (.int .i64 (t.Flights.length : Nat)) ∧ s.1 12 = .v (.int .i64 (j : Nat)) ∧ s.1 44 = .lst false ((t.Flights.take j).map encFlight) ∧ s.1 45 = .v (.int .i64 ((t.Flights.take j).length : Nat)) ∧ s.1 46 = .v (.int .i64 (i : Nat)) ∧ (((t.Flights.take j).drop i).all (pairOk f) = (t.Flights.take j).all (pairOk f)) ∧ (s.2.h 0 = some [.lst false (t.Nodes.map encNodeState), .lst false (t.Flights.map encFlight), i64L t.Codes]) ∧ (s.2.h g4 = some [.v (.int .i64 f.To), bytesL f.Data]) ∧ (s.2.h (g4 + 1) = some [.v (.int .i64 0), .v (.int .i64 (readHead f.Data).2.Key), .v (.int .i64 (readHead f.Data).2.Sender), .v (.int .i64 (readHead f.Data).2.Counter), bytesL (readHead f.Data).2.Text]) ∧ (g4 + 1 < s.2.g ∧ 0 < s.2.g)) (fun k s hI => ?_) (j) _ ?_
          · obtain ⟨e, H⟩ := s
            obtain ⟨i, hi, h1, h4, h5, h10, h11, h12, h44, h45, h46, hpa, hbz, hb4, hb5, hgs⟩ := hI
            simp only at h1 h4 h5 h10 h11 h12 h44 h45 h46 hpa hbz hb4 hb5 hgs
            have hlj : (t.Flights.take j).length = j := by simp; omega
            have e0 : ¬ 0 = H.g := by omega
            have e4 : ¬ g4 = H.g := by omega
            have e5 : ¬ g4 + 1 = H.g := by omega
            have e4' : ¬ g4 = H.g + 1 := by omega
            have e5' : ¬ g4 = H.g := by omega
            repeat' (first | ((first | refine wSeqr (fun xx hx => ?_) | refine wIf (fun xx hx => ?_) | refine wReg (fun xx hx => ?_) | (refine wRet ?_; (try simp only [thenQ, blockQ]); refine ends_by (fun xx hx => ?_))); have hc := trivial; (repeat' (simp only [hc, go_sem, Nat.reduceAdd, Nat.reduceMul, Nat.reduceSub, Nat.reduceEqDiff, Nat.reduceLT, Nat.reduceLeDiff, Int.reduceEq, Int.reduceLT, Int.reduceLE, reduceIte, aresults, aresult, h12, h44, h45, h46, wrap_succ (show j < 9223372036854775807 by omega)] at hx; (try (rw [guardL_if] at hx; split at hx <;> rename_i hc)))); all_goals (subst hx; first | (refine ⟨_, rfl, fun ht => ?_, fun ht => ?_⟩ <;> (try simp only [Bool.not_eq_true', Bool.not_eq_false', Bool.and_eq_true, Bool.and_eq_false_iff, Bool.or_eq_true, Bool.or_eq_false_iff, decide_eq_true_eq, decide_eq_false_iff_not, beq_iff_eq, bne_iff_ne, Bool.not_true, Bool.not_false, Bool.true_eq_false, Bool.false_eq_true, ne_eq, Decidable.not_not, inB_t, inB_f] at ht)) | (refine ⟨_, rfl, ?_⟩; (try simp only [tupOf])))) | refine wSkip ?_ | (refine wExit ?_; simp only [thenQ, blockQ, reduceIte, Nat.reduceEqDiff]) | refine wSeq ?_ | refine wBlock ?_)
            · have hij : i < j := by omega
              obtain ⟨g, hgi, hdi, -⟩ := at_drop (l := t.Flights.take j) (j := i) (by omega)
              have hgi2 : t.Flights[i]? = some g := by rw [List.getElem?_take, if_pos hij] at hgi; exact hgi
              have hgi' := map_at (f := encFlight) hgi
              have hgd := (hok.2.1.2 g (List.mem_of_getElem? hgi2)).2
              have hrg := c_iReadHead g.Data hgd.1 hgd.2
              unfold letRes at hrg
              rw [hdi, List.all_cons] at hpa
              repeat' (first | ((first | refine wSeqr (fun xx hx => ?_) | refine wIf (fun xx hx => ?_) | refine wReg (fun xx hx => ?_) | (refine wRet ?_; (try simp only [thenQ, blockQ]); refine ends_by (fun xx hx => ?_))); have hc := trivial; (repeat' (simp only [hc, go_sem, Nat.reduceAdd, Nat.reduceMul, Nat.reduceSub, Nat.reduceEqDiff, Nat.reduceLT, Nat.reduceLeDiff, Int.reduceEq, Int.reduceLT, Int.reduceLE, reduceIte, aresults, aresult, h4, h5, h44, h46, hb4, hb5, hgi', hp0, hrg, e0, e4, e5, e4', Nat.add_right_cancel_iff, c_iSameLetters (readHead f.Data).2 (readHead g.Data).2 (readHead_bytes _) (readHead_bytes _), c_bEqual f.Data g.Data hfd.1 hgd.1, wrap_succ (show i < 9223372036854775807 by omega)] at hx; (try (rw [guardL_if] at hx; split at hx <;> rename_i hc)))); all_goals (subst hx; first | (refine ⟨_, rfl, fun ht => ?_, fun ht => ?_⟩ <;> (try simp only [Bool.not_eq_true', Bool.not_eq_false', Bool.and_eq_true, Bool.and_eq_false_iff, Bool.or_eq_true, Bool.or_eq_false_iff, decide_eq_true_eq, decide_eq_false_iff_not, beq_iff_eq, bne_iff_ne, Bool.not_true, Bool.not_false, Bool.true_eq_false, Bool.false_eq_true, ne_eq, Decidable.not_not, inB_t, inB_f] at ht)) | (refine ⟨_, rfl, ?_⟩; (try simp only [tupOf])))) | refine wSkip ?_ | (refine wExit ?_; simp only [thenQ, blockQ, reduceIte, Nat.reduceEqDiff]) | refine wSeq ?_ | refine wBlock ?_)
              all_goals (try simp only [Bool.not_eq_true', Bool.not_eq_false', Bool.and_eq_true, Bool.and_eq_false_iff, Bool.or_eq_true, Bool.or_eq_false_iff, decide_eq_true_eq, decide_eq_false_iff_not, beq_iff_eq, bne_iff_ne, Bool.not_true, Bool.not_false, Bool.true_eq_false, Bool.false_eq_true, ne_eq, Decidable.not_not, inB_t, inB_f] at *)
              any_goals (refine gives_boolv ?_; rw [← hk, ← hpa, show pairOk f g = false by simp_all [pairOk]]; simp; done)
              all_goals (
                have hpt : pairOk f g = true := by simp_all [pairOk]
                rw [hpt, Bool.true_and] at hpa
                refine ⟨_, Nat.sub_lt (by omega) Nat.one_pos, i + 1, by omega, by simp only [upd_eq, Nat.reduceEqDiff, if_false, if_true, h1, h4, h5, h10, h11, h12, h44, h45, h46], by simp only [upd_eq, Nat.reduceEqDiff, if_false, if_true, h1, h4, h5, h10, h11, h12, h44, h45, h46], by simp only [upd_eq, Nat.reduceEqDiff, if_false, if_true, h1, h4, h5, h10, h11, h12, h44, h45, h46], by simp only [upd_eq, Nat.reduceEqDiff, if_false, if_true, h1, h4, h5, h10, h11, h12, h44, h45, h46], by simp only [upd_eq, Nat.reduceEqDiff, if_false, if_true, h1, h4, h5, h10, h11, h12, h44, h45, h46], by simp only [upd_eq, Nat.reduceEqDiff, if_false, if_true, h1, h4, h5, h10, h11, h12, h44, h45, h46], by simp only [upd_eq, Nat.reduceEqDiff, if_false, if_true, h1, h4, h5, h10, h11, h12, h44, h45, h46], by simp only [upd_eq, Nat.reduceEqDiff, if_false, if_true, h1, h4, h5, h10, h11, h12, h44, h45, h46], by simp only [upd_eq, Nat.reduceEqDiff, if_false, if_true, h1, h4, h5, h10, h11, h12, h44, h45, h46], ?_⟩
                exact ⟨hpa, by simp only [Hp.set_h, Hp.new_h, Hp.set_g, Hp.new_g, e0, g_ne5, if_false]; exact hbz, by simp only [Hp.set_h, Hp.new_h, Hp.set_g, Hp.new_g, e4, e4', if_false]; exact hb4, by simp only [Hp.set_h, Hp.new_h, Hp.set_g, Hp.new_g, e5, Nat.add_right_cancel_iff, e4, if_false]; exact hb5, by simp; omega⟩)
            · rw [List.drop_of_length_le (by omega)] at hpa
              rw [← hpa, List.all_nil, Bool.true_and] at hk
              
              refine ⟨_, Nat.sub_lt (by omega) Nat.one_pos, j + 1, by omega, by simp only [upd_eq, Nat.reduceEqDiff, if_false, if_true, h1, h10, h11, h12], by simp only [upd_eq, Nat.reduceEqDiff, if_false, if_true, h1, h10, h11, h12], by simp only [upd_eq, Nat.reduceEqDiff, if_false, if_true, h1, h10, h11, h12], by simp only [upd_eq, Nat.reduceEqDiff, if_false, if_true, h1, h10, h11, h12], ?_⟩; exact ⟨hk, hbz, hgs.2⟩
          · refine ⟨0, by omega, h1, rfl, rfl, h10, h11, h12, rfl, by simp [upd_eq], rfl, rfl, ?_, ?_, ?_, ?_⟩
            · simp only [Hp.set_h, Hp.new_h, Hp.set_g, Hp.new_g, hne, hne4, ← hg4, g_ne5, if_false]; exact hb
            · simp only [Hp.set_h, Hp.new_h, Hp.set_g, Hp.new_g, ← hg4, g_ne1, if_false, if_true]
            · simp only [Hp.set_h, Hp.new_h, Hp.set_g, Hp.new_g, ← hg4, g_ne1, if_false, if_true]
            · simp; omega
        · have hct : counterOk t (readHead f.Data).2 = true := by unfold counterOk; rw [List.getElem?_eq_none (by omega)]
          rw [hct, Bool.true_and] at hk
          have hib : inB (readHead f.Data).2.Sender 0 ((t.Nodes.length : Int) - 1) = false := inB_f.2 (by omega)
          repeat' (first | ((first | refine wSeqr (fun xx hx => ?_) | refine wIf (fun xx hx => ?_) | refine wReg (fun xx hx => ?_) | (refine wRet ?_; (try simp only [thenQ, blockQ]); refine ends_by (fun xx hx => ?_))); have hc := trivial; (repeat' (simp only [hc, go_sem, Nat.reduceAdd, Nat.reduceMul, Nat.reduceSub, Nat.reduceEqDiff, Nat.reduceLT, Nat.reduceLeDiff, Int.reduceEq, Int.reduceLT, Int.reduceLE, reduceIte, aresults, aresult, h1, h10, h12, hb, hg', hp0, hrh, hne, hne4, hz, his, hib, not_true_eq_false, decide_false, ← hg4] at hx; (try (rw [guardL_if] at hx; split at hx <;> rename_i hc)))); all_goals (subst hx; first | (refine ⟨_, rfl, fun ht => ?_, fun ht => ?_⟩ <;> (try simp only [Bool.not_eq_true', Bool.not_eq_false', Bool.and_eq_true, Bool.and_eq_false_iff, Bool.or_eq_true, Bool.or_eq_false_iff, decide_eq_true_eq, decide_eq_false_iff_not, beq_iff_eq, bne_iff_ne, Bool.not_true, Bool.not_false, Bool.true_eq_false, Bool.false_eq_true, ne_eq, Decidable.not_not, inB_t, inB_f] at ht) <;> (try (exfalso; omega))) | (refine ⟨_, rfl, ?_⟩; (try simp only [tupOf])))) | refine wSkip ?_ | (refine wExit ?_; simp only [thenQ, blockQ, reduceIte, Nat.reduceEqDiff]) | refine wSeq ?_ | refine wBlock ?_)
          refine wReg (fun xx hx => ?_); have hc := trivial; (repeat' (simp only [hc, go_sem, Nat.reduceAdd, Nat.reduceMul, Nat.reduceSub, Nat.reduceEqDiff, Nat.reduceLT, Nat.reduceLeDiff, Int.reduceEq, Int.reduceLT, Int.reduceLE, reduceIte, aresults, aresult, hp0, h1, hb, hne, hne4, ← hg4] at hx; (try (rw [guardL_if] at hx; split at hx <;> rename_i hc)))); generalize hq : aslice Try.prog _ _ _ _ _ _ _ = q at hx
          have hq2 := hq.symm.trans (aslice_rows (b := j) (sz := 2) u66 sz156 (fun c hc => by obtain ⟨x, -, rfl⟩ := List.mem_map.1 hc; rfl) (by simp only [go_sem, Nat.reduceAdd, Nat.reduceMul, Nat.reduceSub, Nat.reduceEqDiff, Nat.reduceLT, Nat.reduceLeDiff, Int.reduceEq, Int.reduceLT, Int.reduceLE, reduceIte, aresults, aresult]) (by simp; omega))
          rw [← List.map_take] at hq2
          subst hq2
          have hc := trivial; (repeat' (simp only [hc, go_sem, Nat.reduceAdd, Nat.reduceMul, Nat.reduceSub, Nat.reduceEqDiff, Nat.reduceLT, Nat.reduceLeDiff, Int.reduceEq, Int.reduceLT, Int.reduceLE, reduceIte, aresults, aresult] at hx; (try (rw [guardL_if] at hx; split at hx <;> rename_i hc)))); all_goals (subst hx; refine ⟨_, rfl, ?_⟩)
          repeat' (first | ((first | refine wSeqr (fun xx hx => ?_) | refine wIf (fun xx hx => ?_) | refine wReg (fun xx hx => ?_) | (refine wRet ?_; (try simp only [thenQ, blockQ]); refine ends_by (fun xx hx => ?_))); have hc := trivial; (repeat' (simp only [hc, go_sem, Nat.reduceAdd, Nat.reduceMul, Nat.reduceSub, Nat.reduceEqDiff, Nat.reduceLT, Nat.reduceLeDiff, Int.reduceEq, Int.reduceLT, Int.reduceLE, reduceIte, aresults, aresult, List.length_map] at hx; (try (rw [guardL_if] at hx; split at hx <;> rename_i hc)))); all_goals (subst hx; first | (refine ⟨_, rfl, fun ht => ?_, fun ht => ?_⟩ <;> (try simp only [Bool.not_eq_true', Bool.not_eq_false', Bool.and_eq_true, Bool.and_eq_false_iff, Bool.or_eq_true, Bool.or_eq_false_iff, decide_eq_true_eq, decide_eq_false_iff_not, beq_iff_eq, bne_iff_ne, Bool.not_true, Bool.not_false, Bool.true_eq_false, Bool.false_eq_true, ne_eq, Decidable.not_not, inB_t, inB_f] at ht)) | (refine ⟨_, rfl, ?_⟩; (try simp only [tupOf])))) | refine wSkip ?_ | (refine wExit ?_; simp only [thenQ, blockQ, reduceIte, Nat.reduceEqDiff]) | refine wSeq ?_ | refine wBlock ?_)
          refine wLoop (fun k s => ∃ (i : Nat), i + k = j ∧ s.1 1 = .ptr 0 0 ∧ s.1 4 = .ptr g4 0 ∧ s.1 5 = .ptr (g4 + 1) 0 ∧ s.1 10 = .lst false (t.Flights.map encFlight) ∧ s.1 11 = .v (.int .i64 (t.Flights.length : Nat)) ∧ s.1 12 = .v (.int .i64 (j : Nat)) ∧ s.1 44 = .lst false ((t.Flights.take j).map encFlight) ∧ s.1 45 = .v (.int .i64 ((t.Flights.take j).length : Nat)) ∧ s.1 46 = .v (.int .i64 (i : Nat)) ∧ (((t.Flights.take j).drop i).all (pairOk f) = (t.Flights.take j).all (pairOk f)) ∧ (s.2.h 0 = some [.lst false (t.Nodes.map encNodeState), .lst false (t.Flights.map encFlight), i64L t.Codes]) ∧ (s.2.h g4 = some [.v (.int .i64 f.To), bytesL f.Data]) ∧ (s.2.h (g4 + 1) = some [.v (.int .i64 0), .v (.int .i64 (readHead f.Data).2.Key), .v (.int .i64 (readHead f.Data).2.Sender), .v (.int .i64 (readHead f.Data).2.Counter), bytesL (readHead f.Data).2.Text]) ∧ (g4 + 1 < s.2.g ∧ 0 < s.2.g)) (fun k s hI => ?_) (j) _ ?_
          · obtain ⟨e, H⟩ := s
            obtain ⟨i, hi, h1, h4, h5, h10, h11, h12, h44, h45, h46, hpa, hbz, hb4, hb5, hgs⟩ := hI
            simp only at h1 h4 h5 h10 h11 h12 h44 h45 h46 hpa hbz hb4 hb5 hgs
            have hlj : (t.Flights.take j).length = j := by simp; omega
            have e0 : ¬ 0 = H.g := by omega
            have e4 : ¬ g4 = H.g := by omega
            have e5 : ¬ g4 + 1 = H.g := by omega
            have e4' : ¬ g4 = H.g + 1 := by omega
            have e5' : ¬ g4 = H.g := by omega
            repeat' (first | ((first | refine wSeqr (fun xx hx => ?_) | refine wIf (fun xx hx => ?_) | refine wReg (fun xx hx => ?_) | (refine wRet ?_; (try simp only [thenQ, blockQ]); refine ends_by (fun xx hx => ?_))); have hc := trivial; (repeat' (simp only [hc, go_sem, Nat.reduceAdd, Nat.reduceMul, Nat.reduceSub, Nat.reduceEqDiff, Nat.reduceLT, Nat.reduceLeDiff, Int.reduceEq, Int.reduceLT, Int.reduceLE, reduceIte, aresults, aresult, h12, h44, h45, h46, wrap_succ (show j < 9223372036854775807 by omega)] at hx; (try (rw [guardL_if] at hx; split at hx <;> rename_i hc)))); all_goals (subst hx; first | (refine ⟨_, rfl, fun ht => ?_, fun ht => ?_⟩ <;> (try simp only [Bool.not_eq_true', Bool.not_eq_false', Bool.and_eq_true, Bool.and_eq_false_iff, Bool.or_eq_true, Bool.or_eq_false_iff, decide_eq_true_eq, decide_eq_false_iff_not, beq_iff_eq, bne_iff_ne, Bool.not_true, Bool.not_false, Bool.true_eq_false, Bool.false_eq_true, ne_eq, Decidable.not_not, inB_t, inB_f] at ht)) | (refine ⟨_, rfl, ?_⟩; (try simp only [tupOf])))) | refine wSkip ?_ | (refine wExit ?_; simp only [thenQ, blockQ, reduceIte, Nat.reduceEqDiff]) | refine wSeq ?_ | refine wBlock ?_)
            · have hij : i < j := by omega
              obtain ⟨g, hgi, hdi, -⟩ := at_drop (l := t.Flights.take j) (j := i) (by omega)
              have hgi2 : t.Flights[i]? = some g := by rw [List.getElem?_take, if_pos hij] at hgi; exact hgi
              have hgi' := map_at (f := encFlight) hgi
              have hgd := (hok.2.1.2 g (List.mem_of_getElem? hgi2)).2
              have hrg := c_iReadHead g.Data hgd.1 hgd.2
              unfold letRes at hrg
              rw [hdi, List.all_cons] at hpa
              repeat' (first | ((first | refine wSeqr (fun xx hx => ?_) | refine wIf (fun xx hx => ?_) | refine wReg (fun xx hx => ?_) | (refine wRet ?_; (try simp only [thenQ, blockQ]); refine ends_by (fun xx hx => ?_))); have hc := trivial; (repeat' (simp only [hc, go_sem, Nat.reduceAdd, Nat.reduceMul, Nat.reduceSub, Nat.reduceEqDiff, Nat.reduceLT, Nat.reduceLeDiff, Int.reduceEq, Int.reduceLT, Int.reduceLE, reduceIte, aresults, aresult, h4, h5, h44, h46, hb4, hb5, hgi', hp0, hrg, e0, e4, e5, e4', Nat.add_right_cancel_iff, c_iSameLetters (readHead f.Data).2 (readHead g.Data).2 (readHead_bytes _) (readHead_bytes _), c_bEqual f.Data g.Data hfd.1 hgd.1, wrap_succ (show i < 9223372036854775807 by omega)] at hx; (try (rw [guardL_if] at hx; split at hx <;> rename_i hc)))); all_goals (subst hx; first | (refine ⟨_, rfl, fun ht => ?_, fun ht => ?_⟩ <;> (try simp only [Bool.not_eq_true', Bool.not_eq_false', Bool.and_eq_true, Bool.and_eq_false_iff, Bool.or_eq_true, Bool.or_eq_false_iff, decide_eq_true_eq, decide_eq_false_iff_not, beq_iff_eq, bne_iff_ne, Bool.not_true, Bool.not_false, Bool.true_eq_false, Bool.false_eq_true, ne_eq, Decidable.not_not, inB_t, inB_f] at ht)) | (refine ⟨_, rfl, ?_⟩; (try simp only [tupOf])))) | refine wSkip ?_ | (refine wExit ?_; simp only [thenQ, blockQ, reduceIte, Nat.reduceEqDiff]) | refine wSeq ?_ | refine wBlock ?_)
              all_goals (try simp only [Bool.not_eq_true', Bool.not_eq_false', Bool.and_eq_true, Bool.and_eq_false_iff, Bool.or_eq_true, Bool.or_eq_false_iff, decide_eq_true_eq, decide_eq_false_iff_not, beq_iff_eq, bne_iff_ne, Bool.not_true, Bool.not_false, Bool.true_eq_false, Bool.false_eq_true, ne_eq, Decidable.not_not, inB_t, inB_f] at *)
              any_goals (refine gives_boolv ?_; rw [← hk, ← hpa, show pairOk f g = false by simp_all [pairOk]]; simp; done)
              all_goals (
                have hpt : pairOk f g = true := by simp_all [pairOk]
                rw [hpt, Bool.true_and] at hpa
                refine ⟨_, Nat.sub_lt (by omega) Nat.one_pos, i + 1, by omega, by simp only [upd_eq, Nat.reduceEqDiff, if_false, if_true, h1, h4, h5, h10, h11, h12, h44, h45, h46], by simp only [upd_eq, Nat.reduceEqDiff, if_false, if_true, h1, h4, h5, h10, h11, h12, h44, h45, h46], by simp only [upd_eq, Nat.reduceEqDiff, if_false, if_true, h1, h4, h5, h10, h11, h12, h44, h45, h46], by simp only [upd_eq, Nat.reduceEqDiff, if_false, if_true, h1, h4, h5, h10, h11, h12, h44, h45, h46], by simp only [upd_eq, Nat.reduceEqDiff, if_false, if_true, h1, h4, h5, h10, h11, h12, h44, h45, h46], by simp only [upd_eq, Nat.reduceEqDiff, if_false, if_true, h1, h4, h5, h10, h11, h12, h44, h45, h46], by simp only [upd_eq, Nat.reduceEqDiff, if_false, if_true, h1, h4, h5, h10, h11, h12, h44, h45, h46], by simp only [upd_eq, Nat.reduceEqDiff, if_false, if_true, h1, h4, h5, h10, h11, h12, h44, h45, h46], by simp only [upd_eq, Nat.reduceEqDiff, if_false, if_true, h1, h4, h5, h10, h11, h12, h44, h45, h46], ?_⟩
                exact ⟨hpa, by simp only [Hp.set_h, Hp.new_h, Hp.set_g, Hp.new_g, e0, g_ne5, if_false]; exact hbz, by simp only [Hp.set_h, Hp.new_h, Hp.set_g, Hp.new_g, e4, e4', if_false]; exact hb4, by simp only [Hp.set_h, Hp.new_h, Hp.set_g, Hp.new_g, e5, Nat.add_right_cancel_iff, e4, if_false]; exact hb5, by simp; omega⟩)
            · rw [List.drop_of_length_le (by omega)] at hpa
              rw [← hpa, List.all_nil, Bool.true_and] at hk
              
              refine ⟨_, Nat.sub_lt (by omega) Nat.one_pos, j + 1, by omega, by simp only [upd_eq, Nat.reduceEqDiff, if_false, if_true, h1, h10, h11, h12], by simp only [upd_eq, Nat.reduceEqDiff, if_false, if_true, h1, h10, h11, h12], by simp only [upd_eq, Nat.reduceEqDiff, if_false, if_true, h1, h10, h11, h12], by simp only [upd_eq, Nat.reduceEqDiff, if_false, if_true, h1, h10, h11, h12], ?_⟩; exact ⟨hk, hbz, hgs.2⟩
          · refine ⟨0, by omega, h1, rfl, rfl, h10, h11, h12, rfl, by simp [upd_eq], rfl, rfl, ?_, ?_, ?_, ?_⟩
            · simp only [Hp.set_h, Hp.new_h, Hp.set_g, Hp.new_g, hne, hne4, ← hg4, g_ne5, if_false]; exact hb
            · simp only [Hp.set_h, Hp.new_h, Hp.set_g, Hp.new_g, ← hg4, g_ne1, if_false, if_true]
            · simp only [Hp.set_h, Hp.new_h, Hp.set_g, Hp.new_g, ← hg4, g_ne1, if_false, if_true]
            · simp; omega
    · rw [List.drop_of_length_le (by omega)] at hk
      exact gives_boolv hk
  · refine ⟨0, by omega, rfl, rfl, rfl, rfl, ?_⟩; exact ⟨rfl, rfl, by simp⟩
theorem c_iIsFresh (t : StateM) (hok : t.ok 1048576) : ∀ H, call Try.prog cfg0 0 45 [.agg [.lst false (t.Nodes.map encNodeState), .lst false (t.Flights.map encFlight), i64L t.Codes]] H = some (.v (.bool (freshFrom t t.Flights 0)), H) :=
  call_fz Try.func45 rfl ok_iIsFresh rfl (by simp only [fz_cons, fz_nil, go_sem, and_self]) (p_iIsFresh t hok)

end
end Go.Proofs.Ytmobkpfalcfepaa
