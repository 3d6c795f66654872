/- Contracts: fresh letters. -/
import Derived.Test.YtmobkpfalcfepaaK10
import Derived.Test.YtmobkpfalcfepaaK6
namespace Go.Proofs.Ytmobkpfalcfepaa
open Go Go.RowKit Go.Proofs.Ytmobkpfalcfepaa.Eng
set_option linter.unusedSimpArgs false
set_option linter.unusedVariables false
set_option maxRecDepth 100000
set_option maxHeartbeats 1000000
noncomputable section
theorem ok_sSameLetters : fnOk Try.prog cfg0 111 Try.f111 = true := by kernel_rfl
theorem p_sSameLetters (a b : LetterM) (ha : Eng.Bytes a.Text) (hb : Eng.Bytes b.Text) : pure Try.prog cfg0 111 Try.f111 [.agg [.v (.int .i64 a.Key), .v (.int .i64 a.Sender), .v (.int .i64 a.Counter), bytesL a.Text], .agg [.v (.int .i64 b.Key), .v (.int .i64 b.Sender), .v (.int .i64 b.Counter), bytesL b.Text]] = some (.v (.bool (decide (a = b))), true) := by
  refine pure_wp (rs := [.tmp 4]) rfl rfl ?_
  repeat' (first | ((first | refine wSeqr (fun xx hx => ?_) | refine wIf (fun xx hx => ?_) | refine wReg (fun xx hx => ?_) | (refine wRet ?_; (try simp only [thenQ, blockQ]); refine ends_by (fun xx hx => ?_))); have hc := trivial; (repeat' (simp only [hc, go_sem, Nat.reduceAdd, Nat.reduceMul, Nat.reduceSub, Nat.reduceEqDiff, Nat.reduceLT, Nat.reduceLeDiff, Int.reduceEq, Int.reduceLT, Int.reduceLE, reduceIte, aresults, aresult, hp0, conv_b, strOf_eq ha hb] at hx; (try (rw [guardL_if] at hx; split at hx <;> rename_i hc)))); all_goals (subst hx; first | (refine ⟨_, rfl, fun ht => ?_, fun ht => ?_⟩ <;> (try simp only [Bool.not_eq_true', Bool.not_eq_false', Bool.and_eq_true, Bool.and_eq_false_iff, Bool.or_eq_true, Bool.or_eq_false_iff, decide_eq_true_eq, decide_eq_false_iff_not, beq_iff_eq, bne_iff_ne, Bool.not_true, Bool.not_false, Bool.true_eq_false, Bool.false_eq_true, ne_eq, Decidable.not_not, inB_t, inB_f] at ht)) | (refine ⟨_, rfl, ?_⟩; (try simp only [tupOf])))) | refine wSkip ?_ | (refine wExit ?_; simp only [thenQ, blockQ, reduceIte, Nat.reduceEqDiff]) | refine wSeq ?_ | refine wBlock ?_)
  all_goals (refine gives_boolv ?_; (try simp only [Bool.not_eq_true', Bool.not_eq_false', Bool.and_eq_true, Bool.and_eq_false_iff, Bool.or_eq_true, Bool.or_eq_false_iff, decide_eq_true_eq, decide_eq_false_iff_not, beq_iff_eq, bne_iff_ne, Bool.not_true, Bool.not_false, Bool.true_eq_false, Bool.false_eq_true, ne_eq, Decidable.not_not, inB_t, inB_f] at *); simp_all [eq_Letter])
theorem c_sSameLetters (a b : LetterM) (ha : Eng.Bytes a.Text) (hb : Eng.Bytes b.Text) : ∀ H, call Try.prog cfg0 0 111 [.agg [.v (.int .i64 a.Key), .v (.int .i64 a.Sender), .v (.int .i64 a.Counter), bytesL a.Text], .agg [.v (.int .i64 b.Key), .v (.int .i64 b.Sender), .v (.int .i64 b.Counter), bytesL b.Text]] H = some (.v (.bool (decide (a = b))), H) :=
  call_fz Try.func111 rfl ok_sSameLetters rfl (by simp only [fz_cons, fz_nil, go_sem, and_self]) (p_sSameLetters a b ha hb)

theorem ok_iSameLetters : fnOk Try.prog cfg0 113 Try.f113 = true := by kernel_rfl
theorem p_iSameLetters (a b : LetterM) (ha : Eng.Bytes a.Text) (hb : Eng.Bytes b.Text) : pure Try.prog cfg0 113 Try.f113 [.agg [.v (.int .i64 a.Key), .v (.int .i64 a.Sender), .v (.int .i64 a.Counter), bytesL a.Text], .agg [.v (.int .i64 b.Key), .v (.int .i64 b.Sender), .v (.int .i64 b.Counter), bytesL b.Text]] = some (.v (.bool (decide (a = b))), true) := by
  refine pure_wp (rs := [.tmp 4]) rfl rfl ?_
  repeat' (first | ((first | refine wSeqr (fun xx hx => ?_) | refine wIf (fun xx hx => ?_) | refine wReg (fun xx hx => ?_) | (refine wRet ?_; (try simp only [thenQ, blockQ]); refine ends_by (fun xx hx => ?_))); have hc := trivial; (repeat' (simp only [hc, go_sem, Nat.reduceAdd, Nat.reduceMul, Nat.reduceSub, Nat.reduceEqDiff, Nat.reduceLT, Nat.reduceLeDiff, Int.reduceEq, Int.reduceLT, Int.reduceLE, reduceIte, aresults, aresult, hp0, c_bEqual a.Text b.Text ha hb] at hx; (try (rw [guardL_if] at hx; split at hx <;> rename_i hc)))); all_goals (subst hx; first | (refine ⟨_, rfl, fun ht => ?_, fun ht => ?_⟩ <;> (try simp only [Bool.not_eq_true', Bool.not_eq_false', Bool.and_eq_true, Bool.and_eq_false_iff, Bool.or_eq_true, Bool.or_eq_false_iff, decide_eq_true_eq, decide_eq_false_iff_not, beq_iff_eq, bne_iff_ne, Bool.not_true, Bool.not_false, Bool.true_eq_false, Bool.false_eq_true, ne_eq, Decidable.not_not, inB_t, inB_f] at ht)) | (refine ⟨_, rfl, ?_⟩; (try simp only [tupOf])))) | refine wSkip ?_ | (refine wExit ?_; simp only [thenQ, blockQ, reduceIte, Nat.reduceEqDiff]) | refine wSeq ?_ | refine wBlock ?_)
  all_goals (refine gives_boolv ?_; (try simp only [Bool.not_eq_true', Bool.not_eq_false', Bool.and_eq_true, Bool.and_eq_false_iff, Bool.or_eq_true, Bool.or_eq_false_iff, decide_eq_true_eq, decide_eq_false_iff_not, beq_iff_eq, bne_iff_ne, Bool.not_true, Bool.not_false, Bool.true_eq_false, Bool.false_eq_true, ne_eq, Decidable.not_not, inB_t, inB_f] at *); simp_all [eq_Letter])
theorem c_iSameLetters (a b : LetterM) (ha : Eng.Bytes a.Text) (hb : Eng.Bytes b.Text) : ∀ H, call Try.prog cfg0 0 113 [.agg [.v (.int .i64 a.Key), .v (.int .i64 a.Sender), .v (.int .i64 a.Counter), bytesL a.Text], .agg [.v (.int .i64 b.Key), .v (.int .i64 b.Sender), .v (.int .i64 b.Counter), bytesL b.Text]] H = some (.v (.bool (decide (a = b))), H) :=
  call_fz Try.func113 rfl ok_iSameLetters rfl (by simp only [fz_cons, fz_nil, go_sem, and_self]) (p_iSameLetters a b ha hb)

theorem readHead_text (l : List Int) : (readHead l).2.Text = [] := by
  unfold readHead headL zeroL
  split
  · rfl
  · split
    · rfl
    · split <;> rfl
theorem readHead_bytes (l : List Int) : Eng.Bytes (readHead l).2.Text := by rw [readHead_text]; intro z hz; simp at hz
theorem readHead_ok {l : List Int} (h : (readHead l).1 = 0) : 0 ≤ (readHead l).2.Sender ∧ (readHead l).2.Sender ≤ 15 := by
  unfold readHead at h ⊢
  split at h
  · simp at h
  · rename_i h1
    split at h
    · simp at h
    · rename_i h2
      split at h
      · rename_i h3
        rw [if_neg h1, if_neg h2, if_pos h3]
        simp only [headOk, Bool.and_eq_true, inB_t] at h3
        exact h3.1.2
      · simp at h
def counterOk (t : StateM) (h : LetterM) : Bool := match t.Nodes[h.Sender.toNat]? with | some n => decide (h.Counter < n.Counter) | none => true
def pairOk (f g : FlightM) : Bool := !(decide ((readHead g.Data).1 = 0) && decide ((readHead f.Data).2 = (readHead g.Data).2) && !decide (f.Data = g.Data))
def freshAt (t : StateM) (i : Nat) (f : FlightM) : Bool := if (readHead f.Data).1 = 0 then counterOk t (readHead f.Data).2 && (t.Flights.take i).all (pairOk f) else true
def freshFrom (t : StateM) : List FlightM → Nat → Bool
  | [], _ => true
  | f :: r, i => freshAt t i f && freshFrom t r (i + 1)
theorem ok_sIsFresh : fnOk Try.prog cfg0 44 Try.f44 = true := by kernel_rfl
theorem p_sIsFresh (t : StateM) (hok : t.ok 1048576) : pure Try.prog cfg0 44 Try.f44 [.agg [.lst false (t.Nodes.map encNodeState), .lst false (t.Flights.map encFlight), i64L t.Codes]] = some (.v (.bool (freshFrom t t.Flights 0)), true) := by
  refine pure_wp (rs := [.tmp 2]) rfl rfl ?_
  have hl0 := hok.1.1
  have hl1 := hok.2.1.1
  repeat' (first | ((first | refine wSeqr (fun xx hx => ?_) | refine wIf (fun xx hx => ?_) | refine wReg (fun xx hx => ?_) | (refine wRet ?_; (try simp only [thenQ, blockQ]); refine ends_by (fun xx hx => ?_))); have hc := trivial; (repeat' (simp only [hc, go_sem, Nat.reduceAdd, Nat.reduceMul, Nat.reduceSub, Nat.reduceEqDiff, Nat.reduceLT, Nat.reduceLeDiff, Int.reduceEq, Int.reduceLT, Int.reduceLE, reduceIte, aresults, aresult] at hx; (try (rw [guardL_if] at hx; split at hx <;> rename_i hc)))); all_goals (subst hx; first | (refine ⟨_, rfl, fun ht => ?_, fun ht => ?_⟩ <;> (try simp only [Bool.not_eq_true', Bool.not_eq_false', Bool.and_eq_true, Bool.and_eq_false_iff, Bool.or_eq_true, Bool.or_eq_false_iff, decide_eq_true_eq, decide_eq_false_iff_not, beq_iff_eq, bne_iff_ne, Bool.not_true, Bool.not_false, Bool.true_eq_false, Bool.false_eq_true, ne_eq, Decidable.not_not, inB_t, inB_f] at ht)) | (refine ⟨_, rfl, ?_⟩; (try simp only [tupOf])))) | refine wSkip ?_ | (refine wExit ?_; simp only [thenQ, blockQ, reduceIte, Nat.reduceEqDiff]) | refine wSeq ?_ | refine wBlock ?_)
  refine wLoop (fun k s => ∃ (j : Nat), j + k = t.Flights.length ∧ s.1 1 = .ptr 0 0 ∧ s.1 3 = .v (.int .i64 (j : Nat)) ∧ (freshFrom t (t.Flights.drop j) j = freshFrom t t.Flights 0) ∧ (s.2.h 0 = some [.lst false (t.Nodes.map encNodeState), .lst false (t.Flights.map encFlight), i64L t.Codes]) ∧ (0 < s.2.g)) (fun k s hI => ?_) (t.Flights.length) _ ?_
  · obtain ⟨e, H⟩ := s
    obtain ⟨j, hj, h1, h3, hk, hb, hg0⟩ := hI
    simp only at h1 h3 hk hb hg0
    have hne : ¬ 0 = H.g := by omega
    repeat' (first | ((first | refine wSeqr (fun xx hx => ?_) | refine wIf (fun xx hx => ?_) | refine wReg (fun xx hx => ?_) | (refine wRet ?_; (try simp only [thenQ, blockQ]); refine ends_by (fun xx hx => ?_))); have hc := trivial; (repeat' (simp only [hc, go_sem, Nat.reduceAdd, Nat.reduceMul, Nat.reduceSub, Nat.reduceEqDiff, Nat.reduceLT, Nat.reduceLeDiff, Int.reduceEq, Int.reduceLT, Int.reduceLE, reduceIte, aresults, aresult, h1, h3, hb, List.length_map] at hx; (try (rw [guardL_if] at hx; split at hx <;> rename_i hc)))); all_goals (subst hx; first | (refine ⟨_, rfl, fun ht => ?_, fun ht => ?_⟩ <;> (try simp only [Bool.not_eq_true', Bool.not_eq_false', Bool.and_eq_true, Bool.and_eq_false_iff, Bool.or_eq_true, Bool.or_eq_false_iff, decide_eq_true_eq, decide_eq_false_iff_not, beq_iff_eq, bne_iff_ne, Bool.not_true, Bool.not_false, Bool.true_eq_false, Bool.false_eq_true, ne_eq, Decidable.not_not, inB_t, inB_f] at ht)) | (refine ⟨_, rfl, ?_⟩; (try simp only [tupOf])))) | refine wSkip ?_ | (refine wExit ?_; simp only [thenQ, blockQ, reduceIte, Nat.reduceEqDiff]) | refine wSeq ?_ | refine wBlock ?_)
    · have hlt : j < t.Flights.length := by omega
      obtain ⟨f, hg, hd, hm⟩ := at_drop hlt
      have hg' := map_at (f := encFlight) hg
      have hfd := (hok.2.1.2 f hm).2
      have hrh := c_sReadHead f.Data hfd.1 hfd.2
      unfold letRes at hrh
      rw [hd, freshFrom] at hk
      by_cases hz : (readHead f.Data).1 = 0
      rotate_left
      · repeat' (first | ((first | refine wSeqr (fun xx hx => ?_) | refine wIf (fun xx hx => ?_) | refine wReg (fun xx hx => ?_) | (refine wRet ?_; (try simp only [thenQ, blockQ]); refine ends_by (fun xx hx => ?_))); have hc := trivial; (repeat' (simp only [hc, go_sem, Nat.reduceAdd, Nat.reduceMul, Nat.reduceSub, Nat.reduceEqDiff, Nat.reduceLT, Nat.reduceLeDiff, Int.reduceEq, Int.reduceLT, Int.reduceLE, reduceIte, aresults, aresult, h1, h3, hb, hg', hp0, hrh, hne, wrap_succ (show j < 9223372036854775807 by omega)] at hx; (try (rw [guardL_if] at hx; split at hx <;> rename_i hc)))); all_goals (subst hx; first | (refine ⟨_, rfl, fun ht => ?_, fun ht => ?_⟩ <;> (try simp only [Bool.not_eq_true', Bool.not_eq_false', Bool.and_eq_true, Bool.and_eq_false_iff, Bool.or_eq_true, Bool.or_eq_false_iff, decide_eq_true_eq, decide_eq_false_iff_not, beq_iff_eq, bne_iff_ne, Bool.not_true, Bool.not_false, Bool.true_eq_false, Bool.false_eq_true, ne_eq, Decidable.not_not, inB_t, inB_f] at ht) <;> (try (exfalso; omega))) | (refine ⟨_, rfl, ?_⟩; (try simp only [tupOf])))) | refine wSkip ?_ | (refine wExit ?_; simp only [thenQ, blockQ, reduceIte, Nat.reduceEqDiff]) | refine wSeq ?_ | refine wBlock ?_)
        have hfa : freshAt t j f = true := by unfold freshAt; rw [if_neg hz]
        rw [hfa, Bool.true_and] at hk
        refine ⟨_, Nat.sub_lt (by omega) Nat.one_pos, j + 1, by omega, by simp only [upd_eq, Nat.reduceEqDiff, if_false, if_true, h1, h3], by simp only [upd_eq, Nat.reduceEqDiff, if_false, if_true, h1, h3], ?_⟩; exact ⟨hk, by simp only [Hp.set_h, Hp.new_h, hne, if_false]; exact hb, by simp⟩
      · have hsd := readHead_ok hz
        have hfa : freshAt t j f = (counterOk t (readHead f.Data).2 && (t.Flights.take j).all (pairOk f)) := by unfold freshAt; rw [if_pos hz]
        rw [hfa] at hk
        obtain ⟨g4, hg4⟩ : ∃ g4, g4 = H.g := ⟨_, rfl⟩
        have hnat : natOf (.v (.int .i64 (readHead f.Data).2.Sender)) = some (readHead f.Data).2.Sender.toNat := by simp [natOf, hsd.1]
        have hcase : counterOk t (readHead f.Data).2 = false ∨ counterOk t (readHead f.Data).2 = true := by cases counterOk t (readHead f.Data).2 <;> simp
        by_cases hin : (readHead f.Data).2.Sender < t.Nodes.length
        · have hi2 : (readHead f.Data).2.Sender.toNat < t.Nodes.length := by omega
          obtain ⟨n, hgn, -, -⟩ := at_drop hi2
          have hgn' := map_at (f := encNodeState) hgn
          have hco : counterOk t (readHead f.Data).2 = decide ((readHead f.Data).2.Counter < n.Counter) := by unfold counterOk; rw [hgn]
          have hne4 : ¬ 0 = g4 := by omega
          repeat' (first | ((first | refine wSeqr (fun xx hx => ?_) | refine wIf (fun xx hx => ?_) | refine wReg (fun xx hx => ?_) | (refine wRet ?_; (try simp only [thenQ, blockQ]); refine ends_by (fun xx hx => ?_))); have hc := trivial; (repeat' (simp only [hc, go_sem, Nat.reduceAdd, Nat.reduceMul, Nat.reduceSub, Nat.reduceEqDiff, Nat.reduceLT, Nat.reduceLeDiff, Int.reduceEq, Int.reduceLT, Int.reduceLE, reduceIte, aresults, aresult, h1, h3, hb, hg', hp0, hrh, hne, hne4, hz, List.length_map, hnat, hgn', not_true_eq_false, decide_false, hin, ← hg4] at hx; (try (rw [guardL_if] at hx; split at hx <;> rename_i hc)))); all_goals (subst hx; first | (refine ⟨_, rfl, fun ht => ?_, fun ht => ?_⟩ <;> (try simp only [Bool.not_eq_true', Bool.not_eq_false', Bool.and_eq_true, Bool.and_eq_false_iff, Bool.or_eq_true, Bool.or_eq_false_iff, decide_eq_true_eq, decide_eq_false_iff_not, beq_iff_eq, bne_iff_ne, Bool.not_true, Bool.not_false, Bool.true_eq_false, Bool.false_eq_true, ne_eq, Decidable.not_not, inB_t, inB_f] at ht) <;> (try (exfalso; omega))) | (refine ⟨_, rfl, ?_⟩; (try simp only [tupOf])))) | refine wSkip ?_ | (refine wExit ?_; simp only [thenQ, blockQ, reduceIte, Nat.reduceEqDiff]) | refine wSeq ?_ | refine wBlock ?_)
          · refine gives_boolv ?_
            rw [← hk, hco, decide_eq_false (by omega)]; simp
          have hct : counterOk t (readHead f.Data).2 = true := by rw [hco]; exact decide_eq_true (by omega)
          rw [hct, Bool.true_and] at hk
          refine wLoop (fun k s => ∃ (i : Nat), i + k = j ∧ s.1 1 = .ptr 0 0 ∧ s.1 3 = .v (.int .i64 (j : Nat)) ∧ s.1 4 = .ptr g4 0 ∧ s.1 5 = .v (.int .i64 (i : Nat)) ∧ (((t.Flights.take j).drop i).all (pairOk f) = (t.Flights.take j).all (pairOk f)) ∧ (s.2.h 0 = some [.lst false (t.Nodes.map encNodeState), .lst false (t.Flights.map encFlight), i64L t.Codes]) ∧ (s.2.h g4 = some [.v (.int .i64 0), .v (.int .i64 (readHead f.Data).2.Key), .v (.int .i64 (readHead f.Data).2.Sender), .v (.int .i64 (readHead f.Data).2.Counter), bytesL (readHead f.Data).2.Text]) ∧ (g4 < s.2.g ∧ 0 < s.2.g)) (fun k s hI => ?_) (j) _ ?_
          · obtain ⟨e, H⟩ := s
            obtain ⟨i, hi, h1, h3, h4, h5, hpa, hbz, hb4, hgs⟩ := hI
            simp only at h1 h3 h4 h5 hpa hbz hb4 hgs
            have hne0 : ¬ 0 = H.g := by omega
            have hne5 : ¬ g4 = H.g := by omega
            repeat' (first | ((first | refine wSeqr (fun xx hx => ?_) | refine wIf (fun xx hx => ?_) | refine wReg (fun xx hx => ?_) | (refine wRet ?_; (try simp only [thenQ, blockQ]); refine ends_by (fun xx hx => ?_))); have hc := trivial; (repeat' (simp only [hc, go_sem, Nat.reduceAdd, Nat.reduceMul, Nat.reduceSub, Nat.reduceEqDiff, Nat.reduceLT, Nat.reduceLeDiff, Int.reduceEq, Int.reduceLT, Int.reduceLE, reduceIte, aresults, aresult, h3, h5, wrap_succ (show j < 9223372036854775807 by omega)] at hx; (try (rw [guardL_if] at hx; split at hx <;> rename_i hc)))); all_goals (subst hx; first | (refine ⟨_, rfl, fun ht => ?_, fun ht => ?_⟩ <;> (try simp only [Bool.not_eq_true', Bool.not_eq_false', Bool.and_eq_true, Bool.and_eq_false_iff, Bool.or_eq_true, Bool.or_eq_false_iff, decide_eq_true_eq, decide_eq_false_iff_not, beq_iff_eq, bne_iff_ne, Bool.not_true, Bool.not_false, Bool.true_eq_false, Bool.false_eq_true, ne_eq, Decidable.not_not, inB_t, inB_f] at ht)) | (refine ⟨_, rfl, ?_⟩; (try simp only [tupOf])))) | refine wSkip ?_ | (refine wExit ?_; simp only [thenQ, blockQ, reduceIte, Nat.reduceEqDiff]) | refine wSeq ?_ | refine wBlock ?_)
            · have hij : i < j := by omega
              obtain ⟨g, hgi, hdi, -⟩ := at_drop (l := t.Flights.take j) (j := i) (by simp; omega)
              have hgi2 : t.Flights[i]? = some g := by rw [List.getElem?_take, if_pos hij] at hgi; exact hgi
              have hgi' := map_at (f := encFlight) hgi2
              have hgd := (hok.2.1.2 g (List.mem_of_getElem? hgi2)).2
              have hrg := c_sReadHead g.Data hgd.1 hgd.2
              unfold letRes at hrg
              rw [hdi, List.all_cons] at hpa
              repeat' (first | ((first | refine wSeqr (fun xx hx => ?_) | refine wIf (fun xx hx => ?_) | refine wReg (fun xx hx => ?_) | (refine wRet ?_; (try simp only [thenQ, blockQ]); refine ends_by (fun xx hx => ?_))); have hc := trivial; (repeat' (simp only [hc, go_sem, Nat.reduceAdd, Nat.reduceMul, Nat.reduceSub, Nat.reduceEqDiff, Nat.reduceLT, Nat.reduceLeDiff, Int.reduceEq, Int.reduceLT, Int.reduceLE, reduceIte, aresults, aresult, h1, h3, h4, h5, hbz, hb4, hg', hgi', hp0, hrg, hne0, hne5, c_sSameLetters (readHead f.Data).2 (readHead g.Data).2 (readHead_bytes _) (readHead_bytes _), conv_b, strOf_eq hfd.1 hgd.1, wrap_succ (show i < 9223372036854775807 by omega)] at hx; (try (rw [guardL_if] at hx; split at hx <;> rename_i hc)))); all_goals (subst hx; first | (refine ⟨_, rfl, fun ht => ?_, fun ht => ?_⟩ <;> (try simp only [Bool.not_eq_true', Bool.not_eq_false', Bool.and_eq_true, Bool.and_eq_false_iff, Bool.or_eq_true, Bool.or_eq_false_iff, decide_eq_true_eq, decide_eq_false_iff_not, beq_iff_eq, bne_iff_ne, Bool.not_true, Bool.not_false, Bool.true_eq_false, Bool.false_eq_true, ne_eq, Decidable.not_not, inB_t, inB_f] at ht)) | (refine ⟨_, rfl, ?_⟩; (try simp only [tupOf])))) | refine wSkip ?_ | (refine wExit ?_; simp only [thenQ, blockQ, reduceIte, Nat.reduceEqDiff]) | refine wSeq ?_ | refine wBlock ?_)
              all_goals (try simp only [Bool.not_eq_true', Bool.not_eq_false', Bool.and_eq_true, Bool.and_eq_false_iff, Bool.or_eq_true, Bool.or_eq_false_iff, decide_eq_true_eq, decide_eq_false_iff_not, beq_iff_eq, bne_iff_ne, Bool.not_true, Bool.not_false, Bool.true_eq_false, Bool.false_eq_true, ne_eq, Decidable.not_not, inB_t, inB_f] at *)
              any_goals (refine gives_boolv ?_; rw [← hk, ← hpa, show pairOk f g = false by simp_all [pairOk]]; simp; done)
              all_goals (
                have hpt : pairOk f g = true := by simp_all [pairOk]
                rw [hpt, Bool.true_and] at hpa
                refine ⟨_, Nat.sub_lt (by omega) Nat.one_pos, i + 1, by omega, by simp only [upd_eq, Nat.reduceEqDiff, if_false, if_true, h1, h3, h4, h5], by simp only [upd_eq, Nat.reduceEqDiff, if_false, if_true, h1, h3, h4, h5], by simp only [upd_eq, Nat.reduceEqDiff, if_false, if_true, h1, h3, h4, h5], by simp only [upd_eq, Nat.reduceEqDiff, if_false, if_true, h1, h3, h4, h5], ?_⟩
                exact ⟨hpa, by simp only [Hp.set_h, Hp.new_h, hne0, if_false]; exact hbz, by simp only [Hp.set_h, Hp.new_h, hne5, if_false]; exact hb4, by simp; omega⟩)
            · rw [List.drop_of_length_le (by simp; omega)] at hpa
              rw [← hpa, List.all_nil, Bool.true_and] at hk
              
              repeat' (first | ((first | refine wSeqr (fun xx hx => ?_) | refine wIf (fun xx hx => ?_) | refine wReg (fun xx hx => ?_) | (refine wRet ?_; (try simp only [thenQ, blockQ]); refine ends_by (fun xx hx => ?_))); have hc := trivial; (repeat' (simp only [hc, go_sem, Nat.reduceAdd, Nat.reduceMul, Nat.reduceSub, Nat.reduceEqDiff, Nat.reduceLT, Nat.reduceLeDiff, Int.reduceEq, Int.reduceLT, Int.reduceLE, reduceIte, aresults, aresult, h3, wrap_succ (show j < 9223372036854775807 by omega)] at hx; (try (rw [guardL_if] at hx; split at hx <;> rename_i hc)))); all_goals (subst hx; first | (refine ⟨_, rfl, fun ht => ?_, fun ht => ?_⟩ <;> (try simp only [Bool.not_eq_true', Bool.not_eq_false', Bool.and_eq_true, Bool.and_eq_false_iff, Bool.or_eq_true, Bool.or_eq_false_iff, decide_eq_true_eq, decide_eq_false_iff_not, beq_iff_eq, bne_iff_ne, Bool.not_true, Bool.not_false, Bool.true_eq_false, Bool.false_eq_true, ne_eq, Decidable.not_not, inB_t, inB_f] at ht)) | (refine ⟨_, rfl, ?_⟩; (try simp only [tupOf])))) | refine wSkip ?_ | (refine wExit ?_; simp only [thenQ, blockQ, reduceIte, Nat.reduceEqDiff]) | refine wSeq ?_ | refine wBlock ?_)
              refine ⟨_, Nat.sub_lt (by omega) Nat.one_pos, j + 1, by omega, by simp only [upd_eq, Nat.reduceEqDiff, if_false, if_true, h1, h3], by simp only [upd_eq, Nat.reduceEqDiff, if_false, if_true, h1, h3], ?_⟩; exact ⟨hk, hbz, hgs.2⟩
          · exact ⟨0, by omega, h1, h3, rfl, rfl, rfl, by simp only [Hp.set_h, Hp.new_h, hne, hne4, if_false]; exact hb, by simp only [Hp.set_h, if_true], by simp; omega⟩
        · have hct : counterOk t (readHead f.Data).2 = true := by unfold counterOk; rw [List.getElem?_eq_none (by omega)]
          rw [hct, Bool.true_and] at hk
          have hne4 : ¬ 0 = g4 := by omega
          repeat' (first | ((first | refine wSeqr (fun xx hx => ?_) | refine wIf (fun xx hx => ?_) | refine wReg (fun xx hx => ?_) | (refine wRet ?_; (try simp only [thenQ, blockQ]); refine ends_by (fun xx hx => ?_))); have hc := trivial; (repeat' (simp only [hc, go_sem, Nat.reduceAdd, Nat.reduceMul, Nat.reduceSub, Nat.reduceEqDiff, Nat.reduceLT, Nat.reduceLeDiff, Int.reduceEq, Int.reduceLT, Int.reduceLE, reduceIte, aresults, aresult, h1, h3, hb, hg', hp0, hrh, hne, hne4, hz, List.length_map, not_true_eq_false, decide_false, hin, ← hg4] at hx; (try (rw [guardL_if] at hx; split at hx <;> rename_i hc)))); all_goals (subst hx; first | (refine ⟨_, rfl, fun ht => ?_, fun ht => ?_⟩ <;> (try simp only [Bool.not_eq_true', Bool.not_eq_false', Bool.and_eq_true, Bool.and_eq_false_iff, Bool.or_eq_true, Bool.or_eq_false_iff, decide_eq_true_eq, decide_eq_false_iff_not, beq_iff_eq, bne_iff_ne, Bool.not_true, Bool.not_false, Bool.true_eq_false, Bool.false_eq_true, ne_eq, Decidable.not_not, inB_t, inB_f] at ht) <;> (try (exfalso; omega))) | (refine ⟨_, rfl, ?_⟩; (try simp only [tupOf])))) | refine wSkip ?_ | (refine wExit ?_; simp only [thenQ, blockQ, reduceIte, Nat.reduceEqDiff]) | refine wSeq ?_ | refine wBlock ?_)
          refine wLoop (fun k s => ∃ (i : Nat), i + k = j ∧ s.1 1 = .ptr 0 0 ∧ s.1 3 = .v (.int .i64 (j : Nat)) ∧ s.1 4 = .ptr g4 0 ∧ s.1 5 = .v (.int .i64 (i : Nat)) ∧ (((t.Flights.take j).drop i).all (pairOk f) = (t.Flights.take j).all (pairOk f)) ∧ (s.2.h 0 = some [.lst false (t.Nodes.map encNodeState), .lst false (t.Flights.map encFlight), i64L t.Codes]) ∧ (s.2.h g4 = some [.v (.int .i64 0), .v (.int .i64 (readHead f.Data).2.Key), .v (.int .i64 (readHead f.Data).2.Sender), .v (.int .i64 (readHead f.Data).2.Counter), bytesL (readHead f.Data).2.Text]) ∧ (g4 < s.2.g ∧ 0 < s.2.g)) (fun k s hI => ?_) (j) _ ?_
          · obtain ⟨e, H⟩ := s
            obtain ⟨i, hi, h1, h3, h4, h5, hpa, hbz, hb4, hgs⟩ := hI
            simp only at h1 h3 h4 h5 hpa hbz hb4 hgs
            have hne0 : ¬ 0 = H.g := by omega
            have hne5 : ¬ g4 = H.g := by omega
            repeat' (first | ((first | refine wSeqr (fun xx hx => ?_) | refine wIf (fun xx hx => ?_) | refine wReg (fun xx hx => ?_) | (refine wRet ?_; (try simp only [thenQ, blockQ]); refine ends_by (fun xx hx => ?_))); have hc := trivial; (repeat' (simp only [hc, go_sem, Nat.reduceAdd, Nat.reduceMul, Nat.reduceSub, Nat.reduceEqDiff, Nat.reduceLT, Nat.reduceLeDiff, Int.reduceEq, Int.reduceLT, Int.reduceLE, reduceIte, aresults, aresult, h3, h5, wrap_succ (show j < 9223372036854775807 by omega)] at hx; (try (rw [guardL_if] at hx; split at hx <;> rename_i hc)))); all_goals (subst hx; first | (refine ⟨_, rfl, fun ht => ?_, fun ht => ?_⟩ <;> (try simp only [Bool.not_eq_true', Bool.not_eq_false', Bool.and_eq_true, Bool.and_eq_false_iff, Bool.or_eq_true, Bool.or_eq_false_iff, decide_eq_true_eq, decide_eq_false_iff_not, beq_iff_eq, bne_iff_ne, Bool.not_true, Bool.not_false, Bool.true_eq_false, Bool.false_eq_true, ne_eq, Decidable.not_not, inB_t, inB_f] at ht)) | (refine ⟨_, rfl, ?_⟩; (try simp only [tupOf])))) | refine wSkip ?_ | (refine wExit ?_; simp only [thenQ, blockQ, reduceIte, Nat.reduceEqDiff]) | refine wSeq ?_ | refine wBlock ?_)
            · have hij : i < j := by omega
              obtain ⟨g, hgi, hdi, -⟩ := at_drop (l := t.Flights.take j) (j := i) (by simp; omega)
              have hgi2 : t.Flights[i]? = some g := by rw [List.getElem?_take, if_pos hij] at hgi; exact hgi
              have hgi' := map_at (f := encFlight) hgi2
              have hgd := (hok.2.1.2 g (List.mem_of_getElem? hgi2)).2
              have hrg := c_sReadHead g.Data hgd.1 hgd.2
              unfold letRes at hrg
              rw [hdi, List.all_cons] at hpa
              repeat' (first | ((first | refine wSeqr (fun xx hx => ?_) | refine wIf (fun xx hx => ?_) | refine wReg (fun xx hx => ?_) | (refine wRet ?_; (try simp only [thenQ, blockQ]); refine ends_by (fun xx hx => ?_))); have hc := trivial; (repeat' (simp only [hc, go_sem, Nat.reduceAdd, Nat.reduceMul, Nat.reduceSub, Nat.reduceEqDiff, Nat.reduceLT, Nat.reduceLeDiff, Int.reduceEq, Int.reduceLT, Int.reduceLE, reduceIte, aresults, aresult, h1, h3, h4, h5, hbz, hb4, hg', hgi', hp0, hrg, hne0, hne5, c_sSameLetters (readHead f.Data).2 (readHead g.Data).2 (readHead_bytes _) (readHead_bytes _), conv_b, strOf_eq hfd.1 hgd.1, wrap_succ (show i < 9223372036854775807 by omega)] at hx; (try (rw [guardL_if] at hx; split at hx <;> rename_i hc)))); all_goals (subst hx; first | (refine ⟨_, rfl, fun ht => ?_, fun ht => ?_⟩ <;> (try simp only [Bool.not_eq_true', Bool.not_eq_false', Bool.and_eq_true, Bool.and_eq_false_iff, Bool.or_eq_true, Bool.or_eq_false_iff, decide_eq_true_eq, decide_eq_false_iff_not, beq_iff_eq, bne_iff_ne, Bool.not_true, Bool.not_false, Bool.true_eq_false, Bool.false_eq_true, ne_eq, Decidable.not_not, inB_t, inB_f] at ht)) | (refine ⟨_, rfl, ?_⟩; (try simp only [tupOf])))) | refine wSkip ?_ | (refine wExit ?_; simp only [thenQ, blockQ, reduceIte, Nat.reduceEqDiff]) | refine wSeq ?_ | refine wBlock ?_)
              all_goals (try simp only [Bool.not_eq_true', Bool.not_eq_false', Bool.and_eq_true, Bool.and_eq_false_iff, Bool.or_eq_true, Bool.or_eq_false_iff, decide_eq_true_eq, decide_eq_false_iff_not, beq_iff_eq, bne_iff_ne, Bool.not_true, Bool.not_false, Bool.true_eq_false, Bool.false_eq_true, ne_eq, Decidable.not_not, inB_t, inB_f] at *)
              any_goals (refine gives_boolv ?_; rw [← hk, ← hpa, show pairOk f g = false by simp_all [pairOk]]; simp; done)
              all_goals (
                have hpt : pairOk f g = true := by simp_all [pairOk]
                rw [hpt, Bool.true_and] at hpa
                refine ⟨_, Nat.sub_lt (by omega) Nat.one_pos, i + 1, by omega, by simp only [upd_eq, Nat.reduceEqDiff, if_false, if_true, h1, h3, h4, h5], by simp only [upd_eq, Nat.reduceEqDiff, if_false, if_true, h1, h3, h4, h5], by simp only [upd_eq, Nat.reduceEqDiff, if_false, if_true, h1, h3, h4, h5], by simp only [upd_eq, Nat.reduceEqDiff, if_false, if_true, h1, h3, h4, h5], ?_⟩
                exact ⟨hpa, by simp only [Hp.set_h, Hp.new_h, hne0, if_false]; exact hbz, by simp only [Hp.set_h, Hp.new_h, hne5, if_false]; exact hb4, by simp; omega⟩)
            · rw [List.drop_of_length_le (by simp; omega)] at hpa
              rw [← hpa, List.all_nil, Bool.true_and] at hk
              
              repeat' (first | ((first | refine wSeqr (fun xx hx => ?_) | refine wIf (fun xx hx => ?_) | refine wReg (fun xx hx => ?_) | (refine wRet ?_; (try simp only [thenQ, blockQ]); refine ends_by (fun xx hx => ?_))); have hc := trivial; (repeat' (simp only [hc, go_sem, Nat.reduceAdd, Nat.reduceMul, Nat.reduceSub, Nat.reduceEqDiff, Nat.reduceLT, Nat.reduceLeDiff, Int.reduceEq, Int.reduceLT, Int.reduceLE, reduceIte, aresults, aresult, h3, wrap_succ (show j < 9223372036854775807 by omega)] at hx; (try (rw [guardL_if] at hx; split at hx <;> rename_i hc)))); all_goals (subst hx; first | (refine ⟨_, rfl, fun ht => ?_, fun ht => ?_⟩ <;> (try simp only [Bool.not_eq_true', Bool.not_eq_false', Bool.and_eq_true, Bool.and_eq_false_iff, Bool.or_eq_true, Bool.or_eq_false_iff, decide_eq_true_eq, decide_eq_false_iff_not, beq_iff_eq, bne_iff_ne, Bool.not_true, Bool.not_false, Bool.true_eq_false, Bool.false_eq_true, ne_eq, Decidable.not_not, inB_t, inB_f] at ht)) | (refine ⟨_, rfl, ?_⟩; (try simp only [tupOf])))) | refine wSkip ?_ | (refine wExit ?_; simp only [thenQ, blockQ, reduceIte, Nat.reduceEqDiff]) | refine wSeq ?_ | refine wBlock ?_)
              refine ⟨_, Nat.sub_lt (by omega) Nat.one_pos, j + 1, by omega, by simp only [upd_eq, Nat.reduceEqDiff, if_false, if_true, h1, h3], by simp only [upd_eq, Nat.reduceEqDiff, if_false, if_true, h1, h3], ?_⟩; exact ⟨hk, hbz, hgs.2⟩
          · exact ⟨0, by omega, h1, h3, rfl, rfl, rfl, by simp only [Hp.set_h, Hp.new_h, hne, hne4, if_false]; exact hb, by simp only [Hp.set_h, if_true], by simp; omega⟩
    · rw [List.drop_of_length_le (by omega)] at hk
      exact gives_boolv hk
  · refine ⟨0, by omega, rfl, rfl, ?_⟩; exact ⟨rfl, rfl, by simp⟩
theorem c_sIsFresh (t : StateM) (hok : t.ok 1048576) : ∀ H, call Try.prog cfg0 0 44 [.agg [.lst false (t.Nodes.map encNodeState), .lst false (t.Flights.map encFlight), i64L t.Codes]] H = some (.v (.bool (freshFrom t t.Flights 0)), H) :=
  call_fz Try.func44 rfl ok_sIsFresh rfl (by simp only [fz_cons, fz_nil, go_sem, and_self]) (p_sIsFresh t hok)

end
end Go.Proofs.Ytmobkpfalcfepaa
