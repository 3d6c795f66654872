/- Contracts: worlds that are looked at. -/
import Derived.Test.YtmobkpfalcfepaaK5
import Derived.Test.YtmobkpfalcfepaaC1
namespace Go.Proofs.Ytmobkpfalcfepaa
open Go Go.RowKit Go.Proofs.Ytmobkpfalcfepaa.Eng
set_option linter.unusedSimpArgs false
set_option linter.unusedVariables false
set_option maxRecDepth 100000
noncomputable section
def ownClaim (s : StateM) (c : ClaimM) : Bool := if 0 ≤ c.Node then (match s.Nodes[c.Node.toNat]? with | some n => decide (c.Inc ≤ n.Own.Inc) | none => false) else false
def ownView (s : StateM) (v : List ClaimM) : Bool := v.all (ownClaim s)
def ownOnly (s : StateM) : Bool := s.Nodes.all fun n => ownView s n.View
theorem ownClaim_in {s : StateM} {c : ClaimM} (h : 0 ≤ c.Node ∧ c.Node < s.Nodes.length) : ∃ (i : Nat) (n : NodeStateM), natOf (.v (.int .i64 c.Node)) = some i ∧ s.Nodes[i]? = some n ∧ ownClaim s c = decide (c.Inc ≤ n.Own.Inc) := by
  have hi : c.Node.toNat < s.Nodes.length := by omega
  refine ⟨c.Node.toNat, s.Nodes[c.Node.toNat], by simp [natOf, h.1], by simp [hi], ?_⟩
  unfold ownClaim; rw [if_pos h.1, List.getElem?_eq_getElem hi]
theorem ownClaim_out {s : StateM} {c : ClaimM} (h : ¬ (0 ≤ c.Node ∧ c.Node < s.Nodes.length)) : ownClaim s c = false := by
  unfold ownClaim
  split
  · rw [List.getElem?_eq_none (by omega)]
  · rfl
theorem ok_sIsOwnOnly : fnOk Try.prog cfg0 38 Try.f38 = true := by kernel_rfl
theorem p_sIsOwnOnly (t : StateM) (hok : t.ok 1048576) : pure Try.prog cfg0 38 Try.f38 [.agg [.lst false (t.Nodes.map encNodeState), .lst false (t.Flights.map encFlight), i64L t.Codes]] = some (.v (.bool (ownOnly t)), true) := by
  refine pure_wp (rs := [.tmp 2]) rfl rfl ?_
  have hl0 := hok.1.1
  repeat' (first | ((first | refine wSeqr (fun xx hx => ?_) | refine wIf (fun xx hx => ?_) | refine wReg (fun xx hx => ?_) | (refine wRet ?_; (try simp only [thenQ, blockQ]); refine ends_by (fun xx hx => ?_))); have hc := trivial; (repeat' (simp only [hc, go_sem, Nat.reduceAdd, Nat.reduceMul, Nat.reduceSub, Nat.reduceEqDiff, Nat.reduceLT, Nat.reduceLeDiff, Int.reduceEq, Int.reduceLT, Int.reduceLE, reduceIte, aresults, aresult] at hx; (try (rw [guardL_if] at hx; split at hx <;> rename_i hc)))); all_goals (subst hx; first | (refine ⟨_, rfl, fun ht => ?_, fun ht => ?_⟩ <;> (try simp only [Bool.not_eq_true', Bool.not_eq_false', Bool.and_eq_true, Bool.and_eq_false_iff, Bool.or_eq_true, Bool.or_eq_false_iff, decide_eq_true_eq, decide_eq_false_iff_not, beq_iff_eq, bne_iff_ne, Bool.not_true, Bool.not_false, Bool.true_eq_false, Bool.false_eq_true, ne_eq, Decidable.not_not, inB_t, inB_f] at ht)) | (refine ⟨_, rfl, ?_⟩; (try simp only [tupOf])))) | refine wSkip ?_ | (refine wExit ?_; simp only [thenQ, blockQ, reduceIte, Nat.reduceEqDiff]) | refine wSeq ?_ | refine wBlock ?_)
  refine wLoop (fun k s => ∃ (j : Nat), j + k = t.Nodes.length ∧ s.1 1 = .ptr 0 0 ∧ s.1 3 = .v (.int .i64 (j : Nat)) ∧ ((t.Nodes.drop j).all (fun n => ownView t n.View) = ownOnly t) ∧ (s.2.h 0 = some [.lst false (t.Nodes.map encNodeState), .lst false (t.Flights.map encFlight), i64L t.Codes])) (fun k s hI => ?_) (t.Nodes.length) _ ?_
  · obtain ⟨e, H⟩ := s
    obtain ⟨j, hj, h1, h3, ho, hb⟩ := hI
    simp only at h1 h3 ho hb
    repeat' (first | ((first | refine wSeqr (fun xx hx => ?_) | refine wIf (fun xx hx => ?_) | refine wReg (fun xx hx => ?_) | (refine wRet ?_; (try simp only [thenQ, blockQ]); refine ends_by (fun xx hx => ?_))); have hc := trivial; (repeat' (simp only [hc, go_sem, Nat.reduceAdd, Nat.reduceMul, Nat.reduceSub, Nat.reduceEqDiff, Nat.reduceLT, Nat.reduceLeDiff, Int.reduceEq, Int.reduceLT, Int.reduceLE, reduceIte, aresults, aresult, h1, h3, hb, List.length_map] at hx; (try (rw [guardL_if] at hx; split at hx <;> rename_i hc)))); all_goals (subst hx; first | (refine ⟨_, rfl, fun ht => ?_, fun ht => ?_⟩ <;> (try simp only [Bool.not_eq_true', Bool.not_eq_false', Bool.and_eq_true, Bool.and_eq_false_iff, Bool.or_eq_true, Bool.or_eq_false_iff, decide_eq_true_eq, decide_eq_false_iff_not, beq_iff_eq, bne_iff_ne, Bool.not_true, Bool.not_false, Bool.true_eq_false, Bool.false_eq_true, ne_eq, Decidable.not_not, inB_t, inB_f] at ht)) | (refine ⟨_, rfl, ?_⟩; (try simp only [tupOf])))) | refine wSkip ?_ | (refine wExit ?_; simp only [thenQ, blockQ, reduceIte, Nat.reduceEqDiff]) | refine wSeq ?_ | refine wBlock ?_)
    · have hlt : j < t.Nodes.length := by omega
      obtain ⟨n, hg, hd, hm⟩ := at_drop hlt
      have hg' := map_at (f := encNodeState) hg
      have hnv := (hok.1.2 n hm).2.1.1
      rw [hd, List.all_cons] at ho
      repeat' (first | ((first | refine wSeqr (fun xx hx => ?_) | refine wIf (fun xx hx => ?_) | refine wReg (fun xx hx => ?_) | (refine wRet ?_; (try simp only [thenQ, blockQ]); refine ends_by (fun xx hx => ?_))); have hc := trivial; (repeat' (simp only [hc, go_sem, Nat.reduceAdd, Nat.reduceMul, Nat.reduceSub, Nat.reduceEqDiff, Nat.reduceLT, Nat.reduceLeDiff, Int.reduceEq, Int.reduceLT, Int.reduceLE, reduceIte, aresults, aresult, h1, h3, hb, hg'] at hx; (try (rw [guardL_if] at hx; split at hx <;> rename_i hc)))); all_goals (subst hx; first | (refine ⟨_, rfl, fun ht => ?_, fun ht => ?_⟩ <;> (try simp only [Bool.not_eq_true', Bool.not_eq_false', Bool.and_eq_true, Bool.and_eq_false_iff, Bool.or_eq_true, Bool.or_eq_false_iff, decide_eq_true_eq, decide_eq_false_iff_not, beq_iff_eq, bne_iff_ne, Bool.not_true, Bool.not_false, Bool.true_eq_false, Bool.false_eq_true, ne_eq, Decidable.not_not, inB_t, inB_f] at ht)) | (refine ⟨_, rfl, ?_⟩; (try simp only [tupOf])))) | refine wSkip ?_ | (refine wExit ?_; simp only [thenQ, blockQ, reduceIte, Nat.reduceEqDiff]) | refine wSeq ?_ | refine wBlock ?_)
      refine wLoop (fun k s => ∃ (i : Nat), i + k = n.View.length ∧ s.1 1 = .ptr 0 0 ∧ s.1 3 = .v (.int .i64 (j : Nat)) ∧ s.1 4 = .lst false (n.View.map encClaim) ∧ s.1 5 = .v (.int .i64 (i : Nat)) ∧ (ownView t (n.View.drop i) = ownView t n.View) ∧ (s.2.h 0 = some [.lst false (t.Nodes.map encNodeState), .lst false (t.Flights.map encFlight), i64L t.Codes])) (fun k s hI => ?_) (n.View.length) _ ?_
      · obtain ⟨e, H⟩ := s
        obtain ⟨i, hi, h1, h3, h4, h5, hv, hb⟩ := hI
        simp only at h1 h3 h4 h5 hv hb
        repeat' (first | ((first | refine wSeqr (fun xx hx => ?_) | refine wIf (fun xx hx => ?_) | refine wReg (fun xx hx => ?_) | (refine wRet ?_; (try simp only [thenQ, blockQ]); refine ends_by (fun xx hx => ?_))); have hc := trivial; (repeat' (simp only [hc, go_sem, Nat.reduceAdd, Nat.reduceMul, Nat.reduceSub, Nat.reduceEqDiff, Nat.reduceLT, Nat.reduceLeDiff, Int.reduceEq, Int.reduceLT, Int.reduceLE, reduceIte, aresults, aresult, h4, h5, List.length_map] at hx; (try (rw [guardL_if] at hx; split at hx <;> rename_i hc)))); all_goals (subst hx; first | (refine ⟨_, rfl, fun ht => ?_, fun ht => ?_⟩ <;> (try simp only [Bool.not_eq_true', Bool.not_eq_false', Bool.and_eq_true, Bool.and_eq_false_iff, Bool.or_eq_true, Bool.or_eq_false_iff, decide_eq_true_eq, decide_eq_false_iff_not, beq_iff_eq, bne_iff_ne, Bool.not_true, Bool.not_false, Bool.true_eq_false, Bool.false_eq_true, ne_eq, Decidable.not_not, inB_t, inB_f] at ht)) | (refine ⟨_, rfl, ?_⟩; (try simp only [tupOf])))) | refine wSkip ?_ | (refine wExit ?_; simp only [thenQ, blockQ, reduceIte, Nat.reduceEqDiff]) | refine wSeq ?_ | refine wBlock ?_)
        · have hlt2 : i < n.View.length := by omega
          obtain ⟨c, hgc, hdc, hmc⟩ := at_drop hlt2
          have hgc' := map_at (f := encClaim) hgc
          have hw : IntKind.wrap .i64 ((t.Nodes.length : Int) - 1) = (t.Nodes.length : Int) - 1 := wrap_i64 (by omega) (by omega)
          rw [hdc, ownView, List.all_cons] at hv
          by_cases hin : 0 ≤ c.Node ∧ c.Node < t.Nodes.length
          · obtain ⟨q, m, hq, hmq, hoc⟩ := ownClaim_in hin
            have hmq' := map_at (f := encNodeState) hmq
            have hib : inB c.Node 0 ((t.Nodes.length : Int) - 1) = true := inB_t.2 (by omega)
            repeat' (first | ((first | refine wSeqr (fun xx hx => ?_) | refine wIf (fun xx hx => ?_) | refine wReg (fun xx hx => ?_) | (refine wRet ?_; (try simp only [thenQ, blockQ]); refine ends_by (fun xx hx => ?_))); have hc := trivial; (repeat' (simp only [hc, go_sem, Nat.reduceAdd, Nat.reduceMul, Nat.reduceSub, Nat.reduceEqDiff, Nat.reduceLT, Nat.reduceLeDiff, Int.reduceEq, Int.reduceLT, Int.reduceLE, reduceIte, aresults, aresult, h1, h4, h5, hb, hgc', hq, hmq', hw, hib, hp0, c_sl1In, List.length_map, Bool.not_true, wrap_succ (show i < 9223372036854775807 by omega)] at hx; (try (rw [guardL_if] at hx; split at hx <;> rename_i hc)))); all_goals (subst hx; first | (refine ⟨_, rfl, fun ht => ?_, fun ht => ?_⟩ <;> (try simp only [Bool.not_eq_true', Bool.not_eq_false', Bool.and_eq_true, Bool.and_eq_false_iff, Bool.or_eq_true, Bool.or_eq_false_iff, decide_eq_true_eq, decide_eq_false_iff_not, beq_iff_eq, bne_iff_ne, Bool.not_true, Bool.not_false, Bool.true_eq_false, Bool.false_eq_true, ne_eq, Decidable.not_not, inB_t, inB_f] at ht)) | (refine ⟨_, rfl, ?_⟩; (try simp only [tupOf])))) | refine wSkip ?_ | (refine wExit ?_; simp only [thenQ, blockQ, reduceIte, Nat.reduceEqDiff]) | refine wSeq ?_ | refine wBlock ?_)
            · refine gives_boolv ?_
              rw [hoc, decide_eq_false (by omega), Bool.false_and] at hv
              rw [← ho, ← hv]; rfl
            · rw [hoc, decide_eq_true (by omega), Bool.true_and] at hv
              refine ⟨_, Nat.sub_lt (by omega) Nat.one_pos, i + 1, by omega, ?_⟩
              refine ⟨by simp only [upd_eq, Nat.reduceEqDiff, if_false, h1], by simp only [upd_eq, Nat.reduceEqDiff, if_false, h3], by simp only [upd_eq, Nat.reduceEqDiff, if_false, h4], by simp only [upd_eq, Nat.reduceEqDiff, if_true, h5], hv, hb⟩
          · have hoc := ownClaim_out hin
            have hib : inB c.Node 0 ((t.Nodes.length : Int) - 1) = false := inB_f.2 (by omega)
            repeat' (first | ((first | refine wSeqr (fun xx hx => ?_) | refine wIf (fun xx hx => ?_) | refine wReg (fun xx hx => ?_) | (refine wRet ?_; (try simp only [thenQ, blockQ]); refine ends_by (fun xx hx => ?_))); have hc := trivial; (repeat' (simp only [hc, go_sem, Nat.reduceAdd, Nat.reduceMul, Nat.reduceSub, Nat.reduceEqDiff, Nat.reduceLT, Nat.reduceLeDiff, Int.reduceEq, Int.reduceLT, Int.reduceLE, reduceIte, aresults, aresult, h1, h4, h5, hb, hgc', hw, hib, hp0, c_sl1In, List.length_map, Bool.not_false] at hx; (try (rw [guardL_if] at hx; split at hx <;> rename_i hc)))); all_goals (subst hx; first | (refine ⟨_, rfl, fun ht => ?_, fun ht => ?_⟩ <;> (try simp only [Bool.not_eq_true', Bool.not_eq_false', Bool.and_eq_true, Bool.and_eq_false_iff, Bool.or_eq_true, Bool.or_eq_false_iff, decide_eq_true_eq, decide_eq_false_iff_not, beq_iff_eq, bne_iff_ne, Bool.not_true, Bool.not_false, Bool.true_eq_false, Bool.false_eq_true, ne_eq, Decidable.not_not, inB_t, inB_f] at ht)) | (refine ⟨_, rfl, ?_⟩; (try simp only [tupOf])))) | refine wSkip ?_ | (refine wExit ?_; simp only [thenQ, blockQ, reduceIte, Nat.reduceEqDiff]) | refine wSeq ?_ | refine wBlock ?_)
            refine gives_boolv ?_
            rw [hoc, Bool.false_and] at hv
            rw [← ho, ← hv]; rfl
        · rw [List.drop_of_length_le (by omega)] at hv
          
          repeat' (first | ((first | refine wSeqr (fun xx hx => ?_) | refine wIf (fun xx hx => ?_) | refine wReg (fun xx hx => ?_) | (refine wRet ?_; (try simp only [thenQ, blockQ]); refine ends_by (fun xx hx => ?_))); have hc := trivial; (repeat' (simp only [hc, go_sem, Nat.reduceAdd, Nat.reduceMul, Nat.reduceSub, Nat.reduceEqDiff, Nat.reduceLT, Nat.reduceLeDiff, Int.reduceEq, Int.reduceLT, Int.reduceLE, reduceIte, aresults, aresult, h3, wrap_succ (show j < 9223372036854775807 by omega)] at hx; (try (rw [guardL_if] at hx; split at hx <;> rename_i hc)))); all_goals (subst hx; first | (refine ⟨_, rfl, fun ht => ?_, fun ht => ?_⟩ <;> (try simp only [Bool.not_eq_true', Bool.not_eq_false', Bool.and_eq_true, Bool.and_eq_false_iff, Bool.or_eq_true, Bool.or_eq_false_iff, decide_eq_true_eq, decide_eq_false_iff_not, beq_iff_eq, bne_iff_ne, Bool.not_true, Bool.not_false, Bool.true_eq_false, Bool.false_eq_true, ne_eq, Decidable.not_not, inB_t, inB_f] at ht)) | (refine ⟨_, rfl, ?_⟩; (try simp only [tupOf])))) | refine wSkip ?_ | (refine wExit ?_; simp only [thenQ, blockQ, reduceIte, Nat.reduceEqDiff]) | refine wSeq ?_ | refine wBlock ?_)
          rw [← hv, show ownView t [] = true from rfl, Bool.true_and] at ho
          refine ⟨_, Nat.sub_lt (by omega) Nat.one_pos, j + 1, by omega, by simp only [upd_eq, Nat.reduceEqDiff, if_false, if_true, h1, h3], by simp only [upd_eq, Nat.reduceEqDiff, if_false, if_true, h1, h3], ?_⟩
          exact ⟨ho, hb⟩
      · refine ⟨0, by omega, h1, h3, rfl, rfl, rfl, hb⟩
    · rw [List.drop_of_length_le (by omega)] at ho
      refine gives_boolv ?_
      rw [← ho]; rfl
  · refine ⟨0, by omega, rfl, rfl, ?_⟩; exact ⟨rfl, rfl⟩
theorem c_sIsOwnOnly (t : StateM) (hok : t.ok 1048576) : ∀ H, call Try.prog cfg0 0 38 [.agg [.lst false (t.Nodes.map encNodeState), .lst false (t.Flights.map encFlight), i64L t.Codes]] H = some (.v (.bool (ownOnly t)), H) :=
  call_fz Try.func38 rfl ok_sIsOwnOnly rfl (by simp only [fz_cons, fz_nil, go_sem, and_self]) (p_sIsOwnOnly t hok)

theorem ok_iState_is : fnOk Try.prog cfg0 105 Try.f105 = true := by kernel_rfl
theorem p_iState_is (t : StateM) (a : Int) (hl : t.Nodes.length ≤ 1048576) : pure Try.prog cfg0 105 Try.f105 [.fp [.lst false (t.Nodes.map encNodeState), .lst false (t.Flights.map encFlight), i64L t.Codes] 0, .v (.int .i64 a)] = some (.v (.bool (inB a 0 ((t.Nodes.length : Int) - 1))), true) := by
  refine pure_wp (rs := [.tmp 4]) rfl rfl ?_
  have hw : IntKind.wrap .i64 ((t.Nodes.length : Int) - 1) = (t.Nodes.length : Int) - 1 := wrap_i64 (by omega) (by omega)
  repeat' (first | ((first | refine wSeqr (fun xx hx => ?_) | refine wIf (fun xx hx => ?_) | refine wReg (fun xx hx => ?_) | (refine wRet ?_; (try simp only [thenQ, blockQ]); refine ends_by (fun xx hx => ?_))); have hc := trivial; (repeat' (simp only [hc, go_sem, Nat.reduceAdd, Nat.reduceMul, Nat.reduceSub, Nat.reduceEqDiff, Nat.reduceLT, Nat.reduceLeDiff, Int.reduceEq, Int.reduceLT, Int.reduceLE, reduceIte, aresults, aresult, hp0, c_iin, hw, List.length_map] at hx; (try (rw [guardL_if] at hx; split at hx <;> rename_i hc)))); all_goals (subst hx; first | (refine ⟨_, rfl, fun ht => ?_, fun ht => ?_⟩ <;> (try simp only [Bool.not_eq_true', Bool.not_eq_false', Bool.and_eq_true, Bool.and_eq_false_iff, Bool.or_eq_true, Bool.or_eq_false_iff, decide_eq_true_eq, decide_eq_false_iff_not, beq_iff_eq, bne_iff_ne, Bool.not_true, Bool.not_false, Bool.true_eq_false, Bool.false_eq_true, ne_eq, Decidable.not_not, inB_t, inB_f] at ht)) | (refine ⟨_, rfl, ?_⟩; (try simp only [tupOf])))) | refine wSkip ?_ | (refine wExit ?_; simp only [thenQ, blockQ, reduceIte, Nat.reduceEqDiff]) | refine wSeq ?_ | refine wBlock ?_)
  exact ⟨rfl, rfl⟩
theorem c_iState_is (t : StateM) (a : Int) (hl : t.Nodes.length ≤ 1048576) : ∀ H, call Try.prog cfg0 0 105 [.fp [.lst false (t.Nodes.map encNodeState), .lst false (t.Flights.map encFlight), i64L t.Codes] 0, .v (.int .i64 a)] H = some (.v (.bool (inB a 0 ((t.Nodes.length : Int) - 1))), H) :=
  call_fz Try.func105 rfl ok_iState_is rfl (by simp only [fz_cons, fz_nil, go_sem, and_self]) (p_iState_is t a hl)
open Classical in
theorem cp_iState_is (t : StateM) (a : Int) (hl : t.Nodes.length ≤ 1048576) : ∀ H bt, call Try.prog cfg0 0 105 [.ptr bt 0, .v (.int .i64 a)] H = if H.h bt = some [.lst false (t.Nodes.map encNodeState), .lst false (t.Flights.map encFlight), i64L t.Codes] then some (.v (.bool (inB a 0 ((t.Nodes.length : Int) - 1))), H) else call' Try.prog cfg0 0 105 [.ptr bt 0, .v (.int .i64 a)] H :=
  fun H bt => by
    exact call_if Try.func105 rfl ok_iState_is rfl (fun hC => mapM_c (deep_ptr hC (fzE_State 7 t)) (mapM_c ((show Fz depthD (.v (.int .i64 a)) by simp only [go_sem]).1 H) (mapM_n))) (p_iState_is t a hl)

theorem ok_iIsOwnOnly : fnOk Try.prog cfg0 40 Try.f40 = true := by kernel_rfl
theorem p_iIsOwnOnly (t : StateM) (hok : t.ok 1048576) : pure Try.prog cfg0 40 Try.f40 [.agg [.lst false (t.Nodes.map encNodeState), .lst false (t.Flights.map encFlight), i64L t.Codes]] = some (.v (.bool (ownOnly t)), true) := by
  refine pure_wp (rs := [.tmp 2]) rfl rfl ?_
  have hl0 := hok.1.1
  repeat' (first | ((first | refine wSeqr (fun xx hx => ?_) | refine wIf (fun xx hx => ?_) | refine wReg (fun xx hx => ?_) | (refine wRet ?_; (try simp only [thenQ, blockQ]); refine ends_by (fun xx hx => ?_))); have hc := trivial; (repeat' (simp only [hc, go_sem, Nat.reduceAdd, Nat.reduceMul, Nat.reduceSub, Nat.reduceEqDiff, Nat.reduceLT, Nat.reduceLeDiff, Int.reduceEq, Int.reduceLT, Int.reduceLE, reduceIte, aresults, aresult, List.length_map] at hx; (try (rw [guardL_if] at hx; split at hx <;> rename_i hc)))); all_goals (subst hx; first | (refine ⟨_, rfl, fun ht => ?_, fun ht => ?_⟩ <;> (try simp only [Bool.not_eq_true', Bool.not_eq_false', Bool.and_eq_true, Bool.and_eq_false_iff, Bool.or_eq_true, Bool.or_eq_false_iff, decide_eq_true_eq, decide_eq_false_iff_not, beq_iff_eq, bne_iff_ne, Bool.not_true, Bool.not_false, Bool.true_eq_false, Bool.false_eq_true, ne_eq, Decidable.not_not, inB_t, inB_f] at ht)) | (refine ⟨_, rfl, ?_⟩; (try simp only [tupOf])))) | refine wSkip ?_ | (refine wExit ?_; simp only [thenQ, blockQ, reduceIte, Nat.reduceEqDiff]) | refine wSeq ?_ | refine wBlock ?_)
  refine wLoop (fun k s => ∃ (j : Nat), j + k = t.Nodes.length ∧ s.1 1 = .ptr 0 0 ∧ s.1 8 = .lst false (t.Nodes.map encNodeState) ∧ s.1 9 = .v (.int .i64 (t.Nodes.length : Nat)) ∧ s.1 10 = .v (.int .i64 (j : Nat)) ∧ ((t.Nodes.drop j).all (fun n => ownView t n.View) = ownOnly t) ∧ (s.2.h 0 = some [.lst false (t.Nodes.map encNodeState), .lst false (t.Flights.map encFlight), i64L t.Codes]) ∧ (0 < s.2.g)) (fun k s hI => ?_) (t.Nodes.length) _ ?_
  · obtain ⟨e, H⟩ := s
    obtain ⟨j, hj, h1, h8, h9, h10, ho, hb, hg0⟩ := hI
    simp only at h1 h8 h9 h10 ho hb hg0
    have hne : ¬ 0 = H.g := by omega
    repeat' (first | ((first | refine wSeqr (fun xx hx => ?_) | refine wIf (fun xx hx => ?_) | refine wReg (fun xx hx => ?_) | (refine wRet ?_; (try simp only [thenQ, blockQ]); refine ends_by (fun xx hx => ?_))); have hc := trivial; (repeat' (simp only [hc, go_sem, Nat.reduceAdd, Nat.reduceMul, Nat.reduceSub, Nat.reduceEqDiff, Nat.reduceLT, Nat.reduceLeDiff, Int.reduceEq, Int.reduceLT, Int.reduceLE, reduceIte, aresults, aresult, h8, h9, h10] at hx; (try (rw [guardL_if] at hx; split at hx <;> rename_i hc)))); all_goals (subst hx; first | (refine ⟨_, rfl, fun ht => ?_, fun ht => ?_⟩ <;> (try simp only [Bool.not_eq_true', Bool.not_eq_false', Bool.and_eq_true, Bool.and_eq_false_iff, Bool.or_eq_true, Bool.or_eq_false_iff, decide_eq_true_eq, decide_eq_false_iff_not, beq_iff_eq, bne_iff_ne, Bool.not_true, Bool.not_false, Bool.true_eq_false, Bool.false_eq_true, ne_eq, Decidable.not_not, inB_t, inB_f] at ht)) | (refine ⟨_, rfl, ?_⟩; (try simp only [tupOf])))) | refine wSkip ?_ | (refine wExit ?_; simp only [thenQ, blockQ, reduceIte, Nat.reduceEqDiff]) | refine wSeq ?_ | refine wBlock ?_)
    · have hlt : j < t.Nodes.length := by omega
      obtain ⟨n, hg, hd, hm⟩ := at_drop hlt
      have hg' := map_at (f := encNodeState) hg
      have hnv := (hok.1.2 n hm).2.1.1
      rw [hd, List.all_cons] at ho
      repeat' (first | ((first | refine wSeqr (fun xx hx => ?_) | refine wIf (fun xx hx => ?_) | refine wReg (fun xx hx => ?_) | (refine wRet ?_; (try simp only [thenQ, blockQ]); refine ends_by (fun xx hx => ?_))); have hc := trivial; (repeat' (simp only [hc, go_sem, Nat.reduceAdd, Nat.reduceMul, Nat.reduceSub, Nat.reduceEqDiff, Nat.reduceLT, Nat.reduceLeDiff, Int.reduceEq, Int.reduceLT, Int.reduceLE, reduceIte, aresults, aresult, h8, h10, hne, hg', List.length_map] at hx; (try (rw [guardL_if] at hx; split at hx <;> rename_i hc)))); all_goals (subst hx; first | (refine ⟨_, rfl, fun ht => ?_, fun ht => ?_⟩ <;> (try simp only [Bool.not_eq_true', Bool.not_eq_false', Bool.and_eq_true, Bool.and_eq_false_iff, Bool.or_eq_true, Bool.or_eq_false_iff, decide_eq_true_eq, decide_eq_false_iff_not, beq_iff_eq, bne_iff_ne, Bool.not_true, Bool.not_false, Bool.true_eq_false, Bool.false_eq_true, ne_eq, Decidable.not_not, inB_t, inB_f] at ht)) | (refine ⟨_, rfl, ?_⟩; (try simp only [tupOf])))) | refine wSkip ?_ | (refine wExit ?_; simp only [thenQ, blockQ, reduceIte, Nat.reduceEqDiff]) | refine wSeq ?_ | refine wBlock ?_)
      refine wLoop (fun k s => ∃ (i : Nat), i + k = n.View.length ∧ s.1 1 = .ptr 0 0 ∧ s.1 8 = .lst false (t.Nodes.map encNodeState) ∧ s.1 9 = .v (.int .i64 (t.Nodes.length : Nat)) ∧ s.1 10 = .v (.int .i64 (j : Nat)) ∧ s.1 15 = .lst false (n.View.map encClaim) ∧ s.1 16 = .v (.int .i64 (n.View.length : Nat)) ∧ s.1 17 = .v (.int .i64 (i : Nat)) ∧ (ownView t (n.View.drop i) = ownView t n.View) ∧ (s.2.h 0 = some [.lst false (t.Nodes.map encNodeState), .lst false (t.Flights.map encFlight), i64L t.Codes]) ∧ (0 < s.2.g)) (fun k s hI => ?_) (n.View.length) _ ?_
      · obtain ⟨e, H⟩ := s
        obtain ⟨i, hi, h1, h8, h9, h10, h15, h16, h17, hv, hb, hg0⟩ := hI
        simp only at h1 h8 h9 h10 h15 h16 h17 hv hb hg0
        have hne : ¬ 0 = H.g := by omega
        repeat' (first | ((first | refine wSeqr (fun xx hx => ?_) | refine wIf (fun xx hx => ?_) | refine wReg (fun xx hx => ?_) | (refine wRet ?_; (try simp only [thenQ, blockQ]); refine ends_by (fun xx hx => ?_))); have hc := trivial; (repeat' (simp only [hc, go_sem, Nat.reduceAdd, Nat.reduceMul, Nat.reduceSub, Nat.reduceEqDiff, Nat.reduceLT, Nat.reduceLeDiff, Int.reduceEq, Int.reduceLT, Int.reduceLE, reduceIte, aresults, aresult, h15, h16, h17] at hx; (try (rw [guardL_if] at hx; split at hx <;> rename_i hc)))); all_goals (subst hx; first | (refine ⟨_, rfl, fun ht => ?_, fun ht => ?_⟩ <;> (try simp only [Bool.not_eq_true', Bool.not_eq_false', Bool.and_eq_true, Bool.and_eq_false_iff, Bool.or_eq_true, Bool.or_eq_false_iff, decide_eq_true_eq, decide_eq_false_iff_not, beq_iff_eq, bne_iff_ne, Bool.not_true, Bool.not_false, Bool.true_eq_false, Bool.false_eq_true, ne_eq, Decidable.not_not, inB_t, inB_f] at ht)) | (refine ⟨_, rfl, ?_⟩; (try simp only [tupOf])))) | refine wSkip ?_ | (refine wExit ?_; simp only [thenQ, blockQ, reduceIte, Nat.reduceEqDiff]) | refine wSeq ?_ | refine wBlock ?_)
        · have hlt2 : i < n.View.length := by omega
          obtain ⟨c, hgc, hdc, hmc⟩ := at_drop hlt2
          have hgc' := map_at (f := encClaim) hgc
          rw [hdc, ownView, List.all_cons] at hv
          have his := cp_iState_is t c.Node hl0
          by_cases hin : 0 ≤ c.Node ∧ c.Node < t.Nodes.length
          · obtain ⟨q, m, hq, hmq, hoc⟩ := ownClaim_in hin
            have hmq' := map_at (f := encNodeState) hmq
            have hib : inB c.Node 0 ((t.Nodes.length : Int) - 1) = true := inB_t.2 (by omega)
            repeat' (first | ((first | refine wSeqr (fun xx hx => ?_) | refine wIf (fun xx hx => ?_) | refine wReg (fun xx hx => ?_) | (refine wRet ?_; (try simp only [thenQ, blockQ]); refine ends_by (fun xx hx => ?_))); have hc := trivial; (repeat' (simp only [hc, go_sem, Nat.reduceAdd, Nat.reduceMul, Nat.reduceSub, Nat.reduceEqDiff, Nat.reduceLT, Nat.reduceLeDiff, Int.reduceEq, Int.reduceLT, Int.reduceLE, reduceIte, aresults, aresult, h1, h15, h17, hb, hgc', hq, hmq', hib, hp0, hne, his, Bool.not_true, wrap_succ (show i < 9223372036854775807 by omega)] at hx; (try (rw [guardL_if] at hx; split at hx <;> rename_i hc)))); all_goals (subst hx; first | (refine ⟨_, rfl, fun ht => ?_, fun ht => ?_⟩ <;> (try simp only [Bool.not_eq_true', Bool.not_eq_false', Bool.and_eq_true, Bool.and_eq_false_iff, Bool.or_eq_true, Bool.or_eq_false_iff, decide_eq_true_eq, decide_eq_false_iff_not, beq_iff_eq, bne_iff_ne, Bool.not_true, Bool.not_false, Bool.true_eq_false, Bool.false_eq_true, ne_eq, Decidable.not_not, inB_t, inB_f] at ht)) | (refine ⟨_, rfl, ?_⟩; (try simp only [tupOf])))) | refine wSkip ?_ | (refine wExit ?_; simp only [thenQ, blockQ, reduceIte, Nat.reduceEqDiff]) | refine wSeq ?_ | refine wBlock ?_)
            · refine gives_boolv ?_
              rw [hoc, decide_eq_false (by omega), Bool.false_and] at hv
              rw [← ho, ← hv]; rfl
            · rw [hoc, decide_eq_true (by omega), Bool.true_and] at hv
              refine ⟨_, Nat.sub_lt (by omega) Nat.one_pos, i + 1, by omega, by simp only [upd_eq, Nat.reduceEqDiff, if_false, if_true, h1, h8, h9, h10, h15, h16, h17], by simp only [upd_eq, Nat.reduceEqDiff, if_false, if_true, h1, h8, h9, h10, h15, h16, h17], by simp only [upd_eq, Nat.reduceEqDiff, if_false, if_true, h1, h8, h9, h10, h15, h16, h17], by simp only [upd_eq, Nat.reduceEqDiff, if_false, if_true, h1, h8, h9, h10, h15, h16, h17], by simp only [upd_eq, Nat.reduceEqDiff, if_false, if_true, h1, h8, h9, h10, h15, h16, h17], by simp only [upd_eq, Nat.reduceEqDiff, if_false, if_true, h1, h8, h9, h10, h15, h16, h17], by simp only [upd_eq, Nat.reduceEqDiff, if_false, if_true, h1, h8, h9, h10, h15, h16, h17], ?_⟩
              exact ⟨hv, by simp only [Hp.set_h, Hp.new_h, hne, if_false]; exact hb, by simp⟩
          · have hoc := ownClaim_out hin
            have hib : inB c.Node 0 ((t.Nodes.length : Int) - 1) = false := inB_f.2 (by omega)
            repeat' (first | ((first | refine wSeqr (fun xx hx => ?_) | refine wIf (fun xx hx => ?_) | refine wReg (fun xx hx => ?_) | (refine wRet ?_; (try simp only [thenQ, blockQ]); refine ends_by (fun xx hx => ?_))); have hc := trivial; (repeat' (simp only [hc, go_sem, Nat.reduceAdd, Nat.reduceMul, Nat.reduceSub, Nat.reduceEqDiff, Nat.reduceLT, Nat.reduceLeDiff, Int.reduceEq, Int.reduceLT, Int.reduceLE, reduceIte, aresults, aresult, h1, h15, h17, hb, hgc', hib, hp0, hne, his, Bool.not_false] at hx; (try (rw [guardL_if] at hx; split at hx <;> rename_i hc)))); all_goals (subst hx; first | (refine ⟨_, rfl, fun ht => ?_, fun ht => ?_⟩ <;> (try simp only [Bool.not_eq_true', Bool.not_eq_false', Bool.and_eq_true, Bool.and_eq_false_iff, Bool.or_eq_true, Bool.or_eq_false_iff, decide_eq_true_eq, decide_eq_false_iff_not, beq_iff_eq, bne_iff_ne, Bool.not_true, Bool.not_false, Bool.true_eq_false, Bool.false_eq_true, ne_eq, Decidable.not_not, inB_t, inB_f] at ht)) | (refine ⟨_, rfl, ?_⟩; (try simp only [tupOf])))) | refine wSkip ?_ | (refine wExit ?_; simp only [thenQ, blockQ, reduceIte, Nat.reduceEqDiff]) | refine wSeq ?_ | refine wBlock ?_)
            refine gives_boolv ?_
            rw [hoc, Bool.false_and] at hv
            rw [← ho, ← hv]; rfl
        · rw [List.drop_of_length_le (by omega)] at hv
          
          repeat' (first | ((first | refine wSeqr (fun xx hx => ?_) | refine wIf (fun xx hx => ?_) | refine wReg (fun xx hx => ?_) | (refine wRet ?_; (try simp only [thenQ, blockQ]); refine ends_by (fun xx hx => ?_))); have hc := trivial; (repeat' (simp only [hc, go_sem, Nat.reduceAdd, Nat.reduceMul, Nat.reduceSub, Nat.reduceEqDiff, Nat.reduceLT, Nat.reduceLeDiff, Int.reduceEq, Int.reduceLT, Int.reduceLE, reduceIte, aresults, aresult, h10, wrap_succ (show j < 9223372036854775807 by omega)] at hx; (try (rw [guardL_if] at hx; split at hx <;> rename_i hc)))); all_goals (subst hx; first | (refine ⟨_, rfl, fun ht => ?_, fun ht => ?_⟩ <;> (try simp only [Bool.not_eq_true', Bool.not_eq_false', Bool.and_eq_true, Bool.and_eq_false_iff, Bool.or_eq_true, Bool.or_eq_false_iff, decide_eq_true_eq, decide_eq_false_iff_not, beq_iff_eq, bne_iff_ne, Bool.not_true, Bool.not_false, Bool.true_eq_false, Bool.false_eq_true, ne_eq, Decidable.not_not, inB_t, inB_f] at ht)) | (refine ⟨_, rfl, ?_⟩; (try simp only [tupOf])))) | refine wSkip ?_ | (refine wExit ?_; simp only [thenQ, blockQ, reduceIte, Nat.reduceEqDiff]) | refine wSeq ?_ | refine wBlock ?_)
          rw [← hv, show ownView t [] = true from rfl, Bool.true_and] at ho
          refine ⟨_, Nat.sub_lt (by omega) Nat.one_pos, j + 1, by omega, by simp only [upd_eq, Nat.reduceEqDiff, if_false, if_true, h1, h8, h9, h10], by simp only [upd_eq, Nat.reduceEqDiff, if_false, if_true, h1, h8, h9, h10], by simp only [upd_eq, Nat.reduceEqDiff, if_false, if_true, h1, h8, h9, h10], by simp only [upd_eq, Nat.reduceEqDiff, if_false, if_true, h1, h8, h9, h10], ?_⟩
          exact ⟨ho, hb, hg0⟩
      · refine ⟨0, by omega, h1, h8, h9, h10, rfl, rfl, rfl, rfl, by simp only [Hp.set_h, Hp.new_h, hne, if_false]; exact hb, by simp⟩
    · rw [List.drop_of_length_le (by omega)] at ho
      refine gives_boolv ?_
      rw [← ho]; rfl
  · refine ⟨0, by omega, rfl, rfl, rfl, rfl, ?_⟩; exact ⟨rfl, rfl, by simp⟩
theorem c_iIsOwnOnly (t : StateM) (hok : t.ok 1048576) : ∀ H, call Try.prog cfg0 0 40 [.agg [.lst false (t.Nodes.map encNodeState), .lst false (t.Flights.map encFlight), i64L t.Codes]] H = some (.v (.bool (ownOnly t)), H) :=
  call_fz Try.func40 rfl ok_iIsOwnOnly rfl (by simp only [fz_cons, fz_nil, go_sem, and_self]) (p_iIsOwnOnly t hok)

/-! Settled. -/
def findClaim : List ClaimM → Int → Nat → Option (Nat × ClaimM)
  | [], _, _ => none
  | c :: r, a, j => if c.Node = a then some (j, c) else findClaim r a (j + 1)
theorem findClaim_at : ∀ (l : List ClaimM) (a : Int) (j : Nat) (p : Nat × ClaimM), findClaim l a j = some p → j ≤ p.1 ∧ l[p.1 - j]? = some p.2 := by
  intro l
  induction l with
  | nil => intro a j p h; simp [findClaim] at h
  | cons c r ih =>
    intro a j p h
    unfold findClaim at h
    split at h
    · simp only [Option.some.injEq] at h; subst h; simp
    · obtain ⟨h1, h2⟩ := ih a (j + 1) p h
      refine ⟨by omega, ?_⟩
      rw [show p.1 - j = (p.1 - (j + 1)) + 1 by omega]; simpa using h2
def idxOf (o : Option (Nat × ClaimM)) : Int := match o with | some p => (p.1 : Int) | none => -1
theorem ok_sl8Find : fnOk Try.prog cfg0 216 Try.f216 = true := by kernel_rfl
theorem p_sl8Find (l : List ClaimM) (a : Int) (hl : l.length ≤ 1048576) : pure Try.prog cfg0 216 Try.f216 [.lst false (l.map encClaim), .v (.int .i64 a)] = some (.v (.int .i64 (idxOf (findClaim l a 0))), true) := by
  refine pure_wp (rs := [.tmp 4]) rfl rfl ?_
  repeat' (first | ((first | refine wSeqr (fun xx hx => ?_) | refine wIf (fun xx hx => ?_) | refine wReg (fun xx hx => ?_) | (refine wRet ?_; (try simp only [thenQ, blockQ]); refine ends_by (fun xx hx => ?_))); have hc := trivial; (repeat' (simp only [hc, go_sem, Nat.reduceAdd, Nat.reduceMul, Nat.reduceSub, Nat.reduceEqDiff, Nat.reduceLT, Nat.reduceLeDiff, Int.reduceEq, Int.reduceLT, Int.reduceLE, reduceIte, aresults, aresult] at hx; (try (rw [guardL_if] at hx; split at hx <;> rename_i hc)))); all_goals (subst hx; first | (refine ⟨_, rfl, fun ht => ?_, fun ht => ?_⟩ <;> (try simp only [Bool.not_eq_true', Bool.not_eq_false', Bool.and_eq_true, Bool.and_eq_false_iff, Bool.or_eq_true, Bool.or_eq_false_iff, decide_eq_true_eq, decide_eq_false_iff_not, beq_iff_eq, bne_iff_ne, Bool.not_true, Bool.not_false, Bool.true_eq_false, Bool.false_eq_true, ne_eq, Decidable.not_not, inB_t, inB_f] at ht)) | (refine ⟨_, rfl, ?_⟩; (try simp only [tupOf])))) | refine wSkip ?_ | (refine wExit ?_; simp only [thenQ, blockQ, reduceIte, Nat.reduceEqDiff]) | refine wSeq ?_ | refine wBlock ?_)
  refine wLoop (fun k s => ∃ (j : Nat), j + k = l.length ∧ s.1 0 = .lst false (l.map encClaim) ∧ s.1 1 = .v (.int .i64 a) ∧ s.1 5 = .v (.int .i64 (j : Nat)) ∧ (findClaim (l.drop j) a j = findClaim l a 0)) (fun k s hI => ?_) (l.length) _ ?_
  · obtain ⟨e, H⟩ := s
    obtain ⟨j, hj, h0, h1, h5, hf⟩ := hI
    simp only at h0 h1 h5 hf
    repeat' (first | ((first | refine wSeqr (fun xx hx => ?_) | refine wIf (fun xx hx => ?_) | refine wReg (fun xx hx => ?_) | (refine wRet ?_; (try simp only [thenQ, blockQ]); refine ends_by (fun xx hx => ?_))); have hc := trivial; (repeat' (simp only [hc, go_sem, Nat.reduceAdd, Nat.reduceMul, Nat.reduceSub, Nat.reduceEqDiff, Nat.reduceLT, Nat.reduceLeDiff, Int.reduceEq, Int.reduceLT, Int.reduceLE, reduceIte, aresults, aresult, h0, h5, List.length_map] at hx; (try (rw [guardL_if] at hx; split at hx <;> rename_i hc)))); all_goals (subst hx; first | (refine ⟨_, rfl, fun ht => ?_, fun ht => ?_⟩ <;> (try simp only [Bool.not_eq_true', Bool.not_eq_false', Bool.and_eq_true, Bool.and_eq_false_iff, Bool.or_eq_true, Bool.or_eq_false_iff, decide_eq_true_eq, decide_eq_false_iff_not, beq_iff_eq, bne_iff_ne, Bool.not_true, Bool.not_false, Bool.true_eq_false, Bool.false_eq_true, ne_eq, Decidable.not_not, inB_t, inB_f] at ht)) | (refine ⟨_, rfl, ?_⟩; (try simp only [tupOf])))) | refine wSkip ?_ | (refine wExit ?_; simp only [thenQ, blockQ, reduceIte, Nat.reduceEqDiff]) | refine wSeq ?_ | refine wBlock ?_)
    · have hlt : j < l.length := by omega
      obtain ⟨k, hg, hd, hm⟩ := at_drop hlt
      have hg' := map_at (f := encClaim) hg
      rw [hd, findClaim] at hf
      repeat' (first | ((first | refine wSeqr (fun xx hx => ?_) | refine wIf (fun xx hx => ?_) | refine wReg (fun xx hx => ?_) | (refine wRet ?_; (try simp only [thenQ, blockQ]); refine ends_by (fun xx hx => ?_))); have hc := trivial; (repeat' (simp only [hc, go_sem, Nat.reduceAdd, Nat.reduceMul, Nat.reduceSub, Nat.reduceEqDiff, Nat.reduceLT, Nat.reduceLeDiff, Int.reduceEq, Int.reduceLT, Int.reduceLE, reduceIte, aresults, aresult, h0, h1, h5, hg', wrap_succ (show j < 9223372036854775807 by omega)] at hx; (try (rw [guardL_if] at hx; split at hx <;> rename_i hc)))); all_goals (subst hx; first | (refine ⟨_, rfl, fun ht => ?_, fun ht => ?_⟩ <;> (try simp only [Bool.not_eq_true', Bool.not_eq_false', Bool.and_eq_true, Bool.and_eq_false_iff, Bool.or_eq_true, Bool.or_eq_false_iff, decide_eq_true_eq, decide_eq_false_iff_not, beq_iff_eq, bne_iff_ne, Bool.not_true, Bool.not_false, Bool.true_eq_false, Bool.false_eq_true, ne_eq, Decidable.not_not, inB_t, inB_f] at ht)) | (refine ⟨_, rfl, ?_⟩; (try simp only [tupOf])))) | refine wSkip ?_ | (refine wExit ?_; simp only [thenQ, blockQ, reduceIte, Nat.reduceEqDiff]) | refine wSeq ?_ | refine wBlock ?_)
      · rw [if_pos ht] at hf; rw [← hf]; exact ⟨rfl, rfl⟩
      · rw [if_neg ht] at hf
        refine ⟨_, Nat.sub_lt (by omega) Nat.one_pos, j + 1, by omega, by simp only [upd_eq, Nat.reduceEqDiff, if_false, if_true, h0, h1, h5], by simp only [upd_eq, Nat.reduceEqDiff, if_false, if_true, h0, h1, h5], by simp only [upd_eq, Nat.reduceEqDiff, if_false, if_true, h0, h1, h5], ?_⟩; exact hf
    · rw [List.drop_of_length_le (by omega)] at hf
      rw [← hf]; exact ⟨rfl, rfl⟩
  · refine ⟨0, by omega, rfl, rfl, rfl, ?_⟩; rfl
theorem c_sl8Find (l : List ClaimM) (a : Int) (hl : l.length ≤ 1048576) : ∀ H, call Try.prog cfg0 0 216 [.lst false (l.map encClaim), .v (.int .i64 a)] H = some (.v (.int .i64 (idxOf (findClaim l a 0))), H) :=
  call_fz Try.func216 rfl ok_sl8Find rfl (by simp only [fz_cons, fz_nil, go_sem, and_self]) (p_sl8Find l a hl)

def claimR (o : Option (Nat × ClaimM)) : ClaimM × Bool := match o with | some p => (p.2, true) | none => (⟨0, 0, 0, 0⟩, false)
theorem ok_iclaimOf : fnOk Try.prog cfg0 109 Try.f109 = true := by kernel_rfl
theorem p_iclaimOf (l : List ClaimM) (a : Int) (hl : l.length ≤ 1048576) : pure Try.prog cfg0 109 Try.f109 [.lst false (l.map encClaim), .v (.int .i64 a)] = some (.tup [.agg [.v (.int .i64 (claimR (findClaim l a 0)).1.Node), .v (.int .i64 (claimR (findClaim l a 0)).1.Inc), .v (.int .i64 (claimR (findClaim l a 0)).1.Status), .v (.int .i64 (claimR (findClaim l a 0)).1.Meta)], .v (.bool (claimR (findClaim l a 0)).2)], true) := by
  refine pure_wp (rs := [.cell 4 82, .tmp 5]) rfl rfl ?_
  repeat' (first | ((first | refine wSeqr (fun xx hx => ?_) | refine wIf (fun xx hx => ?_) | refine wReg (fun xx hx => ?_) | (refine wRet ?_; (try simp only [thenQ, blockQ]); refine ends_by (fun xx hx => ?_))); have hc := trivial; (repeat' (simp only [hc, go_sem, Nat.reduceAdd, Nat.reduceMul, Nat.reduceSub, Nat.reduceEqDiff, Nat.reduceLT, Nat.reduceLeDiff, Int.reduceEq, Int.reduceLT, Int.reduceLE, reduceIte, aresults, aresult, List.length_map] at hx; (try (rw [guardL_if] at hx; split at hx <;> rename_i hc)))); all_goals (subst hx; first | (refine ⟨_, rfl, fun ht => ?_, fun ht => ?_⟩ <;> (try simp only [Bool.not_eq_true', Bool.not_eq_false', Bool.and_eq_true, Bool.and_eq_false_iff, Bool.or_eq_true, Bool.or_eq_false_iff, decide_eq_true_eq, decide_eq_false_iff_not, beq_iff_eq, bne_iff_ne, Bool.not_true, Bool.not_false, Bool.true_eq_false, Bool.false_eq_true, ne_eq, Decidable.not_not, inB_t, inB_f] at ht)) | (refine ⟨_, rfl, ?_⟩; (try simp only [tupOf])))) | refine wSkip ?_ | (refine wExit ?_; simp only [thenQ, blockQ, reduceIte, Nat.reduceEqDiff]) | refine wSeq ?_ | refine wBlock ?_)
  refine wLoop (fun k s => ∃ (j : Nat), j + k = l.length ∧ s.1 1 = .v (.int .i64 a) ∧ s.1 4 = .ptr 0 0 ∧ s.1 8 = .lst false (l.map encClaim) ∧ s.1 9 = .v (.int .i64 (l.length : Nat)) ∧ s.1 10 = .v (.int .i64 (j : Nat)) ∧ (findClaim (l.drop j) a j = findClaim l a 0) ∧ (s.2.h 0 = some [.v (.int .i64 0), .v (.int .i64 0), .v (.int .i64 0), .v (.int .i64 0)]) ∧ (0 < s.2.g)) (fun k s hI => ?_) (l.length) _ ?_
  · obtain ⟨e, H⟩ := s
    obtain ⟨j, hj, h1, h4, h8, h9, h10, hf, hb, hg0⟩ := hI
    simp only at h1 h4 h8 h9 h10 hf hb hg0
    have hne : ¬ 0 = H.g := by omega
    repeat' (first | ((first | refine wSeqr (fun xx hx => ?_) | refine wIf (fun xx hx => ?_) | refine wReg (fun xx hx => ?_) | (refine wRet ?_; (try simp only [thenQ, blockQ]); refine ends_by (fun xx hx => ?_))); have hc := trivial; (repeat' (simp only [hc, go_sem, Nat.reduceAdd, Nat.reduceMul, Nat.reduceSub, Nat.reduceEqDiff, Nat.reduceLT, Nat.reduceLeDiff, Int.reduceEq, Int.reduceLT, Int.reduceLE, reduceIte, aresults, aresult, h4, h8, h9, h10, hb] at hx; (try (rw [guardL_if] at hx; split at hx <;> rename_i hc)))); all_goals (subst hx; first | (refine ⟨_, rfl, fun ht => ?_, fun ht => ?_⟩ <;> (try simp only [Bool.not_eq_true', Bool.not_eq_false', Bool.and_eq_true, Bool.and_eq_false_iff, Bool.or_eq_true, Bool.or_eq_false_iff, decide_eq_true_eq, decide_eq_false_iff_not, beq_iff_eq, bne_iff_ne, Bool.not_true, Bool.not_false, Bool.true_eq_false, Bool.false_eq_true, ne_eq, Decidable.not_not, inB_t, inB_f] at ht)) | (refine ⟨_, rfl, ?_⟩; (try simp only [tupOf])))) | refine wSkip ?_ | (refine wExit ?_; simp only [thenQ, blockQ, reduceIte, Nat.reduceEqDiff]) | refine wSeq ?_ | refine wBlock ?_)
    · have hlt : j < l.length := by omega
      obtain ⟨k, hg, hd, hm⟩ := at_drop hlt
      have hg' := map_at (f := encClaim) hg
      rw [hd, findClaim] at hf
      repeat' (first | ((first | refine wSeqr (fun xx hx => ?_) | refine wIf (fun xx hx => ?_) | refine wReg (fun xx hx => ?_) | (refine wRet ?_; (try simp only [thenQ, blockQ]); refine ends_by (fun xx hx => ?_))); have hc := trivial; (repeat' (simp only [hc, go_sem, Nat.reduceAdd, Nat.reduceMul, Nat.reduceSub, Nat.reduceEqDiff, Nat.reduceLT, Nat.reduceLeDiff, Int.reduceEq, Int.reduceLT, Int.reduceLE, reduceIte, aresults, aresult, h1, h4, h8, h10, hb, hne, hg', wrap_succ (show j < 9223372036854775807 by omega)] at hx; (try (rw [guardL_if] at hx; split at hx <;> rename_i hc)))); all_goals (subst hx; first | (refine ⟨_, rfl, fun ht => ?_, fun ht => ?_⟩ <;> (try simp only [Bool.not_eq_true', Bool.not_eq_false', Bool.and_eq_true, Bool.and_eq_false_iff, Bool.or_eq_true, Bool.or_eq_false_iff, decide_eq_true_eq, decide_eq_false_iff_not, beq_iff_eq, bne_iff_ne, Bool.not_true, Bool.not_false, Bool.true_eq_false, Bool.false_eq_true, ne_eq, Decidable.not_not, inB_t, inB_f] at ht)) | (refine ⟨_, rfl, ?_⟩; (try simp only [tupOf])))) | refine wSkip ?_ | (refine wExit ?_; simp only [thenQ, blockQ, reduceIte, Nat.reduceEqDiff]) | refine wSeq ?_ | refine wBlock ?_)
      · rw [if_pos ht] at hf; rw [← hf]; exact ⟨rfl, rfl⟩
      · rw [if_neg ht] at hf
        refine ⟨_, Nat.sub_lt (by omega) Nat.one_pos, j + 1, by omega, by simp only [upd_eq, Nat.reduceEqDiff, if_false, if_true, h1, h4, h8, h9, h10], by simp only [upd_eq, Nat.reduceEqDiff, if_false, if_true, h1, h4, h8, h9, h10], by simp only [upd_eq, Nat.reduceEqDiff, if_false, if_true, h1, h4, h8, h9, h10], by simp only [upd_eq, Nat.reduceEqDiff, if_false, if_true, h1, h4, h8, h9, h10], by simp only [upd_eq, Nat.reduceEqDiff, if_false, if_true, h1, h4, h8, h9, h10], ?_⟩; exact ⟨hf, by simp only [Hp.set_h, Hp.new_h, hne, if_false]; exact hb, by simp⟩
    · rw [List.drop_of_length_le (by omega)] at hf
      rw [← hf]; exact ⟨rfl, rfl⟩
  · refine ⟨0, by omega, rfl, rfl, rfl, rfl, rfl, ?_⟩; exact ⟨rfl, rfl, by simp⟩
theorem c_iclaimOf (l : List ClaimM) (a : Int) (hl : l.length ≤ 1048576) : ∀ H, call Try.prog cfg0 0 109 [.lst false (l.map encClaim), .v (.int .i64 a)] H = some (.tup [.agg [.v (.int .i64 (claimR (findClaim l a 0)).1.Node), .v (.int .i64 (claimR (findClaim l a 0)).1.Inc), .v (.int .i64 (claimR (findClaim l a 0)).1.Status), .v (.int .i64 (claimR (findClaim l a 0)).1.Meta)], .v (.bool (claimR (findClaim l a 0)).2)], H) :=
  call_fz Try.func109 rfl ok_iclaimOf rfl (by simp only [fz_cons, fz_nil, go_sem, and_self]) (p_iclaimOf l a hl)

end
end Go.Proofs.Ytmobkpfalcfepaa
