/- Contracts: settled worlds. -/
import Derived.Test.YtmobkpfalcfepaaK6
namespace Go.Proofs.Ytmobkpfalcfepaa
open Go Go.RowKit Go.Proofs.Ytmobkpfalcfepaa.Eng
set_option linter.unusedSimpArgs false
set_option linter.unusedVariables false
set_option maxRecDepth 100000
noncomputable section
theorem idxOf_some (q : Nat) (c : ClaimM) : idxOf (some (q, c)) = (q : Int) := rfl
theorem idxOf_none : idxOf none = -1 := rfl
def knowsAt (v : List ClaimM) (i : Nat) (n : NodeStateM) : Bool := match findClaim v i 0 with
  | none => false
  | some p => if n.Stopped = true then decide (p.2.Status = 2) else decide (p.2.Status = 0) && decide (p.2 = n.Own)
def knowsFrom (v : List ClaimM) : List NodeStateM → Nat → Bool
  | [], _ => true
  | n :: r, i => knowsAt v i n && knowsFrom v r (i + 1)
def settledFrom (all : List NodeStateM) : List NodeStateM → Option (List ClaimM) → Bool
  | [], _ => true
  | n :: r, o => if n.Stopped = true then settledFrom all r o else knowsFrom n.View all 0 && (match o with
    | none => settledFrom all r (some n.View)
    | some v => decide (v = n.View) && settledFrom all r (some v))
theorem ok_sl12Knows : fnOk Try.prog cfg0 181 Try.f181 = true := by kernel_rfl
theorem p_sl12Knows (t : StateM) (v : List ClaimM) (hok : t.ok 1048576) (hv : v.length ≤ 1048576) : pure Try.prog cfg0 181 Try.f181 [.fp [.lst false (t.Nodes.map encNodeState), .lst false (t.Flights.map encFlight), i64L t.Codes] 0, .lst false (v.map encClaim)] = some (.v (.bool (knowsFrom v t.Nodes 0)), true) := by
  refine pure_wp (rs := [.tmp 4]) rfl rfl ?_
  have hl0 := hok.1.1
  repeat' (first | ((first | refine wSeqr (fun xx hx => ?_) | refine wIf (fun xx hx => ?_) | refine wReg (fun xx hx => ?_) | (refine wRet ?_; (try simp only [thenQ, blockQ]); refine ends_by (fun xx hx => ?_))); have hc := trivial; (repeat' (simp only [hc, go_sem, Nat.reduceAdd, Nat.reduceMul, Nat.reduceSub, Nat.reduceEqDiff, Nat.reduceLT, Nat.reduceLeDiff, Int.reduceEq, Int.reduceLT, Int.reduceLE, reduceIte, aresults, aresult] at hx; (try (rw [guardL_if] at hx; split at hx <;> rename_i hc)))); all_goals (subst hx; first | (refine ⟨_, rfl, fun ht => ?_, fun ht => ?_⟩ <;> (try simp only [Bool.not_eq_true', Bool.not_eq_false', Bool.and_eq_true, Bool.and_eq_false_iff, Bool.or_eq_true, Bool.or_eq_false_iff, decide_eq_true_eq, decide_eq_false_iff_not, beq_iff_eq, bne_iff_ne, Bool.not_true, Bool.not_false, Bool.true_eq_false, Bool.false_eq_true, ne_eq, Decidable.not_not, inB_t, inB_f] at ht)) | (refine ⟨_, rfl, ?_⟩; (try simp only [tupOf])))) | refine wSkip ?_ | (refine wExit ?_; simp only [thenQ, blockQ, reduceIte, Nat.reduceEqDiff]) | refine wSeq ?_ | refine wBlock ?_)
  refine wLoop (fun k s => ∃ (j : Nat), j + k = t.Nodes.length ∧ s.1 0 = .fp [.lst false (t.Nodes.map encNodeState), .lst false (t.Flights.map encFlight), i64L t.Codes] 0 ∧ s.1 1 = .lst false (v.map encClaim) ∧ s.1 5 = .v (.int .i64 (j : Nat)) ∧ (knowsFrom v (t.Nodes.drop j) j = knowsFrom v t.Nodes 0)) (fun k s hI => ?_) (t.Nodes.length) _ ?_
  · obtain ⟨e, H⟩ := s
    obtain ⟨j, hj, h0, h1, h5, hk⟩ := hI
    simp only at h0 h1 h5 hk
    repeat' (first | ((first | refine wSeqr (fun xx hx => ?_) | refine wIf (fun xx hx => ?_) | refine wReg (fun xx hx => ?_) | (refine wRet ?_; (try simp only [thenQ, blockQ]); refine ends_by (fun xx hx => ?_))); have hc := trivial; (repeat' (simp only [hc, go_sem, Nat.reduceAdd, Nat.reduceMul, Nat.reduceSub, Nat.reduceEqDiff, Nat.reduceLT, Nat.reduceLeDiff, Int.reduceEq, Int.reduceLT, Int.reduceLE, reduceIte, aresults, aresult, h0, h5, List.length_map] at hx; (try (rw [guardL_if] at hx; split at hx <;> rename_i hc)))); all_goals (subst hx; first | (refine ⟨_, rfl, fun ht => ?_, fun ht => ?_⟩ <;> (try simp only [Bool.not_eq_true', Bool.not_eq_false', Bool.and_eq_true, Bool.and_eq_false_iff, Bool.or_eq_true, Bool.or_eq_false_iff, decide_eq_true_eq, decide_eq_false_iff_not, beq_iff_eq, bne_iff_ne, Bool.not_true, Bool.not_false, Bool.true_eq_false, Bool.false_eq_true, ne_eq, Decidable.not_not, inB_t, inB_f] at ht)) | (refine ⟨_, rfl, ?_⟩; (try simp only [tupOf])))) | refine wSkip ?_ | (refine wExit ?_; simp only [thenQ, blockQ, reduceIte, Nat.reduceEqDiff]) | refine wSeq ?_ | refine wBlock ?_)
    · have hlt : j < t.Nodes.length := by omega
      obtain ⟨n, hg, hd, hm⟩ := at_drop hlt
      have hg' := map_at (f := encNodeState) hg
      rw [hd, knowsFrom] at hk
      cases hfc : findClaim v j 0 with
      | none =>
        have hka : knowsAt v j n = false := by simp [knowsAt, hfc]
        rw [hka, Bool.false_and] at hk
        repeat' (first | ((first | refine wSeqr (fun xx hx => ?_) | refine wIf (fun xx hx => ?_) | refine wReg (fun xx hx => ?_) | (refine wRet ?_; (try simp only [thenQ, blockQ]); refine ends_by (fun xx hx => ?_))); have hc := trivial; (repeat' (simp only [hc, go_sem, Nat.reduceAdd, Nat.reduceMul, Nat.reduceSub, Nat.reduceEqDiff, Nat.reduceLT, Nat.reduceLeDiff, Int.reduceEq, Int.reduceLT, Int.reduceLE, reduceIte, aresults, aresult, h0, h1, h5, hg', hp0, c_sl8Find v j hv, hfc, idxOf_none] at hx; (try (rw [guardL_if] at hx; split at hx <;> rename_i hc)))); all_goals (subst hx; first | (refine ⟨_, rfl, fun ht => ?_, fun ht => ?_⟩ <;> (try simp only [Bool.not_eq_true', Bool.not_eq_false', Bool.and_eq_true, Bool.and_eq_false_iff, Bool.or_eq_true, Bool.or_eq_false_iff, decide_eq_true_eq, decide_eq_false_iff_not, beq_iff_eq, bne_iff_ne, Bool.not_true, Bool.not_false, Bool.true_eq_false, Bool.false_eq_true, ne_eq, Decidable.not_not, inB_t, inB_f] at ht) <;> (try (exfalso; omega))) | (refine ⟨_, rfl, ?_⟩; (try simp only [tupOf])))) | refine wSkip ?_ | (refine wExit ?_; simp only [thenQ, blockQ, reduceIte, Nat.reduceEqDiff]) | refine wSeq ?_ | refine wBlock ?_)
        refine gives_boolv hk
      | some p =>
        obtain ⟨q, c⟩ := p
        have hat := (findClaim_at v j 0 _ hfc).2
        simp only [Nat.sub_zero] at hat
        have hat' := map_at (f := encClaim) hat
        have hka : knowsAt v j n = if n.Stopped = true then decide (c.Status = 2) else decide (c.Status = 0) && decide (c = n.Own) := by simp [knowsAt, hfc]
        rw [hka] at hk
        repeat' (first | ((first | refine wSeqr (fun xx hx => ?_) | refine wIf (fun xx hx => ?_) | refine wReg (fun xx hx => ?_) | (refine wRet ?_; (try simp only [thenQ, blockQ]); refine ends_by (fun xx hx => ?_))); have hc := trivial; (repeat' (simp only [hc, go_sem, Nat.reduceAdd, Nat.reduceMul, Nat.reduceSub, Nat.reduceEqDiff, Nat.reduceLT, Nat.reduceLeDiff, Int.reduceEq, Int.reduceLT, Int.reduceLE, reduceIte, aresults, aresult, h0, h1, h5, hg', hp0, c_sl8Find v j hv, hfc, idxOf_some, hat', wrap_succ (show j < 9223372036854775807 by omega)] at hx; (try (rw [guardL_if] at hx; split at hx <;> rename_i hc)))); all_goals (subst hx; first | (refine ⟨_, rfl, fun ht => ?_, fun ht => ?_⟩ <;> (try simp only [Bool.not_eq_true', Bool.not_eq_false', Bool.and_eq_true, Bool.and_eq_false_iff, Bool.or_eq_true, Bool.or_eq_false_iff, decide_eq_true_eq, decide_eq_false_iff_not, beq_iff_eq, bne_iff_ne, Bool.not_true, Bool.not_false, Bool.true_eq_false, Bool.false_eq_true, ne_eq, Decidable.not_not, inB_t, inB_f] at ht) <;> (try (exfalso; omega))) | (refine ⟨_, rfl, ?_⟩; (try simp only [tupOf])))) | refine wSkip ?_ | (refine wExit ?_; simp only [thenQ, blockQ, reduceIte, Nat.reduceEqDiff]) | refine wSeq ?_ | refine wBlock ?_)
        all_goals (try simp only [Bool.not_eq_true', Bool.not_eq_false', Bool.and_eq_true, Bool.and_eq_false_iff, Bool.or_eq_true, Bool.or_eq_false_iff, decide_eq_true_eq, decide_eq_false_iff_not, beq_iff_eq, bne_iff_ne, Bool.not_true, Bool.not_false, Bool.true_eq_false, Bool.false_eq_true, ne_eq, Decidable.not_not, inB_t, inB_f] at *)
        any_goals (refine gives_boolv ?_; rw [← hk]; simp_all; done)
        all_goals (refine ⟨_, Nat.sub_lt (by omega) Nat.one_pos, j + 1, by omega, by simp only [upd_eq, Nat.reduceEqDiff, if_false, if_true, h0, h1, h5], by simp only [upd_eq, Nat.reduceEqDiff, if_false, if_true, h0, h1, h5], by simp only [upd_eq, Nat.reduceEqDiff, if_false, if_true, h0, h1, h5], ?_⟩; simp_all)
    · rw [List.drop_of_length_le (by omega)] at hk
      exact gives_boolv hk
  · refine ⟨0, by omega, rfl, rfl, rfl, ?_⟩; rfl
theorem c_sl12Knows (t : StateM) (v : List ClaimM) (hok : t.ok 1048576) (hv : v.length ≤ 1048576) : ∀ H, call Try.prog cfg0 0 181 [.fp [.lst false (t.Nodes.map encNodeState), .lst false (t.Flights.map encFlight), i64L t.Codes] 0, .lst false (v.map encClaim)] H = some (.v (.bool (knowsFrom v t.Nodes 0)), H) :=
  call_fz Try.func181 rfl ok_sl12Knows rfl (by simp only [fz_cons, fz_nil, go_sem, and_self]) (p_sl12Knows t v hok hv)
open Classical in
theorem cp_sl12Knows (t : StateM) (v : List ClaimM) (hok : t.ok 1048576) (hv : v.length ≤ 1048576) : ∀ H bt, call Try.prog cfg0 0 181 [.ptr bt 0, .lst false (v.map encClaim)] H = if H.h bt = some [.lst false (t.Nodes.map encNodeState), .lst false (t.Flights.map encFlight), i64L t.Codes] then some (.v (.bool (knowsFrom v t.Nodes 0)), H) else call' Try.prog cfg0 0 181 [.ptr bt 0, .lst false (v.map encClaim)] H :=
  fun H bt => by
    exact call_if Try.func181 rfl ok_sl12Knows rfl (fun hC => mapM_c (deep_ptr hC (fzE_State 7 t)) (mapM_c ((show Fz depthD (.lst false (v.map encClaim)) by simp only [go_sem]).1 H) (mapM_n))) (p_sl12Knows t v hok hv)

abbrev OV := Option (List ClaimM)
/-- The view that was seen last, in a list of nodes. -/
def SeenAt (t : StateM) (q : Int) (o : Option (List ClaimM)) : Prop := (q = -1 ∧ o = none) ∨ ∃ (i : Nat) (m : NodeStateM), q = (i : Int) ∧ t.Nodes[i]? = some m ∧ o = some m.View
theorem ok_sl12Settled : fnOk Try.prog cfg0 107 Try.f107 = true := by kernel_rfl
theorem p_sl12Settled (t : StateM) (hok : t.ok 1048576) : pure Try.prog cfg0 107 Try.f107 [.fp [.lst false (t.Nodes.map encNodeState), .lst false (t.Flights.map encFlight), i64L t.Codes] 0] = some (.v (.bool (settledFrom t.Nodes t.Nodes none)), true) := by
  refine pure_wp (rs := [.tmp 2]) rfl rfl ?_
  have hl0 := hok.1.1
  repeat' (first | ((first | refine wSeqr (fun xx hx => ?_) | refine wIf (fun xx hx => ?_) | refine wReg (fun xx hx => ?_) | (refine wRet ?_; (try simp only [thenQ, blockQ]); refine ends_by (fun xx hx => ?_))); have hc := trivial; (repeat' (simp only [hc, go_sem, Nat.reduceAdd, Nat.reduceMul, Nat.reduceSub, Nat.reduceEqDiff, Nat.reduceLT, Nat.reduceLeDiff, Int.reduceEq, Int.reduceLT, Int.reduceLE, reduceIte, aresults, aresult] at hx; (try (rw [guardL_if] at hx; split at hx <;> rename_i hc)))); all_goals (subst hx; first | (refine ⟨_, rfl, fun ht => ?_, fun ht => ?_⟩ <;> (try simp only [Bool.not_eq_true', Bool.not_eq_false', Bool.and_eq_true, Bool.and_eq_false_iff, Bool.or_eq_true, Bool.or_eq_false_iff, decide_eq_true_eq, decide_eq_false_iff_not, beq_iff_eq, bne_iff_ne, Bool.not_true, Bool.not_false, Bool.true_eq_false, Bool.false_eq_true, ne_eq, Decidable.not_not, inB_t, inB_f] at ht)) | (refine ⟨_, rfl, ?_⟩; (try simp only [tupOf])))) | refine wSkip ?_ | (refine wExit ?_; simp only [thenQ, blockQ, reduceIte, Nat.reduceEqDiff]) | refine wSeq ?_ | refine wBlock ?_)
  refine wLoop (fun k s => ∃ (j : Nat) (q : Int) (o : OV), j + k = t.Nodes.length ∧ s.1 0 = .fp [.lst false (t.Nodes.map encNodeState), .lst false (t.Flights.map encFlight), i64L t.Codes] 0 ∧ s.1 3 = .v (.int .i64 q) ∧ s.1 4 = .v (.int .i64 (j : Nat)) ∧ (settledFrom t.Nodes (t.Nodes.drop j) o = settledFrom t.Nodes t.Nodes none) ∧ (SeenAt t q o)) (fun k s hI => ?_) (t.Nodes.length) _ ?_
  · obtain ⟨e, H⟩ := s
    obtain ⟨j, q, o, hj, h0, h3, h4, hk, hs⟩ := hI
    simp only at h0 h3 h4 hk hs
    repeat' (first | ((first | refine wSeqr (fun xx hx => ?_) | refine wIf (fun xx hx => ?_) | refine wReg (fun xx hx => ?_) | (refine wRet ?_; (try simp only [thenQ, blockQ]); refine ends_by (fun xx hx => ?_))); have hc := trivial; (repeat' (simp only [hc, go_sem, Nat.reduceAdd, Nat.reduceMul, Nat.reduceSub, Nat.reduceEqDiff, Nat.reduceLT, Nat.reduceLeDiff, Int.reduceEq, Int.reduceLT, Int.reduceLE, reduceIte, aresults, aresult, h0, h4, List.length_map] at hx; (try (rw [guardL_if] at hx; split at hx <;> rename_i hc)))); all_goals (subst hx; first | (refine ⟨_, rfl, fun ht => ?_, fun ht => ?_⟩ <;> (try simp only [Bool.not_eq_true', Bool.not_eq_false', Bool.and_eq_true, Bool.and_eq_false_iff, Bool.or_eq_true, Bool.or_eq_false_iff, decide_eq_true_eq, decide_eq_false_iff_not, beq_iff_eq, bne_iff_ne, Bool.not_true, Bool.not_false, Bool.true_eq_false, Bool.false_eq_true, ne_eq, Decidable.not_not, inB_t, inB_f] at ht)) | (refine ⟨_, rfl, ?_⟩; (try simp only [tupOf])))) | refine wSkip ?_ | (refine wExit ?_; simp only [thenQ, blockQ, reduceIte, Nat.reduceEqDiff]) | refine wSeq ?_ | refine wBlock ?_)
    · have hlt : j < t.Nodes.length := by omega
      obtain ⟨n, hg, hd, hm⟩ := at_drop hlt
      have hg' := map_at (f := encNodeState) hg
      have hnv := (hok.1.2 n hm).2.1
      have hkn := c_sl12Knows t n.View hok hnv.1
      rcases hs with ⟨rfl, rfl⟩ | ⟨i, m, rfl, hmi, rfl⟩
      · rw [hd, settledFrom.eq_def] at hk
        simp only at hk
        repeat' (first | ((first | refine wSeqr (fun xx hx => ?_) | refine wIf (fun xx hx => ?_) | refine wReg (fun xx hx => ?_) | (refine wRet ?_; (try simp only [thenQ, blockQ]); refine ends_by (fun xx hx => ?_))); have hc := trivial; (repeat' (simp only [hc, go_sem, Nat.reduceAdd, Nat.reduceMul, Nat.reduceSub, Nat.reduceEqDiff, Nat.reduceLT, Nat.reduceLeDiff, Int.reduceEq, Int.reduceLT, Int.reduceLE, reduceIte, aresults, aresult, h0, h3, h4, hg', hp0, hkn, wrap_succ (show j < 9223372036854775807 by omega)] at hx; (try (rw [guardL_if] at hx; split at hx <;> rename_i hc)))); all_goals (subst hx; first | (refine ⟨_, rfl, fun ht => ?_, fun ht => ?_⟩ <;> (try simp only [Bool.not_eq_true', Bool.not_eq_false', Bool.and_eq_true, Bool.and_eq_false_iff, Bool.or_eq_true, Bool.or_eq_false_iff, decide_eq_true_eq, decide_eq_false_iff_not, beq_iff_eq, bne_iff_ne, Bool.not_true, Bool.not_false, Bool.true_eq_false, Bool.false_eq_true, ne_eq, Decidable.not_not, inB_t, inB_f] at ht) <;> (try (exfalso; omega))) | (refine ⟨_, rfl, ?_⟩; (try simp only [tupOf])))) | refine wSkip ?_ | (refine wExit ?_; simp only [thenQ, blockQ, reduceIte, Nat.reduceEqDiff]) | refine wSeq ?_ | refine wBlock ?_)
        all_goals (try simp only [Bool.not_eq_true', Bool.not_eq_false', Bool.and_eq_true, Bool.and_eq_false_iff, Bool.or_eq_true, Bool.or_eq_false_iff, decide_eq_true_eq, decide_eq_false_iff_not, beq_iff_eq, bne_iff_ne, Bool.not_true, Bool.not_false, Bool.true_eq_false, Bool.false_eq_true, ne_eq, Decidable.not_not, inB_t, inB_f] at *)
        · rw [if_pos (by assumption)] at hk
          refine ⟨_, Nat.sub_lt (by omega) Nat.one_pos, j + 1, -1, none, by omega, by simp only [upd_eq, Nat.reduceEqDiff, if_false, if_true, h0, h3, h4], by simp only [upd_eq, Nat.reduceEqDiff, if_false, if_true, h0, h3, h4], by simp only [upd_eq, Nat.reduceEqDiff, if_false, if_true, h0, h3, h4], ?_⟩; exact ⟨hk, .inl ⟨rfl, rfl⟩⟩
        · refine gives_boolv ?_; rw [← hk]; simp_all
        · rw [if_neg (by simp_all)] at hk
          have e : knowsFrom n.View t.Nodes 0 = true := by simp_all
          rw [e, Bool.true_and] at hk
          refine ⟨_, Nat.sub_lt (by omega) Nat.one_pos, j + 1, (j : Int), some n.View, by omega, by simp only [upd_eq, Nat.reduceEqDiff, if_false, if_true, h0, h3, h4], by simp only [upd_eq, Nat.reduceEqDiff, if_false, if_true, h0, h3, h4], by simp only [upd_eq, Nat.reduceEqDiff, if_false, if_true, h0, h3, h4], ?_⟩; exact ⟨hk, .inr ⟨j, n, rfl, hg, rfl⟩⟩
      · rw [hd, settledFrom.eq_def] at hk
        simp only at hk
        have hmi' := map_at (f := encNodeState) hmi
        have hmv := (hok.1.2 m (List.mem_of_getElem? hmi)).2.1
        repeat' (first | ((first | refine wSeqr (fun xx hx => ?_) | refine wIf (fun xx hx => ?_) | refine wReg (fun xx hx => ?_) | (refine wRet ?_; (try simp only [thenQ, blockQ]); refine ends_by (fun xx hx => ?_))); have hc := trivial; (repeat' (simp only [hc, go_sem, Nat.reduceAdd, Nat.reduceMul, Nat.reduceSub, Nat.reduceEqDiff, Nat.reduceLT, Nat.reduceLeDiff, Int.reduceEq, Int.reduceLT, Int.reduceLE, reduceIte, aresults, aresult, h0, h3, h4, hg', hmi', hp0, hkn, c_sSameViews n.View m.View hnv hmv, wrap_succ (show j < 9223372036854775807 by omega)] at hx; (try (rw [guardL_if] at hx; split at hx <;> rename_i hc)))); all_goals (subst hx; first | (refine ⟨_, rfl, fun ht => ?_, fun ht => ?_⟩ <;> (try simp only [Bool.not_eq_true', Bool.not_eq_false', Bool.and_eq_true, Bool.and_eq_false_iff, Bool.or_eq_true, Bool.or_eq_false_iff, decide_eq_true_eq, decide_eq_false_iff_not, beq_iff_eq, bne_iff_ne, Bool.not_true, Bool.not_false, Bool.true_eq_false, Bool.false_eq_true, ne_eq, Decidable.not_not, inB_t, inB_f] at ht) <;> (try (exfalso; omega))) | (refine ⟨_, rfl, ?_⟩; (try simp only [tupOf])))) | refine wSkip ?_ | (refine wExit ?_; simp only [thenQ, blockQ, reduceIte, Nat.reduceEqDiff]) | refine wSeq ?_ | refine wBlock ?_)
        all_goals (try simp only [Bool.not_eq_true', Bool.not_eq_false', Bool.and_eq_true, Bool.and_eq_false_iff, Bool.or_eq_true, Bool.or_eq_false_iff, decide_eq_true_eq, decide_eq_false_iff_not, beq_iff_eq, bne_iff_ne, Bool.not_true, Bool.not_false, Bool.true_eq_false, Bool.false_eq_true, ne_eq, Decidable.not_not, inB_t, inB_f] at *)
        · rw [if_pos (by assumption)] at hk
          refine ⟨_, Nat.sub_lt (by omega) Nat.one_pos, j + 1, (i : Int), some m.View, by omega, by simp only [upd_eq, Nat.reduceEqDiff, if_false, if_true, h0, h3, h4], by simp only [upd_eq, Nat.reduceEqDiff, if_false, if_true, h0, h3, h4], by simp only [upd_eq, Nat.reduceEqDiff, if_false, if_true, h0, h3, h4], ?_⟩; exact ⟨hk, .inr ⟨i, m, rfl, hmi, rfl⟩⟩
        any_goals (refine gives_boolv ?_; rw [← hk]; simp_all; done)
        any_goals (refine gives_boolv ?_; rw [← hk]; have hne : ¬ m.View = n.View := (fun h => by simp_all); simp_all; done)
        all_goals (
          have hst : n.Stopped = false := by assumption
          have e : knowsFrom n.View t.Nodes 0 = true := by simp_all
          have e2 : n.View = m.View := by simp_all
          rw [if_neg (by simp [hst]), e, Bool.true_and, decide_eq_true e2.symm, Bool.true_and, ← e2] at hk
          refine ⟨_, Nat.sub_lt (by omega) Nat.one_pos, j + 1, (j : Int), some n.View, by omega, by simp only [upd_eq, Nat.reduceEqDiff, if_false, if_true, h0, h3, h4], by simp only [upd_eq, Nat.reduceEqDiff, if_false, if_true, h0, h3, h4], by simp only [upd_eq, Nat.reduceEqDiff, if_false, if_true, h0, h3, h4], ?_⟩
          exact ⟨hk, .inr ⟨j, n, rfl, hg, rfl⟩⟩)
    · rw [List.drop_of_length_le (by omega)] at hk
      exact gives_boolv hk
  · refine ⟨0, -1, none, by omega, rfl, rfl, rfl, ?_⟩; exact ⟨by simp, .inl ⟨rfl, rfl⟩⟩
theorem c_sl12Settled (t : StateM) (hok : t.ok 1048576) : ∀ H, call Try.prog cfg0 0 107 [.fp [.lst false (t.Nodes.map encNodeState), .lst false (t.Flights.map encFlight), i64L t.Codes] 0] H = some (.v (.bool (settledFrom t.Nodes t.Nodes none)), H) :=
  call_fz Try.func107 rfl ok_sl12Settled rfl (by simp only [fz_cons, fz_nil, go_sem, and_self]) (p_sl12Settled t hok)
open Classical in
theorem cp_sl12Settled (t : StateM) (hok : t.ok 1048576) : ∀ H bt, call Try.prog cfg0 0 107 [.ptr bt 0] H = if H.h bt = some [.lst false (t.Nodes.map encNodeState), .lst false (t.Flights.map encFlight), i64L t.Codes] then some (.v (.bool (settledFrom t.Nodes t.Nodes none)), H) else call' Try.prog cfg0 0 107 [.ptr bt 0] H :=
  fun H bt => by
    exact call_if Try.func107 rfl ok_sl12Settled rfl (fun hC => mapM_c (deep_ptr hC (fzE_State 7 t)) (mapM_n)) (p_sl12Settled t hok)

theorem ok_sIsSettled : fnOk Try.prog cfg0 42 Try.f42 = true := by kernel_rfl
theorem p_sIsSettled (t : StateM) (hok : t.ok 1048576) : pure Try.prog cfg0 42 Try.f42 [.agg [.lst false (t.Nodes.map encNodeState), .lst false (t.Flights.map encFlight), i64L t.Codes]] = some (.v (.bool (settledFrom t.Nodes t.Nodes none)), true) := by
  refine pure_wp (rs := [.tmp 2]) rfl rfl ?_
  repeat' (first | ((first | refine wSeqr (fun xx hx => ?_) | refine wIf (fun xx hx => ?_) | refine wReg (fun xx hx => ?_) | (refine wRet ?_; (try simp only [thenQ, blockQ]); refine ends_by (fun xx hx => ?_))); have hc := trivial; (repeat' (simp only [hc, go_sem, Nat.reduceAdd, Nat.reduceMul, Nat.reduceSub, Nat.reduceEqDiff, Nat.reduceLT, Nat.reduceLeDiff, Int.reduceEq, Int.reduceLT, Int.reduceLE, reduceIte, aresults, aresult, hp0, cp_sl12Settled t hok] at hx; (try (rw [guardL_if] at hx; split at hx <;> rename_i hc)))); all_goals (subst hx; first | (refine ⟨_, rfl, fun ht => ?_, fun ht => ?_⟩ <;> (try simp only [Bool.not_eq_true', Bool.not_eq_false', Bool.and_eq_true, Bool.and_eq_false_iff, Bool.or_eq_true, Bool.or_eq_false_iff, decide_eq_true_eq, decide_eq_false_iff_not, beq_iff_eq, bne_iff_ne, Bool.not_true, Bool.not_false, Bool.true_eq_false, Bool.false_eq_true, ne_eq, Decidable.not_not, inB_t, inB_f] at ht)) | (refine ⟨_, rfl, ?_⟩; (try simp only [tupOf])))) | refine wSkip ?_ | (refine wExit ?_; simp only [thenQ, blockQ, reduceIte, Nat.reduceEqDiff]) | refine wSeq ?_ | refine wBlock ?_)
  exact ⟨rfl, rfl⟩
theorem c_sIsSettled (t : StateM) (hok : t.ok 1048576) : ∀ H, call Try.prog cfg0 0 42 [.agg [.lst false (t.Nodes.map encNodeState), .lst false (t.Flights.map encFlight), i64L t.Codes]] H = some (.v (.bool (settledFrom t.Nodes t.Nodes none)), H) :=
  call_fz Try.func42 rfl ok_sIsSettled rfl (by simp only [fz_cons, fz_nil, go_sem, and_self]) (p_sIsSettled t hok)

end
end Go.Proofs.Ytmobkpfalcfepaa
