/- Contracts: settled worlds, the program's side. -/
import Derived.Test.YtmobkpfalcfepaaK7
namespace Go.Proofs.Ytmobkpfalcfepaa
open Go Go.RowKit Go.Proofs.Ytmobkpfalcfepaa.Eng
set_option linter.unusedSimpArgs false
set_option linter.unusedVariables false
set_option maxRecDepth 100000
set_option maxHeartbeats 1000000
noncomputable section
theorem RAcc.off {H : Hp} {x : AV} {sz n : Nat} {cs : List AV} (h : RAcc H x sz cs n) {b : Nat} (hb : H.g ≤ b) : Off b x := by
  rcases h.2 with ⟨-, rfl | rfl⟩ | ⟨b', hb', rfl, hh⟩
  · exact off_lst
  · exact off_nil
  · intro sz o n e; simp at e; omega
theorem RAcc.slE {H : Hp} {x : AV} {sz n : Nat} {cs : List AV} (h : RAcc H x sz cs n) (hn : 0 < n) : ∃ b, b < H.g ∧ x = .sl b sz 0 n ∧ H.h b = some cs := by
  rcases h.2 with ⟨h0, -⟩ | h
  · omega
  · exact h
abbrev LVs := List (List ClaimM)
def vcell (v : List ClaimM) : AV := .lst false (v.map encClaim)
def headV (vs : LVs) (v : List ClaimM) : List ClaimM := match vs with | [] => v | u :: _ => u
theorem headV_at (vs : LVs) (v : List ClaimM) : (vs.map vcell ++ [vcell v])[0]? = some (vcell (headV vs v)) := by cases vs <;> rfl
theorem headV_head (vs : LVs) (v : List ClaimM) : (vs ++ [v]).head? = some (headV vs v) := by cases vs <;> rfl
theorem settled_step {all r : List NodeStateM} {n : NodeStateM} (vs : LVs) (h : n.Stopped = false) : settledFrom all (n :: r) vs.head? = (knowsFrom n.View all 0 && (decide (headV vs n.View = n.View) && settledFrom all r (vs ++ [n.View]).head?)) := by
  rw [settledFrom.eq_def]
  simp only [h, Bool.false_eq_true, if_false]
  cases vs with
  | nil => simp [headV]
  | cons u us => rfl
theorem claimR_some (q : Nat) (c : ClaimM) : claimR (some (q, c)) = (c, true) := rfl
theorem claimR_none : claimR none = (⟨0, 0, 0, 0⟩, false) := rfl
def ViewOk (v : List ClaimM) : Prop := v.length ≤ 1048576 ∧ ∀ x ∈ v, x.ok 1048576
theorem headV_ok {vs : LVs} {v : List ClaimM} (h : ∀ u ∈ vs, ViewOk u) (hv : ViewOk v) : ViewOk (headV vs v) := by
  cases vs with
  | nil => exact hv
  | cons u us => exact h u (by simp)
theorem settled_skip {all r : List NodeStateM} {n : NodeStateM} (o : Option (List ClaimM)) (h : n.Stopped = true) : settledFrom all (n :: r) o = settledFrom all r o := by
  rw [settledFrom.eq_def]; simp [h]
theorem ok_iIsSettled : fnOk Try.prog cfg0 43 Try.f43 = true := by kernel_rfl
theorem p_iIsSettled (t : StateM) (hok : t.ok 1048576) : pure Try.prog cfg0 43 Try.f43 [.agg [.lst false (t.Nodes.map encNodeState), .lst false (t.Flights.map encFlight), i64L t.Codes]] = some (.v (.bool (settledFrom t.Nodes t.Nodes none)), true) := by
  refine pure_wp (rs := [.tmp 2]) rfl rfl ?_
  have hl0 := hok.1.1
  repeat' (first | ((first | refine wSeqr (fun xx hx => ?_) | refine wIf (fun xx hx => ?_) | refine wReg (fun xx hx => ?_) | (refine wRet ?_; (try simp only [thenQ, blockQ]); refine ends_by (fun xx hx => ?_))); have hc := trivial; (repeat' (simp only [hc, go_sem, Nat.reduceAdd, Nat.reduceMul, Nat.reduceSub, Nat.reduceEqDiff, Nat.reduceLT, Nat.reduceLeDiff, Int.reduceEq, Int.reduceLT, Int.reduceLE, reduceIte, aresults, aresult, List.length_map] at hx; (try (rw [guardL_if] at hx; split at hx <;> rename_i hc)))); all_goals (subst hx; first | (refine ⟨_, rfl, fun ht => ?_, fun ht => ?_⟩ <;> (try simp only [Bool.not_eq_true', Bool.not_eq_false', Bool.and_eq_true, Bool.and_eq_false_iff, Bool.or_eq_true, Bool.or_eq_false_iff, decide_eq_true_eq, decide_eq_false_iff_not, beq_iff_eq, bne_iff_ne, Bool.not_true, Bool.not_false, Bool.true_eq_false, Bool.false_eq_true, ne_eq, Decidable.not_not, inB_t, inB_f] at ht)) | (refine ⟨_, rfl, ?_⟩; (try simp only [tupOf])))) | refine wSkip ?_ | (refine wExit ?_; simp only [thenQ, blockQ, reduceIte, Nat.reduceEqDiff]) | refine wSeq ?_ | refine wBlock ?_)
  refine wLoop (fun k s => ∃ (j : Nat) (x : AV) (vs : LVs), j + k = t.Nodes.length ∧ s.1 1 = .ptr 0 0 ∧ s.1 3 = x ∧ s.1 11 = .lst false (t.Nodes.map encNodeState) ∧ s.1 12 = .v (.int .i64 (t.Nodes.length : Nat)) ∧ s.1 13 = .v (.int .i64 (j : Nat)) ∧ (settledFrom t.Nodes (t.Nodes.drop j) vs.head? = settledFrom t.Nodes t.Nodes none) ∧ (s.2.h 0 = some [.lst false (t.Nodes.map encNodeState), .lst false (t.Flights.map encFlight), i64L t.Codes]) ∧ (0 < s.2.g) ∧ (RAcc s.2 x 1 (vs.map vcell) vs.length) ∧ (Off 0 x) ∧ (vs.length ≤ j) ∧ (∀ v ∈ vs, ViewOk v)) (fun k s hI => ?_) (t.Nodes.length) _ ?_
  · obtain ⟨e, H⟩ := s
    obtain ⟨j, x, vs, hj, h1, h3, h11, h12, h13, hk, hb, hg0, hacc, hoff, hvl, hvo⟩ := hI
    simp only at h1 h3 h11 h12 h13 hk hb hg0 hacc hoff hvl hvo
    have hne : ¬ 0 = H.g := by omega
    repeat' (first | ((first | refine wSeqr (fun xx hx => ?_) | refine wIf (fun xx hx => ?_) | refine wReg (fun xx hx => ?_) | (refine wRet ?_; (try simp only [thenQ, blockQ]); refine ends_by (fun xx hx => ?_))); have hc := trivial; (repeat' (simp only [hc, go_sem, Nat.reduceAdd, Nat.reduceMul, Nat.reduceSub, Nat.reduceEqDiff, Nat.reduceLT, Nat.reduceLeDiff, Int.reduceEq, Int.reduceLT, Int.reduceLE, reduceIte, aresults, aresult, h11, h12, h13] at hx; (try (rw [guardL_if] at hx; split at hx <;> rename_i hc)))); all_goals (subst hx; first | (refine ⟨_, rfl, fun ht => ?_, fun ht => ?_⟩ <;> (try simp only [Bool.not_eq_true', Bool.not_eq_false', Bool.and_eq_true, Bool.and_eq_false_iff, Bool.or_eq_true, Bool.or_eq_false_iff, decide_eq_true_eq, decide_eq_false_iff_not, beq_iff_eq, bne_iff_ne, Bool.not_true, Bool.not_false, Bool.true_eq_false, Bool.false_eq_true, ne_eq, Decidable.not_not, inB_t, inB_f] at ht)) | (refine ⟨_, rfl, ?_⟩; (try simp only [tupOf])))) | refine wSkip ?_ | (refine wExit ?_; simp only [thenQ, blockQ, reduceIte, Nat.reduceEqDiff]) | refine wSeq ?_ | refine wBlock ?_)
    · have hlt : j < t.Nodes.length := by omega
      obtain ⟨n, hg, hd, hm⟩ := at_drop hlt
      have hg' := map_at (f := encNodeState) hg
      have hnv := (hok.1.2 n hm).2.1
      rw [hd] at hk
      repeat' (first | ((first | refine wSeqr (fun xx hx => ?_) | refine wIf (fun xx hx => ?_) | refine wReg (fun xx hx => ?_) | (refine wRet ?_; (try simp only [thenQ, blockQ]); refine ends_by (fun xx hx => ?_))); have hc := trivial; (repeat' (simp only [hc, go_sem, Nat.reduceAdd, Nat.reduceMul, Nat.reduceSub, Nat.reduceEqDiff, Nat.reduceLT, Nat.reduceLeDiff, Int.reduceEq, Int.reduceLT, Int.reduceLE, reduceIte, aresults, aresult, h11, h13, hg', hne, wrap_succ (show j < 9223372036854775807 by omega)] at hx; (try (rw [guardL_if] at hx; split at hx <;> rename_i hc)))); all_goals (subst hx; first | (refine ⟨_, rfl, fun ht => ?_, fun ht => ?_⟩ <;> (try simp only [Bool.not_eq_true', Bool.not_eq_false', Bool.and_eq_true, Bool.and_eq_false_iff, Bool.or_eq_true, Bool.or_eq_false_iff, decide_eq_true_eq, decide_eq_false_iff_not, beq_iff_eq, bne_iff_ne, Bool.not_true, Bool.not_false, Bool.true_eq_false, Bool.false_eq_true, ne_eq, Decidable.not_not, inB_t, inB_f] at ht)) | (refine ⟨_, rfl, ?_⟩; (try simp only [tupOf])))) | refine wSkip ?_ | (refine wExit ?_; simp only [thenQ, blockQ, reduceIte, Nat.reduceEqDiff]) | refine wSeq ?_ | refine wBlock ?_)
      · rw [settled_skip _ ht] at hk
        refine ⟨_, Nat.sub_lt (by omega) Nat.one_pos, j + 1, x, vs, by omega, by simp only [upd_eq, Nat.reduceEqDiff, if_false, if_true, h1, h3, h11, h12, h13], by simp only [upd_eq, Nat.reduceEqDiff, if_false, if_true, h1, h3, h11, h12, h13], by simp only [upd_eq, Nat.reduceEqDiff, if_false, if_true, h1, h3, h11, h12, h13], by simp only [upd_eq, Nat.reduceEqDiff, if_false, if_true, h1, h3, h11, h12, h13], by simp only [upd_eq, Nat.reduceEqDiff, if_false, if_true, h1, h3, h11, h12, h13], ?_⟩
        refine ⟨hk, by simp only [Hp.set_h, Hp.new_h, hne, if_false]; exact hb, by simp, hacc.ext (((Ext.refl H).new _).set (Nat.le_refl _) _), hoff, by omega, hvo⟩
      · have hst : n.Stopped = false := by first | exact ht | simpa using ht
        rw [settled_step vs hst] at hk
        refine wReg (fun xx hx => ?_); have hc := trivial; (repeat' (simp only [hc, go_sem, Nat.reduceAdd, Nat.reduceMul, Nat.reduceSub, Nat.reduceEqDiff, Nat.reduceLT, Nat.reduceLeDiff, Int.reduceEq, Int.reduceLT, Int.reduceLE, reduceIte, aresults, aresult, h3, hne, hp0] at hx; (try (rw [guardL_if] at hx; split at hx <;> rename_i hc)))); generalize hq : aappend Try.prog _ _ _ _ = q at hx
        obtain ⟨x', H', rfl, hacc', hg1, hk2, ho2⟩ := app_rows hq el146 zero133 by133 int146 (sz := 1) rfl (by omega) (hacc.ext (((Ext.refl H).new _).set (Nat.le_refl _) _)) (m := 1) rfl (afirst_one _ _ [vcell n.View]) rfl (by omega) (by omega)
        have q0 := hk2 0 (by simp) hoff
        have q5 := hk2 H.g (by simp) (RAcc.off hacc (Nat.le_refl _))
        simp only [Hp.set_h, Hp.new_h, hne, if_false, if_true] at q0 q5
        rw [hb] at q0
        have hgg : H.g < H'.g := Nat.lt_of_lt_of_le (by simp) hg1
        obtain ⟨b, hbg, rfl, hh⟩ := RAcc.slE hacc' (by omega)
        have hbe : ¬ b = H.g := fun e => ho2 H.g (by simp) (RAcc.off hacc (Nat.le_refl _)) _ _ _ (by rw [e])
        have hb0 : Off 0 (.sl b 1 0 (vs.length + 1)) := ho2 0 (by simp) hoff
        have hhd : (vs.map vcell ++ [AV.lst false (n.View.map encClaim)])[0]? = some (AV.lst false ((headV vs n.View).map encClaim)) := headV_at vs n.View
        have hov := headV_ok hvo hnv
        obtain ⟨g5, hg5⟩ : ∃ g5, g5 = H.g := ⟨_, rfl⟩
        rw [← hg5] at q5 hbe hgg
        have hc := trivial; (repeat' (simp only [hc, go_sem, Nat.reduceAdd, Nat.reduceMul, Nat.reduceSub, Nat.reduceEqDiff, Nat.reduceLT, Nat.reduceLeDiff, Int.reduceEq, Int.reduceLT, Int.reduceLE, reduceIte, aresults, aresult] at hx; (try (rw [guardL_if] at hx; split at hx <;> rename_i hc)))); all_goals (subst hx; refine ⟨_, rfl, ?_⟩)
        repeat' (first | ((first | refine wSeqr (fun xx hx => ?_) | refine wIf (fun xx hx => ?_) | refine wReg (fun xx hx => ?_) | (refine wRet ?_; (try simp only [thenQ, blockQ]); refine ends_by (fun xx hx => ?_))); have hc := trivial; (repeat' (simp only [hc, go_sem, Nat.reduceAdd, Nat.reduceMul, Nat.reduceSub, Nat.reduceEqDiff, Nat.reduceLT, Nat.reduceLeDiff, Int.reduceEq, Int.reduceLT, Int.reduceLE, reduceIte, aresults, aresult, hh, hhd, q5, q0, h1, hp0, vcell, c_iSameViews (headV vs n.View) n.View hov hnv, Option.isSome_some, Nat.zero_mul, Nat.succ_pos, show 0 < vs.length + 1 from Nat.succ_pos _, List.length_map, ← hg5] at hx; (try (rw [guardL_if] at hx; split at hx <;> rename_i hc)))); all_goals (subst hx; first | (refine ⟨_, rfl, fun ht => ?_, fun ht => ?_⟩ <;> (try simp only [Bool.not_eq_true', Bool.not_eq_false', Bool.and_eq_true, Bool.and_eq_false_iff, Bool.or_eq_true, Bool.or_eq_false_iff, decide_eq_true_eq, decide_eq_false_iff_not, beq_iff_eq, bne_iff_ne, Bool.not_true, Bool.not_false, Bool.true_eq_false, Bool.false_eq_true, ne_eq, Decidable.not_not, inB_t, inB_f] at ht)) | (refine ⟨_, rfl, ?_⟩; (try simp only [tupOf])))) | refine wSkip ?_ | (refine wExit ?_; simp only [thenQ, blockQ, reduceIte, Nat.reduceEqDiff]) | refine wSeq ?_ | refine wBlock ?_)
        all_goals (try simp only [Bool.not_eq_true', Bool.not_eq_false', Bool.and_eq_true, Bool.and_eq_false_iff, Bool.or_eq_true, Bool.or_eq_false_iff, decide_eq_true_eq, decide_eq_false_iff_not, beq_iff_eq, bne_iff_ne, Bool.not_true, Bool.not_false, Bool.true_eq_false, Bool.false_eq_true, ne_eq, Decidable.not_not, inB_t, inB_f] at *)
        · refine gives_boolv ?_
          have hf : decide (headV vs n.View = n.View) = false := by first | exact decide_eq_false (by assumption) | (rw [decide_eq_false_iff_not]; assumption)
          rw [← hk, hf]; simp
        have hsm : headV vs n.View = n.View := by assumption
        rw [decide_eq_true hsm, Bool.true_and] at hk
        refine wLoop (fun k s => ∃ (i : Nat), i + k = t.Nodes.length ∧ s.1 1 = .ptr 0 0 ∧ s.1 3 = .sl b 1 0 (vs.length + 1) ∧ s.1 5 = .ptr g5 0 ∧ s.1 11 = .lst false (t.Nodes.map encNodeState) ∧ s.1 12 = .v (.int .i64 (t.Nodes.length : Nat)) ∧ s.1 13 = .v (.int .i64 (j : Nat)) ∧ s.1 32 = .lst false (t.Nodes.map encNodeState) ∧ s.1 33 = .v (.int .i64 (t.Nodes.length : Nat)) ∧ s.1 34 = .v (.int .i64 (i : Nat)) ∧ (knowsFrom n.View (t.Nodes.drop i) i = knowsFrom n.View t.Nodes 0) ∧ (s.2.h 0 = some [.lst false (t.Nodes.map encNodeState), .lst false (t.Flights.map encFlight), i64L t.Codes]) ∧ (s.2.h g5 = some [.v (.int .i64 n.Own.Node), .v (.int .i64 n.Own.Inc), .v (.int .i64 n.Own.Status), .v (.int .i64 n.Own.Meta), .lst false (n.View.map encClaim), .v (.int .i64 n.Ring.Primary), .lst false (n.Ring.Keys.map encKey), .v (.int .i64 n.Counter), .v (.int .i64 n.Seq), .v (.int .i64 n.Last), .lst false (n.Waits.map encWait), .lst false (n.Windows.map encWindow), .v (.int .i64 n.Drops), .v (.bool n.Stopped)]) ∧ (s.2.h b = some (vs.map vcell ++ [vcell n.View])) ∧ (g5 < s.2.g ∧ b < s.2.g ∧ 0 < s.2.g)) (fun k s hI => ?_) (t.Nodes.length) _ ?_
        · obtain ⟨e, H⟩ := s
          obtain ⟨i, hi, h1, h3, h5, h11, h12, h13, h32, h33, h34, hkn, hbz, hb5, hbb, hgs⟩ := hI
          simp only at h1 h3 h5 h11 h12 h13 h32 h33 h34 hkn hbz hb5 hbb hgs
          have hne0 : ¬ 0 = H.g := by omega
          have hne5 : ¬ g5 = H.g := by omega
          have hneb : ¬ b = H.g := by omega
          have hne0' : ¬ 0 = H.g + 1 := by omega
          have hne5' : ¬ g5 = H.g + 1 := by omega
          have hneb' : ¬ b = H.g + 1 := by omega
          repeat' (first | ((first | refine wSeqr (fun xx hx => ?_) | refine wIf (fun xx hx => ?_) | refine wReg (fun xx hx => ?_) | (refine wRet ?_; (try simp only [thenQ, blockQ]); refine ends_by (fun xx hx => ?_))); have hc := trivial; (repeat' (simp only [hc, go_sem, Nat.reduceAdd, Nat.reduceMul, Nat.reduceSub, Nat.reduceEqDiff, Nat.reduceLT, Nat.reduceLeDiff, Int.reduceEq, Int.reduceLT, Int.reduceLE, reduceIte, aresults, aresult, h32, h33, h34] at hx; (try (rw [guardL_if] at hx; split at hx <;> rename_i hc)))); all_goals (subst hx; first | (refine ⟨_, rfl, fun ht => ?_, fun ht => ?_⟩ <;> (try simp only [Bool.not_eq_true', Bool.not_eq_false', Bool.and_eq_true, Bool.and_eq_false_iff, Bool.or_eq_true, Bool.or_eq_false_iff, decide_eq_true_eq, decide_eq_false_iff_not, beq_iff_eq, bne_iff_ne, Bool.not_true, Bool.not_false, Bool.true_eq_false, Bool.false_eq_true, ne_eq, Decidable.not_not, inB_t, inB_f] at ht)) | (refine ⟨_, rfl, ?_⟩; (try simp only [tupOf])))) | refine wSkip ?_ | (refine wExit ?_; simp only [thenQ, blockQ, reduceIte, Nat.reduceEqDiff]) | refine wSeq ?_ | refine wBlock ?_)
          · have hlt2 : i < t.Nodes.length := by omega
            obtain ⟨m, hgm, hdm, hmm⟩ := at_drop hlt2
            have hgm' := map_at (f := encNodeState) hgm
            rw [hdm, knowsFrom] at hkn
            cases hfc : findClaim n.View i 0 with
            | none =>
              have hka : knowsAt n.View i m = false := by simp [knowsAt, hfc]
              rw [hka, Bool.false_and] at hkn
              repeat' (first | ((first | refine wSeqr (fun xx hx => ?_) | refine wIf (fun xx hx => ?_) | refine wReg (fun xx hx => ?_) | (refine wRet ?_; (try simp only [thenQ, blockQ]); refine ends_by (fun xx hx => ?_))); have hc := trivial; (repeat' (simp only [hc, go_sem, Nat.reduceAdd, Nat.reduceMul, Nat.reduceSub, Nat.reduceEqDiff, Nat.reduceLT, Nat.reduceLeDiff, Int.reduceEq, Int.reduceLT, Int.reduceLE, reduceIte, aresults, aresult, h5, h32, h34, hgm', hb5, hne0, hne5, hne5', hp0, c_iclaimOf n.View i hnv.1, hfc, claimR_none, Bool.not_false] at hx; (try (rw [guardL_if] at hx; split at hx <;> rename_i hc)))); all_goals (subst hx; first | (refine ⟨_, rfl, fun ht => ?_, fun ht => ?_⟩ <;> (try simp only [Bool.not_eq_true', Bool.not_eq_false', Bool.and_eq_true, Bool.and_eq_false_iff, Bool.or_eq_true, Bool.or_eq_false_iff, decide_eq_true_eq, decide_eq_false_iff_not, beq_iff_eq, bne_iff_ne, Bool.not_true, Bool.not_false, Bool.true_eq_false, Bool.false_eq_true, ne_eq, Decidable.not_not, inB_t, inB_f] at ht) <;> (try (exfalso; omega))) | (refine ⟨_, rfl, ?_⟩; (try simp only [tupOf])))) | refine wSkip ?_ | (refine wExit ?_; simp only [thenQ, blockQ, reduceIte, Nat.reduceEqDiff]) | refine wSeq ?_ | refine wBlock ?_)
              refine gives_boolv ?_
              rw [← hk, ← hkn, Bool.false_and]
            | some p =>
              obtain ⟨q, c⟩ := p
              have hka : knowsAt n.View i m = if m.Stopped = true then decide (c.Status = 2) else decide (c.Status = 0) && decide (c = m.Own) := by simp [knowsAt, hfc]
              rw [hka] at hkn
              repeat' (first | ((first | refine wSeqr (fun xx hx => ?_) | refine wIf (fun xx hx => ?_) | refine wReg (fun xx hx => ?_) | (refine wRet ?_; (try simp only [thenQ, blockQ]); refine ends_by (fun xx hx => ?_))); have hc := trivial; (repeat' (simp only [hc, go_sem, Nat.reduceAdd, Nat.reduceMul, Nat.reduceSub, Nat.reduceEqDiff, Nat.reduceLT, Nat.reduceLeDiff, Int.reduceEq, Int.reduceLT, Int.reduceLE, reduceIte, aresults, aresult, h5, h32, h34, hgm', hb5, hne0, hne5, hne5', hp0, c_iclaimOf n.View i hnv.1, hfc, claimR_some, Bool.not_true, wrap_succ (show i < 9223372036854775807 by omega)] at hx; (try (rw [guardL_if] at hx; split at hx <;> rename_i hc)))); all_goals (subst hx; first | (refine ⟨_, rfl, fun ht => ?_, fun ht => ?_⟩ <;> (try simp only [Bool.not_eq_true', Bool.not_eq_false', Bool.and_eq_true, Bool.and_eq_false_iff, Bool.or_eq_true, Bool.or_eq_false_iff, decide_eq_true_eq, decide_eq_false_iff_not, beq_iff_eq, bne_iff_ne, Bool.not_true, Bool.not_false, Bool.true_eq_false, Bool.false_eq_true, ne_eq, Decidable.not_not, inB_t, inB_f] at ht) <;> (try (exfalso; omega))) | (refine ⟨_, rfl, ?_⟩; (try simp only [tupOf])))) | refine wSkip ?_ | (refine wExit ?_; simp only [thenQ, blockQ, reduceIte, Nat.reduceEqDiff]) | refine wSeq ?_ | refine wBlock ?_)
              all_goals (try simp only [Bool.not_eq_true', Bool.not_eq_false', Bool.and_eq_true, Bool.and_eq_false_iff, Bool.or_eq_true, Bool.or_eq_false_iff, decide_eq_true_eq, decide_eq_false_iff_not, beq_iff_eq, bne_iff_ne, Bool.not_true, Bool.not_false, Bool.true_eq_false, Bool.false_eq_true, ne_eq, Decidable.not_not, inB_t, inB_f] at *)
              any_goals (refine gives_boolv ?_; rw [← hk, ← hkn]; simp_all; done)
              all_goals (
                refine ⟨_, Nat.sub_lt (by omega) Nat.one_pos, i + 1, by omega, by simp only [upd_eq, Nat.reduceEqDiff, if_false, if_true, h1, h3, h5, h11, h12, h13, h32, h33, h34], by simp only [upd_eq, Nat.reduceEqDiff, if_false, if_true, h1, h3, h5, h11, h12, h13, h32, h33, h34], by simp only [upd_eq, Nat.reduceEqDiff, if_false, if_true, h1, h3, h5, h11, h12, h13, h32, h33, h34], by simp only [upd_eq, Nat.reduceEqDiff, if_false, if_true, h1, h3, h5, h11, h12, h13, h32, h33, h34], by simp only [upd_eq, Nat.reduceEqDiff, if_false, if_true, h1, h3, h5, h11, h12, h13, h32, h33, h34], by simp only [upd_eq, Nat.reduceEqDiff, if_false, if_true, h1, h3, h5, h11, h12, h13, h32, h33, h34], by simp only [upd_eq, Nat.reduceEqDiff, if_false, if_true, h1, h3, h5, h11, h12, h13, h32, h33, h34], by simp only [upd_eq, Nat.reduceEqDiff, if_false, if_true, h1, h3, h5, h11, h12, h13, h32, h33, h34], by simp only [upd_eq, Nat.reduceEqDiff, if_false, if_true, h1, h3, h5, h11, h12, h13, h32, h33, h34], ?_⟩
                refine ⟨by rw [← hkn]; simp_all, by simp only [Hp.set_h, Hp.new_h, Hp.set_g, Hp.new_g, hne0, hne0', if_false]; exact hbz, by simp only [Hp.set_h, Hp.new_h, Hp.set_g, Hp.new_g, hne5, hne5', if_false]; exact hb5, by simp only [Hp.set_h, Hp.new_h, Hp.set_g, Hp.new_g, hneb, hneb', if_false]; exact hbb, by simp; omega⟩)
          · rw [List.drop_of_length_le (by omega), knowsFrom] at hkn
            rw [← hkn, Bool.true_and] at hk
            
            repeat' (first | ((first | refine wSeqr (fun xx hx => ?_) | refine wIf (fun xx hx => ?_) | refine wReg (fun xx hx => ?_) | (refine wRet ?_; (try simp only [thenQ, blockQ]); refine ends_by (fun xx hx => ?_))); have hc := trivial; (repeat' (simp only [hc, go_sem, Nat.reduceAdd, Nat.reduceMul, Nat.reduceSub, Nat.reduceEqDiff, Nat.reduceLT, Nat.reduceLeDiff, Int.reduceEq, Int.reduceLT, Int.reduceLE, reduceIte, aresults, aresult, h13, wrap_succ (show j < 9223372036854775807 by omega)] at hx; (try (rw [guardL_if] at hx; split at hx <;> rename_i hc)))); all_goals (subst hx; first | (refine ⟨_, rfl, fun ht => ?_, fun ht => ?_⟩ <;> (try simp only [Bool.not_eq_true', Bool.not_eq_false', Bool.and_eq_true, Bool.and_eq_false_iff, Bool.or_eq_true, Bool.or_eq_false_iff, decide_eq_true_eq, decide_eq_false_iff_not, beq_iff_eq, bne_iff_ne, Bool.not_true, Bool.not_false, Bool.true_eq_false, Bool.false_eq_true, ne_eq, Decidable.not_not, inB_t, inB_f] at ht)) | (refine ⟨_, rfl, ?_⟩; (try simp only [tupOf])))) | refine wSkip ?_ | (refine wExit ?_; simp only [thenQ, blockQ, reduceIte, Nat.reduceEqDiff]) | refine wSeq ?_ | refine wBlock ?_)
            refine ⟨_, Nat.sub_lt (by omega) Nat.one_pos, j + 1, .sl b 1 0 (vs.length + 1), vs ++ [n.View], by omega, by simp only [upd_eq, Nat.reduceEqDiff, if_false, if_true, h1, h3, h11, h12, h13], by simp only [upd_eq, Nat.reduceEqDiff, if_false, if_true, h1, h3, h11, h12, h13], by simp only [upd_eq, Nat.reduceEqDiff, if_false, if_true, h1, h3, h11, h12, h13], by simp only [upd_eq, Nat.reduceEqDiff, if_false, if_true, h1, h3, h11, h12, h13], by simp only [upd_eq, Nat.reduceEqDiff, if_false, if_true, h1, h3, h11, h12, h13], ?_⟩
            refine ⟨hk, hbz, hgs.2.2, ⟨by simp, .inr ⟨b, hgs.2.1, by simp, by simp only [List.map_append, List.map_cons, List.map_nil]; exact hbb⟩⟩, hb0, by simp; omega, fun v hv => ?_⟩
            rcases List.mem_append.1 hv with hv | hv
            · exact hvo v hv
            · simp only [List.mem_singleton] at hv; subst hv; exact hnv
        · exact ⟨0, by omega, h1, rfl, rfl, h11, h12, h13, rfl, rfl, rfl, rfl, q0, q5, hh, hgg, hbg, Nat.lt_of_le_of_lt (Nat.zero_le _) hgg⟩
    · rw [List.drop_of_length_le (by omega)] at hk
      refine gives_boolv ?_
      rw [← hk]; cases vs.head? <;> rfl
  · refine ⟨0, .v (.slice none 0 0), [], by omega, rfl, rfl, rfl, rfl, rfl, ?_⟩
    exact ⟨rfl, rfl, by simp, RAcc.nil, off_nil, Nat.le_refl _, fun v hv => by simp at hv⟩
theorem c_iIsSettled (t : StateM) (hok : t.ok 1048576) : ∀ H, call Try.prog cfg0 0 43 [.agg [.lst false (t.Nodes.map encNodeState), .lst false (t.Flights.map encFlight), i64L t.Codes]] H = some (.v (.bool (settledFrom t.Nodes t.Nodes none)), H) :=
  call_fz Try.func43 rfl ok_iIsSettled rfl (by simp only [fz_cons, fz_nil, go_sem, and_self]) (p_iIsSettled t hok)

end
end Go.Proofs.Ytmobkpfalcfepaa
