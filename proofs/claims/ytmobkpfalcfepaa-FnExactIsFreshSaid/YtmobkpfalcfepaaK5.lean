/- Contracts: new rings, configs. -/
import Derived.Test.YtmobkpfalcfepaaK4
import Derived.Test.YtmobkpfalcfepaaB1
namespace Go.Proofs.Ytmobkpfalcfepaa
open Go Go.RowKit Go.Proofs.Ytmobkpfalcfepaa.Eng
set_option linter.unusedSimpArgs false
set_option linter.unusedVariables false
set_option maxRecDepth 100000
noncomputable section
theorem ok_sl4Copy : fnOk Try.prog cfg0 144 Try.f144 = true := by kernel_rfl
theorem c_sl4Copy (r : RingM) (hl : r.Keys.length ≤ 1048576) (hk : ∀ k ∈ r.Keys, k.Bytes.length ≤ 1048576) (H0 : Hp) (b : Nat) (fu : Bool) (hbg : b < H0.g) (hb : H0.h b = some [.v (.int .i64 r.Primary), .lst fu (r.Keys.map encKey)]) :
    ∃ g', H0.g ≤ g' ∧ call Try.prog cfg0 0 144 [.ptr b 0] H0 = some (.agg [.v (.int .i64 r.Primary), .lst false (r.Keys.map encKey)], ⟨H0.h, g'⟩) := by
  have key : ∃ x H', body Try.prog cfg0 144 Try.f144 [.ptr b 0] H0 = some (x, H') ∧ Ext H0 H' ∧ deep (newOf H0 H') depthD x = some (.agg [.v (.int .i64 r.Primary), .lst false (r.Keys.map encKey)]) := by
    refine body_at (rs := [.cell 2 99]) rfl rfl ?_
    have hne : ¬ b = H0.g := by omega
    have hne' : ¬ b = H0.g + 1 := by omega
    repeat' (first | ((first | refine wSeqr (fun xx hx => ?_) | refine wIf (fun xx hx => ?_) | refine wReg (fun xx hx => ?_) | (refine wRet ?_; (try simp only [thenQ, blockQ]); refine ends_by (fun xx hx => ?_))); have hc := trivial; (repeat' (simp only [hc, go_sem, Nat.reduceAdd, Nat.reduceMul, Nat.reduceSub, Nat.reduceEqDiff, Nat.reduceLT, Nat.reduceLeDiff, Int.reduceEq, Int.reduceLT, Int.reduceLE, reduceIte, aresults, aresult, hb, hne, hne'] at hx; (try (rw [guardL_if] at hx; split at hx <;> rename_i hc)))); all_goals (subst hx; first | (refine ⟨_, rfl, fun ht => ?_, fun ht => ?_⟩ <;> (try simp only [Bool.not_eq_true', Bool.not_eq_false', Bool.and_eq_true, Bool.and_eq_false_iff, Bool.or_eq_true, Bool.or_eq_false_iff, decide_eq_true_eq, decide_eq_false_iff_not, beq_iff_eq, bne_iff_ne, Bool.not_true, Bool.not_false, Bool.true_eq_false, Bool.false_eq_true, ne_eq, Decidable.not_not, inB_t, inB_f] at ht)) | (refine ⟨_, rfl, ?_⟩; (try simp only [tupOf])))) | refine wSkip ?_ | (refine wExit ?_; simp only [thenQ, blockQ, reduceIte, Nat.reduceEqDiff]) | refine wSeq ?_ | refine wBlock ?_)
    refine wLoop (fun k s => ∃ (j : Nat) (x : AV), j + k = r.Keys.length ∧ s.1 0 = .ptr b 0 ∧ s.1 2 = .ptr H0.g 0 ∧ s.1 3 = .ptr (H0.g + 1) 0 ∧ s.1 4 = .v (.int .i64 (j : Nat)) ∧ (Ext H0 s.2) ∧ (H0.g + 1 < s.2.g) ∧ (s.2.h H0.g = some [.v (.int .i64 0), .v (.slice none 0 0)]) ∧ (s.2.h (H0.g + 1) = some [.v (.int .i64 r.Primary), x]) ∧ (RAcc s.2 x 2 ((r.Keys.take j).map encKey).flatten j) ∧ (∀ b, b < H0.g + 2 → Off b x)) (fun k s hI => ?_) (r.Keys.length) _ ?_
    · obtain ⟨e, H⟩ := s
      obtain ⟨j, x, hj, h0, h2, h3, h4, he, hg, hb1, hb2, hacc, hoff⟩ := hI
      simp only at h0 h2 h3 h4 he hg hb1 hb2 hacc hoff
      have hb' : H.h b = some [.v (.int .i64 r.Primary), .lst fu (r.Keys.map encKey)] := (he.2 b hbg).trans hb
      repeat' (first | ((first | refine wSeqr (fun xx hx => ?_) | refine wIf (fun xx hx => ?_) | refine wReg (fun xx hx => ?_) | (refine wRet ?_; (try simp only [thenQ, blockQ]); refine ends_by (fun xx hx => ?_))); have hc := trivial; (repeat' (simp only [hc, go_sem, Nat.reduceAdd, Nat.reduceMul, Nat.reduceSub, Nat.reduceEqDiff, Nat.reduceLT, Nat.reduceLeDiff, Int.reduceEq, Int.reduceLT, Int.reduceLE, reduceIte, aresults, aresult, h0, h4, hb', List.length_map] at hx; (try (rw [guardL_if] at hx; split at hx <;> rename_i hc)))); all_goals (subst hx; first | (refine ⟨_, rfl, fun ht => ?_, fun ht => ?_⟩ <;> (try simp only [Bool.not_eq_true', Bool.not_eq_false', Bool.and_eq_true, Bool.and_eq_false_iff, Bool.or_eq_true, Bool.or_eq_false_iff, decide_eq_true_eq, decide_eq_false_iff_not, beq_iff_eq, bne_iff_ne, Bool.not_true, Bool.not_false, Bool.true_eq_false, Bool.false_eq_true, ne_eq, Decidable.not_not, inB_t, inB_f] at ht)) | (refine ⟨_, rfl, ?_⟩; (try simp only [tupOf])))) | refine wSkip ?_ | (refine wExit ?_; simp only [thenQ, blockQ, reduceIte, Nat.reduceEqDiff]) | refine wSeq ?_ | refine wBlock ?_)
      · have hlt : j < r.Keys.length := by omega
        obtain ⟨k, hk1, hd, hm⟩ := at_drop hlt
        have hk' := map_at (f := encKey) hk1
        refine wReg (fun xx hx => ?_); have hc := trivial; (repeat' (simp only [hc, go_sem, Nat.reduceAdd, Nat.reduceMul, Nat.reduceSub, Nat.reduceEqDiff, Nat.reduceLT, Nat.reduceLeDiff, Int.reduceEq, Int.reduceLT, Int.reduceLE, reduceIte, aresults, aresult, h0, h3, h4, hb', hb2, hk', hp0, c_sl1Copy k.Bytes (hk k hm)] at hx; (try (rw [guardL_if] at hx; split at hx <;> rename_i hc)))); generalize hq : aappend Try.prog _ _ _ _ = q at hx
        obtain ⟨x', H', rfl, hacc', hg', hk2, ho2⟩ := app_rows hq el97 zero30 by30 int97 (sz := 2) rfl (by omega) hacc (m := 1) rfl (afirst_one _ _ (encKey k)) rfl (by omega) (by omega)
        have hx' := hacc'.one
        have e1 := hk2 H0.g (by omega) (hoff _ (by omega))
        have e2 := hk2 (H0.g + 1) (by omega) (hoff _ (by omega))
        rw [hb1] at e1
        rw [hb2] at e2
        have hc := trivial; (repeat' (simp only [hc, go_sem, Nat.reduceAdd, Nat.reduceMul, Nat.reduceSub, Nat.reduceEqDiff, Nat.reduceLT, Nat.reduceLeDiff, Int.reduceEq, Int.reduceLT, Int.reduceLE, reduceIte, aresults, aresult, h3, e2, hx'.1, hx'.2] at hx; (try (rw [guardL_if] at hx; split at hx <;> rename_i hc)))); all_goals (subst hx; refine ⟨_, rfl, ?_⟩)
        repeat' (first | ((first | refine wSeqr (fun xx hx => ?_) | refine wIf (fun xx hx => ?_) | refine wReg (fun xx hx => ?_) | (refine wRet ?_; (try simp only [thenQ, blockQ]); refine ends_by (fun xx hx => ?_))); have hc := trivial; (repeat' (simp only [hc, go_sem, Nat.reduceAdd, Nat.reduceMul, Nat.reduceSub, Nat.reduceEqDiff, Nat.reduceLT, Nat.reduceLeDiff, Int.reduceEq, Int.reduceLT, Int.reduceLE, reduceIte, aresults, aresult, h4, wrap_succ (show j < 9223372036854775807 by omega)] at hx; (try (rw [guardL_if] at hx; split at hx <;> rename_i hc)))); all_goals (subst hx; first | (refine ⟨_, rfl, fun ht => ?_, fun ht => ?_⟩ <;> (try simp only [Bool.not_eq_true', Bool.not_eq_false', Bool.and_eq_true, Bool.and_eq_false_iff, Bool.or_eq_true, Bool.or_eq_false_iff, decide_eq_true_eq, decide_eq_false_iff_not, beq_iff_eq, bne_iff_ne, Bool.not_true, Bool.not_false, Bool.true_eq_false, Bool.false_eq_true, ne_eq, Decidable.not_not, inB_t, inB_f] at ht)) | (refine ⟨_, rfl, ?_⟩; (try simp only [tupOf])))) | refine wSkip ?_ | (refine wExit ?_; simp only [thenQ, blockQ, reduceIte, Nat.reduceEqDiff]) | refine wSeq ?_ | refine wBlock ?_)
        refine ⟨_, Nat.sub_lt (by omega) Nat.one_pos, j + 1, x', by omega, by simp only [upd_eq, Nat.reduceEqDiff, if_false, if_true, h0, h2, h3, h4], by simp only [upd_eq, Nat.reduceEqDiff, if_false, if_true, h0, h2, h3, h4], by simp only [upd_eq, Nat.reduceEqDiff, if_false, if_true, h0, h2, h3, h4], by simp only [upd_eq, Nat.reduceEqDiff, if_false, if_true, h0, h2, h3, h4], ?_⟩
        refine ⟨⟨by simp; omega, fun c hc => ?_⟩, by simp; omega, by simp only [Hp.set_h]; rw [if_neg (by omega)]; exact e1, by simp only [Hp.set_h, if_true], ?_, fun b hb => ho2 b (by omega) (hoff b hb)⟩
        · simp only [Hp.set_h]
          rw [if_neg (by omega), hk2 c (by omega) (hoff c (by omega))]; exact he.2 c hc
        · rw [at_take hk1, flat_snoc]
          exact hacc'.setOff (ho2 _ (by omega) (hoff _ (by omega))) _
      · have hj' : j = r.Keys.length := by omega
        subst hj'
        repeat' (first | ((first | refine wSeqr (fun xx hx => ?_) | refine wIf (fun xx hx => ?_) | refine wReg (fun xx hx => ?_) | (refine wRet ?_; (try simp only [thenQ, blockQ]); refine ends_by (fun xx hx => ?_))); have hc := trivial; (repeat' (simp only [hc, go_sem, Nat.reduceAdd, Nat.reduceMul, Nat.reduceSub, Nat.reduceEqDiff, Nat.reduceLT, Nat.reduceLeDiff, Int.reduceEq, Int.reduceLT, Int.reduceLE, reduceIte, aresults, aresult, h2, h3, hb1, hb2, hacc.one.1, hacc.one.2] at hx; (try (rw [guardL_if] at hx; split at hx <;> rename_i hc)))); all_goals (subst hx; first | (refine ⟨_, rfl, fun ht => ?_, fun ht => ?_⟩ <;> (try simp only [Bool.not_eq_true', Bool.not_eq_false', Bool.and_eq_true, Bool.and_eq_false_iff, Bool.or_eq_true, Bool.or_eq_false_iff, decide_eq_true_eq, decide_eq_false_iff_not, beq_iff_eq, bne_iff_ne, Bool.not_true, Bool.not_false, Bool.true_eq_false, Bool.false_eq_true, ne_eq, Decidable.not_not, inB_t, inB_f] at ht)) | (refine ⟨_, rfl, ?_⟩; (try simp only [tupOf])))) | refine wSkip ?_ | (refine wExit ?_; simp only [thenQ, blockQ, reduceIte, Nat.reduceEqDiff]) | refine wSeq ?_ | refine wBlock ?_)
        rw [List.take_length] at hacc
        refine ⟨he.set (Nat.le_refl _) _, ?_⟩
        have hd := deep_racc (d := 10) ((hacc.setOff (hoff H0.g (by omega)) [.v (.int .i64 r.Primary), x]).newOf (H0 := H0) fun c hc => hoff c (by omega)) rfl (by omega) encKey_len (fun k => fzE_Key 8 k)
        exact deep_aggL (n := 11) (mapM_c rfl (mapM_c hd mapM_n))
    · refine ⟨0, .v (.slice none 0 0), by omega, rfl, rfl, rfl, rfl, ?_⟩
      exact ⟨((((Ext.refl H0).new _).new _).set (Nat.le_succ _) _), by simp, by simp [Hp.set_h, Hp.new_h], by simp [Hp.set_h], RAcc.nil, fun b _ => off_nil⟩
  obtain ⟨x, H', h1, h2, h3⟩ := key
  exact ⟨H'.g, h2.1, call_frz Try.prog cfg0 Try.func144 rfl ok_sl4Copy rfl rfl 0 h1 h2.2 h3⟩

def oneRing (k : KeyM) : RingM := ⟨k.Id, [k]⟩
def newRing (k : KeyM) : Int × RingM := if ringFault (oneRing k) ≠ 0 then (ringFault (oneRing k), ⟨0, []⟩) else (0, oneRing k)
theorem oneRing_len (k : KeyM) : (oneRing k).Keys.length ≤ 1048576 := by simp [oneRing]
theorem oneRing_keys (k : KeyM) (hl : k.Bytes.length ≤ 1048576) : ∀ x ∈ (oneRing k).Keys, x.Bytes.length ≤ 1048576 := by intro x hx; simp [oneRing] at hx; subst hx; exact hl
theorem oneRing_dz (k : KeyM) : Dzs depthD [.agg [.v (.int .i64 k.Id), .lst true [[.v (.int .i64 k.Id), bytesL k.Bytes]]]] [.agg [.v (.int .i64 (oneRing k).Primary), .lst false ((oneRing k).Keys.map encKey)]] := Dzs.cons (Dz.agg (n := 11) (Dzs.cons (Fz.int _ _ _).dz (Dzs.cons (Dz.lst (n := 10) (row_fz (fzE_Key 8 k))) Dzs.nil))) Dzs.nil
theorem fz_ringRes (c : Int) (r : RingM) : Fz depthD (.agg (ringRes c r)) := Fz.agg (n := 11) (fz_app (a := [.v (.int .i64 c)]) (by simp only [fz_cons, fz_nil, and_true]; exact Fz.int _ _ _) (fzE_Ring 8 r))
theorem ok_iNewRing : fnOk Try.prog cfg0 78 Try.f78 = true := by kernel_rfl
theorem p_iNewRing (k : KeyM) (hl : k.Bytes.length ≤ 1048576) : ∃ cl, pure Try.prog cfg0 78 Try.f78 [.agg [.v (.int .i64 k.Id), bytesL k.Bytes]] = some (.agg (ringRes (newRing k).1 (newRing k).2), cl) := by
  have key : ∃ v cl, v = (.agg (ringRes (newRing k).1 (newRing k).2) : AV) ∧ pure Try.prog cfg0 78 Try.f78 [.agg [.v (.int .i64 k.Id), bytesL k.Bytes]] = some (v, cl) := by
    refine pure_ex (rs := [.cell 2 101]) rfl rfl ?_
    have h1 := call_dz Try.func145 rfl ok_iRingFault rfl (oneRing_dz k) (p_iRingFault (oneRing k) (oneRing_len k))
    obtain ⟨cl, h2⟩ := p_ownRing (oneRing k) (oneRing_len k) (oneRing_keys k hl)
    have h3 := call_dz Try.func146 rfl ok_ownRing rfl (oneRing_dz k) h2
    repeat' (first | ((first | refine wSeqr (fun xx hx => ?_) | refine wIf (fun xx hx => ?_) | refine wReg (fun xx hx => ?_) | (refine wRet ?_; (try simp only [thenQ, blockQ]); refine ends_by (fun xx hx => ?_))); have hc := trivial; (repeat' (simp only [hc, go_sem, Nat.reduceAdd, Nat.reduceMul, Nat.reduceSub, Nat.reduceEqDiff, Nat.reduceLT, Nat.reduceLeDiff, Int.reduceEq, Int.reduceLT, Int.reduceLE, reduceIte, aresults, aresult, hp0, h1, h3] at hx; (try (rw [guardL_if] at hx; split at hx <;> rename_i hc)))); all_goals (subst hx; first | (refine ⟨_, rfl, fun ht => ?_, fun ht => ?_⟩ <;> (try simp only [Bool.not_eq_true', Bool.not_eq_false', Bool.and_eq_true, Bool.and_eq_false_iff, Bool.or_eq_true, Bool.or_eq_false_iff, decide_eq_true_eq, decide_eq_false_iff_not, beq_iff_eq, bne_iff_ne, Bool.not_true, Bool.not_false, Bool.true_eq_false, Bool.false_eq_true, ne_eq, Decidable.not_not, inB_t, inB_f] at ht)) | (refine ⟨_, rfl, ?_⟩; (try simp only [tupOf])))) | refine wSkip ?_ | (refine wExit ?_; simp only [thenQ, blockQ, reduceIte, Nat.reduceEqDiff]) | refine wSeq ?_ | refine wBlock ?_)
    · refine dirty ?_
      unfold newRing; rw [if_pos ht]; rfl
    · refine dirty ?_
      unfold newRing; rw [if_neg (by simpa using ht)]; exact fz_deep (fz_ringRes 0 (oneRing k)) _
  obtain ⟨v, cl, rfl, hp⟩ := key
  exact ⟨cl, hp⟩
theorem c_iNewRing (k : KeyM) (hl : k.Bytes.length ≤ 1048576) : ∀ H, call Try.prog cfg0 0 78 [.agg [.v (.int .i64 k.Id), bytesL k.Bytes]] H = some (.agg (ringRes (newRing k).1 (newRing k).2), H) := fun H => by
  obtain ⟨cl, hp⟩ := p_iNewRing k hl
  exact call_fz Try.func78 rfl ok_iNewRing rfl (by simp only [fz_cons, fz_nil, go_sem, and_self]) hp H

theorem ok_sNewRing : fnOk Try.prog cfg0 74 Try.f74 = true := by kernel_rfl
theorem p_sNewRing (k : KeyM) (hl : k.Bytes.length ≤ 1048576) : ∃ cl, pure Try.prog cfg0 74 Try.f74 [.agg [.v (.int .i64 k.Id), bytesL k.Bytes]] = some (.agg (ringRes (newRing k).1 (newRing k).2), cl) := by
  have key : ∃ v cl, v = (.agg (ringRes (newRing k).1 (newRing k).2) : AV) ∧ pure Try.prog cfg0 74 Try.f74 [.agg [.v (.int .i64 k.Id), bytesL k.Bytes]] = some (v, cl) := by
    refine pure_ex (rs := [.cell 2 101]) rfl rfl ?_
    have h1 := call_dz Try.func143 rfl ok_sRingFault rfl (oneRing_dz k) (p_sRingFault (oneRing k) (oneRing_len k))
    repeat' (first | ((first | refine wSeqr (fun xx hx => ?_) | refine wIf (fun xx hx => ?_) | refine wReg (fun xx hx => ?_) | (refine wRet ?_; (try simp only [thenQ, blockQ]); refine ends_by (fun xx hx => ?_))); have hc := trivial; (repeat' (simp only [hc, go_sem, Nat.reduceAdd, Nat.reduceMul, Nat.reduceSub, Nat.reduceEqDiff, Nat.reduceLT, Nat.reduceLeDiff, Int.reduceEq, Int.reduceLT, Int.reduceLE, reduceIte, aresults, aresult, hp0, h1] at hx; (try (rw [guardL_if] at hx; split at hx <;> rename_i hc)))); all_goals (subst hx; first | (refine ⟨_, rfl, fun ht => ?_, fun ht => ?_⟩ <;> (try simp only [Bool.not_eq_true', Bool.not_eq_false', Bool.and_eq_true, Bool.and_eq_false_iff, Bool.or_eq_true, Bool.or_eq_false_iff, decide_eq_true_eq, decide_eq_false_iff_not, beq_iff_eq, bne_iff_ne, Bool.not_true, Bool.not_false, Bool.true_eq_false, Bool.false_eq_true, ne_eq, Decidable.not_not, inB_t, inB_f] at ht)) | (refine ⟨_, rfl, ?_⟩; (try simp only [tupOf])))) | refine wSkip ?_ | (refine wExit ?_; simp only [thenQ, blockQ, reduceIte, Nat.reduceEqDiff]) | refine wSeq ?_ | refine wBlock ?_)
    · refine dirty ?_
      unfold newRing; rw [if_pos ht]; rfl
    · refine wReg (fun xx hx => ?_)
      simp only [go_sem, Nat.reduceAdd, Nat.reduceMul, Nat.reduceSub, Nat.reduceEqDiff, Nat.reduceLT, Nat.reduceLeDiff, Int.reduceEq, Int.reduceLT, Int.reduceLE, reduceIte, aresults, aresult, hp0] at hx
      generalize hq : call Try.prog cfg0 0 144 _ _ = q at hx
      obtain ⟨g', hg', hc⟩ := c_sl4Copy (oneRing k) (oneRing_len k) (oneRing_keys k hl) ((((Hp.nil.new [.v (.int .i64 k.Id), bytesL k.Bytes]).new [.v (.int .i64 0), .v (.int .i64 0), .v (.slice none 0 0)]).new [.v (.int .i64 0), .v (.slice none 0 0)]).set 2 [.v (.int .i64 k.Id), .lst true [[.v (.int .i64 k.Id), bytesL k.Bytes]]]) 2 true (by simp [nil_g]) (by simp [Hp.set_h]; exact ⟨rfl, rfl⟩)
      rw [hc] at hq
      subst hq
      have hc := trivial; (repeat' (simp only [hc, go_sem, Nat.reduceAdd, Nat.reduceMul, Nat.reduceSub, Nat.reduceEqDiff, Nat.reduceLT, Nat.reduceLeDiff, Int.reduceEq, Int.reduceLT, Int.reduceLE, reduceIte, aresults, aresult] at hx; (try (rw [guardL_if] at hx; split at hx <;> rename_i hc)))); all_goals (subst hx; refine ⟨_, rfl, ?_⟩)
      repeat' (first | ((first | refine wSeqr (fun xx hx => ?_) | refine wIf (fun xx hx => ?_) | refine wReg (fun xx hx => ?_) | (refine wRet ?_; (try simp only [thenQ, blockQ]); refine ends_by (fun xx hx => ?_))); have hc := trivial; (repeat' (simp only [hc, go_sem, Nat.reduceAdd, Nat.reduceMul, Nat.reduceSub, Nat.reduceEqDiff, Nat.reduceLT, Nat.reduceLeDiff, Int.reduceEq, Int.reduceLT, Int.reduceLE, reduceIte, aresults, aresult] at hx; (try (rw [guardL_if] at hx; split at hx <;> rename_i hc)))); all_goals (subst hx; first | (refine ⟨_, rfl, fun ht => ?_, fun ht => ?_⟩ <;> (try simp only [Bool.not_eq_true', Bool.not_eq_false', Bool.and_eq_true, Bool.and_eq_false_iff, Bool.or_eq_true, Bool.or_eq_false_iff, decide_eq_true_eq, decide_eq_false_iff_not, beq_iff_eq, bne_iff_ne, Bool.not_true, Bool.not_false, Bool.true_eq_false, Bool.false_eq_true, ne_eq, Decidable.not_not, inB_t, inB_f] at ht)) | (refine ⟨_, rfl, ?_⟩; (try simp only [tupOf])))) | refine wSkip ?_ | (refine wExit ?_; simp only [thenQ, blockQ, reduceIte, Nat.reduceEqDiff]) | refine wSeq ?_ | refine wBlock ?_)
      refine dirty ?_
      unfold newRing; rw [if_neg (by simpa using ht)]; exact fz_deep (fz_ringRes 0 (oneRing k)) _
  obtain ⟨v, cl, rfl, hp⟩ := key
  exact ⟨cl, hp⟩
theorem c_sNewRing (k : KeyM) (hl : k.Bytes.length ≤ 1048576) : ∀ H, call Try.prog cfg0 0 74 [.agg [.v (.int .i64 k.Id), bytesL k.Bytes]] H = some (.agg (ringRes (newRing k).1 (newRing k).2), H) := fun H => by
  obtain ⟨cl, hp⟩ := p_sNewRing k hl
  exact call_fz Try.func74 rfl ok_sNewRing rfl (by simp only [fz_cons, fz_nil, go_sem, and_self]) hp H

def metasOk (l : List Int) : Bool := l.all fun m => inB m 0 9999999
def configFault (c : ConfigM) : Int :=
  if (newRing c.Key).1 ≠ 0 then (newRing c.Key).1 else if c.Metas.length < 2 ∨ 4 < c.Metas.length then 2 else if metasOk c.Metas = true then 0 else 3
theorem ok_sConfigFault : fnOk Try.prog cfg0 15 Try.f15 = true := by kernel_rfl
theorem p_sConfigFault (c : ConfigM) (hk : c.Key.Bytes.length ≤ 1048576) (hl : c.Metas.length ≤ 1048576) : pure Try.prog cfg0 15 Try.f15 [.agg [.v (.int .i64 c.Key.Id), bytesL c.Key.Bytes, i64L c.Metas]] = some (.v (.int .i64 (configFault c)), true) := by
  refine pure_wp (rs := [.tmp 2]) rfl rfl ?_
  repeat' (first | ((first | refine wSeqr (fun xx hx => ?_) | refine wIf (fun xx hx => ?_) | refine wReg (fun xx hx => ?_) | (refine wRet ?_; (try simp only [thenQ, blockQ]); refine ends_by (fun xx hx => ?_))); have hc := trivial; (repeat' (simp only [hc, go_sem, Nat.reduceAdd, Nat.reduceMul, Nat.reduceSub, Nat.reduceEqDiff, Nat.reduceLT, Nat.reduceLeDiff, Int.reduceEq, Int.reduceLT, Int.reduceLE, reduceIte, aresults, aresult, hp0, c_sNewRing c.Key hk, ringRes] at hx; (try (rw [guardL_if] at hx; split at hx <;> rename_i hc)))); all_goals (subst hx; first | (refine ⟨_, rfl, fun ht => ?_, fun ht => ?_⟩ <;> (try simp only [Bool.not_eq_true', Bool.not_eq_false', Bool.and_eq_true, Bool.and_eq_false_iff, Bool.or_eq_true, Bool.or_eq_false_iff, decide_eq_true_eq, decide_eq_false_iff_not, beq_iff_eq, bne_iff_ne, Bool.not_true, Bool.not_false, Bool.true_eq_false, Bool.false_eq_true, ne_eq, Decidable.not_not, inB_t, inB_f] at ht)) | (refine ⟨_, rfl, ?_⟩; (try simp only [tupOf])))) | refine wSkip ?_ | (refine wExit ?_; simp only [thenQ, blockQ, reduceIte, Nat.reduceEqDiff]) | refine wSeq ?_ | refine wBlock ?_)
  any_goals (refine gives_intv ?_; unfold configFault; (try simp only [Bool.not_eq_true', Bool.not_eq_false', Bool.and_eq_true, Bool.and_eq_false_iff, Bool.or_eq_true, Bool.or_eq_false_iff, decide_eq_true_eq, decide_eq_false_iff_not, beq_iff_eq, bne_iff_ne, Bool.not_true, Bool.not_false, Bool.true_eq_false, Bool.false_eq_true, ne_eq, Decidable.not_not, inB_t, inB_f] at *); first | rw [if_pos (by assumption)] | (rw [if_neg (by omega), if_pos (by omega)]))
  have hn : (newRing c.Key).1 = 0 := by assumption
  have hlen : ¬ (c.Metas.length < 2 ∨ 4 < c.Metas.length) := by (try simp only [Bool.not_eq_true', Bool.not_eq_false', Bool.and_eq_true, Bool.and_eq_false_iff, Bool.or_eq_true, Bool.or_eq_false_iff, decide_eq_true_eq, decide_eq_false_iff_not, beq_iff_eq, bne_iff_ne, Bool.not_true, Bool.not_false, Bool.true_eq_false, Bool.false_eq_true, ne_eq, Decidable.not_not, inB_t, inB_f] at *); omega
  refine wLoop (fun k s => ∃ (j : Nat), j + k = c.Metas.length ∧ s.1 1 = .ptr 0 0 ∧ s.1 4 = .v (.int .i64 (j : Nat)) ∧ (metasOk (c.Metas.drop j) = metasOk c.Metas) ∧ (s.2.h 0 = some [.v (.int .i64 c.Key.Id), bytesL c.Key.Bytes, i64L c.Metas])) (fun k s hI => ?_) (c.Metas.length) _ ?_
  · obtain ⟨e, H⟩ := s
    obtain ⟨j, hj, h1, h4, hf, hb⟩ := hI
    simp only at h1 h4 hf hb
    repeat' (first | ((first | refine wSeqr (fun xx hx => ?_) | refine wIf (fun xx hx => ?_) | refine wReg (fun xx hx => ?_) | (refine wRet ?_; (try simp only [thenQ, blockQ]); refine ends_by (fun xx hx => ?_))); have hc := trivial; (repeat' (simp only [hc, go_sem, Nat.reduceAdd, Nat.reduceMul, Nat.reduceSub, Nat.reduceEqDiff, Nat.reduceLT, Nat.reduceLeDiff, Int.reduceEq, Int.reduceLT, Int.reduceLE, reduceIte, aresults, aresult, h1, h4, hb] at hx; (try (rw [guardL_if] at hx; split at hx <;> rename_i hc)))); all_goals (subst hx; first | (refine ⟨_, rfl, fun ht => ?_, fun ht => ?_⟩ <;> (try simp only [Bool.not_eq_true', Bool.not_eq_false', Bool.and_eq_true, Bool.and_eq_false_iff, Bool.or_eq_true, Bool.or_eq_false_iff, decide_eq_true_eq, decide_eq_false_iff_not, beq_iff_eq, bne_iff_ne, Bool.not_true, Bool.not_false, Bool.true_eq_false, Bool.false_eq_true, ne_eq, Decidable.not_not, inB_t, inB_f] at ht)) | (refine ⟨_, rfl, ?_⟩; (try simp only [tupOf])))) | refine wSkip ?_ | (refine wExit ?_; simp only [thenQ, blockQ, reduceIte, Nat.reduceEqDiff]) | refine wSeq ?_ | refine wBlock ?_)
    · have hlt : j < c.Metas.length := by omega
      obtain ⟨m, hg, hd, hm⟩ := at_drop hlt
      have hg' := map_at (f := fun z => [AV.v (.int .i64 z)]) hg
      rw [hd, metasOk, List.all_cons] at hf
      repeat' (first | ((first | refine wSeqr (fun xx hx => ?_) | refine wIf (fun xx hx => ?_) | refine wReg (fun xx hx => ?_) | (refine wRet ?_; (try simp only [thenQ, blockQ]); refine ends_by (fun xx hx => ?_))); have hc := trivial; (repeat' (simp only [hc, go_sem, Nat.reduceAdd, Nat.reduceMul, Nat.reduceSub, Nat.reduceEqDiff, Nat.reduceLT, Nat.reduceLeDiff, Int.reduceEq, Int.reduceLT, Int.reduceLE, reduceIte, aresults, aresult, h1, h4, hb, hg', hp0, c_sl1In, i64L, icell, wrap_succ (show j < 9223372036854775807 by omega)] at hx; (try (rw [guardL_if] at hx; split at hx <;> rename_i hc)))); all_goals (subst hx; first | (refine ⟨_, rfl, fun ht => ?_, fun ht => ?_⟩ <;> (try simp only [Bool.not_eq_true', Bool.not_eq_false', Bool.and_eq_true, Bool.and_eq_false_iff, Bool.or_eq_true, Bool.or_eq_false_iff, decide_eq_true_eq, decide_eq_false_iff_not, beq_iff_eq, bne_iff_ne, Bool.not_true, Bool.not_false, Bool.true_eq_false, Bool.false_eq_true, ne_eq, Decidable.not_not, inB_t, inB_f] at ht)) | (refine ⟨_, rfl, ?_⟩; (try simp only [tupOf])))) | refine wSkip ?_ | (refine wExit ?_; simp only [thenQ, blockQ, reduceIte, Nat.reduceEqDiff]) | refine wSeq ?_ | refine wBlock ?_)
      · refine gives_intv ?_; unfold configFault; rw [if_neg (by simpa using hn), if_neg hlen, if_neg]
        rw [← hf]; simp only [Bool.and_eq_true, inB_t]; intro h; exact ht h.1
      · rw [inB_t.2 ht, Bool.true_and] at hf
        refine ⟨_, Nat.sub_lt (by omega) Nat.one_pos, j + 1, by omega, by simp only [upd_eq, Nat.reduceEqDiff, if_false, if_true, h1, h4], by simp only [upd_eq, Nat.reduceEqDiff, if_false, if_true, h1, h4], ?_⟩; exact ⟨hf, hb⟩
    · rw [List.drop_of_length_le (by omega)] at hf
      repeat' (first | ((first | refine wSeqr (fun xx hx => ?_) | refine wIf (fun xx hx => ?_) | refine wReg (fun xx hx => ?_) | (refine wRet ?_; (try simp only [thenQ, blockQ]); refine ends_by (fun xx hx => ?_))); have hc := trivial; (repeat' (simp only [hc, go_sem, Nat.reduceAdd, Nat.reduceMul, Nat.reduceSub, Nat.reduceEqDiff, Nat.reduceLT, Nat.reduceLeDiff, Int.reduceEq, Int.reduceLT, Int.reduceLE, reduceIte, aresults, aresult] at hx; (try (rw [guardL_if] at hx; split at hx <;> rename_i hc)))); all_goals (subst hx; first | (refine ⟨_, rfl, fun ht => ?_, fun ht => ?_⟩ <;> (try simp only [Bool.not_eq_true', Bool.not_eq_false', Bool.and_eq_true, Bool.and_eq_false_iff, Bool.or_eq_true, Bool.or_eq_false_iff, decide_eq_true_eq, decide_eq_false_iff_not, beq_iff_eq, bne_iff_ne, Bool.not_true, Bool.not_false, Bool.true_eq_false, Bool.false_eq_true, ne_eq, Decidable.not_not, inB_t, inB_f] at ht)) | (refine ⟨_, rfl, ?_⟩; (try simp only [tupOf])))) | refine wSkip ?_ | (refine wExit ?_; simp only [thenQ, blockQ, reduceIte, Nat.reduceEqDiff]) | refine wSeq ?_ | refine wBlock ?_)
      refine gives_intv ?_; unfold configFault; rw [if_neg (by simpa using hn), if_neg hlen, if_pos (by rw [← hf]; rfl)]
  · refine ⟨0, by omega, rfl, rfl, ?_⟩; exact ⟨rfl, rfl⟩
theorem c_sConfigFault (c : ConfigM) (hk : c.Key.Bytes.length ≤ 1048576) (hl : c.Metas.length ≤ 1048576) : ∀ H, call Try.prog cfg0 0 15 [.agg [.v (.int .i64 c.Key.Id), bytesL c.Key.Bytes, i64L c.Metas]] H = some (.v (.int .i64 (configFault c)), H) :=
  call_fz Try.func15 rfl ok_sConfigFault rfl (by simp only [fz_cons, fz_nil, go_sem, and_self]) (p_sConfigFault c hk hl)

theorem ok_iConfigFault : fnOk Try.prog cfg0 17 Try.f17 = true := by kernel_rfl
theorem p_iConfigFault (c : ConfigM) (hk : c.Key.Bytes.length ≤ 1048576) (hl : c.Metas.length ≤ 1048576) : pure Try.prog cfg0 17 Try.f17 [.agg [.v (.int .i64 c.Key.Id), bytesL c.Key.Bytes, i64L c.Metas]] = some (.v (.int .i64 (configFault c)), true) := by
  refine pure_wp (rs := [.tmp 2]) rfl rfl ?_
  repeat' (first | ((first | refine wSeqr (fun xx hx => ?_) | refine wIf (fun xx hx => ?_) | refine wReg (fun xx hx => ?_) | (refine wRet ?_; (try simp only [thenQ, blockQ]); refine ends_by (fun xx hx => ?_))); have hc := trivial; (repeat' (simp only [hc, go_sem, Nat.reduceAdd, Nat.reduceMul, Nat.reduceSub, Nat.reduceEqDiff, Nat.reduceLT, Nat.reduceLeDiff, Int.reduceEq, Int.reduceLT, Int.reduceLE, reduceIte, aresults, aresult, hp0, c_iNewRing c.Key hk, ringRes, c_iin] at hx; (try (rw [guardL_if] at hx; split at hx <;> rename_i hc)))); all_goals (subst hx; first | (refine ⟨_, rfl, fun ht => ?_, fun ht => ?_⟩ <;> (try simp only [Bool.not_eq_true', Bool.not_eq_false', Bool.and_eq_true, Bool.and_eq_false_iff, Bool.or_eq_true, Bool.or_eq_false_iff, decide_eq_true_eq, decide_eq_false_iff_not, beq_iff_eq, bne_iff_ne, Bool.not_true, Bool.not_false, Bool.true_eq_false, Bool.false_eq_true, ne_eq, Decidable.not_not, inB_t, inB_f] at ht)) | (refine ⟨_, rfl, ?_⟩; (try simp only [tupOf])))) | refine wSkip ?_ | (refine wExit ?_; simp only [thenQ, blockQ, reduceIte, Nat.reduceEqDiff]) | refine wSeq ?_ | refine wBlock ?_)
  any_goals (refine gives_intv ?_; unfold configFault; (try simp only [Bool.not_eq_true', Bool.not_eq_false', Bool.and_eq_true, Bool.and_eq_false_iff, Bool.or_eq_true, Bool.or_eq_false_iff, decide_eq_true_eq, decide_eq_false_iff_not, beq_iff_eq, bne_iff_ne, Bool.not_true, Bool.not_false, Bool.true_eq_false, Bool.false_eq_true, ne_eq, Decidable.not_not, inB_t, inB_f] at *); first | rw [if_pos (by assumption)] | (rw [if_neg (by omega), if_pos (by omega)]))
  have hn : (newRing c.Key).1 = 0 := by assumption
  have hlen : ¬ (c.Metas.length < 2 ∨ 4 < c.Metas.length) := by (try simp only [Bool.not_eq_true', Bool.not_eq_false', Bool.and_eq_true, Bool.and_eq_false_iff, Bool.or_eq_true, Bool.or_eq_false_iff, decide_eq_true_eq, decide_eq_false_iff_not, beq_iff_eq, bne_iff_ne, Bool.not_true, Bool.not_false, Bool.true_eq_false, Bool.false_eq_true, ne_eq, Decidable.not_not, inB_t, inB_f] at *); omega
  refine wLoop (fun k s => ∃ (j : Nat), j + k = c.Metas.length ∧ s.1 20 = i64L c.Metas ∧ s.1 21 = .v (.int .i64 (c.Metas.length : Nat)) ∧ s.1 22 = .v (.int .i64 (j : Nat)) ∧ (metasOk (c.Metas.drop j) = metasOk c.Metas)) (fun k s hI => ?_) (c.Metas.length) _ ?_
  · obtain ⟨e, H⟩ := s
    obtain ⟨j, hj, h20, h21, h22, hf⟩ := hI
    simp only at h20 h21 h22 hf
    repeat' (first | ((first | refine wSeqr (fun xx hx => ?_) | refine wIf (fun xx hx => ?_) | refine wReg (fun xx hx => ?_) | (refine wRet ?_; (try simp only [thenQ, blockQ]); refine ends_by (fun xx hx => ?_))); have hc := trivial; (repeat' (simp only [hc, go_sem, Nat.reduceAdd, Nat.reduceMul, Nat.reduceSub, Nat.reduceEqDiff, Nat.reduceLT, Nat.reduceLeDiff, Int.reduceEq, Int.reduceLT, Int.reduceLE, reduceIte, aresults, aresult, h20, h21, h22] at hx; (try (rw [guardL_if] at hx; split at hx <;> rename_i hc)))); all_goals (subst hx; first | (refine ⟨_, rfl, fun ht => ?_, fun ht => ?_⟩ <;> (try simp only [Bool.not_eq_true', Bool.not_eq_false', Bool.and_eq_true, Bool.and_eq_false_iff, Bool.or_eq_true, Bool.or_eq_false_iff, decide_eq_true_eq, decide_eq_false_iff_not, beq_iff_eq, bne_iff_ne, Bool.not_true, Bool.not_false, Bool.true_eq_false, Bool.false_eq_true, ne_eq, Decidable.not_not, inB_t, inB_f] at ht)) | (refine ⟨_, rfl, ?_⟩; (try simp only [tupOf])))) | refine wSkip ?_ | (refine wExit ?_; simp only [thenQ, blockQ, reduceIte, Nat.reduceEqDiff]) | refine wSeq ?_ | refine wBlock ?_)
    · have hlt : j < c.Metas.length := by omega
      obtain ⟨m, hg, hd, hm⟩ := at_drop hlt
      have hg' := map_at (f := fun z => [AV.v (.int .i64 z)]) hg
      rw [hd, metasOk, List.all_cons] at hf
      repeat' (first | ((first | refine wSeqr (fun xx hx => ?_) | refine wIf (fun xx hx => ?_) | refine wReg (fun xx hx => ?_) | (refine wRet ?_; (try simp only [thenQ, blockQ]); refine ends_by (fun xx hx => ?_))); have hc := trivial; (repeat' (simp only [hc, go_sem, Nat.reduceAdd, Nat.reduceMul, Nat.reduceSub, Nat.reduceEqDiff, Nat.reduceLT, Nat.reduceLeDiff, Int.reduceEq, Int.reduceLT, Int.reduceLE, reduceIte, aresults, aresult, h20, h22, hg', hp0, c_iin, i64L, icell, wrap_succ (show j < 9223372036854775807 by omega)] at hx; (try (rw [guardL_if] at hx; split at hx <;> rename_i hc)))); all_goals (subst hx; first | (refine ⟨_, rfl, fun ht => ?_, fun ht => ?_⟩ <;> (try simp only [Bool.not_eq_true', Bool.not_eq_false', Bool.and_eq_true, Bool.and_eq_false_iff, Bool.or_eq_true, Bool.or_eq_false_iff, decide_eq_true_eq, decide_eq_false_iff_not, beq_iff_eq, bne_iff_ne, Bool.not_true, Bool.not_false, Bool.true_eq_false, Bool.false_eq_true, ne_eq, Decidable.not_not, inB_t, inB_f] at ht)) | (refine ⟨_, rfl, ?_⟩; (try simp only [tupOf])))) | refine wSkip ?_ | (refine wExit ?_; simp only [thenQ, blockQ, reduceIte, Nat.reduceEqDiff]) | refine wSeq ?_ | refine wBlock ?_)
      · refine gives_intv ?_; unfold configFault; rw [if_neg (by simpa using hn), if_neg hlen, if_neg]
        rw [← hf]; simp only [Bool.and_eq_true, inB_t]; intro h; exact ht h.1
      · rw [inB_t.2 ht, Bool.true_and] at hf
        refine ⟨_, Nat.sub_lt (by omega) Nat.one_pos, j + 1, by omega, by simp only [upd_eq, Nat.reduceEqDiff, if_false, if_true, h20, h21, h22], by simp only [upd_eq, Nat.reduceEqDiff, if_false, if_true, h20, h21, h22], by simp only [upd_eq, Nat.reduceEqDiff, if_false, if_true, h20, h21, h22], ?_⟩; exact hf
    · rw [List.drop_of_length_le (by omega)] at hf
      repeat' (first | ((first | refine wSeqr (fun xx hx => ?_) | refine wIf (fun xx hx => ?_) | refine wReg (fun xx hx => ?_) | (refine wRet ?_; (try simp only [thenQ, blockQ]); refine ends_by (fun xx hx => ?_))); have hc := trivial; (repeat' (simp only [hc, go_sem, Nat.reduceAdd, Nat.reduceMul, Nat.reduceSub, Nat.reduceEqDiff, Nat.reduceLT, Nat.reduceLeDiff, Int.reduceEq, Int.reduceLT, Int.reduceLE, reduceIte, aresults, aresult] at hx; (try (rw [guardL_if] at hx; split at hx <;> rename_i hc)))); all_goals (subst hx; first | (refine ⟨_, rfl, fun ht => ?_, fun ht => ?_⟩ <;> (try simp only [Bool.not_eq_true', Bool.not_eq_false', Bool.and_eq_true, Bool.and_eq_false_iff, Bool.or_eq_true, Bool.or_eq_false_iff, decide_eq_true_eq, decide_eq_false_iff_not, beq_iff_eq, bne_iff_ne, Bool.not_true, Bool.not_false, Bool.true_eq_false, Bool.false_eq_true, ne_eq, Decidable.not_not, inB_t, inB_f] at ht)) | (refine ⟨_, rfl, ?_⟩; (try simp only [tupOf])))) | refine wSkip ?_ | (refine wExit ?_; simp only [thenQ, blockQ, reduceIte, Nat.reduceEqDiff]) | refine wSeq ?_ | refine wBlock ?_)
      refine gives_intv ?_; unfold configFault; rw [if_neg (by simpa using hn), if_neg hlen, if_pos (by rw [← hf]; rfl)]
  · refine ⟨0, by omega, rfl, rfl, rfl, ?_⟩; rfl
theorem c_iConfigFault (c : ConfigM) (hk : c.Key.Bytes.length ≤ 1048576) (hl : c.Metas.length ≤ 1048576) : ∀ H, call Try.prog cfg0 0 17 [.agg [.v (.int .i64 c.Key.Id), bytesL c.Key.Bytes, i64L c.Metas]] H = some (.v (.int .i64 (configFault c)), H) :=
  call_fz Try.func17 rfl ok_iConfigFault rfl (by simp only [fz_cons, fz_nil, go_sem, and_self]) (p_iConfigFault c hk hl)

end
end Go.Proofs.Ytmobkpfalcfepaa
