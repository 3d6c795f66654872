/- Contracts: ClaimText, both sides. -/
import Derived.Test.YtmncdkecpnoogaaDoorX1
namespace Go.Proofs.YtmncdkecpnoogaaDoor
open Go Go.RowKit Go.Proofs.YtmncdkecpnoogaaDoor.Eng
set_option linter.unusedSimpArgs false
set_option linter.unusedVariables false
set_option maxRecDepth 100000
noncomputable section
theorem cl_sizes {a b d : Nat} (ha : a ≤ 3) (hb : b ≤ 1000000) : ((textOf a).size + (⟨#[58]⟩ : ByteArray).size ≤ 4611686018427387904 ∧ (textOf a).size + (#[58] : Array UInt8).size ≤ 4611686018427387904 ∧ (textOf a).size + 1 ≤ 4611686018427387904) ∧
    (textOf a).size + (#[58] : Array UInt8).size + (textOf b).size ≤ 4611686018427387904 ∧ (textOf a).size + (#[58] : Array UInt8).size + (textOf b).size + (letterOf d).size ≤ 4611686018427387904 := by
  have h1 := textOf_size a (by omega)
  have h2 := textOf_size b (by omega)
  have h3 : (⟨#[58]⟩ : ByteArray).size = 1 := rfl
  have h4 : (#[58] : Array UInt8).size = 1 := rfl
  have h5 : (letterOf d).size = 1 := rfl
  omega
theorem ok_sl14Claim : fnOk Tryd.prog cfg0 40 Tryd.f40 = true := by kernel_rfl
theorem p_sl14Claim (k : ClaimM) (hk : claimOk k = true) : pure Tryd.prog cfg0 40 Tryd.f40 [.fp [.v (.int .i64 k.Node), .v (.int .i64 k.Inc), .v (.int .i64 k.Status), .v (.int .i64 k.Meta)] 0] = some (.v (.string (clText k)), true) := by
  refine pure_wp (rs := [.tmp 2]) rfl rfl ?_
  have hp0 : ∀ b, cfg0.pol 40 b = 0 := fun b => rfl
  obtain ⟨a, b, d, ea, eb, ed, ha, hb, hd⟩ := ok_nat hk
  have w1 : IntKind.wrap .i64 ((d : Int) + 1) = (d : Int) + 1 := wrap_i64 (by omega) (by omega)
  obtain ⟨⟨z1, z2, z3⟩, z4, z5⟩ := cl_sizes (d := d) ha hb
  have hcl : clText k = ((textOf a ++ (⟨#[58]⟩ : ByteArray)) ++ textOf b) ++ letterOf d := by unfold clText; rw [ea, eb, ed]
  rw [hcl]
  repeat' (first | ((first | refine wSeqr (fun xx hx => ?_) | refine wIf (fun xx hx => ?_) | refine wReg (fun xx hx => ?_) | (refine wRet ?_; (try simp only [thenQ, blockQ]); refine ends_by (fun xx hx => ?_))); have hc := trivial; (repeat' (simp only [hc, go_sem, Nat.reduceAdd, Nat.reduceMul, Nat.reduceSub, Nat.reduceEqDiff, Nat.reduceLT, Nat.reduceLeDiff, Int.reduceEq, Int.reduceLT, Int.reduceLE, reduceIte, aresults, aresult, hp0] at hx; (try (rw [guardL_if] at hx; split at hx <;> rename_i hc)))); all_goals (subst hx; first | (refine ⟨_, rfl, fun ht => ?_, fun ht => ?_⟩ <;> (try simp only [Bool.not_eq_true', Bool.not_eq_false', Bool.and_eq_true, Bool.and_eq_false_iff, Bool.or_eq_true, Bool.or_eq_false_iff, decide_eq_true_eq, decide_eq_false_iff_not, beq_iff_eq, bne_iff_ne, Bool.not_true, Bool.not_false, Bool.true_eq_false, Bool.false_eq_true, ne_eq, Decidable.not_not, inB_t, inB_f] at ht)) | (refine ⟨_, rfl, ?_⟩; (try simp only [tupOf])))) | refine wSkip ?_ | (refine wExit ?_; simp only [thenQ, blockQ, reduceIte, Nat.reduceEqDiff]) | refine wSeq ?_ | refine wBlock ?_)
  refine wReg (fun xx hx => ?_); have hc := trivial; (repeat' (simp only [hc, go_sem, Nat.reduceAdd, Nat.reduceMul, Nat.reduceSub, Nat.reduceEqDiff, Nat.reduceLT, Nat.reduceLeDiff, Int.reduceEq, Int.reduceLT, Int.reduceLE, reduceIte, aresults, aresult, hp0, ea, eb, ed, c_l1Digits a (by omega), c_l1Digits b (by omega), w1, z1, z2, z3, z4, z5] at hx; (try (rw [guardL_if] at hx; split at hx <;> rename_i hc)))); generalize hq : aslice Tryd.prog _ _ _ _ _ _ _ = q at hx
  rw [slice_asd d hd] at hq
  rotate_left
  · simp only [opd_tmp, upd_eq, Nat.reduceEqDiff, if_true, if_false]
  · simp only [opd_tmp, upd_eq, Nat.reduceEqDiff, if_true, if_false]
  subst hq
  have hc := trivial; (repeat' (simp only [hc, go_sem, Nat.reduceAdd, Nat.reduceMul, Nat.reduceSub, Nat.reduceEqDiff, Nat.reduceLT, Nat.reduceLeDiff, Int.reduceEq, Int.reduceLT, Int.reduceLE, reduceIte, aresults, aresult, hp0, z5] at hx; (try (rw [guardL_if] at hx; split at hx <;> rename_i hc)))); all_goals (subst hx; refine ⟨_, rfl, ?_⟩)
  repeat' (first | ((first | refine wSeqr (fun xx hx => ?_) | refine wIf (fun xx hx => ?_) | refine wReg (fun xx hx => ?_) | (refine wRet ?_; (try simp only [thenQ, blockQ]); refine ends_by (fun xx hx => ?_))); have hc := trivial; (repeat' (simp only [hc, go_sem, Nat.reduceAdd, Nat.reduceMul, Nat.reduceSub, Nat.reduceEqDiff, Nat.reduceLT, Nat.reduceLeDiff, Int.reduceEq, Int.reduceLT, Int.reduceLE, reduceIte, aresults, aresult, hp0] at hx; (try (rw [guardL_if] at hx; split at hx <;> rename_i hc)))); all_goals (subst hx; first | (refine ⟨_, rfl, fun ht => ?_, fun ht => ?_⟩ <;> (try simp only [Bool.not_eq_true', Bool.not_eq_false', Bool.and_eq_true, Bool.and_eq_false_iff, Bool.or_eq_true, Bool.or_eq_false_iff, decide_eq_true_eq, decide_eq_false_iff_not, beq_iff_eq, bne_iff_ne, Bool.not_true, Bool.not_false, Bool.true_eq_false, Bool.false_eq_true, ne_eq, Decidable.not_not, inB_t, inB_f] at ht)) | (refine ⟨_, rfl, ?_⟩; (try simp only [tupOf])))) | refine wSkip ?_ | (refine wExit ?_; simp only [thenQ, blockQ, reduceIte, Nat.reduceEqDiff]) | refine wSeq ?_ | refine wBlock ?_)
  all_goals exact ⟨rfl, rfl⟩
theorem c_sl14Claim (k : ClaimM) (hk : claimOk k = true) : ∀ H, call Tryd.prog cfg0 0 40 [.fp [.v (.int .i64 k.Node), .v (.int .i64 k.Inc), .v (.int .i64 k.Status), .v (.int .i64 k.Meta)] 0] H = some (.v (.string (clText k)), H) :=
  call_fz Tryd.func40 rfl ok_sl14Claim rfl (by simp only [fz_cons, fz_nil, go_sem, and_self]) (p_sl14Claim k hk)
open Classical in
theorem cp_sl14Claim (k : ClaimM) (hk : claimOk k = true) : ∀ H bk, call Tryd.prog cfg0 0 40 [.ptr bk 0] H = if H.h bk = some [.v (.int .i64 k.Node), .v (.int .i64 k.Inc), .v (.int .i64 k.Status), .v (.int .i64 k.Meta)] then some (.v (.string (clText k)), H) else call' Tryd.prog cfg0 0 40 [.ptr bk 0] H :=
  fun H bk => by
    exact call_if Tryd.func40 rfl ok_sl14Claim rfl (fun hC => mapM_c (deep_ptr hC (fzE_Claim 10 k)) (mapM_n)) (p_sl14Claim k hk)

def ctC (k : ClaimM) : Int := claimFault k
def ctT (k : ClaimM) : ByteArray := if claimOk k = true then clText k else ⟨#[]⟩
theorem ok_sClaimText : fnOk Tryd.prog cfg0 9 Tryd.f9 = true := by kernel_rfl
theorem p_sClaimText (k : ClaimM) : pure Tryd.prog cfg0 9 Tryd.f9 [.agg [.v (.int .i64 k.Node), .v (.int .i64 k.Inc), .v (.int .i64 k.Status), .v (.int .i64 k.Meta)]] = some (.agg [.v (.int .i64 (ctC k)), .v (.string (ctT k))], true) := by
  refine pure_wp (rs := [.cell 2 25]) rfl rfl ?_
  have hp0 : ∀ b, cfg0.pol 9 b = 0 := fun b => rfl
  by_cases hk : claimOk k = true
  · have e0 : claimFault k = 0 := by unfold claimFault; rw [if_pos hk]
    have e1 : ctT k = clText k := by unfold ctT; rw [if_pos hk]
    have e2 : ctC k = 0 := e0
    repeat' (first | ((first | refine wSeqr (fun xx hx => ?_) | refine wIf (fun xx hx => ?_) | refine wReg (fun xx hx => ?_) | (refine wRet ?_; (try simp only [thenQ, blockQ]); refine ends_by (fun xx hx => ?_))); have hc := trivial; (repeat' (simp only [hc, go_sem, Nat.reduceAdd, Nat.reduceMul, Nat.reduceSub, Nat.reduceEqDiff, Nat.reduceLT, Nat.reduceLeDiff, Int.reduceEq, Int.reduceLT, Int.reduceLE, reduceIte, aresults, aresult, hp0, c_sClaimFault, e0, cp_sl14Claim k hk] at hx; (try (rw [guardL_if] at hx; split at hx <;> rename_i hc)))); all_goals (subst hx; first | (refine ⟨_, rfl, fun ht => ?_, fun ht => ?_⟩ <;> (try simp only [Bool.not_eq_true', Bool.not_eq_false', Bool.and_eq_true, Bool.and_eq_false_iff, Bool.or_eq_true, Bool.or_eq_false_iff, decide_eq_true_eq, decide_eq_false_iff_not, beq_iff_eq, bne_iff_ne, Bool.not_true, Bool.not_false, Bool.true_eq_false, Bool.false_eq_true, ne_eq, Decidable.not_not, inB_t, inB_f] at ht)) | (refine ⟨_, rfl, ?_⟩; (try simp only [tupOf])))) | refine wSkip ?_ | (refine wExit ?_; simp only [thenQ, blockQ, reduceIte, Nat.reduceEqDiff]) | refine wSeq ?_ | refine wBlock ?_)
    all_goals first
      | (exfalso; exact absurd trivial (by assumption))
      | (refine ⟨?_, rfl⟩; rw [e1, e2]; rfl)
  · have e0 : claimFault k = 3 := by unfold claimFault; rw [if_neg hk]
    have e1 : ctT k = ⟨#[]⟩ := by unfold ctT; rw [if_neg hk]
    have e2 : ctC k = 3 := e0
    repeat' (first | ((first | refine wSeqr (fun xx hx => ?_) | refine wIf (fun xx hx => ?_) | refine wReg (fun xx hx => ?_) | (refine wRet ?_; (try simp only [thenQ, blockQ]); refine ends_by (fun xx hx => ?_))); have hc := trivial; (repeat' (simp only [hc, go_sem, Nat.reduceAdd, Nat.reduceMul, Nat.reduceSub, Nat.reduceEqDiff, Nat.reduceLT, Nat.reduceLeDiff, Int.reduceEq, Int.reduceLT, Int.reduceLE, reduceIte, aresults, aresult, hp0, c_sClaimFault, e0] at hx; (try (rw [guardL_if] at hx; split at hx <;> rename_i hc)))); all_goals (subst hx; first | (refine ⟨_, rfl, fun ht => ?_, fun ht => ?_⟩ <;> (try simp only [Bool.not_eq_true', Bool.not_eq_false', Bool.and_eq_true, Bool.and_eq_false_iff, Bool.or_eq_true, Bool.or_eq_false_iff, decide_eq_true_eq, decide_eq_false_iff_not, beq_iff_eq, bne_iff_ne, Bool.not_true, Bool.not_false, Bool.true_eq_false, Bool.false_eq_true, ne_eq, Decidable.not_not, inB_t, inB_f] at ht)) | (refine ⟨_, rfl, ?_⟩; (try simp only [tupOf])))) | refine wSkip ?_ | (refine wExit ?_; simp only [thenQ, blockQ, reduceIte, Nat.reduceEqDiff]) | refine wSeq ?_ | refine wBlock ?_)
    all_goals first
      | (exfalso; exact absurd trivial (by assumption))
      | (refine ⟨?_, rfl⟩; rw [e1, e2]; rfl)
theorem c_sClaimText (k : ClaimM) : ∀ H, call Tryd.prog cfg0 0 9 [.agg [.v (.int .i64 k.Node), .v (.int .i64 k.Inc), .v (.int .i64 k.Status), .v (.int .i64 k.Meta)]] H = some (.agg [.v (.int .i64 (ctC k)), .v (.string (ctT k))], H) :=
  call_fz Tryd.func9 rfl ok_sClaimText rfl (by simp only [fz_cons, fz_nil, go_sem, and_self]) (p_sClaimText k)

theorem i64_nat {n : Nat} (h : n ≤ 1000000) : i64B (n : Int) := ⟨by omega, by omega⟩
theorem ok_iClaimText : fnOk Tryd.prog cfg0 11 Tryd.f11 = true := by kernel_rfl
theorem p_iClaimText (k : ClaimM) : pure Tryd.prog cfg0 11 Tryd.f11 [.agg [.v (.int .i64 k.Node), .v (.int .i64 k.Inc), .v (.int .i64 k.Status), .v (.int .i64 k.Meta)]] = some (.agg [.v (.int .i64 (ctC k)), .v (.string (ctT k))], true) := by
  refine pure_wp (rs := [.cell 2 25]) rfl rfl ?_
  have hp0 : ∀ b, cfg0.pol 11 b = 0 := fun b => rfl
  by_cases hk : claimOk k = true
  · have e0 : claimFault k = 0 := by unfold claimFault; rw [if_pos hk]
    have e1 : ctT k = clText k := by unfold ctT; rw [if_pos hk]
    have e2 : ctC k = 0 := e0
    obtain ⟨a, b, d, ea, eb, ed, ha, hb, hd⟩ := ok_nat hk
    have w1 : IntKind.wrap .i64 ((d : Int) + 1) = (d : Int) + 1 := wrap_i64 (by omega) (by omega)
    obtain ⟨⟨z1, z2, z3⟩, z4, z5⟩ := cl_sizes (d := d) ha hb
    have hcl : clText k = ((textOf a ++ (⟨#[58]⟩ : ByteArray)) ++ textOf b) ++ letterOf d := by unfold clText; rw [ea, eb, ed]
    rw [e1, e2, hcl]
    repeat' (first | ((first | refine wSeqr (fun xx hx => ?_) | refine wIf (fun xx hx => ?_) | refine wReg (fun xx hx => ?_) | (refine wRet ?_; (try simp only [thenQ, blockQ]); refine ends_by (fun xx hx => ?_))); have hc := trivial; (repeat' (simp only [hc, go_sem, Nat.reduceAdd, Nat.reduceMul, Nat.reduceSub, Nat.reduceEqDiff, Nat.reduceLT, Nat.reduceLeDiff, Int.reduceEq, Int.reduceLT, Int.reduceLE, reduceIte, aresults, aresult, hp0, c_iClaimFault, e0] at hx; (try (rw [guardL_if] at hx; split at hx <;> rename_i hc)))); all_goals (subst hx; first | (refine ⟨_, rfl, fun ht => ?_, fun ht => ?_⟩ <;> (try simp only [Bool.not_eq_true', Bool.not_eq_false', Bool.and_eq_true, Bool.and_eq_false_iff, Bool.or_eq_true, Bool.or_eq_false_iff, decide_eq_true_eq, decide_eq_false_iff_not, beq_iff_eq, bne_iff_ne, Bool.not_true, Bool.not_false, Bool.true_eq_false, Bool.false_eq_true, ne_eq, Decidable.not_not, inB_t, inB_f] at ht)) | (refine ⟨_, rfl, ?_⟩; (try simp only [tupOf])))) | refine wSkip ?_ | (refine wExit ?_; simp only [thenQ, blockQ, reduceIte, Nat.reduceEqDiff]) | refine wSeq ?_ | refine wBlock ?_)
    · exfalso; exact absurd trivial (by assumption)
    refine wReg (fun xx hx => ?_); have hc := trivial; (repeat' (simp only [hc, go_sem, Nat.reduceAdd, Nat.reduceMul, Nat.reduceSub, Nat.reduceEqDiff, Nat.reduceLT, Nat.reduceLeDiff, Int.reduceEq, Int.reduceLT, Int.reduceLE, reduceIte, aresults, aresult, hp0, ea, eb, ed, c_idigits a (i64_nat (by omega)), c_idigits b (i64_nat hb), w1, z1, z2, z3, z4, z5] at hx; (try (rw [guardL_if] at hx; split at hx <;> rename_i hc)))); generalize hq : aslice Tryd.prog _ _ _ _ _ _ _ = q at hx
    rw [slice_asd d hd] at hq
    rotate_left
    · simp only [opd_tmp, upd_eq, Nat.reduceEqDiff, if_true, if_false]
    · simp only [opd_tmp, upd_eq, Nat.reduceEqDiff, if_true, if_false]
    subst hq
    have hc := trivial; (repeat' (simp only [hc, go_sem, Nat.reduceAdd, Nat.reduceMul, Nat.reduceSub, Nat.reduceEqDiff, Nat.reduceLT, Nat.reduceLeDiff, Int.reduceEq, Int.reduceLT, Int.reduceLE, reduceIte, aresults, aresult, hp0, z5] at hx; (try (rw [guardL_if] at hx; split at hx <;> rename_i hc)))); all_goals (subst hx; refine ⟨_, rfl, ?_⟩)
    repeat' (first | ((first | refine wSeqr (fun xx hx => ?_) | refine wIf (fun xx hx => ?_) | refine wReg (fun xx hx => ?_) | (refine wRet ?_; (try simp only [thenQ, blockQ]); refine ends_by (fun xx hx => ?_))); have hc := trivial; (repeat' (simp only [hc, go_sem, Nat.reduceAdd, Nat.reduceMul, Nat.reduceSub, Nat.reduceEqDiff, Nat.reduceLT, Nat.reduceLeDiff, Int.reduceEq, Int.reduceLT, Int.reduceLE, reduceIte, aresults, aresult, hp0] at hx; (try (rw [guardL_if] at hx; split at hx <;> rename_i hc)))); all_goals (subst hx; first | (refine ⟨_, rfl, fun ht => ?_, fun ht => ?_⟩ <;> (try simp only [Bool.not_eq_true', Bool.not_eq_false', Bool.and_eq_true, Bool.and_eq_false_iff, Bool.or_eq_true, Bool.or_eq_false_iff, decide_eq_true_eq, decide_eq_false_iff_not, beq_iff_eq, bne_iff_ne, Bool.not_true, Bool.not_false, Bool.true_eq_false, Bool.false_eq_true, ne_eq, Decidable.not_not, inB_t, inB_f] at ht)) | (refine ⟨_, rfl, ?_⟩; (try simp only [tupOf])))) | refine wSkip ?_ | (refine wExit ?_; simp only [thenQ, blockQ, reduceIte, Nat.reduceEqDiff]) | refine wSeq ?_ | refine wBlock ?_)
    all_goals exact ⟨rfl, rfl⟩
  · have e0 : claimFault k = 3 := by unfold claimFault; rw [if_neg hk]
    have e1 : ctT k = ⟨#[]⟩ := by unfold ctT; rw [if_neg hk]
    have e2 : ctC k = 3 := e0
    repeat' (first | ((first | refine wSeqr (fun xx hx => ?_) | refine wIf (fun xx hx => ?_) | refine wReg (fun xx hx => ?_) | (refine wRet ?_; (try simp only [thenQ, blockQ]); refine ends_by (fun xx hx => ?_))); have hc := trivial; (repeat' (simp only [hc, go_sem, Nat.reduceAdd, Nat.reduceMul, Nat.reduceSub, Nat.reduceEqDiff, Nat.reduceLT, Nat.reduceLeDiff, Int.reduceEq, Int.reduceLT, Int.reduceLE, reduceIte, aresults, aresult, hp0, c_iClaimFault, e0] at hx; (try (rw [guardL_if] at hx; split at hx <;> rename_i hc)))); all_goals (subst hx; first | (refine ⟨_, rfl, fun ht => ?_, fun ht => ?_⟩ <;> (try simp only [Bool.not_eq_true', Bool.not_eq_false', Bool.and_eq_true, Bool.and_eq_false_iff, Bool.or_eq_true, Bool.or_eq_false_iff, decide_eq_true_eq, decide_eq_false_iff_not, beq_iff_eq, bne_iff_ne, Bool.not_true, Bool.not_false, Bool.true_eq_false, Bool.false_eq_true, ne_eq, Decidable.not_not, inB_t, inB_f] at ht)) | (refine ⟨_, rfl, ?_⟩; (try simp only [tupOf])))) | refine wSkip ?_ | (refine wExit ?_; simp only [thenQ, blockQ, reduceIte, Nat.reduceEqDiff]) | refine wSeq ?_ | refine wBlock ?_)
    all_goals first
      | (exfalso; exact absurd trivial (by assumption))
      | (refine ⟨?_, rfl⟩; rw [e1, e2]; rfl)
theorem c_iClaimText (k : ClaimM) : ∀ H, call Tryd.prog cfg0 0 11 [.agg [.v (.int .i64 k.Node), .v (.int .i64 k.Inc), .v (.int .i64 k.Status), .v (.int .i64 k.Meta)]] H = some (.agg [.v (.int .i64 (ctC k)), .v (.string (ctT k))], H) :=
  call_fz Tryd.func11 rfl ok_iClaimText rfl (by simp only [fz_cons, fz_nil, go_sem, and_self]) (p_iClaimText k)

theorem str_eq (a b : ByteArray) : (a.toList == b.toList) = decide (a.data.toList = b.data.toList) := by
  have e : ∀ s : ByteArray, s.toList = s.data.toList := fun s => by simp [ByteArray.toList_eq]
  rw [e, e]
  apply bool_eq
  simp only [beq_iff_eq, decide_eq_true_eq]
theorem fz_is (a : Int) (b : ByteArray) : Fz depthD (.agg [.v (.int .i64 a), .v (.string b)]) := Fz.agg (n := 11) (by
  intro x hx; simp at hx; rcases hx with rfl | rfl
  · exact Fz.int _ _ _
  · exact Fz.string _ _)
theorem ok_leqTextResult : fnOk Tryd.prog cfg0 12 Tryd.f12 = true := by kernel_rfl
theorem p_leqTextResult (a : Int) (b : ByteArray) (c : Int) (d : ByteArray) : pure Tryd.prog cfg0 12 Tryd.f12 [.agg [.v (.int .i64 a), .v (.string b)], .agg [.v (.int .i64 c), .v (.string d)]] = some (.v (.bool (decide (a = c) && decide (b.data.toList = d.data.toList))), true) := by
  refine pure_wp (rs := [.tmp 4]) rfl rfl ?_
  have hp0 : ∀ b, cfg0.pol 12 b = 0 := fun b => rfl
  repeat' (first | ((first | refine wSeqr (fun xx hx => ?_) | refine wIf (fun xx hx => ?_) | refine wReg (fun xx hx => ?_) | (refine wRet ?_; (try simp only [thenQ, blockQ]); refine ends_by (fun xx hx => ?_))); have hc := trivial; (repeat' (simp only [hc, go_sem, Nat.reduceAdd, Nat.reduceMul, Nat.reduceSub, Nat.reduceEqDiff, Nat.reduceLT, Nat.reduceLeDiff, Int.reduceEq, Int.reduceLT, Int.reduceLE, reduceIte, aresults, aresult, hp0, str_eq] at hx; (try (rw [guardL_if] at hx; split at hx <;> rename_i hc)))); all_goals (subst hx; first | (refine ⟨_, rfl, fun ht => ?_, fun ht => ?_⟩ <;> (try simp only [Bool.not_eq_true', Bool.not_eq_false', Bool.and_eq_true, Bool.and_eq_false_iff, Bool.or_eq_true, Bool.or_eq_false_iff, decide_eq_true_eq, decide_eq_false_iff_not, beq_iff_eq, bne_iff_ne, Bool.not_true, Bool.not_false, Bool.true_eq_false, Bool.false_eq_true, ne_eq, Decidable.not_not, inB_t, inB_f] at ht)) | (refine ⟨_, rfl, ?_⟩; (try simp only [tupOf])))) | refine wSkip ?_ | (refine wExit ?_; simp only [thenQ, blockQ, reduceIte, Nat.reduceEqDiff]) | refine wSeq ?_ | refine wBlock ?_)
  all_goals (refine gives_boolv ?_; simp_all)
theorem c_leqTextResult (a : Int) (b : ByteArray) (c : Int) (d : ByteArray) : ∀ H, call Tryd.prog cfg0 0 12 [.agg [.v (.int .i64 a), .v (.string b)], .agg [.v (.int .i64 c), .v (.string d)]] H = some (.v (.bool (decide (a = c) && decide (b.data.toList = d.data.toList))), H) :=
  call_fz Tryd.func12 rfl ok_leqTextResult rfl (by simp only [fz_cons, fz_nil, go_sem, fz_is, and_self]) (p_leqTextResult a b c d)

end
end Go.Proofs.YtmncdkecpnoogaaDoor
