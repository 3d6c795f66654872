/- Contracts: NumberOf, both sides. -/
import Derived.Test.YtmncdkecpnoogaaDoorD2
import Derived.Lib.ParseIntBTie
namespace Go.Proofs.YtmncdkecpnoogaaDoor
open Go Go.RowKit Go.Proofs.YtmncdkecpnoogaaDoor.Eng
set_option linter.unusedSimpArgs false
set_option linter.unusedVariables false
set_option maxRecDepth 100000
noncomputable section
theorem str_eq (a b : ByteArray) : (a.toList == b.toList) = decide (a.data.toList = b.data.toList) := by
  have e : ∀ s : ByteArray, s.toList = s.data.toList := fun s => by simp [ByteArray.toList_eq]
  rw [e, e]
  apply bool_eq
  simp only [beq_iff_eq, decide_eq_true_eq]
def textOf (n : Int) : ByteArray := ⟨(Lib.itoa n).toArray⟩
theorem textOf_list (n : Int) : (textOf n).data.toList = Lib.itoa n := rfl
theorem ok_idigits : fnOk Tryd.prog cfg0 42 Tryd.f42 = true := by kernel_rfl
theorem p_idigits (n : Int) (hn : i64B n) : pure Tryd.prog cfg0 42 Tryd.f42 [.v (.int .i64 n)] = some (.v (.string (textOf n)), true) := by
  refine pure_wp (rs := [.tmp 2]) rfl rfl ?_
  have hp0 : ∀ b, cfg0.pol 42 b = 0 := fun b => rfl
  repeat' (first | ((first | refine wSeqr (fun xx hx => ?_) | refine wIf (fun xx hx => ?_) | refine wReg (fun xx hx => ?_) | (refine wRet ?_; (try simp only [thenQ, blockQ]); refine ends_by (fun xx hx => ?_))); have hc := trivial; (repeat' (simp only [hc, go_sem, Nat.reduceAdd, Nat.reduceMul, Nat.reduceSub, Nat.reduceEqDiff, Nat.reduceLT, Nat.reduceLeDiff, Int.reduceEq, Int.reduceLT, Int.reduceLE, reduceIte, aresults, aresult, hp0, c_FormatInt n hn] at hx; (try (rw [guardL_if] at hx; split at hx <;> rename_i hc)))); all_goals (subst hx; first | (refine ⟨_, rfl, fun ht => ?_, fun ht => ?_⟩ <;> (try simp only [Bool.not_eq_true', Bool.not_eq_false', Bool.and_eq_true, Bool.and_eq_false_iff, Bool.or_eq_true, Bool.or_eq_false_iff, decide_eq_true_eq, decide_eq_false_iff_not, beq_iff_eq, bne_iff_ne, Bool.not_true, Bool.not_false, Bool.true_eq_false, Bool.false_eq_true, ne_eq, Decidable.not_not, inB_t, inB_f] at ht)) | (refine ⟨_, rfl, ?_⟩; (try simp only [tupOf])))) | refine wSkip ?_ | (refine wExit ?_; simp only [thenQ, blockQ, reduceIte, Nat.reduceEqDiff]) | refine wSeq ?_ | refine wBlock ?_)
  all_goals exact ⟨rfl, rfl⟩
theorem c_idigits (n : Int) (hn : i64B n) : ∀ H, call Tryd.prog cfg0 0 42 [.v (.int .i64 n)] H = some (.v (.string (textOf n)), H) :=
  call_fz Tryd.func42 rfl ok_idigits rfl (by simp only [fz_cons, fz_nil, go_sem, and_self]) (p_idigits n hn)

theorem ok_inoInt : fnOk Tryd.prog cfg0 51 Tryd.f51 = true := by kernel_rfl
theorem p_inoInt (n : Int) : pure Tryd.prog cfg0 51 Tryd.f51 [.v (.int .i64 n)] = some (.agg [.v (.int .i64 n), .v (.int .i64 0)], true) := by
  refine pure_wp (rs := [.cell 2 39]) rfl rfl ?_
  have hp0 : ∀ b, cfg0.pol 51 b = 0 := fun b => rfl
  repeat' (first | ((first | refine wSeqr (fun xx hx => ?_) | refine wIf (fun xx hx => ?_) | refine wReg (fun xx hx => ?_) | (refine wRet ?_; (try simp only [thenQ, blockQ]); refine ends_by (fun xx hx => ?_))); have hc := trivial; (repeat' (simp only [hc, go_sem, Nat.reduceAdd, Nat.reduceMul, Nat.reduceSub, Nat.reduceEqDiff, Nat.reduceLT, Nat.reduceLeDiff, Int.reduceEq, Int.reduceLT, Int.reduceLE, reduceIte, aresults, aresult, hp0] at hx; (try (rw [guardL_if] at hx; split at hx <;> rename_i hc)))); all_goals (subst hx; first | (refine ⟨_, rfl, fun ht => ?_, fun ht => ?_⟩ <;> (try simp only [Bool.not_eq_true', Bool.not_eq_false', Bool.and_eq_true, Bool.and_eq_false_iff, Bool.or_eq_true, Bool.or_eq_false_iff, decide_eq_true_eq, decide_eq_false_iff_not, beq_iff_eq, bne_iff_ne, Bool.not_true, Bool.not_false, Bool.true_eq_false, Bool.false_eq_true, ne_eq, Decidable.not_not, inB_t, inB_f] at ht)) | (refine ⟨_, rfl, ?_⟩; (try simp only [tupOf])))) | refine wSkip ?_ | (refine wExit ?_; simp only [thenQ, blockQ, reduceIte, Nat.reduceEqDiff]) | refine wSeq ?_ | refine wBlock ?_)
  all_goals exact ⟨rfl, rfl⟩
theorem c_inoInt (n : Int) : ∀ H, call Tryd.prog cfg0 0 51 [.v (.int .i64 n)] H = some (.agg [.v (.int .i64 n), .v (.int .i64 0)], H) :=
  call_fz Tryd.func51 rfl ok_inoInt rfl (by simp only [fz_cons, fz_nil, go_sem, and_self]) (p_inoInt n)

def numC (N : Nat) (k : Int) (l : List UInt8) : Int := if numOf N l < 0 then k else 0
def numV (N : Nat) (l : List UInt8) : Int := if numOf N l < 0 then 0 else numOf N l
theorem num_no {N : Nat} {k : Int} {l : List UInt8} (h : ¬ (canon l = true ∧ l.length ≤ N)) : numC N k l = k ∧ numV N l = 0 := by
  have : numOf N l = -1 := by unfold numOf; rw [if_neg h]
  unfold numC numV
  rw [this]; exact ⟨rfl, rfl⟩
theorem num_yes {N : Nat} {k : Int} {l : List UInt8} (h : canon l = true ∧ l.length ≤ N) : numC N k l = 0 ∧ numV N l = (vdA 0 l : Nat) := by
  have : numOf N l = (vdA 0 l : Nat) := by unfold numOf; rw [if_pos h]
  unfold numC numV
  rw [this, if_neg (by omega), if_neg (by omega)]; exact ⟨rfl, rfl⟩
theorem ok_sNumberOf : fnOk Tryd.prog cfg0 18 Tryd.f18 = true := by kernel_rfl
theorem p_sNumberOf (z : ByteArray) : pure Tryd.prog cfg0 18 Tryd.f18 [.v (.string z)] = some (.agg [.v (.int .i64 (numC 7 5 z.data.toList)), .v (.int .i64 (numV 7 z.data.toList))], true) := by
  refine pure_wp (rs := [.cell 2 39]) rfl rfl ?_
  have hp0 : ∀ b, cfg0.pol 18 b = 0 := fun b => rfl
  repeat' (first | ((first | refine wSeqr (fun xx hx => ?_) | refine wIf (fun xx hx => ?_) | refine wReg (fun xx hx => ?_) | (refine wRet ?_; (try simp only [thenQ, blockQ]); refine ends_by (fun xx hx => ?_))); have hc := trivial; (repeat' (simp only [hc, go_sem, Nat.reduceAdd, Nat.reduceMul, Nat.reduceSub, Nat.reduceEqDiff, Nat.reduceLT, Nat.reduceLeDiff, Int.reduceEq, Int.reduceLT, Int.reduceLE, reduceIte, aresults, aresult, hp0, c_sl14Number] at hx; (try (rw [guardL_if] at hx; split at hx <;> rename_i hc)))); all_goals (subst hx; first | (refine ⟨_, rfl, fun ht => ?_, fun ht => ?_⟩ <;> (try simp only [Bool.not_eq_true', Bool.not_eq_false', Bool.and_eq_true, Bool.and_eq_false_iff, Bool.or_eq_true, Bool.or_eq_false_iff, decide_eq_true_eq, decide_eq_false_iff_not, beq_iff_eq, bne_iff_ne, Bool.not_true, Bool.not_false, Bool.true_eq_false, Bool.false_eq_true, ne_eq, Decidable.not_not, inB_t, inB_f] at ht)) | (refine ⟨_, rfl, ?_⟩; (try simp only [tupOf])))) | refine wSkip ?_ | (refine wExit ?_; simp only [thenQ, blockQ, reduceIte, Nat.reduceEqDiff]) | refine wSeq ?_ | refine wBlock ?_)
  all_goals (refine ⟨?_, rfl⟩; unfold numC numV)
  · rw [if_pos (by assumption), if_pos (by assumption)]; rfl
  · rw [if_neg (by assumption), if_neg (by assumption)]; rfl
theorem c_sNumberOf (z : ByteArray) : ∀ H, call Tryd.prog cfg0 0 18 [.v (.string z)] H = some (.agg [.v (.int .i64 (numC 7 5 z.data.toList)), .v (.int .i64 (numV 7 z.data.toList))], H) :=
  call_fz Tryd.func18 rfl ok_sNumberOf rfl (by simp only [fz_cons, fz_nil, go_sem, and_self]) (p_sNumberOf z)

theorem num_end {z : ByteArray} {n : Int} {k : Int} (h0 : ¬ n < 0) (h7 : ¬ 7 < (z.size : Int)) (h : (textOf n).data.toList = z.data.toList) : numC 7 k z.data.toList = 0 ∧ numV 7 z.data.toList = n := by
  rw [textOf_list] at h
  obtain ⟨h1, h2⟩ := num_back (by omega) h
  obtain ⟨h3, h4⟩ := num_yes (N := 7) (k := k) ⟨h1, by rw [← size_toList]; omega⟩
  exact ⟨h3, h4.trans h2⟩
theorem num_ne {z : ByteArray} {n : Int} {k : Int} (hp : Lib.parseIntB 64 z.data.toList = .ok n) (h : ¬ (textOf n).data.toList = z.data.toList) : numC 7 k z.data.toList = k ∧ numV 7 z.data.toList = 0 := by
  refine num_no ?_
  rintro ⟨h1, h2⟩
  rw [parseB_dg h1 (by omega)] at hp
  simp only [Lib.NumEnd.ok.injEq] at hp
  refine h ?_
  rw [textOf_list, ← hp, itoa_nat]
  exact dec_of_canon _ _ rfl h1
theorem ok_iNumberOf : fnOk Tryd.prog cfg0 19 Tryd.f19 = true := by kernel_rfl
theorem p_iNumberOf (z : ByteArray) (hz : z.size ≤ 1048576) : pure Tryd.prog cfg0 19 Tryd.f19 [.v (.string z)] = some (.agg [.v (.int .i64 (numC 7 5 z.data.toList)), .v (.int .i64 (numV 7 z.data.toList))], true) := by
  refine pure_wp (rs := [.cell 2 39]) rfl rfl ?_
  have hp0 : ∀ b, cfg0.pol 19 b = 0 := fun b => rfl
  have hcp := c_ParseInt z (by omega)
  rcases numEnd_cases (Lib.parseIntB 64 z.data.toList) with ⟨n, hp⟩ | hp | hp
  · skip
    have hb := Lib.parseIntB_bounds hp
    have hn : i64B n := by unfold i64B; simp only [Nat.reduceSub, Nat.reducePow] at hb; omega
    have h0n : n < 0 → numC 7 5 z.data.toList = 5 ∧ numV 7 z.data.toList = 0 := by
      intro h
      refine num_no ?_
      rintro ⟨h1, h2⟩
      rw [parseB_dg h1 (by omega)] at hp
      simp only [Lib.NumEnd.ok.injEq] at hp
      omega
    have h7n : 7 < (z.size : Int) → numC 7 5 z.data.toList = 5 ∧ numV 7 z.data.toList = 0 := by
      intro h
      refine num_no ?_
      rintro ⟨h1, h2⟩
      rw [← size_toList] at h2; omega
    repeat' (first | ((first | refine wSeqr (fun xx hx => ?_) | refine wIf (fun xx hx => ?_) | refine wReg (fun xx hx => ?_) | (refine wRet ?_; (try simp only [thenQ, blockQ]); refine ends_by (fun xx hx => ?_))); have hc := trivial; (repeat' (simp only [hc, go_sem, Nat.reduceAdd, Nat.reduceMul, Nat.reduceSub, Nat.reduceEqDiff, Nat.reduceLT, Nat.reduceLeDiff, Int.reduceEq, Int.reduceLT, Int.reduceLE, reduceIte, aresults, aresult, hp0, hcp, hp, endT, c_idigits n hn, c_inoInt, str_eq] at hx; (try (rw [guardL_if] at hx; split at hx <;> rename_i hc)))); all_goals (subst hx; first | (refine ⟨_, rfl, fun ht => ?_, fun ht => ?_⟩ <;> (try simp only [Bool.not_eq_true', Bool.not_eq_false', Bool.and_eq_true, Bool.and_eq_false_iff, Bool.or_eq_true, Bool.or_eq_false_iff, decide_eq_true_eq, decide_eq_false_iff_not, beq_iff_eq, bne_iff_ne, Bool.not_true, Bool.not_false, Bool.true_eq_false, Bool.false_eq_true, ne_eq, Decidable.not_not, inB_t, inB_f] at ht)) | (refine ⟨_, rfl, ?_⟩; (try simp only [tupOf])))) | refine wSkip ?_ | (refine wExit ?_; simp only [thenQ, blockQ, reduceIte, Nat.reduceEqDiff]) | refine wSeq ?_ | refine wBlock ?_)
    all_goals (refine ⟨?_, rfl⟩)
    all_goals (try simp only [Bool.not_eq_true', Bool.not_eq_false', Bool.and_eq_true, Bool.and_eq_false_iff, Bool.or_eq_true, Bool.or_eq_false_iff, decide_eq_true_eq, decide_eq_false_iff_not, beq_iff_eq, bne_iff_ne, Bool.not_true, Bool.not_false, Bool.true_eq_false, Bool.false_eq_true, ne_eq, Decidable.not_not, inB_t, inB_f] at *)
    all_goals first
      | (have e := h0n (by assumption); rw [e.1, e.2]; rfl)
      | (have e := h7n (by assumption); rw [e.1, e.2]; rfl)
      | (have e := num_ne (k := 5) hp (by assumption); rw [e.1, e.2]; rfl)
      | (have e := num_end (k := 5) (by assumption) (by assumption) (by assumption); rw [e.1, e.2]; rfl)
  · skip
    have e : numC 7 5 z.data.toList = 5 ∧ numV 7 z.data.toList = 0 := by
      refine num_no ?_
      rintro ⟨h1, h2⟩
      rw [parseB_dg h1 (by omega)] at hp
      cases hp
    repeat' (first | ((first | refine wSeqr (fun xx hx => ?_) | refine wIf (fun xx hx => ?_) | refine wReg (fun xx hx => ?_) | (refine wRet ?_; (try simp only [thenQ, blockQ]); refine ends_by (fun xx hx => ?_))); have hc := trivial; (repeat' (simp only [hc, go_sem, Nat.reduceAdd, Nat.reduceMul, Nat.reduceSub, Nat.reduceEqDiff, Nat.reduceLT, Nat.reduceLeDiff, Int.reduceEq, Int.reduceLT, Int.reduceLE, reduceIte, aresults, aresult, hp0, hcp, hp, endT, c_inoInt] at hx; (try (rw [guardL_if] at hx; split at hx <;> rename_i hc)))); all_goals (subst hx; first | (refine ⟨_, rfl, fun ht => ?_, fun ht => ?_⟩ <;> (try simp only [Bool.not_eq_true', Bool.not_eq_false', Bool.and_eq_true, Bool.and_eq_false_iff, Bool.or_eq_true, Bool.or_eq_false_iff, decide_eq_true_eq, decide_eq_false_iff_not, beq_iff_eq, bne_iff_ne, Bool.not_true, Bool.not_false, Bool.true_eq_false, Bool.false_eq_true, ne_eq, Decidable.not_not, inB_t, inB_f] at ht)) | (refine ⟨_, rfl, ?_⟩; (try simp only [tupOf])))) | refine wSkip ?_ | (refine wExit ?_; simp only [thenQ, blockQ, reduceIte, Nat.reduceEqDiff]) | refine wSeq ?_ | refine wBlock ?_)
    all_goals (refine ⟨?_, rfl⟩; rw [e.1, e.2]; rfl)
  · skip
    have e : numC 7 5 z.data.toList = 5 ∧ numV 7 z.data.toList = 0 := by
      refine num_no ?_
      rintro ⟨h1, h2⟩
      rw [parseB_dg h1 (by omega)] at hp
      cases hp
    repeat' (first | ((first | refine wSeqr (fun xx hx => ?_) | refine wIf (fun xx hx => ?_) | refine wReg (fun xx hx => ?_) | (refine wRet ?_; (try simp only [thenQ, blockQ]); refine ends_by (fun xx hx => ?_))); have hc := trivial; (repeat' (simp only [hc, go_sem, Nat.reduceAdd, Nat.reduceMul, Nat.reduceSub, Nat.reduceEqDiff, Nat.reduceLT, Nat.reduceLeDiff, Int.reduceEq, Int.reduceLT, Int.reduceLE, reduceIte, aresults, aresult, hp0, hcp, hp, endT, c_inoInt] at hx; (try (rw [guardL_if] at hx; split at hx <;> rename_i hc)))); all_goals (subst hx; first | (refine ⟨_, rfl, fun ht => ?_, fun ht => ?_⟩ <;> (try simp only [Bool.not_eq_true', Bool.not_eq_false', Bool.and_eq_true, Bool.and_eq_false_iff, Bool.or_eq_true, Bool.or_eq_false_iff, decide_eq_true_eq, decide_eq_false_iff_not, beq_iff_eq, bne_iff_ne, Bool.not_true, Bool.not_false, Bool.true_eq_false, Bool.false_eq_true, ne_eq, Decidable.not_not, inB_t, inB_f] at ht)) | (refine ⟨_, rfl, ?_⟩; (try simp only [tupOf])))) | refine wSkip ?_ | (refine wExit ?_; simp only [thenQ, blockQ, reduceIte, Nat.reduceEqDiff]) | refine wSeq ?_ | refine wBlock ?_)
    all_goals (refine ⟨?_, rfl⟩; rw [e.1, e.2]; rfl)
theorem c_iNumberOf (z : ByteArray) (hz : z.size ≤ 1048576) : ∀ H, call Tryd.prog cfg0 0 19 [.v (.string z)] H = some (.agg [.v (.int .i64 (numC 7 5 z.data.toList)), .v (.int .i64 (numV 7 z.data.toList))], H) :=
  call_fz Tryd.func19 rfl ok_iNumberOf rfl (by simp only [fz_cons, fz_nil, go_sem, and_self]) (p_iNumberOf z hz)

end
end Go.Proofs.YtmncdkecpnoogaaDoor
