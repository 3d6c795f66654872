/- The law FnExactReadHex in the engine. -/
import Derived.Test.YtmncdkecpnoogaaDoorH5
namespace Go.Proofs.YtmncdkecpnoogaaDoor.fnExactReadHex
open Go Go.RowKit Go.Proofs.YtmncdkecpnoogaaDoor.Eng
set_option linter.unusedSimpArgs false
set_option linter.unusedVariables false
set_option maxRecDepth 100000
set_option maxHeartbeats 2000000
noncomputable section
theorem hexRd_len : ∀ (n : Nat) (w : List UInt8), w.length ≤ n → ∀ l, hexRd w = some l → l.length ≤ w.length := by
  intro n
  induction n with
  | zero => intro w h l hl; obtain rfl : w = [] := List.length_eq_zero_iff.1 (by omega); simp [hexRd] at hl; subst hl; simp
  | succ n ih =>
    intro w h l hl
    match w, h, hl with
    | [], _, hl => simp [hexRd] at hl; subst hl; simp
    | [a], _, hl => simp [hexRd] at hl
    | a :: b :: r, h, hl =>
      simp only [hexRd] at hl
      split at hl
      · obtain ⟨t, ht, rfl⟩ := Option.map_eq_some_iff.1 hl
        have := ih r (by simp only [List.length_cons] at h; omega) t ht
        simp only [List.length_cons]; omega
      · simp at hl
theorem rxB_len (w : List UInt8) : (rxB w).length ≤ 1600 := by
  unfold rxB
  split
  · simp
  · split
    · rename_i l hl
      have := hexRd_len _ w (Nat.le_refl _) l hl
      omega
    · simp
theorem mat_res (c : Int) (l : List Int) (hne : l ≠ []) (H : Hp) : mat depthD (.agg [.v (.int .i64 c), bytesL l]) H = some (.agg [.v (.int .i64 c), .sl H.g 1 0 l.length], H.new (l.map cell)) := mat_two (d := 10) (mat_bytes 9 l hne H)
theorem ok_law : fnOk Tryd.prog cfg0 8 Tryd.f8 = true := by kernel_rfl
theorem p_law (a0 : ByteArray) (h0 : a0.size ≤ 140737488351232) : pure Tryd.prog cfg0 8 Tryd.f8 [.v (.string a0)] = some (.v (.bool true), true) := by
  refine pure_wp (rs := [.tmp 2]) rfl rfl ?_
  have hp0 : ∀ b, cfg0.pol 8 b = (if b = 14 then 1 else 0) := fun b => rfl
  by_cases o0 : 1048576 < (a0.size : Int)
  · repeat' (first | ((first | refine wSeqr (fun xx hx => ?_) | refine wIf (fun xx hx => ?_) | refine wReg (fun xx hx => ?_) | (refine wRet ?_; (try simp only [thenQ, blockQ]); refine ends_by (fun xx hx => ?_))); have hc := trivial; (repeat' (simp only [hc, go_sem, Nat.reduceAdd, Nat.reduceMul, Nat.reduceSub, Nat.reduceEqDiff, Nat.reduceLT, Nat.reduceLeDiff, Int.reduceEq, Int.reduceLT, Int.reduceLE, reduceIte, aresults, aresult, hp0, o0] at hx; (try (rw [guardL_if] at hx; split at hx <;> rename_i hc)))); all_goals (subst hx; first | (refine ⟨_, rfl, fun ht => ?_, fun ht => ?_⟩ <;> (try simp only [Bool.not_eq_true', Bool.not_eq_false', Bool.and_eq_true, Bool.and_eq_false_iff, Bool.or_eq_true, Bool.or_eq_false_iff, decide_eq_true_eq, decide_eq_false_iff_not, beq_iff_eq, bne_iff_ne, Bool.not_true, Bool.not_false, Bool.true_eq_false, Bool.false_eq_true, ne_eq, Decidable.not_not, inB_t, inB_f] at ht)) | (refine ⟨_, rfl, ?_⟩; (try simp only [tupOf])))) | refine wSkip ?_ | (refine wExit ?_; simp only [thenQ, blockQ, reduceIte, Nat.reduceEqDiff]) | refine wSeq ?_ | refine wBlock ?_)
    all_goals exact ⟨rfl, rfl⟩
  have hs := c_sReadHex a0 (by omega)
  have hi := c_iReadHex a0 (by omega)
  have ho := o_iReadHex a0 (by omega)
  have hlen := rxB_len a0.data.toList
  generalize rxC a0.data.toList = c at *
  generalize rxB a0.data.toList = l at *
  by_cases hne : l = []
  · subst hne
    have e0 : (AV.lst false [] : AV) = bytesL [] := rfl
    have hq1 := c_leqBytesResult c [] c [] (by simp)
    have hq2 := c_lheldBytesResult c 1 0 (by omega) (by omega)
    have hm : marksB 1 0 = [] := rfl
    rw [hm] at hq2
    have hq2' : ∀ H, call Tryd.prog cfg0 0 38 [.agg [.v (.int .i64 c), .lst false []], .v (.int .i64 1)] H = some (.v (.int .i64 1), H) := hq2
    have hq1' : ∀ H, call Tryd.prog cfg0 0 36 [.agg [.v (.int .i64 c), .lst false []], .agg [.v (.int .i64 c), .lst false []]] H = some (.v (.bool true), H) := fun H => by
      have := hq1 H
      simp only [decide_true, Bool.and_self] at this
      exact this
    have hs' : ∀ H, call Tryd.prog cfg0 0 34 [.v (.string a0)] H = some (.agg [.v (.int .i64 c), .lst false []], H) := hs
    have hi' : ∀ H, call Tryd.prog cfg0 0 35 [.v (.string a0)] H = some (.agg [.v (.int .i64 c), .lst false []], H) := hi
    have ho' : ∀ H, call Tryd.prog cfg0 1 35 [.v (.string a0)] H = some (.agg [.v (.int .i64 c), .lst false []], H) := ho
    repeat' (first | ((first | refine wSeqr (fun xx hx => ?_) | refine wIf (fun xx hx => ?_) | refine wReg (fun xx hx => ?_) | (refine wRet ?_; (try simp only [thenQ, blockQ]); refine ends_by (fun xx hx => ?_))); have hc := trivial; (repeat' (simp only [hc, go_sem, Nat.reduceAdd, Nat.reduceMul, Nat.reduceSub, Nat.reduceEqDiff, Nat.reduceLT, Nat.reduceLeDiff, Int.reduceEq, Int.reduceLT, Int.reduceLE, reduceIte, aresults, aresult, hp0, o0, Option.getD_some, hs', hi', ho', hq1', hq2', cr_markBR0] at hx; (try (rw [guardL_if] at hx; split at hx <;> rename_i hc)))); all_goals (subst hx; first | (refine ⟨_, rfl, fun ht => ?_, fun ht => ?_⟩ <;> (try simp only [Bool.not_eq_true', Bool.not_eq_false', Bool.and_eq_true, Bool.and_eq_false_iff, Bool.or_eq_true, Bool.or_eq_false_iff, decide_eq_true_eq, decide_eq_false_iff_not, beq_iff_eq, bne_iff_ne, Bool.not_true, Bool.not_false, Bool.true_eq_false, Bool.false_eq_true, ne_eq, Decidable.not_not, inB_t, inB_f] at ht)) | (refine ⟨_, rfl, ?_⟩; (try simp only [tupOf])))) | refine wSkip ?_ | (refine wExit ?_; simp only [thenQ, blockQ, reduceIte, Nat.reduceEqDiff]) | refine wSeq ?_ | refine wBlock ?_)
    all_goals try (exfalso; (try simp only [Bool.not_eq_true', Bool.not_eq_false', Bool.and_eq_true, Bool.and_eq_false_iff, Bool.or_eq_true, Bool.or_eq_false_iff, decide_eq_true_eq, decide_eq_false_iff_not, beq_iff_eq, bne_iff_ne, Bool.not_true, Bool.not_false, Bool.true_eq_false, Bool.false_eq_true, ne_eq, Decidable.not_not, inB_t, inB_f] at *); first | omega | exact absurd trivial (by assumption))
    all_goals exact ⟨rfl, rfl⟩
  · have ho' : ∀ H, call Tryd.prog cfg0 1 35 [.v (.string a0)] H = some (.agg [.v (.int .i64 c), .sl H.g 1 0 l.length], H.new (l.map cell)) := fun H => by rw [ho H, mat_res c l hne]
    have hl1 : l.length ≤ 1048576 := by omega
    have hk : (0 : Int) ≤ 1 ∧ (1 : Int) ≤ 4611686018427387904 := by omega
    have hn0 : ¬ (1 + (l.length : Int)) < 0 := by omega
    repeat' (first | ((first | refine wSeqr (fun xx hx => ?_) | refine wIf (fun xx hx => ?_) | refine wReg (fun xx hx => ?_) | (refine wRet ?_; (try simp only [thenQ, blockQ]); refine ends_by (fun xx hx => ?_))); have hc := trivial; (repeat' (simp only [hc, go_sem, Nat.reduceAdd, Nat.reduceMul, Nat.reduceSub, Nat.reduceEqDiff, Nat.reduceLT, Nat.reduceLeDiff, Int.reduceEq, Int.reduceLT, Int.reduceLE, reduceIte, aresults, aresult, hp0, o0, Option.getD_some, hs, hi, ho', cq_eqBR c l c l hl1, c_leqBytesResult c l c l hl1, decide_true, Bool.and_self, Bool.not_true, cr_markBR c 1 l (by omega) hk, cq_heldBR c 1 l.length (by omega) hk, hn0] at hx; (try (rw [guardL_if] at hx; split at hx <;> rename_i hc)))); all_goals (subst hx; first | (refine ⟨_, rfl, fun ht => ?_, fun ht => ?_⟩ <;> (try simp only [Bool.not_eq_true', Bool.not_eq_false', Bool.and_eq_true, Bool.and_eq_false_iff, Bool.or_eq_true, Bool.or_eq_false_iff, decide_eq_true_eq, decide_eq_false_iff_not, beq_iff_eq, bne_iff_ne, Bool.not_true, Bool.not_false, Bool.true_eq_false, Bool.false_eq_true, ne_eq, Decidable.not_not, inB_t, inB_f] at ht)) | (refine ⟨_, rfl, ?_⟩; (try simp only [tupOf])))) | refine wSkip ?_ | (refine wExit ?_; simp only [thenQ, blockQ, reduceIte, Nat.reduceEqDiff]) | refine wSeq ?_ | refine wBlock ?_)
    all_goals try (exfalso; (try simp only [Bool.not_eq_true', Bool.not_eq_false', Bool.and_eq_true, Bool.and_eq_false_iff, Bool.or_eq_true, Bool.or_eq_false_iff, decide_eq_true_eq, decide_eq_false_iff_not, beq_iff_eq, bne_iff_ne, Bool.not_true, Bool.not_false, Bool.true_eq_false, Bool.false_eq_true, ne_eq, Decidable.not_not, inB_t, inB_f] at *); first | omega | exact absurd trivial (by assumption))
    all_goals exact ⟨rfl, rfl⟩
theorem c_law (a0 : ByteArray) (h0 : a0.size ≤ 140737488351232) : ∀ H, call Tryd.prog cfg0 0 8 [.v (.string a0)] H = some (.v (.bool true), H) :=
  call_fz Tryd.func8 rfl ok_law rfl (by simp only [fz_cons, fz_nil, go_sem, and_self]) (p_law a0 h0)

theorem law (xs : List AV) (h : ArgsC Tryd.prog reach 1 [9] xs) : pure Tryd.prog cfg0 8 Tryd.f8 xs = some (.v (.bool true), true) := by
  obtain ⟨x0, r0, rfl, h0, rfl⟩ := h
  unfold ArgC at h0
  rw [agg9] at h0
  obtain ⟨a0, e0, k0⟩ := (shC_string u9).1 h0
  simp only [List.cons.injEq, and_true] at e0
  subst e0
  exact p_law a0 (by simp only [reach, Nat.mul_one] at k0; exact k0)
end
end Go.Proofs.YtmncdkecpnoogaaDoor.fnExactReadHex
