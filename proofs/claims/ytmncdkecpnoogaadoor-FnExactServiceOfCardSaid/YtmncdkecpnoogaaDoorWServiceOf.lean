/- The law FnExactServiceOf in the engine. -/
import Derived.Test.YtmncdkecpnoogaaDoorD7
namespace Go.Proofs.YtmncdkecpnoogaaDoor.fnExactServiceOf
open Go Go.RowKit Go.Proofs.YtmncdkecpnoogaaDoor.Eng
set_option linter.unusedSimpArgs false
set_option linter.unusedVariables false
set_option maxRecDepth 100000
noncomputable section
theorem ok_law : fnOk Tryd.prog cfg0 6 Tryd.f6 = true := by kernel_rfl
theorem p_law (a0 : List ByteArray) (h0 : a0.length ≤ 140737488351232 ∧ ∀ z ∈ a0, z.size ≤ 140737488351232) : pure Tryd.prog cfg0 6 Tryd.f6 [textsL a0] = some (.v (.bool true), true) := by
  refine pure_wp (rs := [.tmp 2]) rfl rfl ?_
  have hp0 : ∀ b, cfg0.pol 6 b = 0 := fun b => rfl
  obtain ⟨m0, p0, q0, b0, hc0⟩ := s_lszStringS a0 1048576 h0 ⟨by omega, by omega⟩
  by_cases o0 : m0 < 0
  · repeat' (first | ((first | refine wSeqr (fun xx hx => ?_) | refine wIf (fun xx hx => ?_) | refine wReg (fun xx hx => ?_) | (refine wRet ?_; (try simp only [thenQ, blockQ]); refine ends_by (fun xx hx => ?_))); have hc := trivial; (repeat' (simp only [hc, go_sem, Nat.reduceAdd, Nat.reduceMul, Nat.reduceSub, Nat.reduceEqDiff, Nat.reduceLT, Nat.reduceLeDiff, Int.reduceEq, Int.reduceLT, Int.reduceLE, reduceIte, aresults, aresult, hp0, hc0, o0] at hx; (try (rw [guardL_if] at hx; split at hx <;> rename_i hc)))); all_goals (subst hx; first | (refine ⟨_, rfl, fun ht => ?_, fun ht => ?_⟩ <;> (try simp only [Bool.not_eq_true', Bool.not_eq_false', Bool.and_eq_true, Bool.and_eq_false_iff, Bool.or_eq_true, Bool.or_eq_false_iff, decide_eq_true_eq, decide_eq_false_iff_not, beq_iff_eq, bne_iff_ne, Bool.not_true, Bool.not_false, Bool.true_eq_false, Bool.false_eq_true, ne_eq, Decidable.not_not, inB_t, inB_f] at ht)) | (refine ⟨_, rfl, ?_⟩; (try simp only [tupOf])))) | refine wSkip ?_ | (refine wExit ?_; simp only [thenQ, blockQ, reduceIte, Nat.reduceEqDiff]) | refine wSeq ?_ | refine wBlock ?_)
    all_goals exact ⟨rfl, rfl⟩
  obtain ⟨o1, o2⟩ := b0 (by omega)
  repeat' (first | ((first | refine wSeqr (fun xx hx => ?_) | refine wIf (fun xx hx => ?_) | refine wReg (fun xx hx => ?_) | (refine wRet ?_; (try simp only [thenQ, blockQ]); refine ends_by (fun xx hx => ?_))); have hc := trivial; (repeat' (simp only [hc, go_sem, Nat.reduceAdd, Nat.reduceMul, Nat.reduceSub, Nat.reduceEqDiff, Nat.reduceLT, Nat.reduceLeDiff, Int.reduceEq, Int.reduceLT, Int.reduceLE, reduceIte, aresults, aresult, hp0, hc0, o0, c_ltoStringS a0 o1, c_leqStringS a0 a0 o1, c_sServiceOf a0, c_iServiceOf a0 o2, c_leqIntResult, decide_true, Bool.and_self, Bool.not_true] at hx; (try (rw [guardL_if] at hx; split at hx <;> rename_i hc)))); all_goals (subst hx; first | (refine ⟨_, rfl, fun ht => ?_, fun ht => ?_⟩ <;> (try simp only [Bool.not_eq_true', Bool.not_eq_false', Bool.and_eq_true, Bool.and_eq_false_iff, Bool.or_eq_true, Bool.or_eq_false_iff, decide_eq_true_eq, decide_eq_false_iff_not, beq_iff_eq, bne_iff_ne, Bool.not_true, Bool.not_false, Bool.true_eq_false, Bool.false_eq_true, ne_eq, Decidable.not_not, inB_t, inB_f] at ht)) | (refine ⟨_, rfl, ?_⟩; (try simp only [tupOf])))) | refine wSkip ?_ | (refine wExit ?_; simp only [thenQ, blockQ, reduceIte, Nat.reduceEqDiff]) | refine wSeq ?_ | refine wBlock ?_)
  all_goals exact ⟨rfl, rfl⟩
theorem c_law (a0 : List ByteArray) (h0 : a0.length ≤ 140737488351232 ∧ ∀ z ∈ a0, z.size ≤ 140737488351232) : ∀ H, call Tryd.prog cfg0 0 6 [textsL a0] H = some (.v (.bool true), H) :=
  call_fz Tryd.func6 rfl ok_law rfl (by simp only [fz_cons, fz_nil, go_sem, and_self]) (p_law a0 h0)

theorem law (xs : List AV) (h : ArgsC Tryd.prog reach 2 [31] xs) : pure Tryd.prog cfg0 6 Tryd.f6 xs = some (.v (.bool true), true) := by
  obtain ⟨x0, r0, rfl, h0, rfl⟩ := h
  unfold ArgC at h0
  rw [agg31] at h0
  obtain ⟨y0, e0, w0, q0, hq0, s0⟩ := shC_rows u31 h0
  obtain rfl : q0 = 1 := by omega
  simp only [List.cons.injEq, and_true] at e0
  subst e0
  have key : ∃ l : List ByteArray, y0 = (l.map fun s => [AV.v (.string s)]) ∧ ∀ z ∈ l, z.size ≤ 140737488351232 := by
    clear w0 h0
    induction y0 with
    | nil => exact ⟨[], rfl, by simp⟩
    | cons c y ih =>
      obtain ⟨l, rfl, hl⟩ := ih (fun c hc => s0 c (by simp [hc]))
      obtain ⟨a, rfl, ha⟩ := (shC_string u9).1 (s0 c (by simp))
      exact ⟨a :: l, rfl, fun z hz => by
        rcases List.mem_cons.1 hz with rfl | hz
        · simp only [reach, Nat.mul_one] at ha; exact ha
        · exact hl z hz⟩
  obtain ⟨l, rfl, hl⟩ := key
  exact p_law l ⟨by simp only [reach, byn9, List.length_map] at w0; omega, hl⟩
end
end Go.Proofs.YtmncdkecpnoogaaDoor.fnExactServiceOf
