/- Contracts: lists of messages into bytes, both sides. -/
import Derived.Test.YtmpkcilehideiaaR8
namespace Go.Proofs.Ytmpkcilehideiaa
open Go Go.RowKit Go.Proofs.Ytmpkcilehideiaa.Eng
set_option linter.unusedSimpArgs false
set_option linter.unusedVariables false
set_option maxRecDepth 100000
set_option maxHeartbeats 4000000
noncomputable section
/-- The first fault of some messages. -/
def fstF : List MessageM → Int
  | [] => 0
  | m :: r => if msgFault m = 0 then fstF r else msgFault m
theorem fstF_none {xs : List MessageM} (h : ∀ m ∈ xs, msgFault m = 0) : fstF xs = 0 := by
  induction xs with
  | nil => rfl
  | cons m r ih => simp only [fstF, h m (by simp), if_true]; exact ih fun x hx => h x (by simp [hx])
theorem fstF_at {xs : List MessageM} {j : Nat} {m : MessageM} (h : ∀ m ∈ xs.take j, msgFault m = 0) (hg : xs[j]? = some m) (hm : ¬ msgFault m = 0) : fstF xs = msgFault m := by
  induction xs generalizing j with
  | nil => simp at hg
  | cons y r ih =>
    cases j with
    | zero => simp only [List.getElem?_cons_zero, Option.some.injEq] at hg; subst hg; simp only [fstF, if_neg hm]
    | succ j =>
      simp only [List.take_succ_cons, List.mem_cons, forall_eq_or_imp] at h
      simp only [fstF, h.1, if_true]
      exact ih h.2 (by simpa using hg)
theorem fstF_zero {xs : List MessageM} (h : fstF xs = 0) : ∀ m ∈ xs, msgFault m = 0 := by
  induction xs with
  | nil => simp
  | cons y r ih =>
    unfold fstF at h
    split at h
    · rename_i hy
      intro m hm
      rcases List.mem_cons.1 hm with rfl | hm
      · exact hy
      · exact ih h m hm
    · rename_i hy; exact absurd h hy
theorem take_next {xs : List MessageM} {j : Nat} {m : MessageM} (h : ∀ m ∈ xs.take j, msgFault m = 0) (hg : xs[j]? = some m) (hm : msgFault m = 0) : ∀ m ∈ xs.take (j + 1), msgFault m = 0 := by
  intro y hy
  rw [List.take_add_one, hg] at hy
  rcases List.mem_append.1 hy with hy | hy
  · exact h y hy
  · simp at hy; subst hy; exact hm
def emsC (xs : List MessageM) : Int := if 12 < xs.length then 2 else if fstF xs = 0 then if 300 < (allB xs).length then 2 else 0 else fstF xs
def emsL (xs : List MessageM) : List Int := if emsC xs = 0 then allB xs else []
def emsR (xs : List MessageM) : AV := .agg [.v (.int .i64 (emsC xs)), bytesL (emsL xs)]
theorem emsR_c {xs : List MessageM} {c : Int} (h : emsC xs = c) (hc : ¬ c = 0) : emsR xs = .agg [.v (.int .i64 c), bytesL []] := by unfold emsR emsL; rw [h, if_neg hc]
theorem emsR_0 {xs : List MessageM} (h : emsC xs = 0) : emsR xs = .agg [.v (.int .i64 0), bytesL (allB xs)] := by unfold emsR emsL; rw [h, if_pos rfl]
theorem d_br {c : Int} {H : Hp} {b : Nat} {l : List Int} (hb : H.h b = some (l.map cell)) : deep H depthD (.agg [.v (.int .i64 c), .sl b 1 0 l.length]) = some (.agg [.v (.int .i64 c), bytesL l]) := by
  show ([AV.v (.int .i64 c), .sl b 1 0 l.length].mapM (deep H 11)).map AV.agg = _
  have h2 : deep H 11 (.sl b 1 0 l.length) = some (bytesL l) := (gF_bytes (n := 9) hb rfl).1
  simp only [List.mapM_cons, List.mapM_nil, h2, Option.pure_def, Option.bind_eq_bind, Option.bind_some, Option.map_some]
  rfl
/-- What has been written so far, in an own block, not the first one. -/
def OutBN (H : Hp) (x : AV) (l : List Int) : Prop := ∃ b, (0 < b ∧ b < H.g) ∧ x = .sl b 1 0 l.length ∧ H.h b = some (l.map cell)
theorem allP_lenZ {xs : List MessageM} {j : Nat} (h : ∀ m ∈ xs.take j, msgFault m = 0) (hl : xs.length ≤ 100) : (allP xs j).length ≤ 1 + 112 * j := by
  have e : allP xs j = [((xs.length : Nat) : Int) % 256] ++ (((xs.take j).take j).map lmsg).flatten := by rw [List.take_take, Nat.min_self]; rfl
  have h2 : ∀ (l : List MessageM), (∀ m ∈ l, msgFault m = 0) → ((l.map lmsg).flatten).length ≤ 112 * l.length := by
    intro l hl
    induction l with
    | nil => simp
    | cons m r ih =>
      have h1 := (fault_nn (hl m (by simp))).2
      have h2 := msgB_len (k := m)
      have h3 := ih fun x hx => hl x (by simp [hx])
      simp only [List.map_cons, List.flatten_cons, List.length_append, lmsg, List.length_cons, List.length_nil]
      omega
  have h3 := h2 (xs.take j) h
  unfold allP
  simp only [List.length_append, List.length_cons, List.length_nil]
  simp only [List.length_take] at h3
  omega
theorem ok_sEncodeMessages : fnOk Try.prog cfg0 24 Try.f24 = true := by kernel_rfl
theorem p_sEncodeMessages (xs : List MessageM) (hlen : xs.length ≤ 1048576) : ∃ cl, pure Try.prog cfg0 24 Try.f24 [.lst false (xs.map encMessage)] = some (emsR xs, cl) := by
  have key : ∃ v cl, v = (emsR xs : AV) ∧ pure Try.prog cfg0 24 Try.f24 [.lst false (xs.map encMessage)] = some (v, cl) := by
    refine pure_ex (rs := [.cell 2 41]) rfl rfl ?_
    have hp0 : ∀ b, cfg0.pol 24 b = 0 := fun b => rfl
    by_cases hbig : 12 < xs.length
    · rw [emsR_c (if_pos hbig) (by omega)]
      repeat' (first | ((first | refine wSeqr (fun xx hx => ?_) | refine wSeqrF (fun xx hx => ?_) | refine wIf (fun xx hx => ?_) | refine wReg (fun xx hx => ?_) | refine wRegF (fun xx hx => ?_) | (refine wRet ?_; (try simp only [thenQ, blockQ]); (try (subst hQQ; (try simp only [thenQ, blockQ]))); refine ends_by (fun xx hx => ?_))); have hc := trivial; (repeat' (simp only [hc, Nat.reduceBEq, go_sem, Nat.reduceAdd, Nat.reduceMul, Nat.reduceSub, Nat.reduceEqDiff, Nat.reduceLT, Nat.reduceLeDiff, Int.reduceEq, Int.reduceLT, Int.reduceLE, reduceIte, aresults, aresult, hp0, List.length_map] at hx; (try ((first | rw [guardL_if] at hx | rw [guardF_if] at hx); split at hx <;> rename_i hc)))); all_goals (subst hx; first | (refine ⟨_, rfl, fun ht => ?_, fun ht => ?_⟩ <;> (try simp only [Bool.not_eq_true', Bool.not_eq_false', Bool.and_eq_true, Bool.and_eq_false_iff, Bool.or_eq_true, Bool.or_eq_false_iff, decide_eq_true_eq, decide_eq_false_iff_not, beq_iff_eq, bne_iff_ne, Bool.not_true, Bool.not_false, Bool.true_eq_false, Bool.false_eq_true, ne_eq, Decidable.not_not, inB_t, inB_f] at ht)) | (refine ⟨_, rfl, ?_⟩; (try simp only [tupOf])))) | refine wSkip ?_ | (refine wExit ?_; simp only [thenQ, blockQ, reduceIte, Nat.reduceEqDiff]) | refine wSeq ?_ | refine wBlock ?_ | (subst hQQ; (try simp only [thenQ, blockQ, reduceIte, Nat.reduceEqDiff])))
      all_goals try (exfalso; (try simp only [Bool.not_eq_true', Bool.not_eq_false', Bool.and_eq_true, Bool.and_eq_false_iff, Bool.or_eq_true, Bool.or_eq_false_iff, decide_eq_true_eq, decide_eq_false_iff_not, beq_iff_eq, bne_iff_ne, Bool.not_true, Bool.not_false, Bool.true_eq_false, Bool.false_eq_true, ne_eq, Decidable.not_not, inB_t, inB_f] at *); first | omega | exact absurd trivial (by assumption))
      all_goals exact dirty rfl
    repeat' ((fail_if_success (first | refine wAt 4 ?_ | refine wAt 9 ?_)); first | ((first | refine wSeqr (fun xx hx => ?_) | refine wSeqrF (fun xx hx => ?_) | refine wIf (fun xx hx => ?_) | refine wReg (fun xx hx => ?_) | refine wRegF (fun xx hx => ?_) | (refine wRet ?_; (try simp only [thenQ, blockQ]); (try (subst hQQ; (try simp only [thenQ, blockQ]))); refine ends_by (fun xx hx => ?_))); have hc := trivial; (repeat' (simp only [hc, Nat.reduceBEq, go_sem, Nat.reduceAdd, Nat.reduceMul, Nat.reduceSub, Nat.reduceEqDiff, Nat.reduceLT, Nat.reduceLeDiff, Int.reduceEq, Int.reduceLT, Int.reduceLE, reduceIte, aresults, aresult, hp0, List.length_map] at hx; (try ((first | rw [guardL_if] at hx | rw [guardF_if] at hx); split at hx <;> rename_i hc)))); all_goals (subst hx; first | (refine ⟨_, rfl, fun ht => ?_, fun ht => ?_⟩ <;> (try simp only [Bool.not_eq_true', Bool.not_eq_false', Bool.and_eq_true, Bool.and_eq_false_iff, Bool.or_eq_true, Bool.or_eq_false_iff, decide_eq_true_eq, decide_eq_false_iff_not, beq_iff_eq, bne_iff_ne, Bool.not_true, Bool.not_false, Bool.true_eq_false, Bool.false_eq_true, ne_eq, Decidable.not_not, inB_t, inB_f] at ht)) | (refine ⟨_, rfl, ?_⟩; (try simp only [tupOf])))) | refine wSkip ?_ | (refine wExit ?_; simp only [thenQ, blockQ, reduceIte, Nat.reduceEqDiff]) | refine wSeq ?_ | refine wBlock ?_ | (subst hQQ; (try simp only [thenQ, blockQ, reduceIte, Nat.reduceEqDiff])))
    all_goals try (exfalso; (try simp only [Bool.not_eq_true', Bool.not_eq_false', Bool.and_eq_true, Bool.and_eq_false_iff, Bool.or_eq_true, Bool.or_eq_false_iff, decide_eq_true_eq, decide_eq_false_iff_not, beq_iff_eq, bne_iff_ne, Bool.not_true, Bool.not_false, Bool.true_eq_false, Bool.false_eq_true, ne_eq, Decidable.not_not, inB_t, inB_f] at *); first | omega | exact absurd trivial (by assumption))
    refine wLoop (fun k s => ∃ (j : Nat), j + k = xs.length ∧ s.1 0 = .lst false (xs.map encMessage) ∧ s.1 2 = .ptr 0 0 ∧ s.1 3 = .v (.int .i64 (j : Nat)) ∧ (s.2.h 0 = some [.v (.int .i64 0), .v (.slice none 0 0)]) ∧ (∀ m ∈ xs.take j, msgFault m = 0)) (fun k s hI => ?_) (xs.length) _ ?_
    · obtain ⟨e, H⟩ := s
      obtain ⟨j, hj, h0, h2, h3, hb, hz⟩ := hI
      simp only at h0 h2 h3 hb hz
      by_cases hlt : j < xs.length
      · obtain ⟨m, hg, hd, hm⟩ := at_drop hlt
        have hg' := map_at (f := encMessage) hg
        have w4 : IntKind.wrap .i64 ((j : Nat) + 1 : Int) = ((j + 1 : Nat) : Int) := wrap_succ (by omega)
        by_cases hf : msgFault m = 0
        · repeat' (first | ((first | refine wSeqr (fun xx hx => ?_) | refine wSeqrF (fun xx hx => ?_) | refine wIf (fun xx hx => ?_) | refine wReg (fun xx hx => ?_) | refine wRegF (fun xx hx => ?_) | (refine wRet ?_; (try simp only [thenQ, blockQ]); (try (subst hQQ; (try simp only [thenQ, blockQ]))); refine ends_by (fun xx hx => ?_))); have hc := trivial; (repeat' (simp only [hc, Nat.reduceBEq, go_sem, Nat.reduceAdd, Nat.reduceMul, Nat.reduceSub, Nat.reduceEqDiff, Nat.reduceLT, Nat.reduceLeDiff, Int.reduceEq, Int.reduceLT, Int.reduceLE, reduceIte, aresults, aresult, hp0, h0, h2, h3, hb, hg', encMessage, c_sMessageFault, hf, w4, List.length_map] at hx; (try ((first | rw [guardL_if] at hx | rw [guardF_if] at hx); split at hx <;> rename_i hc)))); all_goals (subst hx; first | (refine ⟨_, rfl, fun ht => ?_, fun ht => ?_⟩ <;> (try simp only [Bool.not_eq_true', Bool.not_eq_false', Bool.and_eq_true, Bool.and_eq_false_iff, Bool.or_eq_true, Bool.or_eq_false_iff, decide_eq_true_eq, decide_eq_false_iff_not, beq_iff_eq, bne_iff_ne, Bool.not_true, Bool.not_false, Bool.true_eq_false, Bool.false_eq_true, ne_eq, Decidable.not_not, inB_t, inB_f] at ht)) | (refine ⟨_, rfl, ?_⟩; (try simp only [tupOf])))) | refine wSkip ?_ | (refine wExit ?_; simp only [thenQ, blockQ, reduceIte, Nat.reduceEqDiff]) | refine wSeq ?_ | refine wBlock ?_ | (subst hQQ; (try simp only [thenQ, blockQ, reduceIte, Nat.reduceEqDiff])))
          all_goals try (exfalso; (try simp only [Bool.not_eq_true', Bool.not_eq_false', Bool.and_eq_true, Bool.and_eq_false_iff, Bool.or_eq_true, Bool.or_eq_false_iff, decide_eq_true_eq, decide_eq_false_iff_not, beq_iff_eq, bne_iff_ne, Bool.not_true, Bool.not_false, Bool.true_eq_false, Bool.false_eq_true, ne_eq, Decidable.not_not, inB_t, inB_f] at *); first | omega | exact absurd trivial (by assumption))
          refine ⟨_, Nat.sub_lt (by omega) Nat.one_pos, j + 1, by omega, by simp only [upd_eq, Nat.reduceEqDiff, if_false, if_true, h0, h2, h3], by simp only [upd_eq, Nat.reduceEqDiff, if_false, if_true, h0, h2, h3], by simp only [upd_eq, Nat.reduceEqDiff, if_false, if_true, h0, h2, h3], ?_⟩
          exact ⟨hb, take_next hz hg hf⟩
        · have hr : emsR xs = .agg [.v (.int .i64 (msgFault m)), bytesL []] := emsR_c (by unfold emsC; rw [if_neg hbig, fstF_at hz hg hf, if_neg hf]) hf
          rw [hr]
          repeat' (first | ((first | refine wSeqr (fun xx hx => ?_) | refine wSeqrF (fun xx hx => ?_) | refine wIf (fun xx hx => ?_) | refine wReg (fun xx hx => ?_) | refine wRegF (fun xx hx => ?_) | (refine wRet ?_; (try simp only [thenQ, blockQ]); (try (subst hQQ; (try simp only [thenQ, blockQ]))); refine ends_by (fun xx hx => ?_))); have hc := trivial; (repeat' (simp only [hc, Nat.reduceBEq, go_sem, Nat.reduceAdd, Nat.reduceMul, Nat.reduceSub, Nat.reduceEqDiff, Nat.reduceLT, Nat.reduceLeDiff, Int.reduceEq, Int.reduceLT, Int.reduceLE, reduceIte, aresults, aresult, hp0, h0, h2, h3, hb, hg', encMessage, c_sMessageFault, hf, w4, List.length_map] at hx; (try ((first | rw [guardL_if] at hx | rw [guardF_if] at hx); split at hx <;> rename_i hc)))); all_goals (subst hx; first | (refine ⟨_, rfl, fun ht => ?_, fun ht => ?_⟩ <;> (try simp only [Bool.not_eq_true', Bool.not_eq_false', Bool.and_eq_true, Bool.and_eq_false_iff, Bool.or_eq_true, Bool.or_eq_false_iff, decide_eq_true_eq, decide_eq_false_iff_not, beq_iff_eq, bne_iff_ne, Bool.not_true, Bool.not_false, Bool.true_eq_false, Bool.false_eq_true, ne_eq, Decidable.not_not, inB_t, inB_f] at ht)) | (refine ⟨_, rfl, ?_⟩; (try simp only [tupOf])))) | refine wSkip ?_ | (refine wExit ?_; simp only [thenQ, blockQ, reduceIte, Nat.reduceEqDiff]) | refine wSeq ?_ | refine wBlock ?_ | (subst hQQ; (try simp only [thenQ, blockQ, reduceIte, Nat.reduceEqDiff])))
          all_goals try (exfalso; (try simp only [Bool.not_eq_true', Bool.not_eq_false', Bool.and_eq_true, Bool.and_eq_false_iff, Bool.or_eq_true, Bool.or_eq_false_iff, decide_eq_true_eq, decide_eq_false_iff_not, beq_iff_eq, bne_iff_ne, Bool.not_true, Bool.not_false, Bool.true_eq_false, Bool.false_eq_true, ne_eq, Decidable.not_not, inB_t, inB_f] at *); first | omega | exact absurd trivial (by assumption))
          all_goals exact dirty rfl
      · have hj' : j = xs.length := by omega
        subst hj'
        rw [List.take_length] at hz
        have hf := fstF_none hz
        have ca := c_sl7All xs (fun m hm => by have := fault_nn (hz m hm); exact ⟨this.1, by omega⟩) (by omega)
        by_cases hll : 300 < (allB xs).length
        · have hr : emsR xs = .agg [.v (.int .i64 2), bytesL []] := emsR_c (by unfold emsC; rw [if_neg hbig, if_pos hf, if_pos hll]) (by omega)
          rw [hr]
          repeat' (first | ((first | refine wSeqr (fun xx hx => ?_) | refine wSeqrF (fun xx hx => ?_) | refine wIf (fun xx hx => ?_) | refine wReg (fun xx hx => ?_) | refine wRegF (fun xx hx => ?_) | (refine wRet ?_; (try simp only [thenQ, blockQ]); (try (subst hQQ; (try simp only [thenQ, blockQ]))); refine ends_by (fun xx hx => ?_))); have hc := trivial; (repeat' (simp only [hc, Nat.reduceBEq, go_sem, Nat.reduceAdd, Nat.reduceMul, Nat.reduceSub, Nat.reduceEqDiff, Nat.reduceLT, Nat.reduceLeDiff, Int.reduceEq, Int.reduceLT, Int.reduceLE, reduceIte, aresults, aresult, hp0, h0, h2, h3, hb, ca, List.length_map] at hx; (try ((first | rw [guardL_if] at hx | rw [guardF_if] at hx); split at hx <;> rename_i hc)))); all_goals (subst hx; first | (refine ⟨_, rfl, fun ht => ?_, fun ht => ?_⟩ <;> (try simp only [Bool.not_eq_true', Bool.not_eq_false', Bool.and_eq_true, Bool.and_eq_false_iff, Bool.or_eq_true, Bool.or_eq_false_iff, decide_eq_true_eq, decide_eq_false_iff_not, beq_iff_eq, bne_iff_ne, Bool.not_true, Bool.not_false, Bool.true_eq_false, Bool.false_eq_true, ne_eq, Decidable.not_not, inB_t, inB_f] at ht)) | (refine ⟨_, rfl, ?_⟩; (try simp only [tupOf])))) | refine wSkip ?_ | (refine wExit ?_; simp only [thenQ, blockQ, reduceIte, Nat.reduceEqDiff]) | refine wSeq ?_ | refine wBlock ?_ | (subst hQQ; (try simp only [thenQ, blockQ, reduceIte, Nat.reduceEqDiff])))
          all_goals try (exfalso; (try simp only [Bool.not_eq_true', Bool.not_eq_false', Bool.and_eq_true, Bool.and_eq_false_iff, Bool.or_eq_true, Bool.or_eq_false_iff, decide_eq_true_eq, decide_eq_false_iff_not, beq_iff_eq, bne_iff_ne, Bool.not_true, Bool.not_false, Bool.true_eq_false, Bool.false_eq_true, ne_eq, Decidable.not_not, inB_t, inB_f] at *); first | omega | exact absurd trivial (by assumption))
          all_goals exact dirty rfl
        · have hr : emsR xs = .agg [.v (.int .i64 0), bytesL (allB xs)] := emsR_0 (by unfold emsC; rw [if_neg hbig, if_pos hf, if_neg hll])
          rw [hr]
          repeat' (first | ((first | refine wSeqr (fun xx hx => ?_) | refine wSeqrF (fun xx hx => ?_) | refine wIf (fun xx hx => ?_) | refine wReg (fun xx hx => ?_) | refine wRegF (fun xx hx => ?_) | (refine wRet ?_; (try simp only [thenQ, blockQ]); (try (subst hQQ; (try simp only [thenQ, blockQ]))); refine ends_by (fun xx hx => ?_))); have hc := trivial; (repeat' (simp only [hc, Nat.reduceBEq, go_sem, Nat.reduceAdd, Nat.reduceMul, Nat.reduceSub, Nat.reduceEqDiff, Nat.reduceLT, Nat.reduceLeDiff, Int.reduceEq, Int.reduceLT, Int.reduceLE, reduceIte, aresults, aresult, hp0, h0, h2, h3, hb, ca, List.length_map] at hx; (try ((first | rw [guardL_if] at hx | rw [guardF_if] at hx); split at hx <;> rename_i hc)))); all_goals (subst hx; first | (refine ⟨_, rfl, fun ht => ?_, fun ht => ?_⟩ <;> (try simp only [Bool.not_eq_true', Bool.not_eq_false', Bool.and_eq_true, Bool.and_eq_false_iff, Bool.or_eq_true, Bool.or_eq_false_iff, decide_eq_true_eq, decide_eq_false_iff_not, beq_iff_eq, bne_iff_ne, Bool.not_true, Bool.not_false, Bool.true_eq_false, Bool.false_eq_true, ne_eq, Decidable.not_not, inB_t, inB_f] at ht)) | (refine ⟨_, rfl, ?_⟩; (try simp only [tupOf])))) | refine wSkip ?_ | (refine wExit ?_; simp only [thenQ, blockQ, reduceIte, Nat.reduceEqDiff]) | refine wSeq ?_ | refine wBlock ?_ | (subst hQQ; (try simp only [thenQ, blockQ, reduceIte, Nat.reduceEqDiff])))
          all_goals try (exfalso; (try simp only [Bool.not_eq_true', Bool.not_eq_false', Bool.and_eq_true, Bool.and_eq_false_iff, Bool.or_eq_true, Bool.or_eq_false_iff, decide_eq_true_eq, decide_eq_false_iff_not, beq_iff_eq, bne_iff_ne, Bool.not_true, Bool.not_false, Bool.true_eq_false, Bool.false_eq_true, ne_eq, Decidable.not_not, inB_t, inB_f] at *); first | omega | exact absurd trivial (by assumption))
          all_goals exact dirty (fz_deep (fz_br _ _) _)
    · refine ⟨0, by omega, rfl, rfl, rfl, rfl, by simp⟩
  obtain ⟨v, cl, rfl, hp⟩ := key
  exact ⟨cl, hp⟩
theorem c_sEncodeMessages (xs : List MessageM) (hlen : xs.length ≤ 1048576) : ∀ H, call Try.prog cfg0 0 24 [.lst false (xs.map encMessage)] H = some (emsR xs, H) := fun H => by
  obtain ⟨cl, hp⟩ := p_sEncodeMessages xs hlen
  exact call_fz Try.func24 rfl ok_sEncodeMessages rfl (by simp only [fz_cons, fz_nil, go_sem, and_self]) hp H

theorem lit_own8 (H : Hp) (z : Int) : litO H 1 1 (some ([AV.v (.int .u8 z)], 1)) = some (.sl H.g 1 0 1, H.new [.v (.int .u8 z)]) := rfl
theorem ok_iEncodeMessages : fnOk Try.prog cfg0 19 Try.f19 = true := by kernel_rfl
theorem p_iEncodeMessages (xs : List MessageM) (hlen : xs.length ≤ 1048576) : ∃ cl, pure Try.prog cfg0 19 Try.f19 [.lst false (xs.map encMessage)] = some (emsR xs, cl) := by
  have key : ∃ v cl, v = (emsR xs : AV) ∧ pure Try.prog cfg0 19 Try.f19 [.lst false (xs.map encMessage)] = some (v, cl) := by
    refine pure_ex (rs := [.cell 2 41]) rfl rfl ?_
    have hp0 : ∀ b, cfg0.pol 19 b = (if b = 14 then 1 else if b = 29 then 3 else if b = 31 then 3 else if b = 35 then 3 else if b = 1000000 then 2 else 0) := fun b => rfl
    by_cases hbig : 12 < xs.length
    · rw [emsR_c (if_pos hbig) (by omega)]
      repeat' (first | ((first | refine wSeqr (fun xx hx => ?_) | refine wSeqrF (fun xx hx => ?_) | refine wIf (fun xx hx => ?_) | refine wReg (fun xx hx => ?_) | refine wRegF (fun xx hx => ?_) | (refine wRet ?_; (try simp only [thenQ, blockQ]); (try (subst hQQ; (try simp only [thenQ, blockQ]))); refine ends_by (fun xx hx => ?_))); have hc := trivial; (repeat' (simp only [hc, Nat.reduceBEq, go_sem, Nat.reduceAdd, Nat.reduceMul, Nat.reduceSub, Nat.reduceEqDiff, Nat.reduceLT, Nat.reduceLeDiff, Int.reduceEq, Int.reduceLT, Int.reduceLE, reduceIte, aresults, aresult, hp0, Option.getD_none, lit_own8, List.length_map, c_inoBytes 2] at hx; (try ((first | rw [guardL_if] at hx | rw [guardF_if] at hx); split at hx <;> rename_i hc)))); all_goals (subst hx; first | (refine ⟨_, rfl, fun ht => ?_, fun ht => ?_⟩ <;> (try simp only [Bool.not_eq_true', Bool.not_eq_false', Bool.and_eq_true, Bool.and_eq_false_iff, Bool.or_eq_true, Bool.or_eq_false_iff, decide_eq_true_eq, decide_eq_false_iff_not, beq_iff_eq, bne_iff_ne, Bool.not_true, Bool.not_false, Bool.true_eq_false, Bool.false_eq_true, ne_eq, Decidable.not_not, inB_t, inB_f] at ht)) | (refine ⟨_, rfl, ?_⟩; (try simp only [tupOf])))) | refine wSkip ?_ | (refine wExit ?_; simp only [thenQ, blockQ, reduceIte, Nat.reduceEqDiff]) | refine wSeq ?_ | refine wBlock ?_ | (subst hQQ; (try simp only [thenQ, blockQ, reduceIte, Nat.reduceEqDiff])))
      all_goals try (exfalso; (try simp only [Bool.not_eq_true', Bool.not_eq_false', Bool.and_eq_true, Bool.and_eq_false_iff, Bool.or_eq_true, Bool.or_eq_false_iff, decide_eq_true_eq, decide_eq_false_iff_not, beq_iff_eq, bne_iff_ne, Bool.not_true, Bool.not_false, Bool.true_eq_false, Bool.false_eq_true, ne_eq, Decidable.not_not, inB_t, inB_f] at *); first | omega | exact absurd trivial (by assumption))
      all_goals exact dirty rfl
    repeat' ((fail_if_success (first | refine wAt 5 ?_ | refine wAt 12 ?_)); first | ((first | refine wSeqr (fun xx hx => ?_) | refine wSeqrF (fun xx hx => ?_) | refine wIf (fun xx hx => ?_) | refine wReg (fun xx hx => ?_) | refine wRegF (fun xx hx => ?_) | (refine wRet ?_; (try simp only [thenQ, blockQ]); (try (subst hQQ; (try simp only [thenQ, blockQ]))); refine ends_by (fun xx hx => ?_))); have hc := trivial; (repeat' (simp only [hc, Nat.reduceBEq, go_sem, Nat.reduceAdd, Nat.reduceMul, Nat.reduceSub, Nat.reduceEqDiff, Nat.reduceLT, Nat.reduceLeDiff, Int.reduceEq, Int.reduceLT, Int.reduceLE, reduceIte, aresults, aresult, hp0, Option.getD_none, lit_own8, List.length_map, aconv_int u3 u5, wrap8] at hx; (try ((first | rw [guardL_if] at hx | rw [guardF_if] at hx); split at hx <;> rename_i hc)))); all_goals (subst hx; first | (refine ⟨_, rfl, fun ht => ?_, fun ht => ?_⟩ <;> (try simp only [Bool.not_eq_true', Bool.not_eq_false', Bool.and_eq_true, Bool.and_eq_false_iff, Bool.or_eq_true, Bool.or_eq_false_iff, decide_eq_true_eq, decide_eq_false_iff_not, beq_iff_eq, bne_iff_ne, Bool.not_true, Bool.not_false, Bool.true_eq_false, Bool.false_eq_true, ne_eq, Decidable.not_not, inB_t, inB_f] at ht)) | (refine ⟨_, rfl, ?_⟩; (try simp only [tupOf])))) | refine wSkip ?_ | (refine wExit ?_; simp only [thenQ, blockQ, reduceIte, Nat.reduceEqDiff]) | refine wSeq ?_ | refine wBlock ?_ | (subst hQQ; (try simp only [thenQ, blockQ, reduceIte, Nat.reduceEqDiff])))
    all_goals try (exfalso; (try simp only [Bool.not_eq_true', Bool.not_eq_false', Bool.and_eq_true, Bool.and_eq_false_iff, Bool.or_eq_true, Bool.or_eq_false_iff, decide_eq_true_eq, decide_eq_false_iff_not, beq_iff_eq, bne_iff_ne, Bool.not_true, Bool.not_false, Bool.true_eq_false, Bool.false_eq_true, ne_eq, Decidable.not_not, inB_t, inB_f] at *); first | omega | exact absurd trivial (by assumption))
    refine wLoop (fun k s => ∃ (j : Nat) (x : AV), j + k = xs.length ∧ s.1 0 = .lst false (xs.map encMessage) ∧ s.1 2 = .ptr 0 0 ∧ s.1 3 = x ∧ s.1 15 = .lst false (xs.map encMessage) ∧ s.1 16 = .v (.int .i64 (xs.length : Nat)) ∧ s.1 17 = .v (.int .i64 (j : Nat)) ∧ (s.2.h 0 = some [.v (.int .i64 0), .v (.slice none 0 0)]) ∧ (∀ m ∈ xs.take j, msgFault m = 0) ∧ (OutBN s.2 x (allP xs j))) (fun k s hI => ?_) (xs.length) _ ?_
    · obtain ⟨e, H⟩ := s
      obtain ⟨j, x, hj, h0, h2, h3, h15, h16, h17, hb, hz, hacc⟩ := hI
      simp only at h0 h2 h3 h15 h16 h17 hb hz hacc
      by_cases hlt : j < xs.length
      · obtain ⟨m, hg, hd, hm⟩ := at_drop hlt
        have hg' := map_at (f := encMessage) hg
        have w4 : IntKind.wrap .i64 ((j : Nat) + 1 : Int) = ((j + 1 : Nat) : Int) := wrap_succ (by omega)
        by_cases hf : msgFault m = 0
        · have ce := c_iEncodeMessage m
          rw [emR_0 hf] at ce
          have hml := msgB_len (k := m)
          have hj := allP_lenZ hz (by omega)
          have hkl := (fault_nn hf).2
          have hs := allP_succ hg
          obtain ⟨b, hb0, rfl, hbb⟩ := hacc
          repeat' ((fail_if_success (first | refine wAt 10 ?_)); first | ((first | refine wSeqr (fun xx hx => ?_) | refine wSeqrF (fun xx hx => ?_) | refine wIf (fun xx hx => ?_) | refine wReg (fun xx hx => ?_) | refine wRegF (fun xx hx => ?_) | (refine wRet ?_; (try simp only [thenQ, blockQ]); (try (subst hQQ; (try simp only [thenQ, blockQ]))); refine ends_by (fun xx hx => ?_))); have hc := trivial; (repeat' (simp only [hc, Nat.reduceBEq, go_sem, Nat.reduceAdd, Nat.reduceMul, Nat.reduceSub, Nat.reduceEqDiff, Nat.reduceLT, Nat.reduceLeDiff, Int.reduceEq, Int.reduceLT, Int.reduceLE, reduceIte, aresults, aresult, hp0, Option.getD_none, lit_own8, h0, h2, h3, h15, h16, h17, hb, hg', encMessage, ce, w4, List.length_map] at hx; (try ((first | rw [guardL_if] at hx | rw [guardF_if] at hx); split at hx <;> rename_i hc)))); all_goals (subst hx; first | (refine ⟨_, rfl, fun ht => ?_, fun ht => ?_⟩ <;> (try simp only [Bool.not_eq_true', Bool.not_eq_false', Bool.and_eq_true, Bool.and_eq_false_iff, Bool.or_eq_true, Bool.or_eq_false_iff, decide_eq_true_eq, decide_eq_false_iff_not, beq_iff_eq, bne_iff_ne, Bool.not_true, Bool.not_false, Bool.true_eq_false, Bool.false_eq_true, ne_eq, Decidable.not_not, inB_t, inB_f] at ht)) | (refine ⟨_, rfl, ?_⟩; (try simp only [tupOf])))) | refine wSkip ?_ | (refine wExit ?_; simp only [thenQ, blockQ, reduceIte, Nat.reduceEqDiff]) | refine wSeq ?_ | refine wBlock ?_ | (subst hQQ; (try simp only [thenQ, blockQ, reduceIte, Nat.reduceEqDiff])))
          all_goals try (exfalso; (try simp only [Bool.not_eq_true', Bool.not_eq_false', Bool.and_eq_true, Bool.and_eq_false_iff, Bool.or_eq_true, Bool.or_eq_false_iff, decide_eq_true_eq, decide_eq_false_iff_not, beq_iff_eq, bne_iff_ne, Bool.not_true, Bool.not_false, Bool.true_eq_false, Bool.false_eq_true, ne_eq, Decidable.not_not, inB_t, inB_f] at *); first | omega | exact absurd trivial (by assumption))
          have q1 := fun H b n => apB (isB_1 true (((msgB m).length : Int) % 256)) (by simp) (allP xs j) (by simp; omega) H b n
          have q2 := fun H b n => apB (isB_l (msgB m)) (msgB_ne m) (allP xs j ++ [((msgB m).length : Int) % 256]) (by simp; omega) H b n
          have e1 : (H.g + 1 = b) = False := eq_false (by omega)
          have e2 : (H.g + 1 = H.g + 2) = False := eq_false (by omega)
          have e3 : (b = H.g + 1) = False := eq_false (by omega)
          have e4 : (b = H.g) = False := eq_false (by omega)
          refine wRegK (Hp.one (H.g + 1) [.v (.int .i64 0), bytesL (msgB m)]) (hExt_one (by rw [Hp.set_h, if_pos rfl])) (fun xx hx => ?_)
          have hc := trivial; (repeat' (simp only [hc, Nat.reduceBEq, go_sem, Nat.reduceAdd, Nat.reduceMul, Nat.reduceSub, Nat.reduceEqDiff, Nat.reduceLT, Nat.reduceLeDiff, Int.reduceEq, Int.reduceLT, Int.reduceLE, reduceIte, aresults, aresult, hp0, Option.getD_none, h3, q1, q2, hbb, e1, e2, e3, e4, aconv_int u3 u5, wrap8] at hx; (try ((first | rw [guardL_if] at hx | rw [guardF_if] at hx); split at hx <;> rename_i hc)))); all_goals (subst hx; refine ⟨_, rfl, ?_⟩)
          repeat' (first | ((first | refine wSeqr (fun xx hx => ?_) | refine wSeqrF (fun xx hx => ?_) | refine wIf (fun xx hx => ?_) | refine wReg (fun xx hx => ?_) | refine wRegF (fun xx hx => ?_) | (refine wRet ?_; (try simp only [thenQ, blockQ]); (try (subst hQQ; (try simp only [thenQ, blockQ]))); refine ends_by (fun xx hx => ?_))); have hc := trivial; (repeat' (simp only [hc, Nat.reduceBEq, go_sem, Nat.reduceAdd, Nat.reduceMul, Nat.reduceSub, Nat.reduceEqDiff, Nat.reduceLT, Nat.reduceLeDiff, Int.reduceEq, Int.reduceLT, Int.reduceLE, reduceIte, aresults, aresult, hp0, Option.getD_none, h17, w4] at hx; (try ((first | rw [guardL_if] at hx | rw [guardF_if] at hx); split at hx <;> rename_i hc)))); all_goals (subst hx; first | (refine ⟨_, rfl, fun ht => ?_, fun ht => ?_⟩ <;> (try simp only [Bool.not_eq_true', Bool.not_eq_false', Bool.and_eq_true, Bool.and_eq_false_iff, Bool.or_eq_true, Bool.or_eq_false_iff, decide_eq_true_eq, decide_eq_false_iff_not, beq_iff_eq, bne_iff_ne, Bool.not_true, Bool.not_false, Bool.true_eq_false, Bool.false_eq_true, ne_eq, Decidable.not_not, inB_t, inB_f] at ht)) | (refine ⟨_, rfl, ?_⟩; (try simp only [tupOf])))) | refine wSkip ?_ | (refine wExit ?_; simp only [thenQ, blockQ, reduceIte, Nat.reduceEqDiff]) | refine wSeq ?_ | refine wBlock ?_ | (subst hQQ; (try simp only [thenQ, blockQ, reduceIte, Nat.reduceEqDiff])))
          all_goals try (exfalso; (try simp only [Bool.not_eq_true', Bool.not_eq_false', Bool.and_eq_true, Bool.and_eq_false_iff, Bool.or_eq_true, Bool.or_eq_false_iff, decide_eq_true_eq, decide_eq_false_iff_not, beq_iff_eq, bne_iff_ne, Bool.not_true, Bool.not_false, Bool.true_eq_false, Bool.false_eq_true, ne_eq, Decidable.not_not, inB_t, inB_f] at *); first | omega | exact absurd trivial (by assumption))
          refine ⟨_, Nat.sub_lt (by omega) Nat.one_pos, j + 1, .sl (H.g + 3) 1 0 (allP xs j ++ [((msgB m).length : Int) % 256] ++ msgB m).length, by omega, by simp only [upd_eq, Nat.reduceEqDiff, if_false, if_true, h0, h2, h3, h15, h16, h17], by simp only [upd_eq, Nat.reduceEqDiff, if_false, if_true, h0, h2, h3, h15, h16, h17], by simp only [upd_eq, Nat.reduceEqDiff, if_false, if_true, h0, h2, h3, h15, h16, h17], by simp only [upd_eq, Nat.reduceEqDiff, if_false, if_true, h0, h2, h3, h15, h16, h17], by simp only [upd_eq, Nat.reduceEqDiff, if_false, if_true, h0, h2, h3, h15, h16, h17], by simp only [upd_eq, Nat.reduceEqDiff, if_false, if_true, h0, h2, h3, h15, h16, h17], ?_⟩
          have e5 : (0 = H.g) = False := eq_false (by omega)
          have e6 : (0 = H.g + 1) = False := eq_false (by omega)
          have e7 : (0 = b) = False := eq_false (by omega)
          have e8 : (0 = H.g + 1 + 1) = False := eq_false (by omega)
          have e9 : (0 = H.g + 1 + 1 + 1) = False := eq_false (by omega)
          refine ⟨?_, take_next hz hg hf, ⟨H.g + 3, ⟨by omega, by simp⟩, by rw [hs], ?_⟩⟩
          · simp only [Hp.new_h, Hp.set_h, Hp.del_h, Hp.new_g, Hp.set_g, Hp.del_g, e5, e6, e7, e8, e9, if_false]
            exact hb
          · rw [hs]; exact new_same _ _
        · have hr : emsR xs = .agg [.v (.int .i64 (msgFault m)), bytesL []] := emsR_c (by unfold emsC; rw [if_neg hbig, fstF_at hz hg hf, if_neg hf]) hf
          have ce := c_iEncodeMessage m
          rw [emR_c hf] at ce
          rw [hr]
          obtain ⟨b, hb0, rfl, hbb⟩ := hacc
          have e5 : (0 = H.g) = False := eq_false (by omega)
          have e6 : (0 = H.g + 1) = False := eq_false (by omega)
          repeat' (first | ((first | refine wSeqr (fun xx hx => ?_) | refine wSeqrF (fun xx hx => ?_) | refine wIf (fun xx hx => ?_) | refine wReg (fun xx hx => ?_) | refine wRegF (fun xx hx => ?_) | (refine wRet ?_; (try simp only [thenQ, blockQ]); (try (subst hQQ; (try simp only [thenQ, blockQ]))); refine ends_by (fun xx hx => ?_))); have hc := trivial; (repeat' (simp only [hc, Nat.reduceBEq, go_sem, Nat.reduceAdd, Nat.reduceMul, Nat.reduceSub, Nat.reduceEqDiff, Nat.reduceLT, Nat.reduceLeDiff, Int.reduceEq, Int.reduceLT, Int.reduceLE, reduceIte, aresults, aresult, hp0, Option.getD_none, lit_own8, h0, h2, h3, h15, h16, h17, hb, hg', encMessage, ce, hf, w4, e5, e6, List.length_map] at hx; (try ((first | rw [guardL_if] at hx | rw [guardF_if] at hx); split at hx <;> rename_i hc)))); all_goals (subst hx; first | (refine ⟨_, rfl, fun ht => ?_, fun ht => ?_⟩ <;> (try simp only [Bool.not_eq_true', Bool.not_eq_false', Bool.and_eq_true, Bool.and_eq_false_iff, Bool.or_eq_true, Bool.or_eq_false_iff, decide_eq_true_eq, decide_eq_false_iff_not, beq_iff_eq, bne_iff_ne, Bool.not_true, Bool.not_false, Bool.true_eq_false, Bool.false_eq_true, ne_eq, Decidable.not_not, inB_t, inB_f] at ht)) | (refine ⟨_, rfl, ?_⟩; (try simp only [tupOf])))) | refine wSkip ?_ | (refine wExit ?_; simp only [thenQ, blockQ, reduceIte, Nat.reduceEqDiff]) | refine wSeq ?_ | refine wBlock ?_ | (subst hQQ; (try simp only [thenQ, blockQ, reduceIte, Nat.reduceEqDiff])))
          all_goals try (exfalso; (try simp only [Bool.not_eq_true', Bool.not_eq_false', Bool.and_eq_true, Bool.and_eq_false_iff, Bool.or_eq_true, Bool.or_eq_false_iff, decide_eq_true_eq, decide_eq_false_iff_not, beq_iff_eq, bne_iff_ne, Bool.not_true, Bool.not_false, Bool.true_eq_false, Bool.false_eq_true, ne_eq, Decidable.not_not, inB_t, inB_f] at *); first | omega | exact absurd trivial (by assumption))
          all_goals exact dirty (fz_deep (fz_br _ _) _)
      · have hj' : j = xs.length := by omega
        subst hj'
        rw [List.take_length] at hz
        have hf := fstF_none hz
        obtain ⟨b, hb0, rfl, hbb⟩ := hacc
        by_cases hll : 300 < (allB xs).length
        · have hr : emsR xs = .agg [.v (.int .i64 2), bytesL []] := emsR_c (by unfold emsC; rw [if_neg hbig, if_pos hf, if_pos hll]) (by omega)
          rw [hr]
          have hll' : 300 < (allP xs xs.length).length := hll
          repeat' (first | ((first | refine wSeqr (fun xx hx => ?_) | refine wSeqrF (fun xx hx => ?_) | refine wIf (fun xx hx => ?_) | refine wReg (fun xx hx => ?_) | refine wRegF (fun xx hx => ?_) | (refine wRet ?_; (try simp only [thenQ, blockQ]); (try (subst hQQ; (try simp only [thenQ, blockQ]))); refine ends_by (fun xx hx => ?_))); have hc := trivial; (repeat' (simp only [hc, Nat.reduceBEq, go_sem, Nat.reduceAdd, Nat.reduceMul, Nat.reduceSub, Nat.reduceEqDiff, Nat.reduceLT, Nat.reduceLeDiff, Int.reduceEq, Int.reduceLT, Int.reduceLE, reduceIte, aresults, aresult, hp0, Option.getD_none, lit_own8, h0, h2, h3, h16, h17, hb, hll', c_inoBytes 2, List.length_map] at hx; (try ((first | rw [guardL_if] at hx | rw [guardF_if] at hx); split at hx <;> rename_i hc)))); all_goals (subst hx; first | (refine ⟨_, rfl, fun ht => ?_, fun ht => ?_⟩ <;> (try simp only [Bool.not_eq_true', Bool.not_eq_false', Bool.and_eq_true, Bool.and_eq_false_iff, Bool.or_eq_true, Bool.or_eq_false_iff, decide_eq_true_eq, decide_eq_false_iff_not, beq_iff_eq, bne_iff_ne, Bool.not_true, Bool.not_false, Bool.true_eq_false, Bool.false_eq_true, ne_eq, Decidable.not_not, inB_t, inB_f] at ht)) | (refine ⟨_, rfl, ?_⟩; (try simp only [tupOf])))) | refine wSkip ?_ | (refine wExit ?_; simp only [thenQ, blockQ, reduceIte, Nat.reduceEqDiff]) | refine wSeq ?_ | refine wBlock ?_ | (subst hQQ; (try simp only [thenQ, blockQ, reduceIte, Nat.reduceEqDiff])))
          all_goals try (exfalso; (try simp only [Bool.not_eq_true', Bool.not_eq_false', Bool.and_eq_true, Bool.and_eq_false_iff, Bool.or_eq_true, Bool.or_eq_false_iff, decide_eq_true_eq, decide_eq_false_iff_not, beq_iff_eq, bne_iff_ne, Bool.not_true, Bool.not_false, Bool.true_eq_false, Bool.false_eq_true, ne_eq, Decidable.not_not, inB_t, inB_f] at *); first | omega | exact absurd trivial (by assumption))
          all_goals exact dirty rfl
        · have hr : emsR xs = .agg [.v (.int .i64 0), bytesL (allB xs)] := emsR_0 (by unfold emsC; rw [if_neg hbig, if_pos hf, if_neg hll])
          have hll' : ¬ 300 < (allP xs xs.length).length := hll
          rw [hr]
          repeat' (first | ((first | refine wSeqr (fun xx hx => ?_) | refine wSeqrF (fun xx hx => ?_) | refine wIf (fun xx hx => ?_) | refine wReg (fun xx hx => ?_) | refine wRegF (fun xx hx => ?_) | (refine wRet ?_; (try simp only [thenQ, blockQ]); (try (subst hQQ; (try simp only [thenQ, blockQ]))); refine ends_by (fun xx hx => ?_))); have hc := trivial; (repeat' (simp only [hc, Nat.reduceBEq, go_sem, Nat.reduceAdd, Nat.reduceMul, Nat.reduceSub, Nat.reduceEqDiff, Nat.reduceLT, Nat.reduceLeDiff, Int.reduceEq, Int.reduceLT, Int.reduceLE, reduceIte, aresults, aresult, hp0, Option.getD_none, lit_own8, h0, h2, h3, h16, h17, hb, hll', List.length_map] at hx; (try ((first | rw [guardL_if] at hx | rw [guardF_if] at hx); split at hx <;> rename_i hc)))); all_goals (subst hx; first | (refine ⟨_, rfl, fun ht => ?_, fun ht => ?_⟩ <;> (try simp only [Bool.not_eq_true', Bool.not_eq_false', Bool.and_eq_true, Bool.and_eq_false_iff, Bool.or_eq_true, Bool.or_eq_false_iff, decide_eq_true_eq, decide_eq_false_iff_not, beq_iff_eq, bne_iff_ne, Bool.not_true, Bool.not_false, Bool.true_eq_false, Bool.false_eq_true, ne_eq, Decidable.not_not, inB_t, inB_f] at ht)) | (refine ⟨_, rfl, ?_⟩; (try simp only [tupOf])))) | refine wSkip ?_ | (refine wExit ?_; simp only [thenQ, blockQ, reduceIte, Nat.reduceEqDiff]) | refine wSeq ?_ | refine wBlock ?_ | (subst hQQ; (try simp only [thenQ, blockQ, reduceIte, Nat.reduceEqDiff])))
          all_goals try (exfalso; (try simp only [Bool.not_eq_true', Bool.not_eq_false', Bool.and_eq_true, Bool.and_eq_false_iff, Bool.or_eq_true, Bool.or_eq_false_iff, decide_eq_true_eq, decide_eq_false_iff_not, beq_iff_eq, bne_iff_ne, Bool.not_true, Bool.not_false, Bool.true_eq_false, Bool.false_eq_true, ne_eq, Decidable.not_not, inB_t, inB_f] at *); first | omega | exact absurd trivial (by assumption))
          all_goals exact dirty (d_br (by rw [Hp.set_h, if_neg (by omega)]; exact hbb))
    · refine ⟨0, _, by omega, rfl, rfl, rfl, rfl, rfl, rfl, rfl, by simp, ⟨1, ⟨by omega, by show 1 < 2; omega⟩, rfl, ?_⟩⟩
      show some [cell ((xs.length : Int) % 256)] = _
      simp [allP]
  obtain ⟨v, cl, rfl, hp⟩ := key
  exact ⟨cl, hp⟩
theorem c_iEncodeMessages (xs : List MessageM) (hlen : xs.length ≤ 1048576) : ∀ H, call Try.prog cfg0 0 19 [.lst false (xs.map encMessage)] H = some (emsR xs, H) := fun H => by
  obtain ⟨cl, hp⟩ := p_iEncodeMessages xs hlen
  exact call_fz Try.func19 rfl ok_iEncodeMessages rfl (by simp only [fz_cons, fz_nil, go_sem, and_self]) hp H

end
end Go.Proofs.Ytmpkcilehideiaa
