/- Contracts: lists of messages into bytes, the reference's side of the draws. -/
import Derived.Test.YtmpkcilehideiaaR6
namespace Go.Proofs.Ytmpkcilehideiaa
open Go Go.RowKit Go.Proofs.Ytmpkcilehideiaa.Eng
set_option linter.unusedSimpArgs false
set_option linter.unusedVariables false
set_option maxRecDepth 100000
set_option maxHeartbeats 4000000
noncomputable section
theorem msgB_ne (k : MessageM) : msgB k ≠ [] := by
  unfold msgB msgP
  (repeat' split) <;> simp [wordL_1]
/-- A message behind its length. -/
def lmsg (m : MessageM) : List Int := [((msgB m).length : Int) % 256] ++ msgB m
def allP (xs : List MessageM) (j : Nat) : List Int := [((xs.length : Nat) : Int) % 256] ++ ((xs.take j).map lmsg).flatten
def allB (xs : List MessageM) : List Int := allP xs xs.length
theorem allP_succ {xs : List MessageM} {j : Nat} {m : MessageM} (h : xs[j]? = some m) : allP xs (j + 1) = allP xs j ++ [((msgB m).length : Int) % 256] ++ msgB m := by
  unfold allP
  rw [List.take_add_one, h]
  simp [lmsg]
theorem allP_len {xs : List MessageM} (h : ∀ m ∈ xs, msgNN m ∧ m.Key.Bytes.length ≤ 100) (hl : xs.length ≤ 100) (j : Nat) : (allP xs j).length ≤ 1 + 112 * j := by
  induction j with
  | zero => simp [allP]
  | succ j ih =>
    cases hg : xs[j]? with
    | none =>
      have : allP xs (j + 1) = allP xs j := by unfold allP; rw [List.take_add_one, hg]; simp
      rw [this]; omega
    | some m =>
      have h1 := (h m (List.mem_of_getElem? hg)).2
      have h2 := msgB_len (k := m)
      rw [allP_succ hg]
      simp only [List.length_append, List.length_cons, List.length_nil]
      omega
/-- What has been written so far, in an own block. -/
def OutB (H : Hp) (x : AV) (l : List Int) : Prop := ∃ b, x = .sl b 1 0 l.length ∧ H.h b = some (l.map cell)
theorem ok_sl7All : fnOk Try.prog cfg0 47 Try.f47 = true := by kernel_rfl
theorem pq_sl7All (xs : List MessageM) (hk : ∀ m ∈ xs, msgNN m ∧ m.Key.Bytes.length ≤ 100) (hlen : xs.length ≤ 100) : pure Try.prog cfg0 47 Try.f47 [.lst false (xs.map encMessage)] = some (bytesL (allB xs), true) ∧ owned Try.prog cfg0 47 Try.f47 [.lst false (xs.map encMessage)] = some (bytesL (allB xs)) := by
  refine both_wp (rs := [.tmp 2]) rfl rfl ?_
  have hp0 : ∀ b, cfg0.pol 47 b = (if b = 9 then 1 else 0) := fun b => rfl
  have hal := allP_len hk hlen
  repeat' (first | ((first | refine wSeqr (fun xx hx => ?_) | refine wSeqrF (fun xx hx => ?_) | refine wIf (fun xx hx => ?_) | refine wReg (fun xx hx => ?_) | refine wRegF (fun xx hx => ?_) | (refine wRet ?_; (try simp only [thenQ, blockQ]); (try (subst hQQ; (try simp only [thenQ, blockQ]))); refine ends_by (fun xx hx => ?_))); have hc := trivial; (repeat' (simp only [hc, Nat.reduceBEq, go_sem, Nat.reduceAdd, Nat.reduceMul, Nat.reduceSub, Nat.reduceEqDiff, Nat.reduceLT, Nat.reduceLeDiff, Int.reduceEq, Int.reduceLT, Int.reduceLE, reduceIte, aresults, aresult, hp0, aconv_int u3 u5, wrap8, List.length_map] at hx; (try ((first | rw [guardL_if] at hx | rw [guardF_if] at hx); split at hx <;> rename_i hc)))); all_goals (subst hx; first | (refine ⟨_, rfl, fun ht => ?_, fun ht => ?_⟩ <;> (try simp only [Bool.not_eq_true', Bool.not_eq_false', Bool.and_eq_true, Bool.and_eq_false_iff, Bool.or_eq_true, Bool.or_eq_false_iff, decide_eq_true_eq, decide_eq_false_iff_not, beq_iff_eq, bne_iff_ne, Bool.not_true, Bool.not_false, Bool.true_eq_false, Bool.false_eq_true, ne_eq, Decidable.not_not, inB_t, inB_f] at ht)) | (refine ⟨_, rfl, ?_⟩; (try simp only [tupOf])))) | refine wSkip ?_ | (refine wExit ?_; simp only [thenQ, blockQ, reduceIte, Nat.reduceEqDiff]) | refine wSeq ?_ | refine wBlock ?_ | (subst hQQ; (try simp only [thenQ, blockQ, reduceIte, Nat.reduceEqDiff])))
  refine wLoop (fun k s => ∃ (j : Nat) (x : AV), j + k = xs.length ∧ s.1 0 = .lst false (xs.map encMessage) ∧ s.1 3 = x ∧ s.1 4 = .v (.int .i64 (j : Nat)) ∧ (OutB s.2 x (allP xs j))) (fun k s hI => ?_) (xs.length) _ ?_
  · obtain ⟨e, H⟩ := s
    obtain ⟨j, x, hj, h0, h3, h4, hacc⟩ := hI
    simp only at h0 h3 h4 hacc
    by_cases hlt : j < xs.length
    · obtain ⟨m, hg, hd, hm⟩ := at_drop hlt
      have hg' := map_at (f := encMessage) hg
      obtain ⟨n1, n2⟩ := hk m hm
      have ce := c_sl7Encode m n1
      have hs := allP_succ hg
      have hj := hal j
      have hml := msgB_len (k := m)
      have w4 : IntKind.wrap .i64 ((j : Nat) + 1 : Int) = ((j + 1 : Nat) : Int) := wrap_succ (by omega)
      obtain ⟨b, rfl, hb⟩ := hacc
      · have q1 := fun H b n => apB (isB_1 true (((msgB m).length : Int) % 256)) (by simp) (allP xs j) (by simp; omega) H b n
        have q2 := fun H b n => apB (isB_l (msgB m)) (msgB_ne m) (allP xs j ++ [((msgB m).length : Int) % 256]) (by simp; omega) H b n
        repeat' (first | ((first | refine wSeqr (fun xx hx => ?_) | refine wSeqrF (fun xx hx => ?_) | refine wIf (fun xx hx => ?_) | refine wReg (fun xx hx => ?_) | refine wRegF (fun xx hx => ?_) | (refine wRet ?_; (try simp only [thenQ, blockQ]); (try (subst hQQ; (try simp only [thenQ, blockQ]))); refine ends_by (fun xx hx => ?_))); have hc := trivial; (repeat' (simp only [hc, Nat.reduceBEq, go_sem, Nat.reduceAdd, Nat.reduceMul, Nat.reduceSub, Nat.reduceEqDiff, Nat.reduceLT, Nat.reduceLeDiff, Int.reduceEq, Int.reduceLT, Int.reduceLE, reduceIte, aresults, aresult, hp0, h0, h3, h4, hb, hg', encMessage, ce, w4, q1, q2, aconv_int u3 u5, wrap8, List.length_map] at hx; (try ((first | rw [guardL_if] at hx | rw [guardF_if] at hx); split at hx <;> rename_i hc)))); all_goals (subst hx; first | (refine ⟨_, rfl, fun ht => ?_, fun ht => ?_⟩ <;> (try simp only [Bool.not_eq_true', Bool.not_eq_false', Bool.and_eq_true, Bool.and_eq_false_iff, Bool.or_eq_true, Bool.or_eq_false_iff, decide_eq_true_eq, decide_eq_false_iff_not, beq_iff_eq, bne_iff_ne, Bool.not_true, Bool.not_false, Bool.true_eq_false, Bool.false_eq_true, ne_eq, Decidable.not_not, inB_t, inB_f] at ht)) | (refine ⟨_, rfl, ?_⟩; (try simp only [tupOf])))) | refine wSkip ?_ | (refine wExit ?_; simp only [thenQ, blockQ, reduceIte, Nat.reduceEqDiff]) | refine wSeq ?_ | refine wBlock ?_ | (subst hQQ; (try simp only [thenQ, blockQ, reduceIte, Nat.reduceEqDiff])))
        all_goals first
          | (exfalso; (try simp only [Bool.not_eq_true', Bool.not_eq_false', Bool.and_eq_true, Bool.and_eq_false_iff, Bool.or_eq_true, Bool.or_eq_false_iff, decide_eq_true_eq, decide_eq_false_iff_not, beq_iff_eq, bne_iff_ne, Bool.not_true, Bool.not_false, Bool.true_eq_false, Bool.false_eq_true, ne_eq, Decidable.not_not, inB_t, inB_f] at *); omega)
          | skip
        refine ⟨_, Nat.sub_lt (by omega) Nat.one_pos, j + 1, .sl (H.g + 1) 1 0 (allP xs j ++ [((msgB m).length : Int) % 256] ++ msgB m).length, by omega, by simp only [upd_eq, Nat.reduceEqDiff, if_false, if_true, h0, h3, h4], by simp only [upd_eq, Nat.reduceEqDiff, if_false, if_true, h0, h3, h4], by simp only [upd_eq, Nat.reduceEqDiff, if_false, if_true, h0, h3, h4], ?_⟩
        rw [hs]
        exact ⟨_, rfl, new_same _ _⟩
    · have hj' : j = xs.length := by omega
      subst hj'
      obtain ⟨b, rfl, hb⟩ := hacc
      · repeat' (first | ((first | refine wSeqr (fun xx hx => ?_) | refine wSeqrF (fun xx hx => ?_) | refine wIf (fun xx hx => ?_) | refine wReg (fun xx hx => ?_) | refine wRegF (fun xx hx => ?_) | (refine wRet ?_; (try simp only [thenQ, blockQ]); (try (subst hQQ; (try simp only [thenQ, blockQ]))); refine ends_by (fun xx hx => ?_))); have hc := trivial; (repeat' (simp only [hc, Nat.reduceBEq, go_sem, Nat.reduceAdd, Nat.reduceMul, Nat.reduceSub, Nat.reduceEqDiff, Nat.reduceLT, Nat.reduceLeDiff, Int.reduceEq, Int.reduceLT, Int.reduceLE, reduceIte, aresults, aresult, hp0, h0, h3, h4, List.length_map] at hx; (try ((first | rw [guardL_if] at hx | rw [guardF_if] at hx); split at hx <;> rename_i hc)))); all_goals (subst hx; first | (refine ⟨_, rfl, fun ht => ?_, fun ht => ?_⟩ <;> (try simp only [Bool.not_eq_true', Bool.not_eq_false', Bool.and_eq_true, Bool.and_eq_false_iff, Bool.or_eq_true, Bool.or_eq_false_iff, decide_eq_true_eq, decide_eq_false_iff_not, beq_iff_eq, bne_iff_ne, Bool.not_true, Bool.not_false, Bool.true_eq_false, Bool.false_eq_true, ne_eq, Decidable.not_not, inB_t, inB_f] at ht)) | (refine ⟨_, rfl, ?_⟩; (try simp only [tupOf])))) | refine wSkip ?_ | (refine wExit ?_; simp only [thenQ, blockQ, reduceIte, Nat.reduceEqDiff]) | refine wSeq ?_ | refine wBlock ?_ | (subst hQQ; (try simp only [thenQ, blockQ, reduceIte, Nat.reduceEqDiff])))
        all_goals first
          | (exfalso; (try simp only [Bool.not_eq_true', Bool.not_eq_false', Bool.and_eq_true, Bool.and_eq_false_iff, Bool.or_eq_true, Bool.or_eq_false_iff, decide_eq_true_eq, decide_eq_false_iff_not, beq_iff_eq, bne_iff_ne, Bool.not_true, Bool.not_false, Bool.true_eq_false, Bool.false_eq_true, ne_eq, Decidable.not_not, inB_t, inB_f] at *); omega)
          | skip
        exact gO_bytes hb
  · refine ⟨0, _, by omega, rfl, rfl, rfl, ⟨_, rfl, new_same _ _⟩⟩
theorem p_sl7All (xs : List MessageM) (hk : ∀ m ∈ xs, msgNN m ∧ m.Key.Bytes.length ≤ 100) (hlen : xs.length ≤ 100) : pure Try.prog cfg0 47 Try.f47 [.lst false (xs.map encMessage)] = some (bytesL (allB xs), true) := (pq_sl7All xs hk hlen).1
theorem c_sl7All (xs : List MessageM) (hk : ∀ m ∈ xs, msgNN m ∧ m.Key.Bytes.length ≤ 100) (hlen : xs.length ≤ 100) : ∀ H, call Try.prog cfg0 0 47 [.lst false (xs.map encMessage)] H = some (bytesL (allB xs), H) :=
  call_fz Try.func47 rfl ok_sl7All rfl (by simp only [fz_cons, fz_nil, go_sem, and_self]) (pq_sl7All xs hk hlen).1
theorem o_sl7All (xs : List MessageM) (hk : ∀ m ∈ xs, msgNN m ∧ m.Key.Bytes.length ≤ 100) (hlen : xs.length ≤ 100) : ∀ H, call Try.prog cfg0 1 47 [.lst false (xs.map encMessage)] H = mat depthD (bytesL (allB xs)) H := fun H =>
  call_ofO Try.func47 rfl ok_sl7All rfl (mapM_self fun x hx => ((show ∀ x ∈ ([.lst false (xs.map encMessage)] : List AV), Fz depthD x by simp only [fz_cons, fz_nil, go_sem, and_self]) x hx).1 H) (pq_sl7All xs hk hlen).2

end
end Go.Proofs.Ytmpkcilehideiaa
