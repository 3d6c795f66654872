/- Contracts: the number of a word, both sides. -/
import Derived.Test.YtmncdkecpnoogaaDoorD1
namespace Go.Proofs.YtmncdkecpnoogaaDoor
open Go Go.RowKit Go.Proofs.YtmncdkecpnoogaaDoor.Eng
set_option linter.unusedSimpArgs false
set_option linter.unusedVariables false
set_option maxRecDepth 100000
noncomputable section
theorem size_toList (s : ByteArray) : s.size = s.data.toList.length := by rw [Array.length_toList]; rfl
theorem canon_nd {l : List UInt8} {c : UInt8} (hm : c ∈ l) (h : isDg c = false) : canon l = false := by
  have : l.all isDg = false := List.all_eq_false.2 ⟨c, hm, by simp [h]⟩
  simp [canon, this]
theorem numOf_nd {N : Nat} {l : List UInt8} (h : canon l = false) : numOf N l = -1 := by simp [numOf, h]
theorem canon_of {l : List UInt8} (h1 : l ≠ []) (h2 : l.all isDg = true) (h3 : l.length ≤ 1 ∨ l.head? ≠ some 48) : canon l = true := by
  unfold canon
  rw [h2, decide_eq_true h1]
  rcases h3 with h3 | h3
  · rw [decide_eq_true h3]; rfl
  · rw [decide_eq_true h3]; simp
theorem canon0 {c : UInt8} {r : List UInt8} {N : Nat} (h : c = 48) (h1 : 1 < r.length + 1) : ¬ (canon (c :: r) = true ∧ (c :: r).length ≤ N) := by
  rintro ⟨h2, -⟩
  simp only [canon, Bool.and_eq_true, Bool.or_eq_true, decide_eq_true_eq, List.length_cons, List.head?_cons] at h2
  rcases h2.2 with h3 | h3
  · omega
  · exact of_decide_eq_true h3 (by rw [h])
theorem ok_sl14Number : fnOk Tryd.prog cfg0 49 Tryd.f49 = true := by kernel_rfl
theorem p_sl14Number (z : ByteArray) : pure Tryd.prog cfg0 49 Tryd.f49 [.v (.string z)] = some (.v (.int .i64 (numOf 7 z.data.toList)), true) := by
  refine pure_wp (rs := [.tmp 2]) rfl rfl ?_
  have hp0 : ∀ b, cfg0.pol 49 b = 0 := fun b => rfl
  have hsz := size_toList z
  generalize hl : z.data.toList = l at hsz ⊢
  by_cases hne : l = []
  · subst hne
    have hsz' : (z.size : Int) = 0 := by rw [hsz]; rfl
    repeat' (first | ((first | refine wSeqr (fun xx hx => ?_) | refine wIf (fun xx hx => ?_) | refine wReg (fun xx hx => ?_) | (refine wRet ?_; (try simp only [thenQ, blockQ]); refine ends_by (fun xx hx => ?_))); have hc := trivial; (repeat' (simp only [hc, go_sem, Nat.reduceAdd, Nat.reduceMul, Nat.reduceSub, Nat.reduceEqDiff, Nat.reduceLT, Nat.reduceLeDiff, Int.reduceEq, Int.reduceLT, Int.reduceLE, reduceIte, aresults, aresult, hp0, hsz', hl] at hx; (try (rw [guardL_if] at hx; split at hx <;> rename_i hc)))); all_goals (subst hx; first | (refine ⟨_, rfl, fun ht => ?_, fun ht => ?_⟩ <;> (try simp only [Bool.not_eq_true', Bool.not_eq_false', Bool.and_eq_true, Bool.and_eq_false_iff, Bool.or_eq_true, Bool.or_eq_false_iff, decide_eq_true_eq, decide_eq_false_iff_not, beq_iff_eq, bne_iff_ne, Bool.not_true, Bool.not_false, Bool.true_eq_false, Bool.false_eq_true, ne_eq, Decidable.not_not, inB_t, inB_f] at ht)) | (refine ⟨_, rfl, ?_⟩; (try simp only [tupOf])))) | refine wSkip ?_ | (refine wExit ?_; simp only [thenQ, blockQ, reduceIte, Nat.reduceEqDiff]) | refine wSeq ?_ | refine wBlock ?_)
    all_goals (refine gives_intv ?_; rfl)
  · obtain ⟨c, r, hcr⟩ := List.exists_cons_of_ne_nil hne
    have hln : l.length = r.length + 1 := by rw [hcr]; rfl
    have g0 : z.data.toList[0]? = some c := by rw [hl, hcr]; rfl
    have h48 : (c.toNat : Int) = 48 → c = 48 := by
      intro h; exact UInt8.toNat_inj.1 (by have : (48 : UInt8).toNat = 48 := rfl; omega)
    repeat' (first | ((first | refine wSeqr (fun xx hx => ?_) | refine wIf (fun xx hx => ?_) | refine wReg (fun xx hx => ?_) | (refine wRet ?_; (try simp only [thenQ, blockQ]); refine ends_by (fun xx hx => ?_))); have hc := trivial; (repeat' (simp only [hc, go_sem, Nat.reduceAdd, Nat.reduceMul, Nat.reduceSub, Nat.reduceEqDiff, Nat.reduceLT, Nat.reduceLeDiff, Int.reduceEq, Int.reduceLT, Int.reduceLE, reduceIte, aresults, aresult, hp0, hsz, g0] at hx; (try (rw [guardL_if] at hx; split at hx <;> rename_i hc)))); all_goals (subst hx; first | (refine ⟨_, rfl, fun ht => ?_, fun ht => ?_⟩ <;> (try simp only [Bool.not_eq_true', Bool.not_eq_false', Bool.and_eq_true, Bool.and_eq_false_iff, Bool.or_eq_true, Bool.or_eq_false_iff, decide_eq_true_eq, decide_eq_false_iff_not, beq_iff_eq, bne_iff_ne, Bool.not_true, Bool.not_false, Bool.true_eq_false, Bool.false_eq_true, ne_eq, Decidable.not_not, inB_t, inB_f] at ht)) | (refine ⟨_, rfl, ?_⟩; (try simp only [tupOf])))) | refine wSkip ?_ | (refine wExit ?_; simp only [thenQ, blockQ, reduceIte, Nat.reduceEqDiff]) | refine wSeq ?_ | refine wBlock ?_)
    all_goals (try simp only [Bool.not_eq_true', Bool.not_eq_false', Bool.and_eq_true, Bool.and_eq_false_iff, Bool.or_eq_true, Bool.or_eq_false_iff, decide_eq_true_eq, decide_eq_false_iff_not, beq_iff_eq, bne_iff_ne, Bool.not_true, Bool.not_false, Bool.true_eq_false, Bool.false_eq_true, ne_eq, Decidable.not_not, inB_t, inB_f] at *)
    all_goals try (exfalso; omega)
    all_goals try (refine gives_intv ?_; unfold numOf; rw [if_neg]; first
      | (omega)
      | (have h4 := h48 (by assumption); rw [hcr]; exact canon0 h4 (by omega)))
    all_goals
      have hcan : l.length ≤ 1 ∨ l.head? ≠ some 48 := by
        first
        | (left; omega)
        | (right; intro h; rw [hcr] at h; simp only [List.head?_cons, Option.some.injEq] at h; subst h; exact absurd (show ((48 : UInt8).toNat : Int) = 48 from rfl) (by assumption))
      have hlen : l.length ≤ 7 := by omega
      refine wLoop (fun k s => ∃ (j : Nat), j + k = l.length ∧ s.1 0 = .v (.string z) ∧ s.1 3 = .v (.int .i64 ((vdA 0 (l.take j) : Nat) : Int)) ∧ s.1 4 = .v (.int .i64 (j : Nat)) ∧ ((l.take j).all isDg = true)) (fun k s hI => ?_) (l.length) _ ?_
      · obtain ⟨e, H⟩ := s
        obtain ⟨j, hj, h0, h3, h4, hd⟩ := hI
        simp only at h0 h3 h4 hd
        have hv := vdA_lt _ 0 hd
        have hv2 : vdA 0 (l.take j) < 10000000 := by
          have : 10 ^ (l.take j).length ≤ 10 ^ 7 := Nat.pow_le_pow_right (by decide) (by simp only [List.length_take]; omega)
          omega
        by_cases hlt : j < l.length
        · obtain ⟨k, hg, hdr, hm⟩ := at_drop hlt
          have hg' : z.data.toList[j]? = some k := by rw [hl]; exact hg
          have hk := UInt8.toNat_lt k
          have htk : l.take (j + 1) = l.take j ++ [k] := by
            rw [List.take_add_one, hg]; rfl
          have w1 : 48 ≤ k.toNat → IntKind.wrap .u8 ((k.toNat : Int) - 48) = (k.toNat : Int) - 48 := fun h => wrap_u8 (by omega) (by omega)
          by_cases hdg : isDg k = true
          · have hdg' := hdg
            simp only [isDg, decide_eq_true_eq] at hdg'
            have w1' := w1 hdg'.1
            have w2 : IntKind.wrap .i64 ((k.toNat : Int) - 48) = (k.toNat : Int) - 48 := wrap_i64 (by omega) (by omega)
            have w3 : IntKind.wrap .i64 ((vdA 0 (l.take j) : Nat) * 10 : Int) = ((vdA 0 (l.take j) : Nat) * 10 : Int) := wrap_i64 (by omega) (by omega)
            have w4 : IntKind.wrap .i64 (((vdA 0 (l.take j) : Nat) : Int) * 10 + ((k.toNat : Int) - 48)) = ((vdA 0 (l.take (j + 1)) : Nat) : Int) := by
              rw [wrap_i64 (by omega) (by omega), htk, vdA_snoc]; omega
            repeat' (first | ((first | refine wSeqr (fun xx hx => ?_) | refine wIf (fun xx hx => ?_) | refine wReg (fun xx hx => ?_) | (refine wRet ?_; (try simp only [thenQ, blockQ]); refine ends_by (fun xx hx => ?_))); have hc := trivial; (repeat' (simp only [hc, go_sem, Nat.reduceAdd, Nat.reduceMul, Nat.reduceSub, Nat.reduceEqDiff, Nat.reduceLT, Nat.reduceLeDiff, Int.reduceEq, Int.reduceLT, Int.reduceLE, reduceIte, aresults, aresult, h0, h3, h4, hp0, hsz, hg', w1', w2, w3, w4, wrap_succ (show j < 9223372036854775807 by omega)] at hx; (try (rw [guardL_if] at hx; split at hx <;> rename_i hc)))); all_goals (subst hx; first | (refine ⟨_, rfl, fun ht => ?_, fun ht => ?_⟩ <;> (try simp only [Bool.not_eq_true', Bool.not_eq_false', Bool.and_eq_true, Bool.and_eq_false_iff, Bool.or_eq_true, Bool.or_eq_false_iff, decide_eq_true_eq, decide_eq_false_iff_not, beq_iff_eq, bne_iff_ne, Bool.not_true, Bool.not_false, Bool.true_eq_false, Bool.false_eq_true, ne_eq, Decidable.not_not, inB_t, inB_f] at ht)) | (refine ⟨_, rfl, ?_⟩; (try simp only [tupOf])))) | refine wSkip ?_ | (refine wExit ?_; simp only [thenQ, blockQ, reduceIte, Nat.reduceEqDiff]) | refine wSeq ?_ | refine wBlock ?_)
            all_goals first
              | (exfalso; (try simp only [Bool.not_eq_true', Bool.not_eq_false', Bool.and_eq_true, Bool.and_eq_false_iff, Bool.or_eq_true, Bool.or_eq_false_iff, decide_eq_true_eq, decide_eq_false_iff_not, beq_iff_eq, bne_iff_ne, Bool.not_true, Bool.not_false, Bool.true_eq_false, Bool.false_eq_true, ne_eq, Decidable.not_not, inB_t, inB_f] at *); omega)
              | skip
            refine ⟨_, Nat.sub_lt (by omega) Nat.one_pos, j + 1, by omega, by simp only [upd_eq, Nat.reduceEqDiff, if_false, if_true, h0, h3, h4], by simp only [upd_eq, Nat.reduceEqDiff, if_false, if_true, h0, h3, h4], by simp only [upd_eq, Nat.reduceEqDiff, if_false, if_true, h0, h3, h4], ?_⟩
            rw [htk, List.all_append, hd]; simp [hdg]
          · have hcf : canon l = false := canon_nd hm (by simpa using hdg)
            have hdg' : ¬ (48 ≤ k.toNat ∧ k.toNat ≤ 57) := by simpa [isDg] using hdg
            repeat' (first | ((first | refine wSeqr (fun xx hx => ?_) | refine wIf (fun xx hx => ?_) | refine wReg (fun xx hx => ?_) | (refine wRet ?_; (try simp only [thenQ, blockQ]); refine ends_by (fun xx hx => ?_))); have hc := trivial; (repeat' (simp only [hc, go_sem, Nat.reduceAdd, Nat.reduceMul, Nat.reduceSub, Nat.reduceEqDiff, Nat.reduceLT, Nat.reduceLeDiff, Int.reduceEq, Int.reduceLT, Int.reduceLE, reduceIte, aresults, aresult, h0, h3, h4, hp0, hsz, hg'] at hx; (try (rw [guardL_if] at hx; split at hx <;> rename_i hc)))); all_goals (subst hx; first | (refine ⟨_, rfl, fun ht => ?_, fun ht => ?_⟩ <;> (try simp only [Bool.not_eq_true', Bool.not_eq_false', Bool.and_eq_true, Bool.and_eq_false_iff, Bool.or_eq_true, Bool.or_eq_false_iff, decide_eq_true_eq, decide_eq_false_iff_not, beq_iff_eq, bne_iff_ne, Bool.not_true, Bool.not_false, Bool.true_eq_false, Bool.false_eq_true, ne_eq, Decidable.not_not, inB_t, inB_f] at ht)) | (refine ⟨_, rfl, ?_⟩; (try simp only [tupOf])))) | refine wSkip ?_ | (refine wExit ?_; simp only [thenQ, blockQ, reduceIte, Nat.reduceEqDiff]) | refine wSeq ?_ | refine wBlock ?_)
            all_goals first
              | (refine gives_intv ?_; rw [numOf_nd hcf]; done)
              | (exfalso; (try simp only [Bool.not_eq_true', Bool.not_eq_false', Bool.and_eq_true, Bool.and_eq_false_iff, Bool.or_eq_true, Bool.or_eq_false_iff, decide_eq_true_eq, decide_eq_false_iff_not, beq_iff_eq, bne_iff_ne, Bool.not_true, Bool.not_false, Bool.true_eq_false, Bool.false_eq_true, ne_eq, Decidable.not_not, inB_t, inB_f] at *); omega)
        · have hj' : j = l.length := by omega
          repeat' (first | ((first | refine wSeqr (fun xx hx => ?_) | refine wIf (fun xx hx => ?_) | refine wReg (fun xx hx => ?_) | (refine wRet ?_; (try simp only [thenQ, blockQ]); refine ends_by (fun xx hx => ?_))); have hc := trivial; (repeat' (simp only [hc, go_sem, Nat.reduceAdd, Nat.reduceMul, Nat.reduceSub, Nat.reduceEqDiff, Nat.reduceLT, Nat.reduceLeDiff, Int.reduceEq, Int.reduceLT, Int.reduceLE, reduceIte, aresults, aresult, h0, h3, h4, hp0, hsz] at hx; (try (rw [guardL_if] at hx; split at hx <;> rename_i hc)))); all_goals (subst hx; first | (refine ⟨_, rfl, fun ht => ?_, fun ht => ?_⟩ <;> (try simp only [Bool.not_eq_true', Bool.not_eq_false', Bool.and_eq_true, Bool.and_eq_false_iff, Bool.or_eq_true, Bool.or_eq_false_iff, decide_eq_true_eq, decide_eq_false_iff_not, beq_iff_eq, bne_iff_ne, Bool.not_true, Bool.not_false, Bool.true_eq_false, Bool.false_eq_true, ne_eq, Decidable.not_not, inB_t, inB_f] at ht)) | (refine ⟨_, rfl, ?_⟩; (try simp only [tupOf])))) | refine wSkip ?_ | (refine wExit ?_; simp only [thenQ, blockQ, reduceIte, Nat.reduceEqDiff]) | refine wSeq ?_ | refine wBlock ?_)
          all_goals first
            | (exfalso; (try simp only [Bool.not_eq_true', Bool.not_eq_false', Bool.and_eq_true, Bool.and_eq_false_iff, Bool.or_eq_true, Bool.or_eq_false_iff, decide_eq_true_eq, decide_eq_false_iff_not, beq_iff_eq, bne_iff_ne, Bool.not_true, Bool.not_false, Bool.true_eq_false, Bool.false_eq_true, ne_eq, Decidable.not_not, inB_t, inB_f] at *); omega)
            | skip
          refine gives_intv ?_
          rw [hj', List.take_length] at hd ⊢
          unfold numOf
          rw [if_pos]
          refine ⟨?_, hlen⟩
          exact canon_of hne hd hcan
      · refine ⟨0, by omega, rfl, rfl, rfl, ?_⟩
        rfl
theorem c_sl14Number (z : ByteArray) : ∀ H, call Tryd.prog cfg0 0 49 [.v (.string z)] H = some (.v (.int .i64 (numOf 7 z.data.toList)), H) :=
  call_fz Tryd.func49 rfl ok_sl14Number rfl (by simp only [fz_cons, fz_nil, go_sem, and_self]) (p_sl14Number z)

end
end Go.Proofs.YtmncdkecpnoogaaDoor
