/- Contracts: copies of rings, new rings, configs. -/
import Derived.Test.YtmobkpfalcfepaaK2
namespace Go.Proofs.Ytmobkpfalcfepaa
open Go Go.RowKit Go.Proofs.Ytmobkpfalcfepaa.Eng
set_option linter.unusedSimpArgs false
set_option linter.unusedVariables false
set_option maxRecDepth 100000
noncomputable section
/-! Places by a callee's word. -/
def idxFrom {α : Type} (p : α → Bool) : List α → Nat → Int
  | [], _ => -1
  | k :: r, j => if p k = true then j else idxFrom p r (j + 1)
theorem idx_find (id : Int) : ∀ (l : List KeyM) (j : Nat), idxFrom (fun k => decide (k.Id = id)) l j = findFrom l id j := by
  intro l
  induction l with
  | nil => intro j; rfl
  | cons k r ih => intro j; simp only [idxFrom, findFrom, ih, decide_eq_true_eq]
theorem ok_IndexKey : fnOk Try.prog cfg0 219 Try.f219 = true := by kernel_rfl
theorem p_IndexKey (ks : List KeyM) (f : Nat) (caps : List AV) (hcap : ∀ x ∈ caps, Fz 11 x) (p : KeyM → Bool) (hl : ks.length ≤ 1048576) (hf : ∀ k ∈ ks, ∀ H, call Try.prog cfg0 0 f (.agg [.v (.int .i64 k.Id), bytesL k.Bytes] :: caps) H = some (.v (.bool (p k)), H)) : pure Try.prog cfg0 219 Try.f219 [.lst false (ks.map encKey), .fn f caps] = some (.v (.int .i64 (idxFrom p ks 0)), true) := by
  refine pure_wp (rs := [.tmp 4]) rfl rfl ?_
  repeat' (first | ((first | refine wSeqr (fun xx hx => ?_) | refine wIf (fun xx hx => ?_) | refine wReg (fun xx hx => ?_) | (refine wRet ?_; (try simp only [thenQ, blockQ]); refine ends_by (fun xx hx => ?_))); have hc := trivial; (repeat' (simp only [hc, go_sem, Nat.reduceAdd, Nat.reduceMul, Nat.reduceSub, Nat.reduceEqDiff, Nat.reduceLT, Nat.reduceLeDiff, Int.reduceEq, Int.reduceLT, Int.reduceLE, reduceIte, aresults, aresult, List.length_map] at hx; (try (rw [guardL_if] at hx; split at hx <;> rename_i hc)))); all_goals (subst hx; first | (refine ⟨_, rfl, fun ht => ?_, fun ht => ?_⟩ <;> (try simp only [Bool.not_eq_true', Bool.not_eq_false', Bool.and_eq_true, Bool.and_eq_false_iff, Bool.or_eq_true, Bool.or_eq_false_iff, decide_eq_true_eq, decide_eq_false_iff_not, beq_iff_eq, bne_iff_ne, Bool.not_true, Bool.not_false, Bool.true_eq_false, Bool.false_eq_true, ne_eq, Decidable.not_not, inB_t, inB_f] at ht)) | (refine ⟨_, rfl, ?_⟩; (try simp only [tupOf])))) | refine wSkip ?_ | (refine wExit ?_; simp only [thenQ, blockQ, reduceIte, Nat.reduceEqDiff]) | refine wSeq ?_ | refine wBlock ?_)
  refine wLoop (fun k s => ∃ (j : Nat), j + k = ks.length ∧ s.1 0 = .lst false (ks.map encKey) ∧ s.1 1 = .fn f caps ∧ s.1 7 = .v (.int .i64 (ks.length : Nat)) ∧ s.1 8 = .v (.int .i64 (j : Nat)) ∧ (idxFrom p (ks.drop j) j = idxFrom p ks 0)) (fun k s hI => ?_) (ks.length) _ ?_
  · obtain ⟨e, H⟩ := s
    obtain ⟨j, hj, h0, h1, h7, h8, hi⟩ := hI
    simp only at h0 h1 h7 h8 hi
    repeat' (first | ((first | refine wSeqr (fun xx hx => ?_) | refine wIf (fun xx hx => ?_) | refine wReg (fun xx hx => ?_) | (refine wRet ?_; (try simp only [thenQ, blockQ]); refine ends_by (fun xx hx => ?_))); have hc := trivial; (repeat' (simp only [hc, go_sem, Nat.reduceAdd, Nat.reduceMul, Nat.reduceSub, Nat.reduceEqDiff, Nat.reduceLT, Nat.reduceLeDiff, Int.reduceEq, Int.reduceLT, Int.reduceLE, reduceIte, aresults, aresult, h0, h1, h7, h8] at hx; (try (rw [guardL_if] at hx; split at hx <;> rename_i hc)))); all_goals (subst hx; first | (refine ⟨_, rfl, fun ht => ?_, fun ht => ?_⟩ <;> (try simp only [Bool.not_eq_true', Bool.not_eq_false', Bool.and_eq_true, Bool.and_eq_false_iff, Bool.or_eq_true, Bool.or_eq_false_iff, decide_eq_true_eq, decide_eq_false_iff_not, beq_iff_eq, bne_iff_ne, Bool.not_true, Bool.not_false, Bool.true_eq_false, Bool.false_eq_true, ne_eq, Decidable.not_not, inB_t, inB_f] at ht)) | (refine ⟨_, rfl, ?_⟩; (try simp only [tupOf])))) | refine wSkip ?_ | (refine wExit ?_; simp only [thenQ, blockQ, reduceIte, Nat.reduceEqDiff]) | refine wSeq ?_ | refine wBlock ?_)
    · have hlt : j < ks.length := by omega
      obtain ⟨k, hg, hd, hm⟩ := at_drop hlt
      have hg' := map_at (f := encKey) hg
      have hfk := hf k hm
      rw [hd, idxFrom] at hi
      repeat' (first | ((first | refine wSeqr (fun xx hx => ?_) | refine wIf (fun xx hx => ?_) | refine wReg (fun xx hx => ?_) | (refine wRet ?_; (try simp only [thenQ, blockQ]); refine ends_by (fun xx hx => ?_))); have hc := trivial; (repeat' (simp only [hc, go_sem, Nat.reduceAdd, Nat.reduceMul, Nat.reduceSub, Nat.reduceEqDiff, Nat.reduceLT, Nat.reduceLeDiff, Int.reduceEq, Int.reduceLT, Int.reduceLE, reduceIte, aresults, aresult, h0, h1, h8, hg', hp0, hfk, List.cons_append, List.nil_append, wrap_succ (show j < 9223372036854775807 by omega)] at hx; (try (rw [guardL_if] at hx; split at hx <;> rename_i hc)))); all_goals (subst hx; first | (refine ⟨_, rfl, fun ht => ?_, fun ht => ?_⟩ <;> (try simp only [Bool.not_eq_true', Bool.not_eq_false', Bool.and_eq_true, Bool.and_eq_false_iff, Bool.or_eq_true, Bool.or_eq_false_iff, decide_eq_true_eq, decide_eq_false_iff_not, beq_iff_eq, bne_iff_ne, Bool.not_true, Bool.not_false, Bool.true_eq_false, Bool.false_eq_true, ne_eq, Decidable.not_not, inB_t, inB_f] at ht)) | (refine ⟨_, rfl, ?_⟩; (try simp only [tupOf])))) | refine wSkip ?_ | (refine wExit ?_; simp only [thenQ, blockQ, reduceIte, Nat.reduceEqDiff]) | refine wSeq ?_ | refine wBlock ?_)
      · rw [if_pos ht] at hi; rw [← hi]; exact ⟨rfl, rfl⟩
      · rw [if_neg (by rw [ht]; simp)] at hi
        refine ⟨_, Nat.sub_lt (by omega) Nat.one_pos, j + 1, by omega, by simp only [upd_eq, Nat.reduceEqDiff, if_false, if_true, h0, h1, h7, h8], by simp only [upd_eq, Nat.reduceEqDiff, if_false, if_true, h0, h1, h7, h8], by simp only [upd_eq, Nat.reduceEqDiff, if_false, if_true, h0, h1, h7, h8], by simp only [upd_eq, Nat.reduceEqDiff, if_false, if_true, h0, h1, h7, h8], ?_⟩; exact hi
    · rw [List.drop_of_length_le (by omega)] at hi
      repeat' (first | ((first | refine wSeqr (fun xx hx => ?_) | refine wIf (fun xx hx => ?_) | refine wReg (fun xx hx => ?_) | (refine wRet ?_; (try simp only [thenQ, blockQ]); refine ends_by (fun xx hx => ?_))); have hc := trivial; (repeat' (simp only [hc, go_sem, Nat.reduceAdd, Nat.reduceMul, Nat.reduceSub, Nat.reduceEqDiff, Nat.reduceLT, Nat.reduceLeDiff, Int.reduceEq, Int.reduceLT, Int.reduceLE, reduceIte, aresults, aresult] at hx; (try (rw [guardL_if] at hx; split at hx <;> rename_i hc)))); all_goals (subst hx; first | (refine ⟨_, rfl, fun ht => ?_, fun ht => ?_⟩ <;> (try simp only [Bool.not_eq_true', Bool.not_eq_false', Bool.and_eq_true, Bool.and_eq_false_iff, Bool.or_eq_true, Bool.or_eq_false_iff, decide_eq_true_eq, decide_eq_false_iff_not, beq_iff_eq, bne_iff_ne, Bool.not_true, Bool.not_false, Bool.true_eq_false, Bool.false_eq_true, ne_eq, Decidable.not_not, inB_t, inB_f] at ht)) | (refine ⟨_, rfl, ?_⟩; (try simp only [tupOf])))) | refine wSkip ?_ | (refine wExit ?_; simp only [thenQ, blockQ, reduceIte, Nat.reduceEqDiff]) | refine wSeq ?_ | refine wBlock ?_)
      rw [← hi]; exact ⟨rfl, rfl⟩
  · refine ⟨0, by omega, rfl, rfl, rfl, rfl, ?_⟩; rfl
theorem c_IndexKey (ks : List KeyM) (f : Nat) (caps : List AV) (hcap : ∀ x ∈ caps, Fz 11 x) (p : KeyM → Bool) (hl : ks.length ≤ 1048576) (hf : ∀ k ∈ ks, ∀ H, call Try.prog cfg0 0 f (.agg [.v (.int .i64 k.Id), bytesL k.Bytes] :: caps) H = some (.v (.bool (p k)), H)) : ∀ H, call Try.prog cfg0 0 219 [.lst false (ks.map encKey), .fn f caps] H = some (.v (.int .i64 (idxFrom p ks 0)), H) :=
  call_fz Try.func219 rfl ok_IndexKey rfl (by simp only [fz_cons, fz_nil, go_sem, fz_fnc hcap f, and_self]) (p_IndexKey ks f caps hcap p hl hf)

theorem ok_place1 : fnOk Try.prog cfg0 220 Try.f220 = true := by kernel_rfl
theorem p_place1 (k : KeyM) (id : Int) : pure Try.prog cfg0 220 Try.f220 [.agg [.v (.int .i64 k.Id), bytesL k.Bytes], .fp [.v (.int .i64 id)] 0] = some (.v (.bool (decide (k.Id = id))), true) := by
  refine pure_wp (rs := [.tmp 3]) rfl rfl ?_
  repeat' (first | ((first | refine wSeqr (fun xx hx => ?_) | refine wIf (fun xx hx => ?_) | refine wReg (fun xx hx => ?_) | (refine wRet ?_; (try simp only [thenQ, blockQ]); refine ends_by (fun xx hx => ?_))); have hc := trivial; (repeat' (simp only [hc, go_sem, Nat.reduceAdd, Nat.reduceMul, Nat.reduceSub, Nat.reduceEqDiff, Nat.reduceLT, Nat.reduceLeDiff, Int.reduceEq, Int.reduceLT, Int.reduceLE, reduceIte, aresults, aresult] at hx; (try (rw [guardL_if] at hx; split at hx <;> rename_i hc)))); all_goals (subst hx; first | (refine ⟨_, rfl, fun ht => ?_, fun ht => ?_⟩ <;> (try simp only [Bool.not_eq_true', Bool.not_eq_false', Bool.and_eq_true, Bool.and_eq_false_iff, Bool.or_eq_true, Bool.or_eq_false_iff, decide_eq_true_eq, decide_eq_false_iff_not, beq_iff_eq, bne_iff_ne, Bool.not_true, Bool.not_false, Bool.true_eq_false, Bool.false_eq_true, ne_eq, Decidable.not_not, inB_t, inB_f] at ht)) | (refine ⟨_, rfl, ?_⟩; (try simp only [tupOf])))) | refine wSkip ?_ | (refine wExit ?_; simp only [thenQ, blockQ, reduceIte, Nat.reduceEqDiff]) | refine wSeq ?_ | refine wBlock ?_)
  exact ⟨rfl, rfl⟩
theorem c_place1 (k : KeyM) (id : Int) : ∀ H, call Try.prog cfg0 0 220 [.agg [.v (.int .i64 k.Id), bytesL k.Bytes], .fp [.v (.int .i64 id)] 0] H = some (.v (.bool (decide (k.Id = id))), H) :=
  call_fz Try.func220 rfl ok_place1 rfl (by simp only [fz_cons, fz_nil, go_sem, and_self]) (p_place1 k id)

open Classical in
theorem cp_IndexPlace (ks : List KeyM) (id : Int) (hl : ks.length ≤ 1048576) : ∀ H b, call Try.prog cfg0 0 219 [.lst false (ks.map encKey), .fn 220 [.ptr b 0]] H =
    if H.h b = some [.v (.int .i64 id)] then some (.v (.int .i64 (findId ks id)), H) else call' Try.prog cfg0 0 219 [.lst false (ks.map encKey), .fn 220 [.ptr b 0]] H := by
  intro H b
  have hz : ∀ x ∈ [AV.fp [.v (.int .i64 id)] 0], Fz 11 x := by
    intro x hx; simp only [List.mem_singleton] at hx; subst hx
    exact Fz.fp (n := 10) fun y hy => by simp only [List.mem_singleton] at hy; subst hy; exact Fz.int _ _ _
  have hp := p_IndexKey ks 220 [.fp [.v (.int .i64 id)] 0] hz (fun k => decide (k.Id = id)) hl fun k _ H => c_place1 k id H
  rw [idx_find] at hp
  refine call_if Try.func219 rfl ok_IndexKey rfl (fun hC => ?_) hp
  exact mapM_c ((fzL_Key ks).1 H) (mapM_c (deep_fn (mapM_c (deep_p1 hC (Fz.int _ _ _)) mapM_n)) mapM_n)
theorem ok_iRing_place : fnOk Try.prog cfg0 202 Try.f202 = true := by kernel_rfl
theorem p_iRing_place (r : RingM) (id : Int) (hl : r.Keys.length ≤ 1048576) : pure Try.prog cfg0 202 Try.f202 [.agg [.v (.int .i64 r.Primary), .lst false (r.Keys.map encKey)], .v (.int .i64 id)] = some (.v (.int .i64 (findId r.Keys id)), true) := by
  refine pure_wp (rs := [.tmp 4]) rfl rfl ?_
  repeat' (first | ((first | refine wSeqr (fun xx hx => ?_) | refine wIf (fun xx hx => ?_) | refine wReg (fun xx hx => ?_) | (refine wRet ?_; (try simp only [thenQ, blockQ]); refine ends_by (fun xx hx => ?_))); have hc := trivial; (repeat' (simp only [hc, go_sem, Nat.reduceAdd, Nat.reduceMul, Nat.reduceSub, Nat.reduceEqDiff, Nat.reduceLT, Nat.reduceLeDiff, Int.reduceEq, Int.reduceLT, Int.reduceLE, reduceIte, aresults, aresult, hp0, cp_IndexPlace r.Keys id hl, List.size_toArray, List.length_nil] at hx; (try (rw [guardL_if] at hx; split at hx <;> rename_i hc)))); all_goals (subst hx; first | (refine ⟨_, rfl, fun ht => ?_, fun ht => ?_⟩ <;> (try simp only [Bool.not_eq_true', Bool.not_eq_false', Bool.and_eq_true, Bool.and_eq_false_iff, Bool.or_eq_true, Bool.or_eq_false_iff, decide_eq_true_eq, decide_eq_false_iff_not, beq_iff_eq, bne_iff_ne, Bool.not_true, Bool.not_false, Bool.true_eq_false, Bool.false_eq_true, ne_eq, Decidable.not_not, inB_t, inB_f] at ht)) | (refine ⟨_, rfl, ?_⟩; (try simp only [tupOf])))) | refine wSkip ?_ | (refine wExit ?_; simp only [thenQ, blockQ, reduceIte, Nat.reduceEqDiff]) | refine wSeq ?_ | refine wBlock ?_)
  exact ⟨rfl, rfl⟩
theorem c_iRing_place (r : RingM) (id : Int) (hl : r.Keys.length ≤ 1048576) : ∀ H, call Try.prog cfg0 0 202 [.agg [.v (.int .i64 r.Primary), .lst false (r.Keys.map encKey)], .v (.int .i64 id)] H = some (.v (.int .i64 (findId r.Keys id)), H) :=
  call_fz Try.func202 rfl ok_iRing_place rfl (by simp only [fz_cons, fz_nil, go_sem, and_self]) (p_iRing_place r id hl)

end
end Go.Proofs.Ytmobkpfalcfepaa
