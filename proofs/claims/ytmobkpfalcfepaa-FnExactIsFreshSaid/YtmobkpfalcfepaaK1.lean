/- Contracts: ranges, keys. -/
import Derived.Test.YtmobkpfalcfepaaK0
namespace Go.Proofs.Ytmobkpfalcfepaa
open Go Go.RowKit Go.Proofs.Ytmobkpfalcfepaa.Eng
set_option linter.unusedSimpArgs false
set_option linter.unusedVariables false
set_option maxRecDepth 100000
noncomputable section
theorem ok_sl1In : fnOk Try.prog cfg0 75 Try.f75 = true := by kernel_rfl
theorem p_sl1In (a lo hi : Int) : pure Try.prog cfg0 75 Try.f75 [.v (.int .i64 a), .v (.int .i64 lo), .v (.int .i64 hi)] = some (.v (.bool (inB a lo hi)), true) := by
  refine pure_wp (rs := [.tmp 6]) rfl rfl ?_
  repeat' (first | ((first | refine wSeqr (fun xx hx => ?_) | refine wIf (fun xx hx => ?_) | refine wReg (fun xx hx => ?_) | (refine wRet ?_; (try simp only [thenQ, blockQ]); refine ends_by (fun xx hx => ?_))); have hc := trivial; (repeat' (simp only [hc, go_sem, Nat.reduceAdd, Nat.reduceMul, Nat.reduceSub, Nat.reduceEqDiff, Nat.reduceLT, Nat.reduceLeDiff, Int.reduceEq, Int.reduceLT, Int.reduceLE, reduceIte, aresults, aresult] at hx; (try (rw [guardL_if] at hx; split at hx <;> rename_i hc)))); all_goals (subst hx; first | (refine ⟨_, rfl, fun ht => ?_, fun ht => ?_⟩ <;> (try simp only [Bool.not_eq_true', Bool.not_eq_false', Bool.and_eq_true, Bool.and_eq_false_iff, Bool.or_eq_true, Bool.or_eq_false_iff, decide_eq_true_eq, decide_eq_false_iff_not, beq_iff_eq, bne_iff_ne, Bool.not_true, Bool.not_false, Bool.true_eq_false, Bool.false_eq_true, ne_eq, Decidable.not_not, inB_t, inB_f] at ht)) | (refine ⟨_, rfl, ?_⟩; (try simp only [tupOf])))) | refine wSkip ?_ | (refine wExit ?_; simp only [thenQ, blockQ, reduceIte, Nat.reduceEqDiff]) | refine wSeq ?_ | refine wBlock ?_)
  all_goals (refine gives_boolv ?_; simp [inB, *])
theorem c_sl1In (a lo hi : Int) : ∀ H, call Try.prog cfg0 0 75 [.v (.int .i64 a), .v (.int .i64 lo), .v (.int .i64 hi)] H = some (.v (.bool (inB a lo hi)), H) :=
  call_fz Try.func75 rfl ok_sl1In rfl (by simp only [fz_cons, fz_nil, go_sem, and_self]) (p_sl1In a lo hi)

theorem ok_iin : fnOk Try.prog cfg0 79 Try.f79 = true := by kernel_rfl
theorem p_iin (a lo hi : Int) : pure Try.prog cfg0 79 Try.f79 [.v (.int .i64 a), .v (.int .i64 lo), .v (.int .i64 hi)] = some (.v (.bool (inB a lo hi)), true) := by
  refine pure_wp (rs := [.tmp 6]) rfl rfl ?_
  repeat' (first | ((first | refine wSeqr (fun xx hx => ?_) | refine wIf (fun xx hx => ?_) | refine wReg (fun xx hx => ?_) | (refine wRet ?_; (try simp only [thenQ, blockQ]); refine ends_by (fun xx hx => ?_))); have hc := trivial; (repeat' (simp only [hc, go_sem, Nat.reduceAdd, Nat.reduceMul, Nat.reduceSub, Nat.reduceEqDiff, Nat.reduceLT, Nat.reduceLeDiff, Int.reduceEq, Int.reduceLT, Int.reduceLE, reduceIte, aresults, aresult] at hx; (try (rw [guardL_if] at hx; split at hx <;> rename_i hc)))); all_goals (subst hx; first | (refine ⟨_, rfl, fun ht => ?_, fun ht => ?_⟩ <;> (try simp only [Bool.not_eq_true', Bool.not_eq_false', Bool.and_eq_true, Bool.and_eq_false_iff, Bool.or_eq_true, Bool.or_eq_false_iff, decide_eq_true_eq, decide_eq_false_iff_not, beq_iff_eq, bne_iff_ne, Bool.not_true, Bool.not_false, Bool.true_eq_false, Bool.false_eq_true, ne_eq, Decidable.not_not, inB_t, inB_f] at ht)) | (refine ⟨_, rfl, ?_⟩; (try simp only [tupOf])))) | refine wSkip ?_ | (refine wExit ?_; simp only [thenQ, blockQ, reduceIte, Nat.reduceEqDiff]) | refine wSeq ?_ | refine wBlock ?_)
  all_goals (refine gives_boolv ?_; simp [inB, *])
theorem c_iin (a lo hi : Int) : ∀ H, call Try.prog cfg0 0 79 [.v (.int .i64 a), .v (.int .i64 lo), .v (.int .i64 hi)] H = some (.v (.bool (inB a lo hi)), H) :=
  call_fz Try.func79 rfl ok_iin rfl (by simp only [fz_cons, fz_nil, go_sem, and_self]) (p_iin a lo hi)

theorem ok_iisKeyId : fnOk Try.prog cfg0 139 Try.f139 = true := by kernel_rfl
theorem p_iisKeyId (a : Int) : pure Try.prog cfg0 139 Try.f139 [.v (.int .i64 a)] = some (.v (.bool (inB a 1 255)), true) := by
  refine pure_wp (rs := [.tmp 2]) rfl rfl ?_
  repeat' (first | ((first | refine wSeqr (fun xx hx => ?_) | refine wIf (fun xx hx => ?_) | refine wReg (fun xx hx => ?_) | (refine wRet ?_; (try simp only [thenQ, blockQ]); refine ends_by (fun xx hx => ?_))); have hc := trivial; (repeat' (simp only [hc, go_sem, Nat.reduceAdd, Nat.reduceMul, Nat.reduceSub, Nat.reduceEqDiff, Nat.reduceLT, Nat.reduceLeDiff, Int.reduceEq, Int.reduceLT, Int.reduceLE, reduceIte, aresults, aresult, hp0, c_iin] at hx; (try (rw [guardL_if] at hx; split at hx <;> rename_i hc)))); all_goals (subst hx; first | (refine ⟨_, rfl, fun ht => ?_, fun ht => ?_⟩ <;> (try simp only [Bool.not_eq_true', Bool.not_eq_false', Bool.and_eq_true, Bool.and_eq_false_iff, Bool.or_eq_true, Bool.or_eq_false_iff, decide_eq_true_eq, decide_eq_false_iff_not, beq_iff_eq, bne_iff_ne, Bool.not_true, Bool.not_false, Bool.true_eq_false, Bool.false_eq_true, ne_eq, Decidable.not_not, inB_t, inB_f] at ht)) | (refine ⟨_, rfl, ?_⟩; (try simp only [tupOf])))) | refine wSkip ?_ | (refine wExit ?_; simp only [thenQ, blockQ, reduceIte, Nat.reduceEqDiff]) | refine wSeq ?_ | refine wBlock ?_)
  exact ⟨rfl, rfl⟩
theorem c_iisKeyId (a : Int) : ∀ H, call Try.prog cfg0 0 139 [.v (.int .i64 a)] H = some (.v (.bool (inB a 1 255)), H) :=
  call_fz Try.func139 rfl ok_iisKeyId rfl (by simp only [fz_cons, fz_nil, go_sem, and_self]) (p_iisKeyId a)

def keyFault (k : KeyM) : Int := if ¬ (1 ≤ k.Id ∧ k.Id ≤ 255) then 3 else if k.Bytes.length ≠ 16 then 2 else 0
theorem ok_iKey_fault : fnOk Try.prog cfg0 201 Try.f201 = true := by kernel_rfl
theorem p_iKey_fault (k : KeyM) : pure Try.prog cfg0 201 Try.f201 [.agg [.v (.int .i64 k.Id), bytesL k.Bytes]] = some (.v (.int .i64 (keyFault k)), true) := by
  refine pure_wp (rs := [.tmp 2]) rfl rfl ?_
  repeat' (first | ((first | refine wSeqr (fun xx hx => ?_) | refine wIf (fun xx hx => ?_) | refine wReg (fun xx hx => ?_) | (refine wRet ?_; (try simp only [thenQ, blockQ]); refine ends_by (fun xx hx => ?_))); have hc := trivial; (repeat' (simp only [hc, go_sem, Nat.reduceAdd, Nat.reduceMul, Nat.reduceSub, Nat.reduceEqDiff, Nat.reduceLT, Nat.reduceLeDiff, Int.reduceEq, Int.reduceLT, Int.reduceLE, reduceIte, aresults, aresult, hp0, c_iisKeyId] at hx; (try (rw [guardL_if] at hx; split at hx <;> rename_i hc)))); all_goals (subst hx; first | (refine ⟨_, rfl, fun ht => ?_, fun ht => ?_⟩ <;> (try simp only [Bool.not_eq_true', Bool.not_eq_false', Bool.and_eq_true, Bool.and_eq_false_iff, Bool.or_eq_true, Bool.or_eq_false_iff, decide_eq_true_eq, decide_eq_false_iff_not, beq_iff_eq, bne_iff_ne, Bool.not_true, Bool.not_false, Bool.true_eq_false, Bool.false_eq_true, ne_eq, Decidable.not_not, inB_t, inB_f] at ht)) | (refine ⟨_, rfl, ?_⟩; (try simp only [tupOf])))) | refine wSkip ?_ | (refine wExit ?_; simp only [thenQ, blockQ, reduceIte, Nat.reduceEqDiff]) | refine wSeq ?_ | refine wBlock ?_)
  all_goals (refine gives_intv ?_; unfold keyFault; (repeat' split) <;> omega)
theorem c_iKey_fault (k : KeyM) : ∀ H, call Try.prog cfg0 0 201 [.agg [.v (.int .i64 k.Id), bytesL k.Bytes]] H = some (.v (.int .i64 (keyFault k)), H) :=
  call_fz Try.func201 rfl ok_iKey_fault rfl (by simp only [fz_cons, fz_nil, go_sem, and_self]) (p_iKey_fault k)

theorem ok_sl4Key : fnOk Try.prog cfg0 199 Try.f199 = true := by kernel_rfl
theorem p_sl4Key (k : KeyM) : pure Try.prog cfg0 199 Try.f199 [.fp [.v (.int .i64 k.Id), bytesL k.Bytes] 0] = some (.v (.int .i64 (keyFault k)), true) := by
  refine pure_wp (rs := [.tmp 2]) rfl rfl ?_
  repeat' (first | ((first | refine wSeqr (fun xx hx => ?_) | refine wIf (fun xx hx => ?_) | refine wReg (fun xx hx => ?_) | (refine wRet ?_; (try simp only [thenQ, blockQ]); refine ends_by (fun xx hx => ?_))); have hc := trivial; (repeat' (simp only [hc, go_sem, Nat.reduceAdd, Nat.reduceMul, Nat.reduceSub, Nat.reduceEqDiff, Nat.reduceLT, Nat.reduceLeDiff, Int.reduceEq, Int.reduceLT, Int.reduceLE, reduceIte, aresults, aresult, hp0, c_sl1In] at hx; (try (rw [guardL_if] at hx; split at hx <;> rename_i hc)))); all_goals (subst hx; first | (refine ⟨_, rfl, fun ht => ?_, fun ht => ?_⟩ <;> (try simp only [Bool.not_eq_true', Bool.not_eq_false', Bool.and_eq_true, Bool.and_eq_false_iff, Bool.or_eq_true, Bool.or_eq_false_iff, decide_eq_true_eq, decide_eq_false_iff_not, beq_iff_eq, bne_iff_ne, Bool.not_true, Bool.not_false, Bool.true_eq_false, Bool.false_eq_true, ne_eq, Decidable.not_not, inB_t, inB_f] at ht)) | (refine ⟨_, rfl, ?_⟩; (try simp only [tupOf])))) | refine wSkip ?_ | (refine wExit ?_; simp only [thenQ, blockQ, reduceIte, Nat.reduceEqDiff]) | refine wSeq ?_ | refine wBlock ?_)
  all_goals (refine gives_intv ?_; unfold keyFault; (repeat' split) <;> omega)
theorem c_sl4Key (k : KeyM) : ∀ H, call Try.prog cfg0 0 199 [.fp [.v (.int .i64 k.Id), bytesL k.Bytes] 0] H = some (.v (.int .i64 (keyFault k)), H) :=
  call_fz Try.func199 rfl ok_sl4Key rfl (by simp only [fz_cons, fz_nil, go_sem, and_self]) (p_sl4Key k)
open Classical in
theorem cp_sl4Key (k : KeyM) : ∀ H bk, call Try.prog cfg0 0 199 [.ptr bk 0] H = if H.h bk = some [.v (.int .i64 k.Id), bytesL k.Bytes] then some (.v (.int .i64 (keyFault k)), H) else call' Try.prog cfg0 0 199 [.ptr bk 0] H :=
  fun H bk => by
    exact call_if Try.func199 rfl ok_sl4Key rfl (fun hC => mapM_c (deep_ptr hC (fzE_Key 9 k)) (mapM_n)) (p_sl4Key k)

def firstFault : List KeyM → Int
  | [] => 0
  | k :: r => if keyFault k = 0 then firstFault r else keyFault k
def rising : List KeyM → Bool
  | [] => true
  | [_] => true
  | a :: b :: r => decide (a.Id < b.Id) && rising (b :: r)
def findFrom : List KeyM → Int → Nat → Int
  | [], _, _ => -1
  | k :: r, id, j => if k.Id = id then j else findFrom r id (j + 1)
def findId (l : List KeyM) (id : Int) : Int := findFrom l id 0
theorem findFrom_bound : ∀ (l : List KeyM) (id : Int) (j : Nat), findFrom l id j = -1 ∨ ∃ i k, findFrom l id j = (j + i : Nat) ∧ l[i]? = some k ∧ k.Id = id := by
  intro l
  induction l with
  | nil => intro id j; exact .inl rfl
  | cons k r ih =>
    intro id j
    unfold findFrom
    split
    · exact .inr ⟨0, k, by simp, rfl, by assumption⟩
    · rcases ih id (j + 1) with h | ⟨i, k', h1, h2, h3⟩
      · exact .inl h
      · exact .inr ⟨i + 1, k', by rw [h1]; congr 1; omega, by simpa using h2, h3⟩
theorem ok_sl4Find : fnOk Try.prog cfg0 200 Try.f200 = true := by kernel_rfl
theorem p_sl4Find (r : RingM) (id : Int) (hl : r.Keys.length ≤ 4611686018427387904) : pure Try.prog cfg0 200 Try.f200 [.fp [.v (.int .i64 r.Primary), .lst false (r.Keys.map encKey)] 0, .v (.int .i64 id)] = some (.v (.int .i64 (findId r.Keys id)), true) := by
  refine pure_wp (rs := [.tmp 4]) rfl rfl ?_
  repeat' (first | ((first | refine wSeqr (fun xx hx => ?_) | refine wIf (fun xx hx => ?_) | refine wReg (fun xx hx => ?_) | (refine wRet ?_; (try simp only [thenQ, blockQ]); refine ends_by (fun xx hx => ?_))); have hc := trivial; (repeat' (simp only [hc, go_sem, Nat.reduceAdd, Nat.reduceMul, Nat.reduceSub, Nat.reduceEqDiff, Nat.reduceLT, Nat.reduceLeDiff, Int.reduceEq, Int.reduceLT, Int.reduceLE, reduceIte, aresults, aresult] at hx; (try (rw [guardL_if] at hx; split at hx <;> rename_i hc)))); all_goals (subst hx; first | (refine ⟨_, rfl, fun ht => ?_, fun ht => ?_⟩ <;> (try simp only [Bool.not_eq_true', Bool.not_eq_false', Bool.and_eq_true, Bool.and_eq_false_iff, Bool.or_eq_true, Bool.or_eq_false_iff, decide_eq_true_eq, decide_eq_false_iff_not, beq_iff_eq, bne_iff_ne, Bool.not_true, Bool.not_false, Bool.true_eq_false, Bool.false_eq_true, ne_eq, Decidable.not_not, inB_t, inB_f] at ht)) | (refine ⟨_, rfl, ?_⟩; (try simp only [tupOf])))) | refine wSkip ?_ | (refine wExit ?_; simp only [thenQ, blockQ, reduceIte, Nat.reduceEqDiff]) | refine wSeq ?_ | refine wBlock ?_)
  refine wLoop (fun k s => ∃ (j : Nat), j + k = r.Keys.length ∧ s.1 0 = .fp [.v (.int .i64 r.Primary), .lst false (r.Keys.map encKey)] 0 ∧ s.1 1 = .v (.int .i64 id) ∧ s.1 5 = .v (.int .i64 (j : Nat)) ∧ (findFrom (r.Keys.drop j) id j = findId r.Keys id)) (fun k s hI => ?_) (r.Keys.length) _ ?_
  · obtain ⟨e, H⟩ := s
    obtain ⟨j, hj, h0, h1, h5, hf⟩ := hI
    simp only at h0 h1 h5 hf
    repeat' (first | ((first | refine wSeqr (fun xx hx => ?_) | refine wIf (fun xx hx => ?_) | refine wReg (fun xx hx => ?_) | (refine wRet ?_; (try simp only [thenQ, blockQ]); refine ends_by (fun xx hx => ?_))); have hc := trivial; (repeat' (simp only [hc, go_sem, Nat.reduceAdd, Nat.reduceMul, Nat.reduceSub, Nat.reduceEqDiff, Nat.reduceLT, Nat.reduceLeDiff, Int.reduceEq, Int.reduceLT, Int.reduceLE, reduceIte, aresults, aresult, h0, h1, h5, List.length_map] at hx; (try (rw [guardL_if] at hx; split at hx <;> rename_i hc)))); all_goals (subst hx; first | (refine ⟨_, rfl, fun ht => ?_, fun ht => ?_⟩ <;> (try simp only [Bool.not_eq_true', Bool.not_eq_false', Bool.and_eq_true, Bool.and_eq_false_iff, Bool.or_eq_true, Bool.or_eq_false_iff, decide_eq_true_eq, decide_eq_false_iff_not, beq_iff_eq, bne_iff_ne, Bool.not_true, Bool.not_false, Bool.true_eq_false, Bool.false_eq_true, ne_eq, Decidable.not_not, inB_t, inB_f] at ht)) | (refine ⟨_, rfl, ?_⟩; (try simp only [tupOf])))) | refine wSkip ?_ | (refine wExit ?_; simp only [thenQ, blockQ, reduceIte, Nat.reduceEqDiff]) | refine wSeq ?_ | refine wBlock ?_)
    · have hlt : j < r.Keys.length := by omega
      obtain ⟨k, hg, hd, hm⟩ := at_drop hlt
      have hg' := map_at (f := encKey) hg
      rw [hd, findFrom] at hf
      repeat' (first | ((first | refine wSeqr (fun xx hx => ?_) | refine wIf (fun xx hx => ?_) | refine wReg (fun xx hx => ?_) | (refine wRet ?_; (try simp only [thenQ, blockQ]); refine ends_by (fun xx hx => ?_))); have hc := trivial; (repeat' (simp only [hc, go_sem, Nat.reduceAdd, Nat.reduceMul, Nat.reduceSub, Nat.reduceEqDiff, Nat.reduceLT, Nat.reduceLeDiff, Int.reduceEq, Int.reduceLT, Int.reduceLE, reduceIte, aresults, aresult, h0, h1, h5, hg', List.length_map, wrap_succ (show j < 9223372036854775807 by omega)] at hx; (try (rw [guardL_if] at hx; split at hx <;> rename_i hc)))); all_goals (subst hx; first | (refine ⟨_, rfl, fun ht => ?_, fun ht => ?_⟩ <;> (try simp only [Bool.not_eq_true', Bool.not_eq_false', Bool.and_eq_true, Bool.and_eq_false_iff, Bool.or_eq_true, Bool.or_eq_false_iff, decide_eq_true_eq, decide_eq_false_iff_not, beq_iff_eq, bne_iff_ne, Bool.not_true, Bool.not_false, Bool.true_eq_false, Bool.false_eq_true, ne_eq, Decidable.not_not, inB_t, inB_f] at ht)) | (refine ⟨_, rfl, ?_⟩; (try simp only [tupOf])))) | refine wSkip ?_ | (refine wExit ?_; simp only [thenQ, blockQ, reduceIte, Nat.reduceEqDiff]) | refine wSeq ?_ | refine wBlock ?_)
      · rw [if_pos ht] at hf; rw [← hf]; exact ⟨rfl, rfl⟩
      · rw [if_neg ht] at hf
        refine ⟨_, Nat.sub_lt (by omega) Nat.one_pos, j + 1, by omega, by simp only [upd_eq, Nat.reduceEqDiff, if_false, if_true, h0, h1, h5], by simp only [upd_eq, Nat.reduceEqDiff, if_false, if_true, h0, h1, h5], by simp only [upd_eq, Nat.reduceEqDiff, if_false, if_true, h0, h1, h5], ?_⟩; exact hf
    · rw [List.drop_of_length_le (by omega)] at hf
      repeat' (first | ((first | refine wSeqr (fun xx hx => ?_) | refine wIf (fun xx hx => ?_) | refine wReg (fun xx hx => ?_) | (refine wRet ?_; (try simp only [thenQ, blockQ]); refine ends_by (fun xx hx => ?_))); have hc := trivial; (repeat' (simp only [hc, go_sem, Nat.reduceAdd, Nat.reduceMul, Nat.reduceSub, Nat.reduceEqDiff, Nat.reduceLT, Nat.reduceLeDiff, Int.reduceEq, Int.reduceLT, Int.reduceLE, reduceIte, aresults, aresult] at hx; (try (rw [guardL_if] at hx; split at hx <;> rename_i hc)))); all_goals (subst hx; first | (refine ⟨_, rfl, fun ht => ?_, fun ht => ?_⟩ <;> (try simp only [Bool.not_eq_true', Bool.not_eq_false', Bool.and_eq_true, Bool.and_eq_false_iff, Bool.or_eq_true, Bool.or_eq_false_iff, decide_eq_true_eq, decide_eq_false_iff_not, beq_iff_eq, bne_iff_ne, Bool.not_true, Bool.not_false, Bool.true_eq_false, Bool.false_eq_true, ne_eq, Decidable.not_not, inB_t, inB_f] at ht)) | (refine ⟨_, rfl, ?_⟩; (try simp only [tupOf])))) | refine wSkip ?_ | (refine wExit ?_; simp only [thenQ, blockQ, reduceIte, Nat.reduceEqDiff]) | refine wSeq ?_ | refine wBlock ?_)
      rw [← hf]; exact ⟨rfl, rfl⟩
  · refine ⟨0, by omega, rfl, rfl, rfl, ?_⟩; rfl
theorem c_sl4Find (r : RingM) (id : Int) (hl : r.Keys.length ≤ 4611686018427387904) : ∀ H, call Try.prog cfg0 0 200 [.fp [.v (.int .i64 r.Primary), .lst false (r.Keys.map encKey)] 0, .v (.int .i64 id)] H = some (.v (.int .i64 (findId r.Keys id)), H) :=
  call_fz Try.func200 rfl ok_sl4Find rfl (by simp only [fz_cons, fz_nil, go_sem, and_self]) (p_sl4Find r id hl)
open Classical in
theorem cp_sl4Find (r : RingM) (id : Int) (hl : r.Keys.length ≤ 4611686018427387904) : ∀ H br, call Try.prog cfg0 0 200 [.ptr br 0, .v (.int .i64 id)] H = if H.h br = some [.v (.int .i64 r.Primary), .lst false (r.Keys.map encKey)] then some (.v (.int .i64 (findId r.Keys id)), H) else call' Try.prog cfg0 0 200 [.ptr br 0, .v (.int .i64 id)] H :=
  fun H br => by
    exact call_if Try.func200 rfl ok_sl4Find rfl (fun hC => mapM_c (deep_ptr hC (fzE_Ring 8 r)) (mapM_c ((show Fz depthD (.v (.int .i64 id)) by simp only [go_sem]).1 H) (mapM_n))) (p_sl4Find r id hl)

end
end Go.Proofs.Ytmobkpfalcfepaa
