/- Contracts of the laws' copies, as own results: printed by fam3.py. -/
import Derived.Test.YtmncdkecpnoogaaB0
namespace Go.Proofs.Ytmncdkecpnoogaa
open Go Go.RowKit Go.Proofs.Ytmncdkecpnoogaa.Eng
set_option linter.unusedSimpArgs false
set_option linter.unusedVariables false
set_option maxRecDepth 100000
noncomputable section
theorem ok_ltoByteS : fnOk Try.prog cfg0 14 Try.f14 = true := by kernel_rfl
theorem pq_ltoByteS (l : List Int) (hl : l.length ≤ 1048576) : pure Try.prog cfg0 14 Try.f14 [bytesL l] = some (bytesL l, true) ∧ owned Try.prog cfg0 14 Try.f14 [bytesL l] = some (bytesL l) := by
  refine both_wp (rs := [.tmp 2]) rfl rfl ?_
  have hp0 : ∀ b, cfg0.pol 14 b = 0 := fun b => rfl
  have hr := roomy_1 (n := l.length) (by omega)
  repeat' (first | ((first | refine wSeqr (fun xx hx => ?_) | refine wIf (fun xx hx => ?_) | refine wReg (fun xx hx => ?_) | (refine wRet ?_; (try simp only [thenQ, blockQ]); refine ends_by (fun xx hx => ?_))); have hc := trivial; (repeat' (simp only [hc, go_sem, Nat.reduceAdd, Nat.reduceMul, Nat.reduceSub, Nat.reduceEqDiff, Nat.reduceLT, Nat.reduceLeDiff, Int.reduceEq, Int.reduceLT, Int.reduceLE, reduceIte, aresults, aresult, hr] at hx; (try (rw [guardL_if] at hx; split at hx <;> rename_i hc)))); all_goals (subst hx; first | (refine ⟨_, rfl, fun ht => ?_, fun ht => ?_⟩ <;> (try simp only [Bool.not_eq_true', Bool.not_eq_false', Bool.and_eq_true, Bool.and_eq_false_iff, Bool.or_eq_true, Bool.or_eq_false_iff, decide_eq_true_eq, decide_eq_false_iff_not, beq_iff_eq, bne_iff_ne, Bool.not_true, Bool.not_false, Bool.true_eq_false, Bool.false_eq_true, ne_eq, Decidable.not_not, inB_t, inB_f] at ht)) | (refine ⟨_, rfl, ?_⟩; (try simp only [tupOf])))) | refine wSkip ?_ | (refine wExit ?_; simp only [thenQ, blockQ, reduceIte, Nat.reduceEqDiff]) | refine wSeq ?_ | refine wBlock ?_)
  refine wLoop (fun k s => ∃ (j : Nat), j + k = l.length ∧ s.1 0 = bytesL l ∧ s.1 4 = .v (.int .i64 (j : Nat)) ∧ s.1 3 = .sl 0 1 0 l.length ∧ (s.2.h 0 = some ((l.take j ++ List.replicate (l.length - j) 0).map cell))) (fun k s hI => ?_) (l.length) _ ?_
  · obtain ⟨e, H⟩ := s
    obtain ⟨j, hj, h0, h4, h3, hh⟩ := hI
    simp only at h0 h4 h3 hh
    repeat' (first | ((first | refine wSeqr (fun xx hx => ?_) | refine wIf (fun xx hx => ?_) | refine wReg (fun xx hx => ?_) | (refine wRet ?_; (try simp only [thenQ, blockQ]); refine ends_by (fun xx hx => ?_))); have hc := trivial; (repeat' (simp only [hc, go_sem, Nat.reduceAdd, Nat.reduceMul, Nat.reduceSub, Nat.reduceEqDiff, Nat.reduceLT, Nat.reduceLeDiff, Int.reduceEq, Int.reduceLT, Int.reduceLE, reduceIte, aresults, aresult, h0, h4] at hx; (try (rw [guardL_if] at hx; split at hx <;> rename_i hc)))); all_goals (subst hx; first | (refine ⟨_, rfl, fun ht => ?_, fun ht => ?_⟩ <;> (try simp only [Bool.not_eq_true', Bool.not_eq_false', Bool.and_eq_true, Bool.and_eq_false_iff, Bool.or_eq_true, Bool.or_eq_false_iff, decide_eq_true_eq, decide_eq_false_iff_not, beq_iff_eq, bne_iff_ne, Bool.not_true, Bool.not_false, Bool.true_eq_false, Bool.false_eq_true, ne_eq, Decidable.not_not, inB_t, inB_f] at ht)) | (refine ⟨_, rfl, ?_⟩; (try simp only [tupOf])))) | refine wSkip ?_ | (refine wExit ?_; simp only [thenQ, blockQ, reduceIte, Nat.reduceEqDiff]) | refine wSeq ?_ | refine wBlock ?_)
    · have hlt : j < l.length := by omega
      have hg := get_byte hlt
      have hlen : (List.map cell (l.take j ++ List.replicate (l.length - j) 0)).length = l.length := by simp; omega
      repeat' (first | ((first | refine wSeqr (fun xx hx => ?_) | refine wIf (fun xx hx => ?_) | refine wReg (fun xx hx => ?_) | (refine wRet ?_; (try simp only [thenQ, blockQ]); refine ends_by (fun xx hx => ?_))); have hc := trivial; (repeat' (simp only [hc, go_sem, Nat.reduceAdd, Nat.reduceMul, Nat.reduceSub, Nat.reduceEqDiff, Nat.reduceLT, Nat.reduceLeDiff, Int.reduceEq, Int.reduceLT, Int.reduceLE, reduceIte, aresults, aresult, h0, h3, h4, hg, hh, hlt, hlen, Option.isSome_some, bytesL, cell, show j + 1 ≤ l.length from hlt, wrap_succ (show j < 9223372036854775807 by omega)] at hx; (try (rw [guardL_if] at hx; split at hx <;> rename_i hc)))); all_goals (subst hx; first | (refine ⟨_, rfl, fun ht => ?_, fun ht => ?_⟩ <;> (try simp only [Bool.not_eq_true', Bool.not_eq_false', Bool.and_eq_true, Bool.and_eq_false_iff, Bool.or_eq_true, Bool.or_eq_false_iff, decide_eq_true_eq, decide_eq_false_iff_not, beq_iff_eq, bne_iff_ne, Bool.not_true, Bool.not_false, Bool.true_eq_false, Bool.false_eq_true, ne_eq, Decidable.not_not, inB_t, inB_f] at ht)) | (refine ⟨_, rfl, ?_⟩; (try simp only [tupOf])))) | refine wSkip ?_ | (refine wExit ?_; simp only [thenQ, blockQ, reduceIte, Nat.reduceEqDiff]) | refine wSeq ?_ | refine wBlock ?_)
      refine ⟨_, Nat.sub_lt (by omega) Nat.one_pos, j + 1, by omega, by simp only [upd_eq, Nat.reduceEqDiff, if_false, if_true, h0, h4, h3], by simp only [upd_eq, Nat.reduceEqDiff, if_false, if_true, h0, h4, h3], by simp only [upd_eq, Nat.reduceEqDiff, if_false, if_true, h0, h4, h3], ?_⟩
      simp only [Hp.set_h, if_true, ← take_set hlt]
      exact congrArg some (map_set_cell _ _ _)
    · have hj' : j = l.length := by omega
      subst hj'
      rw [h3]
      have hh' : H.h 0 = some (l.map cell) := by rw [hh]; simp
      exact ⟨⟨deep_bytes hh' rfl, clean_bytes hh'⟩, own_sl hh' (fun c hc => by obtain ⟨z, -, rfl⟩ := List.mem_map.1 hc; rfl)⟩
  · refine ⟨0, by omega, rfl, rfl, rfl, ?_⟩
    simp only [Hp.new_h, nil_g, if_true, Nat.sub_zero, List.take_zero, List.nil_append]
    exact congrArg some (zeros_cell _)
theorem p_ltoByteS (l : List Int) (hl : l.length ≤ 1048576) : pure Try.prog cfg0 14 Try.f14 [bytesL l] = some (bytesL l, true) := (pq_ltoByteS l hl).1
theorem c_ltoByteS (l : List Int) (hl : l.length ≤ 1048576) : ∀ H, call Try.prog cfg0 0 14 [bytesL l] H = some (bytesL l, H) :=
  call_fz Try.func14 rfl ok_ltoByteS rfl (by simp only [fz_cons, fz_nil, go_sem, and_self]) (pq_ltoByteS l hl).1
theorem o_ltoByteS (l : List Int) (hl : l.length ≤ 1048576) : ∀ H, call Try.prog cfg0 1 14 [bytesL l] H = mat depthD (bytesL l) H := fun H =>
  call_ofO Try.func14 rfl ok_ltoByteS rfl (mapM_self fun x hx => ((show ∀ x ∈ ([bytesL l] : List AV), Fz depthD x by simp only [fz_cons, fz_nil, go_sem, and_self]) x hx).1 H) (pq_ltoByteS l hl).2

theorem ok_ltoInt64S : fnOk Try.prog cfg0 93 Try.f93 = true := by kernel_rfl
theorem pq_ltoInt64S (l : List Int) (hl : l.length ≤ 1048576) : pure Try.prog cfg0 93 Try.f93 [i64L l] = some (i64L l, true) ∧ owned Try.prog cfg0 93 Try.f93 [i64L l] = some (i64L l) := by
  refine both_wp (rs := [.tmp 2]) rfl rfl ?_
  have hp0 : ∀ b, cfg0.pol 93 b = 0 := fun b => rfl
  have hr := roomy_of (n := l.length) (b := 8) (by omega) (by omega)
  repeat' (first | ((first | refine wSeqr (fun xx hx => ?_) | refine wIf (fun xx hx => ?_) | refine wReg (fun xx hx => ?_) | (refine wRet ?_; (try simp only [thenQ, blockQ]); refine ends_by (fun xx hx => ?_))); have hc := trivial; (repeat' (simp only [hc, go_sem, Nat.reduceAdd, Nat.reduceMul, Nat.reduceSub, Nat.reduceEqDiff, Nat.reduceLT, Nat.reduceLeDiff, Int.reduceEq, Int.reduceLT, Int.reduceLE, reduceIte, aresults, aresult, hr] at hx; (try (rw [guardL_if] at hx; split at hx <;> rename_i hc)))); all_goals (subst hx; first | (refine ⟨_, rfl, fun ht => ?_, fun ht => ?_⟩ <;> (try simp only [Bool.not_eq_true', Bool.not_eq_false', Bool.and_eq_true, Bool.and_eq_false_iff, Bool.or_eq_true, Bool.or_eq_false_iff, decide_eq_true_eq, decide_eq_false_iff_not, beq_iff_eq, bne_iff_ne, Bool.not_true, Bool.not_false, Bool.true_eq_false, Bool.false_eq_true, ne_eq, Decidable.not_not, inB_t, inB_f] at ht)) | (refine ⟨_, rfl, ?_⟩; (try simp only [tupOf])))) | refine wSkip ?_ | (refine wExit ?_; simp only [thenQ, blockQ, reduceIte, Nat.reduceEqDiff]) | refine wSeq ?_ | refine wBlock ?_)
  refine wLoop (fun k s => ∃ (j : Nat), j + k = l.length ∧ s.1 0 = i64L l ∧ s.1 4 = .v (.int .i64 (j : Nat)) ∧ s.1 3 = .sl 0 1 0 l.length ∧ (s.2.h 0 = some ((l.take j ++ List.replicate (l.length - j) 0).map icell))) (fun k s hI => ?_) (l.length) _ ?_
  · obtain ⟨e, H⟩ := s
    obtain ⟨j, hj, h0, h4, h3, hh⟩ := hI
    simp only at h0 h4 h3 hh
    repeat' (first | ((first | refine wSeqr (fun xx hx => ?_) | refine wIf (fun xx hx => ?_) | refine wReg (fun xx hx => ?_) | (refine wRet ?_; (try simp only [thenQ, blockQ]); refine ends_by (fun xx hx => ?_))); have hc := trivial; (repeat' (simp only [hc, go_sem, Nat.reduceAdd, Nat.reduceMul, Nat.reduceSub, Nat.reduceEqDiff, Nat.reduceLT, Nat.reduceLeDiff, Int.reduceEq, Int.reduceLT, Int.reduceLE, reduceIte, aresults, aresult, h0, h4] at hx; (try (rw [guardL_if] at hx; split at hx <;> rename_i hc)))); all_goals (subst hx; first | (refine ⟨_, rfl, fun ht => ?_, fun ht => ?_⟩ <;> (try simp only [Bool.not_eq_true', Bool.not_eq_false', Bool.and_eq_true, Bool.and_eq_false_iff, Bool.or_eq_true, Bool.or_eq_false_iff, decide_eq_true_eq, decide_eq_false_iff_not, beq_iff_eq, bne_iff_ne, Bool.not_true, Bool.not_false, Bool.true_eq_false, Bool.false_eq_true, ne_eq, Decidable.not_not, inB_t, inB_f] at ht)) | (refine ⟨_, rfl, ?_⟩; (try simp only [tupOf])))) | refine wSkip ?_ | (refine wExit ?_; simp only [thenQ, blockQ, reduceIte, Nat.reduceEqDiff]) | refine wSeq ?_ | refine wBlock ?_)
    · have hlt : j < l.length := by omega
      have hg := get_i64 hlt
      have hlen : (List.map icell (l.take j ++ List.replicate (l.length - j) 0)).length = l.length := by simp; omega
      repeat' (first | ((first | refine wSeqr (fun xx hx => ?_) | refine wIf (fun xx hx => ?_) | refine wReg (fun xx hx => ?_) | (refine wRet ?_; (try simp only [thenQ, blockQ]); refine ends_by (fun xx hx => ?_))); have hc := trivial; (repeat' (simp only [hc, go_sem, Nat.reduceAdd, Nat.reduceMul, Nat.reduceSub, Nat.reduceEqDiff, Nat.reduceLT, Nat.reduceLeDiff, Int.reduceEq, Int.reduceLT, Int.reduceLE, reduceIte, aresults, aresult, h0, h3, h4, hg, hh, hlt, hlen, Option.isSome_some, i64L, icell, show j + 1 ≤ l.length from hlt, wrap_succ (show j < 9223372036854775807 by omega)] at hx; (try (rw [guardL_if] at hx; split at hx <;> rename_i hc)))); all_goals (subst hx; first | (refine ⟨_, rfl, fun ht => ?_, fun ht => ?_⟩ <;> (try simp only [Bool.not_eq_true', Bool.not_eq_false', Bool.and_eq_true, Bool.and_eq_false_iff, Bool.or_eq_true, Bool.or_eq_false_iff, decide_eq_true_eq, decide_eq_false_iff_not, beq_iff_eq, bne_iff_ne, Bool.not_true, Bool.not_false, Bool.true_eq_false, Bool.false_eq_true, ne_eq, Decidable.not_not, inB_t, inB_f] at ht)) | (refine ⟨_, rfl, ?_⟩; (try simp only [tupOf])))) | refine wSkip ?_ | (refine wExit ?_; simp only [thenQ, blockQ, reduceIte, Nat.reduceEqDiff]) | refine wSeq ?_ | refine wBlock ?_)
      refine ⟨_, Nat.sub_lt (by omega) Nat.one_pos, j + 1, by omega, by simp only [upd_eq, Nat.reduceEqDiff, if_false, if_true, h0, h4, h3], by simp only [upd_eq, Nat.reduceEqDiff, if_false, if_true, h0, h4, h3], by simp only [upd_eq, Nat.reduceEqDiff, if_false, if_true, h0, h4, h3], ?_⟩
      simp only [Hp.set_h, if_true, ← take_set hlt]
      exact congrArg some (map_set_icell _ _ _)
    · have hj' : j = l.length := by omega
      subst hj'
      rw [h3]
      have hh' : H.h 0 = some (l.map icell) := by rw [hh]; simp
      exact ⟨⟨deep_i64s hh' rfl, clean_i64s hh'⟩, own_sl hh' (fun c hc => by obtain ⟨z, -, rfl⟩ := List.mem_map.1 hc; rfl)⟩
  · refine ⟨0, by omega, rfl, rfl, rfl, ?_⟩
    simp only [Hp.new_h, nil_g, if_true, Nat.sub_zero, List.take_zero, List.nil_append]
    exact congrArg some (zeros_icell _)
theorem p_ltoInt64S (l : List Int) (hl : l.length ≤ 1048576) : pure Try.prog cfg0 93 Try.f93 [i64L l] = some (i64L l, true) := (pq_ltoInt64S l hl).1
theorem c_ltoInt64S (l : List Int) (hl : l.length ≤ 1048576) : ∀ H, call Try.prog cfg0 0 93 [i64L l] H = some (i64L l, H) :=
  call_fz Try.func93 rfl ok_ltoInt64S rfl (by simp only [fz_cons, fz_nil, go_sem, and_self]) (pq_ltoInt64S l hl).1
theorem o_ltoInt64S (l : List Int) (hl : l.length ≤ 1048576) : ∀ H, call Try.prog cfg0 1 93 [i64L l] H = mat depthD (i64L l) H := fun H =>
  call_ofO Try.func93 rfl ok_ltoInt64S rfl (mapM_self fun x hx => ((show ∀ x ∈ ([i64L l] : List AV), Fz depthD x by simp only [fz_cons, fz_nil, go_sem, and_self]) x hx).1 H) (pq_ltoInt64S l hl).2

theorem ok_ltoKey : fnOk Try.prog cfg0 55 Try.f55 = true := by kernel_rfl
theorem pq_ltoKey (k : KeyM) (hk : k.ok 1048576) : pure Try.prog cfg0 55 Try.f55 [.agg [.v (.int .i64 k.Id), bytesL k.Bytes]] = some (.agg [.v (.int .i64 k.Id), bytesL k.Bytes], true) ∧ owned Try.prog cfg0 55 Try.f55 [.agg [.v (.int .i64 k.Id), bytesL k.Bytes]] = some (.agg [.v (.int .i64 k.Id), bytesL k.Bytes]) := by
  refine both_wp (rs := [.cell 2 29]) rfl rfl ?_
  have hp0 : ∀ b, cfg0.pol 55 b = (if b = 9 then 1 else 0) := fun b => rfl
  repeat' (first | ((first | refine wSeqr (fun xx hx => ?_) | refine wIf (fun xx hx => ?_) | refine wReg (fun xx hx => ?_) | (refine wRet ?_; (try simp only [thenQ, blockQ]); refine ends_by (fun xx hx => ?_))); have hc := trivial; (repeat' (simp only [hc, go_sem, Nat.reduceAdd, Nat.reduceMul, Nat.reduceSub, Nat.reduceEqDiff, Nat.reduceLT, Nat.reduceLeDiff, Int.reduceEq, Int.reduceLT, Int.reduceLE, reduceIte, aresults, aresult, hp0, o_ltoByteS k.Bytes hk.2.2, (fun H => mat_zz (d := depthD) (MatG.bytes 9 k.Bytes) (Nat.le_of_ble_eq_true rfl) H), (fun H => (zz_ok (d := depthD) (MatG.bytes 9 k.Bytes) (Nat.le_of_ble_eq_true rfl) (fun _ h => by cases h) H).1), (fun H => (zz_ok (d := depthD) (MatG.bytes 9 k.Bytes) (Nat.le_of_ble_eq_true rfl) (fun _ h => by cases h) H).2), (fun H => (zz_ok (d := 11) (MatG.bytes 9 k.Bytes) (Nat.le_of_ble_eq_true rfl) (fun _ h => by cases h) H).1), (fun H => (zz_ok (d := 11) (MatG.bytes 9 k.Bytes) (Nat.le_of_ble_eq_true rfl) (fun _ h => by cases h) H).2), lt_hhI, hh_hI, true_or] at hx; (try (rw [guardL_if] at hx; split at hx <;> rename_i hc)))); all_goals (subst hx; first | (refine ⟨_, rfl, fun ht => ?_, fun ht => ?_⟩ <;> (try simp only [Bool.not_eq_true', Bool.not_eq_false', Bool.and_eq_true, Bool.and_eq_false_iff, Bool.or_eq_true, Bool.or_eq_false_iff, decide_eq_true_eq, decide_eq_false_iff_not, beq_iff_eq, bne_iff_ne, Bool.not_true, Bool.not_false, Bool.true_eq_false, Bool.false_eq_true, ne_eq, Decidable.not_not, inB_t, inB_f] at ht)) | (refine ⟨_, rfl, ?_⟩; (try simp only [tupOf])))) | refine wSkip ?_ | (refine wExit ?_; simp only [thenQ, blockQ, reduceIte, Nat.reduceEqDiff]) | refine wSeq ?_ | refine wBlock ?_)
  refine Laid.givesE (n := 11) (lo := 0) ?_ (by omega) (gE_Key 9 k)
  refine Laid.vE _ ?_
  refine Laid.zzE (n := 11) (MatG.bytes 9 k.Bytes) (Nat.le_of_ble_eq_true rfl) (Nat.zero_le _) ?_ ?_
  · repeat first | exact Kept.refl _ _ | refine Kept.set (by simp only [Hp.set_g, Hp.new_g, nil_g, lt_hhI, true_or, Nat.reduceAdd, Nat.reduceLT]) ?_ | refine Kept.hh ?_
  exact Laid.nilE
theorem p_ltoKey (k : KeyM) (hk : k.ok 1048576) : pure Try.prog cfg0 55 Try.f55 [.agg [.v (.int .i64 k.Id), bytesL k.Bytes]] = some (.agg [.v (.int .i64 k.Id), bytesL k.Bytes], true) := (pq_ltoKey k hk).1
theorem c_ltoKey (k : KeyM) (hk : k.ok 1048576) : ∀ H, call Try.prog cfg0 0 55 [.agg [.v (.int .i64 k.Id), bytesL k.Bytes]] H = some (.agg [.v (.int .i64 k.Id), bytesL k.Bytes], H) :=
  call_fz Try.func55 rfl ok_ltoKey rfl (by simp only [fz_cons, fz_nil, go_sem, and_self]) (pq_ltoKey k hk).1
theorem o_ltoKey (k : KeyM) (hk : k.ok 1048576) : ∀ H, call Try.prog cfg0 1 55 [.agg [.v (.int .i64 k.Id), bytesL k.Bytes]] H = mat depthD (.agg [.v (.int .i64 k.Id), bytesL k.Bytes]) H := fun H =>
  call_ofO Try.func55 rfl ok_ltoKey rfl (mapM_self fun x hx => ((show ∀ x ∈ ([.agg [.v (.int .i64 k.Id), bytesL k.Bytes]] : List AV), Fz depthD x by simp only [fz_cons, fz_nil, go_sem, and_self]) x hx).1 H) (pq_ltoKey k hk).2

theorem ok_ltoKeyS : fnOk Try.prog cfg0 150 Try.f150 = true := by kernel_rfl
theorem pq_ltoKeyS (l : List KeyM) (hk : l.length ≤ 1048576 ∧ ∀ x ∈ l, x.ok 1048576) : pure Try.prog cfg0 150 Try.f150 [.lst false (l.map encKey)] = some (.lst false (l.map encKey), true) ∧ owned Try.prog cfg0 150 Try.f150 [.lst false (l.map encKey)] = some (.lst false (l.map encKey)) := by
  refine both_wp (rs := [.tmp 2]) rfl rfl ?_
  have hp0 : ∀ b, cfg0.pol 150 b = (if b = 20 then 1 else 0) := fun b => rfl
  have hl := hk.1
  have hr := roomy_of (n := l.length) (b := 32) (by omega) (by omega)
  have hls : ∀ c ∈ l.map encKey, c.length = 2 := fun c hc => by obtain ⟨k, -, rfl⟩ := List.mem_map.1 hc; rfl
  repeat' (first | ((first | refine wSeqr (fun xx hx => ?_) | refine wIf (fun xx hx => ?_) | refine wReg (fun xx hx => ?_) | (refine wRet ?_; (try simp only [thenQ, blockQ]); refine ends_by (fun xx hx => ?_))); have hc := trivial; (repeat' (simp only [hc, go_sem, Nat.reduceAdd, Nat.reduceMul, Nat.reduceSub, Nat.reduceEqDiff, Nat.reduceLT, Nat.reduceLeDiff, Int.reduceEq, Int.reduceLT, Int.reduceLE, reduceIte, aresults, aresult, hr, List.length_map] at hx; (try (rw [guardL_if] at hx; split at hx <;> rename_i hc)))); all_goals (subst hx; first | (refine ⟨_, rfl, fun ht => ?_, fun ht => ?_⟩ <;> (try simp only [Bool.not_eq_true', Bool.not_eq_false', Bool.and_eq_true, Bool.and_eq_false_iff, Bool.or_eq_true, Bool.or_eq_false_iff, decide_eq_true_eq, decide_eq_false_iff_not, beq_iff_eq, bne_iff_ne, Bool.not_true, Bool.not_false, Bool.true_eq_false, Bool.false_eq_true, ne_eq, Decidable.not_not, inB_t, inB_f] at ht)) | (refine ⟨_, rfl, ?_⟩; (try simp only [tupOf])))) | refine wSkip ?_ | (refine wExit ?_; simp only [thenQ, blockQ, reduceIte, Nat.reduceEqDiff]) | refine wSeq ?_ | refine wBlock ?_)
  refine wLoop (fun k s => ∃ (j : Nat), j + k = l.length ∧ s.1 0 = .lst false (l.map encKey) ∧ s.1 4 = .v (.int .i64 (j : Nat)) ∧ s.1 3 = .sl 0 2 0 l.length ∧ (∃ zs, s.2.h 0 = some (zs ++ zeros (l.length - j) [.v (.int .i64 0), .v (.slice none 0 0)]) ∧ zs.length = j * 2 ∧ 0 < s.2.g ∧ Laid s.2 1 s.2.g ((l.take j).map encKey).flatten zs)) (fun k s hI => ?_) (l.length) _ ?_
  · obtain ⟨e, H⟩ := s
    obtain ⟨j, hj, h0, h4, h3, hh⟩ := hI
    simp only at h0 h4 h3 hh
    repeat' (first | ((first | refine wSeqr (fun xx hx => ?_) | refine wIf (fun xx hx => ?_) | refine wReg (fun xx hx => ?_) | (refine wRet ?_; (try simp only [thenQ, blockQ]); refine ends_by (fun xx hx => ?_))); have hc := trivial; (repeat' (simp only [hc, go_sem, Nat.reduceAdd, Nat.reduceMul, Nat.reduceSub, Nat.reduceEqDiff, Nat.reduceLT, Nat.reduceLeDiff, Int.reduceEq, Int.reduceLT, Int.reduceLE, reduceIte, aresults, aresult, h0, h4, List.length_map] at hx; (try (rw [guardL_if] at hx; split at hx <;> rename_i hc)))); all_goals (subst hx; first | (refine ⟨_, rfl, fun ht => ?_, fun ht => ?_⟩ <;> (try simp only [Bool.not_eq_true', Bool.not_eq_false', Bool.and_eq_true, Bool.and_eq_false_iff, Bool.or_eq_true, Bool.or_eq_false_iff, decide_eq_true_eq, decide_eq_false_iff_not, beq_iff_eq, bne_iff_ne, Bool.not_true, Bool.not_false, Bool.true_eq_false, Bool.false_eq_true, ne_eq, Decidable.not_not, inB_t, inB_f] at ht)) | (refine ⟨_, rfl, ?_⟩; (try simp only [tupOf])))) | refine wSkip ?_ | (refine wExit ?_; simp only [thenQ, blockQ, reduceIte, Nat.reduceEqDiff]) | refine wSeq ?_ | refine wBlock ?_)
    · have hlt : j < l.length := by omega
      obtain ⟨k, hg, hd, hm⟩ := at_drop hlt
      have hg' := map_at (f := encKey) hg
      obtain ⟨zs, hb, hzl, hg0, hly⟩ := hh
      obtain ⟨ms, H2, m1, m2, m3⟩ := mat_row (n := 11) (gE_Key 9 k) (by omega) H
      have hms : ms.length = 2 := m3.len
      have hmo : ms.all okc = true := m3.one (fun x hx => ⟨_, gE_Key 9 k x hx⟩) (fun y hy => by
        simp only [encKey, List.mem_cons, List.not_mem_nil, or_false] at hy
        rcases hy with h | h <;> first | (injection h with h; subst h; rfl) | (cases h))
      have hb2 : H2.h 0 = some (zs ++ zeros (l.length - j) [.v (.int .i64 0), .v (.slice none 0 0)]) := (m2.2 0 hg0).trans hb
      have hlen : (zs ++ zeros (l.length - j) [.v (.int .i64 0), .v (.slice none 0 0)]).length = l.length * 2 := fill_len hzl rfl (by omega)
      have hle : j * 2 + 2 ≤ l.length * 2 := by omega
      simp only [encKey] at m1
      repeat' (first | ((first | refine wSeqr (fun xx hx => ?_) | refine wIf (fun xx hx => ?_) | refine wReg (fun xx hx => ?_) | (refine wRet ?_; (try simp only [thenQ, blockQ]); refine ends_by (fun xx hx => ?_))); have hc := trivial; (repeat' (simp only [hc, go_sem, Nat.reduceAdd, Nat.reduceMul, Nat.reduceSub, Nat.reduceEqDiff, Nat.reduceLT, Nat.reduceLeDiff, Int.reduceEq, Int.reduceLT, Int.reduceLE, reduceIte, aresults, aresult, h0, h3, h4, hg', hp0, o_ltoKey k (hk.2 k hm), m1, hb2, hlt, hlen, hms, hmo, Option.isSome_some, hle, wrap_succ (show j < 9223372036854775807 by omega)] at hx; (try (rw [guardL_if] at hx; split at hx <;> rename_i hc)))); all_goals (subst hx; first | (refine ⟨_, rfl, fun ht => ?_, fun ht => ?_⟩ <;> (try simp only [Bool.not_eq_true', Bool.not_eq_false', Bool.and_eq_true, Bool.and_eq_false_iff, Bool.or_eq_true, Bool.or_eq_false_iff, decide_eq_true_eq, decide_eq_false_iff_not, beq_iff_eq, bne_iff_ne, Bool.not_true, Bool.not_false, Bool.true_eq_false, Bool.false_eq_true, ne_eq, Decidable.not_not, inB_t, inB_f] at ht)) | (refine ⟨_, rfl, ?_⟩; (try simp only [tupOf])))) | refine wSkip ?_ | (refine wExit ?_; simp only [thenQ, blockQ, reduceIte, Nat.reduceEqDiff]) | refine wSeq ?_ | refine wBlock ?_)
      refine ⟨_, Nat.sub_lt (by omega) Nat.one_pos, j + 1, by omega, by simp only [upd_eq, Nat.reduceEqDiff, if_false, if_true, h0, h4, h3], by simp only [upd_eq, Nat.reduceEqDiff, if_false, if_true, h0, h4, h3], by simp only [upd_eq, Nat.reduceEqDiff, if_false, if_true, h0, h4, h3], ?_⟩
      have hf := fill_mid (n := l.length) (j := j) (zs := zs) (ms := ms) (z := [.v (.int .i64 0), .v (.slice none 0 0)]) (by rw [hms]; exact hzl) (by rw [hms]; rfl) hlt
      rw [hms] at hf
      refine ⟨zs ++ ms, ?_, ?_, ?_, ?_⟩
      · simp only [Hp.set_h, if_true]; exact congrArg some hf
      · have hla : (zs ++ ms).length = zs.length + ms.length := List.length_append
        rw [Nat.add_mul]; omega
      · exact Nat.lt_of_lt_of_le hg0 m2.1
      · rw [at_take hg, List.map_append, List.flatten_append]
        refine (hly.keep (H' := Hp.set H2 0 _) fun b h1 h2 => ?_).app (mid := H.g) ?_
        · rw [Hp.set_h, if_neg (by omega)]; exact m2.2 b h2
        · simpa using m3.keep (H' := Hp.set H2 0 _) fun b h1 h2 => by rw [Hp.set_h, if_neg (by omega)]
    · have hj' : j = l.length := by omega
      subst hj'
      rw [h3]
      obtain ⟨zs, hb, hzl, hg0, hly⟩ := hh
      rw [List.take_of_length_le (Nat.le_refl _)] at hly
      have hb' : H.h 0 = some zs := by rw [hb]; simp [zeros]
      exact hly.givesL (n := 11) hb' (by omega) (by omega) (by simp) (by omega) hls (fun c hc' x hx => by obtain ⟨k, -, rfl⟩ := List.mem_map.1 hc'; exact gE_Key 9 k x hx)
  · refine ⟨0, by omega, rfl, rfl, rfl, ?_⟩
    refine ⟨[], ?_, by simp, by simp, .nil (by simp)⟩
    simp only [Hp.new_h, nil_g, if_true, Nat.sub_zero, List.nil_append]
theorem p_ltoKeyS (l : List KeyM) (hk : l.length ≤ 1048576 ∧ ∀ x ∈ l, x.ok 1048576) : pure Try.prog cfg0 150 Try.f150 [.lst false (l.map encKey)] = some (.lst false (l.map encKey), true) := (pq_ltoKeyS l hk).1
theorem c_ltoKeyS (l : List KeyM) (hk : l.length ≤ 1048576 ∧ ∀ x ∈ l, x.ok 1048576) : ∀ H, call Try.prog cfg0 0 150 [.lst false (l.map encKey)] H = some (.lst false (l.map encKey), H) :=
  call_fz Try.func150 rfl ok_ltoKeyS rfl (by simp only [fz_cons, fz_nil, go_sem, and_self]) (pq_ltoKeyS l hk).1
theorem o_ltoKeyS (l : List KeyM) (hk : l.length ≤ 1048576 ∧ ∀ x ∈ l, x.ok 1048576) : ∀ H, call Try.prog cfg0 1 150 [.lst false (l.map encKey)] H = mat depthD (.lst false (l.map encKey)) H := fun H =>
  call_ofO Try.func150 rfl ok_ltoKeyS rfl (mapM_self fun x hx => ((show ∀ x ∈ ([.lst false (l.map encKey)] : List AV), Fz depthD x by simp only [fz_cons, fz_nil, go_sem, and_self]) x hx).1 H) (pq_ltoKeyS l hk).2

theorem ok_ltoRing : fnOk Try.prog cfg0 140 Try.f140 = true := by kernel_rfl
theorem pq_ltoRing (k : RingM) (hk : k.ok 1048576) : pure Try.prog cfg0 140 Try.f140 [.agg [.v (.int .i64 k.Primary), .lst false (k.Keys.map encKey)]] = some (.agg [.v (.int .i64 k.Primary), .lst false (k.Keys.map encKey)], true) ∧ owned Try.prog cfg0 140 Try.f140 [.agg [.v (.int .i64 k.Primary), .lst false (k.Keys.map encKey)]] = some (.agg [.v (.int .i64 k.Primary), .lst false (k.Keys.map encKey)]) := by
  refine both_wp (rs := [.cell 2 132]) rfl rfl ?_
  have hp0 : ∀ b, cfg0.pol 140 b = (if b = 9 then 1 else 0) := fun b => rfl
  repeat' (first | ((first | refine wSeqr (fun xx hx => ?_) | refine wIf (fun xx hx => ?_) | refine wReg (fun xx hx => ?_) | (refine wRet ?_; (try simp only [thenQ, blockQ]); refine ends_by (fun xx hx => ?_))); have hc := trivial; (repeat' (simp only [hc, go_sem, Nat.reduceAdd, Nat.reduceMul, Nat.reduceSub, Nat.reduceEqDiff, Nat.reduceLT, Nat.reduceLeDiff, Int.reduceEq, Int.reduceLT, Int.reduceLE, reduceIte, aresults, aresult, hp0, o_ltoKeyS k.Keys (hk.2), (fun H => mat_zz (d := depthD) (gR_Key 8 k.Keys) (Nat.le_of_ble_eq_true rfl) H), (fun H => (zz_ok (d := depthD) (gR_Key 8 k.Keys) (Nat.le_of_ble_eq_true rfl) (fun _ h => by cases h) H).1), (fun H => (zz_ok (d := depthD) (gR_Key 8 k.Keys) (Nat.le_of_ble_eq_true rfl) (fun _ h => by cases h) H).2), (fun H => (zz_ok (d := 11) (gR_Key 8 k.Keys) (Nat.le_of_ble_eq_true rfl) (fun _ h => by cases h) H).1), (fun H => (zz_ok (d := 11) (gR_Key 8 k.Keys) (Nat.le_of_ble_eq_true rfl) (fun _ h => by cases h) H).2), lt_hhI, hh_hI, true_or] at hx; (try (rw [guardL_if] at hx; split at hx <;> rename_i hc)))); all_goals (subst hx; first | (refine ⟨_, rfl, fun ht => ?_, fun ht => ?_⟩ <;> (try simp only [Bool.not_eq_true', Bool.not_eq_false', Bool.and_eq_true, Bool.and_eq_false_iff, Bool.or_eq_true, Bool.or_eq_false_iff, decide_eq_true_eq, decide_eq_false_iff_not, beq_iff_eq, bne_iff_ne, Bool.not_true, Bool.not_false, Bool.true_eq_false, Bool.false_eq_true, ne_eq, Decidable.not_not, inB_t, inB_f] at ht)) | (refine ⟨_, rfl, ?_⟩; (try simp only [tupOf])))) | refine wSkip ?_ | (refine wExit ?_; simp only [thenQ, blockQ, reduceIte, Nat.reduceEqDiff]) | refine wSeq ?_ | refine wBlock ?_)
  refine Laid.givesE (n := 11) (lo := 0) ?_ (by omega) (gE_Ring 8 k)
  refine Laid.vE _ ?_
  refine Laid.zzE (n := 11) (gR_Key 8 k.Keys) (Nat.le_of_ble_eq_true rfl) (Nat.zero_le _) ?_ ?_
  · repeat first | exact Kept.refl _ _ | refine Kept.set (by simp only [Hp.set_g, Hp.new_g, nil_g, lt_hhI, true_or, Nat.reduceAdd, Nat.reduceLT]) ?_ | refine Kept.hh ?_
  exact Laid.nilE
theorem p_ltoRing (k : RingM) (hk : k.ok 1048576) : pure Try.prog cfg0 140 Try.f140 [.agg [.v (.int .i64 k.Primary), .lst false (k.Keys.map encKey)]] = some (.agg [.v (.int .i64 k.Primary), .lst false (k.Keys.map encKey)], true) := (pq_ltoRing k hk).1
theorem c_ltoRing (k : RingM) (hk : k.ok 1048576) : ∀ H, call Try.prog cfg0 0 140 [.agg [.v (.int .i64 k.Primary), .lst false (k.Keys.map encKey)]] H = some (.agg [.v (.int .i64 k.Primary), .lst false (k.Keys.map encKey)], H) :=
  call_fz Try.func140 rfl ok_ltoRing rfl (by simp only [fz_cons, fz_nil, go_sem, and_self]) (pq_ltoRing k hk).1
theorem o_ltoRing (k : RingM) (hk : k.ok 1048576) : ∀ H, call Try.prog cfg0 1 140 [.agg [.v (.int .i64 k.Primary), .lst false (k.Keys.map encKey)]] H = mat depthD (.agg [.v (.int .i64 k.Primary), .lst false (k.Keys.map encKey)]) H := fun H =>
  call_ofO Try.func140 rfl ok_ltoRing rfl (mapM_self fun x hx => ((show ∀ x ∈ ([.agg [.v (.int .i64 k.Primary), .lst false (k.Keys.map encKey)]] : List AV), Fz depthD x by simp only [fz_cons, fz_nil, go_sem, and_self]) x hx).1 H) (pq_ltoRing k hk).2

theorem ok_ltoClaim : fnOk Try.prog cfg0 138 Try.f138 = true := by kernel_rfl
theorem p_ltoClaim (k : ClaimM) (hk : k.ok 1048576) : ∃ cl, pure Try.prog cfg0 138 Try.f138 [.agg [.v (.int .i64 k.Node), .v (.int .i64 k.Inc), .v (.int .i64 k.Status), .v (.int .i64 k.Meta)]] = some (.agg [.v (.int .i64 k.Node), .v (.int .i64 k.Inc), .v (.int .i64 k.Status), .v (.int .i64 k.Meta)], cl) := by
  have key : ∃ v cl, v = (.agg [.v (.int .i64 k.Node), .v (.int .i64 k.Inc), .v (.int .i64 k.Status), .v (.int .i64 k.Meta)] : AV) ∧ pure Try.prog cfg0 138 Try.f138 [.agg [.v (.int .i64 k.Node), .v (.int .i64 k.Inc), .v (.int .i64 k.Status), .v (.int .i64 k.Meta)]] = some (v, cl) := by
    refine pure_ex (rs := [.cell 2 46]) rfl rfl ?_
    have hp0 : ∀ b, cfg0.pol 138 b = 0 := fun b => rfl
    repeat' (first | ((first | refine wSeqr (fun xx hx => ?_) | refine wIf (fun xx hx => ?_) | refine wReg (fun xx hx => ?_) | (refine wRet ?_; (try simp only [thenQ, blockQ]); refine ends_by (fun xx hx => ?_))); have hc := trivial; (repeat' (simp only [hc, go_sem, Nat.reduceAdd, Nat.reduceMul, Nat.reduceSub, Nat.reduceEqDiff, Nat.reduceLT, Nat.reduceLeDiff, Int.reduceEq, Int.reduceLT, Int.reduceLE, reduceIte, aresults, aresult, hp0] at hx; (try (rw [guardL_if] at hx; split at hx <;> rename_i hc)))); all_goals (subst hx; first | (refine ⟨_, rfl, fun ht => ?_, fun ht => ?_⟩ <;> (try simp only [Bool.not_eq_true', Bool.not_eq_false', Bool.and_eq_true, Bool.and_eq_false_iff, Bool.or_eq_true, Bool.or_eq_false_iff, decide_eq_true_eq, decide_eq_false_iff_not, beq_iff_eq, bne_iff_ne, Bool.not_true, Bool.not_false, Bool.true_eq_false, Bool.false_eq_true, ne_eq, Decidable.not_not, inB_t, inB_f] at ht)) | (refine ⟨_, rfl, ?_⟩; (try simp only [tupOf])))) | refine wSkip ?_ | (refine wExit ?_; simp only [thenQ, blockQ, reduceIte, Nat.reduceEqDiff]) | refine wSeq ?_ | refine wBlock ?_)
    exact dirty (fz_deep (fzA_Claim k) _)
  obtain ⟨v, cl, rfl, hp⟩ := key
  exact ⟨cl, hp⟩
theorem c_ltoClaim (k : ClaimM) (hk : k.ok 1048576) : ∀ H, call Try.prog cfg0 0 138 [.agg [.v (.int .i64 k.Node), .v (.int .i64 k.Inc), .v (.int .i64 k.Status), .v (.int .i64 k.Meta)]] H = some (.agg [.v (.int .i64 k.Node), .v (.int .i64 k.Inc), .v (.int .i64 k.Status), .v (.int .i64 k.Meta)], H) := fun H => by
  obtain ⟨cl, hp⟩ := p_ltoClaim k hk
  exact call_fz Try.func138 rfl ok_ltoClaim rfl (by simp only [fz_cons, fz_nil, go_sem, and_self]) hp H

theorem ok_ltoClaimS : fnOk Try.prog cfg0 139 Try.f139 = true := by kernel_rfl
theorem pq_ltoClaimS (l : List ClaimM) (hk : l.length ≤ 1048576 ∧ ∀ x ∈ l, x.ok 1048576) : pure Try.prog cfg0 139 Try.f139 [.lst false (l.map encClaim)] = some (.lst false (l.map encClaim), true) ∧ owned Try.prog cfg0 139 Try.f139 [.lst false (l.map encClaim)] = some (.lst false (l.map encClaim)) := by
  refine both_wp (rs := [.tmp 2]) rfl rfl ?_
  have hp0 : ∀ b, cfg0.pol 139 b = 0 := fun b => rfl
  have hl := hk.1
  have hr := roomy_of (n := l.length) (b := 32) (by omega) (by omega)
  have hls : ∀ c ∈ l.map encClaim, c.length = 4 := fun c hc => by obtain ⟨k, -, rfl⟩ := List.mem_map.1 hc; rfl
  repeat' (first | ((first | refine wSeqr (fun xx hx => ?_) | refine wIf (fun xx hx => ?_) | refine wReg (fun xx hx => ?_) | (refine wRet ?_; (try simp only [thenQ, blockQ]); refine ends_by (fun xx hx => ?_))); have hc := trivial; (repeat' (simp only [hc, go_sem, Nat.reduceAdd, Nat.reduceMul, Nat.reduceSub, Nat.reduceEqDiff, Nat.reduceLT, Nat.reduceLeDiff, Int.reduceEq, Int.reduceLT, Int.reduceLE, reduceIte, aresults, aresult, hr, List.length_map] at hx; (try (rw [guardL_if] at hx; split at hx <;> rename_i hc)))); all_goals (subst hx; first | (refine ⟨_, rfl, fun ht => ?_, fun ht => ?_⟩ <;> (try simp only [Bool.not_eq_true', Bool.not_eq_false', Bool.and_eq_true, Bool.and_eq_false_iff, Bool.or_eq_true, Bool.or_eq_false_iff, decide_eq_true_eq, decide_eq_false_iff_not, beq_iff_eq, bne_iff_ne, Bool.not_true, Bool.not_false, Bool.true_eq_false, Bool.false_eq_true, ne_eq, Decidable.not_not, inB_t, inB_f] at ht)) | (refine ⟨_, rfl, ?_⟩; (try simp only [tupOf])))) | refine wSkip ?_ | (refine wExit ?_; simp only [thenQ, blockQ, reduceIte, Nat.reduceEqDiff]) | refine wSeq ?_ | refine wBlock ?_)
  refine wLoop (fun k s => ∃ (j : Nat), j + k = l.length ∧ s.1 0 = .lst false (l.map encClaim) ∧ s.1 4 = .v (.int .i64 (j : Nat)) ∧ s.1 3 = .sl 0 4 0 l.length ∧ (s.2.h 0 = some (((l.map encClaim).take j).flatten ++ zeros (l.length - j) [.v (.int .i64 0), .v (.int .i64 0), .v (.int .i64 0), .v (.int .i64 0)]))) (fun k s hI => ?_) (l.length) _ ?_
  · obtain ⟨e, H⟩ := s
    obtain ⟨j, hj, h0, h4, h3, hh⟩ := hI
    simp only at h0 h4 h3 hh
    repeat' (first | ((first | refine wSeqr (fun xx hx => ?_) | refine wIf (fun xx hx => ?_) | refine wReg (fun xx hx => ?_) | (refine wRet ?_; (try simp only [thenQ, blockQ]); refine ends_by (fun xx hx => ?_))); have hc := trivial; (repeat' (simp only [hc, go_sem, Nat.reduceAdd, Nat.reduceMul, Nat.reduceSub, Nat.reduceEqDiff, Nat.reduceLT, Nat.reduceLeDiff, Int.reduceEq, Int.reduceLT, Int.reduceLE, reduceIte, aresults, aresult, h0, h4, List.length_map] at hx; (try (rw [guardL_if] at hx; split at hx <;> rename_i hc)))); all_goals (subst hx; first | (refine ⟨_, rfl, fun ht => ?_, fun ht => ?_⟩ <;> (try simp only [Bool.not_eq_true', Bool.not_eq_false', Bool.and_eq_true, Bool.and_eq_false_iff, Bool.or_eq_true, Bool.or_eq_false_iff, decide_eq_true_eq, decide_eq_false_iff_not, beq_iff_eq, bne_iff_ne, Bool.not_true, Bool.not_false, Bool.true_eq_false, Bool.false_eq_true, ne_eq, Decidable.not_not, inB_t, inB_f] at ht)) | (refine ⟨_, rfl, ?_⟩; (try simp only [tupOf])))) | refine wSkip ?_ | (refine wExit ?_; simp only [thenQ, blockQ, reduceIte, Nat.reduceEqDiff]) | refine wSeq ?_ | refine wBlock ?_)
    · have hlt : j < l.length := by omega
      obtain ⟨k, hg, hd, hm⟩ := at_drop hlt
      have hg' := map_at (f := encClaim) hg
      have hlen := rows_len hls (z := [.v (.int .i64 0), .v (.int .i64 0), .v (.int .i64 0), .v (.int .i64 0)]) rfl (j := j) (by simp; omega)
      have hle : j * 4 + 4 ≤ l.length * 4 := by omega
      have hfill := fill_rows hls (z := [.v (.int .i64 0), .v (.int .i64 0), .v (.int .i64 0), .v (.int .i64 0)]) rfl hg'
      simp only [List.length_map] at hlen hfill
      simp only [encClaim] at hfill
      repeat' (first | ((first | refine wSeqr (fun xx hx => ?_) | refine wIf (fun xx hx => ?_) | refine wReg (fun xx hx => ?_) | (refine wRet ?_; (try simp only [thenQ, blockQ]); refine ends_by (fun xx hx => ?_))); have hc := trivial; (repeat' (simp only [hc, go_sem, Nat.reduceAdd, Nat.reduceMul, Nat.reduceSub, Nat.reduceEqDiff, Nat.reduceLT, Nat.reduceLeDiff, Int.reduceEq, Int.reduceLT, Int.reduceLE, reduceIte, aresults, aresult, h0, h3, h4, hg', hp0, c_ltoClaim k (hk.2 k hm), hh, hlt, hlen, Option.isSome_some, hle, hfill, wrap_succ (show j < 9223372036854775807 by omega)] at hx; (try (rw [guardL_if] at hx; split at hx <;> rename_i hc)))); all_goals (subst hx; first | (refine ⟨_, rfl, fun ht => ?_, fun ht => ?_⟩ <;> (try simp only [Bool.not_eq_true', Bool.not_eq_false', Bool.and_eq_true, Bool.and_eq_false_iff, Bool.or_eq_true, Bool.or_eq_false_iff, decide_eq_true_eq, decide_eq_false_iff_not, beq_iff_eq, bne_iff_ne, Bool.not_true, Bool.not_false, Bool.true_eq_false, Bool.false_eq_true, ne_eq, Decidable.not_not, inB_t, inB_f] at ht)) | (refine ⟨_, rfl, ?_⟩; (try simp only [tupOf])))) | refine wSkip ?_ | (refine wExit ?_; simp only [thenQ, blockQ, reduceIte, Nat.reduceEqDiff]) | refine wSeq ?_ | refine wBlock ?_)
      refine ⟨_, Nat.sub_lt (by omega) Nat.one_pos, j + 1, by omega, by simp only [upd_eq, Nat.reduceEqDiff, if_false, if_true, h0, h4, h3], by simp only [upd_eq, Nat.reduceEqDiff, if_false, if_true, h0, h4, h3], by simp only [upd_eq, Nat.reduceEqDiff, if_false, if_true, h0, h4, h3], ?_⟩
      simp only [setAll, Nat.add_assoc, Nat.reduceAdd] at hfill
      simp only [Hp.set_h, if_true, Nat.add_assoc, Nat.reduceAdd]
      exact congrArg some hfill
    · have hj' : j = l.length := by omega
      subst hj'
      rw [h3]
      have hh' : H.h 0 = some (l.map encClaim).flatten := by rw [hh, List.take_of_length_le (by simp)]; simp [zeros]
      refine givesL_flat (n := 11) hh' (by omega) (by simp) (by omega) hls (fun c hc' x hx => ?_) (fun c hc' x hx => ?_)
      · obtain ⟨k, -, rfl⟩ := List.mem_map.1 hc'; exact gE_Claim 10 k x hx
      · obtain ⟨k, -, rfl⟩ := List.mem_map.1 hc'
        simp only [encClaim, List.mem_cons, List.not_mem_nil, or_false] at hx
        rcases hx with rfl | rfl | rfl | rfl <;> exact ⟨_, rfl⟩
  · refine ⟨0, by omega, rfl, rfl, rfl, ?_⟩
    simp only [Hp.new_h, nil_g, if_true, Nat.sub_zero, List.take_zero, List.flatten_nil, List.nil_append]
theorem p_ltoClaimS (l : List ClaimM) (hk : l.length ≤ 1048576 ∧ ∀ x ∈ l, x.ok 1048576) : pure Try.prog cfg0 139 Try.f139 [.lst false (l.map encClaim)] = some (.lst false (l.map encClaim), true) := (pq_ltoClaimS l hk).1
theorem c_ltoClaimS (l : List ClaimM) (hk : l.length ≤ 1048576 ∧ ∀ x ∈ l, x.ok 1048576) : ∀ H, call Try.prog cfg0 0 139 [.lst false (l.map encClaim)] H = some (.lst false (l.map encClaim), H) :=
  call_fz Try.func139 rfl ok_ltoClaimS rfl (by simp only [fz_cons, fz_nil, go_sem, and_self]) (pq_ltoClaimS l hk).1
theorem o_ltoClaimS (l : List ClaimM) (hk : l.length ≤ 1048576 ∧ ∀ x ∈ l, x.ok 1048576) : ∀ H, call Try.prog cfg0 1 139 [.lst false (l.map encClaim)] H = mat depthD (.lst false (l.map encClaim)) H := fun H =>
  call_ofO Try.func139 rfl ok_ltoClaimS rfl (mapM_self fun x hx => ((show ∀ x ∈ ([.lst false (l.map encClaim)] : List AV), Fz depthD x by simp only [fz_cons, fz_nil, go_sem, and_self]) x hx).1 H) (pq_ltoClaimS l hk).2

theorem ok_ltoWait : fnOk Try.prog cfg0 151 Try.f151 = true := by kernel_rfl
theorem p_ltoWait (k : WaitM) (hk : k.ok 1048576) : ∃ cl, pure Try.prog cfg0 151 Try.f151 [.agg [.v (.int .i64 k.Kind), .v (.int .i64 k.Seq), .v (.int .i64 k.Node), .v (.int .i64 k.Inc), .v (.int .i64 k.Left), .v (.int .i64 k.For_), .v (.int .i64 k.Old)]] = some (.agg [.v (.int .i64 k.Kind), .v (.int .i64 k.Seq), .v (.int .i64 k.Node), .v (.int .i64 k.Inc), .v (.int .i64 k.Left), .v (.int .i64 k.For_), .v (.int .i64 k.Old)], cl) := by
  have key : ∃ v cl, v = (.agg [.v (.int .i64 k.Kind), .v (.int .i64 k.Seq), .v (.int .i64 k.Node), .v (.int .i64 k.Inc), .v (.int .i64 k.Left), .v (.int .i64 k.For_), .v (.int .i64 k.Old)] : AV) ∧ pure Try.prog cfg0 151 Try.f151 [.agg [.v (.int .i64 k.Kind), .v (.int .i64 k.Seq), .v (.int .i64 k.Node), .v (.int .i64 k.Inc), .v (.int .i64 k.Left), .v (.int .i64 k.For_), .v (.int .i64 k.Old)]] = some (v, cl) := by
    refine pure_ex (rs := [.cell 2 190]) rfl rfl ?_
    have hp0 : ∀ b, cfg0.pol 151 b = 0 := fun b => rfl
    repeat' (first | ((first | refine wSeqr (fun xx hx => ?_) | refine wIf (fun xx hx => ?_) | refine wReg (fun xx hx => ?_) | (refine wRet ?_; (try simp only [thenQ, blockQ]); refine ends_by (fun xx hx => ?_))); have hc := trivial; (repeat' (simp only [hc, go_sem, Nat.reduceAdd, Nat.reduceMul, Nat.reduceSub, Nat.reduceEqDiff, Nat.reduceLT, Nat.reduceLeDiff, Int.reduceEq, Int.reduceLT, Int.reduceLE, reduceIte, aresults, aresult, hp0] at hx; (try (rw [guardL_if] at hx; split at hx <;> rename_i hc)))); all_goals (subst hx; first | (refine ⟨_, rfl, fun ht => ?_, fun ht => ?_⟩ <;> (try simp only [Bool.not_eq_true', Bool.not_eq_false', Bool.and_eq_true, Bool.and_eq_false_iff, Bool.or_eq_true, Bool.or_eq_false_iff, decide_eq_true_eq, decide_eq_false_iff_not, beq_iff_eq, bne_iff_ne, Bool.not_true, Bool.not_false, Bool.true_eq_false, Bool.false_eq_true, ne_eq, Decidable.not_not, inB_t, inB_f] at ht)) | (refine ⟨_, rfl, ?_⟩; (try simp only [tupOf])))) | refine wSkip ?_ | (refine wExit ?_; simp only [thenQ, blockQ, reduceIte, Nat.reduceEqDiff]) | refine wSeq ?_ | refine wBlock ?_)
    exact dirty (fz_deep (fzA_Wait k) _)
  obtain ⟨v, cl, rfl, hp⟩ := key
  exact ⟨cl, hp⟩
theorem c_ltoWait (k : WaitM) (hk : k.ok 1048576) : ∀ H, call Try.prog cfg0 0 151 [.agg [.v (.int .i64 k.Kind), .v (.int .i64 k.Seq), .v (.int .i64 k.Node), .v (.int .i64 k.Inc), .v (.int .i64 k.Left), .v (.int .i64 k.For_), .v (.int .i64 k.Old)]] H = some (.agg [.v (.int .i64 k.Kind), .v (.int .i64 k.Seq), .v (.int .i64 k.Node), .v (.int .i64 k.Inc), .v (.int .i64 k.Left), .v (.int .i64 k.For_), .v (.int .i64 k.Old)], H) := fun H => by
  obtain ⟨cl, hp⟩ := p_ltoWait k hk
  exact call_fz Try.func151 rfl ok_ltoWait rfl (by simp only [fz_cons, fz_nil, go_sem, and_self]) hp H

theorem ok_ltoWaitS : fnOk Try.prog cfg0 141 Try.f141 = true := by kernel_rfl
theorem pq_ltoWaitS (l : List WaitM) (hk : l.length ≤ 1048576 ∧ ∀ x ∈ l, x.ok 1048576) : pure Try.prog cfg0 141 Try.f141 [.lst false (l.map encWait)] = some (.lst false (l.map encWait), true) ∧ owned Try.prog cfg0 141 Try.f141 [.lst false (l.map encWait)] = some (.lst false (l.map encWait)) := by
  refine both_wp (rs := [.tmp 2]) rfl rfl ?_
  have hp0 : ∀ b, cfg0.pol 141 b = 0 := fun b => rfl
  have hl := hk.1
  have hr := roomy_of (n := l.length) (b := 56) (by omega) (by omega)
  have hls : ∀ c ∈ l.map encWait, c.length = 7 := fun c hc => by obtain ⟨k, -, rfl⟩ := List.mem_map.1 hc; rfl
  repeat' (first | ((first | refine wSeqr (fun xx hx => ?_) | refine wIf (fun xx hx => ?_) | refine wReg (fun xx hx => ?_) | (refine wRet ?_; (try simp only [thenQ, blockQ]); refine ends_by (fun xx hx => ?_))); have hc := trivial; (repeat' (simp only [hc, go_sem, Nat.reduceAdd, Nat.reduceMul, Nat.reduceSub, Nat.reduceEqDiff, Nat.reduceLT, Nat.reduceLeDiff, Int.reduceEq, Int.reduceLT, Int.reduceLE, reduceIte, aresults, aresult, hr, List.length_map] at hx; (try (rw [guardL_if] at hx; split at hx <;> rename_i hc)))); all_goals (subst hx; first | (refine ⟨_, rfl, fun ht => ?_, fun ht => ?_⟩ <;> (try simp only [Bool.not_eq_true', Bool.not_eq_false', Bool.and_eq_true, Bool.and_eq_false_iff, Bool.or_eq_true, Bool.or_eq_false_iff, decide_eq_true_eq, decide_eq_false_iff_not, beq_iff_eq, bne_iff_ne, Bool.not_true, Bool.not_false, Bool.true_eq_false, Bool.false_eq_true, ne_eq, Decidable.not_not, inB_t, inB_f] at ht)) | (refine ⟨_, rfl, ?_⟩; (try simp only [tupOf])))) | refine wSkip ?_ | (refine wExit ?_; simp only [thenQ, blockQ, reduceIte, Nat.reduceEqDiff]) | refine wSeq ?_ | refine wBlock ?_)
  refine wLoop (fun k s => ∃ (j : Nat), j + k = l.length ∧ s.1 0 = .lst false (l.map encWait) ∧ s.1 4 = .v (.int .i64 (j : Nat)) ∧ s.1 3 = .sl 0 7 0 l.length ∧ (s.2.h 0 = some (((l.map encWait).take j).flatten ++ zeros (l.length - j) [.v (.int .i64 0), .v (.int .i64 0), .v (.int .i64 0), .v (.int .i64 0), .v (.int .i64 0), .v (.int .i64 0), .v (.int .i64 0)]))) (fun k s hI => ?_) (l.length) _ ?_
  · obtain ⟨e, H⟩ := s
    obtain ⟨j, hj, h0, h4, h3, hh⟩ := hI
    simp only at h0 h4 h3 hh
    repeat' (first | ((first | refine wSeqr (fun xx hx => ?_) | refine wIf (fun xx hx => ?_) | refine wReg (fun xx hx => ?_) | (refine wRet ?_; (try simp only [thenQ, blockQ]); refine ends_by (fun xx hx => ?_))); have hc := trivial; (repeat' (simp only [hc, go_sem, Nat.reduceAdd, Nat.reduceMul, Nat.reduceSub, Nat.reduceEqDiff, Nat.reduceLT, Nat.reduceLeDiff, Int.reduceEq, Int.reduceLT, Int.reduceLE, reduceIte, aresults, aresult, h0, h4, List.length_map] at hx; (try (rw [guardL_if] at hx; split at hx <;> rename_i hc)))); all_goals (subst hx; first | (refine ⟨_, rfl, fun ht => ?_, fun ht => ?_⟩ <;> (try simp only [Bool.not_eq_true', Bool.not_eq_false', Bool.and_eq_true, Bool.and_eq_false_iff, Bool.or_eq_true, Bool.or_eq_false_iff, decide_eq_true_eq, decide_eq_false_iff_not, beq_iff_eq, bne_iff_ne, Bool.not_true, Bool.not_false, Bool.true_eq_false, Bool.false_eq_true, ne_eq, Decidable.not_not, inB_t, inB_f] at ht)) | (refine ⟨_, rfl, ?_⟩; (try simp only [tupOf])))) | refine wSkip ?_ | (refine wExit ?_; simp only [thenQ, blockQ, reduceIte, Nat.reduceEqDiff]) | refine wSeq ?_ | refine wBlock ?_)
    · have hlt : j < l.length := by omega
      obtain ⟨k, hg, hd, hm⟩ := at_drop hlt
      have hg' := map_at (f := encWait) hg
      have hlen := rows_len hls (z := [.v (.int .i64 0), .v (.int .i64 0), .v (.int .i64 0), .v (.int .i64 0), .v (.int .i64 0), .v (.int .i64 0), .v (.int .i64 0)]) rfl (j := j) (by simp; omega)
      have hle : j * 7 + 7 ≤ l.length * 7 := by omega
      have hfill := fill_rows hls (z := [.v (.int .i64 0), .v (.int .i64 0), .v (.int .i64 0), .v (.int .i64 0), .v (.int .i64 0), .v (.int .i64 0), .v (.int .i64 0)]) rfl hg'
      simp only [List.length_map] at hlen hfill
      simp only [encWait] at hfill
      repeat' (first | ((first | refine wSeqr (fun xx hx => ?_) | refine wIf (fun xx hx => ?_) | refine wReg (fun xx hx => ?_) | (refine wRet ?_; (try simp only [thenQ, blockQ]); refine ends_by (fun xx hx => ?_))); have hc := trivial; (repeat' (simp only [hc, go_sem, Nat.reduceAdd, Nat.reduceMul, Nat.reduceSub, Nat.reduceEqDiff, Nat.reduceLT, Nat.reduceLeDiff, Int.reduceEq, Int.reduceLT, Int.reduceLE, reduceIte, aresults, aresult, h0, h3, h4, hg', hp0, c_ltoWait k (hk.2 k hm), hh, hlt, hlen, Option.isSome_some, hle, hfill, wrap_succ (show j < 9223372036854775807 by omega)] at hx; (try (rw [guardL_if] at hx; split at hx <;> rename_i hc)))); all_goals (subst hx; first | (refine ⟨_, rfl, fun ht => ?_, fun ht => ?_⟩ <;> (try simp only [Bool.not_eq_true', Bool.not_eq_false', Bool.and_eq_true, Bool.and_eq_false_iff, Bool.or_eq_true, Bool.or_eq_false_iff, decide_eq_true_eq, decide_eq_false_iff_not, beq_iff_eq, bne_iff_ne, Bool.not_true, Bool.not_false, Bool.true_eq_false, Bool.false_eq_true, ne_eq, Decidable.not_not, inB_t, inB_f] at ht)) | (refine ⟨_, rfl, ?_⟩; (try simp only [tupOf])))) | refine wSkip ?_ | (refine wExit ?_; simp only [thenQ, blockQ, reduceIte, Nat.reduceEqDiff]) | refine wSeq ?_ | refine wBlock ?_)
      refine ⟨_, Nat.sub_lt (by omega) Nat.one_pos, j + 1, by omega, by simp only [upd_eq, Nat.reduceEqDiff, if_false, if_true, h0, h4, h3], by simp only [upd_eq, Nat.reduceEqDiff, if_false, if_true, h0, h4, h3], by simp only [upd_eq, Nat.reduceEqDiff, if_false, if_true, h0, h4, h3], ?_⟩
      simp only [setAll, Nat.add_assoc, Nat.reduceAdd] at hfill
      simp only [Hp.set_h, if_true, Nat.add_assoc, Nat.reduceAdd]
      exact congrArg some hfill
    · have hj' : j = l.length := by omega
      subst hj'
      rw [h3]
      have hh' : H.h 0 = some (l.map encWait).flatten := by rw [hh, List.take_of_length_le (by simp)]; simp [zeros]
      refine givesL_flat (n := 11) hh' (by omega) (by simp) (by omega) hls (fun c hc' x hx => ?_) (fun c hc' x hx => ?_)
      · obtain ⟨k, -, rfl⟩ := List.mem_map.1 hc'; exact gE_Wait 10 k x hx
      · obtain ⟨k, -, rfl⟩ := List.mem_map.1 hc'
        simp only [encWait, List.mem_cons, List.not_mem_nil, or_false] at hx
        rcases hx with rfl | rfl | rfl | rfl | rfl | rfl | rfl <;> exact ⟨_, rfl⟩
  · refine ⟨0, by omega, rfl, rfl, rfl, ?_⟩
    simp only [Hp.new_h, nil_g, if_true, Nat.sub_zero, List.take_zero, List.flatten_nil, List.nil_append]
theorem p_ltoWaitS (l : List WaitM) (hk : l.length ≤ 1048576 ∧ ∀ x ∈ l, x.ok 1048576) : pure Try.prog cfg0 141 Try.f141 [.lst false (l.map encWait)] = some (.lst false (l.map encWait), true) := (pq_ltoWaitS l hk).1
theorem c_ltoWaitS (l : List WaitM) (hk : l.length ≤ 1048576 ∧ ∀ x ∈ l, x.ok 1048576) : ∀ H, call Try.prog cfg0 0 141 [.lst false (l.map encWait)] H = some (.lst false (l.map encWait), H) :=
  call_fz Try.func141 rfl ok_ltoWaitS rfl (by simp only [fz_cons, fz_nil, go_sem, and_self]) (pq_ltoWaitS l hk).1
theorem o_ltoWaitS (l : List WaitM) (hk : l.length ≤ 1048576 ∧ ∀ x ∈ l, x.ok 1048576) : ∀ H, call Try.prog cfg0 1 141 [.lst false (l.map encWait)] H = mat depthD (.lst false (l.map encWait)) H := fun H =>
  call_ofO Try.func141 rfl ok_ltoWaitS rfl (mapM_self fun x hx => ((show ∀ x ∈ ([.lst false (l.map encWait)] : List AV), Fz depthD x by simp only [fz_cons, fz_nil, go_sem, and_self]) x hx).1 H) (pq_ltoWaitS l hk).2

theorem ok_ltoWindow : fnOk Try.prog cfg0 152 Try.f152 = true := by kernel_rfl
theorem pq_ltoWindow (k : WindowM) (hk : k.ok 1048576) : pure Try.prog cfg0 152 Try.f152 [.agg [.v (.int .i64 k.Top), i64L k.Seen]] = some (.agg [.v (.int .i64 k.Top), i64L k.Seen], true) ∧ owned Try.prog cfg0 152 Try.f152 [.agg [.v (.int .i64 k.Top), i64L k.Seen]] = some (.agg [.v (.int .i64 k.Top), i64L k.Seen]) := by
  refine both_wp (rs := [.cell 2 192]) rfl rfl ?_
  have hp0 : ∀ b, cfg0.pol 152 b = (if b = 9 then 1 else 0) := fun b => rfl
  repeat' (first | ((first | refine wSeqr (fun xx hx => ?_) | refine wIf (fun xx hx => ?_) | refine wReg (fun xx hx => ?_) | (refine wRet ?_; (try simp only [thenQ, blockQ]); refine ends_by (fun xx hx => ?_))); have hc := trivial; (repeat' (simp only [hc, go_sem, Nat.reduceAdd, Nat.reduceMul, Nat.reduceSub, Nat.reduceEqDiff, Nat.reduceLT, Nat.reduceLeDiff, Int.reduceEq, Int.reduceLT, Int.reduceLE, reduceIte, aresults, aresult, hp0, o_ltoInt64S k.Seen hk.2.2, (fun H => mat_zz (d := depthD) (MatG.i64s 9 k.Seen) (Nat.le_of_ble_eq_true rfl) H), (fun H => (zz_ok (d := depthD) (MatG.i64s 9 k.Seen) (Nat.le_of_ble_eq_true rfl) (fun _ h => by cases h) H).1), (fun H => (zz_ok (d := depthD) (MatG.i64s 9 k.Seen) (Nat.le_of_ble_eq_true rfl) (fun _ h => by cases h) H).2), (fun H => (zz_ok (d := 11) (MatG.i64s 9 k.Seen) (Nat.le_of_ble_eq_true rfl) (fun _ h => by cases h) H).1), (fun H => (zz_ok (d := 11) (MatG.i64s 9 k.Seen) (Nat.le_of_ble_eq_true rfl) (fun _ h => by cases h) H).2), lt_hhI, hh_hI, true_or] at hx; (try (rw [guardL_if] at hx; split at hx <;> rename_i hc)))); all_goals (subst hx; first | (refine ⟨_, rfl, fun ht => ?_, fun ht => ?_⟩ <;> (try simp only [Bool.not_eq_true', Bool.not_eq_false', Bool.and_eq_true, Bool.and_eq_false_iff, Bool.or_eq_true, Bool.or_eq_false_iff, decide_eq_true_eq, decide_eq_false_iff_not, beq_iff_eq, bne_iff_ne, Bool.not_true, Bool.not_false, Bool.true_eq_false, Bool.false_eq_true, ne_eq, Decidable.not_not, inB_t, inB_f] at ht)) | (refine ⟨_, rfl, ?_⟩; (try simp only [tupOf])))) | refine wSkip ?_ | (refine wExit ?_; simp only [thenQ, blockQ, reduceIte, Nat.reduceEqDiff]) | refine wSeq ?_ | refine wBlock ?_)
  refine Laid.givesE (n := 11) (lo := 0) ?_ (by omega) (gE_Window 9 k)
  refine Laid.vE _ ?_
  refine Laid.zzE (n := 11) (MatG.i64s 9 k.Seen) (Nat.le_of_ble_eq_true rfl) (Nat.zero_le _) ?_ ?_
  · repeat first | exact Kept.refl _ _ | refine Kept.set (by simp only [Hp.set_g, Hp.new_g, nil_g, lt_hhI, true_or, Nat.reduceAdd, Nat.reduceLT]) ?_ | refine Kept.hh ?_
  exact Laid.nilE
theorem p_ltoWindow (k : WindowM) (hk : k.ok 1048576) : pure Try.prog cfg0 152 Try.f152 [.agg [.v (.int .i64 k.Top), i64L k.Seen]] = some (.agg [.v (.int .i64 k.Top), i64L k.Seen], true) := (pq_ltoWindow k hk).1
theorem c_ltoWindow (k : WindowM) (hk : k.ok 1048576) : ∀ H, call Try.prog cfg0 0 152 [.agg [.v (.int .i64 k.Top), i64L k.Seen]] H = some (.agg [.v (.int .i64 k.Top), i64L k.Seen], H) :=
  call_fz Try.func152 rfl ok_ltoWindow rfl (by simp only [fz_cons, fz_nil, go_sem, and_self]) (pq_ltoWindow k hk).1
theorem o_ltoWindow (k : WindowM) (hk : k.ok 1048576) : ∀ H, call Try.prog cfg0 1 152 [.agg [.v (.int .i64 k.Top), i64L k.Seen]] H = mat depthD (.agg [.v (.int .i64 k.Top), i64L k.Seen]) H := fun H =>
  call_ofO Try.func152 rfl ok_ltoWindow rfl (mapM_self fun x hx => ((show ∀ x ∈ ([.agg [.v (.int .i64 k.Top), i64L k.Seen]] : List AV), Fz depthD x by simp only [fz_cons, fz_nil, go_sem, and_self]) x hx).1 H) (pq_ltoWindow k hk).2

theorem ok_ltoWindowS : fnOk Try.prog cfg0 142 Try.f142 = true := by kernel_rfl
theorem pq_ltoWindowS (l : List WindowM) (hk : l.length ≤ 1048576 ∧ ∀ x ∈ l, x.ok 1048576) : pure Try.prog cfg0 142 Try.f142 [.lst false (l.map encWindow)] = some (.lst false (l.map encWindow), true) ∧ owned Try.prog cfg0 142 Try.f142 [.lst false (l.map encWindow)] = some (.lst false (l.map encWindow)) := by
  refine both_wp (rs := [.tmp 2]) rfl rfl ?_
  have hp0 : ∀ b, cfg0.pol 142 b = (if b = 20 then 1 else 0) := fun b => rfl
  have hl := hk.1
  have hr := roomy_of (n := l.length) (b := 32) (by omega) (by omega)
  have hls : ∀ c ∈ l.map encWindow, c.length = 2 := fun c hc => by obtain ⟨k, -, rfl⟩ := List.mem_map.1 hc; rfl
  repeat' (first | ((first | refine wSeqr (fun xx hx => ?_) | refine wIf (fun xx hx => ?_) | refine wReg (fun xx hx => ?_) | (refine wRet ?_; (try simp only [thenQ, blockQ]); refine ends_by (fun xx hx => ?_))); have hc := trivial; (repeat' (simp only [hc, go_sem, Nat.reduceAdd, Nat.reduceMul, Nat.reduceSub, Nat.reduceEqDiff, Nat.reduceLT, Nat.reduceLeDiff, Int.reduceEq, Int.reduceLT, Int.reduceLE, reduceIte, aresults, aresult, hr, List.length_map] at hx; (try (rw [guardL_if] at hx; split at hx <;> rename_i hc)))); all_goals (subst hx; first | (refine ⟨_, rfl, fun ht => ?_, fun ht => ?_⟩ <;> (try simp only [Bool.not_eq_true', Bool.not_eq_false', Bool.and_eq_true, Bool.and_eq_false_iff, Bool.or_eq_true, Bool.or_eq_false_iff, decide_eq_true_eq, decide_eq_false_iff_not, beq_iff_eq, bne_iff_ne, Bool.not_true, Bool.not_false, Bool.true_eq_false, Bool.false_eq_true, ne_eq, Decidable.not_not, inB_t, inB_f] at ht)) | (refine ⟨_, rfl, ?_⟩; (try simp only [tupOf])))) | refine wSkip ?_ | (refine wExit ?_; simp only [thenQ, blockQ, reduceIte, Nat.reduceEqDiff]) | refine wSeq ?_ | refine wBlock ?_)
  refine wLoop (fun k s => ∃ (j : Nat), j + k = l.length ∧ s.1 0 = .lst false (l.map encWindow) ∧ s.1 4 = .v (.int .i64 (j : Nat)) ∧ s.1 3 = .sl 0 2 0 l.length ∧ (∃ zs, s.2.h 0 = some (zs ++ zeros (l.length - j) [.v (.int .i64 0), .v (.slice none 0 0)]) ∧ zs.length = j * 2 ∧ 0 < s.2.g ∧ Laid s.2 1 s.2.g ((l.take j).map encWindow).flatten zs)) (fun k s hI => ?_) (l.length) _ ?_
  · obtain ⟨e, H⟩ := s
    obtain ⟨j, hj, h0, h4, h3, hh⟩ := hI
    simp only at h0 h4 h3 hh
    repeat' (first | ((first | refine wSeqr (fun xx hx => ?_) | refine wIf (fun xx hx => ?_) | refine wReg (fun xx hx => ?_) | (refine wRet ?_; (try simp only [thenQ, blockQ]); refine ends_by (fun xx hx => ?_))); have hc := trivial; (repeat' (simp only [hc, go_sem, Nat.reduceAdd, Nat.reduceMul, Nat.reduceSub, Nat.reduceEqDiff, Nat.reduceLT, Nat.reduceLeDiff, Int.reduceEq, Int.reduceLT, Int.reduceLE, reduceIte, aresults, aresult, h0, h4, List.length_map] at hx; (try (rw [guardL_if] at hx; split at hx <;> rename_i hc)))); all_goals (subst hx; first | (refine ⟨_, rfl, fun ht => ?_, fun ht => ?_⟩ <;> (try simp only [Bool.not_eq_true', Bool.not_eq_false', Bool.and_eq_true, Bool.and_eq_false_iff, Bool.or_eq_true, Bool.or_eq_false_iff, decide_eq_true_eq, decide_eq_false_iff_not, beq_iff_eq, bne_iff_ne, Bool.not_true, Bool.not_false, Bool.true_eq_false, Bool.false_eq_true, ne_eq, Decidable.not_not, inB_t, inB_f] at ht)) | (refine ⟨_, rfl, ?_⟩; (try simp only [tupOf])))) | refine wSkip ?_ | (refine wExit ?_; simp only [thenQ, blockQ, reduceIte, Nat.reduceEqDiff]) | refine wSeq ?_ | refine wBlock ?_)
    · have hlt : j < l.length := by omega
      obtain ⟨k, hg, hd, hm⟩ := at_drop hlt
      have hg' := map_at (f := encWindow) hg
      obtain ⟨zs, hb, hzl, hg0, hly⟩ := hh
      obtain ⟨ms, H2, m1, m2, m3⟩ := mat_row (n := 11) (gE_Window 9 k) (by omega) H
      have hms : ms.length = 2 := m3.len
      have hmo : ms.all okc = true := m3.one (fun x hx => ⟨_, gE_Window 9 k x hx⟩) (fun y hy => by
        simp only [encWindow, List.mem_cons, List.not_mem_nil, or_false] at hy
        rcases hy with h | h <;> first | (injection h with h; subst h; rfl) | (cases h))
      have hb2 : H2.h 0 = some (zs ++ zeros (l.length - j) [.v (.int .i64 0), .v (.slice none 0 0)]) := (m2.2 0 hg0).trans hb
      have hlen : (zs ++ zeros (l.length - j) [.v (.int .i64 0), .v (.slice none 0 0)]).length = l.length * 2 := fill_len hzl rfl (by omega)
      have hle : j * 2 + 2 ≤ l.length * 2 := by omega
      simp only [encWindow] at m1
      repeat' (first | ((first | refine wSeqr (fun xx hx => ?_) | refine wIf (fun xx hx => ?_) | refine wReg (fun xx hx => ?_) | (refine wRet ?_; (try simp only [thenQ, blockQ]); refine ends_by (fun xx hx => ?_))); have hc := trivial; (repeat' (simp only [hc, go_sem, Nat.reduceAdd, Nat.reduceMul, Nat.reduceSub, Nat.reduceEqDiff, Nat.reduceLT, Nat.reduceLeDiff, Int.reduceEq, Int.reduceLT, Int.reduceLE, reduceIte, aresults, aresult, h0, h3, h4, hg', hp0, o_ltoWindow k (hk.2 k hm), m1, hb2, hlt, hlen, hms, hmo, Option.isSome_some, hle, wrap_succ (show j < 9223372036854775807 by omega)] at hx; (try (rw [guardL_if] at hx; split at hx <;> rename_i hc)))); all_goals (subst hx; first | (refine ⟨_, rfl, fun ht => ?_, fun ht => ?_⟩ <;> (try simp only [Bool.not_eq_true', Bool.not_eq_false', Bool.and_eq_true, Bool.and_eq_false_iff, Bool.or_eq_true, Bool.or_eq_false_iff, decide_eq_true_eq, decide_eq_false_iff_not, beq_iff_eq, bne_iff_ne, Bool.not_true, Bool.not_false, Bool.true_eq_false, Bool.false_eq_true, ne_eq, Decidable.not_not, inB_t, inB_f] at ht)) | (refine ⟨_, rfl, ?_⟩; (try simp only [tupOf])))) | refine wSkip ?_ | (refine wExit ?_; simp only [thenQ, blockQ, reduceIte, Nat.reduceEqDiff]) | refine wSeq ?_ | refine wBlock ?_)
      refine ⟨_, Nat.sub_lt (by omega) Nat.one_pos, j + 1, by omega, by simp only [upd_eq, Nat.reduceEqDiff, if_false, if_true, h0, h4, h3], by simp only [upd_eq, Nat.reduceEqDiff, if_false, if_true, h0, h4, h3], by simp only [upd_eq, Nat.reduceEqDiff, if_false, if_true, h0, h4, h3], ?_⟩
      have hf := fill_mid (n := l.length) (j := j) (zs := zs) (ms := ms) (z := [.v (.int .i64 0), .v (.slice none 0 0)]) (by rw [hms]; exact hzl) (by rw [hms]; rfl) hlt
      rw [hms] at hf
      refine ⟨zs ++ ms, ?_, ?_, ?_, ?_⟩
      · simp only [Hp.set_h, if_true]; exact congrArg some hf
      · have hla : (zs ++ ms).length = zs.length + ms.length := List.length_append
        rw [Nat.add_mul]; omega
      · exact Nat.lt_of_lt_of_le hg0 m2.1
      · rw [at_take hg, List.map_append, List.flatten_append]
        refine (hly.keep (H' := Hp.set H2 0 _) fun b h1 h2 => ?_).app (mid := H.g) ?_
        · rw [Hp.set_h, if_neg (by omega)]; exact m2.2 b h2
        · simpa using m3.keep (H' := Hp.set H2 0 _) fun b h1 h2 => by rw [Hp.set_h, if_neg (by omega)]
    · have hj' : j = l.length := by omega
      subst hj'
      rw [h3]
      obtain ⟨zs, hb, hzl, hg0, hly⟩ := hh
      rw [List.take_of_length_le (Nat.le_refl _)] at hly
      have hb' : H.h 0 = some zs := by rw [hb]; simp [zeros]
      exact hly.givesL (n := 11) hb' (by omega) (by omega) (by simp) (by omega) hls (fun c hc' x hx => by obtain ⟨k, -, rfl⟩ := List.mem_map.1 hc'; exact gE_Window 9 k x hx)
  · refine ⟨0, by omega, rfl, rfl, rfl, ?_⟩
    refine ⟨[], ?_, by simp, by simp, .nil (by simp)⟩
    simp only [Hp.new_h, nil_g, if_true, Nat.sub_zero, List.nil_append]
theorem p_ltoWindowS (l : List WindowM) (hk : l.length ≤ 1048576 ∧ ∀ x ∈ l, x.ok 1048576) : pure Try.prog cfg0 142 Try.f142 [.lst false (l.map encWindow)] = some (.lst false (l.map encWindow), true) := (pq_ltoWindowS l hk).1
theorem c_ltoWindowS (l : List WindowM) (hk : l.length ≤ 1048576 ∧ ∀ x ∈ l, x.ok 1048576) : ∀ H, call Try.prog cfg0 0 142 [.lst false (l.map encWindow)] H = some (.lst false (l.map encWindow), H) :=
  call_fz Try.func142 rfl ok_ltoWindowS rfl (by simp only [fz_cons, fz_nil, go_sem, and_self]) (pq_ltoWindowS l hk).1
theorem o_ltoWindowS (l : List WindowM) (hk : l.length ≤ 1048576 ∧ ∀ x ∈ l, x.ok 1048576) : ∀ H, call Try.prog cfg0 1 142 [.lst false (l.map encWindow)] H = mat depthD (.lst false (l.map encWindow)) H := fun H =>
  call_ofO Try.func142 rfl ok_ltoWindowS rfl (mapM_self fun x hx => ((show ∀ x ∈ ([.lst false (l.map encWindow)] : List AV), Fz depthD x by simp only [fz_cons, fz_nil, go_sem, and_self]) x hx).1 H) (pq_ltoWindowS l hk).2

theorem ok_ltoNodeState : fnOk Try.prog cfg0 121 Try.f121 = true := by kernel_rfl
theorem pq_ltoNodeState (k : NodeStateM) (hk : k.ok 1048576) : pure Try.prog cfg0 121 Try.f121 [.agg [.v (.int .i64 k.Own.Node), .v (.int .i64 k.Own.Inc), .v (.int .i64 k.Own.Status), .v (.int .i64 k.Own.Meta), .lst false (k.View.map encClaim), .v (.int .i64 k.Ring.Primary), .lst false (k.Ring.Keys.map encKey), .v (.int .i64 k.Counter), .v (.int .i64 k.Seq), .v (.int .i64 k.Last), .lst false (k.Waits.map encWait), .lst false (k.Windows.map encWindow), .v (.int .i64 k.Drops), .v (.bool k.Stopped)]] = some (.agg [.v (.int .i64 k.Own.Node), .v (.int .i64 k.Own.Inc), .v (.int .i64 k.Own.Status), .v (.int .i64 k.Own.Meta), .lst false (k.View.map encClaim), .v (.int .i64 k.Ring.Primary), .lst false (k.Ring.Keys.map encKey), .v (.int .i64 k.Counter), .v (.int .i64 k.Seq), .v (.int .i64 k.Last), .lst false (k.Waits.map encWait), .lst false (k.Windows.map encWindow), .v (.int .i64 k.Drops), .v (.bool k.Stopped)], true) ∧ owned Try.prog cfg0 121 Try.f121 [.agg [.v (.int .i64 k.Own.Node), .v (.int .i64 k.Own.Inc), .v (.int .i64 k.Own.Status), .v (.int .i64 k.Own.Meta), .lst false (k.View.map encClaim), .v (.int .i64 k.Ring.Primary), .lst false (k.Ring.Keys.map encKey), .v (.int .i64 k.Counter), .v (.int .i64 k.Seq), .v (.int .i64 k.Last), .lst false (k.Waits.map encWait), .lst false (k.Windows.map encWindow), .v (.int .i64 k.Drops), .v (.bool k.Stopped)]] = some (.agg [.v (.int .i64 k.Own.Node), .v (.int .i64 k.Own.Inc), .v (.int .i64 k.Own.Status), .v (.int .i64 k.Own.Meta), .lst false (k.View.map encClaim), .v (.int .i64 k.Ring.Primary), .lst false (k.Ring.Keys.map encKey), .v (.int .i64 k.Counter), .v (.int .i64 k.Seq), .v (.int .i64 k.Last), .lst false (k.Waits.map encWait), .lst false (k.Windows.map encWindow), .v (.int .i64 k.Drops), .v (.bool k.Stopped)]) := by
  refine both_wp (rs := [.cell 2 136]) rfl rfl ?_
  have hp0 : ∀ b, cfg0.pol 121 b = (if b = 10 then 1 else if b = 14 then 1 else if b = 27 then 1 else if b = 31 then 1 else 0) := fun b => rfl
  repeat' (first | ((first | refine wSeqr (fun xx hx => ?_) | refine wIf (fun xx hx => ?_) | refine wReg (fun xx hx => ?_) | (refine wRet ?_; (try simp only [thenQ, blockQ]); refine ends_by (fun xx hx => ?_))); have hc := trivial; (repeat' (simp only [hc, go_sem, Nat.reduceAdd, Nat.reduceMul, Nat.reduceSub, Nat.reduceEqDiff, Nat.reduceLT, Nat.reduceLeDiff, Int.reduceEq, Int.reduceLT, Int.reduceLE, reduceIte, aresults, aresult, hp0, c_ltoClaim k.Own (hk.1), o_ltoClaimS k.View (hk.2.1), (fun H => mat_zz (d := depthD) (gR_Claim 9 k.View) (Nat.le_of_ble_eq_true rfl) H), o_ltoRing k.Ring (hk.2.2.1), (fun (y : Value) H => mat_vz (y := y) (gR_Key 8 k.Ring.Keys) (Nat.le_of_ble_eq_true rfl) H), o_ltoWaitS k.Waits (hk.2.2.2.2.2.2.1), (fun H => mat_zz (d := depthD) (gR_Wait 9 k.Waits) (Nat.le_of_ble_eq_true rfl) H), o_ltoWindowS k.Windows (hk.2.2.2.2.2.2.2.1), (fun H => mat_zz (d := depthD) (gR_Window 8 k.Windows) (Nat.le_of_ble_eq_true rfl) H), (fun H => (zz_ok (d := depthD) (gR_Claim 9 k.View) (Nat.le_of_ble_eq_true rfl) (fun _ h => by cases h) H).1), (fun H => (zz_ok (d := depthD) (gR_Claim 9 k.View) (Nat.le_of_ble_eq_true rfl) (fun _ h => by cases h) H).2), (fun H => (zz_ok (d := 11) (gR_Claim 9 k.View) (Nat.le_of_ble_eq_true rfl) (fun _ h => by cases h) H).1), (fun H => (zz_ok (d := 11) (gR_Claim 9 k.View) (Nat.le_of_ble_eq_true rfl) (fun _ h => by cases h) H).2), (fun H => (zz_ok (d := depthD) (gR_Key 8 k.Ring.Keys) (Nat.le_of_ble_eq_true rfl) (fun _ h => by cases h) H).1), (fun H => (zz_ok (d := depthD) (gR_Key 8 k.Ring.Keys) (Nat.le_of_ble_eq_true rfl) (fun _ h => by cases h) H).2), (fun H => (zz_ok (d := 11) (gR_Key 8 k.Ring.Keys) (Nat.le_of_ble_eq_true rfl) (fun _ h => by cases h) H).1), (fun H => (zz_ok (d := 11) (gR_Key 8 k.Ring.Keys) (Nat.le_of_ble_eq_true rfl) (fun _ h => by cases h) H).2), (fun H => (zz_ok (d := depthD) (gR_Wait 9 k.Waits) (Nat.le_of_ble_eq_true rfl) (fun _ h => by cases h) H).1), (fun H => (zz_ok (d := depthD) (gR_Wait 9 k.Waits) (Nat.le_of_ble_eq_true rfl) (fun _ h => by cases h) H).2), (fun H => (zz_ok (d := 11) (gR_Wait 9 k.Waits) (Nat.le_of_ble_eq_true rfl) (fun _ h => by cases h) H).1), (fun H => (zz_ok (d := 11) (gR_Wait 9 k.Waits) (Nat.le_of_ble_eq_true rfl) (fun _ h => by cases h) H).2), (fun H => (zz_ok (d := depthD) (gR_Window 8 k.Windows) (Nat.le_of_ble_eq_true rfl) (fun _ h => by cases h) H).1), (fun H => (zz_ok (d := depthD) (gR_Window 8 k.Windows) (Nat.le_of_ble_eq_true rfl) (fun _ h => by cases h) H).2), (fun H => (zz_ok (d := 11) (gR_Window 8 k.Windows) (Nat.le_of_ble_eq_true rfl) (fun _ h => by cases h) H).1), (fun H => (zz_ok (d := 11) (gR_Window 8 k.Windows) (Nat.le_of_ble_eq_true rfl) (fun _ h => by cases h) H).2), lt_hhI, hh_hI, true_or] at hx; (try (rw [guardL_if] at hx; split at hx <;> rename_i hc)))); all_goals (subst hx; first | (refine ⟨_, rfl, fun ht => ?_, fun ht => ?_⟩ <;> (try simp only [Bool.not_eq_true', Bool.not_eq_false', Bool.and_eq_true, Bool.and_eq_false_iff, Bool.or_eq_true, Bool.or_eq_false_iff, decide_eq_true_eq, decide_eq_false_iff_not, beq_iff_eq, bne_iff_ne, Bool.not_true, Bool.not_false, Bool.true_eq_false, Bool.false_eq_true, ne_eq, Decidable.not_not, inB_t, inB_f] at ht)) | (refine ⟨_, rfl, ?_⟩; (try simp only [tupOf])))) | refine wSkip ?_ | (refine wExit ?_; simp only [thenQ, blockQ, reduceIte, Nat.reduceEqDiff]) | refine wSeq ?_ | refine wBlock ?_)
  refine Laid.givesE (n := 11) (lo := 0) ?_ (by omega) (gE_NodeState 8 k)
  refine Laid.vE _ ?_
  refine Laid.vE _ ?_
  refine Laid.vE _ ?_
  refine Laid.vE _ ?_
  refine Laid.zzE (n := 11) (gR_Claim 9 k.View) (Nat.le_of_ble_eq_true rfl) (Nat.zero_le _) ?_ ?_
  · repeat first | exact Kept.refl _ _ | refine Kept.set (by simp only [Hp.set_g, Hp.new_g, nil_g, lt_hhI, true_or, Nat.reduceAdd, Nat.reduceLT]) ?_ | refine Kept.hh ?_
  refine Laid.vE _ ?_
  refine Laid.zzE (n := 11) (gR_Key 8 k.Ring.Keys) (Nat.le_of_ble_eq_true rfl) (Nat.le_refl _) ?_ ?_
  · repeat first | exact Kept.refl _ _ | refine Kept.set (by simp only [Hp.set_g, Hp.new_g, nil_g, lt_hhI, true_or, Nat.reduceAdd, Nat.reduceLT]) ?_ | refine Kept.hh ?_
  refine Laid.vE _ ?_
  refine Laid.vE _ ?_
  refine Laid.vE _ ?_
  refine Laid.zzE (n := 11) (gR_Wait 9 k.Waits) (Nat.le_of_ble_eq_true rfl) (Nat.le_refl _) ?_ ?_
  · repeat first | exact Kept.refl _ _ | refine Kept.set (by simp only [Hp.set_g, Hp.new_g, nil_g, lt_hhI, true_or, Nat.reduceAdd, Nat.reduceLT]) ?_ | refine Kept.hh ?_
  refine Laid.zzE (n := 11) (gR_Window 8 k.Windows) (Nat.le_of_ble_eq_true rfl) (Nat.le_refl _) ?_ ?_
  · repeat first | exact Kept.refl _ _ | refine Kept.set (by simp only [Hp.set_g, Hp.new_g, nil_g, lt_hhI, true_or, Nat.reduceAdd, Nat.reduceLT]) ?_ | refine Kept.hh ?_
  refine Laid.vE _ ?_
  refine Laid.vE _ ?_
  exact Laid.nilE
theorem p_ltoNodeState (k : NodeStateM) (hk : k.ok 1048576) : pure Try.prog cfg0 121 Try.f121 [.agg [.v (.int .i64 k.Own.Node), .v (.int .i64 k.Own.Inc), .v (.int .i64 k.Own.Status), .v (.int .i64 k.Own.Meta), .lst false (k.View.map encClaim), .v (.int .i64 k.Ring.Primary), .lst false (k.Ring.Keys.map encKey), .v (.int .i64 k.Counter), .v (.int .i64 k.Seq), .v (.int .i64 k.Last), .lst false (k.Waits.map encWait), .lst false (k.Windows.map encWindow), .v (.int .i64 k.Drops), .v (.bool k.Stopped)]] = some (.agg [.v (.int .i64 k.Own.Node), .v (.int .i64 k.Own.Inc), .v (.int .i64 k.Own.Status), .v (.int .i64 k.Own.Meta), .lst false (k.View.map encClaim), .v (.int .i64 k.Ring.Primary), .lst false (k.Ring.Keys.map encKey), .v (.int .i64 k.Counter), .v (.int .i64 k.Seq), .v (.int .i64 k.Last), .lst false (k.Waits.map encWait), .lst false (k.Windows.map encWindow), .v (.int .i64 k.Drops), .v (.bool k.Stopped)], true) := (pq_ltoNodeState k hk).1
theorem c_ltoNodeState (k : NodeStateM) (hk : k.ok 1048576) : ∀ H, call Try.prog cfg0 0 121 [.agg [.v (.int .i64 k.Own.Node), .v (.int .i64 k.Own.Inc), .v (.int .i64 k.Own.Status), .v (.int .i64 k.Own.Meta), .lst false (k.View.map encClaim), .v (.int .i64 k.Ring.Primary), .lst false (k.Ring.Keys.map encKey), .v (.int .i64 k.Counter), .v (.int .i64 k.Seq), .v (.int .i64 k.Last), .lst false (k.Waits.map encWait), .lst false (k.Windows.map encWindow), .v (.int .i64 k.Drops), .v (.bool k.Stopped)]] H = some (.agg [.v (.int .i64 k.Own.Node), .v (.int .i64 k.Own.Inc), .v (.int .i64 k.Own.Status), .v (.int .i64 k.Own.Meta), .lst false (k.View.map encClaim), .v (.int .i64 k.Ring.Primary), .lst false (k.Ring.Keys.map encKey), .v (.int .i64 k.Counter), .v (.int .i64 k.Seq), .v (.int .i64 k.Last), .lst false (k.Waits.map encWait), .lst false (k.Windows.map encWindow), .v (.int .i64 k.Drops), .v (.bool k.Stopped)], H) :=
  call_fz Try.func121 rfl ok_ltoNodeState rfl (by simp only [fz_cons, fz_nil, go_sem, and_self]) (pq_ltoNodeState k hk).1
theorem o_ltoNodeState (k : NodeStateM) (hk : k.ok 1048576) : ∀ H, call Try.prog cfg0 1 121 [.agg [.v (.int .i64 k.Own.Node), .v (.int .i64 k.Own.Inc), .v (.int .i64 k.Own.Status), .v (.int .i64 k.Own.Meta), .lst false (k.View.map encClaim), .v (.int .i64 k.Ring.Primary), .lst false (k.Ring.Keys.map encKey), .v (.int .i64 k.Counter), .v (.int .i64 k.Seq), .v (.int .i64 k.Last), .lst false (k.Waits.map encWait), .lst false (k.Windows.map encWindow), .v (.int .i64 k.Drops), .v (.bool k.Stopped)]] H = mat depthD (.agg [.v (.int .i64 k.Own.Node), .v (.int .i64 k.Own.Inc), .v (.int .i64 k.Own.Status), .v (.int .i64 k.Own.Meta), .lst false (k.View.map encClaim), .v (.int .i64 k.Ring.Primary), .lst false (k.Ring.Keys.map encKey), .v (.int .i64 k.Counter), .v (.int .i64 k.Seq), .v (.int .i64 k.Last), .lst false (k.Waits.map encWait), .lst false (k.Windows.map encWindow), .v (.int .i64 k.Drops), .v (.bool k.Stopped)]) H := fun H =>
  call_ofO Try.func121 rfl ok_ltoNodeState rfl (mapM_self fun x hx => ((show ∀ x ∈ ([.agg [.v (.int .i64 k.Own.Node), .v (.int .i64 k.Own.Inc), .v (.int .i64 k.Own.Status), .v (.int .i64 k.Own.Meta), .lst false (k.View.map encClaim), .v (.int .i64 k.Ring.Primary), .lst false (k.Ring.Keys.map encKey), .v (.int .i64 k.Counter), .v (.int .i64 k.Seq), .v (.int .i64 k.Last), .lst false (k.Waits.map encWait), .lst false (k.Windows.map encWindow), .v (.int .i64 k.Drops), .v (.bool k.Stopped)]] : List AV), Fz depthD x by simp only [fz_cons, fz_nil, go_sem, and_self]) x hx).1 H) (pq_ltoNodeState k hk).2

theorem ok_ltoNodeStateS : fnOk Try.prog cfg0 91 Try.f91 = true := by kernel_rfl
theorem pq_ltoNodeStateS (l : List NodeStateM) (hk : l.length ≤ 1048576 ∧ ∀ x ∈ l, x.ok 1048576) : pure Try.prog cfg0 91 Try.f91 [.lst false (l.map encNodeState)] = some (.lst false (l.map encNodeState), true) ∧ owned Try.prog cfg0 91 Try.f91 [.lst false (l.map encNodeState)] = some (.lst false (l.map encNodeState)) := by
  refine both_wp (rs := [.tmp 2]) rfl rfl ?_
  have hp0 : ∀ b, cfg0.pol 91 b = (if b = 20 then 1 else 0) := fun b => rfl
  have hl := hk.1
  have hr := roomy_of (n := l.length) (b := 176) (by omega) (by omega)
  have hls : ∀ c ∈ l.map encNodeState, c.length = 14 := fun c hc => by obtain ⟨k, -, rfl⟩ := List.mem_map.1 hc; rfl
  repeat' (first | ((first | refine wSeqr (fun xx hx => ?_) | refine wIf (fun xx hx => ?_) | refine wReg (fun xx hx => ?_) | (refine wRet ?_; (try simp only [thenQ, blockQ]); refine ends_by (fun xx hx => ?_))); have hc := trivial; (repeat' (simp only [hc, go_sem, Nat.reduceAdd, Nat.reduceMul, Nat.reduceSub, Nat.reduceEqDiff, Nat.reduceLT, Nat.reduceLeDiff, Int.reduceEq, Int.reduceLT, Int.reduceLE, reduceIte, aresults, aresult, hr, List.length_map] at hx; (try (rw [guardL_if] at hx; split at hx <;> rename_i hc)))); all_goals (subst hx; first | (refine ⟨_, rfl, fun ht => ?_, fun ht => ?_⟩ <;> (try simp only [Bool.not_eq_true', Bool.not_eq_false', Bool.and_eq_true, Bool.and_eq_false_iff, Bool.or_eq_true, Bool.or_eq_false_iff, decide_eq_true_eq, decide_eq_false_iff_not, beq_iff_eq, bne_iff_ne, Bool.not_true, Bool.not_false, Bool.true_eq_false, Bool.false_eq_true, ne_eq, Decidable.not_not, inB_t, inB_f] at ht)) | (refine ⟨_, rfl, ?_⟩; (try simp only [tupOf])))) | refine wSkip ?_ | (refine wExit ?_; simp only [thenQ, blockQ, reduceIte, Nat.reduceEqDiff]) | refine wSeq ?_ | refine wBlock ?_)
  refine wLoop (fun k s => ∃ (j : Nat), j + k = l.length ∧ s.1 0 = .lst false (l.map encNodeState) ∧ s.1 4 = .v (.int .i64 (j : Nat)) ∧ s.1 3 = .sl 0 14 0 l.length ∧ (∃ zs, s.2.h 0 = some (zs ++ zeros (l.length - j) [.v (.int .i64 0), .v (.int .i64 0), .v (.int .i64 0), .v (.int .i64 0), .v (.slice none 0 0), .v (.int .i64 0), .v (.slice none 0 0), .v (.int .i64 0), .v (.int .i64 0), .v (.int .i64 0), .v (.slice none 0 0), .v (.slice none 0 0), .v (.int .i64 0), .v (.bool false)]) ∧ zs.length = j * 14 ∧ 0 < s.2.g ∧ Laid s.2 1 s.2.g ((l.take j).map encNodeState).flatten zs)) (fun k s hI => ?_) (l.length) _ ?_
  · obtain ⟨e, H⟩ := s
    obtain ⟨j, hj, h0, h4, h3, hh⟩ := hI
    simp only at h0 h4 h3 hh
    repeat' (first | ((first | refine wSeqr (fun xx hx => ?_) | refine wIf (fun xx hx => ?_) | refine wReg (fun xx hx => ?_) | (refine wRet ?_; (try simp only [thenQ, blockQ]); refine ends_by (fun xx hx => ?_))); have hc := trivial; (repeat' (simp only [hc, go_sem, Nat.reduceAdd, Nat.reduceMul, Nat.reduceSub, Nat.reduceEqDiff, Nat.reduceLT, Nat.reduceLeDiff, Int.reduceEq, Int.reduceLT, Int.reduceLE, reduceIte, aresults, aresult, h0, h4, List.length_map] at hx; (try (rw [guardL_if] at hx; split at hx <;> rename_i hc)))); all_goals (subst hx; first | (refine ⟨_, rfl, fun ht => ?_, fun ht => ?_⟩ <;> (try simp only [Bool.not_eq_true', Bool.not_eq_false', Bool.and_eq_true, Bool.and_eq_false_iff, Bool.or_eq_true, Bool.or_eq_false_iff, decide_eq_true_eq, decide_eq_false_iff_not, beq_iff_eq, bne_iff_ne, Bool.not_true, Bool.not_false, Bool.true_eq_false, Bool.false_eq_true, ne_eq, Decidable.not_not, inB_t, inB_f] at ht)) | (refine ⟨_, rfl, ?_⟩; (try simp only [tupOf])))) | refine wSkip ?_ | (refine wExit ?_; simp only [thenQ, blockQ, reduceIte, Nat.reduceEqDiff]) | refine wSeq ?_ | refine wBlock ?_)
    · have hlt : j < l.length := by omega
      obtain ⟨k, hg, hd, hm⟩ := at_drop hlt
      have hg' := map_at (f := encNodeState) hg
      obtain ⟨zs, hb, hzl, hg0, hly⟩ := hh
      obtain ⟨ms, H2, m1, m2, m3⟩ := mat_row (n := 11) (gE_NodeState 8 k) (by omega) H
      have hms : ms.length = 14 := m3.len
      have hmo : ms.all okc = true := m3.one (fun x hx => ⟨_, gE_NodeState 8 k x hx⟩) (fun y hy => by
        simp only [encNodeState, List.mem_cons, List.not_mem_nil, or_false] at hy
        rcases hy with h | h | h | h | h | h | h | h | h | h | h | h | h | h <;> first | (injection h with h; subst h; rfl) | (cases h))
      have hb2 : H2.h 0 = some (zs ++ zeros (l.length - j) [.v (.int .i64 0), .v (.int .i64 0), .v (.int .i64 0), .v (.int .i64 0), .v (.slice none 0 0), .v (.int .i64 0), .v (.slice none 0 0), .v (.int .i64 0), .v (.int .i64 0), .v (.int .i64 0), .v (.slice none 0 0), .v (.slice none 0 0), .v (.int .i64 0), .v (.bool false)]) := (m2.2 0 hg0).trans hb
      have hlen : (zs ++ zeros (l.length - j) [.v (.int .i64 0), .v (.int .i64 0), .v (.int .i64 0), .v (.int .i64 0), .v (.slice none 0 0), .v (.int .i64 0), .v (.slice none 0 0), .v (.int .i64 0), .v (.int .i64 0), .v (.int .i64 0), .v (.slice none 0 0), .v (.slice none 0 0), .v (.int .i64 0), .v (.bool false)]).length = l.length * 14 := fill_len hzl rfl (by omega)
      have hle : j * 14 + 14 ≤ l.length * 14 := by omega
      simp only [encNodeState] at m1
      repeat' (first | ((first | refine wSeqr (fun xx hx => ?_) | refine wIf (fun xx hx => ?_) | refine wReg (fun xx hx => ?_) | (refine wRet ?_; (try simp only [thenQ, blockQ]); refine ends_by (fun xx hx => ?_))); have hc := trivial; (repeat' (simp only [hc, go_sem, Nat.reduceAdd, Nat.reduceMul, Nat.reduceSub, Nat.reduceEqDiff, Nat.reduceLT, Nat.reduceLeDiff, Int.reduceEq, Int.reduceLT, Int.reduceLE, reduceIte, aresults, aresult, h0, h3, h4, hg', hp0, o_ltoNodeState k (hk.2 k hm), m1, hb2, hlt, hlen, hms, hmo, Option.isSome_some, hle, wrap_succ (show j < 9223372036854775807 by omega)] at hx; (try (rw [guardL_if] at hx; split at hx <;> rename_i hc)))); all_goals (subst hx; first | (refine ⟨_, rfl, fun ht => ?_, fun ht => ?_⟩ <;> (try simp only [Bool.not_eq_true', Bool.not_eq_false', Bool.and_eq_true, Bool.and_eq_false_iff, Bool.or_eq_true, Bool.or_eq_false_iff, decide_eq_true_eq, decide_eq_false_iff_not, beq_iff_eq, bne_iff_ne, Bool.not_true, Bool.not_false, Bool.true_eq_false, Bool.false_eq_true, ne_eq, Decidable.not_not, inB_t, inB_f] at ht)) | (refine ⟨_, rfl, ?_⟩; (try simp only [tupOf])))) | refine wSkip ?_ | (refine wExit ?_; simp only [thenQ, blockQ, reduceIte, Nat.reduceEqDiff]) | refine wSeq ?_ | refine wBlock ?_)
      refine ⟨_, Nat.sub_lt (by omega) Nat.one_pos, j + 1, by omega, by simp only [upd_eq, Nat.reduceEqDiff, if_false, if_true, h0, h4, h3], by simp only [upd_eq, Nat.reduceEqDiff, if_false, if_true, h0, h4, h3], by simp only [upd_eq, Nat.reduceEqDiff, if_false, if_true, h0, h4, h3], ?_⟩
      have hf := fill_mid (n := l.length) (j := j) (zs := zs) (ms := ms) (z := [.v (.int .i64 0), .v (.int .i64 0), .v (.int .i64 0), .v (.int .i64 0), .v (.slice none 0 0), .v (.int .i64 0), .v (.slice none 0 0), .v (.int .i64 0), .v (.int .i64 0), .v (.int .i64 0), .v (.slice none 0 0), .v (.slice none 0 0), .v (.int .i64 0), .v (.bool false)]) (by rw [hms]; exact hzl) (by rw [hms]; rfl) hlt
      rw [hms] at hf
      refine ⟨zs ++ ms, ?_, ?_, ?_, ?_⟩
      · simp only [Hp.set_h, if_true]; exact congrArg some hf
      · have hla : (zs ++ ms).length = zs.length + ms.length := List.length_append
        rw [Nat.add_mul]; omega
      · exact Nat.lt_of_lt_of_le hg0 m2.1
      · rw [at_take hg, List.map_append, List.flatten_append]
        refine (hly.keep (H' := Hp.set H2 0 _) fun b h1 h2 => ?_).app (mid := H.g) ?_
        · rw [Hp.set_h, if_neg (by omega)]; exact m2.2 b h2
        · simpa using m3.keep (H' := Hp.set H2 0 _) fun b h1 h2 => by rw [Hp.set_h, if_neg (by omega)]
    · have hj' : j = l.length := by omega
      subst hj'
      rw [h3]
      obtain ⟨zs, hb, hzl, hg0, hly⟩ := hh
      rw [List.take_of_length_le (Nat.le_refl _)] at hly
      have hb' : H.h 0 = some zs := by rw [hb]; simp [zeros]
      exact hly.givesL (n := 11) hb' (by omega) (by omega) (by simp) (by omega) hls (fun c hc' x hx => by obtain ⟨k, -, rfl⟩ := List.mem_map.1 hc'; exact gE_NodeState 8 k x hx)
  · refine ⟨0, by omega, rfl, rfl, rfl, ?_⟩
    refine ⟨[], ?_, by simp, by simp, .nil (by simp)⟩
    simp only [Hp.new_h, nil_g, if_true, Nat.sub_zero, List.nil_append]
theorem p_ltoNodeStateS (l : List NodeStateM) (hk : l.length ≤ 1048576 ∧ ∀ x ∈ l, x.ok 1048576) : pure Try.prog cfg0 91 Try.f91 [.lst false (l.map encNodeState)] = some (.lst false (l.map encNodeState), true) := (pq_ltoNodeStateS l hk).1
theorem c_ltoNodeStateS (l : List NodeStateM) (hk : l.length ≤ 1048576 ∧ ∀ x ∈ l, x.ok 1048576) : ∀ H, call Try.prog cfg0 0 91 [.lst false (l.map encNodeState)] H = some (.lst false (l.map encNodeState), H) :=
  call_fz Try.func91 rfl ok_ltoNodeStateS rfl (by simp only [fz_cons, fz_nil, go_sem, and_self]) (pq_ltoNodeStateS l hk).1
theorem o_ltoNodeStateS (l : List NodeStateM) (hk : l.length ≤ 1048576 ∧ ∀ x ∈ l, x.ok 1048576) : ∀ H, call Try.prog cfg0 1 91 [.lst false (l.map encNodeState)] H = mat depthD (.lst false (l.map encNodeState)) H := fun H =>
  call_ofO Try.func91 rfl ok_ltoNodeStateS rfl (mapM_self fun x hx => ((show ∀ x ∈ ([.lst false (l.map encNodeState)] : List AV), Fz depthD x by simp only [fz_cons, fz_nil, go_sem, and_self]) x hx).1 H) (pq_ltoNodeStateS l hk).2

theorem ok_ltoFlight : fnOk Try.prog cfg0 122 Try.f122 = true := by kernel_rfl
theorem pq_ltoFlight (k : FlightM) (hk : k.ok 1048576) : pure Try.prog cfg0 122 Try.f122 [.agg [.v (.int .i64 k.To), bytesL k.Data]] = some (.agg [.v (.int .i64 k.To), bytesL k.Data], true) ∧ owned Try.prog cfg0 122 Try.f122 [.agg [.v (.int .i64 k.To), bytesL k.Data]] = some (.agg [.v (.int .i64 k.To), bytesL k.Data]) := by
  refine both_wp (rs := [.cell 2 120]) rfl rfl ?_
  have hp0 : ∀ b, cfg0.pol 122 b = (if b = 9 then 1 else 0) := fun b => rfl
  repeat' (first | ((first | refine wSeqr (fun xx hx => ?_) | refine wIf (fun xx hx => ?_) | refine wReg (fun xx hx => ?_) | (refine wRet ?_; (try simp only [thenQ, blockQ]); refine ends_by (fun xx hx => ?_))); have hc := trivial; (repeat' (simp only [hc, go_sem, Nat.reduceAdd, Nat.reduceMul, Nat.reduceSub, Nat.reduceEqDiff, Nat.reduceLT, Nat.reduceLeDiff, Int.reduceEq, Int.reduceLT, Int.reduceLE, reduceIte, aresults, aresult, hp0, o_ltoByteS k.Data hk.2.2, (fun H => mat_zz (d := depthD) (MatG.bytes 9 k.Data) (Nat.le_of_ble_eq_true rfl) H), (fun H => (zz_ok (d := depthD) (MatG.bytes 9 k.Data) (Nat.le_of_ble_eq_true rfl) (fun _ h => by cases h) H).1), (fun H => (zz_ok (d := depthD) (MatG.bytes 9 k.Data) (Nat.le_of_ble_eq_true rfl) (fun _ h => by cases h) H).2), (fun H => (zz_ok (d := 11) (MatG.bytes 9 k.Data) (Nat.le_of_ble_eq_true rfl) (fun _ h => by cases h) H).1), (fun H => (zz_ok (d := 11) (MatG.bytes 9 k.Data) (Nat.le_of_ble_eq_true rfl) (fun _ h => by cases h) H).2), lt_hhI, hh_hI, true_or] at hx; (try (rw [guardL_if] at hx; split at hx <;> rename_i hc)))); all_goals (subst hx; first | (refine ⟨_, rfl, fun ht => ?_, fun ht => ?_⟩ <;> (try simp only [Bool.not_eq_true', Bool.not_eq_false', Bool.and_eq_true, Bool.and_eq_false_iff, Bool.or_eq_true, Bool.or_eq_false_iff, decide_eq_true_eq, decide_eq_false_iff_not, beq_iff_eq, bne_iff_ne, Bool.not_true, Bool.not_false, Bool.true_eq_false, Bool.false_eq_true, ne_eq, Decidable.not_not, inB_t, inB_f] at ht)) | (refine ⟨_, rfl, ?_⟩; (try simp only [tupOf])))) | refine wSkip ?_ | (refine wExit ?_; simp only [thenQ, blockQ, reduceIte, Nat.reduceEqDiff]) | refine wSeq ?_ | refine wBlock ?_)
  refine Laid.givesE (n := 11) (lo := 0) ?_ (by omega) (gE_Flight 9 k)
  refine Laid.vE _ ?_
  refine Laid.zzE (n := 11) (MatG.bytes 9 k.Data) (Nat.le_of_ble_eq_true rfl) (Nat.zero_le _) ?_ ?_
  · repeat first | exact Kept.refl _ _ | refine Kept.set (by simp only [Hp.set_g, Hp.new_g, nil_g, lt_hhI, true_or, Nat.reduceAdd, Nat.reduceLT]) ?_ | refine Kept.hh ?_
  exact Laid.nilE
theorem p_ltoFlight (k : FlightM) (hk : k.ok 1048576) : pure Try.prog cfg0 122 Try.f122 [.agg [.v (.int .i64 k.To), bytesL k.Data]] = some (.agg [.v (.int .i64 k.To), bytesL k.Data], true) := (pq_ltoFlight k hk).1
theorem c_ltoFlight (k : FlightM) (hk : k.ok 1048576) : ∀ H, call Try.prog cfg0 0 122 [.agg [.v (.int .i64 k.To), bytesL k.Data]] H = some (.agg [.v (.int .i64 k.To), bytesL k.Data], H) :=
  call_fz Try.func122 rfl ok_ltoFlight rfl (by simp only [fz_cons, fz_nil, go_sem, and_self]) (pq_ltoFlight k hk).1
theorem o_ltoFlight (k : FlightM) (hk : k.ok 1048576) : ∀ H, call Try.prog cfg0 1 122 [.agg [.v (.int .i64 k.To), bytesL k.Data]] H = mat depthD (.agg [.v (.int .i64 k.To), bytesL k.Data]) H := fun H =>
  call_ofO Try.func122 rfl ok_ltoFlight rfl (mapM_self fun x hx => ((show ∀ x ∈ ([.agg [.v (.int .i64 k.To), bytesL k.Data]] : List AV), Fz depthD x by simp only [fz_cons, fz_nil, go_sem, and_self]) x hx).1 H) (pq_ltoFlight k hk).2

theorem ok_ltoFlightS : fnOk Try.prog cfg0 92 Try.f92 = true := by kernel_rfl
theorem pq_ltoFlightS (l : List FlightM) (hk : l.length ≤ 1048576 ∧ ∀ x ∈ l, x.ok 1048576) : pure Try.prog cfg0 92 Try.f92 [.lst false (l.map encFlight)] = some (.lst false (l.map encFlight), true) ∧ owned Try.prog cfg0 92 Try.f92 [.lst false (l.map encFlight)] = some (.lst false (l.map encFlight)) := by
  refine both_wp (rs := [.tmp 2]) rfl rfl ?_
  have hp0 : ∀ b, cfg0.pol 92 b = (if b = 20 then 1 else 0) := fun b => rfl
  have hl := hk.1
  have hr := roomy_of (n := l.length) (b := 32) (by omega) (by omega)
  have hls : ∀ c ∈ l.map encFlight, c.length = 2 := fun c hc => by obtain ⟨k, -, rfl⟩ := List.mem_map.1 hc; rfl
  repeat' (first | ((first | refine wSeqr (fun xx hx => ?_) | refine wIf (fun xx hx => ?_) | refine wReg (fun xx hx => ?_) | (refine wRet ?_; (try simp only [thenQ, blockQ]); refine ends_by (fun xx hx => ?_))); have hc := trivial; (repeat' (simp only [hc, go_sem, Nat.reduceAdd, Nat.reduceMul, Nat.reduceSub, Nat.reduceEqDiff, Nat.reduceLT, Nat.reduceLeDiff, Int.reduceEq, Int.reduceLT, Int.reduceLE, reduceIte, aresults, aresult, hr, List.length_map] at hx; (try (rw [guardL_if] at hx; split at hx <;> rename_i hc)))); all_goals (subst hx; first | (refine ⟨_, rfl, fun ht => ?_, fun ht => ?_⟩ <;> (try simp only [Bool.not_eq_true', Bool.not_eq_false', Bool.and_eq_true, Bool.and_eq_false_iff, Bool.or_eq_true, Bool.or_eq_false_iff, decide_eq_true_eq, decide_eq_false_iff_not, beq_iff_eq, bne_iff_ne, Bool.not_true, Bool.not_false, Bool.true_eq_false, Bool.false_eq_true, ne_eq, Decidable.not_not, inB_t, inB_f] at ht)) | (refine ⟨_, rfl, ?_⟩; (try simp only [tupOf])))) | refine wSkip ?_ | (refine wExit ?_; simp only [thenQ, blockQ, reduceIte, Nat.reduceEqDiff]) | refine wSeq ?_ | refine wBlock ?_)
  refine wLoop (fun k s => ∃ (j : Nat), j + k = l.length ∧ s.1 0 = .lst false (l.map encFlight) ∧ s.1 4 = .v (.int .i64 (j : Nat)) ∧ s.1 3 = .sl 0 2 0 l.length ∧ (∃ zs, s.2.h 0 = some (zs ++ zeros (l.length - j) [.v (.int .i64 0), .v (.slice none 0 0)]) ∧ zs.length = j * 2 ∧ 0 < s.2.g ∧ Laid s.2 1 s.2.g ((l.take j).map encFlight).flatten zs)) (fun k s hI => ?_) (l.length) _ ?_
  · obtain ⟨e, H⟩ := s
    obtain ⟨j, hj, h0, h4, h3, hh⟩ := hI
    simp only at h0 h4 h3 hh
    repeat' (first | ((first | refine wSeqr (fun xx hx => ?_) | refine wIf (fun xx hx => ?_) | refine wReg (fun xx hx => ?_) | (refine wRet ?_; (try simp only [thenQ, blockQ]); refine ends_by (fun xx hx => ?_))); have hc := trivial; (repeat' (simp only [hc, go_sem, Nat.reduceAdd, Nat.reduceMul, Nat.reduceSub, Nat.reduceEqDiff, Nat.reduceLT, Nat.reduceLeDiff, Int.reduceEq, Int.reduceLT, Int.reduceLE, reduceIte, aresults, aresult, h0, h4, List.length_map] at hx; (try (rw [guardL_if] at hx; split at hx <;> rename_i hc)))); all_goals (subst hx; first | (refine ⟨_, rfl, fun ht => ?_, fun ht => ?_⟩ <;> (try simp only [Bool.not_eq_true', Bool.not_eq_false', Bool.and_eq_true, Bool.and_eq_false_iff, Bool.or_eq_true, Bool.or_eq_false_iff, decide_eq_true_eq, decide_eq_false_iff_not, beq_iff_eq, bne_iff_ne, Bool.not_true, Bool.not_false, Bool.true_eq_false, Bool.false_eq_true, ne_eq, Decidable.not_not, inB_t, inB_f] at ht)) | (refine ⟨_, rfl, ?_⟩; (try simp only [tupOf])))) | refine wSkip ?_ | (refine wExit ?_; simp only [thenQ, blockQ, reduceIte, Nat.reduceEqDiff]) | refine wSeq ?_ | refine wBlock ?_)
    · have hlt : j < l.length := by omega
      obtain ⟨k, hg, hd, hm⟩ := at_drop hlt
      have hg' := map_at (f := encFlight) hg
      obtain ⟨zs, hb, hzl, hg0, hly⟩ := hh
      obtain ⟨ms, H2, m1, m2, m3⟩ := mat_row (n := 11) (gE_Flight 9 k) (by omega) H
      have hms : ms.length = 2 := m3.len
      have hmo : ms.all okc = true := m3.one (fun x hx => ⟨_, gE_Flight 9 k x hx⟩) (fun y hy => by
        simp only [encFlight, List.mem_cons, List.not_mem_nil, or_false] at hy
        rcases hy with h | h <;> first | (injection h with h; subst h; rfl) | (cases h))
      have hb2 : H2.h 0 = some (zs ++ zeros (l.length - j) [.v (.int .i64 0), .v (.slice none 0 0)]) := (m2.2 0 hg0).trans hb
      have hlen : (zs ++ zeros (l.length - j) [.v (.int .i64 0), .v (.slice none 0 0)]).length = l.length * 2 := fill_len hzl rfl (by omega)
      have hle : j * 2 + 2 ≤ l.length * 2 := by omega
      simp only [encFlight] at m1
      repeat' (first | ((first | refine wSeqr (fun xx hx => ?_) | refine wIf (fun xx hx => ?_) | refine wReg (fun xx hx => ?_) | (refine wRet ?_; (try simp only [thenQ, blockQ]); refine ends_by (fun xx hx => ?_))); have hc := trivial; (repeat' (simp only [hc, go_sem, Nat.reduceAdd, Nat.reduceMul, Nat.reduceSub, Nat.reduceEqDiff, Nat.reduceLT, Nat.reduceLeDiff, Int.reduceEq, Int.reduceLT, Int.reduceLE, reduceIte, aresults, aresult, h0, h3, h4, hg', hp0, o_ltoFlight k (hk.2 k hm), m1, hb2, hlt, hlen, hms, hmo, Option.isSome_some, hle, wrap_succ (show j < 9223372036854775807 by omega)] at hx; (try (rw [guardL_if] at hx; split at hx <;> rename_i hc)))); all_goals (subst hx; first | (refine ⟨_, rfl, fun ht => ?_, fun ht => ?_⟩ <;> (try simp only [Bool.not_eq_true', Bool.not_eq_false', Bool.and_eq_true, Bool.and_eq_false_iff, Bool.or_eq_true, Bool.or_eq_false_iff, decide_eq_true_eq, decide_eq_false_iff_not, beq_iff_eq, bne_iff_ne, Bool.not_true, Bool.not_false, Bool.true_eq_false, Bool.false_eq_true, ne_eq, Decidable.not_not, inB_t, inB_f] at ht)) | (refine ⟨_, rfl, ?_⟩; (try simp only [tupOf])))) | refine wSkip ?_ | (refine wExit ?_; simp only [thenQ, blockQ, reduceIte, Nat.reduceEqDiff]) | refine wSeq ?_ | refine wBlock ?_)
      refine ⟨_, Nat.sub_lt (by omega) Nat.one_pos, j + 1, by omega, by simp only [upd_eq, Nat.reduceEqDiff, if_false, if_true, h0, h4, h3], by simp only [upd_eq, Nat.reduceEqDiff, if_false, if_true, h0, h4, h3], by simp only [upd_eq, Nat.reduceEqDiff, if_false, if_true, h0, h4, h3], ?_⟩
      have hf := fill_mid (n := l.length) (j := j) (zs := zs) (ms := ms) (z := [.v (.int .i64 0), .v (.slice none 0 0)]) (by rw [hms]; exact hzl) (by rw [hms]; rfl) hlt
      rw [hms] at hf
      refine ⟨zs ++ ms, ?_, ?_, ?_, ?_⟩
      · simp only [Hp.set_h, if_true]; exact congrArg some hf
      · have hla : (zs ++ ms).length = zs.length + ms.length := List.length_append
        rw [Nat.add_mul]; omega
      · exact Nat.lt_of_lt_of_le hg0 m2.1
      · rw [at_take hg, List.map_append, List.flatten_append]
        refine (hly.keep (H' := Hp.set H2 0 _) fun b h1 h2 => ?_).app (mid := H.g) ?_
        · rw [Hp.set_h, if_neg (by omega)]; exact m2.2 b h2
        · simpa using m3.keep (H' := Hp.set H2 0 _) fun b h1 h2 => by rw [Hp.set_h, if_neg (by omega)]
    · have hj' : j = l.length := by omega
      subst hj'
      rw [h3]
      obtain ⟨zs, hb, hzl, hg0, hly⟩ := hh
      rw [List.take_of_length_le (Nat.le_refl _)] at hly
      have hb' : H.h 0 = some zs := by rw [hb]; simp [zeros]
      exact hly.givesL (n := 11) hb' (by omega) (by omega) (by simp) (by omega) hls (fun c hc' x hx => by obtain ⟨k, -, rfl⟩ := List.mem_map.1 hc'; exact gE_Flight 9 k x hx)
  · refine ⟨0, by omega, rfl, rfl, rfl, ?_⟩
    refine ⟨[], ?_, by simp, by simp, .nil (by simp)⟩
    simp only [Hp.new_h, nil_g, if_true, Nat.sub_zero, List.nil_append]
theorem p_ltoFlightS (l : List FlightM) (hk : l.length ≤ 1048576 ∧ ∀ x ∈ l, x.ok 1048576) : pure Try.prog cfg0 92 Try.f92 [.lst false (l.map encFlight)] = some (.lst false (l.map encFlight), true) := (pq_ltoFlightS l hk).1
theorem c_ltoFlightS (l : List FlightM) (hk : l.length ≤ 1048576 ∧ ∀ x ∈ l, x.ok 1048576) : ∀ H, call Try.prog cfg0 0 92 [.lst false (l.map encFlight)] H = some (.lst false (l.map encFlight), H) :=
  call_fz Try.func92 rfl ok_ltoFlightS rfl (by simp only [fz_cons, fz_nil, go_sem, and_self]) (pq_ltoFlightS l hk).1
theorem o_ltoFlightS (l : List FlightM) (hk : l.length ≤ 1048576 ∧ ∀ x ∈ l, x.ok 1048576) : ∀ H, call Try.prog cfg0 1 92 [.lst false (l.map encFlight)] H = mat depthD (.lst false (l.map encFlight)) H := fun H =>
  call_ofO Try.func92 rfl ok_ltoFlightS rfl (mapM_self fun x hx => ((show ∀ x ∈ ([.lst false (l.map encFlight)] : List AV), Fz depthD x by simp only [fz_cons, fz_nil, go_sem, and_self]) x hx).1 H) (pq_ltoFlightS l hk).2

theorem ok_ltoState : fnOk Try.prog cfg0 39 Try.f39 = true := by kernel_rfl
theorem pq_ltoState (k : StateM) (hk : k.ok 1048576) : pure Try.prog cfg0 39 Try.f39 [.agg [.lst false (k.Nodes.map encNodeState), .lst false (k.Flights.map encFlight), i64L k.Codes]] = some (.agg [.lst false (k.Nodes.map encNodeState), .lst false (k.Flights.map encFlight), i64L k.Codes], true) ∧ owned Try.prog cfg0 39 Try.f39 [.agg [.lst false (k.Nodes.map encNodeState), .lst false (k.Flights.map encFlight), i64L k.Codes]] = some (.agg [.lst false (k.Nodes.map encNodeState), .lst false (k.Flights.map encFlight), i64L k.Codes]) := by
  refine both_wp (rs := [.cell 2 71]) rfl rfl ?_
  have hp0 : ∀ b, cfg0.pol 39 b = (if b = 6 then 1 else if b = 10 then 1 else if b = 14 then 1 else 0) := fun b => rfl
  repeat' (first | ((first | refine wSeqr (fun xx hx => ?_) | refine wIf (fun xx hx => ?_) | refine wReg (fun xx hx => ?_) | (refine wRet ?_; (try simp only [thenQ, blockQ]); refine ends_by (fun xx hx => ?_))); have hc := trivial; (repeat' (simp only [hc, go_sem, Nat.reduceAdd, Nat.reduceMul, Nat.reduceSub, Nat.reduceEqDiff, Nat.reduceLT, Nat.reduceLeDiff, Int.reduceEq, Int.reduceLT, Int.reduceLE, reduceIte, aresults, aresult, hp0, o_ltoNodeStateS k.Nodes (hk.1), (fun H => mat_zz (d := depthD) (gR_NodeState 7 k.Nodes) (Nat.le_of_ble_eq_true rfl) H), o_ltoFlightS k.Flights (hk.2.1), (fun H => mat_zz (d := depthD) (gR_Flight 8 k.Flights) (Nat.le_of_ble_eq_true rfl) H), o_ltoInt64S k.Codes hk.2.2.2, (fun H => mat_zz (d := depthD) (MatG.i64s 9 k.Codes) (Nat.le_of_ble_eq_true rfl) H), (fun H => (zz_ok (d := depthD) (gR_NodeState 7 k.Nodes) (Nat.le_of_ble_eq_true rfl) (fun _ h => by cases h) H).1), (fun H => (zz_ok (d := depthD) (gR_NodeState 7 k.Nodes) (Nat.le_of_ble_eq_true rfl) (fun _ h => by cases h) H).2), (fun H => (zz_ok (d := 11) (gR_NodeState 7 k.Nodes) (Nat.le_of_ble_eq_true rfl) (fun _ h => by cases h) H).1), (fun H => (zz_ok (d := 11) (gR_NodeState 7 k.Nodes) (Nat.le_of_ble_eq_true rfl) (fun _ h => by cases h) H).2), (fun H => (zz_ok (d := depthD) (gR_Flight 8 k.Flights) (Nat.le_of_ble_eq_true rfl) (fun _ h => by cases h) H).1), (fun H => (zz_ok (d := depthD) (gR_Flight 8 k.Flights) (Nat.le_of_ble_eq_true rfl) (fun _ h => by cases h) H).2), (fun H => (zz_ok (d := 11) (gR_Flight 8 k.Flights) (Nat.le_of_ble_eq_true rfl) (fun _ h => by cases h) H).1), (fun H => (zz_ok (d := 11) (gR_Flight 8 k.Flights) (Nat.le_of_ble_eq_true rfl) (fun _ h => by cases h) H).2), (fun H => (zz_ok (d := depthD) (MatG.i64s 9 k.Codes) (Nat.le_of_ble_eq_true rfl) (fun _ h => by cases h) H).1), (fun H => (zz_ok (d := depthD) (MatG.i64s 9 k.Codes) (Nat.le_of_ble_eq_true rfl) (fun _ h => by cases h) H).2), (fun H => (zz_ok (d := 11) (MatG.i64s 9 k.Codes) (Nat.le_of_ble_eq_true rfl) (fun _ h => by cases h) H).1), (fun H => (zz_ok (d := 11) (MatG.i64s 9 k.Codes) (Nat.le_of_ble_eq_true rfl) (fun _ h => by cases h) H).2), lt_hhI, hh_hI, true_or] at hx; (try (rw [guardL_if] at hx; split at hx <;> rename_i hc)))); all_goals (subst hx; first | (refine ⟨_, rfl, fun ht => ?_, fun ht => ?_⟩ <;> (try simp only [Bool.not_eq_true', Bool.not_eq_false', Bool.and_eq_true, Bool.and_eq_false_iff, Bool.or_eq_true, Bool.or_eq_false_iff, decide_eq_true_eq, decide_eq_false_iff_not, beq_iff_eq, bne_iff_ne, Bool.not_true, Bool.not_false, Bool.true_eq_false, Bool.false_eq_true, ne_eq, Decidable.not_not, inB_t, inB_f] at ht)) | (refine ⟨_, rfl, ?_⟩; (try simp only [tupOf])))) | refine wSkip ?_ | (refine wExit ?_; simp only [thenQ, blockQ, reduceIte, Nat.reduceEqDiff]) | refine wSeq ?_ | refine wBlock ?_)
  refine Laid.givesE (n := 11) (lo := 0) ?_ (by omega) (gE_State 7 k)
  refine Laid.zzE (n := 11) (gR_NodeState 7 k.Nodes) (Nat.le_of_ble_eq_true rfl) (Nat.zero_le _) ?_ ?_
  · repeat first | exact Kept.refl _ _ | refine Kept.set (by simp only [Hp.set_g, Hp.new_g, nil_g, lt_hhI, true_or, Nat.reduceAdd, Nat.reduceLT]) ?_ | refine Kept.hh ?_
  refine Laid.zzE (n := 11) (gR_Flight 8 k.Flights) (Nat.le_of_ble_eq_true rfl) (Nat.le_refl _) ?_ ?_
  · repeat first | exact Kept.refl _ _ | refine Kept.set (by simp only [Hp.set_g, Hp.new_g, nil_g, lt_hhI, true_or, Nat.reduceAdd, Nat.reduceLT]) ?_ | refine Kept.hh ?_
  refine Laid.zzE (n := 11) (MatG.i64s 9 k.Codes) (Nat.le_of_ble_eq_true rfl) (Nat.le_refl _) ?_ ?_
  · repeat first | exact Kept.refl _ _ | refine Kept.set (by simp only [Hp.set_g, Hp.new_g, nil_g, lt_hhI, true_or, Nat.reduceAdd, Nat.reduceLT]) ?_ | refine Kept.hh ?_
  exact Laid.nilE
theorem p_ltoState (k : StateM) (hk : k.ok 1048576) : pure Try.prog cfg0 39 Try.f39 [.agg [.lst false (k.Nodes.map encNodeState), .lst false (k.Flights.map encFlight), i64L k.Codes]] = some (.agg [.lst false (k.Nodes.map encNodeState), .lst false (k.Flights.map encFlight), i64L k.Codes], true) := (pq_ltoState k hk).1
theorem c_ltoState (k : StateM) (hk : k.ok 1048576) : ∀ H, call Try.prog cfg0 0 39 [.agg [.lst false (k.Nodes.map encNodeState), .lst false (k.Flights.map encFlight), i64L k.Codes]] H = some (.agg [.lst false (k.Nodes.map encNodeState), .lst false (k.Flights.map encFlight), i64L k.Codes], H) :=
  call_fz Try.func39 rfl ok_ltoState rfl (by simp only [fz_cons, fz_nil, go_sem, and_self]) (pq_ltoState k hk).1
theorem o_ltoState (k : StateM) (hk : k.ok 1048576) : ∀ H, call Try.prog cfg0 1 39 [.agg [.lst false (k.Nodes.map encNodeState), .lst false (k.Flights.map encFlight), i64L k.Codes]] H = mat depthD (.agg [.lst false (k.Nodes.map encNodeState), .lst false (k.Flights.map encFlight), i64L k.Codes]) H := fun H =>
  call_ofO Try.func39 rfl ok_ltoState rfl (mapM_self fun x hx => ((show ∀ x ∈ ([.agg [.lst false (k.Nodes.map encNodeState), .lst false (k.Flights.map encFlight), i64L k.Codes]] : List AV), Fz depthD x by simp only [fz_cons, fz_nil, go_sem, and_self]) x hx).1 H) (pq_ltoState k hk).2

end
end Go.Proofs.Ytmncdkecpnoogaa
