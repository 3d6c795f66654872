/- Contracts: numbers in bytes. -/
import Derived.Test.YtmpkcilehideiaaKA
namespace Go.Proofs.Ytmpkcilehideiaa
open Go Go.RowKit Go.Proofs.Ytmpkcilehideiaa.Eng
set_option linter.unusedSimpArgs false
set_option linter.unusedVariables false
set_option maxRecDepth 100000
noncomputable section
/-- The number that bytes are, the highest one first. -/
def rdN (l : List Int) : Int := l.foldl (fun n z => n * 256 + z) 0
theorem rdN_snoc (l : List Int) (z : Int) : rdN (l ++ [z]) = rdN l * 256 + z := by simp [rdN, List.foldl_append]
theorem rd_bound {l : List Int} (h : Eng.Bytes l) : ∀ j, j ≤ l.length → 0 ≤ rdN (l.take j) ∧ rdN (l.take j) < 256 ^ j := by
  intro j
  induction j with
  | zero => intro _; simp [rdN]
  | succ j ih =>
    intro hj
    obtain ⟨z, hz, -, hm⟩ := at_drop (show j < l.length by omega)
    have hzb := h z hm
    obtain ⟨h1, h2⟩ := ih (by omega)
    rw [at_take hz, rdN_snoc]
    have e : (256 : Int) ^ (j + 1) = 256 ^ j * 256 := Int.pow_succ 256 j
    rw [e]
    omega
theorem rd_step {l : List Int} (h : Eng.Bytes l) {j : Nat} {z : Int} (hz : l[j]? = some z) : rdN (l.take (j + 1)) = rdN (l.take j) * 256 + z ∧ rdN (l.take j) ≤ rdN (l.take (j + 1)) ∧ 0 ≤ z ∧ z ≤ 255 := by
  have hj := lt_of_get hz
  have hzb := h z (List.mem_of_getElem? hz)
  have hb := rd_bound h j (by omega)
  rw [at_take hz, rdN_snoc]
  omega
theorem rd_mono {l : List Int} (h : Eng.Bytes l) : ∀ d j, j + d ≤ l.length → rdN (l.take j) ≤ rdN (l.take (j + d)) := by
  intro d
  induction d with
  | zero => intro j _; exact Int.le_refl _
  | succ d ih =>
    intro j hj
    obtain ⟨z, hz, -, -⟩ := at_drop (show j + d < l.length by omega)
    exact Int.le_trans (ih j (by omega)) (by rw [← Nat.add_assoc]; exact (rd_step h hz).2.1)
theorem rd_le {l : List Int} (h : Eng.Bytes l) {j : Nat} (hj : j ≤ l.length) : rdN (l.take j) ≤ rdN l := by
  have := rd_mono h (l.length - j) j (by omega)
  rwa [show j + (l.length - j) = l.length by omega, List.take_length] at this
theorem rdN_pos {l : List Int} (h : Eng.Bytes l) : 0 ≤ rdN l := by
  have := rd_le h (Nat.zero_le _)
  simpa [rdN] using this
theorem bytes_sub {l : List Int} (h : Eng.Bytes l) (a s : Nat) : Eng.Bytes ((l.drop a).take s) := fun z hz => h z (List.mem_of_mem_drop (List.mem_of_mem_take hz))
theorem sub_at {l : List Int} {a s j : Nat} {z : Int} (hj : j < s) (h : ((l.drop a).take s)[j]? = some z) : l[a + j]? = some z := by
  rw [List.getElem?_take, if_pos hj, List.getElem?_drop] at h; exact h
theorem shl8 {n : Int} (h0 : 0 ≤ n) (h1 : n < 72057594037927936) : IntKind.wrap .u64 (n * 2 ^ min (Int.toNat 8) 64) = n * 256 := by
  have e : min (Int.toNat 8) 64 = 8 := by decide
  rw [e]
  simp [IntKind.wrap, IntKind.bits, IntKind.signed]; omega
theorem or8 {n z : Int} (h0 : 0 ≤ n) (h1 : n < 72057594037927936) (hz : 0 ≤ z ∧ z ≤ 255) : IntKind.wrap .u64 (((BitVec.ofInt 64 (n * 256) ||| BitVec.ofInt 64 z).toNat : Nat) : Int) = n * 256 + z := by
  obtain ⟨m, rfl⟩ : ∃ m : Nat, n = m := ⟨n.toNat, by omega⟩
  obtain ⟨k, rfl⟩ : ∃ k : Nat, z = k := ⟨z.toNat, by omega⟩
  have e1 : (BitVec.ofInt 64 ((m : Int) * 256)).toNat = m <<< 8 := by
    rw [show ((m : Int) * 256) = ((m * 256 : Nat) : Int) by omega, BitVec.ofInt_natCast, BitVec.toNat_ofNat, Nat.shiftLeft_eq]
    exact Nat.mod_eq_of_lt (by omega)
  have e2 : (BitVec.ofInt 64 (k : Int)).toNat = k := by
    rw [BitVec.ofInt_natCast, BitVec.toNat_ofNat]
    exact Nat.mod_eq_of_lt (by omega)
  rw [BitVec.toNat_or, e1, e2, ← Nat.shiftLeft_add_eq_or_of_lt (show k < 2 ^ 8 by omega) m, Nat.shiftLeft_eq]
  simp [IntKind.wrap, IntKind.bits, IntKind.signed]; omega
theorem or_u64 {n z : Int} (h0 : 0 ≤ n) (h1 : n < 72057594037927936) (hz : 0 ≤ z ∧ z ≤ 255) (t : Nat) : abinX Try.prog .or t (.v (.int .u64 (n * 256))) (.v (.int .u64 z)) = some (.v (.int .u64 (n * 256 + z))) := by
  rw [abinX_ii]
  show some (AV.v (.int .u64 (IntKind.wrap .u64 (((BitVec.ofInt 64 (n * 256) ||| BitVec.ofInt 64 z).toNat : Nat) : Int)))) = _
  rw [or8 h0 h1 hz]
theorem ok_sl1Read : fnOk Try.prog cfg0 71 Try.f71 = true := by kernel_rfl
theorem p_sl1Read (l : List Int) (a m : Nat) (a' m' : Int) (ha' : a' = a) (hs' : m' = m) (hb : Eng.Bytes l) (has : a + m ≤ l.length) (hl : l.length ≤ 1048576) (hv : rdN ((l.drop a).take m) < 9223372036854775808) : pure Try.prog cfg0 71 Try.f71 [bytesL l, .v (.int .i64 a'), .v (.int .i64 m')] = some (.v (.int .i64 (rdN ((l.drop a).take m))), true) := by
  refine pure_wp (rs := [.tmp 6]) rfl rfl ?_
  have hp0 : ∀ b, cfg0.pol 71 b = 0 := fun b => rfl
  have hw := bytes_sub hb a m
  have hwl : ((l.drop a).take m).length = m := by simp; omega
  repeat' (first | ((first | refine wSeqr (fun xx hx => ?_) | refine wSeqrF (fun xx hx => ?_) | refine wIf (fun xx hx => ?_) | refine wReg (fun xx hx => ?_) | refine wRegF (fun xx hx => ?_) | (refine wRet ?_; (try simp only [thenQ, blockQ]); (try (subst hQQ; (try simp only [thenQ, blockQ]))); refine ends_by (fun xx hx => ?_))); have hc := trivial; (repeat' (simp only [hc, Nat.reduceBEq, go_sem, Nat.reduceAdd, Nat.reduceMul, Nat.reduceSub, Nat.reduceEqDiff, Nat.reduceLT, Nat.reduceLeDiff, Int.reduceEq, Int.reduceLT, Int.reduceLE, reduceIte, aresults, aresult] at hx; (try ((first | rw [guardL_if] at hx | rw [guardF_if] at hx); split at hx <;> rename_i hc)))); all_goals (subst hx; first | (refine ⟨_, rfl, fun ht => ?_, fun ht => ?_⟩ <;> (try simp only [Bool.not_eq_true', Bool.not_eq_false', Bool.and_eq_true, Bool.and_eq_false_iff, Bool.or_eq_true, Bool.or_eq_false_iff, decide_eq_true_eq, decide_eq_false_iff_not, beq_iff_eq, bne_iff_ne, Bool.not_true, Bool.not_false, Bool.true_eq_false, Bool.false_eq_true, ne_eq, Decidable.not_not, inB_t, inB_f] at ht)) | (refine ⟨_, rfl, ?_⟩; (try simp only [tupOf])))) | refine wSkip ?_ | (refine wExit ?_; simp only [thenQ, blockQ, reduceIte, Nat.reduceEqDiff]) | refine wSeq ?_ | refine wBlock ?_ | (subst hQQ; (try simp only [thenQ, blockQ, reduceIte, Nat.reduceEqDiff])))
  refine wLoop (fun k s => ∃ (j : Nat), j + k = m ∧ s.1 0 = bytesL l ∧ s.1 1 = .v (.int .i64 a') ∧ s.1 2 = .v (.int .i64 m') ∧ s.1 7 = .v (.int .i64 (rdN (((l.drop a).take m).take j))) ∧ s.1 8 = .v (.int .i64 (j : Nat)) ∧ True) (fun k s hI => ?_) (m) _ ?_
  · obtain ⟨e, H⟩ := s
    obtain ⟨j, hj, h0, h1, h2, h7, h8, -⟩ := hI
    simp only at h0 h1 h2 h7 h8
    repeat' (first | ((first | refine wSeqr (fun xx hx => ?_) | refine wSeqrF (fun xx hx => ?_) | refine wIf (fun xx hx => ?_) | refine wReg (fun xx hx => ?_) | refine wRegF (fun xx hx => ?_) | (refine wRet ?_; (try simp only [thenQ, blockQ]); (try (subst hQQ; (try simp only [thenQ, blockQ]))); refine ends_by (fun xx hx => ?_))); have hc := trivial; (repeat' (simp only [hc, Nat.reduceBEq, go_sem, Nat.reduceAdd, Nat.reduceMul, Nat.reduceSub, Nat.reduceEqDiff, Nat.reduceLT, Nat.reduceLeDiff, Int.reduceEq, Int.reduceLT, Int.reduceLE, reduceIte, aresults, aresult, h2, h8] at hx; (try ((first | rw [guardL_if] at hx | rw [guardF_if] at hx); split at hx <;> rename_i hc)))); all_goals (subst hx; first | (refine ⟨_, rfl, fun ht => ?_, fun ht => ?_⟩ <;> (try simp only [Bool.not_eq_true', Bool.not_eq_false', Bool.and_eq_true, Bool.and_eq_false_iff, Bool.or_eq_true, Bool.or_eq_false_iff, decide_eq_true_eq, decide_eq_false_iff_not, beq_iff_eq, bne_iff_ne, Bool.not_true, Bool.not_false, Bool.true_eq_false, Bool.false_eq_true, ne_eq, Decidable.not_not, inB_t, inB_f] at ht)) | (refine ⟨_, rfl, ?_⟩; (try simp only [tupOf])))) | refine wSkip ?_ | (refine wExit ?_; simp only [thenQ, blockQ, reduceIte, Nat.reduceEqDiff]) | refine wSeq ?_ | refine wBlock ?_ | (subst hQQ; (try simp only [thenQ, blockQ, reduceIte, Nat.reduceEqDiff])))
    · have hjs : j < m := by omega
      obtain ⟨z, hz, -, -⟩ := at_drop (l := (l.drop a).take m) (j := j) (by omega)
      obtain ⟨r1, r2, r3, r4⟩ := rd_step hw hz
      have hz3 := map_at (f := fun z => [AV.v (.int .u8 z)]) (sub_at hjs hz)
      have r5 := rd_le hw (j := j + 1) (by omega)
      have r6 := (rd_bound hw j (by omega)).1
      have w1 : IntKind.wrap .i64 (rdN (((l.drop a).take m).take j) * 256) = rdN (((l.drop a).take m).take j) * 256 := wrap_i64 (by omega) (by omega)
      have w2 : IntKind.wrap .i64 (rdN (((l.drop a).take m).take j) * 256 + z) = rdN (((l.drop a).take m).take (j + 1)) := by rw [r1]; exact wrap_i64 (by omega) (by omega)
      have w3 : IntKind.wrap .i64 z = z := wrap_i64 (by omega) (by omega)
      have w4 : IntKind.wrap .i64 (a' + (j : Int)) = ((a + j : Nat) : Int) := by rw [wrap_i64 (by omega) (by omega)]; omega
      repeat' (first | ((first | refine wSeqr (fun xx hx => ?_) | refine wSeqrF (fun xx hx => ?_) | refine wIf (fun xx hx => ?_) | refine wReg (fun xx hx => ?_) | refine wRegF (fun xx hx => ?_) | (refine wRet ?_; (try simp only [thenQ, blockQ]); (try (subst hQQ; (try simp only [thenQ, blockQ]))); refine ends_by (fun xx hx => ?_))); have hc := trivial; (repeat' (simp only [hc, Nat.reduceBEq, go_sem, Nat.reduceAdd, Nat.reduceMul, Nat.reduceSub, Nat.reduceEqDiff, Nat.reduceLT, Nat.reduceLeDiff, Int.reduceEq, Int.reduceLT, Int.reduceLE, reduceIte, aresults, aresult, h0, h1, h7, h8, hz3, w1, w2, w3, w4, bytesL, cell, wrap_succ (show j < 9223372036854775807 by omega)] at hx; (try ((first | rw [guardL_if] at hx | rw [guardF_if] at hx); split at hx <;> rename_i hc)))); all_goals (subst hx; first | (refine ⟨_, rfl, fun ht => ?_, fun ht => ?_⟩ <;> (try simp only [Bool.not_eq_true', Bool.not_eq_false', Bool.and_eq_true, Bool.and_eq_false_iff, Bool.or_eq_true, Bool.or_eq_false_iff, decide_eq_true_eq, decide_eq_false_iff_not, beq_iff_eq, bne_iff_ne, Bool.not_true, Bool.not_false, Bool.true_eq_false, Bool.false_eq_true, ne_eq, Decidable.not_not, inB_t, inB_f] at ht)) | (refine ⟨_, rfl, ?_⟩; (try simp only [tupOf])))) | refine wSkip ?_ | (refine wExit ?_; simp only [thenQ, blockQ, reduceIte, Nat.reduceEqDiff]) | refine wSeq ?_ | refine wBlock ?_ | (subst hQQ; (try simp only [thenQ, blockQ, reduceIte, Nat.reduceEqDiff])))
      refine ⟨_, Nat.sub_lt (by omega) Nat.one_pos, j + 1, by omega, by simp only [upd_eq, Nat.reduceEqDiff, if_false, if_true, h0, h1, h2, h7, h8], by simp only [upd_eq, Nat.reduceEqDiff, if_false, if_true, h0, h1, h2, h7, h8], by simp only [upd_eq, Nat.reduceEqDiff, if_false, if_true, h0, h1, h2, h7, h8], by simp only [upd_eq, Nat.reduceEqDiff, if_false, if_true, h0, h1, h2, h7, h8], by simp only [upd_eq, Nat.reduceEqDiff, if_false, if_true, h0, h1, h2, h7, h8], trivial⟩
    · rw [h7, show j = m by omega, List.take_take, Nat.min_self]
      exact ⟨rfl, rfl⟩
  · refine ⟨0, by omega, rfl, rfl, rfl, rfl, rfl, trivial⟩
theorem c_sl1Read (l : List Int) (a m : Nat) (a' m' : Int) (ha' : a' = a) (hs' : m' = m) (hb : Eng.Bytes l) (has : a + m ≤ l.length) (hl : l.length ≤ 1048576) (hv : rdN ((l.drop a).take m) < 9223372036854775808) : ∀ H, call Try.prog cfg0 0 71 [bytesL l, .v (.int .i64 a'), .v (.int .i64 m')] H = some (.v (.int .i64 (rdN ((l.drop a).take m))), H) :=
  call_fz Try.func71 rfl ok_sl1Read rfl (by simp only [fz_cons, fz_nil, go_sem, and_self]) (p_sl1Read l a m a' m' ha' hs' hb has hl hv)

theorem ok_inoInt : fnOk Try.prog cfg0 81 Try.f81 = true := by kernel_rfl
theorem p_inoInt (c : Int) : pure Try.prog cfg0 81 Try.f81 [.v (.int .i64 c)] = some (.agg [.v (.int .i64 c), .v (.int .i64 0)], true) := by
  refine pure_wp (rs := [.cell 2 90]) rfl rfl ?_
  have hp0 : ∀ b, cfg0.pol 81 b = 0 := fun b => rfl
  repeat' (first | ((first | refine wSeqr (fun xx hx => ?_) | refine wSeqrF (fun xx hx => ?_) | refine wIf (fun xx hx => ?_) | refine wReg (fun xx hx => ?_) | refine wRegF (fun xx hx => ?_) | (refine wRet ?_; (try simp only [thenQ, blockQ]); (try (subst hQQ; (try simp only [thenQ, blockQ]))); refine ends_by (fun xx hx => ?_))); have hc := trivial; (repeat' (simp only [hc, Nat.reduceBEq, go_sem, Nat.reduceAdd, Nat.reduceMul, Nat.reduceSub, Nat.reduceEqDiff, Nat.reduceLT, Nat.reduceLeDiff, Int.reduceEq, Int.reduceLT, Int.reduceLE, reduceIte, aresults, aresult] at hx; (try ((first | rw [guardL_if] at hx | rw [guardF_if] at hx); split at hx <;> rename_i hc)))); all_goals (subst hx; first | (refine ⟨_, rfl, fun ht => ?_, fun ht => ?_⟩ <;> (try simp only [Bool.not_eq_true', Bool.not_eq_false', Bool.and_eq_true, Bool.and_eq_false_iff, Bool.or_eq_true, Bool.or_eq_false_iff, decide_eq_true_eq, decide_eq_false_iff_not, beq_iff_eq, bne_iff_ne, Bool.not_true, Bool.not_false, Bool.true_eq_false, Bool.false_eq_true, ne_eq, Decidable.not_not, inB_t, inB_f] at ht)) | (refine ⟨_, rfl, ?_⟩; (try simp only [tupOf])))) | refine wSkip ?_ | (refine wExit ?_; simp only [thenQ, blockQ, reduceIte, Nat.reduceEqDiff]) | refine wSeq ?_ | refine wBlock ?_ | (subst hQQ; (try simp only [thenQ, blockQ, reduceIte, Nat.reduceEqDiff])))
  exact ⟨rfl, rfl⟩
theorem c_inoInt (c : Int) : ∀ H, call Try.prog cfg0 0 81 [.v (.int .i64 c)] H = some (.agg [.v (.int .i64 c), .v (.int .i64 0)], H) :=
  call_fz Try.func81 rfl ok_inoInt rfl (by simp only [fz_cons, fz_nil, go_sem, and_self]) (p_inoInt c)

theorem aslice_bytes {P : Program} {H : Hp} {e : Env} {t el : TypeId} {l : List Int} {lo hi : Operand} {a b : Nat} (hu : P.underlying t = some (.slice el)) (hz : szOf P el = some 1) (ha : natOf (opd e lo) = some a) (hb : natOf (opd e hi) = some b) (h1 : a ≤ b) (h2 : b ≤ l.length) :
    aslice P H e t (bytesL l) (some lo) (some hi) none = some (bytesL ((l.drop a).take (b - a))) := by
  have h3 : (l.map fun z => [cell z]).all (fun c => decide (c.length = 1)) = true := by simp
  simp only [aslice, hu, bytesL, hz, Option.bind_some, bound, ha, hb, h3, List.length_map, h1, h2, and_self, if_true, Bool.false_and, List.map_drop, List.map_take]
theorem aconv_int {P : Program} {a b : TypeId} {k k1 : IntKind} (h1 : P.underlying a = some (.int k1)) (h2 : P.underlying b = some (.int k)) (H : Hp) (k' : IntKind) (n : Int) : aconv P H a b (.v (.int k' n)) = some (.v (.int k (k.wrap n))) := by simp only [aconv, h1, h2]
def readWord (l : List Int) (a m : Nat) : Int × Int := if a + m ≤ l.length then (if rdN ((l.drop a).take m) < 9223372036854775808 then (0, rdN ((l.drop a).take m)) else (1, 0)) else (3, 0)
theorem ok_iReadWord : fnOk Try.prog cfg0 75 Try.f75 = true := by kernel_rfl
theorem p_iReadWord (l : List Int) (a m : Nat) (a' m' : Int) (ha' : a' = a) (hm' : m' = m) (hb : Eng.Bytes l) (hm1 : 1 ≤ m) (hm8 : m ≤ 8) (hl : l.length ≤ 1048576) (hab : a ≤ 1048576) : pure Try.prog cfg0 75 Try.f75 [bytesL l, .v (.int .i64 a'), .v (.int .i64 m')] = some (.agg [.v (.int .i64 (readWord l a m).1), .v (.int .i64 (readWord l a m).2)], true) := by
  refine pure_wp (rs := [.cell 6 90]) rfl rfl ?_
  have hp0 : ∀ b, cfg0.pol 75 b = 0 := fun b => rfl
  have hw := bytes_sub hb a m
  have hib : inB m' 1 8 = true := inB_t.2 (by omega)
  have hsub : IntKind.wrap .i64 ((l.length : Int) - a') = (l.length : Int) - a' := wrap_i64 (by omega) (by omega)
  by_cases has : a + m ≤ l.length
  rotate_left
  · have hr : readWord l a m = (3, 0) := by unfold readWord; rw [if_neg has]
    rw [hr]
    repeat' (first | ((first | refine wSeqr (fun xx hx => ?_) | refine wSeqrF (fun xx hx => ?_) | refine wIf (fun xx hx => ?_) | refine wReg (fun xx hx => ?_) | refine wRegF (fun xx hx => ?_) | (refine wRet ?_; (try simp only [thenQ, blockQ]); (try (subst hQQ; (try simp only [thenQ, blockQ]))); refine ends_by (fun xx hx => ?_))); have hc := trivial; (repeat' (simp only [hc, Nat.reduceBEq, go_sem, Nat.reduceAdd, Nat.reduceMul, Nat.reduceSub, Nat.reduceEqDiff, Nat.reduceLT, Nat.reduceLeDiff, Int.reduceEq, Int.reduceLT, Int.reduceLE, reduceIte, aresults, aresult, hp0, c_iin, hib, Bool.not_true, hsub, c_inoInt] at hx; (try ((first | rw [guardL_if] at hx | rw [guardF_if] at hx); split at hx <;> rename_i hc)))); all_goals (subst hx; first | (refine ⟨_, rfl, fun ht => ?_, fun ht => ?_⟩ <;> (try simp only [Bool.not_eq_true', Bool.not_eq_false', Bool.and_eq_true, Bool.and_eq_false_iff, Bool.or_eq_true, Bool.or_eq_false_iff, decide_eq_true_eq, decide_eq_false_iff_not, beq_iff_eq, bne_iff_ne, Bool.not_true, Bool.not_false, Bool.true_eq_false, Bool.false_eq_true, ne_eq, Decidable.not_not, inB_t, inB_f] at ht) <;> (try (exfalso; omega))) | (refine ⟨_, rfl, ?_⟩; (try simp only [tupOf])))) | refine wSkip ?_ | (refine wExit ?_; simp only [thenQ, blockQ, reduceIte, Nat.reduceEqDiff]) | refine wSeq ?_ | refine wBlock ?_ | (subst hQQ; (try simp only [thenQ, blockQ, reduceIte, Nat.reduceEqDiff])))
    all_goals exact ⟨rfl, rfl⟩
  have hwl : ((l.drop a).take m).length = m := by simp; omega
  have hadd : IntKind.wrap .i64 (a' + m') = a' + m' := wrap_i64 (by omega) (by omega)
  have hr : readWord l a m = if rdN ((l.drop a).take m) < 9223372036854775808 then (0, rdN ((l.drop a).take m)) else (1, 0) := by unfold readWord; rw [if_pos has]
  rw [hr]
  have hna : natOf (.v (.int .i64 a')) = some a := by rw [ha']; exact natOf_nat _ _
  have hnb : natOf (.v (.int .i64 (a' + m'))) = some (a + m) := by rw [ha', hm', show (a : Int) + m = ((a + m : Nat) : Int) by omega]; exact natOf_nat _ _
  repeat' (first | ((first | refine wSeqr (fun xx hx => ?_) | refine wSeqrF (fun xx hx => ?_) | refine wIf (fun xx hx => ?_) | refine wReg (fun xx hx => ?_) | refine wRegF (fun xx hx => ?_) | (refine wRet ?_; (try simp only [thenQ, blockQ]); (try (subst hQQ; (try simp only [thenQ, blockQ]))); refine ends_by (fun xx hx => ?_))); have hc := trivial; (repeat' (simp only [hc, Nat.reduceBEq, go_sem, Nat.reduceAdd, Nat.reduceMul, Nat.reduceSub, Nat.reduceEqDiff, Nat.reduceLT, Nat.reduceLeDiff, Int.reduceEq, Int.reduceLT, Int.reduceLE, reduceIte, aresults, aresult, hp0, c_iin, hib, Bool.not_true, hsub, c_inoInt] at hx; (try ((first | rw [guardL_if] at hx | rw [guardF_if] at hx); split at hx <;> rename_i hc)))); all_goals (subst hx; first | (refine ⟨_, rfl, fun ht => ?_, fun ht => ?_⟩ <;> (try simp only [Bool.not_eq_true', Bool.not_eq_false', Bool.and_eq_true, Bool.and_eq_false_iff, Bool.or_eq_true, Bool.or_eq_false_iff, decide_eq_true_eq, decide_eq_false_iff_not, beq_iff_eq, bne_iff_ne, Bool.not_true, Bool.not_false, Bool.true_eq_false, Bool.false_eq_true, ne_eq, Decidable.not_not, inB_t, inB_f] at ht) <;> (try (exfalso; omega))) | (refine ⟨_, rfl, ?_⟩; (try simp only [tupOf])))) | refine wSkip ?_ | (refine wExit ?_; simp only [thenQ, blockQ, reduceIte, Nat.reduceEqDiff]) | refine wSeq ?_ | refine wBlock ?_ | (subst hQQ; (try simp only [thenQ, blockQ, reduceIte, Nat.reduceEqDiff])))
  any_goals (exfalso; (try simp only [Bool.not_eq_true', Bool.not_eq_false', Bool.and_eq_true, Bool.and_eq_false_iff, Bool.or_eq_true, Bool.or_eq_false_iff, decide_eq_true_eq, decide_eq_false_iff_not, beq_iff_eq, bne_iff_ne, Bool.not_true, Bool.not_false, Bool.true_eq_false, Bool.false_eq_true, ne_eq, Decidable.not_not, inB_t, inB_f] at *); omega; done)
  (first | refine wSeqr (fun xx hx => ?_) | refine wSeqrF (fun xx hx => ?_) | refine wReg (fun xx hx => ?_) | refine wRegF (fun xx hx => ?_)); have hc := trivial; (repeat' (simp only [hc, Nat.reduceBEq, go_sem, Nat.reduceAdd, Nat.reduceMul, Nat.reduceSub, Nat.reduceEqDiff, Nat.reduceLT, Nat.reduceLeDiff, Int.reduceEq, Int.reduceLT, Int.reduceLE, reduceIte, aresults, aresult, hadd] at hx; (try ((first | rw [guardL_if] at hx | rw [guardF_if] at hx); split at hx <;> rename_i hc)))); generalize hq : aslice Try.prog _ _ _ _ _ _ _ = q at hx
  have hq2 := hq.symm.trans (aslice_bytes (a := a) (b := a + m) u22 sz5 (by simp only [Nat.reduceBEq, go_sem, Nat.reduceAdd, Nat.reduceMul, Nat.reduceSub, Nat.reduceEqDiff, Nat.reduceLT, Nat.reduceLeDiff, Int.reduceEq, Int.reduceLT, Int.reduceLE, reduceIte, aresults, aresult, hna]) (by simp only [Nat.reduceBEq, go_sem, Nat.reduceAdd, Nat.reduceMul, Nat.reduceSub, Nat.reduceEqDiff, Nat.reduceLT, Nat.reduceLeDiff, Int.reduceEq, Int.reduceLT, Int.reduceLE, reduceIte, aresults, aresult, hnb]) (by omega) has)
  rw [show a + m - a = m by omega] at hq2
  subst hq2
  have hc := trivial; (repeat' (simp only [hc, Nat.reduceBEq, go_sem, Nat.reduceAdd, Nat.reduceMul, Nat.reduceSub, Nat.reduceEqDiff, Nat.reduceLT, Nat.reduceLeDiff, Int.reduceEq, Int.reduceLT, Int.reduceLE, reduceIte, aresults, aresult] at hx; (try ((first | rw [guardL_if] at hx | rw [guardF_if] at hx); split at hx <;> rename_i hc)))); all_goals (subst hx; refine ⟨_, rfl, ?_⟩)
  repeat' (first | ((first | refine wSeqr (fun xx hx => ?_) | refine wSeqrF (fun xx hx => ?_) | refine wIf (fun xx hx => ?_) | refine wReg (fun xx hx => ?_) | refine wRegF (fun xx hx => ?_) | (refine wRet ?_; (try simp only [thenQ, blockQ]); (try (subst hQQ; (try simp only [thenQ, blockQ]))); refine ends_by (fun xx hx => ?_))); have hc := trivial; (repeat' (simp only [hc, Nat.reduceBEq, go_sem, Nat.reduceAdd, Nat.reduceMul, Nat.reduceSub, Nat.reduceEqDiff, Nat.reduceLT, Nat.reduceLeDiff, Int.reduceEq, Int.reduceLT, Int.reduceLE, reduceIte, aresults, aresult] at hx; (try ((first | rw [guardL_if] at hx | rw [guardF_if] at hx); split at hx <;> rename_i hc)))); all_goals (subst hx; first | (refine ⟨_, rfl, fun ht => ?_, fun ht => ?_⟩ <;> (try simp only [Bool.not_eq_true', Bool.not_eq_false', Bool.and_eq_true, Bool.and_eq_false_iff, Bool.or_eq_true, Bool.or_eq_false_iff, decide_eq_true_eq, decide_eq_false_iff_not, beq_iff_eq, bne_iff_ne, Bool.not_true, Bool.not_false, Bool.true_eq_false, Bool.false_eq_true, ne_eq, Decidable.not_not, inB_t, inB_f] at ht)) | (refine ⟨_, rfl, ?_⟩; (try simp only [tupOf])))) | refine wSkip ?_ | (refine wExit ?_; simp only [thenQ, blockQ, reduceIte, Nat.reduceEqDiff]) | refine wSeq ?_ | refine wBlock ?_ | (subst hQQ; (try simp only [thenQ, blockQ, reduceIte, Nat.reduceEqDiff])))
  refine wLoop (fun k s => ∃ (j : Nat), j + k = m ∧ s.1 6 = .ptr 0 0 ∧ s.1 7 = .v (.int .u64 (rdN (((l.drop a).take m).take j))) ∧ s.1 37 = bytesL ((l.drop a).take m) ∧ s.1 38 = .v (.int .i64 (((l.drop a).take m).length : Nat)) ∧ s.1 39 = .v (.int .i64 (j : Nat)) ∧ (s.2.h 0 = some [.v (.int .i64 0), .v (.int .i64 0)])) (fun k s hI => ?_) (m) _ ?_
  · obtain ⟨e, H⟩ := s
    obtain ⟨j, hj, h6, h7, h37, h38, h39, hz0⟩ := hI
    simp only at h6 h7 h37 h38 h39 hz0
    repeat' (first | ((first | refine wSeqr (fun xx hx => ?_) | refine wSeqrF (fun xx hx => ?_) | refine wIf (fun xx hx => ?_) | refine wReg (fun xx hx => ?_) | refine wRegF (fun xx hx => ?_) | (refine wRet ?_; (try simp only [thenQ, blockQ]); (try (subst hQQ; (try simp only [thenQ, blockQ]))); refine ends_by (fun xx hx => ?_))); have hc := trivial; (repeat' (simp only [hc, Nat.reduceBEq, go_sem, Nat.reduceAdd, Nat.reduceMul, Nat.reduceSub, Nat.reduceEqDiff, Nat.reduceLT, Nat.reduceLeDiff, Int.reduceEq, Int.reduceLT, Int.reduceLE, reduceIte, aresults, aresult, h37, h38, h39] at hx; (try ((first | rw [guardL_if] at hx | rw [guardF_if] at hx); split at hx <;> rename_i hc)))); all_goals (subst hx; first | (refine ⟨_, rfl, fun ht => ?_, fun ht => ?_⟩ <;> (try simp only [Bool.not_eq_true', Bool.not_eq_false', Bool.and_eq_true, Bool.and_eq_false_iff, Bool.or_eq_true, Bool.or_eq_false_iff, decide_eq_true_eq, decide_eq_false_iff_not, beq_iff_eq, bne_iff_ne, Bool.not_true, Bool.not_false, Bool.true_eq_false, Bool.false_eq_true, ne_eq, Decidable.not_not, inB_t, inB_f] at ht)) | (refine ⟨_, rfl, ?_⟩; (try simp only [tupOf])))) | refine wSkip ?_ | (refine wExit ?_; simp only [thenQ, blockQ, reduceIte, Nat.reduceEqDiff]) | refine wSeq ?_ | refine wBlock ?_ | (subst hQQ; (try simp only [thenQ, blockQ, reduceIte, Nat.reduceEqDiff])))
    · have hjs : j < m := by omega
      obtain ⟨z, hz, -, -⟩ := at_drop (l := (l.drop a).take m) (j := j) (by omega)
      obtain ⟨r1, r2, r3, r4⟩ := rd_step hw hz
      have hz3 := map_at (f := fun z => [AV.v (.int .u8 z)]) hz
      have r6 := rd_bound hw j (by omega)
      have hp : (256 : Int) ^ j ≤ 72057594037927936 := by
        have h7 : j ≤ 7 := by omega
        match j, h7 with
        | 0, _ => decide
        | 1, _ => decide
        | 2, _ => decide
        | 3, _ => decide
        | 4, _ => decide
        | 5, _ => decide
        | 6, _ => decide
        | 7, _ => decide
      have w1 := shl8 r6.1 (by omega)
      have w2 := or8 r6.1 (by omega) ⟨r3, r4⟩
      rw [← r1] at w2
      have w3 : IntKind.wrap .u64 z = z := by simp [IntKind.wrap, IntKind.bits, IntKind.signed]; omega
      repeat' (first | ((first | refine wSeqr (fun xx hx => ?_) | refine wSeqrF (fun xx hx => ?_) | refine wIf (fun xx hx => ?_) | refine wReg (fun xx hx => ?_) | refine wRegF (fun xx hx => ?_) | (refine wRet ?_; (try simp only [thenQ, blockQ]); (try (subst hQQ; (try simp only [thenQ, blockQ]))); refine ends_by (fun xx hx => ?_))); have hc := trivial; (repeat' (simp only [hc, Nat.reduceBEq, go_sem, Nat.reduceAdd, Nat.reduceMul, Nat.reduceSub, Nat.reduceEqDiff, Nat.reduceLT, Nat.reduceLeDiff, Int.reduceEq, Int.reduceLT, Int.reduceLE, reduceIte, aresults, aresult, h6, h7, h37, h39, hz3, w1, w3, bytesL, cell, wrap_succ (show j < 9223372036854775807 by omega)] at hx; (try ((first | rw [guardL_if] at hx | rw [guardF_if] at hx); split at hx <;> rename_i hc)))); all_goals (subst hx; first | (refine ⟨_, rfl, fun ht => ?_, fun ht => ?_⟩ <;> (try simp only [Bool.not_eq_true', Bool.not_eq_false', Bool.and_eq_true, Bool.and_eq_false_iff, Bool.or_eq_true, Bool.or_eq_false_iff, decide_eq_true_eq, decide_eq_false_iff_not, beq_iff_eq, bne_iff_ne, Bool.not_true, Bool.not_false, Bool.true_eq_false, Bool.false_eq_true, ne_eq, Decidable.not_not, inB_t, inB_f] at ht)) | (refine ⟨_, rfl, ?_⟩; (try simp only [tupOf])))) | refine wSkip ?_ | (refine wExit ?_; simp only [thenQ, blockQ, reduceIte, Nat.reduceEqDiff]) | refine wSeq ?_ | refine wBlock ?_ | (subst hQQ; (try simp only [thenQ, blockQ, reduceIte, Nat.reduceEqDiff])))
      refine ⟨_, Nat.sub_lt (by omega) Nat.one_pos, j + 1, by omega, by simp only [upd_eq, Nat.reduceEqDiff, if_false, h6], ?_, by simp only [upd_eq, Nat.reduceEqDiff, if_false, h37], by simp only [upd_eq, Nat.reduceEqDiff, if_false, h38], by simp only [upd_eq, Nat.reduceEqDiff, if_true, h39], hz0⟩
      simp only [upd_eq, Nat.reduceEqDiff, if_true, if_false]
      exact congrArg (fun z => AV.v (Value.int .u64 z)) w2
    · rw [show j = m by omega, List.take_take, Nat.min_self] at h7
      by_cases hv : rdN ((l.drop a).take m) < 9223372036854775808
      · have hwv : IntKind.wrap .i64 (rdN ((l.drop a).take m)) = rdN ((l.drop a).take m) := wrap_i64 (by have := rdN_pos hw; omega) (by omega)
        repeat' (first | ((first | refine wSeqr (fun xx hx => ?_) | refine wSeqrF (fun xx hx => ?_) | refine wIf (fun xx hx => ?_) | refine wReg (fun xx hx => ?_) | refine wRegF (fun xx hx => ?_) | (refine wRet ?_; (try simp only [thenQ, blockQ]); (try (subst hQQ; (try simp only [thenQ, blockQ]))); refine ends_by (fun xx hx => ?_))); have hc := trivial; (repeat' (simp only [hc, Nat.reduceBEq, go_sem, Nat.reduceAdd, Nat.reduceMul, Nat.reduceSub, Nat.reduceEqDiff, Nat.reduceLT, Nat.reduceLeDiff, Int.reduceEq, Int.reduceLT, Int.reduceLE, reduceIte, aresults, aresult, h6, h7, hz0, hwv, hp0, c_inoInt, aconv_int u97 u2] at hx; (try ((first | rw [guardL_if] at hx | rw [guardF_if] at hx); split at hx <;> rename_i hc)))); all_goals (subst hx; first | (refine ⟨_, rfl, fun ht => ?_, fun ht => ?_⟩ <;> (try simp only [Bool.not_eq_true', Bool.not_eq_false', Bool.and_eq_true, Bool.and_eq_false_iff, Bool.or_eq_true, Bool.or_eq_false_iff, decide_eq_true_eq, decide_eq_false_iff_not, beq_iff_eq, bne_iff_ne, Bool.not_true, Bool.not_false, Bool.true_eq_false, Bool.false_eq_true, ne_eq, Decidable.not_not, inB_t, inB_f] at ht) <;> (try (exfalso; omega))) | (refine ⟨_, rfl, ?_⟩; (try simp only [tupOf])))) | refine wSkip ?_ | (refine wExit ?_; simp only [thenQ, blockQ, reduceIte, Nat.reduceEqDiff]) | refine wSeq ?_ | refine wBlock ?_ | (subst hQQ; (try simp only [thenQ, blockQ, reduceIte, Nat.reduceEqDiff])))
        simp only [hv, if_true]
        exact ⟨rfl, rfl⟩
      · repeat' (first | ((first | refine wSeqr (fun xx hx => ?_) | refine wSeqrF (fun xx hx => ?_) | refine wIf (fun xx hx => ?_) | refine wReg (fun xx hx => ?_) | refine wRegF (fun xx hx => ?_) | (refine wRet ?_; (try simp only [thenQ, blockQ]); (try (subst hQQ; (try simp only [thenQ, blockQ]))); refine ends_by (fun xx hx => ?_))); have hc := trivial; (repeat' (simp only [hc, Nat.reduceBEq, go_sem, Nat.reduceAdd, Nat.reduceMul, Nat.reduceSub, Nat.reduceEqDiff, Nat.reduceLT, Nat.reduceLeDiff, Int.reduceEq, Int.reduceLT, Int.reduceLE, reduceIte, aresults, aresult, h6, h7, hz0, hp0, c_inoInt] at hx; (try ((first | rw [guardL_if] at hx | rw [guardF_if] at hx); split at hx <;> rename_i hc)))); all_goals (subst hx; first | (refine ⟨_, rfl, fun ht => ?_, fun ht => ?_⟩ <;> (try simp only [Bool.not_eq_true', Bool.not_eq_false', Bool.and_eq_true, Bool.and_eq_false_iff, Bool.or_eq_true, Bool.or_eq_false_iff, decide_eq_true_eq, decide_eq_false_iff_not, beq_iff_eq, bne_iff_ne, Bool.not_true, Bool.not_false, Bool.true_eq_false, Bool.false_eq_true, ne_eq, Decidable.not_not, inB_t, inB_f] at ht) <;> (try (exfalso; omega))) | (refine ⟨_, rfl, ?_⟩; (try simp only [tupOf])))) | refine wSkip ?_ | (refine wExit ?_; simp only [thenQ, blockQ, reduceIte, Nat.reduceEqDiff]) | refine wSeq ?_ | refine wBlock ?_ | (subst hQQ; (try simp only [thenQ, blockQ, reduceIte, Nat.reduceEqDiff])))
        simp only [hv, if_false]
        exact ⟨rfl, rfl⟩
  · refine ⟨0, by omega, rfl, rfl, rfl, rfl, rfl, ?_⟩; rfl
theorem c_iReadWord (l : List Int) (a m : Nat) (a' m' : Int) (ha' : a' = a) (hm' : m' = m) (hb : Eng.Bytes l) (hm1 : 1 ≤ m) (hm8 : m ≤ 8) (hl : l.length ≤ 1048576) (hab : a ≤ 1048576) : ∀ H, call Try.prog cfg0 0 75 [bytesL l, .v (.int .i64 a'), .v (.int .i64 m')] H = some (.agg [.v (.int .i64 (readWord l a m).1), .v (.int .i64 (readWord l a m).2)], H) :=
  call_fz Try.func75 rfl ok_iReadWord rfl (by simp only [fz_cons, fz_nil, go_sem, and_self]) (p_iReadWord l a m a' m' ha' hm' hb hm1 hm8 hl hab)

end
end Go.Proofs.Ytmpkcilehideiaa
