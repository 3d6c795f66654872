/- Contracts: copies and comparisons of bytes. Contracts: copies of bytes as own results. Contracts: views without a fault, records of a service, both sides. Contracts: the records of a service, both sides. Contracts: RecordsFor and SameRecords, both sides. Contracts: numbers in bytes. -/
import Derived.Test.YtnejoidfbgklbaaDoorDA
namespace Go.Proofs.YtnejoidfbgklbaaDoor
open Go Go.RowKit Go.Proofs.YtnejoidfbgklbaaDoor.Eng
set_option linter.unusedSimpArgs false
set_option linter.unusedVariables false
set_option maxRecDepth 100000
noncomputable section
theorem zeros_cell (n : Nat) : zeros n [cell 0] = (List.replicate n 0).map cell := by
  unfold zeros
  induction n with
  | zero => rfl
  | succ n ih => simp [List.replicate_succ, ih]
theorem take_set {l : List Int} {j : Nat} (h : j < l.length) : ((l.take j ++ List.replicate (l.length - j) 0).set j l[j]) = l.take (j + 1) ++ List.replicate (l.length - (j + 1)) 0 := by
  rw [List.set_append_right _ _ (by simp; omega)]
  obtain ⟨d, hd⟩ : ∃ d, l.length - j = d + 1 := ⟨l.length - j - 1, by omega⟩
  rw [hd, List.replicate_succ]
  simp only [List.length_take, Nat.min_eq_left (Nat.le_of_lt h), Nat.sub_self, List.set_cons_zero]
  rw [List.take_succ_eq_append_getElem h, List.append_assoc, show l.length - (j + 1) = d by omega]; rfl
theorem map_set_cell (l : List Int) (j : Nat) (z : Int) : (l.map cell).set j (cell z) = (l.set j z).map cell := by rw [List.map_set]
theorem get_byte {l : List Int} {j : Nat} (h : j < l.length) : (l.map fun z => [AV.v (.int .u8 z)])[j]? = some [.v (.int .u8 l[j])] := by simp [h]
end
end Go.Proofs.YtnejoidfbgklbaaDoor
namespace Go.Proofs.YtnejoidfbgklbaaDoor
open Go Go.RowKit Go.Proofs.YtnejoidfbgklbaaDoor.Eng
set_option linter.unusedSimpArgs false
set_option linter.unusedVariables false
set_option maxRecDepth 100000
noncomputable section
theorem gO_bytes {H : Hp} {b : Nat} {l : List Int} (hb : H.h b = some (l.map cell)) : GivesO (bytesL l) (.sl b 1 0 l.length) H := gF_O (gF_bytes (n := 10) hb rfl)
theorem gO_bytesR {H : Hp} {x : AV} {n : Nat} {l : List Int} (h : RAcc H x 1 (l.map cell) n) : GivesO (bytesL l) x H := by
  have hn : n = l.length := by have := h.1; simpa using this.symm
  subst hn
  rcases h.2 with ⟨h0, e⟩ | ⟨b, -, rfl, hb⟩
  · have e0 : l = [] := List.length_eq_zero_iff.1 h0
    subst e0
    rcases e with rfl | rfl
    · exact gF_O (gF_lstT 11 H)
    · exact gF_O (gF_nil 11 H)
  · exact gO_bytes hb
theorem ok_ltoByteS : fnOk Tryd.prog cfg0 6 Tryd.f6 = true := by kernel_rfl
theorem pq_ltoByteS (l : List Int) (hl : l.length ≤ 1048576) : pure Tryd.prog cfg0 6 Tryd.f6 [bytesL l] = some (bytesL l, true) ∧ owned Tryd.prog cfg0 6 Tryd.f6 [bytesL l] = some (bytesL l) := by
  refine both_wp (rs := [.tmp 2]) rfl rfl ?_
  have hp0 : ∀ b, cfg0.pol 6 b = 0 := fun b => rfl
  have hr := roomy_1 (n := l.length) (by omega)
  repeat' (first | ((first | refine wSeqr ?_ | refine wIf ?_ | refine wReg ?_ | (refine wRet ?_; (try simp only [thenQ, blockQ]); refine ends_by ?_)); intro xx hx; have hc := trivial; (repeat' (simp only [hc, Nat.reduceBEq, go_sem, Nat.reduceAdd, Nat.reduceMul, Nat.reduceSub, Nat.reduceEqDiff, Nat.reduceLT, Nat.reduceLeDiff, Int.reduceEq, Int.reduceLT, Int.reduceLE, reduceIte, aresults, aresult, hr] at hx; (try (rw [guardL_if] at hx; split at hx <;> rename_i hc)))); all_goals (subst hx; first | (refine ⟨_, rfl, fun ht => ?_, fun ht => ?_⟩ <;> (try simp only [bbs] at ht)) | (refine ⟨_, rfl, ?_⟩; (try simp only [tupOf])))) | refine wSkip ?_ | (refine wExit ?_; simp only [thenQ, blockQ, reduceIte, Nat.reduceEqDiff]) | refine wSeq ?_ | refine wBlock ?_)
  refine wLoop (fun k s => ∃ (j : Nat), j + k = l.length ∧ s.1 0 = bytesL l ∧ s.1 4 = .v (.int .i64 (j : Nat)) ∧ s.1 3 = .sl 0 1 0 l.length ∧ (s.2.h 0 = some ((l.take j ++ List.replicate (l.length - j) 0).map cell))) (fun k s hI => ?_) (l.length) _ ?_
  · obtain ⟨e, H⟩ := s
    obtain ⟨j, hj, h0, h4, h3, hh⟩ := hI
    simp only at h0 h4 h3 hh
    repeat' (first | ((first | refine wSeqr ?_ | refine wIf ?_ | refine wReg ?_ | (refine wRet ?_; (try simp only [thenQ, blockQ]); refine ends_by ?_)); intro xx hx; have hc := trivial; (repeat' (simp only [hc, Nat.reduceBEq, go_sem, Nat.reduceAdd, Nat.reduceMul, Nat.reduceSub, Nat.reduceEqDiff, Nat.reduceLT, Nat.reduceLeDiff, Int.reduceEq, Int.reduceLT, Int.reduceLE, reduceIte, aresults, aresult, h0, h4] at hx; (try (rw [guardL_if] at hx; split at hx <;> rename_i hc)))); all_goals (subst hx; first | (refine ⟨_, rfl, fun ht => ?_, fun ht => ?_⟩ <;> (try simp only [bbs] at ht)) | (refine ⟨_, rfl, ?_⟩; (try simp only [tupOf])))) | refine wSkip ?_ | (refine wExit ?_; simp only [thenQ, blockQ, reduceIte, Nat.reduceEqDiff]) | refine wSeq ?_ | refine wBlock ?_)
    · have hlt : j < l.length := by omega
      have hg := get_byte hlt
      have hlen : (List.map cell (l.take j ++ List.replicate (l.length - j) 0)).length = l.length := by simp; omega
      repeat' (first | ((first | refine wSeqr ?_ | refine wIf ?_ | refine wReg ?_ | (refine wRet ?_; (try simp only [thenQ, blockQ]); refine ends_by ?_)); intro xx hx; have hc := trivial; (repeat' (simp only [hc, Nat.reduceBEq, go_sem, Nat.reduceAdd, Nat.reduceMul, Nat.reduceSub, Nat.reduceEqDiff, Nat.reduceLT, Nat.reduceLeDiff, Int.reduceEq, Int.reduceLT, Int.reduceLE, reduceIte, aresults, aresult, h0, h3, h4, hg, hh, hlt, hlen, Option.isSome_some, bytesL, cell, show j + 1 ≤ l.length from hlt, wrap_succ (show j < 9223372036854775807 by omega)] at hx; (try (rw [guardL_if] at hx; split at hx <;> rename_i hc)))); all_goals (subst hx; first | (refine ⟨_, rfl, fun ht => ?_, fun ht => ?_⟩ <;> (try simp only [bbs] at ht)) | (refine ⟨_, rfl, ?_⟩; (try simp only [tupOf])))) | refine wSkip ?_ | (refine wExit ?_; simp only [thenQ, blockQ, reduceIte, Nat.reduceEqDiff]) | refine wSeq ?_ | refine wBlock ?_)
      refine ⟨_, Nat.sub_lt (by omega) Nat.one_pos, j + 1, by omega, by simp only [upd_eq, Nat.reduceEqDiff, if_false, if_true, h0, h4, h3], by simp only [upd_eq, Nat.reduceEqDiff, if_false, if_true, h0, h4, h3], by simp only [upd_eq, Nat.reduceEqDiff, if_false, if_true, h0, h4, h3], ?_⟩
      simp only [Hp.set_h, if_true, ← take_set hlt]
      exact congrArg some (map_set_cell _ _ _)
    · have hj' : j = l.length := by omega
      subst hj'
      rw [h3]
      have hh' : H.h 0 = some (l.map cell) := by rw [hh]; simp
      exact gO_bytes hh'
  · refine ⟨0, by omega, rfl, rfl, rfl, ?_⟩
    simp only [Hp.new_h, nil_g, if_true, Nat.sub_zero, List.take_zero, List.nil_append]
    exact congrArg some (zeros_cell _)
theorem c_ltoByteS (l : List Int) (hl : l.length ≤ 1048576) : ∀ H, call Tryd.prog cfg0 0 6 [bytesL l] H = some (bytesL l, H) :=
  call_fz Tryd.func6 rfl ok_ltoByteS rfl (by simp only [fz_cons, fz_nil, go_sem, and_self]) (pq_ltoByteS l hl).1
theorem o_ltoByteS (l : List Int) (hl : l.length ≤ 1048576) : ∀ H, call Tryd.prog cfg0 1 6 [bytesL l] H = mat depthD (bytesL l) H := fun H =>
  call_ofO Tryd.func6 rfl ok_ltoByteS rfl (mapM_self fun x hx => ((show ∀ x ∈ ([bytesL l] : List AV), Fz depthD x by simp only [fz_cons, fz_nil, go_sem, and_self]) x hx).1 H) (pq_ltoByteS l hl).2

end
end Go.Proofs.YtnejoidfbgklbaaDoor
namespace Go.Proofs.YtnejoidfbgklbaaDoor
open Go Go.RowKit Go.Proofs.YtnejoidfbgklbaaDoor.Eng
set_option linter.unusedSimpArgs false
set_option linter.unusedVariables false
set_option maxRecDepth 100000
set_option maxHeartbeats 1000000
noncomputable section
theorem ok_sl1In : fnOk Tryd.prog cfg0 46 Tryd.f46 = true := by kernel_rfl
theorem p_sl1In (a lo hi : Int) : pure Tryd.prog cfg0 46 Tryd.f46 [.v (.int .i64 a), .v (.int .i64 lo), .v (.int .i64 hi)] = some (.v (.bool (inB a lo hi)), true) := by
  refine pure_wp (rs := [.tmp 6]) rfl rfl ?_
  have hp0 : ∀ b, cfg0.pol 46 b = 0 := fun b => rfl
  repeat' (first | ((first | refine wSeqr ?_ | refine wIf ?_ | refine wReg ?_ | (refine wRet ?_; (try simp only [thenQ, blockQ]); refine ends_by ?_)); intro xx hx; have hc := trivial; (repeat' (simp only [hc, Nat.reduceBEq, go_sem, Nat.reduceAdd, Nat.reduceMul, Nat.reduceSub, Nat.reduceEqDiff, Nat.reduceLT, Nat.reduceLeDiff, Int.reduceEq, Int.reduceLT, Int.reduceLE, reduceIte, aresults, aresult] at hx; (try (rw [guardL_if] at hx; split at hx <;> rename_i hc)))); all_goals (subst hx; first | (refine ⟨_, rfl, fun ht => ?_, fun ht => ?_⟩ <;> (try simp only [bbs] at ht)) | (refine ⟨_, rfl, ?_⟩; (try simp only [tupOf])))) | refine wSkip ?_ | (refine wExit ?_; simp only [thenQ, blockQ, reduceIte, Nat.reduceEqDiff]) | refine wSeq ?_ | refine wBlock ?_)
  all_goals (refine gives_boolv ?_; simp [inB, *])
theorem c_sl1In (a lo hi : Int) : ∀ H, call Tryd.prog cfg0 0 46 [.v (.int .i64 a), .v (.int .i64 lo), .v (.int .i64 hi)] H = some (.v (.bool (inB a lo hi)), H) :=
  call_fz Tryd.func46 rfl ok_sl1In rfl (by simp only [fz_cons, fz_nil, go_sem, and_self]) (p_sl1In a lo hi)

theorem ok_iisNode : fnOk Tryd.prog cfg0 38 Tryd.f38 = true := by kernel_rfl
theorem p_iisNode (a : Int) : pure Tryd.prog cfg0 38 Tryd.f38 [.v (.int .i64 a)] = some (.v (.bool (inB a 0 3)), true) := by
  refine pure_wp (rs := [.tmp 2]) rfl rfl ?_
  have hp0 : ∀ b, cfg0.pol 38 b = 0 := fun b => rfl
  repeat' (first | ((first | refine wSeqr ?_ | refine wIf ?_ | refine wReg ?_ | (refine wRet ?_; (try simp only [thenQ, blockQ]); refine ends_by ?_)); intro xx hx; have hc := trivial; (repeat' (simp only [hc, Nat.reduceBEq, go_sem, Nat.reduceAdd, Nat.reduceMul, Nat.reduceSub, Nat.reduceEqDiff, Nat.reduceLT, Nat.reduceLeDiff, Int.reduceEq, Int.reduceLT, Int.reduceLE, reduceIte, aresults, aresult, hp0, c_iin] at hx; (try (rw [guardL_if] at hx; split at hx <;> rename_i hc)))); all_goals (subst hx; first | (refine ⟨_, rfl, fun ht => ?_, fun ht => ?_⟩ <;> (try simp only [bbs] at ht)) | (refine ⟨_, rfl, ?_⟩; (try simp only [tupOf])))) | refine wSkip ?_ | (refine wExit ?_; simp only [thenQ, blockQ, reduceIte, Nat.reduceEqDiff]) | refine wSeq ?_ | refine wBlock ?_)
  all_goals (refine gives_boolv ?_; simp_all [inB])
theorem c_iisNode (a : Int) : ∀ H, call Tryd.prog cfg0 0 38 [.v (.int .i64 a)] H = some (.v (.bool (inB a 0 3)), H) :=
  call_fz Tryd.func38 rfl ok_iisNode rfl (by simp only [fz_cons, fz_nil, go_sem, and_self]) (p_iisNode a)

end
end Go.Proofs.YtnejoidfbgklbaaDoor
namespace Go.Proofs.YtnejoidfbgklbaaDoor
open Go Go.RowKit Go.Proofs.YtnejoidfbgklbaaDoor.Eng
set_option linter.unusedSimpArgs false
set_option linter.unusedVariables false
set_option maxRecDepth 100000
set_option maxHeartbeats 1000000
noncomputable section
end
end Go.Proofs.YtnejoidfbgklbaaDoor
namespace Go.Proofs.YtnejoidfbgklbaaDoor
open Go Go.RowKit Go.Proofs.YtnejoidfbgklbaaDoor.Eng
set_option linter.unusedSimpArgs false
set_option linter.unusedVariables false
set_option maxRecDepth 100000
set_option maxHeartbeats 1000000
noncomputable section
def typB (k : Int) : Bool := decide (k = 1) || decide (k = 33)
theorem ok_iisType : fnOk Tryd.prog cfg0 65 Tryd.f65 = true := by kernel_rfl
theorem p_iisType (k : Int) : pure Tryd.prog cfg0 65 Tryd.f65 [.v (.int .i64 k)] = some (.v (.bool (typB k)), true) := by
  refine pure_wp (rs := [.tmp 2]) rfl rfl ?_
  have hp0 : ∀ b, cfg0.pol 65 b = 0 := fun b => rfl
  repeat' (first | ((first | refine wSeqr ?_ | refine wIf ?_ | refine wReg ?_ | (refine wRet ?_; (try simp only [thenQ, blockQ]); refine ends_by ?_)); intro xx hx; have hc := trivial; (repeat' (simp only [hc, Nat.reduceBEq, go_sem, Nat.reduceAdd, Nat.reduceMul, Nat.reduceSub, Nat.reduceEqDiff, Nat.reduceLT, Nat.reduceLeDiff, Int.reduceEq, Int.reduceLT, Int.reduceLE, reduceIte, aresults, aresult, hp0] at hx; (try (rw [guardL_if] at hx; split at hx <;> rename_i hc)))); all_goals (subst hx; first | (refine ⟨_, rfl, fun ht => ?_, fun ht => ?_⟩ <;> (try simp only [bbs] at ht)) | (refine ⟨_, rfl, ?_⟩; (try simp only [tupOf])))) | refine wSkip ?_ | (refine wExit ?_; simp only [thenQ, blockQ, reduceIte, Nat.reduceEqDiff]) | refine wSeq ?_ | refine wBlock ?_)
  all_goals (refine gives_boolv ?_; simp_all [typB])
theorem c_iisType (k : Int) : ∀ H, call Tryd.prog cfg0 0 65 [.v (.int .i64 k)] H = some (.v (.bool (typB k)), H) :=
  call_fz Tryd.func65 rfl ok_iisType rfl (by simp only [fz_cons, fz_nil, go_sem, and_self]) (p_iisType k)

end
end Go.Proofs.YtnejoidfbgklbaaDoor
namespace Go.Proofs.YtnejoidfbgklbaaDoor
open Go Go.RowKit Go.Proofs.YtnejoidfbgklbaaDoor.Eng
set_option linter.unusedSimpArgs false
set_option linter.unusedVariables false
set_option maxRecDepth 100000
noncomputable section
/-- The number that bytes are, the highest one first. -/
def rdN (l : List Int) : Int := l.foldl (fun n z => n * 256 + z) 0
theorem rdN_snoc (l : List Int) (z : Int) : rdN (l ++ [z]) = rdN l * 256 + z := by simp [rdN, List.foldl_append]
theorem rd_bound {l : List Int} (h : Eng.Bytes l) : ∀ j, j ≤ l.length → 0 ≤ rdN (l.take j) ∧ rdN (l.take j) < 256 ^ j := by
  intro j
  induction j with
  | zero => intro _; simp [rdN]
  | succ j ih =>
    intro hj
    obtain ⟨z, hz, -, hm⟩ := at_drop (show j < l.length by omega)
    have hzb := h z hm
    obtain ⟨h1, h2⟩ := ih (by omega)
    rw [at_take hz, rdN_snoc]
    have e : (256 : Int) ^ (j + 1) = 256 ^ j * 256 := Int.pow_succ 256 j
    rw [e]
    omega
theorem rd_step {l : List Int} (h : Eng.Bytes l) {j : Nat} {z : Int} (hz : l[j]? = some z) : rdN (l.take (j + 1)) = rdN (l.take j) * 256 + z ∧ rdN (l.take j) ≤ rdN (l.take (j + 1)) ∧ 0 ≤ z ∧ z ≤ 255 := by
  have hj := lt_of_get hz
  have hzb := h z (List.mem_of_getElem? hz)
  have hb := rd_bound h j (by omega)
  rw [at_take hz, rdN_snoc]
  omega
theorem rd_mono {l : List Int} (h : Eng.Bytes l) : ∀ d j, j + d ≤ l.length → rdN (l.take j) ≤ rdN (l.take (j + d)) := by
  intro d
  induction d with
  | zero => intro j _; exact Int.le_refl _
  | succ d ih =>
    intro j hj
    obtain ⟨z, hz, -, -⟩ := at_drop (show j + d < l.length by omega)
    exact Int.le_trans (ih j (by omega)) (by rw [← Nat.add_assoc]; exact (rd_step h hz).2.1)
theorem rd_le {l : List Int} (h : Eng.Bytes l) {j : Nat} (hj : j ≤ l.length) : rdN (l.take j) ≤ rdN l := by
  have := rd_mono h (l.length - j) j (by omega)
  rwa [show j + (l.length - j) = l.length by omega, List.take_length] at this
theorem rdN_pos {l : List Int} (h : Eng.Bytes l) : 0 ≤ rdN l := by
  have := rd_le h (Nat.zero_le _)
  simpa [rdN] using this
theorem bytes_sub {l : List Int} (h : Eng.Bytes l) (a s : Nat) : Eng.Bytes ((l.drop a).take s) := fun z hz => h z (List.mem_of_mem_drop (List.mem_of_mem_take hz))
theorem sub_at {l : List Int} {a s j : Nat} {z : Int} (hj : j < s) (h : ((l.drop a).take s)[j]? = some z) : l[a + j]? = some z := by
  rw [List.getElem?_take, if_pos hj, List.getElem?_drop] at h; exact h
theorem shl8 {n : Int} (h0 : 0 ≤ n) (h1 : n < 72057594037927936) : IntKind.wrap .u64 (n * 2 ^ min (Int.toNat 8) 64) = n * 256 := by
  have e : min (Int.toNat 8) 64 = 8 := by decide
  rw [e]
  simp [IntKind.wrap, IntKind.bits, IntKind.signed]; omega
theorem or8 {n z : Int} (h0 : 0 ≤ n) (h1 : n < 72057594037927936) (hz : 0 ≤ z ∧ z ≤ 255) : IntKind.wrap .u64 (((BitVec.ofInt 64 (n * 256) ||| BitVec.ofInt 64 z).toNat : Nat) : Int) = n * 256 + z := by
  obtain ⟨m, rfl⟩ : ∃ m : Nat, n = m := ⟨n.toNat, by omega⟩
  obtain ⟨k, rfl⟩ : ∃ k : Nat, z = k := ⟨z.toNat, by omega⟩
  have e1 : (BitVec.ofInt 64 ((m : Int) * 256)).toNat = m <<< 8 := by
    rw [show ((m : Int) * 256) = ((m * 256 : Nat) : Int) by omega, BitVec.ofInt_natCast, BitVec.toNat_ofNat, Nat.shiftLeft_eq]
    exact Nat.mod_eq_of_lt (by omega)
  have e2 : (BitVec.ofInt 64 (k : Int)).toNat = k := by
    rw [BitVec.ofInt_natCast, BitVec.toNat_ofNat]
    exact Nat.mod_eq_of_lt (by omega)
  rw [BitVec.toNat_or, e1, e2, ← Nat.shiftLeft_add_eq_or_of_lt (show k < 2 ^ 8 by omega) m, Nat.shiftLeft_eq]
  simp [IntKind.wrap, IntKind.bits, IntKind.signed]; omega
theorem ok_sl1Read : fnOk Tryd.prog cfg0 22 Tryd.f22 = true := by kernel_rfl
theorem p_sl1Read (l : List Int) (a m : Nat) (a' m' : Int) (ha' : a' = a) (hs' : m' = m) (hb : Eng.Bytes l) (has : a + m ≤ l.length) (hl : l.length ≤ 1048576) (hv : rdN ((l.drop a).take m) < 9223372036854775808) : pure Tryd.prog cfg0 22 Tryd.f22 [bytesL l, .v (.int .i64 a'), .v (.int .i64 m')] = some (.v (.int .i64 (rdN ((l.drop a).take m))), true) := by
  refine pure_wp (rs := [.tmp 6]) rfl rfl ?_
  have hp0 : ∀ b, cfg0.pol 22 b = 0 := fun b => rfl
  have hw := bytes_sub hb a m
  have hwl : ((l.drop a).take m).length = m := by simp; omega
  repeat' (first | ((first | refine wSeqr ?_ | refine wIf ?_ | refine wReg ?_ | (refine wRet ?_; (try simp only [thenQ, blockQ]); refine ends_by ?_)); intro xx hx; have hc := trivial; (repeat' (simp only [hc, Nat.reduceBEq, go_sem, Nat.reduceAdd, Nat.reduceMul, Nat.reduceSub, Nat.reduceEqDiff, Nat.reduceLT, Nat.reduceLeDiff, Int.reduceEq, Int.reduceLT, Int.reduceLE, reduceIte, aresults, aresult] at hx; (try (rw [guardL_if] at hx; split at hx <;> rename_i hc)))); all_goals (subst hx; first | (refine ⟨_, rfl, fun ht => ?_, fun ht => ?_⟩ <;> (try simp only [bbs] at ht)) | (refine ⟨_, rfl, ?_⟩; (try simp only [tupOf])))) | refine wSkip ?_ | (refine wExit ?_; simp only [thenQ, blockQ, reduceIte, Nat.reduceEqDiff]) | refine wSeq ?_ | refine wBlock ?_)
  refine wLoop (fun k s => ∃ (j : Nat), j + k = m ∧ s.1 0 = bytesL l ∧ s.1 1 = .v (.int .i64 a') ∧ s.1 2 = .v (.int .i64 m') ∧ s.1 7 = .v (.int .i64 (rdN (((l.drop a).take m).take j))) ∧ s.1 8 = .v (.int .i64 (j : Nat)) ∧ True) (fun k s hI => ?_) (m) _ ?_
  · obtain ⟨e, H⟩ := s
    obtain ⟨j, hj, h0, h1, h2, h7, h8, -⟩ := hI
    simp only at h0 h1 h2 h7 h8
    repeat' (first | ((first | refine wSeqr ?_ | refine wIf ?_ | refine wReg ?_ | (refine wRet ?_; (try simp only [thenQ, blockQ]); refine ends_by ?_)); intro xx hx; have hc := trivial; (repeat' (simp only [hc, Nat.reduceBEq, go_sem, Nat.reduceAdd, Nat.reduceMul, Nat.reduceSub, Nat.reduceEqDiff, Nat.reduceLT, Nat.reduceLeDiff, Int.reduceEq, Int.reduceLT, Int.reduceLE, reduceIte, aresults, aresult, h2, h8] at hx; (try (rw [guardL_if] at hx; split at hx <;> rename_i hc)))); all_goals (subst hx; first | (refine ⟨_, rfl, fun ht => ?_, fun ht => ?_⟩ <;> (try simp only [bbs] at ht)) | (refine ⟨_, rfl, ?_⟩; (try simp only [tupOf])))) | refine wSkip ?_ | (refine wExit ?_; simp only [thenQ, blockQ, reduceIte, Nat.reduceEqDiff]) | refine wSeq ?_ | refine wBlock ?_)
    · have hjs : j < m := by omega
      obtain ⟨z, hz, -, -⟩ := at_drop (l := (l.drop a).take m) (j := j) (by omega)
      obtain ⟨r1, r2, r3, r4⟩ := rd_step hw hz
      have hz3 := map_at (f := fun z => [AV.v (.int .u8 z)]) (sub_at hjs hz)
      have r5 := rd_le hw (j := j + 1) (by omega)
      have r6 := (rd_bound hw j (by omega)).1
      have w1 : IntKind.wrap .i64 (rdN (((l.drop a).take m).take j) * 256) = rdN (((l.drop a).take m).take j) * 256 := wrap_i64 (by omega) (by omega)
      have w2 : IntKind.wrap .i64 (rdN (((l.drop a).take m).take j) * 256 + z) = rdN (((l.drop a).take m).take (j + 1)) := by rw [r1]; exact wrap_i64 (by omega) (by omega)
      have w3 : IntKind.wrap .i64 z = z := wrap_i64 (by omega) (by omega)
      have w4 : IntKind.wrap .i64 (a' + (j : Int)) = ((a + j : Nat) : Int) := by rw [wrap_i64 (by omega) (by omega)]; omega
      repeat' (first | ((first | refine wSeqr ?_ | refine wIf ?_ | refine wReg ?_ | (refine wRet ?_; (try simp only [thenQ, blockQ]); refine ends_by ?_)); intro xx hx; have hc := trivial; (repeat' (simp only [hc, Nat.reduceBEq, go_sem, Nat.reduceAdd, Nat.reduceMul, Nat.reduceSub, Nat.reduceEqDiff, Nat.reduceLT, Nat.reduceLeDiff, Int.reduceEq, Int.reduceLT, Int.reduceLE, reduceIte, aresults, aresult, h0, h1, h7, h8, hz3, w1, w2, w3, w4, bytesL, cell, wrap_succ (show j < 9223372036854775807 by omega)] at hx; (try (rw [guardL_if] at hx; split at hx <;> rename_i hc)))); all_goals (subst hx; first | (refine ⟨_, rfl, fun ht => ?_, fun ht => ?_⟩ <;> (try simp only [bbs] at ht)) | (refine ⟨_, rfl, ?_⟩; (try simp only [tupOf])))) | refine wSkip ?_ | (refine wExit ?_; simp only [thenQ, blockQ, reduceIte, Nat.reduceEqDiff]) | refine wSeq ?_ | refine wBlock ?_)
      refine ⟨_, Nat.sub_lt (by omega) Nat.one_pos, j + 1, by omega, by simp only [upd_eq, Nat.reduceEqDiff, if_false, if_true, h0, h1, h2, h7, h8], by simp only [upd_eq, Nat.reduceEqDiff, if_false, if_true, h0, h1, h2, h7, h8], by simp only [upd_eq, Nat.reduceEqDiff, if_false, if_true, h0, h1, h2, h7, h8], by simp only [upd_eq, Nat.reduceEqDiff, if_false, if_true, h0, h1, h2, h7, h8], by simp only [upd_eq, Nat.reduceEqDiff, if_false, if_true, h0, h1, h2, h7, h8], trivial⟩
    · rw [h7, show j = m by omega, List.take_take, Nat.min_self]
      exact ⟨rfl, rfl⟩
  · refine ⟨0, by omega, rfl, rfl, rfl, rfl, rfl, trivial⟩
theorem c_sl1Read (l : List Int) (a m : Nat) (a' m' : Int) (ha' : a' = a) (hs' : m' = m) (hb : Eng.Bytes l) (has : a + m ≤ l.length) (hl : l.length ≤ 1048576) (hv : rdN ((l.drop a).take m) < 9223372036854775808) : ∀ H, call Tryd.prog cfg0 0 22 [bytesL l, .v (.int .i64 a'), .v (.int .i64 m')] H = some (.v (.int .i64 (rdN ((l.drop a).take m))), H) :=
  call_fz Tryd.func22 rfl ok_sl1Read rfl (by simp only [fz_cons, fz_nil, go_sem, and_self]) (p_sl1Read l a m a' m' ha' hs' hb has hl hv)

theorem aslice_bytes {P : Program} {H : Hp} {e : Env} {t el : TypeId} {l : List Int} {lo hi : Operand} {a b : Nat} (hu : P.underlying t = some (.slice el)) (hz : szOf P el = some 1) (ha : natOf (opd e lo) = some a) (hb : natOf (opd e hi) = some b) (h1 : a ≤ b) (h2 : b ≤ l.length) :
    aslice P H e t (bytesL l) (some lo) (some hi) none = some (bytesL ((l.drop a).take (b - a))) := by
  have h3 : (l.map fun z => [cell z]).all (fun c => decide (c.length = 1)) = true := by simp
  simp only [aslice, hu, bytesL, hz, Option.bind_some, bound, ha, hb, h3, List.length_map, h1, h2, and_self, if_true, Bool.false_and, List.map_drop, List.map_take]
def readWord (l : List Int) (a m : Nat) : Int × Int := if a + m ≤ l.length then (if rdN ((l.drop a).take m) < 9223372036854775808 then (0, rdN ((l.drop a).take m)) else (1, 0)) else (3, 0)
theorem ok_iReadWord : fnOk Tryd.prog cfg0 60 Tryd.f60 = true := by kernel_rfl
theorem p_iReadWord (l : List Int) (a m : Nat) (a' m' : Int) (ha' : a' = a) (hm' : m' = m) (hb : Eng.Bytes l) (hm1 : 1 ≤ m) (hm8 : m ≤ 8) (hl : l.length ≤ 1048576) (hab : a ≤ 1048576) : pure Tryd.prog cfg0 60 Tryd.f60 [bytesL l, .v (.int .i64 a'), .v (.int .i64 m')] = some (.agg [.v (.int .i64 (readWord l a m).1), .v (.int .i64 (readWord l a m).2)], true) := by
  refine pure_wp (rs := [.cell 6 90]) rfl rfl ?_
  have hp0 : ∀ b, cfg0.pol 60 b = 0 := fun b => rfl
  have hw := bytes_sub hb a m
  have hib : inB m' 1 8 = true := inB_t.2 (by omega)
  have hsub : IntKind.wrap .i64 ((l.length : Int) - a') = (l.length : Int) - a' := wrap_i64 (by omega) (by omega)
  by_cases has : a + m ≤ l.length
  rotate_left
  · have hr : readWord l a m = (3, 0) := by unfold readWord; rw [if_neg has]
    rw [hr]
    repeat' (first | ((first | refine wSeqr ?_ | refine wIf ?_ | refine wReg ?_ | (refine wRet ?_; (try simp only [thenQ, blockQ]); refine ends_by ?_)); intro xx hx; have hc := trivial; (repeat' (simp only [hc, Nat.reduceBEq, go_sem, Nat.reduceAdd, Nat.reduceMul, Nat.reduceSub, Nat.reduceEqDiff, Nat.reduceLT, Nat.reduceLeDiff, Int.reduceEq, Int.reduceLT, Int.reduceLE, reduceIte, aresults, aresult, hp0, c_iin, hib, Bool.not_true, hsub, c_inoInt] at hx; (try (rw [guardL_if] at hx; split at hx <;> rename_i hc)))); all_goals (subst hx; first | (refine ⟨_, rfl, fun ht => ?_, fun ht => ?_⟩ <;> (try simp only [bbs] at ht) <;> (try (exfalso; omega))) | (refine ⟨_, rfl, ?_⟩; (try simp only [tupOf])))) | refine wSkip ?_ | (refine wExit ?_; simp only [thenQ, blockQ, reduceIte, Nat.reduceEqDiff]) | refine wSeq ?_ | refine wBlock ?_)
    all_goals exact ⟨rfl, rfl⟩
  have hwl : ((l.drop a).take m).length = m := by simp; omega
  have hadd : IntKind.wrap .i64 (a' + m') = a' + m' := wrap_i64 (by omega) (by omega)
  have hr : readWord l a m = if rdN ((l.drop a).take m) < 9223372036854775808 then (0, rdN ((l.drop a).take m)) else (1, 0) := by unfold readWord; rw [if_pos has]
  rw [hr]
  have hna : natOf (.v (.int .i64 a')) = some a := by rw [ha']; exact natOf_nat _ _
  have hnb : natOf (.v (.int .i64 (a' + m'))) = some (a + m) := by rw [ha', hm', show (a : Int) + m = ((a + m : Nat) : Int) by omega]; exact natOf_nat _ _
  repeat' (first | ((first | refine wSeqr ?_ | refine wIf ?_ | refine wReg ?_ | (refine wRet ?_; (try simp only [thenQ, blockQ]); refine ends_by ?_)); intro xx hx; have hc := trivial; (repeat' (simp only [hc, Nat.reduceBEq, go_sem, Nat.reduceAdd, Nat.reduceMul, Nat.reduceSub, Nat.reduceEqDiff, Nat.reduceLT, Nat.reduceLeDiff, Int.reduceEq, Int.reduceLT, Int.reduceLE, reduceIte, aresults, aresult, hp0, c_iin, hib, Bool.not_true, hsub, c_inoInt] at hx; (try (rw [guardL_if] at hx; split at hx <;> rename_i hc)))); all_goals (subst hx; first | (refine ⟨_, rfl, fun ht => ?_, fun ht => ?_⟩ <;> (try simp only [bbs] at ht) <;> (try (exfalso; omega))) | (refine ⟨_, rfl, ?_⟩; (try simp only [tupOf])))) | refine wSkip ?_ | (refine wExit ?_; simp only [thenQ, blockQ, reduceIte, Nat.reduceEqDiff]) | refine wSeq ?_ | refine wBlock ?_)
  any_goals (exfalso; (try simp only [bbs] at *); omega; done)
  (first | refine wSeqr ?_ | refine wReg ?_); intro xx hx; have hc := trivial; (repeat' (simp only [hc, Nat.reduceBEq, go_sem, Nat.reduceAdd, Nat.reduceMul, Nat.reduceSub, Nat.reduceEqDiff, Nat.reduceLT, Nat.reduceLeDiff, Int.reduceEq, Int.reduceLT, Int.reduceLE, reduceIte, aresults, aresult, hadd] at hx; (try (rw [guardL_if] at hx; split at hx <;> rename_i hc)))); generalize hq : aslice Tryd.prog _ _ _ _ _ _ _ = q at hx
  have hq2 := hq.symm.trans (aslice_bytes (a := a) (b := a + m) u22 sz5 (by simp only [Nat.reduceBEq, go_sem, Nat.reduceAdd, Nat.reduceMul, Nat.reduceSub, Nat.reduceEqDiff, Nat.reduceLT, Nat.reduceLeDiff, Int.reduceEq, Int.reduceLT, Int.reduceLE, reduceIte, aresults, aresult, hna]) (by simp only [Nat.reduceBEq, go_sem, Nat.reduceAdd, Nat.reduceMul, Nat.reduceSub, Nat.reduceEqDiff, Nat.reduceLT, Nat.reduceLeDiff, Int.reduceEq, Int.reduceLT, Int.reduceLE, reduceIte, aresults, aresult, hnb]) (by omega) has)
  rw [show a + m - a = m by omega] at hq2
  subst hq2
  have hc := trivial; (repeat' (simp only [hc, Nat.reduceBEq, go_sem, Nat.reduceAdd, Nat.reduceMul, Nat.reduceSub, Nat.reduceEqDiff, Nat.reduceLT, Nat.reduceLeDiff, Int.reduceEq, Int.reduceLT, Int.reduceLE, reduceIte, aresults, aresult] at hx; (try (rw [guardL_if] at hx; split at hx <;> rename_i hc)))); all_goals (subst hx; refine ⟨_, rfl, ?_⟩)
  repeat' (first | ((first | refine wSeqr ?_ | refine wIf ?_ | refine wReg ?_ | (refine wRet ?_; (try simp only [thenQ, blockQ]); refine ends_by ?_)); intro xx hx; have hc := trivial; (repeat' (simp only [hc, Nat.reduceBEq, go_sem, Nat.reduceAdd, Nat.reduceMul, Nat.reduceSub, Nat.reduceEqDiff, Nat.reduceLT, Nat.reduceLeDiff, Int.reduceEq, Int.reduceLT, Int.reduceLE, reduceIte, aresults, aresult] at hx; (try (rw [guardL_if] at hx; split at hx <;> rename_i hc)))); all_goals (subst hx; first | (refine ⟨_, rfl, fun ht => ?_, fun ht => ?_⟩ <;> (try simp only [bbs] at ht)) | (refine ⟨_, rfl, ?_⟩; (try simp only [tupOf])))) | refine wSkip ?_ | (refine wExit ?_; simp only [thenQ, blockQ, reduceIte, Nat.reduceEqDiff]) | refine wSeq ?_ | refine wBlock ?_)
  refine wLoop (fun k s => ∃ (j : Nat), j + k = m ∧ s.1 6 = .ptr 0 0 ∧ s.1 7 = .v (.int .u64 (rdN (((l.drop a).take m).take j))) ∧ s.1 37 = bytesL ((l.drop a).take m) ∧ s.1 38 = .v (.int .i64 (((l.drop a).take m).length : Nat)) ∧ s.1 39 = .v (.int .i64 (j : Nat)) ∧ (s.2.h 0 = some [.v (.int .i64 0), .v (.int .i64 0)])) (fun k s hI => ?_) (m) _ ?_
  · obtain ⟨e, H⟩ := s
    obtain ⟨j, hj, h6, h7, h37, h38, h39, hz0⟩ := hI
    simp only at h6 h7 h37 h38 h39 hz0
    repeat' (first | ((first | refine wSeqr ?_ | refine wIf ?_ | refine wReg ?_ | (refine wRet ?_; (try simp only [thenQ, blockQ]); refine ends_by ?_)); intro xx hx; have hc := trivial; (repeat' (simp only [hc, Nat.reduceBEq, go_sem, Nat.reduceAdd, Nat.reduceMul, Nat.reduceSub, Nat.reduceEqDiff, Nat.reduceLT, Nat.reduceLeDiff, Int.reduceEq, Int.reduceLT, Int.reduceLE, reduceIte, aresults, aresult, h37, h38, h39] at hx; (try (rw [guardL_if] at hx; split at hx <;> rename_i hc)))); all_goals (subst hx; first | (refine ⟨_, rfl, fun ht => ?_, fun ht => ?_⟩ <;> (try simp only [bbs] at ht)) | (refine ⟨_, rfl, ?_⟩; (try simp only [tupOf])))) | refine wSkip ?_ | (refine wExit ?_; simp only [thenQ, blockQ, reduceIte, Nat.reduceEqDiff]) | refine wSeq ?_ | refine wBlock ?_)
    · have hjs : j < m := by omega
      obtain ⟨z, hz, -, -⟩ := at_drop (l := (l.drop a).take m) (j := j) (by omega)
      obtain ⟨r1, r2, r3, r4⟩ := rd_step hw hz
      have hz3 := map_at (f := fun z => [AV.v (.int .u8 z)]) hz
      have r6 := rd_bound hw j (by omega)
      have hp : (256 : Int) ^ j ≤ 72057594037927936 := by
        have h7 : j ≤ 7 := by omega
        match j, h7 with
        | 0, _ => decide
        | 1, _ => decide
        | 2, _ => decide
        | 3, _ => decide
        | 4, _ => decide
        | 5, _ => decide
        | 6, _ => decide
        | 7, _ => decide
      have w1 := shl8 r6.1 (by omega)
      have w2 := or8 r6.1 (by omega) ⟨r3, r4⟩
      rw [← r1] at w2
      have w3 : IntKind.wrap .u64 z = z := by simp [IntKind.wrap, IntKind.bits, IntKind.signed]; omega
      repeat' (first | ((first | refine wSeqr ?_ | refine wIf ?_ | refine wReg ?_ | (refine wRet ?_; (try simp only [thenQ, blockQ]); refine ends_by ?_)); intro xx hx; have hc := trivial; (repeat' (simp only [hc, Nat.reduceBEq, go_sem, Nat.reduceAdd, Nat.reduceMul, Nat.reduceSub, Nat.reduceEqDiff, Nat.reduceLT, Nat.reduceLeDiff, Int.reduceEq, Int.reduceLT, Int.reduceLE, reduceIte, aresults, aresult, h6, h7, h37, h39, hz3, w1, w3, bytesL, cell, wrap_succ (show j < 9223372036854775807 by omega)] at hx; (try (rw [guardL_if] at hx; split at hx <;> rename_i hc)))); all_goals (subst hx; first | (refine ⟨_, rfl, fun ht => ?_, fun ht => ?_⟩ <;> (try simp only [bbs] at ht)) | (refine ⟨_, rfl, ?_⟩; (try simp only [tupOf])))) | refine wSkip ?_ | (refine wExit ?_; simp only [thenQ, blockQ, reduceIte, Nat.reduceEqDiff]) | refine wSeq ?_ | refine wBlock ?_)
      refine ⟨_, Nat.sub_lt (by omega) Nat.one_pos, j + 1, by omega, by simp only [upd_eq, Nat.reduceEqDiff, if_false, h6], ?_, by simp only [upd_eq, Nat.reduceEqDiff, if_false, h37], by simp only [upd_eq, Nat.reduceEqDiff, if_false, h38], by simp only [upd_eq, Nat.reduceEqDiff, if_true, h39], hz0⟩
      simp only [upd_eq, Nat.reduceEqDiff, if_true, if_false]
      exact congrArg (fun z => AV.v (Value.int .u64 z)) w2
    · rw [show j = m by omega, List.take_take, Nat.min_self] at h7
      by_cases hv : rdN ((l.drop a).take m) < 9223372036854775808
      · have hwv : IntKind.wrap .i64 (rdN ((l.drop a).take m)) = rdN ((l.drop a).take m) := wrap_i64 (by have := rdN_pos hw; omega) (by omega)
        repeat' (first | ((first | refine wSeqr ?_ | refine wIf ?_ | refine wReg ?_ | (refine wRet ?_; (try simp only [thenQ, blockQ]); refine ends_by ?_)); intro xx hx; have hc := trivial; (repeat' (simp only [hc, Nat.reduceBEq, go_sem, Nat.reduceAdd, Nat.reduceMul, Nat.reduceSub, Nat.reduceEqDiff, Nat.reduceLT, Nat.reduceLeDiff, Int.reduceEq, Int.reduceLT, Int.reduceLE, reduceIte, aresults, aresult, h6, h7, hz0, hwv, hp0, c_inoInt, aconv_int u121 u2] at hx; (try (rw [guardL_if] at hx; split at hx <;> rename_i hc)))); all_goals (subst hx; first | (refine ⟨_, rfl, fun ht => ?_, fun ht => ?_⟩ <;> (try simp only [bbs] at ht) <;> (try (exfalso; omega))) | (refine ⟨_, rfl, ?_⟩; (try simp only [tupOf])))) | refine wSkip ?_ | (refine wExit ?_; simp only [thenQ, blockQ, reduceIte, Nat.reduceEqDiff]) | refine wSeq ?_ | refine wBlock ?_)
        simp only [hv, if_true]
        exact ⟨rfl, rfl⟩
      · repeat' (first | ((first | refine wSeqr ?_ | refine wIf ?_ | refine wReg ?_ | (refine wRet ?_; (try simp only [thenQ, blockQ]); refine ends_by ?_)); intro xx hx; have hc := trivial; (repeat' (simp only [hc, Nat.reduceBEq, go_sem, Nat.reduceAdd, Nat.reduceMul, Nat.reduceSub, Nat.reduceEqDiff, Nat.reduceLT, Nat.reduceLeDiff, Int.reduceEq, Int.reduceLT, Int.reduceLE, reduceIte, aresults, aresult, h6, h7, hz0, hp0, c_inoInt] at hx; (try (rw [guardL_if] at hx; split at hx <;> rename_i hc)))); all_goals (subst hx; first | (refine ⟨_, rfl, fun ht => ?_, fun ht => ?_⟩ <;> (try simp only [bbs] at ht) <;> (try (exfalso; omega))) | (refine ⟨_, rfl, ?_⟩; (try simp only [tupOf])))) | refine wSkip ?_ | (refine wExit ?_; simp only [thenQ, blockQ, reduceIte, Nat.reduceEqDiff]) | refine wSeq ?_ | refine wBlock ?_)
        simp only [hv, if_false]
        exact ⟨rfl, rfl⟩
  · refine ⟨0, by omega, rfl, rfl, rfl, rfl, rfl, ?_⟩; rfl
theorem c_iReadWord (l : List Int) (a m : Nat) (a' m' : Int) (ha' : a' = a) (hm' : m' = m) (hb : Eng.Bytes l) (hm1 : 1 ≤ m) (hm8 : m ≤ 8) (hl : l.length ≤ 1048576) (hab : a ≤ 1048576) : ∀ H, call Tryd.prog cfg0 0 60 [bytesL l, .v (.int .i64 a'), .v (.int .i64 m')] H = some (.agg [.v (.int .i64 (readWord l a m).1), .v (.int .i64 (readWord l a m).2)], H) :=
  call_fz Tryd.func60 rfl ok_iReadWord rfl (by simp only [fz_cons, fz_nil, go_sem, and_self]) (p_iReadWord l a m a' m' ha' hm' hb hm1 hm8 hl hab)

end
end Go.Proofs.YtnejoidfbgklbaaDoor
