/- Contracts: copies and comparisons of bytes. Contracts: copies of bytes as own results. Contracts: ranges, keys. Contracts: small functions of events. -/
import Derived.Test.YtakbbccdnkigpaaGreatDoorWA
namespace Go.Proofs.YtakbbccdnkigpaaGreatDoor
open Go Go.RowKit Go.Proofs.YtakbbccdnkigpaaGreatDoor.Eng
set_option linter.unusedSimpArgs false
set_option linter.unusedVariables false
set_option maxRecDepth 100000
noncomputable section
theorem zeros_cell (n : Nat) : zeros n [cell 0] = (List.replicate n 0).map cell := by
  unfold zeros
  induction n with
  | zero => rfl
  | succ n ih => simp [List.replicate_succ, ih]
end
end Go.Proofs.YtakbbccdnkigpaaGreatDoor
namespace Go.Proofs.YtakbbccdnkigpaaGreatDoor
open Go Go.RowKit Go.Proofs.YtakbbccdnkigpaaGreatDoor.Eng
set_option linter.unusedSimpArgs false
set_option linter.unusedVariables false
set_option maxRecDepth 100000
noncomputable section
theorem gO_bytes {H : Hp} {b : Nat} {l : List Int} (hb : H.h b = some (l.map cell)) : GivesO (bytesL l) (.sl b 1 0 l.length) H := gF_O (gF_bytes (n := 10) hb rfl)
theorem gO_bytesR {H : Hp} {x : AV} {n : Nat} {l : List Int} (h : RAcc H x 1 (l.map cell) n) : GivesO (bytesL l) x H := by
  have hn : n = l.length := by have := h.1; simpa using this.symm
  subst hn
  rcases h.2 with ⟨h0, e⟩ | ⟨b, -, rfl, hb⟩
  · have e0 : l = [] := List.length_eq_zero_iff.1 h0
    subst e0
    rcases e with rfl | rfl
    · exact gF_O (gF_lstT 11 H)
    · exact gF_O (gF_nil 11 H)
  · exact gO_bytes hb
-- not here: laws_toByteS
end
end Go.Proofs.YtakbbccdnkigpaaGreatDoor
namespace Go.Proofs.YtakbbccdnkigpaaGreatDoor
open Go Go.RowKit Go.Proofs.YtakbbccdnkigpaaGreatDoor.Eng
set_option linter.unusedSimpArgs false
set_option linter.unusedVariables false
set_option maxRecDepth 100000
noncomputable section
theorem ok_sl1In : fnOk Tryz.prog cfg0 65 Tryz.f65 = true := by kernel_rfl
theorem p_sl1In (a lo hi : Int) : pure Tryz.prog cfg0 65 Tryz.f65 [.v (.int .i64 a), .v (.int .i64 lo), .v (.int .i64 hi)] = some (.v (.bool (inB a lo hi)), true) := by
  refine pure_wp (rs := [.tmp 6]) rfl rfl ?_
  have hp0 : ∀ b, cfg0.pol 65 b = 0 := fun b => rfl
  repeat' (first | ((first | refine wSeqr ?_ | refine wIf ?_ | refine wReg ?_ | (refine wRet ?_; (try simp only [thenQ, blockQ]); refine ends_by ?_)); intro xx hx; have hc := trivial; (repeat' (simp only [hc, Nat.reduceBEq, go_sem, Nat.reduceAdd, Nat.reduceMul, Nat.reduceSub, Nat.reduceEqDiff, Nat.reduceLT, Nat.reduceLeDiff, Int.reduceEq, Int.reduceLT, Int.reduceLE, reduceIte, aresults, aresult] at hx; (try (rw [guardL_if] at hx; split at hx <;> rename_i hc)))); all_goals (subst hx; first | (refine ⟨_, rfl, fun ht => ?_, fun ht => ?_⟩ <;> (try simp only [bbs] at ht)) | (refine ⟨_, rfl, ?_⟩; (try simp only [tupOf])))) | refine wSkip ?_ | (refine wExit ?_; simp only [thenQ, blockQ, reduceIte, Nat.reduceEqDiff]) | refine wSeq ?_ | refine wBlock ?_)
  all_goals (refine gives_boolv ?_; simp [inB, *])
theorem c_sl1In (a lo hi : Int) : ∀ H, call Tryz.prog cfg0 0 65 [.v (.int .i64 a), .v (.int .i64 lo), .v (.int .i64 hi)] H = some (.v (.bool (inB a lo hi)), H) :=
  call_fz Tryz.func65 rfl ok_sl1In rfl (by simp only [fz_cons, fz_nil, go_sem, and_self]) (p_sl1In a lo hi)

theorem ok_iin : fnOk Tryz.prog cfg0 63 Tryz.f63 = true := by kernel_rfl
theorem p_iin (a lo hi : Int) : pure Tryz.prog cfg0 63 Tryz.f63 [.v (.int .i64 a), .v (.int .i64 lo), .v (.int .i64 hi)] = some (.v (.bool (inB a lo hi)), true) := by
  refine pure_wp (rs := [.tmp 6]) rfl rfl ?_
  have hp0 : ∀ b, cfg0.pol 63 b = 0 := fun b => rfl
  repeat' (first | ((first | refine wSeqr ?_ | refine wIf ?_ | refine wReg ?_ | (refine wRet ?_; (try simp only [thenQ, blockQ]); refine ends_by ?_)); intro xx hx; have hc := trivial; (repeat' (simp only [hc, Nat.reduceBEq, go_sem, Nat.reduceAdd, Nat.reduceMul, Nat.reduceSub, Nat.reduceEqDiff, Nat.reduceLT, Nat.reduceLeDiff, Int.reduceEq, Int.reduceLT, Int.reduceLE, reduceIte, aresults, aresult] at hx; (try (rw [guardL_if] at hx; split at hx <;> rename_i hc)))); all_goals (subst hx; first | (refine ⟨_, rfl, fun ht => ?_, fun ht => ?_⟩ <;> (try simp only [bbs] at ht)) | (refine ⟨_, rfl, ?_⟩; (try simp only [tupOf])))) | refine wSkip ?_ | (refine wExit ?_; simp only [thenQ, blockQ, reduceIte, Nat.reduceEqDiff]) | refine wSeq ?_ | refine wBlock ?_)
  all_goals (refine gives_boolv ?_; simp [inB, *])
theorem c_iin (a lo hi : Int) : ∀ H, call Tryz.prog cfg0 0 63 [.v (.int .i64 a), .v (.int .i64 lo), .v (.int .i64 hi)] H = some (.v (.bool (inB a lo hi)), H) :=
  call_fz Tryz.func63 rfl ok_iin rfl (by simp only [fz_cons, fz_nil, go_sem, and_self]) (p_iin a lo hi)

theorem ok_iisKeyId : fnOk Tryz.prog cfg0 92 Tryz.f92 = true := by kernel_rfl
theorem p_iisKeyId (a : Int) : pure Tryz.prog cfg0 92 Tryz.f92 [.v (.int .i64 a)] = some (.v (.bool (inB a 1 255)), true) := by
  refine pure_wp (rs := [.tmp 2]) rfl rfl ?_
  have hp0 : ∀ b, cfg0.pol 92 b = 0 := fun b => rfl
  repeat' (first | ((first | refine wSeqr ?_ | refine wIf ?_ | refine wReg ?_ | (refine wRet ?_; (try simp only [thenQ, blockQ]); refine ends_by ?_)); intro xx hx; have hc := trivial; (repeat' (simp only [hc, Nat.reduceBEq, go_sem, Nat.reduceAdd, Nat.reduceMul, Nat.reduceSub, Nat.reduceEqDiff, Nat.reduceLT, Nat.reduceLeDiff, Int.reduceEq, Int.reduceLT, Int.reduceLE, reduceIte, aresults, aresult, hp0, c_iin] at hx; (try (rw [guardL_if] at hx; split at hx <;> rename_i hc)))); all_goals (subst hx; first | (refine ⟨_, rfl, fun ht => ?_, fun ht => ?_⟩ <;> (try simp only [bbs] at ht)) | (refine ⟨_, rfl, ?_⟩; (try simp only [tupOf])))) | refine wSkip ?_ | (refine wExit ?_; simp only [thenQ, blockQ, reduceIte, Nat.reduceEqDiff]) | refine wSeq ?_ | refine wBlock ?_)
  exact ⟨rfl, rfl⟩
theorem c_iisKeyId (a : Int) : ∀ H, call Tryz.prog cfg0 0 92 [.v (.int .i64 a)] H = some (.v (.bool (inB a 1 255)), H) :=
  call_fz Tryz.func92 rfl ok_iisKeyId rfl (by simp only [fz_cons, fz_nil, go_sem, and_self]) (p_iisKeyId a)

end
end Go.Proofs.YtakbbccdnkigpaaGreatDoor
namespace Go.Proofs.YtakbbccdnkigpaaGreatDoor
open Go Go.RowKit Go.Proofs.YtakbbccdnkigpaaGreatDoor.Eng
set_option linter.unusedSimpArgs false
set_option linter.unusedVariables false
set_option maxRecDepth 100000
noncomputable section
theorem ok_iisNode : fnOk Tryz.prog cfg0 62 Tryz.f62 = true := by kernel_rfl
theorem p_iisNode (a : Int) : pure Tryz.prog cfg0 62 Tryz.f62 [.v (.int .i64 a)] = some (.v (.bool (inB a 0 3)), true) := by
  refine pure_wp (rs := [.tmp 2]) rfl rfl ?_
  have hp0 : ∀ b, cfg0.pol 62 b = 0 := fun b => rfl
  repeat' (first | ((first | refine wSeqr ?_ | refine wIf ?_ | refine wReg ?_ | (refine wRet ?_; (try simp only [thenQ, blockQ]); refine ends_by ?_)); intro xx hx; have hc := trivial; (repeat' (simp only [hc, Nat.reduceBEq, go_sem, Nat.reduceAdd, Nat.reduceMul, Nat.reduceSub, Nat.reduceEqDiff, Nat.reduceLT, Nat.reduceLeDiff, Int.reduceEq, Int.reduceLT, Int.reduceLE, reduceIte, aresults, aresult, hp0, c_iin] at hx; (try (rw [guardL_if] at hx; split at hx <;> rename_i hc)))); all_goals (subst hx; first | (refine ⟨_, rfl, fun ht => ?_, fun ht => ?_⟩ <;> (try simp only [bbs] at ht)) | (refine ⟨_, rfl, ?_⟩; (try simp only [tupOf])))) | refine wSkip ?_ | (refine wExit ?_; simp only [thenQ, blockQ, reduceIte, Nat.reduceEqDiff]) | refine wSeq ?_ | refine wBlock ?_)
  all_goals (refine gives_boolv ?_; simp_all [inB])
theorem c_iisNode (a : Int) : ∀ H, call Tryz.prog cfg0 0 62 [.v (.int .i64 a)] H = some (.v (.bool (inB a 0 3)), H) :=
  call_fz Tryz.func62 rfl ok_iisNode rfl (by simp only [fz_cons, fz_nil, go_sem, and_self]) (p_iisNode a)

def zeroKey (k : KeyM) : Bool := decide (k.Id = 0) && decide (k.Bytes.length = 0)
theorem ok_iisZeroKey : fnOk Tryz.prog cfg0 61 Tryz.f61 = true := by kernel_rfl
theorem p_iisZeroKey (k : KeyM) : pure Tryz.prog cfg0 61 Tryz.f61 [.agg [.v (.int .i64 k.Id), bytesL k.Bytes]] = some (.v (.bool (zeroKey k)), true) := by
  refine pure_wp (rs := [.tmp 2]) rfl rfl ?_
  have hp0 : ∀ b, cfg0.pol 61 b = 0 := fun b => rfl
  repeat' (first | ((first | refine wSeqr ?_ | refine wIf ?_ | refine wReg ?_ | (refine wRet ?_; (try simp only [thenQ, blockQ]); refine ends_by ?_)); intro xx hx; have hc := trivial; (repeat' (simp only [hc, Nat.reduceBEq, go_sem, Nat.reduceAdd, Nat.reduceMul, Nat.reduceSub, Nat.reduceEqDiff, Nat.reduceLT, Nat.reduceLeDiff, Int.reduceEq, Int.reduceLT, Int.reduceLE, reduceIte, aresults, aresult, hp0] at hx; (try (rw [guardL_if] at hx; split at hx <;> rename_i hc)))); all_goals (subst hx; first | (refine ⟨_, rfl, fun ht => ?_, fun ht => ?_⟩ <;> (try simp only [bbs] at ht)) | (refine ⟨_, rfl, ?_⟩; (try simp only [tupOf])))) | refine wSkip ?_ | (refine wExit ?_; simp only [thenQ, blockQ, reduceIte, Nat.reduceEqDiff]) | refine wSeq ?_ | refine wBlock ?_)
  all_goals (refine gives_boolv ?_; unfold zeroKey; simp_all)
theorem c_iisZeroKey (k : KeyM) : ∀ H, call Tryz.prog cfg0 0 61 [.agg [.v (.int .i64 k.Id), bytesL k.Bytes]] H = some (.v (.bool (zeroKey k)), H) :=
  call_fz Tryz.func61 rfl ok_iisZeroKey rfl (by simp only [fz_cons, fz_nil, go_sem, and_self]) (p_iisZeroKey k)

def needsB (a : Int) : ByteArray := if a = 1 ∨ a = 8 then ⟨#[78]⟩ else if a = 2 ∨ a = 3 ∨ a = 4 then ⟨#[65]⟩ else if a = 5 then ⟨#[65, 68, 77]⟩ else if a = 6 then ⟨#[78, 68]⟩ else if a = 7 then ⟨#[78, 75]⟩ else ⟨#[]⟩
theorem ok_ineeds : fnOk Tryz.prog cfg0 58 Tryz.f58 = true := by kernel_rfl
theorem p_ineeds (a : Int) : pure Tryz.prog cfg0 58 Tryz.f58 [.v (.int .i64 a)] = some (.v (.string (needsB a)), true) := by
  refine pure_wp (rs := [.tmp 2]) rfl rfl ?_
  have hp0 : ∀ b, cfg0.pol 58 b = 0 := fun b => rfl
  repeat' (first | ((first | refine wSeqr ?_ | refine wIf ?_ | refine wReg ?_ | (refine wRet ?_; (try simp only [thenQ, blockQ]); refine ends_by ?_)); intro xx hx; have hc := trivial; (repeat' (simp only [hc, Nat.reduceBEq, go_sem, Nat.reduceAdd, Nat.reduceMul, Nat.reduceSub, Nat.reduceEqDiff, Nat.reduceLT, Nat.reduceLeDiff, Int.reduceEq, Int.reduceLT, Int.reduceLE, reduceIte, aresults, aresult, hp0] at hx; (try (rw [guardL_if] at hx; split at hx <;> rename_i hc)))); all_goals (subst hx; first | (refine ⟨_, rfl, fun ht => ?_, fun ht => ?_⟩ <;> (try simp only [bbs] at ht)) | (refine ⟨_, rfl, ?_⟩; (try simp only [tupOf])))) | refine wSkip ?_ | (refine wExit ?_; simp only [thenQ, blockQ, reduceIte, Nat.reduceEqDiff]) | refine wSeq ?_ | refine wBlock ?_)
  all_goals (refine ⟨?_, rfl⟩; simp_all [needsB] <;> rfl)
theorem c_ineeds (a : Int) : ∀ H, call Tryz.prog cfg0 0 58 [.v (.int .i64 a)] H = some (.v (.string (needsB a)), H) :=
  call_fz Tryz.func58 rfl ok_ineeds rfl (by simp only [fz_cons, fz_nil, go_sem, and_self]) (p_ineeds a)

end
end Go.Proofs.YtakbbccdnkigpaaGreatDoor
