/- What becomes of results, which functions work on their caller's blocks, and the laws from elsewhere. -/
import Derived.Test.YtmncdkecpnoogaaM
import Derived.Test.YtmncdkecpnoogaaE29
import Derived.Shelf.Bytes.IndexByte
import Derived.Test.YtmncdkecpnoogaaSh
namespace Go.Proofs.Ytmncdkecpnoogaa
open Go Go.RowKit Go.Proofs.Ytmncdkecpnoogaa.Eng Go.Shelf
set_option linter.unusedSimpArgs false
set_option linter.unusedVariables false
set_option maxRecDepth 100000
noncomputable section
def raw0 (f : Nat) : Bool := f == 18 || f == 66 || f == 19 || f == 54
def own0 (f : Nat) : Bool := f == 106
def pol0 (f b : Nat) : Nat := 0
def cfgE : Cfg := ⟨fun _ _ => 0, raw0, fun _ => none, fun _ => false, fun _ => false⟩
def cfg0 : Cfg := ⟨pol0, raw0, fun f => if f = 106 then some (cloneG 1048576) else if f = 58 then some indexG else none, fun _ => false, own0⟩
theorem okE_Clone : fnOk Try.prog cfgE 106 Try.f106 = true := by kernel_rfl
theorem clone_1 (c : Nat) : pure Try.prog cfgE 106 Try.f106 [.v (.slice none 0 c)] = some (.lst false [], true) := by
  refine pure_wp (rs := [.tmp 2]) rfl rfl ?_
  repeat' (first | ((first | refine wSeqr (fun xx hx => ?_) | refine wIf (fun xx hx => ?_) | refine wReg (fun xx hx => ?_) | (refine wRet ?_; (try simp only [thenQ, blockQ]); refine ends_by (fun xx hx => ?_))); have hc := trivial; (repeat' (simp only [hc, go_sem, Nat.reduceAdd, Nat.reduceMul, Nat.reduceSub, Nat.reduceEqDiff, Nat.reduceLT, Nat.reduceLeDiff, Int.reduceEq, Int.reduceLT, Int.reduceLE, reduceIte, aresults, aresult] at hx; (try (rw [guardL_if] at hx; split at hx <;> rename_i hc)))); all_goals (subst hx; first | (refine ⟨_, rfl, fun ht => ?_, fun ht => ?_⟩ <;> (try simp only [Bool.not_eq_true', Bool.not_eq_false', Bool.and_eq_true, Bool.and_eq_false_iff, Bool.or_eq_true, Bool.or_eq_false_iff, decide_eq_true_eq, decide_eq_false_iff_not, beq_iff_eq, bne_iff_ne, Bool.not_true, Bool.not_false, Bool.true_eq_false, Bool.false_eq_true, ne_eq, Decidable.not_not, inB_t, inB_f] at ht)) | (refine ⟨_, rfl, ?_⟩; (try simp only [tupOf])))) | refine wSkip ?_ | (refine wExit ?_; simp only [thenQ, blockQ, reduceIte, Nat.reduceEqDiff]) | refine wSeq ?_ | refine wBlock ?_)
  all_goals first | exact ⟨rfl, rfl⟩ | (exfalso; simp at *; done)
theorem clone_2 (a : Addr) (c : Nat) : pure Try.prog cfgE 106 Try.f106 [.v (.slice (some a) 0 c)] = some (.lst false [], true) := by
  refine pure_wp (rs := [.tmp 2]) rfl rfl ?_
  have hpE : ∀ a b, cfgE.pol a b = 0 := fun _ _ => rfl
  repeat' (first | ((first | refine wSeqr (fun xx hx => ?_) | refine wIf (fun xx hx => ?_) | refine wReg (fun xx hx => ?_) | (refine wRet ?_; (try simp only [thenQ, blockQ]); refine ends_by (fun xx hx => ?_))); have hc := trivial; (repeat' (simp only [hc, go_sem, Nat.reduceAdd, Nat.reduceMul, Nat.reduceSub, Nat.reduceEqDiff, Nat.reduceLT, Nat.reduceLeDiff, Int.reduceEq, Int.reduceLT, Int.reduceLE, reduceIte, aresults, aresult, hpE] at hx; (try (rw [guardL_if] at hx; split at hx <;> rename_i hc)))); all_goals (subst hx; first | (refine ⟨_, rfl, fun ht => ?_, fun ht => ?_⟩ <;> (try simp only [Bool.not_eq_true', Bool.not_eq_false', Bool.and_eq_true, Bool.and_eq_false_iff, Bool.or_eq_true, Bool.or_eq_false_iff, decide_eq_true_eq, decide_eq_false_iff_not, beq_iff_eq, bne_iff_ne, Bool.not_true, Bool.not_false, Bool.true_eq_false, Bool.false_eq_true, ne_eq, Decidable.not_not, inB_t, inB_f] at ht)) | (refine ⟨_, rfl, ?_⟩; (try simp only [tupOf])))) | refine wSkip ?_ | (refine wExit ?_; simp only [thenQ, blockQ, reduceIte, Nat.reduceEqDiff]) | refine wSeq ?_ | refine wBlock ?_)
  all_goals exact ⟨rfl, rfl⟩
theorem clone_3 (l : List Int) (hne : l ≠ []) (hl : l.length ≤ 1048576) : pure Try.prog cfgE 106 Try.f106 [bytesL l] = some (bytesL l, true) := by
  refine pure_wp (rs := [.tmp 2]) rfl rfl ?_
  have hpE : ∀ a b, cfgE.pol a b = 0 := fun _ _ => rfl
  cases l with
  | nil => exact absurd rfl hne
  | cons a l =>
    refine wSeqr (fun xx hx => ?_); have hc := trivial; (repeat' (simp only [hc, go_sem, Nat.reduceAdd, Nat.reduceMul, Nat.reduceSub, Nat.reduceEqDiff, Nat.reduceLT, Nat.reduceLeDiff, Int.reduceEq, Int.reduceLT, Int.reduceLE, reduceIte, aresults, aresult] at hx; (try (rw [guardL_if] at hx; split at hx <;> rename_i hc)))); all_goals (subst hx; refine ⟨_, rfl, ?_⟩)
    refine wSeq (wSeqr ?_); refine (fun xx hx => ?_); have hc := trivial; (repeat' (simp only [hc, go_sem, Nat.reduceAdd, Nat.reduceMul, Nat.reduceSub, Nat.reduceEqDiff, Nat.reduceLT, Nat.reduceLeDiff, Int.reduceEq, Int.reduceLT, Int.reduceLE, reduceIte, aresults, aresult] at hx; (try (rw [guardL_if] at hx; split at hx <;> rename_i hc)))); all_goals (subst hx; refine ⟨_, rfl, ?_⟩)
    refine wIf (fun yy hy => ?_); simp only [go_sem, Nat.reduceAdd, Nat.reduceMul, Nat.reduceSub, Nat.reduceEqDiff, Nat.reduceLT, Nat.reduceLeDiff, Int.reduceEq, Int.reduceLT, Int.reduceLE, reduceIte, aresults, aresult] at hy; subst hy; refine ⟨_, rfl, fun ht => ?_, fun hf => ?_⟩
    · simp at ht
    refine wSkip ?_
    refine wSeqr (fun xx hx => ?_)
    simp only [go_sem, Nat.reduceAdd, Nat.reduceMul, Nat.reduceSub, Nat.reduceEqDiff, Nat.reduceLT, Nat.reduceLeDiff, Int.reduceEq, Int.reduceLT, Int.reduceLE, reduceIte, aresults, aresult, hpE] at hx
    generalize hq : aappend Try.prog _ _ _ _ = q at hx
    obtain ⟨x', H', rfl, hacc, -, -⟩ := app_rows hq el22 zero5 by5 int22 (sz := 1) rfl (by omega) RAcc.lst (alen_bytes _) (afirst_bytes _ _) (by simp) (by omega) (by omega)
    simp only [go_sem, Nat.reduceAdd, Nat.reduceMul, Nat.reduceSub, Nat.reduceEqDiff, Nat.reduceLT, Nat.reduceLeDiff, Int.reduceEq, Int.reduceLT, Int.reduceLE, reduceIte, aresults, aresult] at hx
    subst hx; refine ⟨_, rfl, ?_⟩
    refine wRet ?_; (try simp only [thenQ, blockQ]); refine ends_ret rfl ?_
    simp only [tupOf, upd_eq, Nat.reduceEqDiff, if_true]
    rw [List.nil_append] at hacc
    exact ⟨deep_racc1 (d := 11) hacc (by omega) (fun k => Fz.int _ _ _), clean_racc1 (d := 11) hacc (fun k => rfl)⟩
theorem clone_o1 (c : Nat) : owned Try.prog cfgE 106 Try.f106 [.v (.slice none 0 c)] = some (.lst false []) := by
  refine own_wp (rs := [.tmp 2]) rfl rfl ?_
  repeat' (first | ((first | refine wSeqr (fun xx hx => ?_) | refine wIf (fun xx hx => ?_) | refine wReg (fun xx hx => ?_) | (refine wRet ?_; (try simp only [thenQ, blockQ]); refine ends_by (fun xx hx => ?_))); have hc := trivial; (repeat' (simp only [hc, go_sem, Nat.reduceAdd, Nat.reduceMul, Nat.reduceSub, Nat.reduceEqDiff, Nat.reduceLT, Nat.reduceLeDiff, Int.reduceEq, Int.reduceLT, Int.reduceLE, reduceIte, aresults, aresult] at hx; (try (rw [guardL_if] at hx; split at hx <;> rename_i hc)))); all_goals (subst hx; first | (refine ⟨_, rfl, fun ht => ?_, fun ht => ?_⟩ <;> (try simp only [Bool.not_eq_true', Bool.not_eq_false', Bool.and_eq_true, Bool.and_eq_false_iff, Bool.or_eq_true, Bool.or_eq_false_iff, decide_eq_true_eq, decide_eq_false_iff_not, beq_iff_eq, bne_iff_ne, Bool.not_true, Bool.not_false, Bool.true_eq_false, Bool.false_eq_true, ne_eq, Decidable.not_not, inB_t, inB_f] at ht)) | (refine ⟨_, rfl, ?_⟩; (try simp only [tupOf])))) | refine wSkip ?_ | (refine wExit ?_; simp only [thenQ, blockQ, reduceIte, Nat.reduceEqDiff]) | refine wSeq ?_ | refine wBlock ?_)
  all_goals first | exact ⟨rfl, own_v _⟩ | (exfalso; simp at *; done)
theorem clone_o2 (a : Addr) (c : Nat) : owned Try.prog cfgE 106 Try.f106 [.v (.slice (some a) 0 c)] = some (.lst false []) := by
  refine own_wp (rs := [.tmp 2]) rfl rfl ?_
  have hpE : ∀ a b, cfgE.pol a b = 0 := fun _ _ => rfl
  repeat' (first | ((first | refine wSeqr (fun xx hx => ?_) | refine wIf (fun xx hx => ?_) | refine wReg (fun xx hx => ?_) | (refine wRet ?_; (try simp only [thenQ, blockQ]); refine ends_by (fun xx hx => ?_))); have hc := trivial; (repeat' (simp only [hc, go_sem, Nat.reduceAdd, Nat.reduceMul, Nat.reduceSub, Nat.reduceEqDiff, Nat.reduceLT, Nat.reduceLeDiff, Int.reduceEq, Int.reduceLT, Int.reduceLE, reduceIte, aresults, aresult, hpE] at hx; (try (rw [guardL_if] at hx; split at hx <;> rename_i hc)))); all_goals (subst hx; first | (refine ⟨_, rfl, fun ht => ?_, fun ht => ?_⟩ <;> (try simp only [Bool.not_eq_true', Bool.not_eq_false', Bool.and_eq_true, Bool.and_eq_false_iff, Bool.or_eq_true, Bool.or_eq_false_iff, decide_eq_true_eq, decide_eq_false_iff_not, beq_iff_eq, bne_iff_ne, Bool.not_true, Bool.not_false, Bool.true_eq_false, Bool.false_eq_true, ne_eq, Decidable.not_not, inB_t, inB_f] at ht)) | (refine ⟨_, rfl, ?_⟩; (try simp only [tupOf])))) | refine wSkip ?_ | (refine wExit ?_; simp only [thenQ, blockQ, reduceIte, Nat.reduceEqDiff]) | refine wSeq ?_ | refine wBlock ?_)
  all_goals exact ⟨rfl, own_lst0 _⟩
theorem clone_o3 (l : List Int) (hne : l ≠ []) (hl : l.length ≤ 1048576) : owned Try.prog cfgE 106 Try.f106 [bytesL l] = some (bytesL l) := by
  refine own_wp (rs := [.tmp 2]) rfl rfl ?_
  have hpE : ∀ a b, cfgE.pol a b = 0 := fun _ _ => rfl
  cases l with
  | nil => exact absurd rfl hne
  | cons a l =>
    refine wSeqr (fun xx hx => ?_); have hc := trivial; (repeat' (simp only [hc, go_sem, Nat.reduceAdd, Nat.reduceMul, Nat.reduceSub, Nat.reduceEqDiff, Nat.reduceLT, Nat.reduceLeDiff, Int.reduceEq, Int.reduceLT, Int.reduceLE, reduceIte, aresults, aresult] at hx; (try (rw [guardL_if] at hx; split at hx <;> rename_i hc)))); all_goals (subst hx; refine ⟨_, rfl, ?_⟩)
    refine wSeq (wSeqr ?_); refine (fun xx hx => ?_); have hc := trivial; (repeat' (simp only [hc, go_sem, Nat.reduceAdd, Nat.reduceMul, Nat.reduceSub, Nat.reduceEqDiff, Nat.reduceLT, Nat.reduceLeDiff, Int.reduceEq, Int.reduceLT, Int.reduceLE, reduceIte, aresults, aresult] at hx; (try (rw [guardL_if] at hx; split at hx <;> rename_i hc)))); all_goals (subst hx; refine ⟨_, rfl, ?_⟩)
    refine wIf (fun yy hy => ?_); simp only [go_sem, Nat.reduceAdd, Nat.reduceMul, Nat.reduceSub, Nat.reduceEqDiff, Nat.reduceLT, Nat.reduceLeDiff, Int.reduceEq, Int.reduceLT, Int.reduceLE, reduceIte, aresults, aresult] at hy; subst hy; refine ⟨_, rfl, fun ht => ?_, fun hf => ?_⟩
    · simp at ht
    refine wSkip ?_
    refine wSeqr (fun xx hx => ?_)
    simp only [go_sem, Nat.reduceAdd, Nat.reduceMul, Nat.reduceSub, Nat.reduceEqDiff, Nat.reduceLT, Nat.reduceLeDiff, Int.reduceEq, Int.reduceLT, Int.reduceLE, reduceIte, aresults, aresult, hpE] at hx
    generalize hq : aappend Try.prog _ _ _ _ = q at hx
    obtain ⟨x', H', rfl, hacc, -, -⟩ := app_rows hq el22 zero5 by5 int22 (sz := 1) rfl (by omega) RAcc.lst (alen_bytes _) (afirst_bytes _ _) (by simp) (by omega) (by omega)
    simp only [go_sem, Nat.reduceAdd, Nat.reduceMul, Nat.reduceSub, Nat.reduceEqDiff, Nat.reduceLT, Nat.reduceLeDiff, Int.reduceEq, Int.reduceLT, Int.reduceLE, reduceIte, aresults, aresult] at hx
    subst hx; refine ⟨_, rfl, ?_⟩
    refine wRet ?_; (try simp only [thenQ, blockQ]); refine ends_ret rfl ?_
    simp only [tupOf, upd_eq, Nat.reduceEqDiff, if_true]
    rw [List.nil_append] at hacc
    exact ⟨deep_racc1 (d := 11) hacc (by omega) (fun k => Fz.int _ _ _), own_racc hacc (by simp [cell, fpt_int])⟩
theorem primE : PrimOk Try.prog cfgE := primOk_none
theorem prim0 : PrimOk Try.prog cfg0 := by
  intro f g hg ts v cl h ρ F w vals I hl hv
  unfold cfg0 at hg
  simp only at hg
  split at hg
  · rename_i hf; subst hf
    simp only [Option.some.injEq] at hg; subst hg
    exact ⟨clone_ok primE Try.func106 okE_Clone clone_1 clone_2 clone_3 h I hl hv, fun _ => clone_own primE Try.func106 okE_Clone clone_o1 clone_o2 clone_o3 h I hl hv⟩
  · split at hg
    · rename_i hf; subst hf
      simp only [Option.some.injEq] at hg; subst hg
      exact ⟨indexByte_ok (fun b o n c xs cv w hx hc => Any.bytes_IndexByte sh187 b o n c xs cv w hx hc) h I hl hv, fun h => by simp [cfg0, own0] at h⟩
    · simp at hg
theorem c_Clone (l : List Int) (hl : l.length ≤ 1048576) : ∀ H, call Try.prog cfg0 0 106 [bytesL l] H = some (bytesL l, H) := by
  intro H
  rw [call_prim Try.prog cfg0 Try.func106 (g := cloneG 1048576) rfl (by kernel_rfl) rfl (by omega)]
  rw [mapM_self (f := deep H depthD) (l := [bytesL l]) (fun x hx => by simp at hx; subst hx; exact (fz_bytes l).1 H)]
  have h1 : (l.map fun z => [cell z]).all byteRow = true := by simp [byteRow, cell]
  have h2 : (l.map fun z => [cell z]).length ≤ 1048576 := by simpa using hl
  simp only [Option.bind_some, bytesL, cloneG, h1, h2, and_self, if_true, pureAt, Bool.true_or]
theorem c_IndexByte (l : List Int) (hne : l ≠ []) (c : Int) : ∀ H, call Try.prog cfg0 0 58 [bytesL l, .v (.int .u8 c)] H = some (.v (.int .i64 (Lib.indexByte (Lib.bytesOf l) c.toNat.toUInt8)), H) := by
  intro H
  rw [call_prim Try.prog cfg0 Try.func58 (g := indexG) rfl (by kernel_rfl) rfl (by omega)]
  rw [mapM_self (f := deep H depthD) (l := [bytesL l, .v (.int .u8 c)]) (fun x hx => by
    simp at hx
    rcases hx with rfl | rfl
    · exact (fz_bytes l).1 H
    · rfl)]
  have h1 : (l.map fun z => [cell z]).all byteRow = true := by simp [byteRow, cell]
  have h2 : (l.map fun z => [cell z]) ≠ [] := by simpa using hne
  simp only [Option.bind_some, bytesL, indexG, h1, h2, ne_eq, not_false_eq_true, and_self, if_true, pureAt, Bool.true_or, rowInts_bytes]
end
end Go.Proofs.Ytmncdkecpnoogaa
