/- Contracts: ranges, keys. -/
import Derived.Test.YtmncdkecpnoogaaBO
namespace Go.Proofs.Ytmncdkecpnoogaa
open Go Go.RowKit Go.Proofs.Ytmncdkecpnoogaa.Eng
set_option linter.unusedSimpArgs false
set_option linter.unusedVariables false
set_option maxRecDepth 100000
noncomputable section
theorem ok_sl1In : fnOk Try.prog cfg0 52 Try.f52 = true := by kernel_rfl
theorem p_sl1In (a lo hi : Int) : pure Try.prog cfg0 52 Try.f52 [.v (.int .i64 a), .v (.int .i64 lo), .v (.int .i64 hi)] = some (.v (.bool (inB a lo hi)), true) := by
  refine pure_wp (rs := [.tmp 6]) rfl rfl ?_
  have hp0 : ∀ b, cfg0.pol 52 b = 0 := fun b => rfl
  repeat' (first | ((first | refine wSeqr (fun xx hx => ?_) | refine wIf (fun xx hx => ?_) | refine wReg (fun xx hx => ?_) | (refine wRet ?_; (try simp only [thenQ, blockQ]); refine ends_by (fun xx hx => ?_))); have hc := trivial; (repeat' (simp only [hc, go_sem, Nat.reduceAdd, Nat.reduceMul, Nat.reduceSub, Nat.reduceEqDiff, Nat.reduceLT, Nat.reduceLeDiff, Int.reduceEq, Int.reduceLT, Int.reduceLE, reduceIte, aresults, aresult] at hx; (try (rw [guardL_if] at hx; split at hx <;> rename_i hc)))); all_goals (subst hx; first | (refine ⟨_, rfl, fun ht => ?_, fun ht => ?_⟩ <;> (try simp only [Bool.not_eq_true', Bool.not_eq_false', Bool.and_eq_true, Bool.and_eq_false_iff, Bool.or_eq_true, Bool.or_eq_false_iff, decide_eq_true_eq, decide_eq_false_iff_not, beq_iff_eq, bne_iff_ne, Bool.not_true, Bool.not_false, Bool.true_eq_false, Bool.false_eq_true, ne_eq, Decidable.not_not, inB_t, inB_f] at ht)) | (refine ⟨_, rfl, ?_⟩; (try simp only [tupOf])))) | refine wSkip ?_ | (refine wExit ?_; simp only [thenQ, blockQ, reduceIte, Nat.reduceEqDiff]) | refine wSeq ?_ | refine wBlock ?_)
  all_goals (refine gives_boolv ?_; simp [inB, *])
theorem c_sl1In (a lo hi : Int) : ∀ H, call Try.prog cfg0 0 52 [.v (.int .i64 a), .v (.int .i64 lo), .v (.int .i64 hi)] H = some (.v (.bool (inB a lo hi)), H) :=
  call_fz Try.func52 rfl ok_sl1In rfl (by simp only [fz_cons, fz_nil, go_sem, and_self]) (p_sl1In a lo hi)

theorem ok_iin : fnOk Try.prog cfg0 61 Try.f61 = true := by kernel_rfl
theorem p_iin (a lo hi : Int) : pure Try.prog cfg0 61 Try.f61 [.v (.int .i64 a), .v (.int .i64 lo), .v (.int .i64 hi)] = some (.v (.bool (inB a lo hi)), true) := by
  refine pure_wp (rs := [.tmp 6]) rfl rfl ?_
  have hp0 : ∀ b, cfg0.pol 61 b = 0 := fun b => rfl
  repeat' (first | ((first | refine wSeqr (fun xx hx => ?_) | refine wIf (fun xx hx => ?_) | refine wReg (fun xx hx => ?_) | (refine wRet ?_; (try simp only [thenQ, blockQ]); refine ends_by (fun xx hx => ?_))); have hc := trivial; (repeat' (simp only [hc, go_sem, Nat.reduceAdd, Nat.reduceMul, Nat.reduceSub, Nat.reduceEqDiff, Nat.reduceLT, Nat.reduceLeDiff, Int.reduceEq, Int.reduceLT, Int.reduceLE, reduceIte, aresults, aresult] at hx; (try (rw [guardL_if] at hx; split at hx <;> rename_i hc)))); all_goals (subst hx; first | (refine ⟨_, rfl, fun ht => ?_, fun ht => ?_⟩ <;> (try simp only [Bool.not_eq_true', Bool.not_eq_false', Bool.and_eq_true, Bool.and_eq_false_iff, Bool.or_eq_true, Bool.or_eq_false_iff, decide_eq_true_eq, decide_eq_false_iff_not, beq_iff_eq, bne_iff_ne, Bool.not_true, Bool.not_false, Bool.true_eq_false, Bool.false_eq_true, ne_eq, Decidable.not_not, inB_t, inB_f] at ht)) | (refine ⟨_, rfl, ?_⟩; (try simp only [tupOf])))) | refine wSkip ?_ | (refine wExit ?_; simp only [thenQ, blockQ, reduceIte, Nat.reduceEqDiff]) | refine wSeq ?_ | refine wBlock ?_)
  all_goals (refine gives_boolv ?_; simp [inB, *])
theorem c_iin (a lo hi : Int) : ∀ H, call Try.prog cfg0 0 61 [.v (.int .i64 a), .v (.int .i64 lo), .v (.int .i64 hi)] H = some (.v (.bool (inB a lo hi)), H) :=
  call_fz Try.func61 rfl ok_iin rfl (by simp only [fz_cons, fz_nil, go_sem, and_self]) (p_iin a lo hi)

theorem ok_iisKeyId : fnOk Try.prog cfg0 84 Try.f84 = true := by kernel_rfl
theorem p_iisKeyId (a : Int) : pure Try.prog cfg0 84 Try.f84 [.v (.int .i64 a)] = some (.v (.bool (inB a 1 255)), true) := by
  refine pure_wp (rs := [.tmp 2]) rfl rfl ?_
  have hp0 : ∀ b, cfg0.pol 84 b = 0 := fun b => rfl
  repeat' (first | ((first | refine wSeqr (fun xx hx => ?_) | refine wIf (fun xx hx => ?_) | refine wReg (fun xx hx => ?_) | (refine wRet ?_; (try simp only [thenQ, blockQ]); refine ends_by (fun xx hx => ?_))); have hc := trivial; (repeat' (simp only [hc, go_sem, Nat.reduceAdd, Nat.reduceMul, Nat.reduceSub, Nat.reduceEqDiff, Nat.reduceLT, Nat.reduceLeDiff, Int.reduceEq, Int.reduceLT, Int.reduceLE, reduceIte, aresults, aresult, hp0, c_iin] at hx; (try (rw [guardL_if] at hx; split at hx <;> rename_i hc)))); all_goals (subst hx; first | (refine ⟨_, rfl, fun ht => ?_, fun ht => ?_⟩ <;> (try simp only [Bool.not_eq_true', Bool.not_eq_false', Bool.and_eq_true, Bool.and_eq_false_iff, Bool.or_eq_true, Bool.or_eq_false_iff, decide_eq_true_eq, decide_eq_false_iff_not, beq_iff_eq, bne_iff_ne, Bool.not_true, Bool.not_false, Bool.true_eq_false, Bool.false_eq_true, ne_eq, Decidable.not_not, inB_t, inB_f] at ht)) | (refine ⟨_, rfl, ?_⟩; (try simp only [tupOf])))) | refine wSkip ?_ | (refine wExit ?_; simp only [thenQ, blockQ, reduceIte, Nat.reduceEqDiff]) | refine wSeq ?_ | refine wBlock ?_)
  exact ⟨rfl, rfl⟩
theorem c_iisKeyId (a : Int) : ∀ H, call Try.prog cfg0 0 84 [.v (.int .i64 a)] H = some (.v (.bool (inB a 1 255)), H) :=
  call_fz Try.func84 rfl ok_iisKeyId rfl (by simp only [fz_cons, fz_nil, go_sem, and_self]) (p_iisKeyId a)

def keyFault (k : KeyM) : Int := if ¬ (1 ≤ k.Id ∧ k.Id ≤ 255) then 3 else if k.Bytes.length ≠ 16 then 2 else 0
-- not here: _impl_Key_fault
-- not here: spec_l4Key
def firstFault : List KeyM → Int
  | [] => 0
  | k :: r => if keyFault k = 0 then firstFault r else keyFault k
def rising : List KeyM → Bool
  | [] => true
  | [_] => true
  | a :: b :: r => decide (a.Id < b.Id) && rising (b :: r)
def findFrom : List KeyM → Int → Nat → Int
  | [], _, _ => -1
  | k :: r, id, j => if k.Id = id then j else findFrom r id (j + 1)
def findId (l : List KeyM) (id : Int) : Int := findFrom l id 0
theorem findFrom_bound : ∀ (l : List KeyM) (id : Int) (j : Nat), findFrom l id j = -1 ∨ ∃ i k, findFrom l id j = (j + i : Nat) ∧ l[i]? = some k ∧ k.Id = id := by
  intro l
  induction l with
  | nil => intro id j; exact .inl rfl
  | cons k r ih =>
    intro id j
    unfold findFrom
    split
    · exact .inr ⟨0, k, by simp, rfl, by assumption⟩
    · rcases ih id (j + 1) with h | ⟨i, k', h1, h2, h3⟩
      · exact .inl h
      · exact .inr ⟨i + 1, k', by rw [h1]; congr 1; omega, by simpa using h2, h3⟩
-- not here: spec_l4Find
end
end Go.Proofs.Ytmncdkecpnoogaa
