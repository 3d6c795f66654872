/- Contracts: NumberOf, both sides. -/
import Derived.Test.YtepnlhjafgomgaaDoorD2
import Derived.Lib.ParseIntBTie
namespace Go.Proofs.YtepnlhjafgomgaaDoor
open Go Go.RowKit Go.Proofs.YtepnlhjafgomgaaDoor.Eng
set_option linter.unusedSimpArgs false
set_option linter.unusedVariables false
set_option maxRecDepth 100000
noncomputable section
theorem str_eq (a b : ByteArray) : (a.toList == b.toList) = decide (a.data.toList = b.data.toList) := by
  have e : ∀ s : ByteArray, s.toList = s.data.toList := fun s => by simp [ByteArray.toList_eq]
  rw [e, e]
  apply bool_eq
  simp only [beq_iff_eq, decide_eq_true_eq]
def textOf (n : Int) : ByteArray := ⟨(Lib.itoa n).toArray⟩
theorem textOf_list (n : Int) : (textOf n).data.toList = Lib.itoa n := rfl
-- not here: impl_digits
theorem ok_inoInt : fnOk Tryd.prog cfg0 26 Tryd.f26 = true := by kernel_rfl
theorem p_inoInt (n : Int) : pure Tryd.prog cfg0 26 Tryd.f26 [.v (.int .i64 n)] = some (.agg [.v (.int .i64 n), .v (.int .i64 0)], true) := by
  refine pure_wp (rs := [.cell 2 36]) rfl rfl ?_
  have hp0 : ∀ b, cfg0.pol 26 b = 0 := fun b => rfl
  repeat' (first | ((first | refine wSeqr (fun xx hx => ?_) | refine wIf (fun xx hx => ?_) | refine wReg (fun xx hx => ?_) | (refine wRet ?_; (try simp only [thenQ, blockQ]); refine ends_by (fun xx hx => ?_))); have hc := trivial; (repeat' (simp only [hc, Nat.reduceBEq, go_sem, Nat.reduceAdd, Nat.reduceMul, Nat.reduceSub, Nat.reduceEqDiff, Nat.reduceLT, Nat.reduceLeDiff, Int.reduceEq, Int.reduceLT, Int.reduceLE, reduceIte, aresults, aresult, hp0] at hx; (try (rw [guardL_if] at hx; split at hx <;> rename_i hc)))); all_goals (subst hx; first | (refine ⟨_, rfl, fun ht => ?_, fun ht => ?_⟩ <;> (try simp only [bbs, beq_iff_eq, bne_iff_ne, ne_eq] at ht)) | (refine ⟨_, rfl, ?_⟩; (try simp only [tupOf])))) | refine wSkip ?_ | (refine wExit ?_; simp only [thenQ, blockQ, reduceIte, Nat.reduceEqDiff]) | refine wSeq ?_ | refine wBlock ?_)
  all_goals exact ⟨rfl, rfl⟩
theorem c_inoInt (n : Int) : ∀ H, call Tryd.prog cfg0 0 26 [.v (.int .i64 n)] H = some (.agg [.v (.int .i64 n), .v (.int .i64 0)], H) :=
  call_fz Tryd.func26 rfl ok_inoInt rfl (by simp only [fz_cons, fz_nil, go_sem, and_self]) (p_inoInt n)

def numC (N : Nat) (k : Int) (l : List UInt8) : Int := if numOf N l < 0 then k else 0
def numV (N : Nat) (l : List UInt8) : Int := if numOf N l < 0 then 0 else numOf N l
theorem num_no {N : Nat} {k : Int} {l : List UInt8} (h : ¬ (canon l = true ∧ l.length ≤ N)) : numC N k l = k ∧ numV N l = 0 := by
  have : numOf N l = -1 := by unfold numOf; rw [if_neg h]
  unfold numC numV
  rw [this]; exact ⟨rfl, rfl⟩
theorem num_yes {N : Nat} {k : Int} {l : List UInt8} (h : canon l = true ∧ l.length ≤ N) : numC N k l = 0 ∧ numV N l = (vdA 0 l : Nat) := by
  have : numOf N l = (vdA 0 l : Nat) := by unfold numOf; rw [if_pos h]
  unfold numC numV
  rw [this, if_neg (by omega), if_neg (by omega)]; exact ⟨rfl, rfl⟩
-- not here: spec_NumberOf
theorem num_end {z : ByteArray} {n : Int} {k : Int} (h0 : ¬ n < 0) (h7 : ¬ 7 < (z.size : Int)) (h : (textOf n).data.toList = z.data.toList) : numC 7 k z.data.toList = 0 ∧ numV 7 z.data.toList = n := by
  rw [textOf_list] at h
  obtain ⟨h1, h2⟩ := num_back (by omega) h
  obtain ⟨h3, h4⟩ := num_yes (N := 7) (k := k) ⟨h1, by rw [← size_toList]; omega⟩
  exact ⟨h3, h4.trans h2⟩
theorem num_ne {z : ByteArray} {n : Int} {k : Int} (hp : Lib.parseIntB 64 z.data.toList = .ok n) (h : ¬ (textOf n).data.toList = z.data.toList) : numC 7 k z.data.toList = k ∧ numV 7 z.data.toList = 0 := by
  refine num_no ?_
  rintro ⟨h1, h2⟩
  rw [parseB_dg h1 (by omega)] at hp
  simp only [Lib.NumEnd.ok.injEq] at hp
  refine h ?_
  rw [textOf_list, ← hp, itoa_nat]
  exact dec_of_canon _ _ rfl h1
-- not here: impl_NumberOf
end
end Go.Proofs.YtepnlhjafgomgaaDoor
