/- Contracts: numerals of numbers, both sides. -/
import Derived.Test.YtmncdkecpnoogaaDoorK0
namespace Go.Proofs.YtmncdkecpnoogaaDoor
open Go Go.RowKit Go.Proofs.YtmncdkecpnoogaaDoor.Eng
set_option linter.unusedSimpArgs false
set_option linter.unusedVariables false
set_option maxRecDepth 100000
noncomputable section
def textOf (n : Int) : ByteArray := ⟨(Lib.itoa n).toArray⟩
theorem itoa_nat (u : Nat) : Lib.itoa (u : Int) = Lib.decDigits u := by
  unfold Lib.itoa
  rw [if_neg (by omega)]; simp
theorem textOf_size (u : Nat) (hu : u < 18446744073709551616) : (textOf u).size ≤ 20 := by
  show (Lib.itoa (u : Int)).toArray.size ≤ 20
  rw [itoa_nat, List.size_toArray, Lib.decDigits_length]
  by_cases h0 : u = 0
  · subst h0; rw [Lib.nDigits_small (by omega)]; omega
  · have h1 := (Lib.numDigits_eq u (by omega) hu).1
    have h2 := (Lib.numDigits_eq u (by omega) hu).2
    split at h1 <;> omega
theorem ok_idigits : fnOk Tryd.prog cfg0 42 Tryd.f42 = true := by kernel_rfl
theorem p_idigits (n : Int) (hn : i64B n) : pure Tryd.prog cfg0 42 Tryd.f42 [.v (.int .i64 n)] = some (.v (.string (textOf n)), true) := by
  refine pure_wp (rs := [.tmp 2]) rfl rfl ?_
  have hp0 : ∀ b, cfg0.pol 42 b = 0 := fun b => rfl
  repeat' (first | ((first | refine wSeqr (fun xx hx => ?_) | refine wIf (fun xx hx => ?_) | refine wReg (fun xx hx => ?_) | (refine wRet ?_; (try simp only [thenQ, blockQ]); refine ends_by (fun xx hx => ?_))); have hc := trivial; (repeat' (simp only [hc, go_sem, Nat.reduceAdd, Nat.reduceMul, Nat.reduceSub, Nat.reduceEqDiff, Nat.reduceLT, Nat.reduceLeDiff, Int.reduceEq, Int.reduceLT, Int.reduceLE, reduceIte, aresults, aresult, hp0, c_FormatInt n hn] at hx; (try (rw [guardL_if] at hx; split at hx <;> rename_i hc)))); all_goals (subst hx; first | (refine ⟨_, rfl, fun ht => ?_, fun ht => ?_⟩ <;> (try simp only [Bool.not_eq_true', Bool.not_eq_false', Bool.and_eq_true, Bool.and_eq_false_iff, Bool.or_eq_true, Bool.or_eq_false_iff, decide_eq_true_eq, decide_eq_false_iff_not, beq_iff_eq, bne_iff_ne, Bool.not_true, Bool.not_false, Bool.true_eq_false, Bool.false_eq_true, ne_eq, Decidable.not_not, inB_t, inB_f] at ht)) | (refine ⟨_, rfl, ?_⟩; (try simp only [tupOf])))) | refine wSkip ?_ | (refine wExit ?_; simp only [thenQ, blockQ, reduceIte, Nat.reduceEqDiff]) | refine wSeq ?_ | refine wBlock ?_)
  all_goals exact ⟨rfl, rfl⟩
theorem c_idigits (n : Int) (hn : i64B n) : ∀ H, call Tryd.prog cfg0 0 42 [.v (.int .i64 n)] H = some (.v (.string (textOf n)), H) :=
  call_fz Tryd.func42 rfl ok_idigits rfl (by simp only [fz_cons, fz_nil, go_sem, and_self]) (p_idigits n hn)

theorem conv_one (z : Int) (H : Hp) : aconv Tryd.prog H 47 9 (.lst true [[.v (.int .u8 z)]]) = some (.v (.string ⟨#[UInt8.ofNat z.toNat]⟩)) := by
  simp [aconv, u47, u9, u5, bytesIn]
theorem conv_ib (n : Int) (H : Hp) : aconv Tryd.prog H 2 5 (.v (.int .i64 n)) = some (.v (.int .u8 (IntKind.wrap .u8 n))) := by simp [aconv, u2, u5]
theorem text_one {u : Nat} (h : u < 10) : (⟨#[UInt8.ofNat (48 + (u : Int)).toNat]⟩ : ByteArray) = textOf u := by
  unfold textOf
  rw [itoa_nat, Lib.decDigits, dif_pos h]
  rw [show (48 + (u : Int)).toNat = 48 + u by omega]
theorem text_app {u : Nat} (h : ¬ u < 10) : textOf ((u / 10 : Nat) : Int) ++ (⟨#[UInt8.ofNat (48 + ((u % 10 : Nat) : Int)).toNat]⟩ : ByteArray) = textOf u := by
  have e : ∀ a b : ByteArray, a.data.toList = b.data.toList → a = b := by
    intro a b h; cases a; cases b; simp at h; rw [h]
  apply e
  rw [ByteArray.data_append, Array.toList_append]
  have e1 : ∀ n : Int, (textOf n).data.toList = Lib.itoa n := fun n => by simp [textOf]
  rw [e1, e1, itoa_nat, itoa_nat, Lib.decDigits.eq_def u, dif_neg h]
  rw [show (48 + ((u % 10 : Nat) : Int)).toNat = 48 + u % 10 by omega]
theorem ok_l1Digits : fnOk Tryd.prog cfg0 74 Tryd.f74 = true := by kernel_rfl
theorem p_l1Digits : ∀ (k u : Nat), u ≤ k → u < 9223372036854775807 → pure Tryd.prog cfg0 74 Tryd.f74 [.v (.int .i64 (u : Int))] = some (.v (.string (textOf u)), true) := by
  intro k
  induction k with
  | zero =>
    intro u hu hb
    obtain rfl : u = 0 := by omega
    refine pure_wp (rs := [.tmp 2]) rfl rfl ?_
    have hp0 : ∀ b, cfg0.pol 74 b = 0 := fun b => rfl
    have w1 : IntKind.wrap .i64 (48 + ((0 : Nat) : Int)) = 48 + ((0 : Nat) : Int) := wrap_i64 (by omega) (by omega)
    have w2 : IntKind.wrap .u8 (48 + ((0 : Nat) : Int)) = 48 + ((0 : Nat) : Int) := wrap_u8 (by omega) (by omega)
    have h0 : ((0 : Nat) : Int) < 10 := by omega
    have e := text_one (u := 0) (by omega)
    generalize ((0 : Nat) : Int) = z at *
    repeat' (first | ((first | refine wSeqr (fun xx hx => ?_) | refine wIf (fun xx hx => ?_) | refine wReg (fun xx hx => ?_) | (refine wRet ?_; (try simp only [thenQ, blockQ]); refine ends_by (fun xx hx => ?_))); have hc := trivial; (repeat' (simp only [hc, go_sem, Nat.reduceAdd, Nat.reduceMul, Nat.reduceSub, Nat.reduceEqDiff, Nat.reduceLT, Nat.reduceLeDiff, Int.reduceEq, Int.reduceLT, Int.reduceLE, reduceIte, aresults, aresult, hp0, w1, w2, conv_one, conv_ib, h0] at hx; (try (rw [guardL_if] at hx; split at hx <;> rename_i hc)))); all_goals (subst hx; first | (refine ⟨_, rfl, fun ht => ?_, fun ht => ?_⟩ <;> (try simp only [Bool.not_eq_true', Bool.not_eq_false', Bool.and_eq_true, Bool.and_eq_false_iff, Bool.or_eq_true, Bool.or_eq_false_iff, decide_eq_true_eq, decide_eq_false_iff_not, beq_iff_eq, bne_iff_ne, Bool.not_true, Bool.not_false, Bool.true_eq_false, Bool.false_eq_true, ne_eq, Decidable.not_not, inB_t, inB_f] at ht)) | (refine ⟨_, rfl, ?_⟩; (try simp only [tupOf])))) | refine wSkip ?_ | (refine wExit ?_; simp only [thenQ, blockQ, reduceIte, Nat.reduceEqDiff]) | refine wSeq ?_ | refine wBlock ?_)
    all_goals (rw [e]; exact ⟨rfl, rfl⟩)
  | succ k ih =>
    intro u hu hb
    have hlt : (u : Int) < 10 ↔ u < 10 := by omega
    by_cases h : u < 10
    · have h' : (u : Int) < 10 := by omega
      refine pure_wp (rs := [.tmp 2]) rfl rfl ?_
      have hp0 : ∀ b, cfg0.pol 74 b = 0 := fun b => rfl
      have w1 : IntKind.wrap .i64 (48 + (u : Int)) = 48 + (u : Int) := wrap_i64 (by omega) (by omega)
      have w2 : IntKind.wrap .u8 (48 + (u : Int)) = 48 + (u : Int) := wrap_u8 (by omega) (by omega)
      repeat' (first | ((first | refine wSeqr (fun xx hx => ?_) | refine wIf (fun xx hx => ?_) | refine wReg (fun xx hx => ?_) | (refine wRet ?_; (try simp only [thenQ, blockQ]); refine ends_by (fun xx hx => ?_))); have hc := trivial; (repeat' (simp only [hc, go_sem, Nat.reduceAdd, Nat.reduceMul, Nat.reduceSub, Nat.reduceEqDiff, Nat.reduceLT, Nat.reduceLeDiff, Int.reduceEq, Int.reduceLT, Int.reduceLE, reduceIte, aresults, aresult, hp0, w1, w2, conv_one, conv_ib, h'] at hx; (try (rw [guardL_if] at hx; split at hx <;> rename_i hc)))); all_goals (subst hx; first | (refine ⟨_, rfl, fun ht => ?_, fun ht => ?_⟩ <;> (try simp only [Bool.not_eq_true', Bool.not_eq_false', Bool.and_eq_true, Bool.and_eq_false_iff, Bool.or_eq_true, Bool.or_eq_false_iff, decide_eq_true_eq, decide_eq_false_iff_not, beq_iff_eq, bne_iff_ne, Bool.not_true, Bool.not_false, Bool.true_eq_false, Bool.false_eq_true, ne_eq, Decidable.not_not, inB_t, inB_f] at ht)) | (refine ⟨_, rfl, ?_⟩; (try simp only [tupOf])))) | refine wSkip ?_ | (refine wExit ?_; simp only [thenQ, blockQ, reduceIte, Nat.reduceEqDiff]) | refine wSeq ?_ | refine wBlock ?_)
      all_goals (rw [text_one h]; exact ⟨rfl, rfl⟩)
    · have h' : ¬ (u : Int) < 10 := by omega
      have hd := ih (u / 10) (by omega) (by omega)
      have hcl : ∀ H, call Tryd.prog cfg0 0 74 [.v (.int .i64 ((u / 10 : Nat) : Int))] H = some (.v (.string (textOf ((u / 10 : Nat) : Int))), H) :=
        call_fz Tryd.func74 rfl ok_l1Digits rfl (by simp only [fz_cons, fz_nil, go_sem, and_self]) hd
      have e1 : Int.tdiv (u : Int) 10 = ((u / 10 : Nat) : Int) := by rw [Int.tdiv_eq_ediv_of_nonneg (by omega)]; omega
      have e2 : Int.tmod (u : Int) 10 = ((u % 10 : Nat) : Int) := by rw [Int.tmod_eq_emod_of_nonneg (by omega)]; omega
      have w0 : IntKind.wrap .i64 ((u / 10 : Nat) : Int) = ((u / 10 : Nat) : Int) := wrap_i64 (by omega) (by omega)
      have w1 : IntKind.wrap .i64 (48 + ((u % 10 : Nat) : Int)) = 48 + ((u % 10 : Nat) : Int) := wrap_i64 (by omega) (by omega)
      have w2 : IntKind.wrap .u8 (48 + ((u % 10 : Nat) : Int)) = 48 + ((u % 10 : Nat) : Int) := wrap_u8 (by omega) (by omega)
      have hs := textOf_size (u / 10) (by omega)
      have hs2 : (textOf ((u / 10 : Nat) : Int)).size + (⟨#[UInt8.ofNat (48 + ((u % 10 : Nat) : Int)).toNat]⟩ : ByteArray).size ≤ 4611686018427387904 := by
        have : (⟨#[UInt8.ofNat (48 + ((u % 10 : Nat) : Int)).toNat]⟩ : ByteArray).size = 1 := rfl
        omega
      have ea := text_app h
      have hs3 : (textOf ((u / 10 : Nat) : Int)).size + (#[UInt8.ofNat (48 + ((u % 10 : Nat) : Int)).toNat] : Array UInt8).size ≤ 4611686018427387904 := hs2
      refine pure_wp (rs := [.tmp 2]) rfl rfl ?_
      have hp0 : ∀ b, cfg0.pol 74 b = 0 := fun b => rfl
      generalize (u / 10 : Nat) = q at *
      generalize (u % 10 : Nat) = r at *
      repeat' (first | ((first | refine wSeqr (fun xx hx => ?_) | refine wIf (fun xx hx => ?_) | refine wReg (fun xx hx => ?_) | (refine wRet ?_; (try simp only [thenQ, blockQ]); refine ends_by (fun xx hx => ?_))); have hc := trivial; (repeat' (simp only [hc, go_sem, Nat.reduceAdd, Nat.reduceMul, Nat.reduceSub, Nat.reduceEqDiff, Nat.reduceLT, Nat.reduceLeDiff, Int.reduceEq, Int.reduceLT, Int.reduceLE, reduceIte, aresults, aresult, hp0, h', e1, e2, hcl, w0, w1, w2, conv_one, conv_ib, hs3, ea] at hx; (try (rw [guardL_if] at hx; split at hx <;> rename_i hc)))); all_goals (subst hx; first | (refine ⟨_, rfl, fun ht => ?_, fun ht => ?_⟩ <;> (try simp only [Bool.not_eq_true', Bool.not_eq_false', Bool.and_eq_true, Bool.and_eq_false_iff, Bool.or_eq_true, Bool.or_eq_false_iff, decide_eq_true_eq, decide_eq_false_iff_not, beq_iff_eq, bne_iff_ne, Bool.not_true, Bool.not_false, Bool.true_eq_false, Bool.false_eq_true, ne_eq, Decidable.not_not, inB_t, inB_f] at ht)) | (refine ⟨_, rfl, ?_⟩; (try simp only [tupOf])))) | refine wSkip ?_ | (refine wExit ?_; simp only [thenQ, blockQ, reduceIte, Nat.reduceEqDiff]) | refine wSeq ?_ | refine wBlock ?_)
      all_goals exact ⟨rfl, rfl⟩
theorem c_l1Digits (u : Nat) (hb : u < 9223372036854775807) : ∀ H, call Tryd.prog cfg0 0 74 [.v (.int .i64 (u : Int))] H = some (.v (.string (textOf u)), H) :=
  call_fz Tryd.func74 rfl ok_l1Digits rfl (by simp only [fz_cons, fz_nil, go_sem, and_self]) (p_l1Digits u u (Nat.le_refl _) hb)
theorem ok_iin : fnOk Tryd.prog cfg0 54 Tryd.f54 = true := by kernel_rfl
theorem p_iin (n a b : Int) : pure Tryd.prog cfg0 54 Tryd.f54 [.v (.int .i64 n), .v (.int .i64 a), .v (.int .i64 b)] = some (.v (.bool (inB n a b)), true) := by
  refine pure_wp (rs := [.tmp 6]) rfl rfl ?_
  have hp0 : ∀ b, cfg0.pol 54 b = 0 := fun b => rfl
  repeat' (first | ((first | refine wSeqr (fun xx hx => ?_) | refine wIf (fun xx hx => ?_) | refine wReg (fun xx hx => ?_) | (refine wRet ?_; (try simp only [thenQ, blockQ]); refine ends_by (fun xx hx => ?_))); have hc := trivial; (repeat' (simp only [hc, go_sem, Nat.reduceAdd, Nat.reduceMul, Nat.reduceSub, Nat.reduceEqDiff, Nat.reduceLT, Nat.reduceLeDiff, Int.reduceEq, Int.reduceLT, Int.reduceLE, reduceIte, aresults, aresult, hp0] at hx; (try (rw [guardL_if] at hx; split at hx <;> rename_i hc)))); all_goals (subst hx; first | (refine ⟨_, rfl, fun ht => ?_, fun ht => ?_⟩ <;> (try simp only [Bool.not_eq_true', Bool.not_eq_false', Bool.and_eq_true, Bool.and_eq_false_iff, Bool.or_eq_true, Bool.or_eq_false_iff, decide_eq_true_eq, decide_eq_false_iff_not, beq_iff_eq, bne_iff_ne, Bool.not_true, Bool.not_false, Bool.true_eq_false, Bool.false_eq_true, ne_eq, Decidable.not_not, inB_t, inB_f] at ht)) | (refine ⟨_, rfl, ?_⟩; (try simp only [tupOf])))) | refine wSkip ?_ | (refine wExit ?_; simp only [thenQ, blockQ, reduceIte, Nat.reduceEqDiff]) | refine wSeq ?_ | refine wBlock ?_)
  all_goals (refine gives_boolv ?_; simp_all [inB]; try omega)
theorem c_iin (n a b : Int) : ∀ H, call Tryd.prog cfg0 0 54 [.v (.int .i64 n), .v (.int .i64 a), .v (.int .i64 b)] H = some (.v (.bool (inB n a b)), H) :=
  call_fz Tryd.func54 rfl ok_iin rfl (by simp only [fz_cons, fz_nil, go_sem, and_self]) (p_iin n a b)

theorem ok_sl1In : fnOk Tryd.prog cfg0 66 Tryd.f66 = true := by kernel_rfl
theorem p_sl1In (n a b : Int) : pure Tryd.prog cfg0 66 Tryd.f66 [.v (.int .i64 n), .v (.int .i64 a), .v (.int .i64 b)] = some (.v (.bool (inB n a b)), true) := by
  refine pure_wp (rs := [.tmp 6]) rfl rfl ?_
  have hp0 : ∀ b, cfg0.pol 66 b = 0 := fun b => rfl
  repeat' (first | ((first | refine wSeqr (fun xx hx => ?_) | refine wIf (fun xx hx => ?_) | refine wReg (fun xx hx => ?_) | (refine wRet ?_; (try simp only [thenQ, blockQ]); refine ends_by (fun xx hx => ?_))); have hc := trivial; (repeat' (simp only [hc, go_sem, Nat.reduceAdd, Nat.reduceMul, Nat.reduceSub, Nat.reduceEqDiff, Nat.reduceLT, Nat.reduceLeDiff, Int.reduceEq, Int.reduceLT, Int.reduceLE, reduceIte, aresults, aresult, hp0] at hx; (try (rw [guardL_if] at hx; split at hx <;> rename_i hc)))); all_goals (subst hx; first | (refine ⟨_, rfl, fun ht => ?_, fun ht => ?_⟩ <;> (try simp only [Bool.not_eq_true', Bool.not_eq_false', Bool.and_eq_true, Bool.and_eq_false_iff, Bool.or_eq_true, Bool.or_eq_false_iff, decide_eq_true_eq, decide_eq_false_iff_not, beq_iff_eq, bne_iff_ne, Bool.not_true, Bool.not_false, Bool.true_eq_false, Bool.false_eq_true, ne_eq, Decidable.not_not, inB_t, inB_f] at ht)) | (refine ⟨_, rfl, ?_⟩; (try simp only [tupOf])))) | refine wSkip ?_ | (refine wExit ?_; simp only [thenQ, blockQ, reduceIte, Nat.reduceEqDiff]) | refine wSeq ?_ | refine wBlock ?_)
  all_goals (refine gives_boolv ?_; simp_all [inB]; try omega)
theorem c_sl1In (n a b : Int) : ∀ H, call Tryd.prog cfg0 0 66 [.v (.int .i64 n), .v (.int .i64 a), .v (.int .i64 b)] H = some (.v (.bool (inB n a b)), H) :=
  call_fz Tryd.func66 rfl ok_sl1In rfl (by simp only [fz_cons, fz_nil, go_sem, and_self]) (p_sl1In n a b)

theorem ok_iisNode : fnOk Tryd.prog cfg0 75 Tryd.f75 = true := by kernel_rfl
theorem p_iisNode (a : Int) : pure Tryd.prog cfg0 75 Tryd.f75 [.v (.int .i64 a)] = some (.v (.bool (inB a 0 3)), true) := by
  refine pure_wp (rs := [.tmp 2]) rfl rfl ?_
  have hp0 : ∀ b, cfg0.pol 75 b = 0 := fun b => rfl
  repeat' (first | ((first | refine wSeqr (fun xx hx => ?_) | refine wIf (fun xx hx => ?_) | refine wReg (fun xx hx => ?_) | (refine wRet ?_; (try simp only [thenQ, blockQ]); refine ends_by (fun xx hx => ?_))); have hc := trivial; (repeat' (simp only [hc, go_sem, Nat.reduceAdd, Nat.reduceMul, Nat.reduceSub, Nat.reduceEqDiff, Nat.reduceLT, Nat.reduceLeDiff, Int.reduceEq, Int.reduceLT, Int.reduceLE, reduceIte, aresults, aresult, hp0, c_iin] at hx; (try (rw [guardL_if] at hx; split at hx <;> rename_i hc)))); all_goals (subst hx; first | (refine ⟨_, rfl, fun ht => ?_, fun ht => ?_⟩ <;> (try simp only [Bool.not_eq_true', Bool.not_eq_false', Bool.and_eq_true, Bool.and_eq_false_iff, Bool.or_eq_true, Bool.or_eq_false_iff, decide_eq_true_eq, decide_eq_false_iff_not, beq_iff_eq, bne_iff_ne, Bool.not_true, Bool.not_false, Bool.true_eq_false, Bool.false_eq_true, ne_eq, Decidable.not_not, inB_t, inB_f] at ht)) | (refine ⟨_, rfl, ?_⟩; (try simp only [tupOf])))) | refine wSkip ?_ | (refine wExit ?_; simp only [thenQ, blockQ, reduceIte, Nat.reduceEqDiff]) | refine wSeq ?_ | refine wBlock ?_)
  all_goals (refine gives_boolv ?_; simp_all [inB])
theorem c_iisNode (a : Int) : ∀ H, call Tryd.prog cfg0 0 75 [.v (.int .i64 a)] H = some (.v (.bool (inB a 0 3)), H) :=
  call_fz Tryd.func75 rfl ok_iisNode rfl (by simp only [fz_cons, fz_nil, go_sem, and_self]) (p_iisNode a)

theorem ok_iisStatus : fnOk Tryd.prog cfg0 76 Tryd.f76 = true := by kernel_rfl
theorem p_iisStatus (a : Int) : pure Tryd.prog cfg0 76 Tryd.f76 [.v (.int .i64 a)] = some (.v (.bool (inB a 0 2)), true) := by
  refine pure_wp (rs := [.tmp 2]) rfl rfl ?_
  have hp0 : ∀ b, cfg0.pol 76 b = 0 := fun b => rfl
  repeat' (first | ((first | refine wSeqr (fun xx hx => ?_) | refine wIf (fun xx hx => ?_) | refine wReg (fun xx hx => ?_) | (refine wRet ?_; (try simp only [thenQ, blockQ]); refine ends_by (fun xx hx => ?_))); have hc := trivial; (repeat' (simp only [hc, go_sem, Nat.reduceAdd, Nat.reduceMul, Nat.reduceSub, Nat.reduceEqDiff, Nat.reduceLT, Nat.reduceLeDiff, Int.reduceEq, Int.reduceLT, Int.reduceLE, reduceIte, aresults, aresult, hp0, c_iin] at hx; (try (rw [guardL_if] at hx; split at hx <;> rename_i hc)))); all_goals (subst hx; first | (refine ⟨_, rfl, fun ht => ?_, fun ht => ?_⟩ <;> (try simp only [Bool.not_eq_true', Bool.not_eq_false', Bool.and_eq_true, Bool.and_eq_false_iff, Bool.or_eq_true, Bool.or_eq_false_iff, decide_eq_true_eq, decide_eq_false_iff_not, beq_iff_eq, bne_iff_ne, Bool.not_true, Bool.not_false, Bool.true_eq_false, Bool.false_eq_true, ne_eq, Decidable.not_not, inB_t, inB_f] at ht)) | (refine ⟨_, rfl, ?_⟩; (try simp only [tupOf])))) | refine wSkip ?_ | (refine wExit ?_; simp only [thenQ, blockQ, reduceIte, Nat.reduceEqDiff]) | refine wSeq ?_ | refine wBlock ?_)
  all_goals (refine gives_boolv ?_; simp_all [inB])
theorem c_iisStatus (a : Int) : ∀ H, call Tryd.prog cfg0 0 76 [.v (.int .i64 a)] H = some (.v (.bool (inB a 0 2)), H) :=
  call_fz Tryd.func76 rfl ok_iisStatus rfl (by simp only [fz_cons, fz_nil, go_sem, and_self]) (p_iisStatus a)

def claimOk (c : ClaimM) : Bool := inB c.Node 0 3 && inB c.Inc 0 1000000 && inB c.Status 0 2 && inB c.Meta 0 9999999
def claimFault (c : ClaimM) : Int := if claimOk c = true then 0 else 3
theorem ok_iClaimFault : fnOk Tryd.prog cfg0 41 Tryd.f41 = true := by kernel_rfl
theorem p_iClaimFault (c : ClaimM) : pure Tryd.prog cfg0 41 Tryd.f41 [.agg [.v (.int .i64 c.Node), .v (.int .i64 c.Inc), .v (.int .i64 c.Status), .v (.int .i64 c.Meta)]] = some (.v (.int .i64 (claimFault c)), true) := by
  refine pure_wp (rs := [.tmp 2]) rfl rfl ?_
  have hp0 : ∀ b, cfg0.pol 41 b = 0 := fun b => rfl
  repeat' (first | ((first | refine wSeqr (fun xx hx => ?_) | refine wIf (fun xx hx => ?_) | refine wReg (fun xx hx => ?_) | (refine wRet ?_; (try simp only [thenQ, blockQ]); refine ends_by (fun xx hx => ?_))); have hc := trivial; (repeat' (simp only [hc, go_sem, Nat.reduceAdd, Nat.reduceMul, Nat.reduceSub, Nat.reduceEqDiff, Nat.reduceLT, Nat.reduceLeDiff, Int.reduceEq, Int.reduceLT, Int.reduceLE, reduceIte, aresults, aresult, hp0, c_iisNode, c_iin, c_iisStatus] at hx; (try (rw [guardL_if] at hx; split at hx <;> rename_i hc)))); all_goals (subst hx; first | (refine ⟨_, rfl, fun ht => ?_, fun ht => ?_⟩ <;> (try simp only [Bool.not_eq_true', Bool.not_eq_false', Bool.and_eq_true, Bool.and_eq_false_iff, Bool.or_eq_true, Bool.or_eq_false_iff, decide_eq_true_eq, decide_eq_false_iff_not, beq_iff_eq, bne_iff_ne, Bool.not_true, Bool.not_false, Bool.true_eq_false, Bool.false_eq_true, ne_eq, Decidable.not_not, inB_t, inB_f] at ht)) | (refine ⟨_, rfl, ?_⟩; (try simp only [tupOf])))) | refine wSkip ?_ | (refine wExit ?_; simp only [thenQ, blockQ, reduceIte, Nat.reduceEqDiff]) | refine wSeq ?_ | refine wBlock ?_)
  all_goals (refine gives_intv ?_; unfold claimFault claimOk; (try simp only [Bool.not_eq_true', Bool.not_eq_false', Bool.and_eq_true, Bool.and_eq_false_iff, Bool.or_eq_true, Bool.or_eq_false_iff, decide_eq_true_eq, decide_eq_false_iff_not, beq_iff_eq, bne_iff_ne, Bool.not_true, Bool.not_false, Bool.true_eq_false, Bool.false_eq_true, ne_eq, Decidable.not_not, inB_t, inB_f] at *); (repeat' split) <;> (try simp only [Bool.not_eq_true', Bool.not_eq_false', Bool.and_eq_true, Bool.and_eq_false_iff, Bool.or_eq_true, Bool.or_eq_false_iff, decide_eq_true_eq, decide_eq_false_iff_not, beq_iff_eq, bne_iff_ne, Bool.not_true, Bool.not_false, Bool.true_eq_false, Bool.false_eq_true, ne_eq, Decidable.not_not, inB_t, inB_f] at *) <;> omega)
theorem c_iClaimFault (c : ClaimM) : ∀ H, call Tryd.prog cfg0 0 41 [.agg [.v (.int .i64 c.Node), .v (.int .i64 c.Inc), .v (.int .i64 c.Status), .v (.int .i64 c.Meta)]] H = some (.v (.int .i64 (claimFault c)), H) :=
  call_fz Tryd.func41 rfl ok_iClaimFault rfl (by simp only [fz_cons, fz_nil, go_sem, and_self]) (p_iClaimFault c)

theorem ok_sClaimFault : fnOk Tryd.prog cfg0 39 Tryd.f39 = true := by kernel_rfl
theorem p_sClaimFault (c : ClaimM) : pure Tryd.prog cfg0 39 Tryd.f39 [.agg [.v (.int .i64 c.Node), .v (.int .i64 c.Inc), .v (.int .i64 c.Status), .v (.int .i64 c.Meta)]] = some (.v (.int .i64 (claimFault c)), true) := by
  refine pure_wp (rs := [.tmp 2]) rfl rfl ?_
  have hp0 : ∀ b, cfg0.pol 39 b = 0 := fun b => rfl
  repeat' (first | ((first | refine wSeqr (fun xx hx => ?_) | refine wIf (fun xx hx => ?_) | refine wReg (fun xx hx => ?_) | (refine wRet ?_; (try simp only [thenQ, blockQ]); refine ends_by (fun xx hx => ?_))); have hc := trivial; (repeat' (simp only [hc, go_sem, Nat.reduceAdd, Nat.reduceMul, Nat.reduceSub, Nat.reduceEqDiff, Nat.reduceLT, Nat.reduceLeDiff, Int.reduceEq, Int.reduceLT, Int.reduceLE, reduceIte, aresults, aresult, hp0, c_sl1In] at hx; (try (rw [guardL_if] at hx; split at hx <;> rename_i hc)))); all_goals (subst hx; first | (refine ⟨_, rfl, fun ht => ?_, fun ht => ?_⟩ <;> (try simp only [Bool.not_eq_true', Bool.not_eq_false', Bool.and_eq_true, Bool.and_eq_false_iff, Bool.or_eq_true, Bool.or_eq_false_iff, decide_eq_true_eq, decide_eq_false_iff_not, beq_iff_eq, bne_iff_ne, Bool.not_true, Bool.not_false, Bool.true_eq_false, Bool.false_eq_true, ne_eq, Decidable.not_not, inB_t, inB_f] at ht)) | (refine ⟨_, rfl, ?_⟩; (try simp only [tupOf])))) | refine wSkip ?_ | (refine wExit ?_; simp only [thenQ, blockQ, reduceIte, Nat.reduceEqDiff]) | refine wSeq ?_ | refine wBlock ?_)
  all_goals (refine gives_intv ?_; unfold claimFault claimOk; (try simp only [Bool.not_eq_true', Bool.not_eq_false', Bool.and_eq_true, Bool.and_eq_false_iff, Bool.or_eq_true, Bool.or_eq_false_iff, decide_eq_true_eq, decide_eq_false_iff_not, beq_iff_eq, bne_iff_ne, Bool.not_true, Bool.not_false, Bool.true_eq_false, Bool.false_eq_true, ne_eq, Decidable.not_not, inB_t, inB_f] at *); (repeat' split) <;> (try simp only [Bool.not_eq_true', Bool.not_eq_false', Bool.and_eq_true, Bool.and_eq_false_iff, Bool.or_eq_true, Bool.or_eq_false_iff, decide_eq_true_eq, decide_eq_false_iff_not, beq_iff_eq, bne_iff_ne, Bool.not_true, Bool.not_false, Bool.true_eq_false, Bool.false_eq_true, ne_eq, Decidable.not_not, inB_t, inB_f] at *) <;> omega)
theorem c_sClaimFault (c : ClaimM) : ∀ H, call Tryd.prog cfg0 0 39 [.agg [.v (.int .i64 c.Node), .v (.int .i64 c.Inc), .v (.int .i64 c.Status), .v (.int .i64 c.Meta)]] H = some (.v (.int .i64 (claimFault c)), H) :=
  call_fz Tryd.func39 rfl ok_sClaimFault rfl (by simp only [fz_cons, fz_nil, go_sem, and_self]) (p_sClaimFault c)

theorem ok_ltoClaim : fnOk Tryd.prog cfg0 10 Tryd.f10 = true := by kernel_rfl
theorem p_ltoClaim (c : ClaimM) : pure Tryd.prog cfg0 10 Tryd.f10 [.agg [.v (.int .i64 c.Node), .v (.int .i64 c.Inc), .v (.int .i64 c.Status), .v (.int .i64 c.Meta)]] = some (.agg [.v (.int .i64 c.Node), .v (.int .i64 c.Inc), .v (.int .i64 c.Status), .v (.int .i64 c.Meta)], true) := by
  refine pure_wp (rs := [.cell 2 27]) rfl rfl ?_
  have hp0 : ∀ b, cfg0.pol 10 b = 0 := fun b => rfl
  repeat' (first | ((first | refine wSeqr (fun xx hx => ?_) | refine wIf (fun xx hx => ?_) | refine wReg (fun xx hx => ?_) | (refine wRet ?_; (try simp only [thenQ, blockQ]); refine ends_by (fun xx hx => ?_))); have hc := trivial; (repeat' (simp only [hc, go_sem, Nat.reduceAdd, Nat.reduceMul, Nat.reduceSub, Nat.reduceEqDiff, Nat.reduceLT, Nat.reduceLeDiff, Int.reduceEq, Int.reduceLT, Int.reduceLE, reduceIte, aresults, aresult, hp0] at hx; (try (rw [guardL_if] at hx; split at hx <;> rename_i hc)))); all_goals (subst hx; first | (refine ⟨_, rfl, fun ht => ?_, fun ht => ?_⟩ <;> (try simp only [Bool.not_eq_true', Bool.not_eq_false', Bool.and_eq_true, Bool.and_eq_false_iff, Bool.or_eq_true, Bool.or_eq_false_iff, decide_eq_true_eq, decide_eq_false_iff_not, beq_iff_eq, bne_iff_ne, Bool.not_true, Bool.not_false, Bool.true_eq_false, Bool.false_eq_true, ne_eq, Decidable.not_not, inB_t, inB_f] at ht)) | (refine ⟨_, rfl, ?_⟩; (try simp only [tupOf])))) | refine wSkip ?_ | (refine wExit ?_; simp only [thenQ, blockQ, reduceIte, Nat.reduceEqDiff]) | refine wSeq ?_ | refine wBlock ?_)
  all_goals exact ⟨rfl, rfl⟩
theorem c_ltoClaim (c : ClaimM) : ∀ H, call Tryd.prog cfg0 0 10 [.agg [.v (.int .i64 c.Node), .v (.int .i64 c.Inc), .v (.int .i64 c.Status), .v (.int .i64 c.Meta)]] H = some (.agg [.v (.int .i64 c.Node), .v (.int .i64 c.Inc), .v (.int .i64 c.Status), .v (.int .i64 c.Meta)], H) :=
  call_fz Tryd.func10 rfl ok_ltoClaim rfl (by simp only [fz_cons, fz_nil, go_sem, and_self]) (p_ltoClaim c)

/-- A claim's text, where it has no fault. -/
def letterOf (k : Int) : ByteArray := ⟨#[if k = 0 then 97 else if k = 1 then 115 else 100]⟩
def clText (c : ClaimM) : ByteArray := ((textOf c.Node ++ ⟨#[58]⟩) ++ textOf c.Inc) ++ letterOf c.Status
theorem ok_nat {c : ClaimM} (h : claimOk c = true) : ∃ a b d : Nat, c.Node = a ∧ c.Inc = b ∧ c.Status = d ∧ a ≤ 3 ∧ b ≤ 1000000 ∧ d ≤ 2 := by
  simp only [claimOk, inB, Bool.and_eq_true, decide_eq_true_eq] at h
  exact ⟨c.Node.toNat, c.Inc.toNat, c.Status.toNat, by omega, by omega, by omega, by omega, by omega, by omega⟩
theorem slice_asd (d : Nat) (hd : d ≤ 2) (e : Env) (H : Hp) (x y : Operand) (hx : opd e x = .v (.int .i64 (d : Int))) (hy : opd e y = .v (.int .i64 ((d : Int) + 1))) :
    aslice Tryd.prog H e 9 (.v (.string ⟨#[97, 115, 100]⟩)) (some x) (some y) none = some (.v (.string (letterOf d))) := by
  have h3 : (⟨#[97, 115, 100]⟩ : ByteArray).size = 3 := rfl
  simp only [aslice, u9, Option.isSome_none, Bool.false_eq_true, if_false, bound, hx, hy, natOf]
  rw [if_pos (by omega), if_pos (by omega)]
  simp only [Option.bind_some]
  rw [if_pos ⟨by omega, by rw [h3]; omega⟩]
  match d, hd with
  | 0, _ => rfl
  | 1, _ => rfl
  | 2, _ => rfl
theorem app_size (a b : ByteArray) : (a ++ b).size = a.size + b.size := ByteArray.size_append
end
end Go.Proofs.YtmncdkecpnoogaaDoor
