/- Contracts: signs of base 16. -/
import Derived.Test.YtmncdkecpnoogaaDoorH1
import Derived.Test.YtmncdkecpnoogaaDoorE31
namespace Go.Proofs.YtmncdkecpnoogaaDoor
open Go Go.RowKit Go.Proofs.YtmncdkecpnoogaaDoor.Eng
set_option linter.unusedSimpArgs false
set_option linter.unusedVariables false
set_option maxRecDepth 100000
set_option maxHeartbeats 1000000
noncomputable section
def hexS : List UInt8 := [48, 49, 50, 51, 52, 53, 54, 55, 56, 57, 97, 98, 99, 100, 101, 102]
def hexB (j : Nat) : UInt8 := hexS.getD j 0
theorem hexB_at {j : Nat} (h : j < 16) : hexS[j]? = some (hexB j) := by
  unfold hexB
  rw [List.getD_eq_getElem?_getD, List.getElem?_eq_getElem (show j < hexS.length by exact h)]; rfl
theorem hexA_at {j : Nat} (h : j < 16) : (⟨#[48, 49, 50, 51, 52, 53, 54, 55, 56, 57, 97, 98, 99, 100, 101, 102]⟩ : ByteArray).data.toList[j]? = some (hexB j) := hexB_at h
theorem hexA_at' {j : Nat} (h : j < 16) : (#[48, 49, 50, 51, 52, 53, 54, 55, 56, 57, 97, 98, 99, 100, 101, 102] : Array UInt8).toList[j]? = some (hexB j) := hexB_at h
/-- What a sign tells; -1: it is none. -/
def nibZ (c : Int) : Int := if 48 ≤ c ∧ c ≤ 57 then c - 48 else if 97 ≤ c ∧ c ≤ 102 then c - 87 else -1
theorem nib_yes : ∀ j : Fin 16, nibZ ((hexB j.val).toNat : Int) = j.val := by decide +kernel
theorem nib_no : ∀ c : Fin 256, (∀ j : Fin 16, (hexB j.val).toNat ≠ c.val) → nibZ (c.val : Int) = -1 := by decide +kernel
theorem nib_hexZ : ∀ c : Fin 256, (0 ≤ nibZ (c.val : Int) ↔ (hexZ c.val < 16 ∧ ((hexB (hexZ c.val).toNat).toNat : Int) = c.val)) ∧ (0 ≤ nibZ (c.val : Int) → hexZ c.val = nibZ c.val) ∧ 0 ≤ hexZ c.val := by decide +kernel
theorem nibZ_no {c : UInt8} (h : ∀ j, j < 16 → hexB j ≠ c) : nibZ (c.toNat : Int) = -1 := by
  have := nib_no ⟨c.toNat, UInt8.toNat_lt c⟩ fun j e => h j.val j.isLt (UInt8.toNat_inj.1 e)
  exact this
theorem ok_sl14Nibble : fnOk Tryd.prog cfg0 89 Tryd.f89 = true := by kernel_rfl
theorem p_sl14Nibble (c : UInt8) : pure Tryd.prog cfg0 89 Tryd.f89 [.v (.int .u8 (c.toNat : Int))] = some (.v (.int .i64 (nibZ (c.toNat : Int))), true) := by
  refine pure_wp (rs := [.tmp 2]) rfl rfl ?_
  have hp0 : ∀ b, cfg0.pol 89 b = 0 := fun b => rfl
  repeat' (first | ((first | refine wSeqr (fun xx hx => ?_) | refine wIf (fun xx hx => ?_) | refine wReg (fun xx hx => ?_) | (refine wRet ?_; (try simp only [thenQ, blockQ]); refine ends_by (fun xx hx => ?_))); have hc := trivial; (repeat' (simp only [hc, go_sem, Nat.reduceAdd, Nat.reduceMul, Nat.reduceSub, Nat.reduceEqDiff, Nat.reduceLT, Nat.reduceLeDiff, Int.reduceEq, Int.reduceLT, Int.reduceLE, reduceIte, aresults, aresult, hp0] at hx; (try (rw [guardL_if] at hx; split at hx <;> rename_i hc)))); all_goals (subst hx; first | (refine ⟨_, rfl, fun ht => ?_, fun ht => ?_⟩ <;> (try simp only [Bool.not_eq_true', Bool.not_eq_false', Bool.and_eq_true, Bool.and_eq_false_iff, Bool.or_eq_true, Bool.or_eq_false_iff, decide_eq_true_eq, decide_eq_false_iff_not, beq_iff_eq, bne_iff_ne, Bool.not_true, Bool.not_false, Bool.true_eq_false, Bool.false_eq_true, ne_eq, Decidable.not_not, inB_t, inB_f] at ht)) | (refine ⟨_, rfl, ?_⟩; (try simp only [tupOf])))) | refine wSkip ?_ | (refine wExit ?_; simp only [thenQ, blockQ, reduceIte, Nat.reduceEqDiff]) | refine wSeq ?_ | refine wBlock ?_)
  refine wLoop (fun k s => ∃ (j : Nat), j + k = 16 ∧ s.1 0 = .v (.int .u8 (c.toNat : Int)) ∧ s.1 3 = .v (.int .i64 (j : Nat)) ∧ (∀ i, i < j → hexB i ≠ c)) (fun k s hI => ?_) (16) _ ?_
  · obtain ⟨e, H⟩ := s
    obtain ⟨j, hj, h0, h3, hno⟩ := hI
    simp only at h0 h3 hno
    by_cases hlt : j < 16
    · have hg := hexA_at hlt
      have hg2 := hexA_at' hlt
      have hjI : ((j : Nat) : Int) < 16 := by omega
      by_cases he : hexB j = c
      · have heI : ((hexB j).toNat : Int) = (c.toNat : Int) := by rw [he]
        repeat' (first | ((first | refine wSeqr (fun xx hx => ?_) | refine wIf (fun xx hx => ?_) | refine wReg (fun xx hx => ?_) | (refine wRet ?_; (try simp only [thenQ, blockQ]); refine ends_by (fun xx hx => ?_))); have hc := trivial; (repeat' (simp only [hc, go_sem, Nat.reduceAdd, Nat.reduceMul, Nat.reduceSub, Nat.reduceEqDiff, Nat.reduceLT, Nat.reduceLeDiff, Int.reduceEq, Int.reduceLT, Int.reduceLE, reduceIte, aresults, aresult, hp0, h0, h3, hjI, hg, hg2, heI] at hx; (try (rw [guardL_if] at hx; split at hx <;> rename_i hc)))); all_goals (subst hx; first | (refine ⟨_, rfl, fun ht => ?_, fun ht => ?_⟩ <;> (try simp only [Bool.not_eq_true', Bool.not_eq_false', Bool.and_eq_true, Bool.and_eq_false_iff, Bool.or_eq_true, Bool.or_eq_false_iff, decide_eq_true_eq, decide_eq_false_iff_not, beq_iff_eq, bne_iff_ne, Bool.not_true, Bool.not_false, Bool.true_eq_false, Bool.false_eq_true, ne_eq, Decidable.not_not, inB_t, inB_f] at ht)) | (refine ⟨_, rfl, ?_⟩; (try simp only [tupOf])))) | refine wSkip ?_ | (refine wExit ?_; simp only [thenQ, blockQ, reduceIte, Nat.reduceEqDiff]) | refine wSeq ?_ | refine wBlock ?_)
        all_goals
          refine gives_intv ?_
          rw [← he]
          exact (nib_yes ⟨j, hlt⟩).symm
      · have heI : ¬ ((hexB j).toNat : Int) = (c.toNat : Int) := fun h => he (UInt8.toNat_inj.1 (by omega))
        repeat' (first | ((first | refine wSeqr (fun xx hx => ?_) | refine wIf (fun xx hx => ?_) | refine wReg (fun xx hx => ?_) | (refine wRet ?_; (try simp only [thenQ, blockQ]); refine ends_by (fun xx hx => ?_))); have hc := trivial; (repeat' (simp only [hc, go_sem, Nat.reduceAdd, Nat.reduceMul, Nat.reduceSub, Nat.reduceEqDiff, Nat.reduceLT, Nat.reduceLeDiff, Int.reduceEq, Int.reduceLT, Int.reduceLE, reduceIte, aresults, aresult, hp0, h0, h3, hjI, hg, hg2, heI, wrap_succ (show j < 9223372036854775807 by omega)] at hx; (try (rw [guardL_if] at hx; split at hx <;> rename_i hc)))); all_goals (subst hx; first | (refine ⟨_, rfl, fun ht => ?_, fun ht => ?_⟩ <;> (try simp only [Bool.not_eq_true', Bool.not_eq_false', Bool.and_eq_true, Bool.and_eq_false_iff, Bool.or_eq_true, Bool.or_eq_false_iff, decide_eq_true_eq, decide_eq_false_iff_not, beq_iff_eq, bne_iff_ne, Bool.not_true, Bool.not_false, Bool.true_eq_false, Bool.false_eq_true, ne_eq, Decidable.not_not, inB_t, inB_f] at ht)) | (refine ⟨_, rfl, ?_⟩; (try simp only [tupOf])))) | refine wSkip ?_ | (refine wExit ?_; simp only [thenQ, blockQ, reduceIte, Nat.reduceEqDiff]) | refine wSeq ?_ | refine wBlock ?_)
        refine ⟨_, Nat.sub_lt (by omega) Nat.one_pos, j + 1, by omega, by simp only [upd_eq, Nat.reduceEqDiff, if_false, if_true, h0, h3], by simp only [upd_eq, Nat.reduceEqDiff, if_false, if_true, h0, h3], ?_⟩
        intro i hi
        by_cases hij : i = j
        · rw [hij]; exact he
        · exact hno i (by omega)
    · have hjI : ¬ ((j : Nat) : Int) < 16 := by omega
      repeat' (first | ((first | refine wSeqr (fun xx hx => ?_) | refine wIf (fun xx hx => ?_) | refine wReg (fun xx hx => ?_) | (refine wRet ?_; (try simp only [thenQ, blockQ]); refine ends_by (fun xx hx => ?_))); have hc := trivial; (repeat' (simp only [hc, go_sem, Nat.reduceAdd, Nat.reduceMul, Nat.reduceSub, Nat.reduceEqDiff, Nat.reduceLT, Nat.reduceLeDiff, Int.reduceEq, Int.reduceLT, Int.reduceLE, reduceIte, aresults, aresult, hp0, h0, h3, hjI] at hx; (try (rw [guardL_if] at hx; split at hx <;> rename_i hc)))); all_goals (subst hx; first | (refine ⟨_, rfl, fun ht => ?_, fun ht => ?_⟩ <;> (try simp only [Bool.not_eq_true', Bool.not_eq_false', Bool.and_eq_true, Bool.and_eq_false_iff, Bool.or_eq_true, Bool.or_eq_false_iff, decide_eq_true_eq, decide_eq_false_iff_not, beq_iff_eq, bne_iff_ne, Bool.not_true, Bool.not_false, Bool.true_eq_false, Bool.false_eq_true, ne_eq, Decidable.not_not, inB_t, inB_f] at ht)) | (refine ⟨_, rfl, ?_⟩; (try simp only [tupOf])))) | refine wSkip ?_ | (refine wExit ?_; simp only [thenQ, blockQ, reduceIte, Nat.reduceEqDiff]) | refine wSeq ?_ | refine wBlock ?_)
      all_goals
        refine gives_intv ?_
        rw [nibZ_no fun i hi => hno i (by omega)]
  · refine ⟨0, by omega, rfl, rfl, ?_⟩
    intro i hi; omega
theorem c_sl14Nibble (c : UInt8) : ∀ H, call Tryd.prog cfg0 0 89 [.v (.int .u8 (c.toNat : Int))] H = some (.v (.int .i64 (nibZ (c.toNat : Int))), H) :=
  call_fz Tryd.func89 rfl ok_sl14Nibble rfl (by simp only [fz_cons, fz_nil, go_sem, and_self]) (p_sl14Nibble c)

theorem ok_inoBytes : fnOk Tryd.prog cfg0 69 Tryd.f69 = true := by kernel_rfl
theorem pq_inoBytes (n : Int) : pure Tryd.prog cfg0 69 Tryd.f69 [.v (.int .i64 n)] = some (.agg [.v (.int .i64 n), .lst false []], true) ∧ owned Tryd.prog cfg0 69 Tryd.f69 [.v (.int .i64 n)] = some (.agg [.v (.int .i64 n), .lst false []]) := by
  refine both_wp (rs := [.cell 2 63]) rfl rfl ?_
  have hp0 : ∀ b, cfg0.pol 69 b = 0 := fun b => rfl
  repeat' (first | ((first | refine wSeqr (fun xx hx => ?_) | refine wIf (fun xx hx => ?_) | refine wReg (fun xx hx => ?_) | (refine wRet ?_; (try simp only [thenQ, blockQ]); refine ends_by (fun xx hx => ?_))); have hc := trivial; (repeat' (simp only [hc, go_sem, Nat.reduceAdd, Nat.reduceMul, Nat.reduceSub, Nat.reduceEqDiff, Nat.reduceLT, Nat.reduceLeDiff, Int.reduceEq, Int.reduceLT, Int.reduceLE, reduceIte, aresults, aresult, hp0] at hx; (try (rw [guardL_if] at hx; split at hx <;> rename_i hc)))); all_goals (subst hx; first | (refine ⟨_, rfl, fun ht => ?_, fun ht => ?_⟩ <;> (try simp only [Bool.not_eq_true', Bool.not_eq_false', Bool.and_eq_true, Bool.and_eq_false_iff, Bool.or_eq_true, Bool.or_eq_false_iff, decide_eq_true_eq, decide_eq_false_iff_not, beq_iff_eq, bne_iff_ne, Bool.not_true, Bool.not_false, Bool.true_eq_false, Bool.false_eq_true, ne_eq, Decidable.not_not, inB_t, inB_f] at ht)) | (refine ⟨_, rfl, ?_⟩; (try simp only [tupOf])))) | refine wSkip ?_ | (refine wExit ?_; simp only [thenQ, blockQ, reduceIte, Nat.reduceEqDiff]) | refine wSeq ?_ | refine wBlock ?_)
  all_goals exact ⟨⟨rfl, rfl⟩, own_agg2 ⟨[], rfl, List.nodup_nil⟩⟩
theorem p_inoBytes (n : Int) : pure Tryd.prog cfg0 69 Tryd.f69 [.v (.int .i64 n)] = some (.agg [.v (.int .i64 n), .lst false []], true) := (pq_inoBytes n).1
theorem c_inoBytes (n : Int) : ∀ H, call Tryd.prog cfg0 0 69 [.v (.int .i64 n)] H = some (.agg [.v (.int .i64 n), .lst false []], H) :=
  call_fz Tryd.func69 rfl ok_inoBytes rfl (by simp only [fz_cons, fz_nil, go_sem, and_self]) (pq_inoBytes n).1
theorem o_inoBytes (n : Int) : ∀ H, call Tryd.prog cfg0 1 69 [.v (.int .i64 n)] H = mat depthD (.agg [.v (.int .i64 n), .lst false []]) H := fun H =>
  call_ofO Tryd.func69 rfl ok_inoBytes rfl (mapM_self fun x hx => ((show ∀ x ∈ ([.v (.int .i64 n)] : List AV), Fz depthD x by simp only [fz_cons, fz_nil, go_sem, and_self]) x hx).1 H) (pq_inoBytes n).2

theorem conv_bs (z y : Int) (H : Hp) (b : Nat) (hb : H.h b = some [.v (.int .u8 z), .v (.int .u8 y)]) : aconv Tryd.prog H 47 9 (.sl b 1 0 2) = some (.v (.string ⟨#[UInt8.ofNat z.toNat, UInt8.ofNat y.toNat]⟩)) := by
  simp [aconv, u47, u9, u5, hb, bytesIn]
/-- The text of a byte. -/
def hexT (n : Nat) : ByteArray := ⟨#[hexB (n / 16), hexB (n % 16)]⟩
theorem ok_iHex1 : fnOk Tryd.prog cfg0 91 Tryd.f91 = true := by kernel_rfl
theorem p_iHex1 (n : Nat) (hn : n < 256) : pure Tryd.prog cfg0 91 Tryd.f91 [bytesL [(n : Int)]] = some (.agg [.v (.int .i64 0), .v (.string (hexT n))], true) := by
  refine pure_wp (rs := [.cell 2 25]) rfl rfl ?_
  have hp0 : ∀ b, cfg0.pol 91 b = 0 := fun b => rfl
  have q1 : Int.tdiv (n : Int) 16 = ((n / 16 : Nat) : Int) := by rw [Int.tdiv_eq_ediv_of_nonneg (by omega)]; omega
  have q2 : Int.tmod (n : Int) 16 = ((n % 16 : Nat) : Int) := by rw [Int.tmod_eq_emod_of_nonneg (by omega)]; omega
  have w1 : IntKind.wrap .u8 ((n / 16 : Nat) : Int) = ((n / 16 : Nat) : Int) := wrap_u8 (by omega) (by omega)
  have g1 := hexA_at (show n / 16 < 16 by omega)
  have g2 := hexA_at (show n % 16 < 16 by omega)
  have g1' := hexA_at' (show n / 16 < 16 by omega)
  have g2' := hexA_at' (show n % 16 < 16 by omega)
  obtain ⟨l, hl⟩ : ∃ l, l = [(n : Int)] := ⟨_, rfl⟩
  rw [← hl]
  have l1 : (l.length : Int) = 1 := by rw [hl]; rfl
  have t1 : UInt8.ofNat ((hexB (n / 16)).toNat : Int).toNat = hexB (n / 16) := by simp
  have t2 : UInt8.ofNat ((hexB (n % 16)).toNat : Int).toNat = hexB (n % 16) := by simp
  have hT : hexT n = ⟨#[UInt8.ofNat ((hexB (n / 16)).toNat : Int).toNat, UInt8.ofNat ((hexB (n % 16)).toNat : Int).toNat]⟩ := by rw [t1, t2]; rfl
  rw [hT]
  clear hT t1 t2
  generalize (n / 16 : Nat) = q at *
  generalize (n % 16 : Nat) = r at *
  repeat' (first | ((first | refine wSeqr (fun xx hx => ?_) | refine wIf (fun xx hx => ?_) | refine wReg (fun xx hx => ?_) | (refine wRet ?_; (try simp only [thenQ, blockQ]); refine ends_by (fun xx hx => ?_))); have hc := trivial; (repeat' (simp only [hc, go_sem, Nat.reduceAdd, Nat.reduceMul, Nat.reduceSub, Nat.reduceEqDiff, Nat.reduceLT, Nat.reduceLeDiff, Int.reduceEq, Int.reduceLT, Int.reduceLE, reduceIte, aresults, aresult, hp0, l1] at hx; (try (rw [guardL_if] at hx; split at hx <;> rename_i hc)))); all_goals (subst hx; first | (refine ⟨_, rfl, fun ht => ?_, fun ht => ?_⟩ <;> (try simp only [Bool.not_eq_true', Bool.not_eq_false', Bool.and_eq_true, Bool.and_eq_false_iff, Bool.or_eq_true, Bool.or_eq_false_iff, decide_eq_true_eq, decide_eq_false_iff_not, beq_iff_eq, bne_iff_ne, Bool.not_true, Bool.not_false, Bool.true_eq_false, Bool.false_eq_true, ne_eq, Decidable.not_not, inB_t, inB_f] at ht)) | (refine ⟨_, rfl, ?_⟩; (try simp only [tupOf])))) | refine wSkip ?_ | (refine wExit ?_; simp only [thenQ, blockQ, reduceIte, Nat.reduceEqDiff]) | refine wSeq ?_ | refine wBlock ?_)
  refine wLoop (fun k s => ∃ (j : Nat), j + k = 1 ∧ s.1 11 = bytesL l ∧ s.1 12 = .v (.int .i64 1) ∧ s.1 13 = .v (.int .i64 (j : Nat)) ∧ s.1 2 = .ptr 0 0 ∧ ((j = 0 ∧ s.1 3 = .lst true [] ∧ s.2 = Hp.nil.new [.v (.int .i64 0), .v (.string ⟨#[]⟩)]) ∨ (j = 1 ∧ s.1 3 = .sl 1 1 0 2 ∧ s.2 = (Hp.nil.new [.v (.int .i64 0), .v (.string ⟨#[]⟩)]).new [.v (.int .u8 (hexB q).toNat), .v (.int .u8 (hexB r).toNat)]))) (fun k s hI => ?_) (1) _ ?_
  · obtain ⟨e, H⟩ := s
    obtain ⟨j, hj, h11, h12, h13, h2, hs⟩ := hI
    simp only at h11 h12 h13 h2 hs
    rcases hs with ⟨hj0, h3, rfl⟩ | ⟨hj1, h3, rfl⟩
    · have gg' : (l.map fun z => [AV.v (.int .u8 z)])[j]? = some [.v (.int .u8 n)] := by rw [hj0, hl]; rfl
      have hjI : ((j : Nat) : Int) < 1 := by omega
      repeat' (first | ((first | refine wSeqr (fun xx hx => ?_) | refine wIf (fun xx hx => ?_) | refine wReg (fun xx hx => ?_) | (refine wRet ?_; (try simp only [thenQ, blockQ]); refine ends_by (fun xx hx => ?_))); have hc := trivial; (repeat' (simp only [hc, go_sem, Nat.reduceAdd, Nat.reduceMul, Nat.reduceSub, Nat.reduceEqDiff, Nat.reduceLT, Nat.reduceLeDiff, Int.reduceEq, Int.reduceLT, Int.reduceLE, reduceIte, aresults, aresult, hp0, h11, h12, h13, h2, h3, bytesL, cell, gg', hjI, q1, q2, w1, g1, g2, g1', g2', wrap_succ (show j < 9223372036854775807 by omega)] at hx; (try (rw [guardL_if] at hx; split at hx <;> rename_i hc)))); all_goals (subst hx; first | (refine ⟨_, rfl, fun ht => ?_, fun ht => ?_⟩ <;> (try simp only [Bool.not_eq_true', Bool.not_eq_false', Bool.and_eq_true, Bool.and_eq_false_iff, Bool.or_eq_true, Bool.or_eq_false_iff, decide_eq_true_eq, decide_eq_false_iff_not, beq_iff_eq, bne_iff_ne, Bool.not_true, Bool.not_false, Bool.true_eq_false, Bool.false_eq_true, ne_eq, Decidable.not_not, inB_t, inB_f] at ht)) | (refine ⟨_, rfl, ?_⟩; (try simp only [tupOf])))) | refine wSkip ?_ | (refine wExit ?_; simp only [thenQ, blockQ, reduceIte, Nat.reduceEqDiff]) | refine wSeq ?_ | refine wBlock ?_)
      all_goals try (exfalso; omega)
      refine ⟨_, Nat.sub_lt (by omega) Nat.one_pos, j + 1, by omega, by simp only [upd_eq, Nat.reduceEqDiff, if_false, if_true, h11, h12, h13, h2], by simp only [upd_eq, Nat.reduceEqDiff, if_false, if_true, h11, h12, h13, h2], by simp only [upd_eq, Nat.reduceEqDiff, if_false, if_true, h11, h12, h13, h2], by simp only [upd_eq, Nat.reduceEqDiff, if_false, if_true, h11, h12, h13, h2], ?_⟩
      exact Or.inr ⟨by omega, by simp only [upd_eq, Nat.reduceEqDiff, if_false, if_true], rfl⟩
    · have hcv := conv_bs ((hexB q).toNat : Int) ((hexB r).toNat : Int) ((Hp.nil.new [.v (.int .i64 0), .v (.string ⟨#[]⟩)]).new [.v (.int .u8 (hexB q).toNat), .v (.int .u8 (hexB r).toNat)]) 1 rfl
      have hjI : ¬ ((j : Nat) : Int) < 1 := by omega
      repeat' (first | ((first | refine wSeqr (fun xx hx => ?_) | refine wIf (fun xx hx => ?_) | refine wReg (fun xx hx => ?_) | (refine wRet ?_; (try simp only [thenQ, blockQ]); refine ends_by (fun xx hx => ?_))); have hc := trivial; (repeat' (simp only [hc, go_sem, Nat.reduceAdd, Nat.reduceMul, Nat.reduceSub, Nat.reduceEqDiff, Nat.reduceLT, Nat.reduceLeDiff, Int.reduceEq, Int.reduceLT, Int.reduceLE, reduceIte, aresults, aresult, hp0, h11, h12, h13, h2, h3, hcv, hjI] at hx; (try (rw [guardL_if] at hx; split at hx <;> rename_i hc)))); all_goals (subst hx; first | (refine ⟨_, rfl, fun ht => ?_, fun ht => ?_⟩ <;> (try simp only [Bool.not_eq_true', Bool.not_eq_false', Bool.and_eq_true, Bool.and_eq_false_iff, Bool.or_eq_true, Bool.or_eq_false_iff, decide_eq_true_eq, decide_eq_false_iff_not, beq_iff_eq, bne_iff_ne, Bool.not_true, Bool.not_false, Bool.true_eq_false, Bool.false_eq_true, ne_eq, Decidable.not_not, inB_t, inB_f] at ht)) | (refine ⟨_, rfl, ?_⟩; (try simp only [tupOf])))) | refine wSkip ?_ | (refine wExit ?_; simp only [thenQ, blockQ, reduceIte, Nat.reduceEqDiff]) | refine wSeq ?_ | refine wBlock ?_)
      all_goals try (exfalso; omega)
      all_goals exact ⟨rfl, rfl⟩
  · refine ⟨0, by omega, rfl, rfl, rfl, rfl, ?_⟩
    exact Or.inl ⟨rfl, by simp only [upd_eq, Nat.reduceEqDiff, if_false, if_true], rfl⟩
theorem c_iHex1 (n : Nat) (hn : n < 256) : ∀ H, call Tryd.prog cfg0 0 91 [bytesL [(n : Int)]] H = some (.agg [.v (.int .i64 0), .v (.string (hexT n))], H) :=
  call_fz Tryd.func91 rfl ok_iHex1 rfl (by simp only [fz_cons, fz_nil, go_sem, and_self]) (p_iHex1 n hn)

end
end Go.Proofs.YtmncdkecpnoogaaDoor
