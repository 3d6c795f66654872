/- Contracts: two signs read as a number of base 16 (strconv). -/
import Derived.Test.YtmncdkecpnoogaaDoorD7
namespace Go.Proofs.YtmncdkecpnoogaaDoor
open Go Go.RowKit Go.Proofs.YtmncdkecpnoogaaDoor.Eng
set_option linter.unusedSimpArgs false
set_option linter.unusedVariables false
set_option maxRecDepth 100000
set_option maxHeartbeats 1000000
noncomputable section
def lowI (z : Int) : Int := IntKind.wrap .u8 ((BitVec.ofInt 8 z ||| BitVec.ofInt 8 32).toNat : Int)
theorem lowI_b (z : Int) : 0 ≤ lowI z ∧ lowI z ≤ 255 := by
  unfold lowI
  have h : (BitVec.ofInt 8 z ||| BitVec.ofInt 8 32).toNat < 2 ^ 8 := BitVec.isLt _
  rw [wrap_u8 (by omega) (by omega)]; omega
theorem ok_lower : fnOk Tryd.prog cfg0 109 Tryd.f109 = true := by kernel_rfl
theorem p_lower (z : Int) : pure Tryd.prog cfg0 109 Tryd.f109 [.v (.int .u8 z)] = some (.v (.int .u8 (lowI z)), true) := by
  refine pure_wp (rs := [.tmp 2]) rfl rfl ?_
  have hp0 : ∀ b, cfg0.pol 109 b = 0 := fun b => rfl
  repeat' (first | ((first | refine wSeqr (fun xx hx => ?_) | refine wIf (fun xx hx => ?_) | refine wReg (fun xx hx => ?_) | (refine wRet ?_; (try simp only [thenQ, blockQ]); refine ends_by (fun xx hx => ?_))); have hc := trivial; (repeat' (simp only [hc, go_sem, Nat.reduceAdd, Nat.reduceMul, Nat.reduceSub, Nat.reduceEqDiff, Nat.reduceLT, Nat.reduceLeDiff, Int.reduceEq, Int.reduceLT, Int.reduceLE, reduceIte, aresults, aresult, hp0] at hx; (try (rw [guardL_if] at hx; split at hx <;> rename_i hc)))); all_goals (subst hx; first | (refine ⟨_, rfl, fun ht => ?_, fun ht => ?_⟩ <;> (try simp only [Bool.not_eq_true', Bool.not_eq_false', Bool.and_eq_true, Bool.and_eq_false_iff, Bool.or_eq_true, Bool.or_eq_false_iff, decide_eq_true_eq, decide_eq_false_iff_not, beq_iff_eq, bne_iff_ne, Bool.not_true, Bool.not_false, Bool.true_eq_false, Bool.false_eq_true, ne_eq, Decidable.not_not, inB_t, inB_f] at ht)) | (refine ⟨_, rfl, ?_⟩; (try simp only [tupOf])))) | refine wSkip ?_ | (refine wExit ?_; simp only [thenQ, blockQ, reduceIte, Nat.reduceEqDiff]) | refine wSeq ?_ | refine wBlock ?_)
  all_goals exact ⟨rfl, rfl⟩
theorem c_lower (z : Int) : ∀ H, call Tryd.prog cfg0 0 109 [.v (.int .u8 z)] H = some (.v (.int .u8 (lowI z)), H) :=
  call_fz Tryd.func109 rfl ok_lower rfl (by simp only [fz_cons, fz_nil, go_sem, and_self]) (p_lower z)

/-- The value of a sign as a digit; 99: it is none. -/
def hexZ (z : Int) : Int := if 48 ≤ z ∧ z ≤ 57 then z - 48 else if 97 ≤ lowI z ∧ lowI z ≤ 122 then lowI z - 97 + 10 else 99
def hv (l : List Int) : Int := l.foldl (fun a z => a * 16 + hexZ z) 0
theorem hv_snoc (l : List Int) (z : Int) : hv (l ++ [z]) = hv l * 16 + hexZ z := by simp [hv]
def hexOk (l : List Int) : Bool := l.all fun z => decide (hexZ z < 16)
def puRes (l : List Int) : AV := if hexOk l = true then .tup [.v (.int .u64 (hv l)), .v .nilIface] else .tup [.v (.int .u64 0), .v (.iface 117 (.int .i64 2))]
theorem mkErr (n : Int) : amkI Tryd.prog 117 (.v (.int .i64 n)) = some (.v (.iface 117 (.int .i64 n))) := by
  unfold amkI
  simp only
  rw [if_pos (by kernel_rfl)]
theorem bc2 (a b : UInt8) : AV.lst false (byteCells ⟨#[a, b]⟩) = bytesL [(a.toNat : Int), (b.toNat : Int)] := rfl
theorem conv_sb (s : ByteArray) (H : Hp) : aconv Tryd.prog H 9 47 (.v (.string s)) = some (.lst false (byteCells s)) := by simp [aconv, u9, u47, u5]
theorem conv_ii (k : IntKind) (n : Int) (H : Hp) : aconv Tryd.prog H 3 5 (.v (.int k n)) = some (.v (.int .u8 (IntKind.wrap .u8 n))) := by simp [aconv, u3, u5]
theorem conv_i6 (k : IntKind) (n : Int) (H : Hp) : aconv Tryd.prog H 3 111 (.v (.int k n)) = some (.v (.int .u64 (IntKind.wrap .u64 n))) := by simp [aconv, u3, u111]
theorem conv_iu (k : IntKind) (n : Int) (H : Hp) : aconv Tryd.prog H 3 118 (.v (.int k n)) = some (.v (.int .u64 (IntKind.wrap .u64 n))) := by simp [aconv, u3, u118]
theorem conv_b6 (k : IntKind) (n : Int) (H : Hp) : aconv Tryd.prog H 5 111 (.v (.int k n)) = some (.v (.int .u64 (IntKind.wrap .u64 n))) := by simp [aconv, u5, u111]
theorem w16 : IntKind.wrap .u8 16 = 16 := rfl
theorem w166 : IntKind.wrap .u64 16 = 16 := rfl
theorem w86 : IntKind.wrap .u64 8 = 8 := rfl
theorem shl8 : abinV .shl (.int .u64 1) (.int .u64 8) = some (.int .u64 256) := rfl
theorem wrap_u64 {z : Int} (h1 : 0 ≤ z) (h2 : z ≤ 18446744073709551615) : IntKind.wrap .u64 z = z := by
  simp [IntKind.wrap, IntKind.bits, IntKind.signed]; omega
theorem ok_iPU : fnOk Tryd.prog cfg0 96 Tryd.f96 = true := by kernel_rfl
theorem p_iPU (a b : UInt8) : pure Tryd.prog cfg0 96 Tryd.f96 [.v (.string ⟨#[a, b]⟩), .v (.int .i64 16), .v (.int .i64 8)] = some (puRes [(a.toNat : Int), (b.toNat : Int)], true) := by
  refine pure_wp (rs := [.tmp 6, .tmp 7]) rfl rfl ?_
  have hp0 : ∀ b, cfg0.pol 96 b = 0 := fun b => rfl
  have hls : ((⟨#[a, b]⟩ : ByteArray).toList == (⟨#[]⟩ : ByteArray).toList) = false := by
    rw [str_eq]; simp
  have ha := UInt8.toNat_lt a
  have hb := UInt8.toNat_lt b
  repeat' (first | ((first | refine wSeqr (fun xx hx => ?_) | refine wIf (fun xx hx => ?_) | refine wReg (fun xx hx => ?_) | (refine wRet ?_; (try simp only [thenQ, blockQ]); refine ends_by (fun xx hx => ?_))); have hc := trivial; (repeat' (simp only [hc, go_sem, Nat.reduceAdd, Nat.reduceMul, Nat.reduceSub, Nat.reduceEqDiff, Nat.reduceLT, Nat.reduceLeDiff, Int.reduceEq, Int.reduceLT, Int.reduceLE, reduceIte, aresults, aresult, hp0, hls, conv_sb, bc2, conv_iu, w86, shl8] at hx; (try (rw [guardL_if] at hx; split at hx <;> rename_i hc)))); all_goals (subst hx; first | (refine ⟨_, rfl, fun ht => ?_, fun ht => ?_⟩ <;> (try simp only [Bool.not_eq_true', Bool.not_eq_false', Bool.and_eq_true, Bool.and_eq_false_iff, Bool.or_eq_true, Bool.or_eq_false_iff, decide_eq_true_eq, decide_eq_false_iff_not, beq_iff_eq, bne_iff_ne, Bool.not_true, Bool.not_false, Bool.true_eq_false, Bool.false_eq_true, ne_eq, Decidable.not_not, inB_t, inB_f] at ht)) | (refine ⟨_, rfl, ?_⟩; (try simp only [tupOf])))) | refine wSkip ?_ | (refine wExit ?_; simp only [thenQ, blockQ, reduceIte, Nat.reduceEqDiff]) | refine wSeq ?_ | refine wBlock ?_)
  generalize hl : [(a.toNat : Int), (b.toNat : Int)] = l
  have hlen : l.length = 2 := by rw [← hl]; rfl
  have hbd : ∀ z ∈ l, 0 ≤ z ∧ z ≤ 255 := by
    rw [← hl]; intro z hz; simp at hz; rcases hz with rfl | rfl <;> omega
  have hlenI : (l.length : Int) = 2 := by omega
  refine wLoop (fun k s => ∃ (j : Nat), j + k = 2 ∧ s.1 1 = .v (.int .i64 16) ∧ s.1 8 = .v (.bool false) ∧ s.1 10 = .v (.int .u64 1152921504606846976) ∧ s.1 11 = .v (.int .u64 255) ∧ s.1 12 = .v (.bool false) ∧ s.1 13 = .v (.int .u64 (hv (l.take j))) ∧ s.1 99 = bytesL l ∧ s.1 100 = .v (.int .i64 2) ∧ s.1 101 = .v (.int .i64 (j : Nat)) ∧ (hexOk (l.take j) = true) ∧ (0 ≤ hv (l.take j) ∧ (j ≤ 1 → hv (l.take j) ≤ 15))) (fun k s hI => ?_) (2) _ ?_
  · obtain ⟨e, H⟩ := s
    obtain ⟨j, hj, h1, h8, h10, h11, h12, h13, h99, h100, h101, hok, hvb⟩ := hI
    simp only at h1 h8 h10 h11 h12 h13 h99 h100 h101 hok hvb
    by_cases hlt : j < 2
    · obtain ⟨z, hg, hd, hm⟩ := at_drop (show j < l.length by omega)
      have hz := hbd z hm
      have hg' : (l.map fun z => [AV.v (.int .u8 z)])[j]? = some [.v (.int .u8 z)] := by rw [List.getElem?_map, hg]; rfl
      have htk : l.take (j + 1) = l.take j ++ [z] := by rw [List.take_add_one, hg]; rfl
      have hlo := lowI_b z
      have hn15 := hvb.2 (by omega)
      have hjI : ((j : Nat) : Int) < 2 := by omega
      have hno : ¬ hexZ z < 16 → hexOk l = false := by
        intro h; exact List.all_eq_false.2 ⟨z, hm, by simpa using h⟩
      have n95 : z = 95 → hexZ z = 99 := by
        rintro rfl; rfl
      have step : ∀ d : Int, hexZ z = d → 0 ≤ d → d < 16 → (hexOk (l.take (j + 1)) = true ∧ (0 ≤ hv (l.take (j + 1)) ∧ (j + 1 ≤ 1 → hv (l.take (j + 1)) ≤ 15)) ∧ hv (l.take j) * 16 + d = hv (l.take (j + 1)) ∧ hv (l.take j) * 16 + d ≤ 255 ∧ hv (l.take j) * 16 ≤ 240) := by
        intro d hd h0 h16
        rw [htk, hv_snoc, hd]
        refine ⟨?_, ⟨by omega, fun h1 => ?_⟩, rfl, by omega, by omega⟩
        · unfold hexOk at hok ⊢
          rw [List.all_append, hok]; simp [hd, h16]
        · obtain rfl : j = 0 := by omega
          simp [hv]; omega
      by_cases h5 : z = 95
      · have hn := hno (by rw [n95 h5]; omega)
        subst h5
        have hlw : lowI 95 = 127 := rfl
        repeat' (first | ((first | refine wSeqr (fun xx hx => ?_) | refine wIf (fun xx hx => ?_) | refine wReg (fun xx hx => ?_) | (refine wRet ?_; (try simp only [thenQ, blockQ]); refine ends_by (fun xx hx => ?_))); have hc := trivial; (repeat' (simp only [hc, go_sem, Nat.reduceAdd, Nat.reduceMul, Nat.reduceSub, Nat.reduceEqDiff, Nat.reduceLT, Nat.reduceLeDiff, Int.reduceEq, Int.reduceLT, Int.reduceLE, reduceIte, aresults, aresult, hp0, h1, h8, h10, h11, h12, h13, h99, h100, h101, bytesL, cell, hjI, hg', c_lower, hlw, mkErr] at hx; (try (rw [guardL_if] at hx; split at hx <;> rename_i hc)))); all_goals (subst hx; first | (refine ⟨_, rfl, fun ht => ?_, fun ht => ?_⟩ <;> (try simp only [Bool.not_eq_true', Bool.not_eq_false', Bool.and_eq_true, Bool.and_eq_false_iff, Bool.or_eq_true, Bool.or_eq_false_iff, decide_eq_true_eq, decide_eq_false_iff_not, beq_iff_eq, bne_iff_ne, Bool.not_true, Bool.not_false, Bool.true_eq_false, Bool.false_eq_true, ne_eq, Decidable.not_not, inB_t, inB_f] at ht)) | (refine ⟨_, rfl, ?_⟩; (try simp only [tupOf])))) | refine wSkip ?_ | (refine wExit ?_; simp only [thenQ, blockQ, reduceIte, Nat.reduceEqDiff]) | refine wSeq ?_ | refine wBlock ?_)
        all_goals (refine ⟨?_, rfl⟩; unfold puRes; rw [hn]; rfl)
      by_cases hA : 48 ≤ z ∧ z ≤ 57
      · have hx : hexZ z = z - 48 := by unfold hexZ; rw [if_pos hA]
        obtain ⟨s1, s2, s3, s4, s5⟩ := step (z - 48) hx (by omega) (by omega)
        have w1 : IntKind.wrap .u8 (z - 48) = z - 48 := wrap_u8 (by omega) (by omega)
        have w2 : IntKind.wrap .u64 (hv (l.take j) * 16) = hv (l.take j) * 16 := wrap_u64 (by omega) (by omega)
        have w3 : IntKind.wrap .u64 (z - 48) = z - 48 := wrap_u64 (by omega) (by omega)
        have w4 : IntKind.wrap .u64 (hv (l.take j) * 16 + (z - 48)) = hv (l.take (j + 1)) := by rw [wrap_u64 (by omega) (by omega)]; exact s3
        have g1 : ¬ (16 ≤ z - 48) := by omega
        have g2 : ¬ (1152921504606846976 ≤ hv (l.take j)) := by omega
        have g3 : ¬ (hv (l.take (j + 1)) < hv (l.take j) * 16) := by omega
        have g4 : ¬ (255 < hv (l.take (j + 1))) := by omega
        repeat' (first | ((first | refine wSeqr (fun xx hx => ?_) | refine wIf (fun xx hx => ?_) | refine wReg (fun xx hx => ?_) | (refine wRet ?_; (try simp only [thenQ, blockQ]); refine ends_by (fun xx hx => ?_))); have hc := trivial; (repeat' (simp only [hc, go_sem, Nat.reduceAdd, Nat.reduceMul, Nat.reduceSub, Nat.reduceEqDiff, Nat.reduceLT, Nat.reduceLeDiff, Int.reduceEq, Int.reduceLT, Int.reduceLE, reduceIte, aresults, aresult, hp0, h1, h8, h10, h11, h12, h13, h99, h100, h101, bytesL, cell, hjI, hg', h5, hA.1, hA.2, w1, conv_ii, conv_i6, conv_b6, w16, w166, w2, w3, w4, g1, g2, g3, g4, wrap_succ (show j < 9223372036854775807 by omega)] at hx; (try (rw [guardL_if] at hx; split at hx <;> rename_i hc)))); all_goals (subst hx; first | (refine ⟨_, rfl, fun ht => ?_, fun ht => ?_⟩ <;> (try simp only [Bool.not_eq_true', Bool.not_eq_false', Bool.and_eq_true, Bool.and_eq_false_iff, Bool.or_eq_true, Bool.or_eq_false_iff, decide_eq_true_eq, decide_eq_false_iff_not, beq_iff_eq, bne_iff_ne, Bool.not_true, Bool.not_false, Bool.true_eq_false, Bool.false_eq_true, ne_eq, Decidable.not_not, inB_t, inB_f] at ht)) | (refine ⟨_, rfl, ?_⟩; (try simp only [tupOf])))) | refine wSkip ?_ | (refine wExit ?_; simp only [thenQ, blockQ, reduceIte, Nat.reduceEqDiff]) | refine wSeq ?_ | refine wBlock ?_)
        refine ⟨_, Nat.sub_lt (by omega) Nat.one_pos, j + 1, by omega, by simp only [upd_eq, Nat.reduceEqDiff, if_false, if_true, h1, h8, h10, h11, h12, h13, h99, h100, h101], by simp only [upd_eq, Nat.reduceEqDiff, if_false, if_true, h1, h8, h10, h11, h12, h13, h99, h100, h101], by simp only [upd_eq, Nat.reduceEqDiff, if_false, if_true, h1, h8, h10, h11, h12, h13, h99, h100, h101], by simp only [upd_eq, Nat.reduceEqDiff, if_false, if_true, h1, h8, h10, h11, h12, h13, h99, h100, h101], by simp only [upd_eq, Nat.reduceEqDiff, if_false, if_true, h1, h8, h10, h11, h12, h13, h99, h100, h101], by simp only [upd_eq, Nat.reduceEqDiff, if_false, if_true, h1, h8, h10, h11, h12, h13, h99, h100, h101], by simp only [upd_eq, Nat.reduceEqDiff, if_false, if_true, h1, h8, h10, h11, h12, h13, h99, h100, h101], by simp only [upd_eq, Nat.reduceEqDiff, if_false, if_true, h1, h8, h10, h11, h12, h13, h99, h100, h101], by simp only [upd_eq, Nat.reduceEqDiff, if_false, if_true, h1, h8, h10, h11, h12, h13, h99, h100, h101], ?_⟩
        exact ⟨s1, s2⟩
      by_cases hB : 97 ≤ lowI z ∧ lowI z ≤ 122
      · have hx : hexZ z = lowI z - 97 + 10 := by unfold hexZ; rw [if_neg hA, if_pos hB]
        have hA' : 48 ≤ z → ¬ z ≤ 57 := fun h h' => hA ⟨h, h'⟩
        have w1 : IntKind.wrap .u8 (lowI z - 97) = lowI z - 97 := wrap_u8 (by omega) (by omega)
        have w1' : IntKind.wrap .u8 (lowI z - 97 + 10) = lowI z - 97 + 10 := wrap_u8 (by omega) (by omega)
        by_cases h16 : 16 ≤ lowI z - 97 + 10
        · have hn := hno (by rw [hx]; omega)
          repeat' (first | ((first | refine wSeqr (fun xx hx => ?_) | refine wIf (fun xx hx => ?_) | refine wReg (fun xx hx => ?_) | (refine wRet ?_; (try simp only [thenQ, blockQ]); refine ends_by (fun xx hx => ?_))); have hc := trivial; (repeat' (simp only [hc, go_sem, Nat.reduceAdd, Nat.reduceMul, Nat.reduceSub, Nat.reduceEqDiff, Nat.reduceLT, Nat.reduceLeDiff, Int.reduceEq, Int.reduceLT, Int.reduceLE, reduceIte, aresults, aresult, hp0, h1, h8, h10, h11, h12, h13, h99, h100, h101, bytesL, cell, hjI, hg', h5, hB.1, hB.2, c_lower, w1, w1', conv_ii, w16, h16, mkErr] at hx; (try (rw [guardL_if] at hx; split at hx <;> rename_i hc)))); all_goals (subst hx; first | (refine ⟨_, rfl, fun ht => ?_, fun ht => ?_⟩ <;> (try simp only [Bool.not_eq_true', Bool.not_eq_false', Bool.and_eq_true, Bool.and_eq_false_iff, Bool.or_eq_true, Bool.or_eq_false_iff, decide_eq_true_eq, decide_eq_false_iff_not, beq_iff_eq, bne_iff_ne, Bool.not_true, Bool.not_false, Bool.true_eq_false, Bool.false_eq_true, ne_eq, Decidable.not_not, inB_t, inB_f] at ht)) | (refine ⟨_, rfl, ?_⟩; (try simp only [tupOf])))) | refine wSkip ?_ | (refine wExit ?_; simp only [thenQ, blockQ, reduceIte, Nat.reduceEqDiff]) | refine wSeq ?_ | refine wBlock ?_)
          all_goals first
            | (exfalso; (try simp only [Bool.not_eq_true', Bool.not_eq_false', Bool.and_eq_true, Bool.and_eq_false_iff, Bool.or_eq_true, Bool.or_eq_false_iff, decide_eq_true_eq, decide_eq_false_iff_not, beq_iff_eq, bne_iff_ne, Bool.not_true, Bool.not_false, Bool.true_eq_false, Bool.false_eq_true, ne_eq, Decidable.not_not, inB_t, inB_f] at *); omega)
            | (refine ⟨?_, rfl⟩; unfold puRes; rw [hn]; rfl)
        · obtain ⟨s1, s2, s3, s4, s5⟩ := step (lowI z - 97 + 10) hx (by omega) (by omega)
          have w2 : IntKind.wrap .u64 (hv (l.take j) * 16) = hv (l.take j) * 16 := wrap_u64 (by omega) (by omega)
          have w3 : IntKind.wrap .u64 (lowI z - 97 + 10) = lowI z - 97 + 10 := wrap_u64 (by omega) (by omega)
          have w4 : IntKind.wrap .u64 (hv (l.take j) * 16 + (lowI z - 97 + 10)) = hv (l.take (j + 1)) := by rw [wrap_u64 (by omega) (by omega)]; exact s3
          have g2 : ¬ (1152921504606846976 ≤ hv (l.take j)) := by omega
          have g3 : ¬ (hv (l.take (j + 1)) < hv (l.take j) * 16) := by omega
          have g4 : ¬ (255 < hv (l.take (j + 1))) := by omega
          repeat' (first | ((first | refine wSeqr (fun xx hx => ?_) | refine wIf (fun xx hx => ?_) | refine wReg (fun xx hx => ?_) | (refine wRet ?_; (try simp only [thenQ, blockQ]); refine ends_by (fun xx hx => ?_))); have hc := trivial; (repeat' (simp only [hc, go_sem, Nat.reduceAdd, Nat.reduceMul, Nat.reduceSub, Nat.reduceEqDiff, Nat.reduceLT, Nat.reduceLeDiff, Int.reduceEq, Int.reduceLT, Int.reduceLE, reduceIte, aresults, aresult, hp0, h1, h8, h10, h11, h12, h13, h99, h100, h101, bytesL, cell, hjI, hg', h5, hB.1, hB.2, c_lower, w1, w1', conv_ii, conv_i6, conv_b6, w16, w166, h16, w2, w3, w4, g2, g3, g4, wrap_succ (show j < 9223372036854775807 by omega)] at hx; (try (rw [guardL_if] at hx; split at hx <;> rename_i hc)))); all_goals (subst hx; first | (refine ⟨_, rfl, fun ht => ?_, fun ht => ?_⟩ <;> (try simp only [Bool.not_eq_true', Bool.not_eq_false', Bool.and_eq_true, Bool.and_eq_false_iff, Bool.or_eq_true, Bool.or_eq_false_iff, decide_eq_true_eq, decide_eq_false_iff_not, beq_iff_eq, bne_iff_ne, Bool.not_true, Bool.not_false, Bool.true_eq_false, Bool.false_eq_true, ne_eq, Decidable.not_not, inB_t, inB_f] at ht)) | (refine ⟨_, rfl, ?_⟩; (try simp only [tupOf])))) | refine wSkip ?_ | (refine wExit ?_; simp only [thenQ, blockQ, reduceIte, Nat.reduceEqDiff]) | refine wSeq ?_ | refine wBlock ?_)
          all_goals try (exfalso; (try simp only [Bool.not_eq_true', Bool.not_eq_false', Bool.and_eq_true, Bool.and_eq_false_iff, Bool.or_eq_true, Bool.or_eq_false_iff, decide_eq_true_eq, decide_eq_false_iff_not, beq_iff_eq, bne_iff_ne, Bool.not_true, Bool.not_false, Bool.true_eq_false, Bool.false_eq_true, ne_eq, Decidable.not_not, inB_t, inB_f] at *); omega)
          all_goals
            refine ⟨_, Nat.sub_lt (by omega) Nat.one_pos, j + 1, by omega, by simp only [upd_eq, Nat.reduceEqDiff, if_false, if_true, h1, h8, h10, h11, h12, h13, h99, h100, h101], by simp only [upd_eq, Nat.reduceEqDiff, if_false, if_true, h1, h8, h10, h11, h12, h13, h99, h100, h101], by simp only [upd_eq, Nat.reduceEqDiff, if_false, if_true, h1, h8, h10, h11, h12, h13, h99, h100, h101], by simp only [upd_eq, Nat.reduceEqDiff, if_false, if_true, h1, h8, h10, h11, h12, h13, h99, h100, h101], by simp only [upd_eq, Nat.reduceEqDiff, if_false, if_true, h1, h8, h10, h11, h12, h13, h99, h100, h101], by simp only [upd_eq, Nat.reduceEqDiff, if_false, if_true, h1, h8, h10, h11, h12, h13, h99, h100, h101], by simp only [upd_eq, Nat.reduceEqDiff, if_false, if_true, h1, h8, h10, h11, h12, h13, h99, h100, h101], by simp only [upd_eq, Nat.reduceEqDiff, if_false, if_true, h1, h8, h10, h11, h12, h13, h99, h100, h101], by simp only [upd_eq, Nat.reduceEqDiff, if_false, if_true, h1, h8, h10, h11, h12, h13, h99, h100, h101], ?_⟩
            exact ⟨s1, s2⟩
      · have hx : hexZ z = 99 := by unfold hexZ; rw [if_neg hA, if_neg hB]
        have hn := hno (by rw [hx]; omega)
        repeat' (first | ((first | refine wSeqr (fun xx hx => ?_) | refine wIf (fun xx hx => ?_) | refine wReg (fun xx hx => ?_) | (refine wRet ?_; (try simp only [thenQ, blockQ]); refine ends_by (fun xx hx => ?_))); have hc := trivial; (repeat' (simp only [hc, go_sem, Nat.reduceAdd, Nat.reduceMul, Nat.reduceSub, Nat.reduceEqDiff, Nat.reduceLT, Nat.reduceLeDiff, Int.reduceEq, Int.reduceLT, Int.reduceLE, reduceIte, aresults, aresult, hp0, h1, h8, h10, h11, h12, h13, h99, h100, h101, bytesL, cell, hjI, hg', h5, c_lower, mkErr] at hx; (try (rw [guardL_if] at hx; split at hx <;> rename_i hc)))); all_goals (subst hx; first | (refine ⟨_, rfl, fun ht => ?_, fun ht => ?_⟩ <;> (try simp only [Bool.not_eq_true', Bool.not_eq_false', Bool.and_eq_true, Bool.and_eq_false_iff, Bool.or_eq_true, Bool.or_eq_false_iff, decide_eq_true_eq, decide_eq_false_iff_not, beq_iff_eq, bne_iff_ne, Bool.not_true, Bool.not_false, Bool.true_eq_false, Bool.false_eq_true, ne_eq, Decidable.not_not, inB_t, inB_f] at ht)) | (refine ⟨_, rfl, ?_⟩; (try simp only [tupOf])))) | refine wSkip ?_ | (refine wExit ?_; simp only [thenQ, blockQ, reduceIte, Nat.reduceEqDiff]) | refine wSeq ?_ | refine wBlock ?_)
        all_goals first
          | (exfalso; (try simp only [Bool.not_eq_true', Bool.not_eq_false', Bool.and_eq_true, Bool.and_eq_false_iff, Bool.or_eq_true, Bool.or_eq_false_iff, decide_eq_true_eq, decide_eq_false_iff_not, beq_iff_eq, bne_iff_ne, Bool.not_true, Bool.not_false, Bool.true_eq_false, Bool.false_eq_true, ne_eq, Decidable.not_not, inB_t, inB_f] at *); omega)
          | (refine ⟨?_, rfl⟩; unfold puRes; rw [hn]; rfl)
    · have hj' : j = 2 := by omega
      have hjI : ¬ ((j : Nat) : Int) < 2 := by omega
      repeat' (first | ((first | refine wSeqr (fun xx hx => ?_) | refine wIf (fun xx hx => ?_) | refine wReg (fun xx hx => ?_) | (refine wRet ?_; (try simp only [thenQ, blockQ]); refine ends_by (fun xx hx => ?_))); have hc := trivial; (repeat' (simp only [hc, go_sem, Nat.reduceAdd, Nat.reduceMul, Nat.reduceSub, Nat.reduceEqDiff, Nat.reduceLT, Nat.reduceLeDiff, Int.reduceEq, Int.reduceLT, Int.reduceLE, reduceIte, aresults, aresult, hp0, h1, h8, h10, h11, h12, h13, h99, h100, h101, hjI] at hx; (try (rw [guardL_if] at hx; split at hx <;> rename_i hc)))); all_goals (subst hx; first | (refine ⟨_, rfl, fun ht => ?_, fun ht => ?_⟩ <;> (try simp only [Bool.not_eq_true', Bool.not_eq_false', Bool.and_eq_true, Bool.and_eq_false_iff, Bool.or_eq_true, Bool.or_eq_false_iff, decide_eq_true_eq, decide_eq_false_iff_not, beq_iff_eq, bne_iff_ne, Bool.not_true, Bool.not_false, Bool.true_eq_false, Bool.false_eq_true, ne_eq, Decidable.not_not, inB_t, inB_f] at ht)) | (refine ⟨_, rfl, ?_⟩; (try simp only [tupOf])))) | refine wSkip ?_ | (refine wExit ?_; simp only [thenQ, blockQ, reduceIte, Nat.reduceEqDiff]) | refine wSeq ?_ | refine wBlock ?_)
      all_goals
        rw [List.take_of_length_le (by omega)] at hok ⊢
        refine ⟨?_, rfl⟩
        unfold puRes; rw [if_pos hok]; rfl
  · refine ⟨0, by omega, rfl, rfl, rfl, rfl, rfl, rfl, rfl, rfl, rfl, ?_⟩
    exact ⟨rfl, by simp [hv], fun _ => by simp [hv]⟩
theorem c_iPU (a b : UInt8) : ∀ H, call Tryd.prog cfg0 0 96 [.v (.string ⟨#[a, b]⟩), .v (.int .i64 16), .v (.int .i64 8)] H = some (puRes [(a.toNat : Int), (b.toNat : Int)], H) :=
  call_fz Tryd.func96 rfl ok_iPU rfl (by simp only [fz_cons, fz_nil, go_sem, and_self]) (p_iPU a b)

def pu (l : List Int) : AV := if hexOk l = true then .tup [.v (.int .u64 (hv l)), .v .nilIface] else .tup [.v (.int .u64 0), .ifc true]
theorem ok_sPU : fnOk Tryd.prog cfg0 90 Tryd.f90 = true := by kernel_rfl
theorem p_sPU (a b : UInt8) : pure Tryd.prog cfg0 90 Tryd.f90 [.v (.string ⟨#[a, b]⟩), .v (.int .i64 16), .v (.int .i64 8)] = some (pu [(a.toNat : Int), (b.toNat : Int)], true) := by
  refine pure_wp (rs := [.tmp 6, .tmp 7]) rfl rfl ?_
  have hp0 : ∀ b, cfg0.pol 90 b = 0 := fun b => rfl
  have hcl := c_iPU a b
  have hsz : (⟨#[a, b]⟩ : ByteArray).size ≤ 281474976710656 := by show 2 ≤ _; omega
  have hte := c_toError ⟨#[80, 97, 114, 115, 101, 85, 105, 110, 116]⟩ ⟨#[a, b]⟩ 16 8 hsz
  by_cases h : hexOk [(a.toNat : Int), (b.toNat : Int)] = true
  · have e1 : puRes [(a.toNat : Int), (b.toNat : Int)] = .tup [.v (.int .u64 (hv [(a.toNat : Int), (b.toNat : Int)])), .v .nilIface] := by unfold puRes; rw [if_pos h]
    have e2 : pu [(a.toNat : Int), (b.toNat : Int)] = .tup [.v (.int .u64 (hv [(a.toNat : Int), (b.toNat : Int)])), .v .nilIface] := by unfold pu; rw [if_pos h]
    rw [e1] at hcl; rw [e2]
    generalize hv [(a.toNat : Int), (b.toNat : Int)] = n at *
    repeat' (first | ((first | refine wSeqr (fun xx hx => ?_) | refine wIf (fun xx hx => ?_) | refine wReg (fun xx hx => ?_) | (refine wRet ?_; (try simp only [thenQ, blockQ]); refine ends_by (fun xx hx => ?_))); have hc := trivial; (repeat' (simp only [hc, go_sem, Nat.reduceAdd, Nat.reduceMul, Nat.reduceSub, Nat.reduceEqDiff, Nat.reduceLT, Nat.reduceLeDiff, Int.reduceEq, Int.reduceLT, Int.reduceLE, reduceIte, aresults, aresult, hp0, hcl] at hx; (try (rw [guardL_if] at hx; split at hx <;> rename_i hc)))); all_goals (subst hx; first | (refine ⟨_, rfl, fun ht => ?_, fun ht => ?_⟩ <;> (try simp only [Bool.not_eq_true', Bool.not_eq_false', Bool.and_eq_true, Bool.and_eq_false_iff, Bool.or_eq_true, Bool.or_eq_false_iff, decide_eq_true_eq, decide_eq_false_iff_not, beq_iff_eq, bne_iff_ne, Bool.not_true, Bool.not_false, Bool.true_eq_false, Bool.false_eq_true, ne_eq, Decidable.not_not, inB_t, inB_f] at ht)) | (refine ⟨_, rfl, ?_⟩; (try simp only [tupOf])))) | refine wSkip ?_ | (refine wExit ?_; simp only [thenQ, blockQ, reduceIte, Nat.reduceEqDiff]) | refine wSeq ?_ | refine wBlock ?_)
    all_goals exact ⟨rfl, rfl⟩
  · have e1 : puRes [(a.toNat : Int), (b.toNat : Int)] = .tup [.v (.int .u64 0), .v (.iface 117 (.int .i64 2))] := by unfold puRes; rw [if_neg h]
    have e2 : pu [(a.toNat : Int), (b.toNat : Int)] = .tup [.v (.int .u64 0), .ifc true] := by unfold pu; rw [if_neg h]
    rw [e1] at hcl; rw [e2]
    repeat' (first | ((first | refine wSeqr (fun xx hx => ?_) | refine wIf (fun xx hx => ?_) | refine wReg (fun xx hx => ?_) | (refine wRet ?_; (try simp only [thenQ, blockQ]); refine ends_by (fun xx hx => ?_))); have hc := trivial; (repeat' (simp only [hc, go_sem, Nat.reduceAdd, Nat.reduceMul, Nat.reduceSub, Nat.reduceEqDiff, Nat.reduceLT, Nat.reduceLeDiff, Int.reduceEq, Int.reduceLT, Int.reduceLE, reduceIte, aresults, aresult, hp0, hcl, hte] at hx; (try (rw [guardL_if] at hx; split at hx <;> rename_i hc)))); all_goals (subst hx; first | (refine ⟨_, rfl, fun ht => ?_, fun ht => ?_⟩ <;> (try simp only [Bool.not_eq_true', Bool.not_eq_false', Bool.and_eq_true, Bool.and_eq_false_iff, Bool.or_eq_true, Bool.or_eq_false_iff, decide_eq_true_eq, decide_eq_false_iff_not, beq_iff_eq, bne_iff_ne, Bool.not_true, Bool.not_false, Bool.true_eq_false, Bool.false_eq_true, ne_eq, Decidable.not_not, inB_t, inB_f] at ht)) | (refine ⟨_, rfl, ?_⟩; (try simp only [tupOf])))) | refine wSkip ?_ | (refine wExit ?_; simp only [thenQ, blockQ, reduceIte, Nat.reduceEqDiff]) | refine wSeq ?_ | refine wBlock ?_)
    all_goals exact ⟨rfl, rfl⟩
theorem c_sPU (a b : UInt8) : ∀ H, call Tryd.prog cfg0 0 90 [.v (.string ⟨#[a, b]⟩), .v (.int .i64 16), .v (.int .i64 8)] H = some (pu [(a.toNat : Int), (b.toNat : Int)], H) :=
  call_fz Tryd.func90 rfl ok_sPU rfl (by simp only [fz_cons, fz_nil, go_sem, and_self]) (p_sPU a b)

end
end Go.Proofs.YtmncdkecpnoogaaDoor
