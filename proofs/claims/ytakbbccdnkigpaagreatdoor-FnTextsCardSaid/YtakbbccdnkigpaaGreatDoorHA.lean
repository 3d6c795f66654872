/- Contracts: two signs read as a number of base 16 (strconv). Contracts: signs of base 16. Contracts: data read from its text, both sides. -/
import Derived.Test.YtakbbccdnkigpaaGreatDoorDA
namespace Go.Proofs.YtakbbccdnkigpaaGreatDoor
open Go Go.RowKit Go.Proofs.YtakbbccdnkigpaaGreatDoor.Eng
set_option linter.unusedSimpArgs false
set_option linter.unusedVariables false
set_option maxRecDepth 100000
set_option maxHeartbeats 1000000
noncomputable section
def lowI (z : Int) : Int := IntKind.wrap .u8 ((BitVec.ofInt 8 z ||| BitVec.ofInt 8 32).toNat : Int)
theorem lowI_b (z : Int) : 0 ≤ lowI z ∧ lowI z ≤ 255 := by
  unfold lowI
  have h : (BitVec.ofInt 8 z ||| BitVec.ofInt 8 32).toNat < 2 ^ 8 := BitVec.isLt _
  rw [wrap_u8 (by omega) (by omega)]; omega
theorem ok_lower : fnOk Tryz.prog cfg0 105 Tryz.f105 = true := by kernel_rfl
theorem p_lower (z : Int) : pure Tryz.prog cfg0 105 Tryz.f105 [.v (.int .u8 z)] = some (.v (.int .u8 (lowI z)), true) := by
  refine pure_wp (rs := [.tmp 2]) rfl rfl ?_
  have hp0 : ∀ b, cfg0.pol 105 b = 0 := fun b => rfl
  repeat' (first | ((first | refine wSeqr ?_ | refine wIf ?_ | refine wReg ?_ | (refine wRet ?_; (try simp only [thenQ, blockQ]); refine ends_by ?_)); intro xx hx; have hc := trivial; (repeat' (simp only [hc, Nat.reduceBEq, go_sem, Nat.reduceAdd, Nat.reduceMul, Nat.reduceSub, Nat.reduceEqDiff, Nat.reduceLT, Nat.reduceLeDiff, Int.reduceEq, Int.reduceLT, Int.reduceLE, reduceIte, aresults, aresult, hp0] at hx; (try (rw [guardL_if] at hx; split at hx <;> rename_i hc)))); all_goals (subst hx; first | (refine ⟨_, rfl, fun ht => ?_, fun ht => ?_⟩ <;> (try simp only [bbs] at ht)) | (refine ⟨_, rfl, ?_⟩; (try simp only [tupOf])))) | refine wSkip ?_ | (refine wExit ?_; simp only [thenQ, blockQ, reduceIte, Nat.reduceEqDiff]) | refine wSeq ?_ | refine wBlock ?_)
  all_goals exact ⟨rfl, rfl⟩
theorem c_lower (z : Int) : ∀ H, call Tryz.prog cfg0 0 105 [.v (.int .u8 z)] H = some (.v (.int .u8 (lowI z)), H) :=
  call_fz Tryz.func105 rfl ok_lower rfl (by simp only [fz_cons, fz_nil, go_sem, and_self]) (p_lower z)

/-- The value of a sign as a digit; 99: it is none. -/
def hexZ (z : Int) : Int := if 48 ≤ z ∧ z ≤ 57 then z - 48 else if 97 ≤ lowI z ∧ lowI z ≤ 122 then lowI z - 97 + 10 else 99
def hv (l : List Int) : Int := l.foldl (fun a z => a * 16 + hexZ z) 0
theorem hv_snoc (l : List Int) (z : Int) : hv (l ++ [z]) = hv l * 16 + hexZ z := by simp [hv]
def hexOk (l : List Int) : Bool := l.all fun z => decide (hexZ z < 16)
def puRes (l : List Int) : AV := if hexOk l = true then .tup [.v (.int .u64 (hv l)), .v .nilIface] else .tup [.v (.int .u64 0), .v (.iface 118 (.int .i64 2))]
theorem mkErr (n : Int) : amkI Tryz.prog 118 (.v (.int .i64 n)) = some (.v (.iface 118 (.int .i64 n))) := by
  unfold amkI
  simp only
  rw [if_pos (by kernel_rfl)]
theorem bc2 (a b : UInt8) : AV.lst false (byteCells ⟨#[a, b]⟩) = bytesL [(a.toNat : Int), (b.toNat : Int)] := rfl
theorem conv_sb (s : ByteArray) (H : Hp) : aconv Tryz.prog H 9 22 (.v (.string s)) = some (.lst false (byteCells s)) := by simp [aconv, u9, u22, u5]
theorem conv_ii (k : IntKind) (n : Int) (H : Hp) : aconv Tryz.prog H 3 5 (.v (.int k n)) = some (.v (.int .u8 (IntKind.wrap .u8 n))) := by simp [aconv, u3, u5]
theorem conv_i6 (k : IntKind) (n : Int) (H : Hp) : aconv Tryz.prog H 3 103 (.v (.int k n)) = some (.v (.int .u64 (IntKind.wrap .u64 n))) := by simp [aconv, u3, u103]
theorem conv_iu (k : IntKind) (n : Int) (H : Hp) : aconv Tryz.prog H 3 119 (.v (.int k n)) = some (.v (.int .u64 (IntKind.wrap .u64 n))) := by simp [aconv, u3, u119]
theorem conv_b6 (k : IntKind) (n : Int) (H : Hp) : aconv Tryz.prog H 5 103 (.v (.int k n)) = some (.v (.int .u64 (IntKind.wrap .u64 n))) := by simp [aconv, u5, u103]
theorem w16 : IntKind.wrap .u8 16 = 16 := rfl
theorem w166 : IntKind.wrap .u64 16 = 16 := rfl
theorem w86 : IntKind.wrap .u64 8 = 8 := rfl
theorem shl8 : abinV .shl (.int .u64 1) (.int .u64 8) = some (.int .u64 256) := rfl
theorem wrap_u64 {z : Int} (h1 : 0 ≤ z) (h2 : z ≤ 18446744073709551615) : IntKind.wrap .u64 z = z := by
  simp [IntKind.wrap, IntKind.bits, IntKind.signed]; omega
theorem ok_iPU : fnOk Tryz.prog cfg0 95 Tryz.f95 = true := by kernel_rfl
theorem p_iPU (a b : UInt8) : pure Tryz.prog cfg0 95 Tryz.f95 [.v (.string ⟨#[a, b]⟩), .v (.int .i64 16), .v (.int .i64 8)] = some (puRes [(a.toNat : Int), (b.toNat : Int)], true) := by
  refine pure_wp (rs := [.tmp 6, .tmp 7]) rfl rfl ?_
  have hp0 : ∀ b, cfg0.pol 95 b = 0 := fun b => rfl
  have hls : ((⟨#[a, b]⟩ : ByteArray).toList == (⟨#[]⟩ : ByteArray).toList) = false := by
    rw [str_eq]; simp
  have ha := UInt8.toNat_lt a
  have hb := UInt8.toNat_lt b
  repeat' (first | ((first | refine wSeqr ?_ | refine wIf ?_ | refine wReg ?_ | (refine wRet ?_; (try simp only [thenQ, blockQ]); refine ends_by ?_)); intro xx hx; have hc := trivial; (repeat' (simp only [hc, Nat.reduceBEq, go_sem, Nat.reduceAdd, Nat.reduceMul, Nat.reduceSub, Nat.reduceEqDiff, Nat.reduceLT, Nat.reduceLeDiff, Int.reduceEq, Int.reduceLT, Int.reduceLE, reduceIte, aresults, aresult, hp0, hls, conv_sb, bc2, conv_iu, w86, shl8] at hx; (try (rw [guardL_if] at hx; split at hx <;> rename_i hc)))); all_goals (subst hx; first | (refine ⟨_, rfl, fun ht => ?_, fun ht => ?_⟩ <;> (try simp only [bbs] at ht)) | (refine ⟨_, rfl, ?_⟩; (try simp only [tupOf])))) | refine wSkip ?_ | (refine wExit ?_; simp only [thenQ, blockQ, reduceIte, Nat.reduceEqDiff]) | refine wSeq ?_ | refine wBlock ?_)
  generalize hl : [(a.toNat : Int), (b.toNat : Int)] = l
  have hlen : l.length = 2 := by rw [← hl]; rfl
  have hbd : ∀ z ∈ l, 0 ≤ z ∧ z ≤ 255 := by
    rw [← hl]; intro z hz; simp at hz; rcases hz with rfl | rfl <;> omega
  have hlenI : (l.length : Int) = 2 := by omega
  refine wLoop (fun k s => ∃ (j : Nat), j + k = 2 ∧ s.1 1 = .v (.int .i64 16) ∧ s.1 8 = .v (.bool false) ∧ s.1 10 = .v (.int .u64 1152921504606846976) ∧ s.1 11 = .v (.int .u64 255) ∧ s.1 12 = .v (.bool false) ∧ s.1 13 = .v (.int .u64 (hv (l.take j))) ∧ s.1 99 = bytesL l ∧ s.1 100 = .v (.int .i64 2) ∧ s.1 101 = .v (.int .i64 (j : Nat)) ∧ (hexOk (l.take j) = true) ∧ (0 ≤ hv (l.take j) ∧ (j ≤ 1 → hv (l.take j) ≤ 15))) (fun k s hI => ?_) (2) _ ?_
  · obtain ⟨e, H⟩ := s
    obtain ⟨j, hj, h1, h8, h10, h11, h12, h13, h99, h100, h101, hok, hvb⟩ := hI
    simp only at h1 h8 h10 h11 h12 h13 h99 h100 h101 hok hvb
    by_cases hlt : j < 2
    · obtain ⟨z, hg, hd, hm⟩ := at_drop (show j < l.length by omega)
      have hz := hbd z hm
      have hg' : (l.map fun z => [AV.v (.int .u8 z)])[j]? = some [.v (.int .u8 z)] := by rw [List.getElem?_map, hg]; rfl
      have htk : l.take (j + 1) = l.take j ++ [z] := by rw [List.take_add_one, hg]; rfl
      have hlo := lowI_b z
      have hn15 := hvb.2 (by omega)
      have hjI : ((j : Nat) : Int) < 2 := by omega
      have hno : ¬ hexZ z < 16 → hexOk l = false := by
        intro h; exact List.all_eq_false.2 ⟨z, hm, by simpa using h⟩
      have n95 : z = 95 → hexZ z = 99 := by
        rintro rfl; rfl
      have step : ∀ d : Int, hexZ z = d → 0 ≤ d → d < 16 → (hexOk (l.take (j + 1)) = true ∧ (0 ≤ hv (l.take (j + 1)) ∧ (j + 1 ≤ 1 → hv (l.take (j + 1)) ≤ 15)) ∧ hv (l.take j) * 16 + d = hv (l.take (j + 1)) ∧ hv (l.take j) * 16 + d ≤ 255 ∧ hv (l.take j) * 16 ≤ 240) := by
        intro d hd h0 h16
        rw [htk, hv_snoc, hd]
        refine ⟨?_, ⟨by omega, fun h1 => ?_⟩, rfl, by omega, by omega⟩
        · unfold hexOk at hok ⊢
          rw [List.all_append, hok]; simp [hd, h16]
        · obtain rfl : j = 0 := by omega
          simp [hv]; omega
      by_cases h5 : z = 95
      · have hn := hno (by rw [n95 h5]; omega)
        subst h5
        have hlw : lowI 95 = 127 := rfl
        repeat' (first | ((first | refine wSeqr ?_ | refine wIf ?_ | refine wReg ?_ | (refine wRet ?_; (try simp only [thenQ, blockQ]); refine ends_by ?_)); intro xx hx; have hc := trivial; (repeat' (simp only [hc, Nat.reduceBEq, go_sem, Nat.reduceAdd, Nat.reduceMul, Nat.reduceSub, Nat.reduceEqDiff, Nat.reduceLT, Nat.reduceLeDiff, Int.reduceEq, Int.reduceLT, Int.reduceLE, reduceIte, aresults, aresult, hp0, h1, h8, h10, h11, h12, h13, h99, h100, h101, bytesL, cell, hjI, hg', c_lower, hlw, mkErr] at hx; (try (rw [guardL_if] at hx; split at hx <;> rename_i hc)))); all_goals (subst hx; first | (refine ⟨_, rfl, fun ht => ?_, fun ht => ?_⟩ <;> (try simp only [bbs] at ht)) | (refine ⟨_, rfl, ?_⟩; (try simp only [tupOf])))) | refine wSkip ?_ | (refine wExit ?_; simp only [thenQ, blockQ, reduceIte, Nat.reduceEqDiff]) | refine wSeq ?_ | refine wBlock ?_)
        all_goals (refine ⟨?_, rfl⟩; unfold puRes; rw [hn]; rfl)
      by_cases hA : 48 ≤ z ∧ z ≤ 57
      · have hx : hexZ z = z - 48 := by unfold hexZ; rw [if_pos hA]
        obtain ⟨s1, s2, s3, s4, s5⟩ := step (z - 48) hx (by omega) (by omega)
        have w1 : IntKind.wrap .u8 (z - 48) = z - 48 := wrap_u8 (by omega) (by omega)
        have w2 : IntKind.wrap .u64 (hv (l.take j) * 16) = hv (l.take j) * 16 := wrap_u64 (by omega) (by omega)
        have w3 : IntKind.wrap .u64 (z - 48) = z - 48 := wrap_u64 (by omega) (by omega)
        have w4 : IntKind.wrap .u64 (hv (l.take j) * 16 + (z - 48)) = hv (l.take (j + 1)) := by rw [wrap_u64 (by omega) (by omega)]; exact s3
        have g1 : ¬ (16 ≤ z - 48) := by omega
        have g2 : ¬ (1152921504606846976 ≤ hv (l.take j)) := by omega
        have g3 : ¬ (hv (l.take (j + 1)) < hv (l.take j) * 16) := by omega
        have g4 : ¬ (255 < hv (l.take (j + 1))) := by omega
        repeat' (first | ((first | refine wSeqr ?_ | refine wIf ?_ | refine wReg ?_ | (refine wRet ?_; (try simp only [thenQ, blockQ]); refine ends_by ?_)); intro xx hx; have hc := trivial; (repeat' (simp only [hc, Nat.reduceBEq, go_sem, Nat.reduceAdd, Nat.reduceMul, Nat.reduceSub, Nat.reduceEqDiff, Nat.reduceLT, Nat.reduceLeDiff, Int.reduceEq, Int.reduceLT, Int.reduceLE, reduceIte, aresults, aresult, hp0, h1, h8, h10, h11, h12, h13, h99, h100, h101, bytesL, cell, hjI, hg', h5, hA.1, hA.2, w1, conv_ii, conv_i6, conv_b6, w16, w166, w2, w3, w4, g1, g2, g3, g4, wrap_succ (show j < 9223372036854775807 by omega)] at hx; (try (rw [guardL_if] at hx; split at hx <;> rename_i hc)))); all_goals (subst hx; first | (refine ⟨_, rfl, fun ht => ?_, fun ht => ?_⟩ <;> (try simp only [bbs] at ht)) | (refine ⟨_, rfl, ?_⟩; (try simp only [tupOf])))) | refine wSkip ?_ | (refine wExit ?_; simp only [thenQ, blockQ, reduceIte, Nat.reduceEqDiff]) | refine wSeq ?_ | refine wBlock ?_)
        refine ⟨_, Nat.sub_lt (by omega) Nat.one_pos, j + 1, by omega, by simp only [upd_eq, Nat.reduceEqDiff, if_false, if_true, h1, h8, h10, h11, h12, h13, h99, h100, h101], by simp only [upd_eq, Nat.reduceEqDiff, if_false, if_true, h1, h8, h10, h11, h12, h13, h99, h100, h101], by simp only [upd_eq, Nat.reduceEqDiff, if_false, if_true, h1, h8, h10, h11, h12, h13, h99, h100, h101], by simp only [upd_eq, Nat.reduceEqDiff, if_false, if_true, h1, h8, h10, h11, h12, h13, h99, h100, h101], by simp only [upd_eq, Nat.reduceEqDiff, if_false, if_true, h1, h8, h10, h11, h12, h13, h99, h100, h101], by simp only [upd_eq, Nat.reduceEqDiff, if_false, if_true, h1, h8, h10, h11, h12, h13, h99, h100, h101], by simp only [upd_eq, Nat.reduceEqDiff, if_false, if_true, h1, h8, h10, h11, h12, h13, h99, h100, h101], by simp only [upd_eq, Nat.reduceEqDiff, if_false, if_true, h1, h8, h10, h11, h12, h13, h99, h100, h101], by simp only [upd_eq, Nat.reduceEqDiff, if_false, if_true, h1, h8, h10, h11, h12, h13, h99, h100, h101], ?_⟩
        exact ⟨s1, s2⟩
      by_cases hB : 97 ≤ lowI z ∧ lowI z ≤ 122
      · have hx : hexZ z = lowI z - 97 + 10 := by unfold hexZ; rw [if_neg hA, if_pos hB]
        have hA' : 48 ≤ z → ¬ z ≤ 57 := fun h h' => hA ⟨h, h'⟩
        have w1 : IntKind.wrap .u8 (lowI z - 97) = lowI z - 97 := wrap_u8 (by omega) (by omega)
        have w1' : IntKind.wrap .u8 (lowI z - 97 + 10) = lowI z - 97 + 10 := wrap_u8 (by omega) (by omega)
        by_cases h16 : 16 ≤ lowI z - 97 + 10
        · have hn := hno (by rw [hx]; omega)
          repeat' (first | ((first | refine wSeqr ?_ | refine wIf ?_ | refine wReg ?_ | (refine wRet ?_; (try simp only [thenQ, blockQ]); refine ends_by ?_)); intro xx hx; have hc := trivial; (repeat' (simp only [hc, Nat.reduceBEq, go_sem, Nat.reduceAdd, Nat.reduceMul, Nat.reduceSub, Nat.reduceEqDiff, Nat.reduceLT, Nat.reduceLeDiff, Int.reduceEq, Int.reduceLT, Int.reduceLE, reduceIte, aresults, aresult, hp0, h1, h8, h10, h11, h12, h13, h99, h100, h101, bytesL, cell, hjI, hg', h5, hB.1, hB.2, c_lower, w1, w1', conv_ii, w16, h16, mkErr] at hx; (try (rw [guardL_if] at hx; split at hx <;> rename_i hc)))); all_goals (subst hx; first | (refine ⟨_, rfl, fun ht => ?_, fun ht => ?_⟩ <;> (try simp only [bbs] at ht)) | (refine ⟨_, rfl, ?_⟩; (try simp only [tupOf])))) | refine wSkip ?_ | (refine wExit ?_; simp only [thenQ, blockQ, reduceIte, Nat.reduceEqDiff]) | refine wSeq ?_ | refine wBlock ?_)
          all_goals first
            | (exfalso; (try simp only [bbs] at *); omega)
            | (refine ⟨?_, rfl⟩; unfold puRes; rw [hn]; rfl)
        · obtain ⟨s1, s2, s3, s4, s5⟩ := step (lowI z - 97 + 10) hx (by omega) (by omega)
          have w2 : IntKind.wrap .u64 (hv (l.take j) * 16) = hv (l.take j) * 16 := wrap_u64 (by omega) (by omega)
          have w3 : IntKind.wrap .u64 (lowI z - 97 + 10) = lowI z - 97 + 10 := wrap_u64 (by omega) (by omega)
          have w4 : IntKind.wrap .u64 (hv (l.take j) * 16 + (lowI z - 97 + 10)) = hv (l.take (j + 1)) := by rw [wrap_u64 (by omega) (by omega)]; exact s3
          have g2 : ¬ (1152921504606846976 ≤ hv (l.take j)) := by omega
          have g3 : ¬ (hv (l.take (j + 1)) < hv (l.take j) * 16) := by omega
          have g4 : ¬ (255 < hv (l.take (j + 1))) := by omega
          repeat' (first | ((first | refine wSeqr ?_ | refine wIf ?_ | refine wReg ?_ | (refine wRet ?_; (try simp only [thenQ, blockQ]); refine ends_by ?_)); intro xx hx; have hc := trivial; (repeat' (simp only [hc, Nat.reduceBEq, go_sem, Nat.reduceAdd, Nat.reduceMul, Nat.reduceSub, Nat.reduceEqDiff, Nat.reduceLT, Nat.reduceLeDiff, Int.reduceEq, Int.reduceLT, Int.reduceLE, reduceIte, aresults, aresult, hp0, h1, h8, h10, h11, h12, h13, h99, h100, h101, bytesL, cell, hjI, hg', h5, hB.1, hB.2, c_lower, w1, w1', conv_ii, conv_i6, conv_b6, w16, w166, h16, w2, w3, w4, g2, g3, g4, wrap_succ (show j < 9223372036854775807 by omega)] at hx; (try (rw [guardL_if] at hx; split at hx <;> rename_i hc)))); all_goals (subst hx; first | (refine ⟨_, rfl, fun ht => ?_, fun ht => ?_⟩ <;> (try simp only [bbs] at ht)) | (refine ⟨_, rfl, ?_⟩; (try simp only [tupOf])))) | refine wSkip ?_ | (refine wExit ?_; simp only [thenQ, blockQ, reduceIte, Nat.reduceEqDiff]) | refine wSeq ?_ | refine wBlock ?_)
          all_goals try (exfalso; (try simp only [bbs] at *); omega)
          all_goals
            refine ⟨_, Nat.sub_lt (by omega) Nat.one_pos, j + 1, by omega, by simp only [upd_eq, Nat.reduceEqDiff, if_false, if_true, h1, h8, h10, h11, h12, h13, h99, h100, h101], by simp only [upd_eq, Nat.reduceEqDiff, if_false, if_true, h1, h8, h10, h11, h12, h13, h99, h100, h101], by simp only [upd_eq, Nat.reduceEqDiff, if_false, if_true, h1, h8, h10, h11, h12, h13, h99, h100, h101], by simp only [upd_eq, Nat.reduceEqDiff, if_false, if_true, h1, h8, h10, h11, h12, h13, h99, h100, h101], by simp only [upd_eq, Nat.reduceEqDiff, if_false, if_true, h1, h8, h10, h11, h12, h13, h99, h100, h101], by simp only [upd_eq, Nat.reduceEqDiff, if_false, if_true, h1, h8, h10, h11, h12, h13, h99, h100, h101], by simp only [upd_eq, Nat.reduceEqDiff, if_false, if_true, h1, h8, h10, h11, h12, h13, h99, h100, h101], by simp only [upd_eq, Nat.reduceEqDiff, if_false, if_true, h1, h8, h10, h11, h12, h13, h99, h100, h101], by simp only [upd_eq, Nat.reduceEqDiff, if_false, if_true, h1, h8, h10, h11, h12, h13, h99, h100, h101], ?_⟩
            exact ⟨s1, s2⟩
      · have hx : hexZ z = 99 := by unfold hexZ; rw [if_neg hA, if_neg hB]
        have hn := hno (by rw [hx]; omega)
        repeat' (first | ((first | refine wSeqr ?_ | refine wIf ?_ | refine wReg ?_ | (refine wRet ?_; (try simp only [thenQ, blockQ]); refine ends_by ?_)); intro xx hx; have hc := trivial; (repeat' (simp only [hc, Nat.reduceBEq, go_sem, Nat.reduceAdd, Nat.reduceMul, Nat.reduceSub, Nat.reduceEqDiff, Nat.reduceLT, Nat.reduceLeDiff, Int.reduceEq, Int.reduceLT, Int.reduceLE, reduceIte, aresults, aresult, hp0, h1, h8, h10, h11, h12, h13, h99, h100, h101, bytesL, cell, hjI, hg', h5, c_lower, mkErr] at hx; (try (rw [guardL_if] at hx; split at hx <;> rename_i hc)))); all_goals (subst hx; first | (refine ⟨_, rfl, fun ht => ?_, fun ht => ?_⟩ <;> (try simp only [bbs] at ht)) | (refine ⟨_, rfl, ?_⟩; (try simp only [tupOf])))) | refine wSkip ?_ | (refine wExit ?_; simp only [thenQ, blockQ, reduceIte, Nat.reduceEqDiff]) | refine wSeq ?_ | refine wBlock ?_)
        all_goals first
          | (exfalso; (try simp only [bbs] at *); omega)
          | (refine ⟨?_, rfl⟩; unfold puRes; rw [hn]; rfl)
    · have hj' : j = 2 := by omega
      have hjI : ¬ ((j : Nat) : Int) < 2 := by omega
      repeat' (first | ((first | refine wSeqr ?_ | refine wIf ?_ | refine wReg ?_ | (refine wRet ?_; (try simp only [thenQ, blockQ]); refine ends_by ?_)); intro xx hx; have hc := trivial; (repeat' (simp only [hc, Nat.reduceBEq, go_sem, Nat.reduceAdd, Nat.reduceMul, Nat.reduceSub, Nat.reduceEqDiff, Nat.reduceLT, Nat.reduceLeDiff, Int.reduceEq, Int.reduceLT, Int.reduceLE, reduceIte, aresults, aresult, hp0, h1, h8, h10, h11, h12, h13, h99, h100, h101, hjI] at hx; (try (rw [guardL_if] at hx; split at hx <;> rename_i hc)))); all_goals (subst hx; first | (refine ⟨_, rfl, fun ht => ?_, fun ht => ?_⟩ <;> (try simp only [bbs] at ht)) | (refine ⟨_, rfl, ?_⟩; (try simp only [tupOf])))) | refine wSkip ?_ | (refine wExit ?_; simp only [thenQ, blockQ, reduceIte, Nat.reduceEqDiff]) | refine wSeq ?_ | refine wBlock ?_)
      all_goals
        rw [List.take_of_length_le (by omega)] at hok ⊢
        refine ⟨?_, rfl⟩
        unfold puRes; rw [if_pos hok]; rfl
  · refine ⟨0, by omega, rfl, rfl, rfl, rfl, rfl, rfl, rfl, rfl, rfl, ?_⟩
    exact ⟨rfl, by simp [hv], fun _ => by simp [hv]⟩
theorem c_iPU (a b : UInt8) : ∀ H, call Tryz.prog cfg0 0 95 [.v (.string ⟨#[a, b]⟩), .v (.int .i64 16), .v (.int .i64 8)] H = some (puRes [(a.toNat : Int), (b.toNat : Int)], H) :=
  call_fz Tryz.func95 rfl ok_iPU rfl (by simp only [fz_cons, fz_nil, go_sem, and_self]) (p_iPU a b)

def pu (l : List Int) : AV := if hexOk l = true then .tup [.v (.int .u64 (hv l)), .v .nilIface] else .tup [.v (.int .u64 0), .ifc true]
theorem ok_sPU : fnOk Tryz.prog cfg0 79 Tryz.f79 = true := by kernel_rfl
theorem p_sPU (a b : UInt8) : pure Tryz.prog cfg0 79 Tryz.f79 [.v (.string ⟨#[a, b]⟩), .v (.int .i64 16), .v (.int .i64 8)] = some (pu [(a.toNat : Int), (b.toNat : Int)], true) := by
  refine pure_wp (rs := [.tmp 6, .tmp 7]) rfl rfl ?_
  have hp0 : ∀ b, cfg0.pol 79 b = 0 := fun b => rfl
  have hcl := c_iPU a b
  have hsz : (⟨#[a, b]⟩ : ByteArray).size ≤ 281474976710656 := by show 2 ≤ _; omega
  have hte := c_toError ⟨#[80, 97, 114, 115, 101, 85, 105, 110, 116]⟩ ⟨#[a, b]⟩ 16 8 hsz
  by_cases h : hexOk [(a.toNat : Int), (b.toNat : Int)] = true
  · have e1 : puRes [(a.toNat : Int), (b.toNat : Int)] = .tup [.v (.int .u64 (hv [(a.toNat : Int), (b.toNat : Int)])), .v .nilIface] := by unfold puRes; rw [if_pos h]
    have e2 : pu [(a.toNat : Int), (b.toNat : Int)] = .tup [.v (.int .u64 (hv [(a.toNat : Int), (b.toNat : Int)])), .v .nilIface] := by unfold pu; rw [if_pos h]
    rw [e1] at hcl; rw [e2]
    generalize hv [(a.toNat : Int), (b.toNat : Int)] = n at *
    repeat' (first | ((first | refine wSeqr ?_ | refine wIf ?_ | refine wReg ?_ | (refine wRet ?_; (try simp only [thenQ, blockQ]); refine ends_by ?_)); intro xx hx; have hc := trivial; (repeat' (simp only [hc, Nat.reduceBEq, go_sem, Nat.reduceAdd, Nat.reduceMul, Nat.reduceSub, Nat.reduceEqDiff, Nat.reduceLT, Nat.reduceLeDiff, Int.reduceEq, Int.reduceLT, Int.reduceLE, reduceIte, aresults, aresult, hp0, hcl] at hx; (try (rw [guardL_if] at hx; split at hx <;> rename_i hc)))); all_goals (subst hx; first | (refine ⟨_, rfl, fun ht => ?_, fun ht => ?_⟩ <;> (try simp only [bbs] at ht)) | (refine ⟨_, rfl, ?_⟩; (try simp only [tupOf])))) | refine wSkip ?_ | (refine wExit ?_; simp only [thenQ, blockQ, reduceIte, Nat.reduceEqDiff]) | refine wSeq ?_ | refine wBlock ?_)
    all_goals exact ⟨rfl, rfl⟩
  · have e1 : puRes [(a.toNat : Int), (b.toNat : Int)] = .tup [.v (.int .u64 0), .v (.iface 118 (.int .i64 2))] := by unfold puRes; rw [if_neg h]
    have e2 : pu [(a.toNat : Int), (b.toNat : Int)] = .tup [.v (.int .u64 0), .ifc true] := by unfold pu; rw [if_neg h]
    rw [e1] at hcl; rw [e2]
    repeat' (first | ((first | refine wSeqr ?_ | refine wIf ?_ | refine wReg ?_ | (refine wRet ?_; (try simp only [thenQ, blockQ]); refine ends_by ?_)); intro xx hx; have hc := trivial; (repeat' (simp only [hc, Nat.reduceBEq, go_sem, Nat.reduceAdd, Nat.reduceMul, Nat.reduceSub, Nat.reduceEqDiff, Nat.reduceLT, Nat.reduceLeDiff, Int.reduceEq, Int.reduceLT, Int.reduceLE, reduceIte, aresults, aresult, hp0, hcl, hte] at hx; (try (rw [guardL_if] at hx; split at hx <;> rename_i hc)))); all_goals (subst hx; first | (refine ⟨_, rfl, fun ht => ?_, fun ht => ?_⟩ <;> (try simp only [bbs] at ht)) | (refine ⟨_, rfl, ?_⟩; (try simp only [tupOf])))) | refine wSkip ?_ | (refine wExit ?_; simp only [thenQ, blockQ, reduceIte, Nat.reduceEqDiff]) | refine wSeq ?_ | refine wBlock ?_)
    all_goals exact ⟨rfl, rfl⟩
theorem c_sPU (a b : UInt8) : ∀ H, call Tryz.prog cfg0 0 79 [.v (.string ⟨#[a, b]⟩), .v (.int .i64 16), .v (.int .i64 8)] H = some (pu [(a.toNat : Int), (b.toNat : Int)], H) :=
  call_fz Tryz.func79 rfl ok_sPU rfl (by simp only [fz_cons, fz_nil, go_sem, and_self]) (p_sPU a b)

end
end Go.Proofs.YtakbbccdnkigpaaGreatDoor
namespace Go.Proofs.YtakbbccdnkigpaaGreatDoor
open Go Go.RowKit Go.Proofs.YtakbbccdnkigpaaGreatDoor.Eng
set_option linter.unusedSimpArgs false
set_option linter.unusedVariables false
set_option maxRecDepth 100000
set_option maxHeartbeats 1000000
noncomputable section
def hexS : List UInt8 := [48, 49, 50, 51, 52, 53, 54, 55, 56, 57, 97, 98, 99, 100, 101, 102]
def hexB (j : Nat) : UInt8 := hexS.getD j 0
theorem hexB_at {j : Nat} (h : j < 16) : hexS[j]? = some (hexB j) := by
  unfold hexB
  rw [List.getD_eq_getElem?_getD, List.getElem?_eq_getElem (show j < hexS.length by exact h)]; rfl
theorem hexA_at {j : Nat} (h : j < 16) : (⟨#[48, 49, 50, 51, 52, 53, 54, 55, 56, 57, 97, 98, 99, 100, 101, 102]⟩ : ByteArray).data.toList[j]? = some (hexB j) := hexB_at h
theorem hexA_at' {j : Nat} (h : j < 16) : (#[48, 49, 50, 51, 52, 53, 54, 55, 56, 57, 97, 98, 99, 100, 101, 102] : Array UInt8).toList[j]? = some (hexB j) := hexB_at h
/-- What a sign tells; -1: it is none. -/
def nibZ (c : Int) : Int := if 48 ≤ c ∧ c ≤ 57 then c - 48 else if 97 ≤ c ∧ c ≤ 102 then c - 87 else -1
theorem nib_yes : ∀ j : Fin 16, nibZ ((hexB j.val).toNat : Int) = j.val := by decide +kernel
theorem nib_no : ∀ c : Fin 256, (∀ j : Fin 16, (hexB j.val).toNat ≠ c.val) → nibZ (c.val : Int) = -1 := by decide +kernel
theorem nib_hexZ : ∀ c : Fin 256, (0 ≤ nibZ (c.val : Int) ↔ (hexZ c.val < 16 ∧ ((hexB (hexZ c.val).toNat).toNat : Int) = c.val)) ∧ (0 ≤ nibZ (c.val : Int) → hexZ c.val = nibZ c.val) ∧ 0 ≤ hexZ c.val := by decide +kernel
theorem nibZ_no {c : UInt8} (h : ∀ j, j < 16 → hexB j ≠ c) : nibZ (c.toNat : Int) = -1 := by
  have := nib_no ⟨c.toNat, UInt8.toNat_lt c⟩ fun j e => h j.val j.isLt (UInt8.toNat_inj.1 e)
  exact this
theorem ok_sl14Nibble : fnOk Tryz.prog cfg0 86 Tryz.f86 = true := by kernel_rfl
theorem p_sl14Nibble (c : UInt8) : pure Tryz.prog cfg0 86 Tryz.f86 [.v (.int .u8 (c.toNat : Int))] = some (.v (.int .i64 (nibZ (c.toNat : Int))), true) := by
  refine pure_wp (rs := [.tmp 2]) rfl rfl ?_
  have hp0 : ∀ b, cfg0.pol 86 b = 0 := fun b => rfl
  repeat' (first | ((first | refine wSeqr ?_ | refine wIf ?_ | refine wReg ?_ | (refine wRet ?_; (try simp only [thenQ, blockQ]); refine ends_by ?_)); intro xx hx; have hc := trivial; (repeat' (simp only [hc, Nat.reduceBEq, go_sem, Nat.reduceAdd, Nat.reduceMul, Nat.reduceSub, Nat.reduceEqDiff, Nat.reduceLT, Nat.reduceLeDiff, Int.reduceEq, Int.reduceLT, Int.reduceLE, reduceIte, aresults, aresult, hp0] at hx; (try (rw [guardL_if] at hx; split at hx <;> rename_i hc)))); all_goals (subst hx; first | (refine ⟨_, rfl, fun ht => ?_, fun ht => ?_⟩ <;> (try simp only [bbs] at ht)) | (refine ⟨_, rfl, ?_⟩; (try simp only [tupOf])))) | refine wSkip ?_ | (refine wExit ?_; simp only [thenQ, blockQ, reduceIte, Nat.reduceEqDiff]) | refine wSeq ?_ | refine wBlock ?_)
  refine wLoop (fun k s => ∃ (j : Nat), j + k = 16 ∧ s.1 0 = .v (.int .u8 (c.toNat : Int)) ∧ s.1 3 = .v (.int .i64 (j : Nat)) ∧ (∀ i, i < j → hexB i ≠ c)) (fun k s hI => ?_) (16) _ ?_
  · obtain ⟨e, H⟩ := s
    obtain ⟨j, hj, h0, h3, hno⟩ := hI
    simp only at h0 h3 hno
    by_cases hlt : j < 16
    · have hg := hexA_at hlt
      have hg2 := hexA_at' hlt
      have hjI : ((j : Nat) : Int) < 16 := by omega
      by_cases he : hexB j = c
      · have heI : ((hexB j).toNat : Int) = (c.toNat : Int) := by rw [he]
        repeat' (first | ((first | refine wSeqr ?_ | refine wIf ?_ | refine wReg ?_ | (refine wRet ?_; (try simp only [thenQ, blockQ]); refine ends_by ?_)); intro xx hx; have hc := trivial; (repeat' (simp only [hc, Nat.reduceBEq, go_sem, Nat.reduceAdd, Nat.reduceMul, Nat.reduceSub, Nat.reduceEqDiff, Nat.reduceLT, Nat.reduceLeDiff, Int.reduceEq, Int.reduceLT, Int.reduceLE, reduceIte, aresults, aresult, hp0, h0, h3, hjI, hg, hg2, heI] at hx; (try (rw [guardL_if] at hx; split at hx <;> rename_i hc)))); all_goals (subst hx; first | (refine ⟨_, rfl, fun ht => ?_, fun ht => ?_⟩ <;> (try simp only [bbs] at ht)) | (refine ⟨_, rfl, ?_⟩; (try simp only [tupOf])))) | refine wSkip ?_ | (refine wExit ?_; simp only [thenQ, blockQ, reduceIte, Nat.reduceEqDiff]) | refine wSeq ?_ | refine wBlock ?_)
        all_goals
          refine gives_intv ?_
          rw [← he]
          exact (nib_yes ⟨j, hlt⟩).symm
      · have heI : ¬ ((hexB j).toNat : Int) = (c.toNat : Int) := fun h => he (UInt8.toNat_inj.1 (by omega))
        repeat' (first | ((first | refine wSeqr ?_ | refine wIf ?_ | refine wReg ?_ | (refine wRet ?_; (try simp only [thenQ, blockQ]); refine ends_by ?_)); intro xx hx; have hc := trivial; (repeat' (simp only [hc, Nat.reduceBEq, go_sem, Nat.reduceAdd, Nat.reduceMul, Nat.reduceSub, Nat.reduceEqDiff, Nat.reduceLT, Nat.reduceLeDiff, Int.reduceEq, Int.reduceLT, Int.reduceLE, reduceIte, aresults, aresult, hp0, h0, h3, hjI, hg, hg2, heI, wrap_succ (show j < 9223372036854775807 by omega)] at hx; (try (rw [guardL_if] at hx; split at hx <;> rename_i hc)))); all_goals (subst hx; first | (refine ⟨_, rfl, fun ht => ?_, fun ht => ?_⟩ <;> (try simp only [bbs] at ht)) | (refine ⟨_, rfl, ?_⟩; (try simp only [tupOf])))) | refine wSkip ?_ | (refine wExit ?_; simp only [thenQ, blockQ, reduceIte, Nat.reduceEqDiff]) | refine wSeq ?_ | refine wBlock ?_)
        refine ⟨_, Nat.sub_lt (by omega) Nat.one_pos, j + 1, by omega, by simp only [upd_eq, Nat.reduceEqDiff, if_false, if_true, h0, h3], by simp only [upd_eq, Nat.reduceEqDiff, if_false, if_true, h0, h3], ?_⟩
        intro i hi
        by_cases hij : i = j
        · rw [hij]; exact he
        · exact hno i (by omega)
    · have hjI : ¬ ((j : Nat) : Int) < 16 := by omega
      repeat' (first | ((first | refine wSeqr ?_ | refine wIf ?_ | refine wReg ?_ | (refine wRet ?_; (try simp only [thenQ, blockQ]); refine ends_by ?_)); intro xx hx; have hc := trivial; (repeat' (simp only [hc, Nat.reduceBEq, go_sem, Nat.reduceAdd, Nat.reduceMul, Nat.reduceSub, Nat.reduceEqDiff, Nat.reduceLT, Nat.reduceLeDiff, Int.reduceEq, Int.reduceLT, Int.reduceLE, reduceIte, aresults, aresult, hp0, h0, h3, hjI] at hx; (try (rw [guardL_if] at hx; split at hx <;> rename_i hc)))); all_goals (subst hx; first | (refine ⟨_, rfl, fun ht => ?_, fun ht => ?_⟩ <;> (try simp only [bbs] at ht)) | (refine ⟨_, rfl, ?_⟩; (try simp only [tupOf])))) | refine wSkip ?_ | (refine wExit ?_; simp only [thenQ, blockQ, reduceIte, Nat.reduceEqDiff]) | refine wSeq ?_ | refine wBlock ?_)
      all_goals
        refine gives_intv ?_
        rw [nibZ_no fun i hi => hno i (by omega)]
  · refine ⟨0, by omega, rfl, rfl, ?_⟩
    intro i hi; omega
theorem c_sl14Nibble (c : UInt8) : ∀ H, call Tryz.prog cfg0 0 86 [.v (.int .u8 (c.toNat : Int))] H = some (.v (.int .i64 (nibZ (c.toNat : Int))), H) :=
  call_fz Tryz.func86 rfl ok_sl14Nibble rfl (by simp only [fz_cons, fz_nil, go_sem, and_self]) (p_sl14Nibble c)

theorem ok_inoBytes : fnOk Tryz.prog cfg0 42 Tryz.f42 = true := by kernel_rfl
theorem pq_inoBytes (n : Int) : pure Tryz.prog cfg0 42 Tryz.f42 [.v (.int .i64 n)] = some (.agg [.v (.int .i64 n), .lst false []], true) ∧ owned Tryz.prog cfg0 42 Tryz.f42 [.v (.int .i64 n)] = some (.agg [.v (.int .i64 n), .lst false []]) := by
  refine both_wp (rs := [.cell 2 40]) rfl rfl ?_
  have hp0 : ∀ b, cfg0.pol 42 b = 0 := fun b => rfl
  repeat' (first | ((first | refine wSeqr ?_ | refine wIf ?_ | refine wReg ?_ | (refine wRet ?_; (try simp only [thenQ, blockQ]); refine ends_by ?_)); intro xx hx; have hc := trivial; (repeat' (simp only [hc, Nat.reduceBEq, go_sem, Nat.reduceAdd, Nat.reduceMul, Nat.reduceSub, Nat.reduceEqDiff, Nat.reduceLT, Nat.reduceLeDiff, Int.reduceEq, Int.reduceLT, Int.reduceLE, reduceIte, aresults, aresult, hp0] at hx; (try (rw [guardL_if] at hx; split at hx <;> rename_i hc)))); all_goals (subst hx; first | (refine ⟨_, rfl, fun ht => ?_, fun ht => ?_⟩ <;> (try simp only [bbs] at ht)) | (refine ⟨_, rfl, ?_⟩; (try simp only [tupOf])))) | refine wSkip ?_ | (refine wExit ?_; simp only [thenQ, blockQ, reduceIte, Nat.reduceEqDiff]) | refine wSeq ?_ | refine wBlock ?_)
  all_goals exact ⟨⟨rfl, rfl⟩, own_agg2 ⟨[], rfl, List.nodup_nil⟩⟩
theorem c_inoBytes (n : Int) : ∀ H, call Tryz.prog cfg0 0 42 [.v (.int .i64 n)] H = some (.agg [.v (.int .i64 n), .lst false []], H) :=
  call_fz Tryz.func42 rfl ok_inoBytes rfl (by simp only [fz_cons, fz_nil, go_sem, and_self]) (pq_inoBytes n).1
theorem conv_bs (z y : Int) (H : Hp) (b : Nat) (hb : H.h b = some [.v (.int .u8 z), .v (.int .u8 y)]) : aconv Tryz.prog H 22 9 (.sl b 1 0 2) = some (.v (.string ⟨#[UInt8.ofNat z.toNat, UInt8.ofNat y.toNat]⟩)) := by
  simp [aconv, u22, u9, u5, hb, bytesIn]
/-- The text of a byte. -/
def hexT (n : Nat) : ByteArray := ⟨#[hexB (n / 16), hexB (n % 16)]⟩
theorem ok_iHex1 : fnOk Tryz.prog cfg0 12 Tryz.f12 = true := by kernel_rfl
theorem p_iHex1 (n : Nat) (hn : n < 256) : pure Tryz.prog cfg0 12 Tryz.f12 [bytesL [(n : Int)]] = some (.agg [.v (.int .i64 0), .v (.string (hexT n))], true) := by
  refine pure_wp (rs := [.cell 2 36]) rfl rfl ?_
  have hp0 : ∀ b, cfg0.pol 12 b = 0 := fun b => rfl
  have q1 : Int.tdiv (n : Int) 16 = ((n / 16 : Nat) : Int) := by rw [Int.tdiv_eq_ediv_of_nonneg (by omega)]; omega
  have q2 : Int.tmod (n : Int) 16 = ((n % 16 : Nat) : Int) := by rw [Int.tmod_eq_emod_of_nonneg (by omega)]; omega
  have w1 : IntKind.wrap .u8 ((n / 16 : Nat) : Int) = ((n / 16 : Nat) : Int) := wrap_u8 (by omega) (by omega)
  have g1 := hexA_at (show n / 16 < 16 by omega)
  have g2 := hexA_at (show n % 16 < 16 by omega)
  have g1' := hexA_at' (show n / 16 < 16 by omega)
  have g2' := hexA_at' (show n % 16 < 16 by omega)
  obtain ⟨l, hl⟩ : ∃ l, l = [(n : Int)] := ⟨_, rfl⟩
  rw [← hl]
  have l1 : (l.length : Int) = 1 := by rw [hl]; rfl
  have t1 : UInt8.ofNat ((hexB (n / 16)).toNat : Int).toNat = hexB (n / 16) := by simp
  have t2 : UInt8.ofNat ((hexB (n % 16)).toNat : Int).toNat = hexB (n % 16) := by simp
  have hT : hexT n = ⟨#[UInt8.ofNat ((hexB (n / 16)).toNat : Int).toNat, UInt8.ofNat ((hexB (n % 16)).toNat : Int).toNat]⟩ := by rw [t1, t2]; rfl
  rw [hT]
  clear hT t1 t2
  generalize (n / 16 : Nat) = q at *
  generalize (n % 16 : Nat) = r at *
  repeat' (first | ((first | refine wSeqr ?_ | refine wIf ?_ | refine wReg ?_ | (refine wRet ?_; (try simp only [thenQ, blockQ]); refine ends_by ?_)); intro xx hx; have hc := trivial; (repeat' (simp only [hc, Nat.reduceBEq, go_sem, Nat.reduceAdd, Nat.reduceMul, Nat.reduceSub, Nat.reduceEqDiff, Nat.reduceLT, Nat.reduceLeDiff, Int.reduceEq, Int.reduceLT, Int.reduceLE, reduceIte, aresults, aresult, hp0, l1] at hx; (try (rw [guardL_if] at hx; split at hx <;> rename_i hc)))); all_goals (subst hx; first | (refine ⟨_, rfl, fun ht => ?_, fun ht => ?_⟩ <;> (try simp only [bbs] at ht)) | (refine ⟨_, rfl, ?_⟩; (try simp only [tupOf])))) | refine wSkip ?_ | (refine wExit ?_; simp only [thenQ, blockQ, reduceIte, Nat.reduceEqDiff]) | refine wSeq ?_ | refine wBlock ?_)
  refine wLoop (fun k s => ∃ (j : Nat), j + k = 1 ∧ s.1 11 = bytesL l ∧ s.1 12 = .v (.int .i64 1) ∧ s.1 13 = .v (.int .i64 (j : Nat)) ∧ s.1 2 = .ptr 0 0 ∧ ((j = 0 ∧ s.1 3 = .lst true [] ∧ s.2 = Hp.nil.new [.v (.int .i64 0), .v (.string ⟨#[]⟩)]) ∨ (j = 1 ∧ s.1 3 = .sl 1 1 0 2 ∧ s.2 = (Hp.nil.new [.v (.int .i64 0), .v (.string ⟨#[]⟩)]).new [.v (.int .u8 (hexB q).toNat), .v (.int .u8 (hexB r).toNat)]))) (fun k s hI => ?_) (1) _ ?_
  · obtain ⟨e, H⟩ := s
    obtain ⟨j, hj, h11, h12, h13, h2, hs⟩ := hI
    simp only at h11 h12 h13 h2 hs
    rcases hs with ⟨hj0, h3, rfl⟩ | ⟨hj1, h3, rfl⟩
    · have gg' : (l.map fun z => [AV.v (.int .u8 z)])[j]? = some [.v (.int .u8 n)] := by rw [hj0, hl]; rfl
      have hjI : ((j : Nat) : Int) < 1 := by omega
      repeat' (first | ((first | refine wSeqr ?_ | refine wIf ?_ | refine wReg ?_ | (refine wRet ?_; (try simp only [thenQ, blockQ]); refine ends_by ?_)); intro xx hx; have hc := trivial; (repeat' (simp only [hc, Nat.reduceBEq, go_sem, Nat.reduceAdd, Nat.reduceMul, Nat.reduceSub, Nat.reduceEqDiff, Nat.reduceLT, Nat.reduceLeDiff, Int.reduceEq, Int.reduceLT, Int.reduceLE, reduceIte, aresults, aresult, hp0, h11, h12, h13, h2, h3, bytesL, cell, gg', hjI, q1, q2, w1, g1, g2, g1', g2', wrap_succ (show j < 9223372036854775807 by omega)] at hx; (try (rw [guardL_if] at hx; split at hx <;> rename_i hc)))); all_goals (subst hx; first | (refine ⟨_, rfl, fun ht => ?_, fun ht => ?_⟩ <;> (try simp only [bbs] at ht)) | (refine ⟨_, rfl, ?_⟩; (try simp only [tupOf])))) | refine wSkip ?_ | (refine wExit ?_; simp only [thenQ, blockQ, reduceIte, Nat.reduceEqDiff]) | refine wSeq ?_ | refine wBlock ?_)
      all_goals try (exfalso; omega)
      refine ⟨_, Nat.sub_lt (by omega) Nat.one_pos, j + 1, by omega, by simp only [upd_eq, Nat.reduceEqDiff, if_false, if_true, h11, h12, h13, h2], by simp only [upd_eq, Nat.reduceEqDiff, if_false, if_true, h11, h12, h13, h2], by simp only [upd_eq, Nat.reduceEqDiff, if_false, if_true, h11, h12, h13, h2], by simp only [upd_eq, Nat.reduceEqDiff, if_false, if_true, h11, h12, h13, h2], ?_⟩
      exact Or.inr ⟨by omega, by simp only [upd_eq, Nat.reduceEqDiff, if_false, if_true], rfl⟩
    · have hcv := conv_bs ((hexB q).toNat : Int) ((hexB r).toNat : Int) ((Hp.nil.new [.v (.int .i64 0), .v (.string ⟨#[]⟩)]).new [.v (.int .u8 (hexB q).toNat), .v (.int .u8 (hexB r).toNat)]) 1 rfl
      have hjI : ¬ ((j : Nat) : Int) < 1 := by omega
      repeat' (first | ((first | refine wSeqr ?_ | refine wIf ?_ | refine wReg ?_ | (refine wRet ?_; (try simp only [thenQ, blockQ]); refine ends_by ?_)); intro xx hx; have hc := trivial; (repeat' (simp only [hc, Nat.reduceBEq, go_sem, Nat.reduceAdd, Nat.reduceMul, Nat.reduceSub, Nat.reduceEqDiff, Nat.reduceLT, Nat.reduceLeDiff, Int.reduceEq, Int.reduceLT, Int.reduceLE, reduceIte, aresults, aresult, hp0, h11, h12, h13, h2, h3, hcv, hjI] at hx; (try (rw [guardL_if] at hx; split at hx <;> rename_i hc)))); all_goals (subst hx; first | (refine ⟨_, rfl, fun ht => ?_, fun ht => ?_⟩ <;> (try simp only [bbs] at ht)) | (refine ⟨_, rfl, ?_⟩; (try simp only [tupOf])))) | refine wSkip ?_ | (refine wExit ?_; simp only [thenQ, blockQ, reduceIte, Nat.reduceEqDiff]) | refine wSeq ?_ | refine wBlock ?_)
      all_goals try (exfalso; omega)
      all_goals exact ⟨rfl, rfl⟩
  · refine ⟨0, by omega, rfl, rfl, rfl, rfl, ?_⟩
    exact Or.inl ⟨rfl, by simp only [upd_eq, Nat.reduceEqDiff, if_false, if_true], rfl⟩
end
end Go.Proofs.YtakbbccdnkigpaaGreatDoor
namespace Go.Proofs.YtakbbccdnkigpaaGreatDoor
open Go Go.RowKit Go.Proofs.YtakbbccdnkigpaaGreatDoor.Eng
set_option linter.unusedSimpArgs false
set_option linter.unusedVariables false
set_option maxRecDepth 100000
set_option maxHeartbeats 1000000
noncomputable section
def hexRd : List UInt8 → Option (List Int)
  | [] => some []
  | [_] => none
  | a :: b :: r => if 0 ≤ nibZ (a.toNat : Int) ∧ 0 ≤ nibZ (b.toNat : Int) then (hexRd r).map fun t => (16 * nibZ (a.toNat : Int) + nibZ (b.toNat : Int)) :: t else none
theorem hexRd_odd : ∀ (n : Nat) (l : List UInt8), l.length = 2 * n + 1 → hexRd l = none := by
  intro n
  induction n with
  | zero =>
    intro l h
    obtain ⟨a, rfl⟩ := List.length_eq_one_iff.1 h
    rfl
  | succ n ih =>
    intro l h
    match l, h with
    | a :: b :: r, h =>
      simp only [hexRd]
      rw [ih r (by simp only [List.length_cons] at h; omega)]
      split <;> rfl
theorem nibZ_b (c : UInt8) : nibZ (c.toNat : Int) ≤ 15 ∧ -1 ≤ nibZ (c.toNat : Int) := by
  unfold nibZ; split
  · omega
  · split <;> omega
/-- How far a reading has come: o is read of the first 2 * j signs. -/
def Rd (w : List UInt8) (j : Nat) (o : List Int) : Prop := o.length = j ∧ Bytes o ∧ 2 * j ≤ w.length ∧ hexRd w = (hexRd (w.drop (2 * j))).map (o ++ ·)
theorem Rd.zero (w : List UInt8) : Rd w 0 [] := ⟨rfl, fun z h => by simp at h, by omega, by simp⟩
theorem two_at {w : List UInt8} {j : Nat} (h : 2 * j + 2 ≤ w.length) : ∃ a b, w[2 * j]? = some a ∧ w[2 * j + 1]? = some b ∧ w.drop (2 * j) = a :: b :: w.drop (2 * (j + 1)) := by
  refine ⟨w[2 * j], w[2 * j + 1], by simp, by simp, ?_⟩
  rw [List.drop_eq_getElem_cons (by omega), List.drop_eq_getElem_cons (show 2 * j + 1 < w.length by omega)]
  rfl
theorem Rd.next {w : List UInt8} {j : Nat} {o : List Int} {a b : UInt8} (h : Rd w j o) (h2 : 2 * j + 2 ≤ w.length) (hd : w.drop (2 * j) = a :: b :: w.drop (2 * (j + 1))) (ha : 0 ≤ nibZ (a.toNat : Int)) (hb : 0 ≤ nibZ (b.toNat : Int)) :
    Rd w (j + 1) (o ++ [16 * nibZ (a.toNat : Int) + nibZ (b.toNat : Int)]) := by
  obtain ⟨h1, h2', h3, h4⟩ := h
  have ba := nibZ_b a
  have bb := nibZ_b b
  refine ⟨by simp [h1], fun z hz => ?_, by omega, ?_⟩
  · rcases List.mem_append.1 hz with hz | hz
    · exact h2' z hz
    · simp at hz; omega
  · rw [h4, hd, hexRd, if_pos ⟨ha, hb⟩, Option.map_map]
    congr 1
    funext t; simp
theorem Rd.bad {w : List UInt8} {j : Nat} {o : List Int} {a b : UInt8} (h : Rd w j o) (hd : w.drop (2 * j) = a :: b :: w.drop (2 * (j + 1))) (hab : ¬ (0 ≤ nibZ (a.toNat : Int) ∧ 0 ≤ nibZ (b.toNat : Int))) : hexRd w = none := by
  rw [h.2.2.2, hd, hexRd, if_neg hab]; rfl
theorem Rd.fin {w : List UInt8} {j : Nat} {o : List Int} (h : Rd w j o) (he : w.length = 2 * j) : hexRd w = some o := by
  rw [h.2.2.2, List.drop_of_length_le (by omega)]; simp [hexRd]
def rdRes (w : List UInt8) : AV := match hexRd w with
  | some l => .tup [bytesL l, .v (.bool true)]
  | none => .tup [.lst false [], .v (.bool false)]
theorem own_tup2 {y : Value} {x : AV} {H : Hp} (h : ∃ fp, fpt H 11 x = some fp ∧ fp.Nodup) : Own1 H (.tup [x, .v y]) := by
  obtain ⟨fp, h1, h2⟩ := h
  refine ⟨fp, ?_, h2⟩
  show ([x, AV.v y].mapM (fpt H 11)).map List.flatten = some fp
  have hm : [x, AV.v y].mapM (fpt H 11) = some [fp, []] := mapM_cons_some.2 ⟨_, _, h1, mapM_cons_some.2 ⟨_, _, rfl, rfl, rfl⟩, rfl⟩
  rw [hm]; simp
theorem fpt_racc {H : Hp} {x : AV} {n : Nat} {o : List Int} (h : RAcc H x 1 (o.map cell) n) : ∃ fp, fpt H 11 x = some fp ∧ fp.Nodup := by
  rcases h.2 with ⟨-, rfl | rfl⟩ | ⟨b, -, rfl, hb⟩
  · exact ⟨[], rfl, List.nodup_nil⟩
  · exact ⟨[], rfl, List.nodup_nil⟩
  · obtain ⟨fp, h1, h2, -⟩ := fpt_flat (d := 10) hb (sz := 1) (o := 0) (n := n) (by simp [cell, fpt_int])
    exact ⟨fp, h1, h2⟩
theorem gives_pair {H : Hp} {x : AV} {n : Nat} {o : List Int} {b : Bool} (h : RAcc H x 1 (o.map cell) n) (hn : n = o.length) : GivesO (.tup [bytesL o, .v (.bool b)]) (.tup [x, .v (.bool b)]) H := by
  refine ⟨⟨?_, ?_⟩, own_tup2 (fpt_racc h)⟩
  · have h1 := deep_racc1 (d := 10) h hn (fun q => Fz.int _ _ _)
    show ([x, AV.v (.bool b)].mapM (deep H 11)).map AV.tup = _
    rw [mapM_c h1 (mapM_c (show deep H 11 (.v (.bool b)) = some (.v (.bool b)) from rfl) mapM_n)]; rfl
  · have h1 := clean_racc1 (d := 10) h (fun q => rfl)
    show [x, AV.v (.bool b)].all (clean H 11) = true
    simp only [List.all_cons, List.all_nil, Bool.and_true, h1, Bool.true_and]
    rfl
theorem gives_pair0 {H : Hp} : GivesO (.tup [.lst false [], .v (.bool false)]) (.tup [.v (.slice none 0 0), .v (.bool false)]) H := ⟨⟨rfl, rfl⟩, ⟨[], rfl, List.nodup_nil⟩⟩
theorem ok_sl14Read : fnOk Tryz.prog cfg0 52 Tryz.f52 = true := by kernel_rfl
theorem pq_sl14Read (z : ByteArray) (hz : z.size ≤ 1048576) : pure Tryz.prog cfg0 52 Tryz.f52 [.v (.string z)] = some (rdRes z.data.toList, true) ∧ owned Tryz.prog cfg0 52 Tryz.f52 [.v (.string z)] = some (rdRes z.data.toList) := by
  refine both_wp (rs := [.tmp 2, .tmp 3]) rfl rfl ?_
  have hp0 : ∀ b, cfg0.pol 52 b = 0 := fun b => rfl
  have hsz := size_toList z
  generalize hw : z.data.toList = w at hsz ⊢
  have hwl : w.length ≤ 1048576 := by omega
  have e2 : Int.tmod (z.size : Int) 2 = ((w.length % 2 : Nat) : Int) := by rw [Int.tmod_eq_emod_of_nonneg (by omega)]; omega
  by_cases hodd : w.length % 2 = 0
  rotate_left
  · have hno : rdRes w = .tup [.lst false [], .v (.bool false)] := by unfold rdRes; rw [hexRd_odd (w.length / 2) w (by omega)]
    have e2' : ¬ ((w.length % 2 : Nat) : Int) = 0 := by omega
    rw [hno]
    repeat' (first | ((first | refine wSeqr ?_ | refine wIf ?_ | refine wReg ?_ | (refine wRet ?_; (try simp only [thenQ, blockQ]); refine ends_by ?_)); intro xx hx; have hc := trivial; (repeat' (simp only [hc, Nat.reduceBEq, go_sem, Nat.reduceAdd, Nat.reduceMul, Nat.reduceSub, Nat.reduceEqDiff, Nat.reduceLT, Nat.reduceLeDiff, Int.reduceEq, Int.reduceLT, Int.reduceLE, reduceIte, aresults, aresult, hp0, e2, e2'] at hx; (try (rw [guardL_if] at hx; split at hx <;> rename_i hc)))); all_goals (subst hx; first | (refine ⟨_, rfl, fun ht => ?_, fun ht => ?_⟩ <;> (try simp only [bbs] at ht)) | (refine ⟨_, rfl, ?_⟩; (try simp only [tupOf])))) | refine wSkip ?_ | (refine wExit ?_; simp only [thenQ, blockQ, reduceIte, Nat.reduceEqDiff]) | refine wSeq ?_ | refine wBlock ?_)
    all_goals exact gives_pair0
  have e2' : ((w.length % 2 : Nat) : Int) = 0 := by omega
  repeat' (first | ((first | refine wSeqr ?_ | refine wIf ?_ | refine wReg ?_ | (refine wRet ?_; (try simp only [thenQ, blockQ]); refine ends_by ?_)); intro xx hx; have hc := trivial; (repeat' (simp only [hc, Nat.reduceBEq, go_sem, Nat.reduceAdd, Nat.reduceMul, Nat.reduceSub, Nat.reduceEqDiff, Nat.reduceLT, Nat.reduceLeDiff, Int.reduceEq, Int.reduceLT, Int.reduceLE, reduceIte, aresults, aresult, hp0, e2, e2'] at hx; (try (rw [guardL_if] at hx; split at hx <;> rename_i hc)))); all_goals (subst hx; first | (refine ⟨_, rfl, fun ht => ?_, fun ht => ?_⟩ <;> (try simp only [bbs] at ht)) | (refine ⟨_, rfl, ?_⟩; (try simp only [tupOf])))) | refine wSkip ?_ | (refine wExit ?_; simp only [thenQ, blockQ, reduceIte, Nat.reduceEqDiff]) | refine wSeq ?_ | refine wBlock ?_)
  all_goals try (exfalso; (try simp only [bbs] at *); first | omega | exact absurd trivial (by assumption))
  refine wLoop (fun k s => ∃ (j : Nat) (o : List Int), j + k = w.length / 2 ∧ s.1 0 = .v (.string z) ∧ s.1 5 = .v (.int .i64 ((2 * j : Nat) : Int)) ∧ s.1 2 = .v (.slice none 0 0) ∧ (RAcc s.2 (s.1 4) 1 (o.map cell) j) ∧ (Rd w j o)) (fun k s hI => ?_) (w.length / 2) _ ?_
  · obtain ⟨e, H⟩ := s
    obtain ⟨j, o, hj, h0, h5, h2, hacc, hrd⟩ := hI
    simp only at h0 h5 h2 hacc hrd
    by_cases hlt : 2 * j < w.length
    · obtain ⟨a, b, ga, gb, hd⟩ := two_at (w := w) (j := j) (by omega)
      have ga' : z.data.toList[2 * j]? = some a := by rw [hw]; exact ga
      have gb' : z.data.toList[2 * j + 1]? = some b := by rw [hw]; exact gb
      have hltI : ((2 * j : Nat) : Int) < (z.size : Int) := by omega
      have w1 : IntKind.wrap .i64 (((2 * j : Nat) : Int) + 1) = ((2 * j + 1 : Nat) : Int) := by rw [wrap_i64 (by omega) (by omega)]; omega
      have w2 : IntKind.wrap .i64 (((2 * j : Nat) : Int) + 2) = ((2 * (j + 1) : Nat) : Int) := by rw [wrap_i64 (by omega) (by omega)]; omega
      have ba := nibZ_b a
      have bb := nibZ_b b
      generalize hna : nibZ (a.toNat : Int) = na at *
      generalize hnb : nibZ (b.toNat : Int) = nb at *
      have ca := c_sl14Nibble a
      have cb := c_sl14Nibble b
      rw [hna] at ca
      rw [hnb] at cb
      by_cases hok : 0 ≤ na ∧ 0 ≤ nb
      · have n1 : ¬ na < 0 := by omega
        have n2 : ¬ nb < 0 := by omega
        have w3 : IntKind.wrap .i64 (16 * na) = 16 * na := wrap_i64 (by omega) (by omega)
        have w4 : IntKind.wrap .i64 (16 * na + nb) = 16 * na + nb := wrap_i64 (by omega) (by omega)
        have w5 : IntKind.wrap .u8 (16 * na + nb) = 16 * na + nb := wrap_u8 (by omega) (by omega)
        repeat' (first | ((first | refine wSeqr ?_ | refine wIf ?_ | refine wReg ?_ | (refine wRet ?_; (try simp only [thenQ, blockQ]); refine ends_by ?_)); intro xx hx; have hc := trivial; (repeat' (simp only [hc, Nat.reduceBEq, go_sem, Nat.reduceAdd, Nat.reduceMul, Nat.reduceSub, Nat.reduceEqDiff, Nat.reduceLT, Nat.reduceLeDiff, Int.reduceEq, Int.reduceLT, Int.reduceLE, reduceIte, aresults, aresult, hp0, h0, h5, hltI, ga', gb', w1, ca, cb, n1, n2, conv_ii, w3, w4, w5] at hx; (try (rw [guardL_if] at hx; split at hx <;> rename_i hc)))); all_goals (subst hx; first | (refine ⟨_, rfl, fun ht => ?_, fun ht => ?_⟩ <;> (try simp only [bbs] at ht)) | (refine ⟨_, rfl, ?_⟩; (try simp only [tupOf])))) | refine wSkip ?_ | (refine wExit ?_; simp only [thenQ, blockQ, reduceIte, Nat.reduceEqDiff]) | refine wSeq ?_ | refine wBlock ?_)
        (first | refine wSeqr ?_ | refine wReg ?_); intro xx hx; have hc := trivial; (repeat' (simp only [hc, Nat.reduceBEq, go_sem, Nat.reduceAdd, Nat.reduceMul, Nat.reduceSub, Nat.reduceEqDiff, Nat.reduceLT, Nat.reduceLeDiff, Int.reduceEq, Int.reduceLT, Int.reduceLE, reduceIte, aresults, aresult, hp0, conv_ii, w3, w4, w5] at hx; (try (rw [guardL_if] at hx; split at hx <;> rename_i hc)))); generalize hq : aappend Tryz.prog _ _ _ _ = q at hx
        obtain ⟨x', H', rfl, hacc', -, -⟩ := app_rows hq el22 zero5 by5 int22 (sz := 1) rfl (by omega) hacc (m := 1) (ys := [.v (.int .u8 (16 * na + nb))]) rfl rfl (by simp) (by omega) (by omega)
        have hc := trivial; (repeat' (simp only [hc, Nat.reduceBEq, go_sem, Nat.reduceAdd, Nat.reduceMul, Nat.reduceSub, Nat.reduceEqDiff, Nat.reduceLT, Nat.reduceLeDiff, Int.reduceEq, Int.reduceLT, Int.reduceLE, reduceIte, aresults, aresult, hp0] at hx; (try (rw [guardL_if] at hx; split at hx <;> rename_i hc)))); all_goals (subst hx; refine ⟨_, rfl, ?_⟩)
        repeat' (first | ((first | refine wSeqr ?_ | refine wIf ?_ | refine wReg ?_ | (refine wRet ?_; (try simp only [thenQ, blockQ]); refine ends_by ?_)); intro xx hx; have hc := trivial; (repeat' (simp only [hc, Nat.reduceBEq, go_sem, Nat.reduceAdd, Nat.reduceMul, Nat.reduceSub, Nat.reduceEqDiff, Nat.reduceLT, Nat.reduceLeDiff, Int.reduceEq, Int.reduceLT, Int.reduceLE, reduceIte, aresults, aresult, hp0, h5, w2] at hx; (try (rw [guardL_if] at hx; split at hx <;> rename_i hc)))); all_goals (subst hx; first | (refine ⟨_, rfl, fun ht => ?_, fun ht => ?_⟩ <;> (try simp only [bbs] at ht)) | (refine ⟨_, rfl, ?_⟩; (try simp only [tupOf])))) | refine wSkip ?_ | (refine wExit ?_; simp only [thenQ, blockQ, reduceIte, Nat.reduceEqDiff]) | refine wSeq ?_ | refine wBlock ?_)
        refine ⟨_, Nat.sub_lt (by omega) Nat.one_pos, j + 1, o ++ [16 * na + nb], by omega, by simp only [upd_eq, Nat.reduceEqDiff, if_false, if_true, h0, h5, h2], by simp only [upd_eq, Nat.reduceEqDiff, if_false, if_true, h0, h5, h2], by simp only [upd_eq, Nat.reduceEqDiff, if_false, if_true, h0, h5, h2], ?_⟩
        refine ⟨?_, ?_⟩
        · simp only [upd_eq, Nat.reduceEqDiff, if_false, if_true]
          simpa [cell] using hacc'
        · have := hrd.next (by omega) hd (by rw [hna]; exact hok.1) (by rw [hnb]; exact hok.2)
          rw [hna, hnb] at this
          exact this
      · have hno : rdRes w = .tup [.lst false [], .v (.bool false)] := by unfold rdRes; rw [hrd.bad hd (by rw [hna, hnb]; exact hok)]
        rw [hno]
        repeat' (first | ((first | refine wSeqr ?_ | refine wIf ?_ | refine wReg ?_ | (refine wRet ?_; (try simp only [thenQ, blockQ]); refine ends_by ?_)); intro xx hx; have hc := trivial; (repeat' (simp only [hc, Nat.reduceBEq, go_sem, Nat.reduceAdd, Nat.reduceMul, Nat.reduceSub, Nat.reduceEqDiff, Nat.reduceLT, Nat.reduceLeDiff, Int.reduceEq, Int.reduceLT, Int.reduceLE, reduceIte, aresults, aresult, hp0, h0, h5, h2, hltI, ga', gb', w1, ca, cb] at hx; (try (rw [guardL_if] at hx; split at hx <;> rename_i hc)))); all_goals (subst hx; first | (refine ⟨_, rfl, fun ht => ?_, fun ht => ?_⟩ <;> (try simp only [bbs] at ht)) | (refine ⟨_, rfl, ?_⟩; (try simp only [tupOf])))) | refine wSkip ?_ | (refine wExit ?_; simp only [thenQ, blockQ, reduceIte, Nat.reduceEqDiff]) | refine wSeq ?_ | refine wBlock ?_)
        all_goals first
          | exact gives_pair0
          | (exfalso; (try simp only [bbs] at *); omega)
    · have hltI : ¬ ((2 * j : Nat) : Int) < (z.size : Int) := by omega
      have hfin := hrd.fin (by have := hrd.2.2.1; omega)
      have hyes : rdRes w = .tup [bytesL o, .v (.bool true)] := by unfold rdRes; rw [hfin]
      rw [hyes]
      repeat' (first | ((first | refine wSeqr ?_ | refine wIf ?_ | refine wReg ?_ | (refine wRet ?_; (try simp only [thenQ, blockQ]); refine ends_by ?_)); intro xx hx; have hc := trivial; (repeat' (simp only [hc, Nat.reduceBEq, go_sem, Nat.reduceAdd, Nat.reduceMul, Nat.reduceSub, Nat.reduceEqDiff, Nat.reduceLT, Nat.reduceLeDiff, Int.reduceEq, Int.reduceLT, Int.reduceLE, reduceIte, aresults, aresult, hp0, h0, h5, hltI] at hx; (try (rw [guardL_if] at hx; split at hx <;> rename_i hc)))); all_goals (subst hx; first | (refine ⟨_, rfl, fun ht => ?_, fun ht => ?_⟩ <;> (try simp only [bbs] at ht)) | (refine ⟨_, rfl, ?_⟩; (try simp only [tupOf])))) | refine wSkip ?_ | (refine wExit ?_; simp only [thenQ, blockQ, reduceIte, Nat.reduceEqDiff]) | refine wSeq ?_ | refine wBlock ?_)
      all_goals exact gives_pair hacc hrd.1.symm
  · refine ⟨0, [], by omega, rfl, rfl, rfl, ?_⟩
    exact ⟨RAcc.lst, Rd.zero w⟩
theorem c_sl14Read (z : ByteArray) (hz : z.size ≤ 1048576) : ∀ H, call Tryz.prog cfg0 0 52 [.v (.string z)] H = some (rdRes z.data.toList, H) :=
  call_fz Tryz.func52 rfl ok_sl14Read rfl (by simp only [fz_cons, fz_nil, go_sem, and_self]) (pq_sl14Read z hz).1
end
end Go.Proofs.YtakbbccdnkigpaaGreatDoor
