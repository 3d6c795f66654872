/- Contracts: marks in texts, and comparisons. -/
import Derived.Test.YtlkoklhnodcipaaDoorW3
namespace Go.Proofs.YtlkoklhnodcipaaDoor
open Go Go.RowKit Go.Proofs.YtlkoklhnodcipaaDoor.Eng
set_option linter.unusedSimpArgs false
set_option linter.unusedVariables false
set_option maxRecDepth 100000
set_option maxHeartbeats 1000000
noncomputable section
/-- A number's signs, ahead of others. -/
def mkL (n : Nat) (acc : List UInt8) : List UInt8 := if n = 0 then acc else mkL (n / 10) (UInt8.ofNat (48 + n % 10) :: acc)
termination_by n
decreasing_by omega
abbrev Acc8 := List UInt8
def mkT (k : Int) : ByteArray := if k ≤ 0 then ba [109, 48] else ba (109 :: mkL k.toNat [])
theorem ba_app (a b : List UInt8) : ba a ++ ba b = ba (a ++ b) := by
  have h : ((ba a ++ ba b).data.toList) = a ++ b := by rw [ByteArray.data_append, Array.toList_append]; rfl
  rw [← h, ba_of]
theorem mkL_len : ∀ (n : Nat) (acc : List UInt8), (mkL n acc).length ≤ acc.length + n := by
  intro n
  induction n using Nat.strongRecOn with
  | ind n ih =>
    intro acc
    unfold mkL
    split
    · omega
    · have := ih (n / 10) (by omega) (UInt8.ofNat (48 + n % 10) :: acc)
      simp only [List.length_cons] at this
      omega
theorem mkL_ge : ∀ (n : Nat) (acc : List UInt8), acc.length ≤ (mkL n acc).length := by
  intro n
  induction n using Nat.strongRecOn with
  | ind n ih =>
    intro acc
    unfold mkL
    split
    · omega
    · have := ih (n / 10) (by omega) (UInt8.ofNat (48 + n % 10) :: acc)
      simp only [List.length_cons] at this
      omega
theorem mkL_pos {m : Nat} (h : 0 < m) (acc : List UInt8) : mkL m acc = mkL (m / 10) (UInt8.ofNat (48 + m % 10) :: acc) := by
  rw [mkL]; rw [if_neg (by omega)]
theorem ba_size (l : List UInt8) : (ba l).size = l.length := by simp [ba, ByteArray.size]
theorem conv_iu (n : Int) (H : Hp) : aconv Tryd.prog H 3 5 (.v (.int .i64 n)) = some (.v (.int .u8 (IntKind.wrap .u8 n))) := by simp [aconv, u3, u5]
theorem conv_s1 (H : Hp) (z : Int) (hz : 0 ≤ z ∧ z ≤ 255) : aconv Tryd.prog H 40 9 (.lst true [[.v (.int .u8 z)]]) = some (.v (.string (ba [UInt8.ofNat z.toNat]))) := by
  simp [aconv, u40, u9, u5, bytesIn, ba]
theorem ok_lmarkText : fnOk Tryd.prog cfg0 19 Tryd.f19 = true := by kernel_rfl
theorem p_lmarkText (k : Int) (hk : k ≤ 4611686018427387000) : pure Tryd.prog cfg0 19 Tryd.f19 [.v (.int .i64 k)] = some (.v (.string (mkT k)), true) := by
  refine pure_wp (rs := [.tmp 2]) rfl rfl ?_
  have hp0 : ∀ b, cfg0.pol 19 b = 0 := fun b => rfl
  by_cases h0k : k ≤ 0
  · rw [show mkT k = ba [109, 48] from if_pos h0k]
    repeat' (first | ((first | refine wSeqr (fun xx hx => ?_) | refine wIf (fun xx hx => ?_) | refine wReg (fun xx hx => ?_) | (refine wRet ?_; (try simp only [thenQ, blockQ]); refine ends_by (fun xx hx => ?_))); have hc := trivial; (repeat' (simp only [hc, Nat.reduceBEq, go_sem, Nat.reduceAdd, Nat.reduceMul, Nat.reduceSub, Nat.reduceEqDiff, Nat.reduceLT, Nat.reduceLeDiff, Int.reduceEq, Int.reduceLT, Int.reduceLE, reduceIte, aresults, aresult, hp0, h0k] at hx; (try (rw [guardL_if] at hx; split at hx <;> rename_i hc)))); all_goals (subst hx; first | (refine ⟨_, rfl, fun ht => ?_, fun ht => ?_⟩ <;> (try simp only [bbs, beq_iff_eq, bne_iff_ne, ne_eq] at ht)) | (refine ⟨_, rfl, ?_⟩; (try simp only [tupOf])))) | refine wSkip ?_ | (refine wExit ?_; simp only [thenQ, blockQ, reduceIte, Nat.reduceEqDiff]) | refine wSeq ?_ | refine wBlock ?_)
    all_goals try (exfalso; (try simp only [bbs, beq_iff_eq, bne_iff_ne, ne_eq] at *); first | omega | exact absurd trivial (by assumption))
    all_goals exact ⟨rfl, rfl⟩
  · obtain ⟨n, hn⟩ : ∃ n : Nat, k = n := ⟨k.toNat, by omega⟩
    subst hn
    rw [show mkT (n : Int) = ba (109 :: mkL n []) from if_neg h0k]
    repeat' ((fail_if_success (first | refine wAt 4 ?_)); first | ((first | refine wSeqr (fun xx hx => ?_) | refine wIf (fun xx hx => ?_) | refine wReg (fun xx hx => ?_) | (refine wRet ?_; (try simp only [thenQ, blockQ]); refine ends_by (fun xx hx => ?_))); have hc := trivial; (repeat' (simp only [hc, Nat.reduceBEq, go_sem, Nat.reduceAdd, Nat.reduceMul, Nat.reduceSub, Nat.reduceEqDiff, Nat.reduceLT, Nat.reduceLeDiff, Int.reduceEq, Int.reduceLT, Int.reduceLE, reduceIte, aresults, aresult, hp0, h0k] at hx; (try (rw [guardL_if] at hx; split at hx <;> rename_i hc)))); all_goals (subst hx; first | (refine ⟨_, rfl, fun ht => ?_, fun ht => ?_⟩ <;> (try simp only [bbs, beq_iff_eq, bne_iff_ne, ne_eq] at ht)) | (refine ⟨_, rfl, ?_⟩; (try simp only [tupOf])))) | refine wSkip ?_ | (refine wExit ?_; simp only [thenQ, blockQ, reduceIte, Nat.reduceEqDiff]) | refine wSeq ?_ | refine wBlock ?_)
    all_goals try (exfalso; (try simp only [bbs, beq_iff_eq, bne_iff_ne, ne_eq] at *); first | omega | exact absurd trivial (by assumption))
    refine wLoop (fun k s => ∃ (j : Nat) (m : Nat) (acc : Acc8), j + k = n ∧ s.1 0 = .v (.int .i64 (m : Nat)) ∧ s.1 3 = .v (.string (ba acc)) ∧ (m ≤ k ∧ mkL m acc = mkL n [])) (fun k s hI => ?_) (n) _ ?_
    · obtain ⟨e, H⟩ := s
      obtain ⟨j, m, acc, hj, h0, h3, hm⟩ := hI
      simp only at h0 h3 hm
      obtain ⟨hmk, hmm⟩ := hm
      by_cases hm0 : 0 < m
      · have hmI : 0 < ((m : Nat) : Int) := by omega
        have t1 : ((m : Nat) : Int).tmod 10 = ((m % 10 : Nat) : Int) := by rw [Int.tmod_eq_emod_of_nonneg (by omega)]; omega
        have t2 : ((m : Nat) : Int).tdiv 10 = ((m / 10 : Nat) : Int) := by rw [Int.tdiv_eq_ediv_of_nonneg (by omega)]; omega
        have w1 : IntKind.wrap .i64 (48 + ((m % 10 : Nat) : Int)) = 48 + ((m % 10 : Nat) : Int) := wrap_i64 (by omega) (by omega)
        have w2 : IntKind.wrap .u8 (48 + ((m % 10 : Nat) : Int)) = 48 + ((m % 10 : Nat) : Int) := wrap_u8 (by omega) (by omega)
        have w3 : IntKind.wrap .i64 ((m / 10 : Nat) : Int) = ((m / 10 : Nat) : Int) := wrap_i64 (by omega) (by omega)
        have hge := mkL_ge (m / 10) (UInt8.ofNat (48 + m % 10) :: acc)
        rw [← mkL_pos hm0, hmm] at hge
        have hln := mkL_len n []
        simp only [List.length_cons, List.length_nil] at hge hln
        have hsz : ((ba [UInt8.ofNat (48 + m % 10)]).size + (ba acc).size ≤ 4611686018427387904) = True := eq_true (by rw [ba_size, ba_size]; simp only [List.length_cons, List.length_nil]; omega)
        have hto : (48 + ((m % 10 : Nat) : Int)).toNat = 48 + m % 10 := by omega
        have cv := fun H => conv_s1 H (48 + ((m % 10 : Nat) : Int)) (by omega)
        repeat' (first | ((first | refine wSeqr (fun xx hx => ?_) | refine wIf (fun xx hx => ?_) | refine wReg (fun xx hx => ?_) | (refine wRet ?_; (try simp only [thenQ, blockQ]); refine ends_by (fun xx hx => ?_))); have hc := trivial; (repeat' (simp only [hc, Nat.reduceBEq, go_sem, Nat.reduceAdd, Nat.reduceMul, Nat.reduceSub, Nat.reduceEqDiff, Nat.reduceLT, Nat.reduceLeDiff, Int.reduceEq, Int.reduceLT, Int.reduceLE, reduceIte, aresults, aresult, hp0, h0, h3, hmI, t1, t2, w1, w2, w3, cv, hsz, hto, ba_app, conv_iu, List.cons_append, List.nil_append] at hx; (try (rw [guardL_if] at hx; split at hx <;> rename_i hc)))); all_goals (subst hx; first | (refine ⟨_, rfl, fun ht => ?_, fun ht => ?_⟩ <;> (try simp only [bbs, beq_iff_eq, bne_iff_ne, ne_eq] at ht)) | (refine ⟨_, rfl, ?_⟩; (try simp only [tupOf])))) | refine wSkip ?_ | (refine wExit ?_; simp only [thenQ, blockQ, reduceIte, Nat.reduceEqDiff]) | refine wSeq ?_ | refine wBlock ?_)
        all_goals try (exfalso; (try simp only [bbs, beq_iff_eq, bne_iff_ne, ne_eq] at *); first | omega | exact absurd trivial (by assumption))
        refine ⟨_, Nat.sub_lt (by omega) Nat.one_pos, j + 1, m / 10, UInt8.ofNat (48 + m % 10) :: acc, by omega, by simp only [upd_eq, Nat.reduceEqDiff, if_false, if_true, h0, h3], by simp only [upd_eq, Nat.reduceEqDiff, if_false, if_true, h0, h3], ?_⟩
        refine ⟨by omega, ?_⟩
        rw [← mkL_pos hm0]; exact hmm
      · have hmI : ¬ 0 < ((m : Nat) : Int) := by omega
        have hge := mkL_ge m acc
        rw [hmm] at hge
        have hln := mkL_len n []
        simp only [List.length_nil] at hln
        have hm00 : m = 0 := by omega
        have hend : acc = mkL n [] := by rw [← hmm, hm00, mkL, if_pos rfl]
        have hsz : ((#[109] : Array UInt8).size + (ba acc).size ≤ 4611686018427387904) = True := eq_true (by rw [ba_size]; show 1 + _ ≤ _; omega)
        have h109 : (⟨#[109]⟩ : ByteArray) ++ ba acc = ba (109 :: acc) := ba_app [109] acc
        repeat' (first | ((first | refine wSeqr (fun xx hx => ?_) | refine wIf (fun xx hx => ?_) | refine wReg (fun xx hx => ?_) | (refine wRet ?_; (try simp only [thenQ, blockQ]); refine ends_by (fun xx hx => ?_))); have hc := trivial; (repeat' (simp only [hc, Nat.reduceBEq, go_sem, Nat.reduceAdd, Nat.reduceMul, Nat.reduceSub, Nat.reduceEqDiff, Nat.reduceLT, Nat.reduceLeDiff, Int.reduceEq, Int.reduceLT, Int.reduceLE, reduceIte, aresults, aresult, hp0, h0, h3, hmI, hsz, h109] at hx; (try (rw [guardL_if] at hx; split at hx <;> rename_i hc)))); all_goals (subst hx; first | (refine ⟨_, rfl, fun ht => ?_, fun ht => ?_⟩ <;> (try simp only [bbs, beq_iff_eq, bne_iff_ne, ne_eq] at ht)) | (refine ⟨_, rfl, ?_⟩; (try simp only [tupOf])))) | refine wSkip ?_ | (refine wExit ?_; simp only [thenQ, blockQ, reduceIte, Nat.reduceEqDiff]) | refine wSeq ?_ | refine wBlock ?_)
        all_goals try (exfalso; (try simp only [bbs, beq_iff_eq, bne_iff_ne, ne_eq] at *); first | omega | exact absurd trivial (by assumption))
        rw [hend]
        exact ⟨rfl, rfl⟩
    · exact ⟨0, n, [], by omega, rfl, rfl, by omega, rfl⟩
theorem c_lmarkText (k : Int) (hk : k ≤ 4611686018427387000) : ∀ H, call Tryd.prog cfg0 0 19 [.v (.int .i64 k)] H = some (.v (.string (mkT k)), H) :=
  call_fz Tryd.func19 rfl ok_lmarkText rfl (by simp only [fz_cons, fz_nil, go_sem, and_self]) (p_lmarkText k hk)

/-- The marks from q on. -/
def mks (q : Int) (n : Nat) : List ByteArray := (List.range n).map fun i => mkT (q + (i : Nat))
theorem mks_len (q : Int) (n : Nat) : (mks q n).length = n := by simp [mks]
theorem mks_at {q : Int} {n j : Nat} (h : j < n) : (mks q n)[j]? = some (mkT (q + (j : Nat))) := by simp [mks, h]
theorem set_setW (H : Hp) (b : Nat) (x y : List AV) : (H.set b x).set b y = H.set b y := by
  unfold Hp.set
  congr 1
  funext b'
  simp only
  split <;> rfl
theorem ok_mkS : fnOk Tryd.prog cfg0 14 Tryd.f14 = true := by kernel_rfl
theorem cr_mkS0 (q : Int) : ∀ H, call Tryd.prog cfg0 0 14 [.lst false [], .v (.int .i64 q)] H = some (.v (.int .i64 q), H) := by
  intro H
  have key : ∃ r, body Tryd.prog cfg0 14 Tryd.f14 [.lst false [], .v (.int .i64 q)] H = some r ∧ (r.1 = .v (.int .i64 q) ∧ r.2 = H) := by
    refine body_wp (rs := [.tmp 4]) rfl rfl (R := fun x H' => x = .v (.int .i64 q) ∧ H' = H) ?_
    have hp0 : ∀ b, cfg0.pol 14 b = 0 := fun b => rfl
    have i00 : (((0 : Nat) : Int) < ((0 : Nat) : Int)) = False := by simp
    have i01 : ((0 : Int) < ((0 : Nat) : Int)) = False := by simp
    repeat' (first | ((first | refine wSeqr (fun xx hx => ?_) | refine wIf (fun xx hx => ?_) | refine wReg (fun xx hx => ?_) | (refine wRet ?_; (try simp only [thenQ, blockQ]); refine ends_by (fun xx hx => ?_))); have hc := trivial; (repeat' (simp only [hc, Nat.reduceBEq, go_sem, Nat.reduceAdd, Nat.reduceMul, Nat.reduceSub, Nat.reduceEqDiff, Nat.reduceLT, Nat.reduceLeDiff, Int.reduceEq, Int.reduceLT, Int.reduceLE, reduceIte, aresults, aresult, hp0] at hx; (try (rw [guardL_if] at hx; split at hx <;> rename_i hc)))); all_goals (subst hx; first | (refine ⟨_, rfl, fun ht => ?_, fun ht => ?_⟩ <;> (try simp only [bbs, beq_iff_eq, bne_iff_ne, ne_eq] at ht)) | (refine ⟨_, rfl, ?_⟩; (try simp only [tupOf])))) | refine wSkip ?_ | (refine wExit ?_; simp only [thenQ, blockQ, reduceIte, Nat.reduceEqDiff]) | refine wSeq ?_ | refine wBlock ?_)
    refine wLoop (fun k s => ∃ (j : Nat), j + k = 0 ∧ s.1 0 = .lst false [] ∧ s.1 1 = .v (.int .i64 q) ∧ s.1 5 = .v (.int .i64 (0 : Int)) ∧ (s.2 = H)) (fun k s hI => ?_) (0) _ ?_
    · obtain ⟨e, H⟩ := s
      obtain ⟨j, hj, h0, h1, h5, hh⟩ := hI
      simp only at h0 h1 h5 hh
      repeat' (first | ((first | refine wSeqr (fun xx hx => ?_) | refine wIf (fun xx hx => ?_) | refine wReg (fun xx hx => ?_) | (refine wRet ?_; (try simp only [thenQ, blockQ]); refine ends_by (fun xx hx => ?_))); have hc := trivial; (repeat' (simp only [hc, Nat.reduceBEq, go_sem, Nat.reduceAdd, Nat.reduceMul, Nat.reduceSub, Nat.reduceEqDiff, Nat.reduceLT, Nat.reduceLeDiff, Int.reduceEq, Int.reduceLT, Int.reduceLE, reduceIte, aresults, aresult, hp0, h0, h1, h5, List.length_nil, i01] at hx; (try (rw [guardL_if] at hx; split at hx <;> rename_i hc)))); all_goals (subst hx; first | (refine ⟨_, rfl, fun ht => ?_, fun ht => ?_⟩ <;> (try simp only [bbs, beq_iff_eq, bne_iff_ne, ne_eq] at ht)) | (refine ⟨_, rfl, ?_⟩; (try simp only [tupOf])))) | refine wSkip ?_ | (refine wExit ?_; simp only [thenQ, blockQ, reduceIte, Nat.reduceEqDiff]) | refine wSeq ?_ | refine wBlock ?_)
      all_goals try (exfalso; (try simp only [bbs, beq_iff_eq, bne_iff_ne, ne_eq] at *); first | omega | exact absurd trivial (by assumption))
      exact ⟨by first | trivial | rfl, hh⟩
    · exact ⟨0, by omega, rfl, rfl, rfl, rfl⟩
  obtain ⟨⟨v, H'⟩, h1, rfl, rfl⟩ := key
  rw [call_raw Tryd.prog cfg0 Tryd.func14 rfl ok_mkS rfl rfl, h1]
theorem d_mkS (q : Int) (l zs : List ByteArray) (hl : l.length ≤ 4000000) (hk : 0 ≤ q ∧ q ≤ 1000000) {H : Hp} {b : Nat} (hb : H.h b = some ((l ++ zs).map txcell)) : call Tryd.prog cfg0 0 14 [.sl b 1 0 l.length, .v (.int .i64 q)] H = some (.v (.int .i64 (q + l.length)), H.set b ((mks q l.length ++ zs).map txcell)) := by
  have key : ∃ r, body Tryd.prog cfg0 14 Tryd.f14 [.sl b 1 0 l.length, .v (.int .i64 q)] H = some r ∧ (r.1 = .v (.int .i64 (q + l.length)) ∧ r.2 = H.set b ((mks q l.length ++ zs).map txcell)) := by
    refine body_wp (rs := [.tmp 4]) rfl rfl (R := fun x H' => x = .v (.int .i64 (q + l.length)) ∧ H' = H.set b ((mks q l.length ++ zs).map txcell)) ?_
    have hp0 : ∀ b, cfg0.pol 14 b = 0 := fun b => rfl
    repeat' (first | ((first | refine wSeqr (fun xx hx => ?_) | refine wIf (fun xx hx => ?_) | refine wReg (fun xx hx => ?_) | (refine wRet ?_; (try simp only [thenQ, blockQ]); refine ends_by (fun xx hx => ?_))); have hc := trivial; (repeat' (simp only [hc, Nat.reduceBEq, go_sem, Nat.reduceAdd, Nat.reduceMul, Nat.reduceSub, Nat.reduceEqDiff, Nat.reduceLT, Nat.reduceLeDiff, Int.reduceEq, Int.reduceLT, Int.reduceLE, reduceIte, aresults, aresult, hp0] at hx; (try (rw [guardL_if] at hx; split at hx <;> rename_i hc)))); all_goals (subst hx; first | (refine ⟨_, rfl, fun ht => ?_, fun ht => ?_⟩ <;> (try simp only [bbs, beq_iff_eq, bne_iff_ne, ne_eq] at ht)) | (refine ⟨_, rfl, ?_⟩; (try simp only [tupOf])))) | refine wSkip ?_ | (refine wExit ?_; simp only [thenQ, blockQ, reduceIte, Nat.reduceEqDiff]) | refine wSeq ?_ | refine wBlock ?_)
    refine wLoop (fun k s => ∃ (j : Nat), j + k = l.length ∧ s.1 0 = .sl b 1 0 l.length ∧ s.1 1 = .v (.int .i64 (q + (j : Nat))) ∧ s.1 5 = .v (.int .i64 (j : Nat)) ∧ (s.2 = H.set b ((mks q j ++ (l.drop j ++ zs)).map txcell))) (fun k s hI => ?_) (l.length) _ ?_
    · obtain ⟨e, H⟩ := s
      obtain ⟨j, hj, h0, h1, h5, hh⟩ := hI
      simp only at h0 h1 h5 hh
      subst hh
      by_cases hlt : j < l.length
      · have hltI : ((j : Nat) : Int) < (l.length : Int) := by omega
        have w1 : IntKind.wrap .i64 (((j : Nat) : Int) + 1) = ((j + 1 : Nat) : Int) := wrap_succ (by omega)
        have w2 : IntKind.wrap .i64 (q + ((j : Nat) : Int) + 1) = q + ((j + 1 : Nat) : Int) := by rw [wrap_i64 (by omega) (by omega)]; omega
        have hm := c_lmarkText (q + ((j : Nat) : Int)) (by omega)
        have hlen : j + 1 ≤ ((mks q j ++ (l.drop j ++ zs)).map txcell).length := by rw [List.length_map, List.length_append, mks_len, List.length_append, List.length_drop]; omega
        have hst : AV.v (.string (mkT (q + ((j : Nat) : Int)))) = txcell (mkT (q + ((j : Nat) : Int))) := rfl
        have hset : ((mks q j ++ (l.drop j ++ zs)).map txcell).set j (txcell (mkT (q + ((j : Nat) : Int)))) = (mks q (j + 1) ++ (l.drop (j + 1) ++ zs)).map txcell := by
          rw [← List.map_set]
          congr 1
          rw [List.set_append_right _ _ (by rw [mks_len]; omega), mks_len, Nat.sub_self, List.drop_eq_getElem_cons hlt]
          rw [List.cons_append, List.set_cons_zero, show mks q (j + 1) = mks q j ++ [mkT (q + ((j : Nat) : Int))] by simp [mks, List.range_succ], List.append_assoc]
          rfl
        repeat' (first | ((first | refine wSeqr (fun xx hx => ?_) | refine wIf (fun xx hx => ?_) | refine wReg (fun xx hx => ?_) | (refine wRet ?_; (try simp only [thenQ, blockQ]); refine ends_by (fun xx hx => ?_))); have hc := trivial; (repeat' (simp only [hc, Nat.reduceBEq, go_sem, Nat.reduceAdd, Nat.reduceMul, Nat.reduceSub, Nat.reduceEqDiff, Nat.reduceLT, Nat.reduceLeDiff, Int.reduceEq, Int.reduceLT, Int.reduceLE, reduceIte, aresults, aresult, hp0, h0, h1, h5, hltI, hm, Option.isSome_some, hlt, hlen, hst, hset, w1, w2] at hx; (try (rw [guardL_if] at hx; split at hx <;> rename_i hc)))); all_goals (subst hx; first | (refine ⟨_, rfl, fun ht => ?_, fun ht => ?_⟩ <;> (try simp only [bbs, beq_iff_eq, bne_iff_ne, ne_eq] at ht)) | (refine ⟨_, rfl, ?_⟩; (try simp only [tupOf])))) | refine wSkip ?_ | (refine wExit ?_; simp only [thenQ, blockQ, reduceIte, Nat.reduceEqDiff]) | refine wSeq ?_ | refine wBlock ?_)
        all_goals try (exfalso; (try simp only [bbs, beq_iff_eq, bne_iff_ne, ne_eq] at *); first | omega | exact absurd trivial (by assumption))
        refine ⟨_, Nat.sub_lt (by omega) Nat.one_pos, j + 1, by omega, by simp only [upd_eq, Nat.reduceEqDiff, if_false, if_true, h0, h1, h5], by simp only [upd_eq, Nat.reduceEqDiff, if_false, if_true, h0, h1, h5], by simp only [upd_eq, Nat.reduceEqDiff, if_false, if_true, h0, h1, h5], ?_⟩
        exact set_setW _ _ _ _
      · have hltI : ¬ ((j : Nat) : Int) < (l.length : Int) := by omega
        have hj' : j = l.length := by omega
        repeat' (first | ((first | refine wSeqr (fun xx hx => ?_) | refine wIf (fun xx hx => ?_) | refine wReg (fun xx hx => ?_) | (refine wRet ?_; (try simp only [thenQ, blockQ]); refine ends_by (fun xx hx => ?_))); have hc := trivial; (repeat' (simp only [hc, Nat.reduceBEq, go_sem, Nat.reduceAdd, Nat.reduceMul, Nat.reduceSub, Nat.reduceEqDiff, Nat.reduceLT, Nat.reduceLeDiff, Int.reduceEq, Int.reduceLT, Int.reduceLE, reduceIte, aresults, aresult, hp0, h0, h1, h5, hltI] at hx; (try (rw [guardL_if] at hx; split at hx <;> rename_i hc)))); all_goals (subst hx; first | (refine ⟨_, rfl, fun ht => ?_, fun ht => ?_⟩ <;> (try simp only [bbs, beq_iff_eq, bne_iff_ne, ne_eq] at ht)) | (refine ⟨_, rfl, ?_⟩; (try simp only [tupOf])))) | refine wSkip ?_ | (refine wExit ?_; simp only [thenQ, blockQ, reduceIte, Nat.reduceEqDiff]) | refine wSeq ?_ | refine wBlock ?_)
        all_goals try (exfalso; (try simp only [bbs, beq_iff_eq, bne_iff_ne, ne_eq] at *); first | omega | exact absurd trivial (by assumption))
        refine ⟨by rw [hj'], ?_⟩
        rw [hj', List.drop_length, List.nil_append]
    · refine ⟨0, by omega, rfl, by show AV.v (.int .i64 q) = _; simp, rfl, ?_⟩
      show H = H.set b ((l ++ zs).map txcell)
      unfold Hp.set
      cases H
      simp only [Hp.mk.injEq, and_true]
      funext b'
      split
      · rename_i e; subst e; exact hb
      · rfl
  obtain ⟨⟨v, H'⟩, h1, rfl, rfl⟩ := key
  rw [call_raw Tryd.prog cfg0 Tryd.func14 rfl ok_mkS rfl rfl, h1]
theorem ok_lheldStringS : fnOk Tryd.prog cfg0 15 Tryd.f15 = true := by kernel_rfl
theorem p_lheldStringS (q : Int) (n : Nat) (hn : n ≤ 4000000) (hk : 0 ≤ q ∧ q ≤ 1000000) : pure Tryd.prog cfg0 15 Tryd.f15 [textsL (mks q n), .v (.int .i64 q)] = some (.v (.int .i64 (q + n)), true) := by
  refine pure_wp (rs := [.tmp 4]) rfl rfl ?_
  have hp0 : ∀ b, cfg0.pol 15 b = 0 := fun b => rfl
  have hlm := mks_len q n
  repeat' (first | ((first | refine wSeqr (fun xx hx => ?_) | refine wIf (fun xx hx => ?_) | refine wReg (fun xx hx => ?_) | (refine wRet ?_; (try simp only [thenQ, blockQ]); refine ends_by (fun xx hx => ?_))); have hc := trivial; (repeat' (simp only [hc, Nat.reduceBEq, go_sem, Nat.reduceAdd, Nat.reduceMul, Nat.reduceSub, Nat.reduceEqDiff, Nat.reduceLT, Nat.reduceLeDiff, Int.reduceEq, Int.reduceLT, Int.reduceLE, reduceIte, aresults, aresult, hp0] at hx; (try (rw [guardL_if] at hx; split at hx <;> rename_i hc)))); all_goals (subst hx; first | (refine ⟨_, rfl, fun ht => ?_, fun ht => ?_⟩ <;> (try simp only [bbs, beq_iff_eq, bne_iff_ne, ne_eq] at ht)) | (refine ⟨_, rfl, ?_⟩; (try simp only [tupOf])))) | refine wSkip ?_ | (refine wExit ?_; simp only [thenQ, blockQ, reduceIte, Nat.reduceEqDiff]) | refine wSeq ?_ | refine wBlock ?_)
  refine wLoop (fun k s => ∃ (j : Nat), j + k = n ∧ s.1 0 = textsL (mks q n) ∧ s.1 1 = .v (.int .i64 (q + (j : Nat))) ∧ s.1 5 = .v (.int .i64 (j : Nat)) ∧ True) (fun k s hI => ?_) (n) _ ?_
  · obtain ⟨e, H⟩ := s
    obtain ⟨j, hj, h0, h1, h5, -⟩ := hI
    simp only at h0 h1 h5
    by_cases hlt : j < n
    · have hltI : ((j : Nat) : Int) < (n : Int) := by omega
      have w1 : IntKind.wrap .i64 (((j : Nat) : Int) + 1) = ((j + 1 : Nat) : Int) := wrap_succ (by omega)
      have w2 : IntKind.wrap .i64 (q + ((j : Nat) : Int) + 1) = q + ((j + 1 : Nat) : Int) := by rw [wrap_i64 (by omega) (by omega)]; omega
      have hm := c_lmarkText (q + ((j : Nat) : Int)) (by omega)
      have hg' := get_tx (mks_at (q := q) hlt)
      have hss : ((mkT (q + ((j : Nat) : Int))).toList == (mkT (q + ((j : Nat) : Int))).toList) = true := by simp
      repeat' (first | ((first | refine wSeqr (fun xx hx => ?_) | refine wIf (fun xx hx => ?_) | refine wReg (fun xx hx => ?_) | (refine wRet ?_; (try simp only [thenQ, blockQ]); refine ends_by (fun xx hx => ?_))); have hc := trivial; (repeat' (simp only [hc, Nat.reduceBEq, go_sem, Nat.reduceAdd, Nat.reduceMul, Nat.reduceSub, Nat.reduceEqDiff, Nat.reduceLT, Nat.reduceLeDiff, Int.reduceEq, Int.reduceLT, Int.reduceLE, reduceIte, aresults, aresult, hp0, h0, h1, h5, hltI, textsL, List.length_map, hlm, hg', hm, hss, w1, w2, Bool.not_true] at hx; (try (rw [guardL_if] at hx; split at hx <;> rename_i hc)))); all_goals (subst hx; first | (refine ⟨_, rfl, fun ht => ?_, fun ht => ?_⟩ <;> (try simp only [bbs, beq_iff_eq, bne_iff_ne, ne_eq] at ht)) | (refine ⟨_, rfl, ?_⟩; (try simp only [tupOf])))) | refine wSkip ?_ | (refine wExit ?_; simp only [thenQ, blockQ, reduceIte, Nat.reduceEqDiff]) | refine wSeq ?_ | refine wBlock ?_)
      all_goals try (exfalso; (try simp only [bbs, beq_iff_eq, bne_iff_ne, ne_eq] at *); first | omega | exact absurd trivial (by assumption))
      refine ⟨_, Nat.sub_lt (by omega) Nat.one_pos, j + 1, by omega, by simp only [upd_eq, Nat.reduceEqDiff, if_false, if_true, h0, h1, h5], by simp only [upd_eq, Nat.reduceEqDiff, if_false, if_true, h0, h1, h5], by simp only [upd_eq, Nat.reduceEqDiff, if_false, if_true, h0, h1, h5], trivial⟩
    · have hltI : ¬ ((j : Nat) : Int) < (n : Int) := by omega
      have hj' : j = n := by omega
      repeat' (first | ((first | refine wSeqr (fun xx hx => ?_) | refine wIf (fun xx hx => ?_) | refine wReg (fun xx hx => ?_) | (refine wRet ?_; (try simp only [thenQ, blockQ]); refine ends_by (fun xx hx => ?_))); have hc := trivial; (repeat' (simp only [hc, Nat.reduceBEq, go_sem, Nat.reduceAdd, Nat.reduceMul, Nat.reduceSub, Nat.reduceEqDiff, Nat.reduceLT, Nat.reduceLeDiff, Int.reduceEq, Int.reduceLT, Int.reduceLE, reduceIte, aresults, aresult, hp0, h0, h1, h5, textsL, List.length_map, hlm, hltI] at hx; (try (rw [guardL_if] at hx; split at hx <;> rename_i hc)))); all_goals (subst hx; first | (refine ⟨_, rfl, fun ht => ?_, fun ht => ?_⟩ <;> (try simp only [bbs, beq_iff_eq, bne_iff_ne, ne_eq] at ht)) | (refine ⟨_, rfl, ?_⟩; (try simp only [tupOf])))) | refine wSkip ?_ | (refine wExit ?_; simp only [thenQ, blockQ, reduceIte, Nat.reduceEqDiff]) | refine wSeq ?_ | refine wBlock ?_)
      all_goals try (exfalso; (try simp only [bbs, beq_iff_eq, bne_iff_ne, ne_eq] at *); first | omega | exact absurd trivial (by assumption))
      rw [hj']
      exact ⟨rfl, rfl⟩
  · exact ⟨0, by omega, rfl, by show AV.v (.int .i64 q) = _; simp, rfl, trivial⟩
theorem c_lheldStringS (q : Int) (n : Nat) (hn : n ≤ 4000000) (hk : 0 ≤ q ∧ q ≤ 1000000) : ∀ H, call Tryd.prog cfg0 0 15 [textsL (mks q n), .v (.int .i64 q)] H = some (.v (.int .i64 (q + n)), H) :=
  call_fz Tryd.func15 rfl ok_lheldStringS rfl (by simp only [fz_cons, fz_nil, go_sem, and_self]) (p_lheldStringS q n hn hk)

theorem ok_leqStringS : fnOk Tryd.prog cfg0 13 Tryd.f13 = true := by kernel_rfl
theorem p_leqStringS (a b : List ByteArray) (hl : a.length ≤ 4000000) : pure Tryd.prog cfg0 13 Tryd.f13 [textsL a, textsL b] = some (.v (.bool (decide (a = b))), true) := by
  refine pure_wp (rs := [.tmp 4]) rfl rfl ?_
  have hp0 : ∀ b, cfg0.pol 13 b = 0 := fun b => rfl
  repeat' (first | ((first | refine wSeqr (fun xx hx => ?_) | refine wIf (fun xx hx => ?_) | refine wReg (fun xx hx => ?_) | (refine wRet ?_; (try simp only [thenQ, blockQ]); refine ends_by (fun xx hx => ?_))); have hc := trivial; (repeat' (simp only [hc, Nat.reduceBEq, go_sem, Nat.reduceAdd, Nat.reduceMul, Nat.reduceSub, Nat.reduceEqDiff, Nat.reduceLT, Nat.reduceLeDiff, Int.reduceEq, Int.reduceLT, Int.reduceLE, reduceIte, aresults, aresult, hp0] at hx; (try (rw [guardL_if] at hx; split at hx <;> rename_i hc)))); all_goals (subst hx; first | (refine ⟨_, rfl, fun ht => ?_, fun ht => ?_⟩ <;> (try simp only [bbs, beq_iff_eq, bne_iff_ne, ne_eq] at ht)) | (refine ⟨_, rfl, ?_⟩; (try simp only [tupOf])))) | refine wSkip ?_ | (refine wExit ?_; simp only [thenQ, blockQ, reduceIte, Nat.reduceEqDiff]) | refine wSeq ?_ | refine wBlock ?_)
  · refine gives_boolv ?_
    rw [decide_eq_false]
    intro h; rw [h] at ht; exact ht rfl
  have hlen : a.length = b.length := by (try simp only [bbs, beq_iff_eq, bne_iff_ne, ne_eq] at *); omega
  refine wLoop (fun k s => ∃ (j : Nat), j + k = a.length ∧ s.1 0 = textsL a ∧ s.1 1 = textsL b ∧ s.1 5 = .v (.int .i64 (j : Nat)) ∧ (a.take j = b.take j)) (fun k s hI => ?_) (a.length) _ ?_
  · obtain ⟨e, H⟩ := s
    obtain ⟨j, hj, h0, h1, h5, htk⟩ := hI
    simp only at h0 h1 h5 htk
    by_cases hlt : j < a.length
    · obtain ⟨x, gx, -, -⟩ := at_drop hlt
      obtain ⟨y, gy, -, -⟩ := at_drop (show j < b.length by omega)
      have gx' := get_tx gx
      have gy' := get_tx gy
      by_cases he : x.data.toList = y.data.toList
      · repeat' (first | ((first | refine wSeqr (fun xx hx => ?_) | refine wIf (fun xx hx => ?_) | refine wReg (fun xx hx => ?_) | (refine wRet ?_; (try simp only [thenQ, blockQ]); refine ends_by (fun xx hx => ?_))); have hc := trivial; (repeat' (simp only [hc, Nat.reduceBEq, go_sem, Nat.reduceAdd, Nat.reduceMul, Nat.reduceSub, Nat.reduceEqDiff, Nat.reduceLT, Nat.reduceLeDiff, Int.reduceEq, Int.reduceLT, Int.reduceLE, reduceIte, aresults, aresult, hp0, h0, h1, h5, textsL, List.length_map, gx', gy', str_eqW, he, wrap_succ (show j < 9223372036854775807 by omega)] at hx; (try (rw [guardL_if] at hx; split at hx <;> rename_i hc)))); all_goals (subst hx; first | (refine ⟨_, rfl, fun ht => ?_, fun ht => ?_⟩ <;> (try simp only [bbs, beq_iff_eq, bne_iff_ne, ne_eq] at ht)) | (refine ⟨_, rfl, ?_⟩; (try simp only [tupOf])))) | refine wSkip ?_ | (refine wExit ?_; simp only [thenQ, blockQ, reduceIte, Nat.reduceEqDiff]) | refine wSeq ?_ | refine wBlock ?_)
        all_goals first
          | (exfalso; (try simp only [bbs, beq_iff_eq, bne_iff_ne, ne_eq] at *); omega)
          | skip
        refine ⟨_, Nat.sub_lt (by omega) Nat.one_pos, j + 1, by omega, by simp only [upd_eq, Nat.reduceEqDiff, if_false, if_true, h0, h1, h5], by simp only [upd_eq, Nat.reduceEqDiff, if_false, if_true, h0, h1, h5], by simp only [upd_eq, Nat.reduceEqDiff, if_false, if_true, h0, h1, h5], ?_⟩
        rw [List.take_add_one, List.take_add_one, gx, gy, htk]
        have : x = y := by cases x; cases y; simp at he; rw [he]
        rw [this]
      · repeat' (first | ((first | refine wSeqr (fun xx hx => ?_) | refine wIf (fun xx hx => ?_) | refine wReg (fun xx hx => ?_) | (refine wRet ?_; (try simp only [thenQ, blockQ]); refine ends_by (fun xx hx => ?_))); have hc := trivial; (repeat' (simp only [hc, Nat.reduceBEq, go_sem, Nat.reduceAdd, Nat.reduceMul, Nat.reduceSub, Nat.reduceEqDiff, Nat.reduceLT, Nat.reduceLeDiff, Int.reduceEq, Int.reduceLT, Int.reduceLE, reduceIte, aresults, aresult, hp0, h0, h1, h5, textsL, List.length_map, gx', gy', str_eqW, he] at hx; (try (rw [guardL_if] at hx; split at hx <;> rename_i hc)))); all_goals (subst hx; first | (refine ⟨_, rfl, fun ht => ?_, fun ht => ?_⟩ <;> (try simp only [bbs, beq_iff_eq, bne_iff_ne, ne_eq] at ht)) | (refine ⟨_, rfl, ?_⟩; (try simp only [tupOf])))) | refine wSkip ?_ | (refine wExit ?_; simp only [thenQ, blockQ, reduceIte, Nat.reduceEqDiff]) | refine wSeq ?_ | refine wBlock ?_)
        all_goals first
          | (exfalso; (try simp only [bbs, beq_iff_eq, bne_iff_ne, ne_eq] at *); omega)
          | skip
        refine gives_boolv ?_
        rw [decide_eq_false]
        intro h; rw [h] at gx; rw [gx] at gy
        exact he (by rw [Option.some.inj gy])
    · have hj' : j = a.length := by omega
      repeat' (first | ((first | refine wSeqr (fun xx hx => ?_) | refine wIf (fun xx hx => ?_) | refine wReg (fun xx hx => ?_) | (refine wRet ?_; (try simp only [thenQ, blockQ]); refine ends_by (fun xx hx => ?_))); have hc := trivial; (repeat' (simp only [hc, Nat.reduceBEq, go_sem, Nat.reduceAdd, Nat.reduceMul, Nat.reduceSub, Nat.reduceEqDiff, Nat.reduceLT, Nat.reduceLeDiff, Int.reduceEq, Int.reduceLT, Int.reduceLE, reduceIte, aresults, aresult, hp0, h0, h1, h5, textsL, List.length_map] at hx; (try (rw [guardL_if] at hx; split at hx <;> rename_i hc)))); all_goals (subst hx; first | (refine ⟨_, rfl, fun ht => ?_, fun ht => ?_⟩ <;> (try simp only [bbs, beq_iff_eq, bne_iff_ne, ne_eq] at ht)) | (refine ⟨_, rfl, ?_⟩; (try simp only [tupOf])))) | refine wSkip ?_ | (refine wExit ?_; simp only [thenQ, blockQ, reduceIte, Nat.reduceEqDiff]) | refine wSeq ?_ | refine wBlock ?_)
      all_goals first
        | (exfalso; (try simp only [bbs, beq_iff_eq, bne_iff_ne, ne_eq] at *); omega)
        | skip
      refine gives_boolv ?_
      rw [hj', List.take_length, hlen, List.take_length] at htk
      rw [htk, decide_eq_true rfl]
  · refine ⟨0, by omega, rfl, rfl, rfl, ?_⟩
    rfl
theorem c_leqStringS (a b : List ByteArray) (hl : a.length ≤ 4000000) : ∀ H, call Tryd.prog cfg0 0 13 [textsL a, textsL b] H = some (.v (.bool (decide (a = b))), H) :=
  call_fz Tryd.func13 rfl ok_leqStringS rfl (by simp only [fz_cons, fz_nil, go_sem, and_self]) (p_leqStringS a b hl)

theorem fz_tr' (c : Int) (l : List ByteArray) : Fz 12 (.agg [.v (.int .i64 c), textsL l]) := fz_tr c l
theorem ok_leqTextsResult : fnOk Tryd.prog cfg0 6 Tryd.f6 = true := by kernel_rfl
theorem p_leqTextsResult (c : Int) (a : List ByteArray) (d : Int) (b : List ByteArray) (hl : a.length ≤ 4000000) : pure Tryd.prog cfg0 6 Tryd.f6 [.agg [.v (.int .i64 c), textsL a], .agg [.v (.int .i64 d), textsL b]] = some (.v (.bool (decide (c = d) && decide (a = b))), true) := by
  refine pure_wp (rs := [.tmp 4]) rfl rfl ?_
  have hp0 : ∀ b, cfg0.pol 6 b = 0 := fun b => rfl
  repeat' (first | ((first | refine wSeqr (fun xx hx => ?_) | refine wIf (fun xx hx => ?_) | refine wReg (fun xx hx => ?_) | (refine wRet ?_; (try simp only [thenQ, blockQ]); refine ends_by (fun xx hx => ?_))); have hc := trivial; (repeat' (simp only [hc, Nat.reduceBEq, go_sem, Nat.reduceAdd, Nat.reduceMul, Nat.reduceSub, Nat.reduceEqDiff, Nat.reduceLT, Nat.reduceLeDiff, Int.reduceEq, Int.reduceLT, Int.reduceLE, reduceIte, aresults, aresult, hp0, c_leqStringS a b hl] at hx; (try (rw [guardL_if] at hx; split at hx <;> rename_i hc)))); all_goals (subst hx; first | (refine ⟨_, rfl, fun ht => ?_, fun ht => ?_⟩ <;> (try simp only [bbs, beq_iff_eq, bne_iff_ne, ne_eq] at ht)) | (refine ⟨_, rfl, ?_⟩; (try simp only [tupOf])))) | refine wSkip ?_ | (refine wExit ?_; simp only [thenQ, blockQ, reduceIte, Nat.reduceEqDiff]) | refine wSeq ?_ | refine wBlock ?_)
  all_goals (refine gives_boolv ?_; simp_all)
theorem c_leqTextsResult (c : Int) (a : List ByteArray) (d : Int) (b : List ByteArray) (hl : a.length ≤ 4000000) : ∀ H, call Tryd.prog cfg0 0 6 [.agg [.v (.int .i64 c), textsL a], .agg [.v (.int .i64 d), textsL b]] H = some (.v (.bool (decide (c = d) && decide (a = b))), H) :=
  call_fz Tryd.func6 rfl ok_leqTextsResult rfl (by simp only [fz_cons, fz_nil, go_sem, fz_tr, and_self]) (p_leqTextsResult c a d b hl)

theorem ok_lheldTextsResult : fnOk Tryd.prog cfg0 8 Tryd.f8 = true := by kernel_rfl
theorem p_lheldTextsResult (c q : Int) (n : Nat) (hn : n ≤ 4000000) (hk : 0 ≤ q ∧ q ≤ 1000000) : pure Tryd.prog cfg0 8 Tryd.f8 [.agg [.v (.int .i64 c), textsL (mks q n)], .v (.int .i64 q)] = some (.v (.int .i64 (q + n)), true) := by
  refine pure_wp (rs := [.tmp 4]) rfl rfl ?_
  have hp0 : ∀ b, cfg0.pol 8 b = 0 := fun b => rfl
  have hno : ¬ q + (n : Int) < 0 := by omega
  repeat' (first | ((first | refine wSeqr (fun xx hx => ?_) | refine wIf (fun xx hx => ?_) | refine wReg (fun xx hx => ?_) | (refine wRet ?_; (try simp only [thenQ, blockQ]); refine ends_by (fun xx hx => ?_))); have hc := trivial; (repeat' (simp only [hc, Nat.reduceBEq, go_sem, Nat.reduceAdd, Nat.reduceMul, Nat.reduceSub, Nat.reduceEqDiff, Nat.reduceLT, Nat.reduceLeDiff, Int.reduceEq, Int.reduceLT, Int.reduceLE, reduceIte, aresults, aresult, hp0, c_lheldStringS q n hn hk, hno] at hx; (try (rw [guardL_if] at hx; split at hx <;> rename_i hc)))); all_goals (subst hx; first | (refine ⟨_, rfl, fun ht => ?_, fun ht => ?_⟩ <;> (try simp only [bbs, beq_iff_eq, bne_iff_ne, ne_eq] at ht)) | (refine ⟨_, rfl, ?_⟩; (try simp only [tupOf])))) | refine wSkip ?_ | (refine wExit ?_; simp only [thenQ, blockQ, reduceIte, Nat.reduceEqDiff]) | refine wSeq ?_ | refine wBlock ?_)
  all_goals try (exfalso; (try simp only [bbs, beq_iff_eq, bne_iff_ne, ne_eq] at *); first | omega | exact absurd trivial (by assumption))
  all_goals exact ⟨rfl, rfl⟩
theorem c_lheldTextsResult (c q : Int) (n : Nat) (hn : n ≤ 4000000) (hk : 0 ≤ q ∧ q ≤ 1000000) : ∀ H, call Tryd.prog cfg0 0 8 [.agg [.v (.int .i64 c), textsL (mks q n)], .v (.int .i64 q)] H = some (.v (.int .i64 (q + n)), H) :=
  call_fz Tryd.func8 rfl ok_lheldTextsResult rfl (by simp only [fz_cons, fz_nil, go_sem, fz_tr, and_self]) (p_lheldTextsResult c q n hn hk)

theorem ok_mkTR : fnOk Tryd.prog cfg0 7 Tryd.f7 = true := by kernel_rfl
theorem cr_mkTR0 (c q : Int) : ∀ H, call Tryd.prog cfg0 0 7 [.agg [.v (.int .i64 c), .lst false []], .v (.int .i64 q)] H = some (.v (.int .i64 q), H.new [.v (.int .i64 c), .lst false []]) := by
  intro H
  have key : ∃ r, body Tryd.prog cfg0 7 Tryd.f7 [.agg [.v (.int .i64 c), .lst false []], .v (.int .i64 q)] H = some r ∧ (r.1 = .v (.int .i64 q) ∧ r.2 = H.new [.v (.int .i64 c), .lst false []]) := by
    refine body_wp (rs := [.tmp 4]) rfl rfl (R := fun x H' => x = .v (.int .i64 q) ∧ H' = H.new [.v (.int .i64 c), .lst false []]) ?_
    have hp0 : ∀ b, cfg0.pol 7 b = 0 := fun b => rfl
    repeat' (first | ((first | refine wSeqr (fun xx hx => ?_) | refine wIf (fun xx hx => ?_) | refine wReg (fun xx hx => ?_) | (refine wRet ?_; (try simp only [thenQ, blockQ]); refine ends_by (fun xx hx => ?_))); have hc := trivial; (repeat' (simp only [hc, Nat.reduceBEq, go_sem, Nat.reduceAdd, Nat.reduceMul, Nat.reduceSub, Nat.reduceEqDiff, Nat.reduceLT, Nat.reduceLeDiff, Int.reduceEq, Int.reduceLT, Int.reduceLE, reduceIte, aresults, aresult, hp0, cr_mkS0] at hx; (try (rw [guardL_if] at hx; split at hx <;> rename_i hc)))); all_goals (subst hx; first | (refine ⟨_, rfl, fun ht => ?_, fun ht => ?_⟩ <;> (try simp only [bbs, beq_iff_eq, bne_iff_ne, ne_eq] at ht)) | (refine ⟨_, rfl, ?_⟩; (try simp only [tupOf])))) | refine wSkip ?_ | (refine wExit ?_; simp only [thenQ, blockQ, reduceIte, Nat.reduceEqDiff]) | refine wSeq ?_ | refine wBlock ?_)
    all_goals (constructor <;> first | trivial | rfl)
  obtain ⟨⟨v, H'⟩, h1, rfl, rfl⟩ := key
  rw [call_raw Tryd.prog cfg0 Tryd.func7 rfl ok_mkTR rfl rfl, h1]
theorem d_mkTR (c q : Int) (l : List ByteArray) (hl : l.length ≤ 4000000) (hk : 0 ≤ q ∧ q ≤ 1000000) {H : Hp} {b : Nat} (hb : H.h b = some (l.map txcell)) (hn : b ≠ H.g) : call Tryd.prog cfg0 0 7 [.agg [.v (.int .i64 c), .sl b 1 0 l.length], .v (.int .i64 q)] H = some (.v (.int .i64 (q + l.length)), (H.new [.v (.int .i64 c), .sl b 1 0 l.length]).set b ((mks q l.length).map txcell)) := by
  have key : ∃ r, body Tryd.prog cfg0 7 Tryd.f7 [.agg [.v (.int .i64 c), .sl b 1 0 l.length], .v (.int .i64 q)] H = some r ∧ (r.1 = .v (.int .i64 (q + l.length)) ∧ r.2 = (H.new [.v (.int .i64 c), .sl b 1 0 l.length]).set b ((mks q l.length).map txcell)) := by
    refine body_wp (rs := [.tmp 4]) rfl rfl (R := fun x H' => x = .v (.int .i64 (q + l.length)) ∧ H' = (H.new [.v (.int .i64 c), .sl b 1 0 l.length]).set b ((mks q l.length).map txcell)) ?_
    have hp0 : ∀ b, cfg0.pol 7 b = 0 := fun b => rfl
    have hm := d_mkS q l [] hl hk (H := H.new [.v (.int .i64 c), .sl b 1 0 l.length]) (b := b) (by rw [Hp.new_h, if_neg hn, List.append_nil]; exact hb)
    rw [List.append_nil] at hm
    repeat' (first | ((first | refine wSeqr (fun xx hx => ?_) | refine wIf (fun xx hx => ?_) | refine wReg (fun xx hx => ?_) | (refine wRet ?_; (try simp only [thenQ, blockQ]); refine ends_by (fun xx hx => ?_))); have hc := trivial; (repeat' (simp only [hc, Nat.reduceBEq, go_sem, Nat.reduceAdd, Nat.reduceMul, Nat.reduceSub, Nat.reduceEqDiff, Nat.reduceLT, Nat.reduceLeDiff, Int.reduceEq, Int.reduceLT, Int.reduceLE, reduceIte, aresults, aresult, hp0, hm] at hx; (try (rw [guardL_if] at hx; split at hx <;> rename_i hc)))); all_goals (subst hx; first | (refine ⟨_, rfl, fun ht => ?_, fun ht => ?_⟩ <;> (try simp only [bbs, beq_iff_eq, bne_iff_ne, ne_eq] at ht)) | (refine ⟨_, rfl, ?_⟩; (try simp only [tupOf])))) | refine wSkip ?_ | (refine wExit ?_; simp only [thenQ, blockQ, reduceIte, Nat.reduceEqDiff]) | refine wSeq ?_ | refine wBlock ?_)
    all_goals (constructor <;> first | trivial | rfl)
  obtain ⟨⟨v, H'⟩, h1, rfl, rfl⟩ := key
  rw [call_raw Tryd.prog cfg0 Tryd.func7 rfl ok_mkTR rfl rfl, h1]
end
end Go.Proofs.YtlkoklhnodcipaaDoor
