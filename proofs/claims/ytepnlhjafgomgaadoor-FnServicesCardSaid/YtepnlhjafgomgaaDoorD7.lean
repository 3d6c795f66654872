/- Contracts: ServiceOf, both sides (its results). -/
import Derived.Test.YtepnlhjafgomgaaDoorD6
namespace Go.Proofs.YtepnlhjafgomgaaDoor
open Go Go.RowKit Go.Proofs.YtepnlhjafgomgaaDoor.Eng
set_option linter.unusedSimpArgs false
set_option linter.unusedVariables false
set_option maxRecDepth 100000
set_option maxHeartbeats 1000000
noncomputable section
def svC (l : List ByteArray) : Int := if svOf l < 0 then 4 else 0
def svV (l : List ByteArray) : Int := if svOf l < 0 then 0 else svOf l
theorem ok_sServiceOf : fnOk Tryd.prog cfg0 11 Tryd.f11 = true := by kernel_rfl
theorem p_sServiceOf (l : List ByteArray) : pure Tryd.prog cfg0 11 Tryd.f11 [textsL l] = some (.agg [.v (.int .i64 (svC l)), .v (.int .i64 (svV l))], true) := by
  refine pure_wp (rs := [.cell 2 36]) rfl rfl ?_
  have hp0 : ∀ b, cfg0.pol 11 b = 0 := fun b => rfl
  repeat' (first | ((first | refine wSeqr (fun xx hx => ?_) | refine wIf (fun xx hx => ?_) | refine wReg (fun xx hx => ?_) | (refine wRet ?_; (try simp only [thenQ, blockQ]); refine ends_by (fun xx hx => ?_))); have hc := trivial; (repeat' (simp only [hc, Nat.reduceBEq, go_sem, Nat.reduceAdd, Nat.reduceMul, Nat.reduceSub, Nat.reduceEqDiff, Nat.reduceLT, Nat.reduceLeDiff, Int.reduceEq, Int.reduceLT, Int.reduceLE, reduceIte, aresults, aresult, hp0, c_sl10Service] at hx; (try (rw [guardL_if] at hx; split at hx <;> rename_i hc)))); all_goals (subst hx; first | (refine ⟨_, rfl, fun ht => ?_, fun ht => ?_⟩ <;> (try simp only [bbs, beq_iff_eq, bne_iff_ne, ne_eq] at ht)) | (refine ⟨_, rfl, ?_⟩; (try simp only [tupOf])))) | refine wSkip ?_ | (refine wExit ?_; simp only [thenQ, blockQ, reduceIte, Nat.reduceEqDiff]) | refine wSeq ?_ | refine wBlock ?_)
  all_goals (refine ⟨?_, rfl⟩; unfold svC svV)
  · rw [if_pos (by assumption), if_pos (by assumption)]; rfl
  · rw [if_neg (by assumption), if_neg (by assumption)]; rfl
theorem c_sServiceOf (l : List ByteArray) : ∀ H, call Tryd.prog cfg0 0 11 [textsL l] H = some (.agg [.v (.int .i64 (svC l)), .v (.int .i64 (svV l))], H) :=
  call_fz Tryd.func11 rfl ok_sServiceOf rfl (by simp only [fz_cons, fz_nil, go_sem, and_self]) (p_sServiceOf l)

theorem sv_no {l : List ByteArray} (h : svOf l = -1) : svC l = 4 ∧ svV l = 0 := by
  unfold svC svV; rw [h]; exact ⟨rfl, rfl⟩
theorem sv_yes {l : List ByteArray} {n : Int} (h0 : 0 ≤ n) (h : svOf l = n) : svC l = 0 ∧ svV l = n := by
  unfold svC svV; rw [h, if_neg (by omega), if_neg (by omega)]; exact ⟨rfl, rfl⟩
theorem ok_iin : fnOk Tryd.prog cfg0 20 Tryd.f20 = true := by kernel_rfl
theorem p_iin (n a b : Int) : pure Tryd.prog cfg0 20 Tryd.f20 [.v (.int .i64 n), .v (.int .i64 a), .v (.int .i64 b)] = some (.v (.bool (inB n a b)), true) := by
  refine pure_wp (rs := [.tmp 6]) rfl rfl ?_
  have hp0 : ∀ b, cfg0.pol 20 b = 0 := fun b => rfl
  repeat' (first | ((first | refine wSeqr (fun xx hx => ?_) | refine wIf (fun xx hx => ?_) | refine wReg (fun xx hx => ?_) | (refine wRet ?_; (try simp only [thenQ, blockQ]); refine ends_by (fun xx hx => ?_))); have hc := trivial; (repeat' (simp only [hc, Nat.reduceBEq, go_sem, Nat.reduceAdd, Nat.reduceMul, Nat.reduceSub, Nat.reduceEqDiff, Nat.reduceLT, Nat.reduceLeDiff, Int.reduceEq, Int.reduceLT, Int.reduceLE, reduceIte, aresults, aresult, hp0] at hx; (try (rw [guardL_if] at hx; split at hx <;> rename_i hc)))); all_goals (subst hx; first | (refine ⟨_, rfl, fun ht => ?_, fun ht => ?_⟩ <;> (try simp only [bbs, beq_iff_eq, bne_iff_ne, ne_eq] at ht)) | (refine ⟨_, rfl, ?_⟩; (try simp only [tupOf])))) | refine wSkip ?_ | (refine wExit ?_; simp only [thenQ, blockQ, reduceIte, Nat.reduceEqDiff]) | refine wSeq ?_ | refine wBlock ?_)
  all_goals (refine gives_boolv ?_; simp_all [inB]; try omega)
theorem c_iin (n a b : Int) : ∀ H, call Tryd.prog cfg0 0 20 [.v (.int .i64 n), .v (.int .i64 a), .v (.int .i64 b)] H = some (.v (.bool (inB n a b)), H) :=
  call_fz Tryd.func20 rfl ok_iin rfl (by simp only [fz_cons, fz_nil, go_sem, and_self]) (p_iin n a b)

theorem num_small {l : List UInt8} {n : Int} (h0 : 0 ≤ n) (h9 : n ≤ 99) (h : Lib.itoa n = l) : numOf 2 l = n := by
  obtain ⟨h1, h2⟩ := num_back h0 h
  have hl : l.length ≤ 2 := by
    obtain ⟨u, rfl⟩ : ∃ u : Nat, n = u := ⟨n.toNat, by omega⟩
    rw [itoa_nat] at h
    by_cases hu : u < 10
    · rw [Lib.decDigits_one hu] at h; rw [← h]; simp
    · rw [Lib.decDigits_two hu (by omega)] at h; rw [← h]; simp
  unfold numOf; rw [if_pos ⟨h1, hl⟩]; exact h2
theorem num_small_no {l : List UInt8} (h : ∀ n : Int, Lib.atoiAll l = .ok n → 0 ≤ n → n ≤ 99 → ¬ Lib.itoa n = l) : numOf 2 l = -1 := by
  unfold numOf; rw [if_neg]
  rintro ⟨h1, h2⟩
  have hd : l.all isDg = true := by simp only [canon, Bool.and_eq_true] at h1; exact h1.1.2
  have hv := vdA_lt l 0 hd
  have : 10 ^ l.length ≤ 10 ^ 2 := Nat.pow_le_pow_right (by decide) h2
  refine h _ (atoi_dg h1 (by omega)) (by omega) (by omega) ?_
  rw [itoa_nat]; exact dec_of_canon _ _ rfl h1
theorem ok_iServiceOf : fnOk Tryd.prog cfg0 10 Tryd.f10 = true := by kernel_rfl
theorem p_iServiceOf (l : List ByteArray) (hk : ∀ z ∈ l, z.size ≤ 1048576) : pure Tryd.prog cfg0 10 Tryd.f10 [textsL l] = some (.agg [.v (.int .i64 (svC l)), .v (.int .i64 (svV l))], true) := by
  refine pure_wp (rs := [.cell 2 36]) rfl rfl ?_
  have hp0 : ∀ b, cfg0.pol 10 b = 0 := fun b => rfl
  by_cases hl2 : (l.length : Int) = 2
  rotate_left
  · have hno : svOf l = -1 := by
      unfold svOf
      rw [if_neg]
      match l, hl2 with
      | [], _ => simp [svOk]
      | [a], _ => simp [svOk]
      | [a, b], h => exact absurd rfl h
      | a :: b :: c :: r, _ => simp [svOk]
    have e := sv_no hno
    repeat' (first | ((first | refine wSeqr (fun xx hx => ?_) | refine wIf (fun xx hx => ?_) | refine wReg (fun xx hx => ?_) | (refine wRet ?_; (try simp only [thenQ, blockQ]); refine ends_by (fun xx hx => ?_))); have hc := trivial; (repeat' (simp only [hc, Nat.reduceBEq, go_sem, Nat.reduceAdd, Nat.reduceMul, Nat.reduceSub, Nat.reduceEqDiff, Nat.reduceLT, Nat.reduceLeDiff, Int.reduceEq, Int.reduceLT, Int.reduceLE, reduceIte, aresults, aresult, hp0, hl2, c_inoInt] at hx; (try (rw [guardL_if] at hx; split at hx <;> rename_i hc)))); all_goals (subst hx; first | (refine ⟨_, rfl, fun ht => ?_, fun ht => ?_⟩ <;> (try simp only [bbs, beq_iff_eq, bne_iff_ne, ne_eq] at ht)) | (refine ⟨_, rfl, ?_⟩; (try simp only [tupOf])))) | refine wSkip ?_ | (refine wExit ?_; simp only [thenQ, blockQ, reduceIte, Nat.reduceEqDiff]) | refine wSeq ?_ | refine wBlock ?_)
    all_goals (refine ⟨?_, rfl⟩; rw [e.1, e.2]; rfl)
  obtain ⟨a, b, hab⟩ : ∃ a b, l = [a, b] := by
    match l, hl2 with
    | [a, b], _ => exact ⟨a, b, rfl⟩
    | [], h => simp at h
    | [a], h => simp at h
    | a :: b :: c :: r, h => simp only [List.length_cons] at h; omega
  have g1 : (l.map fun s => [AV.v (.string s)])[1]? = some [.v (.string b)] := get_text (by rw [hab]; rfl)
  have g0 : (l.map fun s => [AV.v (.string s)])[0]? = some [.v (.string a)] := get_text (by rw [hab]; rfl)
  have hka : a.size ≤ 1048576 := hk a (by rw [hab]; simp)
  by_cases hlo : b.data.toList = [108, 111, 99, 97, 108]
  rotate_left
  · have hno : svOf l = -1 := by
      unfold svOf; rw [if_neg]; rw [hab]; simp [svOk, hlo]
    have e := sv_no hno
    repeat' (first | ((first | refine wSeqr (fun xx hx => ?_) | refine wIf (fun xx hx => ?_) | refine wReg (fun xx hx => ?_) | (refine wRet ?_; (try simp only [thenQ, blockQ]); refine ends_by (fun xx hx => ?_))); have hc := trivial; (repeat' (simp only [hc, Nat.reduceBEq, go_sem, Nat.reduceAdd, Nat.reduceMul, Nat.reduceSub, Nat.reduceEqDiff, Nat.reduceLT, Nat.reduceLeDiff, Int.reduceEq, Int.reduceLT, Int.reduceLE, reduceIte, aresults, aresult, hp0, hl2, textsL, List.length_map, g1, g0, str_eq, hlo, c_inoInt] at hx; (try (rw [guardL_if] at hx; split at hx <;> rename_i hc)))); all_goals (subst hx; first | (refine ⟨_, rfl, fun ht => ?_, fun ht => ?_⟩ <;> (try simp only [bbs, beq_iff_eq, bne_iff_ne, ne_eq] at ht)) | (refine ⟨_, rfl, ?_⟩; (try simp only [tupOf])))) | refine wSkip ?_ | (refine wExit ?_; simp only [thenQ, blockQ, reduceIte, Nat.reduceEqDiff]) | refine wSeq ?_ | refine wBlock ?_)
    all_goals (refine ⟨?_, rfl⟩; rw [e.1, e.2]; rfl)
  have hz := size_toList a
  have hsv : svOf l = if a.data.toList.head? = some 115 then numOf 2 (tailOf a) else -1 := by
    unfold svOf svNum; rw [hab]; simp only [svOk, hlo, decide_true, Bool.true_and, decide_eq_true_eq]
  by_cases hsz : a.size < 2
  · have hno : svOf l = -1 := by
      rw [hsv]; split
      · unfold numOf; rw [if_neg]
        rintro ⟨h1, -⟩
        have : tailOf a = [] := List.length_eq_zero_iff.1 (by unfold tailOf; rw [List.length_tail]; omega)
        rw [this] at h1; simp [canon] at h1
      · rfl
    have hszI : (a.size : Int) < 2 := by omega
    have e := sv_no hno
    repeat' (first | ((first | refine wSeqr (fun xx hx => ?_) | refine wIf (fun xx hx => ?_) | refine wReg (fun xx hx => ?_) | (refine wRet ?_; (try simp only [thenQ, blockQ]); refine ends_by (fun xx hx => ?_))); have hc := trivial; (repeat' (simp only [hc, Nat.reduceBEq, go_sem, Nat.reduceAdd, Nat.reduceMul, Nat.reduceSub, Nat.reduceEqDiff, Nat.reduceLT, Nat.reduceLeDiff, Int.reduceEq, Int.reduceLT, Int.reduceLE, reduceIte, aresults, aresult, hp0, hl2, textsL, List.length_map, g1, g0, str_eq, hlo, hszI, c_inoInt] at hx; (try (rw [guardL_if] at hx; split at hx <;> rename_i hc)))); all_goals (subst hx; first | (refine ⟨_, rfl, fun ht => ?_, fun ht => ?_⟩ <;> (try simp only [bbs, beq_iff_eq, bne_iff_ne, ne_eq] at ht)) | (refine ⟨_, rfl, ?_⟩; (try simp only [tupOf])))) | refine wSkip ?_ | (refine wExit ?_; simp only [thenQ, blockQ, reduceIte, Nat.reduceEqDiff]) | refine wSeq ?_ | refine wBlock ?_)
    all_goals (refine ⟨?_, rfl⟩; rw [e.1, e.2]; rfl)
  have hszI : ¬ (a.size : Int) < 2 := by omega
  obtain ⟨c, r, hcr⟩ : ∃ c r, a.data.toList = c :: r := by
    cases h : a.data.toList with
    | nil => have : a.size = 0 := by rw [hz, h]; rfl
             omega
    | cons c r => exact ⟨c, r, rfl⟩
  have ga : a.data.toList[0]? = some c := by rw [hcr]; rfl
  by_cases hc5 : c = 115
  rotate_left
  · have hno : svOf l = -1 := by
      rw [hsv, hcr]; simp [hc5]
    have hc5I : ¬ (c.toNat : Int) = 115 := by
      intro h; exact hc5 (UInt8.toNat_inj.1 (by have : (115 : UInt8).toNat = 115 := rfl; omega))
    have e := sv_no hno
    repeat' (first | ((first | refine wSeqr (fun xx hx => ?_) | refine wIf (fun xx hx => ?_) | refine wReg (fun xx hx => ?_) | (refine wRet ?_; (try simp only [thenQ, blockQ]); refine ends_by (fun xx hx => ?_))); have hc := trivial; (repeat' (simp only [hc, Nat.reduceBEq, go_sem, Nat.reduceAdd, Nat.reduceMul, Nat.reduceSub, Nat.reduceEqDiff, Nat.reduceLT, Nat.reduceLeDiff, Int.reduceEq, Int.reduceLT, Int.reduceLE, reduceIte, aresults, aresult, hp0, hl2, textsL, List.length_map, g1, g0, str_eq, hlo, hszI, ga, hc5I, c_inoInt] at hx; (try (rw [guardL_if] at hx; split at hx <;> rename_i hc)))); all_goals (subst hx; first | (refine ⟨_, rfl, fun ht => ?_, fun ht => ?_⟩ <;> (try simp only [bbs, beq_iff_eq, bne_iff_ne, ne_eq] at ht)) | (refine ⟨_, rfl, ?_⟩; (try simp only [tupOf])))) | refine wSkip ?_ | (refine wExit ?_; simp only [thenQ, blockQ, reduceIte, Nat.reduceEqDiff]) | refine wSeq ?_ | refine wBlock ?_)
    all_goals (refine ⟨?_, rfl⟩; rw [e.1, e.2]; rfl)
  have hc5I : (c.toNat : Int) = 115 := by rw [hc5]; rfl
  have hsv2 : svOf l = numOf 2 (tailOf a) := by rw [hsv, hcr, hc5]; rfl
  have hsl := slice_tail (a := a) (by omega)
  have hex := extract_tail a
  have htz : (a.extract 1 a.size).size ≤ 281474976710656 := by
    rw [size_toList, hex]; unfold tailOf; rw [List.length_tail]; omega
  have hat := c_Atoi (a.extract 1 a.size) htz
  rw [hex] at hat
  rcases numEnd_cases (Lib.atoiAll (tailOf a)) with ⟨n, hp⟩ | hp | hp
  · have hb := Lib.atoiAll_bounds hp
    have hn : i64B n := ⟨hb.1, hb.2⟩
    by_cases hin : 0 ≤ n ∧ n ≤ 99
    · have hinB : inB n 0 99 = true := by simp [inB, hin]
      by_cases hit : Lib.itoa n = tailOf a
      · have e := sv_yes hin.1 (hsv2.trans (num_small hin.1 hin.2 hit))
        have hit' : (⟨(Lib.itoa n).toArray⟩ : ByteArray).data.toList = tailOf a := hit
        repeat' (first | ((first | refine wSeqr (fun xx hx => ?_) | refine wIf (fun xx hx => ?_) | refine wReg (fun xx hx => ?_) | (refine wRet ?_; (try simp only [thenQ, blockQ]); refine ends_by (fun xx hx => ?_))); have hc := trivial; (repeat' (simp only [hc, Nat.reduceBEq, go_sem, Nat.reduceAdd, Nat.reduceMul, Nat.reduceSub, Nat.reduceEqDiff, Nat.reduceLT, Nat.reduceLeDiff, Int.reduceEq, Int.reduceLT, Int.reduceLE, reduceIte, aresults, aresult, hp0, hl2, textsL, List.length_map, g1, g0, str_eq, hlo, hszI, ga, hc5I, hsl, hat, hp, endT, c_iin, hinB, c_Itoa n hn, itoaT, hit', hit, hex, c_inoInt] at hx; (try (rw [guardL_if] at hx; split at hx <;> rename_i hc)))); all_goals (subst hx; first | (refine ⟨_, rfl, fun ht => ?_, fun ht => ?_⟩ <;> (try simp only [bbs, beq_iff_eq, bne_iff_ne, ne_eq] at ht)) | (refine ⟨_, rfl, ?_⟩; (try simp only [tupOf])))) | refine wSkip ?_ | (refine wExit ?_; simp only [thenQ, blockQ, reduceIte, Nat.reduceEqDiff]) | refine wSeq ?_ | refine wBlock ?_)
        all_goals first
          | (exfalso; (try simp only [bbs, beq_iff_eq, bne_iff_ne, ne_eq] at *); first | omega | exact absurd trivial (by assumption))
          | (refine ⟨?_, rfl⟩; rw [e.1, e.2]; rfl)
      · have e := sv_no (hsv2.trans (num_small_no fun m hm _ _ => by rw [hp] at hm; obtain rfl := Lib.NumEnd.ok.inj hm; exact hit))
        have hit' : ¬ (⟨(Lib.itoa n).toArray⟩ : ByteArray).data.toList = tailOf a := hit
        repeat' (first | ((first | refine wSeqr (fun xx hx => ?_) | refine wIf (fun xx hx => ?_) | refine wReg (fun xx hx => ?_) | (refine wRet ?_; (try simp only [thenQ, blockQ]); refine ends_by (fun xx hx => ?_))); have hc := trivial; (repeat' (simp only [hc, Nat.reduceBEq, go_sem, Nat.reduceAdd, Nat.reduceMul, Nat.reduceSub, Nat.reduceEqDiff, Nat.reduceLT, Nat.reduceLeDiff, Int.reduceEq, Int.reduceLT, Int.reduceLE, reduceIte, aresults, aresult, hp0, hl2, textsL, List.length_map, g1, g0, str_eq, hlo, hszI, ga, hc5I, hsl, hat, hp, endT, c_iin, hinB, c_Itoa n hn, itoaT, hit', hit, hex, c_inoInt] at hx; (try (rw [guardL_if] at hx; split at hx <;> rename_i hc)))); all_goals (subst hx; first | (refine ⟨_, rfl, fun ht => ?_, fun ht => ?_⟩ <;> (try simp only [bbs, beq_iff_eq, bne_iff_ne, ne_eq] at ht)) | (refine ⟨_, rfl, ?_⟩; (try simp only [tupOf])))) | refine wSkip ?_ | (refine wExit ?_; simp only [thenQ, blockQ, reduceIte, Nat.reduceEqDiff]) | refine wSeq ?_ | refine wBlock ?_)
        all_goals (refine ⟨?_, rfl⟩; rw [e.1, e.2]; rfl)
    · have hinB : inB n 0 99 = false := by simp only [inB, decide_eq_false_iff_not, Bool.and_eq_false_iff, Bool.and_eq_true, decide_eq_true_eq]; omega
      have e := sv_no (hsv2.trans (num_small_no fun m hm h1 h2 => by rw [hp] at hm; obtain rfl := Lib.NumEnd.ok.inj hm; exact absurd ⟨h1, h2⟩ hin))
      repeat' (first | ((first | refine wSeqr (fun xx hx => ?_) | refine wIf (fun xx hx => ?_) | refine wReg (fun xx hx => ?_) | (refine wRet ?_; (try simp only [thenQ, blockQ]); refine ends_by (fun xx hx => ?_))); have hc := trivial; (repeat' (simp only [hc, Nat.reduceBEq, go_sem, Nat.reduceAdd, Nat.reduceMul, Nat.reduceSub, Nat.reduceEqDiff, Nat.reduceLT, Nat.reduceLeDiff, Int.reduceEq, Int.reduceLT, Int.reduceLE, reduceIte, aresults, aresult, hp0, hl2, textsL, List.length_map, g1, g0, str_eq, hlo, hszI, ga, hc5I, hsl, hat, hp, endT, c_iin, hinB, c_inoInt] at hx; (try (rw [guardL_if] at hx; split at hx <;> rename_i hc)))); all_goals (subst hx; first | (refine ⟨_, rfl, fun ht => ?_, fun ht => ?_⟩ <;> (try simp only [bbs, beq_iff_eq, bne_iff_ne, ne_eq] at ht)) | (refine ⟨_, rfl, ?_⟩; (try simp only [tupOf])))) | refine wSkip ?_ | (refine wExit ?_; simp only [thenQ, blockQ, reduceIte, Nat.reduceEqDiff]) | refine wSeq ?_ | refine wBlock ?_)
      all_goals (refine ⟨?_, rfl⟩; rw [e.1, e.2]; rfl)
  · have e := sv_no (hsv2.trans (num_small_no fun m hm _ _ => by rw [hp] at hm; cases hm))
    repeat' (first | ((first | refine wSeqr (fun xx hx => ?_) | refine wIf (fun xx hx => ?_) | refine wReg (fun xx hx => ?_) | (refine wRet ?_; (try simp only [thenQ, blockQ]); refine ends_by (fun xx hx => ?_))); have hc := trivial; (repeat' (simp only [hc, Nat.reduceBEq, go_sem, Nat.reduceAdd, Nat.reduceMul, Nat.reduceSub, Nat.reduceEqDiff, Nat.reduceLT, Nat.reduceLeDiff, Int.reduceEq, Int.reduceLT, Int.reduceLE, reduceIte, aresults, aresult, hp0, hl2, textsL, List.length_map, g1, g0, str_eq, hlo, hszI, ga, hc5I, hsl, hat, hp, endT, c_inoInt] at hx; (try (rw [guardL_if] at hx; split at hx <;> rename_i hc)))); all_goals (subst hx; first | (refine ⟨_, rfl, fun ht => ?_, fun ht => ?_⟩ <;> (try simp only [bbs, beq_iff_eq, bne_iff_ne, ne_eq] at ht)) | (refine ⟨_, rfl, ?_⟩; (try simp only [tupOf])))) | refine wSkip ?_ | (refine wExit ?_; simp only [thenQ, blockQ, reduceIte, Nat.reduceEqDiff]) | refine wSeq ?_ | refine wBlock ?_)
    all_goals (refine ⟨?_, rfl⟩; rw [e.1, e.2]; rfl)
  · have e := sv_no (hsv2.trans (num_small_no fun m hm _ _ => by rw [hp] at hm; cases hm))
    repeat' (first | ((first | refine wSeqr (fun xx hx => ?_) | refine wIf (fun xx hx => ?_) | refine wReg (fun xx hx => ?_) | (refine wRet ?_; (try simp only [thenQ, blockQ]); refine ends_by (fun xx hx => ?_))); have hc := trivial; (repeat' (simp only [hc, Nat.reduceBEq, go_sem, Nat.reduceAdd, Nat.reduceMul, Nat.reduceSub, Nat.reduceEqDiff, Nat.reduceLT, Nat.reduceLeDiff, Int.reduceEq, Int.reduceLT, Int.reduceLE, reduceIte, aresults, aresult, hp0, hl2, textsL, List.length_map, g1, g0, str_eq, hlo, hszI, ga, hc5I, hsl, hat, hp, endT, c_inoInt] at hx; (try (rw [guardL_if] at hx; split at hx <;> rename_i hc)))); all_goals (subst hx; first | (refine ⟨_, rfl, fun ht => ?_, fun ht => ?_⟩ <;> (try simp only [bbs, beq_iff_eq, bne_iff_ne, ne_eq] at ht)) | (refine ⟨_, rfl, ?_⟩; (try simp only [tupOf])))) | refine wSkip ?_ | (refine wExit ?_; simp only [thenQ, blockQ, reduceIte, Nat.reduceEqDiff]) | refine wSeq ?_ | refine wBlock ?_)
    all_goals (refine ⟨?_, rfl⟩; rw [e.1, e.2]; rfl)
theorem c_iServiceOf (l : List ByteArray) (hk : ∀ z ∈ l, z.size ≤ 1048576) : ∀ H, call Tryd.prog cfg0 0 10 [textsL l] H = some (.agg [.v (.int .i64 (svC l)), .v (.int .i64 (svV l))], H) :=
  call_fz Tryd.func10 rfl ok_iServiceOf rfl (by simp only [fz_cons, fz_nil, go_sem, and_self]) (p_iServiceOf l hk)

end
end Go.Proofs.YtepnlhjafgomgaaDoor
