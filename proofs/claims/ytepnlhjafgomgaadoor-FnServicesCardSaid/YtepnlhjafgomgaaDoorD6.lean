/- Contracts: ServiceOf, both sides. -/
import Derived.Test.YtepnlhjafgomgaaDoorD3
namespace Go.Proofs.YtepnlhjafgomgaaDoor
open Go Go.RowKit Go.Proofs.YtepnlhjafgomgaaDoor.Eng
set_option linter.unusedSimpArgs false
set_option linter.unusedVariables false
set_option maxRecDepth 100000
set_option maxHeartbeats 1000000
noncomputable section
def localB : ByteArray := ⟨#[108, 111, 99, 97, 108]⟩
def tailOf (a : ByteArray) : List UInt8 := a.data.toList.tail
def svOk (l : List ByteArray) : Bool := match l with
  | [a, b] => decide (b.data.toList = [108, 111, 99, 97, 108]) && decide (a.data.toList.head? = some 115)
  | _ => false
def svNum (l : List ByteArray) : List UInt8 := match l with
  | a :: _ => tailOf a
  | _ => []
def svOf (l : List ByteArray) : Int := if svOk l = true then numOf 2 (svNum l) else -1
theorem extract_list (a : ByteArray) (l h : Nat) : (a.extract l h).data.toList = (a.data.toList.drop l).take (h - l) := by
  rw [ByteArray.data_extract, Array.toList_extract]
theorem extract_tail (a : ByteArray) : (a.extract 1 a.size).data.toList = tailOf a := by
  rw [extract_list, size_toList]
  unfold tailOf
  rw [List.drop_one, List.take_of_length_le]
  rw [List.length_tail]; exact Nat.le_refl _
theorem slice_tail {a : ByteArray} (h : 1 ≤ a.size) (e : Env) (H : Hp) : aslice Tryd.prog H e 9 (.v (.string a)) (some (.const (.int .i64 1))) none none = some (.v (.string (a.extract 1 a.size))) := by
  simp only [aslice, u9, Option.isSome_none, Bool.false_eq_true, if_false, bound, opd_int, natOf]
  rw [if_pos (by omega)]
  simp only [Option.bind_some]
  rw [if_pos ⟨by simpa using h, Nat.le_refl _⟩]; rfl
theorem ok_sl10Service : fnOk Tryd.prog cfg0 29 Tryd.f29 = true := by kernel_rfl
theorem p_sl10Service (l : List ByteArray) : pure Tryd.prog cfg0 29 Tryd.f29 [textsL l] = some (.v (.int .i64 (svOf l)), true) := by
  refine pure_wp (rs := [.tmp 2]) rfl rfl ?_
  have hp0 : ∀ b, cfg0.pol 29 b = 0 := fun b => rfl
  by_cases hl2 : (l.length : Int) = 2
  rotate_left
  · have hno : svOf l = -1 := by
      unfold svOf
      rw [if_neg]
      match l, hl2 with
      | [], _ => simp [svOk]
      | [a], _ => simp [svOk]
      | [a, b], h => exact absurd rfl h
      | a :: b :: c :: r, _ => simp [svOk]
    repeat' (first | ((first | refine wSeqr (fun xx hx => ?_) | refine wIf (fun xx hx => ?_) | refine wReg (fun xx hx => ?_) | (refine wRet ?_; (try simp only [thenQ, blockQ]); refine ends_by (fun xx hx => ?_))); have hc := trivial; (repeat' (simp only [hc, Nat.reduceBEq, go_sem, Nat.reduceAdd, Nat.reduceMul, Nat.reduceSub, Nat.reduceEqDiff, Nat.reduceLT, Nat.reduceLeDiff, Int.reduceEq, Int.reduceLT, Int.reduceLE, reduceIte, aresults, aresult, hp0, hl2] at hx; (try (rw [guardL_if] at hx; split at hx <;> rename_i hc)))); all_goals (subst hx; first | (refine ⟨_, rfl, fun ht => ?_, fun ht => ?_⟩ <;> (try simp only [bbs, beq_iff_eq, bne_iff_ne, ne_eq] at ht)) | (refine ⟨_, rfl, ?_⟩; (try simp only [tupOf])))) | refine wSkip ?_ | (refine wExit ?_; simp only [thenQ, blockQ, reduceIte, Nat.reduceEqDiff]) | refine wSeq ?_ | refine wBlock ?_)
    all_goals (refine gives_intv ?_; rw [hno])
  obtain ⟨a, b, hab⟩ : ∃ a b, l = [a, b] := by
    match l, hl2 with
    | [a, b], _ => exact ⟨a, b, rfl⟩
    | [], h => simp at h
    | [a], h => simp at h
    | a :: b :: c :: r, h => simp only [List.length_cons] at h; omega
  have g1 : (l.map fun s => [AV.v (.string s)])[1]? = some [.v (.string b)] := get_text (by rw [hab]; rfl)
  have g0 : (l.map fun s => [AV.v (.string s)])[0]? = some [.v (.string a)] := get_text (by rw [hab]; rfl)
  by_cases hlo : b.data.toList = [108, 111, 99, 97, 108]
  rotate_left
  · have hno : svOf l = -1 := by
      unfold svOf; rw [if_neg]; rw [hab]; simp [svOk, hlo]
    repeat' (first | ((first | refine wSeqr (fun xx hx => ?_) | refine wIf (fun xx hx => ?_) | refine wReg (fun xx hx => ?_) | (refine wRet ?_; (try simp only [thenQ, blockQ]); refine ends_by (fun xx hx => ?_))); have hc := trivial; (repeat' (simp only [hc, Nat.reduceBEq, go_sem, Nat.reduceAdd, Nat.reduceMul, Nat.reduceSub, Nat.reduceEqDiff, Nat.reduceLT, Nat.reduceLeDiff, Int.reduceEq, Int.reduceLT, Int.reduceLE, reduceIte, aresults, aresult, hp0, hl2, textsL, List.length_map, g1, g0, str_eq, hlo] at hx; (try (rw [guardL_if] at hx; split at hx <;> rename_i hc)))); all_goals (subst hx; first | (refine ⟨_, rfl, fun ht => ?_, fun ht => ?_⟩ <;> (try simp only [bbs, beq_iff_eq, bne_iff_ne, ne_eq] at ht)) | (refine ⟨_, rfl, ?_⟩; (try simp only [tupOf])))) | refine wSkip ?_ | (refine wExit ?_; simp only [thenQ, blockQ, reduceIte, Nat.reduceEqDiff]) | refine wSeq ?_ | refine wBlock ?_)
    all_goals (refine gives_intv ?_; rw [hno])
  have hz := size_toList a
  generalize hla : a.data.toList = la at hz
  have hsv : svOf l = if la.head? = some 115 then numOf 2 la.tail else -1 := by
    unfold svOf svNum tailOf; rw [hab]; simp only [svOk, hlo, hla, decide_true, Bool.true_and, decide_eq_true_eq]
  by_cases hsz : la.length < 2
  · have hno : svOf l = -1 := by
      rw [hsv]; split
      · unfold numOf; rw [if_neg]
        rintro ⟨h1, -⟩
        have : la.tail = [] := List.length_eq_zero_iff.1 (by rw [List.length_tail]; omega)
        rw [this] at h1; simp [canon] at h1
      · rfl
    have hszI : (a.size : Int) < 2 := by omega
    repeat' (first | ((first | refine wSeqr (fun xx hx => ?_) | refine wIf (fun xx hx => ?_) | refine wReg (fun xx hx => ?_) | (refine wRet ?_; (try simp only [thenQ, blockQ]); refine ends_by (fun xx hx => ?_))); have hc := trivial; (repeat' (simp only [hc, Nat.reduceBEq, go_sem, Nat.reduceAdd, Nat.reduceMul, Nat.reduceSub, Nat.reduceEqDiff, Nat.reduceLT, Nat.reduceLeDiff, Int.reduceEq, Int.reduceLT, Int.reduceLE, reduceIte, aresults, aresult, hp0, hl2, textsL, List.length_map, g1, g0, str_eq, hlo, hszI] at hx; (try (rw [guardL_if] at hx; split at hx <;> rename_i hc)))); all_goals (subst hx; first | (refine ⟨_, rfl, fun ht => ?_, fun ht => ?_⟩ <;> (try simp only [bbs, beq_iff_eq, bne_iff_ne, ne_eq] at ht)) | (refine ⟨_, rfl, ?_⟩; (try simp only [tupOf])))) | refine wSkip ?_ | (refine wExit ?_; simp only [thenQ, blockQ, reduceIte, Nat.reduceEqDiff]) | refine wSeq ?_ | refine wBlock ?_)
    all_goals (refine gives_intv ?_; rw [hno])
  by_cases hs3 : 3 < la.length
  · have hno : svOf l = -1 := by
      rw [hsv]; split
      · unfold numOf; rw [if_neg]
        rintro ⟨-, h1⟩
        rw [List.length_tail] at h1; omega
      · rfl
    have hszI : ¬ (a.size : Int) < 2 := by omega
    have hs3I : 3 < (a.size : Int) := by omega
    repeat' (first | ((first | refine wSeqr (fun xx hx => ?_) | refine wIf (fun xx hx => ?_) | refine wReg (fun xx hx => ?_) | (refine wRet ?_; (try simp only [thenQ, blockQ]); refine ends_by (fun xx hx => ?_))); have hc := trivial; (repeat' (simp only [hc, Nat.reduceBEq, go_sem, Nat.reduceAdd, Nat.reduceMul, Nat.reduceSub, Nat.reduceEqDiff, Nat.reduceLT, Nat.reduceLeDiff, Int.reduceEq, Int.reduceLT, Int.reduceLE, reduceIte, aresults, aresult, hp0, hl2, textsL, List.length_map, g1, g0, str_eq, hlo, hszI, hs3I] at hx; (try (rw [guardL_if] at hx; split at hx <;> rename_i hc)))); all_goals (subst hx; first | (refine ⟨_, rfl, fun ht => ?_, fun ht => ?_⟩ <;> (try simp only [bbs, beq_iff_eq, bne_iff_ne, ne_eq] at ht)) | (refine ⟨_, rfl, ?_⟩; (try simp only [tupOf])))) | refine wSkip ?_ | (refine wExit ?_; simp only [thenQ, blockQ, reduceIte, Nat.reduceEqDiff]) | refine wSeq ?_ | refine wBlock ?_)
    all_goals (refine gives_intv ?_; rw [hno])
  have hszI : ¬ (a.size : Int) < 2 := by omega
  have hs3I : ¬ 3 < (a.size : Int) := by omega
  obtain ⟨c, r, hcr⟩ : ∃ c r, la = c :: r := by
    cases la with
    | nil => simp at hsz
    | cons c r => exact ⟨c, r, rfl⟩
  have ga : a.data.toList[0]? = some c := by rw [hla, hcr]; rfl
  by_cases hc5 : c = 115
  rotate_left
  · have hno : svOf l = -1 := by
      rw [hsv, hcr]; simp [hc5]
    have hc5I : ¬ (c.toNat : Int) = 115 := by
      intro h; exact hc5 (UInt8.toNat_inj.1 (by have : (115 : UInt8).toNat = 115 := rfl; omega))
    repeat' (first | ((first | refine wSeqr (fun xx hx => ?_) | refine wIf (fun xx hx => ?_) | refine wReg (fun xx hx => ?_) | (refine wRet ?_; (try simp only [thenQ, blockQ]); refine ends_by (fun xx hx => ?_))); have hc := trivial; (repeat' (simp only [hc, Nat.reduceBEq, go_sem, Nat.reduceAdd, Nat.reduceMul, Nat.reduceSub, Nat.reduceEqDiff, Nat.reduceLT, Nat.reduceLeDiff, Int.reduceEq, Int.reduceLT, Int.reduceLE, reduceIte, aresults, aresult, hp0, hl2, textsL, List.length_map, g1, g0, str_eq, hlo, hszI, hs3I, ga, hc5I] at hx; (try (rw [guardL_if] at hx; split at hx <;> rename_i hc)))); all_goals (subst hx; first | (refine ⟨_, rfl, fun ht => ?_, fun ht => ?_⟩ <;> (try simp only [bbs, beq_iff_eq, bne_iff_ne, ne_eq] at ht)) | (refine ⟨_, rfl, ?_⟩; (try simp only [tupOf])))) | refine wSkip ?_ | (refine wExit ?_; simp only [thenQ, blockQ, reduceIte, Nat.reduceEqDiff]) | refine wSeq ?_ | refine wBlock ?_)
    all_goals (refine gives_intv ?_; rw [hno])
  have hc5I : (c.toNat : Int) = 115 := by rw [hc5]; rfl
  have hsv2 : svOf l = numOf 2 r := by rw [hsv, hcr, hc5]; rfl
  have hrl : r.length + 1 = la.length := by rw [hcr]; rfl
  obtain ⟨d, r2, hdr⟩ : ∃ d r2, r = d :: r2 := by
    cases r with
    | nil => simp at hrl; omega
    | cons c r => exact ⟨c, r, rfl⟩
  have gb : a.data.toList[1]? = some d := by rw [hla, hcr, hdr]; rfl
  by_cases h03 : la.length = 3 ∧ d = 48
  · have hno : svOf l = -1 := by
      rw [hsv2]; unfold numOf; rw [if_neg]
      rw [hdr]; exact canon0 h03.2 (by rw [hdr] at hrl; simp only [List.length_cons] at hrl; omega)
    have e3 : (a.size : Int) = 3 := by omega
    have e48 : (d.toNat : Int) = 48 := by rw [h03.2]; rfl
    repeat' (first | ((first | refine wSeqr (fun xx hx => ?_) | refine wIf (fun xx hx => ?_) | refine wReg (fun xx hx => ?_) | (refine wRet ?_; (try simp only [thenQ, blockQ]); refine ends_by (fun xx hx => ?_))); have hc := trivial; (repeat' (simp only [hc, Nat.reduceBEq, go_sem, Nat.reduceAdd, Nat.reduceMul, Nat.reduceSub, Nat.reduceEqDiff, Nat.reduceLT, Nat.reduceLeDiff, Int.reduceEq, Int.reduceLT, Int.reduceLE, reduceIte, aresults, aresult, hp0, hl2, textsL, List.length_map, g1, g0, str_eq, hlo, hszI, hs3I, ga, hc5I, gb, e3, e48] at hx; (try (rw [guardL_if] at hx; split at hx <;> rename_i hc)))); all_goals (subst hx; first | (refine ⟨_, rfl, fun ht => ?_, fun ht => ?_⟩ <;> (try simp only [bbs, beq_iff_eq, bne_iff_ne, ne_eq] at ht)) | (refine ⟨_, rfl, ?_⟩; (try simp only [tupOf])))) | refine wSkip ?_ | (refine wExit ?_; simp only [thenQ, blockQ, reduceIte, Nat.reduceEqDiff]) | refine wSeq ?_ | refine wBlock ?_)
    all_goals (refine gives_intv ?_; rw [hno])
  have hcan : r.length ≤ 1 ∨ r.head? ≠ some 48 := by
    by_cases h3 : la.length = 3
    · right; intro h; rw [hdr] at h; simp at h; exact h03 ⟨h3, h⟩
    · left; omega
  have hd48 : (d.toNat : Int) = 48 → d = 48 := by
    intro h; exact UInt8.toNat_inj.1 (by have : (48 : UInt8).toNat = 48 := rfl; omega)
  repeat' (first | ((first | refine wSeqr (fun xx hx => ?_) | refine wIf (fun xx hx => ?_) | refine wReg (fun xx hx => ?_) | (refine wRet ?_; (try simp only [thenQ, blockQ]); refine ends_by (fun xx hx => ?_))); have hc := trivial; (repeat' (simp only [hc, Nat.reduceBEq, go_sem, Nat.reduceAdd, Nat.reduceMul, Nat.reduceSub, Nat.reduceEqDiff, Nat.reduceLT, Nat.reduceLeDiff, Int.reduceEq, Int.reduceLT, Int.reduceLE, reduceIte, aresults, aresult, hp0, hl2, textsL, List.length_map, g1, g0, str_eq, hlo, hszI, hs3I, ga, hc5I, gb] at hx; (try (rw [guardL_if] at hx; split at hx <;> rename_i hc)))); all_goals (subst hx; first | (refine ⟨_, rfl, fun ht => ?_, fun ht => ?_⟩ <;> (try simp only [bbs, beq_iff_eq, bne_iff_ne, ne_eq] at ht)) | (refine ⟨_, rfl, ?_⟩; (try simp only [tupOf])))) | refine wSkip ?_ | (refine wExit ?_; simp only [thenQ, blockQ, reduceIte, Nat.reduceEqDiff]) | refine wSeq ?_ | refine wBlock ?_)
  all_goals (try simp only [bbs, beq_iff_eq, bne_iff_ne, ne_eq] at *)
  all_goals try (exfalso; first | omega | exact absurd trivial (by assumption) | (have q1 := hd48 (by assumption); exact h03 ⟨by omega, q1⟩))
  all_goals
    refine wLoop (fun k s => ∃ (j : Nat), j + k = r.length ∧ s.1 0 = textsL l ∧ s.1 3 = .v (.string a) ∧ s.1 4 = .v (.int .i64 ((vdA 0 (r.take j) : Nat) : Int)) ∧ s.1 5 = .v (.int .i64 ((j + 1 : Nat) : Int)) ∧ ((r.take j).all isDg = true)) (fun k s hI => ?_) (r.length) _ ?_
    · obtain ⟨e, H⟩ := s
      obtain ⟨j, hj, h0, h3, h4, h5, hd⟩ := hI
      simp only at h0 h3 h4 h5 hd
      have hv := vdA_lt _ 0 hd
      have hv2 : vdA 0 (r.take j) < 100 := by
        have : 10 ^ (r.take j).length ≤ 10 ^ 2 := Nat.pow_le_pow_right (by decide) (by simp only [List.length_take]; omega)
        omega
      by_cases hlt : j < r.length
      · obtain ⟨k, hg, hdr', hm⟩ := at_drop hlt
        have hg' : a.data.toList[j + 1]? = some k := by rw [hla, hcr]; simpa using hg
        have hk := UInt8.toNat_lt k
        have htk : r.take (j + 1) = r.take j ++ [k] := by
          rw [List.take_add_one, hg]; rfl
        by_cases hdg : isDg k = true
        · have hdg' := hdg
          simp only [isDg, decide_eq_true_eq] at hdg'
          have w1 : IntKind.wrap .u8 ((k.toNat : Int) - 48) = (k.toNat : Int) - 48 := wrap_u8 (by omega) (by omega)
          have w2 : IntKind.wrap .i64 ((k.toNat : Int) - 48) = (k.toNat : Int) - 48 := wrap_i64 (by omega) (by omega)
          have w3 : IntKind.wrap .i64 ((vdA 0 (r.take j) : Nat) * 10 : Int) = ((vdA 0 (r.take j) : Nat) * 10 : Int) := wrap_i64 (by omega) (by omega)
          have w4 : IntKind.wrap .i64 (((vdA 0 (r.take j) : Nat) : Int) * 10 + ((k.toNat : Int) - 48)) = ((vdA 0 (r.take (j + 1)) : Nat) : Int) := by
            rw [wrap_i64 (by omega) (by omega), htk, vdA_snoc]; omega
          repeat' (first | ((first | refine wSeqr (fun xx hx => ?_) | refine wIf (fun xx hx => ?_) | refine wReg (fun xx hx => ?_) | (refine wRet ?_; (try simp only [thenQ, blockQ]); refine ends_by (fun xx hx => ?_))); have hc := trivial; (repeat' (simp only [hc, Nat.reduceBEq, go_sem, Nat.reduceAdd, Nat.reduceMul, Nat.reduceSub, Nat.reduceEqDiff, Nat.reduceLT, Nat.reduceLeDiff, Int.reduceEq, Int.reduceLT, Int.reduceLE, reduceIte, aresults, aresult, h0, h3, h4, h5, hp0, hg', w1, w2, w3, w4, wrap_succ (show j + 1 < 9223372036854775807 by omega)] at hx; (try (rw [guardL_if] at hx; split at hx <;> rename_i hc)))); all_goals (subst hx; first | (refine ⟨_, rfl, fun ht => ?_, fun ht => ?_⟩ <;> (try simp only [bbs, beq_iff_eq, bne_iff_ne, ne_eq] at ht)) | (refine ⟨_, rfl, ?_⟩; (try simp only [tupOf])))) | refine wSkip ?_ | (refine wExit ?_; simp only [thenQ, blockQ, reduceIte, Nat.reduceEqDiff]) | refine wSeq ?_ | refine wBlock ?_)
          all_goals first
            | (exfalso; (try simp only [bbs, beq_iff_eq, bne_iff_ne, ne_eq] at *); omega)
            | skip
          refine ⟨_, Nat.sub_lt (by omega) Nat.one_pos, j + 1, by omega, by simp only [upd_eq, Nat.reduceEqDiff, if_false, if_true, h0, h3, h4, h5], by simp only [upd_eq, Nat.reduceEqDiff, if_false, if_true, h0, h3, h4, h5], by simp only [upd_eq, Nat.reduceEqDiff, if_false, if_true, h0, h3, h4, h5], by simp only [upd_eq, Nat.reduceEqDiff, if_false, if_true, h0, h3, h4, h5], ?_⟩
          rw [htk, List.all_append, hd]; simp [hdg]
        · have hcf : canon r = false := canon_nd hm (by simpa using hdg)
          have hdg' : ¬ (48 ≤ k.toNat ∧ k.toNat ≤ 57) := by simpa [isDg] using hdg
          repeat' (first | ((first | refine wSeqr (fun xx hx => ?_) | refine wIf (fun xx hx => ?_) | refine wReg (fun xx hx => ?_) | (refine wRet ?_; (try simp only [thenQ, blockQ]); refine ends_by (fun xx hx => ?_))); have hc := trivial; (repeat' (simp only [hc, Nat.reduceBEq, go_sem, Nat.reduceAdd, Nat.reduceMul, Nat.reduceSub, Nat.reduceEqDiff, Nat.reduceLT, Nat.reduceLeDiff, Int.reduceEq, Int.reduceLT, Int.reduceLE, reduceIte, aresults, aresult, h0, h3, h4, h5, hp0, hg'] at hx; (try (rw [guardL_if] at hx; split at hx <;> rename_i hc)))); all_goals (subst hx; first | (refine ⟨_, rfl, fun ht => ?_, fun ht => ?_⟩ <;> (try simp only [bbs, beq_iff_eq, bne_iff_ne, ne_eq] at ht)) | (refine ⟨_, rfl, ?_⟩; (try simp only [tupOf])))) | refine wSkip ?_ | (refine wExit ?_; simp only [thenQ, blockQ, reduceIte, Nat.reduceEqDiff]) | refine wSeq ?_ | refine wBlock ?_)
          all_goals first
            | (refine gives_intv ?_; rw [hsv2, numOf_nd hcf]; done)
            | (exfalso; (try simp only [bbs, beq_iff_eq, bne_iff_ne, ne_eq] at *); omega)
      · have hj' : j = r.length := by omega
        repeat' (first | ((first | refine wSeqr (fun xx hx => ?_) | refine wIf (fun xx hx => ?_) | refine wReg (fun xx hx => ?_) | (refine wRet ?_; (try simp only [thenQ, blockQ]); refine ends_by (fun xx hx => ?_))); have hc := trivial; (repeat' (simp only [hc, Nat.reduceBEq, go_sem, Nat.reduceAdd, Nat.reduceMul, Nat.reduceSub, Nat.reduceEqDiff, Nat.reduceLT, Nat.reduceLeDiff, Int.reduceEq, Int.reduceLT, Int.reduceLE, reduceIte, aresults, aresult, h0, h3, h4, h5, hp0] at hx; (try (rw [guardL_if] at hx; split at hx <;> rename_i hc)))); all_goals (subst hx; first | (refine ⟨_, rfl, fun ht => ?_, fun ht => ?_⟩ <;> (try simp only [bbs, beq_iff_eq, bne_iff_ne, ne_eq] at ht)) | (refine ⟨_, rfl, ?_⟩; (try simp only [tupOf])))) | refine wSkip ?_ | (refine wExit ?_; simp only [thenQ, blockQ, reduceIte, Nat.reduceEqDiff]) | refine wSeq ?_ | refine wBlock ?_)
        all_goals first
          | (exfalso; (try simp only [bbs, beq_iff_eq, bne_iff_ne, ne_eq] at *); omega)
          | skip
        refine gives_intv ?_
        rw [hj', List.take_length] at hd ⊢
        rw [hsv2]; unfold numOf
        rw [if_pos]
        exact ⟨canon_of (by rw [hdr]; simp) hd hcan, by omega⟩
    · refine ⟨0, by omega, rfl, rfl, rfl, rfl, ?_⟩
      rfl
theorem c_sl10Service (l : List ByteArray) : ∀ H, call Tryd.prog cfg0 0 29 [textsL l] H = some (.v (.int .i64 (svOf l)), H) :=
  call_fz Tryd.func29 rfl ok_sl10Service rfl (by simp only [fz_cons, fz_nil, go_sem, and_self]) (p_sl10Service l)

end
end Go.Proofs.YtepnlhjafgomgaaDoor
